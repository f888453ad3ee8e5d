/-
  Part 17 of the proof of BinarizeParseRoundTripUpto: the logic over the model, the functions' contracts and the plain laws.
-/
import Derived.Test.YtdgibngbooghfaaNw16
import Derived.RangeFuncRecord

set_option linter.unusedSimpArgs false
set_option linter.unusedVariables false
set_option linter.unusedSectionVars false
set_option linter.defProp false

namespace Go.Lg
open Go.RowKit
section
variable {P : Program} {Γ : Cx} {A : Nat → Prop} {ρ : Nat → Option Nat} {s : St} {a : Act} {w : World}
theorem SRa.viewL {xs ys : List AV} {os : List AObj} (l : List Nat) {us : Array Value} (h : SRa Γ (fun id => id < s.objs.length) ρ s a w)
    (hsz : us.size = xs.length) (hrv : ∀ (i : Nat) x v, xs[i]? = some x → us[i]? = some v → RV (fun id => id < s.objs.length) ρ (Im Γ ρ s w) w x v) (hL : Lend l s xs ys os) :
    ∃ Γ' : Cx, Γ'.m = os.length ∧ Γ'.w0 = w ∧ Γ'.ds = [] ∧ Γ'.mrk = false ∧ (∀ b, Γ'.I0 b → Im Γ ρ s w b ∨ ∃ j, j < l.length ∧ ρ (ap l j) = some b) ∧ (∀ j, Γ'.ρ0 j = ρ (ap l j)) ∧ SR Γ' ⟨ys, os.map some⟩ ⟨us, []⟩ w ∧
      ∀ (objs' : List (Option AObj)) w' (r : AV) (v : Value), os.length ≤ objs'.length → SR Γ' ⟨[r], objs'⟩ ⟨#[v], []⟩ w' →
        ∃ ρn, SRa Γ (fun id => id < (updO (apx s.objs.length l) s.objs l objs').length) ρn ⟨s.tmps, updO (apx s.objs.length l) s.objs l objs'⟩ a w' ∧ ∀ id, id < s.objs.length → ρn id = ρ id := by
  obtain ⟨h1, h2, h3, h5, h6⟩ := hL
  have hm : os.length = l.length := by simpa using wkRO_len h2
  have hlive : ∀ j o, os[j]? = some o → s.live (ap l j) (o.ren (ap l)) := fun j o ho => wkRO_get h2 j o (by simp [ho])
  have hlive' : ∀ j, j < l.length → ∃ o, s.live (ap l j) o := fun j hj => ⟨_, hlive j _ (List.getElem?_eq_getElem (by omega))⟩
  have hlt : ∀ j, j < l.length → ap l j < s.objs.length := fun j hj => wkRO_lt h2 j hj
  have happ : ∀ j, j < l.length → ap l j ∈ l := fun j hj => by simp [ap, List.getD, List.getElem?_eq_getElem hj]
  let Γ' : Cx := ⟨w, fun b => Im Γ ρ s w b ∨ ∃ j, j < l.length ∧ ρ (ap l j) = some b, os.length, fun j => ρ (ap l j), h.fr.next.1, h.fr.next.2, fun j hj b hb => by
    obtain ⟨o, ho⟩ := hlive' j (by omega)
    rcases h.own _ o b ho hb with q | ⟨i, hi, q⟩
    · exact Nat.le_trans Γ.hgl q
    · exact Γ.hext i hi b q, [], fun j hj b hb => .inl (.inr ⟨j, by omega, hb⟩), false⟩
  have hst : ∀ id o, St.live ⟨ys, os.map some⟩ id o → os[id]? = some o := fun id o hl => by
    unfold St.live at hl
    simp only [List.getElem?_map, Option.map_eq_some_iff] at hl
    obtain ⟨x, hx, hxo⟩ := hl
    injection hxo with hxo; subst hxo; exact hx
  have hI0 : ∀ b, Im Γ ρ s w b → Im Γ' (fun j => ρ (ap l j)) ⟨ys, os.map some⟩ w b ∧ w.heap[b]? = w.heap[b]? := fun b hb => ⟨⟨.inl (.inl hb), hb.2.1, fun id o hl => hb.2.2 _ _ (hlive id o (hst id o hl))⟩, rfl⟩
  have h0 : SR Γ' ⟨ys, os.map some⟩ ⟨us, []⟩ w := by
    refine ⟨fun j => ρ (ap l j), fun i hi => ⟨by simpa using hi, rfl⟩, by simp only; rw [hsz, wkR_len h1], ?_, fun id o hl => ?_, fun id o hl => (List.getElem?_eq_some_iff.1 hl).1, fun _ hid => hid, fun id o b hl hb => .inr ⟨id, (List.getElem?_eq_some_iff.1 (hst id o hl)).1, hb⟩, fun i j o o' b g1 g2 g3 g4 => ?_, .nil rfl, ⟨Nat.le_refl _, rfl, rfl, rfl, fun _ _ _ => rfl, fun _ _ hn => hn⟩⟩
    · intro i y v hy hu
      simp only at hy hu
      have hi : i < xs.length := by rw [← wkR_len h1]; exact (List.getElem?_eq_some_iff.1 hy).1
      have hx := List.getElem?_eq_getElem hi
      rcases wkR_get h1 i _ y hx hy with rfl | hxy
      · exact .any
      · have := (hrv i _ v hx hu).unren (π := ap l) (n := os.length) (ρ' := fun j => ρ (ap l j)) (fun _ _ => rfl) hI0 (fun _ _ hn => hn) hxy (bdL_iff.1 h5 _ (List.mem_of_getElem? hy))
        simpa using this
    · have := (h.obj _ _ (hlive id o (hst id o hl))).unren (π := ap l) (n := os.length) (ρ' := fun j => ρ (ap l j)) (fun _ _ => rfl) hI0 (fun _ _ hn => hn) (fun _ _ => rfl) (by have := bdO_get h6 id o (by simp [hst id o hl]); cases o <;> exact this)
      simpa using this
    · have e := h.inj _ _ _ _ b (hlive i o (hst i o g1)) (hlive j o' (hst j o' g2)) g3 g4
      have hi := (List.getElem?_eq_some_iff.1 (hst i o g1)).1
      have hj := (List.getElem?_eq_some_iff.1 (hst j o' g2)).1
      rw [hm] at hi hj
      simp only [ap, List.getD, List.getElem?_eq_getElem hi, List.getElem?_eq_getElem hj, Option.getD_some] at e
      exact (List.getElem_inj h3).1 e
  refine ⟨Γ', rfl, rfl, rfl, rfl, fun _ hb => hb, fun _ => rfl, h0, ?_⟩
  rintro objs' w' r rv hle ⟨ρ'', hs'⟩
  have hfr := hs'.fr
  have hext : ∀ j, j < l.length → ρ'' j = ρ (ap l j) := fun j hj => (hs'.ext j (by simp only [Γ']; omega)).2
  generalize hs2 : (⟨s.tmps, updO (apx s.objs.length l) s.objs l objs'⟩ : St) = s2
  let ρn : Nat → Option Nat := fun id => if id < s.objs.length then ρ id else ρ'' (id - s.objs.length + l.length)
  have hρold : ∀ id, id < s.objs.length → ρn id = ρ id := fun id hid => if_pos hid
  have hρnew : ∀ j, ρn (apx s.objs.length l j) = ρ'' j := fun j => by
    unfold apx
    split
    · rename_i hj; rw [hρold _ (hlt j hj)]; exact (hext j hj).symm
    · rename_i hj
      simp only [ρn]
      rw [if_neg (by omega)]
      congr 1; omega
  have hn2 : s2.objs.length = s.objs.length + (objs'.length - l.length) := by rw [← hs2]; exact updO_len (by omega)
  have hapx : ∀ j, j < objs'.length → apx s.objs.length l j < s2.objs.length := fun j hj => by
    rw [hn2]; unfold apx
    split
    · rename_i h; have := hlt j h; omega
    · omega
  have cases2 : ∀ id o, s2.live id o → (id < s.objs.length ∧ s.live id o ∧ id ∉ l) ∨ ∃ j o0, St.live ⟨[r], objs'⟩ j o0 ∧ o = o0.ren (apx s.objs.length l) ∧ id = apx s.objs.length l j := by
    intro id o ho
    rw [← hs2] at ho
    exact updO_get (os := objs') (show l.length ≤ objs'.length by omega) (fun j i hi => by
      have hj := (List.getElem?_eq_some_iff.1 hi).1
      have := hlt j hj
      simpa [ap, List.getD, hi] using this) h3 ho
  have hblk : ∀ b, b < w.heap.size → (∀ j, j < l.length → ρ (ap l j) ≠ some b) → w'.heap[b]? = w.heap[b]? := fun b hb hne => hfr.block b hb (fun i hi => hne i (by simp only [Γ'] at hi; omega))
  have hIold : ∀ b, Im Γ ρ s w b → Im Γ ρn s2 w' b ∧ w'.heap[b]? = w.heap[b]? := by
    rintro b ⟨g1, g2, g3⟩
    refine ⟨⟨g1, Nat.lt_of_lt_of_le g2 hfr.size, fun id o ho => ?_⟩, hblk b g2 fun j hj => ?_⟩
    · rcases cases2 id o ho with ⟨c1, c2, _⟩ | ⟨j, o0, c1, _, rfl⟩
      · rw [hρold id c1]; exact g3 id o c2
      · rw [hρnew]
        intro hb
        rcases hs'.own j o0 b c1 hb with q | ⟨i, hi, q⟩
        · simp only [Γ'] at q; omega
        · simp only [Γ'] at hi q
          obtain ⟨o', ho'⟩ := hlive' i (by omega)
          exact g3 _ _ ho' q
    · obtain ⟨o', ho'⟩ := hlive' j hj
      exact g3 _ _ ho'
  have hInew : ∀ b, Im Γ' ρ'' ⟨[r], objs'⟩ w' b → Im Γ ρn s2 w' b ∧ w'.heap[b]? = w'.heap[b]? := by
    rintro b ⟨g1, g2, g3⟩
    refine ⟨⟨?_, g2, fun id o ho => ?_⟩, rfl⟩
    · rcases g1 with (g1 | ⟨j1, q1, q2⟩) | g1
      · exact g1.1
      · obtain ⟨o', ho'⟩ := hlive' j1 q1
        rcases h.own _ o' b ho' q2 with q | ⟨i, hi, q⟩
        · exact .inr q
        · exact Γ.hin i hi b q
      · exact .inr (Nat.le_trans h.fr.size g1)
    · rcases cases2 id o ho with ⟨c1, c2, c3⟩ | ⟨j, o0, c1, _, rfl⟩
      · rw [hρold id c1]
        intro hb
        have := live_block h c2 hb
        rcases g1 with (g1 | ⟨j1, q1, q2⟩) | g1
        · exact g1.2.2 id o c2 hb
        · obtain ⟨o', ho'⟩ := hlive' j1 q1
          have := h.inj _ _ _ _ b c2 ho' hb q2
          exact c3 (this ▸ happ j1 q1)
        · simp only [Γ'] at g1; omega
      · rw [hρnew]; exact g3 j o0 c1
  have hown : ∀ j o0 b, St.live ⟨[r], objs'⟩ j o0 → ρ'' j = some b → w.heap.size ≤ b ∨ ∃ i, i < l.length ∧ ρ (ap l i) = some b := fun j o0 b c1 hb => by
    rcases hs'.own j o0 b c1 hb with q | ⟨i, hi, q⟩
    · exact .inl q
    · exact .inr ⟨i, by simp only [Γ'] at hi; omega, q⟩
  have hw' : SRa Γ (fun id => id < s2.objs.length) ρn s2 a w' := by
    refine ⟨fun i hi => ?_, by rw [← hs2]; exact h.len, ?_, ?_, fun id o ho => (List.getElem?_eq_some_iff.1 ho).1, fun _ hid => hid, ?_, ?_, h.defers.mono hIold, h.fr.turn hfr.size hfr.os hfr.tape hfr.output ?_ hfr.csize⟩
    · have g := h.ext i hi
      exact ⟨by have := g.1; omega, (hρold i g.1).trans g.2⟩
    · intro i x u hx hu
      exact (h.tmp i x u (by rw [← hs2] at hx; exact hx) hu).mono (fun id hid => ⟨by omega, hρold id hid⟩) hIold hfr.csize
    · intro id o ho
      rcases cases2 id o ho with ⟨c1, c2, c3⟩ | ⟨j, o0, c1, rfl, rfl⟩
      · rw [hρold id c1]
        refine (h.obj id o c2).mono (fun id hid => ⟨by omega, hρold id hid⟩) hIold hfr.csize fun c hc => hblk c (live_block h c2 hc) fun j hj hj' => ?_
        obtain ⟨o', ho'⟩ := hlive' j hj
        have := h.inj _ _ _ _ c c2 ho' hc hj'
        exact c3 (this ▸ happ j hj)
      · rw [hρnew]
        exact (hs'.obj j o0 c1).reren (fun id hid => ⟨hapx id hid, hρnew id⟩) hInew (fun _ _ hn => hn) (fun _ _ => rfl)
    · intro id o b ho hb
      rcases cases2 id o ho with ⟨c1, c2, c3⟩ | ⟨j, o0, c1, rfl, rfl⟩
      · rw [hρold id c1] at hb; exact h.own id o b c2 hb
      · rw [hρnew] at hb
        rcases hown j o0 b c1 hb with q | ⟨i, hi, q⟩
        · exact .inl (Nat.le_trans h.fr.size q)
        · obtain ⟨o', ho'⟩ := hlive' i hi
          exact h.own _ _ b ho' q
    · have mix : ∀ id o b j o0, s.live id o → id ∉ l → ρ id = some b → St.live ⟨[r], objs'⟩ j o0 → ρ'' j = some b → False := by
        intro id o b j o0 c2 c3 hb c1 hb'
        rcases hown j o0 b c1 hb' with q | ⟨i, hi, q⟩
        · have := live_block h c2 hb; omega
        · obtain ⟨o', ho'⟩ := hlive' i hi
          have := h.inj _ _ _ _ b c2 ho' hb q
          exact c3 (this ▸ happ i hi)
      intro id id' o o' b ho ho' hb hb'
      rcases cases2 id o ho with ⟨c1, c2, c3⟩ | ⟨j, o0, c1, rfl, rfl⟩ <;> rcases cases2 id' o' ho' with ⟨d1, d2, d3⟩ | ⟨j', o0', d1, rfl, rfl⟩
      · rw [hρold id c1] at hb; rw [hρold id' d1] at hb'
        exact h.inj _ _ _ _ b c2 d2 hb hb'
      · rw [hρold id c1] at hb; rw [hρnew] at hb'
        exact (mix _ _ _ _ _ c2 c3 hb d1 hb').elim
      · rw [hρnew] at hb; rw [hρold id' d1] at hb'
        exact (mix _ _ _ _ _ d2 d3 hb' c1 hb).elim
      · rw [hρnew] at hb hb'
        rw [hs'.inj _ _ _ _ b c1 d1 hb hb']
    · intro b hb
      by_cases hj : ∃ j, j < l.length ∧ ρ (ap l j) = some b
      · obtain ⟨j, hj, hjb⟩ := hj
        obtain ⟨o', ho'⟩ := hlive' j hj
        exact .inr (h.own _ _ b ho' hjb)
      · exact .inl (hblk b hb fun j hj' he => hj ⟨j, hj', he⟩)
  subst hs2
  exact ⟨ρn, hw', hρold⟩
def Cx.off (Γ : Cx) (b : Nat) (o : Obj) (hb : GL ≤ b) : Cx :=
  { Γ with w0 := Γ.w0.putObj b o, hG := GW_loc (fun c hc => World.putObj_heap_other (by omega)) Γ.hG, hgl := by simpa using Γ.hgl, hin := fun i hi c hc => by simpa using Γ.hin i hi c hc }
theorem SRa.off (h : SRa Γ A ρ s a w) {b : Nat} {o : Obj} (hb : GL ≤ b) (hI : ¬ Γ.I0 b) (hlt : b < Γ.w0.heap.size) (hρ : ∀ i, i < Γ.m → Γ.ρ0 i ≠ some b) (hc0 : csize Γ.w0 b = none) (hco : ∀ c t p, o ≠ .cells c t p) : SRa (Γ.off b o hb) A ρ s a (w.putObj b o) := by
  have hne : ∀ c, Im Γ ρ s w c → c ≠ b := fun c hc e => by
    subst e
    rcases hc.1 with h1 | h1
    · exact hI h1
    · omega
  have hcw : csize w b = none := by
    have hh := h.fr.block b hlt hρ
    unfold csize at *
    rw [hh]; exact hc0
  have hcb : csize (w.putObj b o) b = none := by
    unfold csize
    rw [World.putObj_heap_same (Nat.lt_of_lt_of_le hlt h.fr.size)]
    cases o <;> first | rfl | exact absurd rfl (hco _ _ _)
  have hImE : ∀ c, Im Γ ρ s w c → Im (Γ.off b o hb) ρ s (w.putObj b o) c ∧ (w.putObj b o).heap[c]? = w.heap[c]? := fun c hc =>
    ⟨⟨by have := hc.1; simpa [Cx.off] using this, by simpa using hc.2.1, hc.2.2⟩, World.putObj_heap_other (hne c hc)⟩
  have hsz : ∀ c n, csize w c = some n → csize (w.putObj b o) c = some n := fun c n hn => by
    have hcb : c ≠ b := fun e => by subst e; rw [hcw] at hn; cases hn
    unfold csize at *
    rw [World.putObj_heap_other hcb]; exact hn
  refine ⟨h.ext, h.len, fun i x v hx hv => (h.tmp i x v hx hv).mono (fun _ hA => ⟨hA, rfl⟩) hImE hsz, fun id o' hl => (h.obj id o' hl).mono (fun _ hA => ⟨hA, rfl⟩) hImE hsz fun c hc => World.putObj_heap_other ?_, h.made, h.bound,
    fun id o' c hl hc => by have := h.own id o' c hl hc; simpa [Cx.off] using this, h.inj, ?_, ?_⟩
  · intro e
    subst e
    rcases h.own id o' c hl hc with h1 | ⟨i, hi, h1⟩
    · omega
    · exact hρ i hi h1
  · obtain ⟨h1, Ds, h2, hn, h3⟩ := h.defers
    exact ⟨h1, Ds, h2, hn, fun D hD => ⟨by simpa [Cx.off] using (h3 D hD).1, (hImE D (h3 D hD).2.1).1, (hImE D (h3 D hD).2.1).2.trans (h3 D hD).2.2⟩⟩
  · refine ⟨by simpa [Cx.off] using h.fr.size, h.fr.os, h.fr.tape, h.fr.output, fun c hc hcn => ?_, fun c n hn => ?_⟩
    · simp only [Cx.off, World.putObj_size] at hc
      by_cases e : c = b
      · subst e
        simp only [Cx.off]
        rw [World.putObj_heap_same (Nat.lt_of_lt_of_le hlt h.fr.size), World.putObj_heap_same hlt]
      · simp only [Cx.off]
        rw [World.putObj_heap_other e, World.putObj_heap_other e]
        exact h.fr.block c hc hcn
    · by_cases e : c = b
      · subst e
        simp only [Cx.off, csize] at hn
        rw [World.putObj_heap_same hlt] at hn
        cases o <;> first | exact absurd rfl (hco _ _ _) | cases hn
      · refine hsz c n (h.fr.csize c n ?_)
        simp only [Cx.off, csize] at hn ⊢
        rw [World.putObj_heap_other e] at hn; exact hn
theorem Cx.off_back {b : Nat} {o o' : Obj} {hb : GL ≤ b} (h : Γ.w0.heap[b]? = some o) : (Γ.off b o' hb).off b o hb = Γ := by
  have e : (Γ.w0.putObj b o').putObj b o = Γ.w0 := by
    have hl := World.lt_of_block h
    have e1 : ((Γ.w0.putObj b o').putObj b o).heap = Γ.w0.heap := by
      apply Array.ext (by simp)
      intro i h1 h2
      simp only [World.putObj]
      by_cases e : i = b
      · subst e
        rw [Array.getElem_setIfInBounds_self]
        have := (Array.getElem?_eq_some_iff.1 h).2
        exact this.symm
      · rw [Array.getElem_setIfInBounds_ne _ (fun q => e q.symm), Array.getElem_setIfInBounds_ne _ (fun q => e q.symm)]
        simpa using h2
    cases hw : Γ.w0
    rw [hw] at e1
    simp only [World.putObj] at e1 ⊢
    simp [e1]
  cases Γ
  simp only [Cx.off] at e ⊢
  congr
structure RoundC (P : Program) (c : LoopC) (ys : List AV) (os : List AObj) (os' : List (Option AObj)) : Prop where
  st : c.state = .ready
  pe : c.pending = none
  len : os.length ≤ os'.length
  ex : ∃ Mid : St → Prop, (∀ (Γ : Cx) (k : Nat), Γ.m = os.length → WPI P Γ k c.assign (fun e s => e = .normal ∧ Mid s) ⟨ys, os.map some⟩) ∧
    ∀ (Γ : Cx) (k : Nat) (s : St), Γ.m = os.length → Mid s → WPI P Γ k c.body (fun e s => e = .normal ∧ ∃ is, ToR os.length is ⟨[], s.objs⟩ ⟨[], os'⟩) s
theorem RoundC.run {c : LoopC} {ys : List AV} {os : List AObj} {os' : List (Option AObj)} (hR : RoundC P c ys os os') {r : Option Nat} {f : FuncId} {b : Nat} {rec : Loop} {us : Array Value} (hm : Γ.m = os.length) (hds : Γ.ds = []) (hk : Γ.mrk = false)
    (hs : SR Γ ⟨ys, os.map some⟩ ⟨us, []⟩ Γ.w0) (hrec : Γ.w0.heap[b]? = some (.loop rec)) (h1 : rec.state = .ready) (h2 : rec.pending = none) (hI : ¬ Γ.I0 b) (hρ : ∀ i, i < Γ.m → Γ.ρ0 i ≠ some b) (hb : GL ≤ b) :
    RoundIn (FW r) 0 P b f us c.assign c.body Γ.w0 fun e w' => e = .returned (.bool true) ∧ SR Γ ⟨[.any], os'⟩ ⟨#[undef], []⟩ w' := by
  obtain ⟨Mid, ha, hbd⟩ := hR.ex
  have hlt := World.lt_of_block hrec
  have hc0 : csize Γ.w0 b = none := by unfold csize; rw [hrec]
  refine roundIn_of_wpIn (F := FW r) trivial ?_
  have ha' : c.assign.wpIn (FW (some b)) 0 P _ ⟨us, []⟩ Γ.w0 := ha Γ b hm _ _ hs
  refine wpIn_mono (F := FW (some b)) ha' ?_
  rintro e a1 w1 ⟨s1, ⟨rfl, hmid⟩, ρ1, hs1⟩
  have hb1 : w1.heap[b]? = some (.loop rec) := (hs1.fr.block b hlt hρ).trans hrec
  refine ⟨_, run_beginRound hb1 h1, ?_⟩
  have hs2 := hs1.off hb hI hlt hρ hc0 (o := .loop { rec with state := .busy }) (fun _ _ _ => by simp)
  have hbd' : c.body.wpIn (FW (some b)) 0 P _ a1 _ := hbd (Γ.off b _ hb) b s1 hm hmid _ _ ⟨ρ1, hs2⟩
  refine wpIn_mono (F := FW (some b)) hbd' ?_
  rintro e a2 w2 ⟨s2, ⟨rfl, is, hT⟩, ρ2, hs3⟩
  have hb2 : w2.heap[b]? = some (.loop { rec with state := .busy }) := by
    refine (hs3.fr.block b (by simpa [Cx.off] using hlt) hρ).trans ?_
    simp only [Cx.off]; exact World.putObj_heap_same hlt
  refine ⟨_, _, run_endRound none hb2, rfl, ?_⟩
  have e0 : ({ ({ rec with state := .busy } : Loop) with state := if (none : Option Code).isNone then .ready else .done, pending := none } : Loop) = rec := by
    cases rec; simp only at h1 h2; subst h1 h2; rfl
  rw [e0]
  have hs4 := hs3.off (b := b) (o := .loop rec) hb (by simpa [Cx.off] using hI) (by simpa [Cx.off] using hlt) hρ (by simp only [Cx.off, csize]; rw [World.putObj_heap_same hlt]) (fun _ _ _ => by simp)
  rw [Cx.off_back hrec] at hs4
  have hd2 : a2.defers = [] := (hs4.defers.eq hk).trans hds
  have h5 : SR Γ ⟨[.any], s2.objs⟩ ⟨#[undef], []⟩ (w2.putObj b (.loop rec)) := SR.result ⟨ρ2, hs4⟩ hds fun _ _ => .any
  obtain ⟨t1, t2, t3, t4, t5, t6, t7⟩ := hT
  exact h5.toR (l := is) (by rw [hm]; exact ⟨by simp [wkR, AV.ren], t2, t3, t4, by simp [bdL, AV.bd], t6, t7⟩)
def putP (ts : List AV) (l : List (Tmp × AV)) : List AV := l.foldl (fun ts p => ts.set p.1 p.2) ts
theorem putP_len : ∀ (l : List (Tmp × AV)) (ts : List AV), (putP ts l).length = ts.length
  | [], ts => rfl
  | p :: l, ts => by simp only [putP, List.foldl_cons]; exact (putP_len l _).trans (by simp)
theorem putP_ok {B : AV → Value → Prop} : ∀ (ps : List Tmp) (xs : List AV) (vs : List Value) (ts : List AV) (tm : Array Value), ps.length = xs.length → xs.length = vs.length → ts.length = tm.size →
    (∀ (i : Nat) x v, xs[i]? = some x → vs[i]? = some v → B x v) → (∀ (i : Nat) x v, ts[i]? = some x → tm[i]? = some v → B x v) →
    ((ps.zip vs).foldl (fun t (q : Tmp × Value) => t.setIfInBounds q.1 q.2) tm).size = ts.length ∧ ∀ (i : Nat) x v, (putP ts (ps.zip xs))[i]? = some x → ((ps.zip vs).foldl (fun t (q : Tmp × Value) => t.setIfInBounds q.1 q.2) tm)[i]? = some v → B x v
  | [], xs, vs, ts, tm, _, _, h3, _, h5 => ⟨by simp [h3], by simpa [putP] using h5⟩
  | p :: ps, x :: xs, v :: vs, ts, tm, h1, h2, h3, h4, h5 => by
    have ih := putP_ok (B := B) ps xs vs (ts.set p x) (tm.setIfInBounds p v) (by simpa using h1) (by simpa using h2) (by simpa using h3) (fun i y u hy hu => h4 (i + 1) y u (by simpa using hy) (by simpa using hu)) (fun i y u hy hu => by
      by_cases e : p = i
      · subst e
        rw [List.getElem?_set] at hy
        rw [Array.getElem?_setIfInBounds] at hu
        simp only [if_true] at hy hu
        split at hy
        · rename_i q
          rw [if_pos (by omega)] at hu
          injection hy with hy; injection hu with hu
          subst hy hu
          exact h4 0 _ _ rfl rfl
        · cases hy
      · rw [List.getElem?_set_ne e] at hy
        rw [Array.getElem?_setIfInBounds_ne e] at hu
        exact h5 i y u hy hu)
    refine ⟨by simpa using ih.1, fun i y u hy hu => ih.2 i y u (by simpa [putP] using hy) (by simpa using hu)⟩
  | _ :: _, [], _, _, _, h1, _, _, _, _ => by simp at h1
  | _ :: _, _ :: _, [], _, _, _, h2, _, _, _ => by simp at h2
theorem run_ofYield {b : Nat} {vs : Array Value} : (do let d ← Deferred.ofValue (.func (.yield b) #[] #[]) vs; invoke d.target d.args : Sem Next).run P w = (Instr.yield b vs).run P w := by
  first
  | rfl
  | simp [Deferred.ofValue, invoke]
theorem wpli_yield {r : Option Nat} {ops : Array Oper} {rest : List Oper} {Q : Exit → St → Prop} {f : Operand} {args : Array Operand} {tys : Array TypeId} {dst : Option Tmp} {ty : TypeId} {pos : String} {af : Array Edge} {id : Nat} {c : LoopC} {ts xs ys : List AV} {os : List AObj} {os' : List (Option AObj)} (l : List Nat)
    (hf : s.op f = .yld id) (ho : s.live id (.lop c ts)) (hx : args.toList.map s.op = xs) (hp : c.params.size = args.size) (hid : id ∉ l) (hL : Lend l s (putP ts (c.params.toList.zip xs)) ys os) (hR : RoundC P c ys os os')
    (hn : WPLI P Γ r ops rest Q ((⟨s.tmps, updO (apx s.objs.length l) s.objs l os'⟩ : St).put dst (.val (.bool true)))) :
    WPLI P Γ r ops (⟨dst, .call ⟨.value f, args, tys⟩, ty, pos, af, none⟩ :: rest) Q s := by
  rintro a w ⟨ρ, h⟩
  have hfv := h.eval f
  rw [hf] at hfv
  obtain ⟨b, hρ, hav⟩ : ∃ b, ρ id = some b ∧ a.eval f = .func (.yield b) #[] #[] := by
    generalize a.eval f = v at hfv
    cases hfv with
    | yld _ hb => exact ⟨_, hb, rfl⟩
  have hob := h.obj id _ ho
  rw [hρ] at hob
  obtain ⟨tm, df, hrec, htl, htr⟩ := hob
  have hvs : ∀ (i : Nat) x v, xs[i]? = some x → (args.toList.map a.eval)[i]? = some v → RV (fun id => id < s.objs.length) ρ (Im Γ ρ s w) w x v := fun i x v hx' hv => by
    subst hx
    simp only [List.getElem?_map, Option.map_eq_some_iff] at hx' hv
    obtain ⟨p, hp, rfl⟩ := hx'
    obtain ⟨q, hq, rfl⟩ := hv
    rw [hp] at hq; injection hq with hq; subst hq
    exact h.eval p
  have hxl : xs.length = args.size := by rw [← hx]; simp
  have hput := putP_ok (B := RV (fun id => id < s.objs.length) ρ (Im Γ ρ s w) w) c.params.toList xs (args.toList.map a.eval) ts tm (by simp [hxl, hp]) (by simp [hxl]) htl hvs htr
  generalize hus : (c.params.toList.zip (args.toList.map a.eval)).foldl (fun t (q : Tmp × Value) => t.setIfInBounds q.1 q.2) tm = us at hput
  obtain ⟨Γ', g1, g2, g3, g4, g5, g6, g7, hback⟩ := h.viewL l (us := us) (xs := putP ts (c.params.toList.zip xs)) (by rw [putP_len]; exact hput.1) hput.2 hL
  have hlen : os.length = l.length := by have := wkRO_len hL.2.1; simpa using this
  have hlen' := hR.len
  have hlj : ∀ j, j < l.length → ρ (ap l j) ≠ some b := fun j hj e => by
    have hlo := wkRO_get hL.2.1 j (os[j]'(by omega)) (by simp [List.getElem?_eq_getElem (show j < os.length by omega)])
    have := h.inj _ _ _ _ b hlo ho e hρ
    exact hid (this ▸ by simp [ap, List.getD, List.getElem?_eq_getElem hj])
  have hround := hR.run (Γ := Γ') (r := r) (f := c.fn) (b := b) (us := us) g1 g3 g4 (by rw [g2]; exact g7) (by rw [g2]; exact hrec) hR.st hR.pe (fun hI => by
      rcases g5 b hI with q | ⟨j, hj, q⟩
      · exact q.2.2 id _ ho hρ
      · exact hlj j hj q) (fun i hi => by rw [g6]; exact hlj i (by omega)) (by
      rcases h.own id _ b ho hρ with q | ⟨i, hi, q⟩
      · exact Nat.le_trans Γ.hgl q
      · exact Γ.hext i hi b q)
  rw [g2] at hround
  simp only [wpListIn]
  rw [if_pos (by simp [Region.wanted])]
  refine ⟨fun _ _ => trivial, ?_⟩
  have hsem : (Oper.semAt (FW r).round a.eval (⟨dst, .call ⟨.value f, args, tys⟩, ty, pos, af, none⟩ : Oper)).run P w = .ok (.round b c.fn us c.assign c.body) w := by
    rw [Oper.semAt_eq _ _ _ (by intro c0; simp)]
    have e1 : (args.map a.eval) = (args.toList.map a.eval).toArray := by apply Array.ext'; simp
    have e2 : (execOp a.eval (⟨dst, .call ⟨.value f, args, tys⟩, ty, pos, af, none⟩ : Oper)).run P w = (do let d ← Deferred.ofValue (a.eval f) (args.toList.map a.eval).toArray; invoke d.target d.args : Sem Next).run P w := by
      simp only [execOp, resolve, e1]
    rw [e2, hav, run_ofYield, run_yield hrec (by simp [hp]), ← hus]
    congr 2
    rw [← Array.foldl_toList]
    simp
  rw [hsem]
  refine ⟨fun hh => by simp [FW, Fence.wide] at hh, hround.mono ?_⟩
  rintro e w' ⟨rfl, hs'⟩
  have hb := hback _ _ _ _ (by omega) hs'
  refine hn _ _ ?_
  obtain ⟨ρ', hb, _⟩ := hb
  exact ⟨ρ', by have := hb.put dst (x := .val (.bool true)) (v := .bool true) (.val rfl); simpa using this⟩
end
end Go.Lg

namespace Go.Lg
open Go.RowKit
section
variable {P : Program} {Γ : Cx} {A : Nat → Prop} {ρ : Nat → Option Nat} {s : St} {a : Act} {w : World}
theorem SRa.live_lt (h : SRa Γ A ρ s a w) {id : Nat} {o : AObj} {b : Nat} (hl : s.live id o) (e : ρ id = some b) : b < w.heap.size := by
  have ho := h.obj id o hl
  rw [e] at ho
  cases o with
  | arr k es => obtain ⟨cs, t, h1, _⟩ := ho; exact World.lt_of_block h1
  | map m => obtain ⟨cs, t, h1, _⟩ := ho; exact World.lt_of_block h1
  | bytes l => obtain ⟨cs, h1, _⟩ := ho; exact World.lt_of_block h1
  | bld T x => obtain ⟨p, v, h1, _⟩ := ho; exact World.lt_of_block h1
  | lop c ts => obtain ⟨tm, df, h1, _⟩ := ho; exact World.lt_of_block h1
theorem SRa.mark (h : SRa Γ A ρ s a w) (hk : Γ.mrk = true) : SRa Γ A ρ s { a with defers := mkD w.heap.size :: a.defers } (w.alloc (.deferred (some []))) := by
  have hd0 := h.same' (w' := w.alloc (.deferred (some []))) (by simp) rfl rfl rfl (fun b hb => Below.heap_alloc w _ b hb)
  refine ⟨hd0.ext, hd0.len, hd0.tmp, hd0.obj, hd0.made, hd0.bound, hd0.own, hd0.inj, ?_, hd0.fr⟩
  obtain ⟨_, Ds, h1, hn, h2⟩ := h.defers
  refine ⟨(fun e => by rw [hk] at e; cases e), w.heap.size :: Ds, (by rw [h1]; rfl), ?_, fun E hE => ?_⟩
  · refine List.nodup_cons.2 ⟨fun hm => ?_, hn⟩
    have := (h2 _ hm).2.1.2.1
    omega
  · rcases List.mem_cons.1 hE with rfl | hE
    · exact ⟨h.fr.size, ⟨.inr h.fr.size, by simp, fun id o hl e => by have := h.live_lt hl e; omega⟩, heap_alloc_new w _⟩
    · have := h2 E hE
      exact ⟨this.1, ⟨this.2.1.1, by have := this.2.1.2.1; simp; omega, this.2.1.2.2⟩, (Below.heap_alloc w _ E this.2.1.2.1).trans this.2.2⟩
theorem SRa.over (h : SRa Γ A ρ s a w) {id b : Nat} {c : LoopC} {ts : List AV} (ho : s.live id (.lop c ts)) (hb : ρ id = some b) (rec : Loop) : SRa Γ A ρ (s.set id none) a (w.putObj b (.loop rec)) := by
  have hob := h.obj id _ ho
  rw [hb] at hob
  obtain ⟨tm, df, hrec, _, _⟩ := hob
  have hlt := World.lt_of_block hrec
  have hI : ∀ c, Im Γ ρ s w c → Im Γ ρ (s.set id none) (w.putObj b (.loop rec)) c ∧ (w.putObj b (.loop rec)).heap[c]? = w.heap[c]? := fun c hc =>
    ⟨⟨hc.1, by simpa using hc.2.1, fun i o hl => hc.2.2 i o (St.live_kill hl).2⟩, World.putObj_heap_other fun e => by subst e; exact hc.2.2 id _ ho hb⟩
  have hs : ∀ c n, csize w c = some n → csize (w.putObj b (.loop rec)) c = some n := fun c n hn => by
    have hcb : c ≠ b := fun e => by subst e; unfold csize at hn; rw [hrec] at hn; cases hn
    unfold csize at *
    rw [World.putObj_heap_other hcb]; exact hn
  refine h.turn rfl (fun i hi => ⟨hi, rfl⟩) hI hs (fun i o hl => ?_) (fun i o hl => h.made i o (St.live_kill hl).2) (fun i hi => by simpa using h.bound i hi) (fun i o b' hl hb' => h.own i o b' (St.live_kill hl).2 hb')
    (fun i j o o' b' hl hl' => h.inj i j o o' b' (St.live_kill hl).2 (St.live_kill hl').2) ?_
  · obtain ⟨hne, hl'⟩ := St.live_kill hl
    exact (h.obj i o hl').mono (fun i hi => ⟨hi, rfl⟩) hI hs fun d hd => World.putObj_heap_other fun e => by subst e; exact hne (h.inj _ _ _ _ _ hl' ho hd hb)
  · refine h.fr.turn (by simp) rfl rfl rfl (fun d hd => ?_) hs
    by_cases e : d = b
    · subst e; exact .inr (h.own id _ d ho hb)
    · exact .inl (World.putObj_heap_other e)
theorem wp_range {g : Operand} {ps : Array Tmp} {assign body : Code} {gf : FuncId} {first cap ys : List AV} {os : FuncId → List AObj} {Q : Exit → St → Prop} (hk : Γ.mrk = true) (he : enterable P gf = true) (hg : s.op g = .clo (.func gf) first cap) (l : List Nat) (j : Nat) (ts0 ts' : List AV) (h0l : ts0.length = s.tmps.length) (h0s : ∀ (i : Nat) (x : AV), ts0[i]? = some x → x = AV.any ∨ s.tmps[i]? = some x) (post : FuncId → AV → List (Option AObj) → Prop)
    (hj : ap l j = s.objs.length) (hjl : j < l.length)
    (hspec : ∀ fn, Spec P gf ys ((os fn).map some) (post fn))
    (hL : ∀ fn, Lend l ⟨s.tmps, s.objs ++ [some (.lop { fn, params := ps, assign, body } ts0)]⟩ (first ++ [.yld s.objs.length] ++ cap) ys (os fn))
    (hK : ∀ fn r objs', post fn r objs' → (os fn).length ≤ objs'.length ∧ objs'[j]? = some (some (.lop { fn, params := ps, assign, body } ts')) ∧
      (∃ c ts, (updO (apx (s.objs.length + 1) l) (s.objs ++ [some (.lop { fn, params := ps, assign, body } ts0)]) l objs')[s.objs.length]? = some (some (.lop c ts))) ∧
      Q .normal ⟨s.tmps, (updO (apx (s.objs.length + 1) l) (s.objs ++ [some (.lop { fn, params := ps, assign, body } ts0)]) l objs').set s.objs.length none⟩) :
    WP P Γ (.rangeFunc g ps assign body) Q s := by
  rintro a w ⟨ρ, h⟩
  refine wpIn_wide.1 (wpIn_rangeFunc (F := Fence.wide) (n := 0) fun fn _ => ?_)
  have hmark := h.mark hk
  have hroom := hmark.room
  have hnew := hroom.new (nid := s.objs.length) (by simp) (fun hh => Nat.lt_irrefl _ hh) (o := .lop { fn, params := ps, assign, body } ts0)
    (ob := .loop { state := .ready, pending := none, fn, tmps := a.tmps, params := ps, assign, body, defers := w.heap.size }) (fun A' ρ' I' hA hI => by
      refine ⟨a.tmps, w.heap.size, heap_alloc_new _ _, h0l.trans h.len.symm, fun i x v hx hv => ?_⟩
      rcases h0s i x hx with rfl | hx
      · exact .any
      · exact (hroom.tmp i x v hx hv).mono hA hI (csize_alloc _ _))
  have e1 : ({ s with objs := s.objs ++ [none] } : St).set s.objs.length (some (.lop { fn, params := ps, assign, body } ts0)) = ⟨s.tmps, s.objs ++ [some (.lop { fn, params := ps, assign, body } ts0)]⟩ := by simp [St.set]
  rw [e1] at hnew
  have eA : (fun i => i < s.objs.length ∨ i = s.objs.length) = fun i => i < (s.objs ++ [some (AObj.lop { fn, params := ps, assign, body } ts0)]).length := by
    funext i; simp; omega
  rw [eA] at hnew
  generalize hρ1 : (fun i => if i = s.objs.length then some (w.alloc (.deferred (some []))).heap.size else ρ i) = ρ1 at hnew
  have hρk : ρ1 s.objs.length = some (w.heap.size + 1) := by rw [← hρ1]; simp
  generalize hw1 : (w.alloc (.deferred (some []))).alloc (.loop { state := .ready, pending := none, fn, tmps := a.tmps, params := ps, assign, body, defers := w.heap.size }) = w1 at hnew
  have hgv := hnew.eval g
  have hop : (⟨s.tmps, s.objs ++ [some (.lop { fn, params := ps, assign, body } ts0)]⟩ : St).op g = s.op g := rfl
  rw [hop, hg] at hgv
  obtain ⟨us, hrun, hsz, hrv⟩ := call_args he hgv (args := [.yld s.objs.length]) (vs := [.func (.yield (w.heap.size + 1)) #[] #[]]) rfl (fun i x v hx hv => by
    cases i with
    | zero => simp at hx hv; subst hx hv; exact .yld (by simp) hρk
    | succ i => simp at hx)
  obtain ⟨Γ', g1, g2, g3, g4, g5, g6, g7, hback⟩ := hnew.viewL l hsz hrv (hL fn)
  have hr1 := hrun w1
  rw [Sem.run_bind] at hr1
  have hcall := (hspec fn).2 Γ' us ⟨by rw [g1]; simp, g4⟩ (by rw [g2]; exact g7)
  rw [g2] at hcall
  have hee : a.eval g = ({ a with defers := mkD w.heap.size :: a.defers } : Act).eval g := rfl
  cases hd : (Deferred.ofValue (({ a with defers := mkD w.heap.size :: a.defers } : Act).eval g) #[.func (.yield (w.heap.size + 1)) #[] #[]]).run P w1 with
  | halt e w2 => rw [show ([Value.func (.yield (w.heap.size + 1)) #[] #[]].toArray) = #[Value.func (.yield (w.heap.size + 1)) #[] #[]] from rfl, hd] at hr1; simp [Result.andThen] at hr1
  | ok d w2 =>
    rw [show ([Value.func (.yield (w.heap.size + 1)) #[] #[]].toArray) = #[Value.func (.yield (w.heap.size + 1)) #[] #[]] from rfl, hd] at hr1
    simp only [Result.andThen] at hr1
    refine ⟨w.heap.size + 1, [{ target := .collected w.heap.size, args := #[] }], w1, d, w2, gf, us, w1, by rw [← hw1]; exact run_enterLoop_outer _ _ _ _ _, ?_, fun _ _ => trivial, hr1, fun hh => by simp [Fence.wide] at hh, ?_⟩
    · rw [← hd]
      first
      | rfl
      | simp [resolve, rangeCall, Act.eval]
    · refine callsIn_wide.2 (hcall.mono ?_)
      rintro e w3 ⟨r, objs', v, rfl, hp, hs3⟩
      obtain ⟨k1, k2, ⟨c, ts, k4⟩, k3⟩ := hK fn r objs' hp
      obtain ⟨ρ3, hs3'⟩ := hs3
      obtain ⟨ρn, hb, hold⟩ := hback objs' w3 r v k1 ⟨ρ3, hs3'⟩
      have hkb : ρn s.objs.length = some (w.heap.size + 1) := (hold _ (by simp)).trans hρk
      have hm : (os fn).length = l.length := by have := wkRO_len (hL fn).2.1; simpa using this
      have hob := hs3'.obj j _ k2
      rw [(hs3'.ext j (by rw [g1]; omega)).2, g6, hj, hρk] at hob
      obtain ⟨tm, df, hrec, _, _⟩ := hob
      have hrec' := hrec
      have hend := run_endLoop (P := P) hrec (by simp)
      refine ⟨_, _, hend, ?_⟩
      refine ⟨_, k3, ρn, ?_⟩
      have := hb.over (id := s.objs.length) (c := c) (ts := ts) (by unfold St.live; simpa using k4) hkb { state := .exhausted, pending := none, fn := fn, tmps := tm, params := ps, assign := assign, body := body, defers := df }
      simpa [St.set, mkD] using this
end
end Go.Lg

namespace Go.Lg
open Go.RowKit
section
variable {P : Program} {Γ : Cx} {A : Nat → Prop} {ρ : Nat → Option Nat} {I : Nat → Prop} {s : St} {a : Act} {w w' : World}
theorem RV.book (hc : ∀ p v, w.cell? p = some v → w'.cell? p = some v) (hs : ∀ b n, csize w b = some n → csize w' b = some n) {x : AV} {v : Value} (h : RV A ρ I w x v) : RV A ρ I w' x v := by
  induction h with
  | any => exact .any
  | val h => exact .val h
  | agg hl ha _ ih => exact .agg hl ha ih
  | tup hl _ ih => exact .tup hl ih
  | nils => exact .nils
  | sl f hn hb hk h1 ha _ ih => exact .sl f hn hb hk (fun j hj => hc _ _ (h1 j hj)) ha ih
  | ref h hb hl hcs hm => exact .ref h hb hl (hs _ _ hcs) hm
  | refn h hb => exact .refn h hb
  | ptr h hb => exact .ptr h hb
  | iptr f hb h1 ha _ ih => exact .iptr f hb (fun i hi => hc _ _ (h1 i hi)) ha ih
  | clo h1 h2 _ _ ih3 ih4 => exact .clo h1 h2 ih3 ih4
  | map h hb => exact .map h hb
  | yld h hb => exact .yld h hb
  | cond _ h2 ih => exact .cond ih h2
theorem ORb.book (hc : ∀ p v, w.cell? p = some v → w'.cell? p = some v) (hs : ∀ b n, csize w b = some n → csize w' b = some n) {b : Nat} (hb : w'.heap[b]? = w.heap[b]?) {o : AObj} (h : ORb A ρ I w b o) : ORb A ρ I w' b o := by
  cases o with
  | arr k es =>
    obtain ⟨cs, t, h1, h2, h3, h4, h5⟩ := h
    exact ⟨cs, t, hb.trans h1, h2, h3, h4, fun j x v hx hv => (h5 j x v hx hv).book hc hs⟩
  | map m =>
    obtain ⟨es, c, h1, h2, h3⟩ := h
    exact ⟨es, c, hb.trans h1, h2, fun j e p he hp => ⟨(h3 j e p he hp).1, (h3 j e p he hp).2.book hc hs⟩⟩
  | bytes l =>
    obtain ⟨cs, h1, h2, h3⟩ := h
    exact ⟨cs, hb.trans h1, h2, h3⟩
  | bld T x =>
    obtain ⟨p, v, h1, h2, h3, h4⟩ := h
    exact ⟨p, v, hb.trans h1, h2, h3, h4.book hc hs⟩
  | lop c ts =>
    obtain ⟨tm, df, h1, h2, h3⟩ := h
    exact ⟨tm, df, hb.trans h1, h2, fun i x v hx hv => (h3 i x v hx hv).book hc hs⟩
theorem SRa.shut {D : Nat} {Ds : List Nat} (h : SRa Γ A ρ s a w) (hk : Γ.mrk = true) (hd : a.defers = (D :: Ds).map mkD ++ Γ.ds) (hn : (D :: Ds).Nodup) (hD : ∀ E, E ∈ D :: Ds → Γ.w0.heap.size ≤ E ∧ Im Γ ρ s w E ∧ w.heap[E]? = some (.deferred (some []))) :
    SRa Γ A ρ s { a with defers := Ds.map mkD ++ Γ.ds } (w.putObj D (.deferred none)) ∧ ∀ E, E ∈ Ds → Γ.w0.heap.size ≤ E ∧ Im Γ ρ s (w.putObj D (.deferred none)) E ∧ (w.putObj D (.deferred none)).heap[E]? = some (.deferred (some [])) := by
  obtain ⟨h1, h2, h3⟩ := hD D List.mem_cons_self
  have hlt := World.lt_of_block h3
  have hc : ∀ p v, w.cell? p = some v → (w.putObj D (.deferred none)).cell? p = some v := fun p v hp => by
    unfold World.cell? at *
    by_cases e : p.block = D
    · rw [e, h3] at hp; cases hp
    · rw [World.putObj_heap_other e]; exact hp
  have hs : ∀ b n, csize w b = some n → csize (w.putObj D (.deferred none)) b = some n := fun b n hb => by
    unfold csize at *
    by_cases e : b = D
    · rw [e, h3] at hb; cases hb
    · rw [World.putObj_heap_other e]; exact hb
  have hI : Im Γ ρ s (w.putObj D (.deferred none)) = Im Γ ρ s w := by funext b; simp [Im]
  have hE : ∀ E, E ∈ Ds → Γ.w0.heap.size ≤ E ∧ Im Γ ρ s (w.putObj D (.deferred none)) E ∧ (w.putObj D (.deferred none)).heap[E]? = some (.deferred (some [])) := fun E hE => by
    obtain ⟨k1, k2, k3⟩ := hD E (List.mem_cons_of_mem _ hE)
    refine ⟨k1, by rw [hI]; exact k2, ?_⟩
    rw [World.putObj_heap_other fun e => by subst e; exact (List.nodup_cons.1 hn).1 hE]; exact k3
  refine ⟨⟨h.ext, h.len, fun i x v hx hv => by rw [hI]; exact (h.tmp i x v hx hv).book hc hs, fun id o hl => ?_, h.made, h.bound, h.own, h.inj, ⟨(fun e => by rw [hk] at e; cases e), Ds, rfl, (List.nodup_cons.1 hn).2, hE⟩, ?_⟩, hE⟩
  · have ho := h.obj id o hl
    rw [hI]
    cases hb : ρ id with
    | none => rw [hb] at ho; exact ho
    | some b =>
      rw [hb] at ho
      exact ORb.book hc hs (World.putObj_heap_other fun e => by subst e; exact h2.2.2 id o hl hb) ho
  · refine ⟨by simpa using h.fr.size, h.fr.os, h.fr.tape, h.fr.output, fun b hb hbn => ?_, fun b n hb => hs b n (h.fr.csize b n hb)⟩
    rw [World.putObj_heap_other (by omega)]; exact h.fr.block b hb hbn
theorem SRa.leave {fn : Func} {R : Ending → World → Prop} (hk : Γ.mrk = true) (hds : Γ.ds = []) : ∀ (Ds : List Nat) (a : Act) (w : World), SRa Γ A ρ s a w → a.defers = Ds.map mkD ++ Γ.ds → Ds.Nodup → (∀ E, E ∈ Ds → Γ.w0.heap.size ≤ E ∧ Im Γ ρ s w E ∧ w.heap[E]? = some (.deferred (some []))) →
    (∀ w', SRa Γ A ρ s { a with defers := [] } w' → ∃ v, (results fn a.tmps).run P w' = .ok v w' ∧ R (.returned v) w') → LeavesInM Fence.wide 0 P fn a.tmps R a.defers .returning w
  | [], a, w, h, hd, _, _, hfin => by
    rw [hd, hds]
    have e : ({ a with defers := [] } : Act) = a := by cases a; simp only at hd; rw [hd, hds]; rfl
    exact hfin w (by rw [e]; exact h)
  | D :: Ds, a, w, h, hd, hn, hD, hfin => by
    obtain ⟨g1, g2⟩ := h.shut hk hd hn hD
    rw [hd]
    refine ⟨by simp, .inl ⟨D, _, rfl, run_takeDeferred (hD D List.mem_cons_self).2.2, ?_⟩⟩
    exact SRa.leave (fn := fn) (R := R) hk hds Ds { a with defers := Ds.map mkD ++ Γ.ds } _ g1 rfl (List.nodup_cons.1 hn).2 g2 hfin
def Cx.mark (Γ : Cx) : Cx := { Γ with mrk := true }
theorem calls_of_marks {f : FuncId} {fn : Func} {c : Code} {vs : Array Value} {R : Ending → World → Prop} {K : St → Prop} (hf : P.funcs[f]? = some fn) (hb : fn.body = some c) (hds : Γ.ds = [])
    (h : c.wp P (fun e a' w' => ∃ s', (e = .normal ∨ e = .ret) ∧ K s' ∧ SR Γ.mark s' a' w') { tmps := vs ++ Array.replicate (fn.ntmps - vs.size) undef, defers := [] } Γ.w0)
    (hfin : ∀ s a w, K s → SR Γ s a w → ∃ v, (results fn a.tmps).run P w = .ok v w ∧ R (.returned v) w) : Calls P f vs Γ.w0 R := by
  refine callsIn_wide.1 (callsIn_of_wp_marks (F := Fence.wide) (n := 0) hf hb trivial ?_)
  refine wpIn_wide.2 (wp_mono h ?_)
  rintro e a' w' ⟨s', he, hK, ρ', hs⟩
  obtain ⟨_, Ds, h1, h2, h3⟩ := hs.defers
  have key : LeavesInM Fence.wide 0 P fn a'.tmps R a'.defers .returning w' := by
    refine SRa.leave (fn := fn) (R := R) (Γ := Γ.mark) rfl hds Ds a' w' hs h1 h2 h3 fun w2 hs2 => ?_
    exact hfin s' { a' with defers := [] } w2 hK ⟨ρ', hs2.ext, hs2.len, hs2.tmp, hs2.obj, hs2.made, hs2.bound, hs2.own, hs2.inj, .nil hds.symm, ⟨hs2.fr.size, hs2.fr.os, hs2.fr.tape, hs2.fr.output, hs2.fr.block, hs2.fr.csize⟩⟩
  rcases he with rfl | rfl <;> exact key
end
theorem Fn.introK {P : Program} {f : FuncId} {fn : Func} {c : Code} {args : List AV} {X : AV} {rs : List ResultVar} {n : Nat} (hX : X.bd 0 = true) (he : enterable P f = true) (hf : P.funcs[f]? = some fn) (hb : fn.body = some c) (hrs : fn.results = rs.toArray) (hn : fn.ntmps = n) (hl : args.length ≤ n)
    (h : ∀ Γ : Cx, Γ.m = 0 → Γ.mrk = true → WP P Γ c (bodyQ (Ret P rs X)) (S n (enumA 0 args) 0 [])) : Fn P f args X := by
  subst hn
  refine ⟨⟨he, fun Γ vs hm hs => ?_⟩, hX⟩
  have hm0 : Γ.m = 0 := hm.1
  obtain ⟨ρ, hs⟩ := hs
  have hds : Γ.ds = [] := (hs.defers.eq hm.2).symm
  have hlen : vs.size = args.length := hs.len
  have h0 : SR Γ.mark ⟨args ++ List.replicate (fn.ntmps - args.length) .any, []⟩ ⟨vs ++ Array.replicate (fn.ntmps - vs.size) undef, []⟩ Γ.w0 := by
    refine ⟨ρ, hs.ext, by simp [hlen], ?_, hs.obj, hs.made, hs.bound, hs.own, hs.inj, .nil hds.symm, ⟨hs.fr.size, hs.fr.os, hs.fr.tape, hs.fr.output, hs.fr.block, hs.fr.csize⟩⟩
    intro i x v hx hv
    simp only at hx hv
    by_cases hi : i < args.length
    · rw [List.getElem?_append_left hi] at hx
      rw [Array.getElem?_append_left (by omega)] at hv
      exact hs.tmp i x v hx hv
    · rw [List.getElem?_append_right (by omega)] at hx
      have hm := List.mem_of_getElem? hx
      rw [(List.mem_replicate.1 hm).2]
      exact .any
  have hw := h Γ.mark hm0 rfl
  rw [tl_start _ _ hl] at h0
  refine calls_of_marks (K := Ret P rs X) hf hb hds (wp_mono (hw _ _ h0) ?_) ?_
  · rintro e a' w' ⟨s', hq, hs'⟩
    cases e with
    | normal => exact ⟨s', .inl rfl, hq, hs'⟩
    | ret => exact ⟨s', .inr rfl, hq, hs'⟩
    | _ => exact hq.elim
  · rintro s' a' w' ⟨x, hx, hz⟩ hs'
    obtain ⟨ρ', hs''⟩ := hs'
    obtain ⟨v, hv, _⟩ := resN_sound hs'' (show fn.results.toList = rs by rw [hrs]) hx
    refine ⟨v, hv, X, [], v, rfl, ⟨rfl, hX⟩, SR.out ⟨ρ', hs''⟩ hds hm0 hz fun ρ2 h2 => ?_⟩
    obtain ⟨v2, hv2, hr2⟩ := resN_sound h2 (show fn.results.toList = rs by rw [hrs]) hx
    rw [hv] at hv2
    injection hv2 with e1
    subst e1
    exact hr2
end Go.Lg

namespace Go.Lg
open Go.RowKit
section
variable {P : Program} {Γ : Cx} {r : Option Nat} {k : Nat} {ops : Array Oper} {Q : Exit → St → Prop} {s : St} {L : List Oper}
theorem wpl_asemC {K : St → Prop} (h : asemC P ops L s K) : WPL P Γ ops L (fun e s' => e = .normal ∧ K s') s := fun a w hs =>
  asemC_sound (K := K) (QQ := fun e a' w' => ∃ s', (e = .normal ∧ K s') ∧ SR Γ s' a' w') (fun s _ _ hk hs => ⟨s, ⟨rfl, hk⟩, hs⟩) L s a w hs h
theorem wpli_preC (m : Nat) (h : asemC P ops (L.take m) s fun s' => WPLI P Γ none ops (L.drop m) Q s') : WPLI P Γ none ops L Q s := by
  have := wpli_pre (post := L.drop m) (Q := Q) (.inl rfl) (wpl_asemC (Γ := Γ) h) (fun _ h => h)
  rwa [List.take_append_drop] at this
theorem wpli_endC (h : asemC P ops L s (Q .normal)) : WPLI P Γ none ops L Q s := wpli_all (.inl rfl) (wpl_asemC h)
theorem wpi_regionC {id : Nat} (hd : ∀ o, o ∈ L → ∀ c, o.op ≠ .defer c) (h : asemC P L.toArray L s (Q .normal)) : WPI P Γ k (.region id L.toArray false) Q s := wpi_region hd (wpl_asemC h)
theorem wpi_block {id : Nat} {c : Code} (h : WPI P Γ k c (fun e s' => e = .normal ∧ Q .normal s') s) : WPI P Γ k (.block id c) Q s := fun a w hs => by
  refine wpIn_block (wpIn_mono (h a w hs) ?_)
  rintro e a' w' ⟨s', ⟨rfl, h1⟩, h2⟩
  exact ⟨s', h1, h2⟩
theorem nodefer {l : List Oper} (h : (l.all fun o => match o.op with | .defer _ => false | _ => true) = true) : ∀ o, o ∈ l → ∀ c, o.op ≠ .defer c := fun o ho c e => by
  have := List.all_eq_true.1 h o ho
  rw [e] at this; cases this
end
def subT (l : List (Nat × AV)) : List (Nat × AV) → Prop
  | [] => True
  | (j, y) :: r => lk j l = y ∧ subT l r
theorem subT_lk {l : List (Nat × AV)} {i : Nat} : ∀ {l0 : List (Nat × AV)}, subT l l0 → lk i l0 = .any ∨ lk i l = lk i l0
  | [], _ => .inl rfl
  | (j, y) :: r, h => by
    simp only [lk]
    split
    · rename_i e; subst e; exact .inr h.1
    · exact subT_lk h.2
theorem subT_tl {n : Nat} {l l0 : List (Nat × AV)} (h : subT l l0) : (tl n l0).length = (tl n l).length ∧ ∀ (i : Nat) x, (tl n l0)[i]? = some x → x = .any ∨ (tl n l)[i]? = some x := by
  refine ⟨by simp [tl_length], fun i x hx => ?_⟩
  have hi := (List.getElem?_eq_some_iff.1 hx).1
  rw [tl_length] at hi
  have e : ∀ l : List (Nat × AV), (tl n l)[i]? = some (lk i l) := fun l => tl_get l hi
  rw [e] at hx ⊢
  injection hx with hx
  subst hx
  rcases subT_lk (i := i) h with h | h
  · exact .inl h
  · exact .inr (by rw [h])
section
variable {P : Program} {Γ : Cx} {n M : Nat} {l : List (Nat × AV)} {os : List (Nat × Option AObj)} {Q : Exit → St → Prop} {ops : Array Oper} {rest : List Oper}
theorem wpli_y {r : Option Nat} {f : Operand} {args : Array Operand} {tys : Array TypeId} {d : Tmp} {ty : TypeId} {pos : String} {af : Array Edge} {id : Nat} {c : LoopC} {ts xs ys : List AV} {aos : List AObj} {aos' : List (Option AObj)} (is : List Nat)
    (hf : opq n l f = some (.yld id)) (hid : Nat.blt id M = true) (ho : lkO id os = some (.lop c ts)) (has : opqL n l args.toList = some xs) (hp : c.params.size = args.size) (hi : (is.all fun i => !Nat.beq i id) = true)
    (hL : Lend is (S n l M os) (putP ts (c.params.toList.zip xs)) ys aos) (hR : RoundC P c ys aos aos')
    (hn : WPLI P Γ r ops rest Q (S n ((d, .val (.bool true)) :: l) (M + (aos'.length - is.length)) (updN (apx M is) M is aos' os))) :
    WPLI P Γ r ops (⟨some d, .call ⟨.value f, args, tys⟩, ty, pos, af, none⟩ :: rest) Q (S n l M os) := by
  have hM : (S n l M os).objs.length = M := ol_length M os
  have hil : is.length ≤ aos'.length := by have := wkRO_len hL.2.1; have := hR.len; simp at *; omega
  refine wpli_yield is (opq_op hf) (St.look_some.1 (by rw [S_look]; simp only [lookq, hid, cond_true]; exact ho)) (opqL_op has) hp (fun h => ?_) hL hR ?_
  · have := List.all_eq_true.1 hi id h
    simp [Nat.beq_refl] at this
  · rw [hM]
    have e : (⟨(S n l M os).tmps, updO (apx M is) (S n l M os).objs is aos'⟩ : St) = S n l (M + (aos'.length - is.length)) (updN (apx M is) M is aos' os) := by
      simp only [S]; rw [updN_ol is aos' os hil]
    rw [e, S_put]
    exact hn
end
end Go.Lg

namespace Go.Lg
section
variable {P : Program} {n M N i : Nat} {l : List (Nat × AV)} {os : List (Nat × Option AObj)} {d t : Tmp} {ty : TypeId} {pos : String} {af : Array Edge} {ops : Array Oper} {rest : List Oper} {K : List Rec → St → Prop} {rs : List Rec} {j : Nat} {want : Bool} {X : AV}
theorem rdg_call {g : FuncId} {first cap us us' : List AV} {f : Operand} {args : Array Operand} {tys : Array TypeId} (ht : (ops[j]?).bind (·.dst) = some t) (hg : opq n l (.tmp t) = some (.val (.bool want))) (hf : opq n l f = some (.clo (.func g) first cap)) (has : opqL n l args.toList = some us) (hsub : SubL (first ++ us ++ cap) us') (hp : bdL 0 (first ++ us ++ cap) = true) (hspec : Fn P g us' X)
    (hk : RunD P ops N (i + 1) rest (S n ((d, X) :: l) M os) (rs ++ [⟨some d, [], topq n l (Op.operands (.call ⟨.value f, args, tys⟩)).toList⟩]) K) : RunD P ops N i (⟨some d, .call ⟨.value f, args, tys⟩, ty, pos, af, some (j, want)⟩ :: rest) (S n l M os) rs K := by
  have e := opqL_op (M := M) (os := os) has
  refine ⟨.did (X, .none), _, ⟨rfl, .inr ⟨_, f, g, first, cap, rfl, rfl, opq_op hf, by rw [e]; exact (hspec.sub hsub).spec, by rw [e]; exact hp, rfl⟩, yielded_q ht hg⟩, ?_⟩
  show RunD P ops N (i + 1) rest ((S n l M os).put (some d) X) (rs ++ [⟨some d, [], topIds (S n l M os) _⟩]) K
  rw [topq_ids, S_put]
  exact hk
end
end Go.Lg

namespace Go.Lg
open Go.Proofs
set_option linter.unusedSimpArgs false
set_option linter.unusedVariables false
attribute [local irreducible] Ap Rq asemC WP RunD Ret Gq thenA inBlockA bodyQ noGotoA RqL RqP OpP
set_option maxHeartbeats 4000000
set_option maxRecDepth 20000
def nmA (r : Nat) (nx : Int) : AObj := .arr 2 [.agg [.map r, intA nx]]
def nmM (m : List (Int × Int)) : AObj := .map (mapA intK intA m)
attribute [local simp] nmA nmM
theorem ren_mapI (π : Nat → Nat) (m : List (Int × Int)) : ((mapA intK intA m).map fun p => (p.1, p.2.ren π)) = mapA intK intA m := by simp [mapA, AV.ren, intA]
theorem nof_fn (m : List (Int × Int)) (nx x : Int) (h0 : -9223372036854775807 ≤ x) (h1 : x ≤ 9223372036854775807) :
    FnO Try.prog 66 [.ptr 0 2 0 0, intA x] [nmA 1 nx, nmM m] (intA (if x < 0 then -1 - x else (aget m x).getD 0)) [some (nmA 1 nx), some (nmM m)] := by
  unfold nmA nmM
  refine FnO.intro (by exact Nat.le_of_ble_eq_true rfl) rfl (by kernel_rfl) Try.func66 rfl rfl Try.ntmps66 (by exact Nat.le_of_ble_eq_true rfl) ?_; intro Γ hm
  by_cases hx : x < 0
  · rw [if_pos hx]
    (repeat' (first | apply jA | apply jH | apply jK | apply jM | apply jS | (refine wp_cond rfl (fun hc => ?_) (fun hc => ?_) <;> (try simp only [sB, ne_eq, reduceCtorEq] at hc) <;> (try (exfalso; omega))) | (refine WP.regionC (id := 0) ?_; (refine sassign rfl ?_); apply jW) | (refine WP.regionC (id := 1) ?_; (refine smove rfl ?_); (refine slss rfl rfl ?_); apply jW) | (refine WP.regionC (id := 2) ?_; (refine smove rfl ?_); (refine su (asub rfl rfl (by exact inr_i64_of (by omega))) ?_); (refine sassign rfl ?_); apply jW)))
    refine retO_L (x := intA (-1 - x)) (k := 2) (os1 := [(0, some (.arr 2 [.agg [.map 1, intA nx]])), (1, some (.map (mapA intK intA m)))]) (.tmp rfl .nil) rfl ⟨[0, 1], ToR.S rfl (by repeat' (first | exact rt_nil | refine rt_e rfl rfl ?_)) (by repeat' (first | exact ro_nil | refine ro_e rfl rfl ?_ | refine ro_m rfl rfl (mapA_bd (fun _ => by exact rfl) _) ?_)) rfl rfl rfl (by (simp [bdT, AV.bd, bdL, bdL_append]; done)) (by repeat' (first | exact True.intro | exact rfl | exact mapA_all (fun _ => by exact rfl) _ | refine And.intro ?_ ?_)) (by exact Nat.le_of_ble_eq_true rfl)⟩ rfl
  · rw [if_neg hx]
    (repeat' (first | apply jA | apply jH | apply jI | apply jK | apply jS | (refine wp_cond rfl (fun hc => ?_) (fun hc => ?_) <;> (try simp only [sB, ne_eq, reduceCtorEq] at hc) <;> (try (exfalso; omega))) | (refine WP.regionC (id := 0) ?_; (refine sassign rfl ?_); apply jW) | (refine WP.regionC (id := 1) ?_; (refine smove rfl ?_); (refine slss rfl rfl ?_); apply jW) | (refine WP.regionC (id := 3) ?_; (refine smove rfl ?_); (refine snilc rfl ?_); (refine sfieldp rfl rfl rfl ?_); (refine sloadp rfl rfl rfl rfl ?_); (refine smove rfl ?_); (refine su (ap_look (kf := intK) (rq_p rfl rfl) rfl (rq_p rfl rfl) rfl) ?_); (refine sassign rfl ?_); apply jW)))
    refine retO_L (x := intA ((aget m x).getD 0)) (k := 2) (os1 := [(0, some (.arr 2 [.agg [.map 1, intA nx]])), (1, some (.map (mapA intK intA m)))]) (.tmp rfl .nil) rfl ⟨[0, 1], ToR.S rfl (by repeat' (first | exact rt_nil | refine rt_e rfl rfl ?_)) (by repeat' (first | exact ro_nil | refine ro_e rfl rfl ?_ | refine ro_m rfl rfl (mapA_bd (fun _ => by exact rfl) _) ?_)) rfl rfl rfl (by (simp [bdT, AV.bd, bdL, bdL_append]; done)) (by repeat' (first | exact True.intro | exact rfl | exact mapA_all (fun _ => by exact rfl) _ | refine And.intro ?_ ?_)) (by exact Nat.le_of_ble_eq_true rfl)⟩ rfl
theorem nfresh_fn (m : List (Int × Int)) (nx : Int) (h0 : 0 ≤ nx) (h1 : nx < 9223372036854775807) :
    FnO Try.prog 64 [.ptr 0 2 0 0] [nmA 1 nx, nmM m] (intA nx) [some (nmA 1 (nx + 1)), some (nmM m)] := by
  unfold nmA nmM
  refine FnO.intro (by exact Nat.le_of_ble_eq_true rfl) rfl (by kernel_rfl) Try.func64 rfl rfl Try.ntmps64 (by exact Nat.le_of_ble_eq_true rfl) ?_; intro Γ hm
  have hnx : nx + 1 - 1 = nx := by omega
  (repeat' (first | apply jA | apply jH | apply jK | apply jS | (refine WP.regionC (id := 0) ?_; (refine sassign rfl ?_); apply jW) | (refine WP.regionC (id := 1) ?_; (refine smove rfl ?_); (refine snilc rfl ?_); (refine sfieldp rfl rfl rfl ?_); (refine sloadp rfl rfl rfl rfl ?_); (refine sadd rfl rfl (by exact inr_i64_of (by omega)) ?_); (refine snilc rfl ?_); (refine sfieldp rfl rfl rfl ?_); (refine se_store_b rfl rfl rfl rfl ?_); apply jW) | (refine WP.regionC (id := 2) ?_; (refine smove rfl ?_); (refine snilc rfl ?_); (refine sfieldp rfl rfl rfl ?_); (refine sloadp rfl rfl rfl rfl ?_); (refine su (asub rfl rfl (by exact inr_i64_of (by omega))) ?_); (refine sassign rfl ?_); apply jW)))
  rw [hnx]
  refine retO_L (x := intA nx) (k := 2) (os1 := [(0, some (.arr 2 [.agg [.map 1, intA (nx + 1)]])), (1, some (.map (mapA intK intA m)))]) (.tmp rfl .nil) rfl ⟨[0, 1], ToR.S rfl (by repeat' (first | exact rt_nil | refine rt_e rfl rfl ?_)) (by repeat' (first | exact ro_nil | refine ro_e rfl rfl ?_ | refine ro_m rfl rfl (mapA_bd (fun _ => by exact rfl) _) ?_)) rfl rfl rfl (by (simp [bdT, AV.bd, bdL, bdL_append]; done)) (by repeat' (first | exact True.intro | exact rfl | exact mapA_all (fun _ => by exact rfl) _ | refine And.intro ?_ ?_)) (by exact Nat.le_of_ble_eq_true rfl)⟩ rfl
end Go.Lg

namespace Go.Lg
open Go.RowKit
section
variable {P : Program} {Γ : Cx} {n M : Nat} {l : List (Nat × AV)} {os : List (Nat × Option AObj)} {Q : Exit → St → Prop} {ops : Array Oper} {rest : List Oper}
theorem Lend.T {n' : Nat} {lx l1 : List (Nat × AV)} {aos : List AObj} {is : List Nat} (h1 : toRT (ap is) l l1) (h2 : LendO (ap is) os is aos) (hn : is.Nodup) (hlt : (is.all fun i => Nat.blt i M) = true) (h3 : bdT aos.length l1 = true) (h4 : bdOs aos.length aos) : Lend is (Lg.S n' lx M os) (tl n l) (tl n l1) aos :=
  ⟨wkR_map (toRT_lk h1) _, h2.wk hlt, hn, bdL_tl h3, bdO_of h4⟩
theorem putP_tl : ∀ (ps : List (Tmp × AV)) (l : List (Nat × AV)), putP (tl n l) ps = tl n (ps.reverse ++ l)
  | [], l => rfl
  | p :: ps, l => by
    simp only [putP, List.foldl_cons]
    rw [tl_set]
    have := putP_tl ps ((p.1, p.2) :: l)
    simp only [putP] at this
    rw [this]; simp
theorem RoundC.intro {c : LoopC} {l : List (Nat × AV)} {aos : List AObj} {aos' : List (Option AObj)} (Mid : St → Prop) (hs : c.state = .ready) (hp : c.pending = none) (hl : aos.length ≤ aos'.length)
    (ha : ∀ (Γ : Cx) (k : Nat), Γ.m = aos.length → WPI P Γ k c.assign (fun e s => e = .normal ∧ Mid s) (S n l aos.length (enumO 0 aos)))
    (hb : ∀ (Γ : Cx) (k : Nat) (s : St), Γ.m = aos.length → Mid s → WPI P Γ k c.body (fun e s => e = .normal ∧ RetO P [] aos.length (.tup []) aos' s) s) : RoundC P c (tl n l) aos aos' :=
  ⟨hs, hp, hl, Mid, fun Γ k hm => by rw [ol_enum]; exact ha Γ k hm, fun Γ k s hm hs => WPI.mono (hb Γ k s hm hs) fun e s' ⟨h1, x, is, _, h2⟩ => by
    obtain ⟨t1, t2, t3, t4, t5, t6, t7⟩ := h2
    exact ⟨h1, is, ⟨trivial, t2, t3, t4, rfl, t6, t7⟩⟩⟩
theorem wp_mvo {c : Code} {id ido k k' m len : Nat} {es cs : List AV} (hne : Nat.beq id ido = false) (hob : lookq M os ido = some (.arr k' [.agg cs])) (h : cs[m]? = some (.ref id k 0 len)) (ho : lookq M os id = some (.arr k es))
    (hw : WP P Γ c Q (S n l (M + 1) ((ido, some (.arr k' [.agg (cs.set m (.ref M k 0 len))])) :: (M, some (.arr k es)) :: (id, none) :: os))) : WP P Γ c Q (S n l M os) := fun a w hs => by
  refine hw a w ?_
  obtain ⟨ρ, hs⟩ := hs
  have hM : (S n l M os).objs.length = M := ol_length M os
  have look : ∀ {i : Nat} {o : AObj}, lookq M os i = some o → (S n l M os).live i o := fun h => St.look_some.1 (by rw [S_look]; exact h)
  have hlt : ∀ {i : Nat} {o : AObj}, lookq M os i = some o → i < M := fun h => by
    simp only [lookq] at h
    cases hb : Nat.blt _ M with
    | false => rw [hb] at h; simp at h
    | true => exact blt_of hb
  have hi := hlt ho
  have hio := hlt hob
  have hlo := look ho
  have hlob := look hob
  have hn0 : id ≠ ido := Nat.ne_of_beq_eq_false hne
  have hwide : cs.length = k' := by
    have := hs.obj ido _ hlob
    cases hr : ρ ido with
    | none => rw [hr] at this; obtain ⟨_, h2⟩ := this.resolve_left (by simp); cases h2
    | some b => rw [hr] at this; obtain ⟨_, _, _, _, h3, _⟩ := this; exact h3 (.agg cs) (by simp)
  have h1 := hs.extend
  have hAM : ¬ (M < M) := Nat.lt_irrefl M
  rw [hM] at h1
  have hl1 : (S n l M os).ext.live id (.arr k es) := ext_live.2 hlo
  have h2 := h1.rename hl1 (nid := M) (by simp [St.ext, hM]) (fun e => hAM e)
  have hM1 : (S n l M os).ext.objs = ol (M + 1) ((M, none) :: os) := by
    simp only [St.ext, S, ol_push]
  have e1 : (((S n l M os).ext.set id none).set M (some (.arr k es))) = S n l (M + 1) ((M, some (.arr k es)) :: (id, none) :: (M, none) :: os) := by
    show St.mk _ _ = St.mk _ _
    simp only [St.set, hM1, ol_set]
    rfl
  rw [e1] at h2
  have hlk : (S n l (M + 1) ((M, some (.arr k es)) :: (id, none) :: (M, none) :: os)).live ido (.arr k' [.agg cs]) := by
    rw [← e1]
    have a1 : (S n l M os).ext.live ido (.arr k' [.agg cs]) := ext_live.2 hlob
    simp only [St.live, St.set_objs] at a1 ⊢
    rw [List.getElem?_set_ne (by omega), List.getElem?_set_ne hn0]; exact a1
  have h3 := h2.recell hlk (es' := [.agg (cs.set m (.ref M k 0 len))]) (by simp [flat, AV.cells]) (by simp [AV.cells, hwide]) (by simp) (fun j x y hx hy v hv => by
    simp only [flat, AV.cells, List.flatMap_cons, List.flatMap_nil, List.append_nil] at hx hy
    rw [List.getElem?_set] at hy
    by_cases e : m = j
    · subst e
      rw [h] at hx; injection hx with hx; subst hx
      simp only [if_true] at hy
      split at hy
      · injection hy with hy; subst hy
        have hne2 : id ≠ M := by omega
        cases hv with
        | ref hA hb hl hcs hm => exact .ref (.inr rfl) (by simp only [if_true]; rw [if_neg hne2] at hb; exact hb) hl hcs hm
        | refn hA hb => exact .refn (.inr rfl) (by simp only [if_true]; rw [if_neg hne2] at hb; exact hb)
      · cases hy
    · rw [if_neg e, hx] at hy; injection hy with hy; subst hy; exact hv)
  have e2 : (S n l (M + 1) ((M, some (.arr k es)) :: (id, none) :: (M, none) :: os)).set ido (some (.arr k' [.agg (cs.set m (.ref M k 0 len))])) = S n l (M + 1) ((ido, some (.arr k' [.agg (cs.set m (.ref M k 0 len))])) :: (M, some (.arr k es)) :: (id, none) :: os) := by
    show St.mk _ _ = St.mk _ _
    have : ∀ os' : List (Nat × Option AObj), ol (M + 1) ((ido, some (AObj.arr k' [.agg (cs.set m (.ref M k 0 len))])) :: (M, some (.arr k es)) :: (id, none) :: (M, none) :: os') = ol (M + 1) ((ido, some (AObj.arr k' [.agg (cs.set m (.ref M k 0 len))])) :: (M, some (.arr k es)) :: (id, none) :: os') := by
      intro os'
      simp only [ol]
      apply List.map_congr_left
      intro i _
      simp only [lkO]
      by_cases q1 : i = ido
      · subst q1; simp
      · by_cases q2 : i = M
        · subst q2; simp
        · have : Nat.beq M i = false := by
            cases hb : Nat.beq M i with
            | false => rfl
            | true => exact absurd (Nat.eq_of_beq_eq_true hb).symm q2
          simp [this]
    simp only [S, St.set, ol_set]
    rw [this]
  rw [e2] at h3
  refine ⟨_, h3.more (fun i hi => ?_) (fun i hi => hi)⟩
  have : (S n l (M + 1) ((ido, some (.arr k' [.agg (cs.set m (.ref M k 0 len))])) :: (M, some (.arr k es)) :: (id, none) :: os)).objs.length = M + 1 := ol_length _ _
  rw [this]
  rcases hi with hi | rfl
  · exact Nat.lt_succ_of_lt hi
  · exact Nat.lt_succ_self _
theorem wp_rngO {g : Operand} {ps : Array Tmp} {assign body : Code} {gf : FuncId} {first cap ys : List AV} (is : List Nat) (j : Nat) (l0 : List (Nat × AV)) (h0 : subT l l0) (ts' : List AV) (aos : FuncId → List AObj) {X : AV} (os' : FuncId → List (Option AObj)) (hk : Γ.mrk = true) (hg : opq n l g = some (.clo (.func gf) first cap))
    (hj : ap is j = M) (hjl : Nat.blt j is.length = true) (hspec : ∀ fn, FnO P gf ys (aos fn) X (os' fn)) (hlen : ∀ fn, (aos fn).length ≤ (os' fn).length)
    (hL : ∀ fn, Lend is (S n l (M + 1) ((M, some (.lop { fn, params := ps, assign, body } (tl n l0))) :: os)) (first ++ [.yld M] ++ cap) ys (aos fn))
    (hK : ∀ fn, (os' fn)[j]? = some (some (.lop { fn, params := ps, assign, body } ts')) ∧
      (∃ c ts, lkO M (updN (apx (M + 1) is) (M + 1) is (os' fn) ((M, some (.lop { fn, params := ps, assign, body } (tl n l0))) :: os)) = some (.lop c ts)) ∧
      Q .normal (S n l (M + 1 + ((os' fn).length - is.length)) ((M, none) :: updN (apx (M + 1) is) (M + 1) is (os' fn) ((M, some (.lop { fn, params := ps, assign, body } (tl n l0))) :: os)))) :
    WP P Γ (.rangeFunc g ps assign body) Q (S n l M os) := by
  have hM : (S n l M os).objs.length = M := ol_length M os
  have e0 : ∀ x, (S n l M os).objs ++ [some x] = ol (M + 1) ((M, some x) :: os) := fun x => by
    simp only [S]
    rw [ol_push]
  have hspec' := fun fn => (hspec fn).spec
  refine wp_range (os := aos) hk (hspec' 0).1 (opq_op hg) is j (tl n l0) ts' (subT_tl h0).1 (subT_tl h0).2 _ (by rw [hM]; exact hj) (blt_of hjl) hspec' (fun fn => by rw [hM, e0]; exact hL fn) ?_
  rintro fn r _ ⟨rfl, rfl⟩
  have hil : is.length = (aos fn).length := by have := wkRO_len (hL fn).2.1; simpa using this.symm
  obtain ⟨k1, ⟨c, ts, k2⟩, k3⟩ := hK fn
  have hl := hlen fn
  rw [hM, e0, updN_ol is (os' fn) _ (by omega)]
  refine ⟨by omega, k1, ⟨c, ts, ?_⟩, ?_⟩
  · rw [ol_get _ (by omega)]; exact congrArg some k2
  · rw [ol_set]; exact k3
theorem wp_rngC {g : Operand} {ps : Array Tmp} {assign body : Code} {gf : FuncId} {first cap ys : List AV} (Pc : LoopC → Prop) (is : List Nat) (j : Nat) (l0 : List (Nat × AV)) (h0 : subT l l0) (ts' : List AV) (aos : LoopC → List AObj) {X : AV} (os' : LoopC → List (Option AObj)) (hk : Γ.mrk = true) (hg : opq n l g = some (.clo (.func gf) first cap))
    (hj : ap is j = M) (hjl : Nat.blt j is.length = true) (hc : ∀ fn, Pc { fn, params := ps, assign, body }) (hspec : ∀ c, Pc c → FnO P gf ys (aos c) X (os' c)) (hlen : ∀ c, (aos c).length ≤ (os' c).length)
    (hL : ∀ c, Pc c → Lend is (S n l (M + 1) ((M, some (.lop c (tl n l0))) :: os)) (first ++ [.yld M] ++ cap) ys (aos c))
    (hK : ∀ c, Pc c → (os' c)[j]? = some (some (.lop c ts')) ∧
      (∃ c' ts, lkO M (updN (apx (M + 1) is) (M + 1) is (os' c) ((M, some (.lop c (tl n l0))) :: os)) = some (.lop c' ts)) ∧
      Q .normal (S n l (M + 1 + ((os' c).length - is.length)) ((M, none) :: updN (apx (M + 1) is) (M + 1) is (os' c) ((M, some (.lop c (tl n l0))) :: os)))) :
    WP P Γ (.rangeFunc g ps assign body) Q (S n l M os) :=
  wp_rngO is j l0 h0 ts' (fun fn => aos { fn, params := ps, assign, body }) (fun fn => os' { fn, params := ps, assign, body }) hk hg hj hjl (fun fn => hspec _ (hc fn)) (fun fn => hlen _) (fun fn => hL _ (hc fn)) (fun fn => hK _ (hc fn))
end
end Go.Lg

namespace Go.Lg
open Go.RowKit
section
variable {P : Program} {Γ : Cx} {ops : Array Oper}
end
section
variable {P : Program} {Γ : Cx} {n M : Nat} {l : List (Nat × AV)} {os : List (Nat × Option AObj)} {Q : Exit → St → Prop} {ops : Array Oper} {K : St → Prop}
end
end Go.Lg

namespace Go.Lg
theorem sO : (∀ {α : Type} {β : Type} (b : α) (f : α → β), (some b).map f = some (f b)) ∧
  (∀ {α : Type} {β : Type} (f : α → β), (none : Option α).map f = none) ∧
  (∀ {π : Nat → Nat} {l : List AV}, bdL 0 l = true → renL π l = l) ∧
  (∀ {π : Nat → Nat} {x : AV}, x.bd 0 = true → x.ren π = x) ∧
  (∀ (n : Nat) (l : List Bool), bdL n (l.map boolA) = true) ∧
  (∀ (n : Nat) (l : List Int), bdL n (l.map intA) = true) ∧
  (∀ (n : Nat) (l : List ByteArray), bdL n (l.map strA) = true) ∧
  (∀ (n : Nat) (x : Bool), (boolA x).bd n = true) ∧
  (∀ (n : Nat) (x : Int), (intA x).bd n = true) ∧
  (∀ (n : Nat) (x : ByteArray), (strA x).bd n = true) ∧
  (∀ (n : Nat) (l : List Int), (intsA l).bd n = true) ∧
  (∀ (n : Nat) (l : List ByteArray), (strsA l).bd n = true) ∧
  (∀ {α : Type} {a : α} {us : List α}, (a :: us).length = us.length + 1) ∧
  (∀ {α : Type}, ([] : List α).length = 0) ∧
  (∀ {α : Type} {a : α} {us : List α} {d : α}, (a :: us).getD 0 d = a) ∧
  (∀ {α : Type} {a : α} {us : List α} {i : Nat} {d : α}, (a :: us).getD (i + 1) d = us.getD i d) ∧
  (∀ n : Nat, ¬n < n) ∧
  (∀ n : Nat, 0 < n.succ) ∧
  (∀ n : Nat, n - 0 = n) ∧
  (∀ n : Nat, n - n = 0) ∧
  (∀ n : Nat, n + 0 = n) := ⟨@Option.map_some, @Option.map_none, @renL_pure, @ren_pure, bdL_boolA, bdL_intA, bdL_strA, bd_boolA, bd_intA, bd_strA, bd_intsA, bd_strsA, @List.length_cons, @List.length_nil, @List.getD_cons_zero, @List.getD_cons_succ, Nat.lt_irrefl, Nat.zero_lt_succ, Nat.sub_zero, Nat.sub_self, Nat.add_zero⟩
theorem RenL.of {π : Nat → Nat} : ∀ {xs ys : List AV}, xs = renL π ys → RenL π xs ys
  | xs, [], h => by subst h; exact .nil
  | xs, y :: ys, h => by subst h; exact .cons rfl (RenL.of rfl)
theorem Lend.o1 {n M : Nat} {l : List (Nat × AV)} {os : List (Nat × Option AObj)} {xs ys es es' : List AV} {i k : Nat} (h1 : xs = renL (ap [i]) ys) (h : lkO i os = some (.arr k es)) (he : es = renL (ap [i]) es') (hlt : Nat.blt i M = true) (h3 : bdL 1 ys = true) (h4 : bdL 1 es' = true) : Lend [i] (Lg.S n l M os) xs ys [.arr k es'] :=
  Lend.S (RenL.of h1) (.arr h he .nil) (by simp) (by simp [hlt]) h3 ⟨h4, trivial⟩
end Go.Lg

namespace Go.Lg
open Go.Proofs
theorem bodyQ_n {Q : St → Prop} {s : St} (h : Q s) : bodyQ Q .normal s := h
set_option linter.unusedSimpArgs false
set_option linter.unusedVariables false
attribute [local irreducible] Ap Rq asemC WP RunD Ret Gq thenA inBlockA bodyQ noGotoA RqL RqP OpP
set_option maxHeartbeats 4000000
set_option maxRecDepth 20000
def symM (m : List (Int × Int)) (x : Int) : Int := if x < 0 then -1 - x else (aget m x).getD 0
def nstA (T s : Int) (r k : Nat) : AObj := .arr 4 [.agg [intA T, intA 0, intA s, .ref r 6 0 k]]
def nrsA (l : List NRul) : AObj := .arr 6 (l.map nruleA)
def tsA (r : Nat) : List AV := tl 80 [(5, .ptr r 4 0 0)]
def BinR (P : Program) (c : LoopC) (T s : Int) : Prop := ∀ (acc : List NRul) (o : NRul), acc.length < 100000 → RoundC P c (tl 80 [(36, nruleA o), (5, .ptr 0 4 0 0)]) [nstA T s 1 acc.length, nrsA acc] [some (nstA T s 2 (acc ++ [o]).length), none, some (nrsA (acc ++ [o]))]
theorem bin_upd (T s : Int) (n : Nat) (B : List NRul) (os : List (Nat × Option AObj)) : updN (apx 10 [5, 8]) 10 [5, 8] [some (nstA T s 2 n), none, some (nrsA B)] os = (10, some (.arr 6 (B.map nruleA))) :: (8, none) :: (5, some (.arr 4 [.agg [intA T, intA 0, intA s, .ref 10 6 0 n]])) :: os := by
  have e : renL (apx 10 [5, 8]) (B.map nruleA) = B.map nruleA := renL_pure (by simp)
  simp only [updN, newO, nstA, nrsA, AObj.ren, e, Option.map_some, Option.map_none]
  rfl
theorem bin_lend {n' : Nat} {lx : List (Nat × AV)} {os : List (Nat × Option AObj)} {c : LoopC} {T s : Int} {A : List NRul} {o : NRul} (hcp : c.params = #[36]) (h5 : lkO 5 os = some (.arr 4 [.agg [intA T, intA 0, intA s, .ref 8 6 0 A.length]])) (h6 : lkO 8 os = some (.arr 6 (A.map nruleA))) :
    Lend [5, 8] (Lg.S n' lx 10 os) (putP (tsA 5) (c.params.toList.zip [nruleA o])) (tl 80 [(36, nruleA o), (5, .ptr 0 4 0 0)]) [nstA T s 1 A.length, nrsA A] := by
  rw [hcp]
  show Lend _ _ (putP (tl 80 [(5, .ptr 5 4 0 0)]) [(36, nruleA o)]) _ _
  rw [putP_tl]
  refine Lend.T (rt_p rfl rfl (by simp) (rt_t rfl rfl rt_nil)) (.arr h5 rfl (.arr h6 (renL_pure (by simp)).symm .nil)) (by decide) rfl (by simp [bdT, AV.bd]) ?_
  refine ⟨by simp [bdL, AV.bd], by simp, trivial⟩
theorem chain1_fn (g : Gram) (m : List (Int × Int)) (r : Rul) (i : Nat) (nx : Int) (T s : Int) (acc : List NRul) (c : LoopC) (hcp : c.params = #[36]) (hR : BinR Try.prog c T s)
    (hsym : 2 ≤ r.body.length → ∀ x, x ∈ r.body → symM m x = symN g x) (hb : ∀ x, x ∈ r.body → -1000000 ≤ x ∧ x ≤ 1000000) (h0 : 0 ≤ nx) (h1 : nx ≤ 100000) (hl : r.body.length ≤ 100) (hi : i ≤ 100000) (hacc : acc.length ≤ 50000) :
    FnO Try.prog 65 [.yld 7, .ptr 0 3 0 0, .ptr 1 1 0 0, .ptr 2 1 0 0]
      [.arr 3 [ruleA r], .arr 1 [intA i], .arr 1 [.ptr 3 2 0 0], nmA 4 nx, nmM m, nstA T s 6 acc.length, nrsA acc, .lop c (tsA 5)] (.tup [])
      [none, none, none, some (nmA 4 (nx + extraN r)), some (nmM m), some (nstA T s 8 (acc ++ chn g r.head r.price i nx r.body).length), none, some (.lop c (tsA 5)), some (nrsA (acc ++ chn g r.head r.price i nx r.body))] := by
  unfold nmA nmM nstA nrsA
  refine FnO.intro (by exact Nat.le_of_ble_eq_true rfl) rfl (by kernel_rfl) Try.func65 rfl rfl Try.ntmps65 (by exact Nat.le_of_ble_eq_true rfl) ?_; intro Γ hm
  refine wp_mvo (id := 6) (ido := 5) (m := 3) (k := 6) rfl rfl rfl rfl ?_
  have hdrop : ∀ k, k < r.body.length → r.body.drop k = nth r.body k :: r.body.drop (k + 1) := fun k hk => by
    rw [List.drop_eq_getElem_cons hk]; simp [nth, List.getD, List.getElem?_eq_getElem hk]
  by_cases hb2 : 2 ≤ r.body.length
  · have hs := hsym hb2
    (repeat' (first | apply jA | apply jF | apply jH | apply jI | apply jN | (refine wp_cond rfl (fun hc => ?_) (fun hc => ?_) <;> (try simp only [sB, ne_eq, reduceCtorEq] at hc) <;> (try (exfalso; omega))) | (refine WP.regionC (id := 0) ?_; (refine sfieldp rfl rfl rfl ?_); (refine sloadp rfl rfl rfl rfl ?_); (refine sfieldp rfl rfl rfl ?_); (refine sloadp rfl rfl rfl rfl ?_); (refine sloadpw rfl rfl rfl rfl ?_); (refine su (ap_build (RqP.cons (rq_p rfl rfl) (RqP.cons (rq_p rfl rfl) (RqP.cons (rq_p rfl rfl) (RqP.nil)))) rfl) ?_); (refine se_alloc rfl ?_); (refine se_store_b rfl rfl rfl rfl ?_); apply jW) | (refine WP.regionC ?_; (refine sfieldp rfl rfl rfl ?_); (refine sloadp rfl rfl rfl rfl ?_); (refine slenm rfl rfl ?_); (refine seql rfl rfl ?_); (refine sassign rfl ?_); apply jW) | (refine WP.regionC (id := 3) ?_; (refine sfieldp rfl rfl rfl ?_); (refine sloadp rfl rfl rfl rfl ?_); (refine slenm rfl rfl ?_); (refine seql rfl rfl ?_); (refine smove rfl ?_); (refine sg (gq_vt rfl rfl) (fun he => ap_field_p (rq_p rfl rfl) rfl rfl) ?_); (refine sg (gq_vt rfl rfl) (fun he => ap_load_p (rq_c rfl rfl) rfl rfl rfl) ?_); (refine sg (gq_vt rfl rfl) (fun he => ap_idx_n (rq_c rfl rfl) (rq_p rfl rfl) (by (try simp only [sH, id, sB, ne_eq, reduceCtorEq] at he); omega)) ?_); (refine sg (gq_vt rfl rfl) (fun he => ap_load_w (rq_c rfl rfl) rfl) ?_); (refine sg (gq_vt rfl rfl) (fun he => ap_geq (rq_c rfl rfl) (rq_p rfl rfl)) ?_); (refine su (ap_and (rq_p rfl rfl) (rq_c rfl rfl)) ?_); (refine sassign rfl ?_); apply jW) | (refine WP.regionC (id := 7) ?_; (refine sfieldp rfl rfl rfl ?_); (refine sloadp rfl rfl rfl rfl ?_); (refine sassign rfl ?_); apply jW)))
    refine wp_loop (fun (x : Nat × List NRul × Int × NRul) => x.1 ≤ r.body.length - 2 ∧ x.2.1 = acc ++ (chn g r.head r.price i nx r.body).take x.1 ∧ x.2.2.1 = nx + x.1 ∧ x.2.2.2 = ⟨0, if x.1 = 0 then r.head else nx + x.1 - 1, 0, 0, if x.1 = 0 then r.price else 0, if x.1 = 0 then (i : Int) else -1⟩) (fun x => r.body.length - x.1)
      (fun x => (S 92 [(0, .yld 7), (3, .ptr 2 1 0 0), (5, .ptr 9 6 0 0), (6, intsA (r.body.drop x.1))] 10 [(0, some (.arr 3 [ruleA r])), (1, some (.arr 1 [intA i])), (2, some (.arr 1 [.ptr 3 2 0 0])), (3, some (.arr 2 [.agg [.map 4, intA x.2.2.1]])), (4, some (.map (mapA intK intA m))), (5, some (.arr 4 [.agg [intA T, intA 0, intA s, .ref 8 6 0 x.2.1.length]])), (7, some (.lop c (tsA 5))), (8, some (.arr 6 (x.2.1.map nruleA))), (9, some (.arr 6 [nruleA x.2.2.2]))])) (0, acc, nx, ⟨0, r.head, 0, 0, r.price, i⟩) ⟨[0, 1, 2, 3, 4, 5, 6, 7, 8, 9], ToR.S rfl (by repeat' (first | exact rt_nil | refine rt_t rfl rfl ?_ | refine rt_e rfl rfl ?_ | refine rt_p rfl rfl (by first | (simp [AV.bd, bdL, bdL_append]; done) | fail) ?_)) (by repeat' (first | exact ro_nil | refine ro_l rfl (by first | exact rfl | fail) ?_ | refine ro_e rfl rfl ?_ | refine ro_p rfl (by first | exact rfl | fail) (by first | exact bdL_map (fun _ => by exact rfl) _ | (simp [bdL, bdL_append, AV.bd]; done) | fail) ?_ | refine ro_m rfl rfl (mapA_bd (fun _ => by exact rfl) _) ?_)) rfl (by (rw [hm]; exact rfl)) rfl (by (simp [bdT, AV.bd, bdL, bdL_append]; done)) (by repeat' (first | exact True.intro | exact rfl | exact mapA_all (fun _ => by exact rfl) _ | refine And.intro ?_ ?_ | exact bdL_map (fun _ => by exact rfl) _ | (simp [bdOq, bdL, bdL_append, AV.bd]; done))) (by (rw [hm]; exact Nat.le_of_ble_eq_true rfl))⟩ ⟨by omega, by simp, by simp, by simp⟩ ?_
    rintro ⟨k, A, N, o⟩ ⟨hk, hA, hN, ho⟩
    dsimp only at *
    by_cases hlt : 2 < (r.body.drop k).length
    · have hdl : (r.body.drop k).length = r.body.length - k := List.length_drop
      have hkl : k < r.body.length := by omega
      have hd := hdrop k hkl
      have hx := hs _ (nth_mem hkl)
      have hxb := hb _ (nth_mem hkl)
      have e0 : nth (r.body.drop k) 0 = nth r.body k := by rw [hd]; rfl
      have hcl := chn_len g r.body r.head r.price i nx
      have hcx := chn_nth g r.body r.head r.price i nx k hb2 hk
      have hdd : List.drop (Int.toNat 1) (List.take (((List.drop k r.body).map intA).length : Int).toNat (List.drop k r.body)) = List.drop (k + 1) r.body := by
        rw [List.length_map, Int.toNat_natCast, List.take_length, show Int.toNat 1 = 1 from rfl, List.drop_drop]
      have hnext : A ++ [(⟨4, o.head, symN g (nth r.body k), N, o.price, o.origin⟩ : NRul)] = acc ++ (chn g r.head r.price i nx r.body).take (k + 1) := by
        rw [hA, List.append_assoc]
        congr 1
        have hkc : k < (chn g r.head r.price i nx r.body).length := by omega
        rw [List.take_add_one, List.getElem?_eq_getElem hkc]
        have e1 : (chn g r.head r.price i nx r.body)[k] = nth (chn g r.head r.price i nx r.body) k := by simp [nth, List.getD, List.getElem?_eq_getElem hkc]
        rw [e1, hcx, if_neg (show ¬ k = r.body.length - 2 by omega), ho, hN]
        rfl
      have hlast : (⟨0, N, 0, 0, 0, -1⟩ : NRul) = ⟨0, if k + 1 = 0 then r.head else nx + ((k + 1 : Nat) : Int) - 1, 0, 0, if k + 1 = 0 then r.price else 0, if k + 1 = 0 then (i : Int) else -1⟩ := by
        rw [if_neg (by omega), if_neg (by omega), if_neg (by omega), hN]
        congr 1; omega
      have hof := nof_fn m N (nth (r.body.drop k) 0) (by omega) (by omega)
      have hsy : (if nth (r.body.drop k) 0 < 0 then -1 - nth (r.body.drop k) 0 else (aget m (nth (r.body.drop k) 0)).getD 0) = symN g (nth r.body k) := by rw [← hx, e0]; rfl
      rw [hsy] at hof
      have hfr := nfresh_fn m N (by omega) (by omega)
      unfold nmA nmM at hof hfr
      (repeat' (first | apply jA | apply jF | apply jH | apply jI | (refine wp_cond rfl (fun hc => ?_) (fun hc => ?_) <;> (try simp only [sB, ne_eq, reduceCtorEq] at hc) <;> (try (exfalso; omega))) | (refine WP.regionC (id := 8) ?_; (refine smove rfl ?_); (refine slenm rfl rfl ?_); (refine su (agtr rfl rfl) ?_); apply jW)))
      (repeat' (first | apply jA | apply jH | (refine wp_tree (id := 10) 13 mixed rfl ?_ <;> (refine wpt_take 1 rfl still_move (by exact ap_move (rq_p rfl rfl)) (by kernel_rfl) (by kernel_rfl) (by kernel_rfl) (by repeat (first | exact pind_q | apply pind_then | apply pind_block)) ?_; (refine wpt_take 7 rfl (by exact still_fieldAddr rfl rfl) (by exact ap_field_p (rq_p rfl rfl) rfl rfl) (by kernel_rfl) (by kernel_rfl) (by kernel_rfl) (by repeat (first | exact pind_q | apply pind_then | apply pind_block)) ?_; (refine wpt_takeN 0 [4, 6, 8, 9, 10, 11, 12] rfl (by exact ap_load_pw (rq_p rfl rfl) rfl rfl rfl) (by kernel_rfl) (by kernel_rfl) (by kernel_rfl) (by kernel_rfl) (by repeat (first | exact pind_q | apply pind_then | apply pind_block)) ?_; (refine wpt_takeN 2 [3, 4, 6, 8, 9, 10, 11, 12] rfl (by exact ap_idx_n (rq_p rfl rfl) (rq_p rfl rfl) (by (simp only [sL] <;> omega))) (by kernel_rfl) (by kernel_rfl) (by kernel_rfl) (by kernel_rfl) (by repeat (first | exact pind_q | apply pind_then | apply pind_block)) ?_; (refine wpt_takeN 3 [4, 6, 8, 9, 10, 11, 12] rfl (by exact ap_load_w (rq_p rfl rfl) rfl) (by kernel_rfl) (by kernel_rfl) (by kernel_rfl) (by kernel_rfl) (by repeat (first | exact pind_q | apply pind_then | apply pind_block)) ?_; (refine wpt_all (rs := [4, 5]) (by kernel_rfl) rfl ⟨?_, ?_, trivial⟩ <;> (first | (refine wpo_do (i := 4) rfl rfl ?_; (refine sc_o [3, 4] rfl rfl (hof) (Lend.S (by first | ((repeat' first | exact RenL.nil | refine RenL.cons rfl ?_); done) | fail) (by first | ((repeat' first | exact LendO.nil | refine LendO.map rfl (by first | (simp [mapA, AV.ren, intA]; done) | fail) ?_ | refine LendO.arr rfl rfl ?_); done) | fail) (by decide) rfl (by simp [AV.bd, bdL, bdL_append]) (by repeat' (first | exact True.intro | refine And.intro ?_ ?_ | (simp [mapA, AV.bd, intA]; done) | simp [AV.bd, bdL, bdL_append]))) ?_; simp only [updN, newO, AObj.ren, renL, AV.ren, apx, ap, if_true, if_false, Nat.reduceLT, Nat.reduceAdd, Nat.reduceSub, sO, intA, boolA, strA, ren_mapI]); apply jW; (refine wpt_takeN 5 [6, 8, 9, 10, 11, 12] rfl (by exact ap_load_pw (rq_p rfl rfl) rfl rfl rfl) (by kernel_rfl) (by kernel_rfl) (by kernel_rfl) (by kernel_rfl) (by repeat (first | exact pind_q | apply pind_then | apply pind_block)) ?_; (refine wpt_all (rs := [6]) (by kernel_rfl) rfl ⟨?_, trivial⟩; (refine wpo_do (i := 6) rfl rfl ?_; (refine sc_o [3, 4] rfl rfl (hfr) (Lend.S (by first | ((repeat' first | exact RenL.nil | refine RenL.cons rfl ?_); done) | fail) (by first | ((repeat' first | exact LendO.nil | refine LendO.map rfl (by first | (simp [mapA, AV.ren, intA]; done) | fail) ?_ | refine LendO.arr rfl rfl ?_); done) | fail) (by decide) rfl (by simp [AV.bd, bdL, bdL_append]) (by repeat' (first | exact True.intro | refine And.intro ?_ ?_ | (simp [mapA, AV.bd, intA]; done) | simp [AV.bd, bdL, bdL_append]))) ?_; simp only [updN, newO, AObj.ren, renL, AV.ren, apx, ap, if_true, if_false, Nat.reduceLT, Nat.reduceAdd, Nat.reduceSub, sO, intA, boolA, strA, ren_mapI]); apply jW; (refine wpt_all (rs := [8]) (by kernel_rfl) rfl ⟨?_, trivial⟩; (refine wpo_do (i := 8) rfl rfl ?_; (refine se_store_b rfl rfl rfl rfl ?_); apply jW; (refine wpt_take 9 rfl (by exact still_fieldAddr rfl rfl) (by exact ap_field_p (rq_p rfl rfl) rfl rfl) (by kernel_rfl) (by kernel_rfl) (by kernel_rfl) (by repeat (first | exact pind_q | apply pind_then | apply pind_block)) ?_; (refine wpt_all (rs := [10]) (by kernel_rfl) rfl ⟨?_, trivial⟩; (refine wpo_do (i := 10) rfl rfl ?_; (refine se_store_b rfl rfl rfl rfl ?_); apply jW; (refine wpt_take 11 rfl (by exact still_fieldAddr rfl rfl) (by exact ap_field_p (rq_p rfl rfl) rfl rfl) (by kernel_rfl) (by kernel_rfl) (by kernel_rfl) (by repeat (first | exact pind_q | apply pind_then | apply pind_block)) ?_; (refine wpt_all (rs := [12]) (by kernel_rfl) rfl ⟨?_, trivial⟩; (refine wpo_do (i := 12) rfl rfl ?_; (refine se_store_b rfl rfl rfl rfl ?_); apply jW; (refine wpt_end (by kernel_rfl) ?_))))))))))))) | (refine wpo_do (i := 5) rfl rfl ?_; (refine sloadpw rfl rfl rfl rfl ?_); apply jW; (refine wpt_all (rs := [4]) (by kernel_rfl) rfl ⟨?_, trivial⟩; (refine wpo_do (i := 4) rfl rfl ?_; (refine sc_o [3, 4] rfl rfl (hof) (Lend.S (by first | ((repeat' first | exact RenL.nil | refine RenL.cons rfl ?_); done) | fail) (by first | ((repeat' first | exact LendO.nil | refine LendO.map rfl (by first | (simp [mapA, AV.ren, intA]; done) | fail) ?_ | refine LendO.arr rfl rfl ?_); done) | fail) (by decide) rfl (by simp [AV.bd, bdL, bdL_append]) (by repeat' (first | exact True.intro | refine And.intro ?_ ?_ | (simp [mapA, AV.bd, intA]; done) | simp [AV.bd, bdL, bdL_append]))) ?_; simp only [updN, newO, AObj.ren, renL, AV.ren, apx, ap, if_true, if_false, Nat.reduceLT, Nat.reduceAdd, Nat.reduceSub, sO, intA, boolA, strA, ren_mapI]); apply jW; (refine wpt_all (rs := [6]) (by kernel_rfl) rfl ⟨?_, trivial⟩; (refine wpo_do (i := 6) rfl rfl ?_; (refine sc_o [3, 4] rfl rfl (hfr) (Lend.S (by first | ((repeat' first | exact RenL.nil | refine RenL.cons rfl ?_); done) | fail) (by first | ((repeat' first | exact LendO.nil | refine LendO.map rfl (by first | (simp [mapA, AV.ren, intA]; done) | fail) ?_ | refine LendO.arr rfl rfl ?_); done) | fail) (by decide) rfl (by simp [AV.bd, bdL, bdL_append]) (by repeat' (first | exact True.intro | refine And.intro ?_ ?_ | (simp [mapA, AV.bd, intA]; done) | simp [AV.bd, bdL, bdL_append]))) ?_; simp only [updN, newO, AObj.ren, renL, AV.ren, apx, ap, if_true, if_false, Nat.reduceLT, Nat.reduceAdd, Nat.reduceSub, sO, intA, boolA, strA, ren_mapI]); apply jW; (refine wpt_all (rs := [8]) (by kernel_rfl) rfl ⟨?_, trivial⟩; (refine wpo_do (i := 8) rfl rfl ?_; (refine se_store_b rfl rfl rfl rfl ?_); apply jW; (refine wpt_take 9 rfl (by exact still_fieldAddr rfl rfl) (by exact ap_field_p (rq_p rfl rfl) rfl rfl) (by kernel_rfl) (by kernel_rfl) (by kernel_rfl) (by repeat (first | exact pind_q | apply pind_then | apply pind_block)) ?_; (refine wpt_all (rs := [10]) (by kernel_rfl) rfl ⟨?_, trivial⟩; (refine wpo_do (i := 10) rfl rfl ?_; (refine se_store_b rfl rfl rfl rfl ?_); apply jW; (refine wpt_take 11 rfl (by exact still_fieldAddr rfl rfl) (by exact ap_field_p (rq_p rfl rfl) rfl rfl) (by kernel_rfl) (by kernel_rfl) (by kernel_rfl) (by repeat (first | exact pind_q | apply pind_then | apply pind_block)) ?_; (refine wpt_all (rs := [12]) (by kernel_rfl) rfl ⟨?_, trivial⟩; (refine wpo_do (i := 12) rfl rfl ?_; (refine se_store_b rfl rfl rfl rfl ?_); apply jW; (refine wpt_end (by kernel_rfl) ?_))))))))))))))))))))))))
      all_goals refine wpli_region ?_
      all_goals refine wpli_preC 2 ?_
      all_goals simp only [List.take_succ_cons, List.take_zero, List.drop_succ_cons, List.drop_zero]
      all_goals refine smove rfl ?_
      all_goals (refine sloadpw rfl rfl rfl rfl ?_)
      all_goals refine asemC_end ?_
      all_goals refine wpli_y (c := c) (ts := tsA 5) (id := 7) [5, 8] (xs := [nruleA ⟨4, o.head, symN g (nth r.body k), N, o.price, o.origin⟩]) rfl rfl rfl rfl (by rw [hcp]; rfl) (by decide) (bin_lend hcp rfl rfl) (hR A ⟨4, o.head, symN g (nth r.body k), N, o.price, o.origin⟩ (by rw [hA, List.length_append, List.length_take]; omega)) ?_
      all_goals rw [bin_upd]
      all_goals simp only [List.length_cons, List.length_nil, Nat.reduceAdd, Nat.reduceSub]
      all_goals refine wpli_endC ?_
      all_goals refine su (anot rfl) ?_
      all_goals refine asemC_end ?_
      all_goals ((repeat' (first | apply jH | apply jI | apply jN | (refine wp_cond rfl (fun hc => ?_) (fun hc => ?_) <;> (try simp only [sB, ne_eq, reduceCtorEq] at hc) <;> (try (exfalso; omega))) | (refine WP.regionC (id := 12) ?_; (refine sfieldp rfl rfl rfl ?_); (refine sloadp rfl rfl rfl rfl ?_); (refine su (ap_build (RqP.cons (rq_p rfl rfl) (RqP.cons (rq_p rfl rfl) (RqP.nil))) rfl) ?_); (refine se_store_b rfl rfl rfl rfl ?_); apply jW) | (refine WP.regionC (id := 9) ?_; (refine smove rfl ?_); (refine su (ap_slice_m (rq_p rfl rfl) (by exact bq_some (rq_p rfl rfl)) (by exact bq_none) (by (simp only [sL] <;> omega))) ?_); (refine sassign rfl ?_); apply jW))))
      all_goals rw [hdd]
      all_goals refine ⟨(k + 1, A ++ [⟨4, o.head, symN g (nth r.body k), N, o.price, o.origin⟩], N + 1, ⟨0, N, 0, 0, 0, -1⟩), ⟨by dsimp only; omega, by dsimp only; omega, hnext, by dsimp only; omega, hlast⟩, ⟨[0, 1, 2, 3, 4, 5, 6, 7, 10, 9], ToR.S rfl (by repeat' (first | exact rt_nil | refine rt_t rfl rfl ?_ | refine rt_e rfl rfl ?_ | refine rt_p rfl rfl (by first | (simp [AV.bd, bdL, bdL_append]; done) | fail) ?_)) (by repeat' (first | exact ro_nil | refine ro_l rfl (by first | exact rfl | fail) ?_ | refine ro_e rfl rfl ?_ | refine ro_p rfl (by first | exact rfl | fail) (by first | exact bdL_map (fun _ => by exact rfl) _ | (simp [bdL, bdL_append, AV.bd]; done) | fail) ?_ | refine ro_m rfl rfl (mapA_bd (fun _ => by exact rfl) _) ?_)) rfl (by (rw [hm]; exact rfl)) rfl (by (simp [bdT, AV.bd, bdL, bdL_append]; done)) (by repeat' (first | exact True.intro | exact rfl | exact mapA_all (fun _ => by exact rfl) _ | refine And.intro ?_ ?_ | exact bdL_map (fun _ => by exact rfl) _ | (simp [bdOq, bdL, bdL_append, AV.bd]; done))) (by (rw [hm]; exact Nat.le_of_ble_eq_true rfl))⟩⟩
    · have hdl : (r.body.drop k).length = r.body.length - k := List.length_drop
      have hk2 : k = r.body.length - 2 := by omega
      have hdl2 : (r.body.drop k).length = 2 := by omega
      have e0 : nth (r.body.drop k) 0 = nth r.body k := by rw [hdrop k (by omega)]; rfl
      have e1 : nth (r.body.drop k) 1 = nth r.body (k + 1) := by rw [hdrop k (by omega), hdrop (k + 1) (by omega)]; rfl
      have b0 := hb _ (nth_mem (show k < r.body.length by omega))
      have b1 := hb _ (nth_mem (show k + 1 < r.body.length by omega))
      have x0 := hs _ (nth_mem (show k < r.body.length by omega))
      have x1 := hs _ (nth_mem (show k + 1 < r.body.length by omega))
      have hof0 := nof_fn m N (nth (r.body.drop k) 0) (by omega) (by omega)
      have hof1 := nof_fn m N (nth (r.body.drop k) 1) (by omega) (by omega)
      have y0 : (if nth (r.body.drop k) 0 < 0 then -1 - nth (r.body.drop k) 0 else (aget m (nth (r.body.drop k) 0)).getD 0) = symN g (nth r.body k) := by rw [← x0, e0]; rfl
      have y1 : (if nth (r.body.drop k) 1 < 0 then -1 - nth (r.body.drop k) 1 else (aget m (nth (r.body.drop k) 1)).getD 0) = symN g (nth r.body (k + 1)) := by rw [← x1, e1]; rfl
      rw [y0] at hof0
      rw [y1] at hof1
      unfold nmA nmM at hof0 hof1
      have hNe : N = nx + extraN r := by unfold extraN; omega
      have hfin : A ++ [(⟨4, o.head, symN g (nth r.body k), symN g (nth r.body (k + 1)), o.price, o.origin⟩ : NRul)] = acc ++ chn g r.head r.price i nx r.body := by
        have hcl := chn_len g r.body r.head r.price i nx
        have hcx := chn_nth g r.body r.head r.price i nx k hb2 hk
        have hkc : k < (chn g r.head r.price i nx r.body).length := by omega
        have e1 : (chn g r.head r.price i nx r.body)[k] = nth (chn g r.head r.price i nx r.body) k := by simp [nth, List.getD, List.getElem?_eq_getElem hkc]
        have e2 : chn g r.head r.price i nx r.body = (chn g r.head r.price i nx r.body).take (k + 1) := (List.take_of_length_le (by omega)).symm
        rw [e2, List.take_add_one, List.getElem?_eq_getElem hkc, e1, hcx, if_pos hk2, hA, ho]
        simp
      (repeat' (first | apply jA | apply jH | apply jJ | apply jL | apply jP | (refine wp_cond rfl (fun hc => ?_) (fun hc => ?_) <;> (try simp only [sB, ne_eq, reduceCtorEq] at hc) <;> (try (exfalso; omega))) | (refine WP.regionC (id := 8) ?_; (refine smove rfl ?_); (refine slenm rfl rfl ?_); (refine su (agtr rfl rfl) ?_); apply jW) | (refine WP.regionC (id := 13) ?_; (refine smove rfl ?_); (refine slenm rfl rfl ?_); (refine seql rfl rfl ?_); apply jW)))
      (repeat' (first | apply jH | (refine wp_tree (id := 14) 16 mixed rfl ?_ <;> (refine wpt_take 1 rfl still_move (by exact ap_move (rq_p rfl rfl)) (by kernel_rfl) (by kernel_rfl) (by kernel_rfl) (by repeat (first | exact pind_q | apply pind_then)) ?_; (refine wpt_take 6 rfl still_move (by exact ap_move (rq_p rfl rfl)) (by kernel_rfl) (by kernel_rfl) (by kernel_rfl) (by repeat (first | exact pind_q | apply pind_then)) ?_; (refine wpt_take 10 rfl (by exact still_fieldAddr rfl rfl) (by exact ap_field_p (rq_p rfl rfl) rfl rfl) (by kernel_rfl) (by kernel_rfl) (by kernel_rfl) (by repeat (first | exact pind_q | apply pind_then)) ?_; (refine wpt_takeN 0 [4, 9, 11, 12, 13, 14, 15] rfl (by exact ap_load_pw (rq_p rfl rfl) rfl rfl rfl) (by kernel_rfl) (by kernel_rfl) (by kernel_rfl) (by kernel_rfl) (by repeat (first | exact pind_q | apply pind_then)) ?_; (refine wpt_takeN 2 [3, 4, 9, 11, 12, 13, 14, 15] rfl (by exact ap_idx_n (rq_p rfl rfl) (rq_p rfl rfl) (by (simp only [sL] <;> omega))) (by kernel_rfl) (by kernel_rfl) (by kernel_rfl) (by kernel_rfl) (by repeat (first | exact pind_q | apply pind_then)) ?_; (refine wpt_takeN 3 [4, 9, 11, 12, 13, 14, 15] rfl (by exact ap_load_w (rq_p rfl rfl) rfl) (by kernel_rfl) (by kernel_rfl) (by kernel_rfl) (by kernel_rfl) (by repeat (first | exact pind_q | apply pind_then)) ?_; (refine wpt_all (rs := [4, 5, 7]) (by kernel_rfl) rfl ⟨?_, ?_, ?_, trivial⟩ <;> (first | (refine wpo_do (i := 4) rfl rfl ?_; (refine sc_o [3, 4] rfl rfl (hof0) (Lend.S (by first | ((repeat' first | exact RenL.nil | refine RenL.cons rfl ?_); done) | fail) (by first | ((repeat' first | exact LendO.nil | refine LendO.map rfl (by first | (simp [mapA, AV.ren, intA]; done) | fail) ?_ | refine LendO.arr rfl rfl ?_); done) | fail) (by decide) rfl (by simp [AV.bd, bdL, bdL_append]) (by repeat' (first | exact True.intro | refine And.intro ?_ ?_ | (simp [mapA, AV.bd, intA]; done) | simp [AV.bd, bdL, bdL_append]))) ?_; simp only [updN, newO, AObj.ren, renL, AV.ren, apx, ap, if_true, if_false, Nat.reduceLT, Nat.reduceAdd, Nat.reduceSub, sO, intA, boolA, strA, ren_mapI]); apply jW; (refine wpt_takeN 5 [9, 11, 12, 13, 14, 15] rfl (by exact ap_load_pw (rq_p rfl rfl) rfl rfl rfl) (by kernel_rfl) (by kernel_rfl) (by kernel_rfl) (by kernel_rfl) (by repeat (first | exact pind_q | apply pind_then)) ?_; (refine wpt_takeN 7 [8, 9, 11, 12, 13, 14, 15] rfl (by exact ap_idx_n (rq_p rfl rfl) (rq_p rfl rfl) (by (simp only [sL] <;> omega))) (by kernel_rfl) (by kernel_rfl) (by kernel_rfl) (by kernel_rfl) (by repeat (first | exact pind_q | apply pind_then)) ?_; (refine wpt_takeN 8 [9, 11, 12, 13, 14, 15] rfl (by exact ap_load_w (rq_p rfl rfl) rfl) (by kernel_rfl) (by kernel_rfl) (by kernel_rfl) (by kernel_rfl) (by repeat (first | exact pind_q | apply pind_then)) ?_; (refine wpt_all (rs := [9]) (by kernel_rfl) rfl ⟨?_, trivial⟩; (refine wpo_do (i := 9) rfl rfl ?_; (refine sc_o [3, 4] rfl rfl (hof1) (Lend.S (by first | ((repeat' first | exact RenL.nil | refine RenL.cons rfl ?_); done) | fail) (by first | ((repeat' first | exact LendO.nil | refine LendO.map rfl (by first | (simp [mapA, AV.ren, intA]; done) | fail) ?_ | refine LendO.arr rfl rfl ?_); done) | fail) (by decide) rfl (by simp [AV.bd, bdL, bdL_append]) (by repeat' (first | exact True.intro | refine And.intro ?_ ?_ | (simp [mapA, AV.bd, intA]; done) | simp [AV.bd, bdL, bdL_append]))) ?_; simp only [updN, newO, AObj.ren, renL, AV.ren, apx, ap, if_true, if_false, Nat.reduceLT, Nat.reduceAdd, Nat.reduceSub, sO, intA, boolA, strA, ren_mapI]); apply jW; (refine wpt_all (rs := [11]) (by kernel_rfl) rfl ⟨?_, trivial⟩; (refine wpo_do (i := 11) rfl rfl ?_; (refine se_store_b rfl rfl rfl rfl ?_); apply jW; (refine wpt_take 12 rfl (by exact still_fieldAddr rfl rfl) (by exact ap_field_p (rq_p rfl rfl) rfl rfl) (by kernel_rfl) (by kernel_rfl) (by kernel_rfl) (by repeat (first | exact pind_q | apply pind_then)) ?_; (refine wpt_all (rs := [13]) (by kernel_rfl) rfl ⟨?_, trivial⟩; (refine wpo_do (i := 13) rfl rfl ?_; (refine se_store_b rfl rfl rfl rfl ?_); apply jW; (refine wpt_take 14 rfl (by exact still_fieldAddr rfl rfl) (by exact ap_field_p (rq_p rfl rfl) rfl rfl) (by kernel_rfl) (by kernel_rfl) (by kernel_rfl) (by repeat (first | exact pind_q | apply pind_then)) ?_; (refine wpt_all (rs := [15]) (by kernel_rfl) rfl ⟨?_, trivial⟩; (refine wpo_do (i := 15) rfl rfl ?_; (refine se_store_b rfl rfl rfl rfl ?_); apply jW; (refine wpt_end (by kernel_rfl) ?_))))))))))))))) | (refine wpo_do (i := 5) rfl rfl ?_; (refine sloadpw rfl rfl rfl rfl ?_); apply jW; (refine wpt_all (rs := [4, 7]) (by kernel_rfl) rfl ⟨?_, ?_, trivial⟩ <;> (first | (refine wpo_do (i := 4) rfl rfl ?_; (refine sc_o [3, 4] rfl rfl (hof0) (Lend.S (by first | ((repeat' first | exact RenL.nil | refine RenL.cons rfl ?_); done) | fail) (by first | ((repeat' first | exact LendO.nil | refine LendO.map rfl (by first | (simp [mapA, AV.ren, intA]; done) | fail) ?_ | refine LendO.arr rfl rfl ?_); done) | fail) (by decide) rfl (by simp [AV.bd, bdL, bdL_append]) (by repeat' (first | exact True.intro | refine And.intro ?_ ?_ | (simp [mapA, AV.bd, intA]; done) | simp [AV.bd, bdL, bdL_append]))) ?_; simp only [updN, newO, AObj.ren, renL, AV.ren, apx, ap, if_true, if_false, Nat.reduceLT, Nat.reduceAdd, Nat.reduceSub, sO, intA, boolA, strA, ren_mapI]); apply jW; (refine wpt_takeN 7 [8, 9, 11, 12, 13, 14, 15] rfl (by exact ap_idx_n (rq_p rfl rfl) (rq_p rfl rfl) (by (simp only [sL] <;> omega))) (by kernel_rfl) (by kernel_rfl) (by kernel_rfl) (by kernel_rfl) (by repeat (first | exact pind_q | apply pind_then)) ?_; (refine wpt_takeN 8 [9, 11, 12, 13, 14, 15] rfl (by exact ap_load_w (rq_p rfl rfl) rfl) (by kernel_rfl) (by kernel_rfl) (by kernel_rfl) (by kernel_rfl) (by repeat (first | exact pind_q | apply pind_then)) ?_; (refine wpt_all (rs := [9]) (by kernel_rfl) rfl ⟨?_, trivial⟩; (refine wpo_do (i := 9) rfl rfl ?_; (refine sc_o [3, 4] rfl rfl (hof1) (Lend.S (by first | ((repeat' first | exact RenL.nil | refine RenL.cons rfl ?_); done) | fail) (by first | ((repeat' first | exact LendO.nil | refine LendO.map rfl (by first | (simp [mapA, AV.ren, intA]; done) | fail) ?_ | refine LendO.arr rfl rfl ?_); done) | fail) (by decide) rfl (by simp [AV.bd, bdL, bdL_append]) (by repeat' (first | exact True.intro | refine And.intro ?_ ?_ | (simp [mapA, AV.bd, intA]; done) | simp [AV.bd, bdL, bdL_append]))) ?_; simp only [updN, newO, AObj.ren, renL, AV.ren, apx, ap, if_true, if_false, Nat.reduceLT, Nat.reduceAdd, Nat.reduceSub, sO, intA, boolA, strA, ren_mapI]); apply jW; (refine wpt_all (rs := [11]) (by kernel_rfl) rfl ⟨?_, trivial⟩; (refine wpo_do (i := 11) rfl rfl ?_; (refine se_store_b rfl rfl rfl rfl ?_); apply jW; (refine wpt_take 12 rfl (by exact still_fieldAddr rfl rfl) (by exact ap_field_p (rq_p rfl rfl) rfl rfl) (by kernel_rfl) (by kernel_rfl) (by kernel_rfl) (by repeat (first | exact pind_q | apply pind_then)) ?_; (refine wpt_all (rs := [13]) (by kernel_rfl) rfl ⟨?_, trivial⟩; (refine wpo_do (i := 13) rfl rfl ?_; (refine se_store_b rfl rfl rfl rfl ?_); apply jW; (refine wpt_take 14 rfl (by exact still_fieldAddr rfl rfl) (by exact ap_field_p (rq_p rfl rfl) rfl rfl) (by kernel_rfl) (by kernel_rfl) (by kernel_rfl) (by repeat (first | exact pind_q | apply pind_then)) ?_; (refine wpt_all (rs := [15]) (by kernel_rfl) rfl ⟨?_, trivial⟩; (refine wpo_do (i := 15) rfl rfl ?_; (refine se_store_b rfl rfl rfl rfl ?_); apply jW; (refine wpt_end (by kernel_rfl) ?_)))))))))))))) | (refine wpo_do (i := 7) rfl rfl ?_; (refine sidxn rfl rfl (by (simp only [sL] <;> omega)) ?_); apply jW; (refine wpt_all (rs := [4, 8]) (by kernel_rfl) rfl ⟨?_, ?_, trivial⟩ <;> (first | (refine wpo_do (i := 4) rfl rfl ?_; (refine sc_o [3, 4] rfl rfl (hof0) (Lend.S (by first | ((repeat' first | exact RenL.nil | refine RenL.cons rfl ?_); done) | fail) (by first | ((repeat' first | exact LendO.nil | refine LendO.map rfl (by first | (simp [mapA, AV.ren, intA]; done) | fail) ?_ | refine LendO.arr rfl rfl ?_); done) | fail) (by decide) rfl (by simp [AV.bd, bdL, bdL_append]) (by repeat' (first | exact True.intro | refine And.intro ?_ ?_ | (simp [mapA, AV.bd, intA]; done) | simp [AV.bd, bdL, bdL_append]))) ?_; simp only [updN, newO, AObj.ren, renL, AV.ren, apx, ap, if_true, if_false, Nat.reduceLT, Nat.reduceAdd, Nat.reduceSub, sO, intA, boolA, strA, ren_mapI]); apply jW; (refine wpt_takeN 8 [9, 11, 12, 13, 14, 15] rfl (by exact ap_load_w (rq_p rfl rfl) rfl) (by kernel_rfl) (by kernel_rfl) (by kernel_rfl) (by kernel_rfl) (by repeat (first | exact pind_q | apply pind_then)) ?_; (refine wpt_all (rs := [9]) (by kernel_rfl) rfl ⟨?_, trivial⟩; (refine wpo_do (i := 9) rfl rfl ?_; (refine sc_o [3, 4] rfl rfl (hof1) (Lend.S (by first | ((repeat' first | exact RenL.nil | refine RenL.cons rfl ?_); done) | fail) (by first | ((repeat' first | exact LendO.nil | refine LendO.map rfl (by first | (simp [mapA, AV.ren, intA]; done) | fail) ?_ | refine LendO.arr rfl rfl ?_); done) | fail) (by decide) rfl (by simp [AV.bd, bdL, bdL_append]) (by repeat' (first | exact True.intro | refine And.intro ?_ ?_ | (simp [mapA, AV.bd, intA]; done) | simp [AV.bd, bdL, bdL_append]))) ?_; simp only [updN, newO, AObj.ren, renL, AV.ren, apx, ap, if_true, if_false, Nat.reduceLT, Nat.reduceAdd, Nat.reduceSub, sO, intA, boolA, strA, ren_mapI]); apply jW; (refine wpt_all (rs := [11]) (by kernel_rfl) rfl ⟨?_, trivial⟩; (refine wpo_do (i := 11) rfl rfl ?_; (refine se_store_b rfl rfl rfl rfl ?_); apply jW; (refine wpt_take 12 rfl (by exact still_fieldAddr rfl rfl) (by exact ap_field_p (rq_p rfl rfl) rfl rfl) (by kernel_rfl) (by kernel_rfl) (by kernel_rfl) (by repeat (first | exact pind_q | apply pind_then)) ?_; (refine wpt_all (rs := [13]) (by kernel_rfl) rfl ⟨?_, trivial⟩; (refine wpo_do (i := 13) rfl rfl ?_; (refine se_store_b rfl rfl rfl rfl ?_); apply jW; (refine wpt_take 14 rfl (by exact still_fieldAddr rfl rfl) (by exact ap_field_p (rq_p rfl rfl) rfl rfl) (by kernel_rfl) (by kernel_rfl) (by kernel_rfl) (by repeat (first | exact pind_q | apply pind_then)) ?_; (refine wpt_all (rs := [15]) (by kernel_rfl) rfl ⟨?_, trivial⟩; (refine wpo_do (i := 15) rfl rfl ?_; (refine se_store_b rfl rfl rfl rfl ?_); apply jW; (refine wpt_end (by kernel_rfl) ?_))))))))))))) | (refine wpo_do (i := 8) rfl rfl ?_; (refine sloadw rfl rfl ?_); apply jW; (refine wpt_all (rs := [4]) (by kernel_rfl) rfl ⟨?_, trivial⟩; (refine wpo_do (i := 4) rfl rfl ?_; (refine sc_o [3, 4] rfl rfl (hof0) (Lend.S (by first | ((repeat' first | exact RenL.nil | refine RenL.cons rfl ?_); done) | fail) (by first | ((repeat' first | exact LendO.nil | refine LendO.map rfl (by first | (simp [mapA, AV.ren, intA]; done) | fail) ?_ | refine LendO.arr rfl rfl ?_); done) | fail) (by decide) rfl (by simp [AV.bd, bdL, bdL_append]) (by repeat' (first | exact True.intro | refine And.intro ?_ ?_ | (simp [mapA, AV.bd, intA]; done) | simp [AV.bd, bdL, bdL_append]))) ?_; simp only [updN, newO, AObj.ren, renL, AV.ren, apx, ap, if_true, if_false, Nat.reduceLT, Nat.reduceAdd, Nat.reduceSub, sO, intA, boolA, strA, ren_mapI]); apply jW; (refine wpt_all (rs := [9]) (by kernel_rfl) rfl ⟨?_, trivial⟩; (refine wpo_do (i := 9) rfl rfl ?_; (refine sc_o [3, 4] rfl rfl (hof1) (Lend.S (by first | ((repeat' first | exact RenL.nil | refine RenL.cons rfl ?_); done) | fail) (by first | ((repeat' first | exact LendO.nil | refine LendO.map rfl (by first | (simp [mapA, AV.ren, intA]; done) | fail) ?_ | refine LendO.arr rfl rfl ?_); done) | fail) (by decide) rfl (by simp [AV.bd, bdL, bdL_append]) (by repeat' (first | exact True.intro | refine And.intro ?_ ?_ | (simp [mapA, AV.bd, intA]; done) | simp [AV.bd, bdL, bdL_append]))) ?_; simp only [updN, newO, AObj.ren, renL, AV.ren, apx, ap, if_true, if_false, Nat.reduceLT, Nat.reduceAdd, Nat.reduceSub, sO, intA, boolA, strA, ren_mapI]); apply jW; (refine wpt_all (rs := [11]) (by kernel_rfl) rfl ⟨?_, trivial⟩; (refine wpo_do (i := 11) rfl rfl ?_; (refine se_store_b rfl rfl rfl rfl ?_); apply jW; (refine wpt_take 12 rfl (by exact still_fieldAddr rfl rfl) (by exact ap_field_p (rq_p rfl rfl) rfl rfl) (by kernel_rfl) (by kernel_rfl) (by kernel_rfl) (by repeat (first | exact pind_q | apply pind_then)) ?_; (refine wpt_all (rs := [13]) (by kernel_rfl) rfl ⟨?_, trivial⟩; (refine wpo_do (i := 13) rfl rfl ?_; (refine se_store_b rfl rfl rfl rfl ?_); apply jW; (refine wpt_take 14 rfl (by exact still_fieldAddr rfl rfl) (by exact ap_field_p (rq_p rfl rfl) rfl rfl) (by kernel_rfl) (by kernel_rfl) (by kernel_rfl) (by repeat (first | exact pind_q | apply pind_then)) ?_; (refine wpt_all (rs := [15]) (by kernel_rfl) rfl ⟨?_, trivial⟩; (refine wpo_do (i := 15) rfl rfl ?_; (refine se_store_b rfl rfl rfl rfl ?_); apply jW; (refine wpt_end (by kernel_rfl) ?_)))))))))))))))))))) | (refine wpo_do (i := 7) rfl rfl ?_; (refine sidxn rfl rfl (by (simp only [sL] <;> omega)) ?_); apply jW; (refine wpt_all (rs := [4, 5, 8]) (by kernel_rfl) rfl ⟨?_, ?_, ?_, trivial⟩ <;> (first | (refine wpo_do (i := 4) rfl rfl ?_; (refine sc_o [3, 4] rfl rfl (hof0) (Lend.S (by first | ((repeat' first | exact RenL.nil | refine RenL.cons rfl ?_); done) | fail) (by first | ((repeat' first | exact LendO.nil | refine LendO.map rfl (by first | (simp [mapA, AV.ren, intA]; done) | fail) ?_ | refine LendO.arr rfl rfl ?_); done) | fail) (by decide) rfl (by simp [AV.bd, bdL, bdL_append]) (by repeat' (first | exact True.intro | refine And.intro ?_ ?_ | (simp [mapA, AV.bd, intA]; done) | simp [AV.bd, bdL, bdL_append]))) ?_; simp only [updN, newO, AObj.ren, renL, AV.ren, apx, ap, if_true, if_false, Nat.reduceLT, Nat.reduceAdd, Nat.reduceSub, sO, intA, boolA, strA, ren_mapI]); apply jW; (refine wpt_takeN 5 [9, 11, 12, 13, 14, 15] rfl (by exact ap_load_pw (rq_p rfl rfl) rfl rfl rfl) (by kernel_rfl) (by kernel_rfl) (by kernel_rfl) (by kernel_rfl) (by repeat (first | exact pind_q | apply pind_then)) ?_; (refine wpt_takeN 8 [9, 11, 12, 13, 14, 15] rfl (by exact ap_load_w (rq_p rfl rfl) rfl) (by kernel_rfl) (by kernel_rfl) (by kernel_rfl) (by kernel_rfl) (by repeat (first | exact pind_q | apply pind_then)) ?_; (refine wpt_all (rs := [9]) (by kernel_rfl) rfl ⟨?_, trivial⟩; (refine wpo_do (i := 9) rfl rfl ?_; (refine sc_o [3, 4] rfl rfl (hof1) (Lend.S (by first | ((repeat' first | exact RenL.nil | refine RenL.cons rfl ?_); done) | fail) (by first | ((repeat' first | exact LendO.nil | refine LendO.map rfl (by first | (simp [mapA, AV.ren, intA]; done) | fail) ?_ | refine LendO.arr rfl rfl ?_); done) | fail) (by decide) rfl (by simp [AV.bd, bdL, bdL_append]) (by repeat' (first | exact True.intro | refine And.intro ?_ ?_ | (simp [mapA, AV.bd, intA]; done) | simp [AV.bd, bdL, bdL_append]))) ?_; simp only [updN, newO, AObj.ren, renL, AV.ren, apx, ap, if_true, if_false, Nat.reduceLT, Nat.reduceAdd, Nat.reduceSub, sO, intA, boolA, strA, ren_mapI]); apply jW; (refine wpt_all (rs := [11]) (by kernel_rfl) rfl ⟨?_, trivial⟩; (refine wpo_do (i := 11) rfl rfl ?_; (refine se_store_b rfl rfl rfl rfl ?_); apply jW; (refine wpt_take 12 rfl (by exact still_fieldAddr rfl rfl) (by exact ap_field_p (rq_p rfl rfl) rfl rfl) (by kernel_rfl) (by kernel_rfl) (by kernel_rfl) (by repeat (first | exact pind_q | apply pind_then)) ?_; (refine wpt_all (rs := [13]) (by kernel_rfl) rfl ⟨?_, trivial⟩; (refine wpo_do (i := 13) rfl rfl ?_; (refine se_store_b rfl rfl rfl rfl ?_); apply jW; (refine wpt_take 14 rfl (by exact still_fieldAddr rfl rfl) (by exact ap_field_p (rq_p rfl rfl) rfl rfl) (by kernel_rfl) (by kernel_rfl) (by kernel_rfl) (by repeat (first | exact pind_q | apply pind_then)) ?_; (refine wpt_all (rs := [15]) (by kernel_rfl) rfl ⟨?_, trivial⟩; (refine wpo_do (i := 15) rfl rfl ?_; (refine se_store_b rfl rfl rfl rfl ?_); apply jW; (refine wpt_end (by kernel_rfl) ?_)))))))))))))) | (refine wpo_do (i := 5) rfl rfl ?_; (refine sloadpw rfl rfl rfl rfl ?_); apply jW; (refine wpt_all (rs := [4, 8]) (by kernel_rfl) rfl ⟨?_, ?_, trivial⟩ <;> (first | (refine wpo_do (i := 4) rfl rfl ?_; (refine sc_o [3, 4] rfl rfl (hof0) (Lend.S (by first | ((repeat' first | exact RenL.nil | refine RenL.cons rfl ?_); done) | fail) (by first | ((repeat' first | exact LendO.nil | refine LendO.map rfl (by first | (simp [mapA, AV.ren, intA]; done) | fail) ?_ | refine LendO.arr rfl rfl ?_); done) | fail) (by decide) rfl (by simp [AV.bd, bdL, bdL_append]) (by repeat' (first | exact True.intro | refine And.intro ?_ ?_ | (simp [mapA, AV.bd, intA]; done) | simp [AV.bd, bdL, bdL_append]))) ?_; simp only [updN, newO, AObj.ren, renL, AV.ren, apx, ap, if_true, if_false, Nat.reduceLT, Nat.reduceAdd, Nat.reduceSub, sO, intA, boolA, strA, ren_mapI]); apply jW; (refine wpt_takeN 8 [9, 11, 12, 13, 14, 15] rfl (by exact ap_load_w (rq_p rfl rfl) rfl) (by kernel_rfl) (by kernel_rfl) (by kernel_rfl) (by kernel_rfl) (by repeat (first | exact pind_q | apply pind_then)) ?_; (refine wpt_all (rs := [9]) (by kernel_rfl) rfl ⟨?_, trivial⟩; (refine wpo_do (i := 9) rfl rfl ?_; (refine sc_o [3, 4] rfl rfl (hof1) (Lend.S (by first | ((repeat' first | exact RenL.nil | refine RenL.cons rfl ?_); done) | fail) (by first | ((repeat' first | exact LendO.nil | refine LendO.map rfl (by first | (simp [mapA, AV.ren, intA]; done) | fail) ?_ | refine LendO.arr rfl rfl ?_); done) | fail) (by decide) rfl (by simp [AV.bd, bdL, bdL_append]) (by repeat' (first | exact True.intro | refine And.intro ?_ ?_ | (simp [mapA, AV.bd, intA]; done) | simp [AV.bd, bdL, bdL_append]))) ?_; simp only [updN, newO, AObj.ren, renL, AV.ren, apx, ap, if_true, if_false, Nat.reduceLT, Nat.reduceAdd, Nat.reduceSub, sO, intA, boolA, strA, ren_mapI]); apply jW; (refine wpt_all (rs := [11]) (by kernel_rfl) rfl ⟨?_, trivial⟩; (refine wpo_do (i := 11) rfl rfl ?_; (refine se_store_b rfl rfl rfl rfl ?_); apply jW; (refine wpt_take 12 rfl (by exact still_fieldAddr rfl rfl) (by exact ap_field_p (rq_p rfl rfl) rfl rfl) (by kernel_rfl) (by kernel_rfl) (by kernel_rfl) (by repeat (first | exact pind_q | apply pind_then)) ?_; (refine wpt_all (rs := [13]) (by kernel_rfl) rfl ⟨?_, trivial⟩; (refine wpo_do (i := 13) rfl rfl ?_; (refine se_store_b rfl rfl rfl rfl ?_); apply jW; (refine wpt_take 14 rfl (by exact still_fieldAddr rfl rfl) (by exact ap_field_p (rq_p rfl rfl) rfl rfl) (by kernel_rfl) (by kernel_rfl) (by kernel_rfl) (by repeat (first | exact pind_q | apply pind_then)) ?_; (refine wpt_all (rs := [15]) (by kernel_rfl) rfl ⟨?_, trivial⟩; (refine wpo_do (i := 15) rfl rfl ?_; (refine se_store_b rfl rfl rfl rfl ?_); apply jW; (refine wpt_end (by kernel_rfl) ?_))))))))))))) | (refine wpo_do (i := 8) rfl rfl ?_; (refine sloadw rfl rfl ?_); apply jW; (refine wpt_all (rs := [4]) (by kernel_rfl) rfl ⟨?_, trivial⟩; (refine wpo_do (i := 4) rfl rfl ?_; (refine sc_o [3, 4] rfl rfl (hof0) (Lend.S (by first | ((repeat' first | exact RenL.nil | refine RenL.cons rfl ?_); done) | fail) (by first | ((repeat' first | exact LendO.nil | refine LendO.map rfl (by first | (simp [mapA, AV.ren, intA]; done) | fail) ?_ | refine LendO.arr rfl rfl ?_); done) | fail) (by decide) rfl (by simp [AV.bd, bdL, bdL_append]) (by repeat' (first | exact True.intro | refine And.intro ?_ ?_ | (simp [mapA, AV.bd, intA]; done) | simp [AV.bd, bdL, bdL_append]))) ?_; simp only [updN, newO, AObj.ren, renL, AV.ren, apx, ap, if_true, if_false, Nat.reduceLT, Nat.reduceAdd, Nat.reduceSub, sO, intA, boolA, strA, ren_mapI]); apply jW; (refine wpt_all (rs := [9]) (by kernel_rfl) rfl ⟨?_, trivial⟩; (refine wpo_do (i := 9) rfl rfl ?_; (refine sc_o [3, 4] rfl rfl (hof1) (Lend.S (by first | ((repeat' first | exact RenL.nil | refine RenL.cons rfl ?_); done) | fail) (by first | ((repeat' first | exact LendO.nil | refine LendO.map rfl (by first | (simp [mapA, AV.ren, intA]; done) | fail) ?_ | refine LendO.arr rfl rfl ?_); done) | fail) (by decide) rfl (by simp [AV.bd, bdL, bdL_append]) (by repeat' (first | exact True.intro | refine And.intro ?_ ?_ | (simp [mapA, AV.bd, intA]; done) | simp [AV.bd, bdL, bdL_append]))) ?_; simp only [updN, newO, AObj.ren, renL, AV.ren, apx, ap, if_true, if_false, Nat.reduceLT, Nat.reduceAdd, Nat.reduceSub, sO, intA, boolA, strA, ren_mapI]); apply jW; (refine wpt_all (rs := [11]) (by kernel_rfl) rfl ⟨?_, trivial⟩; (refine wpo_do (i := 11) rfl rfl ?_; (refine se_store_b rfl rfl rfl rfl ?_); apply jW; (refine wpt_take 12 rfl (by exact still_fieldAddr rfl rfl) (by exact ap_field_p (rq_p rfl rfl) rfl rfl) (by kernel_rfl) (by kernel_rfl) (by kernel_rfl) (by repeat (first | exact pind_q | apply pind_then)) ?_; (refine wpt_all (rs := [13]) (by kernel_rfl) rfl ⟨?_, trivial⟩; (refine wpo_do (i := 13) rfl rfl ?_; (refine se_store_b rfl rfl rfl rfl ?_); apply jW; (refine wpt_take 14 rfl (by exact still_fieldAddr rfl rfl) (by exact ap_field_p (rq_p rfl rfl) rfl rfl) (by kernel_rfl) (by kernel_rfl) (by kernel_rfl) (by repeat (first | exact pind_q | apply pind_then)) ?_; (refine wpt_all (rs := [15]) (by kernel_rfl) rfl ⟨?_, trivial⟩; (refine wpo_do (i := 15) rfl rfl ?_; (refine se_store_b rfl rfl rfl rfl ?_); apply jW; (refine wpt_end (by kernel_rfl) ?_))))))))))))))))) | (refine wpo_do (i := 8) rfl rfl ?_; (refine sloadw rfl rfl ?_); apply jW; (refine wpt_all (rs := [4, 5]) (by kernel_rfl) rfl ⟨?_, ?_, trivial⟩ <;> (first | (refine wpo_do (i := 4) rfl rfl ?_; (refine sc_o [3, 4] rfl rfl (hof0) (Lend.S (by first | ((repeat' first | exact RenL.nil | refine RenL.cons rfl ?_); done) | fail) (by first | ((repeat' first | exact LendO.nil | refine LendO.map rfl (by first | (simp [mapA, AV.ren, intA]; done) | fail) ?_ | refine LendO.arr rfl rfl ?_); done) | fail) (by decide) rfl (by simp [AV.bd, bdL, bdL_append]) (by repeat' (first | exact True.intro | refine And.intro ?_ ?_ | (simp [mapA, AV.bd, intA]; done) | simp [AV.bd, bdL, bdL_append]))) ?_; simp only [updN, newO, AObj.ren, renL, AV.ren, apx, ap, if_true, if_false, Nat.reduceLT, Nat.reduceAdd, Nat.reduceSub, sO, intA, boolA, strA, ren_mapI]); apply jW; (refine wpt_takeN 5 [9, 11, 12, 13, 14, 15] rfl (by exact ap_load_pw (rq_p rfl rfl) rfl rfl rfl) (by kernel_rfl) (by kernel_rfl) (by kernel_rfl) (by kernel_rfl) (by repeat (first | exact pind_q | apply pind_then)) ?_; (refine wpt_all (rs := [9]) (by kernel_rfl) rfl ⟨?_, trivial⟩; (refine wpo_do (i := 9) rfl rfl ?_; (refine sc_o [3, 4] rfl rfl (hof1) (Lend.S (by first | ((repeat' first | exact RenL.nil | refine RenL.cons rfl ?_); done) | fail) (by first | ((repeat' first | exact LendO.nil | refine LendO.map rfl (by first | (simp [mapA, AV.ren, intA]; done) | fail) ?_ | refine LendO.arr rfl rfl ?_); done) | fail) (by decide) rfl (by simp [AV.bd, bdL, bdL_append]) (by repeat' (first | exact True.intro | refine And.intro ?_ ?_ | (simp [mapA, AV.bd, intA]; done) | simp [AV.bd, bdL, bdL_append]))) ?_; simp only [updN, newO, AObj.ren, renL, AV.ren, apx, ap, if_true, if_false, Nat.reduceLT, Nat.reduceAdd, Nat.reduceSub, sO, intA, boolA, strA, ren_mapI]); apply jW; (refine wpt_all (rs := [11]) (by kernel_rfl) rfl ⟨?_, trivial⟩; (refine wpo_do (i := 11) rfl rfl ?_; (refine se_store_b rfl rfl rfl rfl ?_); apply jW; (refine wpt_take 12 rfl (by exact still_fieldAddr rfl rfl) (by exact ap_field_p (rq_p rfl rfl) rfl rfl) (by kernel_rfl) (by kernel_rfl) (by kernel_rfl) (by repeat (first | exact pind_q | apply pind_then)) ?_; (refine wpt_all (rs := [13]) (by kernel_rfl) rfl ⟨?_, trivial⟩; (refine wpo_do (i := 13) rfl rfl ?_; (refine se_store_b rfl rfl rfl rfl ?_); apply jW; (refine wpt_take 14 rfl (by exact still_fieldAddr rfl rfl) (by exact ap_field_p (rq_p rfl rfl) rfl rfl) (by kernel_rfl) (by kernel_rfl) (by kernel_rfl) (by repeat (first | exact pind_q | apply pind_then)) ?_; (refine wpt_all (rs := [15]) (by kernel_rfl) rfl ⟨?_, trivial⟩; (refine wpo_do (i := 15) rfl rfl ?_; (refine se_store_b rfl rfl rfl rfl ?_); apply jW; (refine wpt_end (by kernel_rfl) ?_))))))))))))) | (refine wpo_do (i := 5) rfl rfl ?_; (refine sloadpw rfl rfl rfl rfl ?_); apply jW; (refine wpt_all (rs := [4]) (by kernel_rfl) rfl ⟨?_, trivial⟩; (refine wpo_do (i := 4) rfl rfl ?_; (refine sc_o [3, 4] rfl rfl (hof0) (Lend.S (by first | ((repeat' first | exact RenL.nil | refine RenL.cons rfl ?_); done) | fail) (by first | ((repeat' first | exact LendO.nil | refine LendO.map rfl (by first | (simp [mapA, AV.ren, intA]; done) | fail) ?_ | refine LendO.arr rfl rfl ?_); done) | fail) (by decide) rfl (by simp [AV.bd, bdL, bdL_append]) (by repeat' (first | exact True.intro | refine And.intro ?_ ?_ | (simp [mapA, AV.bd, intA]; done) | simp [AV.bd, bdL, bdL_append]))) ?_; simp only [updN, newO, AObj.ren, renL, AV.ren, apx, ap, if_true, if_false, Nat.reduceLT, Nat.reduceAdd, Nat.reduceSub, sO, intA, boolA, strA, ren_mapI]); apply jW; (refine wpt_all (rs := [9]) (by kernel_rfl) rfl ⟨?_, trivial⟩; (refine wpo_do (i := 9) rfl rfl ?_; (refine sc_o [3, 4] rfl rfl (hof1) (Lend.S (by first | ((repeat' first | exact RenL.nil | refine RenL.cons rfl ?_); done) | fail) (by first | ((repeat' first | exact LendO.nil | refine LendO.map rfl (by first | (simp [mapA, AV.ren, intA]; done) | fail) ?_ | refine LendO.arr rfl rfl ?_); done) | fail) (by decide) rfl (by simp [AV.bd, bdL, bdL_append]) (by repeat' (first | exact True.intro | refine And.intro ?_ ?_ | (simp [mapA, AV.bd, intA]; done) | simp [AV.bd, bdL, bdL_append]))) ?_; simp only [updN, newO, AObj.ren, renL, AV.ren, apx, ap, if_true, if_false, Nat.reduceLT, Nat.reduceAdd, Nat.reduceSub, sO, intA, boolA, strA, ren_mapI]); apply jW; (refine wpt_all (rs := [11]) (by kernel_rfl) rfl ⟨?_, trivial⟩; (refine wpo_do (i := 11) rfl rfl ?_; (refine se_store_b rfl rfl rfl rfl ?_); apply jW; (refine wpt_take 12 rfl (by exact still_fieldAddr rfl rfl) (by exact ap_field_p (rq_p rfl rfl) rfl rfl) (by kernel_rfl) (by kernel_rfl) (by kernel_rfl) (by repeat (first | exact pind_q | apply pind_then)) ?_; (refine wpt_all (rs := [13]) (by kernel_rfl) rfl ⟨?_, trivial⟩; (refine wpo_do (i := 13) rfl rfl ?_; (refine se_store_b rfl rfl rfl rfl ?_); apply jW; (refine wpt_take 14 rfl (by exact still_fieldAddr rfl rfl) (by exact ap_field_p (rq_p rfl rfl) rfl rfl) (by kernel_rfl) (by kernel_rfl) (by kernel_rfl) (by repeat (first | exact pind_q | apply pind_then)) ?_; (refine wpt_all (rs := [15]) (by kernel_rfl) rfl ⟨?_, trivial⟩; (refine wpo_do (i := 15) rfl rfl ?_; (refine se_store_b rfl rfl rfl rfl ?_); apply jW; (refine wpt_end (by kernel_rfl) ?_)))))))))))))))))))))))))))))))
      all_goals refine wpli_region ?_
      all_goals refine wpli_preC 2 ?_
      all_goals simp only [List.take_succ_cons, List.take_zero, List.drop_succ_cons, List.drop_zero]
      all_goals refine smove rfl ?_
      all_goals (refine sloadpw rfl rfl rfl rfl ?_)
      all_goals refine asemC_end ?_
      all_goals refine wpli_y (c := c) (ts := tsA 5) (id := 7) [5, 8] (xs := [nruleA ⟨4, o.head, symN g (nth r.body k), symN g (nth r.body (k + 1)), o.price, o.origin⟩]) rfl rfl rfl rfl (by rw [hcp]; rfl) (by decide) (bin_lend hcp rfl rfl) (hR A ⟨4, o.head, symN g (nth r.body k), symN g (nth r.body (k + 1)), o.price, o.origin⟩ (by rw [hA, List.length_append, List.length_take]; omega)) ?_
      all_goals rw [bin_upd]
      all_goals simp only [List.length_cons, List.length_nil, Nat.reduceAdd, Nat.reduceSub]
      all_goals refine wpli_endC ?_
      all_goals refine asemC_end ?_
      all_goals refine bodyQ_n ?_
      all_goals rw [hfin, hNe]
      all_goals refine retO_L (x := .tup []) (k := 9) (os1 := [(3, some (.arr 2 [.agg [.map 4, intA (nx + extraN r)]])), (4, some (.map (mapA intK intA m))), (5, some (.arr 4 [.agg [intA T, intA 0, intA s, .ref 8 6 0 (acc ++ chn g r.head r.price i nx r.body).length]])), (7, some (.lop c (tsA 5))), (8, some (.arr 6 ((acc ++ chn g r.head r.price i nx r.body).map nruleA)))]) .nil rfl ⟨[0, 1, 2, 3, 4, 5, 6, 7, 10], ToR.S rfl (by repeat' (first | exact rt_nil | refine rt_e rfl rfl ?_)) (by repeat' (first | exact ro_nil | refine ro_l rfl (by first | exact rfl | fail) ?_ | refine ro_e rfl rfl ?_ | refine ro_p rfl (by first | exact rfl | fail) (by first | exact bdL_map (fun _ => by exact rfl) _ | fail) ?_ | refine ro_m rfl rfl (mapA_bd (fun _ => by exact rfl) _) ?_)) rfl rfl rfl (by (simp [bdT, AV.bd, bdL, bdL_append]; done)) (by repeat' (first | exact True.intro | exact rfl | exact mapA_all (fun _ => by exact rfl) _ | refine And.intro ?_ ?_ | exact bdL_map (fun _ => by exact rfl) _)) (by exact Nat.le_of_ble_eq_true rfl)⟩ rfl
  · obtain ⟨kd, a, hch, hcase⟩ := chn_one g (l := r.body) (h := r.head) (p := r.price) (o := i) (nx := nx) (by omega)
    have hex : (extraN r : Int) = 0 := by unfold extraN; omega
    have hlen : ∀ x, r.body = [x] → r.body.length = 1 ∧ nth r.body (nat_lit 0) = x ∧ -1000000 ≤ x ∧ x ≤ 1000000 := fun x hx => ⟨by rw [hx]; rfl, by rw [hx]; rfl, hb x (by rw [hx]; simp)⟩
    rcases hcase with ⟨hbd, hkd, ha⟩ | ⟨x, hbd, hx, hkd, ha⟩ | ⟨x, hbd, hx, hkd, ha⟩ <;> rw [hch, hkd, ha, hex, Int.add_zero]
    · have hl0 : r.body.length = 0 := by rw [hbd]; rfl
      (repeat' (first | apply jA | apply jF | apply jH | apply jN | (refine wp_cond rfl (fun hc => ?_) (fun hc => ?_) <;> (try simp only [sB, ne_eq, reduceCtorEq] at hc) <;> (try (exfalso; omega))) | (refine WP.regionC (id := 0) ?_; (refine sfieldp rfl rfl rfl ?_); (refine sloadp rfl rfl rfl rfl ?_); (refine sfieldp rfl rfl rfl ?_); (refine sloadp rfl rfl rfl rfl ?_); (refine sloadpw rfl rfl rfl rfl ?_); (refine su (ap_build (RqP.cons (rq_p rfl rfl) (RqP.cons (rq_p rfl rfl) (RqP.cons (rq_p rfl rfl) (RqP.nil)))) rfl) ?_); (refine se_alloc rfl ?_); (refine se_store_b rfl rfl rfl rfl ?_); apply jW) | (refine WP.regionC (id := 1) ?_; (refine sfieldp rfl rfl rfl ?_); (refine sloadp rfl rfl rfl rfl ?_); (refine slenm rfl rfl ?_); (refine seql rfl rfl ?_); (refine sassign rfl ?_); apply jW) | (refine WP.regionC (id := 2) ?_; (refine sfieldp rfl rfl rfl ?_); (refine se_store_b rfl rfl rfl rfl ?_); apply jW) | (refine WP.regionC (id := 7) ?_; (refine sfieldp rfl rfl rfl ?_); (refine sloadp rfl rfl rfl rfl ?_); (refine sassign rfl ?_); apply jW)))
      refine wp_loop (fun (_ : Unit) => True) (fun _ => 0)
        (fun _ => (S 92 [(0, .yld 7), (3, .ptr 2 1 0 0), (5, .ptr 9 6 0 0), (6, intsA r.body)] 10 [(0, some (.arr 3 [ruleA r])), (1, some (.arr 1 [intA i])), (2, some (.arr 1 [.ptr 3 2 0 0])), (3, some (.arr 2 [.agg [.map 4, intA nx]])), (4, some (.map (mapA intK intA m))), (5, some (.arr 4 [.agg [intA T, intA 0, intA s, .ref 8 6 0 acc.length]])), (7, some (.lop c (tsA 5))), (8, some (.arr 6 (acc.map nruleA))), (9, some (.arr 6 [nruleA ⟨1, r.head, 0, 0, r.price, i⟩]))])) () ⟨[0, 1, 2, 3, 4, 5, 6, 7, 8, 9], ToR.S rfl (by repeat' (first | exact rt_nil | refine rt_t rfl rfl ?_ | refine rt_e rfl rfl ?_ | refine rt_p rfl rfl (by first | (simp [AV.bd, bdL, bdL_append]; done) | fail) ?_)) (by repeat' (first | exact ro_nil | refine ro_l rfl (by first | exact rfl | fail) ?_ | refine ro_e rfl rfl ?_ | refine ro_p rfl (by first | exact rfl | fail) (by first | exact bdL_map (fun _ => by exact rfl) _ | (simp [bdL, bdL_append, AV.bd]; done) | fail) ?_ | refine ro_m rfl rfl (mapA_bd (fun _ => by exact rfl) _) ?_)) rfl (by (rw [hm]; exact rfl)) rfl (by (simp [bdT, AV.bd, bdL, bdL_append]; done)) (by repeat' (first | exact True.intro | exact rfl | exact mapA_all (fun _ => by exact rfl) _ | refine And.intro ?_ ?_ | exact bdL_map (fun _ => by exact rfl) _ | (simp [bdOq, bdL, bdL_append, AV.bd]; done))) (by (rw [hm]; exact Nat.le_of_ble_eq_true rfl))⟩ trivial ?_
      rintro - -
      (repeat' (first | apply jA | apply jH | apply jI | apply jJ | apply jL | apply jP | (refine wp_cond rfl (fun hc => ?_) (fun hc => ?_) <;> (try simp only [sB, ne_eq, reduceCtorEq] at hc) <;> (try (exfalso; omega))) | (refine WP.regionC (id := 8) ?_; (refine smove rfl ?_); (refine slenm rfl rfl ?_); (refine su (agtr rfl rfl) ?_); apply jW) | (refine WP.regionC (id := 13) ?_; (refine smove rfl ?_); (refine slenm rfl rfl ?_); (refine seql rfl rfl ?_); apply jW)))
      all_goals refine wpli_region ?_
      all_goals refine wpli_preC 2 ?_
      all_goals simp only [List.take_succ_cons, List.take_zero, List.drop_succ_cons, List.drop_zero]
      all_goals refine smove rfl ?_
      all_goals (refine sloadpw rfl rfl rfl rfl ?_)
      all_goals refine asemC_end ?_
      all_goals refine wpli_y (c := c) (ts := tsA 5) (id := 7) [5, 8] (xs := [nruleA ⟨1, r.head, 0, 0, r.price, i⟩]) rfl rfl rfl rfl (by rw [hcp]; rfl) (by decide) (bin_lend hcp rfl rfl) (hR acc (⟨1, r.head, 0, 0, r.price, i⟩ : NRul) (by omega)) ?_
      all_goals rw [bin_upd]
      all_goals simp only [List.length_cons, List.length_nil, Nat.reduceAdd, Nat.reduceSub]
      all_goals refine wpli_endC ?_
      all_goals refine asemC_end ?_
      all_goals refine bodyQ_n ?_
      refine retO_L (x := .tup []) (k := 9) (os1 := [(3, some (.arr 2 [.agg [.map 4, intA nx]])), (4, some (.map (mapA intK intA m))), (5, some (.arr 4 [.agg [intA T, intA 0, intA s, .ref 8 6 0 (acc ++ [(⟨1, r.head, 0, 0, r.price, i⟩ : NRul)]).length]])), (7, some (.lop c (tsA 5))), (8, some (.arr 6 ((acc ++ [(⟨1, r.head, 0, 0, r.price, i⟩ : NRul)]).map nruleA)))]) .nil rfl ⟨[0, 1, 2, 3, 4, 5, 6, 7, 10], ToR.S rfl (by repeat' (first | exact rt_nil | refine rt_e rfl rfl ?_)) (by repeat' (first | exact ro_nil | refine ro_l rfl (by first | exact rfl | fail) ?_ | refine ro_e rfl rfl ?_ | refine ro_p rfl (by first | exact rfl | fail) (by first | exact bdL_map (fun _ => by exact rfl) _ | fail) ?_ | refine ro_m rfl rfl (mapA_bd (fun _ => by exact rfl) _) ?_)) rfl rfl rfl (by (simp [bdT, AV.bd, bdL, bdL_append]; done)) (by repeat' (first | exact True.intro | exact rfl | exact mapA_all (fun _ => by exact rfl) _ | refine And.intro ?_ ?_ | exact bdL_map (fun _ => by exact rfl) _)) (by exact Nat.le_of_ble_eq_true rfl)⟩ rfl
    · obtain ⟨hl1, e0, x1, x2⟩ := hlen _ hbd
      have e0b : nth r.body 0 = x := e0
      (repeat' (first | apply jA | apply jF | apply jH | apply jN | (refine wp_cond rfl (fun hc => ?_) (fun hc => ?_) <;> (try simp only [sB, ne_eq, reduceCtorEq] at hc) <;> (try (exfalso; omega))) | (refine WP.regionC (id := 0) ?_; (refine sfieldp rfl rfl rfl ?_); (refine sloadp rfl rfl rfl rfl ?_); (refine sfieldp rfl rfl rfl ?_); (refine sloadp rfl rfl rfl rfl ?_); (refine sloadpw rfl rfl rfl rfl ?_); (refine su (ap_build (RqP.cons (rq_p rfl rfl) (RqP.cons (rq_p rfl rfl) (RqP.cons (rq_p rfl rfl) (RqP.nil)))) rfl) ?_); (refine se_alloc rfl ?_); (refine se_store_b rfl rfl rfl rfl ?_); apply jW) | (refine WP.regionC (id := 1) ?_; (refine sfieldp rfl rfl rfl ?_); (refine sloadp rfl rfl rfl rfl ?_); (refine slenm rfl rfl ?_); (refine seql rfl rfl ?_); (refine sassign rfl ?_); apply jW) | (refine WP.regionC (id := 3) ?_; (refine sfieldp rfl rfl rfl ?_); (refine sloadp rfl rfl rfl rfl ?_); (refine slenm rfl rfl ?_); (refine seql rfl rfl ?_); (refine smove rfl ?_); (refine sg (gq_vt rfl rfl) (fun he => ap_field_p (rq_p rfl rfl) rfl rfl) ?_); (refine sg (gq_vt rfl rfl) (fun he => ap_load_p (rq_c rfl rfl) rfl rfl rfl) ?_); (refine sg (gq_vt rfl rfl) (fun he => ap_idx_n (rq_c rfl rfl) (rq_p rfl rfl) (by (try simp only [sH, id, sB, ne_eq, reduceCtorEq] at he); (simp only [sL] <;> omega))) ?_); (refine sg (gq_vt rfl rfl) (fun he => ap_load_w (rq_c rfl rfl) rfl) ?_); (refine sg (gq_vt rfl rfl) (fun he => ap_geq (rq_c rfl rfl) (rq_p rfl rfl)) ?_); (refine su (ap_and (rq_p rfl rfl) (rq_c rfl rfl)) ?_); (refine sassign rfl ?_); apply jW) | (refine wp_draw (id := 4) 8 mixed (by kernel_rfl) (by kernel_rfl) rfl ?_ <;> (refine rfieldp rfl rfl rfl ?_) <;> (refine rloadp rfl rfl rfl rfl ?_) <;> (refine rd_u rfl rfl (aidxn rfl rfl (by (simp only [sL] <;> omega))) ?_) <;> (refine rd_u rfl rfl (aloadw rfl rfl) ?_) <;> (refine rfieldp rfl rfl rfl ?_) <;> (refine rd_store_b rfl rfl rfl rfl ?_) <;> (refine rfieldp rfl rfl rfl ?_) <;> (refine rd_store_b rfl rfl rfl rfl ?_) <;> (refine rd_end (by kernel_rfl) ?_)) | (refine WP.regionC (id := 7) ?_; (refine sfieldp rfl rfl rfl ?_); (refine sloadp rfl rfl rfl rfl ?_); (refine sassign rfl ?_); apply jW)))
      rw [e0]
      refine wp_loop (fun (_ : Unit) => True) (fun _ => 0)
        (fun _ => (S 92 [(0, .yld 7), (3, .ptr 2 1 0 0), (5, .ptr 9 6 0 0), (6, intsA r.body)] 10 [(0, some (.arr 3 [ruleA r])), (1, some (.arr 1 [intA i])), (2, some (.arr 1 [.ptr 3 2 0 0])), (3, some (.arr 2 [.agg [.map 4, intA nx]])), (4, some (.map (mapA intK intA m))), (5, some (.arr 4 [.agg [intA T, intA 0, intA s, .ref 8 6 0 acc.length]])), (7, some (.lop c (tsA 5))), (8, some (.arr 6 (acc.map nruleA))), (9, some (.arr 6 [nruleA ⟨2, r.head, x, 0, r.price, i⟩]))])) () ⟨[0, 1, 2, 3, 4, 5, 6, 7, 8, 9], ToR.S rfl (by repeat' (first | exact rt_nil | refine rt_t rfl rfl ?_ | refine rt_e rfl rfl ?_ | refine rt_p rfl rfl (by first | (simp [AV.bd, bdL, bdL_append]; done) | fail) ?_)) (by repeat' (first | exact ro_nil | refine ro_l rfl (by first | exact rfl | fail) ?_ | refine ro_e rfl rfl ?_ | refine ro_p rfl (by first | exact rfl | fail) (by first | exact bdL_map (fun _ => by exact rfl) _ | (simp [bdL, bdL_append, AV.bd]; done) | fail) ?_ | refine ro_m rfl rfl (mapA_bd (fun _ => by exact rfl) _) ?_)) rfl (by (rw [hm]; exact rfl)) rfl (by (simp [bdT, AV.bd, bdL, bdL_append]; done)) (by repeat' (first | exact True.intro | exact rfl | exact mapA_all (fun _ => by exact rfl) _ | refine And.intro ?_ ?_ | exact bdL_map (fun _ => by exact rfl) _ | (simp [bdOq, bdL, bdL_append, AV.bd]; done))) (by (rw [hm]; exact Nat.le_of_ble_eq_true rfl))⟩ trivial ?_
      rintro - -
      (repeat' (first | apply jA | apply jH | apply jI | apply jJ | apply jL | apply jP | (refine wp_cond rfl (fun hc => ?_) (fun hc => ?_) <;> (try simp only [sB, ne_eq, reduceCtorEq] at hc) <;> (try (exfalso; omega))) | (refine WP.regionC (id := 8) ?_; (refine smove rfl ?_); (refine slenm rfl rfl ?_); (refine su (agtr rfl rfl) ?_); apply jW) | (refine WP.regionC (id := 13) ?_; (refine smove rfl ?_); (refine slenm rfl rfl ?_); (refine seql rfl rfl ?_); apply jW)))
      all_goals refine wpli_region ?_
      all_goals refine wpli_preC 2 ?_
      all_goals simp only [List.take_succ_cons, List.take_zero, List.drop_succ_cons, List.drop_zero]
      all_goals refine smove rfl ?_
      all_goals (refine sloadpw rfl rfl rfl rfl ?_)
      all_goals refine asemC_end ?_
      all_goals refine wpli_y (c := c) (ts := tsA 5) (id := 7) [5, 8] (xs := [nruleA ⟨2, r.head, x, 0, r.price, i⟩]) rfl rfl rfl rfl (by rw [hcp]; rfl) (by decide) (bin_lend hcp rfl rfl) (hR acc (⟨2, r.head, x, 0, r.price, i⟩ : NRul) (by omega)) ?_
      all_goals rw [bin_upd]
      all_goals simp only [List.length_cons, List.length_nil, Nat.reduceAdd, Nat.reduceSub]
      all_goals refine wpli_endC ?_
      all_goals refine asemC_end ?_
      all_goals refine bodyQ_n ?_
      refine retO_L (x := .tup []) (k := 9) (os1 := [(3, some (.arr 2 [.agg [.map 4, intA nx]])), (4, some (.map (mapA intK intA m))), (5, some (.arr 4 [.agg [intA T, intA 0, intA s, .ref 8 6 0 (acc ++ [(⟨2, r.head, x, 0, r.price, i⟩ : NRul)]).length]])), (7, some (.lop c (tsA 5))), (8, some (.arr 6 ((acc ++ [(⟨2, r.head, x, 0, r.price, i⟩ : NRul)]).map nruleA)))]) .nil rfl ⟨[0, 1, 2, 3, 4, 5, 6, 7, 10], ToR.S rfl (by repeat' (first | exact rt_nil | refine rt_e rfl rfl ?_)) (by repeat' (first | exact ro_nil | refine ro_l rfl (by first | exact rfl | fail) ?_ | refine ro_e rfl rfl ?_ | refine ro_p rfl (by first | exact rfl | fail) (by first | exact bdL_map (fun _ => by exact rfl) _ | fail) ?_ | refine ro_m rfl rfl (mapA_bd (fun _ => by exact rfl) _) ?_)) rfl rfl rfl (by (simp [bdT, AV.bd, bdL, bdL_append]; done)) (by repeat' (first | exact True.intro | exact rfl | exact mapA_all (fun _ => by exact rfl) _ | refine And.intro ?_ ?_ | exact bdL_map (fun _ => by exact rfl) _)) (by exact Nat.le_of_ble_eq_true rfl)⟩ rfl
    · obtain ⟨hl1, e0, x1, x2⟩ := hlen _ hbd
      have e0b : nth r.body 0 = x := e0
      (repeat' (first | apply jA | apply jF | apply jH | apply jN | (refine wp_cond rfl (fun hc => ?_) (fun hc => ?_) <;> (try simp only [sB, ne_eq, reduceCtorEq] at hc) <;> (try (exfalso; omega))) | (refine WP.regionC (id := 0) ?_; (refine sfieldp rfl rfl rfl ?_); (refine sloadp rfl rfl rfl rfl ?_); (refine sfieldp rfl rfl rfl ?_); (refine sloadp rfl rfl rfl rfl ?_); (refine sloadpw rfl rfl rfl rfl ?_); (refine su (ap_build (RqP.cons (rq_p rfl rfl) (RqP.cons (rq_p rfl rfl) (RqP.cons (rq_p rfl rfl) (RqP.nil)))) rfl) ?_); (refine se_alloc rfl ?_); (refine se_store_b rfl rfl rfl rfl ?_); apply jW) | (refine WP.regionC ?_; (refine sfieldp rfl rfl rfl ?_); (refine sloadp rfl rfl rfl rfl ?_); (refine slenm rfl rfl ?_); (refine seql rfl rfl ?_); (refine sassign rfl ?_); apply jW) | (refine WP.regionC (id := 3) ?_; (refine sfieldp rfl rfl rfl ?_); (refine sloadp rfl rfl rfl rfl ?_); (refine slenm rfl rfl ?_); (refine seql rfl rfl ?_); (refine smove rfl ?_); (refine sg (gq_vt rfl rfl) (fun he => ap_field_p (rq_p rfl rfl) rfl rfl) ?_); (refine sg (gq_vt rfl rfl) (fun he => ap_load_p (rq_c rfl rfl) rfl rfl rfl) ?_); (refine sg (gq_vt rfl rfl) (fun he => ap_idx_n (rq_c rfl rfl) (rq_p rfl rfl) (by (try simp only [sH, id, sB, ne_eq, reduceCtorEq] at he); (simp only [sL] <;> omega))) ?_); (refine sg (gq_vt rfl rfl) (fun he => ap_load_w (rq_c rfl rfl) rfl) ?_); (refine sg (gq_vt rfl rfl) (fun he => ap_geq (rq_c rfl rfl) (rq_p rfl rfl)) ?_); (refine su (ap_and (rq_p rfl rfl) (rq_c rfl rfl)) ?_); (refine sassign rfl ?_); apply jW) | (refine wp_draw (id := 6) 9 mixed (by kernel_rfl) (by kernel_rfl) rfl ?_ <;> (refine rfieldp rfl rfl rfl ?_) <;> (refine rloadp rfl rfl rfl rfl ?_) <;> (refine rd_u rfl rfl (aidxn rfl rfl (by (simp only [sL] <;> omega))) ?_) <;> (refine rd_u rfl rfl (aloadw rfl rfl) ?_) <;> (refine rd_u rfl rfl (asub rfl rfl (by exact inr_i64_of (by omega))) ?_) <;> (refine rfieldp rfl rfl rfl ?_) <;> (refine rd_store_b rfl rfl rfl rfl ?_) <;> (refine rfieldp rfl rfl rfl ?_) <;> (refine rd_store_b rfl rfl rfl rfl ?_) <;> (refine rd_end (by kernel_rfl) ?_)) | (refine WP.regionC (id := 7) ?_; (refine sfieldp rfl rfl rfl ?_); (refine sloadp rfl rfl rfl rfl ?_); (refine sassign rfl ?_); apply jW)))
      rw [e0]
      refine wp_loop (fun (_ : Unit) => True) (fun _ => 0)
        (fun _ => (S 92 [(0, .yld 7), (3, .ptr 2 1 0 0), (5, .ptr 9 6 0 0), (6, intsA r.body)] 10 [(0, some (.arr 3 [ruleA r])), (1, some (.arr 1 [intA i])), (2, some (.arr 1 [.ptr 3 2 0 0])), (3, some (.arr 2 [.agg [.map 4, intA nx]])), (4, some (.map (mapA intK intA m))), (5, some (.arr 4 [.agg [intA T, intA 0, intA s, .ref 8 6 0 acc.length]])), (7, some (.lop c (tsA 5))), (8, some (.arr 6 (acc.map nruleA))), (9, some (.arr 6 [nruleA ⟨3, r.head, -1 - x, 0, r.price, i⟩]))])) () ⟨[0, 1, 2, 3, 4, 5, 6, 7, 8, 9], ToR.S rfl (by repeat' (first | exact rt_nil | refine rt_t rfl rfl ?_ | refine rt_e rfl rfl ?_ | refine rt_p rfl rfl (by first | (simp [AV.bd, bdL, bdL_append]; done) | fail) ?_)) (by repeat' (first | exact ro_nil | refine ro_l rfl (by first | exact rfl | fail) ?_ | refine ro_e rfl rfl ?_ | refine ro_p rfl (by first | exact rfl | fail) (by first | exact bdL_map (fun _ => by exact rfl) _ | (simp [bdL, bdL_append, AV.bd]; done) | fail) ?_ | refine ro_m rfl rfl (mapA_bd (fun _ => by exact rfl) _) ?_)) rfl (by (rw [hm]; exact rfl)) rfl (by (simp [bdT, AV.bd, bdL, bdL_append]; done)) (by repeat' (first | exact True.intro | exact rfl | exact mapA_all (fun _ => by exact rfl) _ | refine And.intro ?_ ?_ | exact bdL_map (fun _ => by exact rfl) _ | (simp [bdOq, bdL, bdL_append, AV.bd]; done))) (by (rw [hm]; exact Nat.le_of_ble_eq_true rfl))⟩ trivial ?_
      rintro - -
      (repeat' (first | apply jA | apply jH | apply jI | apply jJ | apply jL | apply jP | (refine wp_cond rfl (fun hc => ?_) (fun hc => ?_) <;> (try simp only [sB, ne_eq, reduceCtorEq] at hc) <;> (try (exfalso; omega))) | (refine WP.regionC (id := 8) ?_; (refine smove rfl ?_); (refine slenm rfl rfl ?_); (refine su (agtr rfl rfl) ?_); apply jW) | (refine WP.regionC (id := 13) ?_; (refine smove rfl ?_); (refine slenm rfl rfl ?_); (refine seql rfl rfl ?_); apply jW)))
      all_goals refine wpli_region ?_
      all_goals refine wpli_preC 2 ?_
      all_goals simp only [List.take_succ_cons, List.take_zero, List.drop_succ_cons, List.drop_zero]
      all_goals refine smove rfl ?_
      all_goals (refine sloadpw rfl rfl rfl rfl ?_)
      all_goals refine asemC_end ?_
      all_goals refine wpli_y (c := c) (ts := tsA 5) (id := 7) [5, 8] (xs := [nruleA ⟨3, r.head, -1 - x, 0, r.price, i⟩]) rfl rfl rfl rfl (by rw [hcp]; rfl) (by decide) (bin_lend hcp rfl rfl) (hR acc (⟨3, r.head, -1 - x, 0, r.price, i⟩ : NRul) (by omega)) ?_
      all_goals rw [bin_upd]
      all_goals simp only [List.length_cons, List.length_nil, Nat.reduceAdd, Nat.reduceSub]
      all_goals refine wpli_endC ?_
      all_goals refine asemC_end ?_
      all_goals refine bodyQ_n ?_
      refine retO_L (x := .tup []) (k := 9) (os1 := [(3, some (.arr 2 [.agg [.map 4, intA nx]])), (4, some (.map (mapA intK intA m))), (5, some (.arr 4 [.agg [intA T, intA 0, intA s, .ref 8 6 0 (acc ++ [(⟨3, r.head, -1 - x, 0, r.price, i⟩ : NRul)]).length]])), (7, some (.lop c (tsA 5))), (8, some (.arr 6 ((acc ++ [(⟨3, r.head, -1 - x, 0, r.price, i⟩ : NRul)]).map nruleA)))]) .nil rfl ⟨[0, 1, 2, 3, 4, 5, 6, 7, 10], ToR.S rfl (by repeat' (first | exact rt_nil | refine rt_e rfl rfl ?_)) (by repeat' (first | exact ro_nil | refine ro_l rfl (by first | exact rfl | fail) ?_ | refine ro_e rfl rfl ?_ | refine ro_p rfl (by first | exact rfl | fail) (by first | exact bdL_map (fun _ => by exact rfl) _ | fail) ?_ | refine ro_m rfl rfl (mapA_bd (fun _ => by exact rfl) _) ?_)) rfl rfl rfl (by (simp [bdT, AV.bd, bdL, bdL_append]; done)) (by repeat' (first | exact True.intro | exact rfl | exact mapA_all (fun _ => by exact rfl) _ | refine And.intro ?_ ?_ | exact bdL_map (fun _ => by exact rfl) _)) (by exact Nat.le_of_ble_eq_true rfl)⟩ rfl
end Go.Lg

namespace Go.Lg
open Go.Proofs
set_option linter.unusedSimpArgs false
set_option linter.unusedVariables false
attribute [local irreducible] Ap Rq asemC WP RunD Ret Gq thenA inBlockA bodyQ noGotoA RqL RqP OpP
set_option maxHeartbeats 4000000
set_option maxRecDepth 20000
theorem indexI_fn (l : List Int) (v : Int) : Fn Try.prog 78 [intsA l, intA v] (intA (indexP (fun x => decide (v = x)) l)) := by
  refine Fn.intro rfl (by kernel_rfl) Try.func78 rfl rfl Try.ntmps78 (by exact Nat.le_of_ble_eq_true rfl) ?_; intro Γ hm
  refine wp_lens 0 rfl fun h0 => ?_
  rw [lens_intsA] at h0
  (repeat' (first | apply jA | apply jF | apply jH | (refine WP.regionC (id := 0) ?_; (refine sassign rfl ?_); apply jW) | (refine WP.regionC (id := 1) ?_; (refine smove rfl ?_); (refine slenm rfl rfl ?_); (refine smove rfl ?_); apply jW)))
  refine wp_loop (fun k => k ≤ l.length ∧ (l.take k).any (fun x => decide (v = x)) = false) (fun k => l.length - k) (fun k => (S 19 [(0, intsA l), (1, intA v), (7, intA (l.length : Nat)), (8, intA (k : Nat))] 0 [])) 0 ⟨[], ToR.S rfl (by repeat' (first | exact rt_nil | refine rt_e rfl rfl ?_ | refine rt_p rfl rfl (by first | (simp [AV.bd, bdL, bdL_append]; done) | fail) ?_)) (by repeat' (exact ro_nil)) rfl (by (rw [hm]; exact rfl)) rfl (by (simp [bdT, AV.bd, bdL, bdL_append]; done)) (by repeat' (exact True.intro)) (by (rw [hm]; exact Nat.le_of_ble_eq_true rfl))⟩ ⟨Nat.zero_le _, rfl⟩ ?_
  rintro k ⟨hk, hall⟩
  (repeat' (first | apply jA | apply jF | apply jH | apply jI | apply jJ | apply jK | apply jL | apply jM | apply jN | apply jO | apply jP | apply jS | (refine wp_cond rfl (fun hc => ?_) (fun hc => ?_) <;> (try simp only [sB, ne_eq, reduceCtorEq] at hc) <;> (try (exfalso; omega))) | (refine WP.regionC (id := 2) ?_; (refine slss rfl rfl ?_); apply jW) | (refine WP.regionC ?_; (refine smove rfl ?_); (refine sassign rfl ?_); apply jW) | (refine WP.regionC (id := 4) ?_; (refine smove rfl ?_); (refine smove rfl ?_); (refine smove rfl ?_); (refine sidxn rfl rfl (by omega) ?_); (refine sloadw rfl rfl ?_); (refine seql rfl rfl ?_); apply jW) | (refine WP.regionC (id := 6) ?_; (refine sadd rfl rfl (by exact inr_i64_of (by omega)) ?_); (refine smove rfl ?_); apply jW) | (refine WP.regionC (id := 7) ?_; (refine sassign rfl ?_); apply jW) | refine ret_i rfl ?_))
  · exact (indexP_at (by omega) hall (decide_eq_true hc)).symm
  · exact ⟨k + 1, ⟨by omega, by omega, take_any_succ (by omega) hall (decide_eq_false hc)⟩, ⟨[], ToR.S rfl (by repeat' (first | exact rt_nil | refine rt_e rfl rfl ?_ | refine rt_p rfl rfl (by first | (simp [AV.bd, bdL, bdL_append]; done) | fail) ?_)) (by repeat' (exact ro_nil)) rfl (by (rw [hm]; exact rfl)) rfl (by (simp [bdT, AV.bd, bdL, bdL_append]; done)) (by repeat' (exact True.intro)) (by (rw [hm]; exact Nat.le_of_ble_eq_true rfl))⟩⟩
  · exact (indexP_no (by omega) hall).symm
theorem containsI_fn (l : List Int) (v : Int) : Fn Try.prog 63 [intsA l, intA v] (boolA (l.any fun x => decide (v = x))) := by
  refine Fn.intro rfl (by kernel_rfl) Try.func63 rfl rfl Try.ntmps63 (by exact Nat.le_of_ble_eq_true rfl) ?_; intro Γ hm
  (repeat' (first | apply jA | apply jH | apply jK | apply jS | (refine WP.regionC (id := 0) ?_; (refine sassign rfl ?_); apply jW) | (refine WP.regionC (id := 1) ?_; (refine smove rfl ?_); (refine smove rfl ?_); (refine sc_p rfl rfl (by first | ((repeat' first | exact SubL.nil | refine SubL.cons ?_ ?_ | exact Sub.refl); done) | fail) (by first | (simp [bdL, bdL_append, AV.bd]; done) | fail) (indexI_fn _ _) ?_); (refine su (ageq rfl rfl) ?_); (refine sassign rfl ?_); apply jW) | refine ret_b rfl ?_))
  exact indexP_any
theorem indexFuncR_fn (l : List Rul) (g : FuncId) (cap : List AV) (p : Rul → Bool) (hcap : ∀ n, bdL n cap = true) (h : ∀ x, x ∈ l → Fn Try.prog g (ruleA x :: cap) (boolA (p x))) :
    Fn Try.prog 77 [rulesA l, .clo (.func g) [] cap] (intA (indexP p l)) := by
  refine Fn.intro rfl (by kernel_rfl) Try.func77 rfl rfl Try.ntmps77 (by exact Nat.le_of_ble_eq_true rfl) ?_; intro Γ hm
  refine wp_lens 0 rfl fun h0 => ?_
  have hl : l.length ≤ 9223372036854775807 := by have := h0; simp [AV.lens, lensL, rulesA] at this; omega
  (repeat' (first | apply jA | apply jF | apply jH | (refine WP.regionC (id := 0) ?_; (refine sassign rfl ?_); apply jW) | (refine WP.regionC (id := 1) ?_; (refine smove rfl ?_); (refine slenm rfl rfl ?_); (refine smove rfl ?_); apply jW)))
  refine wp_loop (fun k => k ≤ l.length ∧ (l.take k).any p = false) (fun k => l.length - k) (fun k => (S 19 [(0, rulesA l), (1, .clo (.func g) [] cap), (7, intA (l.length : Nat)), (8, intA (k : Nat))] 0 [])) 0 ⟨[], ToR.S rfl (by repeat' (first | exact rt_nil | refine rt_e rfl rfl ?_ | refine rt_p rfl rfl (by first | (simp [AV.bd, bdL, bdL_append]; done) | (simp [AV.bd, bdL, bdL_append, *]; done) | fail) ?_)) (by repeat' (exact ro_nil)) rfl (by (rw [hm]; exact rfl)) rfl (by simp [bdT, AV.bd, bdL, bdL_append, *]) (by repeat' (exact True.intro)) (by (rw [hm]; exact Nat.le_of_ble_eq_true rfl))⟩ ⟨Nat.zero_le _, rfl⟩ ?_
  rintro k ⟨hk, hall⟩
  (repeat' (first | apply jA | apply jF | apply jH | apply jI | apply jJ | apply jK | apply jL | apply jM | apply jN | apply jO | apply jP | apply jS | (refine wp_cond rfl (fun hc => ?_) (fun hc => ?_) <;> (try simp only [sB, ne_eq, reduceCtorEq] at hc) <;> (try (exfalso; omega))) | (refine WP.regionC (id := 2) ?_; (refine slss rfl rfl ?_); apply jW) | (refine WP.regionC ?_; (refine smove rfl ?_); (refine sassign rfl ?_); apply jW) | (refine WP.regionC (id := 4) ?_; (refine smove rfl ?_); (refine smove rfl ?_); (refine smove rfl ?_); (refine sidxn rfl rfl (by omega) ?_); (refine sloadw rfl rfl ?_); (refine sc_p rfl rfl (by first | ((repeat' first | refine SubL.cons ?_ ?_ | exact SubL.rfl | exact Sub.refl); done) | fail) (by first | (simp [bdL, bdL_append, AV.bd, *]; done) | fail) (h _ (nth_mem (by omega))) ?_); apply jW) | (refine WP.regionC (id := 6) ?_; (refine sadd rfl rfl (by exact inr_i64_of (by omega)) ?_); (refine smove rfl ?_); apply jW) | (refine WP.regionC (id := 7) ?_; (refine sassign rfl ?_); apply jW) | refine ret_i rfl ?_))
  · exact (indexP_at (by omega) hall hc).symm
  · exact ⟨k + 1, ⟨by omega, by omega, take_any_succ (by omega) hall hc⟩, ⟨[], ToR.S rfl (by repeat' (first | exact rt_nil | refine rt_e rfl rfl ?_ | refine rt_p rfl rfl (by first | (simp [AV.bd, bdL, bdL_append]; done) | (simp [AV.bd, bdL, bdL_append, *]; done) | fail) ?_)) (by repeat' (exact ro_nil)) rfl (by (rw [hm]; exact rfl)) rfl (by simp [bdT, AV.bd, bdL, bdL_append, *]) (by repeat' (exact True.intro)) (by (rw [hm]; exact Nat.le_of_ble_eq_true rfl))⟩⟩
  · exact (indexP_no (by omega) hall).symm
theorem containsFuncR_fn (l : List Rul) (g : FuncId) (cap : List AV) (p : Rul → Bool) (hcap : ∀ n, bdL n cap = true) (h : ∀ x, x ∈ l → Fn Try.prog g (ruleA x :: cap) (boolA (p x))) :
    Fn Try.prog 61 [rulesA l, .clo (.func g) [] cap] (boolA (l.any p)) := by
  refine Fn.intro rfl (by kernel_rfl) Try.func61 rfl rfl Try.ntmps61 (by exact Nat.le_of_ble_eq_true rfl) ?_; intro Γ hm
  (repeat' (first | apply jA | apply jH | apply jK | apply jS | (refine WP.regionC (id := 0) ?_; (refine sassign rfl ?_); apply jW) | (refine WP.regionC (id := 1) ?_; (refine smove rfl ?_); (refine smove rfl ?_); (refine sc_p rfl rfl (by first | ((repeat' first | exact SubL.nil | refine SubL.cons ?_ ?_ | exact Sub.refl); done) | fail) (by first | (simp [bdL, bdL_append, AV.bd, *]; done) | fail) (indexFuncR_fn _ _ _ p hcap h) ?_); (refine su (ageq rfl rfl) ?_); (refine sassign rfl ?_); apply jW) | refine ret_b rfl ?_))
  exact indexP_any
def needR (t : Int) (r : Rul) : Bool := decide (1 < r.body.length) && r.body.any fun x => decide (t = x)
theorem needT_eq (g : Gram) (t : Nat) : needT g t = g.rules.any (needR t) := by
  unfold needT needR
  congr 1; funext r; congr 1; congr 1; funext x
  simp [eq_comm]
theorem newNamer1_fn (t : Int) (r : Rul) : Fn Try.prog 62 [ruleA r, .iptr [intA t] 0] (boolA (needR t r)) := by
  refine Fn.intro rfl (by kernel_rfl) Try.func62 rfl rfl Try.ntmps62 (by exact Nat.le_of_ble_eq_true rfl) ?_; intro Γ hm
  refine wp_lens 0 rfl fun h0 => ?_
  have hl : r.body.length ≤ 9223372036854775807 := by have := h0; simp [AV.lens, lensL, ruleA, intsA] at this; omega
  (repeat' (first | apply jA | apply jH | apply jK | apply jS | (refine WP.regionC (id := 0) ?_; (refine se_box rfl (by exact ⟨rfl, rfl⟩) ?_); (refine sassign rfl ?_); apply jW) | (refine WP.regionC (id := 1) ?_; (refine sfieldp rfl rfl rfl ?_); (refine sloadp rfl rfl rfl rfl ?_); (refine slenm rfl rfl ?_); (refine su (agtr rfl rfl) ?_); (refine smove rfl ?_); (refine sg (gq_vt rfl rfl) (fun he => ap_field_p (rq_p rfl rfl) rfl rfl) ?_); (refine sg (gq_vt rfl rfl) (fun he => ap_load_p (rq_c rfl rfl) rfl rfl rfl) ?_); (refine sg (gq_vt rfl rfl) (fun he => ap_load_i (rq_p rfl rfl) rfl) ?_); (refine sg_p (gq_vt rfl rfl) (fun he => ⟨(rq_p rfl rfl), (RqL.cons (rq_c rfl rfl) (RqL.cons (rq_c rfl rfl) (RqL.nil))), (by first | ((repeat' first | exact SubL.nil | refine SubL.cons ?_ ?_ | exact Sub.refl); done) | fail), (by first | (simp [bdL, bdL_append, AV.bd]; done) | fail), containsI_fn r.body t⟩) ?_); (refine su (ap_and (rq_p rfl rfl) (rq_c rfl rfl)) ?_); (refine sassign rfl ?_); apply jW) | refine ret_b rfl ?_))
  all_goals
    rw [Bool.eq_iff_iff]
    simp only [needR, Bool.and_eq_true, decide_eq_true_eq]
    exact ⟨fun ⟨h1, h2⟩ => ⟨by omega, h2⟩, fun ⟨h1, h2⟩ => ⟨by omega, h2⟩⟩
def nmap (g : Gram) (k : Nat) : List (Int × Int) := (tlist g k).map fun (t : Nat) => ((t : Int), tnum g t)
theorem tlist_lt (g : Gram) : ∀ {k t : Nat}, t ∈ tlist g k → t < k ∧ needT g t = true
  | 0, t, h => by simp [tlist] at h
  | k + 1, t, h => by
    rw [tlist, List.mem_append] at h
    rcases h with h | h
    · have := tlist_lt g h; exact ⟨by omega, this.2⟩
    · split at h
      · rename_i hn
        simp only [List.mem_singleton] at h
        subst h; exact ⟨by omega, hn⟩
      · simp at h
theorem nmap_get_none {g : Gram} {k t : Nat} (h : k ≤ t) : aget (nmap g k) (t : Int) = none := by
  rw [aget_none]
  intro p hp
  obtain ⟨x, hx, rfl⟩ := List.mem_map.1 hp
  have := (tlist_lt g hx).1
  simp only; omega
theorem nmap_succ_yes {g : Gram} {k : Nat} (h : needT g k = true) : nmap g (k + 1) = aset (nmap g k) (k : Int) (tnum g k) := by
  have h0 := nmap_get_none (g := g) (k := k) (t := k) (Nat.le_refl _)
  have h1 : afind (k : Int) (nmap g k) 0 = none := by
    unfold aget at h0
    cases hf : afind (k : Int) (nmap g k) 0 with
    | none => rfl
    | some p => rw [hf] at h0; simp at h0
  unfold aset
  rw [h1]
  simp [nmap, tlist, h]
theorem nmap_succ_no {g : Gram} {k : Nat} (h : needT g k = false) : nmap g (k + 1) = nmap g k := by simp [nmap, tlist, h]
theorem tnum_succ (g : Gram) (k : Nat) : tnum g (k + 1) = tnum g k + if needT g k then 1 else 0 := by
  unfold tnum
  rw [tlist]
  split <;> simp
  omega
theorem newNamer_fn (g : Gram) (hv : g.terms.length ≤ 1000) (hn : g.nonterms.length ≤ 1000) : FnO Try.prog 40 [gramA g] [] (.ptr 0 2 0 0) [some (nmA 1 (baseN g)), some (nmM (nmap g g.terms.length))] := by
  unfold nmA nmM
  refine FnO.intro (by exact Nat.le_of_ble_eq_true rfl) rfl (by kernel_rfl) Try.func40 rfl rfl Try.ntmps40 (by exact Nat.le_of_ble_eq_true rfl) ?_; intro Γ hm
  (repeat' (first | apply jA | apply jF | apply jH | (refine WP.regionC (id := 0) ?_; (refine se_box rfl (by exact ⟨rfl, rfl⟩) ?_); (refine sassign rfl ?_); apply jW) | (refine WP.regionC (id := 1) ?_; (refine se_mkmap ?_); (refine sfieldp rfl rfl rfl ?_); (refine sloadp rfl rfl rfl rfl ?_); (refine slenm rfl rfl ?_); (refine su (ap_build (RqP.cons (rq_p rfl rfl) (RqP.cons (rq_p rfl rfl) (RqP.nil))) rfl) ?_); (refine se_box rfl (by exact ⟨rfl, rfl⟩) ?_); (refine sassign rfl ?_); apply jW) | (refine WP.regionC (id := 2) ?_; (refine sfieldp rfl rfl rfl ?_); (refine sloadp rfl rfl rfl rfl ?_); (refine slenm rfl rfl ?_); (refine smove rfl ?_); apply jW)))
  refine wp_loop (fun (k : Nat) => k ≤ g.terms.length) (fun k => g.terms.length - k)
    (fun k => (S 30 [(1, .ptr 0 4 0 0), (3, .ptr 1 2 0 0), (13, intA (g.terms.length : Nat)), (14, intA (k : Nat))] 3 [(0, some (.arr 4 [gramA g])), (1, some (.arr 2 [.agg [.map 2, intA (tnum g k)]])), (2, some (.map (mapA intK intA (nmap g k))))])) 0 ⟨[0, 2, 1], ToR.S rfl (by repeat' (first | exact rt_nil | refine rt_t rfl rfl ?_ | refine rt_e rfl rfl ?_)) (by repeat' (first | exact ro_nil | refine ro_e rfl rfl ?_ | refine ro_p rfl (by first | exact rfl | fail) (by first | (simp [bdL, bdL_append, AV.bd]; done) | fail) ?_ | refine ro_m rfl rfl (mapA_bd (fun _ => by exact rfl) _) ?_)) rfl (by (rw [hm]; exact rfl)) rfl (by (simp [bdT, AV.bd, bdL, bdL_append]; done)) (by repeat' (first | exact True.intro | exact rfl | refine And.intro ?_ ?_ | (simp [bdOq, bdL, bdL_append, AV.bd]; done))) (by (rw [hm]; exact Nat.le_of_ble_eq_true rfl))⟩ (Nat.zero_le _) ?_
  intro k hk
  have htl := tlist_len g k
  have hnx : (0 : Int) ≤ tnum g k ∧ tnum g k ≤ 2000 := by unfold tnum; omega
  by_cases hlt : k < g.terms.length
  · have hneed := needT_eq g k
    have hfr := nfresh_fn (nmap g k) (tnum g k) (by omega) (by omega)
    unfold nmA nmM at hfr
    have hts := tnum_succ g k
    (repeat' (first | apply jA | apply jF | apply jH | apply jI | apply jN | (refine wp_cond rfl (fun hc => ?_) (fun hc => ?_) <;> (try simp only [sB, ne_eq, reduceCtorEq] at hc) <;> (try (exfalso; omega))) | (refine WP.regionC (id := 3) ?_; (refine slss rfl rfl ?_); apply jW) | (refine WP.regionC (id := 4) ?_; (refine smove rfl ?_); (refine se_alloc rfl ?_); (refine se_store_b rfl rfl rfl rfl ?_); apply jW) | (refine WP.regionC (id := 5) ?_; (refine sfieldp rfl rfl rfl ?_); (refine sloadp rfl rfl rfl rfl ?_); (refine su (ap_clo (RqL.nil) (RqL.cons (rq_p rfl rfl) (RqL.nil))) ?_); (refine sc_b rfl rfl (by first | ((repeat' first | exact FzL.nil | refine FzL.cons ?_ ?_ | (exact Fz.reflp (by simp [AV.bd, bdL, bdL_append])) | refine Fz.ptrL rfl rfl ?_ | refine Fz.cloL ?_ ?_); done) | fail) (containsFuncR_fn _ _ _ (needR (k : Int)) (fun n => by simp [bdL, AV.bd]) (fun x _ => newNamer1_fn (k : Int) x)) rfl ?_); apply jW) | (refine WP.regionC (id := 7) ?_; (refine sadd rfl rfl (by exact inr_i64_of (by omega)) ?_); (refine smove rfl ?_); apply jW)))
    · have hy : needT g k = true := hneed.trans hc
      rw [if_pos hy] at hts
      have hms := nmap_succ_yes hy
      (repeat' (first | apply jH | apply jN | (refine wp_tree (id := 6) 8 mixed rfl ?_ <;> (refine wpt_take 0 rfl still_move (by exact ap_move (rq_p rfl rfl)) (by kernel_rfl) (by kernel_rfl) (by kernel_rfl) (by repeat (first | exact pind_q | apply pind_then | apply pind_block)) ?_; (refine wpt_take 5 rfl still_move (by exact ap_move (rq_p rfl rfl)) (by kernel_rfl) (by kernel_rfl) (by kernel_rfl) (by repeat (first | exact pind_q | apply pind_then | apply pind_block)) ?_; (refine wpt_takeNil 1 rfl rfl (by kernel_rfl) (by kernel_rfl) (by kernel_rfl) (by repeat (first | exact pind_q | apply pind_then | apply pind_block)) ?_; (refine wpt_take 2 rfl (by exact still_fieldAddr rfl rfl) (by exact ap_field_p (rq_p rfl rfl) rfl rfl) (by kernel_rfl) (by kernel_rfl) (by kernel_rfl) (by repeat (first | exact pind_q | apply pind_then | apply pind_block)) ?_; (refine wpt_all (rs := [3, 4, 6]) (by kernel_rfl) rfl ⟨?_, ?_, ?_, trivial⟩ <;> (first | (refine wpo_do (i := 3) rfl rfl ?_; (refine sloadp rfl rfl rfl rfl ?_); apply jW; (refine wpt_all (rs := [4, 6]) (by kernel_rfl) rfl ⟨?_, ?_, trivial⟩ <;> (first | (refine wpo_do (i := 4) rfl rfl ?_; (refine sloadpw rfl rfl rfl rfl ?_); apply jW; (refine wpt_all (rs := [6]) (by kernel_rfl) rfl ⟨?_, trivial⟩; (refine wpo_do (i := 6) rfl rfl ?_; (refine sc_o [1, 2] rfl rfl (hfr) (Lend.S (by first | ((repeat' first | exact RenL.nil | refine RenL.cons rfl ?_); done) | fail) (by first | ((repeat' first | exact LendO.nil | refine LendO.map rfl (by first | (simp [mapA, AV.ren, intA]; done) | fail) ?_ | refine LendO.arr rfl rfl ?_); done) | fail) (by decide) rfl (by simp [AV.bd, bdL, bdL_append]) (by repeat' (first | exact True.intro | refine And.intro ?_ ?_ | (simp [mapA, AV.bd, intA]; done) | simp [AV.bd, bdL, bdL_append]))) ?_; simp only [updN, newO, AObj.ren, renL, AV.ren, apx, ap, if_true, if_false, Nat.reduceLT, Nat.reduceAdd, Nat.reduceSub, sO, intA, boolA, strA, ren_mapI]); apply jW; (refine wpt_all (rs := [7]) (by kernel_rfl) rfl ⟨?_, trivial⟩; (refine wpo_do (i := 7) rfl rfl ?_; (refine se_mapset (kf := intK) rfl rfl rfl rfl ?_); apply jW; (refine wpt_end (by kernel_rfl) ?_)))))) | (refine wpo_do (i := 6) rfl rfl ?_; (refine sc_o [1, 2] rfl rfl (hfr) (Lend.S (by first | ((repeat' first | exact RenL.nil | refine RenL.cons rfl ?_); done) | fail) (by first | ((repeat' first | exact LendO.nil | refine LendO.map rfl (by first | (simp [mapA, AV.ren, intA]; done) | fail) ?_ | refine LendO.arr rfl rfl ?_); done) | fail) (by decide) rfl (by simp [AV.bd, bdL, bdL_append]) (by repeat' (first | exact True.intro | refine And.intro ?_ ?_ | (simp [mapA, AV.bd, intA]; done) | simp [AV.bd, bdL, bdL_append]))) ?_; simp only [updN, newO, AObj.ren, renL, AV.ren, apx, ap, if_true, if_false, Nat.reduceLT, Nat.reduceAdd, Nat.reduceSub, sO, intA, boolA, strA, ren_mapI]); apply jW; (refine wpt_takeN 4 [7] rfl (by exact ap_load_pw (rq_p rfl rfl) rfl rfl rfl) (by kernel_rfl) (by kernel_rfl) (by kernel_rfl) (by kernel_rfl) (by repeat (first | exact pind_q | apply pind_then | apply pind_block)) ?_; (refine wpt_all (rs := [7]) (by kernel_rfl) rfl ⟨?_, trivial⟩; (refine wpo_do (i := 7) rfl rfl ?_; (refine se_mapset (kf := intK) rfl rfl rfl rfl ?_); apply jW; (refine wpt_end (by kernel_rfl) ?_)))))))) | (refine wpo_do (i := 4) rfl rfl ?_; (refine sloadpw rfl rfl rfl rfl ?_); apply jW; (refine wpt_all (rs := [3, 6]) (by kernel_rfl) rfl ⟨?_, ?_, trivial⟩ <;> (first | (refine wpo_do (i := 3) rfl rfl ?_; (refine sloadp rfl rfl rfl rfl ?_); apply jW; (refine wpt_all (rs := [6]) (by kernel_rfl) rfl ⟨?_, trivial⟩; (refine wpo_do (i := 6) rfl rfl ?_; (refine sc_o [1, 2] rfl rfl (hfr) (Lend.S (by first | ((repeat' first | exact RenL.nil | refine RenL.cons rfl ?_); done) | fail) (by first | ((repeat' first | exact LendO.nil | refine LendO.map rfl (by first | (simp [mapA, AV.ren, intA]; done) | fail) ?_ | refine LendO.arr rfl rfl ?_); done) | fail) (by decide) rfl (by simp [AV.bd, bdL, bdL_append]) (by repeat' (first | exact True.intro | refine And.intro ?_ ?_ | (simp [mapA, AV.bd, intA]; done) | simp [AV.bd, bdL, bdL_append]))) ?_; simp only [updN, newO, AObj.ren, renL, AV.ren, apx, ap, if_true, if_false, Nat.reduceLT, Nat.reduceAdd, Nat.reduceSub, sO, intA, boolA, strA, ren_mapI]); apply jW; (refine wpt_all (rs := [7]) (by kernel_rfl) rfl ⟨?_, trivial⟩; (refine wpo_do (i := 7) rfl rfl ?_; (refine se_mapset (kf := intK) rfl rfl rfl rfl ?_); apply jW; (refine wpt_end (by kernel_rfl) ?_)))))) | (refine wpo_do (i := 6) rfl rfl ?_; (refine sc_o [1, 2] rfl rfl (hfr) (Lend.S (by first | ((repeat' first | exact RenL.nil | refine RenL.cons rfl ?_); done) | fail) (by first | ((repeat' first | exact LendO.nil | refine LendO.map rfl (by first | (simp [mapA, AV.ren, intA]; done) | fail) ?_ | refine LendO.arr rfl rfl ?_); done) | fail) (by decide) rfl (by simp [AV.bd, bdL, bdL_append]) (by repeat' (first | exact True.intro | refine And.intro ?_ ?_ | (simp [mapA, AV.bd, intA]; done) | simp [AV.bd, bdL, bdL_append]))) ?_; simp only [updN, newO, AObj.ren, renL, AV.ren, apx, ap, if_true, if_false, Nat.reduceLT, Nat.reduceAdd, Nat.reduceSub, sO, intA, boolA, strA, ren_mapI]); apply jW; (refine wpt_takeN 3 [7] rfl (by exact ap_load_p (rq_p rfl rfl) rfl rfl rfl) (by kernel_rfl) (by kernel_rfl) (by kernel_rfl) (by kernel_rfl) (by repeat (first | exact pind_q | apply pind_then | apply pind_block)) ?_; (refine wpt_all (rs := [7]) (by kernel_rfl) rfl ⟨?_, trivial⟩; (refine wpo_do (i := 7) rfl rfl ?_; (refine se_mapset (kf := intK) rfl rfl rfl rfl ?_); apply jW; (refine wpt_end (by kernel_rfl) ?_)))))))) | (refine wpo_do (i := 6) rfl rfl ?_; (refine sc_o [1, 2] rfl rfl (hfr) (Lend.S (by first | ((repeat' first | exact RenL.nil | refine RenL.cons rfl ?_); done) | fail) (by first | ((repeat' first | exact LendO.nil | refine LendO.map rfl (by first | (simp [mapA, AV.ren, intA]; done) | fail) ?_ | refine LendO.arr rfl rfl ?_); done) | fail) (by decide) rfl (by simp [AV.bd, bdL, bdL_append]) (by repeat' (first | exact True.intro | refine And.intro ?_ ?_ | (simp [mapA, AV.bd, intA]; done) | simp [AV.bd, bdL, bdL_append]))) ?_; simp only [updN, newO, AObj.ren, renL, AV.ren, apx, ap, if_true, if_false, Nat.reduceLT, Nat.reduceAdd, Nat.reduceSub, sO, intA, boolA, strA, ren_mapI]); apply jW; (refine wpt_takeN 3 [7] rfl (by exact ap_load_p (rq_p rfl rfl) rfl rfl rfl) (by kernel_rfl) (by kernel_rfl) (by kernel_rfl) (by kernel_rfl) (by repeat (first | exact pind_q | apply pind_then | apply pind_block)) ?_; (refine wpt_takeN 4 [7] rfl (by exact ap_load_pw (rq_p rfl rfl) rfl rfl rfl) (by kernel_rfl) (by kernel_rfl) (by kernel_rfl) (by kernel_rfl) (by repeat (first | exact pind_q | apply pind_then | apply pind_block)) ?_; (refine wpt_all (rs := [7]) (by kernel_rfl) rfl ⟨?_, trivial⟩; (refine wpo_do (i := 7) rfl rfl ?_; (refine se_mapset (kf := intK) rfl rfl rfl rfl ?_); apply jW; (refine wpt_end (by kernel_rfl) ?_))))))))))))) | (refine WP.regionC (id := 7) ?_; (refine sadd rfl rfl (by exact inr_i64_of (by omega)) ?_); (refine smove rfl ?_); apply jW)))
      all_goals
        refine ⟨k + 1, ⟨by omega, by omega⟩, ?_⟩
        rw [hms, hts]
        exact ⟨[0, 1, 2], ToR.S rfl (by repeat' (first | exact rt_nil | refine rt_t rfl rfl ?_ | refine rt_e rfl rfl ?_)) (by repeat' (first | exact ro_nil | refine ro_e rfl rfl ?_ | refine ro_p rfl (by first | exact rfl | fail) (by first | (simp [bdL, bdL_append, AV.bd]; done) | fail) ?_ | refine ro_m rfl rfl (mapA_bd (fun _ => by exact rfl) _) ?_)) rfl (by (rw [hm]; exact rfl)) rfl (by (simp [bdT, AV.bd, bdL, bdL_append]; done)) (by repeat' (first | exact True.intro | exact rfl | exact mapA_all (fun _ => by exact rfl) _ | refine And.intro ?_ ?_ | (simp [bdOq, bdL, bdL_append, AV.bd]; done))) (by (rw [hm]; exact Nat.le_of_ble_eq_true rfl))⟩
    · have hy : needT g k = false := hneed.trans hc
      rw [hy] at hts
      have hms := nmap_succ_no hy
      have hts' : tnum g (k + 1) = tnum g k := by rw [hts]; simp
      refine ⟨k + 1, ⟨by omega, by omega⟩, ?_⟩
      rw [hms, hts']
      exact ⟨[0, 1, 2], ToR.S rfl (by repeat' (first | exact rt_nil | refine rt_t rfl rfl ?_ | refine rt_e rfl rfl ?_)) (by repeat' (first | exact ro_nil | refine ro_e rfl rfl ?_ | refine ro_p rfl (by first | exact rfl | fail) (by first | (simp [bdL, bdL_append, AV.bd]; done) | fail) ?_ | refine ro_m rfl rfl (mapA_bd (fun _ => by exact rfl) _) ?_)) rfl (by (rw [hm]; exact rfl)) rfl (by (simp [bdT, AV.bd, bdL, bdL_append]; done)) (by repeat' (first | exact True.intro | exact rfl | exact mapA_all (fun _ => by exact rfl) _ | refine And.intro ?_ ?_ | (simp [bdOq, bdL, bdL_append, AV.bd]; done))) (by (rw [hm]; exact Nat.le_of_ble_eq_true rfl))⟩
  · have hke : k = g.terms.length := by omega
    subst hke
    (repeat' (first | apply jA | apply jH | apply jJ | apply jK | apply jL | apply jP | apply jS | (refine wp_cond rfl (fun hc => ?_) (fun hc => ?_) <;> (try simp only [sB, ne_eq, reduceCtorEq] at hc) <;> (try (exfalso; omega))) | (refine WP.regionC (id := 3) ?_; (refine slss rfl rfl ?_); apply jW) | (refine WP.regionC (id := 8) ?_; (refine smove rfl ?_); (refine sassign rfl ?_); apply jW)))
    have hb : baseN g = tnum g g.terms.length := rfl
    rw [hb]
    refine retO_L (x := .ptr 1 2 0 0) (k := 2) (os1 := [(0, some (.arr 2 [.agg [.map 1, intA (tnum g g.terms.length)]])), (1, some (.map (mapA intK intA (nmap g g.terms.length))))]) (.tmp rfl .nil) rfl ⟨[1, 2], ToR.S rfl (by repeat' (first | exact rt_nil | refine rt_t rfl rfl ?_)) (by repeat' (first | exact ro_nil | refine ro_e rfl rfl ?_ | refine ro_m rfl rfl (mapA_bd (fun _ => by exact rfl) _) ?_)) rfl rfl rfl (by (simp [bdT, AV.bd, bdL, bdL_append]; done)) (by repeat' (first | exact True.intro | exact rfl | exact mapA_all (fun _ => by exact rfl) _ | refine And.intro ?_ ?_)) (by exact Nat.le_of_ble_eq_true rfl)⟩ rfl
end Go.Lg

namespace Go.Lg
open Go.Proofs
set_option linter.unusedSimpArgs false
set_option linter.unusedVariables false
attribute [local irreducible] Ap Rq asemC WP RunD Ret Gq thenA inBlockA bodyQ noGotoA RqL RqP OpP
set_option maxHeartbeats 4000000
theorem contains_fn (s sub : ByteArray) (hs : s.size < 4294967281) : Fn Try.prog 84 [.val (.string s), .val (.string sub)] (.val (.bool (Lib.contains s.data.toList sub.data.toList))) := by
  refine Fn.of_same (vs := [.string s, .string sub]) (by kernel_rfl) rfl fun w hw => ?_
  obtain ⟨m, hm⟩ := hw.1 (gints.getD 0 (0, .i64)) (by simp [gints])
  exact Try.strings_Contains s sub m w hs hm
def encOk (n : Nat) : Bool := Lib.contains [95, 46, 64] (Utf8.encode (n : Int)).data.toList == (decide ((n : Int) = 95) || decide ((n : Int) = 46) || decide ((n : Int) = 64))
theorem encOk_all : (List.range 256).all encOk = true := by kernel_rfl
theorem enc_byte (c : UInt8) : Lib.contains [95, 46, 64] (Utf8.encode c.toNat).data.toList = (decide ((c.toNat : Int) = 95) || decide ((c.toNat : Int) = 46) || decide ((c.toNat : Int) = 64)) := by
  have h := List.all_eq_true.1 encOk_all c.toNat (List.mem_range.2 c.toNat_lt)
  simpa [encOk] using h
def nameB (c : Int) : Bool := letB c || digB c || decide (c = 95) || decide (c = 46) || decide (c = 64)
theorem nth_bAt (s : ByteArray) (i : Nat) : ((nth s.data.toList i).toNat : Int) = bAt s i := rfl
theorem nameOk_of {s : ByteArray} (h0 : 0 < s.size) (h1 : s.size ≤ 48) (h2 : letB (bAt s 0) = true) (h : ∀ i, i < s.size → nameB (bAt s i) = true) : nameOk s = true := by
  simp only [nameOk, Bool.and_eq_true, decide_eq_true_eq, List.all_eq_true, List.mem_range]
  refine ⟨⟨h0, h1⟩, fun i hi => ?_⟩
  simp only [nameCh]
  by_cases e : i = 0
  · subst e; simp [h2]
  · have := h i hi
    simp only [nameB, Bool.or_assoc] at this
    simpa [e, Bool.or_assoc] using this
theorem nameOk_no {s : ByteArray} {i : Nat} (hi : i < s.size) (h : nameB (bAt s i) = false) : nameOk s = false := by
  have : nameCh s i = false := by
    simp only [nameB, Bool.or_eq_false_iff] at h
    simp only [nameCh, h.1.1.1.1, h.1.1.1.2, h.1.1.2, h.1.2, h.2, Bool.or_false, Bool.and_false, Bool.false_or]
  simp only [nameOk, range_all_no hi this, Bool.and_false]
theorem gname_fn (s : ByteArray) : Fn Try.prog 75 [strA s] (boolA (nameOk s)) := by
  refine Fn.intro rfl (by kernel_rfl) Try.func75 rfl rfl Try.ntmps75 (by exact Nat.le_of_ble_eq_true rfl) ?_; intro Γ hm
  by_cases hs : s.size = 0
  · have : s = ⟨#[]⟩ := by
      obtain ⟨⟨l⟩⟩ := s
      have : l = [] := List.eq_nil_of_length_eq_zero (by simpa [ByteArray.size] using hs)
      subst this; rfl
    subst this
    (repeat' (first | apply jA | apply jF | apply jH | apply jI | apply jK | apply jM | apply jS | (refine wp_cond rfl (fun hc => ?_) (fun hc => ?_) <;> (try simp only [sB, ne_eq, reduceCtorEq] at hc) <;> (try (exfalso; omega))) | (refine WP.regionC ?_; (refine sassign rfl ?_); apply jW) | (refine WP.regionC (id := 1) ?_; (refine smove rfl ?_); (refine seqs rfl rfl ?_); (refine smove rfl ?_); (refine sg (gq_vf rfl rfl) (fun he => ap_move (rq_p rfl rfl)) ?_); (refine sg (gq_vf rfl rfl) (fun he => ap_len_str rfl (rq_c rfl rfl)) ?_); (refine sg (gq_vf rfl rfl) (fun he => ap_gtr (rq_c rfl rfl) (rq_p rfl rfl)) ?_); (refine su (ap_or (rq_p rfl rfl) (rq_c rfl rfl)) ?_); (refine smove rfl ?_); (refine sg (gq_vf rfl rfl) (fun he => ap_move (rq_p rfl rfl)) ?_); (refine sg (gq_vf rfl rfl) (fun he => ap_sidx_n (rq_c rfl rfl) (rq_p rfl rfl) rfl (by (try simp only [sH, id, sB, ne_eq, reduceCtorEq] at he); (exfalso; simp at he; done))) ?_); (refine sg_p (gq_vf rfl rfl) (fun he => ⟨(rq_p rfl rfl), (RqL.cons (rq_c rfl rfl) (RqL.nil)), (by first | ((repeat' first | exact SubL.nil | refine SubL.cons ?_ ?_ | exact Sub.refl); done) | fail), (by first | (simp [bdL, bdL_append, AV.bd]; done) | fail), letter18_fn _⟩) ?_); (refine sg (gq_vf rfl rfl) (fun he => ap_not (rq_c rfl rfl)) ?_); (refine su (ap_or (rq_p rfl rfl) (rq_c rfl rfl)) ?_); apply jW) | (refine WP.regionC (id := 3) ?_; (refine smove rfl ?_); (refine se_s2b (by kernel_rfl) rfl (by omega) ?_); (refine slenm rfl rfl ?_); (refine smove rfl ?_); apply jW) | exact ret_eq rfl rfl rfl))
    simp at hc
  have hb0 := bAt_bd s 0
  have hne : ¬ s = ⟨#[]⟩ := by rintro rfl; exact hs rfl
  have hlen : s.data.toList.length = s.size := by simp
  (repeat' (first | apply jA | apply jF | apply jH | apply jI | apply jK | apply jM | apply jS | (refine wp_cond rfl (fun hc => ?_) (fun hc => ?_) <;> (try simp only [sB, ne_eq, reduceCtorEq] at hc) <;> (try (exfalso; omega))) | (refine WP.regionC ?_; (refine sassign rfl ?_); apply jW) | (refine WP.regionC (id := 1) ?_; (refine smove rfl ?_); (refine seqs rfl rfl ?_); (refine smove rfl ?_); (refine sg (gq_vf rfl rfl) (fun he => ap_move (rq_p rfl rfl)) ?_); (refine sg (gq_vf rfl rfl) (fun he => ap_len_str rfl (rq_c rfl rfl)) ?_); (refine sg (gq_vf rfl rfl) (fun he => ap_gtr (rq_c rfl rfl) (rq_p rfl rfl)) ?_); (refine su (ap_or (rq_p rfl rfl) (rq_c rfl rfl)) ?_); (refine smove rfl ?_); (refine sg (gq_vf rfl rfl) (fun he => ap_move (rq_p rfl rfl)) ?_); (refine sg (gq_vf rfl rfl) (fun he => ap_sidx_n (rq_c rfl rfl) (rq_p rfl rfl) rfl (by (try simp only [sH, id, sB, ne_eq, reduceCtorEq] at he); (simp only [sL] <;> omega))) ?_); (refine sg_p (gq_vf rfl rfl) (fun he => ⟨(rq_p rfl rfl), (RqL.cons (rq_c rfl rfl) (RqL.nil)), (by first | ((repeat' first | exact SubL.nil | refine SubL.cons ?_ ?_ | exact Sub.refl); done) | fail), (by first | (simp [bdL, bdL_append, AV.bd]; done) | fail), letter18_fn _⟩) ?_); (refine sg (gq_vf rfl rfl) (fun he => ap_not (rq_c rfl rfl)) ?_); (refine su (ap_or (rq_p rfl rfl) (rq_c rfl rfl)) ?_); apply jW) | (refine WP.regionC (id := 3) ?_; (refine smove rfl ?_); (refine se_s2b (by kernel_rfl) rfl (by omega) ?_); (refine slenm rfl rfl ?_); (refine smove rfl ?_); apply jW) | refine ret_b rfl ?_))
  · rcases hc with (hc | hc) | hc
    · exact absurd hc hne
    · simp [nameOk]; omega
    · have : nameCh s 0 = false := by simp [nameCh, hc]
      simp only [nameOk, range_all_no (k := 0) (n := s.size) (by omega) this, Bool.and_false]
  obtain ⟨⟨_, h48⟩, hl0⟩ := hc
  refine wp_loop (fun (k : Nat) => k ≤ s.size ∧ ∀ i, i < k → nameB (bAt s i) = true) (fun k => s.size - k)
    (fun k => (S 43 [(19, .sl 1 (s.data.toList.map byteA)), (20, intA (s.data.toList.length : Nat)), (21, intA (k : Nat))] 0 [])) 0 ⟨[], ToR.S rfl (by repeat' (first | exact rt_nil | refine rt_e rfl rfl ?_ | refine rt_p rfl rfl (by first | (simp [AV.bd, bdL, bdL_append]; done) | fail) ?_)) (by repeat' (exact ro_nil)) rfl (by (rw [hm]; exact rfl)) rfl (by (simp [bdT, AV.bd, bdL, bdL_append]; done)) (by repeat' (exact True.intro)) (by (rw [hm]; exact Nat.le_of_ble_eq_true rfl))⟩ ⟨Nat.zero_le _, by simp⟩ ?_
  rintro k ⟨hk, hall⟩
  by_cases hlt : k < s.size
  · have hbk := bAt_bd s k
    have hlt' : k < s.data.toList.length := by omega
    have hnb := nth_bAt s k
    (repeat' (first | apply jA | apply jF | apply jH | apply jI | apply jK | apply jM | apply jN | apply jO | apply jS | (refine wp_cond rfl (fun hc => ?_) (fun hc => ?_) <;> (try simp only [sB, ne_eq, reduceCtorEq] at hc) <;> (try (exfalso; omega))) | (refine WP.regionC (id := 4) ?_; (refine slss rfl rfl ?_); apply jW) | (refine WP.regionC (id := 5) ?_; (refine sidxn rfl rfl (by omega) ?_); (refine sloadw rfl rfl ?_); (refine sassign rfl ?_); apply jW) | (refine WP.regionC (id := 6) ?_; (refine smove rfl ?_); (refine sc_p rfl rfl (by first | ((repeat' first | exact SubL.nil | refine SubL.cons ?_ ?_ | exact Sub.refl); done) | fail) (by first | (simp [bdL, bdL_append, AV.bd]; done) | fail) (letter18_fn _) ?_); (refine su (anot rfl) ?_); (refine smove rfl ?_); (refine sg (gq_vt rfl rfl) (fun he => ap_move (rq_p rfl rfl)) ?_); (refine sg (gq_vt rfl rfl) (fun he => ap_lss (rq_c rfl rfl) (rq_p rfl rfl)) ?_); (refine sg (gq_vt rfl rfl) (fun he => ap_move (rq_c rfl rfl)) ?_); (refine sg (gq_cf rfl rfl) (fun he => ap_move (rq_p rfl rfl)) ?_); (refine sg (gq_cf rfl rfl) (fun he => ap_gtr (rq_c rfl rfl) (rq_p rfl rfl)) ?_); (refine sg (gq_vt rfl rfl) (fun he => ap_or (rq_c rfl rfl) (rq_c rfl rfl)) ?_); (refine su (ap_and (rq_p rfl rfl) (rq_c rfl rfl)) ?_); (refine smove rfl ?_); (refine sg (gq_vt rfl rfl) (fun he => ap_move (rq_p rfl rfl)) ?_); (refine sg (gq_vt rfl rfl) (fun he => ap_conv_is (rq_c rfl rfl) rfl rfl (by kernel_rfl)) ?_); (refine sg_p (gq_vt rfl rfl) (fun he => ⟨(rq_p rfl rfl), (RqL.cons (rq_p rfl rfl) (RqL.cons (rq_c rfl rfl) (RqL.nil))), (by first | ((repeat' first | exact SubL.nil | refine SubL.cons ?_ ?_ | exact Sub.refl); done) | fail), (by first | (simp [bdL, bdL_append, AV.bd]; done) | fail), contains_fn _ _ (by decide)⟩) ?_); (refine sg (gq_vt rfl rfl) (fun he => ap_not (rq_c rfl rfl)) ?_); (refine su (ap_and (rq_p rfl rfl) (rq_c rfl rfl)) ?_); apply jW) | (refine WP.regionC (id := 7) ?_; (refine sassign rfl ?_); apply jW) | (refine WP.regionC (id := 8) ?_; (refine sadd rfl rfl (by exact inr_i64_of (by omega)) ?_); (refine smove rfl ?_); apply jW) | refine ret_b rfl ?_))
    · obtain ⟨⟨h1, h2⟩, h3⟩ := hc
      rw [enc_byte, hnb] at h3
      rw [hnb] at h1 h2
      simp only [Bool.or_eq_false_iff] at h3
      rw [nameOk_no hlt]
      simp only [nameB, h1, h3.1.1, h3.1.2, h3.2, Bool.or_false, Bool.false_or, digB]
      simp; omega
    · refine ⟨k + 1, ⟨by omega, by omega, fun i hi => ?_⟩, ⟨[], ToR.S rfl (by repeat' (first | exact rt_nil | refine rt_e rfl rfl ?_ | refine rt_p rfl rfl (by first | (simp [AV.bd, bdL, bdL_append]; done) | fail) ?_)) (by repeat' (exact ro_nil)) rfl (by (rw [hm]; exact rfl)) rfl (by (simp [bdT, AV.bd, bdL, bdL_append]; done)) (by repeat' (exact True.intro)) (by (rw [hm]; exact Nat.le_of_ble_eq_true rfl))⟩⟩
      by_cases e : i = k
      · subst e
        rw [enc_byte, hnb] at hc
        simp only [nameB, digB]
        simp only [Bool.or_eq_true, Bool.and_eq_true, decide_eq_true_eq] at hc ⊢
        rcases hc with (hc | hc) | (hc | hc) | hc
        · simp [hc]
        · simp [hc]
        · simp [hc]
        · simp [hc]
        · simp [hc]
      · exact hall i (by omega)
  · (repeat' (first | apply jA | apply jH | apply jJ | apply jK | apply jL | apply jP | apply jS | (refine wp_cond rfl (fun hc => ?_) (fun hc => ?_) <;> (try simp only [sB, ne_eq, reduceCtorEq] at hc) <;> (try (exfalso; omega))) | (refine WP.regionC (id := 4) ?_; (refine slss rfl rfl ?_); apply jW) | (refine WP.regionC (id := 9) ?_; (refine sassign rfl ?_); apply jW) | refine ret_b rfl ?_))
    rw [nameOk_of (by omega) (by omega) hl0 fun i hi => hall i (by omega)]
end Go.Lg

namespace Go.Lg
open Go.Proofs
set_option linter.unusedSimpArgs false
set_option linter.unusedVariables false
attribute [local irreducible] Ap Rq asemC WP RunD Ret Gq thenA inBlockA bodyQ noGotoA RqL RqP OpP
set_option maxHeartbeats 4000000
structure Seen (m : List (ByteArray × Unit)) (l : List ByteArray) : Prop where
  ok : ∀ x, x ∈ l → nameOk x = true
  nd : l.Nodup
  mem : ∀ x, (aget m x).isSome = true ↔ x ∈ l
theorem Seen.nil : Seen [] [] := ⟨by simp, by simp, by simp [aget, afind]⟩
theorem Seen.add {m : List (ByteArray × Unit)} {l : List ByteArray} {x : ByteArray} (h : Seen m l) (h1 : (aget m x).isSome = false) (h2 : nameOk x = true) : Seen (aset m x ()) (l ++ [x]) := by
  have hx : x ∉ l := fun e => by have := (h.mem x).2 e; rw [h1] at this; cases this
  refine ⟨fun y hy => ?_, ?_, fun y => ?_⟩
  · rcases List.mem_append.1 hy with hy | hy
    · exact h.ok y hy
    · rw [List.mem_singleton.1 hy]; exact h2
  · rw [List.nodup_append]; exact ⟨h.nd, by simp, fun a ha b hb => by rw [List.mem_singleton.1 hb]; rintro rfl; exact hx ha⟩
  · rw [aget_aset]
    by_cases e : y = x
    · subst e; simp
    · rw [if_neg e, h.mem y]; simp [e]
theorem Seen.all {m : List (ByteArray × Unit)} {l : List ByteArray} (h : Seen m l) : namesOk l = true := by
  simp only [namesOk, Bool.and_eq_true, decide_eq_true_eq, List.all_eq_true]; exact ⟨h.ok, h.nd⟩
theorem Seen.no {m : List (ByteArray × Unit)} {l r : List ByteArray} {x : ByteArray} (h : Seen m l) (h1 : (aget m x).isSome = true ∨ nameOk x = false) : namesOk (l ++ x :: r) = false := by
  cases hq : namesOk (l ++ x :: r) with
  | false => rfl
  | true =>
    simp only [namesOk, Bool.and_eq_true, decide_eq_true_eq, List.all_eq_true] at hq
    rcases h1 with h1 | h1
    · have := (h.mem x).1 h1
      exact absurd rfl ((List.nodup_append.1 hq.2).2.2 x this x (by simp))
    · have := hq.1 x (by simp); rw [h1] at this; cases this
theorem take_flatten {α : Type} [Inhabited α] {L : List (List α)} {j : Nat} (h : j < L.length) : (L.take (j + 1)).flatten = (L.take j).flatten ++ nth L j := by
  rw [take_succ_nth h, List.flatten_append]; simp
theorem split_at {α : Type} [Inhabited α] {L : List (List α)} {j k : Nat} (h : j < L.length) (hk : k < (nth L j).length) : ∃ r, L.flatten = ((L.take j).flatten ++ (nth L j).take k) ++ nth (nth L j) k :: r := by
  refine ⟨(nth L j).drop (k + 1) ++ (L.drop (j + 1)).flatten, ?_⟩
  conv => lhs; rw [← List.take_append_drop (j + 1) L, List.flatten_append, take_flatten h]
  conv => lhs; rw [← List.take_append_drop k (nth L j)]
  rw [List.drop_eq_getElem_cons hk, ← nth_eq hk]
  simp
theorem named_fn (g : Gram) (h1 : g.terms.length ≤ 120) (h2 : g.nonterms.length ≤ 120) : Fn Try.prog 58 [gramA g] (boolA (namesOk (g.terms ++ g.nonterms))) := by
  refine Fn.intro rfl (by kernel_rfl) Try.func58 rfl rfl Try.ntmps58 (by exact Nat.le_of_ble_eq_true rfl) ?_; intro Γ hm
  have hfl : [g.terms, g.nonterms].flatten = g.terms ++ g.nonterms := by simp
  have hln : ∀ j, j < 2 → (nth [g.terms, g.nonterms] j).length ≤ 120 := by
    intro j hj
    match j, hj with
    | 0, _ => exact h1
    | 1, _ => exact h2
  have hll : [g.terms, g.nonterms].length = 2 := rfl
  rw [← hfl]
  (repeat' (first | apply jA | apply jF | apply jH | (refine WP.regionC (id := 0) ?_; (refine se_box rfl (by exact ⟨rfl, rfl⟩) ?_); (refine sassign rfl ?_); apply jW) | (refine WP.regionC (id := 1) ?_; (refine se_mkmap ?_); (refine sassign rfl ?_); apply jW) | (refine WP.regionC (id := 2) ?_; (refine sfieldp rfl rfl rfl ?_); (refine sloadp rfl rfl rfl rfl ?_); (refine sfieldp rfl rfl rfl ?_); (refine sloadp rfl rfl rfl rfl ?_); (refine se_lit (OpP.cons rfl (OpP.cons rfl (OpP.nil))) rfl rfl rfl rfl rfl rfl ?_); (refine su (alenr rfl rfl) ?_); (refine smove rfl ?_); apply jW)))
  refine wp_loop (fun (x : Nat × List (ByteArray × Unit)) => x.1 ≤ 2 ∧ Seen x.2 ([g.terms, g.nonterms].take x.1).flatten) (fun x => 2 - x.1)
    (fun x => (S 44 [(3, .map 0), (15, .ref 1 1 0 2), (16, intA (2 : Nat)), (17, intA (x.1 : Nat))] 2 [(0, some (.map (mapA strK unitA x.2))), (1, some (.arr 1 ([g.terms, g.nonterms].map strsA)))])) (0, []) ⟨[1, 2], ToR.S rfl (by repeat' (first | exact rt_nil | refine rt_r rfl rfl ?_ | refine rt_m rfl rfl ?_ | refine rt_e rfl rfl ?_)) (by repeat' (first | exact ro_nil | refine ro_p rfl (by first | exact rfl | fail) (by first | exact bdL_map (fun _ => by simp [AV.bd, bdL, bdL_append]) _ | fail) ?_ | refine ro_m rfl rfl (mapA_bd (fun _ => by exact rfl) _) ?_)) rfl (by (rw [hm]; exact rfl)) rfl (by (simp [bdT, AV.bd, bdL, bdL_append]; done)) (by repeat' (first | exact True.intro | exact rfl | refine And.intro ?_ ?_ | exact bdL_map (fun _ => by simp [AV.bd, bdL, bdL_append]) _)) (by (rw [hm]; exact Nat.le_of_ble_eq_true rfl))⟩ ⟨by decide, Seen.nil⟩ ?_
  rintro ⟨j, m⟩ ⟨hj, hs⟩
  dsimp only at *
  by_cases hlt : j < 2
  · have hjl := hln j hlt
    (repeat' (first | apply jA | apply jF | apply jH | apply jI | (refine wp_cond rfl (fun hc => ?_) (fun hc => ?_) <;> (try simp only [sB, ne_eq, reduceCtorEq] at hc) <;> (try (exfalso; omega))) | (refine WP.regionC (id := 3) ?_; (refine slss rfl rfl ?_); apply jW) | (refine WP.regionC (id := 4) ?_; (refine su (aidxrn rfl rfl (by omega)) ?_); (refine su (aloadpt rfl rfl (by omega) rfl) ?_); (refine sassign rfl ?_); apply jW) | (refine WP.regionC (id := 5) ?_; (refine smove rfl ?_); (refine slenm rfl rfl ?_); (refine smove rfl ?_); apply jW)))
    refine wp_loop (fun (x : Nat × List (ByteArray × Unit)) => x.1 ≤ (nth [g.terms, g.nonterms] j).length ∧ Seen x.2 (([g.terms, g.nonterms].take j).flatten ++ (nth [g.terms, g.nonterms] j).take x.1)) (fun x => (nth [g.terms, g.nonterms] j).length - x.1)
      (fun x => (S 44 [(3, .map 0), (15, .ref 1 1 0 2), (16, intA (2 : Nat)), (17, intA (j : Nat)), (21, strsA (nth [g.terms, g.nonterms] j)), (22, intA ((nth [g.terms, g.nonterms] j).length : Nat)), (23, intA (x.1 : Nat))] 2 [(0, some (.map (mapA strK unitA x.2))), (1, some (.arr 1 ([g.terms, g.nonterms].map strsA)))])) (0, m) ⟨[0, 1], ToR.S rfl (by repeat' (first | exact rt_nil | refine rt_r rfl rfl ?_ | refine rt_m rfl rfl ?_ | refine rt_e rfl rfl ?_ | refine rt_p rfl rfl (by first | (simp [AV.bd, bdL, bdL_append]; done) | fail) ?_)) (by repeat' (first | exact ro_nil | refine ro_p rfl (by first | exact rfl | fail) (by first | exact bdL_map (fun _ => by simp [AV.bd, bdL, bdL_append]) _ | fail) ?_ | refine ro_m rfl rfl (mapA_bd (fun _ => by exact rfl) _) ?_)) rfl (by (rw [hm]; exact rfl)) rfl (by (simp [bdT, AV.bd, bdL, bdL_append]; done)) (by repeat' (first | exact True.intro | exact mapA_all (fun _ => by exact rfl) _ | refine And.intro ?_ ?_ | exact bdL_map (fun _ => by simp [AV.bd, bdL, bdL_append]) _)) (by (rw [hm]; exact Nat.le_of_ble_eq_true rfl))⟩ ⟨Nat.zero_le _, by simpa using hs⟩ ?_
    rintro ⟨k, m2⟩ ⟨hk, hs2⟩
    dsimp only at *
    by_cases hkl : k < (nth [g.terms, g.nonterms] j).length
    · (repeat' (first | apply jA | apply jF | apply jH | apply jI | apply jK | apply jM | apply jN | apply jO | apply jS | (refine wp_cond rfl (fun hc => ?_) (fun hc => ?_) <;> (try simp only [sB, ne_eq, reduceCtorEq] at hc) <;> (try (exfalso; omega))) | (refine WP.regionC (id := 6) ?_; (refine slss rfl rfl ?_); apply jW) | (refine WP.regionC (id := 7) ?_; (refine sidxn rfl rfl (by omega) ?_); (refine sloadw rfl rfl ?_); (refine sassign rfl ?_); apply jW) | (refine WP.regionC (id := 8) ?_; (refine smove rfl ?_); (refine smove rfl ?_); (refine su (ap_look2 (kf := strK) (f := unitA) (z0 := ()) (rq_p rfl rfl) rfl (rq_p rfl rfl) rfl) ?_); (refine smove rfl ?_); (refine su (aextract rfl rfl) ?_); (refine su (aextract rfl rfl) ?_); (refine se_unit_alloc (by kernel_rfl) ?_); (refine se_store_b rfl rfl rfl rfl ?_); (refine sassign rfl ?_); apply jW) | (refine WP.regionC (id := 9) ?_; (refine smove rfl ?_); (refine smove rfl ?_); (refine sg (gq_vf rfl rfl) (fun he => ap_move (rq_p rfl rfl)) ?_); (refine sg_p (gq_vf rfl rfl) (fun he => ⟨(rq_p rfl rfl), (RqL.cons (rq_c rfl rfl) (RqL.nil)), (by first | ((repeat' first | exact SubL.nil | refine SubL.cons ?_ ?_ | exact Sub.refl); done) | fail), (by first | (simp [bdL, bdL_append, AV.bd]; done) | fail), gname_fn _⟩) ?_); (refine sg (gq_vf rfl rfl) (fun he => ap_not (rq_c rfl rfl)) ?_); (refine su (ap_or (rq_p rfl rfl) (rq_c rfl rfl)) ?_); apply jW) | (refine WP.regionC (id := 10) ?_; (refine sassign rfl ?_); apply jW) | (refine WP.regionC (id := 11) ?_; (refine smove rfl ?_); (refine smove rfl ?_); (refine se_unit_build (by kernel_rfl) ?_); (refine se_mapset (kf := strK) (f := unitA) (v := ()) rfl rfl rfl rfl ?_); apply jW) | (refine WP.regionC (id := 12) ?_; (refine sadd rfl rfl (by exact inr_i64_of (by omega)) ?_); (refine smove rfl ?_); apply jW) | refine ret_b rfl ?_))
      · obtain ⟨r, hr⟩ := split_at (L := [g.terms, g.nonterms]) (by omega) hkl
        rw [hr, hs2.no hc]
      · refine ⟨(k + 1, aset m2 (nth (nth [g.terms, g.nonterms] j) k) ()), ⟨by dsimp only; omega, by dsimp only; omega, ?_⟩, ⟨[0, 1], ToR.S rfl (by repeat' (first | exact rt_nil | refine rt_r rfl rfl ?_ | refine rt_m rfl rfl ?_ | refine rt_e rfl rfl ?_ | refine rt_p rfl rfl (by first | (simp [AV.bd, bdL, bdL_append]; done) | fail) ?_)) (by repeat' (first | exact ro_nil | refine ro_p rfl (by first | exact rfl | fail) (by first | exact bdL_map (fun _ => by simp [AV.bd, bdL, bdL_append]) _ | fail) ?_ | refine ro_m rfl rfl (mapA_bd (fun _ => by exact rfl) _) ?_)) rfl (by (rw [hm]; exact rfl)) rfl (by (simp [bdT, AV.bd, bdL, bdL_append]; done)) (by repeat' (first | exact True.intro | exact mapA_all (fun _ => by exact rfl) _ | refine And.intro ?_ ?_ | exact bdL_map (fun _ => by simp [AV.bd, bdL, bdL_append]) _)) (by (rw [hm]; exact Nat.le_of_ble_eq_true rfl))⟩⟩
        have := hs2.add hc.1 hc.2
        rw [List.append_assoc, ← take_succ_nth hkl] at this
        exact this
    · (repeat' (first | apply jA | apply jH | apply jJ | apply jL | apply jN | apply jP | (refine wp_cond rfl (fun hc => ?_) (fun hc => ?_) <;> (try simp only [sB, ne_eq, reduceCtorEq] at hc) <;> (try (exfalso; omega))) | (refine WP.regionC (id := 6) ?_; (refine slss rfl rfl ?_); apply jW) | (refine WP.regionC (id := 13) ?_; (refine sadd rfl rfl (by exact inr_i64_of (by omega)) ?_); (refine smove rfl ?_); apply jW)))
      refine ⟨(j + 1, m2), ⟨by dsimp only; omega, by dsimp only; omega, ?_⟩, ⟨[0, 1], ToR.S rfl (by repeat' (first | exact rt_nil | refine rt_r rfl rfl ?_ | refine rt_m rfl rfl ?_ | refine rt_e rfl rfl ?_)) (by repeat' (first | exact ro_nil | refine ro_p rfl (by first | exact rfl | fail) (by first | exact bdL_map (fun _ => by simp [AV.bd, bdL, bdL_append]) _ | fail) ?_ | refine ro_m rfl rfl (mapA_bd (fun _ => by exact rfl) _) ?_)) rfl (by (rw [hm]; exact rfl)) rfl (by (simp [bdT, AV.bd, bdL, bdL_append]; done)) (by repeat' (first | exact True.intro | exact mapA_all (fun _ => by exact rfl) _ | refine And.intro ?_ ?_ | exact bdL_map (fun _ => by simp [AV.bd, bdL, bdL_append]) _)) (by (rw [hm]; exact Nat.le_of_ble_eq_true rfl))⟩⟩
      dsimp only
      rw [take_flatten (by omega)]
      rw [List.take_of_length_le (l := nth [g.terms, g.nonterms] j) (by omega)] at hs2
      exact hs2
  · (repeat' (first | apply jA | apply jH | apply jJ | apply jK | apply jL | apply jP | apply jS | (refine wp_cond rfl (fun hc => ?_) (fun hc => ?_) <;> (try simp only [sB, ne_eq, reduceCtorEq] at hc) <;> (try (exfalso; omega))) | (refine WP.regionC (id := 3) ?_; (refine slss rfl rfl ?_); apply jW) | (refine WP.regionC (id := 14) ?_; (refine sassign rfl ?_); apply jW) | refine ret_b rfl ?_))
    rw [List.take_of_length_le (by omega)] at hs
    exact hs.all.symm
theorem gvalid1_fn (g : Gram) (x : Int) (hn : g.nonterms.length ≤ 120) : Fn Try.prog 60 [intA x, .iptr (gramA g).cells 0] (boolA (!symOk g x)) := by
  refine Fn.intro rfl (by kernel_rfl) Try.func60 rfl rfl Try.ntmps60 (by exact Nat.le_of_ble_eq_true rfl) ?_; intro Γ hm
  (repeat' (first | apply jA | apply jH | apply jK | apply jS | (refine WP.regionC (id := 0) ?_; (refine sassign rfl ?_); apply jW) | (refine WP.regionC (id := 1) ?_; (refine smove rfl ?_); (refine su (afieldi rfl rfl rfl) ?_); (refine su (aloadi rfl rfl) ?_); (refine slenm rfl rfl ?_); (refine su (ageq rfl rfl) ?_); (refine smove rfl ?_); (refine sg (gq_vf rfl rfl) (fun he => ap_move (rq_p rfl rfl)) ?_); (refine sg (gq_vf rfl rfl) (fun he => ap_field_i (rq_p rfl rfl) rfl rfl) ?_); (refine sg (gq_vf rfl rfl) (fun he => ap_load_i (rq_c rfl rfl) rfl) ?_); (refine sg (gq_vf rfl rfl) (fun he => ap_len_m rfl (rq_c rfl rfl)) ?_); (refine sg (gq_vf rfl rfl) (fun he => ap_neg (rq_c rfl rfl) (by (try simp only [sH, id, sB, ne_eq, reduceCtorEq] at he); exact inr_i64_of (by omega))) ?_); (refine sg (gq_vf rfl rfl) (fun he => ap_lss (rq_c rfl rfl) (rq_c rfl rfl)) ?_); (refine su (ap_or (rq_p rfl rfl) (rq_c rfl rfl)) ?_); (refine sassign rfl ?_); apply jW) | refine ret_b rfl ?_))
  simp only [symOk]
  rw [Bool.eq_iff_iff]
  simp
  try omega
theorem any_not_sym {g : Gram} {l : List Int} : l.any (fun x => !symOk g x) = !l.all (symOk g) := by
  induction l with
  | nil => rfl
  | cons x l ih => simp only [List.any_cons, List.all_cons, ih, Bool.not_and]
theorem gvalid18_fn (g : Gram) : Fn Try.prog 39 [gramA g] (boolA (validG g)) := by
  refine Fn.intro rfl (by kernel_rfl) Try.func39 rfl rfl Try.ntmps39 (by exact Nat.le_of_ble_eq_true rfl) ?_; intro Γ hm
  refine wp_lens 0 rfl fun hl => ?_
  obtain ⟨hl1, hl2, hl3, hl4⟩ := (lens_gramA g).1 hl
  (repeat' (first | apply jA | apply jF | apply jH | apply jI | apply jK | apply jM | apply jS | (refine wp_cond rfl (fun hc => ?_) (fun hc => ?_) <;> (try simp only [sB, ne_eq, reduceCtorEq] at hc) <;> (try (exfalso; omega))) | (refine WP.regionC (id := 0) ?_; (refine se_box rfl (by exact ⟨rfl, rfl⟩) ?_); (refine sassign rfl ?_); apply jW) | (refine WP.regionC (id := 1) ?_; (refine sfieldp rfl rfl rfl ?_); (refine sloadp rfl rfl rfl rfl ?_); (refine slenm rfl rfl ?_); (refine su (agtr rfl rfl) ?_); (refine smove rfl ?_); (refine sg (gq_vf rfl rfl) (fun he => ap_field_p (rq_p rfl rfl) rfl rfl) ?_); (refine sg (gq_vf rfl rfl) (fun he => ap_load_p (rq_c rfl rfl) rfl rfl rfl) ?_); (refine sg (gq_vf rfl rfl) (fun he => ap_len_m rfl (rq_c rfl rfl)) ?_); (refine sg (gq_vf rfl rfl) (fun he => ap_lss (rq_c rfl rfl) (rq_p rfl rfl)) ?_); (refine su (ap_or (rq_p rfl rfl) (rq_c rfl rfl)) ?_); (refine smove rfl ?_); (refine sg (gq_vf rfl rfl) (fun he => ap_field_p (rq_p rfl rfl) rfl rfl) ?_); (refine sg (gq_vf rfl rfl) (fun he => ap_load_p (rq_c rfl rfl) rfl rfl rfl) ?_); (refine sg (gq_vf rfl rfl) (fun he => ap_len_m rfl (rq_c rfl rfl)) ?_); (refine sg (gq_vf rfl rfl) (fun he => ap_gtr (rq_c rfl rfl) (rq_p rfl rfl)) ?_); (refine su (ap_or (rq_p rfl rfl) (rq_c rfl rfl)) ?_); (refine smove rfl ?_); (refine sg (gq_vf rfl rfl) (fun he => ap_load_pw (rq_p rfl rfl) rfl rfl rfl) ?_); (refine sg_p (gq_vf rfl rfl) (fun he => ⟨(rq_p rfl rfl), (RqL.cons (rq_c rfl rfl) (RqL.nil)), (by first | ((repeat' first | exact SubL.nil | refine SubL.cons ?_ ?_ | exact Sub.refl); done) | fail), (by first | (simp [bdL, bdL_append, AV.bd]; done) | fail), named_fn _ (by (try simp only [sH, id, sB, ne_eq, reduceCtorEq] at he); omega) (by (try simp only [sH, id, sB, ne_eq, reduceCtorEq] at he); omega)⟩) ?_); (refine sg (gq_vf rfl rfl) (fun he => ap_not (rq_c rfl rfl)) ?_); (refine su (ap_or (rq_p rfl rfl) (rq_c rfl rfl)) ?_); (refine smove rfl ?_); (refine sg (gq_vf rfl rfl) (fun he => ap_field_p (rq_p rfl rfl) rfl rfl) ?_); (refine sg (gq_vf rfl rfl) (fun he => ap_load_p (rq_c rfl rfl) rfl rfl rfl) ?_); (refine sg (gq_vf rfl rfl) (fun he => ap_lss (rq_c rfl rfl) (rq_p rfl rfl)) ?_); (refine su (ap_or (rq_p rfl rfl) (rq_c rfl rfl)) ?_); (refine smove rfl ?_); (refine sg (gq_vf rfl rfl) (fun he => ap_field_p (rq_p rfl rfl) rfl rfl) ?_); (refine sg (gq_vf rfl rfl) (fun he => ap_load_p (rq_c rfl rfl) rfl rfl rfl) ?_); (refine sg (gq_vf rfl rfl) (fun he => ap_field_p (rq_p rfl rfl) rfl rfl) ?_); (refine sg (gq_vf rfl rfl) (fun he => ap_load_p (rq_c rfl rfl) rfl rfl rfl) ?_); (refine sg (gq_vf rfl rfl) (fun he => ap_len_m rfl (rq_c rfl rfl)) ?_); (refine sg (gq_vf rfl rfl) (fun he => ap_geq (rq_c rfl rfl) (rq_c rfl rfl)) ?_); (refine su (ap_or (rq_p rfl rfl) (rq_c rfl rfl)) ?_); (refine smove rfl ?_); (refine sg (gq_vf rfl rfl) (fun he => ap_field_p (rq_p rfl rfl) rfl rfl) ?_); (refine sg (gq_vf rfl rfl) (fun he => ap_load_p (rq_c rfl rfl) rfl rfl rfl) ?_); (refine sg (gq_vf rfl rfl) (fun he => ap_len_m rfl (rq_c rfl rfl)) ?_); (refine sg (gq_vf rfl rfl) (fun he => ap_lss (rq_c rfl rfl) (rq_p rfl rfl)) ?_); (refine su (ap_or (rq_p rfl rfl) (rq_c rfl rfl)) ?_); (refine smove rfl ?_); (refine sg (gq_vf rfl rfl) (fun he => ap_field_p (rq_p rfl rfl) rfl rfl) ?_); (refine sg (gq_vf rfl rfl) (fun he => ap_load_p (rq_c rfl rfl) rfl rfl rfl) ?_); (refine sg (gq_vf rfl rfl) (fun he => ap_len_m rfl (rq_c rfl rfl)) ?_); (refine sg (gq_vf rfl rfl) (fun he => ap_gtr (rq_c rfl rfl) (rq_p rfl rfl)) ?_); (refine su (ap_or (rq_p rfl rfl) (rq_c rfl rfl)) ?_); apply jW) | (refine WP.regionC (id := 2) ?_; (refine sassign rfl ?_); apply jW) | (refine WP.regionC (id := 3) ?_; (refine sfieldp rfl rfl rfl ?_); (refine sloadp rfl rfl rfl rfl ?_); (refine slenm rfl rfl ?_); (refine smove rfl ?_); apply jW) | refine ret_b rfl ?_))
  · by_cases hns : namesOk (g.terms ++ g.nonterms) = true
    · simp only [hns, Bool.true_eq_false, or_false] at hc
      simp [validG]; omega
    · simp [validG, hns]
  have hns : namesOk (g.terms ++ g.nonterms) = true := hc.1.1.1.1.2
  have hn2 : g.nonterms.length ≤ 120 := by omega
  refine wp_loop (fun (i : Nat) => i ≤ g.rules.length ∧ (g.rules.take i).all (ruleOk g) = true) (fun i => g.rules.length - i)
    (fun i => (S 90 [(1, .ptr 0 4 0 0), (52, rulesA g.rules), (53, intA (g.rules.length : Nat)), (54, intA (i : Nat))] 1 [(0, some (.arr 4 [gramA g]))])) 0 ⟨[0], ToR.S rfl (by repeat' (first | exact rt_nil | refine rt_t rfl rfl ?_ | refine rt_e rfl rfl ?_ | refine rt_p rfl rfl (by first | (simp [AV.bd, bdL, bdL_append]; done) | fail) ?_)) (by repeat' (first | exact ro_nil | refine ro_p rfl (by first | exact rfl | fail) (by first | (simp [bdL, bdL_append, AV.bd]; done) | fail) ?_)) rfl (by (rw [hm]; exact rfl)) rfl (by (simp [bdT, AV.bd, bdL, bdL_append]; done)) (by repeat' (first | exact True.intro | refine And.intro ?_ ?_ | (simp [bdOq, bdL, bdL_append, AV.bd]; done))) (by (rw [hm]; exact Nat.le_of_ble_eq_true rfl))⟩ ⟨Nat.zero_le _, rfl⟩ ?_
  rintro i ⟨hi, hall⟩
  (repeat' (first | apply jA | apply jF | apply jH | apply jI | apply jJ | apply jK | apply jL | apply jM | apply jN | apply jO | apply jP | apply jS | (refine wp_cond rfl (fun hc => ?_) (fun hc => ?_) <;> (try simp only [sB, ne_eq, reduceCtorEq] at hc) <;> (try (exfalso; omega))) | (refine WP.regionC (id := 4) ?_; (refine slss rfl rfl ?_); apply jW) | (refine WP.regionC (id := 5) ?_; (refine sidxn rfl rfl (by omega) ?_); (refine sloadw rfl rfl ?_); (refine se_alloc rfl ?_); (refine se_store_b rfl rfl rfl rfl ?_); apply jW) | (refine WP.regionC (id := 6) ?_; (refine sfieldp rfl rfl rfl ?_); (refine sloadp rfl rfl rfl rfl ?_); (refine slss rfl rfl ?_); (refine smove rfl ?_); (refine sg (gq_vf rfl rfl) (fun he => ap_field_p (rq_p rfl rfl) rfl rfl) ?_); (refine sg (gq_vf rfl rfl) (fun he => ap_load_p (rq_c rfl rfl) rfl rfl rfl) ?_); (refine sg (gq_vf rfl rfl) (fun he => ap_field_p (rq_p rfl rfl) rfl rfl) ?_); (refine sg (gq_vf rfl rfl) (fun he => ap_load_p (rq_c rfl rfl) rfl rfl rfl) ?_); (refine sg (gq_vf rfl rfl) (fun he => ap_len_m rfl (rq_c rfl rfl)) ?_); (refine sg (gq_vf rfl rfl) (fun he => ap_geq (rq_c rfl rfl) (rq_c rfl rfl)) ?_); (refine su (ap_or (rq_p rfl rfl) (rq_c rfl rfl)) ?_); (refine smove rfl ?_); (refine sg (gq_vf rfl rfl) (fun he => ap_field_p (rq_p rfl rfl) rfl rfl) ?_); (refine sg (gq_vf rfl rfl) (fun he => ap_load_p (rq_c rfl rfl) rfl rfl rfl) ?_); (refine sg (gq_vf rfl rfl) (fun he => ap_len_m rfl (rq_c rfl rfl)) ?_); (refine sg (gq_vf rfl rfl) (fun he => ap_gtr (rq_c rfl rfl) (rq_p rfl rfl)) ?_); (refine su (ap_or (rq_p rfl rfl) (rq_c rfl rfl)) ?_); (refine smove rfl ?_); (refine sg (gq_vf rfl rfl) (fun he => ap_field_p (rq_p rfl rfl) rfl rfl) ?_); (refine sg (gq_vf rfl rfl) (fun he => ap_load_p (rq_c rfl rfl) rfl rfl rfl) ?_); (refine sg (gq_vf rfl rfl) (fun he => ap_lss (rq_c rfl rfl) (rq_p rfl rfl)) ?_); (refine su (ap_or (rq_p rfl rfl) (rq_c rfl rfl)) ?_); (refine smove rfl ?_); (refine sg (gq_vf rfl rfl) (fun he => ap_field_p (rq_p rfl rfl) rfl rfl) ?_); (refine sg (gq_vf rfl rfl) (fun he => ap_load_p (rq_c rfl rfl) rfl rfl rfl) ?_); (refine sg (gq_vf rfl rfl) (fun he => ap_gtr (rq_c rfl rfl) (rq_p rfl rfl)) ?_); (refine su (ap_or (rq_p rfl rfl) (rq_c rfl rfl)) ?_); apply jW) | (refine WP.regionC ?_; (refine sassign rfl ?_); apply jW) | (refine WP.regionC (id := 8) ?_; (refine sfieldp rfl rfl rfl ?_); (refine sloadp rfl rfl rfl rfl ?_); (refine su (ap_clo (RqL.nil) (RqL.cons (rq_p rfl rfl) (RqL.nil))) ?_); (refine sc_b rfl rfl (by first | ((repeat' first | exact FzL.nil | refine FzL.cons ?_ ?_ | (exact Fz.reflp (by simp [AV.bd, bdL, bdL_append])) | refine Fz.ptrL rfl rfl ?_ | refine Fz.cloL ?_ ?_); done) | fail) (containsFunc_fn _ _ _ (fun x => !symOk g x) (fun n => by simp [bdL, AV.bd, AV.cells, gramA]) (fun x hx => gvalid1_fn g x hn2)) rfl ?_); apply jW) | (refine WP.regionC (id := 10) ?_; (refine sadd rfl rfl (by exact inr_i64_of (by omega)) ?_); (refine smove rfl ?_); apply jW) | refine ret_b rfl ?_))
  · rw [validG_no (i := i) (by omega) (by simp [ruleOk]; omega)]
  · rw [any_not_sym, Bool.not_eq_true'] at hc
    rw [validG_no (i := i) (by omega) (by simp only [ruleOk, hc, Bool.and_false])]
  · rw [any_not_sym, Bool.not_eq_false'] at hc
    exact ⟨i + 1, ⟨by omega, by omega, take_all_succ (by omega) hall (by simp only [ruleOk, hc, Bool.and_true]; simp; omega)⟩, ⟨[0], ToR.S rfl (by repeat' (first | exact rt_nil | refine rt_t rfl rfl ?_ | refine rt_e rfl rfl ?_ | refine rt_p rfl rfl (by first | (simp [AV.bd, bdL, bdL_append]; done) | fail) ?_)) (by repeat' (first | exact ro_nil | refine ro_p rfl (by first | exact rfl | fail) (by first | (simp [bdL, bdL_append, AV.bd]; done) | fail) ?_)) rfl (by (rw [hm]; exact rfl)) rfl (by (simp [bdT, AV.bd, bdL, bdL_append]; done)) (by repeat' (first | exact True.intro | refine And.intro ?_ ?_ | (simp [bdOq, bdL, bdL_append, AV.bd]; done))) (by (rw [hm]; exact Nat.le_of_ble_eq_true rfl))⟩⟩
  simp [validG, hns, all_of_take' (by omega) hall]; omega
end Go.Lg

namespace Go.Lg
open Go.Proofs
set_option linter.unusedSimpArgs false
set_option linter.unusedVariables false
attribute [local irreducible] Ap Rq asemC WP RunD Ret Gq thenA inBlockA bodyQ noGotoA RqL RqP OpP
set_option maxHeartbeats 4000000
set_option maxRecDepth 20000
theorem chns_snoc (g : Gram) (r : Rul) : ∀ (l : List Rul) (i : Nat) (nx : Int), chns g i nx (l ++ [r]) = chns g i nx l ++ chn g r.head r.price ((i + l.length : Nat) : Int) (nextN nx l) r.body
  | [], i, nx => by simp [chns, nextN]
  | a :: l, i, nx => by
    rw [List.cons_append, chns, chns_snoc g r l (i + 1), chns, nextN, List.append_assoc, List.length_cons]
    congr 4; push_cast; omega
theorem nextN_snoc (r : Rul) : ∀ (l : List Rul) (nx : Int), nextN nx (l ++ [r]) = nextN nx l + extraN r
  | [], nx => by simp [nextN]
  | a :: l, nx => by rw [List.cons_append, nextN, nextN, nextN_snoc r l]
theorem nextN_le : ∀ (l : List Rul) (nx : Int), (∀ r, r ∈ l → r.body.length ≤ 12) → nextN nx l ≤ nx + 10 * l.length
  | [], nx, _ => by simp [nextN]
  | a :: l, nx, h => by
    have := nextN_le l (nx + extraN a) fun r hr => h r (by simp [hr])
    have h1 := h a (by simp)
    have h2 : extraN a ≤ 10 := by unfold extraN; omega
    rw [nextN, List.length_cons]; omega
theorem nmap_get (g : Gram) : ∀ {k t : Nat}, t < k → aget (nmap g k) (t : Int) = if needT g t = true then some (tnum g t) else none
  | 0, t, h => by omega
  | k + 1, t, h => by
    cases hn : needT g k with
    | true =>
      rw [nmap_succ_yes hn, aget_aset]
      by_cases e : t = k
      · subst e; rw [if_pos rfl, if_pos hn]
      · rw [if_neg (by omega), nmap_get g (by omega)]
    | false =>
      rw [nmap_succ_no hn]
      by_cases e : t = k
      · subst e; rw [nmap_get_none (Nat.le_refl _), hn]; rfl
      · exact nmap_get g (by omega)
theorem symM_nmap {g : Gram} (hv : GVal g) {r : Rul} (hr : r ∈ g.rules) (h2 : 2 ≤ r.body.length) {x : Int} (hx : x ∈ r.body) : symM (nmap g g.terms.length) x = symN g x := by
  unfold symM symN
  by_cases h : x < 0
  · rw [if_pos h, if_pos h]
  · rw [if_neg h, if_neg h]
    have hn := need_of hr h2 hx (by omega)
    have := (hv.rule r hr).hi x hx
    have e : ((x.toNat : Nat) : Int) = x := by omega
    have := nmap_get g (k := g.terms.length) (t := x.toNat) (by omega)
    rw [e, if_pos hn] at this
    rw [this]; rfl
theorem ren_nruls (π : Nat → Nat) (L : List NRul) : renL π (L.map nruleA) = L.map nruleA := renL_pure (by simp)
theorem chain_fn (m : List (Int × Int)) (nx : Int) (r : Rul) (i : Int) : FnO Try.prog 41 [.ptr 0 2 0 0, ruleA r, intA i] [nmA 1 nx, nmM m] (.clo (.func 65) [] [.ptr 3 3 0 0, .ptr 4 1 0 0, .ptr 2 1 0 0])
    [some (nmA 1 nx), some (nmM m), some (.arr 1 [.ptr 0 2 0 0]), some (.arr 3 [ruleA r]), some (.arr 1 [intA i])] := by
  unfold nmA nmM
  refine FnO.intro (by exact Nat.le_of_ble_eq_true rfl) rfl (by kernel_rfl) Try.func41 rfl rfl Try.ntmps41 (by exact Nat.le_of_ble_eq_true rfl) ?_; intro Γ hm
  (repeat' (first | apply jA | apply jH | apply jK | apply jS | (refine WP.regionC (id := 0) ?_; (refine se_box rfl (by exact ⟨rfl, rfl⟩) ?_); (refine se_box rfl (by exact ⟨rfl, rfl⟩) ?_); (refine se_box rfl (by exact ⟨rfl, rfl⟩) ?_); (refine sassign rfl ?_); apply jW) | (refine WP.regionC (id := 1) ?_; (refine su (ap_clo (RqL.nil) (RqL.cons (rq_p rfl rfl) (RqL.cons (rq_p rfl rfl) (RqL.cons (rq_p rfl rfl) (RqL.nil))))) ?_); (refine sassign rfl ?_); apply jW)))
  refine retO_L (x := .clo (.func 65) [] [.ptr 3 3 0 0, .ptr 4 1 0 0, .ptr 2 1 0 0]) (k := 5) (os1 := [(0, some (.arr 2 [.agg [.map 1, intA nx]])), (1, some (.map (mapA intK intA m))), (2, some (.arr 1 [.ptr 0 2 0 0])), (3, some (.arr 3 [ruleA r])), (4, some (.arr 1 [intA i]))]) (.tmp rfl .nil) rfl ⟨[0, 1, 2, 3, 4], ToR.S rfl (by repeat' (first | exact rt_nil | refine rt_e rfl rfl ?_)) (by repeat' (first | exact ro_nil | refine ro_e rfl rfl ?_ | refine ro_p rfl (by first | exact rfl | fail) (by first | (simp [bdL, bdL_append, AV.bd]; done) | fail) ?_ | refine ro_m rfl rfl (mapA_bd (fun _ => by exact rfl) _) ?_)) rfl rfl rfl (by (simp [bdT, AV.bd, bdL, bdL_append]; done)) (by repeat' (first | exact True.intro | exact rfl | exact mapA_all (fun _ => by exact rfl) _ | refine And.intro ?_ ?_ | (simp [bdOq, bdL, bdL_append, AV.bd]; done))) (by exact Nat.le_of_ble_eq_true rfl)⟩ rfl
theorem binarize_fn (g : Gram) : Fn Try.prog 13 [gramA g] (.tup [nrmA (binG g).1, intA (binG g).2]) := by
  refine Fn.introK (by simp [AV.bd, bdL, bdL_append]) (by kernel_rfl) Try.func13 rfl rfl Try.ntmps13 (by exact Nat.le_of_ble_eq_true rfl) ?_; intro Γ hm hk
  by_cases hval : validG g = true
  · have hv := validG_iff.1 hval
    have hn2 := hv.n2
    have hr2 := hv.r2
    have ht2 := hv.terms
    have hnn := newNamer_fn g (by omega) (by omega)
    unfold nmA nmM at hnn
    (repeat' (first | apply jA | apply jF | apply jH | apply jI | (refine wp_cond rfl (fun hc => ?_) (fun hc => ?_) <;> (try simp only [sB, ne_eq, reduceCtorEq] at hc) <;> (try (exfalso; omega))) | (refine WP.regionC (id := 0) ?_; (refine se_box rfl (by exact ⟨rfl, rfl⟩) ?_); (refine se_alloc rfl ?_); (refine sassign rfl ?_); apply jW) | (refine WP.regionC (id := 1) ?_; (refine sloadpw rfl rfl rfl rfl ?_); (refine sc_p rfl rfl (by first | ((repeat' first | exact SubL.nil | refine SubL.cons ?_ ?_ | exact Sub.refl); done) | fail) (by first | (simp [bdL, bdL_append, AV.bd]; done) | fail) (gvalid18_fn _) ?_); (refine su (anot rfl) ?_); apply jW) | (refine WP.regionC (id := 3) ?_; (refine sloadpw rfl rfl rfl rfl ?_); (refine sc_o [] rfl rfl (hnn) (Lend.S (by first | ((repeat' first | exact RenL.nil | refine RenL.cons (by exact ren_p (by simp [AV.bd, bdL, bdL_append])) ?_); done) | fail) (by first | ((repeat' (exact LendO.nil)); done) | fail) (by decide) rfl (by simp [AV.bd, bdL, bdL_append]) (by repeat' (exact True.intro))) ?_; simp only [updN, newO, AObj.ren, renL, AV.ren, apx, ap, if_true, if_false, Nat.reduceLT, Nat.reduceAdd, Nat.reduceSub, sO, intA, boolA, strA, ren_mapI]); (refine sassign rfl ?_); apply jW) | (refine WP.regionC (id := 4) ?_; (refine sfieldp rfl rfl rfl ?_); (refine sloadp rfl rfl rfl rfl ?_); (refine slenm rfl rfl ?_); (refine sfieldp rfl rfl rfl ?_); (refine sloadp rfl rfl rfl rfl ?_); (refine su (ap_build (RqP.cons (rq_p rfl rfl) (RqP.cons (rq_p rfl rfl) (RqP.nil))) rfl) ?_); (refine se_alloc rfl ?_); (refine se_store_b rfl rfl rfl rfl ?_); apply jW) | (refine WP.regionC (id := 5) ?_; (refine sfieldp rfl rfl rfl ?_); (refine sloadp rfl rfl rfl rfl ?_); (refine slenm rfl rfl ?_); (refine smove rfl ?_); apply jW)))
    · rw [hval] at hc; cases hc
    refine wp_nilo 4 3 6 rfl rfl ?_
    have hbase : 0 ≤ baseN g ∧ baseN g ≤ 240 := by have := tlist_len g g.terms.length; unfold baseN; omega
    have hfit : ∀ i, ∀ r, r ∈ g.rules.take i → r.body.length ≤ 12 := fun i r hr => (hv.rule r (List.mem_of_mem_take hr)).len
    have hnx : ∀ i, i ≤ g.rules.length → 0 ≤ nextN (baseN g) (g.rules.take i) ∧ nextN (baseN g) (g.rules.take i) ≤ 2000 ∧ (chns g 0 (baseN g) (g.rules.take i)).length ≤ 5000 := fun i hi => by
      have h1 := nextN_le (g.rules.take i) (baseN g) (hfit i)
      have h2 := nextN_ge (g.rules.take i) (baseN g)
      have h3 := nextN_len g (g.rules.take i) 0 (baseN g)
      rw [List.length_take] at h1 h3
      omega
    refine wp_loop (fun (i : Nat) => i ≤ g.rules.length) (fun i => g.rules.length - i)
      (fun i => (S 80 [(1, .ptr 0 4 0 0), (2, .ptr 1 4 0 0), (4, .ptr 2 2 0 0), (5, .ptr 4 4 0 0), (25, rulesA g.rules), (26, intA (g.rules.length : Nat)), (27, intA (i : Nat))] 6 [(0, some (.arr 4 [gramA g])), (1, some (.arr 4 [.agg [intA 0, intA 0, intA 0, .val (.slice none 0 0)]])), (2, some (.arr 2 [.agg [.map 3, intA (nextN (baseN g) (g.rules.take i))]])), (3, some (.map (mapA intK intA (nmap g g.terms.length)))), (4, some (.arr 4 [.agg [intA g.terms.length, intA 0, intA g.start, .ref 5 6 0 (chns g 0 (baseN g) (g.rules.take i)).length]])), (5, some (.arr 6 ((chns g 0 (baseN g) (g.rules.take i)).map nruleA)))])) 0 ?_ (Nat.zero_le _) ?_
    · rw [List.take_zero]
      exact ⟨[0, 1, 2, 3, 4, 5], ToR.S rfl (by repeat' (first | exact rt_nil | refine rt_t rfl rfl ?_ | refine rt_e rfl rfl ?_ | refine rt_p rfl rfl (by first | (simp [AV.bd, bdL, bdL_append]; done) | fail) ?_)) (by repeat' (first | exact ro_nil | refine ro_e rfl rfl ?_ | refine ro_p rfl (by first | exact rfl | fail) (by first | (simp [bdL, bdL_append, AV.bd]; done) | fail) ?_ | refine ro_m rfl rfl (mapA_bd (fun _ => by exact rfl) _) ?_)) rfl (by (rw [hm]; exact rfl)) rfl (by (simp [bdT, AV.bd, bdL, bdL_append]; done)) (by repeat' (first | exact True.intro | exact rfl | exact mapA_all (fun _ => by exact rfl) _ | refine And.intro ?_ ?_ | (simp [bdOq, bdL, bdL_append, AV.bd]; done))) (by (rw [hm]; exact Nat.le_of_ble_eq_true rfl))⟩
    intro i hi
    have hnxi := hnx i hi
    by_cases hlt : i < g.rules.length
    · have hrf := hv.rule _ (nth_mem hlt)
      have hsn := nextN_snoc (nth g.rules i) (g.rules.take i) (baseN g)
      have hcs := chns_snoc g (nth g.rules i) (g.rules.take i) 0 (baseN g)
      rw [← take_succ_nth hlt] at hsn hcs
      rw [Nat.zero_add, List.length_take, Nat.min_eq_left (by omega)] at hcs
      generalize hN : nextN (baseN g) (g.rules.take i) = N at *
      generalize hA : chns g 0 (baseN g) (g.rules.take i) = acc at *
      have hcf := chain_fn (nmap g g.terms.length) N (nth g.rules i) i
      unfold nmA nmM at hcf
      (repeat' (first | apply jA | apply jF | apply jH | apply jI | (refine wp_cond rfl (fun hc => ?_) (fun hc => ?_) <;> (try simp only [sB, ne_eq, reduceCtorEq] at hc) <;> (try (exfalso; omega))) | (refine WP.regionC (id := 6) ?_; (refine slss rfl rfl ?_); apply jW) | (refine WP.regionC (id := 7) ?_; (refine smove rfl ?_); (refine sidxn rfl rfl (by omega) ?_); (refine sloadw rfl rfl ?_); (refine se_alloc rfl ?_); (refine sassign rfl ?_); (refine se_store_b rfl rfl rfl rfl ?_); apply jW) | (refine WP.regionC (id := 8) ?_; (refine smove rfl ?_); (refine sloadpw rfl rfl rfl rfl ?_); (refine smove rfl ?_); (refine sc_o [2, 3] rfl rfl (hcf) (Lend.S (by first | ((repeat' first | exact RenL.nil | refine RenL.cons (by first | exact rfl | exact ren_p (by simp [AV.bd, bdL, bdL_append])) ?_); done) | fail) (by first | ((repeat' first | exact LendO.nil | refine LendO.map rfl (by first | (simp [mapA, AV.ren, intA]; done) | fail) ?_ | refine LendO.arr rfl rfl ?_); done) | fail) (by decide) rfl (by simp [AV.bd, bdL, bdL_append]) (by repeat' (first | exact True.intro | refine And.intro ?_ ?_ | (simp [mapA, AV.bd, intA]; done) | simp [AV.bd, bdL, bdL_append]))) ?_; simp only [updN, newO, AObj.ren, renL, AV.ren, apx, ap, if_true, if_false, Nat.reduceLT, Nat.reduceAdd, Nat.reduceSub, sO, intA, boolA, strA, ren_mapI]); apply jW)))
      refine wp_rngC (fun c => c.params = #[36] ∧ BinR Try.prog c g.terms.length g.start) [8, 9, 7, 2, 3, 4, 5, 10] 7 [(5, .ptr 4 4 0 0)] ⟨rfl, trivial⟩ (tsA 5) (fun c => [.arr 3 [ruleA (nth g.rules i)], .arr 1 [intA (i : Nat)], .arr 1 [.ptr 3 2 0 0], .arr 2 [.agg [.map 4, intA N]], .map (mapA intK intA (nmap g g.terms.length)), .arr 4 [.agg [intA g.terms.length, intA 0, intA g.start, .ref 6 6 0 acc.length]], .arr 6 (acc.map nruleA), .lop c (tsA 5)])
        (fun c => [none, none, none, some (.arr 2 [.agg [.map 4, intA (N + extraN (nth g.rules i))]]), some (.map (mapA intK intA (nmap g g.terms.length))), some (.arr 4 [.agg [intA g.terms.length, intA 0, intA g.start, .ref 8 6 0 (acc ++ chn g (nth g.rules i).head (nth g.rules i).price i N (nth g.rules i).body).length]]), none, some (.lop c (tsA 5)), some (.arr 6 ((acc ++ chn g (nth g.rules i).head (nth g.rules i).price i N (nth g.rules i).body).map nruleA))]) hk rfl rfl rfl ?_
        (fun c hc => by
          have h := chain1_fn g (nmap g g.terms.length) (nth g.rules i) i N g.terms.length g.start acc c hc.1 hc.2 (fun h2 x hx => symM_nmap hv (nth_mem hlt) h2 hx) (fun x hx => by have := hrf.hi x hx; have := hrf.lo x hx; omega) (by omega) (by omega) (by have := hrf.len; omega) (by omega) (by omega)
          unfold nmA nmM nstA nrsA at h
          exact h) (fun c => Nat.le_of_ble_eq_true rfl) (fun c hc => (Lend.S (by first | ((repeat' first | exact RenL.nil | refine RenL.cons rfl ?_); done) | fail) (by first | ((repeat' first | exact LendO.nil | refine LendO.map rfl (by first | (simp [mapA, AV.ren, intA]; done) | fail) ?_ | refine LendO.lop rfl (by first | exact rfl | fail) ?_ | refine LendO.arr rfl (by first | exact rfl | (refine (renL_pure ?_).symm; exact bdL_map (fun _ => by exact rfl) _) | (simp [renL, AV.ren, ren_pure, ap, intA, boolA, strA]; done)) ?_); done) | fail) (by decide) rfl (by simp [AV.bd, bdL, bdL_append]) (by repeat' (first | exact True.intro | refine And.intro ?_ ?_ | exact bdL_tl rfl | exact bdL_map (fun _ => by exact rfl) _ | (simp [mapA, AV.bd, intA]; done) | simp [AV.bd, bdL, bdL_append])))) ?_
      · refine fun fn => ⟨rfl, fun B o hB => ?_⟩
        unfold nstA nrsA
        refine RoundC.intro (fun s => ∃ z, s = S 80 [(8, .ptr 2 6 0 0), (36, nruleA o), (5, .ptr 0 4 0 0)] 3 [(2, some (.arr 6 [nruleA o])), (2, z), (0, some (.arr 4 [.agg [intA g.terms.length, intA 0, intA g.start, .ref 1 6 0 B.length]])), (1, some (.arr 6 (B.map nruleA)))]) rfl rfl (Nat.le_of_ble_eq_true rfl) ?_ ?_
        · intro Γ k hm
          refine wpi_regionC (nodefer rfl) ?_
          (refine se_alloc rfl ?_)
          (refine se_store_b rfl rfl rfl rfl ?_)
          refine asemC_end ?_
          exact ⟨rfl, _, rfl⟩
        · rintro Γ k _ hm ⟨z, rfl⟩
          refine wpi_block ?_
          refine wpi_regionC (nodefer rfl) ?_
          (refine sfieldp rfl rfl rfl ?_)
          (refine sloadp rfl rfl rfl rfl ?_)
          (refine sloadpw rfl rfl rfl rfl ?_)
          (refine se_lit (OpP.cons rfl (OpP.nil)) rfl rfl rfl rfl rfl rfl ?_)
          (refine se_app1 rfl rfl rfl rfl rfl rfl rfl rfl (by omega) ?_)
          (refine sfieldp rfl rfl rfl ?_)
          (refine se_store_b rfl rfl rfl rfl ?_)
          refine asemC_end ?_
          refine ⟨rfl, rfl, ?_⟩
          refine retO_L (x := .tup []) (k := 3) (os1 := [(0, some (.arr 4 [.agg [intA g.terms.length, intA 0, intA g.start, .ref 2 6 0 (B ++ [o]).length]])), (2, some (.arr 6 ((B ++ [o]).map nruleA)))]) .nil rfl ⟨[0, 1, 4], ToR.S rfl (by repeat' (first | exact rt_nil | refine rt_e rfl rfl ?_)) (by repeat' (first | exact ro_nil | refine ro_e rfl rfl ?_ | refine ro_p rfl (by first | exact rfl | fail) (by first | exact bdL_map (fun _ => by exact rfl) _ | fail) ?_)) rfl rfl rfl (by (simp [bdT, AV.bd, bdL, bdL_append]; done)) (by repeat' (first | exact True.intro | exact rfl | refine And.intro ?_ ?_ | exact bdL_map (fun _ => by exact rfl) _)) (by exact Nat.le_of_ble_eq_true rfl)⟩ rfl
      · intro c hc
        refine ⟨rfl, ⟨c, _, by exact rfl⟩, ?_⟩
        simp only [ren_nruls, updN, newO, AObj.ren, renL, AV.ren, apx, ap, if_true, if_false, Nat.reduceLT, Nat.reduceAdd, Nat.reduceSub, sO, intA, boolA, strA, ren_mapI]
        (repeat' (first | apply jH | apply jN | (refine WP.regionC (id := 11) ?_; (refine sadd rfl rfl (by exact inr_i64_of (by omega)) ?_); (refine smove rfl ?_); apply jW)))
        refine ⟨i + 1, ⟨by omega, by omega⟩, ?_⟩
        rw [hsn, hcs]
        exact ⟨[0, 1, 2, 3, 4, 11], ToR.S rfl (by repeat' (first | exact rt_nil | refine rt_t rfl rfl ?_ | refine rt_e rfl rfl ?_ | refine rt_p rfl rfl (by first | (simp [AV.bd, bdL, bdL_append]; done) | fail) ?_)) (by repeat' (first | exact ro_nil | refine ro_e rfl rfl ?_ | refine ro_p rfl (by first | exact rfl | fail) (by first | exact bdL_map (fun _ => by exact rfl) _ | (simp [bdL, bdL_append, AV.bd]; done) | fail) ?_ | refine ro_m rfl rfl (mapA_bd (fun _ => by exact rfl) _) ?_)) rfl (by (rw [hm]; exact rfl)) rfl (by (simp [bdT, AV.bd, bdL, bdL_append]; done)) (by repeat' (first | exact True.intro | exact rfl | exact mapA_all (fun _ => by exact rfl) _ | refine And.intro ?_ ?_ | exact bdL_map (fun _ => by exact rfl) _ | (simp [bdOq, bdL, bdL_append, AV.bd]; done))) (by (rw [hm]; exact Nat.le_of_ble_eq_true rfl))⟩
    · obtain rfl : i = g.rules.length := by omega
      rw [List.take_length] at hnxi ⊢
      have hch : chns g 0 (baseN g) g.rules = chainsN g := rfl
      rw [hch] at hnxi ⊢
      (repeat' (first | apply jA | apply jF | apply jH | apply jJ | apply jL | apply jP | (refine wp_cond rfl (fun hc => ?_) (fun hc => ?_) <;> (try simp only [sB, ne_eq, reduceCtorEq] at hc) <;> (try (exfalso; omega))) | (refine WP.regionC (id := 6) ?_; (refine slss rfl rfl ?_); apply jW) | (refine WP.regionC (id := 12) ?_; (refine sfieldp rfl rfl rfl ?_); (refine sloadp rfl rfl rfl rfl ?_); (refine slenm rfl rfl ?_); (refine smove rfl ?_); apply jW)))
      refine wp_loop (fun (t : Nat) => t ≤ g.terms.length) (fun t => g.terms.length - t)
        (fun t => (S 80 [(2, .ptr 1 4 0 0), (4, .ptr 2 2 0 0), (5, .ptr 4 4 0 0), (46, intA (g.terms.length : Nat)), (47, intA (t : Nat))] 6 [(0, some (.arr 4 [gramA g])), (1, some (.arr 4 [.agg [intA 0, intA 0, intA 0, .val (.slice none 0 0)]])), (2, some (.arr 2 [.agg [.map 3, intA (nextN (baseN g) g.rules)]])), (3, some (.map (mapA intK intA (nmap g g.terms.length)))), (4, some (.arr 4 [.agg [intA g.terms.length, intA 0, intA g.start, .ref 5 6 0 (chainsN g ++ (tlist g t).map (termN g)).length]])), (5, some (.arr 6 ((chainsN g ++ (tlist g t).map (termN g)).map nruleA)))])) 0 ?_ (Nat.zero_le _) ?_
      · rw [show (tlist g 0).map (termN g) = [] from rfl, List.append_nil]
        exact ⟨[0, 1, 2, 3, 4, 5], ToR.S rfl (by repeat' (first | exact rt_nil | refine rt_t rfl rfl ?_ | refine rt_e rfl rfl ?_)) (by repeat' (first | exact ro_nil | refine ro_e rfl rfl ?_ | refine ro_p rfl (by first | exact rfl | fail) (by first | exact bdL_map (fun _ => by exact rfl) _ | (simp [bdL, bdL_append, AV.bd]; done) | fail) ?_ | refine ro_m rfl rfl (mapA_bd (fun _ => by exact rfl) _) ?_)) rfl (by (rw [hm]; exact rfl)) rfl (by (simp [bdT, AV.bd, bdL, bdL_append]; done)) (by repeat' (first | exact True.intro | exact rfl | exact mapA_all (fun _ => by exact rfl) _ | refine And.intro ?_ ?_ | exact bdL_map (fun _ => by exact rfl) _ | (simp [bdOq, bdL, bdL_append, AV.bd]; done))) (by (rw [hm]; exact Nat.le_of_ble_eq_true rfl))⟩
      intro t ht
      have htl := tlist_len g t
      have hrl : (chainsN g ++ (tlist g t).map (termN g)).length ≤ 6000 := by rw [List.length_append, List.length_map]; omega
      by_cases hlt2 : t < g.terms.length
      · have hget := nmap_get g hlt2
        have hsuc : tlist g (t + 1) = tlist g t ++ (if needT g t then [t] else []) := rfl
        cases hn : needT g t with
        | true =>
          rw [hn, if_pos rfl] at hget hsuc
          generalize hR : chainsN g ++ (tlist g t).map (termN g) = R at *
          have hR2 : chainsN g ++ (tlist g (t + 1)).map (termN g) = R ++ [termN g t] := by rw [hsuc, List.map_append, ← List.append_assoc, hR]; rfl
          have hm2 : (R ++ [termN g t]).map nruleA = R.map nruleA ++ [nruleA (termN g t)] := by rw [List.map_append]; rfl
          have hl2 : (R ++ [termN g t]).length = (R.map nruleA ++ [nruleA (termN g t)]).length := by simp
          (repeat' (first | apply jA | apply jF | apply jH | apply jI | apply jN | (refine wp_cond rfl (fun hc => ?_) (fun hc => ?_) <;> (try simp only [sB, ne_eq, reduceCtorEq] at hc) <;> (try (exfalso; omega))) | (refine WP.regionC (id := 13) ?_; (refine slss rfl rfl ?_); apply jW) | (refine WP.regionC (id := 14) ?_; (refine smove rfl ?_); (refine sassign rfl ?_); apply jW) | (refine WP.regionC (id := 15) ?_; (refine smove rfl ?_); (refine snilc rfl ?_); (refine sfieldp rfl rfl rfl ?_); (refine sloadp rfl rfl rfl rfl ?_); (refine smove rfl ?_); (refine su (ap_look2 (kf := intK) (rq_p rfl rfl) rfl (rq_p rfl rfl) rfl) ?_); (refine smove rfl ?_); (refine su (aextract rfl rfl) ?_); (refine su (aextract rfl rfl) ?_); (refine sassign rfl ?_); (refine sassign rfl ?_); apply jW) | (refine WP.regionC (id := 16) ?_; (refine smove rfl ?_); apply jW) | (refine WP.regionC (id := 17) ?_; (refine sfieldp rfl rfl rfl ?_); (refine sloadp rfl rfl rfl rfl ?_); (refine smove rfl ?_); (refine smove rfl ?_); (refine su (ap_build (RqP.cons (rq_p rfl rfl) (RqP.cons (rq_p rfl rfl) (RqP.cons (rq_p rfl rfl) (RqP.cons (rq_p rfl rfl) (RqP.nil))))) rfl) ?_); (refine se_lit (OpP.cons rfl (OpP.nil)) rfl rfl rfl rfl rfl rfl ?_); (refine se_app rfl rfl rfl (by (simp; done)) rfl rfl rfl rfl (by (simp only [sL] <;> omega)) ?_); (refine sfieldp rfl rfl rfl ?_); (refine se_store_b rfl rfl rfl rfl ?_); apply jW) | (refine WP.regionC (id := 18) ?_; (refine sadd rfl rfl (by exact inr_i64_of (by omega)) ?_); (refine smove rfl ?_); apply jW)))
          · refine ⟨t + 1, ⟨by omega, by omega⟩, ?_⟩
            rw [hR2, hl2, hm2, hget]
            exact ⟨[0, 1, 2, 3, 4, 7], ToR.S rfl (by repeat' (first | exact rt_nil | refine rt_t rfl rfl ?_ | refine rt_e rfl rfl ?_)) (by repeat' (first | exact ro_nil | refine ro_e rfl rfl ?_ | refine ro_p rfl (by first | exact rfl | fail) (by first | (simp [bdL, bdL_append, AV.bd]; done) | fail) ?_ | refine ro_m rfl rfl (mapA_bd (fun _ => by exact rfl) _) ?_)) rfl (by (rw [hm]; exact rfl)) rfl (by (simp [bdT, AV.bd, bdL, bdL_append]; done)) (by repeat' (first | exact True.intro | exact rfl | exact mapA_all (fun _ => by exact rfl) _ | refine And.intro ?_ ?_ | (simp [bdOq, bdL, bdL_append, AV.bd]; done))) (by (rw [hm]; exact Nat.le_of_ble_eq_true rfl))⟩
          · rw [hget] at hc; cases hc
        | false =>
          rw [hn, if_neg Bool.false_ne_true] at hget hsuc
          (repeat' (first | apply jA | apply jF | apply jH | apply jI | apply jN | (refine wp_cond rfl (fun hc => ?_) (fun hc => ?_) <;> (try simp only [sB, ne_eq, reduceCtorEq] at hc) <;> (try (exfalso; omega))) | (refine WP.regionC (id := 13) ?_; (refine slss rfl rfl ?_); apply jW) | (refine WP.regionC (id := 14) ?_; (refine smove rfl ?_); (refine sassign rfl ?_); apply jW) | (refine WP.regionC (id := 15) ?_; (refine smove rfl ?_); (refine snilc rfl ?_); (refine sfieldp rfl rfl rfl ?_); (refine sloadp rfl rfl rfl rfl ?_); (refine smove rfl ?_); (refine su (ap_look2 (kf := intK) (rq_p rfl rfl) rfl (rq_p rfl rfl) rfl) ?_); (refine smove rfl ?_); (refine su (aextract rfl rfl) ?_); (refine su (aextract rfl rfl) ?_); (refine sassign rfl ?_); (refine sassign rfl ?_); apply jW) | (refine WP.regionC (id := 16) ?_; (refine smove rfl ?_); apply jW) | (refine WP.regionC (id := 17) ?_; (refine sfieldp rfl rfl rfl ?_); (refine sloadp rfl rfl rfl rfl ?_); (refine smove rfl ?_); (refine smove rfl ?_); (refine su (ap_build (RqP.cons (rq_p rfl rfl) (RqP.cons (rq_p rfl rfl) (RqP.cons (rq_p rfl rfl) (RqP.cons (rq_p rfl rfl) (RqP.nil))))) rfl) ?_); (refine se_lit (OpP.cons rfl (OpP.nil)) rfl rfl rfl rfl rfl rfl ?_); (refine se_app rfl rfl rfl (by (simp; done)) rfl rfl rfl rfl (by (simp only [sL] <;> omega)) ?_); (refine sfieldp rfl rfl rfl ?_); (refine se_store_b rfl rfl rfl rfl ?_); apply jW) | (refine WP.regionC (id := 18) ?_; (refine sadd rfl rfl (by exact inr_i64_of (by omega)) ?_); (refine smove rfl ?_); apply jW)))
          · rw [hget] at hc; cases hc
          · refine ⟨t + 1, ⟨by omega, by omega⟩, ?_⟩
            rw [hsuc, List.append_nil]
            exact ⟨[0, 1, 2, 3, 4, 5], ToR.S rfl (by repeat' (first | exact rt_nil | refine rt_t rfl rfl ?_ | refine rt_e rfl rfl ?_)) (by repeat' (first | exact ro_nil | refine ro_e rfl rfl ?_ | refine ro_p rfl (by first | exact rfl | fail) (by first | exact bdL_map (fun _ => by exact rfl) _ | (simp [bdL, bdL_append, AV.bd]; done) | fail) ?_ | refine ro_m rfl rfl (mapA_bd (fun _ => by exact rfl) _) ?_)) rfl (by (rw [hm]; exact rfl)) rfl (by (simp [bdT, AV.bd, bdL, bdL_append]; done)) (by repeat' (first | exact True.intro | exact rfl | exact mapA_all (fun _ => by exact rfl) _ | refine And.intro ?_ ?_ | exact bdL_map (fun _ => by exact rfl) _ | (simp [bdOq, bdL, bdL_append, AV.bd]; done))) (by (rw [hm]; exact Nat.le_of_ble_eq_true rfl))⟩
      · obtain rfl : t = g.terms.length := by omega
        have hnr := nrm_rules g
        rw [← hnr] at hrl ⊢
        by_cases h600 : 600 < (nrmOf g).rules.length
        · have hb : binG g = (⟨0, 0, 0, []⟩, 11) := by rw [binG, if_pos hval, if_pos h600]
          rw [hb]
          (repeat' (first | apply jA | apply jH | apply jJ | apply jK | apply jL | apply jM | apply jP | apply jS | (refine wp_cond rfl (fun hc => ?_) (fun hc => ?_) <;> (try simp only [sB, ne_eq, reduceCtorEq] at hc) <;> (try (exfalso; omega))) | (refine WP.regionC (id := 13) ?_; (refine slss rfl rfl ?_); apply jW) | (refine WP.regionC (id := 19) ?_; (refine sfieldp rfl rfl rfl ?_); (refine sloadp rfl rfl rfl rfl ?_); (refine su (alenr rfl rfl) ?_); (refine su (agtr rfl rfl) ?_); apply jW) | (refine WP.regionC (id := 20) ?_; (refine su (ap_build (RqP.nil) rfl) ?_); (refine se_store_b rfl rfl rfl rfl ?_); (refine sassign rfl ?_); apply jW)))
          exact ret_many (.cellT rfl rfl rfl rfl (.tmp rfl .nil)) (Nat.le_of_ble_eq_true rfl) (by first | ((repeat' first | exact FzL.nil | refine FzL.cons ?_ ?_ | exact Fz.nil | (exact Fz.reflp (by simp [AV.bd, bdL, bdL_append])) | refine Fz.aggL ?_); done) | fail)
        · have hb : binG g = (nrmOf g, 0) := by rw [binG, if_pos hval, if_neg h600]
          rw [hb]
          (repeat' (first | apply jA | apply jH | apply jI | apply jJ | apply jK | apply jL | apply jP | apply jS | (refine wp_cond rfl (fun hc => ?_) (fun hc => ?_) <;> (try simp only [sB, ne_eq, reduceCtorEq] at hc) <;> (try (exfalso; omega))) | (refine WP.regionC (id := 13) ?_; (refine slss rfl rfl ?_); apply jW) | (refine WP.regionC (id := 19) ?_; (refine sfieldp rfl rfl rfl ?_); (refine sloadp rfl rfl rfl rfl ?_); (refine su (alenr rfl rfl) ?_); (refine su (agtr rfl rfl) ?_); apply jW) | (refine WP.regionC (id := 21) ?_; (refine smove rfl ?_); (refine snilc rfl ?_); (refine sfieldp rfl rfl rfl ?_); (refine sloadp rfl rfl rfl rfl ?_); (refine sfieldp rfl rfl rfl ?_); (refine se_store_b rfl rfl rfl rfl ?_); apply jW) | (refine WP.regionC (id := 22) ?_; (refine sloadpw rfl rfl rfl rfl ?_); (refine se_store_b rfl rfl rfl rfl ?_); (refine sassign rfl ?_); apply jW)))
          exact ret_many (xs := [.agg [intA g.terms.length, intA (nextN (baseN g) g.rules), intA g.start, .ref 5 6 0 (nrmOf g).rules.length], .val (.int .i64 0)]) (.cellT rfl rfl rfl rfl (.tmp rfl .nil)) (Nat.le_of_ble_eq_true rfl) (by first | ((repeat' first | exact FzL.nil | refine FzL.cons ?_ ?_ | (exact Fz.list rfl rfl (fun _ => by simp [AV.bd, bdL, bdL_append]) (fun _ => rfl)) | (exact Fz.reflp (by simp [AV.bd, bdL, bdL_append])) | refine Fz.aggL ?_); done) | fail)
  · have hv0 : validG g = false := by simpa using hval
    have hbg : binG g = (⟨0, 0, 0, []⟩, 1) := by rw [binG, hv0]; rfl
    rw [hbg]
    (repeat' (first | apply jA | apply jH | apply jI | apply jK | apply jM | apply jS | (refine wp_cond rfl (fun hc => ?_) (fun hc => ?_) <;> (try simp only [sB, ne_eq, reduceCtorEq] at hc) <;> (try (exfalso; omega))) | (refine WP.regionC (id := 0) ?_; (refine se_box rfl (by exact ⟨rfl, rfl⟩) ?_); (refine se_alloc rfl ?_); (refine sassign rfl ?_); apply jW) | (refine WP.regionC (id := 1) ?_; (refine sloadpw rfl rfl rfl rfl ?_); (refine sc_p rfl rfl (by first | ((repeat' first | exact SubL.nil | refine SubL.cons ?_ ?_ | exact Sub.refl); done) | fail) (by first | (simp [bdL, bdL_append, AV.bd]; done) | fail) (gvalid18_fn _) ?_); (refine su (anot rfl) ?_); apply jW) | (refine WP.regionC (id := 2) ?_; (refine su (ap_build (RqP.nil) rfl) ?_); (refine se_store_b rfl rfl rfl rfl ?_); (refine sassign rfl ?_); apply jW)))
    · exact ret_many (.cellT rfl rfl rfl rfl (.tmp rfl .nil)) (Nat.le_of_ble_eq_true rfl) (by first | ((repeat' first | exact FzL.nil | refine FzL.cons ?_ ?_ | exact Fz.nil | (exact Fz.reflp (by simp [AV.bd, bdL, bdL_append])) | refine Fz.aggL ?_); done) | fail)
    · exact absurd hc hval
end Go.Lg
