/-
  Part 19 of the proof of TreeLiftStratifiedCard: the logic over the model, the functions' contracts and the plain laws.
-/
import Derived.Test.YtfaoljcgigkonabDoorTs18
import Derived.RangeFuncRecord
set_option linter.unusedSimpArgs false
set_option linter.unusedVariables false
set_option linter.unusedSectionVars false
set_option linter.defProp false
set_option maxRecDepth 20000
set_option maxHeartbeats 8000000
namespace Go.Lg
open Go.RowKit
section
variable {P : Program} {Γ : Cx} {A : Nat -> Prop} {ρ : Nat -> Option Nat} {s : St} {a : Act} {w : World}
theorem SRa.viewL {xs ys : List AV} {os : List AObj} (l : List Nat) {us : Array Value} (h : SRa Γ (fun id => id < s.objs.length) ρ s a w)
  (hsz : us.size = xs.length) (hrv : ∀ (i : Nat) x v, xs[i]? = some x -> us[i]? = some v -> RV (fun id => id < s.objs.length) ρ (Im Γ ρ s w) w x v) (hL : Lend l s xs ys os) :
  ∃ Γ' : Cx, Γ'.m = os.length /\ Γ'.w0 = w /\ Γ'.ds = [] /\ Γ'.mrk = false /\ (∀ b, Γ'.I0 b -> Im Γ ρ s w b \/ ∃ j, j < l.length /\ ρ (ap l j) = some b) /\ (∀ j, Γ'.ρ0 j = ρ (ap l j)) /\ SR Γ' ⟨ys, os.map some⟩ ⟨us, []⟩ w /\
   ∀ (objs' : List (Option AObj)) w' (r : AV) (v : Value), os.length <= objs'.length -> SR Γ' ⟨[r], objs'⟩ ⟨#[v], []⟩ w' ->
    ∃ ρn, SRa Γ (fun id => id < (updO (apx s.objs.length l) s.objs l objs').length) ρn ⟨s.tmps, updO (apx s.objs.length l) s.objs l objs'⟩ a w' /\ ∀ id, id < s.objs.length -> ρn id = ρ id := by
 obtain ⟨h1, h2, h3, h5, h6⟩ := hL
 have hm : os.length = l.length := by simpa using wkRO_len h2
 have hlive : ∀ j o, os[j]? = some o -> s.live (ap l j) (o.ren (ap l)) := fun j o ho => wkRO_get h2 j o (by simp [ho])
 have hlive' : ∀ j, j < l.length -> ∃ o, s.live (ap l j) o := fun j hj => ⟨_, hlive j _ (List.getElem?_eq_getElem (by omega))⟩
 have hlt : ∀ j, j < l.length -> ap l j < s.objs.length := fun j hj => wkRO_lt h2 j hj
 have happ : ∀ j, j < l.length -> ap l j ∈ l := fun j hj => by simp [ap, List.getD, List.getElem?_eq_getElem hj]
 let Γ' : Cx := ⟨w, fun b => Im Γ ρ s w b \/ ∃ j, j < l.length /\ ρ (ap l j) = some b, os.length, fun j => ρ (ap l j), h.fr.next.1, h.fr.next.2, fun j hj b hb => by
  obtain ⟨o, ho⟩ := hlive' j (by omega)
  rcases h.own _ o b ho hb with q | ⟨i, hi, q⟩
  ·exact Nat.le_trans Γ.hgl q
  ·exact Γ.hext i hi b q, [], fun j hj b hb => .inl (.inr ⟨j, by omega, hb⟩), false⟩
 have hst : ∀ id o, St.live ⟨ys, os.map some⟩ id o -> os[id]? = some o := fun id o hl => by
  unfold St.live at hl
  simp only [List.getElem?_map, Option.map_eq_some_iff] at hl
  obtain ⟨x, hx, hxo⟩ := hl
  injection hxo with hxo; subst hxo; exact hx
 have hI0 : ∀ b, Im Γ ρ s w b -> Im Γ' (fun j => ρ (ap l j)) ⟨ys, os.map some⟩ w b /\ w.heap[b]? = w.heap[b]? := fun b hb => ⟨⟨.inl (.inl hb), hb.2.1, fun id o hl => hb.2.2 _ _ (hlive id o (hst id o hl))⟩, rfl⟩
 have h0 : SR Γ' ⟨ys, os.map some⟩ ⟨us, []⟩ w := by
  refine ⟨fun j => ρ (ap l j), fun i hi => ⟨by simpa using hi, rfl⟩, by simp only; rw [hsz, wkR_len h1], ?_, fun id o hl => ?_, fun id o hl => (List.getElem?_eq_some_iff.1 hl).1, fun _ hid => hid, fun id o b hl hb => .inr ⟨id, (List.getElem?_eq_some_iff.1 (hst id o hl)).1, hb⟩, fun i j o o' b g1 g2 g3 g4 => ?_, .nil rfl, ⟨Nat.le_refl _, rfl, rfl, rfl, fun _ _ _ => rfl, fun _ _ hn => hn⟩⟩
  ·intro i y v hy hu
   simp only at hy hu
   have hi : i < xs.length := by rw [<- wkR_len h1]; exact (List.getElem?_eq_some_iff.1 hy).1
   have hx := List.getElem?_eq_getElem hi
   rcases wkR_get h1 i _ y hx hy with rfl | hxy
   ·exact .any
   ·have := (hrv i _ v hx hu).unren (π := ap l) (n := os.length) (ρ' := fun j => ρ (ap l j)) (fun _ _ => rfl) hI0 (fun _ _ hn => hn) hxy (bdL_iff.1 h5 _ (List.mem_of_getElem? hy))
    simpa using this
  ·have := (h.obj _ _ (hlive id o (hst id o hl))).unren (π := ap l) (n := os.length) (ρ' := fun j => ρ (ap l j)) (fun _ _ => rfl) hI0 (fun _ _ hn => hn) (fun _ _ => rfl) (by have := bdO_get h6 id o (by simp [hst id o hl]); cases o <;> exact this)
   simpa using this
  ·have e := h.inj _ _ _ _ b (hlive i o (hst i o g1)) (hlive j o' (hst j o' g2)) g3 g4
   have hi := (List.getElem?_eq_some_iff.1 (hst i o g1)).1
   have hj := (List.getElem?_eq_some_iff.1 (hst j o' g2)).1
   rw [hm] at hi hj
   simp only [ap, List.getD, List.getElem?_eq_getElem hi, List.getElem?_eq_getElem hj, Option.getD_some] at e
   exact (List.getElem_inj h3).1 e
 refine ⟨Γ', rfl, rfl, rfl, rfl, fun _ hb => hb, fun _ => rfl, h0, ?_⟩
 rintro objs' w' r rv hle ⟨ρ'', hs'⟩
 have hfr := hs'.fr
 have hext : ∀ j, j < l.length -> ρ'' j = ρ (ap l j) := fun j hj => (hs'.ext j (by simp only [Γ']; omega)).2
 generalize hs2 : (⟨s.tmps, updO (apx s.objs.length l) s.objs l objs'⟩ : St) = s2
 let ρn : Nat -> Option Nat := fun id => if id < s.objs.length then ρ id else ρ'' (id - s.objs.length + l.length)
 have hρold : ∀ id, id < s.objs.length -> ρn id = ρ id := fun id hid => if_pos hid
 have hρnew : ∀ j, ρn (apx s.objs.length l j) = ρ'' j := fun j => by
  unfold apx
  split
  ·rename_i hj; rw [hρold _ (hlt j hj)]; exact (hext j hj).symm
  ·rename_i hj
   simp only [ρn]
   rw [if_neg (by omega)]
   congr 1; omega
 have hn2 : s2.objs.length = s.objs.length + (objs'.length - l.length) := by rw [<- hs2]; exact updO_len (by omega)
 have hapx : ∀ j, j < objs'.length -> apx s.objs.length l j < s2.objs.length := fun j hj => by
  rw [hn2]; unfold apx
  split
  ·rename_i h; have := hlt j h; omega
  ·omega
 have cases2 : ∀ id o, s2.live id o -> (id < s.objs.length /\ s.live id o /\ id ∉ l) \/ ∃ j o0, St.live ⟨[r], objs'⟩ j o0 /\ o = o0.ren (apx s.objs.length l) /\ id = apx s.objs.length l j := by
  intro id o ho
  rw [<- hs2] at ho
  exact updO_get (os := objs') (show l.length <= objs'.length by omega) (fun j i hi => by
   have hj := (List.getElem?_eq_some_iff.1 hi).1
   have := hlt j hj
   simpa [ap, List.getD, hi] using this) h3 ho
 have hblk : ∀ b, b < w.heap.size -> (∀ j, j < l.length -> ρ (ap l j) ≠ some b) -> w'.heap[b]? = w.heap[b]? := fun b hb hne => hfr.block b hb (fun i hi => hne i (by simp only [Γ'] at hi; omega))
 have hIold : ∀ b, Im Γ ρ s w b -> Im Γ ρn s2 w' b /\ w'.heap[b]? = w.heap[b]? := by
  rintro b ⟨g1, g2, g3⟩
  refine ⟨⟨g1, Nat.lt_of_lt_of_le g2 hfr.size, fun id o ho => ?_⟩, hblk b g2 fun j hj => ?_⟩
  ·rcases cases2 id o ho with ⟨c1, c2, _⟩ | ⟨j, o0, c1, _, rfl⟩
   ·rw [hρold id c1]; exact g3 id o c2
   ·rw [hρnew]
    intro hb
    rcases hs'.own j o0 b c1 hb with q | ⟨i, hi, q⟩
    ·simp only [Γ'] at q; omega
    ·simp only [Γ'] at hi q
     obtain ⟨o', ho'⟩ := hlive' i (by omega)
     exact g3 _ _ ho' q
  ·obtain ⟨o', ho'⟩ := hlive' j hj
   exact g3 _ _ ho'
 have hInew : ∀ b, Im Γ' ρ'' ⟨[r], objs'⟩ w' b -> Im Γ ρn s2 w' b /\ w'.heap[b]? = w'.heap[b]? := by
  rintro b ⟨g1, g2, g3⟩
  refine ⟨⟨?_, g2, fun id o ho => ?_⟩, rfl⟩
  ·rcases g1 with (g1 | ⟨j1, q1, q2⟩) | g1
   ·exact g1.1
   ·obtain ⟨o', ho'⟩ := hlive' j1 q1
    rcases h.own _ o' b ho' q2 with q | ⟨i, hi, q⟩
    ·exact .inr q
    ·exact Γ.hin i hi b q
   ·exact .inr (Nat.le_trans h.fr.size g1)
  ·rcases cases2 id o ho with ⟨c1, c2, c3⟩ | ⟨j, o0, c1, _, rfl⟩
   ·rw [hρold id c1]
    intro hb
    have := live_block h c2 hb
    rcases g1 with (g1 | ⟨j1, q1, q2⟩) | g1
    ·exact g1.2.2 id o c2 hb
    ·obtain ⟨o', ho'⟩ := hlive' j1 q1
     have := h.inj _ _ _ _ b c2 ho' hb q2
     exact c3 (this ▸ happ j1 q1)
    ·simp only [Γ'] at g1; omega
   ·rw [hρnew]; exact g3 j o0 c1
 have hown : ∀ j o0 b, St.live ⟨[r], objs'⟩ j o0 -> ρ'' j = some b -> w.heap.size <= b \/ ∃ i, i < l.length /\ ρ (ap l i) = some b := fun j o0 b c1 hb => by
  rcases hs'.own j o0 b c1 hb with q | ⟨i, hi, q⟩
  ·exact .inl q
  ·exact .inr ⟨i, by simp only [Γ'] at hi; omega, q⟩
 have hw' : SRa Γ (fun id => id < s2.objs.length) ρn s2 a w' := by
  refine ⟨fun i hi => ?_, by rw [<- hs2]; exact h.len, ?_, ?_, fun id o ho => (List.getElem?_eq_some_iff.1 ho).1, fun _ hid => hid, ?_, ?_, h.defers.mono hIold, h.fr.turn hfr.size hfr.os hfr.tape hfr.output ?_ hfr.csize⟩
  ·have g := h.ext i hi
   exact ⟨by have := g.1; omega, (hρold i g.1).trans g.2⟩
  ·intro i x u hx hu
   exact (h.tmp i x u (by rw [<- hs2] at hx; exact hx) hu).mono (fun id hid => ⟨by omega, hρold id hid⟩) hIold hfr.csize
  ·intro id o ho
   rcases cases2 id o ho with ⟨c1, c2, c3⟩ | ⟨j, o0, c1, rfl, rfl⟩
   ·rw [hρold id c1]
    refine (h.obj id o c2).mono (fun id hid => ⟨by omega, hρold id hid⟩) hIold hfr.csize fun c hc => hblk c (live_block h c2 hc) fun j hj hj' => ?_
    obtain ⟨o', ho'⟩ := hlive' j hj
    have := h.inj _ _ _ _ c c2 ho' hc hj'
    exact c3 (this ▸ happ j hj)
   ·rw [hρnew]
    exact (hs'.obj j o0 c1).reren (fun id hid => ⟨hapx id hid, hρnew id⟩) hInew (fun _ _ hn => hn) (fun _ _ => rfl)
  ·intro id o b ho hb
   rcases cases2 id o ho with ⟨c1, c2, c3⟩ | ⟨j, o0, c1, rfl, rfl⟩
   ·rw [hρold id c1] at hb; exact h.own id o b c2 hb
   ·rw [hρnew] at hb
    rcases hown j o0 b c1 hb with q | ⟨i, hi, q⟩
    ·exact .inl (Nat.le_trans h.fr.size q)
    ·obtain ⟨o', ho'⟩ := hlive' i hi
     exact h.own _ _ b ho' q
  ·have mix : ∀ id o b j o0, s.live id o -> id ∉ l -> ρ id = some b -> St.live ⟨[r], objs'⟩ j o0 -> ρ'' j = some b -> False := by
    intro id o b j o0 c2 c3 hb c1 hb'
    rcases hown j o0 b c1 hb' with q | ⟨i, hi, q⟩
    ·have := live_block h c2 hb; omega
    ·obtain ⟨o', ho'⟩ := hlive' i hi
     have := h.inj _ _ _ _ b c2 ho' hb q
     exact c3 (this ▸ happ i hi)
   intro id id' o o' b ho ho' hb hb'
   rcases cases2 id o ho with ⟨c1, c2, c3⟩ | ⟨j, o0, c1, rfl, rfl⟩ <;> rcases cases2 id' o' ho' with ⟨d1, d2, d3⟩ | ⟨j', o0', d1, rfl, rfl⟩
   ·rw [hρold id c1] at hb; rw [hρold id' d1] at hb'
    exact h.inj _ _ _ _ b c2 d2 hb hb'
   ·rw [hρold id c1] at hb; rw [hρnew] at hb'
    exact (mix _ _ _ _ _ c2 c3 hb d1 hb').elim
   ·rw [hρnew] at hb; rw [hρold id' d1] at hb'
    exact (mix _ _ _ _ _ d2 d3 hb' c1 hb).elim
   ·rw [hρnew] at hb hb'
    rw [hs'.inj _ _ _ _ b c1 d1 hb hb']
  ·intro b hb
   by_cases hj : ∃ j, j < l.length /\ ρ (ap l j) = some b
   ·obtain ⟨j, hj, hjb⟩ := hj
    obtain ⟨o', ho'⟩ := hlive' j hj
    exact .inr (h.own _ _ b ho' hjb)
   ·exact .inl (hblk b hb fun j hj' he => hj ⟨j, hj', he⟩)
 subst hs2
 exact ⟨ρn, hw', hρold⟩
def Cx.off (Γ : Cx) (b : Nat) (o : Obj) (hb : GL <= b) : Cx :=
  { Γ with w0 := Γ.w0.putObj b o, hG := GW_loc (fun c hc => World.putObj_heap_other (by omega)) Γ.hG, hgl := by simpa using Γ.hgl, hin := fun i hi c hc => by simpa using Γ.hin i hi c hc }
theorem SRa.off (h : SRa Γ A ρ s a w) {b : Nat} {o : Obj} (hb : GL <= b) (hI : ¬ Γ.I0 b) (hlt : b < Γ.w0.heap.size) (hρ : ∀ i, i < Γ.m -> Γ.ρ0 i ≠ some b) (hc0 : csize Γ.w0 b = none) (hco : ∀ c t p, o ≠ .cells c t p) : SRa (Γ.off b o hb) A ρ s a (w.putObj b o) := by
 have hne : ∀ c, Im Γ ρ s w c -> c ≠ b := fun c hc e => by
  subst e
  rcases hc.1 with h1 | h1
  ·exact hI h1
  ·omega
 have hcw : csize w b = none := by
  have hh := h.fr.block b hlt hρ
  unfold csize at *
  rw [hh]; exact hc0
 have hcb : csize (w.putObj b o) b = none := by
  unfold csize
  rw [World.putObj_heap_same (Nat.lt_of_lt_of_le hlt h.fr.size)]
  cases o <;> first | rfl | exact absurd rfl (hco _ _ _)
 have hImE : ∀ c, Im Γ ρ s w c -> Im (Γ.off b o hb) ρ s (w.putObj b o) c /\ (w.putObj b o).heap[c]? = w.heap[c]? := fun c hc =>
  ⟨⟨by have := hc.1; simpa [Cx.off] using this, by simpa using hc.2.1, hc.2.2⟩, World.putObj_heap_other (hne c hc)⟩
 have hsz : ∀ c n, csize w c = some n -> csize (w.putObj b o) c = some n := fun c n hn => by
  have hcb : c ≠ b := fun e => by subst e; rw [hcw] at hn; cases hn
  unfold csize at *
  rw [World.putObj_heap_other hcb]; exact hn
 refine ⟨h.ext, h.len, fun i x v hx hv => (h.tmp i x v hx hv).mono (fun _ hA => ⟨hA, rfl⟩) hImE hsz, fun id o' hl => (h.obj id o' hl).mono (fun _ hA => ⟨hA, rfl⟩) hImE hsz fun c hc => World.putObj_heap_other ?_, h.made, h.bound,
  fun id o' c hl hc => by have := h.own id o' c hl hc; simpa [Cx.off] using this, h.inj, ?_, ?_⟩
 ·intro e
  subst e
  rcases h.own id o' c hl hc with h1 | ⟨i, hi, h1⟩
  ·omega
  ·exact hρ i hi h1
 ·obtain ⟨h1, Ds, h2, hn, h3⟩ := h.defers
  exact ⟨h1, Ds, h2, hn, fun D hD => ⟨by simpa [Cx.off] using (h3 D hD).1, (hImE D (h3 D hD).2.1).1, (hImE D (h3 D hD).2.1).2.trans (h3 D hD).2.2⟩⟩
 ·refine ⟨by simpa [Cx.off] using h.fr.size, h.fr.os, h.fr.tape, h.fr.output, fun c hc hcn => ?_, fun c n hn => ?_⟩
  ·simp only [Cx.off, World.putObj_size] at hc
   by_cases e : c = b
   ·subst e
    simp only [Cx.off]
    rw [World.putObj_heap_same (Nat.lt_of_lt_of_le hlt h.fr.size), World.putObj_heap_same hlt]
   ·simp only [Cx.off]
    rw [World.putObj_heap_other e, World.putObj_heap_other e]
    exact h.fr.block c hc hcn
  ·by_cases e : c = b
   ·subst e
    simp only [Cx.off, csize] at hn
    rw [World.putObj_heap_same hlt] at hn
    cases o <;> first | exact absurd rfl (hco _ _ _) | cases hn
   ·refine hsz c n (h.fr.csize c n ?_)
    simp only [Cx.off, csize] at hn ⊢
    rw [World.putObj_heap_other e] at hn; exact hn
theorem Cx.off_back {b : Nat} {o o' : Obj} {hb : GL <= b} (h : Γ.w0.heap[b]? = some o) : (Γ.off b o' hb).off b o hb = Γ := by
 have e : (Γ.w0.putObj b o').putObj b o = Γ.w0 := by
  have hl := World.lt_of_block h
  have e1 : ((Γ.w0.putObj b o').putObj b o).heap = Γ.w0.heap := by
   apply Array.ext (by simp)
   intro i h1 h2
   simp only [World.putObj]
   by_cases e : i = b
   ·subst e
    rw [Array.getElem_setIfInBounds_self]
    have := (Array.getElem?_eq_some_iff.1 h).2
    exact this.symm
   ·rw [Array.getElem_setIfInBounds_ne _ (fun q => e q.symm), Array.getElem_setIfInBounds_ne _ (fun q => e q.symm)]
    simpa using h2
  cases hw : Γ.w0
  rw [hw] at e1
  simp only [World.putObj] at e1 ⊢
  simp [e1]
 cases Γ
 simp only [Cx.off] at e ⊢
 congr
structure RoundC (P : Program) (c : LoopC) (ys : List AV) (os : List AObj) (os' : List (Option AObj)) : Prop where
 st : c.state = .ready
 pe : c.pending = none
 len : os.length <= os'.length
 ex : ∃ Mid : St -> Prop, (∀ (Γ : Cx) (k : Nat), Γ.m = os.length -> WPI P Γ k c.assign (fun e s => e = .normal /\ Mid s) ⟨ys, os.map some⟩) /\
  ∀ (Γ : Cx) (k : Nat) (s : St), Γ.m = os.length -> Mid s -> WPI P Γ k c.body (fun e s => e = .normal /\ ∃ is, ToR os.length is ⟨[], s.objs⟩ ⟨[], os'⟩) s
theorem RoundC.run {c : LoopC} {ys : List AV} {os : List AObj} {os' : List (Option AObj)} (hR : RoundC P c ys os os') {r : Option Nat} {f : FuncId} {b : Nat} {rec : Loop} {us : Array Value} (hm : Γ.m = os.length) (hds : Γ.ds = []) (hk : Γ.mrk = false)
  (hs : SR Γ ⟨ys, os.map some⟩ ⟨us, []⟩ Γ.w0) (hrec : Γ.w0.heap[b]? = some (.loop rec)) (h1 : rec.state = .ready) (h2 : rec.pending = none) (hI : ¬ Γ.I0 b) (hρ : ∀ i, i < Γ.m -> Γ.ρ0 i ≠ some b) (hb : GL <= b) :
  RoundIn (FW r) 0 P b f us c.assign c.body Γ.w0 fun e w' => e = .returned (.bool true) /\ SR Γ ⟨[.any], os'⟩ ⟨#[undef], []⟩ w' := by
 obtain ⟨Mid, ha, hbd⟩ := hR.ex
 have hlt := World.lt_of_block hrec
 have hc0 : csize Γ.w0 b = none := by unfold csize; rw [hrec]
 refine roundIn_of_wpIn (F := FW r) trivial ?_
 have ha' : c.assign.wpIn (FW (some b)) 0 P _ ⟨us, []⟩ Γ.w0 := ha Γ b hm _ _ hs
 refine wpIn_mono (F := FW (some b)) ha' ?_
 rintro e a1 w1 ⟨s1, ⟨rfl, hmid⟩, ρ1, hs1⟩
 have hb1 : w1.heap[b]? = some (.loop rec) := (hs1.fr.block b hlt hρ).trans hrec
 refine ⟨_, run_beginRound hb1 h1, ?_⟩
 have hs2 := hs1.off hb hI hlt hρ hc0 (o := .loop { rec with state := .busy }) (fun _ _ _ => by simp)
 have hbd' : c.body.wpIn (FW (some b)) 0 P _ a1 _ := hbd (Γ.off b _ hb) b s1 hm hmid _ _ ⟨ρ1, hs2⟩
 refine wpIn_mono (F := FW (some b)) hbd' ?_
 rintro e a2 w2 ⟨s2, ⟨rfl, is, hT⟩, ρ2, hs3⟩
 have hb2 : w2.heap[b]? = some (.loop { rec with state := .busy }) := by
  refine (hs3.fr.block b (by simpa [Cx.off] using hlt) hρ).trans ?_
  simp only [Cx.off]; exact World.putObj_heap_same hlt
 refine ⟨_, _, run_endRound none hb2, rfl, ?_⟩
 have e0 : ({ ({ rec with state := .busy } : Loop) with state := if (none : Option Code).isNone then .ready else .done, pending := none } : Loop) = rec := by
  cases rec; simp only at h1 h2; subst h1 h2; rfl
 rw [e0]
 have hs4 := hs3.off (b := b) (o := .loop rec) hb (by simpa [Cx.off] using hI) (by simpa [Cx.off] using hlt) hρ (by simp only [Cx.off, csize]; rw [World.putObj_heap_same hlt]) (fun _ _ _ => by simp)
 rw [Cx.off_back hrec] at hs4
 have hd2 : a2.defers = [] := (hs4.defers.eq hk).trans hds
 have h5 : SR Γ ⟨[.any], s2.objs⟩ ⟨#[undef], []⟩ (w2.putObj b (.loop rec)) := SR.result ⟨ρ2, hs4⟩ hds fun _ _ => .any
 obtain ⟨t1, t2, t3, t4, t5, t6, t7⟩ := hT
 exact h5.toR (l := is) (by rw [hm]; exact ⟨by simp [wkR, AV.ren], t2, t3, t4, by simp [bdL, AV.bd], t6, t7⟩)
def putP (ts : List AV) (l : List (Tmp × AV)) : List AV := l.foldl (fun ts p => ts.set p.1 p.2) ts
theorem putP_len : ∀ (l : List (Tmp × AV)) (ts : List AV), (putP ts l).length = ts.length
 | [], ts => rfl
 | p :: l, ts => by simp only [putP, List.foldl_cons]; exact (putP_len l _).trans (by simp)
theorem putP_ok {B : AV -> Value -> Prop} : ∀ (ps : List Tmp) (xs : List AV) (vs : List Value) (ts : List AV) (tm : Array Value), ps.length = xs.length -> xs.length = vs.length -> ts.length = tm.size ->
    (∀ (i : Nat) x v, xs[i]? = some x -> vs[i]? = some v -> B x v) -> (∀ (i : Nat) x v, ts[i]? = some x -> tm[i]? = some v -> B x v) ->
    ((ps.zip vs).foldl (fun t (q : Tmp × Value) => t.setIfInBounds q.1 q.2) tm).size = ts.length /\ ∀ (i : Nat) x v, (putP ts (ps.zip xs))[i]? = some x -> ((ps.zip vs).foldl (fun t (q : Tmp × Value) => t.setIfInBounds q.1 q.2) tm)[i]? = some v -> B x v
  | [], xs, vs, ts, tm, _, _, h3, _, h5 => ⟨by simp [h3], by simpa [putP] using h5⟩
  | p :: ps, x :: xs, v :: vs, ts, tm, h1, h2, h3, h4, h5 => by
    have ih := putP_ok (B := B) ps xs vs (ts.set p x) (tm.setIfInBounds p v) (by simpa using h1) (by simpa using h2) (by simpa using h3) (fun i y u hy hu => h4 (i + 1) y u (by simpa using hy) (by simpa using hu)) (fun i y u hy hu => by
      by_cases e : p = i
      · subst e
        rw [List.getElem?_set] at hy
        rw [Array.getElem?_setIfInBounds] at hu
        simp only [if_true] at hy hu
        split at hy
        · rename_i q
          rw [if_pos (by omega)] at hu
          injection hy with hy; injection hu with hu
          subst hy hu
          exact h4 0 _ _ rfl rfl
        · cases hy
      · rw [List.getElem?_set_ne e] at hy
        rw [Array.getElem?_setIfInBounds_ne e] at hu
        exact h5 i y u hy hu)
    refine ⟨by simpa using ih.1, fun i y u hy hu => ih.2 i y u (by simpa [putP] using hy) (by simpa using hu)⟩
  | _ :: _, [], _, _, _, h1, _, _, _, _ => by simp at h1
  | _ :: _, _ :: _, [], _, _, _, h2, _, _, _ => by simp at h2
theorem run_ofYield {b : Nat} {vs : Array Value} : (do let d <- Deferred.ofValue (.func (.yield b) #[] #[]) vs; invoke d.target d.args : Sem Next).run P w = (Instr.yield b vs).run P w := by
 first
 | rfl
 | simp [Deferred.ofValue, invoke]
theorem wpli_yield {r : Option Nat} {ops : Array Oper} {rest : List Oper} {Q : Exit -> St -> Prop} {f : Operand} {args : Array Operand} {tys : Array TypeId} {dst : Option Tmp} {ty : TypeId} {pos : String} {af : Array Edge} {id : Nat} {c : LoopC} {ts xs ys : List AV} {os : List AObj} {os' : List (Option AObj)} (l : List Nat)
  (hf : s.op f = .yld id) (ho : s.live id (.lop c ts)) (hx : args.toList.map s.op = xs) (hp : c.params.size = args.size) (hid : id ∉ l) (hL : Lend l s (putP ts (c.params.toList.zip xs)) ys os) (hR : RoundC P c ys os os')
  (hn : WPLI P Γ r ops rest Q ((⟨s.tmps, updO (apx s.objs.length l) s.objs l os'⟩ : St).put dst (.val (.bool true)))) :
  WPLI P Γ r ops (⟨dst, .call ⟨.value f, args, tys⟩, ty, pos, af, none⟩ :: rest) Q s := by
 rintro a w ⟨ρ, h⟩
 have hfv := h.eval f
 rw [hf] at hfv
 obtain ⟨b, hρ, hav⟩ : ∃ b, ρ id = some b /\ a.eval f = .func (.yield b) #[] #[] := by
  generalize a.eval f = v at hfv
  cases hfv with
  | yld _ hb => exact ⟨_, hb, rfl⟩
 have hob := h.obj id _ ho
 rw [hρ] at hob
 obtain ⟨tm, df, hrec, htl, htr⟩ := hob
 have hvs : ∀ (i : Nat) x v, xs[i]? = some x -> (args.toList.map a.eval)[i]? = some v -> RV (fun id => id < s.objs.length) ρ (Im Γ ρ s w) w x v := fun i x v hx' hv => by
  subst hx
  simp only [List.getElem?_map, Option.map_eq_some_iff] at hx' hv
  obtain ⟨p, hp, rfl⟩ := hx'
  obtain ⟨q, hq, rfl⟩ := hv
  rw [hp] at hq; injection hq with hq; subst hq
  exact h.eval p
 have hxl : xs.length = args.size := by rw [<- hx]; simp
 have hput := putP_ok (B := RV (fun id => id < s.objs.length) ρ (Im Γ ρ s w) w) c.params.toList xs (args.toList.map a.eval) ts tm (by simp [hxl, hp]) (by simp [hxl]) htl hvs htr
 generalize hus : (c.params.toList.zip (args.toList.map a.eval)).foldl (fun t (q : Tmp × Value) => t.setIfInBounds q.1 q.2) tm = us at hput
 obtain ⟨Γ', g1, g2, g3, g4, g5, g6, g7, hback⟩ := h.viewL l (us := us) (xs := putP ts (c.params.toList.zip xs)) (by rw [putP_len]; exact hput.1) hput.2 hL
 have hlen : os.length = l.length := by have := wkRO_len hL.2.1; simpa using this
 have hlen' := hR.len
 have hlj : ∀ j, j < l.length -> ρ (ap l j) ≠ some b := fun j hj e => by
  have hlo := wkRO_get hL.2.1 j (os[j]'(by omega)) (by simp [List.getElem?_eq_getElem (show j < os.length by omega)])
  have := h.inj _ _ _ _ b hlo ho e hρ
  exact hid (this ▸ by simp [ap, List.getD, List.getElem?_eq_getElem hj])
 have hround := hR.run (Γ := Γ') (r := r) (f := c.fn) (b := b) (us := us) g1 g3 g4 (by rw [g2]; exact g7) (by rw [g2]; exact hrec) hR.st hR.pe (fun hI => by
   rcases g5 b hI with q | ⟨j, hj, q⟩
   ·exact q.2.2 id _ ho hρ
   ·exact hlj j hj q) (fun i hi => by rw [g6]; exact hlj i (by omega)) (by
   rcases h.own id _ b ho hρ with q | ⟨i, hi, q⟩
   ·exact Nat.le_trans Γ.hgl q
   ·exact Γ.hext i hi b q)
 rw [g2] at hround
 simp only [wpListIn]
 rw [if_pos (by simp [Region.wanted])]
 refine ⟨fun _ _ => trivial, ?_⟩
 have hsem : (Oper.semAt (FW r).round a.eval (⟨dst, .call ⟨.value f, args, tys⟩, ty, pos, af, none⟩ : Oper)).run P w = .ok (.round b c.fn us c.assign c.body) w := by
  rw [Oper.semAt_eq _ _ _ (by intro c0; simp)]
  have e1 : (args.map a.eval) = (args.toList.map a.eval).toArray := by apply Array.ext'; simp
  have e2 : (execOp a.eval (⟨dst, .call ⟨.value f, args, tys⟩, ty, pos, af, none⟩ : Oper)).run P w = (do let d <- Deferred.ofValue (a.eval f) (args.toList.map a.eval).toArray; invoke d.target d.args : Sem Next).run P w := by
   simp only [execOp, resolve, e1]
  rw [e2, hav, run_ofYield, run_yield hrec (by simp [hp]), <- hus]
  congr 2
  rw [<- Array.foldl_toList]
  simp
 rw [hsem]
 refine ⟨fun hh => by simp [FW, Fence.wide] at hh, hround.mono ?_⟩
 rintro e w' ⟨rfl, hs'⟩
 have hb := hback _ _ _ _ (by omega) hs'
 refine hn _ _ ?_
 obtain ⟨ρ', hb, _⟩ := hb
 exact ⟨ρ', by have := hb.put dst (x := .val (.bool true)) (v := .bool true) (.val rfl); simpa using this⟩
end
section
variable {P : Program} {Γ : Cx} {A : Nat -> Prop} {ρ : Nat -> Option Nat} {s : St} {a : Act} {w : World}
theorem SRa.live_lt (h : SRa Γ A ρ s a w) {id : Nat} {o : AObj} {b : Nat} (hl : s.live id o) (e : ρ id = some b) : b < w.heap.size := by
 have ho := h.obj id o hl
 rw [e] at ho
 cases o with
 | arr k es => obtain ⟨cs, t, h1, _⟩ := ho; exact World.lt_of_block h1
 | map m => obtain ⟨cs, t, h1, _⟩ := ho; exact World.lt_of_block h1
 | bytes l => obtain ⟨cs, h1, _⟩ := ho; exact World.lt_of_block h1
 | bld T x => obtain ⟨p, v, h1, _⟩ := ho; exact World.lt_of_block h1
 | lop c ts => obtain ⟨tm, df, h1, _⟩ := ho; exact World.lt_of_block h1
theorem SRa.mark (h : SRa Γ A ρ s a w) (hk : Γ.mrk = true) : SRa Γ A ρ s { a with defers := mkD w.heap.size :: a.defers } (w.alloc (.deferred (some []))) := by
 have hd0 := h.same' (w' := w.alloc (.deferred (some []))) (by simp) rfl rfl rfl (fun b hb => Below.heap_alloc w _ b hb)
 refine ⟨hd0.ext, hd0.len, hd0.tmp, hd0.obj, hd0.made, hd0.bound, hd0.own, hd0.inj, ?_, hd0.fr⟩
 obtain ⟨_, Ds, h1, hn, h2⟩ := h.defers
 refine ⟨(fun e => by rw [hk] at e; cases e), w.heap.size :: Ds, (by rw [h1]; rfl), ?_, fun E hE => ?_⟩
 ·refine List.nodup_cons.2 ⟨fun hm => ?_, hn⟩
  have := (h2 _ hm).2.1.2.1
  omega
 ·rcases List.mem_cons.1 hE with rfl | hE
  ·exact ⟨h.fr.size, ⟨.inr h.fr.size, by simp, fun id o hl e => by have := h.live_lt hl e; omega⟩, heap_alloc_new w _⟩
  ·have := h2 E hE
   exact ⟨this.1, ⟨this.2.1.1, by have := this.2.1.2.1; simp; omega, this.2.1.2.2⟩, (Below.heap_alloc w _ E this.2.1.2.1).trans this.2.2⟩
theorem SRa.over (h : SRa Γ A ρ s a w) {id b : Nat} {c : LoopC} {ts : List AV} (ho : s.live id (.lop c ts)) (hb : ρ id = some b) (rec : Loop) : SRa Γ A ρ (s.set id none) a (w.putObj b (.loop rec)) := by
 have hob := h.obj id _ ho
 rw [hb] at hob
 obtain ⟨tm, df, hrec, _, _⟩ := hob
 have hlt := World.lt_of_block hrec
 have hI : ∀ c, Im Γ ρ s w c -> Im Γ ρ (s.set id none) (w.putObj b (.loop rec)) c /\ (w.putObj b (.loop rec)).heap[c]? = w.heap[c]? := fun c hc =>
  ⟨⟨hc.1, by simpa using hc.2.1, fun i o hl => hc.2.2 i o (St.live_kill hl).2⟩, World.putObj_heap_other fun e => by subst e; exact hc.2.2 id _ ho hb⟩
 have hs : ∀ c n, csize w c = some n -> csize (w.putObj b (.loop rec)) c = some n := fun c n hn => by
  have hcb : c ≠ b := fun e => by subst e; unfold csize at hn; rw [hrec] at hn; cases hn
  unfold csize at *
  rw [World.putObj_heap_other hcb]; exact hn
 refine h.turn rfl (fun i hi => ⟨hi, rfl⟩) hI hs (fun i o hl => ?_) (fun i o hl => h.made i o (St.live_kill hl).2) (fun i hi => by simpa using h.bound i hi) (fun i o b' hl hb' => h.own i o b' (St.live_kill hl).2 hb')
  (fun i j o o' b' hl hl' => h.inj i j o o' b' (St.live_kill hl).2 (St.live_kill hl').2) ?_
 ·obtain ⟨hne, hl'⟩ := St.live_kill hl
  exact (h.obj i o hl').mono (fun i hi => ⟨hi, rfl⟩) hI hs fun d hd => World.putObj_heap_other fun e => by subst e; exact hne (h.inj _ _ _ _ _ hl' ho hd hb)
 ·refine h.fr.turn (by simp) rfl rfl rfl (fun d hd => ?_) hs
  by_cases e : d = b
  ·subst e; exact .inr (h.own id _ d ho hb)
  ·exact .inl (World.putObj_heap_other e)
theorem wp_range {g : Operand} {ps : Array Tmp} {assign body : Code} {gf : FuncId} {first cap ys : List AV} {os : FuncId -> List AObj} {Q : Exit -> St -> Prop} (hk : Γ.mrk = true) (he : enterable P gf = true) (hg : s.op g = .clo (.func gf) first cap) (l : List Nat) (j : Nat) (ts0 ts' : List AV) (h0l : ts0.length = s.tmps.length) (h0s : ∀ (i : Nat) (x : AV), ts0[i]? = some x -> x = AV.any \/ s.tmps[i]? = some x) (post : FuncId -> AV -> List (Option AObj) -> Prop)
  (hj : ap l j = s.objs.length) (hjl : j < l.length)
  (hspec : ∀ fn, Spec P gf ys ((os fn).map some) (post fn))
  (hL : ∀ fn, Lend l ⟨s.tmps, s.objs ++ [some (.lop { fn, params := ps, assign, body } ts0)]⟩ (first ++ [.yld s.objs.length] ++ cap) ys (os fn))
  (hK : ∀ fn r objs', post fn r objs' -> (os fn).length <= objs'.length /\ objs'[j]? = some (some (.lop { fn, params := ps, assign, body } ts')) /\
   (∃ c ts, (updO (apx (s.objs.length + 1) l) (s.objs ++ [some (.lop { fn, params := ps, assign, body } ts0)]) l objs')[s.objs.length]? = some (some (.lop c ts))) /\
   Q .normal ⟨s.tmps, (updO (apx (s.objs.length + 1) l) (s.objs ++ [some (.lop { fn, params := ps, assign, body } ts0)]) l objs').set s.objs.length none⟩) :
  WP P Γ (.rangeFunc g ps assign body) Q s := by
 rintro a w ⟨ρ, h⟩
 refine wpIn_wide.1 (wpIn_rangeFunc (F := Fence.wide) (n := 0) fun fn _ => ?_)
 have hmark := h.mark hk
 have hroom := hmark.room
 have hnew := hroom.new (nid := s.objs.length) (by simp) (fun hh => Nat.lt_irrefl _ hh) (o := .lop { fn, params := ps, assign, body } ts0)
  (ob := .loop { state := .ready, pending := none, fn, tmps := a.tmps, params := ps, assign, body, defers := w.heap.size }) (fun A' ρ' I' hA hI => by
   refine ⟨a.tmps, w.heap.size, heap_alloc_new _ _, h0l.trans h.len.symm, fun i x v hx hv => ?_⟩
   rcases h0s i x hx with rfl | hx
   ·exact .any
   ·exact (hroom.tmp i x v hx hv).mono hA hI (csize_alloc _ _))
 have e1 : ({ s with objs := s.objs ++ [none] } : St).set s.objs.length (some (.lop { fn, params := ps, assign, body } ts0)) = ⟨s.tmps, s.objs ++ [some (.lop { fn, params := ps, assign, body } ts0)]⟩ := by simp [St.set]
 rw [e1] at hnew
 have eA : (fun i => i < s.objs.length \/ i = s.objs.length) = fun i => i < (s.objs ++ [some (AObj.lop { fn, params := ps, assign, body } ts0)]).length := by
  funext i; simp; omega
 rw [eA] at hnew
 generalize hρ1 : (fun i => if i = s.objs.length then some (w.alloc (.deferred (some []))).heap.size else ρ i) = ρ1 at hnew
 have hρk : ρ1 s.objs.length = some (w.heap.size + 1) := by rw [<- hρ1]; simp
 generalize hw1 : (w.alloc (.deferred (some []))).alloc (.loop { state := .ready, pending := none, fn, tmps := a.tmps, params := ps, assign, body, defers := w.heap.size }) = w1 at hnew
 have hgv := hnew.eval g
 have hop : (⟨s.tmps, s.objs ++ [some (.lop { fn, params := ps, assign, body } ts0)]⟩ : St).op g = s.op g := rfl
 rw [hop, hg] at hgv
 obtain ⟨us, hrun, hsz, hrv⟩ := call_args he hgv (args := [.yld s.objs.length]) (vs := [.func (.yield (w.heap.size + 1)) #[] #[]]) rfl (fun i x v hx hv => by
  cases i with
  | zero => simp at hx hv; subst hx hv; exact .yld (by simp) hρk
  | succ i => simp at hx)
 obtain ⟨Γ', g1, g2, g3, g4, g5, g6, g7, hback⟩ := hnew.viewL l hsz hrv (hL fn)
 have hr1 := hrun w1
 rw [Sem.run_bind] at hr1
 have hcall := (hspec fn).2 Γ' us ⟨by rw [g1]; simp, g4⟩ (by rw [g2]; exact g7)
 rw [g2] at hcall
 have hee : a.eval g = ({ a with defers := mkD w.heap.size :: a.defers } : Act).eval g := rfl
 cases hd : (Deferred.ofValue (({ a with defers := mkD w.heap.size :: a.defers } : Act).eval g) #[.func (.yield (w.heap.size + 1)) #[] #[]]).run P w1 with
 | halt e w2 => rw [show ([Value.func (.yield (w.heap.size + 1)) #[] #[]].toArray) = #[Value.func (.yield (w.heap.size + 1)) #[] #[]] from rfl, hd] at hr1; simp [Result.andThen] at hr1
 | ok d w2 =>
  rw [show ([Value.func (.yield (w.heap.size + 1)) #[] #[]].toArray) = #[Value.func (.yield (w.heap.size + 1)) #[] #[]] from rfl, hd] at hr1
  simp only [Result.andThen] at hr1
  refine ⟨w.heap.size + 1, [{ target := .collected w.heap.size, args := #[] }], w1, d, w2, gf, us, w1, by rw [<- hw1]; exact run_enterLoop_outer _ _ _ _ _, ?_, fun _ _ => trivial, hr1, fun hh => by simp [Fence.wide] at hh, ?_⟩
  ·rw [<- hd]
   first
   | rfl
   | simp [resolve, rangeCall, Act.eval]
  ·refine callsIn_wide.2 (hcall.mono ?_)
   rintro e w3 ⟨r, objs', v, rfl, hp, hs3⟩
   obtain ⟨k1, k2, ⟨c, ts, k4⟩, k3⟩ := hK fn r objs' hp
   obtain ⟨ρ3, hs3'⟩ := hs3
   obtain ⟨ρn, hb, hold⟩ := hback objs' w3 r v k1 ⟨ρ3, hs3'⟩
   have hkb : ρn s.objs.length = some (w.heap.size + 1) := (hold _ (by simp)).trans hρk
   have hm : (os fn).length = l.length := by have := wkRO_len (hL fn).2.1; simpa using this
   have hob := hs3'.obj j _ k2
   rw [(hs3'.ext j (by rw [g1]; omega)).2, g6, hj, hρk] at hob
   obtain ⟨tm, df, hrec, _, _⟩ := hob
   have hrec' := hrec
   have hend := run_endLoop (P := P) hrec (by simp)
   refine ⟨_, _, hend, ?_⟩
   refine ⟨_, k3, ρn, ?_⟩
   have := hb.over (id := s.objs.length) (c := c) (ts := ts) (by unfold St.live; simpa using k4) hkb { state := .exhausted, pending := none, fn := fn, tmps := tm, params := ps, assign := assign, body := body, defers := df }
   simpa [St.set, mkD] using this
end
section
variable {P : Program} {Γ : Cx} {A : Nat -> Prop} {ρ : Nat -> Option Nat} {I : Nat -> Prop} {s : St} {a : Act} {w w' : World}
theorem RV.book (hc : ∀ p v, w.cell? p = some v -> w'.cell? p = some v) (hs : ∀ b n, csize w b = some n -> csize w' b = some n) {x : AV} {v : Value} (h : RV A ρ I w x v) : RV A ρ I w' x v := by
 induction h with
 | any => exact .any
 | val h => exact .val h
 | agg hl ha _ ih => exact .agg hl ha ih
 | tup hl _ ih => exact .tup hl ih
 | nils => exact .nils
 | sl f hn hb hk h1 ha _ ih => exact .sl f hn hb hk (fun j hj => hc _ _ (h1 j hj)) ha ih
 | ref h hb hl hcs hm => exact .ref h hb hl (hs _ _ hcs) hm
 | refn h hb => exact .refn h hb
 | ptr h hb => exact .ptr h hb
 | iptr f hb h1 ha _ ih => exact .iptr f hb (fun i hi => hc _ _ (h1 i hi)) ha ih
 | clo h1 h2 _ _ ih3 ih4 => exact .clo h1 h2 ih3 ih4
 | map h hb => exact .map h hb
 | yld h hb => exact .yld h hb
 | cond _ h2 ih => exact .cond ih h2
theorem ORb.book (hc : ∀ p v, w.cell? p = some v -> w'.cell? p = some v) (hs : ∀ b n, csize w b = some n -> csize w' b = some n) {b : Nat} (hb : w'.heap[b]? = w.heap[b]?) {o : AObj} (h : ORb A ρ I w b o) : ORb A ρ I w' b o := by
 cases o with
 | arr k es =>
  obtain ⟨cs, t, h1, h2, h3, h4, h5⟩ := h
  exact ⟨cs, t, hb.trans h1, h2, h3, h4, fun j x v hx hv => (h5 j x v hx hv).book hc hs⟩
 | map m =>
  obtain ⟨es, c, h1, h2, h3⟩ := h
  exact ⟨es, c, hb.trans h1, h2, fun j e p he hp => ⟨(h3 j e p he hp).1, (h3 j e p he hp).2.book hc hs⟩⟩
 | bytes l =>
  obtain ⟨cs, h1, h2, h3⟩ := h
  exact ⟨cs, hb.trans h1, h2, h3⟩
 | bld T x =>
  obtain ⟨p, v, h1, h2, h3, h4⟩ := h
  exact ⟨p, v, hb.trans h1, h2, h3, h4.book hc hs⟩
 | lop c ts =>
  obtain ⟨tm, df, h1, h2, h3⟩ := h
  exact ⟨tm, df, hb.trans h1, h2, fun i x v hx hv => (h3 i x v hx hv).book hc hs⟩
theorem SRa.shut {D : Nat} {Ds : List Nat} (h : SRa Γ A ρ s a w) (hk : Γ.mrk = true) (hd : a.defers = (D :: Ds).map mkD ++ Γ.ds) (hn : (D :: Ds).Nodup) (hD : ∀ E, E ∈ D :: Ds -> Γ.w0.heap.size <= E /\ Im Γ ρ s w E /\ w.heap[E]? = some (.deferred (some []))) :
  SRa Γ A ρ s { a with defers := Ds.map mkD ++ Γ.ds } (w.putObj D (.deferred none)) /\ ∀ E, E ∈ Ds -> Γ.w0.heap.size <= E /\ Im Γ ρ s (w.putObj D (.deferred none)) E /\ (w.putObj D (.deferred none)).heap[E]? = some (.deferred (some [])) := by
 obtain ⟨h1, h2, h3⟩ := hD D List.mem_cons_self
 have hlt := World.lt_of_block h3
 have hc : ∀ p v, w.cell? p = some v -> (w.putObj D (.deferred none)).cell? p = some v := fun p v hp => by
  unfold World.cell? at *
  by_cases e : p.block = D
  ·rw [e, h3] at hp; cases hp
  ·rw [World.putObj_heap_other e]; exact hp
 have hs : ∀ b n, csize w b = some n -> csize (w.putObj D (.deferred none)) b = some n := fun b n hb => by
  unfold csize at *
  by_cases e : b = D
  ·rw [e, h3] at hb; cases hb
  ·rw [World.putObj_heap_other e]; exact hb
 have hI : Im Γ ρ s (w.putObj D (.deferred none)) = Im Γ ρ s w := by funext b; simp [Im]
 have hE : ∀ E, E ∈ Ds -> Γ.w0.heap.size <= E /\ Im Γ ρ s (w.putObj D (.deferred none)) E /\ (w.putObj D (.deferred none)).heap[E]? = some (.deferred (some [])) := fun E hE => by
  obtain ⟨k1, k2, k3⟩ := hD E (List.mem_cons_of_mem _ hE)
  refine ⟨k1, by rw [hI]; exact k2, ?_⟩
  rw [World.putObj_heap_other fun e => by subst e; exact (List.nodup_cons.1 hn).1 hE]; exact k3
 refine ⟨⟨h.ext, h.len, fun i x v hx hv => by rw [hI]; exact (h.tmp i x v hx hv).book hc hs, fun id o hl => ?_, h.made, h.bound, h.own, h.inj, ⟨(fun e => by rw [hk] at e; cases e), Ds, rfl, (List.nodup_cons.1 hn).2, hE⟩, ?_⟩, hE⟩
 ·have ho := h.obj id o hl
  rw [hI]
  cases hb : ρ id with
  | none => rw [hb] at ho; exact ho
  | some b =>
   rw [hb] at ho
   exact ORb.book hc hs (World.putObj_heap_other fun e => by subst e; exact h2.2.2 id o hl hb) ho
 ·refine ⟨by simpa using h.fr.size, h.fr.os, h.fr.tape, h.fr.output, fun b hb hbn => ?_, fun b n hb => hs b n (h.fr.csize b n hb)⟩
  rw [World.putObj_heap_other (by omega)]; exact h.fr.block b hb hbn
theorem SRa.leave {fn : Func} {R : Ending -> World -> Prop} (hk : Γ.mrk = true) (hds : Γ.ds = []) : ∀ (Ds : List Nat) (a : Act) (w : World), SRa Γ A ρ s a w -> a.defers = Ds.map mkD ++ Γ.ds -> Ds.Nodup -> (∀ E, E ∈ Ds -> Γ.w0.heap.size <= E /\ Im Γ ρ s w E /\ w.heap[E]? = some (.deferred (some []))) ->
    (∀ w', SRa Γ A ρ s { a with defers := [] } w' -> ∃ v, (results fn a.tmps).run P w' = .ok v w' /\ R (.returned v) w') -> LeavesInM Fence.wide 0 P fn a.tmps R a.defers .returning w
  | [], a, w, h, hd, _, _, hfin => by
    rw [hd, hds]
    have e : ({ a with defers := [] } : Act) = a := by cases a; simp only at hd; rw [hd, hds]; rfl
    exact hfin w (by rw [e]; exact h)
  | D :: Ds, a, w, h, hd, hn, hD, hfin => by
    obtain ⟨g1, g2⟩ := h.shut hk hd hn hD
    rw [hd]
    refine ⟨by simp, .inl ⟨D, _, rfl, run_takeDeferred (hD D List.mem_cons_self).2.2, ?_⟩⟩
    exact SRa.leave (fn := fn) (R := R) hk hds Ds { a with defers := Ds.map mkD ++ Γ.ds } _ g1 rfl (List.nodup_cons.1 hn).2 g2 hfin
def Cx.mark (Γ : Cx) : Cx := { Γ with mrk := true }
theorem calls_of_marks {f : FuncId} {fn : Func} {c : Code} {vs : Array Value} {R : Ending -> World -> Prop} {K : St -> Prop} (hf : P.funcs[f]? = some fn) (hb : fn.body = some c) (hds : Γ.ds = [])
  (h : c.wp P (fun e a' w' => ∃ s', (e = .normal \/ e = .ret) /\ K s' /\ SR Γ.mark s' a' w') { tmps := vs ++ Array.replicate (fn.ntmps - vs.size) undef, defers := [] } Γ.w0)
  (hfin : ∀ s a w, K s -> SR Γ s a w -> ∃ v, (results fn a.tmps).run P w = .ok v w /\ R (.returned v) w) : Calls P f vs Γ.w0 R := by
 refine callsIn_wide.1 (callsIn_of_wp_marks (F := Fence.wide) (n := 0) hf hb trivial ?_)
 refine wpIn_wide.2 (wp_mono h ?_)
 rintro e a' w' ⟨s', he, hK, ρ', hs⟩
 obtain ⟨_, Ds, h1, h2, h3⟩ := hs.defers
 have key : LeavesInM Fence.wide 0 P fn a'.tmps R a'.defers .returning w' := by
  refine SRa.leave (fn := fn) (R := R) (Γ := Γ.mark) rfl hds Ds a' w' hs h1 h2 h3 fun w2 hs2 => ?_
  exact hfin s' { a' with defers := [] } w2 hK ⟨ρ', hs2.ext, hs2.len, hs2.tmp, hs2.obj, hs2.made, hs2.bound, hs2.own, hs2.inj, .nil hds.symm, ⟨hs2.fr.size, hs2.fr.os, hs2.fr.tape, hs2.fr.output, hs2.fr.block, hs2.fr.csize⟩⟩
 rcases he with rfl | rfl <;> exact key
end
theorem Fn.introK {P : Program} {f : FuncId} {fn : Func} {c : Code} {args : List AV} {X : AV} {rs : List ResultVar} {n : Nat} (hX : X.bd 0 = true) (he : enterable P f = true) (hf : P.funcs[f]? = some fn) (hb : fn.body = some c) (hrs : fn.results = rs.toArray) (hn : fn.ntmps = n) (hl : args.length <= n)
  (h : ∀ Γ : Cx, Γ.m = 0 -> Γ.mrk = true -> WP P Γ c (bodyQ (Ret P rs X)) (S n (enumA 0 args) 0 [])) : Fn P f args X := by
 subst hn
 refine ⟨⟨he, fun Γ vs hm hs => ?_⟩, hX⟩
 have hm0 : Γ.m = 0 := hm.1
 obtain ⟨ρ, hs⟩ := hs
 have hds : Γ.ds = [] := (hs.defers.eq hm.2).symm
 have hlen : vs.size = args.length := hs.len
 have h0 : SR Γ.mark ⟨args ++ List.replicate (fn.ntmps - args.length) .any, []⟩ ⟨vs ++ Array.replicate (fn.ntmps - vs.size) undef, []⟩ Γ.w0 := by
  refine ⟨ρ, hs.ext, by simp [hlen], ?_, hs.obj, hs.made, hs.bound, hs.own, hs.inj, .nil hds.symm, ⟨hs.fr.size, hs.fr.os, hs.fr.tape, hs.fr.output, hs.fr.block, hs.fr.csize⟩⟩
  intro i x v hx hv
  simp only at hx hv
  by_cases hi : i < args.length
  ·rw [List.getElem?_append_left hi] at hx
   rw [Array.getElem?_append_left (by omega)] at hv
   exact hs.tmp i x v hx hv
  ·rw [List.getElem?_append_right (by omega)] at hx
   have hm := List.mem_of_getElem? hx
   rw [(List.mem_replicate.1 hm).2]
   exact .any
 have hw := h Γ.mark hm0 rfl
 rw [tl_start _ _ hl] at h0
 refine calls_of_marks (K := Ret P rs X) hf hb hds (wp_mono (hw _ _ h0) ?_) ?_
 ·rintro e a' w' ⟨s', hq, hs'⟩
  cases e with
  | normal => exact ⟨s', .inl rfl, hq, hs'⟩
  | ret => exact ⟨s', .inr rfl, hq, hs'⟩
  | _ => exact hq.elim
 ·rintro s' a' w' ⟨x, hx, hz⟩ hs'
  obtain ⟨ρ', hs''⟩ := hs'
  obtain ⟨v, hv, _⟩ := resN_sound hs'' (show fn.results.toList = rs by rw [hrs]) hx
  refine ⟨v, hv, X, [], v, rfl, ⟨rfl, hX⟩, SR.out ⟨ρ', hs''⟩ hds hm0 hz fun ρ2 h2 => ?_⟩
  obtain ⟨v2, hv2, hr2⟩ := resN_sound h2 (show fn.results.toList = rs by rw [hrs]) hx
  rw [hv] at hv2
  injection hv2 with e1
  subst e1
  exact hr2
section
variable {P : Program} {Γ : Cx} {r : Option Nat} {k : Nat} {ops : Array Oper} {Q : Exit -> St -> Prop} {s : St} {L : List Oper}
theorem wpl_asemC {K : St -> Prop} (h : asemC P ops L s K) : WPL P Γ ops L (fun e s' => e = .normal /\ K s') s := fun a w hs =>
 asemC_sound (K := K) (QQ := fun e a' w' => ∃ s', (e = .normal /\ K s') /\ SR Γ s' a' w') (fun s _ _ hk hs => ⟨s, ⟨rfl, hk⟩, hs⟩) L s a w hs h
theorem wpli_preC (m : Nat) (h : asemC P ops (L.take m) s fun s' => WPLI P Γ none ops (L.drop m) Q s') : WPLI P Γ none ops L Q s := by
 have := wpli_pre (post := L.drop m) (Q := Q) (.inl rfl) (wpl_asemC (Γ := Γ) h) (fun _ h => h)
 rwa [List.take_append_drop] at this
theorem wpli_endC (h : asemC P ops L s (Q .normal)) : WPLI P Γ none ops L Q s := wpli_all (.inl rfl) (wpl_asemC h)
theorem wpi_regionC {id : Nat} (hd : ∀ o, o ∈ L -> ∀ c, o.op ≠ .defer c) (h : asemC P L.toArray L s (Q .normal)) : WPI P Γ k (.region id L.toArray false) Q s := wpi_region hd (wpl_asemC h)
theorem wpi_block {id : Nat} {c : Code} (h : WPI P Γ k c (fun e s' => e = .normal /\ Q .normal s') s) : WPI P Γ k (.block id c) Q s := fun a w hs => by
 refine wpIn_block (wpIn_mono (h a w hs) ?_)
 rintro e a' w' ⟨s', ⟨rfl, h1⟩, h2⟩
 exact ⟨s', h1, h2⟩
theorem nodefer {l : List Oper} (h : (l.all fun o => match o.op with | .defer _ => false | _ => true) = true) : ∀ o, o ∈ l -> ∀ c, o.op ≠ .defer c := fun o ho c e => by
 have := List.all_eq_true.1 h o ho
 rw [e] at this; cases this
end
def subT (l : List (Nat × AV)) : List (Nat × AV) -> Prop
 | [] => True
 | (j, y) :: r => lk j l = y /\ subT l r
theorem subT_lk {l : List (Nat × AV)} {i : Nat} : ∀ {l0 : List (Nat × AV)}, subT l l0 -> lk i l0 = .any \/ lk i l = lk i l0
  | [], _ => .inl rfl
  | (j, y) :: r, h => by
    simp only [lk]
    split
    · rename_i e; subst e; exact .inr h.1
    · exact subT_lk h.2
theorem subT_tl {n : Nat} {l l0 : List (Nat × AV)} (h : subT l l0) : (tl n l0).length = (tl n l).length /\ ∀ (i : Nat) x, (tl n l0)[i]? = some x -> x = .any \/ (tl n l)[i]? = some x := by
 refine ⟨by simp [tl_length], fun i x hx => ?_⟩
 have hi := (List.getElem?_eq_some_iff.1 hx).1
 rw [tl_length] at hi
 have e : ∀ l : List (Nat × AV), (tl n l)[i]? = some (lk i l) := fun l => tl_get l hi
 rw [e] at hx ⊢
 injection hx with hx
 subst hx
 rcases subT_lk (i := i) h with h | h
 ·exact .inl h
 ·exact .inr (by rw [h])
section
variable {P : Program} {Γ : Cx} {n M : Nat} {l : List (Nat × AV)} {os : List (Nat × Option AObj)} {Q : Exit -> St -> Prop} {ops : Array Oper} {rest : List Oper}
theorem wpli_y {r : Option Nat} {f : Operand} {args : Array Operand} {tys : Array TypeId} {d : Tmp} {ty : TypeId} {pos : String} {af : Array Edge} {id : Nat} {c : LoopC} {ts xs ys : List AV} {aos : List AObj} {aos' : List (Option AObj)} (is : List Nat)
  (hf : opq n l f = some (.yld id)) (hid : Nat.blt id M = true) (ho : lkO id os = some (.lop c ts)) (has : opqL n l args.toList = some xs) (hp : c.params.size = args.size) (hi : (is.all fun i => !Nat.beq i id) = true)
  (hL : Lend is (S n l M os) (putP ts (c.params.toList.zip xs)) ys aos) (hR : RoundC P c ys aos aos')
  (hn : WPLI P Γ r ops rest Q (S n ((d, .val (.bool true)) :: l) (M + (aos'.length - is.length)) (updN (apx M is) M is aos' os))) :
  WPLI P Γ r ops (⟨some d, .call ⟨.value f, args, tys⟩, ty, pos, af, none⟩ :: rest) Q (S n l M os) := by
 have hM : (S n l M os).objs.length = M := ol_length M os
 have hil : is.length <= aos'.length := by have := wkRO_len hL.2.1; have := hR.len; simp at *; omega
 refine wpli_yield is (opq_op hf) (St.look_some.1 (by rw [S_look]; simp only [lookq, hid, cond_true]; exact ho)) (opqL_op has) hp (fun h => ?_) hL hR ?_
 ·have := List.all_eq_true.1 hi id h
  simp [Nat.beq_refl] at this
 ·rw [hM]
  have e : (⟨(S n l M os).tmps, updO (apx M is) (S n l M os).objs is aos'⟩ : St) = S n l (M + (aos'.length - is.length)) (updN (apx M is) M is aos' os) := by
   simp only [S]; rw [updN_ol is aos' os hil]
  rw [e, S_put]
  exact hn
end
section
variable {P : Program} {Γ : Cx} {n M : Nat} {l : List (Nat × AV)} {os : List (Nat × Option AObj)} {Q : Exit -> St -> Prop} {ops : Array Oper} {rest : List Oper}
theorem Lend.T {n' : Nat} {lx l1 : List (Nat × AV)} {aos : List AObj} {is : List Nat} (h1 : toRT (ap is) l l1) (h2 : LendO (ap is) os is aos) (hn : is.Nodup) (hlt : (is.all fun i => Nat.blt i M) = true) (h3 : bdT aos.length l1 = true) (h4 : bdOs aos.length aos) : Lend is (Lg.S n' lx M os) (tl n l) (tl n l1) aos :=
 ⟨wkR_map (toRT_lk h1) _, h2.wk hlt, hn, bdL_tl h3, bdO_of h4⟩
theorem putP_tl : ∀ (ps : List (Tmp × AV)) (l : List (Nat × AV)), putP (tl n l) ps = tl n (ps.reverse ++ l)
  | [], l => rfl
  | p :: ps, l => by
    simp only [putP, List.foldl_cons]
    rw [tl_set]
    have := putP_tl ps ((p.1, p.2) :: l)
    simp only [putP] at this
    rw [this]; simp
theorem RoundC.intro {c : LoopC} {l : List (Nat × AV)} {aos : List AObj} {aos' : List (Option AObj)} (Mid : St -> Prop) (hs : c.state = .ready) (hp : c.pending = none) (hl : aos.length <= aos'.length)
  (ha : ∀ (Γ : Cx) (k : Nat), Γ.m = aos.length -> WPI P Γ k c.assign (fun e s => e = .normal /\ Mid s) (S n l aos.length (enumO 0 aos)))
  (hb : ∀ (Γ : Cx) (k : Nat) (s : St), Γ.m = aos.length -> Mid s -> WPI P Γ k c.body (fun e s => e = .normal /\ RetO P [] aos.length (.tup []) aos' s) s) : RoundC P c (tl n l) aos aos' :=
 ⟨hs, hp, hl, Mid, fun Γ k hm => by rw [ol_enum]; exact ha Γ k hm, fun Γ k s hm hs => WPI.mono (hb Γ k s hm hs) fun e s' ⟨h1, x, is, _, h2⟩ => by
  obtain ⟨t1, t2, t3, t4, t5, t6, t7⟩ := h2
  exact ⟨h1, is, ⟨trivial, t2, t3, t4, rfl, t6, t7⟩⟩⟩
theorem wp_rngO {g : Operand} {ps : Array Tmp} {assign body : Code} {gf : FuncId} {first cap ys : List AV} (is : List Nat) (j : Nat) (l0 : List (Nat × AV)) (h0 : subT l l0) (ts' : List AV) (aos : FuncId -> List AObj) {X : AV} (os' : FuncId -> List (Option AObj)) (hk : Γ.mrk = true) (hg : opq n l g = some (.clo (.func gf) first cap))
  (hj : ap is j = M) (hjl : Nat.blt j is.length = true) (hspec : ∀ fn, FnO P gf ys (aos fn) X (os' fn)) (hlen : ∀ fn, (aos fn).length <= (os' fn).length)
  (hL : ∀ fn, Lend is (S n l (M + 1) ((M, some (.lop { fn, params := ps, assign, body } (tl n l0))) :: os)) (first ++ [.yld M] ++ cap) ys (aos fn))
  (hK : ∀ fn, (os' fn)[j]? = some (some (.lop { fn, params := ps, assign, body } ts')) /\
   (∃ c ts, lkO M (updN (apx (M + 1) is) (M + 1) is (os' fn) ((M, some (.lop { fn, params := ps, assign, body } (tl n l0))) :: os)) = some (.lop c ts)) /\
   Q .normal (S n l (M + 1 + ((os' fn).length - is.length)) ((M, none) :: updN (apx (M + 1) is) (M + 1) is (os' fn) ((M, some (.lop { fn, params := ps, assign, body } (tl n l0))) :: os)))) :
  WP P Γ (.rangeFunc g ps assign body) Q (S n l M os) := by
 have hM : (S n l M os).objs.length = M := ol_length M os
 have e0 : ∀ x, (S n l M os).objs ++ [some x] = ol (M + 1) ((M, some x) :: os) := fun x => by
  simp only [S]
  rw [ol_push]
 have hspec' := fun fn => (hspec fn).spec
 refine wp_range (os := aos) hk (hspec' 0).1 (opq_op hg) is j (tl n l0) ts' (subT_tl h0).1 (subT_tl h0).2 _ (by rw [hM]; exact hj) (blt_of hjl) hspec' (fun fn => by rw [hM, e0]; exact hL fn) ?_
 rintro fn r _ ⟨rfl, rfl⟩
 have hil : is.length = (aos fn).length := by have := wkRO_len (hL fn).2.1; simpa using this.symm
 obtain ⟨k1, ⟨c, ts, k2⟩, k3⟩ := hK fn
 have hl := hlen fn
 rw [hM, e0, updN_ol is (os' fn) _ (by omega)]
 refine ⟨by omega, k1, ⟨c, ts, ?_⟩, ?_⟩
 ·rw [ol_get _ (by omega)]; exact congrArg some k2
 ·rw [ol_set]; exact k3
theorem wp_rngC {g : Operand} {ps : Array Tmp} {assign body : Code} {gf : FuncId} {first cap ys : List AV} (Pc : LoopC -> Prop) (is : List Nat) (j : Nat) (l0 : List (Nat × AV)) (h0 : subT l l0) (ts' : List AV) (aos : LoopC -> List AObj) {X : AV} (os' : LoopC -> List (Option AObj)) (hk : Γ.mrk = true) (hg : opq n l g = some (.clo (.func gf) first cap))
  (hj : ap is j = M) (hjl : Nat.blt j is.length = true) (hc : ∀ fn, Pc { fn, params := ps, assign, body }) (hspec : ∀ c, Pc c -> FnO P gf ys (aos c) X (os' c)) (hlen : ∀ c, (aos c).length <= (os' c).length)
  (hL : ∀ c, Pc c -> Lend is (S n l (M + 1) ((M, some (.lop c (tl n l0))) :: os)) (first ++ [.yld M] ++ cap) ys (aos c))
  (hK : ∀ c, Pc c -> (os' c)[j]? = some (some (.lop c ts')) /\
   (∃ c' ts, lkO M (updN (apx (M + 1) is) (M + 1) is (os' c) ((M, some (.lop c (tl n l0))) :: os)) = some (.lop c' ts)) /\
   Q .normal (S n l (M + 1 + ((os' c).length - is.length)) ((M, none) :: updN (apx (M + 1) is) (M + 1) is (os' c) ((M, some (.lop c (tl n l0))) :: os)))) :
  WP P Γ (.rangeFunc g ps assign body) Q (S n l M os) :=
 wp_rngO is j l0 h0 ts' (fun fn => aos { fn, params := ps, assign, body }) (fun fn => os' { fn, params := ps, assign, body }) hk hg hj hjl (fun fn => hspec _ (hc fn)) (fun fn => hlen _) (fun fn => hL _ (hc fn)) (fun fn => hK _ (hc fn))
end
end Go.Lg
namespace Go.Lg
open Go.Proofs
attribute [local irreducible] Ap Rq asemC WP RunD Ret Gq thenA inBlockA bodyQ noGotoA RqL RqP OpP
attribute [local simp] AV.cells
theorem leaf_fn (t : Tre) : Fn Tryd.prog 31 [treA t] (boolA (decide (t.rule = -1))) := by
 rw [treA_kids]
 refine Fn.intro rfl (by kernel_rfl) Tryd.func31 rfl rfl Tryd.ntmps31 (by exact nle rfl) ?_; intro Γ hm
 (repeat' (first | apply jA | apply jH | apply jK | apply jS | (refine rgC 0 ?_; (refine se_box rfl (by exact ⟨rfl, rfl⟩) ?_); (refine sassign rfl ?_); apply jW) | (refine rgC 1 ?_; (refine sfieldp rfl rfl rfl ?_); (refine sloadp rfl rfl rfl rfl ?_); (refine seql rfl rfl ?_); (refine sassign rfl ?_); apply jW) | exact ret_eq rfl rfl rfl))
mutual
def nodN : Tre -> Int
 | .mk r _ l => if r = -1 then 1 else 1 + nodNL l
def nodNL : List Tre -> Int
 | [] => 0
 | t :: l => nodN t + nodNL l
end
theorem nodN_eq (t : Tre) : nodN t = if t.rule = -1 then 1 else 1 + nodNL t.kids := by cases t; rw [nodN]; rfl
theorem nodNL_snoc (t : Tre) : ∀ l : List Tre, nodNL (l ++ [t]) = nodNL l + nodN t
 | [] => by simp [nodNL]
 | a :: l => by rw [List.cons_append, nodNL, nodNL, nodNL_snoc t l]; omega
theorem nodN_pos (t : Tre) : 1 <= nodN t := by
 induction t using Tre.ind with
 | h t ih =>
  rw [nodN_eq]
  split
  ·omega
  ·have : 0 <= nodNL t.kids := by
    generalize t.kids = l at *
    induction l with
    | nil => rw [nodNL]; omega
    | cons a l ihl => rw [nodNL]; have := ih a (by simp); have := ihl fun x hx => ih x (by simp [hx]); omega
   omega
theorem nodNL_nn : ∀ l : List Tre, 0 <= nodNL l
 | [] => by rw [nodNL]; omega
 | t :: l => by rw [nodNL]; have := nodN_pos t; have := nodNL_nn l; omega
theorem nodNL_app : ∀ (a b : List Tre), nodNL (a ++ b) = nodNL a + nodNL b
 | [], b => by rw [List.nil_append, nodNL]; omega
 | p :: a, b => by rw [List.cons_append, nodNL, nodNL, nodNL_app a b]; omega
theorem nodNL_take (l : List Tre) (i : Nat) : nodNL (l.take i) <= nodNL l := by
 have := nodNL_app (l.take i) (l.drop i)
 rw [List.take_append_drop] at this
 have := nodNL_nn (l.drop i)
 omega
def tsS : List AV := tl 10 [(3, .ptr 0 1 0 0)]
def SizR (P : Program) (c : LoopC) : Prop := ∀ (n : Int) (x : Tre), 0 <= n -> n <= 1000000 -> RoundC P c (tl 10 [(6, treA x), (3, .ptr 0 1 0 0)]) [.arr 1 [intA n]] [some (.arr 1 [intA (n + 1)])]
theorem siz_lend {n' M : Nat} {lx : List (Nat × AV)} {os : List (Nat × Option AObj)} {c : LoopC} {n : Int} {r tm : Int} {ks : List Tre} (hcp : c.params = #[6]) (h0 : lkO 0 os = some (.arr 1 [intA n])) (hM : Nat.blt 0 M = true) :
  Lend [0] (Lg.S n' lx M os) (putP tsS (c.params.toList.zip [.agg [intA r, intA tm, tresA ks]])) (tl 10 [(6, .agg [intA r, intA tm, tresA ks]), (3, .ptr 0 1 0 0)]) [.arr 1 [intA n]] := by
 rw [hcp]
 show Lend _ _ (putP (tl 10 [(3, .ptr 0 1 0 0)]) [(6, .agg [intA r, intA tm, tresA ks])]) _ _
 rw [putP_tl]
 refine Lend.T (rt_p rfl rfl (by simp [AV.bd, bdL]) (rt_t rfl rfl rt_nil)) (.arr h0 rfl .nil) (by decide) (show (Nat.blt 0 M && true) = true by rw [hM]; rfl) (by simp [bdT, AV.bd, bdL]) ?_
 exact ⟨by simp [bdL, AV.bd], trivial⟩
theorem walkS_fn (c : LoopC) (hcp : c.params = #[6]) (hR : SizR Tryd.prog c) (t : Tre) : ∀ n : Int, 0 <= n -> n + nodN t <= 1000000 -> FnO Tryd.prog 48 [treA t, .yld 1] [.arr 1 [intA n], .lop c tsS] (boolA true) [some (.arr 1 [intA (n + nodN t)]), some (.lop c tsS)] := by
 induction t using Tre.ind with
 | h t ih =>
  intro n h0 h1
  have hlf := leaf_fn t
  have hr := hR n t h0 (by have := nodN_pos t; omega)
  rw [treA_kids] at hlf hr ⊢
  rw [nodN_eq] at h1 ⊢
  generalize t.kids = kids at *
  generalize t.rule = rule at *
  generalize t.term = term at *
  clear t
  refine FnO.intro (by exact nle rfl) rfl (by kernel_rfl) Tryd.func48 rfl rfl Tryd.ntmps48 (by exact nle rfl) ?_; intro Γ hm
  (repeat' (first | apply jA | apply jH | (refine rgC 0 ?_; (refine se_box rfl (by exact ⟨rfl, rfl⟩) ?_); (refine sassign rfl ?_); apply jW)))
  all_goals refine wpli_region ?_
  all_goals refine wpli_preC 2 ?_
  all_goals simp only [List.take_succ_cons, List.take_zero, List.drop_succ_cons, List.drop_zero]
  all_goals refine smove rfl ?_
  all_goals (refine sloadpw rfl rfl rfl rfl ?_)
  all_goals refine asemC_end ?_
  all_goals refine wpli_y (c := c) (ts := tsS) (id := 1) [0] (xs := [.agg [intA rule, intA term, tresA kids]]) rfl rfl rfl rfl (by rw [hcp]; rfl) (by decide) (siz_lend hcp rfl rfl) hr ?_
  all_goals simp only [updN, newO, AObj.ren, Option.map_some, List.length_cons, List.length_nil, Nat.reduceAdd, Nat.reduceSub]
  all_goals refine wpli_endC ?_
  all_goals refine su (anot rfl) ?_
  all_goals refine asemC_end ?_
  all_goals ((repeat' (first | apply jA | apply jH | apply jI | apply jK | apply jM | apply jS | (refine wp_cond rfl (fun hc => ?_) (fun hc => ?_) <;> (try simp only [sB, ne_eq, reduceCtorEq] at hc) <;> (try (exfalso; omega))) | (refine rgC 3 ?_; (refine sloadpw rfl rfl rfl rfl ?_); (refine sc_p rfl rfl zq1 zq5 (hlf) ?_); apply jW) | (refine rgC 4 ?_; (refine sassign rfl ?_); apply jW))))
  ·rw [if_pos hc]
   refine retO_L (x := boolA true) (k := 2) (os1 := [(0, some (.arr 1 [intA (n + 1)])), (1, some (.lop c tsS))]) (.tmp rfl .nil) rfl ⟨[0, 1], ToR.S rfl (by repeat' (first | exact rt_nil | refine rt_e rfl rfl ?_)) (by repeat' (first | exact ro_nil | refine ro_l rfl (by first | exact rfl | fail) ?_ | refine ro_e rfl rfl ?_)) rfl rfl rfl zq4 (by repeat' (first | exact True.intro | exact rfl | refine And.intro ?_ ?_)) (by exact nle rfl)⟩ rfl
  ·rw [if_neg hc] at h1 ⊢
   refine wp_lens 8 rfl fun hl => ?_
   have hl : kids.length <= 9223372036854775807 := by have := hl; simp [AV.lens, lensL, tresA] at this; omega
   (repeat' (first | apply jF | apply jH | (refine rgC 5 ?_; (refine sfieldp rfl rfl rfl ?_); (refine sloadp rfl rfl rfl rfl ?_); (refine slenm rfl rfl ?_); (refine smove rfl ?_); apply jW)))
   refine wp_loop (fun (i : Nat) => i <= kids.length) (fun i => kids.length - i)
    (fun i => (S 25 [(1, .yld 1), (14, tresA kids), (15, intA (kids.length : Nat)), (16, intA (i : Nat))] 2 [(0, some (.arr 1 [intA (n + 1 + nodNL (kids.take i))])), (1, some (.lop c tsS))])) 0 ?_ (Nat.zero_le _) ?_
   ·rw [show n + 1 + nodNL (kids.take 0) = n + 1 by simp [nodNL]]
    exact ⟨[0, 1], ToR.S rfl (by repeat' (first | exact rt_nil | refine rt_e rfl rfl ?_ | refine rt_p rfl rfl (by first | (simp [AV.bd, bdL, bdL_append]; done) | fail) ?_)) (by repeat' (first | exact ro_nil | refine ro_l rfl (by first | exact rfl | fail) ?_ | refine ro_e rfl rfl ?_)) rfl (by (rw [hm]; exact rfl)) rfl zq4 (by repeat' (first | exact True.intro | exact rfl | refine And.intro ?_ ?_)) (by (rw [hm]; exact nle rfl))⟩
   intro i hi
   by_cases hlt : i < kids.length
   ·have hn := nodNL_snoc (nth kids i) (kids.take i)
    have ht := nodNL_take kids (i + 1)
    have h2 := nodNL_nn (kids.take i)
    rw [<- take_succ_nth hlt] at hn
    have hx := ih _ (nth_mem hlt) (n + 1 + nodNL (kids.take i)) (by omega) (by omega)
    (repeat' (first | apply jA | apply jF | apply jH | apply jI | apply jN | (refine wp_cond rfl (fun hc => ?_) (fun hc => ?_) <;> (try simp only [sB, ne_eq, reduceCtorEq] at hc) <;> (try (exfalso; omega))) | (refine rgC 6 ?_; (refine slss rfl rfl ?_); apply jW) | (refine rgC 7 ?_; (refine sidxn rfl rfl (by omega) ?_); (refine sloadw rfl rfl ?_); (refine se_alloc rfl ?_); (refine se_store_b rfl rfl rfl rfl ?_); apply jW) | (refine rgC 8 ?_; (refine sloadpw rfl rfl rfl rfl ?_); (refine smove rfl ?_); (refine sc_o [0, 1] rfl rfl (hx) (Lend.S (by first | ((repeat' first | exact RenL.nil | refine RenL.cons (by first | exact rfl | exact ren_p (by simp [AV.bd, bdL, bdL_append])) ?_); done) | fail) (by first | ((repeat' first | exact LendO.nil | refine LendO.lop rfl (by first | exact rfl | fail) ?_ | refine LendO.arr rfl rfl ?_); done) | fail) (by decide) rfl (by simp [AV.bd, bdL, bdL_append]) (by repeat' (first | exact True.intro | refine And.intro ?_ ?_ | exact bdL_tl rfl | simp [AV.bd, bdL, bdL_append]))) ?_; simp only [updN, newO, AObj.ren, renL, AV.ren, apx, ap, if_true, if_false, Nat.reduceLT, Nat.reduceAdd, Nat.reduceSub, sO, intA, boolA, strA]); (refine su (anot rfl) ?_); apply jW) | (refine rgC 10 ?_; (refine sadd rfl rfl (by exact inr_i64_of (by omega)) ?_); (refine smove rfl ?_); apply jW)))
    refine ⟨i + 1, ⟨by omega, by omega⟩, ?_⟩
    rw [hn, <- Int.add_assoc]
    exact ⟨[0, 1], ToR.S rfl (by repeat' (first | exact rt_nil | refine rt_e rfl rfl ?_ | refine rt_p rfl rfl (by first | (simp [AV.bd, bdL, bdL_append]; done) | fail) ?_)) (by repeat' (first | exact ro_nil | refine ro_l rfl (by first | exact rfl | fail) ?_ | refine ro_e rfl rfl ?_)) rfl (by (rw [hm]; exact rfl)) rfl zq4 (by repeat' (first | exact True.intro | exact rfl | refine And.intro ?_ ?_)) (by (rw [hm]; exact nle rfl))⟩
   ·have e1 : nodNL kids = nodNL (kids.take i) := by rw [List.take_of_length_le (by omega)]
    rw [e1, <- Int.add_assoc]
    (repeat' (first | apply jA | apply jH | apply jJ | apply jK | apply jL | apply jP | apply jS | (refine wp_cond rfl (fun hc => ?_) (fun hc => ?_) <;> (try simp only [sB, ne_eq, reduceCtorEq] at hc) <;> (try (exfalso; omega))) | (refine rgC 6 ?_; (refine slss rfl rfl ?_); apply jW) | (refine rgC 11 ?_; (refine sassign rfl ?_); apply jW)))
    refine retO_L (x := boolA true) (k := 2) (os1 := [(0, some (.arr 1 [intA (n + 1 + nodNL (kids.take i))])), (1, some (.lop c tsS))]) (.tmp rfl .nil) rfl ⟨[0, 1], ToR.S rfl (by repeat' (first | exact rt_nil | refine rt_e rfl rfl ?_)) (by repeat' (first | exact ro_nil | refine ro_l rfl (by first | exact rfl | fail) ?_ | refine ro_e rfl rfl ?_)) rfl rfl rfl zq4 (by repeat' (first | exact True.intro | exact rfl | refine And.intro ?_ ?_)) (by exact nle rfl)⟩ rfl
end Go.Lg
namespace Go.Lg
open Go.Proofs
attribute [local irreducible] Ap Rq asemC WP RunD Ret Gq thenA inBlockA bodyQ noGotoA RqL RqP OpP
theorem contains_fn (s sub : ByteArray) (hs : s.size < 4294967281) : Fn Tryd.prog 67 [.val (.string s), .val (.string sub)] (.val (.bool (Lib.contains s.data.toList sub.data.toList))) := by
 refine Fn.of_same (vs := [.string s, .string sub]) (by kernel_rfl) rfl fun w hw => ?_
 obtain ⟨m, hm⟩ := hw.1 (gints.getD 0 (0, .i64)) (by simp [gints])
 exact Tryd.strings_Contains s sub m w hs hm
def encOk (n : Nat) : Bool := Lib.contains [95, 46, 64] (Utf8.encode (n : Int)).data.toList == (decide ((n : Int) = 95) || decide ((n : Int) = 46) || decide ((n : Int) = 64))
theorem encOk_all : (List.range 256).all encOk = true := by kernel_rfl
theorem enc_byte (c : UInt8) : Lib.contains [95, 46, 64] (Utf8.encode c.toNat).data.toList = (decide ((c.toNat : Int) = 95) || decide ((c.toNat : Int) = 46) || decide ((c.toNat : Int) = 64)) := by
 have h := List.all_eq_true.1 encOk_all c.toNat (List.mem_range.2 c.toNat_lt)
 simpa [encOk] using h
def nameB (c : Int) : Bool := letB c || digB c || decide (c = 95) || decide (c = 46) || decide (c = 64)
theorem nth_bAt (s : ByteArray) (i : Nat) : ((nth s.data.toList i).toNat : Int) = bAt s i := rfl
theorem nameOk_of {s : ByteArray} (h0 : 0 < s.size) (h1 : s.size <= 48) (h2 : letB (bAt s 0) = true) (h : ∀ i, i < s.size -> nameB (bAt s i) = true) : nameOk s = true := by
 simp only [nameOk, Bool.and_eq_true, decide_eq_true_eq, List.all_eq_true, List.mem_range]
 refine ⟨⟨h0, h1⟩, fun i hi => ?_⟩
 simp only [nameCh]
 by_cases e : i = 0
 ·subst e; simp [h2]
 ·have := h i hi
  simp only [nameB, Bool.or_assoc] at this
  simpa [e, Bool.or_assoc] using this
theorem nameOk_no {s : ByteArray} {i : Nat} (hi : i < s.size) (h : nameB (bAt s i) = false) : nameOk s = false := by
 have : nameCh s i = false := by
  simp only [nameB, Bool.or_eq_false_iff] at h
  simp only [nameCh, h.1.1.1.1, h.1.1.1.2, h.1.1.2, h.1.2, h.2, Bool.or_false, Bool.and_false, Bool.false_or]
 simp only [nameOk, range_all_no hi this, Bool.and_false]
theorem gname_fn (s : ByteArray) : Fn Tryd.prog 58 [strA s] (boolA (nameOk s)) := by
 refine Fn.intro rfl (by kernel_rfl) Tryd.func58 rfl rfl Tryd.ntmps58 (by exact nle rfl) ?_; intro Γ hm
 by_cases hs : s.size = 0
 ·have : s = ⟨#[]⟩ := by
   obtain ⟨⟨l⟩⟩ := s
   have : l = [] := List.eq_nil_of_length_eq_zero (by simpa [ByteArray.size] using hs)
   subst this; rfl
  subst this
  (repeat' (first | apply jA | apply jF | apply jH | apply jI | apply jK | apply jM | apply jS | (refine wp_cond rfl (fun hc => ?_) (fun hc => ?_) <;> (try simp only [sB, ne_eq, reduceCtorEq] at hc) <;> (try (exfalso; omega))) | (refine WP.regionC ?_; (refine sassign rfl ?_); apply jW) | (refine rgC 1 ?_; (refine smove rfl ?_); (refine seqs rfl rfl ?_); (refine smove rfl ?_); (refine sg (gq_vf rfl rfl) (fun he => ap_move (rq_p rfl rfl)) ?_); (refine sg (gq_vf rfl rfl) (fun he => ap_len_str rfl (rq_c rfl rfl)) ?_); (refine sg (gq_vf rfl rfl) (fun he => ap_gtr (rq_c rfl rfl) (rq_p rfl rfl)) ?_); (refine su (ap_or (rq_p rfl rfl) (rq_c rfl rfl)) ?_); (refine smove rfl ?_); (refine sg (gq_vf rfl rfl) (fun he => ap_move (rq_p rfl rfl)) ?_); (refine sg (gq_vf rfl rfl) (fun he => ap_sidx_n (rq_c rfl rfl) (rq_p rfl rfl) rfl (by (try simp only [sH, id, sB, ne_eq, reduceCtorEq] at he); (exfalso; simp at he; done))) ?_); (refine sg_p (gq_vf rfl rfl) (fun he => ⟨(rq_p rfl rfl), (RqL.cons (rq_c rfl rfl) (RqL.nil)), zq1, zq5, letter18_fn _⟩) ?_); (refine sg (gq_vf rfl rfl) (fun he => ap_not (rq_c rfl rfl)) ?_); (refine su (ap_or (rq_p rfl rfl) (rq_c rfl rfl)) ?_); apply jW) | (refine rgC 3 ?_; (refine smove rfl ?_); (refine se_s2b (by kernel_rfl) rfl (by omega) ?_); (refine slenm rfl rfl ?_); (refine smove rfl ?_); apply jW) | exact ret_eq rfl rfl rfl))
  simp at hc
 have hb0 := bAt_bd s 0
 have hne : ¬ s = ⟨#[]⟩ := by rintro rfl; exact hs rfl
 have hlen : s.data.toList.length = s.size := by simp
 (repeat' (first | apply jA | apply jF | apply jH | apply jI | apply jK | apply jM | apply jS | (refine wp_cond rfl (fun hc => ?_) (fun hc => ?_) <;> (try simp only [sB, ne_eq, reduceCtorEq] at hc) <;> (try (exfalso; omega))) | (refine WP.regionC ?_; (refine sassign rfl ?_); apply jW) | (refine rgC 1 ?_; (refine smove rfl ?_); (refine seqs rfl rfl ?_); (refine smove rfl ?_); (refine sg (gq_vf rfl rfl) (fun he => ap_move (rq_p rfl rfl)) ?_); (refine sg (gq_vf rfl rfl) (fun he => ap_len_str rfl (rq_c rfl rfl)) ?_); (refine sg (gq_vf rfl rfl) (fun he => ap_gtr (rq_c rfl rfl) (rq_p rfl rfl)) ?_); (refine su (ap_or (rq_p rfl rfl) (rq_c rfl rfl)) ?_); (refine smove rfl ?_); (refine sg (gq_vf rfl rfl) (fun he => ap_move (rq_p rfl rfl)) ?_); (refine sg (gq_vf rfl rfl) (fun he => ap_sidx_n (rq_c rfl rfl) (rq_p rfl rfl) rfl (by (try simp only [sH, id, sB, ne_eq, reduceCtorEq] at he); (simp only [sL] <;> omega))) ?_); (refine sg_p (gq_vf rfl rfl) (fun he => ⟨(rq_p rfl rfl), (RqL.cons (rq_c rfl rfl) (RqL.nil)), zq1, zq5, letter18_fn _⟩) ?_); (refine sg (gq_vf rfl rfl) (fun he => ap_not (rq_c rfl rfl)) ?_); (refine su (ap_or (rq_p rfl rfl) (rq_c rfl rfl)) ?_); apply jW) | (refine rgC 3 ?_; (refine smove rfl ?_); (refine se_s2b (by kernel_rfl) rfl (by omega) ?_); (refine slenm rfl rfl ?_); (refine smove rfl ?_); apply jW) | refine ret_b rfl ?_))
 ·rcases hc with (hc | hc) | hc
  ·exact absurd hc hne
  ·simp [nameOk]; omega
  ·have : nameCh s 0 = false := by simp [nameCh, hc]
   simp only [nameOk, range_all_no (k := 0) (n := s.size) (by omega) this, Bool.and_false]
 obtain ⟨⟨_, h48⟩, hl0⟩ := hc
 refine wp_loop (fun (k : Nat) => k <= s.size /\ ∀ i, i < k -> nameB (bAt s i) = true) (fun k => s.size - k)
  (fun k => (S 43 [(19, .sl 1 (s.data.toList.map byteA)), (20, intA (s.data.toList.length : Nat)), (21, intA (k : Nat))] 0 [])) 0 ⟨[], ToR.S rfl (by repeat' (first | exact rt_nil | refine rt_e rfl rfl ?_ | refine rt_p rfl rfl (by first | (simp [AV.bd, bdL, bdL_append]; done) | fail) ?_)) (by repeat' (exact ro_nil)) rfl (by (rw [hm]; exact rfl)) rfl zq4 (by repeat' (exact True.intro)) (by (rw [hm]; exact nle rfl))⟩ ⟨Nat.zero_le _, by simp⟩ ?_
 rintro k ⟨hk, hall⟩
 by_cases hlt : k < s.size
 ·have hbk := bAt_bd s k
  have hlt' : k < s.data.toList.length := by omega
  have hnb := nth_bAt s k
  (repeat' (first | apply jA | apply jF | apply jH | apply jI | apply jK | apply jM | apply jN | apply jO | apply jS | (refine wp_cond rfl (fun hc => ?_) (fun hc => ?_) <;> (try simp only [sB, ne_eq, reduceCtorEq] at hc) <;> (try (exfalso; omega))) | (refine rgC 4 ?_; (refine slss rfl rfl ?_); apply jW) | (refine rgC 5 ?_; (refine sidxn rfl rfl (by omega) ?_); (refine sloadw rfl rfl ?_); (refine sassign rfl ?_); apply jW) | (refine rgC 6 ?_; (refine smove rfl ?_); (refine sc_p rfl rfl zq1 zq5 (letter18_fn _) ?_); (refine su (anot rfl) ?_); (refine smove rfl ?_); (refine sg (gq_vt rfl rfl) (fun he => ap_move (rq_p rfl rfl)) ?_); (refine sg (gq_vt rfl rfl) (fun he => ap_lss (rq_c rfl rfl) (rq_p rfl rfl)) ?_); (refine sg (gq_vt rfl rfl) (fun he => ap_move (rq_c rfl rfl)) ?_); (refine sg (gq_cf rfl rfl) (fun he => ap_move (rq_p rfl rfl)) ?_); (refine sg (gq_cf rfl rfl) (fun he => ap_gtr (rq_c rfl rfl) (rq_p rfl rfl)) ?_); (refine sg (gq_vt rfl rfl) (fun he => ap_or (rq_c rfl rfl) (rq_c rfl rfl)) ?_); (refine su (ap_and (rq_p rfl rfl) (rq_c rfl rfl)) ?_); (refine smove rfl ?_); (refine sg (gq_vt rfl rfl) (fun he => ap_move (rq_p rfl rfl)) ?_); (refine sg (gq_vt rfl rfl) (fun he => ap_conv_is (rq_c rfl rfl) rfl rfl (by kernel_rfl)) ?_); (refine sg_p (gq_vt rfl rfl) (fun he => ⟨(rq_p rfl rfl), (RqL.cons (rq_p rfl rfl) (RqL.cons (rq_c rfl rfl) (RqL.nil))), zq1, zq5, contains_fn _ _ (by decide)⟩) ?_); (refine sg (gq_vt rfl rfl) (fun he => ap_not (rq_c rfl rfl)) ?_); (refine su (ap_and (rq_p rfl rfl) (rq_c rfl rfl)) ?_); apply jW) | (refine rgC 7 ?_; (refine sassign rfl ?_); apply jW) | (refine rgC 8 ?_; (refine sadd rfl rfl (by exact inr_i64_of (by omega)) ?_); (refine smove rfl ?_); apply jW) | refine ret_b rfl ?_))
  ·obtain ⟨⟨h1, h2⟩, h3⟩ := hc
   rw [enc_byte, hnb] at h3
   rw [hnb] at h1 h2
   simp only [Bool.or_eq_false_iff] at h3
   rw [nameOk_no hlt]
   simp only [nameB, h1, h3.1.1, h3.1.2, h3.2, Bool.or_false, Bool.false_or, digB]
   simp; omega
  ·refine ⟨k + 1, ⟨by omega, by omega, fun i hi => ?_⟩, ⟨[], ToR.S rfl (by repeat' (first | exact rt_nil | refine rt_e rfl rfl ?_ | refine rt_p rfl rfl (by first | (simp [AV.bd, bdL, bdL_append]; done) | fail) ?_)) (by repeat' (exact ro_nil)) rfl (by (rw [hm]; exact rfl)) rfl zq4 (by repeat' (exact True.intro)) (by (rw [hm]; exact nle rfl))⟩⟩
   by_cases e : i = k
   ·subst e
    rw [enc_byte, hnb] at hc
    simp only [nameB, digB]
    simp only [Bool.or_eq_true, Bool.and_eq_true, decide_eq_true_eq] at hc ⊢
    rcases hc with (hc | hc) | (hc | hc) | hc
    ·simp [hc]
    ·simp [hc]
    ·simp [hc]
    ·simp [hc]
    ·simp [hc]
   ·exact hall i (by omega)
 ·(repeat' (first | apply jA | apply jH | apply jJ | apply jK | apply jL | apply jP | apply jS | (refine wp_cond rfl (fun hc => ?_) (fun hc => ?_) <;> (try simp only [sB, ne_eq, reduceCtorEq] at hc) <;> (try (exfalso; omega))) | (refine rgC 4 ?_; (refine slss rfl rfl ?_); apply jW) | (refine rgC 9 ?_; (refine sassign rfl ?_); apply jW) | refine ret_b rfl ?_))
  rw [nameOk_of (by omega) (by omega) hl0 fun i hi => hall i (by omega)]
end Go.Lg
namespace Go.Lg
open Go.Proofs
attribute [local irreducible] Ap Rq asemC WP RunD Ret Gq thenA inBlockA bodyQ noGotoA RqL RqP OpP
structure Seen (m : List (ByteArray × Unit)) (l : List ByteArray) : Prop where
 ok : ∀ x, x ∈ l -> nameOk x = true
 nd : l.Nodup
 mem : ∀ x, (aget m x).isSome = true ↔ x ∈ l
theorem Seen.nil : Seen [] [] := ⟨by simp, by simp, by simp [aget, afind]⟩
theorem Seen.add {m : List (ByteArray × Unit)} {l : List ByteArray} {x : ByteArray} (h : Seen m l) (h1 : (aget m x).isSome = false) (h2 : nameOk x = true) : Seen (aset m x ()) (l ++ [x]) := by
 have hx : x ∉ l := fun e => by have := (h.mem x).2 e; rw [h1] at this; cases this
 refine ⟨fun y hy => ?_, ?_, fun y => ?_⟩
 ·rcases List.mem_append.1 hy with hy | hy
  ·exact h.ok y hy
  ·rw [List.mem_singleton.1 hy]; exact h2
 ·rw [List.nodup_append]; exact ⟨h.nd, by simp, fun a ha b hb => by rw [List.mem_singleton.1 hb]; rintro rfl; exact hx ha⟩
 ·rw [aget_aset]
  by_cases e : y = x
  ·subst e; simp
  ·rw [if_neg e, h.mem y]; simp [e]
theorem Seen.all {m : List (ByteArray × Unit)} {l : List ByteArray} (h : Seen m l) : namesOk l = true := by
 simp only [namesOk, Bool.and_eq_true, decide_eq_true_eq, List.all_eq_true]; exact ⟨h.ok, h.nd⟩
theorem Seen.no {m : List (ByteArray × Unit)} {l r : List ByteArray} {x : ByteArray} (h : Seen m l) (h1 : (aget m x).isSome = true \/ nameOk x = false) : namesOk (l ++ x :: r) = false := by
 cases hq : namesOk (l ++ x :: r) with
 | false => rfl
 | true =>
  simp only [namesOk, Bool.and_eq_true, decide_eq_true_eq, List.all_eq_true] at hq
  rcases h1 with h1 | h1
  ·have := (h.mem x).1 h1
   exact absurd rfl ((List.nodup_append.1 hq.2).2.2 x this x (by simp))
  ·have := hq.1 x (by simp); rw [h1] at this; cases this
theorem take_flatten {α : Type} [Inhabited α] {L : List (List α)} {j : Nat} (h : j < L.length) : (L.take (j + 1)).flatten = (L.take j).flatten ++ nth L j := by
 rw [take_succ_nth h, List.flatten_append]; simp
theorem split_at {α : Type} [Inhabited α] {L : List (List α)} {j k : Nat} (h : j < L.length) (hk : k < (nth L j).length) : ∃ r, L.flatten = ((L.take j).flatten ++ (nth L j).take k) ++ nth (nth L j) k :: r := by
 refine ⟨(nth L j).drop (k + 1) ++ (L.drop (j + 1)).flatten, ?_⟩
 conv => lhs; rw [<- List.take_append_drop (j + 1) L, List.flatten_append, take_flatten h]
 conv => lhs; rw [<- List.take_append_drop k (nth L j)]
 rw [List.drop_eq_getElem_cons hk, <- nth_eq hk]
 simp
theorem named_fn (g : Gram) (h1 : g.terms.length <= 120) (h2 : g.nonterms.length <= 120) : Fn Tryd.prog 44 [gramA g] (boolA (namesOk (g.terms ++ g.nonterms))) := by
 refine Fn.intro rfl (by kernel_rfl) Tryd.func44 rfl rfl Tryd.ntmps44 (by exact nle rfl) ?_; intro Γ hm
 have hfl : [g.terms, g.nonterms].flatten = g.terms ++ g.nonterms := by simp
 have hln : ∀ j, j < 2 -> (nth [g.terms, g.nonterms] j).length <= 120 := by
  intro j hj
  match j, hj with
  | 0, _ => exact h1
  | 1, _ => exact h2
 have hll : [g.terms, g.nonterms].length = 2 := rfl
 rw [<- hfl]
 (repeat' (first | apply jA | apply jF | apply jH | (refine rgC 0 ?_; (refine se_box rfl (by exact ⟨rfl, rfl⟩) ?_); (refine sassign rfl ?_); apply jW) | (refine rgC 1 ?_; (refine se_mkmap ?_); (refine sassign rfl ?_); apply jW) | (refine rgC 2 ?_; (refine sfieldp rfl rfl rfl ?_); (refine sloadp rfl rfl rfl rfl ?_); (refine sfieldp rfl rfl rfl ?_); (refine sloadp rfl rfl rfl rfl ?_); (refine se_lit (OpP.cons rfl (OpP.cons rfl (OpP.nil))) rfl rfl rfl rfl rfl rfl ?_); (refine su (alenr rfl rfl) ?_); (refine smove rfl ?_); apply jW)))
 refine wp_loop (fun (x : Nat × List (ByteArray × Unit)) => x.1 <= 2 /\ Seen x.2 ([g.terms, g.nonterms].take x.1).flatten) (fun x => 2 - x.1)
  (fun x => (S 44 [(3, .map 0), (15, .ref 1 1 0 2), (16, intA (2 : Nat)), (17, intA (x.1 : Nat))] 2 [(0, some (.map (mapA strK unitA x.2))), (1, some (.arr 1 ([g.terms, g.nonterms].map strsA)))])) (0, []) ⟨[1, 2], ToR.S rfl (by repeat' (first | exact rt_nil | refine rt_r rfl rfl ?_ | refine rt_m rfl rfl ?_ | refine rt_e rfl rfl ?_)) (by repeat' (first | exact ro_nil | refine ro_p rfl (by first | exact rfl | fail) (by first | exact bdL_map (fun _ => by simp [AV.bd, bdL, bdL_append]) _ | fail) ?_ | refine ro_m rfl rfl (mapA_bd (fun _ => by exact rfl) _) ?_)) rfl (by (rw [hm]; exact rfl)) rfl zq4 (by repeat' (first | exact True.intro | exact rfl | refine And.intro ?_ ?_ | exact bdL_map (fun _ => by simp [AV.bd, bdL, bdL_append]) _)) (by (rw [hm]; exact nle rfl))⟩ ⟨by decide, Seen.nil⟩ ?_
 rintro ⟨j, m⟩ ⟨hj, hs⟩
 dsimp only at *
 by_cases hlt : j < 2
 ·have hjl := hln j hlt
  (repeat' (first | apply jA | apply jF | apply jH | apply jI | (refine wp_cond rfl (fun hc => ?_) (fun hc => ?_) <;> (try simp only [sB, ne_eq, reduceCtorEq] at hc) <;> (try (exfalso; omega))) | (refine rgC 3 ?_; (refine slss rfl rfl ?_); apply jW) | (refine rgC 4 ?_; (refine su (aidxrn rfl rfl (by omega)) ?_); (refine su (aloadpt rfl rfl (by omega) rfl) ?_); (refine sassign rfl ?_); apply jW) | (refine rgC 5 ?_; (refine smove rfl ?_); (refine slenm rfl rfl ?_); (refine smove rfl ?_); apply jW)))
  refine wp_loop (fun (x : Nat × List (ByteArray × Unit)) => x.1 <= (nth [g.terms, g.nonterms] j).length /\ Seen x.2 (([g.terms, g.nonterms].take j).flatten ++ (nth [g.terms, g.nonterms] j).take x.1)) (fun x => (nth [g.terms, g.nonterms] j).length - x.1)
   (fun x => (S 44 [(3, .map 0), (15, .ref 1 1 0 2), (16, intA (2 : Nat)), (17, intA (j : Nat)), (21, strsA (nth [g.terms, g.nonterms] j)), (22, intA ((nth [g.terms, g.nonterms] j).length : Nat)), (23, intA (x.1 : Nat))] 2 [(0, some (.map (mapA strK unitA x.2))), (1, some (.arr 1 ([g.terms, g.nonterms].map strsA)))])) (0, m) ⟨[0, 1], ToR.S rfl (by repeat' (first | exact rt_nil | refine rt_r rfl rfl ?_ | refine rt_m rfl rfl ?_ | refine rt_e rfl rfl ?_ | refine rt_p rfl rfl (by first | (simp [AV.bd, bdL, bdL_append]; done) | fail) ?_)) (by repeat' (first | exact ro_nil | refine ro_p rfl (by first | exact rfl | fail) (by first | exact bdL_map (fun _ => by simp [AV.bd, bdL, bdL_append]) _ | fail) ?_ | refine ro_m rfl rfl (mapA_bd (fun _ => by exact rfl) _) ?_)) rfl (by (rw [hm]; exact rfl)) rfl zq4 (by repeat' (first | exact True.intro | exact mapA_all (fun _ => by exact rfl) _ | refine And.intro ?_ ?_ | exact bdL_map (fun _ => by simp [AV.bd, bdL, bdL_append]) _)) (by (rw [hm]; exact nle rfl))⟩ ⟨Nat.zero_le _, by simpa using hs⟩ ?_
  rintro ⟨k, m2⟩ ⟨hk, hs2⟩
  dsimp only at *
  by_cases hkl : k < (nth [g.terms, g.nonterms] j).length
  ·(repeat' (first | apply jA | apply jF | apply jH | apply jI | apply jK | apply jM | apply jN | apply jO | apply jS | (refine wp_cond rfl (fun hc => ?_) (fun hc => ?_) <;> (try simp only [sB, ne_eq, reduceCtorEq] at hc) <;> (try (exfalso; omega))) | (refine rgC 6 ?_; (refine slss rfl rfl ?_); apply jW) | (refine rgC 7 ?_; (refine sidxn rfl rfl (by omega) ?_); (refine sloadw rfl rfl ?_); (refine sassign rfl ?_); apply jW) | (refine rgC 8 ?_; (refine smove rfl ?_); (refine smove rfl ?_); (refine su (ap_look2 (kf := strK) (f := unitA) (z0 := ()) (rq_p rfl rfl) rfl (rq_p rfl rfl) rfl) ?_); (refine smove rfl ?_); (refine su (aextract rfl rfl) ?_); (refine su (aextract rfl rfl) ?_); (refine se_unit_alloc (by kernel_rfl) ?_); (refine se_store_b rfl rfl rfl rfl ?_); (refine sassign rfl ?_); apply jW) | (refine rgC 9 ?_; (refine smove rfl ?_); (refine smove rfl ?_); (refine sg (gq_vf rfl rfl) (fun he => ap_move (rq_p rfl rfl)) ?_); (refine sg_p (gq_vf rfl rfl) (fun he => ⟨(rq_p rfl rfl), (RqL.cons (rq_c rfl rfl) (RqL.nil)), zq1, zq5, gname_fn _⟩) ?_); (refine sg (gq_vf rfl rfl) (fun he => ap_not (rq_c rfl rfl)) ?_); (refine su (ap_or (rq_p rfl rfl) (rq_c rfl rfl)) ?_); apply jW) | (refine rgC 10 ?_; (refine sassign rfl ?_); apply jW) | (refine rgC 11 ?_; (refine smove rfl ?_); (refine smove rfl ?_); (refine se_unit_build (by kernel_rfl) ?_); (refine se_mapset (kf := strK) (f := unitA) (v := ()) rfl rfl rfl rfl ?_); apply jW) | (refine rgC 12 ?_; (refine sadd rfl rfl (by exact inr_i64_of (by omega)) ?_); (refine smove rfl ?_); apply jW) | refine ret_b rfl ?_))
   ·obtain ⟨r, hr⟩ := split_at (L := [g.terms, g.nonterms]) (by omega) hkl
    rw [hr, hs2.no hc]
   ·refine ⟨(k + 1, aset m2 (nth (nth [g.terms, g.nonterms] j) k) ()), ⟨by dsimp only; omega, by dsimp only; omega, ?_⟩, ⟨[0, 1], ToR.S rfl (by repeat' (first | exact rt_nil | refine rt_r rfl rfl ?_ | refine rt_m rfl rfl ?_ | refine rt_e rfl rfl ?_ | refine rt_p rfl rfl (by first | (simp [AV.bd, bdL, bdL_append]; done) | fail) ?_)) (by repeat' (first | exact ro_nil | refine ro_p rfl (by first | exact rfl | fail) (by first | exact bdL_map (fun _ => by simp [AV.bd, bdL, bdL_append]) _ | fail) ?_ | refine ro_m rfl rfl (mapA_bd (fun _ => by exact rfl) _) ?_)) rfl (by (rw [hm]; exact rfl)) rfl zq4 (by repeat' (first | exact True.intro | exact mapA_all (fun _ => by exact rfl) _ | refine And.intro ?_ ?_ | exact bdL_map (fun _ => by simp [AV.bd, bdL, bdL_append]) _)) (by (rw [hm]; exact nle rfl))⟩⟩
    have := hs2.add hc.1 hc.2
    rw [List.append_assoc, <- take_succ_nth hkl] at this
    exact this
  ·(repeat' (first | apply jA | apply jH | apply jJ | apply jL | apply jN | apply jP | (refine wp_cond rfl (fun hc => ?_) (fun hc => ?_) <;> (try simp only [sB, ne_eq, reduceCtorEq] at hc) <;> (try (exfalso; omega))) | (refine rgC 6 ?_; (refine slss rfl rfl ?_); apply jW) | (refine rgC 13 ?_; (refine sadd rfl rfl (by exact inr_i64_of (by omega)) ?_); (refine smove rfl ?_); apply jW)))
   refine ⟨(j + 1, m2), ⟨by dsimp only; omega, by dsimp only; omega, ?_⟩, ⟨[0, 1], ToR.S rfl (by repeat' (first | exact rt_nil | refine rt_r rfl rfl ?_ | refine rt_m rfl rfl ?_ | refine rt_e rfl rfl ?_)) (by repeat' (first | exact ro_nil | refine ro_p rfl (by first | exact rfl | fail) (by first | exact bdL_map (fun _ => by simp [AV.bd, bdL, bdL_append]) _ | fail) ?_ | refine ro_m rfl rfl (mapA_bd (fun _ => by exact rfl) _) ?_)) rfl (by (rw [hm]; exact rfl)) rfl zq4 (by repeat' (first | exact True.intro | exact mapA_all (fun _ => by exact rfl) _ | refine And.intro ?_ ?_ | exact bdL_map (fun _ => by simp [AV.bd, bdL, bdL_append]) _)) (by (rw [hm]; exact nle rfl))⟩⟩
   dsimp only
   rw [take_flatten (by omega)]
   rw [List.take_of_length_le (l := nth [g.terms, g.nonterms] j) (by omega)] at hs2
   exact hs2
 ·(repeat' (first | apply jA | apply jH | apply jJ | apply jK | apply jL | apply jP | apply jS | (refine wp_cond rfl (fun hc => ?_) (fun hc => ?_) <;> (try simp only [sB, ne_eq, reduceCtorEq] at hc) <;> (try (exfalso; omega))) | (refine rgC 3 ?_; (refine slss rfl rfl ?_); apply jW) | (refine rgC 14 ?_; (refine sassign rfl ?_); apply jW) | refine ret_b rfl ?_))
  rw [List.take_of_length_le (by omega)] at hs
  exact hs.all.symm
theorem gvalid1_fn (g : Gram) (x : Int) (hn : g.nonterms.length <= 120) : Fn Tryd.prog 46 [intA x, .iptr (gramA g).cells 0] (boolA (!symOk g x)) := by
 refine Fn.intro rfl (by kernel_rfl) Tryd.func46 rfl rfl Tryd.ntmps46 (by exact nle rfl) ?_; intro Γ hm
 (repeat' (first | apply jA | apply jH | apply jK | apply jS | (refine rgC 0 ?_; (refine sassign rfl ?_); apply jW) | (refine rgC 1 ?_; (refine smove rfl ?_); (refine su (afieldi rfl rfl rfl) ?_); (refine su (aloadi rfl rfl) ?_); (refine slenm rfl rfl ?_); (refine su (ageq rfl rfl) ?_); (refine smove rfl ?_); (refine sg (gq_vf rfl rfl) (fun he => ap_move (rq_p rfl rfl)) ?_); (refine sg (gq_vf rfl rfl) (fun he => ap_field_i (rq_p rfl rfl) rfl rfl) ?_); (refine sg (gq_vf rfl rfl) (fun he => ap_load_i (rq_c rfl rfl) rfl) ?_); (refine sg (gq_vf rfl rfl) (fun he => ap_len_m rfl (rq_c rfl rfl)) ?_); (refine sg (gq_vf rfl rfl) (fun he => ap_neg (rq_c rfl rfl) (by (try simp only [sH, id, sB, ne_eq, reduceCtorEq] at he); exact inr_i64_of (by omega))) ?_); (refine sg (gq_vf rfl rfl) (fun he => ap_lss (rq_c rfl rfl) (rq_c rfl rfl)) ?_); (refine su (ap_or (rq_p rfl rfl) (rq_c rfl rfl)) ?_); (refine sassign rfl ?_); apply jW) | refine ret_b rfl ?_))
 simp only [symOk]
 rw [Bool.eq_iff_iff]
 simp
 try omega
theorem any_not_sym {g : Gram} {l : List Int} : l.any (fun x => !symOk g x) = !l.all (symOk g) := by
 induction l with
 | nil => rfl
 | cons x l ih => simp only [List.any_cons, List.all_cons, ih, Bool.not_and]
theorem gvalid18_fn (g : Gram) : Fn Tryd.prog 30 [gramA g] (boolA (validG g)) := by
 refine Fn.intro rfl (by kernel_rfl) Tryd.func30 rfl rfl Tryd.ntmps30 (by exact nle rfl) ?_; intro Γ hm
 refine wp_lens 0 rfl fun hl => ?_
 obtain ⟨hl1, hl2, hl3, hl4⟩ := (lens_gramA g).1 hl
 (repeat' (first | apply jA | apply jF | apply jH | apply jI | apply jK | apply jM | apply jS | (refine wp_cond rfl (fun hc => ?_) (fun hc => ?_) <;> (try simp only [sB, ne_eq, reduceCtorEq] at hc) <;> (try (exfalso; omega))) | (refine rgC 0 ?_; (refine se_box rfl (by exact ⟨rfl, rfl⟩) ?_); (refine sassign rfl ?_); apply jW) | (refine rgC 1 ?_; (refine sfieldp rfl rfl rfl ?_); (refine sloadp rfl rfl rfl rfl ?_); (refine slenm rfl rfl ?_); (refine su (agtr rfl rfl) ?_); (refine smove rfl ?_); (refine sg (gq_vf rfl rfl) (fun he => ap_field_p (rq_p rfl rfl) rfl rfl) ?_); (refine sg (gq_vf rfl rfl) (fun he => ap_load_p (rq_c rfl rfl) rfl rfl rfl) ?_); (refine sg (gq_vf rfl rfl) (fun he => ap_len_m rfl (rq_c rfl rfl)) ?_); (refine sg (gq_vf rfl rfl) (fun he => ap_lss (rq_c rfl rfl) (rq_p rfl rfl)) ?_); (refine su (ap_or (rq_p rfl rfl) (rq_c rfl rfl)) ?_); (refine smove rfl ?_); (refine sg (gq_vf rfl rfl) (fun he => ap_field_p (rq_p rfl rfl) rfl rfl) ?_); (refine sg (gq_vf rfl rfl) (fun he => ap_load_p (rq_c rfl rfl) rfl rfl rfl) ?_); (refine sg (gq_vf rfl rfl) (fun he => ap_len_m rfl (rq_c rfl rfl)) ?_); (refine sg (gq_vf rfl rfl) (fun he => ap_gtr (rq_c rfl rfl) (rq_p rfl rfl)) ?_); (refine su (ap_or (rq_p rfl rfl) (rq_c rfl rfl)) ?_); (refine smove rfl ?_); (refine sg (gq_vf rfl rfl) (fun he => ap_load_pw (rq_p rfl rfl) rfl rfl rfl) ?_); (refine sg_p (gq_vf rfl rfl) (fun he => ⟨(rq_p rfl rfl), (RqL.cons (rq_c rfl rfl) (RqL.nil)), zq1, zq5, named_fn _ (by (try simp only [sH, id, sB, ne_eq, reduceCtorEq] at he); omega) (by (try simp only [sH, id, sB, ne_eq, reduceCtorEq] at he); omega)⟩) ?_); (refine sg (gq_vf rfl rfl) (fun he => ap_not (rq_c rfl rfl)) ?_); (refine su (ap_or (rq_p rfl rfl) (rq_c rfl rfl)) ?_); (refine smove rfl ?_); (refine sg (gq_vf rfl rfl) (fun he => ap_field_p (rq_p rfl rfl) rfl rfl) ?_); (refine sg (gq_vf rfl rfl) (fun he => ap_load_p (rq_c rfl rfl) rfl rfl rfl) ?_); (refine sg (gq_vf rfl rfl) (fun he => ap_lss (rq_c rfl rfl) (rq_p rfl rfl)) ?_); (refine su (ap_or (rq_p rfl rfl) (rq_c rfl rfl)) ?_); (refine smove rfl ?_); (refine sg (gq_vf rfl rfl) (fun he => ap_field_p (rq_p rfl rfl) rfl rfl) ?_); (refine sg (gq_vf rfl rfl) (fun he => ap_load_p (rq_c rfl rfl) rfl rfl rfl) ?_); (refine sg (gq_vf rfl rfl) (fun he => ap_field_p (rq_p rfl rfl) rfl rfl) ?_); (refine sg (gq_vf rfl rfl) (fun he => ap_load_p (rq_c rfl rfl) rfl rfl rfl) ?_); (refine sg (gq_vf rfl rfl) (fun he => ap_len_m rfl (rq_c rfl rfl)) ?_); (refine sg (gq_vf rfl rfl) (fun he => ap_geq (rq_c rfl rfl) (rq_c rfl rfl)) ?_); (refine su (ap_or (rq_p rfl rfl) (rq_c rfl rfl)) ?_); (refine smove rfl ?_); (refine sg (gq_vf rfl rfl) (fun he => ap_field_p (rq_p rfl rfl) rfl rfl) ?_); (refine sg (gq_vf rfl rfl) (fun he => ap_load_p (rq_c rfl rfl) rfl rfl rfl) ?_); (refine sg (gq_vf rfl rfl) (fun he => ap_len_m rfl (rq_c rfl rfl)) ?_); (refine sg (gq_vf rfl rfl) (fun he => ap_lss (rq_c rfl rfl) (rq_p rfl rfl)) ?_); (refine su (ap_or (rq_p rfl rfl) (rq_c rfl rfl)) ?_); (refine smove rfl ?_); (refine sg (gq_vf rfl rfl) (fun he => ap_field_p (rq_p rfl rfl) rfl rfl) ?_); (refine sg (gq_vf rfl rfl) (fun he => ap_load_p (rq_c rfl rfl) rfl rfl rfl) ?_); (refine sg (gq_vf rfl rfl) (fun he => ap_len_m rfl (rq_c rfl rfl)) ?_); (refine sg (gq_vf rfl rfl) (fun he => ap_gtr (rq_c rfl rfl) (rq_p rfl rfl)) ?_); (refine su (ap_or (rq_p rfl rfl) (rq_c rfl rfl)) ?_); apply jW) | (refine rgC 2 ?_; (refine sassign rfl ?_); apply jW) | (refine rgC 3 ?_; (refine sfieldp rfl rfl rfl ?_); (refine sloadp rfl rfl rfl rfl ?_); (refine slenm rfl rfl ?_); (refine smove rfl ?_); apply jW) | refine ret_b rfl ?_))
 ·by_cases hns : namesOk (g.terms ++ g.nonterms) = true
  ·simp only [hns, Bool.true_eq_false, or_false] at hc
   simp [validG]; omega
  ·simp [validG, hns]
 have hns : namesOk (g.terms ++ g.nonterms) = true := hc.1.1.1.1.2
 have hn2 : g.nonterms.length <= 120 := by omega
 refine wp_loop (fun (i : Nat) => i <= g.rules.length /\ (g.rules.take i).all (ruleOk g) = true) (fun i => g.rules.length - i)
  (fun i => (S 90 [(1, .ptr 0 4 0 0), (52, rulesA g.rules), (53, intA (g.rules.length : Nat)), (54, intA (i : Nat))] 1 [(0, some (.arr 4 [gramA g]))])) 0 ⟨[0], ToR.S rfl (by repeat' (first | exact rt_nil | refine rt_t rfl rfl ?_ | refine rt_e rfl rfl ?_ | refine rt_p rfl rfl (by first | (simp [AV.bd, bdL, bdL_append]; done) | fail) ?_)) (by repeat' (first | exact ro_nil | refine ro_p rfl (by first | exact rfl | fail) zq5 ?_)) rfl (by (rw [hm]; exact rfl)) rfl zq4 zq3 (by (rw [hm]; exact nle rfl))⟩ ⟨Nat.zero_le _, rfl⟩ ?_
 rintro i ⟨hi, hall⟩
 (repeat' (first | apply jA | apply jF | apply jH | apply jI | apply jJ | apply jK | apply jL | apply jM | apply jN | apply jO | apply jP | apply jS | (refine wp_cond rfl (fun hc => ?_) (fun hc => ?_) <;> (try simp only [sB, ne_eq, reduceCtorEq] at hc) <;> (try (exfalso; omega))) | (refine rgC 4 ?_; (refine slss rfl rfl ?_); apply jW) | (refine rgC 5 ?_; (refine sidxn rfl rfl (by omega) ?_); (refine sloadw rfl rfl ?_); (refine se_alloc rfl ?_); (refine se_store_b rfl rfl rfl rfl ?_); apply jW) | (refine rgC 6 ?_; (refine sfieldp rfl rfl rfl ?_); (refine sloadp rfl rfl rfl rfl ?_); (refine slss rfl rfl ?_); (refine smove rfl ?_); (refine sg (gq_vf rfl rfl) (fun he => ap_field_p (rq_p rfl rfl) rfl rfl) ?_); (refine sg (gq_vf rfl rfl) (fun he => ap_load_p (rq_c rfl rfl) rfl rfl rfl) ?_); (refine sg (gq_vf rfl rfl) (fun he => ap_field_p (rq_p rfl rfl) rfl rfl) ?_); (refine sg (gq_vf rfl rfl) (fun he => ap_load_p (rq_c rfl rfl) rfl rfl rfl) ?_); (refine sg (gq_vf rfl rfl) (fun he => ap_len_m rfl (rq_c rfl rfl)) ?_); (refine sg (gq_vf rfl rfl) (fun he => ap_geq (rq_c rfl rfl) (rq_c rfl rfl)) ?_); (refine su (ap_or (rq_p rfl rfl) (rq_c rfl rfl)) ?_); (refine smove rfl ?_); (refine sg (gq_vf rfl rfl) (fun he => ap_field_p (rq_p rfl rfl) rfl rfl) ?_); (refine sg (gq_vf rfl rfl) (fun he => ap_load_p (rq_c rfl rfl) rfl rfl rfl) ?_); (refine sg (gq_vf rfl rfl) (fun he => ap_len_m rfl (rq_c rfl rfl)) ?_); (refine sg (gq_vf rfl rfl) (fun he => ap_gtr (rq_c rfl rfl) (rq_p rfl rfl)) ?_); (refine su (ap_or (rq_p rfl rfl) (rq_c rfl rfl)) ?_); (refine smove rfl ?_); (refine sg (gq_vf rfl rfl) (fun he => ap_field_p (rq_p rfl rfl) rfl rfl) ?_); (refine sg (gq_vf rfl rfl) (fun he => ap_load_p (rq_c rfl rfl) rfl rfl rfl) ?_); (refine sg (gq_vf rfl rfl) (fun he => ap_lss (rq_c rfl rfl) (rq_p rfl rfl)) ?_); (refine su (ap_or (rq_p rfl rfl) (rq_c rfl rfl)) ?_); (refine smove rfl ?_); (refine sg (gq_vf rfl rfl) (fun he => ap_field_p (rq_p rfl rfl) rfl rfl) ?_); (refine sg (gq_vf rfl rfl) (fun he => ap_load_p (rq_c rfl rfl) rfl rfl rfl) ?_); (refine sg (gq_vf rfl rfl) (fun he => ap_gtr (rq_c rfl rfl) (rq_p rfl rfl)) ?_); (refine su (ap_or (rq_p rfl rfl) (rq_c rfl rfl)) ?_); apply jW) | (refine WP.regionC ?_; (refine sassign rfl ?_); apply jW) | (refine rgC 8 ?_; (refine sfieldp rfl rfl rfl ?_); (refine sloadp rfl rfl rfl rfl ?_); (refine su (ap_clo (RqL.nil) (RqL.cons (rq_p rfl rfl) (RqL.nil))) ?_); (refine sc_b rfl rfl (by first | ((repeat' first | exact FzL.nil | refine FzL.cons ?_ ?_ | (exact Fz.reflp (by simp [AV.bd, bdL, bdL_append])) | refine Fz.ptrL rfl rfl ?_ | refine Fz.cloL ?_ ?_); done) | fail) (containsFunc_fn _ _ _ (fun x => !symOk g x) (fun n => by simp [bdL, AV.bd, AV.cells, gramA]) (fun x hx => gvalid1_fn g x hn2)) rfl ?_); apply jW) | (refine rgC 10 ?_; (refine sadd rfl rfl (by exact inr_i64_of (by omega)) ?_); (refine smove rfl ?_); apply jW) | refine ret_b rfl ?_))
 ·rw [validG_no (i := i) (by omega) (by simp [ruleOk]; omega)]
 ·rw [any_not_sym, Bool.not_eq_true'] at hc
  rw [validG_no (i := i) (by omega) (by simp only [ruleOk, hc, Bool.and_false])]
 ·rw [any_not_sym, Bool.not_eq_false'] at hc
  exact ⟨i + 1, ⟨by omega, by omega, take_all_succ (by omega) hall (by simp only [ruleOk, hc, Bool.and_true]; simp; omega)⟩, ⟨[0], ToR.S rfl (by repeat' (first | exact rt_nil | refine rt_t rfl rfl ?_ | refine rt_e rfl rfl ?_ | refine rt_p rfl rfl (by first | (simp [AV.bd, bdL, bdL_append]; done) | fail) ?_)) (by repeat' (first | exact ro_nil | refine ro_p rfl (by first | exact rfl | fail) zq5 ?_)) rfl (by (rw [hm]; exact rfl)) rfl zq4 zq3 (by (rw [hm]; exact nle rfl))⟩⟩
 simp [validG, hns, all_of_take' (by omega) hall]; omega
end Go.Lg
namespace Go.Lg
open Go.Proofs
attribute [local irreducible] Ap Rq asemC WP RunD Ret Gq thenA inBlockA bodyQ noGotoA RqL RqP OpP
attribute [local simp] AV.cells
theorem okTL_noY (g : Gram) {xs : List Int} {l : List Tre} (hl : l.length = xs.length) {i : Nat} (hi : i < l.length) (h : okT g (nth xs i) (nth l i) = false) : okTL g xs l = false := by
 cases hc : okTL g xs l with
 | false => rfl
 | true => have := (okTL_iff g xs l hl.symm).1 hc i hi; rw [h] at this; cases this
theorem tre_iffY {a b : Tre} : a = b ↔ (a.rule = b.rule /\ a.term = b.term) /\ a.kids = b.kids := ⟨by rintro rfl; exact ⟨⟨rfl, rfl⟩, rfl⟩, fun h => Tre.ext' h.1.1 h.1.2 h.2⟩
theorem fits_fn {g : Gram} (hv : GVal g) (t : Tre) : ∀ x : Int, -1000000 <= x -> Fn Tryd.prog 32 [gramA g, intA x, treA t] (boolA (okT g x t)) := by
 induction t using Tre.ind with
 | h t ih =>
  intro x hx0
  have hlf := leaf_fn t
  rw [treA_kids] at hlf
  rw [okT_eq, treA_kids]
  generalize t.kids = kids at *
  generalize t.rule = rule at *
  generalize t.term = term at *
  clear t
  refine Fn.intro rfl (by kernel_rfl) Tryd.func32 rfl rfl Tryd.ntmps32 (by exact nle rfl) ?_; intro Γ hm
  refine wp_lens 0 rfl fun h0 => wp_lens 2 rfl fun hl => ?_
  have hr2 := hv.r2
  have hl : kids.length <= 9223372036854775807 := by have := hl; simp [AV.lens, lensL, tresA] at this; omega
  by_cases hx : 0 <= x
  ·rw [if_pos hx]
   (repeat' (first | apply jA | apply jH | apply jK | apply jM | apply jS | (refine wp_cond rfl (fun hc => ?_) (fun hc => ?_) <;> (try simp only [sB, ne_eq, reduceCtorEq] at hc) <;> (try (exfalso; omega))) | (refine rgC 0 ?_; (refine se_box rfl (by exact ⟨rfl, rfl⟩) ?_); (refine se_box rfl (by exact ⟨rfl, rfl⟩) ?_); (refine sassign rfl ?_); apply jW) | (refine rgC 1 ?_; (refine smove rfl ?_); (refine su (ageq rfl rfl) ?_); apply jW) | (refine rgC 2 ?_; (refine sloadpw rfl rfl rfl rfl ?_); (refine sc_p rfl rfl zq1 zq5 (hlf) ?_); (refine smove rfl ?_); (refine sg (gq_vt rfl rfl) (fun he => ap_field_p (rq_p rfl rfl) rfl rfl) ?_); (refine sg (gq_vt rfl rfl) (fun he => ap_load_p (rq_c rfl rfl) rfl rfl rfl) ?_); (refine sg (gq_vt rfl rfl) (fun he => ap_move (rq_p rfl rfl)) ?_); (refine sg (gq_vt rfl rfl) (fun he => ap_eql (rq_c rfl rfl) (rq_c rfl rfl)) ?_); (refine su (ap_and (rq_p rfl rfl) (rq_c rfl rfl)) ?_); (refine smove rfl ?_); (refine sg (gq_vt rfl rfl) (fun he => ap_field_p (rq_p rfl rfl) rfl rfl) ?_); (refine sg (gq_vt rfl rfl) (fun he => ap_load_p (rq_c rfl rfl) rfl rfl rfl) ?_); (refine sg (gq_vt rfl rfl) (fun he => ap_len_m rfl (rq_c rfl rfl)) ?_); (refine sg (gq_vt rfl rfl) (fun he => ap_eql (rq_c rfl rfl) (rq_p rfl rfl)) ?_); (refine su (ap_and (rq_p rfl rfl) (rq_c rfl rfl)) ?_); (refine sassign rfl ?_); apply jW) | refine ret_b rfl ?_))
   all_goals (rw [Bool.eq_iff_iff]; simp only [Bool.and_eq_true, decide_eq_true_eq]; constructor <;> rintro ⟨⟨h1, h2⟩, h3⟩ <;> exact ⟨⟨h1, h2⟩, by omega⟩)
  ·rw [if_neg hx]
   (repeat' (first | apply jA | apply jH | apply jI | apply jK | apply jM | apply jS | (refine wp_cond rfl (fun hc => ?_) (fun hc => ?_) <;> (try simp only [sB, ne_eq, reduceCtorEq] at hc) <;> (try (exfalso; omega))) | (refine rgC 0 ?_; (refine se_box rfl (by exact ⟨rfl, rfl⟩) ?_); (refine se_box rfl (by exact ⟨rfl, rfl⟩) ?_); (refine sassign rfl ?_); apply jW) | (refine rgC 1 ?_; (refine smove rfl ?_); (refine su (ageq rfl rfl) ?_); apply jW) | (refine rgC 3 ?_; (refine sfieldp rfl rfl rfl ?_); (refine sloadp rfl rfl rfl rfl ?_); (refine slss rfl rfl ?_); (refine smove rfl ?_); (refine sg (gq_vf rfl rfl) (fun he => ap_field_p (rq_p rfl rfl) rfl rfl) ?_); (refine sg (gq_vf rfl rfl) (fun he => ap_load_p (rq_c rfl rfl) rfl rfl rfl) ?_); (refine sg (gq_vf rfl rfl) (fun he => ap_field_p (rq_p rfl rfl) rfl rfl) ?_); (refine sg (gq_vf rfl rfl) (fun he => ap_load_p (rq_c rfl rfl) rfl rfl rfl) ?_); (refine sg (gq_vf rfl rfl) (fun he => ap_len_m rfl (rq_c rfl rfl)) ?_); (refine sg (gq_vf rfl rfl) (fun he => ap_geq (rq_c rfl rfl) (rq_c rfl rfl)) ?_); (refine su (ap_or (rq_p rfl rfl) (rq_c rfl rfl)) ?_); (refine smove rfl ?_); (refine sg (gq_vf rfl rfl) (fun he => ap_field_p (rq_p rfl rfl) rfl rfl) ?_); (refine sg (gq_vf rfl rfl) (fun he => ap_load_p (rq_c rfl rfl) rfl rfl rfl) ?_); (refine sg (gq_vf rfl rfl) (fun he => ap_neq (rq_c rfl rfl) (rq_p rfl rfl)) ?_); (refine su (ap_or (rq_p rfl rfl) (rq_c rfl rfl)) ?_); apply jW) | (refine rgC 4 ?_; (refine sassign rfl ?_); apply jW) | refine ret_b rfl ?_))
   all_goals try (refine Eq.symm ?_; grind)
   have d1 : decide (0 <= rule) = true := decide_eq_true (by omega)
   have d2 : decide (rule < g.rules.length) = true := decide_eq_true (by omega)
   have d3 : decide (term = 0) = true := decide_eq_true (by omega)
   rw [d1, d2, d3]
   simp only [Bool.true_and]
   have hrf := hv.rule _ (nth_mem (show rule.toNat < g.rules.length by omega))
   have hn2 := hv.n2
   (repeat' (first | apply jA | apply jF | apply jH | apply jI | apply jK | apply jM | apply jS | (refine wp_cond rfl (fun hc => ?_) (fun hc => ?_) <;> (try simp only [sB, ne_eq, reduceCtorEq] at hc) <;> (try (exfalso; omega))) | (refine rgC 5 ?_; (refine sfieldp rfl rfl rfl ?_); (refine sloadp rfl rfl rfl rfl ?_); (refine sfieldp rfl rfl rfl ?_); (refine sloadp rfl rfl rfl rfl ?_); (refine su (aidxz rfl rfl (by omega)) ?_); (refine sloadw rfl rfl ?_); (refine se_alloc rfl ?_); (refine se_store_b rfl rfl rfl rfl ?_); apply jW) | (refine rgC 6 ?_; (refine sfieldp rfl rfl rfl ?_); (refine sloadp rfl rfl rfl rfl ?_); (refine smove rfl ?_); (refine su (asub rfl rfl (by exact inr_i64_of (by omega))) ?_); (refine su (aneq rfl rfl) ?_); (refine smove rfl ?_); (refine sg (gq_vf rfl rfl) (fun he => ap_field_p (rq_p rfl rfl) rfl rfl) ?_); (refine sg (gq_vf rfl rfl) (fun he => ap_load_p (rq_c rfl rfl) rfl rfl rfl) ?_); (refine sg (gq_vf rfl rfl) (fun he => ap_len_m rfl (rq_c rfl rfl)) ?_); (refine sg (gq_vf rfl rfl) (fun he => ap_field_p (rq_p rfl rfl) rfl rfl) ?_); (refine sg (gq_vf rfl rfl) (fun he => ap_load_p (rq_c rfl rfl) rfl rfl rfl) ?_); (refine sg (gq_vf rfl rfl) (fun he => ap_len_m rfl (rq_c rfl rfl)) ?_); (refine sg (gq_vf rfl rfl) (fun he => ap_neq (rq_c rfl rfl) (rq_c rfl rfl)) ?_); (refine su (ap_or (rq_p rfl rfl) (rq_c rfl rfl)) ?_); apply jW) | (refine rgC 7 ?_; (refine sassign rfl ?_); apply jW) | (refine rgC 8 ?_; (refine sfieldp rfl rfl rfl ?_); (refine sloadp rfl rfl rfl rfl ?_); (refine slenm rfl rfl ?_); (refine smove rfl ?_); apply jW) | refine ret_b rfl ?_))
   all_goals try (refine Eq.symm ?_; grind)
   have d4 : decide ((nth g.rules rule.toNat).head = -1 - x) = true := decide_eq_true (by omega)
   have hkl : kids.length = (nth g.rules rule.toNat).body.length := by omega
   have d5 : decide (kids.length = (nth g.rules rule.toNat).body.length) = true := decide_eq_true hkl
   rw [d4, d5]
   simp only [Bool.true_and]
   refine wp_loop (fun (i : Nat) => i <= kids.length /\ ∀ j, j < i -> okT g (nth (nth g.rules rule.toNat).body j) (nth kids j) = true) (fun i => kids.length - i)
    (fun i => (S 80 [(3, .ptr 0 4 0 0), (7, .ptr 2 3 0 0), (63, tresA kids), (64, intA (kids.length : Nat)), (65, intA (i : Nat))] 3 [(0, some (.arr 4 [gramA g])), (1, some (.arr 3 [.agg [intA rule, intA term, tresA kids]])), (2, some (.arr 3 [ruleA (nth g.rules rule.toNat)]))])) 0 ⟨[0, 1, 2], ToR.S rfl (by repeat' (first | exact rt_nil | refine rt_t rfl rfl ?_ | refine rt_e rfl rfl ?_ | refine rt_p rfl rfl (by first | (simp [AV.bd, bdL, bdL_append]; done) | fail) ?_)) (by repeat' (first | exact ro_nil | refine ro_p rfl (by first | exact rfl | fail) zq5 ?_)) rfl (by (rw [hm]; exact rfl)) rfl zq4 zq3 (by (rw [hm]; exact nle rfl))⟩ ⟨Nat.zero_le _, fun j hj => by omega⟩ ?_
   rintro i ⟨hi, hall⟩
   by_cases hlt : i < kids.length
   ·have hlb : i < (nth g.rules rule.toNat).body.length := by omega
    have hlo := hrf.lo _ (nth_mem hlb)
    have hx := ih _ (nth_mem hlt) (nth (nth g.rules rule.toNat).body i) (by omega)
    (repeat' (first | apply jA | apply jF | apply jH | apply jI | apply jK | apply jM | apply jN | apply jO | apply jS | (refine wp_cond rfl (fun hc => ?_) (fun hc => ?_) <;> (try simp only [sB, ne_eq, reduceCtorEq] at hc) <;> (try (exfalso; omega))) | (refine rgC 9 ?_; (refine slss rfl rfl ?_); apply jW) | (refine rgC 10 ?_; (refine smove rfl ?_); (refine sidxn rfl rfl (by omega) ?_); (refine sloadw rfl rfl ?_); (refine se_alloc rfl ?_); (refine sassign rfl ?_); (refine se_store_b rfl rfl rfl rfl ?_); apply jW) | (refine wp_draw (id := 11) 9 mixed (by kernel_rfl) (by kernel_rfl) rfl ?_ <;> (refine rd_u rfl rfl (aloadpw rfl rfl rfl rfl) ?_) <;> (refine rfieldp rfl rfl rfl ?_) <;> (refine rloadp rfl rfl rfl rfl ?_) <;> (refine rmove rfl ?_) <;> (refine rd_u rfl rfl (aidxn rfl rfl (by omega)) ?_) <;> (refine rd_u rfl rfl (aloadw rfl rfl) ?_) <;> (refine rd_u rfl rfl (aloadpw rfl rfl rfl rfl) ?_) <;> (refine rd_call rfl rfl zq1 zq5 (hx) ?_) <;> (refine rd_u rfl rfl (anot rfl) ?_) <;> (refine rd_end (by kernel_rfl) ?_)) | (refine rgC 12 ?_; (refine sassign rfl ?_); apply jW) | (refine rgC 13 ?_; (refine sadd rfl rfl (by exact inr_i64_of (by omega)) ?_); (refine smove rfl ?_); apply jW) | refine ret_b rfl ?_))
    ·rw [okTL_noY g hkl hlt hc]
    ·exact ⟨i + 1, ⟨by omega, by omega, fun j hj => by
      by_cases e : j = i
      ·subst e; exact hc
      ·exact hall j (by omega)⟩, ⟨[0, 1, 2], ToR.S rfl (by repeat' (first | exact rt_nil | refine rt_t rfl rfl ?_ | refine rt_e rfl rfl ?_ | refine rt_p rfl rfl (by first | (simp [AV.bd, bdL, bdL_append]; done) | fail) ?_)) (by repeat' (first | exact ro_nil | refine ro_p rfl (by first | exact rfl | fail) zq5 ?_)) rfl (by (rw [hm]; exact rfl)) rfl zq4 zq3 (by (rw [hm]; exact nle rfl))⟩⟩
   ·have e1 : okTL g (nth g.rules rule.toNat).body kids = true := (okTL_iff g _ kids hkl.symm).2 fun j hj => hall j (by omega)
    rw [e1]
    (repeat' (first | apply jA | apply jH | apply jJ | apply jK | apply jL | apply jP | apply jS | (refine wp_cond rfl (fun hc => ?_) (fun hc => ?_) <;> (try simp only [sB, ne_eq, reduceCtorEq] at hc) <;> (try (exfalso; omega))) | (refine rgC 9 ?_; (refine slss rfl rfl ?_); apply jW) | (refine rgC 14 ?_; (refine sassign rfl ?_); apply jW) | exact ret_eq rfl rfl rfl))
def rootT (g : Gram) (t : Tre) : Int := if t.rule = -1 then t.term else -1 - (nth g.rules t.rule.toNat).head
def vT (g : Gram) (t : Tre) : Bool := if t.rule = -1 then decide (0 <= t.term) && decide (t.term < g.terms.length) && decide (t.kids.length = 0) else decide (0 <= t.rule) && decide (t.rule < g.rules.length) && okT g (rootT g t) t
def validT (g : Gram) (t : Tre) : Bool := validG g && vT g t
theorem root_fn {g : Gram} (hv : GVal g) (t : Tre) (h : t.rule = -1 \/ (0 <= t.rule /\ t.rule < g.rules.length)) : Fn Tryd.prog 17 [gramA g, treA t] (intA (rootT g t)) := by
 have hlf := leaf_fn t
 unfold rootT
 rw [treA_kids] at hlf ⊢
 by_cases hr : t.rule = -1
 ·rw [if_pos hr]
  rw [decide_eq_true hr] at hlf
  refine Fn.intro rfl (by kernel_rfl) Tryd.func17 rfl rfl Tryd.ntmps17 (by exact nle rfl) ?_; intro Γ hm
  (repeat' (first | apply jA | apply jH | apply jK | apply jM | apply jS | (refine wp_cond rfl (fun hc => ?_) (fun hc => ?_) <;> (try simp only [sB, ne_eq, reduceCtorEq] at hc) <;> (try (exfalso; omega))) | (refine rgC 0 ?_; (refine se_box rfl (by exact ⟨rfl, rfl⟩) ?_); (refine se_box rfl (by exact ⟨rfl, rfl⟩) ?_); (refine sassign rfl ?_); apply jW) | (refine rgC 1 ?_; (refine sloadpw rfl rfl rfl rfl ?_); (refine sc_p rfl rfl zq1 zq5 (hlf) ?_); apply jW) | (refine rgC 2 ?_; (refine sfieldp rfl rfl rfl ?_); (refine sloadp rfl rfl rfl rfl ?_); (refine sassign rfl ?_); apply jW) | exact ret_eq rfl rfl rfl))
  all_goals ((exfalso; simp at hc; done))
 ·rw [if_neg hr]
  rw [decide_eq_false hr] at hlf
  have hrf := hv.rule _ (nth_mem (show t.rule.toNat < g.rules.length by omega))
  have h0 := hrf.h0
  have h1 := hrf.hn
  have hn2 := hv.n2
  refine Fn.intro rfl (by kernel_rfl) Tryd.func17 rfl rfl Tryd.ntmps17 (by exact nle rfl) ?_; intro Γ hm
  (repeat' (first | apply jA | apply jH | apply jI | apply jK | apply jS | (refine wp_cond rfl (fun hc => ?_) (fun hc => ?_) <;> (try simp only [sB, ne_eq, reduceCtorEq] at hc) <;> (try (exfalso; omega))) | (refine rgC 0 ?_; (refine se_box rfl (by exact ⟨rfl, rfl⟩) ?_); (refine se_box rfl (by exact ⟨rfl, rfl⟩) ?_); (refine sassign rfl ?_); apply jW) | (refine rgC 1 ?_; (refine sloadpw rfl rfl rfl rfl ?_); (refine sc_p rfl rfl zq1 zq5 (hlf) ?_); apply jW) | (refine rgC 3 ?_; (refine sfieldp rfl rfl rfl ?_); (refine sloadp rfl rfl rfl rfl ?_); (refine sfieldp rfl rfl rfl ?_); (refine sloadp rfl rfl rfl rfl ?_); (refine su (aidxz rfl rfl (by omega)) ?_); (refine su (afieldi rfl rfl rfl) ?_); (refine su (aloadi rfl rfl) ?_); (refine su (asub rfl rfl (by exact inr_i64_of (by omega))) ?_); (refine sassign rfl ?_); apply jW) | exact ret_eq rfl rfl rfl))
  all_goals ((exfalso; simp at hc; done))
theorem tvalid_fn (g : Gram) (t : Tre) : Fn Tryd.prog 10 [gramA g, treA t] (boolA (validT g t)) := by
 have hg := gvalid18_fn g
 have hlf := leaf_fn t
 unfold validT
 cases hval : validG g with
 | false =>
  rw [hval] at hg
  rw [treA_kids]
  refine Fn.intro rfl (by kernel_rfl) Tryd.func10 rfl rfl Tryd.ntmps10 (by exact nle rfl) ?_; intro Γ hm
  refine wp_lens 0 rfl fun h0 => ?_
  (repeat' (first | apply jA | apply jH | apply jI | apply jK | apply jM | apply jS | (refine wp_cond rfl (fun hc => ?_) (fun hc => ?_) <;> (try simp only [sB, ne_eq, reduceCtorEq] at hc) <;> (try (exfalso; omega))) | (refine rgC 0 ?_; (refine se_box rfl (by exact ⟨rfl, rfl⟩) ?_); (refine se_box rfl (by exact ⟨rfl, rfl⟩) ?_); (refine sassign rfl ?_); apply jW) | (refine rgC 1 ?_; (refine sloadpw rfl rfl rfl rfl ?_); (refine sc_p rfl rfl zq1 zq5 (gvalid18_fn _) ?_); (refine su (anot rfl) ?_); (refine smove rfl ?_); (refine sg (gq_vf rfl rfl) (fun he => ap_field_p (rq_p rfl rfl) rfl rfl) ?_); (refine sg (gq_vf rfl rfl) (fun he => ap_load_p (rq_c rfl rfl) rfl rfl rfl) ?_); (refine sg (gq_vf rfl rfl) (fun he => ap_field_p (rq_p rfl rfl) rfl rfl) ?_); (refine sg (gq_vf rfl rfl) (fun he => ap_load_p (rq_c rfl rfl) rfl rfl rfl) ?_); (refine sg (gq_vf rfl rfl) (fun he => ap_len_m rfl (rq_c rfl rfl)) ?_); (refine sg (gq_vf rfl rfl) (fun he => ap_geq (rq_c rfl rfl) (rq_c rfl rfl)) ?_); (refine su (ap_or (rq_p rfl rfl) (rq_c rfl rfl)) ?_); (refine smove rfl ?_); (refine sg (gq_vf rfl rfl) (fun he => ap_field_p (rq_p rfl rfl) rfl rfl) ?_); (refine sg (gq_vf rfl rfl) (fun he => ap_load_p (rq_c rfl rfl) rfl rfl rfl) ?_); (refine sg (gq_vf rfl rfl) (fun he => ap_lss (rq_c rfl rfl) (rq_p rfl rfl)) ?_); (refine su (ap_or (rq_p rfl rfl) (rq_c rfl rfl)) ?_); apply jW) | (refine rgC 2 ?_; (refine sassign rfl ?_); apply jW) | exact ret_eq rfl rfl rfl))
  all_goals ((exfalso; simp [hval] at hc; done))
 | true =>
  rw [hval] at hg
  have hv := validG_iff.1 hval
  have hr2 := hv.r2
  have ht2 := hv.terms
  have hn2 := hv.n2
  rw [Bool.true_and]
  by_cases hr : t.rule = -1
  ·rw [decide_eq_true hr] at hlf
   have e : vT g t = (decide (0 <= t.term) && decide (t.term < g.terms.length) && decide (t.kids.length = 0)) := by unfold vT; rw [if_pos hr]
   rw [e]
   rw [treA_kids] at hlf ⊢
   refine Fn.intro rfl (by kernel_rfl) Tryd.func10 rfl rfl Tryd.ntmps10 (by exact nle rfl) ?_; intro Γ hm
   refine wp_lens 1 rfl fun hl => ?_
   have hl : t.kids.length <= 9223372036854775807 := by have := hl; simp [AV.lens, lensL, tresA] at this; omega
   (repeat' (first | apply jA | apply jH | apply jI | apply jK | apply jM | apply jS | (refine wp_cond rfl (fun hc => ?_) (fun hc => ?_) <;> (try simp only [sB, ne_eq, reduceCtorEq] at hc) <;> (try (exfalso; omega))) | (refine rgC 0 ?_; (refine se_box rfl (by exact ⟨rfl, rfl⟩) ?_); (refine se_box rfl (by exact ⟨rfl, rfl⟩) ?_); (refine sassign rfl ?_); apply jW) | (refine rgC 1 ?_; (refine sloadpw rfl rfl rfl rfl ?_); (refine sc_p rfl rfl zq1 zq5 (gvalid18_fn _) ?_); (refine su (anot rfl) ?_); (refine smove rfl ?_); (refine sg (gq_vf rfl rfl) (fun he => ap_field_p (rq_p rfl rfl) rfl rfl) ?_); (refine sg (gq_vf rfl rfl) (fun he => ap_load_p (rq_c rfl rfl) rfl rfl rfl) ?_); (refine sg (gq_vf rfl rfl) (fun he => ap_field_p (rq_p rfl rfl) rfl rfl) ?_); (refine sg (gq_vf rfl rfl) (fun he => ap_load_p (rq_c rfl rfl) rfl rfl rfl) ?_); (refine sg (gq_vf rfl rfl) (fun he => ap_len_m rfl (rq_c rfl rfl)) ?_); (refine sg (gq_vf rfl rfl) (fun he => ap_geq (rq_c rfl rfl) (rq_c rfl rfl)) ?_); (refine su (ap_or (rq_p rfl rfl) (rq_c rfl rfl)) ?_); (refine smove rfl ?_); (refine sg (gq_vf rfl rfl) (fun he => ap_field_p (rq_p rfl rfl) rfl rfl) ?_); (refine sg (gq_vf rfl rfl) (fun he => ap_load_p (rq_c rfl rfl) rfl rfl rfl) ?_); (refine sg (gq_vf rfl rfl) (fun he => ap_lss (rq_c rfl rfl) (rq_p rfl rfl)) ?_); (refine su (ap_or (rq_p rfl rfl) (rq_c rfl rfl)) ?_); apply jW) | (refine rgC 2 ?_; (refine sassign rfl ?_); apply jW) | (refine rgC 3 ?_; (refine sloadpw rfl rfl rfl rfl ?_); (refine sc_p rfl rfl zq1 zq5 (hlf) ?_); apply jW) | (refine rgC 4 ?_; (refine sfieldp rfl rfl rfl ?_); (refine sloadp rfl rfl rfl rfl ?_); (refine su (ageq rfl rfl) ?_); (refine smove rfl ?_); (refine sg (gq_vt rfl rfl) (fun he => ap_field_p (rq_p rfl rfl) rfl rfl) ?_); (refine sg (gq_vt rfl rfl) (fun he => ap_load_p (rq_c rfl rfl) rfl rfl rfl) ?_); (refine sg (gq_vt rfl rfl) (fun he => ap_field_p (rq_p rfl rfl) rfl rfl) ?_); (refine sg (gq_vt rfl rfl) (fun he => ap_load_p (rq_c rfl rfl) rfl rfl rfl) ?_); (refine sg (gq_vt rfl rfl) (fun he => ap_len_m rfl (rq_c rfl rfl)) ?_); (refine sg (gq_vt rfl rfl) (fun he => ap_lss (rq_c rfl rfl) (rq_c rfl rfl)) ?_); (refine su (ap_and (rq_p rfl rfl) (rq_c rfl rfl)) ?_); (refine smove rfl ?_); (refine sg (gq_vt rfl rfl) (fun he => ap_field_p (rq_p rfl rfl) rfl rfl) ?_); (refine sg (gq_vt rfl rfl) (fun he => ap_load_p (rq_c rfl rfl) rfl rfl rfl) ?_); (refine sg (gq_vt rfl rfl) (fun he => ap_len_m rfl (rq_c rfl rfl)) ?_); (refine sg (gq_vt rfl rfl) (fun he => ap_eql (rq_c rfl rfl) (rq_p rfl rfl)) ?_); (refine su (ap_and (rq_p rfl rfl) (rq_c rfl rfl)) ?_); (refine sassign rfl ?_); apply jW) | refine ret_b rfl ?_))
   all_goals (first | (exfalso; grind) | (rw [Bool.eq_iff_iff]; simp only [Bool.and_eq_true, decide_eq_true_eq]; omega))
  ·rw [decide_eq_false hr] at hlf
   have e : vT g t = (decide (0 <= t.rule) && decide (t.rule < g.rules.length) && okT g (rootT g t) t) := by unfold vT; rw [if_neg hr]
   rw [e]
   by_cases hin : 0 <= t.rule /\ t.rule < g.rules.length
   ·have hrt := root_fn hv t (.inr hin)
    have hrf := hv.rule _ (nth_mem (show t.rule.toNat < g.rules.length by omega))
    have hft := fits_fn hv t (rootT g t) (by have := hrf.hn; unfold rootT; rw [if_neg hr]; omega)
    rw [decide_eq_true hin.1, decide_eq_true hin.2, Bool.true_and, Bool.true_and]
    rw [treA_kids] at hlf hrt hft ⊢
    refine Fn.intro rfl (by kernel_rfl) Tryd.func10 rfl rfl Tryd.ntmps10 (by exact nle rfl) ?_; intro Γ hm
    (repeat' (first | apply jA | apply jH | apply jI | apply jK | apply jM | apply jS | (refine wp_cond rfl (fun hc => ?_) (fun hc => ?_) <;> (try simp only [sB, ne_eq, reduceCtorEq] at hc) <;> (try (exfalso; omega))) | (refine rgC 0 ?_; (refine se_box rfl (by exact ⟨rfl, rfl⟩) ?_); (refine se_box rfl (by exact ⟨rfl, rfl⟩) ?_); (refine sassign rfl ?_); apply jW) | (refine rgC 1 ?_; (refine sloadpw rfl rfl rfl rfl ?_); (refine sc_p rfl rfl zq1 zq5 (gvalid18_fn _) ?_); (refine su (anot rfl) ?_); (refine smove rfl ?_); (refine sg (gq_vf rfl rfl) (fun he => ap_field_p (rq_p rfl rfl) rfl rfl) ?_); (refine sg (gq_vf rfl rfl) (fun he => ap_load_p (rq_c rfl rfl) rfl rfl rfl) ?_); (refine sg (gq_vf rfl rfl) (fun he => ap_field_p (rq_p rfl rfl) rfl rfl) ?_); (refine sg (gq_vf rfl rfl) (fun he => ap_load_p (rq_c rfl rfl) rfl rfl rfl) ?_); (refine sg (gq_vf rfl rfl) (fun he => ap_len_m rfl (rq_c rfl rfl)) ?_); (refine sg (gq_vf rfl rfl) (fun he => ap_geq (rq_c rfl rfl) (rq_c rfl rfl)) ?_); (refine su (ap_or (rq_p rfl rfl) (rq_c rfl rfl)) ?_); (refine smove rfl ?_); (refine sg (gq_vf rfl rfl) (fun he => ap_field_p (rq_p rfl rfl) rfl rfl) ?_); (refine sg (gq_vf rfl rfl) (fun he => ap_load_p (rq_c rfl rfl) rfl rfl rfl) ?_); (refine sg (gq_vf rfl rfl) (fun he => ap_lss (rq_c rfl rfl) (rq_p rfl rfl)) ?_); (refine su (ap_or (rq_p rfl rfl) (rq_c rfl rfl)) ?_); apply jW) | (refine rgC 2 ?_; (refine sassign rfl ?_); apply jW) | (refine rgC 3 ?_; (refine sloadpw rfl rfl rfl rfl ?_); (refine sc_p rfl rfl zq1 zq5 (hlf) ?_); apply jW) | (refine wp_draw (id := 5) 7 mixed (by kernel_rfl) (by kernel_rfl) rfl ?_ <;> (refine rd_u rfl rfl (aloadpw rfl rfl rfl rfl) ?_) <;> (refine rd_u rfl rfl (aloadpw rfl rfl rfl rfl) ?_) <;> (refine rd_u rfl rfl (aloadpw rfl rfl rfl rfl) ?_) <;> (refine rd_call rfl rfl zq1 zq5 (hrt) ?_) <;> (refine rd_u rfl rfl (aloadpw rfl rfl rfl rfl) ?_) <;> (refine rd_call rfl rfl zq1 zq5 (hft) ?_) <;> (refine rd_u rfl rfl (aassign rfl) ?_) <;> (refine rd_end (by kernel_rfl) ?_)) | exact ret_eq rfl rfl rfl | refine ret_b rfl ?_))
    all_goals ((exfalso; grind))
   ·have e2 : (decide (0 <= t.rule) && decide (t.rule < g.rules.length) && okT g (rootT g t) t) = false := by
     rw [Bool.eq_false_iff]
     simp only [ne_eq, Bool.and_eq_true, decide_eq_true_eq]
     exact fun h => hin h.1
    rw [e2]
    rw [treA_kids] at hlf ⊢
    refine Fn.intro rfl (by kernel_rfl) Tryd.func10 rfl rfl Tryd.ntmps10 (by exact nle rfl) ?_; intro Γ hm
    (repeat' (first | apply jA | apply jH | apply jK | apply jM | apply jS | (refine wp_cond rfl (fun hc => ?_) (fun hc => ?_) <;> (try simp only [sB, ne_eq, reduceCtorEq] at hc) <;> (try (exfalso; omega))) | (refine rgC 0 ?_; (refine se_box rfl (by exact ⟨rfl, rfl⟩) ?_); (refine se_box rfl (by exact ⟨rfl, rfl⟩) ?_); (refine sassign rfl ?_); apply jW) | (refine rgC 1 ?_; (refine sloadpw rfl rfl rfl rfl ?_); (refine sc_p rfl rfl zq1 zq5 (gvalid18_fn _) ?_); (refine su (anot rfl) ?_); (refine smove rfl ?_); (refine sg (gq_vf rfl rfl) (fun he => ap_field_p (rq_p rfl rfl) rfl rfl) ?_); (refine sg (gq_vf rfl rfl) (fun he => ap_load_p (rq_c rfl rfl) rfl rfl rfl) ?_); (refine sg (gq_vf rfl rfl) (fun he => ap_field_p (rq_p rfl rfl) rfl rfl) ?_); (refine sg (gq_vf rfl rfl) (fun he => ap_load_p (rq_c rfl rfl) rfl rfl rfl) ?_); (refine sg (gq_vf rfl rfl) (fun he => ap_len_m rfl (rq_c rfl rfl)) ?_); (refine sg (gq_vf rfl rfl) (fun he => ap_geq (rq_c rfl rfl) (rq_c rfl rfl)) ?_); (refine su (ap_or (rq_p rfl rfl) (rq_c rfl rfl)) ?_); (refine smove rfl ?_); (refine sg (gq_vf rfl rfl) (fun he => ap_field_p (rq_p rfl rfl) rfl rfl) ?_); (refine sg (gq_vf rfl rfl) (fun he => ap_load_p (rq_c rfl rfl) rfl rfl rfl) ?_); (refine sg (gq_vf rfl rfl) (fun he => ap_lss (rq_c rfl rfl) (rq_p rfl rfl)) ?_); (refine su (ap_or (rq_p rfl rfl) (rq_c rfl rfl)) ?_); apply jW) | (refine rgC 2 ?_; (refine sassign rfl ?_); apply jW) | exact ret_eq rfl rfl rfl))
    all_goals ((exfalso; grind))
end Go.Lg
namespace Go.Lg
open Go.RowKit Go.Lib Go.Proofs
theorem SR.val_out {Γ : Cx} {ρ : Nat -> Option Nat} {A : Nat -> Prop} {args : List AV} {us : Array Value} {w' : World} (h : SRa Γ A ρ ⟨args, []⟩ ⟨us, []⟩ Γ.w0) (hA : ∀ id, A id -> id < 0) (hb : Below Γ.w0.heap.size Γ.w0 w') {v : Value} (hat : atom v = true) : SR Γ ⟨[.val v], []⟩ ⟨#[v], []⟩ w' := by
 refine ⟨ρ, fun i hi => absurd (hA i (h.ext i hi).1) (Nat.not_lt_zero i), rfl, fun i x u hx hu => ?_, fun id o hl => by simp [St.live] at hl, fun id o hl => by simp [St.live] at hl, fun id hid => hid, fun id o b hl => by simp [St.live] at hl, fun i j o o' b hl => by simp [St.live] at hl, h.defers.none, h.fr.below hb⟩
 match i with
 | 0 => simp at hx hu; subst hx hu; exact .val hat
 | i + 1 => simp at hx
theorem tab_is {w : World} (hw : GW w) : Lib.TabIs Tryd.prog w "internal/strconv.uint64pow10" .u64 Lib.pow10Tab := by
 have hp : ∃ p, p ∈ gtabs ∧ p.2 = (.u64, Lib.pow10Tab) ∧ Tryd.prog.globalNamed "internal/strconv.uint64pow10" = some p.1 := by
  refine ⟨gtabs.getD 2 (0, .u64, []), ?_, by decide +kernel, by kernel_rfl⟩
  simp [gtabs]
 obtain ⟨⟨i, k, zs⟩, hp1, hp2, hp3⟩ := hp
 obtain ⟨t, z, hh⟩ := hw.2 _ hp1
 simp only [Prod.mk.injEq] at hp2
 obtain ⟨rfl, rfl⟩ := hp2
 unfold Lib.TabIs World.var?
 rw [hp3]
 simp only [Option.bind_some, hh]
theorem itoa_fn (n : Int) (h0 : -9223372036854775808 <= n) (h1 : n <= 9223372036854775807) : Fn Tryd.prog 54 [intA n] (strA ⟨(Lib.itoa n).toArray⟩) := by
 refine ⟨⟨by kernel_rfl, fun Γ us _ hs => ?_⟩, rfl⟩
 obtain ⟨ρ, hs⟩ := hs
 have hl : us.size = 1 := hs.len
 obtain ⟨v, rfl⟩ : ∃ v, us = #[v] := ⟨us[0], by apply Array.ext (by simpa using hl); intro i h1 h2; simp at h2; subst h2; rfl⟩
 have hv : v = .int .i64 n := (hs.tmp 0 _ v rfl rfl).val_eq
 subst hv
 refine (Tryd.strconv_Itoa n h0 h1 Γ.w0 (tab_is Γ.hG)).mono ?_
 rintro e w' ⟨rfl, k, os, rfl⟩
 refine ⟨_, [], _, rfl, ⟨rfl, rfl⟩, SR.val_out hs (fun _ h => h) ?_ rfl⟩
 refine ⟨rfl, rfl, rfl, ?_, fun b hb => ?_⟩
 ·show Γ.w0.heap.size <= (Γ.w0.heap ++ os).size
  simp
 ·show (Γ.w0.heap ++ os)[b]? = Γ.w0.heap[b]?
  rw [Array.getElem?_append_left hb]
end Go.Lg
namespace Go.Lg
open Go.Proofs
attribute [local irreducible] Ap Rq asemC WP RunD Ret Gq thenA inBlockA bodyQ noGotoA RqL RqP OpP
def idxI (l : List Int) (v : Int) : Int := indexP (fun x => decide (v = x)) l
theorem indexI_fn (l : List Int) (v : Int) : Fn Tryd.prog 55 [intsA l, intA v] (intA (idxI l v)) := by
 refine Fn.intro rfl (by kernel_rfl) Tryd.func55 rfl rfl Tryd.ntmps55 (by exact nle rfl) ?_; intro Γ hm
 refine wp_lens 0 rfl fun h0 => ?_
 have h0 : l.length <= 9223372036854775807 := by have := h0; simp [AV.lens, intsA] at this; omega
 (repeat' (first | apply jA | apply jF | apply jH | (refine rgC 0 ?_; (refine sassign rfl ?_); apply jW) | (refine rgC 1 ?_; (refine smove rfl ?_); (refine slenm rfl rfl ?_); (refine smove rfl ?_); apply jW)))
 refine wp_loop (fun k => k <= l.length /\ (l.take k).any (fun x => decide (v = x)) = false) (fun k => l.length - k) (fun k => (S 19 [(0, intsA l), (1, intA v), (7, intA (l.length : Nat)), (8, intA (k : Nat))] 0 [])) 0 ⟨[], ToR.S rfl (by repeat' (first | exact rt_nil | refine rt_e rfl rfl ?_ | refine rt_p rfl rfl (by first | (simp [AV.bd, bdL, bdL_append]; done) | fail) ?_)) (by repeat' (exact ro_nil)) rfl (by (rw [hm]; exact rfl)) rfl zq4 (by repeat' (exact True.intro)) (by (rw [hm]; exact nle rfl))⟩ ⟨Nat.zero_le _, rfl⟩ ?_
 rintro k ⟨hk, hall⟩
 (repeat' (first | apply jA | apply jF | apply jH | apply jI | apply jJ | apply jK | apply jL | apply jM | apply jN | apply jO | apply jP | apply jS | (refine wp_cond rfl (fun hc => ?_) (fun hc => ?_) <;> (try simp only [sB, ne_eq, reduceCtorEq] at hc) <;> (try (exfalso; omega))) | (refine rgC 2 ?_; (refine slss rfl rfl ?_); apply jW) | (refine WP.regionC ?_; (refine smove rfl ?_); (refine sassign rfl ?_); apply jW) | (refine rgC 4 ?_; (refine smove rfl ?_); (refine smove rfl ?_); (refine smove rfl ?_); (refine sidxn rfl rfl (by omega) ?_); (refine sloadw rfl rfl ?_); (refine seql rfl rfl ?_); apply jW) | (refine rgC 6 ?_; (refine sadd rfl rfl (by exact inr_i64_of (by omega)) ?_); (refine smove rfl ?_); apply jW) | (refine rgC 7 ?_; (refine sassign rfl ?_); apply jW) | refine ret_i rfl ?_))
 ·exact (indexP_at (by omega) hall (by simp [hc])).symm
 ·exact ⟨k + 1, ⟨by omega, by omega, take_any_succ (by omega) hall (by simp [hc])⟩, ⟨[], ToR.S rfl (by repeat' (first | exact rt_nil | refine rt_e rfl rfl ?_ | refine rt_p rfl rfl (by first | (simp [AV.bd, bdL, bdL_append]; done) | fail) ?_)) (by repeat' (exact ro_nil)) rfl (by (rw [hm]; exact rfl)) rfl zq4 (by repeat' (exact True.intro)) (by (rw [hm]; exact nle rfl))⟩⟩
 ·exact (indexP_no (by omega) hall).symm
theorem rulesOf_at {g : Gram} {h : Int} {i : Nat} (hh : (nth g.rules i).head = h) : ∀ n, i < n -> ∃ R, rulesOf g h n = rulesOf g h i ++ (i : Int) :: R
  | 0, hn => by omega
  | n + 1, hn => by
    rcases Nat.lt_or_ge i n with h1 | h1
    · obtain ⟨R, hR⟩ := rulesOf_at hh n h1
      by_cases hk : (nth g.rules n).head = h
      · exact ⟨R ++ [(n : Int)], by rw [rulesOf_yes hk, hR, List.append_assoc]; rfl⟩
      · exact ⟨R, by rw [rulesOf_no hk, hR]⟩
    · obtain rfl : n = i := by omega
      exact ⟨[], by rw [rulesOf_yes hh]⟩
theorem rulesOf_cnt (g : Gram) (i : Nat) : (rulesOf g (nth g.rules i).head i).length = cntT g i := by
 unfold rulesOf cntT; rw [List.length_map]
theorem rulesOf_lt {g : Gram} {h : Int} {k : Nat} {x : Int} (hx : x ∈ rulesOf g h k) : x < k := by
 simp only [rulesOf, List.mem_map, List.mem_filter, List.mem_range] at hx
 obtain ⟨i, hi, rfl⟩ := hx
 omega
theorem idx_rule (g : Gram) {i n : Nat} (hi : i < n) : idxI (rulesOf g (nth g.rules i).head n) i = (cntT g i : Nat) := by
 obtain ⟨R, hR⟩ := rulesOf_at (g := g) (h := (nth g.rules i).head) rfl n hi
 rw [hR, <- rulesOf_cnt]
 refine indexP_is (by simp) ?_ fun j hj => ?_
 ·rw [nth_app2 (Nat.le_refl _), Nat.sub_self]
  simp [nth]
 ·rw [nth_app1 hj]
  have := rulesOf_lt (nth_mem hj)
  exact decide_eq_false (by omega)
theorem cntT_le (g : Gram) (i : Nat) : cntT g i <= i := by
 unfold cntT
 have := List.length_filter_le (fun k => decide ((nth g.rules k).head = (nth g.rules i).head)) (List.range i)
 simpa using this
theorem label_len (g : Gram) (i : Nat) (hn : (bl (nth g.nonterms (nth g.rules i).head.toNat)).length <= 48) (hi : i <= 1000) : (labelT g i).length <= 70 := by
 have h := cntT_le g i
 have := Lib.itoa_length_le (cntT g i : Int) (by omega) (by omega)
 simp only [labelT, List.length_append, List.length_cons]
 omega
theorem label_fn {g : Gram} (hv : GVal g) (i : Nat) (hi : i < g.rules.length) (hn : (bl (nth g.nonterms (nth g.rules i).head.toNat)).length <= 48) : Fn Tryd.prog 38 [gramA g, intA (i : Nat)] (strA (tx (labelT g i))) := by
 have hrf := hv.rule _ (nth_mem hi)
 have hh0 := hrf.h0
 have hh1 := hrf.hn
 have hr2 := hv.r2
 have hr := grulesOf_fn g (nth g.rules i).head (by omega)
 have hx := indexI_fn (rulesOf g (nth g.rules i).head g.rules.length) (i : Nat)
 rw [idx_rule g hi] at hx
 have hc := cntT_le g i
 have hit := itoa_fn (cntT g i : Nat) (by omega) (by omega)
 have hil := Lib.itoa_length_le (cntT g i : Int) (by omega) (by omega)
 rw [bl_len] at hn
 have e : tx (labelT g i) = nth g.nonterms (nth g.rules i).head.toNat ++ ⟨#[58]⟩ ++ ⟨(Lib.itoa (cntT g i : Nat)).toArray⟩ := by
  apply bl_injY
  rw [bl_tx, bl_app, bl_app, labelT, List.append_assoc]
  rfl
 rw [e]
 refine Fn.intro rfl (by kernel_rfl) Tryd.func38 rfl rfl Tryd.ntmps38 (by exact nle rfl) ?_; intro Γ hm
 (repeat' (first | apply jA | apply jH | apply jK | apply jS | (refine rgC 0 ?_; (refine se_box rfl (by exact ⟨rfl, rfl⟩) ?_); (refine sassign rfl ?_); apply jW) | (refine rgC 1 ?_; (refine sfieldp rfl rfl rfl ?_); (refine sloadp rfl rfl rfl rfl ?_); (refine smove rfl ?_); (refine sidxn rfl rfl (by omega) ?_); (refine su (afieldi rfl rfl rfl) ?_); (refine su (aloadi rfl rfl) ?_); (refine sassign rfl ?_); apply jW) | (refine wp_draw (id := 2) 14 mixed (by kernel_rfl) (by kernel_rfl) rfl ?_ <;> (refine rfieldp rfl rfl rfl ?_) <;> (refine rloadp rfl rfl rfl rfl ?_) <;> (refine rmove rfl ?_) <;> (refine rd_u rfl rfl (aidxz rfl rfl (by omega)) ?_) <;> (refine rd_u rfl rfl (aloadw rfl rfl) ?_) <;> (refine rd_u rfl rfl (acat rfl rfl (by (simp only [bsz, sZ] <;> omega))) ?_) <;> (refine rd_u rfl rfl (aloadpw rfl rfl rfl rfl) ?_) <;> (refine rmove rfl ?_) <;> (refine rd_call rfl rfl zq1 zq5 (grulesOf_fn _ _ (by omega)) ?_) <;> (refine rmove rfl ?_) <;> (refine rd_call rfl rfl zq1 zq5 (hx) ?_) <;> (refine rd_call rfl rfl zq1 zq5 (itoa_fn _ (by omega) (by omega)) ?_) <;> (refine rd_u rfl rfl (acat rfl rfl (by (simp only [bsz, sZ] <;> omega))) ?_) <;> (refine rd_u rfl rfl (aassign rfl) ?_) <;> (refine rd_end (by kernel_rfl) ?_)) | exact ret_eq rfl rfl rfl))
attribute [local simp] AV.cells rdT
theorem useful_fn {g : Gram} (hv : GVal g) (s : ByteArray) (a : Int) (pr : List Bool) (hpr : pr.length = g.nonterms.length) (i : Nat) (hi : i < g.rules.length) : FnO Tryd.prog 64 [.ptr 0 7 0 0, intA (i : Nat)] [rdT g s a pr] (boolA (useT g pr i)) [some (rdT g s a pr)] := by
 have hrf := hv.rule _ (nth_mem hi)
 have hlo := hrf.lo
 have hln := hrf.len
 have hr2 := hv.r2
 have hn2 := hv.n2
 unfold rdT useT
 refine FnO.intro (by exact nle rfl) rfl (by kernel_rfl) Tryd.func64 rfl rfl Tryd.ntmps64 (by exact nle rfl) ?_; intro Γ hm
 (repeat' (first | apply jA | apply jF | apply jH | (refine rgC 0 ?_; (refine sassign rfl ?_); apply jW) | (refine rgC 1 ?_; (refine smove rfl ?_); (refine snilc rfl ?_); (refine sfieldp rfl rfl rfl ?_); (refine sfieldp rfl rfl rfl ?_); (refine sloadp rfl rfl rfl rfl ?_); (refine smove rfl ?_); (refine sidxn rfl rfl (by omega) ?_); (refine su (afieldi rfl rfl rfl) ?_); (refine su (aloadi rfl rfl) ?_); (refine slenm rfl rfl ?_); (refine smove rfl ?_); apply jW)))
 refine wp_loop (fun (k : Nat) => k <= (nth g.rules i).body.length /\ ∀ j, j < k -> okSym pr (nth (nth g.rules i).body j) = true) (fun k => (nth g.rules i).body.length - k)
  (fun k => (S 35 [(0, .ptr 0 7 0 0), (15, intsA (nth g.rules i).body), (16, intA ((nth g.rules i).body.length : Nat)), (17, intA (k : Nat))] 1 [(0, some (.arr 7 [.agg [strsA g.terms, strsA g.nonterms, intA g.start, rulesA g.rules, strA s, intA a, boolsA pr]]))])) 0 ⟨[0], ToR.S rfl (by repeat' (first | exact rt_nil | refine rt_t rfl rfl ?_ | refine rt_e rfl rfl ?_ | refine rt_p rfl rfl (by first | (simp [AV.bd, bdL, bdL_append]; done) | fail) ?_)) (by repeat' (first | exact ro_nil | refine ro_p rfl (by first | exact rfl | fail) zq5 ?_)) rfl (by (rw [hm]; exact rfl)) rfl zq4 zq3 (by (rw [hm]; exact nle rfl))⟩ ⟨Nat.zero_le _, by omega⟩ ?_
 rintro k ⟨hk, hall⟩
 by_cases hlt : k < (nth g.rules i).body.length
 ·have hx := hlo _ (nth_mem hlt)
  have hok : okSym pr (nth (nth g.rules i).body k) = (decide (0 <= nth (nth g.rules i).body k) || nth pr (-1 - nth (nth g.rules i).body k).toNat) := rfl
  have hno : okSym pr (nth (nth g.rules i).body k) = false -> (nth g.rules i).body.all (okSym pr) = false := fun h => by
   rw [Bool.eq_false_iff]
   intro h2
   rw [List.all_eq_true.1 h2 _ (nth_mem hlt)] at h
   cases h
  (repeat' (first | apply jA | apply jF | apply jH | apply jI | apply jK | apply jM | apply jN | apply jO | apply jS | (refine wp_cond rfl (fun hc => ?_) (fun hc => ?_) <;> (try simp only [sB, ne_eq, reduceCtorEq] at hc) <;> (try (exfalso; omega))) | (refine rgC 2 ?_; (refine slss rfl rfl ?_); apply jW) | (refine rgC 3 ?_; (refine sidxn rfl rfl (by omega) ?_); (refine sloadw rfl rfl ?_); (refine sassign rfl ?_); apply jW) | (refine rgC 4 ?_; (refine smove rfl ?_); (refine slss rfl rfl ?_); (refine smove rfl ?_); (refine sg (gq_vt rfl rfl) (fun he => ap_move (rq_p rfl rfl)) ?_); (refine sg (gq_vt rfl rfl) (fun he => ap_nilc (rq_c rfl rfl)) ?_); (refine sg (gq_vt rfl rfl) (fun he => ap_field_p (rq_c rfl rfl) rfl rfl) ?_); (refine sg (gq_vt rfl rfl) (fun he => ap_load_p (rq_c rfl rfl) rfl rfl rfl) ?_); (refine sg (gq_vt rfl rfl) (fun he => ap_move (rq_p rfl rfl)) ?_); (refine sg (gq_vt rfl rfl) (fun he => ap_sub (rq_p rfl rfl) (rq_c rfl rfl) (by (try simp only [sH, id, sB, ne_eq, reduceCtorEq] at he); exact inr_i64_of (by omega))) ?_); (refine sg (gq_vt rfl rfl) (fun he => ap_idx_z (rq_c rfl rfl) (rq_c rfl rfl) (by (try simp only [sH, id, sB, ne_eq, reduceCtorEq] at he); omega)) ?_); (refine sg (gq_vt rfl rfl) (fun he => ap_load_w (rq_c rfl rfl) rfl) ?_); (refine sg (gq_vt rfl rfl) (fun he => ap_not (rq_c rfl rfl)) ?_); (refine su (ap_and (rq_p rfl rfl) (rq_c rfl rfl)) ?_); apply jW) | (refine rgC 5 ?_; (refine sassign rfl ?_); apply jW) | (refine rgC 6 ?_; (refine sadd rfl rfl (by exact inr_i64_of (by omega)) ?_); (refine smove rfl ?_); apply jW)))
  ·rw [hno (by rw [hok, hc.2, decide_eq_false (by omega)]; rfl)]
   refine retO_L (x := boolA false) (k := 1) (os1 := [(0, some (.arr 7 [.agg [strsA g.terms, strsA g.nonterms, intA g.start, rulesA g.rules, strA s, intA a, boolsA pr]]))]) (.tmp rfl .nil) rfl ⟨[0], ToR.S rfl (by repeat' (first | exact rt_nil | refine rt_e rfl rfl ?_)) (by repeat' (first | exact ro_nil | refine ro_p rfl (by first | exact rfl | fail) zq5 ?_)) rfl rfl rfl zq4 zq3 (by exact nle rfl)⟩ rfl
  ·have hyes : okSym pr (nth (nth g.rules i).body k) = true := by
    rw [hok]
    rcases hc with hc | hc
    ·rw [decide_eq_true (by omega)]; rfl
    ·rw [hc, Bool.or_true]
   exact ⟨k + 1, ⟨by omega, by omega, fun j hj => by
    by_cases e : j = k
    ·subst e; exact hyes
    ·exact hall j (by omega)⟩, ⟨[0], ToR.S rfl (by repeat' (first | exact rt_nil | refine rt_t rfl rfl ?_ | refine rt_e rfl rfl ?_ | refine rt_p rfl rfl (by first | (simp [AV.bd, bdL, bdL_append]; done) | fail) ?_)) (by repeat' (first | exact ro_nil | refine ro_p rfl (by first | exact rfl | fail) zq5 ?_)) rfl (by (rw [hm]; exact rfl)) rfl zq4 zq3 (by (rw [hm]; exact nle rfl))⟩⟩
 ·have e : (nth g.rules i).body.all (okSym pr) = true := by
   rw [List.all_eq_true]
   intro x hx
   obtain ⟨j, hj, rfl⟩ := List.getElem_of_mem hx
   have := hall j (by omega)
   rwa [nth_eq hj] at this
  rw [e]
  (repeat' (first | apply jA | apply jH | apply jJ | apply jK | apply jL | apply jP | apply jS | (refine wp_cond rfl (fun hc => ?_) (fun hc => ?_) <;> (try simp only [sB, ne_eq, reduceCtorEq] at hc) <;> (try (exfalso; omega))) | (refine rgC 2 ?_; (refine slss rfl rfl ?_); apply jW) | (refine rgC 7 ?_; (refine sassign rfl ?_); apply jW)))
  refine retO_L (x := boolA true) (k := 1) (os1 := [(0, some (.arr 7 [.agg [strsA g.terms, strsA g.nonterms, intA g.start, rulesA g.rules, strA s, intA a, boolsA pr]]))]) (.tmp rfl .nil) rfl ⟨[0], ToR.S rfl (by repeat' (first | exact rt_nil | refine rt_e rfl rfl ?_)) (by repeat' (first | exact ro_nil | refine ro_p rfl (by first | exact rfl | fail) zq5 ?_)) rfl rfl rfl zq4 zq3 (by exact nle rfl)⟩ rfl
theorem chR_succ (g : Gram) (pr : List Bool) (head : Int) (k : Nat) : chR g pr head (k + 1) = chR g pr head k ++ (if (decide (head = -1) || decide ((nth g.rules k).head = head)) && useT g pr k then [chT g k] else []) := by
 unfold chR
 rw [List.range_succ, List.filter_append, List.map_append]
 simp only [List.filter_cons, List.filter_nil]
 split <;> rfl
theorem chR_len (g : Gram) (pr : List Bool) (head : Int) (k : Nat) : (chR g pr head k).length <= k := by
 unfold chR
 rw [List.length_map]
 have := List.length_filter_le (fun i => (decide (head = -1) || decide ((nth g.rules i).head = head)) && useT g pr i) (List.range k)
 simpa using this
end Go.Lg
namespace Go.Lg
open Go.Proofs
attribute [local irreducible] Ap Rq asemC WP RunD Ret Gq thenA inBlockA bodyQ noGotoA RqL RqP OpP
attribute [local simp] AV.cells rdT
def choS (t : ByteArray) (k : Nat) : AV := .agg [strA t, intA k, intA 0, .val (.slice none 0 0)]
@[simp] theorem bd_choS (n : Nat) (t : ByteArray) (k : Nat) : (choS t k).bd n = true := by simp [choS, AV.bd, bdL]
theorem rules_fn {g : Gram} (hv : GVal g) (hnm : ∀ x, x ∈ g.nonterms -> x.size <= 48) (s : ByteArray) (a : Int) (pr : List Bool) (hpr : pr.length = g.nonterms.length) (head : Int) (hh : -1 <= head) (hh1 : head <= 1000000) : FnO Tryd.prog 53 [.ptr 0 7 0 0, intA head] [rdT g s a pr] (chsA (chR g pr head g.rules.length)) [some (rdT g s a pr)] := by
 have hr2 := hv.r2
 have hlab := fun (i : Nat) (hi : i < g.rules.length) => label_fn hv i hi (by
  have hrf := hv.rule _ (nth_mem hi)
  rw [bl_len]
  have := hrf.h0
  have := hrf.hn
  exact hnm _ (nth_mem (by omega)))
 have hlen := fun (i : Nat) (hi : i < g.rules.length) => label_len g i (by
  have hrf := hv.rule _ (nth_mem hi)
  rw [bl_len]
  have := hrf.h0
  have := hrf.hn
  exact hnm _ (nth_mem (by omega))) (by omega)
 have huse := fun (i : Nat) (hi : i < g.rules.length) => useful_fn hv s a pr hpr i hi
 unfold rdT at *
 unfold chsA
 refine FnO.intro (by exact nle rfl) (by simp [AV.bd, bdL, bdL_append]) (by kernel_rfl) Tryd.func53 rfl rfl Tryd.ntmps53 (by exact nle rfl) ?_; intro Γ hm
 (repeat' (first | apply jA | apply jF | apply jH | (refine WP.regionC ?_; (refine sassign rfl ?_); apply jW) | (refine rgC 2 ?_; (refine smove rfl ?_); (refine snilc rfl ?_); (refine sfieldp rfl rfl rfl ?_); (refine sfieldp rfl rfl rfl ?_); (refine sloadp rfl rfl rfl rfl ?_); (refine slenm rfl rfl ?_); (refine smove rfl ?_); apply jW)))
 refine wp_nil 5 4 rfl ?_
 refine wp_loop (fun (k : Nat) => k <= g.rules.length) (fun k => g.rules.length - k)
  (fun k => (S 54 [(0, .ptr 0 7 0 0), (1, intA head), (5, .ref 1 4 0 (chR g pr head k).length), (13, rulesA g.rules), (14, intA (g.rules.length : Nat)), (15, intA (k : Nat))] 2 [(0, some (.arr 7 [.agg [strsA g.terms, strsA g.nonterms, intA g.start, rulesA g.rules, strA s, intA a, boolsA pr]])), (1, some (.arr 4 ((chR g pr head k).map choA)))])) 0 ⟨[0, 1], ToR.S rfl (by repeat' (first | exact rt_nil | refine rt_r rfl rfl ?_ | refine rt_t rfl rfl ?_ | refine rt_e rfl rfl ?_ | refine rt_p rfl rfl (by first | (simp [AV.bd, bdL, bdL_append]; done) | fail) ?_)) (by repeat' (first | exact ro_nil | refine ro_e rfl rfl ?_ | refine ro_p rfl (by first | exact rfl | fail) zq5 ?_)) rfl (by (rw [hm]; exact rfl)) rfl zq4 (by repeat' (first | exact True.intro | exact rfl | refine And.intro ?_ ?_ | (simp [bdOq, bdL, bdL_append, AV.bd]; done))) (by (rw [hm]; exact nle rfl))⟩ (Nat.zero_le _) ?_
 intro k hk
 have hcl := chR_len g pr head k
 by_cases hlt : k < g.rules.length
 ·have h1 := hlab k hlt
  have h2 := huse k hlt
  have h3 := hlen k hlt
  have h4 := tx_len (labelT g k)
  have hsc := chR_succ g pr head k
  have hrf := hv.rule _ (nth_mem hlt)
  have hbl := hrf.len
  by_cases hC : ((decide (head = -1) || decide ((nth g.rules k).head = head)) && useT g pr k) = true
  ·rw [if_pos hC] at hsc
   simp only [Bool.and_eq_true, Bool.or_eq_true, decide_eq_true_eq] at hC
   obtain ⟨hC1, hC2⟩ := hC
   rw [hC2] at h2
   by_cases hb : (nth g.rules k).body.length = 0
   ·have hmap : (chR g pr head k ++ [chT g k]).map choA = (chR g pr head k).map choA ++ [choS (⟨#[40]⟩ ++ tx (labelT g k) ++ ⟨#[41]⟩) k] := by
     rw [List.map_append]
     have he : (nth g.rules k).body.isEmpty = true := by simpa using List.eq_nil_of_length_eq_zero hb
     have : choA (chT g k) = choS (⟨#[40]⟩ ++ tx (labelT g k) ++ ⟨#[41]⟩) k := by
      unfold choA chT choS
      rw [he]
      simp only [folT, if_true, Tre.rule, Tre.term, Tre.kids]
      have : tx (40 :: (labelT g k ++ [41])) = ⟨#[40]⟩ ++ tx (labelT g k) ++ ⟨#[41]⟩ := by apply bl_injY; rw [bl_tx, bl_app, bl_app, bl_tx]; rfl
      rw [this]
     rw [List.map_singleton, this]
    have hml : (chR g pr head k ++ [chT g k]).length = ((chR g pr head k).map choA ++ [choS (⟨#[40]⟩ ++ tx (labelT g k) ++ ⟨#[41]⟩) k]).length := by rw [<- hmap, List.length_map]
    (repeat' (first | apply jA | apply jF | apply jH | apply jI | apply jN | (refine wp_cond rfl (fun hc => ?_) (fun hc => ?_) <;> (try simp only [sB, ne_eq, reduceCtorEq] at hc) <;> (try (exfalso; omega))) | (refine rgC 3 ?_; (refine slss rfl rfl ?_); apply jW) | (refine rgC 4 ?_; (refine smove rfl ?_); (refine sidxn rfl rfl (by omega) ?_); (refine sloadw rfl rfl ?_); (refine se_alloc rfl ?_); (refine sassign rfl ?_); (refine se_store_b rfl rfl rfl rfl ?_); apply jW) | (refine rgC 5 ?_ <;> (refine smove rfl ?_) <;> (refine seql rfl rfl ?_) <;> (refine smove rfl ?_) <;> (first | (refine as_split (t := 22) rfl (fun hc => ?_) (fun hc => ?_) <;> (try simp only [sB, ne_eq, reduceCtorEq] at hc) <;> (try (exfalso; omega)) <;> (first | refine sgt_u rfl rfl rfl rfl rfl (afieldp rfl rfl rfl) ?_ | refine skZ (gq_vf rfl rfl) rfl ?_ | fail)) | fail) <;> (first | refine sgt_u rfl rfl rfl rfl rfl (aloadp rfl rfl rfl rfl) ?_ | refine skZ (gq_vf rfl rfl) rfl ?_ | fail) <;> (first | refine sgt_u rfl rfl rfl rfl rfl (amove rfl) ?_ | refine skZ (gq_vf rfl rfl) rfl ?_ | fail) <;> (first | refine sgt_u rfl rfl rfl rfl rfl (aeql rfl rfl) ?_ | refine skZ (gq_vf rfl rfl) rfl ?_ | fail) <;> (refine su (ap_or (rq_p rfl rfl) (by first | exact rq_p rfl rfl | exact rq_c rfl rfl)) ?_) <;> (refine smove rfl ?_) <;> (first | refine sgt_u rfl rfl rfl rfl rfl (amove rfl) ?_ | (refine as_split (t := 28) rfl (fun hc => ?_) (fun hc => ?_) <;> (try simp only [sB, ne_eq, reduceCtorEq] at hc) <;> (try (exfalso; omega)) <;> (first | refine sgt_u rfl rfl rfl rfl rfl (amove rfl) ?_ | fail)) | fail) <;> (first | refine sgt_u rfl rfl rfl rfl rfl (amove rfl) ?_ | fail) <;> (first | refine sgt_o [0] rfl rfl rfl rfl rfl (h2) (Lend.S (by first | ((repeat' first | exact RenL.nil | refine RenL.cons rfl ?_); done) | fail) zq2 (by decide) rfl (by simp [AV.bd, bdL, bdL_append]) (by repeat' (first | exact True.intro | refine And.intro ?_ ?_ | simp [AV.bd, bdL, bdL_append]))) ?_; simp only [updN, newO, AObj.ren, renL, AV.ren, apx, ap, if_true, if_false, Nat.reduceLT, Nat.reduceAdd, Nat.reduceSub, sO, intA, boolA, strA, ren_rulesY, ren_boolsY] | fail) <;> (refine su (ap_and (rq_p rfl rfl) (rq_p rfl rfl)) ?_) <;> apply jW) | (refine WP.regionC ?_; (refine sassign rfl ?_); apply jW) | (refine rgC 7 ?_; (refine sfieldp rfl rfl rfl ?_); (refine sloadp rfl rfl rfl rfl ?_); (refine slenm rfl rfl ?_); (refine seql rfl rfl ?_); apply jW) | (refine rgC 9 ?_; (refine smove rfl ?_); (refine smove rfl ?_); (refine snilc rfl ?_); (refine sfieldp rfl rfl rfl ?_); (refine sloadp rfl rfl rfl rfl ?_); (refine smove rfl ?_); (refine sc_p rfl rfl zq1 zq5 (h1) ?_); (refine su (acat rfl rfl (by (simp only [bsz, sZ] <;> omega))) ?_); (refine smove rfl ?_); (refine su (acat rfl rfl (by (simp only [bsz, sZ] <;> omega))) ?_); (refine smove rfl ?_); (refine su (ap_build (RqP.cons (rq_p rfl rfl) (RqP.nil)) rfl) ?_); (refine su (ap_build (RqP.cons (rq_p rfl rfl) (RqP.cons (rq_p rfl rfl) (RqP.nil))) rfl) ?_); (refine se_lit (OpP.cons rfl (OpP.nil)) rfl rfl rfl rfl rfl rfl ?_); (refine se_app rfl rfl rfl (by (simp; done)) rfl rfl rfl rfl (by (simp only [sL] <;> omega)) ?_); (refine sassign rfl ?_); apply jW) | (refine rgC 10 ?_; (refine sadd rfl rfl (by exact inr_i64_of (by omega)) ?_); (refine smove rfl ?_); apply jW)))
    all_goals try (exfalso; simp at hc; done)
    all_goals refine ⟨k + 1, ⟨by omega, by omega⟩, ?_⟩
    all_goals rw [hsc, hml, hmap]
    all_goals exact ⟨[0, 4], ToR.S rfl (by repeat' (first | exact rt_nil | refine rt_r rfl rfl ?_ | refine rt_t rfl rfl ?_ | refine rt_e rfl rfl ?_ | refine rt_p rfl rfl (by first | (simp [AV.bd, bdL, bdL_append]; done) | fail) ?_)) (by repeat' (first | exact ro_nil | refine ro_p rfl (by first | exact rfl | fail) zq5 ?_)) rfl (by (rw [hm]; exact rfl)) rfl zq4 zq3 (by (rw [hm]; exact nle rfl))⟩
   ·have hmap : (chR g pr head k ++ [chT g k]).map choA = (chR g pr head k).map choA ++ [choS (⟨#[40]⟩ ++ tx (labelT g k) ++ ⟨#[32]⟩) k] := by
     rw [List.map_append]
     have he : (nth g.rules k).body.isEmpty = false := by
      cases hq : (nth g.rules k).body with
      | nil => rw [hq] at hb; exact absurd rfl hb
      | cons _ _ => rfl
     have : choA (chT g k) = choS (⟨#[40]⟩ ++ tx (labelT g k) ++ ⟨#[32]⟩) k := by
      unfold choA chT choS
      rw [he]
      simp only [folT, Bool.false_eq_true, if_false, Tre.rule, Tre.term, Tre.kids]
      have : tx (40 :: (labelT g k ++ [32])) = ⟨#[40]⟩ ++ tx (labelT g k) ++ ⟨#[32]⟩ := by apply bl_injY; rw [bl_tx, bl_app, bl_app, bl_tx]; rfl
      rw [this]
     rw [List.map_singleton, this]
    have hml : (chR g pr head k ++ [chT g k]).length = ((chR g pr head k).map choA ++ [choS (⟨#[40]⟩ ++ tx (labelT g k) ++ ⟨#[32]⟩) k]).length := by rw [<- hmap, List.length_map]
    (repeat' (first | apply jA | apply jF | apply jH | apply jI | apply jN | (refine wp_cond rfl (fun hc => ?_) (fun hc => ?_) <;> (try simp only [sB, ne_eq, reduceCtorEq] at hc) <;> (try (exfalso; omega))) | (refine rgC 3 ?_; (refine slss rfl rfl ?_); apply jW) | (refine rgC 4 ?_; (refine smove rfl ?_); (refine sidxn rfl rfl (by omega) ?_); (refine sloadw rfl rfl ?_); (refine se_alloc rfl ?_); (refine sassign rfl ?_); (refine se_store_b rfl rfl rfl rfl ?_); apply jW) | (refine rgC 5 ?_ <;> (refine smove rfl ?_) <;> (refine seql rfl rfl ?_) <;> (refine smove rfl ?_) <;> (first | (refine as_split (t := 22) rfl (fun hc => ?_) (fun hc => ?_) <;> (try simp only [sB, ne_eq, reduceCtorEq] at hc) <;> (try (exfalso; omega)) <;> (first | refine sgt_u rfl rfl rfl rfl rfl (afieldp rfl rfl rfl) ?_ | refine skZ (gq_vf rfl rfl) rfl ?_ | fail)) | fail) <;> (first | refine sgt_u rfl rfl rfl rfl rfl (aloadp rfl rfl rfl rfl) ?_ | refine skZ (gq_vf rfl rfl) rfl ?_ | fail) <;> (first | refine sgt_u rfl rfl rfl rfl rfl (amove rfl) ?_ | refine skZ (gq_vf rfl rfl) rfl ?_ | fail) <;> (first | refine sgt_u rfl rfl rfl rfl rfl (aeql rfl rfl) ?_ | refine skZ (gq_vf rfl rfl) rfl ?_ | fail) <;> (refine su (ap_or (rq_p rfl rfl) (by first | exact rq_p rfl rfl | exact rq_c rfl rfl)) ?_) <;> (refine smove rfl ?_) <;> (first | refine sgt_u rfl rfl rfl rfl rfl (amove rfl) ?_ | (refine as_split (t := 28) rfl (fun hc => ?_) (fun hc => ?_) <;> (try simp only [sB, ne_eq, reduceCtorEq] at hc) <;> (try (exfalso; omega)) <;> (first | refine sgt_u rfl rfl rfl rfl rfl (amove rfl) ?_ | fail)) | fail) <;> (first | refine sgt_u rfl rfl rfl rfl rfl (amove rfl) ?_ | fail) <;> (first | refine sgt_o [0] rfl rfl rfl rfl rfl (h2) (Lend.S (by first | ((repeat' first | exact RenL.nil | refine RenL.cons rfl ?_); done) | fail) zq2 (by decide) rfl (by simp [AV.bd, bdL, bdL_append]) (by repeat' (first | exact True.intro | refine And.intro ?_ ?_ | simp [AV.bd, bdL, bdL_append]))) ?_; simp only [updN, newO, AObj.ren, renL, AV.ren, apx, ap, if_true, if_false, Nat.reduceLT, Nat.reduceAdd, Nat.reduceSub, sO, intA, boolA, strA, ren_rulesY, ren_boolsY] | fail) <;> (refine su (ap_and (rq_p rfl rfl) (rq_p rfl rfl)) ?_) <;> apply jW) | (refine rgC 6 ?_; (refine sassign rfl ?_); apply jW) | (refine rgC 7 ?_; (refine sfieldp rfl rfl rfl ?_); (refine sloadp rfl rfl rfl rfl ?_); (refine slenm rfl rfl ?_); (refine seql rfl rfl ?_); apply jW) | (refine rgC 9 ?_; (refine smove rfl ?_); (refine smove rfl ?_); (refine snilc rfl ?_); (refine sfieldp rfl rfl rfl ?_); (refine sloadp rfl rfl rfl rfl ?_); (refine smove rfl ?_); (refine sc_p rfl rfl zq1 zq5 (h1) ?_); (refine su (acat rfl rfl (by (simp only [bsz, sZ] <;> omega))) ?_); (refine smove rfl ?_); (refine su (acat rfl rfl (by (simp only [bsz, sZ] <;> omega))) ?_); (refine smove rfl ?_); (refine su (ap_build (RqP.cons (rq_p rfl rfl) (RqP.nil)) rfl) ?_); (refine su (ap_build (RqP.cons (rq_p rfl rfl) (RqP.cons (rq_p rfl rfl) (RqP.nil))) rfl) ?_); (refine se_lit (OpP.cons rfl (OpP.nil)) rfl rfl rfl rfl rfl rfl ?_); (refine se_app rfl rfl rfl (by (simp; done)) rfl rfl rfl rfl (by (simp only [sL] <;> omega)) ?_); (refine sassign rfl ?_); apply jW) | (refine rgC 10 ?_; (refine sadd rfl rfl (by exact inr_i64_of (by omega)) ?_); (refine smove rfl ?_); apply jW)))
    all_goals try (exfalso; simp at hc; done)
    all_goals refine ⟨k + 1, ⟨by omega, by omega⟩, ?_⟩
    all_goals rw [hsc, hml, hmap]
    all_goals exact ⟨[0, 4], ToR.S rfl (by repeat' (first | exact rt_nil | refine rt_r rfl rfl ?_ | refine rt_t rfl rfl ?_ | refine rt_e rfl rfl ?_ | refine rt_p rfl rfl (by first | (simp [AV.bd, bdL, bdL_append]; done) | fail) ?_)) (by repeat' (first | exact ro_nil | refine ro_p rfl (by first | exact rfl | fail) zq5 ?_)) rfl (by (rw [hm]; exact rfl)) rfl zq4 zq3 (by (rw [hm]; exact nle rfl))⟩
  ·rw [if_neg hC, List.append_nil] at hsc
   (repeat' (first | apply jA | apply jF | apply jH | apply jI | apply jN | (refine wp_cond rfl (fun hc => ?_) (fun hc => ?_) <;> (try simp only [sB, ne_eq, reduceCtorEq] at hc) <;> (try (exfalso; omega))) | (refine rgC 3 ?_; (refine slss rfl rfl ?_); apply jW) | (refine rgC 4 ?_; (refine smove rfl ?_); (refine sidxn rfl rfl (by omega) ?_); (refine sloadw rfl rfl ?_); (refine se_alloc rfl ?_); (refine sassign rfl ?_); (refine se_store_b rfl rfl rfl rfl ?_); apply jW) | (refine rgC 5 ?_ <;> (refine smove rfl ?_) <;> (refine seql rfl rfl ?_) <;> (refine smove rfl ?_) <;> (first | (refine as_split (t := 22) rfl (fun hc => ?_) (fun hc => ?_) <;> (try simp only [sB, ne_eq, reduceCtorEq] at hc) <;> (try (exfalso; omega)) <;> (first | refine sgt_u rfl rfl rfl rfl rfl (afieldp rfl rfl rfl) ?_ | refine skZ (gq_vf rfl rfl) rfl ?_ | fail)) | fail) <;> (first | refine sgt_u rfl rfl rfl rfl rfl (aloadp rfl rfl rfl rfl) ?_ | refine skZ (gq_vf rfl rfl) rfl ?_ | fail) <;> (first | refine sgt_u rfl rfl rfl rfl rfl (amove rfl) ?_ | refine skZ (gq_vf rfl rfl) rfl ?_ | fail) <;> (first | refine sgt_u rfl rfl rfl rfl rfl (aeql rfl rfl) ?_ | refine skZ (gq_vf rfl rfl) rfl ?_ | fail) <;> (refine su (ap_or (rq_p rfl rfl) (by first | exact rq_p rfl rfl | exact rq_c rfl rfl)) ?_) <;> (refine smove rfl ?_) <;> (first | refine sgt_u rfl rfl rfl rfl rfl (amove rfl) ?_ | (refine as_split (t := 28) rfl (fun hc => ?_) (fun hc => ?_) <;> (try simp only [sB, ne_eq, reduceCtorEq] at hc) <;> (try (exfalso; omega)) <;> (first | refine sgt_u rfl rfl rfl rfl rfl (amove rfl) ?_ | refine skZ (gq_vt rfl rfl) rfl ?_ | fail)) | fail) <;> (first | refine sgt_u rfl rfl rfl rfl rfl (amove rfl) ?_ | refine skZ (gq_vt rfl rfl) rfl ?_ | fail) <;> (first | refine sgt_o [0] rfl rfl rfl rfl rfl (h2) (Lend.S (by first | ((repeat' first | exact RenL.nil | refine RenL.cons rfl ?_); done) | fail) zq2 (by decide) rfl (by simp [AV.bd, bdL, bdL_append]) (by repeat' (first | exact True.intro | refine And.intro ?_ ?_ | simp [AV.bd, bdL, bdL_append]))) ?_; simp only [updN, newO, AObj.ren, renL, AV.ren, apx, ap, if_true, if_false, Nat.reduceLT, Nat.reduceAdd, Nat.reduceSub, sO, intA, boolA, strA, ren_rulesY, ren_boolsY] | refine skZ (gq_vt rfl rfl) rfl ?_ | fail) <;> (refine su (ap_and (rq_p rfl rfl) (by first | exact rq_p rfl rfl | exact rq_c rfl rfl)) ?_) <;> apply jW) | (refine rgC 10 ?_; (refine sadd rfl rfl (by exact inr_i64_of (by omega)) ?_); (refine smove rfl ?_); apply jW)))
   all_goals (first | exact ⟨k + 1, ⟨by omega, by omega⟩, by rw [hsc]; exact ⟨[0, 1], ToR.S rfl (by repeat' (first | exact rt_nil | refine rt_r rfl rfl ?_ | refine rt_t rfl rfl ?_ | refine rt_e rfl rfl ?_ | refine rt_p rfl rfl (by first | (simp [AV.bd, bdL, bdL_append]; done) | fail) ?_)) (by repeat' (first | exact ro_nil | refine ro_p rfl (by first | exact rfl | fail) (by first | exact bdL_map (fun _ => by exact rfl) _ | (simp [bdL, bdL_append, AV.bd]; done) | fail) ?_)) rfl (by (rw [hm]; exact rfl)) rfl zq4 (by repeat' (first | exact True.intro | refine And.intro ?_ ?_ | exact bdL_map (fun _ => by exact rfl) _ | (simp [bdOq, bdL, bdL_append, AV.bd]; done))) (by (rw [hm]; exact nle rfl))⟩⟩ | (exfalso; apply hC; simp_all; done))
 ·obtain rfl : k = g.rules.length := by omega
  (repeat' (first | apply jA | apply jH | apply jJ | apply jL | apply jP | (refine wp_cond rfl (fun hc => ?_) (fun hc => ?_) <;> (try simp only [sB, ne_eq, reduceCtorEq] at hc) <;> (try (exfalso; omega))) | (refine rgC 3 ?_; (refine slss rfl rfl ?_); apply jW)))
  refine wp_frzm 5 hm rfl rfl rfl (choA_bd 0) (fun _ => rfl) rfl ?_
  (repeat' (first | apply jH | apply jK | apply jS | (refine rgC 11 ?_; (refine smove rfl ?_); (refine sassign rfl ?_); apply jW)))
  refine retO_L (x := .sl 4 ((chR g pr head g.rules.length).map choA)) (k := 1) (os1 := [(0, some (.arr 7 [.agg [strsA g.terms, strsA g.nonterms, intA g.start, rulesA g.rules, strA s, intA a, boolsA pr]]))]) (.tmp rfl .nil) rfl ⟨[0], ToR.S rfl (by repeat' (first | exact rt_nil | refine rt_p rfl rfl (by first | (simp [AV.bd, bdL, bdL_append]; done) | fail) ?_)) (by repeat' (first | exact ro_nil | refine ro_p rfl (by first | exact rfl | fail) zq5 ?_)) rfl rfl rfl zq4 zq3 (by exact nle rfl)⟩ rfl
end Go.Lg
