/-
  Part 19 of the proof of PrecedenceUnambiguousCard: the logic over the model, the functions' contracts and the plain laws.
-/
import Derived.Test.YtmgpndmmodkhhaaDoorPu18
import Derived.RangeFuncRecord

set_option linter.unusedSimpArgs false
set_option linter.unusedVariables false
set_option linter.unusedSectionVars false
set_option linter.defProp false
set_option maxRecDepth 20000
set_option maxHeartbeats 8000000

namespace Go.Lg
open Go.RowKit
section
variable {P : Program} {Γ : Cx} {A : Nat -> Prop} {ρ : Nat -> Option Nat} {s : St} {a : Act} {w : World}
def Cx.off (Γ : Cx) (b : Nat) (o : Obj) (hb : GL <= b) : Cx :=
  { Γ with w0 := Γ.w0.putObj b o, hG := GW_loc (fun c hc => World.putObj_heap_other (by omega)) Γ.hG, hgl := by simpa using Γ.hgl, hin := fun i hi c hc => by simpa using Γ.hin i hi c hc }
theorem SRa.off (h : SRa Γ A ρ s a w) {b : Nat} {o : Obj} (hb : GL <= b) (hI : ¬ Γ.I0 b) (hlt : b < Γ.w0.heap.size) (hρ : ∀ i, i < Γ.m -> Γ.ρ0 i ≠ some b) (hc0 : csize Γ.w0 b = none) (hco : ∀ c t p, o ≠ .cells c t p) : SRa (Γ.off b o hb) A ρ s a (w.putObj b o) := by
 have hne : ∀ c, Im Γ ρ s w c -> c ≠ b := fun c hc e => by
  subst e
  rcases hc.1 with h1 | h1
  ·exact hI h1
  ·omega
 have hcw : csize w b = none := by
  have hh := h.fr.block b hlt hρ
  unfold csize at *
  rw [hh]; exact hc0
 have hcb : csize (w.putObj b o) b = none := by
  unfold csize
  rw [World.putObj_heap_same (Nat.lt_of_lt_of_le hlt h.fr.size)]
  cases o <;> first | rfl | exact absurd rfl (hco _ _ _)
 have hImE : ∀ c, Im Γ ρ s w c -> Im (Γ.off b o hb) ρ s (w.putObj b o) c /\ (w.putObj b o).heap[c]? = w.heap[c]? := fun c hc =>
  ⟨⟨by have := hc.1; simpa [Cx.off] using this, by simpa using hc.2.1, hc.2.2⟩, World.putObj_heap_other (hne c hc)⟩
 have hsz : ∀ c n, csize w c = some n -> csize (w.putObj b o) c = some n := fun c n hn => by
  have hcb : c ≠ b := fun e => by subst e; rw [hcw] at hn; cases hn
  unfold csize at *
  rw [World.putObj_heap_other hcb]; exact hn
 refine ⟨h.ext, h.len, fun i x v hx hv => (h.tmp i x v hx hv).mono (fun _ hA => ⟨hA, rfl⟩) hImE hsz, fun id o' hl => (h.obj id o' hl).mono (fun _ hA => ⟨hA, rfl⟩) hImE hsz fun c hc => World.putObj_heap_other ?_, h.made, h.bound,
  fun id o' c hl hc => by have := h.own id o' c hl hc; simpa [Cx.off] using this, h.inj, ?_, ?_⟩
 ·intro e
  subst e
  rcases h.own id o' c hl hc with h1 | ⟨i, hi, h1⟩
  ·omega
  ·exact hρ i hi h1
 ·obtain ⟨h1, Ds, h2, hn, h3⟩ := h.defers
  exact ⟨h1, Ds, h2, hn, fun D hD => ⟨by simpa [Cx.off] using (h3 D hD).1, (hImE D (h3 D hD).2.1).1, (hImE D (h3 D hD).2.1).2.trans (h3 D hD).2.2⟩⟩
 ·refine ⟨by simpa [Cx.off] using h.fr.size, h.fr.os, h.fr.tape, h.fr.output, fun c hc hcn => ?_, fun c n hn => ?_⟩
  ·simp only [Cx.off, World.putObj_size] at hc
   by_cases e : c = b
   ·subst e
    simp only [Cx.off]
    rw [World.putObj_heap_same (Nat.lt_of_lt_of_le hlt h.fr.size), World.putObj_heap_same hlt]
   ·simp only [Cx.off]
    rw [World.putObj_heap_other e, World.putObj_heap_other e]
    exact h.fr.block c hc hcn
  ·by_cases e : c = b
   ·subst e
    simp only [Cx.off, csize] at hn
    rw [World.putObj_heap_same hlt] at hn
    cases o <;> first | exact absurd rfl (hco _ _ _) | cases hn
   ·refine hsz c n (h.fr.csize c n ?_)
    simp only [Cx.off, csize] at hn ⊢
    rw [World.putObj_heap_other e] at hn; exact hn
theorem Cx.off_back {b : Nat} {o o' : Obj} {hb : GL <= b} (h : Γ.w0.heap[b]? = some o) : (Γ.off b o' hb).off b o hb = Γ := by
 have e : (Γ.w0.putObj b o').putObj b o = Γ.w0 := by
  have hl := World.lt_of_block h
  have e1 : ((Γ.w0.putObj b o').putObj b o).heap = Γ.w0.heap := by
   apply Array.ext (by simp)
   intro i h1 h2
   simp only [World.putObj]
   by_cases e : i = b
   ·subst e
    rw [Array.getElem_setIfInBounds_self]
    have := (Array.getElem?_eq_some_iff.1 h).2
    exact this.symm
   ·rw [Array.getElem_setIfInBounds_ne _ (fun q => e q.symm), Array.getElem_setIfInBounds_ne _ (fun q => e q.symm)]
    simpa using h2
  cases hw : Γ.w0
  rw [hw] at e1
  simp only [World.putObj] at e1 ⊢
  simp [e1]
 cases Γ
 simp only [Cx.off] at e ⊢
 congr
structure RoundC (P : Program) (c : LoopC) (ys : List AV) (os : List AObj) (os' : List (Option AObj)) : Prop where
 st : c.state = .ready
 pe : c.pending = none
 len : os.length <= os'.length
 ex : ∃ Mid : St -> Prop, (∀ (Γ : Cx) (k : Nat), Γ.m = os.length -> WPI P Γ k c.assign (fun e s => e = .normal /\ Mid s) ⟨ys, os.map some⟩) /\
  ∀ (Γ : Cx) (k : Nat) (s : St), Γ.m = os.length -> Mid s -> WPI P Γ k c.body (fun e s => e = .normal /\ ∃ is, ToR os.length is ⟨[], s.objs⟩ ⟨[], os'⟩) s
theorem RoundC.run {c : LoopC} {ys : List AV} {os : List AObj} {os' : List (Option AObj)} (hR : RoundC P c ys os os') {r : Option Nat} {f : FuncId} {b : Nat} {rec : Loop} {us : Array Value} (hm : Γ.m = os.length) (hds : Γ.ds = []) (hk : Γ.mrk = false)
  (hs : SR Γ ⟨ys, os.map some⟩ ⟨us, []⟩ Γ.w0) (hrec : Γ.w0.heap[b]? = some (.loop rec)) (h1 : rec.state = .ready) (h2 : rec.pending = none) (hI : ¬ Γ.I0 b) (hρ : ∀ i, i < Γ.m -> Γ.ρ0 i ≠ some b) (hb : GL <= b) :
  RoundIn (FW r) 0 P b f us c.assign c.body Γ.w0 fun e w' => e = .returned (.bool true) /\ SR Γ ⟨[.any], os'⟩ ⟨#[undef], []⟩ w' := by
 obtain ⟨Mid, ha, hbd⟩ := hR.ex
 have hlt := World.lt_of_block hrec
 have hc0 : csize Γ.w0 b = none := by unfold csize; rw [hrec]
 refine roundIn_of_wpIn (F := FW r) trivial ?_
 have ha' : c.assign.wpIn (FW (some b)) 0 P _ ⟨us, []⟩ Γ.w0 := ha Γ b hm _ _ hs
 refine wpIn_mono (F := FW (some b)) ha' ?_
 rintro e a1 w1 ⟨s1, ⟨rfl, hmid⟩, ρ1, hs1⟩
 have hb1 : w1.heap[b]? = some (.loop rec) := (hs1.fr.block b hlt hρ).trans hrec
 refine ⟨_, run_beginRound hb1 h1, ?_⟩
 have hs2 := hs1.off hb hI hlt hρ hc0 (o := .loop { rec with state := .busy }) (fun _ _ _ => by simp)
 have hbd' : c.body.wpIn (FW (some b)) 0 P _ a1 _ := hbd (Γ.off b _ hb) b s1 hm hmid _ _ ⟨ρ1, hs2⟩
 refine wpIn_mono (F := FW (some b)) hbd' ?_
 rintro e a2 w2 ⟨s2, ⟨rfl, is, hT⟩, ρ2, hs3⟩
 have hb2 : w2.heap[b]? = some (.loop { rec with state := .busy }) := by
  refine (hs3.fr.block b (by simpa [Cx.off] using hlt) hρ).trans ?_
  simp only [Cx.off]; exact World.putObj_heap_same hlt
 refine ⟨_, _, run_endRound none hb2, rfl, ?_⟩
 have e0 : ({ ({ rec with state := .busy } : Loop) with state := if (none : Option Code).isNone then .ready else .done, pending := none } : Loop) = rec := by
  cases rec; simp only at h1 h2; subst h1 h2; rfl
 rw [e0]
 have hs4 := hs3.off (b := b) (o := .loop rec) hb (by simpa [Cx.off] using hI) (by simpa [Cx.off] using hlt) hρ (by simp only [Cx.off, csize]; rw [World.putObj_heap_same hlt]) (fun _ _ _ => by simp)
 rw [Cx.off_back hrec] at hs4
 have hd2 : a2.defers = [] := (hs4.defers.eq hk).trans hds
 have h5 : SR Γ ⟨[.any], s2.objs⟩ ⟨#[undef], []⟩ (w2.putObj b (.loop rec)) := SR.result ⟨ρ2, hs4⟩ hds fun _ _ => .any
 obtain ⟨t1, t2, t3, t4, t5, t6, t7⟩ := hT
 exact h5.toR (l := is) (by rw [hm]; exact ⟨by simp [wkR, AV.ren], t2, t3, t4, by simp [bdL, AV.bd], t6, t7⟩)
end
section
variable {P : Program} {Γ : Cx} {A : Nat -> Prop} {ρ : Nat -> Option Nat} {s : St} {a : Act} {w : World}
end
section
variable {P : Program} {Γ : Cx} {A : Nat -> Prop} {ρ : Nat -> Option Nat} {I : Nat -> Prop} {s : St} {a : Act} {w w' : World}
end
section
variable {P : Program} {Γ : Cx} {r : Option Nat} {k : Nat} {ops : Array Oper} {Q : Exit -> St -> Prop} {s : St} {L : List Oper}
end
section
variable {P : Program} {Γ : Cx} {n M : Nat} {l : List (Nat × AV)} {os : List (Nat × Option AObj)} {Q : Exit -> St -> Prop} {ops : Array Oper} {rest : List Oper}
end
section
variable {P : Program} {Γ : Cx} {n M : Nat} {l : List (Nat × AV)} {os : List (Nat × Option AObj)} {Q : Exit -> St -> Prop} {ops : Array Oper} {rest : List Oper}
theorem RoundC.intro {c : LoopC} {l : List (Nat × AV)} {aos : List AObj} {aos' : List (Option AObj)} (Mid : St -> Prop) (hs : c.state = .ready) (hp : c.pending = none) (hl : aos.length <= aos'.length)
  (ha : ∀ (Γ : Cx) (k : Nat), Γ.m = aos.length -> WPI P Γ k c.assign (fun e s => e = .normal /\ Mid s) (S n l aos.length (enumO 0 aos)))
  (hb : ∀ (Γ : Cx) (k : Nat) (s : St), Γ.m = aos.length -> Mid s -> WPI P Γ k c.body (fun e s => e = .normal /\ RetO P [] aos.length (.tup []) aos' s) s) : RoundC P c (tl n l) aos aos' :=
 ⟨hs, hp, hl, Mid, fun Γ k hm => by rw [ol_enum]; exact ha Γ k hm, fun Γ k s hm hs => WPI.mono (hb Γ k s hm hs) fun e s' ⟨h1, x, is, _, h2⟩ => by
  obtain ⟨t1, t2, t3, t4, t5, t6, t7⟩ := h2
  exact ⟨h1, is, ⟨trivial, t2, t3, t4, rfl, t6, t7⟩⟩⟩
end
end Go.Lg
namespace Go.Lg
open Go.Proofs
attribute [local irreducible] Ap Rq asemC WP RunD Ret Gq thenA inBlockA bodyQ noGotoA RqL RqP OpP
attribute [local simp] AV.cells
mutual
def nodN : Tre -> Int
 | .mk r _ l => if r = -1 then 1 else 1 + nodNL l
def nodNL : List Tre -> Int
 | [] => 0
 | t :: l => nodN t + nodNL l
end
end Go.Lg
namespace Go.Lg
open Go.Proofs
attribute [local irreducible] Ap Rq asemC WP RunD Ret Gq thenA inBlockA bodyQ noGotoA RqL RqP OpP
theorem contains_fn (s sub : ByteArray) (hs : s.size < 4294967281) : Fn Tryd.prog 79 [.val (.string s), .val (.string sub)] (.val (.bool (Lib.contains s.data.toList sub.data.toList))) := by
 refine Fn.of_same (vs := [.string s, .string sub]) (by kernel_rfl) rfl fun w hw => ?_
 obtain ⟨m, hm⟩ := hw.1 (gints.getD 0 (0, .i64)) (by simp [gints])
 exact Tryd.strings_Contains s sub m w hs hm
def encOk (n : Nat) : Bool := Lib.contains [95, 46, 64] (Utf8.encode (n : Int)).data.toList == (decide ((n : Int) = 95) || decide ((n : Int) = 46) || decide ((n : Int) = 64))
theorem encOk_all : (List.range 256).all encOk = true := by kernel_rfl
theorem enc_byte (c : UInt8) : Lib.contains [95, 46, 64] (Utf8.encode c.toNat).data.toList = (decide ((c.toNat : Int) = 95) || decide ((c.toNat : Int) = 46) || decide ((c.toNat : Int) = 64)) := by
 have h := List.all_eq_true.1 encOk_all c.toNat (List.mem_range.2 c.toNat_lt)
 simpa [encOk] using h
def nameB (c : Int) : Bool := letB c || digB c || decide (c = 95) || decide (c = 46) || decide (c = 64)
theorem nth_bAt (s : ByteArray) (i : Nat) : ((nth s.data.toList i).toNat : Int) = bAt s i := rfl
theorem nameOk_of {s : ByteArray} (h0 : 0 < s.size) (h1 : s.size <= 48) (h2 : letB (bAt s 0) = true) (h : ∀ i, i < s.size -> nameB (bAt s i) = true) : nameOk s = true := by
 simp only [nameOk, Bool.and_eq_true, decide_eq_true_eq, List.all_eq_true, List.mem_range]
 refine ⟨⟨h0, h1⟩, fun i hi => ?_⟩
 simp only [nameCh]
 by_cases e : i = 0
 ·subst e; simp [h2]
 ·have := h i hi
  simp only [nameB, Bool.or_assoc] at this
  simpa [e, Bool.or_assoc] using this
theorem nameOk_no {s : ByteArray} {i : Nat} (hi : i < s.size) (h : nameB (bAt s i) = false) : nameOk s = false := by
 have : nameCh s i = false := by
  simp only [nameB, Bool.or_eq_false_iff] at h
  simp only [nameCh, h.1.1.1.1, h.1.1.1.2, h.1.1.2, h.1.2, h.2, Bool.or_false, Bool.and_false, Bool.false_or]
 simp only [nameOk, range_all_no hi this, Bool.and_false]
theorem gname_fn (s : ByteArray) : Fn Tryd.prog 60 [strA s] (boolA (nameOk s)) := by
 refine Fn.intro rfl (by kernel_rfl) Tryd.func60 rfl rfl Tryd.ntmps60 (by exact nle rfl) ?_; intro Γ hm
 by_cases hs : s.size = 0
 ·have : s = ⟨#[]⟩ := by
   obtain ⟨⟨l⟩⟩ := s
   have : l = [] := List.eq_nil_of_length_eq_zero (by simpa [ByteArray.size] using hs)
   subst this; rfl
  subst this
  (repeat' (first | apply jA | apply jF | apply jH | apply jI | apply jK | apply jM | apply jS | (refine wp_cond rfl (fun hc => ?_) (fun hc => ?_) <;> (try simp only [sB, ne_eq, reduceCtorEq] at hc) <;> (try (exfalso; omega))) | (refine WP.regionC ?_; (refine sassign rfl ?_); apply jW) | (refine rgC 1 ?_; (refine smove rfl ?_); (refine seqs rfl rfl ?_); (refine smove rfl ?_); (refine sg (gq_vf rfl rfl) (fun he => ap_move (rq_p rfl rfl)) ?_); (refine sg (gq_vf rfl rfl) (fun he => ap_len_str rfl (rq_c rfl rfl)) ?_); (refine sg (gq_vf rfl rfl) (fun he => ap_gtr (rq_c rfl rfl) (rq_p rfl rfl)) ?_); (refine su (ap_or (rq_p rfl rfl) (rq_c rfl rfl)) ?_); (refine smove rfl ?_); (refine sg (gq_vf rfl rfl) (fun he => ap_move (rq_p rfl rfl)) ?_); (refine sg (gq_vf rfl rfl) (fun he => ap_sidx_n (rq_c rfl rfl) (rq_p rfl rfl) rfl (by (try simp only [sH, id, sB, ne_eq, reduceCtorEq] at he); (exfalso; simp at he; done))) ?_); (refine sg_p (gq_vf rfl rfl) (fun he => ⟨(rq_p rfl rfl), (RqL.cons (rq_c rfl rfl) (RqL.nil)), zq1, zq5, letter18_fn _⟩) ?_); (refine sg (gq_vf rfl rfl) (fun he => ap_not (rq_c rfl rfl)) ?_); (refine su (ap_or (rq_p rfl rfl) (rq_c rfl rfl)) ?_); apply jW) | (refine rgC 3 ?_; (refine smove rfl ?_); (refine se_s2b (by kernel_rfl) rfl (by omega) ?_); (refine slenm rfl rfl ?_); (refine smove rfl ?_); apply jW) | exact ret_eq rfl rfl rfl))
  simp at hc
 have hb0 := bAt_bd s 0
 have hne : ¬ s = ⟨#[]⟩ := by rintro rfl; exact hs rfl
 have hlen : s.data.toList.length = s.size := by simp
 (repeat' (first | apply jA | apply jF | apply jH | apply jI | apply jK | apply jM | apply jS | (refine wp_cond rfl (fun hc => ?_) (fun hc => ?_) <;> (try simp only [sB, ne_eq, reduceCtorEq] at hc) <;> (try (exfalso; omega))) | (refine WP.regionC ?_; (refine sassign rfl ?_); apply jW) | (refine rgC 1 ?_; (refine smove rfl ?_); (refine seqs rfl rfl ?_); (refine smove rfl ?_); (refine sg (gq_vf rfl rfl) (fun he => ap_move (rq_p rfl rfl)) ?_); (refine sg (gq_vf rfl rfl) (fun he => ap_len_str rfl (rq_c rfl rfl)) ?_); (refine sg (gq_vf rfl rfl) (fun he => ap_gtr (rq_c rfl rfl) (rq_p rfl rfl)) ?_); (refine su (ap_or (rq_p rfl rfl) (rq_c rfl rfl)) ?_); (refine smove rfl ?_); (refine sg (gq_vf rfl rfl) (fun he => ap_move (rq_p rfl rfl)) ?_); (refine sg (gq_vf rfl rfl) (fun he => ap_sidx_n (rq_c rfl rfl) (rq_p rfl rfl) rfl (by (try simp only [sH, id, sB, ne_eq, reduceCtorEq] at he); (simp only [sL] <;> omega))) ?_); (refine sg_p (gq_vf rfl rfl) (fun he => ⟨(rq_p rfl rfl), (RqL.cons (rq_c rfl rfl) (RqL.nil)), zq1, zq5, letter18_fn _⟩) ?_); (refine sg (gq_vf rfl rfl) (fun he => ap_not (rq_c rfl rfl)) ?_); (refine su (ap_or (rq_p rfl rfl) (rq_c rfl rfl)) ?_); apply jW) | (refine rgC 3 ?_; (refine smove rfl ?_); (refine se_s2b (by kernel_rfl) rfl (by omega) ?_); (refine slenm rfl rfl ?_); (refine smove rfl ?_); apply jW) | refine ret_b rfl ?_))
 ·rcases hc with (hc | hc) | hc
  ·exact absurd hc hne
  ·simp [nameOk]; omega
  ·have : nameCh s 0 = false := by simp [nameCh, hc]
   simp only [nameOk, range_all_no (k := 0) (n := s.size) (by omega) this, Bool.and_false]
 obtain ⟨⟨_, h48⟩, hl0⟩ := hc
 refine wp_loop (fun (k : Nat) => k <= s.size /\ ∀ i, i < k -> nameB (bAt s i) = true) (fun k => s.size - k)
  (fun k => (S 43 [(19, .sl 1 (s.data.toList.map byteA)), (20, intA (s.data.toList.length : Nat)), (21, intA (k : Nat))] 0 [])) 0 ⟨[], ToR.S rfl (by repeat' (first | exact rt_nil | refine rt_e rfl rfl ?_ | refine rt_p rfl rfl (by first | (simp [AV.bd, bdL, bdL_append]; done) | fail) ?_)) (by repeat' (exact ro_nil)) rfl (by (rw [hm]; exact rfl)) rfl zq4 (by repeat' (exact True.intro)) (by (rw [hm]; exact nle rfl))⟩ ⟨Nat.zero_le _, by simp⟩ ?_
 rintro k ⟨hk, hall⟩
 by_cases hlt : k < s.size
 ·have hbk := bAt_bd s k
  have hlt' : k < s.data.toList.length := by omega
  have hnb := nth_bAt s k
  (repeat' (first | apply jA | apply jF | apply jH | apply jI | apply jK | apply jM | apply jN | apply jO | apply jS | (refine wp_cond rfl (fun hc => ?_) (fun hc => ?_) <;> (try simp only [sB, ne_eq, reduceCtorEq] at hc) <;> (try (exfalso; omega))) | (refine rgC 4 ?_; (refine slss rfl rfl ?_); apply jW) | (refine rgC 5 ?_; (refine sidxn rfl rfl (by omega) ?_); (refine sloadw rfl rfl ?_); (refine sassign rfl ?_); apply jW) | (refine rgC 6 ?_; (refine smove rfl ?_); (refine sc_p rfl rfl zq1 zq5 (letter18_fn _) ?_); (refine su (anot rfl) ?_); (refine smove rfl ?_); (refine sg (gq_vt rfl rfl) (fun he => ap_move (rq_p rfl rfl)) ?_); (refine sg (gq_vt rfl rfl) (fun he => ap_lss (rq_c rfl rfl) (rq_p rfl rfl)) ?_); (refine sg (gq_vt rfl rfl) (fun he => ap_move (rq_c rfl rfl)) ?_); (refine sg (gq_cf rfl rfl) (fun he => ap_move (rq_p rfl rfl)) ?_); (refine sg (gq_cf rfl rfl) (fun he => ap_gtr (rq_c rfl rfl) (rq_p rfl rfl)) ?_); (refine sg (gq_vt rfl rfl) (fun he => ap_or (rq_c rfl rfl) (rq_c rfl rfl)) ?_); (refine su (ap_and (rq_p rfl rfl) (rq_c rfl rfl)) ?_); (refine smove rfl ?_); (refine sg (gq_vt rfl rfl) (fun he => ap_move (rq_p rfl rfl)) ?_); (refine sg (gq_vt rfl rfl) (fun he => ap_conv_is (rq_c rfl rfl) rfl rfl (by kernel_rfl)) ?_); (refine sg_p (gq_vt rfl rfl) (fun he => ⟨(rq_p rfl rfl), (RqL.cons (rq_p rfl rfl) (RqL.cons (rq_c rfl rfl) (RqL.nil))), zq1, zq5, contains_fn _ _ (by decide)⟩) ?_); (refine sg (gq_vt rfl rfl) (fun he => ap_not (rq_c rfl rfl)) ?_); (refine su (ap_and (rq_p rfl rfl) (rq_c rfl rfl)) ?_); apply jW) | (refine rgC 7 ?_; (refine sassign rfl ?_); apply jW) | (refine rgC 8 ?_; (refine sadd rfl rfl (by exact inr_i64_of (by omega)) ?_); (refine smove rfl ?_); apply jW) | refine ret_b rfl ?_))
  ·obtain ⟨⟨h1, h2⟩, h3⟩ := hc
   rw [enc_byte, hnb] at h3
   rw [hnb] at h1 h2
   simp only [Bool.or_eq_false_iff] at h3
   rw [nameOk_no hlt]
   simp only [nameB, h1, h3.1.1, h3.1.2, h3.2, Bool.or_false, Bool.false_or, digB]
   simp; omega
  ·refine ⟨k + 1, ⟨by omega, by omega, fun i hi => ?_⟩, ⟨[], ToR.S rfl (by repeat' (first | exact rt_nil | refine rt_e rfl rfl ?_ | refine rt_p rfl rfl (by first | (simp [AV.bd, bdL, bdL_append]; done) | fail) ?_)) (by repeat' (exact ro_nil)) rfl (by (rw [hm]; exact rfl)) rfl zq4 (by repeat' (exact True.intro)) (by (rw [hm]; exact nle rfl))⟩⟩
   by_cases e : i = k
   ·subst e
    rw [enc_byte, hnb] at hc
    simp only [nameB, digB]
    simp only [Bool.or_eq_true, Bool.and_eq_true, decide_eq_true_eq] at hc ⊢
    rcases hc with (hc | hc) | (hc | hc) | hc
    ·simp [hc]
    ·simp [hc]
    ·simp [hc]
    ·simp [hc]
    ·simp [hc]
   ·exact hall i (by omega)
 ·(repeat' (first | apply jA | apply jH | apply jJ | apply jK | apply jL | apply jP | apply jS | (refine wp_cond rfl (fun hc => ?_) (fun hc => ?_) <;> (try simp only [sB, ne_eq, reduceCtorEq] at hc) <;> (try (exfalso; omega))) | (refine rgC 4 ?_; (refine slss rfl rfl ?_); apply jW) | (refine rgC 9 ?_; (refine sassign rfl ?_); apply jW) | refine ret_b rfl ?_))
  rw [nameOk_of (by omega) (by omega) hl0 fun i hi => hall i (by omega)]
end Go.Lg
namespace Go.Lg
open Go.Proofs
attribute [local irreducible] Ap Rq asemC WP RunD Ret Gq thenA inBlockA bodyQ noGotoA RqL RqP OpP
structure Seen (m : List (ByteArray × Unit)) (l : List ByteArray) : Prop where
 ok : ∀ x, x ∈ l -> nameOk x = true
 nd : l.Nodup
 mem : ∀ x, (aget m x).isSome = true ↔ x ∈ l
theorem Seen.nil : Seen [] [] := ⟨by simp, by simp, by simp [aget, afind]⟩
theorem Seen.add {m : List (ByteArray × Unit)} {l : List ByteArray} {x : ByteArray} (h : Seen m l) (h1 : (aget m x).isSome = false) (h2 : nameOk x = true) : Seen (aset m x ()) (l ++ [x]) := by
 have hx : x ∉ l := fun e => by have := (h.mem x).2 e; rw [h1] at this; cases this
 refine ⟨fun y hy => ?_, ?_, fun y => ?_⟩
 ·rcases List.mem_append.1 hy with hy | hy
  ·exact h.ok y hy
  ·rw [List.mem_singleton.1 hy]; exact h2
 ·rw [List.nodup_append]; exact ⟨h.nd, by simp, fun a ha b hb => by rw [List.mem_singleton.1 hb]; rintro rfl; exact hx ha⟩
 ·rw [aget_aset]
  by_cases e : y = x
  ·subst e; simp
  ·rw [if_neg e, h.mem y]; simp [e]
theorem Seen.all {m : List (ByteArray × Unit)} {l : List ByteArray} (h : Seen m l) : namesOk l = true := by
 simp only [namesOk, Bool.and_eq_true, decide_eq_true_eq, List.all_eq_true]; exact ⟨h.ok, h.nd⟩
theorem Seen.no {m : List (ByteArray × Unit)} {l r : List ByteArray} {x : ByteArray} (h : Seen m l) (h1 : (aget m x).isSome = true \/ nameOk x = false) : namesOk (l ++ x :: r) = false := by
 cases hq : namesOk (l ++ x :: r) with
 | false => rfl
 | true =>
  simp only [namesOk, Bool.and_eq_true, decide_eq_true_eq, List.all_eq_true] at hq
  rcases h1 with h1 | h1
  ·have := (h.mem x).1 h1
   exact absurd rfl ((List.nodup_append.1 hq.2).2.2 x this x (by simp))
  ·have := hq.1 x (by simp); rw [h1] at this; cases this
theorem take_flatten {α : Type} [Inhabited α] {L : List (List α)} {j : Nat} (h : j < L.length) : (L.take (j + 1)).flatten = (L.take j).flatten ++ nth L j := by
 rw [take_succ_nth h, List.flatten_append]; simp
theorem split_at {α : Type} [Inhabited α] {L : List (List α)} {j k : Nat} (h : j < L.length) (hk : k < (nth L j).length) : ∃ r, L.flatten = ((L.take j).flatten ++ (nth L j).take k) ++ nth (nth L j) k :: r := by
 refine ⟨(nth L j).drop (k + 1) ++ (L.drop (j + 1)).flatten, ?_⟩
 conv => lhs; rw [<- List.take_append_drop (j + 1) L, List.flatten_append, take_flatten h]
 conv => lhs; rw [<- List.take_append_drop k (nth L j)]
 rw [List.drop_eq_getElem_cons hk, <- nth_eq hk]
 simp
theorem named_fn (g : Gram) (h1 : g.terms.length <= 120) (h2 : g.nonterms.length <= 120) : Fn Tryd.prog 52 [gramA g] (boolA (namesOk (g.terms ++ g.nonterms))) := by
 refine Fn.intro rfl (by kernel_rfl) Tryd.func52 rfl rfl Tryd.ntmps52 (by exact nle rfl) ?_; intro Γ hm
 have hfl : [g.terms, g.nonterms].flatten = g.terms ++ g.nonterms := by simp
 have hln : ∀ j, j < 2 -> (nth [g.terms, g.nonterms] j).length <= 120 := by
  intro j hj
  match j, hj with
  | 0, _ => exact h1
  | 1, _ => exact h2
 have hll : [g.terms, g.nonterms].length = 2 := rfl
 rw [<- hfl]
 (repeat' (first | apply jA | apply jF | apply jH | (refine rgC 0 ?_; (refine se_box rfl (by exact ⟨rfl, rfl⟩) ?_); (refine sassign rfl ?_); apply jW) | (refine rgC 1 ?_; (refine se_mkmap ?_); (refine sassign rfl ?_); apply jW) | (refine rgC 2 ?_; (refine sfieldp rfl rfl rfl ?_); (refine sloadp rfl rfl rfl rfl ?_); (refine sfieldp rfl rfl rfl ?_); (refine sloadp rfl rfl rfl rfl ?_); (refine se_lit (OpP.cons rfl (OpP.cons rfl (OpP.nil))) rfl rfl rfl rfl rfl rfl ?_); (refine su (alenr rfl rfl) ?_); (refine smove rfl ?_); apply jW)))
 refine wp_loop (fun (x : Nat × List (ByteArray × Unit)) => x.1 <= 2 /\ Seen x.2 ([g.terms, g.nonterms].take x.1).flatten) (fun x => 2 - x.1)
  (fun x => (S 44 [(3, .map 0), (15, .ref 1 1 0 2), (16, intA (2 : Nat)), (17, intA (x.1 : Nat))] 2 [(0, some (.map (mapA strK unitA x.2))), (1, some (.arr 1 ([g.terms, g.nonterms].map strsA)))])) (0, []) ⟨[1, 2], ToR.S rfl (by repeat' (first | exact rt_nil | refine rt_r rfl rfl ?_ | refine rt_m rfl rfl ?_ | refine rt_e rfl rfl ?_)) (by repeat' (first | exact ro_nil | refine ro_p rfl (by first | exact rfl | fail) (by first | exact bdL_map (fun _ => by simp [AV.bd, bdL, bdL_append]) _ | fail) ?_ | refine ro_m rfl rfl (mapA_bd (fun _ => by exact rfl) _) ?_)) rfl (by (rw [hm]; exact rfl)) rfl zq4 (by repeat' (first | exact True.intro | exact rfl | refine And.intro ?_ ?_ | exact bdL_map (fun _ => by simp [AV.bd, bdL, bdL_append]) _)) (by (rw [hm]; exact nle rfl))⟩ ⟨by decide, Seen.nil⟩ ?_
 rintro ⟨j, m⟩ ⟨hj, hs⟩
 dsimp only at *
 by_cases hlt : j < 2
 ·have hjl := hln j hlt
  (repeat' (first | apply jA | apply jF | apply jH | apply jI | (refine wp_cond rfl (fun hc => ?_) (fun hc => ?_) <;> (try simp only [sB, ne_eq, reduceCtorEq] at hc) <;> (try (exfalso; omega))) | (refine rgC 3 ?_; (refine slss rfl rfl ?_); apply jW) | (refine rgC 4 ?_; (refine su (aidxrn rfl rfl (by omega)) ?_); (refine su (aloadpt rfl rfl (by omega) rfl) ?_); (refine sassign rfl ?_); apply jW) | (refine rgC 5 ?_; (refine smove rfl ?_); (refine slenm rfl rfl ?_); (refine smove rfl ?_); apply jW)))
  refine wp_loop (fun (x : Nat × List (ByteArray × Unit)) => x.1 <= (nth [g.terms, g.nonterms] j).length /\ Seen x.2 (([g.terms, g.nonterms].take j).flatten ++ (nth [g.terms, g.nonterms] j).take x.1)) (fun x => (nth [g.terms, g.nonterms] j).length - x.1)
   (fun x => (S 44 [(3, .map 0), (15, .ref 1 1 0 2), (16, intA (2 : Nat)), (17, intA (j : Nat)), (21, strsA (nth [g.terms, g.nonterms] j)), (22, intA ((nth [g.terms, g.nonterms] j).length : Nat)), (23, intA (x.1 : Nat))] 2 [(0, some (.map (mapA strK unitA x.2))), (1, some (.arr 1 ([g.terms, g.nonterms].map strsA)))])) (0, m) ⟨[0, 1], ToR.S rfl (by repeat' (first | exact rt_nil | refine rt_r rfl rfl ?_ | refine rt_m rfl rfl ?_ | refine rt_e rfl rfl ?_ | refine rt_p rfl rfl (by first | (simp [AV.bd, bdL, bdL_append]; done) | fail) ?_)) (by repeat' (first | exact ro_nil | refine ro_p rfl (by first | exact rfl | fail) (by first | exact bdL_map (fun _ => by simp [AV.bd, bdL, bdL_append]) _ | fail) ?_ | refine ro_m rfl rfl (mapA_bd (fun _ => by exact rfl) _) ?_)) rfl (by (rw [hm]; exact rfl)) rfl zq4 (by repeat' (first | exact True.intro | exact mapA_all (fun _ => by exact rfl) _ | refine And.intro ?_ ?_ | exact bdL_map (fun _ => by simp [AV.bd, bdL, bdL_append]) _)) (by (rw [hm]; exact nle rfl))⟩ ⟨Nat.zero_le _, by simpa using hs⟩ ?_
  rintro ⟨k, m2⟩ ⟨hk, hs2⟩
  dsimp only at *
  by_cases hkl : k < (nth [g.terms, g.nonterms] j).length
  ·(repeat' (first | apply jA | apply jF | apply jH | apply jI | apply jK | apply jM | apply jN | apply jO | apply jS | (refine wp_cond rfl (fun hc => ?_) (fun hc => ?_) <;> (try simp only [sB, ne_eq, reduceCtorEq] at hc) <;> (try (exfalso; omega))) | (refine rgC 6 ?_; (refine slss rfl rfl ?_); apply jW) | (refine rgC 7 ?_; (refine sidxn rfl rfl (by omega) ?_); (refine sloadw rfl rfl ?_); (refine sassign rfl ?_); apply jW) | (refine rgC 8 ?_; (refine smove rfl ?_); (refine smove rfl ?_); (refine su (ap_look2 (kf := strK) (f := unitA) (z0 := ()) (rq_p rfl rfl) rfl (rq_p rfl rfl) rfl) ?_); (refine smove rfl ?_); (refine su (aextract rfl rfl) ?_); (refine su (aextract rfl rfl) ?_); (refine se_unit_alloc (by kernel_rfl) ?_); (refine se_store_b rfl rfl rfl rfl ?_); (refine sassign rfl ?_); apply jW) | (refine rgC 9 ?_; (refine smove rfl ?_); (refine smove rfl ?_); (refine sg (gq_vf rfl rfl) (fun he => ap_move (rq_p rfl rfl)) ?_); (refine sg_p (gq_vf rfl rfl) (fun he => ⟨(rq_p rfl rfl), (RqL.cons (rq_c rfl rfl) (RqL.nil)), zq1, zq5, gname_fn _⟩) ?_); (refine sg (gq_vf rfl rfl) (fun he => ap_not (rq_c rfl rfl)) ?_); (refine su (ap_or (rq_p rfl rfl) (rq_c rfl rfl)) ?_); apply jW) | (refine rgC 10 ?_; (refine sassign rfl ?_); apply jW) | (refine rgC 11 ?_; (refine smove rfl ?_); (refine smove rfl ?_); (refine se_unit_build (by kernel_rfl) ?_); (refine se_mapset (kf := strK) (f := unitA) (v := ()) rfl rfl rfl rfl ?_); apply jW) | (refine rgC 12 ?_; (refine sadd rfl rfl (by exact inr_i64_of (by omega)) ?_); (refine smove rfl ?_); apply jW) | refine ret_b rfl ?_))
   ·obtain ⟨r, hr⟩ := split_at (L := [g.terms, g.nonterms]) (by omega) hkl
    rw [hr, hs2.no hc]
   ·refine ⟨(k + 1, aset m2 (nth (nth [g.terms, g.nonterms] j) k) ()), ⟨by dsimp only; omega, by dsimp only; omega, ?_⟩, ⟨[0, 1], ToR.S rfl (by repeat' (first | exact rt_nil | refine rt_r rfl rfl ?_ | refine rt_m rfl rfl ?_ | refine rt_e rfl rfl ?_ | refine rt_p rfl rfl (by first | (simp [AV.bd, bdL, bdL_append]; done) | fail) ?_)) (by repeat' (first | exact ro_nil | refine ro_p rfl (by first | exact rfl | fail) (by first | exact bdL_map (fun _ => by simp [AV.bd, bdL, bdL_append]) _ | fail) ?_ | refine ro_m rfl rfl (mapA_bd (fun _ => by exact rfl) _) ?_)) rfl (by (rw [hm]; exact rfl)) rfl zq4 (by repeat' (first | exact True.intro | exact mapA_all (fun _ => by exact rfl) _ | refine And.intro ?_ ?_ | exact bdL_map (fun _ => by simp [AV.bd, bdL, bdL_append]) _)) (by (rw [hm]; exact nle rfl))⟩⟩
    have := hs2.add hc.1 hc.2
    rw [List.append_assoc, <- take_succ_nth hkl] at this
    exact this
  ·(repeat' (first | apply jA | apply jH | apply jJ | apply jL | apply jN | apply jP | (refine wp_cond rfl (fun hc => ?_) (fun hc => ?_) <;> (try simp only [sB, ne_eq, reduceCtorEq] at hc) <;> (try (exfalso; omega))) | (refine rgC 6 ?_; (refine slss rfl rfl ?_); apply jW) | (refine rgC 13 ?_; (refine sadd rfl rfl (by exact inr_i64_of (by omega)) ?_); (refine smove rfl ?_); apply jW)))
   refine ⟨(j + 1, m2), ⟨by dsimp only; omega, by dsimp only; omega, ?_⟩, ⟨[0, 1], ToR.S rfl (by repeat' (first | exact rt_nil | refine rt_r rfl rfl ?_ | refine rt_m rfl rfl ?_ | refine rt_e rfl rfl ?_)) (by repeat' (first | exact ro_nil | refine ro_p rfl (by first | exact rfl | fail) (by first | exact bdL_map (fun _ => by simp [AV.bd, bdL, bdL_append]) _ | fail) ?_ | refine ro_m rfl rfl (mapA_bd (fun _ => by exact rfl) _) ?_)) rfl (by (rw [hm]; exact rfl)) rfl zq4 (by repeat' (first | exact True.intro | exact mapA_all (fun _ => by exact rfl) _ | refine And.intro ?_ ?_ | exact bdL_map (fun _ => by simp [AV.bd, bdL, bdL_append]) _)) (by (rw [hm]; exact nle rfl))⟩⟩
   dsimp only
   rw [take_flatten (by omega)]
   rw [List.take_of_length_le (l := nth [g.terms, g.nonterms] j) (by omega)] at hs2
   exact hs2
 ·(repeat' (first | apply jA | apply jH | apply jJ | apply jK | apply jL | apply jP | apply jS | (refine wp_cond rfl (fun hc => ?_) (fun hc => ?_) <;> (try simp only [sB, ne_eq, reduceCtorEq] at hc) <;> (try (exfalso; omega))) | (refine rgC 3 ?_; (refine slss rfl rfl ?_); apply jW) | (refine rgC 14 ?_; (refine sassign rfl ?_); apply jW) | refine ret_b rfl ?_))
  rw [List.take_of_length_le (by omega)] at hs
  exact hs.all.symm
theorem gvalid1_fn (g : Gram) (x : Int) (hn : g.nonterms.length <= 120) : Fn Tryd.prog 54 [intA x, .iptr (gramA g).cells 0] (boolA (!symOk g x)) := by
 refine Fn.intro rfl (by kernel_rfl) Tryd.func54 rfl rfl Tryd.ntmps54 (by exact nle rfl) ?_; intro Γ hm
 (repeat' (first | apply jA | apply jH | apply jK | apply jS | (refine rgC 0 ?_; (refine sassign rfl ?_); apply jW) | (refine rgC 1 ?_; (refine smove rfl ?_); (refine su (afieldi rfl rfl rfl) ?_); (refine su (aloadi rfl rfl) ?_); (refine slenm rfl rfl ?_); (refine su (ageq rfl rfl) ?_); (refine smove rfl ?_); (refine sg (gq_vf rfl rfl) (fun he => ap_move (rq_p rfl rfl)) ?_); (refine sg (gq_vf rfl rfl) (fun he => ap_field_i (rq_p rfl rfl) rfl rfl) ?_); (refine sg (gq_vf rfl rfl) (fun he => ap_load_i (rq_c rfl rfl) rfl) ?_); (refine sg (gq_vf rfl rfl) (fun he => ap_len_m rfl (rq_c rfl rfl)) ?_); (refine sg (gq_vf rfl rfl) (fun he => ap_neg (rq_c rfl rfl) (by (try simp only [sH, id, sB, ne_eq, reduceCtorEq] at he); exact inr_i64_of (by omega))) ?_); (refine sg (gq_vf rfl rfl) (fun he => ap_lss (rq_c rfl rfl) (rq_c rfl rfl)) ?_); (refine su (ap_or (rq_p rfl rfl) (rq_c rfl rfl)) ?_); (refine sassign rfl ?_); apply jW) | refine ret_b rfl ?_))
 simp only [symOk]
 rw [Bool.eq_iff_iff]
 simp
 try omega
theorem any_not_sym {g : Gram} {l : List Int} : l.any (fun x => !symOk g x) = !l.all (symOk g) := by
 induction l with
 | nil => rfl
 | cons x l ih => simp only [List.any_cons, List.all_cons, ih, Bool.not_and]
theorem gvalid18_fn (g : Gram) : Fn Tryd.prog 38 [gramA g] (boolA (validG g)) := by
 refine Fn.intro rfl (by kernel_rfl) Tryd.func38 rfl rfl Tryd.ntmps38 (by exact nle rfl) ?_; intro Γ hm
 refine wp_lens 0 rfl fun hl => ?_
 obtain ⟨hl1, hl2, hl3, hl4⟩ := (lens_gramA g).1 hl
 (repeat' (first | apply jA | apply jF | apply jH | apply jI | apply jK | apply jM | apply jS | (refine wp_cond rfl (fun hc => ?_) (fun hc => ?_) <;> (try simp only [sB, ne_eq, reduceCtorEq] at hc) <;> (try (exfalso; omega))) | (refine rgC 0 ?_; (refine se_box rfl (by exact ⟨rfl, rfl⟩) ?_); (refine sassign rfl ?_); apply jW) | (refine rgC 1 ?_; (refine sfieldp rfl rfl rfl ?_); (refine sloadp rfl rfl rfl rfl ?_); (refine slenm rfl rfl ?_); (refine su (agtr rfl rfl) ?_); (refine smove rfl ?_); (refine sg (gq_vf rfl rfl) (fun he => ap_field_p (rq_p rfl rfl) rfl rfl) ?_); (refine sg (gq_vf rfl rfl) (fun he => ap_load_p (rq_c rfl rfl) rfl rfl rfl) ?_); (refine sg (gq_vf rfl rfl) (fun he => ap_len_m rfl (rq_c rfl rfl)) ?_); (refine sg (gq_vf rfl rfl) (fun he => ap_lss (rq_c rfl rfl) (rq_p rfl rfl)) ?_); (refine su (ap_or (rq_p rfl rfl) (rq_c rfl rfl)) ?_); (refine smove rfl ?_); (refine sg (gq_vf rfl rfl) (fun he => ap_field_p (rq_p rfl rfl) rfl rfl) ?_); (refine sg (gq_vf rfl rfl) (fun he => ap_load_p (rq_c rfl rfl) rfl rfl rfl) ?_); (refine sg (gq_vf rfl rfl) (fun he => ap_len_m rfl (rq_c rfl rfl)) ?_); (refine sg (gq_vf rfl rfl) (fun he => ap_gtr (rq_c rfl rfl) (rq_p rfl rfl)) ?_); (refine su (ap_or (rq_p rfl rfl) (rq_c rfl rfl)) ?_); (refine smove rfl ?_); (refine sg (gq_vf rfl rfl) (fun he => ap_load_pw (rq_p rfl rfl) rfl rfl rfl) ?_); (refine sg_p (gq_vf rfl rfl) (fun he => ⟨(rq_p rfl rfl), (RqL.cons (rq_c rfl rfl) (RqL.nil)), zq1, zq5, named_fn _ (by (try simp only [sH, id, sB, ne_eq, reduceCtorEq] at he); omega) (by (try simp only [sH, id, sB, ne_eq, reduceCtorEq] at he); omega)⟩) ?_); (refine sg (gq_vf rfl rfl) (fun he => ap_not (rq_c rfl rfl)) ?_); (refine su (ap_or (rq_p rfl rfl) (rq_c rfl rfl)) ?_); (refine smove rfl ?_); (refine sg (gq_vf rfl rfl) (fun he => ap_field_p (rq_p rfl rfl) rfl rfl) ?_); (refine sg (gq_vf rfl rfl) (fun he => ap_load_p (rq_c rfl rfl) rfl rfl rfl) ?_); (refine sg (gq_vf rfl rfl) (fun he => ap_lss (rq_c rfl rfl) (rq_p rfl rfl)) ?_); (refine su (ap_or (rq_p rfl rfl) (rq_c rfl rfl)) ?_); (refine smove rfl ?_); (refine sg (gq_vf rfl rfl) (fun he => ap_field_p (rq_p rfl rfl) rfl rfl) ?_); (refine sg (gq_vf rfl rfl) (fun he => ap_load_p (rq_c rfl rfl) rfl rfl rfl) ?_); (refine sg (gq_vf rfl rfl) (fun he => ap_field_p (rq_p rfl rfl) rfl rfl) ?_); (refine sg (gq_vf rfl rfl) (fun he => ap_load_p (rq_c rfl rfl) rfl rfl rfl) ?_); (refine sg (gq_vf rfl rfl) (fun he => ap_len_m rfl (rq_c rfl rfl)) ?_); (refine sg (gq_vf rfl rfl) (fun he => ap_geq (rq_c rfl rfl) (rq_c rfl rfl)) ?_); (refine su (ap_or (rq_p rfl rfl) (rq_c rfl rfl)) ?_); (refine smove rfl ?_); (refine sg (gq_vf rfl rfl) (fun he => ap_field_p (rq_p rfl rfl) rfl rfl) ?_); (refine sg (gq_vf rfl rfl) (fun he => ap_load_p (rq_c rfl rfl) rfl rfl rfl) ?_); (refine sg (gq_vf rfl rfl) (fun he => ap_len_m rfl (rq_c rfl rfl)) ?_); (refine sg (gq_vf rfl rfl) (fun he => ap_lss (rq_c rfl rfl) (rq_p rfl rfl)) ?_); (refine su (ap_or (rq_p rfl rfl) (rq_c rfl rfl)) ?_); (refine smove rfl ?_); (refine sg (gq_vf rfl rfl) (fun he => ap_field_p (rq_p rfl rfl) rfl rfl) ?_); (refine sg (gq_vf rfl rfl) (fun he => ap_load_p (rq_c rfl rfl) rfl rfl rfl) ?_); (refine sg (gq_vf rfl rfl) (fun he => ap_len_m rfl (rq_c rfl rfl)) ?_); (refine sg (gq_vf rfl rfl) (fun he => ap_gtr (rq_c rfl rfl) (rq_p rfl rfl)) ?_); (refine su (ap_or (rq_p rfl rfl) (rq_c rfl rfl)) ?_); apply jW) | (refine rgC 2 ?_; (refine sassign rfl ?_); apply jW) | (refine rgC 3 ?_; (refine sfieldp rfl rfl rfl ?_); (refine sloadp rfl rfl rfl rfl ?_); (refine slenm rfl rfl ?_); (refine smove rfl ?_); apply jW) | refine ret_b rfl ?_))
 ·by_cases hns : namesOk (g.terms ++ g.nonterms) = true
  ·simp only [hns, Bool.true_eq_false, or_false] at hc
   simp [validG]; omega
  ·simp [validG, hns]
 have hns : namesOk (g.terms ++ g.nonterms) = true := hc.1.1.1.1.2
 have hn2 : g.nonterms.length <= 120 := by omega
 refine wp_loop (fun (i : Nat) => i <= g.rules.length /\ (g.rules.take i).all (ruleOk g) = true) (fun i => g.rules.length - i)
  (fun i => (S 90 [(1, .ptr 0 4 0 0), (52, rulesA g.rules), (53, intA (g.rules.length : Nat)), (54, intA (i : Nat))] 1 [(0, some (.arr 4 [gramA g]))])) 0 ⟨[0], ToR.S rfl (by repeat' (first | exact rt_nil | refine rt_t rfl rfl ?_ | refine rt_e rfl rfl ?_ | refine rt_p rfl rfl (by first | (simp [AV.bd, bdL, bdL_append]; done) | fail) ?_)) (by repeat' (first | exact ro_nil | refine ro_p rfl (by first | exact rfl | fail) zq5 ?_)) rfl (by (rw [hm]; exact rfl)) rfl zq4 zq3 (by (rw [hm]; exact nle rfl))⟩ ⟨Nat.zero_le _, rfl⟩ ?_
 rintro i ⟨hi, hall⟩
 (repeat' (first | apply jA | apply jF | apply jH | apply jI | apply jJ | apply jK | apply jL | apply jM | apply jN | apply jO | apply jP | apply jS | (refine wp_cond rfl (fun hc => ?_) (fun hc => ?_) <;> (try simp only [sB, ne_eq, reduceCtorEq] at hc) <;> (try (exfalso; omega))) | (refine rgC 4 ?_; (refine slss rfl rfl ?_); apply jW) | (refine rgC 5 ?_; (refine sidxn rfl rfl (by omega) ?_); (refine sloadw rfl rfl ?_); (refine se_alloc rfl ?_); (refine se_store_b rfl rfl rfl rfl ?_); apply jW) | (refine rgC 6 ?_; (refine sfieldp rfl rfl rfl ?_); (refine sloadp rfl rfl rfl rfl ?_); (refine slss rfl rfl ?_); (refine smove rfl ?_); (refine sg (gq_vf rfl rfl) (fun he => ap_field_p (rq_p rfl rfl) rfl rfl) ?_); (refine sg (gq_vf rfl rfl) (fun he => ap_load_p (rq_c rfl rfl) rfl rfl rfl) ?_); (refine sg (gq_vf rfl rfl) (fun he => ap_field_p (rq_p rfl rfl) rfl rfl) ?_); (refine sg (gq_vf rfl rfl) (fun he => ap_load_p (rq_c rfl rfl) rfl rfl rfl) ?_); (refine sg (gq_vf rfl rfl) (fun he => ap_len_m rfl (rq_c rfl rfl)) ?_); (refine sg (gq_vf rfl rfl) (fun he => ap_geq (rq_c rfl rfl) (rq_c rfl rfl)) ?_); (refine su (ap_or (rq_p rfl rfl) (rq_c rfl rfl)) ?_); (refine smove rfl ?_); (refine sg (gq_vf rfl rfl) (fun he => ap_field_p (rq_p rfl rfl) rfl rfl) ?_); (refine sg (gq_vf rfl rfl) (fun he => ap_load_p (rq_c rfl rfl) rfl rfl rfl) ?_); (refine sg (gq_vf rfl rfl) (fun he => ap_len_m rfl (rq_c rfl rfl)) ?_); (refine sg (gq_vf rfl rfl) (fun he => ap_gtr (rq_c rfl rfl) (rq_p rfl rfl)) ?_); (refine su (ap_or (rq_p rfl rfl) (rq_c rfl rfl)) ?_); (refine smove rfl ?_); (refine sg (gq_vf rfl rfl) (fun he => ap_field_p (rq_p rfl rfl) rfl rfl) ?_); (refine sg (gq_vf rfl rfl) (fun he => ap_load_p (rq_c rfl rfl) rfl rfl rfl) ?_); (refine sg (gq_vf rfl rfl) (fun he => ap_lss (rq_c rfl rfl) (rq_p rfl rfl)) ?_); (refine su (ap_or (rq_p rfl rfl) (rq_c rfl rfl)) ?_); (refine smove rfl ?_); (refine sg (gq_vf rfl rfl) (fun he => ap_field_p (rq_p rfl rfl) rfl rfl) ?_); (refine sg (gq_vf rfl rfl) (fun he => ap_load_p (rq_c rfl rfl) rfl rfl rfl) ?_); (refine sg (gq_vf rfl rfl) (fun he => ap_gtr (rq_c rfl rfl) (rq_p rfl rfl)) ?_); (refine su (ap_or (rq_p rfl rfl) (rq_c rfl rfl)) ?_); apply jW) | (refine WP.regionC ?_; (refine sassign rfl ?_); apply jW) | (refine rgC 8 ?_; (refine sfieldp rfl rfl rfl ?_); (refine sloadp rfl rfl rfl rfl ?_); (refine su (ap_clo (RqL.nil) (RqL.cons (rq_p rfl rfl) (RqL.nil))) ?_); (refine sc_b rfl rfl (by first | ((repeat' first | exact FzL.nil | refine FzL.cons ?_ ?_ | (exact Fz.reflp (by simp [AV.bd, bdL, bdL_append])) | refine Fz.ptrL rfl rfl ?_ | refine Fz.cloL ?_ ?_); done) | fail) (containsFunc_fn _ _ _ (fun x => !symOk g x) (fun n => by simp [bdL, AV.bd, AV.cells, gramA]) (fun x hx => gvalid1_fn g x hn2)) rfl ?_); apply jW) | (refine rgC 10 ?_; (refine sadd rfl rfl (by exact inr_i64_of (by omega)) ?_); (refine smove rfl ?_); apply jW) | refine ret_b rfl ?_))
 ·rw [validG_no (i := i) (by omega) (by simp [ruleOk]; omega)]
 ·rw [any_not_sym, Bool.not_eq_true'] at hc
  rw [validG_no (i := i) (by omega) (by simp only [ruleOk, hc, Bool.and_false])]
 ·rw [any_not_sym, Bool.not_eq_false'] at hc
  exact ⟨i + 1, ⟨by omega, by omega, take_all_succ (by omega) hall (by simp only [ruleOk, hc, Bool.and_true]; simp; omega)⟩, ⟨[0], ToR.S rfl (by repeat' (first | exact rt_nil | refine rt_t rfl rfl ?_ | refine rt_e rfl rfl ?_ | refine rt_p rfl rfl (by first | (simp [AV.bd, bdL, bdL_append]; done) | fail) ?_)) (by repeat' (first | exact ro_nil | refine ro_p rfl (by first | exact rfl | fail) zq5 ?_)) rfl (by (rw [hm]; exact rfl)) rfl zq4 zq3 (by (rw [hm]; exact nle rfl))⟩⟩
 simp [validG, hns, all_of_take' (by omega) hall]; omega
end Go.Lg
namespace Go.Lg
open Go.Proofs
attribute [local irreducible] Ap Rq asemC WP RunD Ret Gq thenA inBlockA bodyQ noGotoA RqL RqP OpP
attribute [local simp] AV.cells
end Go.Lg
namespace Go.Lg
open Go.RowKit Go.Lib Go.Proofs
theorem SR.val_out {Γ : Cx} {ρ : Nat -> Option Nat} {A : Nat -> Prop} {args : List AV} {us : Array Value} {w' : World} (h : SRa Γ A ρ ⟨args, []⟩ ⟨us, []⟩ Γ.w0) (hA : ∀ id, A id -> id < 0) (hb : Below Γ.w0.heap.size Γ.w0 w') {v : Value} (hat : atom v = true) : SR Γ ⟨[.val v], []⟩ ⟨#[v], []⟩ w' := by
 refine ⟨ρ, fun i hi => absurd (hA i (h.ext i hi).1) (Nat.not_lt_zero i), rfl, fun i x u hx hu => ?_, fun id o hl => by simp [St.live] at hl, fun id o hl => by simp [St.live] at hl, fun id hid => hid, fun id o b hl => by simp [St.live] at hl, fun i j o o' b hl => by simp [St.live] at hl, h.defers.none, h.fr.below hb⟩
 match i with
 | 0 => simp at hx hu; subst hx hu; exact .val hat
 | i + 1 => simp at hx
theorem tab_is {w : World} (hw : GW w) : Lib.TabIs Tryd.prog w "internal/strconv.uint64pow10" .u64 Lib.pow10Tab := by
 have hp : ∃ p, p ∈ gtabs ∧ p.2 = (.u64, Lib.pow10Tab) ∧ Tryd.prog.globalNamed "internal/strconv.uint64pow10" = some p.1 := by
  refine ⟨gtabs.getD 2 (0, .u64, []), ?_, by decide +kernel, by kernel_rfl⟩
  simp [gtabs]
 obtain ⟨⟨i, k, zs⟩, hp1, hp2, hp3⟩ := hp
 obtain ⟨t, z, hh⟩ := hw.2 _ hp1
 simp only [Prod.mk.injEq] at hp2
 obtain ⟨rfl, rfl⟩ := hp2
 unfold Lib.TabIs World.var?
 rw [hp3]
 simp only [Option.bind_some, hh]
theorem itoa_fn (n : Int) (h0 : -9223372036854775808 <= n) (h1 : n <= 9223372036854775807) : Fn Tryd.prog 34 [intA n] (strA ⟨(Lib.itoa n).toArray⟩) := by
 refine ⟨⟨by kernel_rfl, fun Γ us _ hs => ?_⟩, rfl⟩
 obtain ⟨ρ, hs⟩ := hs
 have hl : us.size = 1 := hs.len
 obtain ⟨v, rfl⟩ : ∃ v, us = #[v] := ⟨us[0], by apply Array.ext (by simpa using hl); intro i h1 h2; simp at h2; subst h2; rfl⟩
 have hv : v = .int .i64 n := (hs.tmp 0 _ v rfl rfl).val_eq
 subst hv
 refine (Tryd.strconv_Itoa n h0 h1 Γ.w0 (tab_is Γ.hG)).mono ?_
 rintro e w' ⟨rfl, k, os, rfl⟩
 refine ⟨_, [], _, rfl, ⟨rfl, rfl⟩, SR.val_out hs (fun _ h => h) ?_ rfl⟩
 refine ⟨rfl, rfl, rfl, ?_, fun b hb => ?_⟩
 ·show Γ.w0.heap.size <= (Γ.w0.heap ++ os).size
  simp
 ·show (Γ.w0.heap ++ os)[b]? = Γ.w0.heap[b]?
  rw [Array.getElem?_append_left hb]
end Go.Lg
namespace Go.Lg
open Go.Proofs
attribute [local irreducible] Ap Rq asemC WP RunD Ret Gq thenA inBlockA bodyQ noGotoA RqL RqP OpP
def idxI (l : List Int) (v : Int) : Int := indexP (fun x => decide (v = x)) l
theorem indexI_fn (l : List Int) (v : Int) : Fn Tryd.prog 37 [intsA l, intA v] (intA (idxI l v)) := by
 refine Fn.intro rfl (by kernel_rfl) Tryd.func37 rfl rfl Tryd.ntmps37 (by exact nle rfl) ?_; intro Γ hm
 refine wp_lens 0 rfl fun h0 => ?_
 have h0 : l.length <= 9223372036854775807 := by have := h0; simp [AV.lens, intsA] at this; omega
 (repeat' (first | apply jA | apply jF | apply jH | (refine rgC 0 ?_; (refine sassign rfl ?_); apply jW) | (refine rgC 1 ?_; (refine smove rfl ?_); (refine slenm rfl rfl ?_); (refine smove rfl ?_); apply jW)))
 refine wp_loop (fun k => k <= l.length /\ (l.take k).any (fun x => decide (v = x)) = false) (fun k => l.length - k) (fun k => (S 19 [(0, intsA l), (1, intA v), (7, intA (l.length : Nat)), (8, intA (k : Nat))] 0 [])) 0 ⟨[], ToR.S rfl (by repeat' (first | exact rt_nil | refine rt_e rfl rfl ?_ | refine rt_p rfl rfl (by first | (simp [AV.bd, bdL, bdL_append]; done) | fail) ?_)) (by repeat' (exact ro_nil)) rfl (by (rw [hm]; exact rfl)) rfl zq4 (by repeat' (exact True.intro)) (by (rw [hm]; exact nle rfl))⟩ ⟨Nat.zero_le _, rfl⟩ ?_
 rintro k ⟨hk, hall⟩
 (repeat' (first | apply jA | apply jF | apply jH | apply jI | apply jJ | apply jK | apply jL | apply jM | apply jN | apply jO | apply jP | apply jS | (refine wp_cond rfl (fun hc => ?_) (fun hc => ?_) <;> (try simp only [sB, ne_eq, reduceCtorEq] at hc) <;> (try (exfalso; omega))) | (refine rgC 2 ?_; (refine slss rfl rfl ?_); apply jW) | (refine WP.regionC ?_; (refine smove rfl ?_); (refine sassign rfl ?_); apply jW) | (refine rgC 4 ?_; (refine smove rfl ?_); (refine smove rfl ?_); (refine smove rfl ?_); (refine sidxn rfl rfl (by omega) ?_); (refine sloadw rfl rfl ?_); (refine seql rfl rfl ?_); apply jW) | (refine rgC 6 ?_; (refine sadd rfl rfl (by exact inr_i64_of (by omega)) ?_); (refine smove rfl ?_); apply jW) | (refine rgC 7 ?_; (refine sassign rfl ?_); apply jW) | refine ret_i rfl ?_))
 ·exact (indexP_at (by omega) hall (by simp [hc])).symm
 ·exact ⟨k + 1, ⟨by omega, by omega, take_any_succ (by omega) hall (by simp [hc])⟩, ⟨[], ToR.S rfl (by repeat' (first | exact rt_nil | refine rt_e rfl rfl ?_ | refine rt_p rfl rfl (by first | (simp [AV.bd, bdL, bdL_append]; done) | fail) ?_)) (by repeat' (exact ro_nil)) rfl (by (rw [hm]; exact rfl)) rfl zq4 (by repeat' (exact True.intro)) (by (rw [hm]; exact nle rfl))⟩⟩
 ·exact (indexP_no (by omega) hall).symm
attribute [local simp] AV.cells rdT
end Go.Lg
namespace Go.Lg
open Go.Proofs
attribute [local irreducible] Ap Rq asemC WP RunD Ret Gq thenA inBlockA bodyQ noGotoA RqL RqP OpP
attribute [local simp] AV.cells rdT
def choS (t : ByteArray) (k : Nat) : AV := .agg [strA t, intA k, intA 0, .val (.slice none 0 0)]
@[simp] theorem bd_choS (n : Nat) (t : ByteArray) (k : Nat) : (choS t k).bd n = true := by simp [choS, AV.bd, bdL]
end Go.Lg
