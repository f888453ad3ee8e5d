/-
  Part 16 of the proof of DesugarLanguageCard: the logic over the model, the functions' contracts and the plain laws.
-/
import Derived.Test.YtbjeoainfloiaaaDoorDl15
import Derived.Shelf.Spec.SlicesGrow

set_option linter.unusedSimpArgs false
set_option linter.unusedVariables false
set_option linter.unusedSectionVars false
set_option linter.defProp false

namespace Go.Lg
open Go.RowKit Go.Proofs
set_option linter.unusedSimpArgs false
set_option linter.unusedVariables false
attribute [local irreducible] Ap Rq asemC WP RunD Ret Gq thenA inBlockA bodyQ noGotoA RqL RqP OpP
set_option maxHeartbeats 4000000
set_option maxRecDepth 20000
def ren61 : Go.Shelf.Ren := ⟨fun | 4 => 61 | n => n, fun | 22 => 33 | 25 => 3 | n => n, fun n => n⟩
theorem lays61 : Go.Proofs.Lays8.n4 Tryd.prog ren61 := {
  mixed := by kernel_rfl
  f4 := ⟨Tryd.f61.name, by decide, Tryd.func61.trans (congrArg some (by kernel_rfl))⟩
  t0 := Tryd.underlying0
  a0 := Tryd.isAgg0
  z0 := Tryd.sizeOf0
  v0 := Tryd.zeroValue0
  t3 := Tryd.underlying3
  a3 := Tryd.isAgg3
  z3 := Tryd.sizeOf3
  v3 := Tryd.zeroValue3
  t4 := Tryd.underlying4
  a4 := Tryd.isAgg4
  z4 := Tryd.sizeOf4
  v4 := Tryd.zeroValue4
  t9 := Tryd.underlying9
  a9 := Tryd.isAgg9
  z9 := Tryd.sizeOf9
  v9 := Tryd.zeroValue9
  t20 := Tryd.underlying20
  a20 := Tryd.isAgg20
  z20 := Tryd.sizeOf20
  v20 := Tryd.zeroValue20
  t22 := Tryd.underlying33
  a22 := Tryd.isAgg33
  z22 := Tryd.sizeOf33
  v22 := Tryd.zeroValue33 }
theorem fno_row {P : Program} {g : FuncId} {ys : List AV} {vs : Array Value} {k : Nat} (he : enterable P g = true) (hy : ys.length = vs.size) (hv : ∀ (i : Nat) (x : AV) (v : Value), ys[i]? = some x → vs[i]? = some v → x = .val v)
    (hc : ∀ w : World, Calls P g vs w fun e w' => (e = .returned (.slice none 0 0) ∧ w' = w) ∨ ∃ c t cs, e = .returned (.slice (some ⟨w.heap.size, 0, none⟩) 0 c) ∧ w' = w.drew.alloc (.cells cs t) ∧ cs.size = c * k ∧ c ≤ maxLen) :
    FnO P g ys [] (.ref 0 k 0 0) [some (.arr k [])] := by
  refine ⟨⟨he, fun Γ us hm hs => ?_⟩, by simp, by simp [AV.bd]⟩
  obtain ⟨ρ, hs⟩ := hs
  have hu : us = vs := by
    have hl : us.size = ys.length := hs.len
    refine Array.ext (by omega) fun i h1 h2 => ?_
    have hy1 : ys[i]? = some (ys[i]'(by omega)) := List.getElem?_eq_getElem _
    have hr := hs.tmp i _ _ hy1 (Array.getElem?_eq_getElem h1)
    rw [hv i _ _ hy1 (Array.getElem?_eq_getElem h2)] at hr
    exact hr.val_eq
  subst hu
  have hd : Γ.ds = [] := hs.defers.symm
  have fin : ∀ (w' : World) (v : Value) (ρ' : Nat → Option Nat) (A : Nat → Prop), SRa Γ A ρ' ⟨ys, [some (.arr k [])]⟩ ⟨us, []⟩ w' → (∀ id, A id → id < 1) → A 0 → RV A ρ' (Im Γ ρ' ⟨ys, [some (.arr k [])]⟩ w') w' (.ref 0 k 0 0) v →
      ∃ r objs' v', Ending.returned v = .returned v' ∧ (r = AV.ref 0 k 0 0 ∧ objs' = [some (AObj.arr k [])]) ∧ SR Γ ⟨[r], objs'⟩ ⟨#[v'], []⟩ w' := by
    intro w' v ρ' A h hA h0 hr
    have h := h.more (A' := fun id => id < 1) hA (fun id hid => hid)
    refine ⟨_, _, v, rfl, ⟨rfl, rfl⟩, ρ', h.ext, rfl, ?_, h.obj, h.made, h.bound, h.own, h.inj, hd.symm, h.fr⟩
    intro i x u hx hu
    cases i with
    | zero => simp at hx hu; subst hx hu; exact hr.mono (fun id hid => ⟨hA id hid, rfl⟩) (fun b hb => ⟨hb, rfl⟩) (fun _ _ hn => hn)
    | succ n => simp at hx
  refine (hc Γ.w0).mono fun e w' h => ?_
  rcases h with ⟨rfl, rfl⟩ | ⟨c, t, cs, rfl, rfl, h3, h4⟩
  · exact fin _ _ _ _ (hs.nil' k) (fun id hid => by simpa using hid) (by simp) (.refn (by simp) (by simp))
  · have h1 := (hs.room'.drawn (Γ.w0.drawn + 1)).newRow (nid := 0) (k := k) (es := []) (cs := cs) (by simp) (by simp) t ⟨by simp [flat], by simp, by simp [flat], by simp [flat]⟩
    refine fin _ _ _ _ h1 (fun id hid => ?_) (.inr rfl) (.ref0 (.inr rfl) (by simp) (Nat.zero_le _) ((csize_block (heap_alloc_new _ _)).trans (by rw [h3])) h4)
    rcases hid with h | h
    · simp at h
    · omega
theorem info_int : ∃ i : TypeInfo, Tryd.prog.info? 3 = some i ∧ i.zero = some (.int .i64 0) ∧ i.size = 1 ∧ i.bytes = 8 := info_parts (by kernel_rfl)
theorem grow_fn (n : Nat) (h : n ≤ 17592186044416) : FnO Tryd.prog 61 [.val (.slice none 0 0), .val (.int .i64 n)] [] (.ref 0 1 0 0) [some (.arr 1 [])] := by
  refine fno_row (vs := #[.slice none 0 0, .int .i64 n]) (by decide +kernel) rfl ?_ fun w => ?_
  · intro i x v hx hv
    match i with
    | 0 => simp at hx hv; rw [← hx, ← hv]
    | 1 => simp at hx hv; rw [← hx, ← hv]
    | i + 2 => simp at hx
  · rcases Nat.eq_zero_or_pos n with rfl | hn
    · exact (Any8.slices_Grow_room lays61 none 0 0 0 w (by omega) (by omega) (by omega) (by omega)).mono fun _ _ h => .inl h
    · obtain ⟨i, i1, i2, i3, i4⟩ := info_int
      refine (Any8.slices_Grow_grow lays61 i (.int .i64 0) i1 i2 (by omega) none 0 0 n [] w (by omega) (by omega) ?_ (by omega) (by simp) (fun _ => rfl) (fun a ha => by cases ha)).mono fun _ _ h => .inr ?_
      · rw [i4]; omega
      · obtain ⟨h1, h2⟩ := h
        refine ⟨_, _, _, h1, h2, ?_, ?_⟩
        · have hge := grownCap_ge w n 0 (ren61.t 25)
          simp [size_zeroCells, Value.cells]
          omega
        · exact grownCap_le_maxLen w _ _ _ (by unfold maxLen; omega)
end Go.Lg

namespace Go.Lg
open Go.Proofs
set_option linter.unusedSimpArgs false
set_option linter.unusedVariables false
attribute [local irreducible] Ap Rq asemC WP RunD Ret Gq thenA inBlockA bodyQ noGotoA RqL RqP OpP
set_option maxHeartbeats 1000000
theorem letter18_fn (c : Int) : Fn Tryd.prog 71 [.val (.int .u8 c)] (boolA (letB c)) := by
  refine Fn.intro rfl (by kernel_rfl) Tryd.func71 rfl rfl Tryd.ntmps71 (by exact Nat.le_of_ble_eq_true rfl) ?_; intro Γ hm
  (repeat' (first | apply jA | apply jH | apply jK | apply jS | (refine WP.regionC (id := 0) ?_; (refine sassign rfl ?_); apply jW) | (refine WP.regionC (id := 1) ?_; (refine smove rfl ?_); (refine su (ageq rfl rfl) ?_); (refine smove rfl ?_); (refine sg (gq_vt rfl rfl) (fun he => ap_move (rq_p rfl rfl)) ?_); (refine sg (gq_vt rfl rfl) (fun he => ap_leq (rq_c rfl rfl) (rq_p rfl rfl)) ?_); (refine su (ap_and (rq_p rfl rfl) (rq_c rfl rfl)) ?_); (refine smove rfl ?_); (refine sg (gq_vf rfl rfl) (fun he => ap_move (rq_p rfl rfl)) ?_); (refine sg (gq_vf rfl rfl) (fun he => ap_geq (rq_c rfl rfl) (rq_p rfl rfl)) ?_); (refine sg (gq_vf rfl rfl) (fun he => ap_move (rq_c rfl rfl)) ?_); (refine sg (gq_ct rfl rfl) (fun he => ap_move (rq_p rfl rfl)) ?_); (refine sg (gq_ct rfl rfl) (fun he => ap_leq (rq_c rfl rfl) (rq_p rfl rfl)) ?_); (refine sg (gq_vf rfl rfl) (fun he => ap_and (rq_c rfl rfl) (rq_c rfl rfl)) ?_); (refine su (ap_or (rq_p rfl rfl) (rq_c rfl rfl)) ?_); (refine sassign rfl ?_); apply jW) | exact ret_eq rfl rfl rfl))
theorem indexFunc_fn (l : List Int) (g : FuncId) (cap : List AV) (p : Int → Bool) (hcap : ∀ n, bdL n cap = true) (h : ∀ x, x ∈ l → Fn Tryd.prog g (intA x :: cap) (boolA (p x))) :
    Fn Tryd.prog 64 [intsA l, .clo (.func g) [] cap] (intA (indexP p l)) := by
  refine Fn.intro rfl (by kernel_rfl) Tryd.func64 rfl rfl Tryd.ntmps64 (by exact Nat.le_of_ble_eq_true rfl) ?_; intro Γ hm
  refine wp_lens 0 rfl fun h0 => ?_
  rw [lens_intsA] at h0
  (repeat' (first | apply jA | apply jF | apply jH | (refine WP.regionC (id := 0) ?_; (refine sassign rfl ?_); apply jW) | (refine WP.regionC (id := 1) ?_; (refine smove rfl ?_); (refine slenm rfl rfl ?_); (refine smove rfl ?_); apply jW)))
  refine wp_loop (fun k => k ≤ l.length ∧ (l.take k).any p = false) (fun k => l.length - k) (fun k => (S 19 [(0, intsA l), (1, .clo (.func g) [] cap), (7, intA (l.length : Nat)), (8, intA (k : Nat))] 0 [])) 0 ⟨[], ToR.S rfl (by repeat' (first | exact rt_nil | refine rt_e rfl rfl ?_ | refine rt_p rfl rfl (by first | (simp [AV.bd, bdL, bdL_append]; done) | (simp [AV.bd, bdL, bdL_append, *]; done) | fail) ?_)) (by repeat' (exact ro_nil)) rfl (by (rw [hm]; exact rfl)) rfl (by simp [bdT, AV.bd, bdL, bdL_append, *]) (by repeat' (exact True.intro)) (by (rw [hm]; exact Nat.le_of_ble_eq_true rfl))⟩ ⟨Nat.zero_le _, rfl⟩ ?_
  rintro k ⟨hk, hall⟩
  (repeat' (first | apply jA | apply jF | apply jH | apply jI | apply jJ | apply jK | apply jL | apply jM | apply jN | apply jO | apply jP | apply jS | (refine wp_cond rfl (fun hc => ?_) (fun hc => ?_) <;> (try simp only [sB, ne_eq, reduceCtorEq] at hc) <;> (try (exfalso; omega))) | (refine WP.regionC (id := 2) ?_; (refine slss rfl rfl ?_); apply jW) | (refine WP.regionC ?_; (refine smove rfl ?_); (refine sassign rfl ?_); apply jW) | (refine WP.regionC (id := 4) ?_; (refine smove rfl ?_); (refine smove rfl ?_); (refine smove rfl ?_); (refine sidxn rfl rfl (by omega) ?_); (refine sloadw rfl rfl ?_); (refine sc_p rfl rfl (by first | ((repeat' first | refine SubL.cons ?_ ?_ | exact SubL.rfl | exact Sub.refl); done) | fail) (by first | (simp [bdL, bdL_append, AV.bd, *]; done) | fail) (h _ (nth_mem (by omega))) ?_); apply jW) | (refine WP.regionC (id := 6) ?_; (refine sadd rfl rfl (by exact inr_i64_of (by omega)) ?_); (refine smove rfl ?_); apply jW) | (refine WP.regionC (id := 7) ?_; (refine sassign rfl ?_); apply jW) | refine ret_i rfl ?_))
  · exact (indexP_at (by omega) hall hc).symm
  · exact ⟨k + 1, ⟨by omega, by omega, take_any_succ (by omega) hall hc⟩, ⟨[], ToR.S rfl (by repeat' (first | exact rt_nil | refine rt_e rfl rfl ?_ | refine rt_p rfl rfl (by first | (simp [AV.bd, bdL, bdL_append]; done) | (simp [AV.bd, bdL, bdL_append, *]; done) | fail) ?_)) (by repeat' (exact ro_nil)) rfl (by (rw [hm]; exact rfl)) rfl (by simp [bdT, AV.bd, bdL, bdL_append, *]) (by repeat' (exact True.intro)) (by (rw [hm]; exact Nat.le_of_ble_eq_true rfl))⟩⟩
  · exact (indexP_no (by omega) hall).symm
theorem containsFunc_fn (l : List Int) (g : FuncId) (cap : List AV) (p : Int → Bool) (hcap : ∀ n, bdL n cap = true) (h : ∀ x, x ∈ l → Fn Tryd.prog g (intA x :: cap) (boolA (p x))) :
    Fn Tryd.prog 49 [intsA l, .clo (.func g) [] cap] (boolA (l.any p)) := by
  refine Fn.intro rfl (by kernel_rfl) Tryd.func49 rfl rfl Tryd.ntmps49 (by exact Nat.le_of_ble_eq_true rfl) ?_; intro Γ hm
  (repeat' (first | apply jA | apply jH | apply jK | apply jS | (refine WP.regionC (id := 0) ?_; (refine sassign rfl ?_); apply jW) | (refine WP.regionC (id := 1) ?_; (refine smove rfl ?_); (refine smove rfl ?_); (refine sc_p rfl rfl (by first | ((repeat' first | exact SubL.nil | refine SubL.cons ?_ ?_ | exact Sub.refl); done) | fail) (by first | (simp [bdL, bdL_append, AV.bd, *]; done) | fail) (indexFunc_fn _ _ _ p hcap h) ?_); (refine su (ageq rfl rfl) ?_); (refine sassign rfl ?_); apply jW) | refine ret_b rfl ?_))
  exact indexP_any
end Go.Lg

namespace Go.Lg
open Go.Proofs
set_option linter.unusedSimpArgs false
set_option linter.unusedVariables false
attribute [local irreducible] Ap Rq asemC WP RunD Ret Gq thenA inBlockA bodyQ noGotoA RqL RqP OpP
set_option maxHeartbeats 4000000
theorem contains_fn (s sub : ByteArray) (hs : s.size < 4294967281) : Fn Tryd.prog 72 [.val (.string s), .val (.string sub)] (.val (.bool (Lib.contains s.data.toList sub.data.toList))) := by
  refine Fn.of_same (vs := [.string s, .string sub]) (by kernel_rfl) rfl fun w hw => ?_
  obtain ⟨m, hm⟩ := hw.1 (gints.getD 0 (0, .i64)) (by simp [gints])
  exact Tryd.strings_Contains s sub m w hs hm
def encOk (n : Nat) : Bool := Lib.contains [95, 46, 64] (Utf8.encode (n : Int)).data.toList == (decide ((n : Int) = 95) || decide ((n : Int) = 46) || decide ((n : Int) = 64))
theorem encOk_all : (List.range 256).all encOk = true := by kernel_rfl
theorem enc_byte (c : UInt8) : Lib.contains [95, 46, 64] (Utf8.encode c.toNat).data.toList = (decide ((c.toNat : Int) = 95) || decide ((c.toNat : Int) = 46) || decide ((c.toNat : Int) = 64)) := by
  have h := List.all_eq_true.1 encOk_all c.toNat (List.mem_range.2 c.toNat_lt)
  simpa [encOk] using h
def nameB (c : Int) : Bool := letB c || digB c || decide (c = 95) || decide (c = 46) || decide (c = 64)
theorem nth_bAt (s : ByteArray) (i : Nat) : ((nth s.data.toList i).toNat : Int) = bAt s i := rfl
theorem nameOk_of {s : ByteArray} (h0 : 0 < s.size) (h1 : s.size ≤ 48) (h2 : letB (bAt s 0) = true) (h : ∀ i, i < s.size → nameB (bAt s i) = true) : nameOk s = true := by
  simp only [nameOk, Bool.and_eq_true, decide_eq_true_eq, List.all_eq_true, List.mem_range]
  refine ⟨⟨h0, h1⟩, fun i hi => ?_⟩
  simp only [nameCh]
  by_cases e : i = 0
  · subst e; simp [h2]
  · have := h i hi
    simp only [nameB, Bool.or_assoc] at this
    simpa [e, Bool.or_assoc] using this
theorem nameOk_no {s : ByteArray} {i : Nat} (hi : i < s.size) (h : nameB (bAt s i) = false) : nameOk s = false := by
  have : nameCh s i = false := by
    simp only [nameB, Bool.or_eq_false_iff] at h
    simp only [nameCh, h.1.1.1.1, h.1.1.1.2, h.1.1.2, h.1.2, h.2, Bool.or_false, Bool.and_false, Bool.false_or]
  simp only [nameOk, range_all_no hi this, Bool.and_false]
theorem gname_fn (s : ByteArray) : Fn Tryd.prog 63 [strA s] (boolA (nameOk s)) := by
  refine Fn.intro rfl (by kernel_rfl) Tryd.func63 rfl rfl Tryd.ntmps63 (by exact Nat.le_of_ble_eq_true rfl) ?_; intro Γ hm
  by_cases hs : s.size = 0
  · have : s = ⟨#[]⟩ := by
      obtain ⟨⟨l⟩⟩ := s
      have : l = [] := List.eq_nil_of_length_eq_zero (by simpa [ByteArray.size] using hs)
      subst this; rfl
    subst this
    (repeat' (first | apply jA | apply jF | apply jH | apply jI | apply jK | apply jM | apply jS | (refine wp_cond rfl (fun hc => ?_) (fun hc => ?_) <;> (try simp only [sB, ne_eq, reduceCtorEq] at hc) <;> (try (exfalso; omega))) | (refine WP.regionC ?_; (refine sassign rfl ?_); apply jW) | (refine WP.regionC (id := 1) ?_; (refine smove rfl ?_); (refine seqs rfl rfl ?_); (refine smove rfl ?_); (refine sg (gq_vf rfl rfl) (fun he => ap_move (rq_p rfl rfl)) ?_); (refine sg (gq_vf rfl rfl) (fun he => ap_len_str rfl (rq_c rfl rfl)) ?_); (refine sg (gq_vf rfl rfl) (fun he => ap_gtr (rq_c rfl rfl) (rq_p rfl rfl)) ?_); (refine su (ap_or (rq_p rfl rfl) (rq_c rfl rfl)) ?_); (refine smove rfl ?_); (refine sg (gq_vf rfl rfl) (fun he => ap_move (rq_p rfl rfl)) ?_); (refine sg (gq_vf rfl rfl) (fun he => ap_sidx_n (rq_c rfl rfl) (rq_p rfl rfl) rfl (by (try simp only [sH, id, sB, ne_eq, reduceCtorEq] at he); (exfalso; simp at he; done))) ?_); (refine sg_p (gq_vf rfl rfl) (fun he => ⟨(rq_p rfl rfl), (RqL.cons (rq_c rfl rfl) (RqL.nil)), (by first | ((repeat' first | exact SubL.nil | refine SubL.cons ?_ ?_ | exact Sub.refl); done) | fail), (by first | (simp [bdL, bdL_append, AV.bd]; done) | fail), letter18_fn _⟩) ?_); (refine sg (gq_vf rfl rfl) (fun he => ap_not (rq_c rfl rfl)) ?_); (refine su (ap_or (rq_p rfl rfl) (rq_c rfl rfl)) ?_); apply jW) | (refine WP.regionC (id := 3) ?_; (refine smove rfl ?_); (refine se_s2b (by kernel_rfl) rfl (by omega) ?_); (refine slenm rfl rfl ?_); (refine smove rfl ?_); apply jW) | exact ret_eq rfl rfl rfl))
    simp at hc
  have hb0 := bAt_bd s 0
  have hne : ¬ s = ⟨#[]⟩ := by rintro rfl; exact hs rfl
  have hlen : s.data.toList.length = s.size := by simp
  (repeat' (first | apply jA | apply jF | apply jH | apply jI | apply jK | apply jM | apply jS | (refine wp_cond rfl (fun hc => ?_) (fun hc => ?_) <;> (try simp only [sB, ne_eq, reduceCtorEq] at hc) <;> (try (exfalso; omega))) | (refine WP.regionC ?_; (refine sassign rfl ?_); apply jW) | (refine WP.regionC (id := 1) ?_; (refine smove rfl ?_); (refine seqs rfl rfl ?_); (refine smove rfl ?_); (refine sg (gq_vf rfl rfl) (fun he => ap_move (rq_p rfl rfl)) ?_); (refine sg (gq_vf rfl rfl) (fun he => ap_len_str rfl (rq_c rfl rfl)) ?_); (refine sg (gq_vf rfl rfl) (fun he => ap_gtr (rq_c rfl rfl) (rq_p rfl rfl)) ?_); (refine su (ap_or (rq_p rfl rfl) (rq_c rfl rfl)) ?_); (refine smove rfl ?_); (refine sg (gq_vf rfl rfl) (fun he => ap_move (rq_p rfl rfl)) ?_); (refine sg (gq_vf rfl rfl) (fun he => ap_sidx_n (rq_c rfl rfl) (rq_p rfl rfl) rfl (by (try simp only [sH, id, sB, ne_eq, reduceCtorEq] at he); (simp only [sL] <;> omega))) ?_); (refine sg_p (gq_vf rfl rfl) (fun he => ⟨(rq_p rfl rfl), (RqL.cons (rq_c rfl rfl) (RqL.nil)), (by first | ((repeat' first | exact SubL.nil | refine SubL.cons ?_ ?_ | exact Sub.refl); done) | fail), (by first | (simp [bdL, bdL_append, AV.bd]; done) | fail), letter18_fn _⟩) ?_); (refine sg (gq_vf rfl rfl) (fun he => ap_not (rq_c rfl rfl)) ?_); (refine su (ap_or (rq_p rfl rfl) (rq_c rfl rfl)) ?_); apply jW) | (refine WP.regionC (id := 3) ?_; (refine smove rfl ?_); (refine se_s2b (by kernel_rfl) rfl (by omega) ?_); (refine slenm rfl rfl ?_); (refine smove rfl ?_); apply jW) | refine ret_b rfl ?_))
  · rcases hc with (hc | hc) | hc
    · exact absurd hc hne
    · simp [nameOk]; omega
    · have : nameCh s 0 = false := by simp [nameCh, hc]
      simp only [nameOk, range_all_no (k := 0) (n := s.size) (by omega) this, Bool.and_false]
  obtain ⟨⟨_, h48⟩, hl0⟩ := hc
  refine wp_loop (fun (k : Nat) => k ≤ s.size ∧ ∀ i, i < k → nameB (bAt s i) = true) (fun k => s.size - k)
    (fun k => (S 43 [(19, .sl 1 (s.data.toList.map byteA)), (20, intA (s.data.toList.length : Nat)), (21, intA (k : Nat))] 0 [])) 0 ⟨[], ToR.S rfl (by repeat' (first | exact rt_nil | refine rt_e rfl rfl ?_ | refine rt_p rfl rfl (by first | (simp [AV.bd, bdL, bdL_append]; done) | fail) ?_)) (by repeat' (exact ro_nil)) rfl (by (rw [hm]; exact rfl)) rfl (by (simp [bdT, AV.bd, bdL, bdL_append]; done)) (by repeat' (exact True.intro)) (by (rw [hm]; exact Nat.le_of_ble_eq_true rfl))⟩ ⟨Nat.zero_le _, by simp⟩ ?_
  rintro k ⟨hk, hall⟩
  by_cases hlt : k < s.size
  · have hbk := bAt_bd s k
    have hlt' : k < s.data.toList.length := by omega
    have hnb := nth_bAt s k
    (repeat' (first | apply jA | apply jF | apply jH | apply jI | apply jK | apply jM | apply jN | apply jO | apply jS | (refine wp_cond rfl (fun hc => ?_) (fun hc => ?_) <;> (try simp only [sB, ne_eq, reduceCtorEq] at hc) <;> (try (exfalso; omega))) | (refine WP.regionC (id := 4) ?_; (refine slss rfl rfl ?_); apply jW) | (refine WP.regionC (id := 5) ?_; (refine sidxn rfl rfl (by omega) ?_); (refine sloadw rfl rfl ?_); (refine sassign rfl ?_); apply jW) | (refine WP.regionC (id := 6) ?_; (refine smove rfl ?_); (refine sc_p rfl rfl (by first | ((repeat' first | exact SubL.nil | refine SubL.cons ?_ ?_ | exact Sub.refl); done) | fail) (by first | (simp [bdL, bdL_append, AV.bd]; done) | fail) (letter18_fn _) ?_); (refine su (anot rfl) ?_); (refine smove rfl ?_); (refine sg (gq_vt rfl rfl) (fun he => ap_move (rq_p rfl rfl)) ?_); (refine sg (gq_vt rfl rfl) (fun he => ap_lss (rq_c rfl rfl) (rq_p rfl rfl)) ?_); (refine sg (gq_vt rfl rfl) (fun he => ap_move (rq_c rfl rfl)) ?_); (refine sg (gq_cf rfl rfl) (fun he => ap_move (rq_p rfl rfl)) ?_); (refine sg (gq_cf rfl rfl) (fun he => ap_gtr (rq_c rfl rfl) (rq_p rfl rfl)) ?_); (refine sg (gq_vt rfl rfl) (fun he => ap_or (rq_c rfl rfl) (rq_c rfl rfl)) ?_); (refine su (ap_and (rq_p rfl rfl) (rq_c rfl rfl)) ?_); (refine smove rfl ?_); (refine sg (gq_vt rfl rfl) (fun he => ap_move (rq_p rfl rfl)) ?_); (refine sg (gq_vt rfl rfl) (fun he => ap_conv_is (rq_c rfl rfl) rfl rfl (by kernel_rfl)) ?_); (refine sg_p (gq_vt rfl rfl) (fun he => ⟨(rq_p rfl rfl), (RqL.cons (rq_p rfl rfl) (RqL.cons (rq_c rfl rfl) (RqL.nil))), (by first | ((repeat' first | exact SubL.nil | refine SubL.cons ?_ ?_ | exact Sub.refl); done) | fail), (by first | (simp [bdL, bdL_append, AV.bd]; done) | fail), contains_fn _ _ (by decide)⟩) ?_); (refine sg (gq_vt rfl rfl) (fun he => ap_not (rq_c rfl rfl)) ?_); (refine su (ap_and (rq_p rfl rfl) (rq_c rfl rfl)) ?_); apply jW) | (refine WP.regionC (id := 7) ?_; (refine sassign rfl ?_); apply jW) | (refine WP.regionC (id := 8) ?_; (refine sadd rfl rfl (by exact inr_i64_of (by omega)) ?_); (refine smove rfl ?_); apply jW) | refine ret_b rfl ?_))
    · obtain ⟨⟨h1, h2⟩, h3⟩ := hc
      rw [enc_byte, hnb] at h3
      rw [hnb] at h1 h2
      simp only [Bool.or_eq_false_iff] at h3
      rw [nameOk_no hlt]
      simp only [nameB, h1, h3.1.1, h3.1.2, h3.2, Bool.or_false, Bool.false_or, digB]
      simp; omega
    · refine ⟨k + 1, ⟨by omega, by omega, fun i hi => ?_⟩, ⟨[], ToR.S rfl (by repeat' (first | exact rt_nil | refine rt_e rfl rfl ?_ | refine rt_p rfl rfl (by first | (simp [AV.bd, bdL, bdL_append]; done) | fail) ?_)) (by repeat' (exact ro_nil)) rfl (by (rw [hm]; exact rfl)) rfl (by (simp [bdT, AV.bd, bdL, bdL_append]; done)) (by repeat' (exact True.intro)) (by (rw [hm]; exact Nat.le_of_ble_eq_true rfl))⟩⟩
      by_cases e : i = k
      · subst e
        rw [enc_byte, hnb] at hc
        simp only [nameB, digB]
        simp only [Bool.or_eq_true, Bool.and_eq_true, decide_eq_true_eq] at hc ⊢
        rcases hc with (hc | hc) | (hc | hc) | hc
        · simp [hc]
        · simp [hc]
        · simp [hc]
        · simp [hc]
        · simp [hc]
      · exact hall i (by omega)
  · (repeat' (first | apply jA | apply jH | apply jJ | apply jK | apply jL | apply jP | apply jS | (refine wp_cond rfl (fun hc => ?_) (fun hc => ?_) <;> (try simp only [sB, ne_eq, reduceCtorEq] at hc) <;> (try (exfalso; omega))) | (refine WP.regionC (id := 4) ?_; (refine slss rfl rfl ?_); apply jW) | (refine WP.regionC (id := 9) ?_; (refine sassign rfl ?_); apply jW) | refine ret_b rfl ?_))
    rw [nameOk_of (by omega) (by omega) hl0 fun i hi => hall i (by omega)]
end Go.Lg

namespace Go.Lg
open Go.Proofs
set_option linter.unusedSimpArgs false
set_option linter.unusedVariables false
attribute [local irreducible] Ap Rq asemC WP RunD Ret Gq thenA inBlockA bodyQ noGotoA RqL RqP OpP
set_option maxHeartbeats 4000000
structure Seen (m : List (ByteArray × Unit)) (l : List ByteArray) : Prop where
  ok : ∀ x, x ∈ l → nameOk x = true
  nd : l.Nodup
  mem : ∀ x, (aget m x).isSome = true ↔ x ∈ l
theorem Seen.nil : Seen [] [] := ⟨by simp, by simp, by simp [aget, afind]⟩
theorem Seen.add {m : List (ByteArray × Unit)} {l : List ByteArray} {x : ByteArray} (h : Seen m l) (h1 : (aget m x).isSome = false) (h2 : nameOk x = true) : Seen (aset m x ()) (l ++ [x]) := by
  have hx : x ∉ l := fun e => by have := (h.mem x).2 e; rw [h1] at this; cases this
  refine ⟨fun y hy => ?_, ?_, fun y => ?_⟩
  · rcases List.mem_append.1 hy with hy | hy
    · exact h.ok y hy
    · rw [List.mem_singleton.1 hy]; exact h2
  · rw [List.nodup_append]; exact ⟨h.nd, by simp, fun a ha b hb => by rw [List.mem_singleton.1 hb]; rintro rfl; exact hx ha⟩
  · rw [aget_aset]
    by_cases e : y = x
    · subst e; simp
    · rw [if_neg e, h.mem y]; simp [e]
theorem Seen.all {m : List (ByteArray × Unit)} {l : List ByteArray} (h : Seen m l) : namesOk l = true := by
  simp only [namesOk, Bool.and_eq_true, decide_eq_true_eq, List.all_eq_true]; exact ⟨h.ok, h.nd⟩
theorem Seen.no {m : List (ByteArray × Unit)} {l r : List ByteArray} {x : ByteArray} (h : Seen m l) (h1 : (aget m x).isSome = true ∨ nameOk x = false) : namesOk (l ++ x :: r) = false := by
  cases hq : namesOk (l ++ x :: r) with
  | false => rfl
  | true =>
    simp only [namesOk, Bool.and_eq_true, decide_eq_true_eq, List.all_eq_true] at hq
    rcases h1 with h1 | h1
    · have := (h.mem x).1 h1
      exact absurd rfl ((List.nodup_append.1 hq.2).2.2 x this x (by simp))
    · have := hq.1 x (by simp); rw [h1] at this; cases this
theorem take_flatten {α : Type} [Inhabited α] {L : List (List α)} {j : Nat} (h : j < L.length) : (L.take (j + 1)).flatten = (L.take j).flatten ++ nth L j := by
  rw [take_succ_nth h, List.flatten_append]; simp
theorem split_at {α : Type} [Inhabited α] {L : List (List α)} {j k : Nat} (h : j < L.length) (hk : k < (nth L j).length) : ∃ r, L.flatten = ((L.take j).flatten ++ (nth L j).take k) ++ nth (nth L j) k :: r := by
  refine ⟨(nth L j).drop (k + 1) ++ (L.drop (j + 1)).flatten, ?_⟩
  conv => lhs; rw [← List.take_append_drop (j + 1) L, List.flatten_append, take_flatten h]
  conv => lhs; rw [← List.take_append_drop k (nth L j)]
  rw [List.drop_eq_getElem_cons hk, ← nth_eq hk]
  simp
theorem named_fn (g : Gram) (h1 : g.terms.length ≤ 120) (h2 : g.nonterms.length ≤ 120) : Fn Tryd.prog 48 [gramA g] (boolA (namesOk (g.terms ++ g.nonterms))) := by
  refine Fn.intro rfl (by kernel_rfl) Tryd.func48 rfl rfl Tryd.ntmps48 (by exact Nat.le_of_ble_eq_true rfl) ?_; intro Γ hm
  have hfl : [g.terms, g.nonterms].flatten = g.terms ++ g.nonterms := by simp
  have hln : ∀ j, j < 2 → (nth [g.terms, g.nonterms] j).length ≤ 120 := by
    intro j hj
    match j, hj with
    | 0, _ => exact h1
    | 1, _ => exact h2
  have hll : [g.terms, g.nonterms].length = 2 := rfl
  rw [← hfl]
  (repeat' (first | apply jA | apply jF | apply jH | (refine WP.regionC (id := 0) ?_; (refine se_box rfl (by exact ⟨rfl, rfl⟩) ?_); (refine sassign rfl ?_); apply jW) | (refine WP.regionC (id := 1) ?_; (refine se_mkmap ?_); (refine sassign rfl ?_); apply jW) | (refine WP.regionC (id := 2) ?_; (refine sfieldp rfl rfl rfl ?_); (refine sloadp rfl rfl rfl rfl ?_); (refine sfieldp rfl rfl rfl ?_); (refine sloadp rfl rfl rfl rfl ?_); (refine se_lit (OpP.cons rfl (OpP.cons rfl (OpP.nil))) rfl rfl rfl rfl rfl rfl ?_); (refine su (alenr rfl rfl) ?_); (refine smove rfl ?_); apply jW)))
  refine wp_loop (fun (x : Nat × List (ByteArray × Unit)) => x.1 ≤ 2 ∧ Seen x.2 ([g.terms, g.nonterms].take x.1).flatten) (fun x => 2 - x.1)
    (fun x => (S 44 [(3, .map 0), (15, .ref 1 1 0 2), (16, intA (2 : Nat)), (17, intA (x.1 : Nat))] 2 [(0, some (.map (mapA strK unitA x.2))), (1, some (.arr 1 ([g.terms, g.nonterms].map strsA)))])) (0, []) ⟨[1, 2], ToR.S rfl (by repeat' (first | exact rt_nil | refine rt_r rfl rfl ?_ | refine rt_m rfl rfl ?_ | refine rt_e rfl rfl ?_)) (by repeat' (first | exact ro_nil | refine ro_p rfl (by first | exact rfl | fail) (by first | exact bdL_map (fun _ => by simp [AV.bd, bdL, bdL_append]) _ | fail) ?_ | refine ro_m rfl rfl (mapA_bd (fun _ => by exact rfl) _) ?_)) rfl (by (rw [hm]; exact rfl)) rfl (by (simp [bdT, AV.bd, bdL, bdL_append]; done)) (by repeat' (first | exact True.intro | exact rfl | refine And.intro ?_ ?_ | exact bdL_map (fun _ => by simp [AV.bd, bdL, bdL_append]) _)) (by (rw [hm]; exact Nat.le_of_ble_eq_true rfl))⟩ ⟨by decide, Seen.nil⟩ ?_
  rintro ⟨j, m⟩ ⟨hj, hs⟩
  dsimp only at *
  by_cases hlt : j < 2
  · have hjl := hln j hlt
    (repeat' (first | apply jA | apply jF | apply jH | apply jI | (refine wp_cond rfl (fun hc => ?_) (fun hc => ?_) <;> (try simp only [sB, ne_eq, reduceCtorEq] at hc) <;> (try (exfalso; omega))) | (refine WP.regionC (id := 3) ?_; (refine slss rfl rfl ?_); apply jW) | (refine WP.regionC (id := 4) ?_; (refine su (aidxrn rfl rfl (by omega)) ?_); (refine su (aloadpt rfl rfl (by omega) rfl) ?_); (refine sassign rfl ?_); apply jW) | (refine WP.regionC (id := 5) ?_; (refine smove rfl ?_); (refine slenm rfl rfl ?_); (refine smove rfl ?_); apply jW)))
    refine wp_loop (fun (x : Nat × List (ByteArray × Unit)) => x.1 ≤ (nth [g.terms, g.nonterms] j).length ∧ Seen x.2 (([g.terms, g.nonterms].take j).flatten ++ (nth [g.terms, g.nonterms] j).take x.1)) (fun x => (nth [g.terms, g.nonterms] j).length - x.1)
      (fun x => (S 44 [(3, .map 0), (15, .ref 1 1 0 2), (16, intA (2 : Nat)), (17, intA (j : Nat)), (21, strsA (nth [g.terms, g.nonterms] j)), (22, intA ((nth [g.terms, g.nonterms] j).length : Nat)), (23, intA (x.1 : Nat))] 2 [(0, some (.map (mapA strK unitA x.2))), (1, some (.arr 1 ([g.terms, g.nonterms].map strsA)))])) (0, m) ⟨[0, 1], ToR.S rfl (by repeat' (first | exact rt_nil | refine rt_r rfl rfl ?_ | refine rt_m rfl rfl ?_ | refine rt_e rfl rfl ?_ | refine rt_p rfl rfl (by first | (simp [AV.bd, bdL, bdL_append]; done) | fail) ?_)) (by repeat' (first | exact ro_nil | refine ro_p rfl (by first | exact rfl | fail) (by first | exact bdL_map (fun _ => by simp [AV.bd, bdL, bdL_append]) _ | fail) ?_ | refine ro_m rfl rfl (mapA_bd (fun _ => by exact rfl) _) ?_)) rfl (by (rw [hm]; exact rfl)) rfl (by (simp [bdT, AV.bd, bdL, bdL_append]; done)) (by repeat' (first | exact True.intro | exact mapA_all (fun _ => by exact rfl) _ | refine And.intro ?_ ?_ | exact bdL_map (fun _ => by simp [AV.bd, bdL, bdL_append]) _)) (by (rw [hm]; exact Nat.le_of_ble_eq_true rfl))⟩ ⟨Nat.zero_le _, by simpa using hs⟩ ?_
    rintro ⟨k, m2⟩ ⟨hk, hs2⟩
    dsimp only at *
    by_cases hkl : k < (nth [g.terms, g.nonterms] j).length
    · (repeat' (first | apply jA | apply jF | apply jH | apply jI | apply jK | apply jM | apply jN | apply jO | apply jS | (refine wp_cond rfl (fun hc => ?_) (fun hc => ?_) <;> (try simp only [sB, ne_eq, reduceCtorEq] at hc) <;> (try (exfalso; omega))) | (refine WP.regionC (id := 6) ?_; (refine slss rfl rfl ?_); apply jW) | (refine WP.regionC (id := 7) ?_; (refine sidxn rfl rfl (by omega) ?_); (refine sloadw rfl rfl ?_); (refine sassign rfl ?_); apply jW) | (refine WP.regionC (id := 8) ?_; (refine smove rfl ?_); (refine smove rfl ?_); (refine su (ap_look2 (kf := strK) (f := unitA) (z0 := ()) (rq_p rfl rfl) rfl (rq_p rfl rfl) rfl) ?_); (refine smove rfl ?_); (refine su (aextract rfl rfl) ?_); (refine su (aextract rfl rfl) ?_); (refine se_unit_alloc (by kernel_rfl) ?_); (refine se_store_b rfl rfl rfl rfl ?_); (refine sassign rfl ?_); apply jW) | (refine WP.regionC (id := 9) ?_; (refine smove rfl ?_); (refine smove rfl ?_); (refine sg (gq_vf rfl rfl) (fun he => ap_move (rq_p rfl rfl)) ?_); (refine sg_p (gq_vf rfl rfl) (fun he => ⟨(rq_p rfl rfl), (RqL.cons (rq_c rfl rfl) (RqL.nil)), (by first | ((repeat' first | exact SubL.nil | refine SubL.cons ?_ ?_ | exact Sub.refl); done) | fail), (by first | (simp [bdL, bdL_append, AV.bd]; done) | fail), gname_fn _⟩) ?_); (refine sg (gq_vf rfl rfl) (fun he => ap_not (rq_c rfl rfl)) ?_); (refine su (ap_or (rq_p rfl rfl) (rq_c rfl rfl)) ?_); apply jW) | (refine WP.regionC (id := 10) ?_; (refine sassign rfl ?_); apply jW) | (refine WP.regionC (id := 11) ?_; (refine smove rfl ?_); (refine smove rfl ?_); (refine se_unit_build (by kernel_rfl) ?_); (refine se_mapset (kf := strK) (f := unitA) (v := ()) rfl rfl rfl rfl ?_); apply jW) | (refine WP.regionC (id := 12) ?_; (refine sadd rfl rfl (by exact inr_i64_of (by omega)) ?_); (refine smove rfl ?_); apply jW) | refine ret_b rfl ?_))
      · obtain ⟨r, hr⟩ := split_at (L := [g.terms, g.nonterms]) (by omega) hkl
        rw [hr, hs2.no hc]
      · refine ⟨(k + 1, aset m2 (nth (nth [g.terms, g.nonterms] j) k) ()), ⟨by dsimp only; omega, by dsimp only; omega, ?_⟩, ⟨[0, 1], ToR.S rfl (by repeat' (first | exact rt_nil | refine rt_r rfl rfl ?_ | refine rt_m rfl rfl ?_ | refine rt_e rfl rfl ?_ | refine rt_p rfl rfl (by first | (simp [AV.bd, bdL, bdL_append]; done) | fail) ?_)) (by repeat' (first | exact ro_nil | refine ro_p rfl (by first | exact rfl | fail) (by first | exact bdL_map (fun _ => by simp [AV.bd, bdL, bdL_append]) _ | fail) ?_ | refine ro_m rfl rfl (mapA_bd (fun _ => by exact rfl) _) ?_)) rfl (by (rw [hm]; exact rfl)) rfl (by (simp [bdT, AV.bd, bdL, bdL_append]; done)) (by repeat' (first | exact True.intro | exact mapA_all (fun _ => by exact rfl) _ | refine And.intro ?_ ?_ | exact bdL_map (fun _ => by simp [AV.bd, bdL, bdL_append]) _)) (by (rw [hm]; exact Nat.le_of_ble_eq_true rfl))⟩⟩
        have := hs2.add hc.1 hc.2
        rw [List.append_assoc, ← take_succ_nth hkl] at this
        exact this
    · (repeat' (first | apply jA | apply jH | apply jJ | apply jL | apply jN | apply jP | (refine wp_cond rfl (fun hc => ?_) (fun hc => ?_) <;> (try simp only [sB, ne_eq, reduceCtorEq] at hc) <;> (try (exfalso; omega))) | (refine WP.regionC (id := 6) ?_; (refine slss rfl rfl ?_); apply jW) | (refine WP.regionC (id := 13) ?_; (refine sadd rfl rfl (by exact inr_i64_of (by omega)) ?_); (refine smove rfl ?_); apply jW)))
      refine ⟨(j + 1, m2), ⟨by dsimp only; omega, by dsimp only; omega, ?_⟩, ⟨[0, 1], ToR.S rfl (by repeat' (first | exact rt_nil | refine rt_r rfl rfl ?_ | refine rt_m rfl rfl ?_ | refine rt_e rfl rfl ?_)) (by repeat' (first | exact ro_nil | refine ro_p rfl (by first | exact rfl | fail) (by first | exact bdL_map (fun _ => by simp [AV.bd, bdL, bdL_append]) _ | fail) ?_ | refine ro_m rfl rfl (mapA_bd (fun _ => by exact rfl) _) ?_)) rfl (by (rw [hm]; exact rfl)) rfl (by (simp [bdT, AV.bd, bdL, bdL_append]; done)) (by repeat' (first | exact True.intro | exact mapA_all (fun _ => by exact rfl) _ | refine And.intro ?_ ?_ | exact bdL_map (fun _ => by simp [AV.bd, bdL, bdL_append]) _)) (by (rw [hm]; exact Nat.le_of_ble_eq_true rfl))⟩⟩
      dsimp only
      rw [take_flatten (by omega)]
      rw [List.take_of_length_le (l := nth [g.terms, g.nonterms] j) (by omega)] at hs2
      exact hs2
  · (repeat' (first | apply jA | apply jH | apply jJ | apply jK | apply jL | apply jP | apply jS | (refine wp_cond rfl (fun hc => ?_) (fun hc => ?_) <;> (try simp only [sB, ne_eq, reduceCtorEq] at hc) <;> (try (exfalso; omega))) | (refine WP.regionC (id := 3) ?_; (refine slss rfl rfl ?_); apply jW) | (refine WP.regionC (id := 14) ?_; (refine sassign rfl ?_); apply jW) | refine ret_b rfl ?_))
    rw [List.take_of_length_le (by omega)] at hs
    exact hs.all.symm
theorem gvalid1_fn (g : Gram) (x : Int) (hn : g.nonterms.length ≤ 120) : Fn Tryd.prog 50 [intA x, .iptr (gramA g).cells 0] (boolA (!symOk g x)) := by
  refine Fn.intro rfl (by kernel_rfl) Tryd.func50 rfl rfl Tryd.ntmps50 (by exact Nat.le_of_ble_eq_true rfl) ?_; intro Γ hm
  (repeat' (first | apply jA | apply jH | apply jK | apply jS | (refine WP.regionC (id := 0) ?_; (refine sassign rfl ?_); apply jW) | (refine WP.regionC (id := 1) ?_; (refine smove rfl ?_); (refine su (afieldi rfl rfl rfl) ?_); (refine su (aloadi rfl rfl) ?_); (refine slenm rfl rfl ?_); (refine su (ageq rfl rfl) ?_); (refine smove rfl ?_); (refine sg (gq_vf rfl rfl) (fun he => ap_move (rq_p rfl rfl)) ?_); (refine sg (gq_vf rfl rfl) (fun he => ap_field_i (rq_p rfl rfl) rfl rfl) ?_); (refine sg (gq_vf rfl rfl) (fun he => ap_load_i (rq_c rfl rfl) rfl) ?_); (refine sg (gq_vf rfl rfl) (fun he => ap_len_m rfl (rq_c rfl rfl)) ?_); (refine sg (gq_vf rfl rfl) (fun he => ap_neg (rq_c rfl rfl) (by (try simp only [sH, id, sB, ne_eq, reduceCtorEq] at he); exact inr_i64_of (by omega))) ?_); (refine sg (gq_vf rfl rfl) (fun he => ap_lss (rq_c rfl rfl) (rq_c rfl rfl)) ?_); (refine su (ap_or (rq_p rfl rfl) (rq_c rfl rfl)) ?_); (refine sassign rfl ?_); apply jW) | refine ret_b rfl ?_))
  simp only [symOk]
  rw [Bool.eq_iff_iff]
  simp
  try omega
theorem any_not_sym {g : Gram} {l : List Int} : l.any (fun x => !symOk g x) = !l.all (symOk g) := by
  induction l with
  | nil => rfl
  | cons x l ih => simp only [List.any_cons, List.all_cons, ih, Bool.not_and]
theorem gvalid18_fn (g : Gram) : Fn Tryd.prog 29 [gramA g] (boolA (validG g)) := by
  refine Fn.intro rfl (by kernel_rfl) Tryd.func29 rfl rfl Tryd.ntmps29 (by exact Nat.le_of_ble_eq_true rfl) ?_; intro Γ hm
  refine wp_lens 0 rfl fun hl => ?_
  obtain ⟨hl1, hl2, hl3, hl4⟩ := (lens_gramA g).1 hl
  (repeat' (first | apply jA | apply jF | apply jH | apply jI | apply jK | apply jM | apply jS | (refine wp_cond rfl (fun hc => ?_) (fun hc => ?_) <;> (try simp only [sB, ne_eq, reduceCtorEq] at hc) <;> (try (exfalso; omega))) | (refine WP.regionC (id := 0) ?_; (refine se_box rfl (by exact ⟨rfl, rfl⟩) ?_); (refine sassign rfl ?_); apply jW) | (refine WP.regionC (id := 1) ?_; (refine sfieldp rfl rfl rfl ?_); (refine sloadp rfl rfl rfl rfl ?_); (refine slenm rfl rfl ?_); (refine su (agtr rfl rfl) ?_); (refine smove rfl ?_); (refine sg (gq_vf rfl rfl) (fun he => ap_field_p (rq_p rfl rfl) rfl rfl) ?_); (refine sg (gq_vf rfl rfl) (fun he => ap_load_p (rq_c rfl rfl) rfl rfl rfl) ?_); (refine sg (gq_vf rfl rfl) (fun he => ap_len_m rfl (rq_c rfl rfl)) ?_); (refine sg (gq_vf rfl rfl) (fun he => ap_lss (rq_c rfl rfl) (rq_p rfl rfl)) ?_); (refine su (ap_or (rq_p rfl rfl) (rq_c rfl rfl)) ?_); (refine smove rfl ?_); (refine sg (gq_vf rfl rfl) (fun he => ap_field_p (rq_p rfl rfl) rfl rfl) ?_); (refine sg (gq_vf rfl rfl) (fun he => ap_load_p (rq_c rfl rfl) rfl rfl rfl) ?_); (refine sg (gq_vf rfl rfl) (fun he => ap_len_m rfl (rq_c rfl rfl)) ?_); (refine sg (gq_vf rfl rfl) (fun he => ap_gtr (rq_c rfl rfl) (rq_p rfl rfl)) ?_); (refine su (ap_or (rq_p rfl rfl) (rq_c rfl rfl)) ?_); (refine smove rfl ?_); (refine sg (gq_vf rfl rfl) (fun he => ap_load_pw (rq_p rfl rfl) rfl rfl rfl) ?_); (refine sg_p (gq_vf rfl rfl) (fun he => ⟨(rq_p rfl rfl), (RqL.cons (rq_c rfl rfl) (RqL.nil)), (by first | ((repeat' first | exact SubL.nil | refine SubL.cons ?_ ?_ | exact Sub.refl); done) | fail), (by first | (simp [bdL, bdL_append, AV.bd]; done) | fail), named_fn _ (by (try simp only [sH, id, sB, ne_eq, reduceCtorEq] at he); omega) (by (try simp only [sH, id, sB, ne_eq, reduceCtorEq] at he); omega)⟩) ?_); (refine sg (gq_vf rfl rfl) (fun he => ap_not (rq_c rfl rfl)) ?_); (refine su (ap_or (rq_p rfl rfl) (rq_c rfl rfl)) ?_); (refine smove rfl ?_); (refine sg (gq_vf rfl rfl) (fun he => ap_field_p (rq_p rfl rfl) rfl rfl) ?_); (refine sg (gq_vf rfl rfl) (fun he => ap_load_p (rq_c rfl rfl) rfl rfl rfl) ?_); (refine sg (gq_vf rfl rfl) (fun he => ap_lss (rq_c rfl rfl) (rq_p rfl rfl)) ?_); (refine su (ap_or (rq_p rfl rfl) (rq_c rfl rfl)) ?_); (refine smove rfl ?_); (refine sg (gq_vf rfl rfl) (fun he => ap_field_p (rq_p rfl rfl) rfl rfl) ?_); (refine sg (gq_vf rfl rfl) (fun he => ap_load_p (rq_c rfl rfl) rfl rfl rfl) ?_); (refine sg (gq_vf rfl rfl) (fun he => ap_field_p (rq_p rfl rfl) rfl rfl) ?_); (refine sg (gq_vf rfl rfl) (fun he => ap_load_p (rq_c rfl rfl) rfl rfl rfl) ?_); (refine sg (gq_vf rfl rfl) (fun he => ap_len_m rfl (rq_c rfl rfl)) ?_); (refine sg (gq_vf rfl rfl) (fun he => ap_geq (rq_c rfl rfl) (rq_c rfl rfl)) ?_); (refine su (ap_or (rq_p rfl rfl) (rq_c rfl rfl)) ?_); (refine smove rfl ?_); (refine sg (gq_vf rfl rfl) (fun he => ap_field_p (rq_p rfl rfl) rfl rfl) ?_); (refine sg (gq_vf rfl rfl) (fun he => ap_load_p (rq_c rfl rfl) rfl rfl rfl) ?_); (refine sg (gq_vf rfl rfl) (fun he => ap_len_m rfl (rq_c rfl rfl)) ?_); (refine sg (gq_vf rfl rfl) (fun he => ap_lss (rq_c rfl rfl) (rq_p rfl rfl)) ?_); (refine su (ap_or (rq_p rfl rfl) (rq_c rfl rfl)) ?_); (refine smove rfl ?_); (refine sg (gq_vf rfl rfl) (fun he => ap_field_p (rq_p rfl rfl) rfl rfl) ?_); (refine sg (gq_vf rfl rfl) (fun he => ap_load_p (rq_c rfl rfl) rfl rfl rfl) ?_); (refine sg (gq_vf rfl rfl) (fun he => ap_len_m rfl (rq_c rfl rfl)) ?_); (refine sg (gq_vf rfl rfl) (fun he => ap_gtr (rq_c rfl rfl) (rq_p rfl rfl)) ?_); (refine su (ap_or (rq_p rfl rfl) (rq_c rfl rfl)) ?_); apply jW) | (refine WP.regionC (id := 2) ?_; (refine sassign rfl ?_); apply jW) | (refine WP.regionC (id := 3) ?_; (refine sfieldp rfl rfl rfl ?_); (refine sloadp rfl rfl rfl rfl ?_); (refine slenm rfl rfl ?_); (refine smove rfl ?_); apply jW) | refine ret_b rfl ?_))
  · by_cases hns : namesOk (g.terms ++ g.nonterms) = true
    · simp only [hns, Bool.true_eq_false, or_false] at hc
      simp [validG]; omega
    · simp [validG, hns]
  have hns : namesOk (g.terms ++ g.nonterms) = true := hc.1.1.1.1.2
  have hn2 : g.nonterms.length ≤ 120 := by omega
  refine wp_loop (fun (i : Nat) => i ≤ g.rules.length ∧ (g.rules.take i).all (ruleOk g) = true) (fun i => g.rules.length - i)
    (fun i => (S 90 [(1, .ptr 0 4 0 0), (52, rulesA g.rules), (53, intA (g.rules.length : Nat)), (54, intA (i : Nat))] 1 [(0, some (.arr 4 [gramA g]))])) 0 ⟨[0], ToR.S rfl (by repeat' (first | exact rt_nil | refine rt_t rfl rfl ?_ | refine rt_e rfl rfl ?_ | refine rt_p rfl rfl (by first | (simp [AV.bd, bdL, bdL_append]; done) | fail) ?_)) (by repeat' (first | exact ro_nil | refine ro_p rfl (by first | exact rfl | fail) (by first | (simp [bdL, bdL_append, AV.bd]; done) | fail) ?_)) rfl (by (rw [hm]; exact rfl)) rfl (by (simp [bdT, AV.bd, bdL, bdL_append]; done)) (by repeat' (first | exact True.intro | refine And.intro ?_ ?_ | (simp [bdOq, bdL, bdL_append, AV.bd]; done))) (by (rw [hm]; exact Nat.le_of_ble_eq_true rfl))⟩ ⟨Nat.zero_le _, rfl⟩ ?_
  rintro i ⟨hi, hall⟩
  (repeat' (first | apply jA | apply jF | apply jH | apply jI | apply jJ | apply jK | apply jL | apply jM | apply jN | apply jO | apply jP | apply jS | (refine wp_cond rfl (fun hc => ?_) (fun hc => ?_) <;> (try simp only [sB, ne_eq, reduceCtorEq] at hc) <;> (try (exfalso; omega))) | (refine WP.regionC (id := 4) ?_; (refine slss rfl rfl ?_); apply jW) | (refine WP.regionC (id := 5) ?_; (refine sidxn rfl rfl (by omega) ?_); (refine sloadw rfl rfl ?_); (refine se_alloc rfl ?_); (refine se_store_b rfl rfl rfl rfl ?_); apply jW) | (refine WP.regionC (id := 6) ?_; (refine sfieldp rfl rfl rfl ?_); (refine sloadp rfl rfl rfl rfl ?_); (refine slss rfl rfl ?_); (refine smove rfl ?_); (refine sg (gq_vf rfl rfl) (fun he => ap_field_p (rq_p rfl rfl) rfl rfl) ?_); (refine sg (gq_vf rfl rfl) (fun he => ap_load_p (rq_c rfl rfl) rfl rfl rfl) ?_); (refine sg (gq_vf rfl rfl) (fun he => ap_field_p (rq_p rfl rfl) rfl rfl) ?_); (refine sg (gq_vf rfl rfl) (fun he => ap_load_p (rq_c rfl rfl) rfl rfl rfl) ?_); (refine sg (gq_vf rfl rfl) (fun he => ap_len_m rfl (rq_c rfl rfl)) ?_); (refine sg (gq_vf rfl rfl) (fun he => ap_geq (rq_c rfl rfl) (rq_c rfl rfl)) ?_); (refine su (ap_or (rq_p rfl rfl) (rq_c rfl rfl)) ?_); (refine smove rfl ?_); (refine sg (gq_vf rfl rfl) (fun he => ap_field_p (rq_p rfl rfl) rfl rfl) ?_); (refine sg (gq_vf rfl rfl) (fun he => ap_load_p (rq_c rfl rfl) rfl rfl rfl) ?_); (refine sg (gq_vf rfl rfl) (fun he => ap_len_m rfl (rq_c rfl rfl)) ?_); (refine sg (gq_vf rfl rfl) (fun he => ap_gtr (rq_c rfl rfl) (rq_p rfl rfl)) ?_); (refine su (ap_or (rq_p rfl rfl) (rq_c rfl rfl)) ?_); (refine smove rfl ?_); (refine sg (gq_vf rfl rfl) (fun he => ap_field_p (rq_p rfl rfl) rfl rfl) ?_); (refine sg (gq_vf rfl rfl) (fun he => ap_load_p (rq_c rfl rfl) rfl rfl rfl) ?_); (refine sg (gq_vf rfl rfl) (fun he => ap_lss (rq_c rfl rfl) (rq_p rfl rfl)) ?_); (refine su (ap_or (rq_p rfl rfl) (rq_c rfl rfl)) ?_); (refine smove rfl ?_); (refine sg (gq_vf rfl rfl) (fun he => ap_field_p (rq_p rfl rfl) rfl rfl) ?_); (refine sg (gq_vf rfl rfl) (fun he => ap_load_p (rq_c rfl rfl) rfl rfl rfl) ?_); (refine sg (gq_vf rfl rfl) (fun he => ap_gtr (rq_c rfl rfl) (rq_p rfl rfl)) ?_); (refine su (ap_or (rq_p rfl rfl) (rq_c rfl rfl)) ?_); apply jW) | (refine WP.regionC ?_; (refine sassign rfl ?_); apply jW) | (refine WP.regionC (id := 8) ?_; (refine sfieldp rfl rfl rfl ?_); (refine sloadp rfl rfl rfl rfl ?_); (refine su (ap_clo (RqL.nil) (RqL.cons (rq_p rfl rfl) (RqL.nil))) ?_); (refine sc_b rfl rfl (by first | ((repeat' first | exact FzL.nil | refine FzL.cons ?_ ?_ | (exact Fz.reflp (by simp [AV.bd, bdL, bdL_append])) | refine Fz.ptrL rfl rfl ?_ | refine Fz.cloL ?_ ?_); done) | fail) (containsFunc_fn _ _ _ (fun x => !symOk g x) (fun n => by simp [bdL, AV.bd, AV.cells, gramA]) (fun x hx => gvalid1_fn g x hn2)) rfl ?_); apply jW) | (refine WP.regionC (id := 10) ?_; (refine sadd rfl rfl (by exact inr_i64_of (by omega)) ?_); (refine smove rfl ?_); apply jW) | refine ret_b rfl ?_))
  · rw [validG_no (i := i) (by omega) (by simp [ruleOk]; omega)]
  · rw [any_not_sym, Bool.not_eq_true'] at hc
    rw [validG_no (i := i) (by omega) (by simp only [ruleOk, hc, Bool.and_false])]
  · rw [any_not_sym, Bool.not_eq_false'] at hc
    exact ⟨i + 1, ⟨by omega, by omega, take_all_succ (by omega) hall (by simp only [ruleOk, hc, Bool.and_true]; simp; omega)⟩, ⟨[0], ToR.S rfl (by repeat' (first | exact rt_nil | refine rt_t rfl rfl ?_ | refine rt_e rfl rfl ?_ | refine rt_p rfl rfl (by first | (simp [AV.bd, bdL, bdL_append]; done) | fail) ?_)) (by repeat' (first | exact ro_nil | refine ro_p rfl (by first | exact rfl | fail) (by first | (simp [bdL, bdL_append, AV.bd]; done) | fail) ?_)) rfl (by (rw [hm]; exact rfl)) rfl (by (simp [bdT, AV.bd, bdL, bdL_append]; done)) (by repeat' (first | exact True.intro | refine And.intro ?_ ?_ | (simp [bdOq, bdL, bdL_append, AV.bd]; done))) (by (rw [hm]; exact Nat.le_of_ble_eq_true rfl))⟩⟩
  simp [validG, hns, all_of_take' (by omega) hall]; omega
end Go.Lg

namespace Go.Lg
open Go.Proofs
set_option linter.unusedSimpArgs false
set_option linter.unusedVariables false
attribute [local irreducible] Ap Rq asemC WP RunD Ret Gq thenA inBlockA bodyQ noGotoA RqL RqP OpP
set_option maxHeartbeats 4000000
set_option maxRecDepth 20000
theorem concat_fn (l : List (List Int)) (hl : l.length ≤ 1048576) (hb : l.flatten.length ≤ 1048576) : Fn Tryd.prog 44 [rowsA l] (intsA l.flatten) := by
  unfold rowsA
  have hs : ∀ k, k < l.length → (l.take (k + 1)).flatten.length = (l.take k).flatten.length + (nth l k).length ∧ (l.take (k + 1)).flatten.length ≤ l.flatten.length := fun k hk => by
    refine ⟨by rw [take_flatten hk, List.length_append], ?_⟩
    have e : l.flatten = (l.take (k + 1)).flatten ++ (l.drop (k + 1)).flatten := by rw [← List.flatten_append, List.take_append_drop]
    rw [e, List.length_append]; omega
  refine Fn.intro (by simp [AV.bd, bdL, bdL_append]) (by kernel_rfl) Tryd.func44 rfl rfl Tryd.ntmps44 (by exact Nat.le_of_ble_eq_true rfl) ?_; intro Γ hm
  (repeat' (first | apply jA | apply jF | apply jH | (refine WP.regionC ?_; (refine sassign rfl ?_); apply jW) | (refine WP.regionC (id := 2) ?_; (refine smove rfl ?_); (refine slenm rfl rfl ?_); (refine smove rfl ?_); apply jW)))
  refine wp_loop (fun k => k ≤ l.length) (fun k => l.length - k) (fun k => (S 36 [(0, .sl 1 (l.map intsA)), (3, intA ((l.take k).flatten.length : Nat)), (9, .sl 1 (l.map intsA)), (10, intA (l.length : Nat)), (11, intA (k : Nat))] 0 [])) 0 ⟨[], ToR.S rfl (by repeat' (first | exact rt_nil | refine rt_e rfl rfl ?_ | refine rt_p rfl rfl (by first | (simp [AV.bd, bdL, bdL_append]; done) | fail) ?_)) (by repeat' (exact ro_nil)) rfl (by (rw [hm]; exact rfl)) rfl (by (simp [bdT, AV.bd, bdL, bdL_append]; done)) (by repeat' (exact True.intro)) (by (rw [hm]; exact Nat.le_of_ble_eq_true rfl))⟩ (Nat.zero_le _) ?_
  rintro k hk
  by_cases h : k < l.length
  · have h1 := hs k h
    (repeat' (first | apply jA | apply jF | apply jH | apply jI | apply jN | (refine wp_cond rfl (fun hc => ?_) (fun hc => ?_) <;> (try simp only [sB, ne_eq, reduceCtorEq] at hc) <;> (try (exfalso; omega))) | (refine WP.regionC (id := 3) ?_; (refine slss rfl rfl ?_); apply jW) | (refine WP.regionC (id := 4) ?_; (refine sidxn rfl rfl (by omega) ?_); (refine sloadw rfl rfl ?_); (refine sassign rfl ?_); apply jW) | (refine WP.regionC (id := 5) ?_; (refine smove rfl ?_); (refine smove rfl ?_); (refine slenm rfl rfl ?_); (refine sadd rfl rfl (by exact inr_i64_of (by omega)) ?_); (refine sassign rfl ?_); apply jW) | (refine WP.regionC (id := 6) ?_; (refine smove rfl ?_); (refine slss rfl rfl ?_); apply jW) | (refine WP.regionC (id := 8) ?_; (refine sadd rfl rfl (by exact inr_i64_of (by omega)) ?_); (refine smove rfl ?_); apply jW)))
    refine ⟨k + 1, ⟨by omega, by omega⟩, ?_⟩
    have e : (((l.take (k + 1)).flatten.length : Nat) : Int) = ((l.take k).flatten.length : Nat) + ((nth l k).length : Nat) := by omega
    rw [e]
    exact ⟨[], ToR.S rfl (by repeat' (first | exact rt_nil | refine rt_e rfl rfl ?_ | refine rt_p rfl rfl (by first | (simp [AV.bd, bdL, bdL_append]; done) | fail) ?_)) (by repeat' (exact ro_nil)) rfl (by (rw [hm]; exact rfl)) rfl (by (simp [bdT, AV.bd, bdL, bdL_append]; done)) (by repeat' (exact True.intro)) (by (rw [hm]; exact Nat.le_of_ble_eq_true rfl))⟩
  · have : k = l.length := by omega
    subst this
    rw [List.take_length]
    have hg := grow_fn l.flatten.length (by omega)
    (repeat' (first | apply jA | apply jF | apply jH | apply jJ | apply jL | apply jP | (refine wp_cond rfl (fun hc => ?_) (fun hc => ?_) <;> (try simp only [sB, ne_eq, reduceCtorEq] at hc) <;> (try (exfalso; omega))) | (refine WP.regionC (id := 3) ?_; (refine slss rfl rfl ?_); apply jW) | (refine WP.regionC (id := 9) ?_; (refine smove rfl ?_); (refine sc_o [] rfl rfl (hg) (Lend.S (by first | ((repeat' first | exact RenL.nil | refine RenL.cons rfl ?_); done) | fail) (by first | ((repeat' (exact LendO.nil)); done) | fail) (by decide) rfl (by simp [AV.bd, bdL, bdL_append]) (by repeat' (exact True.intro))) ?_; simp only [updN, newO, AObj.ren, renL, AV.ren, apx, ap, if_true, if_false, Nat.reduceLT, Nat.reduceAdd, Nat.reduceSub, sO, intA, boolA, strA]); (refine sassign rfl ?_); apply jW) | (refine WP.regionC (id := 10) ?_; (refine smove rfl ?_); (refine slenm rfl rfl ?_); (refine smove rfl ?_); apply jW)))
    refine wp_loop (fun k => k ≤ l.length) (fun k => l.length - k) (fun k => (S 36 [(6, .ref 0 1 0 (l.take k).flatten.length), (25, .sl 1 (l.map intsA)), (26, intA (l.length : Nat)), (27, intA (k : Nat))] 1 [(0, some (.arr 1 ((l.take k).flatten.map intA)))])) 0 ⟨[0], ToR.S rfl (by repeat' (first | exact rt_nil | refine rt_r rfl rfl ?_ | refine rt_e rfl rfl ?_ | refine rt_p rfl rfl (by first | (simp [AV.bd, bdL, bdL_append]; done) | fail) ?_)) (by repeat' (first | exact ro_nil | refine ro_e rfl rfl ?_)) rfl (by (rw [hm]; exact rfl)) rfl (by (simp [bdT, AV.bd, bdL, bdL_append]; done)) (by repeat' (first | exact True.intro | exact rfl | refine And.intro ?_ ?_)) (by (rw [hm]; exact Nat.le_of_ble_eq_true rfl))⟩ (Nat.zero_le _) ?_
    rintro k hk
    by_cases h : k < l.length
    · have h1 := hs k h
      have h2 : (nth l k).length ≤ l.flatten.length := by omega
      generalize hq : (l.take k).flatten = m at h1 ⊢
      (repeat' (first | apply jA | apply jF | apply jH | apply jI | apply jN | (refine wp_cond rfl (fun hc => ?_) (fun hc => ?_) <;> (try simp only [sB, ne_eq, reduceCtorEq] at hc) <;> (try (exfalso; omega))) | (refine WP.regionC (id := 11) ?_; (refine slss rfl rfl ?_); apply jW) | (refine WP.regionC (id := 12) ?_; (refine sidxn rfl rfl (by omega) ?_); (refine sloadw rfl rfl ?_); (refine sassign rfl ?_); apply jW) | (refine WP.regionC (id := 13) ?_; (refine smove rfl ?_); (refine smove rfl ?_); (refine se_appL rfl rfl rfl rfl rfl rfl rfl (by omega) ?_); (refine sassign rfl ?_); apply jW) | (refine WP.regionC (id := 14) ?_; (refine sadd rfl rfl (by exact inr_i64_of (by omega)) ?_); (refine smove rfl ?_); apply jW)))
      refine ⟨k + 1, ⟨by omega, by omega⟩, ?_⟩
      rw [take_flatten h, hq, List.length_append, List.map_append]
      exact ⟨[1], ToR.S rfl (by repeat' (first | exact rt_nil | refine rt_r rfl rfl ?_ | refine rt_e rfl rfl ?_ | refine rt_p rfl rfl (by first | (simp [AV.bd, bdL, bdL_append]; done) | fail) ?_)) (by repeat' (first | exact ro_nil | refine ro_p rfl (by first | exact rfl | fail) (by first | (simp [bdL, bdL_append, AV.bd]; done) | fail) ?_)) rfl (by (rw [hm]; exact rfl)) rfl (by (simp [bdT, AV.bd, bdL, bdL_append]; done)) (by repeat' (first | exact True.intro | refine And.intro ?_ ?_ | (simp [bdOq, bdL, bdL_append, AV.bd]; done))) (by (rw [hm]; exact Nat.le_of_ble_eq_true rfl))⟩
    · have : k = l.length := by omega
      subst this
      rw [List.take_length]
      (repeat' (first | apply jA | apply jH | apply jJ | apply jK | apply jL | apply jP | apply jS | (refine wp_cond rfl (fun hc => ?_) (fun hc => ?_) <;> (try simp only [sB, ne_eq, reduceCtorEq] at hc) <;> (try (exfalso; omega))) | (refine WP.regionC (id := 11) ?_; (refine slss rfl rfl ?_); apply jW) | (refine WP.regionC (id := 15) ?_; (refine smove rfl ?_); (refine sassign rfl ?_); apply jW) | refine ret_sl rfl rfl rfl (fun _ => by exact rfl) (fun _ => rfl) ?_))
      rfl
end Go.Lg

namespace Go.Lg
open Go.Proofs
set_option linter.unusedSimpArgs false
set_option linter.unusedVariables false
attribute [local irreducible] Ap Rq asemC WP RunD Ret Gq thenA inBlockA bodyQ noGotoA RqL RqP OpP
set_option maxHeartbeats 4000000
set_option maxRecDepth 20000
attribute [local simp] mkA rowA AV.cells
def SGood (s : DSt) (n : Nat) : Prop := 0 ≤ s.count ∧ s.count + n ≤ 100000 ∧ s.extra.length + n ≤ 100000
def SymOk (d : DEn) (e : GEx) : Prop := ∀ s : DSt, SGood s (nodE e) →
  FnO Tryd.prog 25 [.ptr 0 6 0 0, exprA e] [mkA d s 1, rowA s] (intsA (d.symE e s).1) [some (mkA d (d.symE e s).2 2), none, some (rowA (d.symE e s).2)]
def AllOk (d : DEn) (l : List GEx) : Prop := ∀ s : DSt, SGood s (nodL l) →
  FnO Tryd.prog 45 [.ptr 0 6 0 0, .sl 3 (l.map exprA)] [mkA d s 1, rowA s] (rowsA (d.symL l s).1) [some (mkA d (d.symL l s).2 2), none, some (rowA (d.symL l s).2)]
theorem all_of (d : DEn) (l : List GEx) (h : ∀ x, x ∈ l → SymOk d x) : AllOk d l := by
  intro s hs
  have hl1 : l.length ≤ 100000 := by
    have := len_nodL l
    obtain ⟨p1, p2, p3⟩ := hs
    omega
  unfold mkA rowA rowsA
  refine FnO.intro (by exact Nat.le_of_ble_eq_true rfl) (by simp [AV.bd, bdL, bdL_append]) (by kernel_rfl) Tryd.func45 rfl rfl Tryd.ntmps45 (by exact Nat.le_of_ble_eq_true rfl) ?_; intro Γ hm
  (repeat' (first | apply jA | apply jF | apply jH | (refine WP.regionC ?_; (refine sassign rfl ?_); apply jW) | (refine WP.regionC (id := 2) ?_; (refine smove rfl ?_); (refine slenm rfl rfl ?_); (refine smove rfl ?_); apply jW)))
  refine wp_nil 5 1 rfl ?_
  refine wp_mvr 0 1 4 rfl rfl rfl rfl ?_
  refine wp_loop (fun k => k ≤ l.length) (fun k => l.length - k)
    (fun k => (S 22 [(0, .ptr 0 6 0 0), (5, .ref 3 1 0 (d.symL (l.take k) s).1.length), (8, .sl 3 (l.map exprA)), (9, intA (l.length : Nat)), (10, intA (k : Nat))] 4 [(0, some (mkA d (d.symL (l.take k) s).2 2)), (2, some (rowA (d.symL (l.take k) s).2)), (3, some (.arr 1 ((d.symL (l.take k) s).1.map intsA)))])) 0 ⟨[0, 1, 3, 2], ToR.S rfl (by repeat' (first | exact rt_nil | refine rt_r rfl rfl ?_ | refine rt_t rfl rfl ?_ | refine rt_e rfl rfl ?_ | refine rt_p rfl rfl (by first | (simp [AV.bd, bdL, bdL_append]; done) | fail) ?_)) (by repeat' (first | exact ro_nil | refine ro_e rfl rfl ?_ | refine ro_p rfl (by first | exact rfl | fail) (by first | exact bdL_map (fun _ => by simp [AV.bd, bdL, bdL_append]) _ | fail) ?_ | refine ro_e rfl (by simp only [renL, AV.ren, ren_strsA, ren_intsA]; exact rfl) ?_)) rfl (by (rw [hm]; exact rfl)) rfl (by (simp [bdT, AV.bd, bdL, bdL_append]; done)) (by repeat' (first | exact True.intro | exact rfl | refine And.intro ?_ ?_ | exact bdL_map (fun _ => by simp [AV.bd, bdL, bdL_append]) _ | (simp [bdOq, bdL, bdL_append, AV.bd]; done))) (by (rw [hm]; exact Nat.le_of_ble_eq_true rfl))⟩ (Nat.zero_le _) ?_
  rintro k hk
  by_cases hlt : k < l.length
  · have e1 : l.take (k + 1) = l.take k ++ [nth l k] := take_succ_nth hlt
    have e2 := d.symL_snoc (l.take k) (nth l k) s
    rw [← e1] at e2
    have c1 : nodL (l.take (k + 1)) = nodL (l.take k) + nodE (nth l k) := by rw [e1, nodL_snoc]
    have c2 := nodL_take l (k + 1)
    have hg : SGood (d.symL (l.take k) s).2 (nodE (nth l k)) := by
      have g1 := d.symL_ext (l.take k) s
      have g2 := d.symL_cnt (l.take k) s
      obtain ⟨p1, p2, p3⟩ := hs
      refine ⟨?_, ?_, ?_⟩ <;> omega
    have hO := h (nth l k) (nth_mem hlt) _ hg
    have hb : (d.symL (l.take k) s).1.length ≤ 1048576 := by
      rw [d.symL_len, List.length_take]
      have := len_nodL l
      obtain ⟨p1, p2, p3⟩ := hs
      omega
    generalize ht : (d.symL (l.take k) s).2 = t at hO ⊢ e2
    generalize hr : (d.symL (l.take k) s).1 = r at hb ⊢ e2
    unfold mkA rowA at hO
    (repeat' (first | apply jA | apply jF | apply jH | apply jI | apply jN | (refine wp_cond rfl (fun hc => ?_) (fun hc => ?_) <;> (try simp only [sB, ne_eq, reduceCtorEq] at hc) <;> (try (exfalso; omega))) | (refine WP.regionC (id := 3) ?_; (refine slss rfl rfl ?_); apply jW) | (refine WP.regionC (id := 4) ?_; (refine sidxn rfl rfl (by omega) ?_); (refine sloadw rfl rfl ?_); (refine se_alloc rfl ?_); (refine se_store_b rfl rfl rfl rfl ?_); apply jW) | (refine WP.regionC (id := 5) ?_; (refine smove rfl ?_); (refine smove rfl ?_); (refine sloadpw rfl rfl rfl rfl ?_); (refine sc_o [0, 2] rfl rfl (hO) (Lend.S (by first | ((repeat' first | exact RenL.nil | refine RenL.cons (by first | exact rfl | exact ren_p (by simp [AV.bd, bdL, bdL_append])) ?_); done) | fail) (by first | ((repeat' first | exact LendO.nil | refine LendO.arr rfl (by first | (refine (renL_pure ?_).symm; exact bdL_map (fun _ => by simp [AV.bd, bdL, bdL_append]) _) | (simp [renL, AV.ren, ren_pure, ap, intA, boolA, strA]; done)) ?_); done) | fail) (by decide) rfl (by simp [AV.bd, bdL, bdL_append]) (by repeat' (first | exact True.intro | refine And.intro ?_ ?_ | exact bdL_map (fun _ => by simp [AV.bd, bdL, bdL_append]) _ | simp [AV.bd, bdL, bdL_append]))) ?_; simp only [updN, newO, AObj.ren, renL, AV.ren, apx, ap, if_true, if_false, Nat.reduceLT, Nat.reduceAdd, Nat.reduceSub, sO, intA, boolA, strA, ren_extras]); (refine se_lit (OpP.cons rfl (OpP.nil)) rfl rfl rfl rfl rfl rfl ?_); (refine se_app1 rfl rfl rfl rfl rfl rfl rfl rfl (by omega) ?_); (refine sassign rfl ?_); apply jW) | (refine WP.regionC (id := 6) ?_; (refine sadd rfl rfl (by exact inr_i64_of (by omega)) ?_); (refine smove rfl ?_); apply jW)))
    refine ⟨k + 1, ⟨by omega, by omega⟩, ?_⟩
    rw [e2]
    dsimp only
    exact ⟨[0, 1, 5, 7], ToR.S rfl (by repeat' (first | exact rt_nil | refine rt_r rfl rfl ?_ | refine rt_t rfl rfl ?_ | refine rt_e rfl rfl ?_ | refine rt_p rfl rfl (by first | (simp [AV.bd, bdL, bdL_append]; done) | fail) ?_)) (by repeat' (first | exact ro_nil | refine ro_p rfl (by first | exact rfl | fail) (by first | exact bdL_map (fun _ => by simp [AV.bd, bdL, bdL_append]) _ | fail) ?_ | refine ro_e rfl (by simp only [renL, AV.ren, ren_strsA, ren_intsA]; exact rfl) ?_)) rfl (by (rw [hm]; exact rfl)) rfl (by (simp [bdT, AV.bd, bdL, bdL_append]; done)) (by repeat' (first | exact True.intro | refine And.intro ?_ ?_ | exact bdL_map (fun _ => by simp [AV.bd, bdL, bdL_append]) _ | (simp [bdOq, bdL, bdL_append, AV.bd]; done))) (by (rw [hm]; exact Nat.le_of_ble_eq_true rfl))⟩
  · have : k = l.length := by omega
    subst this
    rw [List.take_length]
    refine wp_frzm 5 hm rfl rfl rfl (fun _ => by simp) (fun _ => rfl) rfl ?_
    (repeat' (first | apply jA | apply jH | apply jJ | apply jK | apply jL | apply jP | apply jS | (refine wp_cond rfl (fun hc => ?_) (fun hc => ?_) <;> (try simp only [sB, ne_eq, reduceCtorEq] at hc) <;> (try (exfalso; omega))) | (refine WP.regionC (id := 3) ?_; (refine slss rfl rfl ?_); apply jW) | (refine WP.regionC (id := 7) ?_; (refine smove rfl ?_); (refine sassign rfl ?_); apply jW)))
    refine retO_L (x := rowsA (d.symL l s).1) (k := 3) (os1 := [(0, some (mkA d (d.symL l s).2 2)), (2, some (rowA (d.symL l s).2))]) (.tmp rfl .nil) rfl ⟨[0, 1, 2], ToR.S rfl (by repeat' (first | exact rt_nil | refine rt_p rfl rfl (by first | (simp [AV.bd, bdL, bdL_append]; done) | fail) ?_)) (by repeat' (first | exact ro_nil | refine ro_p rfl (by first | exact rfl | fail) (by first | exact bdL_map (fun _ => by simp [AV.bd, bdL, bdL_append]) _ | fail) ?_ | refine ro_e rfl (by simp only [renL, AV.ren, ren_strsA, ren_intsA]; exact rfl) ?_)) rfl rfl rfl (by (simp [bdT, AV.bd, bdL, bdL_append]; done)) (by repeat' (first | exact True.intro | refine And.intro ?_ ?_ | exact bdL_map (fun _ => by simp [AV.bd, bdL, bdL_append]) _ | (simp [bdOq, bdL, bdL_append, AV.bd]; done))) (by exact Nat.le_of_ble_eq_true rfl)⟩ rfl
end Go.Lg

namespace Go.Lg
open Go.RowKit Go.Lib Go.Proofs
theorem SR.val_out {Γ : Cx} {ρ : Nat → Option Nat} {A : Nat → Prop} {args : List AV} {us : Array Value} {w' : World} (h : SRa Γ A ρ ⟨args, []⟩ ⟨us, []⟩ Γ.w0) (hA : ∀ id, A id → id < 0) (hb : Below Γ.w0.heap.size Γ.w0 w') {v : Value} (hat : atom v = true) : SR Γ ⟨[.val v], []⟩ ⟨#[v], []⟩ w' := by
  refine ⟨ρ, fun i hi => absurd (hA i (h.ext i hi).1) (Nat.not_lt_zero i), rfl, fun i x u hx hu => ?_, fun id o hl => by simp [St.live] at hl, fun id o hl => by simp [St.live] at hl, fun id hid => hid, fun id o b hl => by simp [St.live] at hl, fun i j o o' b hl => by simp [St.live] at hl, h.defers, h.fr.below hb⟩
  match i with
  | 0 => simp at hx hu; subst hx hu; exact .val hat
  | i + 1 => simp at hx
theorem tab_is {w : World} (hw : GW w) : Lib.TabIs Tryd.prog w "internal/strconv.uint64pow10" .u64 Lib.pow10Tab := by
  have hp : ∃ p, p ∈ gtabs ∧ p.2 = (.u64, Lib.pow10Tab) ∧ Tryd.prog.globalNamed "internal/strconv.uint64pow10" = some p.1 := by
    refine ⟨gtabs.getD 2 (0, .u64, []), ?_, by decide +kernel, by kernel_rfl⟩
    simp [gtabs]
  obtain ⟨⟨i, k, zs⟩, hp1, hp2, hp3⟩ := hp
  obtain ⟨t, z, hh⟩ := hw.2 _ hp1
  simp only [Prod.mk.injEq] at hp2
  obtain ⟨rfl, rfl⟩ := hp2
  unfold Lib.TabIs World.var?
  rw [hp3]
  simp only [Option.bind_some, hh]
theorem itoa_fn (n : Int) (h0 : -9223372036854775808 ≤ n) (h1 : n ≤ 9223372036854775807) : Fn Tryd.prog 46 [intA n] (strA ⟨(Lib.itoa n).toArray⟩) := by
  refine ⟨⟨by kernel_rfl, fun Γ us _ hs => ?_⟩, rfl⟩
  obtain ⟨ρ, hs⟩ := hs
  have hl : us.size = 1 := hs.len
  obtain ⟨v, rfl⟩ : ∃ v, us = #[v] := ⟨us[0], by apply Array.ext (by simpa using hl); intro i h1 h2; simp at h2; subst h2; rfl⟩
  have hv : v = .int .i64 n := (hs.tmp 0 _ v rfl rfl).val_eq
  subst hv
  refine (Tryd.strconv_Itoa n h0 h1 Γ.w0 (tab_is Γ.hG)).mono ?_
  rintro e w' ⟨rfl, k, os, rfl⟩
  refine ⟨_, [], _, rfl, ⟨rfl, rfl⟩, SR.val_out hs (fun _ h => h) ?_ rfl⟩
  refine ⟨rfl, rfl, rfl, ?_, fun b hb => ?_⟩
  · show Γ.w0.heap.size ≤ (Γ.w0.heap ++ os).size
    simp
  · show (Γ.w0.heap ++ os)[b]? = Γ.w0.heap[b]?
    rw [Array.getElem?_append_left hb]
end Go.Lg

namespace Go.Lg
open Go.Proofs
set_option linter.unusedSimpArgs false
set_option linter.unusedVariables false
attribute [local irreducible] Ap Rq asemC WP RunD Ret Gq thenA inBlockA bodyQ noGotoA RqL RqP OpP
set_option maxHeartbeats 8000000
set_option maxRecDepth 20000
attribute [local simp] mkA rowA AV.cells
theorem wellE_mk {k : Int} {n : ByteArray} {l : List GEx} (h : wellE (.mk k n l) = true) : (k ≠ 1 → k ≠ 2 → l ≠ []) ∧ ∀ x, x ∈ l → wellE x = true := by
  rw [wellE, wellL_all, Bool.and_eq_true, List.all_eq_true] at h
  refine ⟨fun k1 k2 hl => ?_, h.2⟩
  subst hl
  have := h.1
  simp [k1, k2] at this
theorem symbols_of (d : DEn) (h1 : d.terms.length ≤ 9223372036854775807) (h2 : d.names.length ≤ 100000) (h3 : d.rule.size ≤ 100000) (k : Int) (n : ByteArray) (l : List GEx) (hl : AllOk d l) (hw : wellE (.mk k n l) = true) : SymOk d (.mk k n l) := by
  intro s hs
  rw [exprA_mkJ]
  rw [nodE] at hs
  unfold mkA rowA
  by_cases k1 : k = 1
  · have e : d.symE (.mk k n l) s = ([(d.sym n s).1], (d.sym n s).2) := by rw [DEn.symE, if_pos k1]
    rw [e]
    have hx := (d.sym_len n s).1
    have hy := symbol_fn d s n h1 (by omega)
    refine FnO.intro (by exact Nat.le_of_ble_eq_true rfl) (by rfl) (by kernel_rfl) Tryd.func25 rfl rfl Tryd.ntmps25 (by exact Nat.le_of_ble_eq_true rfl) ?_; intro Γ hm
    unfold mkA rowA at hy
    (repeat' (first | apply jA | apply jF | apply jH | (refine wp_cond (by rfl) (fun hc => ?_) (fun hc => ?_) <;> (try simp only [sB, ne_eq, reduceCtorEq] at hc) <;> (try (exfalso; omega))) | (refine WP.regionC (id := 0) ?_; (refine se_box (by rfl) (by exact ⟨rfl, rfl⟩) ?_); (refine sassign rfl ?_); apply jW) | (refine WP.regionC (id := 1) ?_; (refine sfieldp rfl rfl rfl ?_); (refine sloadp rfl rfl rfl rfl ?_); apply jW) | (refine WP.regionC (id := 2) ?_; (refine seql rfl rfl ?_); (refine sassign rfl ?_); apply jW) | (refine WP.regionC (id := 3) ?_; (refine smove rfl ?_); (refine sfieldp rfl rfl rfl ?_); (refine sloadp rfl rfl rfl rfl ?_); (refine sc_o [0, 1] rfl rfl (hy) (Lend.S (by first | ((repeat' first | exact RenL.nil | refine RenL.cons (by rfl) ?_); done) | fail) (by first | ((repeat' first | exact LendO.nil | refine LendO.arr (by rfl) (by first | (refine (renL_pure ?_).symm; exact bdL_map (fun _ => by simp [AV.bd, bdL, bdL_append]) _) | (simp [renL, AV.ren, ren_pure, ap, intA, boolA, strA]; done)) ?_); done) | fail) (by decide) (by rfl) (by simp [AV.bd, bdL, bdL_append]) (by repeat' (first | exact True.intro | refine And.intro ?_ ?_ | exact bdL_map (fun _ => by simp [AV.bd, bdL, bdL_append]) _ | simp [AV.bd, bdL, bdL_append]))) ?_; simp only [updN, newO, AObj.ren, renL, AV.ren, apx, ap, if_true, if_false, Nat.reduceLT, Nat.reduceAdd, Nat.reduceSub, sO, intA, boolA, strA, ren_extras]); (refine se_lit (OpP.cons (by rfl) (OpP.nil)) (by rfl) (by rfl) (by rfl) (by rfl) (by rfl) (by rfl) ?_); (refine sassign rfl ?_); apply jW)))
    all_goals (skip)
    · refine wp_frzm (L := [(d.sym n s).1]) (f := intA) 4 hm rfl rfl rfl (fun _ => rfl) (fun _ => rfl) (by rfl) ?_
      refine wp_mvr 0 1 4 (by rfl) (by rfl) rfl (by rfl) ?_
      (repeat' (first | apply jK | apply jM | apply jO | apply jS))
      rw [← hx]
      refine retO_L (x := intsA [(d.sym n s).1]) (k := 3) (os1 := [(0, some (mkA d (d.sym n s).2 2)), (2, some (rowA (d.sym n s).2))]) (.tmp (by rfl) .nil) (by rfl) ⟨[0, 1, 4], ToR.S rfl (by repeat' (first | exact rt_nil | refine rt_e (by rfl) (by rfl) ?_)) (by repeat' (first | exact ro_nil | refine ro_p (by rfl) (by first | exact rfl | fail) (by first | exact bdL_map (fun _ => by simp [AV.bd, bdL, bdL_append]) _ | fail) ?_ | refine ro_e (by rfl) (by simp only [renL, AV.ren, ren_strsA, ren_intsA]; exact rfl) ?_)) (by rfl) (by rfl) (by rfl) (by (simp [bdT, AV.bd, bdL, bdL_append]; done)) (by repeat' (first | exact True.intro | refine And.intro ?_ ?_ | exact bdL_map (fun _ => by simp [AV.bd, bdL, bdL_append]) _ | (simp [bdOq, bdL, bdL_append, AV.bd]; done))) (by exact Nat.le_of_ble_eq_true rfl)⟩ (by rfl)
  by_cases k2 : k = 2
  · have e : d.symE (.mk k n l) s = ((d.symL l s).1.flatten, (d.symL l s).2) := by rw [DEn.symE, if_neg k1, if_pos k2]
    rw [e]
    have hc1 := (d.symL_cnt l s).1
    have hc2 := d.symL_len l s
    have hc3 := len_nodL l
    have hg : SGood s (nodL l) := by obtain ⟨p1, p2, p3⟩ := hs; refine ⟨?_, ?_, ?_⟩ <;> omega
    have hy := hl s hg
    have hcc : Fn Tryd.prog 44 [rowsA (d.symL l s).1] (intsA (d.symL l s).1.flatten) := concat_fn _ (by obtain ⟨p1, p2, p3⟩ := hg; omega) (by obtain ⟨p1, p2, p3⟩ := hg; omega)
    refine FnO.intro (by exact Nat.le_of_ble_eq_true rfl) (by simp [AV.bd, bdL, bdL_append]) (by kernel_rfl) Tryd.func25 rfl rfl Tryd.ntmps25 (by exact Nat.le_of_ble_eq_true rfl) ?_; intro Γ hm
    unfold mkA rowA rowsA at hy
    unfold rowsA at hcc
    (repeat' (first | apply jA | apply jF | apply jH | (refine wp_cond (by rfl) (fun hc => ?_) (fun hc => ?_) <;> (try simp only [sB, ne_eq, reduceCtorEq] at hc) <;> (try (exfalso; omega))) | (refine WP.regionC (id := 0) ?_; (refine se_box (by rfl) (by exact ⟨rfl, rfl⟩) ?_); (refine sassign rfl ?_); apply jW) | (refine WP.regionC (id := 1) ?_; (refine sfieldp rfl rfl rfl ?_); (refine sloadp rfl rfl rfl rfl ?_); apply jW) | (refine WP.regionC (id := 2) ?_; (refine seql rfl rfl ?_); (refine sassign rfl ?_); apply jW) | (refine WP.regionC (id := 4) ?_; (refine seql rfl rfl ?_); (refine sassign rfl ?_); apply jW) | (refine WP.regionC (id := 5) ?_; (refine smove rfl ?_); (refine sfieldp rfl rfl rfl ?_); (refine sloadp rfl rfl rfl rfl ?_); (refine sc_o [0, 1] rfl rfl (hy) (Lend.S (by first | ((repeat' first | exact RenL.nil | refine RenL.cons (by first | exact rfl | exact ren_p (by simp [AV.bd, bdL, bdL_append])) ?_); done) | fail) (by first | ((repeat' first | exact LendO.nil | refine LendO.arr (by rfl) (by first | (refine (renL_pure ?_).symm; exact bdL_map (fun _ => by simp [AV.bd, bdL, bdL_append]) _) | (simp [renL, AV.ren, ren_pure, ap, intA, boolA, strA]; done)) ?_); done) | fail) (by decide) (by rfl) (by simp [AV.bd, bdL, bdL_append]) (by repeat' (first | exact True.intro | refine And.intro ?_ ?_ | exact bdL_map (fun _ => by simp [AV.bd, bdL, bdL_append]) _ | simp [AV.bd, bdL, bdL_append]))) ?_; simp only [updN, newO, AObj.ren, renL, AV.ren, apx, ap, if_true, if_false, Nat.reduceLT, Nat.reduceAdd, Nat.reduceSub, sO, intA, boolA, strA, ren_extras, ren_rows]); (refine sc_p rfl rfl (by first | ((repeat' first | exact SubL.nil | refine SubL.cons ?_ ?_ | exact Sub.refl); done) | fail) (by first | (simp [bdL, bdL_append, AV.bd]; done) | fail) (hcc) ?_); (refine sassign rfl ?_); apply jW)))
    all_goals (skip)
    · (repeat' (first | apply jK | apply jM | apply jO | apply jS))
      refine retO_L (x := intsA (d.symL l s).1.flatten) (k := 3) (os1 := [(0, some (mkA d (d.symL l s).2 2)), (2, some (rowA (d.symL l s).2))]) (.tmp (by rfl) .nil) (by rfl) ⟨[0, 1, 3], ToR.S rfl (by repeat' (first | exact rt_nil | refine rt_p (by rfl) (by rfl) (by first | (simp [AV.bd, bdL, bdL_append]; done) | fail) ?_)) (by repeat' (first | exact ro_nil | refine ro_p (by rfl) (by first | exact rfl | fail) (by first | exact bdL_map (fun _ => by simp [AV.bd, bdL, bdL_append]) _ | fail) ?_ | refine ro_e (by rfl) (by simp only [renL, AV.ren, ren_strsA, ren_intsA]; exact rfl) ?_)) (by rfl) (by rfl) (by rfl) (by (simp [bdT, AV.bd, bdL, bdL_append]; done)) (by repeat' (first | exact True.intro | refine And.intro ?_ ?_ | exact bdL_map (fun _ => by simp [AV.bd, bdL, bdL_append]) _ | (simp [bdOq, bdL, bdL_append, AV.bd]; done))) (by exact Nat.le_of_ble_eq_true rfl)⟩ (by rfl)
  have hg : SGood (d.start s) (nodL l) := by obtain ⟨p1, p2, p3⟩ := hs; refine ⟨?_, ?_, ?_⟩ <;> simp [DEn.start] <;> omega
  have hy := hl (d.start s) hg
  unfold mkA rowA rowsA at hy
  obtain ⟨w1, w2⟩ := wellE_mk hw
  obtain ⟨p1, p2, p3⟩ := hs
  have hit : (Lib.itoa (s.count + 1)).length ≤ 100 := Nat.le_trans (Lib.itoa_length_le _ (by omega) (by omega)) (by decide)
  refine FnO.intro (by exact Nat.le_of_ble_eq_true rfl) (by simp [AV.bd, bdL, bdL_append]) (by kernel_rfl) Tryd.func25 rfl rfl Tryd.ntmps25 (by exact Nat.le_of_ble_eq_true rfl) ?_; intro Γ hm
  (repeat' (first | apply jA | apply jF | apply jH | apply jI | apply jN | (refine wp_cond (by rfl) (fun hc => ?_) (fun hc => ?_) <;> (try simp only [sB, ne_eq, reduceCtorEq] at hc) <;> (try (exfalso; omega))) | (refine WP.regionC (id := 0) ?_; (refine se_box (by rfl) (by exact ⟨rfl, rfl⟩) ?_); (refine sassign rfl ?_); apply jW) | (refine WP.regionC (id := 1) ?_; (refine sfieldp rfl rfl rfl ?_); (refine sloadp rfl rfl rfl rfl ?_); apply jW) | (refine WP.regionC (id := 2) ?_; (refine seql rfl rfl ?_); (refine sassign rfl ?_); apply jW) | (refine WP.regionC (id := 4) ?_; (refine seql rfl rfl ?_); (refine sassign rfl ?_); apply jW) | (refine WP.regionC (id := 6) ?_; (refine smove rfl ?_); (refine snilc rfl ?_); (refine sfieldp rfl rfl rfl ?_); (refine sloadp rfl rfl rfl rfl ?_); (refine su (alenr rfl rfl) ?_); (refine sassign rfl ?_); apply jW) | (refine WP.regionC (id := 7) ?_; (refine smove rfl ?_); (refine snilc rfl ?_); (refine sfieldp rfl rfl rfl ?_); (refine sloadp rfl rfl rfl rfl ?_); (refine slenm rfl rfl ?_); (refine su (asub rfl rfl (by exact inr_i64_of (by omega))) ?_); (refine smove rfl ?_); (refine su (asub rfl rfl (by exact inr_i64_of (by omega))) ?_); (refine sassign rfl ?_); apply jW) | (refine WP.regionC (id := 8) ?_; (refine smove rfl ?_); (refine snilc rfl ?_); (refine sfieldp rfl rfl rfl ?_); (refine sloadp rfl rfl rfl rfl ?_); (refine sadd rfl rfl (by exact inr_i64_of (by omega)) ?_); (refine snilc rfl ?_); (refine sfieldp rfl rfl rfl ?_); (refine se_store_b (by rfl) (by rfl) (by rfl) (by rfl) ?_); apply jW) | (refine wp_draw (id := 9) 22 mixed (by kernel_rfl) (by kernel_rfl) rfl ?_ <;> (refine rmove rfl ?_) <;> (refine rmove rfl ?_) <;> (refine rnilc rfl ?_) <;> (refine rfieldp rfl rfl rfl ?_) <;> (refine rloadp rfl rfl rfl rfl ?_) <;> (refine rmove rfl ?_) <;> (refine rnilc rfl ?_) <;> (refine rfieldp rfl rfl rfl ?_) <;> (refine rloadp rfl rfl rfl rfl ?_) <;> (refine rd_u (by rfl) (by rfl) (acat rfl rfl (by (simp only [bsz, sZ] <;> omega))) ?_) <;> (refine rmove rfl ?_) <;> (refine rnilc rfl ?_) <;> (refine rfieldp rfl rfl rfl ?_) <;> (refine rloadp rfl rfl rfl rfl ?_) <;> (refine rd_call rfl rfl (by first | ((repeat' first | exact SubL.nil | refine SubL.cons ?_ ?_ | exact Sub.refl); done) | fail) (by first | (simp [bdL, bdL_append, AV.bd]; done) | fail) (itoa_fn _ (by omega) (by omega)) ?_) <;> (refine rd_u (by rfl) (by rfl) (acat rfl rfl (by (simp only [bsz, sZ] <;> omega))) ?_) <;> (refine rd_u (by rfl) (by rfl) (ap_build (RqP.cons (rq_p rfl rfl) (RqP.nil)) (by rfl)) ?_) <;> (refine rd_lit (OpP.cons (by rfl) (OpP.nil)) (by rfl) (by rfl) (by rfl) (by rfl) (by rfl) (by rfl) ?_) <;> (refine rd_app (by rfl) (by rfl) (by rfl) (by (simp; done)) (by rfl) (by rfl) (by rfl) (by rfl) (by (simp only [sL] <;> omega)) ?_) <;> (refine rnilc rfl ?_) <;> (refine rfieldp rfl rfl rfl ?_) <;> (refine rd_store_b (by rfl) (by rfl) (by rfl) (by rfl) ?_) <;> (refine rd_end (by kernel_rfl) ?_))))
  all_goals (skip)
  refine wp_st (S 108 [(0, .ptr 0 6 0 0), (3, .ptr 2 3 0 0), (4, .val (.slice none 0 0)), (5, intA (s.extra.length : Nat)), (6, intA (d.self s))] 4 [(0, some (mkA d (d.start s) 3)), (2, some (.arr 3 [.agg [intA k, strA n, .sl 3 (l.map exprA)]])), (3, some (rowA (d.start s)))]) (by
    have e1 : (d.start s).extra.map extraA = s.extra.map extraA ++ [.agg [strA (d.newName (s.count + 1)), .val (.slice none 0 0)]] := by simp [DEn.start, extraA, bodA]
    have e2 : (d.start s).extra.length = (s.extra.map extraA ++ [AV.agg [strA (d.newName (s.count + 1)), .val (.slice none 0 0)]]).length := by simp [DEn.start]
    unfold mkA rowA
    rw [e1, e2]
    exact ⟨[0, 1, 2, 21], ToR.S rfl (by repeat' (first | exact rt_nil | refine rt_t (by rfl) (by rfl) ?_ | refine rt_e (by rfl) (by rfl) ?_)) (by repeat' (first | exact ro_nil | refine ro_p (by rfl) (by first | exact rfl | fail) (by first | (simp [bdL, bdL_append, AV.bd]; done) | fail) ?_ | refine ro_e (by rfl) (by simp only [renL, AV.ren, ren_strsA, ren_intsA]; exact rfl) ?_)) (by rfl) (by (rw [hm]; exact rfl)) (by rfl) (by (simp [bdT, AV.bd, bdL, bdL_append]; done)) (by repeat' (first | exact True.intro | refine And.intro ?_ ?_ | (simp [bdOq, bdL, bdL_append, AV.bd]; done))) (by (rw [hm]; exact Nat.le_of_ble_eq_true rfl))⟩) ?_
  have hB := d.symL_len l (d.start s)
  have hat := d.symL_old l (d.start s) s.extra.length (by simp [DEn.start])
  have hext := (d.symL_ext l (d.start s)).1
  have hl0 : 0 < l.length := List.length_pos_iff.2 (w1 k1 k2)
  have hcnt := (d.symL_cnt l (d.start s)).1
  have hcl := len_nodL l
  have hst : (d.start s).extra.length = s.extra.length + 1 := by simp [DEn.start]
  have hlt : s.extra.length < (d.symL l (d.start s)).2.extra.length := by omega
  have hcn2 := (d.symL_cnt l (d.start s)).2
  have e : d.symE (.mk k n l) s = ([d.self s], ⟨(d.symL l (d.start s)).2.count, (d.symL l (d.start s)).2.extra.set s.extra.length (d.newName (s.count + 1), finB k (d.self s) (d.symL l (d.start s)).1), (d.symL l (d.start s)).2.ok⟩) := by rw [DEn.symE, if_neg k1, if_neg k2]
  rw [e]
  clear e
  generalize hBd : (d.symL l (d.start s)).1 = B at *
  generalize htd : (d.symL l (d.start s)).2 = t at *
  have hB0 : 0 < B.length := by omega
  have hb0 : (nth B 0).length ≤ 100000 := by
    have : (nth B 0).length ≤ B.flatten.length := by
      cases B with
      | nil => simp at hB0
      | cons b r => simp [nth]
    omega
  have hnm : (nth t.extra s.extra.length).1 = d.newName (s.count + 1) := by
    have : (d.start s).extra[s.extra.length]? = some (d.newName (s.count + 1), []) := by simp [DEn.start]
    rw [this] at hat
    simp only [nth, List.getD, hat, Option.getD_some]
  have hrow : ∀ F : List (List Int), F ≠ [] → (t.extra.set s.extra.length (d.newName (s.count + 1), F)).map extraA = (t.extra.map extraA).set s.extra.length (AV.agg ([strA (nth t.extra s.extra.length).1, bodA (nth t.extra s.extra.length).2].set (0 + 1) (.sl 1 (F.map intsA)))) := fun F hF => by
    rw [List.map_set, hnm]
    simp only [extraA, bodA_some hF, List.set_cons_succ, List.set_cons_zero, Nat.zero_add]
  have hB1 : B.headD [] = nth B 0 := by cases B with | nil => simp at hB0 | cons b r => rfl
  have hF0 : finB k (d.self s) B ≠ [] := by
    unfold finB
    have : B ≠ [] := by rintro rfl; simp at hB0
    split
    · simp
    · split
      · simp
      · split
        · simp
        · exact this
  generalize hFd : finB k (d.self s) B = F at *
  unfold mkA rowA
  simp only [List.length_set]
  (repeat' (first | apply jA | apply jF | apply jH | apply jI | apply jN | (refine wp_cond (by rfl) (fun hc => ?_) (fun hc => ?_) <;> (try simp only [sB, ne_eq, reduceCtorEq] at hc) <;> (try (exfalso; omega))) | (refine WP.regionC (id := 10) ?_; (refine smove rfl ?_); (refine sfieldp rfl rfl rfl ?_); (refine sloadp rfl rfl rfl rfl ?_); (refine sc_o [0, 3] rfl rfl (hy) (Lend.S (by first | ((repeat' first | exact RenL.nil | refine RenL.cons (by first | exact rfl | exact ren_p (by simp [AV.bd, bdL, bdL_append])) ?_); done) | fail) (by first | ((repeat' first | exact LendO.nil | refine LendO.arr (by rfl) (by first | (refine (renL_pure ?_).symm; exact bdL_map (fun _ => by simp [AV.bd, bdL, bdL_append]) _) | (simp [renL, AV.ren, ren_pure, ap, intA, boolA, strA]; done)) ?_); done) | fail) (by decide) (by rfl) (by simp [AV.bd, bdL, bdL_append]) (by repeat' (first | exact True.intro | refine And.intro ?_ ?_ | exact bdL_map (fun _ => by simp [AV.bd, bdL, bdL_append]) _ | simp [AV.bd, bdL, bdL_append]))) ?_; simp only [updN, newO, AObj.ren, renL, AV.ren, apx, ap, if_true, if_false, Nat.reduceLT, Nat.reduceAdd, Nat.reduceSub, sO, intA, boolA, strA, ren_extras, ren_rows]); (refine sassign rfl ?_); apply jW) | (refine WP.regionC (id := 11) ?_; (refine sfieldp rfl rfl rfl ?_); (refine sloadp rfl rfl rfl rfl ?_); apply jW) | (refine WP.regionC (id := 12) ?_; (refine seql rfl rfl ?_); (refine sassign rfl ?_); apply jW) | (refine WP.regionC (id := 13) ?_; (refine smove rfl ?_); (refine sidxn rfl rfl (by omega) ?_); (refine sloadw rfl rfl ?_); (refine se_lit (OpP.cons (by rfl) (OpP.cons (by rfl) (OpP.nil))) (by rfl) (by rfl) (by rfl) (by rfl) (by rfl) (by rfl) ?_); (refine sassign rfl ?_); apply jW) | (refine WP.regionC (id := 14) ?_; (refine seql rfl rfl ?_); (refine sassign rfl ?_); apply jW) | (refine WP.regionC (id := 15) ?_; (refine smove rfl ?_); (refine se_lit (OpP.cons (by rfl) (OpP.nil)) (by rfl) (by rfl) (by rfl) (by rfl) (by rfl) (by rfl) ?_); (refine smove rfl ?_); (refine sidxn rfl rfl (by omega) ?_); (refine sloadw rfl rfl ?_); (refine se_app (by rfl) (by rfl) (by rfl) (by rfl) (by rfl) (by rfl) (by rfl) (by rfl) (by (simp only [sL] <;> omega)) ?_); (refine se_lit (OpP.cons (by rfl) (OpP.cons (by rfl) (OpP.nil))) (by rfl) (by rfl) (by rfl) (by rfl) (by rfl) (by rfl) ?_); (refine sassign rfl ?_); apply jW) | (refine WP.regionC (id := 16) ?_; (refine seql rfl rfl ?_); (refine sassign rfl ?_); apply jW) | (refine wp_draw (id := 17) 11 mixed (by kernel_rfl) (by kernel_rfl) rfl ?_ <;> (refine rmove rfl ?_) <;> (refine rd_u (by rfl) (by rfl) (aidxn rfl rfl (by omega)) ?_) <;> (refine rd_u (by rfl) (by rfl) (aloadw rfl rfl) ?_) <;> (refine rmove rfl ?_) <;> (refine rd_lit (OpP.cons (by rfl) (OpP.nil)) (by rfl) (by rfl) (by rfl) (by rfl) (by rfl) (by rfl) ?_) <;> (refine rmove rfl ?_) <;> (refine rd_u (by rfl) (by rfl) (aidxn rfl rfl (by omega)) ?_) <;> (refine rd_u (by rfl) (by rfl) (aloadw rfl rfl) ?_) <;> (refine rd_app (by rfl) (by rfl) (by rfl) (by rfl) (by rfl) (by rfl) (by rfl) (by rfl) (by (simp only [sL] <;> omega)) ?_) <;> (refine rd_lit (OpP.cons (by rfl) (OpP.cons (by rfl) (OpP.nil))) (by rfl) (by rfl) (by rfl) (by rfl) (by rfl) (by rfl) ?_) <;> (refine rd_u (by rfl) (by rfl) (aassign rfl) ?_) <;> (refine rd_end (by kernel_rfl) ?_))))
  · refine wp_nile 5 1 [] [intsA (nth B 0)] (by rfl) ?_
    refine wp_frzm (L := [[], nth B 0]) (f := intsA) 7 hm rfl rfl rfl (fun _ => by simp) (fun _ => rfl) (by rfl) ?_
    have hF : F = [[], nth B 0] := by rw [← hFd, finB, if_pos hc, hB1]
    subst hF
    (repeat' (first | apply jA | apply jH | (refine WP.regionC (id := 18) ?_; (refine smove rfl ?_); (refine snilc rfl ?_); (refine sfieldp rfl rfl rfl ?_); (refine sloadp rfl rfl rfl rfl ?_); (refine smove rfl ?_); (refine smove rfl ?_); (refine su (aidxrn rfl rfl (by omega)) ?_); (refine sfieldp rfl rfl rfl ?_); (refine se_store_n (by rfl) (by rfl) (by omega) (by rfl) (by rfl) ?_); apply jW) | (refine WP.regionC (id := 19) ?_; (refine smove rfl ?_); (refine se_lit (OpP.cons (by rfl) (OpP.nil)) (by rfl) (by rfl) (by rfl) (by rfl) (by rfl) (by rfl) ?_); (refine sassign rfl ?_); apply jW)))
    refine wp_frzm (L := [d.self s]) (f := intA) 4 hm rfl rfl rfl (fun _ => rfl) (fun _ => rfl) (by rfl) ?_
    (repeat' (first | apply jK | apply jS))
    rw [← hrow _ hF0]
    refine retO_L (x := intsA [d.self s]) (k := 3) (os1 := [(0, some (.arr 6 [.agg [strsA d.terms, strsA d.names, strA d.rule, intA t.count, .ref 2 2 0 t.extra.length, boolA t.ok]])), (2, some (.arr 2 ((t.extra.set s.extra.length (d.newName (s.count + 1), [[], nth B 0])).map extraA)))]) (.tmp (by rfl) .nil) (by rfl) ⟨[0, 1, 4], ToR.S rfl (by repeat' (first | exact rt_nil | refine rt_e (by rfl) (by rfl) ?_)) (by repeat' (first | exact ro_nil | refine ro_p (by rfl) (by first | exact rfl | fail) (by first | exact bdL_map (fun _ => by simp [AV.bd, bdL, bdL_append]) _ | fail) ?_ | refine ro_e (by rfl) (by simp only [renL, AV.ren, ren_strsA, ren_intsA]; exact rfl) ?_)) (by rfl) (by rfl) (by rfl) (by (simp [bdT, AV.bd, bdL, bdL_append]; done)) (by repeat' (first | exact True.intro | refine And.intro ?_ ?_ | exact bdL_map (fun _ => by simp [AV.bd, bdL, bdL_append]) _ | (simp [bdOq, bdL, bdL_append, AV.bd]; done))) (by exact Nat.le_of_ble_eq_true rfl)⟩ (by rfl)
  · refine wp_nile 7 1 [] [.ref 6 1 0 (([d.self s].map intA) ++ (nth B 0).map intA).length] (by rfl) ?_
    refine wp_frze (L := d.self s :: nth B 0) (f := intA) 7 [.sl 1 []] [] rfl (by rfl) (by rfl) (by simp) (fun _ => rfl) (fun _ => rfl) ?_
    refine wp_frzm (L := [[], d.self s :: nth B 0]) (f := intsA) 7 hm rfl rfl rfl (fun _ => by simp) (fun _ => rfl) (by rfl) ?_
    have hF : F = [[], d.self s :: nth B 0] := by rw [← hFd, finB, if_neg (by omega), if_pos hc, hB1]
    subst hF
    (repeat' (first | apply jA | apply jH | (refine WP.regionC (id := 18) ?_; (refine smove rfl ?_); (refine snilc rfl ?_); (refine sfieldp rfl rfl rfl ?_); (refine sloadp rfl rfl rfl rfl ?_); (refine smove rfl ?_); (refine smove rfl ?_); (refine su (aidxrn rfl rfl (by omega)) ?_); (refine sfieldp rfl rfl rfl ?_); (refine se_store_n (by rfl) (by rfl) (by omega) (by rfl) (by rfl) ?_); apply jW) | (refine WP.regionC (id := 19) ?_; (refine smove rfl ?_); (refine se_lit (OpP.cons (by rfl) (OpP.nil)) (by rfl) (by rfl) (by rfl) (by rfl) (by rfl) (by rfl) ?_); (refine sassign rfl ?_); apply jW)))
    refine wp_frzm (L := [d.self s]) (f := intA) 4 hm rfl rfl rfl (fun _ => rfl) (fun _ => rfl) (by rfl) ?_
    (repeat' (first | apply jK | apply jS))
    rw [← hrow _ hF0]
    refine retO_L (x := intsA [d.self s]) (k := 3) (os1 := [(0, some (.arr 6 [.agg [strsA d.terms, strsA d.names, strA d.rule, intA t.count, .ref 2 2 0 t.extra.length, boolA t.ok]])), (2, some (.arr 2 ((t.extra.set s.extra.length (d.newName (s.count + 1), [[], d.self s :: nth B 0])).map extraA)))]) (.tmp (by rfl) .nil) (by rfl) ⟨[0, 1, 4], ToR.S rfl (by repeat' (first | exact rt_nil | refine rt_e (by rfl) (by rfl) ?_)) (by repeat' (first | exact ro_nil | refine ro_p (by rfl) (by first | exact rfl | fail) (by first | exact bdL_map (fun _ => by simp [AV.bd, bdL, bdL_append]) _ | fail) ?_ | refine ro_e (by rfl) (by simp only [renL, AV.ren, ren_strsA, ren_intsA]; exact rfl) ?_)) (by rfl) (by rfl) (by rfl) (by (simp [bdT, AV.bd, bdL, bdL_append]; done)) (by repeat' (first | exact True.intro | refine And.intro ?_ ?_ | exact bdL_map (fun _ => by simp [AV.bd, bdL, bdL_append]) _ | (simp [bdOq, bdL, bdL_append, AV.bd]; done))) (by exact Nat.le_of_ble_eq_true rfl)⟩ (by rfl)
  · refine wp_frze (L := d.self s :: nth B 0) (f := intA) 14 [intsA (nth B 0)] [] rfl (by rfl) (by rfl) (by simp) (fun _ => rfl) (fun _ => rfl) ?_
    refine wp_frzm (L := [nth B 0, d.self s :: nth B 0]) (f := intsA) 7 hm rfl rfl rfl (fun _ => by simp) (fun _ => rfl) (by rfl) ?_
    have hF : F = [nth B 0, d.self s :: nth B 0] := by rw [← hFd, finB, if_neg (by omega), if_neg (by omega), if_pos hc, hB1]
    subst hF
    (repeat' (first | apply jA | apply jH | (refine WP.regionC (id := 18) ?_; (refine smove rfl ?_); (refine snilc rfl ?_); (refine sfieldp rfl rfl rfl ?_); (refine sloadp rfl rfl rfl rfl ?_); (refine smove rfl ?_); (refine smove rfl ?_); (refine su (aidxrn rfl rfl (by omega)) ?_); (refine sfieldp rfl rfl rfl ?_); (refine se_store_n (by rfl) (by rfl) (by omega) (by rfl) (by rfl) ?_); apply jW) | (refine WP.regionC (id := 19) ?_; (refine smove rfl ?_); (refine se_lit (OpP.cons (by rfl) (OpP.nil)) (by rfl) (by rfl) (by rfl) (by rfl) (by rfl) (by rfl) ?_); (refine sassign rfl ?_); apply jW)))
    refine wp_frzm (L := [d.self s]) (f := intA) 4 hm rfl rfl rfl (fun _ => rfl) (fun _ => rfl) (by rfl) ?_
    (repeat' (first | apply jK | apply jS))
    rw [← hrow _ hF0]
    refine retO_L (x := intsA [d.self s]) (k := 3) (os1 := [(0, some (.arr 6 [.agg [strsA d.terms, strsA d.names, strA d.rule, intA t.count, .ref 2 2 0 t.extra.length, boolA t.ok]])), (2, some (.arr 2 ((t.extra.set s.extra.length (d.newName (s.count + 1), [nth B 0, d.self s :: nth B 0])).map extraA)))]) (.tmp (by rfl) .nil) (by rfl) ⟨[0, 1, 4], ToR.S rfl (by repeat' (first | exact rt_nil | refine rt_e (by rfl) (by rfl) ?_)) (by repeat' (first | exact ro_nil | refine ro_p (by rfl) (by first | exact rfl | fail) (by first | exact bdL_map (fun _ => by simp [AV.bd, bdL, bdL_append]) _ | fail) ?_ | refine ro_e (by rfl) (by simp only [renL, AV.ren, ren_strsA, ren_intsA]; exact rfl) ?_)) (by rfl) (by rfl) (by rfl) (by (simp [bdT, AV.bd, bdL, bdL_append]; done)) (by repeat' (first | exact True.intro | refine And.intro ?_ ?_ | exact bdL_map (fun _ => by simp [AV.bd, bdL, bdL_append]) _ | (simp [bdOq, bdL, bdL_append, AV.bd]; done))) (by exact Nat.le_of_ble_eq_true rfl)⟩ (by rfl)
  · have hF : F = B := by rw [← hFd, finB, if_neg (by omega), if_neg (by omega), if_neg (by omega)]
    subst hF
    (repeat' (first | apply jA | apply jH | (refine WP.regionC (id := 18) ?_; (refine smove rfl ?_); (refine snilc rfl ?_); (refine sfieldp rfl rfl rfl ?_); (refine sloadp rfl rfl rfl rfl ?_); (refine smove rfl ?_); (refine smove rfl ?_); (refine su (aidxrn rfl rfl (by omega)) ?_); (refine sfieldp rfl rfl rfl ?_); (refine se_store_n (by rfl) (by rfl) (by omega) (by rfl) (by rfl) ?_); apply jW) | (refine WP.regionC (id := 19) ?_; (refine smove rfl ?_); (refine se_lit (OpP.cons (by rfl) (OpP.nil)) (by rfl) (by rfl) (by rfl) (by rfl) (by rfl) (by rfl) ?_); (refine sassign rfl ?_); apply jW)))
    refine wp_frzm (L := [d.self s]) (f := intA) 4 hm rfl rfl rfl (fun _ => rfl) (fun _ => rfl) (by rfl) ?_
    (repeat' (first | apply jK | apply jS))
    rw [← hrow _ hF0]
    refine retO_L (x := intsA [d.self s]) (k := 3) (os1 := [(0, some (.arr 6 [.agg [strsA d.terms, strsA d.names, strA d.rule, intA t.count, .ref 2 2 0 t.extra.length, boolA t.ok]])), (2, some (.arr 2 ((t.extra.set s.extra.length (d.newName (s.count + 1), F)).map extraA)))]) (.tmp (by rfl) .nil) (by rfl) ⟨[0, 1, 4], ToR.S rfl (by repeat' (first | exact rt_nil | refine rt_e (by rfl) (by rfl) ?_)) (by repeat' (first | exact ro_nil | refine ro_p (by rfl) (by first | exact rfl | fail) (by first | exact bdL_map (fun _ => by simp [AV.bd, bdL, bdL_append]) _ | fail) ?_ | refine ro_e (by rfl) (by simp only [renL, AV.ren, ren_strsA, ren_intsA]; exact rfl) ?_)) (by rfl) (by rfl) (by rfl) (by (simp [bdT, AV.bd, bdL, bdL_append]; done)) (by repeat' (first | exact True.intro | refine And.intro ?_ ?_ | exact bdL_map (fun _ => by simp [AV.bd, bdL, bdL_append]) _ | (simp [bdOq, bdL, bdL_append, AV.bd]; done))) (by exact Nat.le_of_ble_eq_true rfl)⟩ (by rfl)
theorem symbols_fn (d : DEn) (h1 : d.terms.length ≤ 9223372036854775807) (h2 : d.names.length ≤ 100000) (h3 : d.rule.size ≤ 100000) (e : GEx) : wellE e = true → SymOk d e := by
  induction e using GEx.ind with
  | h e ih =>
    intro hw
    cases e with
    | mk k n l => exact symbols_of d h1 h2 h3 k n l (all_of d l fun x hx => ih x hx ((wellE_mk hw).2 x hx)) hw
end Go.Lg

namespace Go.Lg
open Go.Proofs
set_option linter.unusedSimpArgs false
set_option linter.unusedVariables false
attribute [local irreducible] Ap Rq asemC WP RunD Ret Gq thenA inBlockA bodyQ noGotoA RqL RqP OpP
set_option maxHeartbeats 1000000
theorem cloneStrs_fn (l : List ByteArray) (hl : l.length ≤ 1048576) : Fn Tryd.prog 23 [strsA l] (strsA l) := by
  have hin := @ti9
  refine Fn.clone (vf := Value.string) (e := 9) (bytes := 16) (by kernel_rfl) (fun _ => rfl) (fun c w => Tryd.slices_Clone_string_nil 0 c w) (fun a c w => (Tryd.slices_Clone_string_zero a c w).mono fun e w' ⟨v', h1, h2, _, h3⟩ => ⟨v', h1, h2, h3⟩) ?_ l (by omega)
  intro b off n c news w hn hm hbig hc hat
  obtain ⟨d, i0, hd, hi, hti⟩ := tinfo_of hin
  have h1 : i0.size = 1 := by have := congrArg TI.size hti; exact this.symm
  have h2 : i0.bytes = 16 := by have := congrArg TI.bytes hti; exact this.symm
  obtain ⟨z, hz, hzc⟩ : ∃ z, i0.zero = some z ∧ z.cells.size = 1 := by
    have := congrArg TI.zero hti
    cases hq : i0.zero with
    | none => rw [hq] at this; simp at this
    | some z => rw [hq] at this; simp at this; exact ⟨z, rfl, by have := congrArg List.length this; simpa using this.symm⟩
  refine (Tryd.slices_Clone i0 z 1 16 hi hz h1 h2 hzc (by decide) (fun w => by rw [run_sizeOf hin]) b off n c news w (by omega) hm hbig hc hat).mono fun e w' ⟨v', h1, h2, _, h3⟩ => ⟨v', h1, h2, h3⟩
end Go.Lg

namespace Go.Lg
open Go.RowKit Go.Proofs
set_option linter.unusedSimpArgs false
set_option linter.unusedVariables false
attribute [local irreducible] Ap Rq asemC WP RunD Ret Gq thenA inBlockA bodyQ noGotoA RqL RqP OpP
set_option maxHeartbeats 4000000
set_option maxRecDepth 20000
theorem FnO.clone {P : Program} {g : FuncId} {α : Type} {vf : α → Value} {e : TypeId} {bytes : Nat} (he : enterable P g = true) (hat : ∀ x, atom (vf x) = true)
    (hnil : ∀ (c : Nat) (w : World), Calls P g #[.slice none 0 c] w fun e w' => e = .returned (.slice none 0 0) ∧ w' = w)
    (hzero : ∀ (a : Addr) (c : Nat) (w : World), Calls P g #[.slice (some a) 0 c] w fun ee w' => ∃ v', ee = .returned v' ∧ w'.ownsRow w.heap.size e 1 v' 0 [] ∧ Below w.heap.size w w')
    (hsome : ∀ (b off n c : Nat) (news : List Value) (w : World), news.length = n → n ≤ maxLen → n * bytes ≤ 140737488355328 → (∀ j u, news[j]? = some u → w.cell? ⟨b, off + j, none⟩ = some u) → (∀ u ∈ news, u.oneCell' = true) →
      Calls P g #[.slice (some ⟨b, off, none⟩) n c] w fun ee w' => ∃ v', ee = .returned v' ∧ w'.ownsRow w.heap.size e 1 v' n news ∧ Below w.heap.size w w')
    (L : List α) (hbig : L.length * bytes ≤ 140737488355328) : FnO P g [.sl 1 (L.map fun x => .val (vf x))] [] (.ref 0 1 0 L.length) [some (.arr 1 (L.map fun x => .val (vf x)))] := by
  have hfl : flat (L.map fun x => AV.val (vf x)) = L.map fun x => AV.val (vf x) := flat_one (fun _ => rfl) L
  refine ⟨⟨he, fun Γ us hm hs => ?_⟩, by simp, by simp [AV.bd]⟩
  obtain ⟨ρ, hs⟩ := hs
  have hm0 : Γ.m = 0 := by simpa using hm
  have hl : us.size = 1 := hs.len
  obtain ⟨v, rfl⟩ : ∃ v, us = #[v] := ⟨us[0], by apply Array.ext (by simpa using hl); intro i h1 h2; simp at h2; subst h2; rfl⟩
  have hv := hs.tmp 0 _ v rfl rfl
  have hdf : (⟨#[v], []⟩ : Act).defers = Γ.ds := hs.defers
  have fnil : ∀ (w' : World), Below Γ.w0.heap.size Γ.w0 w' → L = [] →
      ∃ r objs' v, Ending.returned (Value.slice none 0 0) = .returned v ∧ (r = AV.ref 0 1 0 L.length ∧ objs' = [some (AObj.arr 1 (L.map fun x => AV.val (vf x)))]) ∧ SR Γ ⟨[r], objs'⟩ ⟨#[v], []⟩ w' := by
    rintro w' hb rfl
    refine ⟨_, _, _, rfl, ⟨rfl, rfl⟩, fun _ => none, fun i hi => by omega, rfl, ?_, ?_, ?_, ?_, ?_, ?_, hdf, hs.fr.below hb⟩
    · intro i x u hx hu
      cases i with
      | zero => simp at hx hu; subst hx hu; exact .refn (by simp) rfl
      | succ n => simp at hx
    · intro id o hlo
      cases id with
      | zero => simp [St.live] at hlo; subst hlo; exact .inr ⟨1, rfl⟩
      | succ n => simp [St.live] at hlo
    · intro id o hlo
      cases id with
      | zero => simp
      | succ n => simp [St.live] at hlo
    · intro id hid; exact hid
    · intro id o b _ hb; cases hb
    · intro id id' o o' b _ _ hb; cases hb
  have own : ∀ (w' : World) (v' : Value), Below Γ.w0.heap.size Γ.w0 w' → w'.ownsRow Γ.w0.heap.size e 1 v' L.length (L.map vf) →
      ∃ r objs' v, Ending.returned v' = .returned v ∧ (r = AV.ref 0 1 0 L.length ∧ objs' = [some (AObj.arr 1 (L.map fun x => AV.val (vf x)))]) ∧ SR Γ ⟨[r], objs'⟩ ⟨#[v], []⟩ w' := by
    rintro w' v' hb ⟨_, h | ⟨gb, cap, cur, rfl, hge, hblk, hle, hmx, hcs, htk⟩⟩
    · obtain ⟨rfl, h0⟩ := h
      exact fnil w' hb (List.eq_nil_of_length_eq_zero h0)
    · have hget : ∀ j (hj : j < L.length), cur[j]? = some (vf L[j]) := fun j hj => by
        have : (cur.toList.take (L.length * 1))[j]? = (L.map vf)[j]? := by rw [htk]
        rw [List.getElem?_take, if_pos (by omega)] at this
        simp only [Array.getElem?_toList, List.getElem?_map, List.getElem?_eq_getElem hj, Option.map_some] at this
        exact this
      have hsz : L.length ≤ cur.size := by omega
      refine ⟨_, _, _, rfl, ⟨rfl, rfl⟩, fun _ => some gb, fun i hi => by omega, rfl, ?_, ?_, ?_, ?_, ?_, ?_, hdf, hs.fr.below hb⟩
      · intro i x u hx hu
        cases i with
        | zero =>
          simp at hx hu; subst hx hu
          have h0 := RV.ref (A := fun id => id < 1) (ρ := fun _ => some gb) (I := Im Γ (fun _ => some gb) ⟨[AV.ref 0 1 0 L.length], [some (AObj.arr 1 (L.map fun x => AV.val (vf x)))]⟩ w') (w := w') (id := 0) (k := 1) (off := 0) (len := L.length) (cap := cap) (b := gb) (by simp) rfl hle ((csize_block hblk).trans (by rw [hcs]; simp)) hmx
          exact h0
        | succ n => simp at hx
      · intro id o hlo
        cases id with
        | zero =>
          simp [St.live] at hlo; subst hlo
          refine ⟨cur, e, hblk, by rw [hfl]; simpa using hsz, fun x hx => by obtain ⟨y, _, rfl⟩ := List.mem_map.1 hx; rfl, ?_, ?_⟩
          · intro j u hj hu
            rw [hfl, List.length_map] at hj
            rw [hget j hj] at hu; injection hu with hu; subst hu; exact hat _
          · intro j x u hx hu
            rw [hfl] at hx
            have hj : j < L.length := by have := (List.getElem?_eq_some_iff.1 hx).1; simpa using this
            simp only [List.getElem?_map, List.getElem?_eq_getElem hj, Option.map_some, Option.some.injEq] at hx
            subst hx
            rw [hget j hj] at hu; injection hu with hu; subst hu; exact .val (hat _)
        | succ n => simp [St.live] at hlo
      · intro id o hlo
        cases id with
        | zero => simp
        | succ n => simp [St.live] at hlo
      · intro id hid; exact hid
      · intro id o b _ hb; injection hb with hb; subst hb; exact .inl hge
      · intro id id' o o' b h1 h2 _ _
        cases id with
        | zero =>
          cases id' with
          | zero => rfl
          | succ n => simp [St.live] at h2
        | succ n => simp [St.live] at h1
  generalize hE : (L.map fun x => AV.val (vf x)) = E at hv
  cases hv with
  | @nils _ a c =>
    have : L = [] := by simpa using hE
    subst this
    cases a with
    | none =>
      refine (hnil c Γ.w0).mono ?_
      rintro e w' ⟨rfl, rfl⟩
      exact fnil _ (.refl _ _) rfl
    | some a =>
      refine (hzero a c Γ.w0).mono ?_
      rintro e w' ⟨v', rfl, ho, hb⟩
      exact own w' v' hb ho
  | @sl _ _ b o c f hn hI hk hc ha hr =>
    subst hE
    rw [hfl] at hc ha hr
    rw [List.length_map]
    refine (hsome b o L.length c (L.map vf) Γ.w0 (by simp) (by have := hn.1; have := hn.2; simp at *; omega) hbig (fun j u hj => ?_) (fun u hu => by obtain ⟨x, _, rfl⟩ := List.mem_map.1 hu; exact hat x)).mono ?_
    · have hjl : j < L.length := by have := (List.getElem?_eq_some_iff.1 hj).1; simpa using this
      simp only [List.getElem?_map, List.getElem?_eq_getElem hjl, Option.map_some, Option.some.injEq] at hj
      subst hj
      rw [hc j (by simpa using hjl)]
      have := (hr j (.val (vf L[j])) (by simp [hjl])).val_eq
      rw [this]
    · rintro e w' ⟨v', rfl, ho, hb⟩
      exact own w' v' hb ho
theorem cloneStrs_own (l : List ByteArray) (hl : l.length ≤ 1048576) : FnO Tryd.prog 23 [strsA l] [] (.ref 0 1 0 l.length) [some (.arr 1 (l.map strA))] := by
  have hin := @ti9
  refine FnO.clone (vf := Value.string) (e := 9) (bytes := 16) (by kernel_rfl) (fun _ => rfl) (fun c w => Tryd.slices_Clone_string_nil 0 c w) (fun a c w => (Tryd.slices_Clone_string_zero a c w).mono fun e w' ⟨v', h1, h2, _, h3⟩ => ⟨v', h1, h2, h3⟩) ?_ l (by omega)
  intro b off n c news w hn hm hbig hc hat
  obtain ⟨d, i0, hd, hi, hti⟩ := tinfo_of hin
  have h1 : i0.size = 1 := by have := congrArg TI.size hti; exact this.symm
  have h2 : i0.bytes = 16 := by have := congrArg TI.bytes hti; exact this.symm
  obtain ⟨z, hz, hzc⟩ : ∃ z, i0.zero = some z ∧ z.cells.size = 1 := by
    have := congrArg TI.zero hti
    cases hq : i0.zero with
    | none => rw [hq] at this; simp at this
    | some z => rw [hq] at this; simp at this; exact ⟨z, rfl, by have := congrArg List.length this; simpa using this.symm⟩
  refine (Tryd.slices_Clone i0 z 1 16 hi hz h1 h2 hzc (by decide) (fun w => by rw [run_sizeOf hin]) b off n c news w (by omega) hm hbig hc hat).mono fun e w' ⟨v', h1, h2, _, h3⟩ => ⟨v', h1, h2, h3⟩
end Go.Lg

namespace Go.Lg
open Go.Proofs
set_option linter.unusedSimpArgs false
set_option linter.unusedVariables false
attribute [local irreducible] Ap Rq asemC WP RunD Ret Gq thenA inBlockA bodyQ noGotoA RqL RqP OpP
set_option maxHeartbeats 8000000
set_option maxRecDepth 20000
attribute [local simp] AV.cells
def desugarA (p : Gram × List Int × Int) : AV := .tup [gramA p.1, intsA p.2.1, intA p.2.2]
@[simp] theorem bd_desugarA (n : Nat) (p : Gram × List Int × Int) : (desugarA p).bd n = true := by simp [desugarA, AV.bd, bdL]
def zgA19 : AV := .agg [.val (.slice none 0 0), .val (.slice none 0 0), .val (.int .i64 0), .val (.slice none 0 0)]
structure DFit (f : GFi) (terms : List ByteArray) : Prop where
  toks : (toks f f.levels.length).length ≤ 1000000
  rules : f.rules.length ≤ 100000
  terms : terms.length ≤ 1048576
  cnt : cntF f f.rules.length ≤ 10000
theorem desugar_fn (f : GFi) (terms : List ByteArray) (hf : DFit f terms) : Fn Tryd.prog 11 [fileA f, strsA terms] (desugarA (desugarP f terms)) := by
  have hT := hf.toks
  have hR := hf.rules
  have hM := hf.terms
  refine Fn.intro (by simp [AV.bd, bdL, bdL_append]) (by kernel_rfl) Tryd.func11 rfl rfl Tryd.ntmps11 (by exact Nat.le_of_ble_eq_true rfl) ?_; intro Γ hm
  by_cases hval : (validF f && termsOk terms) = true
  · have hv := hval
    rw [Bool.and_eq_true] at hv
    have hwell := valid_well hv.1
    have hname := valid_name hv.1
    (repeat' (first | apply jA | apply jH | apply jI | apply jK | apply jM | apply jS | (refine wp_cond rfl (fun hc => ?_) (fun hc => ?_) <;> (try simp only [sB, ne_eq, reduceCtorEq] at hc) <;> (try (exfalso; omega))) | (refine WP.regionC (id := 0) ?_; (refine se_box rfl (by exact ⟨rfl, rfl⟩) ?_); (refine se_box rfl (by exact ⟨rfl, rfl⟩) ?_); (refine se_alloc rfl ?_); (refine sassign rfl ?_); (refine sassign rfl ?_); apply jW) | (refine WP.regionC (id := 1) ?_; (refine sloadpw rfl rfl rfl rfl ?_); (refine sc_p rfl rfl (by first | ((repeat' first | exact SubL.nil | refine SubL.cons ?_ ?_ | exact Sub.refl); done) | fail) (by first | (simp [bdL, bdL_append, AV.bd]; done) | fail) (gvalid_fn f hT) ?_); (refine su (anot rfl) ?_); (refine smove rfl ?_); (refine sg (gq_vf rfl rfl) (fun he => ap_load_pw (rq_p rfl rfl) rfl rfl rfl) ?_); (refine sg_p (gq_vf rfl rfl) (fun he => ⟨(rq_p rfl rfl), (RqL.cons (rq_c rfl rfl) (RqL.nil)), (by first | ((repeat' first | exact SubL.nil | refine SubL.cons ?_ ?_ | exact Sub.refl); done) | fail), (by first | (simp [bdL, bdL_append, AV.bd]; done) | fail), terminals_fn terms⟩) ?_); (refine sg (gq_vf rfl rfl) (fun he => ap_not (rq_c rfl rfl)) ?_); (refine su (ap_or (rq_p rfl rfl) (rq_c rfl rfl)) ?_); apply jW) | (refine WP.regionC (id := 2) ?_; (refine su (ap_build (RqP.nil) rfl) ?_); (refine se_store_b rfl rfl rfl rfl ?_); (refine sassign rfl ?_); (refine sassign rfl ?_); apply jW) | (refine WP.regionC (id := 3) ?_; (refine sloadpw rfl rfl rfl rfl ?_); (refine su (ap_build (RqP.cons (rq_p rfl rfl) (RqP.cons (rq_p rfl rfl) (RqP.nil))) rfl) ?_); (refine se_box rfl (by exact ⟨rfl, rfl⟩) ?_); (refine sassign rfl ?_); apply jW)))
    · rw [hv.1, hv.2] at hc; simp at hc
    refine wp_nilo 3 1 1 rfl rfl (wp_nilo 3 4 2 rfl rfl ?_)
    (repeat' (first | apply jF | apply jH | (refine WP.regionC (id := 4) ?_; (refine sfieldp rfl rfl rfl ?_); (refine sloadp rfl rfl rfl rfl ?_); (refine slenm rfl rfl ?_); (refine smove rfl ?_); apply jW)))
    refine wp_loop (fun k => k ≤ f.rules.length) (fun k => f.rules.length - k)
      (fun k => (S 176 [(2, .ptr 0 3 0 0), (3, .ptr 1 1 0 0), (4, .ptr 2 4 0 0), (7, .ptr 3 6 0 0), (34, grulesA f.rules), (35, intA (f.rules.length : Nat)), (36, intA (k : Nat))] 6 [(0, some (.arr 3 [fileA f])), (1, some (.arr 1 [strsA terms])), (2, some (.arr 4 [zgA19])), (3, some (.arr 6 [.agg [strsA terms, .ref 4 1 0 ((ruleNames f).take k).length, strA ⟨#[]⟩, intA 0, .ref 5 2 0 0, boolA true]])), (4, some (.arr 1 (((ruleNames f).take k).map strA))), (5, some (.arr 2 []))])) 0 ⟨[0, 1, 2, 3, 4, 5], ToR.S rfl (by repeat' (first | exact rt_nil | refine rt_t rfl rfl ?_ | refine rt_e rfl rfl ?_ | refine rt_p rfl rfl (by first | (simp [AV.bd, bdL, bdL_append]; done) | fail) ?_)) (by repeat' (first | exact ro_nil | refine ro_e rfl rfl ?_ | refine ro_p rfl (by first | exact rfl | fail) (by first | (simp [bdL, bdL_append, AV.bd]; done) | fail) ?_ | refine ro_e rfl (by simp only [renL, AV.ren, ren_strsA, ren_intsA]; exact rfl) ?_)) rfl (by (rw [hm]; exact rfl)) rfl (by (simp [bdT, AV.bd, bdL, bdL_append]; done)) (by repeat' (first | exact True.intro | exact rfl | refine And.intro ?_ ?_ | (simp [bdOq, bdL, bdL_append, AV.bd]; done))) (by (rw [hm]; exact Nat.le_of_ble_eq_true rfl))⟩ (Nat.zero_le _) ?_
    rintro k hk
    have hn : (ruleNames f).length = f.rules.length := by simp [ruleNames]
    by_cases h : k < f.rules.length
    · have e : (ruleNames f).take (k + 1) = (ruleNames f).take k ++ [(nth f.rules k).name] := by
        rw [take_succ_nth (by omega)]
        congr 1
        simp [ruleNames, nth_map GRu.name h]
      have hb : ((ruleNames f).take k).length ≤ 100000 := by simp; omega
      generalize hq : (ruleNames f).take k = q at *
      (repeat' (first | apply jA | apply jF | apply jH | apply jI | apply jN | (refine wp_cond rfl (fun hc => ?_) (fun hc => ?_) <;> (try simp only [sB, ne_eq, reduceCtorEq] at hc) <;> (try (exfalso; omega))) | (refine WP.regionC (id := 5) ?_; (refine slss rfl rfl ?_); apply jW) | (refine WP.regionC (id := 6) ?_; (refine sidxn rfl rfl (by omega) ?_); (refine sloadw rfl rfl ?_); (refine se_alloc rfl ?_); (refine se_store_b rfl rfl rfl rfl ?_); apply jW) | (refine wp_draw (id := 7) 12 mixed (by kernel_rfl) (by kernel_rfl) rfl ?_ <;> (refine rmove rfl ?_) <;> (refine rmove rfl ?_) <;> (refine rnilc rfl ?_) <;> (refine rfieldp rfl rfl rfl ?_) <;> (refine rloadp rfl rfl rfl rfl ?_) <;> (refine rfieldp rfl rfl rfl ?_) <;> (refine rloadp rfl rfl rfl rfl ?_) <;> (refine rd_lit (OpP.cons rfl (OpP.nil)) rfl rfl rfl rfl rfl rfl ?_) <;> (refine rd_app1 rfl rfl rfl rfl rfl rfl rfl rfl (by omega) ?_) <;> (refine rnilc rfl ?_) <;> (refine rfieldp rfl rfl rfl ?_) <;> (refine rd_store_b rfl rfl rfl rfl ?_) <;> (refine rd_end (by kernel_rfl) ?_)) | (refine WP.regionC (id := 8) ?_; (refine sadd rfl rfl (by exact inr_i64_of (by omega)) ?_); (refine smove rfl ?_); apply jW)))
      refine ⟨k + 1, ⟨by omega, by omega⟩, ?_⟩
      rw [e, List.length_append, List.map_append]
      exact ⟨[0, 1, 2, 3, 15, 5], ToR.S rfl (by repeat' (first | exact rt_nil | refine rt_t rfl rfl ?_ | refine rt_e rfl rfl ?_ | refine rt_p rfl rfl (by first | (simp [AV.bd, bdL, bdL_append]; done) | fail) ?_)) (by repeat' (first | exact ro_nil | refine ro_e rfl rfl ?_ | refine ro_p rfl (by first | exact rfl | fail) (by first | (simp [bdL, bdL_append, AV.bd]; done) | fail) ?_ | refine ro_e rfl (by simp only [renL, AV.ren, ren_strsA, ren_intsA]; exact rfl) ?_)) rfl (by (rw [hm]; exact rfl)) rfl (by (simp [bdT, AV.bd, bdL, bdL_append]; done)) (by repeat' (first | exact True.intro | exact rfl | refine And.intro ?_ ?_ | (simp [bdOq, bdL, bdL_append, AV.bd]; done))) (by (rw [hm]; exact Nat.le_of_ble_eq_true rfl))⟩
    · have : k = f.rules.length := by omega
      subst this
      rw [← hn, List.take_length]
      generalize hnm : ruleNames f = nms at *
      refine wp_frzom (L := nms) (f := strA) 3 1 hm rfl rfl rfl rfl rfl (fun _ => rfl) (fun _ => rfl) rfl ?_
      (repeat' (first | apply jA | apply jH | apply jJ | apply jL | apply jP | (refine wp_cond rfl (fun hc => ?_) (fun hc => ?_) <;> (try simp only [sB, ne_eq, reduceCtorEq] at hc) <;> (try (exfalso; omega))) | (refine WP.regionC (id := 5) ?_; (refine slss rfl rfl ?_); apply jW) | (refine wp_draw (id := 9) 12 mixed (by kernel_rfl) (by kernel_rfl) rfl ?_ <;> (refine rd_u rfl rfl (aloadpw rfl rfl rfl rfl) ?_) <;> (refine rd_call rfl rfl (by first | ((repeat' first | exact SubL.nil | refine SubL.cons ?_ ?_ | exact Sub.refl); done) | fail) (by first | (simp [bdL, bdL_append, AV.bd]; done) | fail) (cloneStrs_fn _ (by omega)) ?_) <;> (refine rmove rfl ?_) <;> (refine rnilc rfl ?_) <;> (refine rfieldp rfl rfl rfl ?_) <;> (refine rloadp rfl rfl rfl rfl ?_) <;> (refine rfieldp rfl rfl rfl ?_) <;> (refine rloadp rfl rfl rfl rfl ?_) <;> (refine rd_call rfl rfl (by first | ((repeat' first | exact SubL.nil | refine SubL.cons ?_ ?_ | exact Sub.refl); done) | fail) (by first | (simp [bdL, bdL_append, AV.bd]; done) | fail) (index_fn _ _) ?_) <;> (refine rd_u rfl rfl (ap_build (RqP.cons (rq_p rfl rfl) (RqP.cons (rq_p rfl rfl) (RqP.nil))) rfl) ?_) <;> (refine rd_alloc rfl ?_) <;> (refine rd_store_b rfl rfl rfl rfl ?_) <;> (refine rd_end (by kernel_rfl) ?_))))
      (repeat' (first | apply jA | apply jF | apply jH | (refine WP.regionC (id := 10) ?_; (refine sassign rfl ?_); apply jW) | (refine WP.regionC (id := 11) ?_; (refine sfieldp rfl rfl rfl ?_); (refine sloadp rfl rfl rfl rfl ?_); (refine slenm rfl rfl ?_); (refine smove rfl ?_); apply jW)))
      refine wp_nil 11 1 rfl ?_
      refine wp_nilo 16 3 3 rfl rfl ?_
      refine wp_loop (fun (σ : Nat × ByteArray) => σ.1 ≤ f.rules.length) (fun σ => f.rules.length - σ.1)
        (fun σ => (S 176 [(3, .ptr 0 1 0 0), (4, .ptr 1 4 0 0), (7, .ptr 2 6 0 0), (10, .ptr 4 4 0 0), (11, .ref 6 1 0 (drulTo f terms σ.1).nums.length), (63, grulesA f.rules), (64, intA (f.rules.length : Nat)), (65, intA (σ.1 : Nat))] 7 [(0, some (.arr 1 [strsA terms])), (1, some (.arr 4 [zgA19])), (2, some (.arr 6 [.agg [strsA terms, strsA nms, strA σ.2, intA (drulTo f terms σ.1).st.count, .ref 3 2 0 (drulTo f terms σ.1).st.extra.length, boolA (drulTo f terms σ.1).st.ok]])), (3, some (.arr 2 ((drulTo f terms σ.1).st.extra.map extraA))), (4, some (.arr 4 [.agg [strsA terms, .val (.slice none 0 0), intA (idx nms f.start), .ref 5 3 0 (drulTo f terms σ.1).rules.length]])), (5, some (.arr 3 ((drulTo f terms σ.1).rules.map ruleA))), (6, some (.arr 1 ((drulTo f terms σ.1).nums.map intA)))])) (0, ⟨#[]⟩) ⟨[1, 2, 3, 5, 16, 19, 18], ToR.S rfl (by repeat' (first | exact rt_nil | refine rt_r rfl rfl ?_ | refine rt_t rfl rfl ?_ | refine rt_e rfl rfl ?_ | refine rt_p rfl rfl (by first | (simp [AV.bd, bdL, bdL_append]; done) | fail) ?_)) (by repeat' (first | exact ro_nil | refine ro_e rfl rfl ?_ | refine ro_p rfl (by first | exact rfl | fail) (by first | (simp [bdL, bdL_append, AV.bd]; done) | fail) ?_ | refine ro_e rfl (by simp only [renL, AV.ren, ren_strsA, ren_intsA]; exact rfl) ?_)) rfl (by (rw [hm]; exact rfl)) rfl (by (simp [bdT, AV.bd, bdL, bdL_append]; done)) (by repeat' (first | exact True.intro | exact rfl | refine And.intro ?_ ?_ | (simp [bdOq, bdL, bdL_append, AV.bd]; done))) (by (rw [hm]; exact Nat.le_of_ble_eq_true rfl))⟩ (Nat.zero_le _) ?_
      rintro ⟨k, rn⟩ hk
      dsimp only at hk ⊢
      by_cases h : k < f.rules.length
      · (repeat' (first | apply jA | apply jF | apply jH | apply jI | (refine wp_cond rfl (fun hc => ?_) (fun hc => ?_) <;> (try simp only [sB, ne_eq, reduceCtorEq] at hc) <;> (try (exfalso; omega))) | (refine WP.regionC (id := 12) ?_; (refine slss rfl rfl ?_); apply jW) | (refine WP.regionC (id := 13) ?_; (refine smove rfl ?_); (refine sidxn rfl rfl (by omega) ?_); (refine sloadw rfl rfl ?_); (refine se_alloc rfl ?_); (refine sassign rfl ?_); (refine se_store_b rfl rfl rfl rfl ?_); apply jW) | (refine WP.regionC (id := 14) ?_; (refine smove rfl ?_); (refine smove rfl ?_); (refine sfieldp rfl rfl rfl ?_); (refine sloadp rfl rfl rfl rfl ?_); (refine snilc rfl ?_); (refine sfieldp rfl rfl rfl ?_); (refine se_store_b rfl rfl rfl rfl ?_); (refine snilc rfl ?_); (refine sfieldp rfl rfl rfl ?_); (refine se_store_b rfl rfl rfl rfl ?_); apply jW) | (refine WP.regionC (id := 15) ?_; (refine smove rfl ?_); (refine su (ap_clo (RqL.cons (rq_p rfl rfl) (RqL.nil)) (RqL.nil)) ?_); (refine sassign rfl ?_); apply jW) | (refine WP.regionC (id := 16) ?_; (refine sfieldp rfl rfl rfl ?_); (refine sloadp rfl rfl rfl rfl ?_); (refine slenm rfl rfl ?_); (refine smove rfl ?_); apply jW)))
        have hx0 : (drulTo f terms (k + 1)) = daltTo (envOf f terms (nth f.rules k)) k (drulTo f terms k).reset (nth f.rules k).alts (nth f.rules k).alts.length := rfl
        have hd : envOf f terms (nth f.rules k) = ⟨terms, nms, (nth f.rules k).name⟩ := by rw [← hnm]; rfl
        have hwl := hwell (nth f.rules k) (nth_mem h)
        have hsz := hname (nth f.rules k) (nth_mem h)
        have hc1 := cntF_mono f (show k + 1 ≤ f.rules.length by omega)
        have hc2 : cntF f (k + 1) = cntF f k + cntA (nth f.rules k).alts (nth f.rules k).alts.length := rfl
        have hc3 := drulTo_ext f terms k
        have hcf := hf.cnt
        have hc4 := drulTo_len f terms k
        generalize hda : envOf f terms (nth f.rules k) = d at *
        generalize hal : (nth f.rules k).alts = alts at *
        refine wp_loop (fun (j : Nat) => j ≤ alts.length) (fun j => alts.length - j)
          (fun j => (S 176 [(3, .ptr 0 1 0 0), (4, .ptr 1 4 0 0), (7, .ptr 2 6 0 0), (10, .ptr 4 4 0 0), (11, .ref 6 1 0 (daltTo d k (drulTo f terms k).reset alts j).nums.length), (12, intA (k : Nat)), (14, .clo (.func 25) [.ptr 2 6 0 0] []), (63, grulesA f.rules), (64, intA (f.rules.length : Nat)), (65, intA (k : Nat)), (81, altsA alts), (82, intA (alts.length : Nat)), (83, intA (j : Nat))] 7 [(0, some (.arr 1 [strsA terms])), (1, some (.arr 4 [zgA19])), (2, some (.arr 6 [.agg [strsA d.terms, strsA d.names, strA d.rule, intA (daltTo d k (drulTo f terms k).reset alts j).st.count, .ref 3 2 0 (daltTo d k (drulTo f terms k).reset alts j).st.extra.length, boolA (daltTo d k (drulTo f terms k).reset alts j).st.ok]])), (3, some (.arr 2 ((daltTo d k (drulTo f terms k).reset alts j).st.extra.map extraA))), (4, some (.arr 4 [.agg [strsA terms, .val (.slice none 0 0), intA (idx nms f.start), .ref 5 3 0 (daltTo d k (drulTo f terms k).reset alts j).rules.length]])), (5, some (.arr 3 ((daltTo d k (drulTo f terms k).reset alts j).rules.map ruleA))), (6, some (.arr 1 ((daltTo d k (drulTo f terms k).reset alts j).nums.map intA)))])) 0 (by rw [hd]; exact ⟨[0, 1, 2, 3, 4, 5, 6], ToR.S rfl (by repeat' (first | exact rt_nil | refine rt_r rfl rfl ?_ | refine rt_t rfl rfl ?_ | refine rt_e rfl rfl ?_ | refine rt_p rfl rfl (by first | (simp [AV.bd, bdL, bdL_append]; done) | fail) ?_)) (by repeat' (first | exact ro_nil | refine ro_e rfl rfl ?_ | refine ro_p rfl (by first | exact rfl | fail) (by first | exact bdL_map (fun _ => by first | exact rfl | simp [AV.bd, bdL, bdL_append]) _ | (simp [bdL, bdL_append, AV.bd]; done) | fail) ?_ | refine ro_e rfl (by simp only [renL, AV.ren, ren_strsA, ren_intsA]; exact rfl) ?_)) rfl (by (rw [hm]; exact rfl)) rfl (by (simp [bdT, AV.bd, bdL, bdL_append]; done)) (by repeat' (first | exact True.intro | exact rfl | refine And.intro ?_ ?_ | exact bdL_map (fun _ => by first | exact rfl | simp [AV.bd, bdL, bdL_append]) _ | (simp [bdOq, bdL, bdL_append, AV.bd]; done))) (by (rw [hm]; exact Nat.le_of_ble_eq_true rfl))⟩) (Nat.zero_le _) ?_
        rintro j hj
        have he := daltTo_ext d k (drulTo f terms k).reset alts j
        have hcj := cntA_mono alts hj
        by_cases hlt : j < alts.length
        · have e1 : daltTo d k (drulTo f terms k).reset alts (j + 1) = stepA d k (daltTo d k (drulTo f terms k).reset alts j) (nth alts j) := rfl
          generalize hx : daltTo d k (drulTo f terms k).reset alts j = x at *
          have hr0 : (drulTo f terms k).reset.rules = (drulTo f terms k).rules := rfl
          have hn0 : (drulTo f terms k).reset.nums = (drulTo f terms k).nums := rfl
          have he0 : (drulTo f terms k).reset.st.extra = (drulTo f terms k).st.extra := rfl
          have ht0 : (drulTo f terms k).reset.st.count = 0 := rfl
          rw [hr0, hn0, he0, ht0] at he
          have hca : cntA alts (j + 1) = cntA alts j + nodE (nth alts j).body := rfl
          have hcb := cntA_mono alts (show j + 1 ≤ alts.length by omega)
          have hcl := cntA_len alts alts.length
          have hB1 : x.rules.length ≤ 100000 := by omega
          have hB2 : x.nums.length ≤ 100000 := by omega
          have hsy := symbols_fn d (by rw [hd]; dsimp only; omega) (by rw [hd]; dsimp only; omega) (by rw [hd]; exact hsz) (nth alts j).body (hwl _ (nth_mem hlt)) x.st (by refine ⟨?_, ?_, ?_⟩ <;> omega)
          unfold mkA rowA at hsy
          (repeat' (first | apply jA | apply jF | apply jH | apply jI | (refine wp_cond rfl (fun hc => ?_) (fun hc => ?_) <;> (try simp only [sB, ne_eq, reduceCtorEq] at hc) <;> (try (exfalso; omega))) | (refine WP.regionC (id := 17) ?_; (refine slss rfl rfl ?_); apply jW) | (refine WP.regionC (id := 18) ?_; (refine sidxn rfl rfl (by omega) ?_); (refine sloadw rfl rfl ?_); (refine se_alloc rfl ?_); (refine se_store_b rfl rfl rfl rfl ?_); apply jW) | (refine WP.regionC (id := 19) ?_; (refine smove rfl ?_); (refine sfieldp rfl rfl rfl ?_); (refine sloadp rfl rfl rfl rfl ?_); (refine su (alenr rfl rfl) ?_); (refine se_lit (OpP.cons rfl (OpP.nil)) rfl rfl rfl rfl rfl rfl ?_); (refine se_app1 rfl rfl rfl rfl rfl rfl rfl rfl (by omega) ?_); (refine sassign rfl ?_); apply jW)))
          (repeat' (first | apply jH | apply jN | (refine wp_tree (id := 20) 14 mixed rfl ?_ <;> (refine wpt_take 0 rfl (by exact still_fieldAddr rfl rfl) (by exact ap_field_p (rq_p rfl rfl) rfl rfl) (by kernel_rfl) (by kernel_rfl) (by kernel_rfl) (by repeat (first | exact pind_q | apply pind_then | apply pind_block)) ?_; (refine wpt_take 2 rfl still_move (by exact ap_move (rq_p rfl rfl)) (by kernel_rfl) (by kernel_rfl) (by kernel_rfl) (by repeat (first | exact pind_q | apply pind_then | apply pind_block)) ?_; (refine wpt_take 3 rfl still_move (by exact ap_move (rq_p rfl rfl)) (by kernel_rfl) (by kernel_rfl) (by kernel_rfl) (by repeat (first | exact pind_q | apply pind_then | apply pind_block)) ?_; (refine wpt_take 4 rfl (by exact still_fieldAddr rfl rfl) (by exact ap_field_p (rq_p rfl rfl) rfl rfl) (by kernel_rfl) (by kernel_rfl) (by kernel_rfl) (by repeat (first | exact pind_q | apply pind_then | apply pind_block)) ?_; (refine wpt_take 7 rfl (by exact still_fieldAddr rfl rfl) (by exact ap_field_p (rq_p rfl rfl) rfl rfl) (by kernel_rfl) (by kernel_rfl) (by kernel_rfl) (by repeat (first | exact pind_q | apply pind_then | apply pind_block)) ?_; (refine wpt_all (rs := [1, 5, 8]) (by kernel_rfl) rfl ⟨?_, ?_, ?_, trivial⟩ <;> (first | (refine wpo_do (i := 1) rfl rfl ?_; (refine sloadp rfl rfl rfl rfl ?_); apply jW; (refine wpt_all (rs := [5, 8]) (by kernel_rfl) rfl ⟨?_, ?_, trivial⟩ <;> (first | (refine wpo_do (i := 5) rfl rfl ?_; (refine sloadp rfl rfl rfl rfl ?_); apply jW; (refine wpt_all (rs := [6, 8]) (by kernel_rfl) rfl ⟨?_, ?_, trivial⟩ <;> (first | (refine wpo_do (i := 6) rfl rfl ?_; (refine sc_o [2, 3] rfl rfl (hsy) (Lend.S (by first | ((repeat' first | exact RenL.nil | refine RenL.cons (by first | exact rfl | exact ren_p (by simp [AV.bd, bdL, bdL_append])) ?_); done) | fail) (by first | ((repeat' first | exact LendO.nil | refine LendO.arr rfl (by first | (refine (renL_pure ?_).symm; exact bdL_map (fun _ => by simp [AV.bd, bdL, bdL_append]) _) | (simp [renL, AV.ren, ren_pure, ap, intA, boolA, strA]; done)) ?_); done) | fail) (by decide) rfl (by simp [AV.bd, bdL, bdL_append]) (by repeat' (first | exact True.intro | refine And.intro ?_ ?_ | exact bdL_map (fun _ => by simp [AV.bd, bdL, bdL_append]) _ | simp [AV.bd, bdL, bdL_append]))) ?_; simp only [updN, newO, AObj.ren, renL, AV.ren, apx, ap, if_true, if_false, Nat.reduceLT, Nat.reduceAdd, Nat.reduceSub, sO, intA, boolA, strA, ren_extras]); apply jW; (refine wpt_all (rs := [8]) (by kernel_rfl) rfl ⟨?_, trivial⟩; (refine wpo_do (i := 8) rfl rfl ?_; (refine sloadp rfl rfl rfl rfl ?_); apply jW; (refine wpt_all (rs := [9]) (by kernel_rfl) rfl ⟨?_, trivial⟩; (refine wpo_do (i := 9) rfl rfl ?_; (refine su (ap_build (RqP.cons (rq_p rfl rfl) (RqP.cons (rq_p rfl rfl) (RqP.cons (rq_p rfl rfl) (RqP.nil)))) rfl) ?_); apply jW; (refine wpt_all (rs := [10]) (by kernel_rfl) rfl ⟨?_, trivial⟩; (refine wpo_do (i := 10) rfl rfl ?_; (refine se_lit (OpP.cons rfl (OpP.nil)) rfl rfl rfl rfl rfl rfl ?_); apply jW; (refine wpt_all (rs := [11]) (by kernel_rfl) rfl ⟨?_, trivial⟩; (refine wpo_do (i := 11) rfl rfl ?_; (refine se_app1R rfl rfl rfl rfl rfl rfl rfl rfl (by omega) ?_); apply jW; (refine wpt_take 12 rfl (by exact still_fieldAddr rfl rfl) (by exact ap_field_p (rq_p rfl rfl) rfl rfl) (by kernel_rfl) (by kernel_rfl) (by kernel_rfl) (by repeat (first | exact pind_q | apply pind_then | apply pind_block)) ?_; (refine wpt_all (rs := [13]) (by kernel_rfl) rfl ⟨?_, trivial⟩; (refine wpo_do (i := 13) rfl rfl ?_; (refine se_store_b rfl rfl rfl rfl ?_); apply jW; (refine wpt_end (by kernel_rfl) ?_))))))))))))) | (refine wpo_do (i := 8) rfl rfl ?_; (refine sloadp rfl rfl rfl rfl ?_); apply jW; (refine wpt_all (rs := [6]) (by kernel_rfl) rfl ⟨?_, trivial⟩; (refine wpo_do (i := 6) rfl rfl ?_; (refine sc_o [2, 3] rfl rfl (hsy) (Lend.S (by first | ((repeat' first | exact RenL.nil | refine RenL.cons (by first | exact rfl | exact ren_p (by simp [AV.bd, bdL, bdL_append])) ?_); done) | fail) (by first | ((repeat' first | exact LendO.nil | refine LendO.arr rfl (by first | (refine (renL_pure ?_).symm; exact bdL_map (fun _ => by simp [AV.bd, bdL, bdL_append]) _) | (simp [renL, AV.ren, ren_pure, ap, intA, boolA, strA]; done)) ?_); done) | fail) (by decide) rfl (by simp [AV.bd, bdL, bdL_append]) (by repeat' (first | exact True.intro | refine And.intro ?_ ?_ | exact bdL_map (fun _ => by simp [AV.bd, bdL, bdL_append]) _ | simp [AV.bd, bdL, bdL_append]))) ?_; simp only [updN, newO, AObj.ren, renL, AV.ren, apx, ap, if_true, if_false, Nat.reduceLT, Nat.reduceAdd, Nat.reduceSub, sO, intA, boolA, strA, ren_extras]); apply jW; (refine wpt_all (rs := [9]) (by kernel_rfl) rfl ⟨?_, trivial⟩; (refine wpo_do (i := 9) rfl rfl ?_; (refine su (ap_build (RqP.cons (rq_p rfl rfl) (RqP.cons (rq_p rfl rfl) (RqP.cons (rq_p rfl rfl) (RqP.nil)))) rfl) ?_); apply jW; (refine wpt_all (rs := [10]) (by kernel_rfl) rfl ⟨?_, trivial⟩; (refine wpo_do (i := 10) rfl rfl ?_; (refine se_lit (OpP.cons rfl (OpP.nil)) rfl rfl rfl rfl rfl rfl ?_); apply jW; (refine wpt_all (rs := [11]) (by kernel_rfl) rfl ⟨?_, trivial⟩; (refine wpo_do (i := 11) rfl rfl ?_; (refine se_app1R rfl rfl rfl rfl rfl rfl rfl rfl (by omega) ?_); apply jW; (refine wpt_take 12 rfl (by exact still_fieldAddr rfl rfl) (by exact ap_field_p (rq_p rfl rfl) rfl rfl) (by kernel_rfl) (by kernel_rfl) (by kernel_rfl) (by repeat (first | exact pind_q | apply pind_then | apply pind_block)) ?_; (refine wpt_all (rs := [13]) (by kernel_rfl) rfl ⟨?_, trivial⟩; (refine wpo_do (i := 13) rfl rfl ?_; (refine se_store_b rfl rfl rfl rfl ?_); apply jW; (refine wpt_end (by kernel_rfl) ?_)))))))))))))))) | (refine wpo_do (i := 8) rfl rfl ?_; (refine sloadp rfl rfl rfl rfl ?_); apply jW; (refine wpt_all (rs := [5]) (by kernel_rfl) rfl ⟨?_, trivial⟩; (refine wpo_do (i := 5) rfl rfl ?_; (refine sloadp rfl rfl rfl rfl ?_); apply jW; (refine wpt_all (rs := [6]) (by kernel_rfl) rfl ⟨?_, trivial⟩; (refine wpo_do (i := 6) rfl rfl ?_; (refine sc_o [2, 3] rfl rfl (hsy) (Lend.S (by first | ((repeat' first | exact RenL.nil | refine RenL.cons (by first | exact rfl | exact ren_p (by simp [AV.bd, bdL, bdL_append])) ?_); done) | fail) (by first | ((repeat' first | exact LendO.nil | refine LendO.arr rfl (by first | (refine (renL_pure ?_).symm; exact bdL_map (fun _ => by simp [AV.bd, bdL, bdL_append]) _) | (simp [renL, AV.ren, ren_pure, ap, intA, boolA, strA]; done)) ?_); done) | fail) (by decide) rfl (by simp [AV.bd, bdL, bdL_append]) (by repeat' (first | exact True.intro | refine And.intro ?_ ?_ | exact bdL_map (fun _ => by simp [AV.bd, bdL, bdL_append]) _ | simp [AV.bd, bdL, bdL_append]))) ?_; simp only [updN, newO, AObj.ren, renL, AV.ren, apx, ap, if_true, if_false, Nat.reduceLT, Nat.reduceAdd, Nat.reduceSub, sO, intA, boolA, strA, ren_extras]); apply jW; (refine wpt_all (rs := [9]) (by kernel_rfl) rfl ⟨?_, trivial⟩; (refine wpo_do (i := 9) rfl rfl ?_; (refine su (ap_build (RqP.cons (rq_p rfl rfl) (RqP.cons (rq_p rfl rfl) (RqP.cons (rq_p rfl rfl) (RqP.nil)))) rfl) ?_); apply jW; (refine wpt_all (rs := [10]) (by kernel_rfl) rfl ⟨?_, trivial⟩; (refine wpo_do (i := 10) rfl rfl ?_; (refine se_lit (OpP.cons rfl (OpP.nil)) rfl rfl rfl rfl rfl rfl ?_); apply jW; (refine wpt_all (rs := [11]) (by kernel_rfl) rfl ⟨?_, trivial⟩; (refine wpo_do (i := 11) rfl rfl ?_; (refine se_app1R rfl rfl rfl rfl rfl rfl rfl rfl (by omega) ?_); apply jW; (refine wpt_take 12 rfl (by exact still_fieldAddr rfl rfl) (by exact ap_field_p (rq_p rfl rfl) rfl rfl) (by kernel_rfl) (by kernel_rfl) (by kernel_rfl) (by repeat (first | exact pind_q | apply pind_then | apply pind_block)) ?_; (refine wpt_all (rs := [13]) (by kernel_rfl) rfl ⟨?_, trivial⟩; (refine wpo_do (i := 13) rfl rfl ?_; (refine se_store_b rfl rfl rfl rfl ?_); apply jW; (refine wpt_end (by kernel_rfl) ?_)))))))))))))))))) | (refine wpo_do (i := 5) rfl rfl ?_; (refine sloadp rfl rfl rfl rfl ?_); apply jW; (refine wpt_all (rs := [1, 6, 8]) (by kernel_rfl) rfl ⟨?_, ?_, ?_, trivial⟩ <;> (first | (refine wpo_do (i := 1) rfl rfl ?_; (refine sloadp rfl rfl rfl rfl ?_); apply jW; (refine wpt_all (rs := [6, 8]) (by kernel_rfl) rfl ⟨?_, ?_, trivial⟩ <;> (first | (refine wpo_do (i := 6) rfl rfl ?_; (refine sc_o [2, 3] rfl rfl (hsy) (Lend.S (by first | ((repeat' first | exact RenL.nil | refine RenL.cons (by first | exact rfl | exact ren_p (by simp [AV.bd, bdL, bdL_append])) ?_); done) | fail) (by first | ((repeat' first | exact LendO.nil | refine LendO.arr rfl (by first | (refine (renL_pure ?_).symm; exact bdL_map (fun _ => by simp [AV.bd, bdL, bdL_append]) _) | (simp [renL, AV.ren, ren_pure, ap, intA, boolA, strA]; done)) ?_); done) | fail) (by decide) rfl (by simp [AV.bd, bdL, bdL_append]) (by repeat' (first | exact True.intro | refine And.intro ?_ ?_ | exact bdL_map (fun _ => by simp [AV.bd, bdL, bdL_append]) _ | simp [AV.bd, bdL, bdL_append]))) ?_; simp only [updN, newO, AObj.ren, renL, AV.ren, apx, ap, if_true, if_false, Nat.reduceLT, Nat.reduceAdd, Nat.reduceSub, sO, intA, boolA, strA, ren_extras]); apply jW; (refine wpt_all (rs := [8]) (by kernel_rfl) rfl ⟨?_, trivial⟩; (refine wpo_do (i := 8) rfl rfl ?_; (refine sloadp rfl rfl rfl rfl ?_); apply jW; (refine wpt_all (rs := [9]) (by kernel_rfl) rfl ⟨?_, trivial⟩; (refine wpo_do (i := 9) rfl rfl ?_; (refine su (ap_build (RqP.cons (rq_p rfl rfl) (RqP.cons (rq_p rfl rfl) (RqP.cons (rq_p rfl rfl) (RqP.nil)))) rfl) ?_); apply jW; (refine wpt_all (rs := [10]) (by kernel_rfl) rfl ⟨?_, trivial⟩; (refine wpo_do (i := 10) rfl rfl ?_; (refine se_lit (OpP.cons rfl (OpP.nil)) rfl rfl rfl rfl rfl rfl ?_); apply jW; (refine wpt_all (rs := [11]) (by kernel_rfl) rfl ⟨?_, trivial⟩; (refine wpo_do (i := 11) rfl rfl ?_; (refine se_app1R rfl rfl rfl rfl rfl rfl rfl rfl (by omega) ?_); apply jW; (refine wpt_take 12 rfl (by exact still_fieldAddr rfl rfl) (by exact ap_field_p (rq_p rfl rfl) rfl rfl) (by kernel_rfl) (by kernel_rfl) (by kernel_rfl) (by repeat (first | exact pind_q | apply pind_then | apply pind_block)) ?_; (refine wpt_all (rs := [13]) (by kernel_rfl) rfl ⟨?_, trivial⟩; (refine wpo_do (i := 13) rfl rfl ?_; (refine se_store_b rfl rfl rfl rfl ?_); apply jW; (refine wpt_end (by kernel_rfl) ?_))))))))))))) | (refine wpo_do (i := 8) rfl rfl ?_; (refine sloadp rfl rfl rfl rfl ?_); apply jW; (refine wpt_all (rs := [6]) (by kernel_rfl) rfl ⟨?_, trivial⟩; (refine wpo_do (i := 6) rfl rfl ?_; (refine sc_o [2, 3] rfl rfl (hsy) (Lend.S (by first | ((repeat' first | exact RenL.nil | refine RenL.cons (by first | exact rfl | exact ren_p (by simp [AV.bd, bdL, bdL_append])) ?_); done) | fail) (by first | ((repeat' first | exact LendO.nil | refine LendO.arr rfl (by first | (refine (renL_pure ?_).symm; exact bdL_map (fun _ => by simp [AV.bd, bdL, bdL_append]) _) | (simp [renL, AV.ren, ren_pure, ap, intA, boolA, strA]; done)) ?_); done) | fail) (by decide) rfl (by simp [AV.bd, bdL, bdL_append]) (by repeat' (first | exact True.intro | refine And.intro ?_ ?_ | exact bdL_map (fun _ => by simp [AV.bd, bdL, bdL_append]) _ | simp [AV.bd, bdL, bdL_append]))) ?_; simp only [updN, newO, AObj.ren, renL, AV.ren, apx, ap, if_true, if_false, Nat.reduceLT, Nat.reduceAdd, Nat.reduceSub, sO, intA, boolA, strA, ren_extras]); apply jW; (refine wpt_all (rs := [9]) (by kernel_rfl) rfl ⟨?_, trivial⟩; (refine wpo_do (i := 9) rfl rfl ?_; (refine su (ap_build (RqP.cons (rq_p rfl rfl) (RqP.cons (rq_p rfl rfl) (RqP.cons (rq_p rfl rfl) (RqP.nil)))) rfl) ?_); apply jW; (refine wpt_all (rs := [10]) (by kernel_rfl) rfl ⟨?_, trivial⟩; (refine wpo_do (i := 10) rfl rfl ?_; (refine se_lit (OpP.cons rfl (OpP.nil)) rfl rfl rfl rfl rfl rfl ?_); apply jW; (refine wpt_all (rs := [11]) (by kernel_rfl) rfl ⟨?_, trivial⟩; (refine wpo_do (i := 11) rfl rfl ?_; (refine se_app1R rfl rfl rfl rfl rfl rfl rfl rfl (by omega) ?_); apply jW; (refine wpt_take 12 rfl (by exact still_fieldAddr rfl rfl) (by exact ap_field_p (rq_p rfl rfl) rfl rfl) (by kernel_rfl) (by kernel_rfl) (by kernel_rfl) (by repeat (first | exact pind_q | apply pind_then | apply pind_block)) ?_; (refine wpt_all (rs := [13]) (by kernel_rfl) rfl ⟨?_, trivial⟩; (refine wpo_do (i := 13) rfl rfl ?_; (refine se_store_b rfl rfl rfl rfl ?_); apply jW; (refine wpt_end (by kernel_rfl) ?_)))))))))))))))) | (refine wpo_do (i := 6) rfl rfl ?_; (refine sc_o [2, 3] rfl rfl (hsy) (Lend.S (by first | ((repeat' first | exact RenL.nil | refine RenL.cons (by first | exact rfl | exact ren_p (by simp [AV.bd, bdL, bdL_append])) ?_); done) | fail) (by first | ((repeat' first | exact LendO.nil | refine LendO.arr rfl (by first | (refine (renL_pure ?_).symm; exact bdL_map (fun _ => by simp [AV.bd, bdL, bdL_append]) _) | (simp [renL, AV.ren, ren_pure, ap, intA, boolA, strA]; done)) ?_); done) | fail) (by decide) rfl (by simp [AV.bd, bdL, bdL_append]) (by repeat' (first | exact True.intro | refine And.intro ?_ ?_ | exact bdL_map (fun _ => by simp [AV.bd, bdL, bdL_append]) _ | simp [AV.bd, bdL, bdL_append]))) ?_; simp only [updN, newO, AObj.ren, renL, AV.ren, apx, ap, if_true, if_false, Nat.reduceLT, Nat.reduceAdd, Nat.reduceSub, sO, intA, boolA, strA, ren_extras]); apply jW; (refine wpt_all (rs := [1, 8]) (by kernel_rfl) rfl ⟨?_, ?_, trivial⟩ <;> (first | (refine wpo_do (i := 1) rfl rfl ?_; (refine sloadp rfl rfl rfl rfl ?_); apply jW; (refine wpt_all (rs := [8]) (by kernel_rfl) rfl ⟨?_, trivial⟩; (refine wpo_do (i := 8) rfl rfl ?_; (refine sloadp rfl rfl rfl rfl ?_); apply jW; (refine wpt_all (rs := [9]) (by kernel_rfl) rfl ⟨?_, trivial⟩; (refine wpo_do (i := 9) rfl rfl ?_; (refine su (ap_build (RqP.cons (rq_p rfl rfl) (RqP.cons (rq_p rfl rfl) (RqP.cons (rq_p rfl rfl) (RqP.nil)))) rfl) ?_); apply jW; (refine wpt_all (rs := [10]) (by kernel_rfl) rfl ⟨?_, trivial⟩; (refine wpo_do (i := 10) rfl rfl ?_; (refine se_lit (OpP.cons rfl (OpP.nil)) rfl rfl rfl rfl rfl rfl ?_); apply jW; (refine wpt_all (rs := [11]) (by kernel_rfl) rfl ⟨?_, trivial⟩; (refine wpo_do (i := 11) rfl rfl ?_; (refine se_app1R rfl rfl rfl rfl rfl rfl rfl rfl (by omega) ?_); apply jW; (refine wpt_take 12 rfl (by exact still_fieldAddr rfl rfl) (by exact ap_field_p (rq_p rfl rfl) rfl rfl) (by kernel_rfl) (by kernel_rfl) (by kernel_rfl) (by repeat (first | exact pind_q | apply pind_then | apply pind_block)) ?_; (refine wpt_all (rs := [13]) (by kernel_rfl) rfl ⟨?_, trivial⟩; (refine wpo_do (i := 13) rfl rfl ?_; (refine se_store_b rfl rfl rfl rfl ?_); apply jW; (refine wpt_end (by kernel_rfl) ?_))))))))))))) | (refine wpo_do (i := 8) rfl rfl ?_; (refine sloadp rfl rfl rfl rfl ?_); apply jW; (refine wpt_all (rs := [1, 9]) (by kernel_rfl) rfl ⟨?_, ?_, trivial⟩ <;> (first | (refine wpo_do (i := 1) rfl rfl ?_; (refine sloadp rfl rfl rfl rfl ?_); apply jW; (refine wpt_all (rs := [9]) (by kernel_rfl) rfl ⟨?_, trivial⟩; (refine wpo_do (i := 9) rfl rfl ?_; (refine su (ap_build (RqP.cons (rq_p rfl rfl) (RqP.cons (rq_p rfl rfl) (RqP.cons (rq_p rfl rfl) (RqP.nil)))) rfl) ?_); apply jW; (refine wpt_all (rs := [10]) (by kernel_rfl) rfl ⟨?_, trivial⟩; (refine wpo_do (i := 10) rfl rfl ?_; (refine se_lit (OpP.cons rfl (OpP.nil)) rfl rfl rfl rfl rfl rfl ?_); apply jW; (refine wpt_all (rs := [11]) (by kernel_rfl) rfl ⟨?_, trivial⟩; (refine wpo_do (i := 11) rfl rfl ?_; (refine se_app1R rfl rfl rfl rfl rfl rfl rfl rfl (by omega) ?_); apply jW; (refine wpt_take 12 rfl (by exact still_fieldAddr rfl rfl) (by exact ap_field_p (rq_p rfl rfl) rfl rfl) (by kernel_rfl) (by kernel_rfl) (by kernel_rfl) (by repeat (first | exact pind_q | apply pind_then | apply pind_block)) ?_; (refine wpt_all (rs := [13]) (by kernel_rfl) rfl ⟨?_, trivial⟩; (refine wpo_do (i := 13) rfl rfl ?_; (refine se_store_b rfl rfl rfl rfl ?_); apply jW; (refine wpt_end (by kernel_rfl) ?_))))))))))) | (refine wpo_do (i := 9) rfl rfl ?_; (refine su (ap_build (RqP.cons (rq_p rfl rfl) (RqP.cons (rq_p rfl rfl) (RqP.cons (rq_p rfl rfl) (RqP.nil)))) rfl) ?_); apply jW; (refine wpt_all (rs := [1, 10]) (by kernel_rfl) rfl ⟨?_, ?_, trivial⟩ <;> (first | (refine wpo_do (i := 1) rfl rfl ?_; (refine sloadp rfl rfl rfl rfl ?_); apply jW; (refine wpt_all (rs := [10]) (by kernel_rfl) rfl ⟨?_, trivial⟩; (refine wpo_do (i := 10) rfl rfl ?_; (refine se_lit (OpP.cons rfl (OpP.nil)) rfl rfl rfl rfl rfl rfl ?_); apply jW; (refine wpt_all (rs := [11]) (by kernel_rfl) rfl ⟨?_, trivial⟩; (refine wpo_do (i := 11) rfl rfl ?_; (refine se_app1R rfl rfl rfl rfl rfl rfl rfl rfl (by omega) ?_); apply jW; (refine wpt_take 12 rfl (by exact still_fieldAddr rfl rfl) (by exact ap_field_p (rq_p rfl rfl) rfl rfl) (by kernel_rfl) (by kernel_rfl) (by kernel_rfl) (by repeat (first | exact pind_q | apply pind_then | apply pind_block)) ?_; (refine wpt_all (rs := [13]) (by kernel_rfl) rfl ⟨?_, trivial⟩; (refine wpo_do (i := 13) rfl rfl ?_; (refine se_store_b rfl rfl rfl rfl ?_); apply jW; (refine wpt_end (by kernel_rfl) ?_))))))))) | (refine wpo_do (i := 10) rfl rfl ?_; (refine se_lit (OpP.cons rfl (OpP.nil)) rfl rfl rfl rfl rfl rfl ?_); apply jW; (refine wpt_all (rs := [1]) (by kernel_rfl) rfl ⟨?_, trivial⟩; (refine wpo_do (i := 1) rfl rfl ?_; (refine sloadp rfl rfl rfl rfl ?_); apply jW; (refine wpt_all (rs := [11]) (by kernel_rfl) rfl ⟨?_, trivial⟩; (refine wpo_do (i := 11) rfl rfl ?_; (refine se_app1R rfl rfl rfl rfl rfl rfl rfl rfl (by omega) ?_); apply jW; (refine wpt_take 12 rfl (by exact still_fieldAddr rfl rfl) (by exact ap_field_p (rq_p rfl rfl) rfl rfl) (by kernel_rfl) (by kernel_rfl) (by kernel_rfl) (by repeat (first | exact pind_q | apply pind_then | apply pind_block)) ?_; (refine wpt_all (rs := [13]) (by kernel_rfl) rfl ⟨?_, trivial⟩; (refine wpo_do (i := 13) rfl rfl ?_; (refine se_store_b rfl rfl rfl rfl ?_); apply jW; (refine wpt_end (by kernel_rfl) ?_)))))))))))))))))) | (refine wpo_do (i := 8) rfl rfl ?_; (refine sloadp rfl rfl rfl rfl ?_); apply jW; (refine wpt_all (rs := [1, 6]) (by kernel_rfl) rfl ⟨?_, ?_, trivial⟩ <;> (first | (refine wpo_do (i := 1) rfl rfl ?_; (refine sloadp rfl rfl rfl rfl ?_); apply jW; (refine wpt_all (rs := [6]) (by kernel_rfl) rfl ⟨?_, trivial⟩; (refine wpo_do (i := 6) rfl rfl ?_; (refine sc_o [2, 3] rfl rfl (hsy) (Lend.S (by first | ((repeat' first | exact RenL.nil | refine RenL.cons (by first | exact rfl | exact ren_p (by simp [AV.bd, bdL, bdL_append])) ?_); done) | fail) (by first | ((repeat' first | exact LendO.nil | refine LendO.arr rfl (by first | (refine (renL_pure ?_).symm; exact bdL_map (fun _ => by simp [AV.bd, bdL, bdL_append]) _) | (simp [renL, AV.ren, ren_pure, ap, intA, boolA, strA]; done)) ?_); done) | fail) (by decide) rfl (by simp [AV.bd, bdL, bdL_append]) (by repeat' (first | exact True.intro | refine And.intro ?_ ?_ | exact bdL_map (fun _ => by simp [AV.bd, bdL, bdL_append]) _ | simp [AV.bd, bdL, bdL_append]))) ?_; simp only [updN, newO, AObj.ren, renL, AV.ren, apx, ap, if_true, if_false, Nat.reduceLT, Nat.reduceAdd, Nat.reduceSub, sO, intA, boolA, strA, ren_extras]); apply jW; (refine wpt_all (rs := [9]) (by kernel_rfl) rfl ⟨?_, trivial⟩; (refine wpo_do (i := 9) rfl rfl ?_; (refine su (ap_build (RqP.cons (rq_p rfl rfl) (RqP.cons (rq_p rfl rfl) (RqP.cons (rq_p rfl rfl) (RqP.nil)))) rfl) ?_); apply jW; (refine wpt_all (rs := [10]) (by kernel_rfl) rfl ⟨?_, trivial⟩; (refine wpo_do (i := 10) rfl rfl ?_; (refine se_lit (OpP.cons rfl (OpP.nil)) rfl rfl rfl rfl rfl rfl ?_); apply jW; (refine wpt_all (rs := [11]) (by kernel_rfl) rfl ⟨?_, trivial⟩; (refine wpo_do (i := 11) rfl rfl ?_; (refine se_app1R rfl rfl rfl rfl rfl rfl rfl rfl (by omega) ?_); apply jW; (refine wpt_take 12 rfl (by exact still_fieldAddr rfl rfl) (by exact ap_field_p (rq_p rfl rfl) rfl rfl) (by kernel_rfl) (by kernel_rfl) (by kernel_rfl) (by repeat (first | exact pind_q | apply pind_then | apply pind_block)) ?_; (refine wpt_all (rs := [13]) (by kernel_rfl) rfl ⟨?_, trivial⟩; (refine wpo_do (i := 13) rfl rfl ?_; (refine se_store_b rfl rfl rfl rfl ?_); apply jW; (refine wpt_end (by kernel_rfl) ?_))))))))))))) | (refine wpo_do (i := 6) rfl rfl ?_; (refine sc_o [2, 3] rfl rfl (hsy) (Lend.S (by first | ((repeat' first | exact RenL.nil | refine RenL.cons (by first | exact rfl | exact ren_p (by simp [AV.bd, bdL, bdL_append])) ?_); done) | fail) (by first | ((repeat' first | exact LendO.nil | refine LendO.arr rfl (by first | (refine (renL_pure ?_).symm; exact bdL_map (fun _ => by simp [AV.bd, bdL, bdL_append]) _) | (simp [renL, AV.ren, ren_pure, ap, intA, boolA, strA]; done)) ?_); done) | fail) (by decide) rfl (by simp [AV.bd, bdL, bdL_append]) (by repeat' (first | exact True.intro | refine And.intro ?_ ?_ | exact bdL_map (fun _ => by simp [AV.bd, bdL, bdL_append]) _ | simp [AV.bd, bdL, bdL_append]))) ?_; simp only [updN, newO, AObj.ren, renL, AV.ren, apx, ap, if_true, if_false, Nat.reduceLT, Nat.reduceAdd, Nat.reduceSub, sO, intA, boolA, strA, ren_extras]); apply jW; (refine wpt_all (rs := [1, 9]) (by kernel_rfl) rfl ⟨?_, ?_, trivial⟩ <;> (first | (refine wpo_do (i := 1) rfl rfl ?_; (refine sloadp rfl rfl rfl rfl ?_); apply jW; (refine wpt_all (rs := [9]) (by kernel_rfl) rfl ⟨?_, trivial⟩; (refine wpo_do (i := 9) rfl rfl ?_; (refine su (ap_build (RqP.cons (rq_p rfl rfl) (RqP.cons (rq_p rfl rfl) (RqP.cons (rq_p rfl rfl) (RqP.nil)))) rfl) ?_); apply jW; (refine wpt_all (rs := [10]) (by kernel_rfl) rfl ⟨?_, trivial⟩; (refine wpo_do (i := 10) rfl rfl ?_; (refine se_lit (OpP.cons rfl (OpP.nil)) rfl rfl rfl rfl rfl rfl ?_); apply jW; (refine wpt_all (rs := [11]) (by kernel_rfl) rfl ⟨?_, trivial⟩; (refine wpo_do (i := 11) rfl rfl ?_; (refine se_app1R rfl rfl rfl rfl rfl rfl rfl rfl (by omega) ?_); apply jW; (refine wpt_take 12 rfl (by exact still_fieldAddr rfl rfl) (by exact ap_field_p (rq_p rfl rfl) rfl rfl) (by kernel_rfl) (by kernel_rfl) (by kernel_rfl) (by repeat (first | exact pind_q | apply pind_then | apply pind_block)) ?_; (refine wpt_all (rs := [13]) (by kernel_rfl) rfl ⟨?_, trivial⟩; (refine wpo_do (i := 13) rfl rfl ?_; (refine se_store_b rfl rfl rfl rfl ?_); apply jW; (refine wpt_end (by kernel_rfl) ?_))))))))))) | (refine wpo_do (i := 9) rfl rfl ?_; (refine su (ap_build (RqP.cons (rq_p rfl rfl) (RqP.cons (rq_p rfl rfl) (RqP.cons (rq_p rfl rfl) (RqP.nil)))) rfl) ?_); apply jW; (refine wpt_all (rs := [1, 10]) (by kernel_rfl) rfl ⟨?_, ?_, trivial⟩ <;> (first | (refine wpo_do (i := 1) rfl rfl ?_; (refine sloadp rfl rfl rfl rfl ?_); apply jW; (refine wpt_all (rs := [10]) (by kernel_rfl) rfl ⟨?_, trivial⟩; (refine wpo_do (i := 10) rfl rfl ?_; (refine se_lit (OpP.cons rfl (OpP.nil)) rfl rfl rfl rfl rfl rfl ?_); apply jW; (refine wpt_all (rs := [11]) (by kernel_rfl) rfl ⟨?_, trivial⟩; (refine wpo_do (i := 11) rfl rfl ?_; (refine se_app1R rfl rfl rfl rfl rfl rfl rfl rfl (by omega) ?_); apply jW; (refine wpt_take 12 rfl (by exact still_fieldAddr rfl rfl) (by exact ap_field_p (rq_p rfl rfl) rfl rfl) (by kernel_rfl) (by kernel_rfl) (by kernel_rfl) (by repeat (first | exact pind_q | apply pind_then | apply pind_block)) ?_; (refine wpt_all (rs := [13]) (by kernel_rfl) rfl ⟨?_, trivial⟩; (refine wpo_do (i := 13) rfl rfl ?_; (refine se_store_b rfl rfl rfl rfl ?_); apply jW; (refine wpt_end (by kernel_rfl) ?_))))))))) | (refine wpo_do (i := 10) rfl rfl ?_; (refine se_lit (OpP.cons rfl (OpP.nil)) rfl rfl rfl rfl rfl rfl ?_); apply jW; (refine wpt_all (rs := [1]) (by kernel_rfl) rfl ⟨?_, trivial⟩; (refine wpo_do (i := 1) rfl rfl ?_; (refine sloadp rfl rfl rfl rfl ?_); apply jW; (refine wpt_all (rs := [11]) (by kernel_rfl) rfl ⟨?_, trivial⟩; (refine wpo_do (i := 11) rfl rfl ?_; (refine se_app1R rfl rfl rfl rfl rfl rfl rfl rfl (by omega) ?_); apply jW; (refine wpt_take 12 rfl (by exact still_fieldAddr rfl rfl) (by exact ap_field_p (rq_p rfl rfl) rfl rfl) (by kernel_rfl) (by kernel_rfl) (by kernel_rfl) (by repeat (first | exact pind_q | apply pind_then | apply pind_block)) ?_; (refine wpt_all (rs := [13]) (by kernel_rfl) rfl ⟨?_, trivial⟩; (refine wpo_do (i := 13) rfl rfl ?_; (refine se_store_b rfl rfl rfl rfl ?_); apply jW; (refine wpt_end (by kernel_rfl) ?_))))))))))))))))))))) | (refine wpo_do (i := 8) rfl rfl ?_; (refine sloadp rfl rfl rfl rfl ?_); apply jW; (refine wpt_all (rs := [1, 5]) (by kernel_rfl) rfl ⟨?_, ?_, trivial⟩ <;> (first | (refine wpo_do (i := 1) rfl rfl ?_; (refine sloadp rfl rfl rfl rfl ?_); apply jW; (refine wpt_all (rs := [5]) (by kernel_rfl) rfl ⟨?_, trivial⟩; (refine wpo_do (i := 5) rfl rfl ?_; (refine sloadp rfl rfl rfl rfl ?_); apply jW; (refine wpt_all (rs := [6]) (by kernel_rfl) rfl ⟨?_, trivial⟩; (refine wpo_do (i := 6) rfl rfl ?_; (refine sc_o [2, 3] rfl rfl (hsy) (Lend.S (by first | ((repeat' first | exact RenL.nil | refine RenL.cons (by first | exact rfl | exact ren_p (by simp [AV.bd, bdL, bdL_append])) ?_); done) | fail) (by first | ((repeat' first | exact LendO.nil | refine LendO.arr rfl (by first | (refine (renL_pure ?_).symm; exact bdL_map (fun _ => by simp [AV.bd, bdL, bdL_append]) _) | (simp [renL, AV.ren, ren_pure, ap, intA, boolA, strA]; done)) ?_); done) | fail) (by decide) rfl (by simp [AV.bd, bdL, bdL_append]) (by repeat' (first | exact True.intro | refine And.intro ?_ ?_ | exact bdL_map (fun _ => by simp [AV.bd, bdL, bdL_append]) _ | simp [AV.bd, bdL, bdL_append]))) ?_; simp only [updN, newO, AObj.ren, renL, AV.ren, apx, ap, if_true, if_false, Nat.reduceLT, Nat.reduceAdd, Nat.reduceSub, sO, intA, boolA, strA, ren_extras]); apply jW; (refine wpt_all (rs := [9]) (by kernel_rfl) rfl ⟨?_, trivial⟩; (refine wpo_do (i := 9) rfl rfl ?_; (refine su (ap_build (RqP.cons (rq_p rfl rfl) (RqP.cons (rq_p rfl rfl) (RqP.cons (rq_p rfl rfl) (RqP.nil)))) rfl) ?_); apply jW; (refine wpt_all (rs := [10]) (by kernel_rfl) rfl ⟨?_, trivial⟩; (refine wpo_do (i := 10) rfl rfl ?_; (refine se_lit (OpP.cons rfl (OpP.nil)) rfl rfl rfl rfl rfl rfl ?_); apply jW; (refine wpt_all (rs := [11]) (by kernel_rfl) rfl ⟨?_, trivial⟩; (refine wpo_do (i := 11) rfl rfl ?_; (refine se_app1R rfl rfl rfl rfl rfl rfl rfl rfl (by omega) ?_); apply jW; (refine wpt_take 12 rfl (by exact still_fieldAddr rfl rfl) (by exact ap_field_p (rq_p rfl rfl) rfl rfl) (by kernel_rfl) (by kernel_rfl) (by kernel_rfl) (by repeat (first | exact pind_q | apply pind_then | apply pind_block)) ?_; (refine wpt_all (rs := [13]) (by kernel_rfl) rfl ⟨?_, trivial⟩; (refine wpo_do (i := 13) rfl rfl ?_; (refine se_store_b rfl rfl rfl rfl ?_); apply jW; (refine wpt_end (by kernel_rfl) ?_))))))))))))))) | (refine wpo_do (i := 5) rfl rfl ?_; (refine sloadp rfl rfl rfl rfl ?_); apply jW; (refine wpt_all (rs := [1, 6]) (by kernel_rfl) rfl ⟨?_, ?_, trivial⟩ <;> (first | (refine wpo_do (i := 1) rfl rfl ?_; (refine sloadp rfl rfl rfl rfl ?_); apply jW; (refine wpt_all (rs := [6]) (by kernel_rfl) rfl ⟨?_, trivial⟩; (refine wpo_do (i := 6) rfl rfl ?_; (refine sc_o [2, 3] rfl rfl (hsy) (Lend.S (by first | ((repeat' first | exact RenL.nil | refine RenL.cons (by first | exact rfl | exact ren_p (by simp [AV.bd, bdL, bdL_append])) ?_); done) | fail) (by first | ((repeat' first | exact LendO.nil | refine LendO.arr rfl (by first | (refine (renL_pure ?_).symm; exact bdL_map (fun _ => by simp [AV.bd, bdL, bdL_append]) _) | (simp [renL, AV.ren, ren_pure, ap, intA, boolA, strA]; done)) ?_); done) | fail) (by decide) rfl (by simp [AV.bd, bdL, bdL_append]) (by repeat' (first | exact True.intro | refine And.intro ?_ ?_ | exact bdL_map (fun _ => by simp [AV.bd, bdL, bdL_append]) _ | simp [AV.bd, bdL, bdL_append]))) ?_; simp only [updN, newO, AObj.ren, renL, AV.ren, apx, ap, if_true, if_false, Nat.reduceLT, Nat.reduceAdd, Nat.reduceSub, sO, intA, boolA, strA, ren_extras]); apply jW; (refine wpt_all (rs := [9]) (by kernel_rfl) rfl ⟨?_, trivial⟩; (refine wpo_do (i := 9) rfl rfl ?_; (refine su (ap_build (RqP.cons (rq_p rfl rfl) (RqP.cons (rq_p rfl rfl) (RqP.cons (rq_p rfl rfl) (RqP.nil)))) rfl) ?_); apply jW; (refine wpt_all (rs := [10]) (by kernel_rfl) rfl ⟨?_, trivial⟩; (refine wpo_do (i := 10) rfl rfl ?_; (refine se_lit (OpP.cons rfl (OpP.nil)) rfl rfl rfl rfl rfl rfl ?_); apply jW; (refine wpt_all (rs := [11]) (by kernel_rfl) rfl ⟨?_, trivial⟩; (refine wpo_do (i := 11) rfl rfl ?_; (refine se_app1R rfl rfl rfl rfl rfl rfl rfl rfl (by omega) ?_); apply jW; (refine wpt_take 12 rfl (by exact still_fieldAddr rfl rfl) (by exact ap_field_p (rq_p rfl rfl) rfl rfl) (by kernel_rfl) (by kernel_rfl) (by kernel_rfl) (by repeat (first | exact pind_q | apply pind_then | apply pind_block)) ?_; (refine wpt_all (rs := [13]) (by kernel_rfl) rfl ⟨?_, trivial⟩; (refine wpo_do (i := 13) rfl rfl ?_; (refine se_store_b rfl rfl rfl rfl ?_); apply jW; (refine wpt_end (by kernel_rfl) ?_))))))))))))) | (refine wpo_do (i := 6) rfl rfl ?_; (refine sc_o [2, 3] rfl rfl (hsy) (Lend.S (by first | ((repeat' first | exact RenL.nil | refine RenL.cons (by first | exact rfl | exact ren_p (by simp [AV.bd, bdL, bdL_append])) ?_); done) | fail) (by first | ((repeat' first | exact LendO.nil | refine LendO.arr rfl (by first | (refine (renL_pure ?_).symm; exact bdL_map (fun _ => by simp [AV.bd, bdL, bdL_append]) _) | (simp [renL, AV.ren, ren_pure, ap, intA, boolA, strA]; done)) ?_); done) | fail) (by decide) rfl (by simp [AV.bd, bdL, bdL_append]) (by repeat' (first | exact True.intro | refine And.intro ?_ ?_ | exact bdL_map (fun _ => by simp [AV.bd, bdL, bdL_append]) _ | simp [AV.bd, bdL, bdL_append]))) ?_; simp only [updN, newO, AObj.ren, renL, AV.ren, apx, ap, if_true, if_false, Nat.reduceLT, Nat.reduceAdd, Nat.reduceSub, sO, intA, boolA, strA, ren_extras]); apply jW; (refine wpt_all (rs := [1, 9]) (by kernel_rfl) rfl ⟨?_, ?_, trivial⟩ <;> (first | (refine wpo_do (i := 1) rfl rfl ?_; (refine sloadp rfl rfl rfl rfl ?_); apply jW; (refine wpt_all (rs := [9]) (by kernel_rfl) rfl ⟨?_, trivial⟩; (refine wpo_do (i := 9) rfl rfl ?_; (refine su (ap_build (RqP.cons (rq_p rfl rfl) (RqP.cons (rq_p rfl rfl) (RqP.cons (rq_p rfl rfl) (RqP.nil)))) rfl) ?_); apply jW; (refine wpt_all (rs := [10]) (by kernel_rfl) rfl ⟨?_, trivial⟩; (refine wpo_do (i := 10) rfl rfl ?_; (refine se_lit (OpP.cons rfl (OpP.nil)) rfl rfl rfl rfl rfl rfl ?_); apply jW; (refine wpt_all (rs := [11]) (by kernel_rfl) rfl ⟨?_, trivial⟩; (refine wpo_do (i := 11) rfl rfl ?_; (refine se_app1R rfl rfl rfl rfl rfl rfl rfl rfl (by omega) ?_); apply jW; (refine wpt_take 12 rfl (by exact still_fieldAddr rfl rfl) (by exact ap_field_p (rq_p rfl rfl) rfl rfl) (by kernel_rfl) (by kernel_rfl) (by kernel_rfl) (by repeat (first | exact pind_q | apply pind_then | apply pind_block)) ?_; (refine wpt_all (rs := [13]) (by kernel_rfl) rfl ⟨?_, trivial⟩; (refine wpo_do (i := 13) rfl rfl ?_; (refine se_store_b rfl rfl rfl rfl ?_); apply jW; (refine wpt_end (by kernel_rfl) ?_))))))))))) | (refine wpo_do (i := 9) rfl rfl ?_; (refine su (ap_build (RqP.cons (rq_p rfl rfl) (RqP.cons (rq_p rfl rfl) (RqP.cons (rq_p rfl rfl) (RqP.nil)))) rfl) ?_); apply jW; (refine wpt_all (rs := [1, 10]) (by kernel_rfl) rfl ⟨?_, ?_, trivial⟩ <;> (first | (refine wpo_do (i := 1) rfl rfl ?_; (refine sloadp rfl rfl rfl rfl ?_); apply jW; (refine wpt_all (rs := [10]) (by kernel_rfl) rfl ⟨?_, trivial⟩; (refine wpo_do (i := 10) rfl rfl ?_; (refine se_lit (OpP.cons rfl (OpP.nil)) rfl rfl rfl rfl rfl rfl ?_); apply jW; (refine wpt_all (rs := [11]) (by kernel_rfl) rfl ⟨?_, trivial⟩; (refine wpo_do (i := 11) rfl rfl ?_; (refine se_app1R rfl rfl rfl rfl rfl rfl rfl rfl (by omega) ?_); apply jW; (refine wpt_take 12 rfl (by exact still_fieldAddr rfl rfl) (by exact ap_field_p (rq_p rfl rfl) rfl rfl) (by kernel_rfl) (by kernel_rfl) (by kernel_rfl) (by repeat (first | exact pind_q | apply pind_then | apply pind_block)) ?_; (refine wpt_all (rs := [13]) (by kernel_rfl) rfl ⟨?_, trivial⟩; (refine wpo_do (i := 13) rfl rfl ?_; (refine se_store_b rfl rfl rfl rfl ?_); apply jW; (refine wpt_end (by kernel_rfl) ?_))))))))) | (refine wpo_do (i := 10) rfl rfl ?_; (refine se_lit (OpP.cons rfl (OpP.nil)) rfl rfl rfl rfl rfl rfl ?_); apply jW; (refine wpt_all (rs := [1]) (by kernel_rfl) rfl ⟨?_, trivial⟩; (refine wpo_do (i := 1) rfl rfl ?_; (refine sloadp rfl rfl rfl rfl ?_); apply jW; (refine wpt_all (rs := [11]) (by kernel_rfl) rfl ⟨?_, trivial⟩; (refine wpo_do (i := 11) rfl rfl ?_; (refine se_app1R rfl rfl rfl rfl rfl rfl rfl rfl (by omega) ?_); apply jW; (refine wpt_take 12 rfl (by exact still_fieldAddr rfl rfl) (by exact ap_field_p (rq_p rfl rfl) rfl rfl) (by kernel_rfl) (by kernel_rfl) (by kernel_rfl) (by repeat (first | exact pind_q | apply pind_then | apply pind_block)) ?_; (refine wpt_all (rs := [13]) (by kernel_rfl) rfl ⟨?_, trivial⟩; (refine wpo_do (i := 13) rfl rfl ?_; (refine se_store_b rfl rfl rfl rfl ?_); apply jW; (refine wpt_end (by kernel_rfl) ?_))))))))))))))))))))))))))))) | (refine WP.regionC (id := 21) ?_; (refine sadd rfl rfl (by exact inr_i64_of (by omega)) ?_); (refine smove rfl ?_); apply jW)))
          all_goals (refine ⟨j + 1, ⟨by omega, by omega⟩, ?_⟩; simp only [e1, stepA]; exact ⟨[0, 1, 2, 10, 4, 12, 9], ToR.S rfl (by repeat' (first | exact rt_nil | refine rt_r rfl rfl ?_ | refine rt_t rfl rfl ?_ | refine rt_e rfl rfl ?_ | refine rt_p rfl rfl (by first | (simp [AV.bd, bdL, bdL_append]; done) | fail) ?_)) (by repeat' (first | exact ro_nil | refine ro_e rfl rfl ?_ | refine ro_p rfl (by first | exact rfl | fail) (by first | exact bdL_map (fun _ => by first | exact rfl | simp [AV.bd, bdL, bdL_append]) _ | (simp [bdL, bdL_append, AV.bd]; done) | fail) ?_ | refine ro_e rfl (by simp only [renL, AV.ren, ren_strsA, ren_intsA]; exact rfl) ?_)) rfl (by (rw [hm]; exact rfl)) rfl (by (simp [bdT, AV.bd, bdL, bdL_append]; done)) (by repeat' (first | exact True.intro | exact rfl | refine And.intro ?_ ?_ | exact bdL_map (fun _ => by first | exact rfl | simp [AV.bd, bdL, bdL_append]) _ | (simp [bdOq, bdL, bdL_append, AV.bd]; done))) (by (rw [hm]; exact Nat.le_of_ble_eq_true rfl))⟩)
        · have : j = alts.length := by omega
          subst this
          (repeat' (first | apply jA | apply jH | apply jJ | apply jL | apply jN | apply jP | (refine wp_cond rfl (fun hc => ?_) (fun hc => ?_) <;> (try simp only [sB, ne_eq, reduceCtorEq] at hc) <;> (try (exfalso; omega))) | (refine WP.regionC (id := 17) ?_; (refine slss rfl rfl ?_); apply jW) | (refine WP.regionC (id := 22) ?_; (refine sadd rfl rfl (by exact inr_i64_of (by omega)) ?_); (refine smove rfl ?_); apply jW)))
          refine ⟨(k + 1, (nth f.rules k).name), ⟨by dsimp only; omega, by dsimp only; omega⟩, ?_⟩
          dsimp only
          rw [hx0, hd]
          exact ⟨[0, 1, 2, 3, 4, 5, 6], ToR.S rfl (by repeat' (first | exact rt_nil | refine rt_r rfl rfl ?_ | refine rt_t rfl rfl ?_ | refine rt_e rfl rfl ?_ | refine rt_p rfl rfl (by first | (simp [AV.bd, bdL, bdL_append]; done) | fail) ?_)) (by repeat' (first | exact ro_nil | refine ro_e rfl rfl ?_ | refine ro_p rfl (by first | exact rfl | fail) (by first | exact bdL_map (fun _ => by first | exact rfl | simp [AV.bd, bdL, bdL_append]) _ | (simp [bdL, bdL_append, AV.bd]; done) | fail) ?_ | refine ro_e rfl (by simp only [renL, AV.ren, ren_strsA, ren_intsA]; exact rfl) ?_)) rfl (by (rw [hm]; exact rfl)) rfl (by (simp [bdT, AV.bd, bdL, bdL_append]; done)) (by repeat' (first | exact True.intro | exact rfl | refine And.intro ?_ ?_ | exact bdL_map (fun _ => by first | exact rfl | simp [AV.bd, bdL, bdL_append]) _ | (simp [bdOq, bdL, bdL_append, AV.bd]; done))) (by (rw [hm]; exact Nat.le_of_ble_eq_true rfl))⟩
      · have : k = f.rules.length := by omega
        subst this
        have hX1 := drulTo_ext f terms f.rules.length
        have hX2 := drulTo_len f terms f.rules.length
        have hX3 := drulTo_bod f terms f.rules.length
        have hXn := drulTo_ne f terms hwell f.rules.length (Nat.le_refl _)
        have hcf := hf.cnt
        have hdp : desugarP f terms = if !(drulTo f terms f.rules.length).st.ok then (failG, [], 4)
            else if nms.any (fun s => terms.any fun x => decide (s = x)) then (failG, [], 14)
            else if !validG (desugarG f terms (drulTo f terms f.rules.length)) then (failG, [], 11)
            else (desugarG f terms (drulTo f terms f.rules.length), desugarN f (drulTo f terms f.rules.length), 0) := by
          unfold desugarP
          rw [if_neg (by rw [hval]; decide), show f.rules.map GRu.name = nms from hnm]
        rw [hdp]
        have hgg : desugarG f terms (drulTo f terms f.rules.length) = ⟨terms, namX nms (drulTo f terms f.rules.length) (drulTo f terms f.rules.length).st.extra.length, idx nms f.start, rulX nms.length (drulTo f terms f.rules.length) (drulTo f terms f.rules.length).st.extra.length⟩ := by
          unfold desugarG namesX namX rulX
          rw [List.take_length, show f.rules.map GRu.name = nms from hnm, hn]
        have hgn : desugarN f (drulTo f terms f.rules.length) = numX nms.length (drulTo f terms f.rules.length) (drulTo f terms f.rules.length).st.extra.length := by
          unfold desugarN numX
          rw [hn]
        rw [hgg, hgn]
        clear hdp hgg hgn
        generalize hX : drulTo f terms f.rules.length = X at *
        (repeat' (first | apply jA | apply jH | apply jI | apply jJ | apply jK | apply jL | apply jM | apply jP | apply jS | (refine wp_cond rfl (fun hc => ?_) (fun hc => ?_) <;> (try simp only [sB, ne_eq, reduceCtorEq] at hc) <;> (try (exfalso; omega))) | (refine WP.regionC (id := 12) ?_; (refine slss rfl rfl ?_); apply jW) | (refine WP.regionC (id := 23) ?_; (refine smove rfl ?_); (refine snilc rfl ?_); (refine sfieldp rfl rfl rfl ?_); (refine sloadp rfl rfl rfl rfl ?_); (refine su (anot rfl) ?_); apply jW) | (refine WP.regionC ?_; (refine su (ap_build (RqP.nil) rfl) ?_); (refine se_store_b rfl rfl rfl rfl ?_); (refine sassign rfl ?_); (refine sassign rfl ?_); apply jW) | (refine WP.regionC (id := 25) ?_; (refine smove rfl ?_); (refine snilc rfl ?_); (refine sfieldp rfl rfl rfl ?_); (refine sloadp rfl rfl rfl rfl ?_); (refine su (ap_clo (RqL.nil) (RqL.cons (rq_p rfl rfl) (RqL.nil))) ?_); (refine sc_b rfl rfl (by first | ((repeat' first | exact FzL.nil | refine FzL.cons ?_ ?_ | (exact Fz.reflp (by simp [AV.bd, bdL, bdL_append])) | refine Fz.ptrL rfl rfl ?_ | refine Fz.cloL ?_ ?_); done) | fail) (containsFuncS_fn nms _ _ (fun s => terms.any fun x => decide (s = x)) (fun n => by simp [bdL, AV.bd, AV.cells]) (fun s _ => desugar1_fn terms s)) rfl ?_); apply jW)))
        · rw [if_pos (by rw [hc]; rfl)]
          exact ret_many (.cellT rfl rfl rfl rfl (.tmp rfl (.tmp rfl .nil))) (Nat.le_of_ble_eq_true rfl) (by first | ((repeat' first | exact FzL.nil | refine FzL.cons ?_ ?_ | exact Fz.nil | (exact Fz.reflp (by simp [AV.bd, bdL, bdL_append])) | refine Fz.aggL ?_); done) | fail)
        · rename_i hok
          rw [if_neg (by rw [hok]; decide), if_pos hc]
          exact ret_many (.cellT rfl rfl rfl rfl (.tmp rfl (.tmp rfl .nil))) (Nat.le_of_ble_eq_true rfl) (by first | ((repeat' first | exact FzL.nil | refine FzL.cons ?_ ?_ | exact Fz.nil | (exact Fz.reflp (by simp [AV.bd, bdL, bdL_append])) | refine Fz.aggL ?_); done) | fail)
        rename_i hok
        rw [if_neg (by rw [hok]; decide), if_neg (by rw [hc]; decide)]
        (repeat' (first | apply jA | apply jH | (refine WP.regionC (id := 27) ?_; (refine smove rfl ?_); (refine snilc rfl ?_); (refine sfieldp rfl rfl rfl ?_); (refine sloadp rfl rfl rfl rfl ?_); (refine sc_o [] rfl rfl (cloneStrs_own nms (by omega)) (Lend.S (by first | ((repeat' first | exact RenL.nil | refine RenL.cons (by exact ren_p (by simp [AV.bd, bdL, bdL_append])) ?_); done) | fail) (by first | ((repeat' (exact LendO.nil)); done) | fail) (by decide) rfl (by simp [AV.bd, bdL, bdL_append]) (by repeat' (exact True.intro))) ?_; simp only [updN, newO, AObj.ren, renL, AV.ren, apx, ap, if_true, if_false, Nat.reduceLT, Nat.reduceAdd, Nat.reduceSub, sO, intA, boolA, strA]); (refine sfieldp rfl rfl rfl ?_); (refine se_store_b rfl rfl rfl rfl ?_); apply jW)))
        (repeat' (first | apply jF | apply jH | (refine WP.regionC (id := 28) ?_; (refine smove rfl ?_); (refine snilc rfl ?_); (refine sfieldp rfl rfl rfl ?_); (refine sloadp rfl rfl rfl rfl ?_); (refine su (alenr rfl rfl) ?_); (refine smove rfl ?_); apply jW)))
        generalize hex : X.st.extra = ex at *
        have hrl : ∀ i, i < ex.length → ∀ j, j ≤ (nth ex i).2.length → (rulX nms.length X i).length + j ≤ 100000 := fun i hi j hj => by
          have := rulX_len (nn := nms.length) (x := X) (k := i) (j := j) (by rw [hex]; exact hi) (by rw [hex]; exact hj)
          rw [hex] at this
          omega
        have hnl : ∀ i, i < ex.length → ∀ j, j ≤ (nth ex i).2.length → (numX nms.length X i).length + j ≤ 100000 := fun i hi j hj => by
          have := numX_len (nn := nms.length) (x := X) (k := i) (j := j) (by rw [hex]; exact hi) (by rw [hex]; exact hj)
          rw [hex] at this
          omega
        have hkl : ∀ i, (namX nms X i).length ≤ 200000 := fun i => by
          have := namX_len nms X i
          rw [hex] at this
          omega
        refine wp_loop (fun (i : Nat) => i ≤ ex.length) (fun i => ex.length - i)
          (fun i => (S 176 [(4, .ptr 0 4 0 0), (7, .ptr 1 6 0 0), (10, .ptr 3 4 0 0), (11, .ref 5 1 0 (numX nms.length X i).length), (130, .ref 2 2 0 ex.length), (131, intA (ex.length : Nat)), (132, intA (i : Nat))] 7 [(0, some (.arr 4 [zgA19])), (1, some (.arr 6 [.agg [strsA terms, strsA nms, strA rn, intA X.st.count, .ref 2 2 0 ex.length, boolA X.st.ok]])), (2, some (.arr 2 (ex.map extraA))), (3, some (.arr 4 [.agg [strsA terms, .ref 6 1 0 (namX nms X i).length, intA (idx nms f.start), .ref 4 3 0 (rulX nms.length X i).length]])), (4, some (.arr 3 ((rulX nms.length X i).map ruleA))), (5, some (.arr 1 ((numX nms.length X i).map intA))), (6, some (.arr 1 ((namX nms X i).map strA)))])) 0 (by rw [rulX_zero, numX_zero, namX_zero]; exact ⟨[1, 2, 3, 4, 5, 6, 7], ToR.S rfl (by repeat' (first | exact rt_nil | refine rt_r rfl rfl ?_ | refine rt_t rfl rfl ?_ | refine rt_e rfl rfl ?_)) (by repeat' (first | exact ro_nil | refine ro_e rfl rfl ?_ | refine ro_p rfl (by first | exact rfl | fail) (by first | exact bdL_map (fun _ => by first | exact rfl | simp [AV.bd, bdL, bdL_append]) _ | fail) ?_ | refine ro_e rfl (by simp only [renL, AV.ren, ren_strsA, ren_intsA]; exact rfl) ?_)) rfl (by (rw [hm]; exact rfl)) rfl (by (simp [bdT, AV.bd, bdL, bdL_append]; done)) (by repeat' (first | exact True.intro | exact rfl | refine And.intro ?_ ?_ | exact bdL_map (fun _ => by first | exact rfl | simp [AV.bd, bdL, bdL_append]) _ | (simp [bdOq, bdL, bdL_append, AV.bd]; done))) (by (rw [hm]; exact Nat.le_of_ble_eq_true rfl))⟩) (Nat.zero_le _) ?_
        rintro i hi
        by_cases hil : i < ex.length
        · have e1 := namX_succ nms X (k := i) (by rw [hex]; exact hil)
          have e2 := rulX_succ nms.length X i
          have e3 := numX_succ nms.length X i
          rw [hex] at e1 e2 e3
          have hrl' := hrl i hil
          have hnl' := hnl i hil
          have hkl' := hkl i
          have hbb := hrl' _ (Nat.le_refl _)
          generalize rulX nms.length X i = rl at *
          generalize numX nms.length X i = nl at *
          generalize namX nms X i = kl at *
          (repeat' (first | apply jA | apply jF | apply jH | apply jI | (refine wp_cond rfl (fun hc => ?_) (fun hc => ?_) <;> (try simp only [sB, ne_eq, reduceCtorEq] at hc) <;> (try (exfalso; omega))) | (refine WP.regionC (id := 29) ?_; (refine slss rfl rfl ?_); apply jW) | (refine WP.regionC (id := 30) ?_; (refine smove rfl ?_); (refine su (aidxrn rfl rfl (by omega)) ?_); (refine su (aloadpt rfl rfl (by omega) rfl) ?_); (refine se_alloc rfl ?_); (refine sassign rfl ?_); (refine se_store_b rfl rfl rfl rfl ?_); apply jW) | (refine WP.regionC (id := 31) ?_; (refine sfieldp rfl rfl rfl ?_); (refine sloadp rfl rfl rfl rfl ?_); (refine sfieldp rfl rfl rfl ?_); (refine sloadp rfl rfl rfl rfl ?_); (refine se_lit (OpP.cons rfl (OpP.nil)) rfl rfl rfl rfl rfl rfl ?_); (refine se_app1 rfl rfl rfl rfl rfl rfl rfl rfl (by omega) ?_); (refine sfieldp rfl rfl rfl ?_); (refine se_store_b rfl rfl rfl rfl ?_); apply jW)))
          have hne : (nth ex i).2 ≠ [] := hXn _ (nth_mem hil)
          generalize hbs : (nth ex i).2 = bs at *
          rw [bodA_some hne]
          (repeat' (first | apply jF | apply jH | (refine WP.regionC (id := 32) ?_; (refine sfieldp rfl rfl rfl ?_); (refine sloadp rfl rfl rfl rfl ?_); (refine slenm rfl rfl ?_); (refine smove rfl ?_); apply jW)))
          refine wp_loop (fun (j : Nat) => j ≤ bs.length) (fun j => bs.length - j)
            (fun j => (S 176 [(4, .ptr 0 4 0 0), (7, .ptr 1 6 0 0), (10, .ptr 3 4 0 0), (11, .ref 5 1 0 (nl ++ List.replicate j (-1)).length), (17, intA (i : Nat)), (130, .ref 2 2 0 ex.length), (131, intA (ex.length : Nat)), (132, intA (i : Nat)), (145, .sl 1 (bs.map intsA)), (146, intA (bs.length : Nat)), (147, intA (j : Nat))] 7 [(0, some (.arr 4 [zgA19])), (1, some (.arr 6 [.agg [strsA terms, strsA nms, strA rn, intA X.st.count, .ref 2 2 0 ex.length, boolA X.st.ok]])), (2, some (.arr 2 (ex.map extraA))), (3, some (.arr 4 [.agg [strsA terms, .ref 6 1 0 (kl ++ [(nth ex i).1]).length, intA (idx nms f.start), .ref 4 3 0 (rl ++ (extR nms.length i bs).take j).length]])), (4, some (.arr 3 ((rl ++ (extR nms.length i bs).take j).map ruleA))), (5, some (.arr 1 ((nl ++ List.replicate j (-1)).map intA))), (6, some (.arr 1 ((kl ++ [(nth ex i).1]).map strA)))])) 0 (by simp only [List.take_zero, List.replicate_zero, List.append_nil]; exact ⟨[0, 1, 2, 3, 4, 5, 9], ToR.S rfl (by repeat' (first | exact rt_nil | refine rt_r rfl rfl ?_ | refine rt_t rfl rfl ?_ | refine rt_e rfl rfl ?_ | refine rt_p rfl rfl (by first | (simp [AV.bd, bdL, bdL_append]; done) | fail) ?_)) (by repeat' (first | exact ro_nil | refine ro_e rfl rfl ?_ | refine ro_p rfl (by first | exact rfl | fail) (by first | exact bdL_map (fun _ => by first | exact rfl | simp [AV.bd, bdL, bdL_append]) _ | fail) ?_ | refine ro_e rfl (by simp only [renL, AV.ren, ren_strsA, ren_intsA]; exact rfl) ?_)) rfl (by (rw [hm]; exact rfl)) rfl (by (simp [bdT, AV.bd, bdL, bdL_append]; done)) (by repeat' (first | exact True.intro | exact rfl | refine And.intro ?_ ?_ | exact bdL_map (fun _ => by first | exact rfl | simp [AV.bd, bdL, bdL_append]) _ | (simp [bdOq, bdL, bdL_append, AV.bd]; done))) (by (rw [hm]; exact Nat.le_of_ble_eq_true rfl))⟩) (Nat.zero_le _) ?_
          rintro j hj
          by_cases hjl : j < bs.length
          · have f1 := extR_take (nn := nms.length) (i := i) hjl
            have f2 := replicate_snoc j (-1)
            have g1 := hrl' _ hjl
            have g2 := hnl' _ hjl
            have g3 : (rl ++ (extR nms.length i bs).take j).length ≤ 100000 := by have := hrl' j (by omega); rw [List.length_append, List.length_take, extR_len]; omega
            have g4 : (nl ++ List.replicate j (-1)).length ≤ 100000 := by have := hnl' j (by omega); rw [List.length_append, List.length_replicate]; omega
            generalize (extR nms.length i bs).take j = rj at *
            generalize List.replicate j (-1 : Int) = nj at *
            (repeat' (first | apply jA | apply jF | apply jH | apply jI | (refine wp_cond rfl (fun hc => ?_) (fun hc => ?_) <;> (try simp only [sB, ne_eq, reduceCtorEq] at hc) <;> (try (exfalso; omega))) | (refine WP.regionC (id := 33) ?_; (refine slss rfl rfl ?_); apply jW) | (refine WP.regionC (id := 34) ?_; (refine sidxn rfl rfl (by omega) ?_); (refine sloadw rfl rfl ?_); (refine sassign rfl ?_); apply jW) | (refine WP.regionC (id := 35) ?_; (refine smove rfl ?_); (refine se_lit (OpP.cons rfl (OpP.nil)) rfl rfl rfl rfl rfl rfl ?_); (refine se_app1 rfl rfl rfl rfl rfl rfl rfl rfl (by omega) ?_); (refine sassign rfl ?_); apply jW)))
            (repeat' (first | apply jH | apply jN | (refine wp_draw (id := 36) 15 mixed (by kernel_rfl) (by kernel_rfl) rfl ?_ <;> (refine rfieldp rfl rfl rfl ?_) <;> (refine rloadp rfl rfl rfl rfl ?_) <;> (refine rmove rfl ?_) <;> (refine rnilc rfl ?_) <;> (refine rfieldp rfl rfl rfl ?_) <;> (refine rloadp rfl rfl rfl rfl ?_) <;> (refine rd_u rfl rfl (alenm rfl rfl) ?_) <;> (refine rmove rfl ?_) <;> (refine rd_u rfl rfl (aadd rfl rfl (by exact inr_i64_of (by omega))) ?_) <;> (refine rmove rfl ?_) <;> (refine rd_u rfl rfl (ap_build (RqP.cons (rq_p rfl rfl) (RqP.cons (rq_p rfl rfl) (RqP.nil))) rfl) ?_) <;> (refine rd_lit (OpP.cons rfl (OpP.nil)) rfl rfl rfl rfl rfl rfl ?_) <;> (refine rd_app1R rfl rfl rfl rfl rfl rfl rfl rfl (by omega) ?_) <;> (refine rfieldp rfl rfl rfl ?_) <;> (refine rd_store_b rfl rfl rfl rfl ?_) <;> (refine rd_end (by kernel_rfl) ?_)) | (refine WP.regionC (id := 37) ?_; (refine sadd rfl rfl (by exact inr_i64_of (by omega)) ?_); (refine smove rfl ?_); apply jW)))
            refine ⟨j + 1, ⟨by omega, by omega⟩, ?_⟩
            rw [f1, f2, ← List.append_assoc, ← List.append_assoc]
            exact ⟨[0, 1, 2, 3, 21, 8, 6], ToR.S rfl (by repeat' (first | exact rt_nil | refine rt_r rfl rfl ?_ | refine rt_t rfl rfl ?_ | refine rt_e rfl rfl ?_ | refine rt_p rfl rfl (by first | (simp [AV.bd, bdL, bdL_append]; done) | fail) ?_)) (by repeat' (first | exact ro_nil | refine ro_e rfl rfl ?_ | refine ro_p rfl (by first | exact rfl | fail) (by first | exact bdL_map (fun _ => by first | exact rfl | simp [AV.bd, bdL, bdL_append]) _ | fail) ?_ | refine ro_e rfl (by simp only [renL, AV.ren, ren_strsA, ren_intsA]; exact rfl) ?_)) rfl (by (rw [hm]; exact rfl)) rfl (by (simp [bdT, AV.bd, bdL, bdL_append]; done)) (by repeat' (first | exact True.intro | exact rfl | refine And.intro ?_ ?_ | exact bdL_map (fun _ => by first | exact rfl | simp [AV.bd, bdL, bdL_append]) _ | (simp [bdOq, bdL, bdL_append, AV.bd]; done))) (by (rw [hm]; exact Nat.le_of_ble_eq_true rfl))⟩
          · have : j = bs.length := by omega
            subst this
            (repeat' (first | apply jA | apply jH | apply jJ | apply jL | apply jN | apply jP | (refine wp_cond rfl (fun hc => ?_) (fun hc => ?_) <;> (try simp only [sB, ne_eq, reduceCtorEq] at hc) <;> (try (exfalso; omega))) | (refine WP.regionC (id := 33) ?_; (refine slss rfl rfl ?_); apply jW) | (refine WP.regionC (id := 38) ?_; (refine sadd rfl rfl (by exact inr_i64_of (by omega)) ?_); (refine smove rfl ?_); apply jW)))
            refine ⟨i + 1, ⟨by omega, by omega⟩, ?_⟩
            rw [e1, e2, e3]
            exact ⟨[0, 1, 2, 3, 4, 5, 6], ToR.S rfl (by repeat' (first | exact rt_nil | refine rt_r rfl rfl ?_ | refine rt_t rfl rfl ?_ | refine rt_e rfl rfl ?_)) (by repeat' (first | exact ro_nil | refine ro_e rfl rfl ?_ | refine ro_p rfl (by first | exact rfl | fail) (by first | exact bdL_map (fun _ => by first | exact rfl | simp [AV.bd, bdL, bdL_append]) _ | fail) ?_ | refine ro_e rfl (by simp only [renL, AV.ren, ren_strsA, ren_intsA]; exact rfl) ?_)) rfl (by (rw [hm]; exact rfl)) rfl (by (simp [bdT, AV.bd, bdL, bdL_append]; done)) (by repeat' (first | exact True.intro | exact rfl | refine And.intro ?_ ?_ | exact bdL_map (fun _ => by first | exact rfl | simp [AV.bd, bdL, bdL_append]) _ | (simp [bdOq, bdL, bdL_append, AV.bd]; done))) (by (rw [hm]; exact Nat.le_of_ble_eq_true rfl))⟩
        · have : i = ex.length := by omega
          subst this
          (repeat' (first | apply jA | apply jH | apply jJ | apply jL | apply jP | (refine wp_cond rfl (fun hc => ?_) (fun hc => ?_) <;> (try simp only [sB, ne_eq, reduceCtorEq] at hc) <;> (try (exfalso; omega))) | (refine WP.regionC (id := 29) ?_; (refine slss rfl rfl ?_); apply jW)))
          generalize rulX nms.length X ex.length = rl at *
          generalize numX nms.length X ex.length = nl at *
          generalize namX nms X ex.length = kl at *
          refine wp_frzom (L := kl) (f := strA) 3 1 hm rfl rfl rfl rfl rfl (fun _ => rfl) (fun _ => rfl) rfl ?_
          refine wp_frzom (L := rl) (f := ruleA) 3 3 hm rfl rfl rfl rfl rfl (fun _ => by simp [AV.bd, bdL]) (fun _ => rfl) rfl ?_
          (repeat' (first | apply jA | apply jH | apply jI | apply jK | apply jM | apply jS | (refine wp_cond rfl (fun hc => ?_) (fun hc => ?_) <;> (try simp only [sB, ne_eq, reduceCtorEq] at hc) <;> (try (exfalso; omega))) | (refine WP.regionC (id := 39) ?_; (refine sloadpw rfl rfl rfl rfl ?_); (refine sc_p rfl rfl (by first | ((repeat' first | exact SubL.nil | refine SubL.cons ?_ ?_ | exact Sub.refl); done) | fail) (by first | (simp [bdL, bdL_append, AV.bd]; done) | fail) (gvalid18_fn ⟨terms, kl, idx nms f.start, rl⟩) ?_); (refine su (anot rfl) ?_); apply jW) | (refine WP.regionC (id := 40) ?_; (refine su (ap_build (RqP.nil) rfl) ?_); (refine se_store_b rfl rfl rfl rfl ?_); (refine sassign rfl ?_); (refine sassign rfl ?_); apply jW) | (refine WP.regionC (id := 41) ?_; (refine sloadpw rfl rfl rfl rfl ?_); (refine smove rfl ?_); (refine se_store_b rfl rfl rfl rfl ?_); (refine sassign rfl ?_); (refine sassign rfl ?_); apply jW)))
          · rw [if_pos (by rw [hc]; rfl)]
            exact ret_many (.cellT rfl rfl rfl rfl (.tmp rfl (.tmp rfl .nil))) (Nat.le_of_ble_eq_true rfl) (by first | ((repeat' first | exact FzL.nil | refine FzL.cons ?_ ?_ | exact Fz.nil | (exact Fz.reflp (by simp [AV.bd, bdL, bdL_append])) | refine Fz.aggL ?_); done) | fail)
          · rw [if_neg (by rw [hc]; decide)]
            exact ret_many (.cellT rfl rfl rfl rfl (.tmp rfl (.tmp rfl .nil))) (Nat.le_of_ble_eq_true rfl) (by first | ((repeat' first | exact FzL.nil | refine FzL.cons ?_ ?_ | (exact Fz.list rfl rfl (fun _ => by simp [AV.bd, bdL, bdL_append]) (fun _ => rfl)) | (exact Fz.reflp (by simp [AV.bd, bdL, bdL_append]))); done) | fail)
  · have e : desugarP f terms = (failG, [], 1) := by unfold desugarP; rw [if_pos (by rw [Bool.not_eq_true']; exact Bool.eq_false_iff.2 hval)]
    rw [e]
    (repeat' (first | apply jA | apply jH | apply jI | apply jK | apply jM | apply jS | (refine wp_cond rfl (fun hc => ?_) (fun hc => ?_) <;> (try simp only [sB, ne_eq, reduceCtorEq] at hc) <;> (try (exfalso; omega))) | (refine WP.regionC (id := 0) ?_; (refine se_box rfl (by exact ⟨rfl, rfl⟩) ?_); (refine se_box rfl (by exact ⟨rfl, rfl⟩) ?_); (refine se_alloc rfl ?_); (refine sassign rfl ?_); (refine sassign rfl ?_); apply jW) | (refine WP.regionC (id := 1) ?_; (refine sloadpw rfl rfl rfl rfl ?_); (refine sc_p rfl rfl (by first | ((repeat' first | exact SubL.nil | refine SubL.cons ?_ ?_ | exact Sub.refl); done) | fail) (by first | (simp [bdL, bdL_append, AV.bd]; done) | fail) (gvalid_fn f hT) ?_); (refine su (anot rfl) ?_); (refine smove rfl ?_); (refine sg (gq_vf rfl rfl) (fun he => ap_load_pw (rq_p rfl rfl) rfl rfl rfl) ?_); (refine sg_p (gq_vf rfl rfl) (fun he => ⟨(rq_p rfl rfl), (RqL.cons (rq_c rfl rfl) (RqL.nil)), (by first | ((repeat' first | exact SubL.nil | refine SubL.cons ?_ ?_ | exact Sub.refl); done) | fail), (by first | (simp [bdL, bdL_append, AV.bd]; done) | fail), terminals_fn terms⟩) ?_); (refine sg (gq_vf rfl rfl) (fun he => ap_not (rq_c rfl rfl)) ?_); (refine su (ap_or (rq_p rfl rfl) (rq_c rfl rfl)) ?_); apply jW) | (refine WP.regionC (id := 2) ?_; (refine su (ap_build (RqP.nil) rfl) ?_); (refine se_store_b rfl rfl rfl rfl ?_); (refine sassign rfl ?_); (refine sassign rfl ?_); apply jW)))
    · exact ret_many (.cellT rfl rfl rfl rfl (.tmp rfl (.tmp rfl .nil))) (Nat.le_of_ble_eq_true rfl) (by first | ((repeat' first | exact FzL.nil | refine FzL.cons ?_ ?_ | exact Fz.nil | (exact Fz.reflp (by simp [AV.bd, bdL, bdL_append])) | refine Fz.aggL ?_); done) | fail)
    · exfalso; simp [hc.1, hc.2] at hval
end Go.Lg

namespace Go.Lg
def nmE (s : ByteArray) : GEx := .mk 1 s []
def exA : ByteArray := tx [97]
def exB : ByteArray := tx [98]
def exC : ByteArray := tx [99]
def exD : ByteArray := tx [100]
def exN0 : ByteArray := tx [110]
def exCh : GEx := .mk 3 ⟨#[]⟩ [nmE exB, nmE exC]
def exSt : GEx := .mk 5 ⟨#[]⟩ [exCh]
def exBo : GEx := .mk 2 ⟨#[]⟩ [nmE exA, exSt]
def exH : GFi := ⟨exN0, [], [⟨exN0, [⟨exBo, 4⟩]⟩]⟩
def exW : Gram := ⟨[exA, exB, exC], [exN0, tx [110, 46, 49], tx [110, 46, 50]], 0, [⟨0, [0, -2], 4⟩, ⟨1, [], 0⟩, ⟨1, [-2, -3], 0⟩, ⟨2, [1], 0⟩, ⟨2, [2], 0⟩]⟩
theorem itoa_one : Lib.itoa 1 = [49] := by
  show (if (1 : Int) < 0 then _ else _) = _
  rw [if_neg (by decide), show (1 : Int).toNat = 1 from rfl, Lib.decDigits_one (by decide)]
  rfl
theorem itoa_two : Lib.itoa 2 = [50] := by
  show (if (2 : Int) < 0 then _ else _) = _
  rw [if_neg (by decide), show (2 : Int).toNat = 2 from rfl, Lib.decDigits_one (by decide)]
  rfl
theorem dexA : desugarP exH [exA, exB, exC] = (exW, [0, -1, -1, -1, -1], 0) := by
  have h1 : drulTo exH [exA, exB, exC] 1 = ⟨⟨2, [((⟨[exA, exB, exC], [exN0], exN0⟩ : DEn).newName 1, [[], [-2, -3]]), ((⟨[exA, exB, exC], [exN0], exN0⟩ : DEn).newName 2, [[1], [2]])], true⟩, [⟨0, [0, -2], 4⟩], [0]⟩ := by kernel_rfl
  have h2 : (⟨[exA, exB, exC], [exN0], exN0⟩ : DEn).newName 1 = tx [110, 46, 49] := by
    unfold DEn.newName
    rw [itoa_one]
    decide +kernel
  have h3 : (⟨[exA, exB, exC], [exN0], exN0⟩ : DEn).newName 2 = tx [110, 46, 50] := by
    unfold DEn.newName
    rw [itoa_two]
    decide +kernel
  rw [h2, h3] at h1
  have hl : exH.rules.length = 1 := rfl
  have hv : (validF exH && termsOk [exA, exB, exC]) = true := by decide +kernel
  have hg : desugarG exH [exA, exB, exC] (drulTo exH [exA, exB, exC] 1) = exW := by rw [h1]; decide +kernel
  have hg2 : validG exW = true := by decide +kernel
  unfold desugarP
  rw [if_neg (by rw [hv]; decide), hl, if_neg (by rw [h1]; decide), if_neg (by decide +kernel), hg, if_neg (by rw [hg2]; decide)]
  refine congrArg (Prod.mk exW) (congrArg (·, (0 : Int)) ?_)
  unfold desugarN
  rw [h1]
  decide +kernel
theorem dexB : desugarP exH [exA, exB] = (failG, [], 4) := by
  have hl : exH.rules.length = 1 := rfl
  have hv : (validF exH && termsOk [exA, exB]) = true := by decide +kernel
  have h1 : (drulTo exH [exA, exB] 1).st.ok = false := by kernel_rfl
  unfold desugarP
  rw [if_neg (by rw [hv]; decide), hl, if_pos (by rw [h1]; decide)]
theorem dexC : desugarP exH [exA, exB, exC, exN0] = (failG, [], 14) := by
  have hl : exH.rules.length = 1 := rfl
  have hv : (validF exH && termsOk [exA, exB, exC, exN0]) = true := by decide +kernel
  have h1 : (drulTo exH [exA, exB, exC, exN0] 1).st.ok = true := by kernel_rfl
  unfold desugarP
  rw [if_neg (by rw [hv]; decide), hl, if_neg (by rw [h1]; decide), if_pos (by decide +kernel)]
end Go.Lg

namespace Go.Lg
open Go.Proofs
set_option linter.unusedSimpArgs false
set_option linter.unusedVariables false
attribute [local irreducible] Ap Rq asemC WP RunD Ret Gq thenA inBlockA bodyQ noGotoA RqL RqP OpP
set_option maxHeartbeats 1000000
theorem ints_fn (a b : List Int) : Fn Tryd.prog 14 [intsA a, intsA b] (boolA (decide (a = b))) := by
  refine Fn.intro rfl (by kernel_rfl) Tryd.func14 rfl rfl Tryd.ntmps14 (by exact Nat.le_of_ble_eq_true rfl) ?_; intro Γ hm
  refine wp_lens 0 rfl fun h0 => wp_lens 1 rfl fun h1 => ?_
  rw [lens_intsA] at h0 h1
  (repeat' (first | apply jA | apply jF | apply jH | apply jI | apply jK | apply jM | apply jS | (refine wp_cond rfl (fun hc => ?_) (fun hc => ?_) <;> (try simp only [sB, ne_eq, reduceCtorEq] at hc) <;> (try (exfalso; omega))) | (refine WP.regionC ?_; (refine sassign rfl ?_); apply jW) | (refine WP.regionC (id := 1) ?_; (refine smove rfl ?_); (refine slenm rfl rfl ?_); (refine smove rfl ?_); (refine slenm rfl rfl ?_); (refine su (aneq rfl rfl) ?_); apply jW) | refine ret_b rfl ?_))
  · have : a ≠ b := by rintro rfl; exact hc rfl
    simp [this]
  refine wp_loop (fun k => k ≤ a.length ∧ a.take k = b.take k) (fun k => a.length - k) (fun k => (S 26 [(0, intsA a), (1, intsA b), (5, intA (k : Nat))] 0 [])) 0 ⟨[], ToR.S rfl (by repeat' (first | exact rt_nil | refine rt_e rfl rfl ?_ | refine rt_p rfl rfl (by first | (simp [AV.bd, bdL, bdL_append]; done) | fail) ?_)) (by repeat' (exact ro_nil)) rfl (by (rw [hm]; exact rfl)) rfl (by (simp [bdT, AV.bd, bdL, bdL_append]; done)) (by repeat' (exact True.intro)) (by (rw [hm]; exact Nat.le_of_ble_eq_true rfl))⟩ ⟨Nat.zero_le _, rfl⟩ ?_
  rintro k ⟨hk, hall⟩
  have hab : a.length = b.length := by omega
  (repeat' (first | apply jA | apply jF | apply jH | apply jI | apply jJ | apply jK | apply jL | apply jM | apply jN | apply jO | apply jP | apply jS | (refine wp_cond rfl (fun hc => ?_) (fun hc => ?_) <;> (try simp only [sB, ne_eq, reduceCtorEq] at hc) <;> (try (exfalso; omega))) | (refine WP.regionC (id := 4) ?_; (refine smove rfl ?_); (refine smove rfl ?_); (refine slenm rfl rfl ?_); (refine slss rfl rfl ?_); apply jW) | (refine wp_draw (id := 6) 9 mixed (by kernel_rfl) (by kernel_rfl) rfl ?_ <;> (refine rmove rfl ?_) <;> (refine rmove rfl ?_) <;> (refine rd_u rfl rfl (aidxn rfl rfl (by omega)) ?_) <;> (refine rd_u rfl rfl (aloadw rfl rfl) ?_) <;> (refine rmove rfl ?_) <;> (refine rmove rfl ?_) <;> (refine rd_u rfl rfl (aidxn rfl rfl (by omega)) ?_) <;> (refine rd_u rfl rfl (aloadw rfl rfl) ?_) <;> (refine rd_u rfl rfl (aneq rfl rfl) ?_) <;> (refine rd_end (by kernel_rfl) ?_)) | (refine WP.regionC ?_; (refine sassign rfl ?_); apply jW) | (refine WP.regionC (id := 5) ?_; (refine smove rfl ?_); (refine sadd rfl rfl (by exact inr_i64_of (by omega)) ?_); (refine sassign rfl ?_); apply jW) | refine ret_b rfl ?_))
  · have : a ≠ b := by rintro rfl; exact hc rfl
    simp [this]
  · exact ⟨k + 1, ⟨by omega, by omega, take_eq_succ (by omega) (by omega) hall hc⟩, ⟨[], ToR.S rfl (by repeat' (first | exact rt_nil | refine rt_e rfl rfl ?_ | refine rt_p rfl rfl (by first | (simp [AV.bd, bdL, bdL_append]; done) | fail) ?_)) (by repeat' (exact ro_nil)) rfl (by (rw [hm]; exact rfl)) rfl (by (simp [bdT, AV.bd, bdL, bdL_append]; done)) (by repeat' (exact True.intro)) (by (rw [hm]; exact Nat.le_of_ble_eq_true rfl))⟩⟩
  simp [eq_of_takes hab (by omega) hall]
end Go.Lg

namespace Go.Lg
def jX := @wpl_end
end Go.Lg

namespace Go.Lg
open Go.Proofs
set_option linter.unusedSimpArgs false
set_option linter.unusedVariables false
attribute [local irreducible] Ap Rq asemC WP RunD Ret Gq thenA inBlockA bodyQ noGotoA RqL RqP OpP
set_option maxHeartbeats 8000000
set_option maxRecDepth 20000
attribute [local simp] AV.cells
theorem lname19_fn (s : ByteArray) : Fn Tryd.prog 19 [strA s] (exprA (.mk 1 s [])) := by
  refine Fn.intro rfl (by kernel_rfl) Tryd.func19 rfl rfl Tryd.ntmps19 (by exact Nat.le_of_ble_eq_true rfl) ?_; intro Γ hm
  (repeat' (first | apply jA | apply jH | apply jK | apply jS | (refine WP.regionC (id := 0) ?_; (refine se_alloc rfl ?_); apply jW) | (refine WP.regionC (id := 1) ?_; (refine smove rfl ?_); (refine su (ap_build (RqP.cons (rq_p rfl rfl) (RqP.cons (rq_p rfl rfl) (RqP.nil))) rfl) ?_); (refine se_store_b rfl rfl rfl rfl ?_); apply jW)))
  exact ret_c (x := .agg [intA 1, strA s, .val (.slice none 0 0)]) rfl rfl rfl rfl (by first | ((repeat' first | exact FzL.nil | refine FzL.cons ?_ ?_ | exact Fz.nil | (exact Fz.reflp (by simp [AV.bd, bdL, bdL_append])) | refine Fz.aggL ?_); done) | fail)
theorem exH_fit (terms : List ByteArray) (h : terms.length ≤ 100) : DFit exH terms := ⟨by decide +kernel, by decide +kernel, by omega, by decide +kernel⟩
theorem exH_a : Fn Tryd.prog 11 [fileA exH, strsA [exA, exB, exC]] (desugarA (exW, [0, -1, -1, -1, -1], 0)) := dexA ▸ desugar_fn exH _ (exH_fit _ (by decide))
theorem exH_b : Fn Tryd.prog 11 [fileA exH, strsA [exA, exB]] (desugarA (failG, [], 4)) := dexB ▸ desugar_fn exH _ (exH_fit _ (by decide))
theorem exH_c : Fn Tryd.prog 11 [fileA exH, strsA [exA, exB, exC, exN0]] (desugarA (failG, [], 14)) := dexC ▸ desugar_fn exH _ (exH_fit _ (by decide))
theorem awake19_fn : Fn Tryd.prog 10 [] (boolA true) := by
  refine Fn.intro rfl (by kernel_rfl) Tryd.func10 rfl rfl Tryd.ntmps10 (by exact Nat.le_of_ble_eq_true rfl) ?_; intro Γ hm
  (repeat' (first | apply jA | apply jH | (refine WP.regionC (id := 0) ?_; (refine sassign rfl ?_); apply jW) | (refine WP.regionC (id := 1) ?_; (refine sc_p rfl rfl (by first | ((repeat' first | exact SubL.nil | refine SubL.cons ?_ ?_ | exact Sub.refl); done) | fail) (by first | (simp [bdL, bdL_append, AV.bd]; done) | fail) (lname19_fn _) ?_); (refine sc_p rfl rfl (by first | ((repeat' first | exact SubL.nil | refine SubL.cons ?_ ?_ | exact Sub.refl); done) | fail) (by first | (simp [bdL, bdL_append, AV.bd]; done) | fail) (lname19_fn _) ?_); (refine se_lit (OpP.cons rfl (OpP.cons rfl (OpP.nil))) rfl rfl rfl rfl rfl rfl ?_); (refine su (ap_build (RqP.cons (rq_p rfl rfl) (RqP.cons (rq_p rfl rfl) (RqP.nil))) rfl) ?_); (refine se_alloc rfl ?_); (refine se_store_b rfl rfl rfl rfl ?_); apply jW) | (refine wp_draw (id := 2) 13 mixed (by kernel_rfl) (by kernel_rfl) rfl ?_ <;> (refine rd_call rfl rfl (by first | ((repeat' first | exact SubL.nil | refine SubL.cons ?_ ?_ | exact Sub.refl); done) | fail) (by first | (simp [bdL, bdL_append, AV.bd]; done) | fail) (lname19_fn _) ?_) <;> (refine rd_u rfl rfl (aloadpw rfl rfl rfl rfl) ?_) <;> (refine rd_lit (OpP.cons rfl (OpP.nil)) rfl rfl rfl rfl rfl rfl ?_) <;> (refine rd_u rfl rfl (ap_build (RqP.cons (rq_p rfl rfl) (RqP.cons (rq_p rfl rfl) (RqP.nil))) rfl) ?_) <;> (refine rd_lit (OpP.cons rfl (OpP.cons rfl (OpP.nil))) rfl rfl rfl rfl rfl rfl ?_) <;> (refine rd_u rfl rfl (ap_build (RqP.cons (rq_p rfl rfl) (RqP.cons (rq_p rfl rfl) (RqP.nil))) rfl) ?_) <;> (refine rd_u rfl rfl (ap_build (RqP.cons (rq_p rfl rfl) (RqP.cons (rq_p rfl rfl) (RqP.nil))) rfl) ?_) <;> (refine rd_lit (OpP.cons rfl (OpP.nil)) rfl rfl rfl rfl rfl rfl ?_) <;> (refine rd_u rfl rfl (ap_build (RqP.cons (rq_p rfl rfl) (RqP.cons (rq_p rfl rfl) (RqP.nil))) rfl) ?_) <;> (refine rd_lit (OpP.cons rfl (OpP.nil)) rfl rfl rfl rfl rfl rfl ?_) <;> (refine rd_u rfl rfl (ap_build (RqP.cons (rq_p rfl rfl) (RqP.cons (rq_p rfl rfl) (RqP.nil))) rfl) ?_) <;> (refine rd_alloc rfl ?_) <;> (refine rd_store_b rfl rfl rfl rfl ?_) <;> (refine rd_end (by kernel_rfl) ?_))))
  refine wp_st (S 82 [(2, .ptr 5 3 0 0)] 6 [(0, some (.arr 3 [exprA (nmE exB), exprA (nmE exC)])), (1, some (.arr 3 [.agg [intA 3, strA ⟨#[]⟩, .ref 0 3 0 2]])), (2, some (.arr 3 [exprA (nmE exA), .agg [intA 5, strA ⟨#[]⟩, .ref 1 3 0 1]])), (3, some (.arr 4 [.agg [intA 2, strA ⟨#[]⟩, .ref 2 3 0 2, intA 4]])), (4, some (.arr 2 [.agg [strA exN0, .ref 3 4 0 1]])), (5, some (.arr 3 [.agg [strA exN0, .val (.slice none 0 0), .ref 4 2 0 1]]))]) ⟨[0, 4, 6, 9, 11, 13], ToR.S rfl (by repeat' (first | exact rt_nil | refine rt_t rfl rfl ?_)) (by repeat' (first | exact ro_nil | refine ro_e rfl rfl ?_)) rfl (by (rw [hm]; exact rfl)) rfl (by (simp [bdT, AV.bd, bdL, bdL_append]; done)) (by repeat' (first | exact True.intro | exact rfl | refine And.intro ?_ ?_)) (by (rw [hm]; exact Nat.le_of_ble_eq_true rfl))⟩ ?_
  refine wp_frzxm (id := 0) (k := 3) (f := exprA) (L := [nmE exB, nmE exC]) 1 2 [] _ hm rfl rfl rfl rfl rfl (fun _ => by simp) (fun _ => by cases ‹GEx›; rfl) rfl ?_
  refine wp_frzxm (id := 1) (k := 3) (f := exprA) (L := [exCh]) 2 2 [exprA (nmE exA)] _ hm rfl rfl rfl rfl rfl (fun _ => by simp) (fun _ => by cases ‹GEx›; rfl) rfl ?_
  refine wp_frzxm (id := 2) (k := 3) (f := exprA) (L := [nmE exA, exSt]) 3 2 [] _ hm rfl rfl rfl rfl rfl (fun _ => by simp) (fun _ => by cases ‹GEx›; rfl) rfl ?_
  refine wp_frzxm (id := 3) (k := 4) (f := altA) (L := [⟨exBo, 4⟩]) 4 1 [] _ hm rfl rfl rfl rfl rfl (fun _ => by simp) (fun a => by obtain ⟨e, p⟩ := a; cases e; rfl) rfl ?_
  refine wp_frzxm (id := 4) (k := 2) (f := gruleA) (L := exH.rules) 5 2 [] _ hm rfl rfl rfl rfl rfl (fun _ => by simp) (fun _ => rfl) rfl ?_
  (repeat' (first | apply jA | apply jH | (refine wpl_region (id := 3) ?_; (refine wpl_step rfl ?_); (refine sloadpw rfl rfl rfl rfl ?_); (apply jW); (refine wpl_step rfl ?_); (refine se_lit (OpP.cons rfl (OpP.cons rfl (OpP.cons rfl (OpP.nil)))) rfl rfl rfl rfl rfl rfl ?_); (apply jW); (refine wpl_frz 30 hm rfl rfl (by first | exact rfl | fail) (by first | exact rfl | fail) rfl ?_); (refine wpl_step rfl ?_); (refine sc_p rfl rfl (by first | ((repeat' first | exact SubL.nil | refine SubL.cons ?_ ?_ | exact Sub.refl | exact Sub.nil | refine Sub.aggL ?_); done) | fail) (by first | (simp [bdL, bdL_append, AV.bd]; done) | fail) (exH_a) ?_); (apply jW); (refine wpl_step rfl ?_); (refine smove rfl ?_); (apply jW); (refine wpl_step rfl ?_); (refine su (aextract rfl rfl) ?_); (apply jW); (refine wpl_step rfl ?_); (refine su (aextract rfl rfl) ?_); (apply jW); (refine wpl_step rfl ?_); (refine su (aextract rfl rfl) ?_); (apply jW); (refine wpl_step rfl ?_); (refine se_alloc rfl ?_); (apply jW); (refine wpl_step rfl ?_); (refine se_store_b rfl rfl rfl rfl ?_); (apply jW); (refine wpl_step rfl ?_); (refine sassign rfl ?_); (apply jW); (refine wpl_step rfl ?_); (refine sassign rfl ?_); (apply jW); (apply jX)) | (refine wpl_region (id := 4) ?_; (refine wpl_step rfl ?_); (refine se_lit (OpP.cons rfl (OpP.cons rfl (OpP.cons rfl (OpP.nil)))) rfl rfl rfl rfl rfl rfl ?_); (apply jW); (refine wpl_frz 35 hm rfl rfl (by first | exact rfl | fail) (by first | exact rfl | fail) rfl ?_); (refine wpl_step rfl ?_); (refine se_lit (OpP.cons rfl (OpP.cons rfl (OpP.cons rfl (OpP.nil)))) rfl rfl rfl rfl rfl rfl ?_); (apply jW); (refine wpl_frz 36 hm rfl rfl (by first | exact rfl | fail) (by first | exact rfl | fail) rfl ?_); (refine wpl_step rfl ?_); (refine se_lit (OpP.cons rfl (OpP.cons rfl (OpP.nil))) rfl rfl rfl rfl rfl rfl ?_); (apply jW); (refine wpl_frz 37 hm rfl rfl (by first | exact rfl | fail) (by first | exact rfl | fail) rfl ?_); (refine wpl_step rfl ?_); (refine su (ap_build (RqP.cons (rq_p rfl rfl) (RqP.cons (rq_p rfl rfl) (RqP.cons (rq_p rfl rfl) (RqP.nil)))) rfl) ?_); (apply jW); (refine wpl_step rfl ?_); (refine su (ap_build (RqP.cons (rq_p rfl rfl) (RqP.nil)) rfl) ?_); (apply jW); (refine wpl_step rfl ?_); (refine se_lit (OpP.cons rfl (OpP.cons rfl (OpP.nil))) rfl rfl rfl rfl rfl rfl ?_); (apply jW); (refine wpl_frz 40 hm rfl rfl (by first | exact rfl | fail) (by first | exact rfl | fail) rfl ?_); (refine wpl_step rfl ?_); (refine su (ap_build (RqP.cons (rq_p rfl rfl) (RqP.cons (rq_p rfl rfl) (RqP.nil))) rfl) ?_); (apply jW); (refine wpl_step rfl ?_); (refine se_lit (OpP.cons rfl (OpP.nil)) rfl rfl rfl rfl rfl rfl ?_); (apply jW); (refine wpl_frz 42 hm rfl rfl (by first | exact rfl | fail) (by first | exact rfl | fail) rfl ?_); (refine wpl_step rfl ?_); (refine su (ap_build (RqP.cons (rq_p rfl rfl) (RqP.cons (rq_p rfl rfl) (RqP.nil))) rfl) ?_); (apply jW); (refine wpl_step rfl ?_); (refine se_lit (OpP.cons rfl (OpP.nil)) rfl rfl rfl rfl rfl rfl ?_); (apply jW); (refine wpl_frz 44 hm rfl rfl (by first | exact rfl | fail) (by first | exact rfl | fail) rfl ?_); (refine wpl_step rfl ?_); (refine su (ap_build (RqP.cons (rq_p rfl rfl) (RqP.cons (rq_p rfl rfl) (RqP.nil))) rfl) ?_); (apply jW); (refine wpl_step rfl ?_); (refine se_lit (OpP.cons rfl (OpP.cons rfl (OpP.cons rfl (OpP.cons rfl (OpP.cons rfl (OpP.nil)))))) rfl rfl rfl rfl rfl rfl ?_); (apply jW); (refine wpl_step rfl ?_); (refine su (ap_build (RqP.cons (rq_p rfl rfl) (RqP.cons (rq_p rfl rfl) (RqP.cons (rq_p rfl rfl) (RqP.nil)))) rfl) ?_); (apply jW); (refine wpl_step rfl ?_); (refine se_alloc rfl ?_); (apply jW); (refine wpl_step rfl ?_); (refine se_store_b rfl rfl rfl rfl ?_); (apply jW); (apply jX)) | (refine wpl_region (id := 5) ?_; (refine wpl_step rfl ?_); (refine sloadpw rfl rfl rfl rfl ?_); (apply jW); (refine wpl_step rfl ?_); (refine se_lit (OpP.cons rfl (OpP.cons rfl (OpP.nil))) rfl rfl rfl rfl rfl rfl ?_); (apply jW); (refine wpl_frz 50 hm rfl rfl (by first | exact rfl | fail) (by first | exact rfl | fail) rfl ?_); (refine wpl_step rfl ?_); (refine sc_p rfl rfl (by first | ((repeat' first | exact SubL.nil | refine SubL.cons ?_ ?_ | exact Sub.refl | exact Sub.nil | refine Sub.aggL ?_); done) | fail) (by first | (simp [bdL, bdL_append, AV.bd]; done) | fail) (exH_b) ?_); (apply jW); (refine wpl_step rfl ?_); (refine smove rfl ?_); (apply jW); (refine wpl_step rfl ?_); (refine su (aextract rfl rfl) ?_); (apply jW); (refine wpl_step rfl ?_); (refine su (aextract rfl rfl) ?_); (apply jW); (refine wpl_step rfl ?_); (refine su (aextract rfl rfl) ?_); (apply jW); (refine wpl_step rfl ?_); (refine se_alloc rfl ?_); (apply jW); (refine wpl_step rfl ?_); (refine se_store_b rfl rfl rfl rfl ?_); (apply jW); (refine wpl_step rfl ?_); (refine sassign rfl ?_); (apply jW); (refine wpl_step rfl ?_); (refine sassign rfl ?_); (apply jW); (apply jX)) | (refine wpl_region (id := 6) ?_; (refine wpl_step rfl ?_); (refine sloadpw rfl rfl rfl rfl ?_); (apply jW); (refine wpl_step rfl ?_); (refine se_lit (OpP.cons rfl (OpP.cons rfl (OpP.cons rfl (OpP.cons rfl (OpP.nil))))) rfl rfl rfl rfl rfl rfl ?_); (apply jW); (refine wpl_frz 57 hm rfl rfl (by first | exact rfl | fail) (by first | exact rfl | fail) rfl ?_); (refine wpl_step rfl ?_); (refine sc_p rfl rfl (by first | ((repeat' first | exact SubL.nil | refine SubL.cons ?_ ?_ | exact Sub.refl | exact Sub.nil | refine Sub.aggL ?_); done) | fail) (by first | (simp [bdL, bdL_append, AV.bd]; done) | fail) (exH_c) ?_); (apply jW); (refine wpl_step rfl ?_); (refine smove rfl ?_); (apply jW); (refine wpl_step rfl ?_); (refine su (aextract rfl rfl) ?_); (apply jW); (refine wpl_step rfl ?_); (refine su (aextract rfl rfl) ?_); (apply jW); (refine wpl_step rfl ?_); (refine su (aextract rfl rfl) ?_); (apply jW); (refine wpl_step rfl ?_); (refine se_alloc rfl ?_); (apply jW); (refine wpl_step rfl ?_); (refine se_store_b rfl rfl rfl rfl ?_); (apply jW); (refine wpl_step rfl ?_); (refine sassign rfl ?_); (apply jW); (refine wpl_step rfl ?_); (refine sassign rfl ?_); (apply jW); (apply jX))))
  have hI := ints_fn [0, -1, -1, -1, -1] [0, -1, -1, -1, -1]
  have hE := requal18_fn exW exW
  (repeat' (first | apply jH | apply jK | apply jS | (refine WP.regionC (id := 7) ?_ <;> (refine smove rfl ?_) <;> (refine seql rfl rfl ?_) <;> (refine smove rfl ?_) <;> (refine sg (gq_vt rfl rfl) (fun he => ap_load_pw (rq_p rfl rfl) rfl rfl rfl) ?_) <;> (refine sg (gq_vt rfl rfl) (fun he => ap_load_pw (rq_p rfl rfl) rfl rfl rfl) ?_) <;> (refine sg_b (gq_vt rfl rfl) (fun he => ⟨(rq_p rfl rfl), (RqL.cons (rq_c rfl rfl) (RqL.cons (rq_c rfl rfl) (RqL.nil))), (by first | ((repeat' first | exact FzL.nil | refine FzL.cons ?_ ?_ | exact Fz.nil | (exact Fz.reflp (by simp [AV.bd, bdL, bdL_append])) | refine Fz.rowL rfl rfl rfl ?_ | refine Fz.aggL ?_); done) | fail), hE, rfl⟩) ?_) <;> (refine su (ap_and (rq_p rfl rfl) (rq_c rfl rfl)) ?_) <;> (refine smove rfl ?_) <;> (refine sg (gq_vt rfl rfl) (fun he => ap_move (rq_p rfl rfl)) ?_) <;> (refine sgt_lit rfl rfl rfl (OpP.cons rfl (OpP.cons rfl (OpP.cons rfl (OpP.cons rfl (OpP.cons rfl (OpP.nil)))))) rfl rfl rfl rfl rfl rfl ?_) <;> (refine sg_b (gq_vt rfl rfl) (fun he => ⟨(rq_p rfl rfl), (RqL.cons (rq_c rfl rfl) (RqL.cons (rq_p rfl rfl) (RqL.nil))), (by first | ((repeat' first | exact FzL.nil | refine FzL.cons ?_ ?_ | (exact Fz.list rfl rfl (fun _ => by simp [AV.bd, bdL, bdL_append]) (fun _ => rfl)) | (exact Fz.reflp (by simp [AV.bd, bdL, bdL_append]))); done) | fail), hI, rfl⟩) ?_) <;> (refine su (ap_and (rq_p rfl rfl) (rq_c rfl rfl)) ?_) <;> (refine smove rfl ?_) <;> (refine sg (gq_vt rfl rfl) (fun he => ap_move (rq_p rfl rfl)) ?_) <;> (refine sg (gq_vt rfl rfl) (fun he => ap_eql (rq_c rfl rfl) (rq_p rfl rfl)) ?_) <;> (refine su (ap_and (rq_p rfl rfl) (rq_c rfl rfl)) ?_) <;> (refine smove rfl ?_) <;> (refine sg (gq_vt rfl rfl) (fun he => ap_move (rq_p rfl rfl)) ?_) <;> (refine sg (gq_vt rfl rfl) (fun he => ap_eql (rq_c rfl rfl) (rq_p rfl rfl)) ?_) <;> (refine su (ap_and (rq_p rfl rfl) (rq_c rfl rfl)) ?_) <;> (refine sassign rfl ?_) <;> apply jW) | exact ret_eq rfl rfl rfl))
end Go.Lg

namespace Go.Lg
open Go.Proofs
set_option linter.unusedSimpArgs false
set_option linter.unusedVariables false
attribute [local irreducible] Ap Rq asemC WP RunD Ret Gq thenA inBlockA bodyQ noGotoA RqL RqP OpP
set_option maxHeartbeats 8000000
set_option maxRecDepth 20000
attribute [local simp] AV.cells
theorem fit_small {f : GFi} (hT : TokB f) {m : Int} (h0 : 0 ≤ m) (h1 : m ≤ 1000) (h : sizeF f m ≤ m) {terms : List ByteArray} (ht : terms.length ≤ 1048576) : DFit f terms := by
  have h2 := cnt_small hT h0 h
  have h3 := toks_small hT h0 h
  exact ⟨by omega, by omega, ht, by omega⟩
def abcd : List ByteArray := [exA, exB, exC, exD]
def exprB (e : GEx) : AV := .agg [intA e.kind, strA e.name, exprsA e.kids]
theorem exprB_eq (e : GEx) : exprA e = exprB e := by cases e; rw [exprA_mkJ]; rfl
@[simp] theorem bd_exprB (n : Nat) (e : GEx) : (exprB e).bd n = true := by rw [← exprB_eq]; simp
@[simp] theorem bd_exprsB (n : Nat) (l : List GEx) : bdL n (l.map exprB) = true := bdL_map (bd_exprB n) l
end Go.Lg

namespace Go.Lg
open Go.Proofs
set_option linter.unusedSimpArgs false
set_option linter.unusedVariables false
attribute [local irreducible] Ap Rq asemC WP RunD Ret Gq thenA inBlockA bodyQ noGotoA RqL RqP OpP
set_option maxHeartbeats 8000000
set_option maxRecDepth 20000
attribute [local simp] AV.cells bd_tabA
theorem finB_two {d : DEn} {e : GEx} (h : Good d e) (h1 : e.kind ≠ 1) (h2 : e.kind ≠ 2) (self : Int) {bs : List (List Int)} (hb : bs.length = e.kids.length) : (finB e.kind self bs).length + 1 ≤ 2 + e.kids.length := by
  by_cases h3 : e.kind = 3
  · unfold finB; rw [if_neg (by omega), if_neg (by omega), if_neg (by omega)]; omega
  · obtain ⟨hl, hk⟩ := h.kinds h1 h2 h3
    unfold finB
    rcases hk with h4 | h4 | h4
    · rw [if_pos h4, hl]; simp
    · rw [if_neg (by omega), if_pos h4, hl]; simp
    · rw [if_neg (by omega), if_neg (by omega), if_pos h4, hl]; simp
theorem DEn.symE_bod2 (d : DEn) (e : GEx) : Good d e → ∀ s : DSt, bodN (d.symE e s).2.extra + 1 ≤ bodN s.extra + 2 * nodE e := by
  induction e using GEx.ind with
  | h e ih =>
    have hL : ∀ l : List GEx, (∀ x, x ∈ l → x ∈ e.kids) → (∀ x, x ∈ l → Good d x) → ∀ s : DSt, bodN (d.symL l s).2.extra + l.length ≤ bodN s.extra + 2 * nodL l := by
      intro l
      induction l with
      | nil => intro _ _ s; rw [DEn.symL]; simp
      | cons x l ihl =>
        intro hl hg s
        have h1 := ih x (hl x (by simp)) (hg x (by simp)) s
        have h2 := ihl (fun y hy => hl y (by simp [hy])) (fun y hy => hg y (by simp [hy])) (d.symE x s).2
        rw [DEn.symL, nodL]
        simp only [List.length_cons]
        omega
    intro hg s
    have hk := fun x (hx : x ∈ e.kids) => hg.kid hx
    rw [DEn.symE_eq, nodE_eq]
    by_cases c1 : e.kind = 1
    · rw [if_pos c1]
      have := d.sym_len e.name s
      simp only [this.1]
      omega
    · rw [if_neg c1]
      by_cases c2 : e.kind = 2
      · rw [if_pos c2]
        have := hL _ (fun _ h => h) hk s
        simp only
        omega
      · rw [if_neg c2]
        have h1 := bodN_set (d.symL e.kids (d.start s)).2.extra s.extra.length (d.newName (s.count + 1), finB e.kind (d.self s) (d.symL e.kids (d.start s)).1)
        have h2 := finB_two hg c1 c2 (d.self s) (bs := (d.symL e.kids (d.start s)).1) (d.symL_len _ _)
        have h4 := hL e.kids (fun _ h => h) hk (d.start s)
        have h5 : bodN (d.start s).extra = bodN s.extra := by simp only [DEn.start]; rw [bodN_app]; simp [bodN]
        simp only at h1 ⊢
        omega
theorem daltTo_bod2 (d : DEn) (i : Nat) (x : DRes) (l : List GAl) (hg : ∀ a, a ∈ l → Good d a.body) : ∀ k, k ≤ l.length → bodN (daltTo d i x l k).st.extra + k ≤ bodN x.st.extra + 2 * cntA l k
  | 0, _ => by simp [daltTo, cntA]
  | k + 1, hk => by
    have h := daltTo_bod2 d i x l hg k (by omega)
    have h1 := d.symE_bod2 (nth l k).body (hg _ (nth_mem (by omega))) (daltTo d i x l k).st
    simp only [daltTo, stepA, cntA]
    omega
theorem drulTo_bod2 (f : GFi) (terms : List ByteArray) (hg : ∀ n, n < f.rules.length → ∀ a, a ∈ (nth f.rules n).alts → Good (envOf f terms (nth f.rules n)) a.body) : ∀ k, k ≤ f.rules.length → bodN (drulTo f terms k).st.extra + altN f k ≤ 2 * cntF f k
  | 0, _ => by simp [drulTo, cntF, bodN, altN]
  | k + 1, hk => by
    have h := drulTo_bod2 f terms hg k (by omega)
    have h1 := daltTo_bod2 (envOf f terms (nth f.rules k)) k (drulTo f terms k).reset (nth f.rules k).alts (hg k (by omega)) (nth f.rules k).alts.length (Nat.le_refl _)
    have hr : (drulTo f terms k).reset.st.extra = (drulTo f terms k).st.extra := rfl
    rw [hr] at h1
    simp only [drulTo, cntF, altN]
    omega
theorem good_all {f : GFi} {terms : List ByteArray} (hval : validF f = true) (hok : (drulTo f terms f.rules.length).st.ok = true) : ∀ n, n < f.rules.length → ∀ a, a ∈ (nth f.rules n).alts → Good (envOf f terms (nth f.rules n)) a.body := fun n hn a ha => by
  have hv := valid_ok hval
  refine ⟨hv _ (nth_mem hn) _ ha, ?_⟩
  rw [drulTo_ok f terms hv _ (Nat.le_refl _), List.take_length] at hok
  have h1 := List.all_eq_true.1 hok _ (nth_mem hn)
  unfold kRule at h1
  exact List.all_eq_true.1 h1 _ ha
theorem rules_few {f : GFi} {terms : List ByteArray} (h : (desugarP f terms).2.2 = 0) : (desugarP f terms).1.rules.length ≤ 2 * cntF f f.rules.length ∧ f.rules.length ≤ (desugarP f terms).1.nonterms.length := by
  obtain ⟨h1, h2, _, e⟩ := desugarP_ok h
  rw [e]
  have g1 := drulTo_bod2 f terms (good_all h1 h2) f.rules.length (Nat.le_refl _)
  have g2 := (drulTo_altN f terms f.rules.length).1
  have g3 := extsTo_len f.rules.length (drulTo f terms f.rules.length).st.extra _ (Nat.le_refl _)
  have g4 := bodN_take (drulTo f terms f.rules.length).st.extra (drulTo f terms f.rules.length).st.extra.length
  simp only [desugarG, namesX, List.length_append, List.length_map]
  omega
def IsM (f : GFi) (terms : List ByteArray) (s : List Int) (T : List (List (List Bool))) : Prop := Dim T f.rules.length (s.length + 1) ∧ ∀ a b c, a < f.rules.length → b < s.length + 1 → c < s.length + 1 → (nth (nth (nth T a) b) c = true ↔ Mat f terms s a b c)
noncomputable def matTT (f : GFi) (terms : List ByteArray) (s : List Int) : List (List (List Bool)) := rowsT f.rules.length (s.length + 1) (matL f terms s)
theorem rowsT_dim' (n m : Nat) (t : List Bool) : Dim (rowsT n m t) n m :=
  ⟨by simp [rowsT], fun a ha => by rw [rowsT, nth_range ha]; simp, fun a b ha hb => by rw [rowsT, nth_range ha, nth_range hb]; simp⟩
theorem matTT_is (f : GFi) (terms : List ByteArray) (s : List Int) : IsM f terms s (matTT f terms s) := ⟨rowsT_dim' _ _ _, fun a b c ha hb hc => by
  have := rowsT_at (t := matL f terms s) ha hb hc
  unfold tbL at this
  unfold matTT
  rw [this, matL_at ha hb hc]⟩
def IsD' (g : Gram) (s : List Int) (T : List (List (List Bool))) : Prop := Dim T g.nonterms.length (s.length + 1) ∧ ∀ a b c, a < g.nonterms.length → b < s.length + 1 → c < s.length + 1 → (nth (nth (nth T a) b) c = true ↔ Der g s a b c)
noncomputable def derT' (g : Gram) (s : List Int) : List (List (List Bool)) := rowsT g.nonterms.length (s.length + 1) (derL g s)
theorem derT_is' (g : Gram) (s : List Int) : IsD' g s (derT' g s) := ⟨rowsT_dim' _ _ _, fun a b c ha hb hc => by
  have := rowsT_at (t := derL g s) ha hb hc
  unfold tbL at this
  unfold derT'
  rw [this, derL_at ha hb hc]⟩
def ltr4 (bs : List UInt8) (i : Nat) : List Int := (bs.take i).map fun b => ((b.toNat : Int).tmod 4)
theorem ltr4_len {bs : List UInt8} {i : Nat} (h : i ≤ bs.length) : (ltr4 bs i).length = i := by simp [ltr4, h]
theorem sentence_fn (bs : List UInt8) : Fn Tryd.prog 16 [.sl 1 (bs.map byteA), intA 4, intA 4] (intsA (ltr4 bs (min bs.length 4))) := by
  refine Fn.intro (by simp [AV.bd, bdL, bdL_append]) (by kernel_rfl) Tryd.func16 rfl rfl Tryd.ntmps16 (by exact Nat.le_of_ble_eq_true rfl) ?_; intro Γ hm
  refine wp_lens 0 rfl fun hl => ?_
  have hlen : bs.length ≤ 9223372036854775807 := by simpa [AV.lens] using hl.1
  (repeat' (first | apply jA | apply jF | apply jH | (refine WP.regionC ?_; (refine sassign rfl ?_); apply jW)))
  refine wp_nil 7 1 rfl ?_
  refine wp_loop (fun (i : Nat) => i ≤ bs.length ∧ i ≤ 4) (fun i => 4 - i)
    (fun i => (S 31 [(0, .sl 1 (bs.map byteA)), (1, intA 4), (2, intA 4), (7, .ref 0 1 0 (ltr4 bs i).length), (8, intA (i : Nat))] 1 [(0, some (.arr 1 ((ltr4 bs i).map intA)))])) 0 ⟨[0], ToR.S rfl (by repeat' (first | exact rt_nil | refine rt_r rfl rfl ?_ | refine rt_e rfl rfl ?_ | refine rt_p rfl rfl (by first | (simp [AV.bd, bdL, bdL_append]; done) | fail) ?_)) (by repeat' (first | exact ro_nil | refine ro_e rfl rfl ?_)) rfl (by (rw [hm]; exact rfl)) rfl (by (simp [bdT, AV.bd, bdL, bdL_append]; done)) (by repeat' (first | exact True.intro | exact rfl | refine And.intro ?_ ?_)) (by (rw [hm]; exact Nat.le_of_ble_eq_true rfl))⟩ ⟨Nat.zero_le _, Nat.zero_le _⟩ ?_
  rintro i ⟨hi, hi4⟩
  have hll := ltr4_len hi
  by_cases hlt : i < bs.length ∧ i < 4
  · obtain ⟨h1, h2⟩ := hlt
    have hb := (nth bs i).toNat_lt
    have e : ltr4 bs (i + 1) = ltr4 bs i ++ [((nth bs i).toNat : Int).tmod 4] := by
      rw [ltr4, take_succ_nth h1, List.map_append]; rfl
    have hm0 := Int.tmod_nonneg (a := ((nth bs i).toNat : Int)) 4 (by omega)
    (repeat' (first | apply jA | apply jF | apply jH | apply jI | apply jN | (refine wp_cond rfl (fun hc => ?_) (fun hc => ?_) <;> (try simp only [sB, ne_eq, reduceCtorEq] at hc) <;> (try (exfalso; omega))) | (refine WP.regionC (id := 3) ?_; (refine smove rfl ?_); (refine smove rfl ?_); (refine slenm rfl rfl ?_); (refine slss rfl rfl ?_); (refine smove rfl ?_); (refine sg (gq_vt rfl rfl) (fun he => ap_move (rq_p rfl rfl)) ?_); (refine sg (gq_vt rfl rfl) (fun he => ap_move (rq_p rfl rfl)) ?_); (refine sg (gq_vt rfl rfl) (fun he => ap_lss (rq_c rfl rfl) (rq_c rfl rfl)) ?_); (refine su (ap_and (rq_p rfl rfl) (rq_c rfl rfl)) ?_); apply jW) | (refine WP.regionC (id := 5) ?_; (refine smove rfl ?_); (refine smove rfl ?_); (refine smove rfl ?_); (refine sidxn rfl rfl (by omega) ?_); (refine sloadw rfl rfl ?_); (refine su (aconv rfl rfl (by kernel_rfl) (by exact inr_i64_of (by omega))) ?_); (refine smove rfl ?_); (refine su (arem rfl rfl (by omega)) ?_); (refine se_lit (OpP.cons rfl (OpP.nil)) rfl rfl rfl rfl rfl rfl ?_); (refine se_app1 rfl rfl rfl rfl rfl rfl rfl rfl (by omega) ?_); (refine sassign rfl ?_); apply jW) | (refine WP.regionC (id := 4) ?_; (refine smove rfl ?_); (refine sadd rfl rfl (by exact inr_i64_of (by omega)) ?_); (refine sassign rfl ?_); apply jW)))
    refine ⟨i + 1, ⟨by omega, by omega, by omega⟩, ?_⟩
    rw [e, List.length_append, List.map_append]
    exact ⟨[2], ToR.S rfl (by repeat' (first | exact rt_nil | refine rt_r rfl rfl ?_ | refine rt_e rfl rfl ?_ | refine rt_p rfl rfl (by first | (simp [AV.bd, bdL, bdL_append]; done) | fail) ?_)) (by repeat' (first | exact ro_nil | refine ro_p rfl (by first | exact rfl | fail) (by first | (simp [bdL, bdL_append, AV.bd]; done) | fail) ?_)) rfl (by (rw [hm]; exact rfl)) rfl (by (simp [bdT, AV.bd, bdL, bdL_append]; done)) (by repeat' (first | exact True.intro | refine And.intro ?_ ?_ | (simp [bdOq, bdL, bdL_append, AV.bd]; done))) (by (rw [hm]; exact Nat.le_of_ble_eq_true rfl))⟩
  · have : min bs.length 4 = i := by omega
    rw [this]
    (repeat' (first | apply jA | apply jH | apply jJ | apply jK | apply jL | apply jP | apply jS | (refine wp_cond rfl (fun hc => ?_) (fun hc => ?_) <;> (try simp only [sB, ne_eq, reduceCtorEq] at hc) <;> (try (exfalso; omega))) | (refine WP.regionC (id := 3) ?_; (refine smove rfl ?_); (refine smove rfl ?_); (refine slenm rfl rfl ?_); (refine slss rfl rfl ?_); (refine smove rfl ?_); (refine sg (gq_vt rfl rfl) (fun he => ap_move (rq_p rfl rfl)) ?_); (refine sg (gq_vt rfl rfl) (fun he => ap_move (rq_p rfl rfl)) ?_); (refine sg (gq_vt rfl rfl) (fun he => ap_lss (rq_c rfl rfl) (rq_c rfl rfl)) ?_); (refine su (ap_and (rq_p rfl rfl) (rq_c rfl rfl)) ?_); apply jW) | (refine WP.regionC (id := 6) ?_; (refine smove rfl ?_); (refine sassign rfl ?_); apply jW) | refine ret_sl rfl rfl rfl (fun _ => by exact rfl) (fun _ => rfl) ?_))
    rfl
theorem law_lang19 (f : GFi) (hf : f.fit ∧ TokB f) (bs : List UInt8) : Fn Tryd.prog 4 [fileA f, .sl 1 (bs.map byteA)] (boolA true) := by
  have hs := size_fn f hf.2 30 (by decide) (by decide)
  by_cases hz : sizeF f 30 ≤ 30
  · have hd := desugar_fn f abcd (fit_small hf.2 (by decide) (by decide) hz (by decide))
    have hc0 := cnt_small hf.2 (by decide) hz
    have hokp := @desugarP_ok f abcd
    have hfew := @rules_few f abcd
    have hlang := @lang_same f abcd
    have hse := sentence_fn bs
    have hll : (ltr4 bs (min bs.length 4)).length ≤ 4 := by rw [ltr4_len (by omega)]; omega
    generalize ltr4 bs (min bs.length 4) = L at *
    generalize hp : desugarP f abcd = p at *
    refine Fn.intro rfl (by kernel_rfl) Tryd.func4 rfl rfl Tryd.ntmps4 (by exact Nat.le_of_ble_eq_true rfl) ?_; intro Γ hm
    (repeat' (first | apply jA | apply jH | apply jI | apply jK | apply jM | apply jS | (refine wp_cond rfl (fun hc => ?_) (fun hc => ?_) <;> (try simp only [sB, ne_eq, reduceCtorEq] at hc) <;> (try (exfalso; omega))) | (refine WP.regionC (id := 0) ?_; (refine se_box rfl (by exact ⟨rfl, rfl⟩) ?_); (refine sassign rfl ?_); apply jW) | (refine wpl_region (id := 1) ?_; (refine wpl_step rfl ?_); (refine se_lit (OpP.cons rfl (OpP.cons rfl (OpP.cons rfl (OpP.cons rfl (OpP.nil))))) rfl rfl rfl rfl rfl rfl ?_); (apply jW); (refine wpl_frz 15 hm rfl rfl (by first | exact rfl | fail) (by first | exact rfl | fail) rfl ?_); (refine wpl_step rfl ?_); (refine sassign rfl ?_); (apply jW); (apply jX)) | (refine WP.regionC (id := 2) ?_; (refine sloadpw rfl rfl rfl rfl ?_); (refine sc_p rfl rfl (by first | ((repeat' first | exact SubL.nil | refine SubL.cons ?_ ?_ | exact Sub.refl); done) | fail) (by first | (simp [bdL, bdL_append, AV.bd]; done) | fail) (hs) ?_); (refine su (agtr rfl rfl) ?_); apply jW) | (refine WP.regionC (id := 4) ?_; (refine sloadpw rfl rfl rfl rfl ?_); (refine smove rfl ?_); (refine sc_p rfl rfl (by first | ((repeat' first | exact SubL.nil | refine SubL.cons ?_ ?_ | exact Sub.refl); done) | fail) (by first | (simp [bdL, bdL_append, AV.bd]; done) | fail) (hd) ?_); (refine smove rfl ?_); (refine su (aextract rfl rfl) ?_); (refine su (aextract rfl rfl) ?_); (refine su (aextract rfl rfl) ?_); (refine se_alloc rfl ?_); (refine se_store_b rfl rfl rfl rfl ?_); (refine sassign rfl ?_); (refine sassign rfl ?_); apply jW) | (refine WP.regionC (id := 5) ?_; (refine smove rfl ?_); (refine su (aneq rfl rfl) ?_); apply jW) | (refine WP.regionC (id := 6) ?_; (refine sc_p rfl rfl (by first | ((repeat' (exact SubL.nil)); done) | fail) (by first | (simp [bdL, bdL_append, AV.bd]; done) | fail) (awake19_fn) ?_); (refine sassign rfl ?_); apply jW) | exact ret_eq rfl rfl rfl))
    have h0 : p.2.2 = 0 := by assumption
    obtain ⟨k1, k2, k3, k4⟩ := hokp h0
    obtain ⟨f1, f2⟩ := hfew h0
    have hval : validG p.1 = true := by rw [k4]; exact k3
    have hv := validG_iff.1 hval
    have hder : ∀ a i k, a < f.rules.length → (Der p.1 L a i k ↔ Mat f abcd L a i k) := fun a i k ha => by rw [k4]; exact hlang k1 k2 L ha
    have hD := derT_is' p.1 L
    have hM := matTT_is f abcd L
    have hal : ∀ n, n < f.rules.length → (nth f.rules n).alts.length ≤ 100000 := fun n hn => by
      have h1 := altN_mono f (show n + 1 ≤ f.rules.length by omega)
      have h2 := altN_cnt f f.rules.length
      rw [altN] at h1; omega
    have dv : Fn Tryd.prog 17 [gramA p.1, intsA L] (tabLA (derT' p.1 L)) := by unfold derT'; rw [rowsT_A]; exact derives_fn p.1 L hv (by omega)
    have mv : Fn Tryd.prog 18 [fileA f, strsA abcd, intsA L] (tabLA (matTT f abcd L)) := by unfold matTT; rw [rowsT_A]; exact Matches_fn f (by omega) hal (valid_ok k1) abcd (by decide) L (by omega)
    generalize derT' p.1 L = T at *
    generalize matTT f abcd L = U at *
    obtain ⟨hd1, hd2⟩ := hD
    obtain ⟨hm1, hm2⟩ := hM
    have hT0 := hd1.len
    have hU0 := hm1.len
    (repeat' (first | apply jA | apply jF | apply jH | apply jI | apply jK | apply jM | apply jS | (refine wp_cond rfl (fun hc => ?_) (fun hc => ?_) <;> (try simp only [sB, ne_eq, reduceCtorEq] at hc) <;> (try (exfalso; omega))) | (refine WP.regionC (id := 7) ?_; (refine sloadpw rfl rfl rfl rfl ?_); (refine sc_p rfl rfl (by first | ((repeat' first | exact SubL.nil | refine SubL.cons ?_ ?_ | exact Sub.refl); done) | fail) (by first | (simp [bdL, bdL_append, AV.bd]; done) | fail) (rvalid18_fn _) ?_); (refine su (anot rfl) ?_); (refine smove rfl ?_); (refine sg (gq_vf rfl rfl) (fun he => ap_field_p (rq_p rfl rfl) rfl rfl) ?_); (refine sg (gq_vf rfl rfl) (fun he => ap_load_p (rq_c rfl rfl) rfl rfl rfl) ?_); (refine sg (gq_vf rfl rfl) (fun he => ap_len_m rfl (rq_c rfl rfl)) ?_); (refine sg (gq_vf rfl rfl) (fun he => ap_field_p (rq_p rfl rfl) rfl rfl) ?_); (refine sg (gq_vf rfl rfl) (fun he => ap_load_p (rq_c rfl rfl) rfl rfl rfl) ?_); (refine sg (gq_vf rfl rfl) (fun he => ap_len_m rfl (rq_c rfl rfl)) ?_); (refine sg (gq_vf rfl rfl) (fun he => ap_lss (rq_c rfl rfl) (rq_c rfl rfl)) ?_); (refine su (ap_or (rq_p rfl rfl) (rq_c rfl rfl)) ?_); (refine smove rfl ?_); (refine sg (gq_vf rfl rfl) (fun he => ap_field_p (rq_p rfl rfl) rfl rfl) ?_); (refine sg (gq_vf rfl rfl) (fun he => ap_load_p (rq_c rfl rfl) rfl rfl rfl) ?_); (refine sg (gq_vf rfl rfl) (fun he => ap_len_m rfl (rq_c rfl rfl)) ?_); (refine sg (gq_vf rfl rfl) (fun he => ap_gtr (rq_c rfl rfl) (rq_p rfl rfl)) ?_); (refine su (ap_or (rq_p rfl rfl) (rq_c rfl rfl)) ?_); apply jW) | (refine WP.regionC ?_; (refine sassign rfl ?_); apply jW) | (refine WP.regionC (id := 9) ?_; (refine smove rfl ?_); (refine smove rfl ?_); (refine su (alens rfl rfl) ?_); (refine sc_p rfl rfl (by first | ((repeat' first | exact SubL.nil | refine SubL.cons ?_ ?_ | exact Sub.refl); done) | fail) (by first | (simp [bdL, bdL_append, AV.bd]; done) | fail) (hse) ?_); (refine sassign rfl ?_); apply jW) | (refine wp_draw (id := 10) 9 mixed (by kernel_rfl) (by kernel_rfl) rfl ?_ <;> (refine rd_u rfl rfl (aloadpw rfl rfl rfl rfl) ?_) <;> (refine rmove rfl ?_) <;> (refine rd_call rfl rfl (by first | ((repeat' first | exact SubL.nil | refine SubL.cons ?_ ?_ | exact Sub.refl); done) | fail) (by first | (simp [bdL, bdL_append, AV.bd]; done) | fail) (dv) ?_) <;> (refine rd_u rfl rfl (aloadpw rfl rfl rfl rfl) ?_) <;> (refine rmove rfl ?_) <;> (refine rmove rfl ?_) <;> (refine rd_call rfl rfl (by first | ((repeat' first | exact SubL.nil | refine SubL.cons ?_ ?_ | exact Sub.refl); done) | fail) (by first | (simp [bdL, bdL_append, AV.bd]; done) | fail) (mv) ?_) <;> (refine rd_u rfl rfl (aassign rfl) ?_) <;> (refine rd_u rfl rfl (aassign rfl) ?_) <;> (refine rd_end (by kernel_rfl) ?_)) | refine ret_b rfl ?_))
    · exfalso
      rcases hc with (h | h) | h
      · rw [hval] at h; cases h
      · omega
      · omega
    refine wp_loop (fun (r : Nat) => r ≤ f.rules.length) (fun r => f.rules.length - r)
      (fun r => (S 101 [(2, .ptr 0 3 0 0), (9, intsA L), (10, tabLA T), (11, tabLA U), (12, intA (r : Nat))] 1 [(0, some (.arr 3 [fileA f]))])) 0 ⟨[0], ToR.S rfl (by repeat' (first | exact rt_nil | refine rt_t rfl rfl ?_ | refine rt_e rfl rfl ?_ | refine rt_p rfl rfl (by first | (simp [AV.bd, bdL, bdL_append]; done) | fail) ?_)) (by repeat' (first | exact ro_nil | refine ro_p rfl (by first | exact rfl | fail) (by first | (simp [bdL, bdL_append, AV.bd]; done) | fail) ?_)) rfl (by (rw [hm]; exact rfl)) rfl (by (simp [bdT, AV.bd, bdL, bdL_append]; done)) (by repeat' (first | exact True.intro | refine And.intro ?_ ?_ | (simp [bdOq, bdL, bdL_append, AV.bd]; done))) (by (rw [hm]; exact Nat.le_of_ble_eq_true rfl))⟩ (Nat.zero_le _) ?_
    rintro r hr
    by_cases hrl : r < f.rules.length
    rotate_left
    · (repeat' (first | apply jA | apply jH | apply jJ | apply jK | apply jL | apply jP | apply jS | (refine wp_cond rfl (fun hc => ?_) (fun hc => ?_) <;> (try simp only [sB, ne_eq, reduceCtorEq] at hc) <;> (try (exfalso; omega))) | (refine WP.regionC (id := 12) ?_; (refine smove rfl ?_); (refine sfieldp rfl rfl rfl ?_); (refine sloadp rfl rfl rfl rfl ?_); (refine slenm rfl rfl ?_); (refine slss rfl rfl ?_); apply jW) | (refine WP.regionC (id := 22) ?_; (refine sc_p rfl rfl (by first | ((repeat' (exact SubL.nil)); done) | fail) (by first | (simp [bdL, bdL_append, AV.bd]; done) | fail) (awake19_fn) ?_); (refine sassign rfl ?_); apply jW) | exact ret_eq rfl rfl rfl))
    have hT1 := hd1.r r (by omega)
    have hU1 := hm1.r r (by omega)
    (repeat' (first | apply jA | apply jF | apply jH | apply jI | (refine wp_cond rfl (fun hc => ?_) (fun hc => ?_) <;> (try simp only [sB, ne_eq, reduceCtorEq] at hc) <;> (try (exfalso; omega))) | (refine WP.regionC (id := 12) ?_; (refine smove rfl ?_); (refine sfieldp rfl rfl rfl ?_); (refine sloadp rfl rfl rfl rfl ?_); (refine slenm rfl rfl ?_); (refine slss rfl rfl ?_); apply jW) | (refine WP.regionC (id := 14) ?_; (refine sassign rfl ?_); apply jW)))
    refine wp_loop (fun (i : Nat) => i ≤ L.length + 1) (fun i => L.length + 1 - i)
      (fun i => (S 101 [(2, .ptr 0 3 0 0), (9, intsA L), (10, tabLA T), (11, tabLA U), (12, intA (r : Nat)), (13, intA (i : Nat))] 1 [(0, some (.arr 3 [fileA f]))])) 0 ⟨[0], ToR.S rfl (by repeat' (first | exact rt_nil | refine rt_t rfl rfl ?_ | refine rt_e rfl rfl ?_ | refine rt_p rfl rfl (by first | (simp [AV.bd, bdL, bdL_append]; done) | fail) ?_)) (by repeat' (first | exact ro_nil | refine ro_p rfl (by first | exact rfl | fail) (by first | (simp [bdL, bdL_append, AV.bd]; done) | fail) ?_)) rfl (by (rw [hm]; exact rfl)) rfl (by (simp [bdT, AV.bd, bdL, bdL_append]; done)) (by repeat' (first | exact True.intro | refine And.intro ?_ ?_ | (simp [bdOq, bdL, bdL_append, AV.bd]; done))) (by (rw [hm]; exact Nat.le_of_ble_eq_true rfl))⟩ (Nat.zero_le _) ?_
    rintro i hi
    by_cases hil : i < L.length + 1
    rotate_left
    · (repeat' (first | apply jA | apply jH | apply jJ | apply jL | apply jN | apply jP | (refine wp_cond rfl (fun hc => ?_) (fun hc => ?_) <;> (try simp only [sB, ne_eq, reduceCtorEq] at hc) <;> (try (exfalso; omega))) | (refine WP.regionC (id := 15) ?_; (refine smove rfl ?_); (refine smove rfl ?_); (refine slenm rfl rfl ?_); (refine su (aleq rfl rfl) ?_); apply jW) | (refine WP.regionC (id := 13) ?_; (refine smove rfl ?_); (refine sadd rfl rfl (by exact inr_i64_of (by omega)) ?_); (refine sassign rfl ?_); apply jW)))
      exact ⟨r + 1, ⟨by omega, by omega⟩, ⟨[0], ToR.S rfl (by repeat' (first | exact rt_nil | refine rt_t rfl rfl ?_ | refine rt_e rfl rfl ?_ | refine rt_p rfl rfl (by first | (simp [AV.bd, bdL, bdL_append]; done) | fail) ?_)) (by repeat' (first | exact ro_nil | refine ro_p rfl (by first | exact rfl | fail) (by first | (simp [bdL, bdL_append, AV.bd]; done) | fail) ?_)) rfl (by (rw [hm]; exact rfl)) rfl (by (simp [bdT, AV.bd, bdL, bdL_append]; done)) (by repeat' (first | exact True.intro | refine And.intro ?_ ?_ | (simp [bdOq, bdL, bdL_append, AV.bd]; done))) (by (rw [hm]; exact Nat.le_of_ble_eq_true rfl))⟩⟩
    have hT2 := hd1.c r i (by omega) (by omega)
    have hU2 := hm1.c r i (by omega) (by omega)
    (repeat' (first | apply jA | apply jF | apply jH | apply jI | (refine wp_cond rfl (fun hc => ?_) (fun hc => ?_) <;> (try simp only [sB, ne_eq, reduceCtorEq] at hc) <;> (try (exfalso; omega))) | (refine WP.regionC (id := 15) ?_; (refine smove rfl ?_); (refine smove rfl ?_); (refine slenm rfl rfl ?_); (refine su (aleq rfl rfl) ?_); apply jW) | (refine WP.regionC (id := 17) ?_; (refine smove rfl ?_); (refine sassign rfl ?_); apply jW)))
    refine wp_loop (fun (k : Nat) => i ≤ k ∧ k ≤ L.length + 1) (fun k => L.length + 1 - k)
      (fun k => (S 101 [(2, .ptr 0 3 0 0), (9, intsA L), (10, tabLA T), (11, tabLA U), (12, intA (r : Nat)), (13, intA (i : Nat)), (14, intA (k : Nat))] 1 [(0, some (.arr 3 [fileA f]))])) i ⟨[0], ToR.S rfl (by repeat' (first | exact rt_nil | refine rt_t rfl rfl ?_ | refine rt_e rfl rfl ?_ | refine rt_p rfl rfl (by first | (simp [AV.bd, bdL, bdL_append]; done) | fail) ?_)) (by repeat' (first | exact ro_nil | refine ro_p rfl (by first | exact rfl | fail) (by first | (simp [bdL, bdL_append, AV.bd]; done) | fail) ?_)) rfl (by (rw [hm]; exact rfl)) rfl (by (simp [bdT, AV.bd, bdL, bdL_append]; done)) (by repeat' (first | exact True.intro | refine And.intro ?_ ?_ | (simp [bdOq, bdL, bdL_append, AV.bd]; done))) (by (rw [hm]; exact Nat.le_of_ble_eq_true rfl))⟩ ⟨Nat.le_refl _, by omega⟩ ?_
    rintro k ⟨hik, hk⟩
    by_cases hkl : k < L.length + 1
    rotate_left
    · (repeat' (first | apply jA | apply jH | apply jJ | apply jL | apply jN | apply jP | (refine wp_cond rfl (fun hc => ?_) (fun hc => ?_) <;> (try simp only [sB, ne_eq, reduceCtorEq] at hc) <;> (try (exfalso; omega))) | (refine WP.regionC (id := 18) ?_; (refine smove rfl ?_); (refine smove rfl ?_); (refine slenm rfl rfl ?_); (refine su (aleq rfl rfl) ?_); apply jW) | (refine WP.regionC (id := 16) ?_; (refine smove rfl ?_); (refine sadd rfl rfl (by exact inr_i64_of (by omega)) ?_); (refine sassign rfl ?_); apply jW)))
      exact ⟨i + 1, ⟨by omega, by omega⟩, ⟨[0], ToR.S rfl (by repeat' (first | exact rt_nil | refine rt_t rfl rfl ?_ | refine rt_e rfl rfl ?_ | refine rt_p rfl rfl (by first | (simp [AV.bd, bdL, bdL_append]; done) | fail) ?_)) (by repeat' (first | exact ro_nil | refine ro_p rfl (by first | exact rfl | fail) (by first | (simp [bdL, bdL_append, AV.bd]; done) | fail) ?_)) rfl (by (rw [hm]; exact rfl)) rfl (by (simp [bdT, AV.bd, bdL, bdL_append]; done)) (by repeat' (first | exact True.intro | refine And.intro ?_ ?_ | (simp [bdOq, bdL, bdL_append, AV.bd]; done))) (by (rw [hm]; exact Nat.le_of_ble_eq_true rfl))⟩⟩
    have heq : nth (nth (nth T r) i) k = nth (nth (nth U r) i) k := by
      rw [Bool.eq_iff_iff, hd2 r i k (by omega) hil hkl, hm2 r i k hrl hil hkl]
      exact hder r i k hrl
    (repeat' (first | apply jA | apply jF | apply jH | apply jI | apply jK | apply jM | apply jN | apply jO | apply jS | (refine wp_cond rfl (fun hc => ?_) (fun hc => ?_) <;> (try simp only [sB, ne_eq, reduceCtorEq] at hc) <;> (try (exfalso; omega))) | (refine WP.regionC (id := 18) ?_; (refine smove rfl ?_); (refine smove rfl ?_); (refine slenm rfl rfl ?_); (refine su (aleq rfl rfl) ?_); apply jW) | (refine wp_draw (id := 20) 21 mixed (by kernel_rfl) (by kernel_rfl) rfl ?_ <;> (refine rmove rfl ?_) <;> (refine rmove rfl ?_) <;> (refine rd_u rfl rfl (aidxn rfl rfl (by omega)) ?_) <;> (refine rd_u rfl rfl (aloadw rfl rfl) ?_) <;> (refine rmove rfl ?_) <;> (refine rd_u rfl rfl (aidxn rfl rfl (by omega)) ?_) <;> (refine rd_u rfl rfl (aloadw rfl rfl) ?_) <;> (refine rmove rfl ?_) <;> (refine rd_u rfl rfl (aidxn rfl rfl (by omega)) ?_) <;> (refine rd_u rfl rfl (aloadw rfl rfl) ?_) <;> (refine rmove rfl ?_) <;> (refine rmove rfl ?_) <;> (refine rd_u rfl rfl (aidxn rfl rfl (by omega)) ?_) <;> (refine rd_u rfl rfl (aloadw rfl rfl) ?_) <;> (refine rmove rfl ?_) <;> (refine rd_u rfl rfl (aidxn rfl rfl (by omega)) ?_) <;> (refine rd_u rfl rfl (aloadw rfl rfl) ?_) <;> (refine rmove rfl ?_) <;> (refine rd_u rfl rfl (aidxn rfl rfl (by omega)) ?_) <;> (refine rd_u rfl rfl (aloadw rfl rfl) ?_) <;> (refine rd_u rfl rfl (aneb (by kernel_rfl) rfl rfl) ?_) <;> (refine rd_end (by kernel_rfl) ?_)) | (refine WP.regionC (id := 21) ?_; (refine sassign rfl ?_); apply jW) | (refine WP.regionC (id := 19) ?_; (refine smove rfl ?_); (refine sadd rfl rfl (by exact inr_i64_of (by omega)) ?_); (refine sassign rfl ?_); apply jW) | refine ret_b rfl ?_))
    · exact absurd heq hc
    · exact ⟨k + 1, ⟨by omega, by omega, by omega⟩, ⟨[0], ToR.S rfl (by repeat' (first | exact rt_nil | refine rt_t rfl rfl ?_ | refine rt_e rfl rfl ?_ | refine rt_p rfl rfl (by first | (simp [AV.bd, bdL, bdL_append]; done) | fail) ?_)) (by repeat' (first | exact ro_nil | refine ro_p rfl (by first | exact rfl | fail) (by first | (simp [bdL, bdL_append, AV.bd]; done) | fail) ?_)) rfl (by (rw [hm]; exact rfl)) rfl (by (simp [bdT, AV.bd, bdL, bdL_append]; done)) (by repeat' (first | exact True.intro | refine And.intro ?_ ?_ | (simp [bdOq, bdL, bdL_append, AV.bd]; done))) (by (rw [hm]; exact Nat.le_of_ble_eq_true rfl))⟩⟩
  · refine Fn.intro rfl (by kernel_rfl) Tryd.func4 rfl rfl Tryd.ntmps4 (by exact Nat.le_of_ble_eq_true rfl) ?_; intro Γ hm
    (repeat' (first | apply jA | apply jH | apply jK | apply jM | apply jS | (refine wp_cond rfl (fun hc => ?_) (fun hc => ?_) <;> (try simp only [sB, ne_eq, reduceCtorEq] at hc) <;> (try (exfalso; omega))) | (refine WP.regionC (id := 0) ?_; (refine se_box rfl (by exact ⟨rfl, rfl⟩) ?_); (refine sassign rfl ?_); apply jW) | (refine wpl_region (id := 1) ?_; (refine wpl_step rfl ?_); (refine se_lit (OpP.cons rfl (OpP.cons rfl (OpP.cons rfl (OpP.cons rfl (OpP.nil))))) rfl rfl rfl rfl rfl rfl ?_); (apply jW); (refine wpl_frz 15 hm rfl rfl (by first | exact rfl | fail) (by first | exact rfl | fail) rfl ?_); (refine wpl_step rfl ?_); (refine sassign rfl ?_); (apply jW); (apply jX)) | (refine WP.regionC (id := 2) ?_; (refine sloadpw rfl rfl rfl rfl ?_); (refine sc_p rfl rfl (by first | ((repeat' first | exact SubL.nil | refine SubL.cons ?_ ?_ | exact Sub.refl); done) | fail) (by first | (simp [bdL, bdL_append, AV.bd]; done) | fail) (hs) ?_); (refine su (agtr rfl rfl) ?_); apply jW) | (refine WP.regionC (id := 3) ?_; (refine sc_p rfl rfl (by first | ((repeat' (exact SubL.nil)); done) | fail) (by first | (simp [bdL, bdL_append, AV.bd]; done) | fail) (awake19_fn) ?_); (refine sassign rfl ?_); apply jW) | exact ret_eq rfl rfl rfl))
end Go.Lg
