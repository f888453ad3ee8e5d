/-
  Part 14 of the proof of ReduceLanguage: the logic over the model, the functions' contracts and the plain laws.
-/
import Derived.Test.YtjenalojiheapaaRl13

set_option linter.unusedSimpArgs false
set_option linter.unusedVariables false
set_option linter.unusedSectionVars false
set_option linter.defProp false

namespace Go.Lg
open Go.Proofs
set_option linter.unusedSimpArgs false
set_option linter.unusedVariables false
attribute [local irreducible] Ap Rq asemC WP RunD Ret Gq thenA inBlockA bodyQ noGotoA RqL RqP OpP
set_option maxHeartbeats 4000000
theorem contains_fn (s sub : ByteArray) (hs : s.size < 4294967281) : Fn Try.prog 43 [.val (.string s), .val (.string sub)] (.val (.bool (Lib.contains s.data.toList sub.data.toList))) := by
  refine Fn.of_same (vs := [.string s, .string sub]) (by kernel_rfl) rfl fun w hw => ?_
  obtain ⟨m, hm⟩ := hw.1 (gints.getD 0 (0, .i64)) (by simp [gints])
  exact Try.strings_Contains s sub m w hs hm
def encOk (n : Nat) : Bool := Lib.contains [95, 46, 64] (Utf8.encode (n : Int)).data.toList == (decide ((n : Int) = 95) || decide ((n : Int) = 46) || decide ((n : Int) = 64))
theorem encOk_all : (List.range 256).all encOk = true := by kernel_rfl
theorem enc_byte (c : UInt8) : Lib.contains [95, 46, 64] (Utf8.encode c.toNat).data.toList = (decide ((c.toNat : Int) = 95) || decide ((c.toNat : Int) = 46) || decide ((c.toNat : Int) = 64)) := by
  have h := List.all_eq_true.1 encOk_all c.toNat (List.mem_range.2 c.toNat_lt)
  simpa [encOk] using h
def nameB (c : Int) : Bool := letB c || digB c || decide (c = 95) || decide (c = 46) || decide (c = 64)
theorem nth_bAt (s : ByteArray) (i : Nat) : ((nth s.data.toList i).toNat : Int) = bAt s i := rfl
theorem nameOk_of {s : ByteArray} (h0 : 0 < s.size) (h1 : s.size ≤ 48) (h2 : letB (bAt s 0) = true) (h : ∀ i, i < s.size → nameB (bAt s i) = true) : nameOk s = true := by
  simp only [nameOk, Bool.and_eq_true, decide_eq_true_eq, List.all_eq_true, List.mem_range]
  refine ⟨⟨h0, h1⟩, fun i hi => ?_⟩
  simp only [nameCh]
  by_cases e : i = 0
  · subst e; simp [h2]
  · have := h i hi
    simp only [nameB, Bool.or_assoc] at this
    simpa [e, Bool.or_assoc] using this
theorem nameOk_no {s : ByteArray} {i : Nat} (hi : i < s.size) (h : nameB (bAt s i) = false) : nameOk s = false := by
  have : nameCh s i = false := by
    simp only [nameB, Bool.or_eq_false_iff] at h
    simp only [nameCh, h.1.1.1.1, h.1.1.1.2, h.1.1.2, h.1.2, h.2, Bool.or_false, Bool.and_false, Bool.false_or]
  simp only [nameOk, range_all_no hi this, Bool.and_false]
theorem gname_fn (s : ByteArray) : Fn Try.prog 40 [strA s] (boolA (nameOk s)) := by
  refine Fn.intro rfl (by kernel_rfl) Try.func40 rfl rfl Try.ntmps40 (by exact Nat.le_of_ble_eq_true rfl) ?_; intro Γ hm
  by_cases hs : s.size = 0
  · have : s = ⟨#[]⟩ := by
      obtain ⟨⟨l⟩⟩ := s
      have : l = [] := List.eq_nil_of_length_eq_zero (by simpa [ByteArray.size] using hs)
      subst this; rfl
    subst this
    (repeat' (first | apply jA | apply jF | apply jH | apply jI | apply jK | apply jM | apply jS | (refine wp_cond rfl (fun hc => ?_) (fun hc => ?_) <;> (try simp only [sB, ne_eq, reduceCtorEq] at hc) <;> (try (exfalso; omega))) | (refine WP.regionC ?_; (refine sassign rfl ?_); apply jW) | (refine WP.regionC (id := 1) ?_; (refine smove rfl ?_); (refine seqs rfl rfl ?_); (refine smove rfl ?_); (refine sg (gq_vf rfl rfl) (fun he => ap_move (rq_p rfl rfl)) ?_); (refine sg (gq_vf rfl rfl) (fun he => ap_len_str rfl (rq_c rfl rfl)) ?_); (refine sg (gq_vf rfl rfl) (fun he => ap_gtr (rq_c rfl rfl) (rq_p rfl rfl)) ?_); (refine su (ap_or (rq_p rfl rfl) (rq_c rfl rfl)) ?_); (refine smove rfl ?_); (refine sg (gq_vf rfl rfl) (fun he => ap_move (rq_p rfl rfl)) ?_); (refine sg (gq_vf rfl rfl) (fun he => ap_sidx_n (rq_c rfl rfl) (rq_p rfl rfl) rfl (by (try simp only [sH, id, sB, ne_eq, reduceCtorEq] at he); (exfalso; simp at he; done))) ?_); (refine sg_p (gq_vf rfl rfl) (fun he => ⟨(rq_p rfl rfl), (RqL.cons (rq_c rfl rfl) (RqL.nil)), (by first | ((repeat' first | exact SubL.nil | refine SubL.cons ?_ ?_ | exact Sub.refl); done) | fail), (by first | (simp [bdL, bdL_append, AV.bd]; done) | fail), letter18_fn _⟩) ?_); (refine sg (gq_vf rfl rfl) (fun he => ap_not (rq_c rfl rfl)) ?_); (refine su (ap_or (rq_p rfl rfl) (rq_c rfl rfl)) ?_); apply jW) | (refine WP.regionC (id := 3) ?_; (refine smove rfl ?_); (refine se_s2b (by kernel_rfl) rfl (by omega) ?_); (refine slenm rfl rfl ?_); (refine smove rfl ?_); apply jW) | exact ret_eq rfl rfl rfl))
    simp at hc
  have hb0 := bAt_bd s 0
  have hne : ¬ s = ⟨#[]⟩ := by rintro rfl; exact hs rfl
  have hlen : s.data.toList.length = s.size := by simp
  (repeat' (first | apply jA | apply jF | apply jH | apply jI | apply jK | apply jM | apply jS | (refine wp_cond rfl (fun hc => ?_) (fun hc => ?_) <;> (try simp only [sB, ne_eq, reduceCtorEq] at hc) <;> (try (exfalso; omega))) | (refine WP.regionC ?_; (refine sassign rfl ?_); apply jW) | (refine WP.regionC (id := 1) ?_; (refine smove rfl ?_); (refine seqs rfl rfl ?_); (refine smove rfl ?_); (refine sg (gq_vf rfl rfl) (fun he => ap_move (rq_p rfl rfl)) ?_); (refine sg (gq_vf rfl rfl) (fun he => ap_len_str rfl (rq_c rfl rfl)) ?_); (refine sg (gq_vf rfl rfl) (fun he => ap_gtr (rq_c rfl rfl) (rq_p rfl rfl)) ?_); (refine su (ap_or (rq_p rfl rfl) (rq_c rfl rfl)) ?_); (refine smove rfl ?_); (refine sg (gq_vf rfl rfl) (fun he => ap_move (rq_p rfl rfl)) ?_); (refine sg (gq_vf rfl rfl) (fun he => ap_sidx_n (rq_c rfl rfl) (rq_p rfl rfl) rfl (by (try simp only [sH, id, sB, ne_eq, reduceCtorEq] at he); (simp only [sL] <;> omega))) ?_); (refine sg_p (gq_vf rfl rfl) (fun he => ⟨(rq_p rfl rfl), (RqL.cons (rq_c rfl rfl) (RqL.nil)), (by first | ((repeat' first | exact SubL.nil | refine SubL.cons ?_ ?_ | exact Sub.refl); done) | fail), (by first | (simp [bdL, bdL_append, AV.bd]; done) | fail), letter18_fn _⟩) ?_); (refine sg (gq_vf rfl rfl) (fun he => ap_not (rq_c rfl rfl)) ?_); (refine su (ap_or (rq_p rfl rfl) (rq_c rfl rfl)) ?_); apply jW) | (refine WP.regionC (id := 3) ?_; (refine smove rfl ?_); (refine se_s2b (by kernel_rfl) rfl (by omega) ?_); (refine slenm rfl rfl ?_); (refine smove rfl ?_); apply jW) | refine ret_b rfl ?_))
  · rcases hc with (hc | hc) | hc
    · exact absurd hc hne
    · simp [nameOk]; omega
    · have : nameCh s 0 = false := by simp [nameCh, hc]
      simp only [nameOk, range_all_no (k := 0) (n := s.size) (by omega) this, Bool.and_false]
  obtain ⟨⟨_, h48⟩, hl0⟩ := hc
  refine wp_loop (fun (k : Nat) => k ≤ s.size ∧ ∀ i, i < k → nameB (bAt s i) = true) (fun k => s.size - k)
    (fun k => (S 43 [(19, .sl 1 (s.data.toList.map byteA)), (20, intA (s.data.toList.length : Nat)), (21, intA (k : Nat))] 0 [])) 0 ⟨[], ToR.S rfl (by repeat' (first | exact rt_nil | refine rt_e rfl rfl ?_ | refine rt_p rfl rfl (by first | (simp [AV.bd, bdL, bdL_append]; done) | fail) ?_)) (by repeat' (exact ro_nil)) rfl (by (rw [hm]; exact rfl)) rfl (by (simp [bdT, AV.bd, bdL, bdL_append]; done)) (by repeat' (exact True.intro)) (by (rw [hm]; exact Nat.le_of_ble_eq_true rfl))⟩ ⟨Nat.zero_le _, by simp⟩ ?_
  rintro k ⟨hk, hall⟩
  by_cases hlt : k < s.size
  · have hbk := bAt_bd s k
    have hlt' : k < s.data.toList.length := by omega
    have hnb := nth_bAt s k
    (repeat' (first | apply jA | apply jF | apply jH | apply jI | apply jK | apply jM | apply jN | apply jO | apply jS | (refine wp_cond rfl (fun hc => ?_) (fun hc => ?_) <;> (try simp only [sB, ne_eq, reduceCtorEq] at hc) <;> (try (exfalso; omega))) | (refine WP.regionC (id := 4) ?_; (refine slss rfl rfl ?_); apply jW) | (refine WP.regionC (id := 5) ?_; (refine sidxn rfl rfl (by omega) ?_); (refine sloadw rfl rfl ?_); (refine sassign rfl ?_); apply jW) | (refine WP.regionC (id := 6) ?_; (refine smove rfl ?_); (refine sc_p rfl rfl (by first | ((repeat' first | exact SubL.nil | refine SubL.cons ?_ ?_ | exact Sub.refl); done) | fail) (by first | (simp [bdL, bdL_append, AV.bd]; done) | fail) (letter18_fn _) ?_); (refine su (anot rfl) ?_); (refine smove rfl ?_); (refine sg (gq_vt rfl rfl) (fun he => ap_move (rq_p rfl rfl)) ?_); (refine sg (gq_vt rfl rfl) (fun he => ap_lss (rq_c rfl rfl) (rq_p rfl rfl)) ?_); (refine sg (gq_vt rfl rfl) (fun he => ap_move (rq_c rfl rfl)) ?_); (refine sg (gq_cf rfl rfl) (fun he => ap_move (rq_p rfl rfl)) ?_); (refine sg (gq_cf rfl rfl) (fun he => ap_gtr (rq_c rfl rfl) (rq_p rfl rfl)) ?_); (refine sg (gq_vt rfl rfl) (fun he => ap_or (rq_c rfl rfl) (rq_c rfl rfl)) ?_); (refine su (ap_and (rq_p rfl rfl) (rq_c rfl rfl)) ?_); (refine smove rfl ?_); (refine sg (gq_vt rfl rfl) (fun he => ap_move (rq_p rfl rfl)) ?_); (refine sg (gq_vt rfl rfl) (fun he => ap_conv_is (rq_c rfl rfl) rfl rfl (by kernel_rfl)) ?_); (refine sg_p (gq_vt rfl rfl) (fun he => ⟨(rq_p rfl rfl), (RqL.cons (rq_p rfl rfl) (RqL.cons (rq_c rfl rfl) (RqL.nil))), (by first | ((repeat' first | exact SubL.nil | refine SubL.cons ?_ ?_ | exact Sub.refl); done) | fail), (by first | (simp [bdL, bdL_append, AV.bd]; done) | fail), contains_fn _ _ (by decide)⟩) ?_); (refine sg (gq_vt rfl rfl) (fun he => ap_not (rq_c rfl rfl)) ?_); (refine su (ap_and (rq_p rfl rfl) (rq_c rfl rfl)) ?_); apply jW) | (refine WP.regionC (id := 7) ?_; (refine sassign rfl ?_); apply jW) | (refine WP.regionC (id := 8) ?_; (refine sadd rfl rfl (by exact inr_i64_of (by omega)) ?_); (refine smove rfl ?_); apply jW) | refine ret_b rfl ?_))
    · obtain ⟨⟨h1, h2⟩, h3⟩ := hc
      rw [enc_byte, hnb] at h3
      rw [hnb] at h1 h2
      simp only [Bool.or_eq_false_iff] at h3
      rw [nameOk_no hlt]
      simp only [nameB, h1, h3.1.1, h3.1.2, h3.2, Bool.or_false, Bool.false_or, digB]
      simp; omega
    · refine ⟨k + 1, ⟨by omega, by omega, fun i hi => ?_⟩, ⟨[], ToR.S rfl (by repeat' (first | exact rt_nil | refine rt_e rfl rfl ?_ | refine rt_p rfl rfl (by first | (simp [AV.bd, bdL, bdL_append]; done) | fail) ?_)) (by repeat' (exact ro_nil)) rfl (by (rw [hm]; exact rfl)) rfl (by (simp [bdT, AV.bd, bdL, bdL_append]; done)) (by repeat' (exact True.intro)) (by (rw [hm]; exact Nat.le_of_ble_eq_true rfl))⟩⟩
      by_cases e : i = k
      · subst e
        rw [enc_byte, hnb] at hc
        simp only [nameB, digB]
        simp only [Bool.or_eq_true, Bool.and_eq_true, decide_eq_true_eq] at hc ⊢
        rcases hc with (hc | hc) | (hc | hc) | hc
        · simp [hc]
        · simp [hc]
        · simp [hc]
        · simp [hc]
        · simp [hc]
      · exact hall i (by omega)
  · (repeat' (first | apply jA | apply jH | apply jJ | apply jK | apply jL | apply jP | apply jS | (refine wp_cond rfl (fun hc => ?_) (fun hc => ?_) <;> (try simp only [sB, ne_eq, reduceCtorEq] at hc) <;> (try (exfalso; omega))) | (refine WP.regionC (id := 4) ?_; (refine slss rfl rfl ?_); apply jW) | (refine WP.regionC (id := 9) ?_; (refine sassign rfl ?_); apply jW) | refine ret_b rfl ?_))
    rw [nameOk_of (by omega) (by omega) hl0 fun i hi => hall i (by omega)]
end Go.Lg

namespace Go.Lg
open Go.Proofs
set_option linter.unusedSimpArgs false
set_option linter.unusedVariables false
attribute [local irreducible] Ap Rq asemC WP RunD Ret Gq thenA inBlockA bodyQ noGotoA RqL RqP OpP
set_option maxHeartbeats 4000000
structure Seen (m : List (ByteArray × Unit)) (l : List ByteArray) : Prop where
  ok : ∀ x, x ∈ l → nameOk x = true
  nd : l.Nodup
  mem : ∀ x, (aget m x).isSome = true ↔ x ∈ l
theorem Seen.nil : Seen [] [] := ⟨by simp, by simp, by simp [aget, afind]⟩
theorem Seen.add {m : List (ByteArray × Unit)} {l : List ByteArray} {x : ByteArray} (h : Seen m l) (h1 : (aget m x).isSome = false) (h2 : nameOk x = true) : Seen (aset m x ()) (l ++ [x]) := by
  have hx : x ∉ l := fun e => by have := (h.mem x).2 e; rw [h1] at this; cases this
  refine ⟨fun y hy => ?_, ?_, fun y => ?_⟩
  · rcases List.mem_append.1 hy with hy | hy
    · exact h.ok y hy
    · rw [List.mem_singleton.1 hy]; exact h2
  · rw [List.nodup_append]; exact ⟨h.nd, by simp, fun a ha b hb => by rw [List.mem_singleton.1 hb]; rintro rfl; exact hx ha⟩
  · rw [aget_aset]
    by_cases e : y = x
    · subst e; simp
    · rw [if_neg e, h.mem y]; simp [e]
theorem Seen.all {m : List (ByteArray × Unit)} {l : List ByteArray} (h : Seen m l) : namesOk l = true := by
  simp only [namesOk, Bool.and_eq_true, decide_eq_true_eq, List.all_eq_true]; exact ⟨h.ok, h.nd⟩
theorem Seen.no {m : List (ByteArray × Unit)} {l r : List ByteArray} {x : ByteArray} (h : Seen m l) (h1 : (aget m x).isSome = true ∨ nameOk x = false) : namesOk (l ++ x :: r) = false := by
  cases hq : namesOk (l ++ x :: r) with
  | false => rfl
  | true =>
    simp only [namesOk, Bool.and_eq_true, decide_eq_true_eq, List.all_eq_true] at hq
    rcases h1 with h1 | h1
    · have := (h.mem x).1 h1
      exact absurd rfl ((List.nodup_append.1 hq.2).2.2 x this x (by simp))
    · have := hq.1 x (by simp); rw [h1] at this; cases this
theorem take_flatten {α : Type} [Inhabited α] {L : List (List α)} {j : Nat} (h : j < L.length) : (L.take (j + 1)).flatten = (L.take j).flatten ++ nth L j := by
  rw [take_succ_nth h, List.flatten_append]; simp
theorem split_at {α : Type} [Inhabited α] {L : List (List α)} {j k : Nat} (h : j < L.length) (hk : k < (nth L j).length) : ∃ r, L.flatten = ((L.take j).flatten ++ (nth L j).take k) ++ nth (nth L j) k :: r := by
  refine ⟨(nth L j).drop (k + 1) ++ (L.drop (j + 1)).flatten, ?_⟩
  conv => lhs; rw [← List.take_append_drop (j + 1) L, List.flatten_append, take_flatten h]
  conv => lhs; rw [← List.take_append_drop k (nth L j)]
  rw [List.drop_eq_getElem_cons hk, ← nth_eq hk]
  simp
theorem named_fn (g : Gram) (h1 : g.terms.length ≤ 120) (h2 : g.nonterms.length ≤ 120) : Fn Try.prog 32 [gramA g] (boolA (namesOk (g.terms ++ g.nonterms))) := by
  refine Fn.intro rfl (by kernel_rfl) Try.func32 rfl rfl Try.ntmps32 (by exact Nat.le_of_ble_eq_true rfl) ?_; intro Γ hm
  have hfl : [g.terms, g.nonterms].flatten = g.terms ++ g.nonterms := by simp
  have hln : ∀ j, j < 2 → (nth [g.terms, g.nonterms] j).length ≤ 120 := by
    intro j hj
    match j, hj with
    | 0, _ => exact h1
    | 1, _ => exact h2
  have hll : [g.terms, g.nonterms].length = 2 := rfl
  rw [← hfl]
  (repeat' (first | apply jA | apply jF | apply jH | (refine WP.regionC (id := 0) ?_; (refine se_box rfl (by exact ⟨rfl, rfl⟩) ?_); (refine sassign rfl ?_); apply jW) | (refine WP.regionC (id := 1) ?_; (refine se_mkmap ?_); (refine sassign rfl ?_); apply jW) | (refine WP.regionC (id := 2) ?_; (refine sfieldp rfl rfl rfl ?_); (refine sloadp rfl rfl rfl rfl ?_); (refine sfieldp rfl rfl rfl ?_); (refine sloadp rfl rfl rfl rfl ?_); (refine se_lit (OpP.cons rfl (OpP.cons rfl (OpP.nil))) rfl rfl rfl rfl rfl rfl ?_); (refine su (alenr rfl rfl) ?_); (refine smove rfl ?_); apply jW)))
  refine wp_loop (fun (x : Nat × List (ByteArray × Unit)) => x.1 ≤ 2 ∧ Seen x.2 ([g.terms, g.nonterms].take x.1).flatten) (fun x => 2 - x.1)
    (fun x => (S 44 [(3, .map 0), (15, .ref 1 1 0 2), (16, intA (2 : Nat)), (17, intA (x.1 : Nat))] 2 [(0, some (.map (mapA strK unitA x.2))), (1, some (.arr 1 ([g.terms, g.nonterms].map strsA)))])) (0, []) ⟨[1, 2], ToR.S rfl (by repeat' (first | exact rt_nil | refine rt_r rfl rfl ?_ | refine rt_m rfl rfl ?_ | refine rt_e rfl rfl ?_)) (by repeat' (first | exact ro_nil | refine ro_p rfl (by first | exact rfl | fail) (by first | exact bdL_map (fun _ => by simp [AV.bd, bdL, bdL_append]) _ | fail) ?_ | refine ro_m rfl rfl (mapA_bd (fun _ => by exact rfl) _) ?_)) rfl (by (rw [hm]; exact rfl)) rfl (by (simp [bdT, AV.bd, bdL, bdL_append]; done)) (by repeat' (first | exact True.intro | exact rfl | refine And.intro ?_ ?_ | exact bdL_map (fun _ => by simp [AV.bd, bdL, bdL_append]) _)) (by (rw [hm]; exact Nat.le_of_ble_eq_true rfl))⟩ ⟨by decide, Seen.nil⟩ ?_
  rintro ⟨j, m⟩ ⟨hj, hs⟩
  dsimp only at *
  by_cases hlt : j < 2
  · have hjl := hln j hlt
    (repeat' (first | apply jA | apply jF | apply jH | apply jI | (refine wp_cond rfl (fun hc => ?_) (fun hc => ?_) <;> (try simp only [sB, ne_eq, reduceCtorEq] at hc) <;> (try (exfalso; omega))) | (refine WP.regionC (id := 3) ?_; (refine slss rfl rfl ?_); apply jW) | (refine WP.regionC (id := 4) ?_; (refine su (aidxrn rfl rfl (by omega)) ?_); (refine su (aloadpt rfl rfl (by omega) rfl) ?_); (refine sassign rfl ?_); apply jW) | (refine WP.regionC (id := 5) ?_; (refine smove rfl ?_); (refine slenm rfl rfl ?_); (refine smove rfl ?_); apply jW)))
    refine wp_loop (fun (x : Nat × List (ByteArray × Unit)) => x.1 ≤ (nth [g.terms, g.nonterms] j).length ∧ Seen x.2 (([g.terms, g.nonterms].take j).flatten ++ (nth [g.terms, g.nonterms] j).take x.1)) (fun x => (nth [g.terms, g.nonterms] j).length - x.1)
      (fun x => (S 44 [(3, .map 0), (15, .ref 1 1 0 2), (16, intA (2 : Nat)), (17, intA (j : Nat)), (21, strsA (nth [g.terms, g.nonterms] j)), (22, intA ((nth [g.terms, g.nonterms] j).length : Nat)), (23, intA (x.1 : Nat))] 2 [(0, some (.map (mapA strK unitA x.2))), (1, some (.arr 1 ([g.terms, g.nonterms].map strsA)))])) (0, m) ⟨[0, 1], ToR.S rfl (by repeat' (first | exact rt_nil | refine rt_r rfl rfl ?_ | refine rt_m rfl rfl ?_ | refine rt_e rfl rfl ?_ | refine rt_p rfl rfl (by first | (simp [AV.bd, bdL, bdL_append]; done) | fail) ?_)) (by repeat' (first | exact ro_nil | refine ro_p rfl (by first | exact rfl | fail) (by first | exact bdL_map (fun _ => by simp [AV.bd, bdL, bdL_append]) _ | fail) ?_ | refine ro_m rfl rfl (mapA_bd (fun _ => by exact rfl) _) ?_)) rfl (by (rw [hm]; exact rfl)) rfl (by (simp [bdT, AV.bd, bdL, bdL_append]; done)) (by repeat' (first | exact True.intro | exact mapA_all (fun _ => by exact rfl) _ | refine And.intro ?_ ?_ | exact bdL_map (fun _ => by simp [AV.bd, bdL, bdL_append]) _)) (by (rw [hm]; exact Nat.le_of_ble_eq_true rfl))⟩ ⟨Nat.zero_le _, by simpa using hs⟩ ?_
    rintro ⟨k, m2⟩ ⟨hk, hs2⟩
    dsimp only at *
    by_cases hkl : k < (nth [g.terms, g.nonterms] j).length
    · (repeat' (first | apply jA | apply jF | apply jH | apply jI | apply jK | apply jM | apply jN | apply jO | apply jS | (refine wp_cond rfl (fun hc => ?_) (fun hc => ?_) <;> (try simp only [sB, ne_eq, reduceCtorEq] at hc) <;> (try (exfalso; omega))) | (refine WP.regionC (id := 6) ?_; (refine slss rfl rfl ?_); apply jW) | (refine WP.regionC (id := 7) ?_; (refine sidxn rfl rfl (by omega) ?_); (refine sloadw rfl rfl ?_); (refine sassign rfl ?_); apply jW) | (refine WP.regionC (id := 8) ?_; (refine smove rfl ?_); (refine smove rfl ?_); (refine su (ap_look2 (kf := strK) (f := unitA) (z0 := ()) (rq_p rfl rfl) rfl (rq_p rfl rfl) rfl) ?_); (refine smove rfl ?_); (refine su (aextract rfl rfl) ?_); (refine su (aextract rfl rfl) ?_); (refine se_unit_alloc (by kernel_rfl) ?_); (refine se_store_b rfl rfl rfl rfl ?_); (refine sassign rfl ?_); apply jW) | (refine WP.regionC (id := 9) ?_; (refine smove rfl ?_); (refine smove rfl ?_); (refine sg (gq_vf rfl rfl) (fun he => ap_move (rq_p rfl rfl)) ?_); (refine sg_p (gq_vf rfl rfl) (fun he => ⟨(rq_p rfl rfl), (RqL.cons (rq_c rfl rfl) (RqL.nil)), (by first | ((repeat' first | exact SubL.nil | refine SubL.cons ?_ ?_ | exact Sub.refl); done) | fail), (by first | (simp [bdL, bdL_append, AV.bd]; done) | fail), gname_fn _⟩) ?_); (refine sg (gq_vf rfl rfl) (fun he => ap_not (rq_c rfl rfl)) ?_); (refine su (ap_or (rq_p rfl rfl) (rq_c rfl rfl)) ?_); apply jW) | (refine WP.regionC (id := 10) ?_; (refine sassign rfl ?_); apply jW) | (refine WP.regionC (id := 11) ?_; (refine smove rfl ?_); (refine smove rfl ?_); (refine se_unit_build (by kernel_rfl) ?_); (refine se_mapset (kf := strK) (f := unitA) (v := ()) rfl rfl rfl rfl ?_); apply jW) | (refine WP.regionC (id := 12) ?_; (refine sadd rfl rfl (by exact inr_i64_of (by omega)) ?_); (refine smove rfl ?_); apply jW) | refine ret_b rfl ?_))
      · obtain ⟨r, hr⟩ := split_at (L := [g.terms, g.nonterms]) (by omega) hkl
        rw [hr, hs2.no hc]
      · refine ⟨(k + 1, aset m2 (nth (nth [g.terms, g.nonterms] j) k) ()), ⟨by dsimp only; omega, by dsimp only; omega, ?_⟩, ⟨[0, 1], ToR.S rfl (by repeat' (first | exact rt_nil | refine rt_r rfl rfl ?_ | refine rt_m rfl rfl ?_ | refine rt_e rfl rfl ?_ | refine rt_p rfl rfl (by first | (simp [AV.bd, bdL, bdL_append]; done) | fail) ?_)) (by repeat' (first | exact ro_nil | refine ro_p rfl (by first | exact rfl | fail) (by first | exact bdL_map (fun _ => by simp [AV.bd, bdL, bdL_append]) _ | fail) ?_ | refine ro_m rfl rfl (mapA_bd (fun _ => by exact rfl) _) ?_)) rfl (by (rw [hm]; exact rfl)) rfl (by (simp [bdT, AV.bd, bdL, bdL_append]; done)) (by repeat' (first | exact True.intro | exact mapA_all (fun _ => by exact rfl) _ | refine And.intro ?_ ?_ | exact bdL_map (fun _ => by simp [AV.bd, bdL, bdL_append]) _)) (by (rw [hm]; exact Nat.le_of_ble_eq_true rfl))⟩⟩
        have := hs2.add hc.1 hc.2
        rw [List.append_assoc, ← take_succ_nth hkl] at this
        exact this
    · (repeat' (first | apply jA | apply jH | apply jJ | apply jL | apply jN | apply jP | (refine wp_cond rfl (fun hc => ?_) (fun hc => ?_) <;> (try simp only [sB, ne_eq, reduceCtorEq] at hc) <;> (try (exfalso; omega))) | (refine WP.regionC (id := 6) ?_; (refine slss rfl rfl ?_); apply jW) | (refine WP.regionC (id := 13) ?_; (refine sadd rfl rfl (by exact inr_i64_of (by omega)) ?_); (refine smove rfl ?_); apply jW)))
      refine ⟨(j + 1, m2), ⟨by dsimp only; omega, by dsimp only; omega, ?_⟩, ⟨[0, 1], ToR.S rfl (by repeat' (first | exact rt_nil | refine rt_r rfl rfl ?_ | refine rt_m rfl rfl ?_ | refine rt_e rfl rfl ?_)) (by repeat' (first | exact ro_nil | refine ro_p rfl (by first | exact rfl | fail) (by first | exact bdL_map (fun _ => by simp [AV.bd, bdL, bdL_append]) _ | fail) ?_ | refine ro_m rfl rfl (mapA_bd (fun _ => by exact rfl) _) ?_)) rfl (by (rw [hm]; exact rfl)) rfl (by (simp [bdT, AV.bd, bdL, bdL_append]; done)) (by repeat' (first | exact True.intro | exact mapA_all (fun _ => by exact rfl) _ | refine And.intro ?_ ?_ | exact bdL_map (fun _ => by simp [AV.bd, bdL, bdL_append]) _)) (by (rw [hm]; exact Nat.le_of_ble_eq_true rfl))⟩⟩
      dsimp only
      rw [take_flatten (by omega)]
      rw [List.take_of_length_le (l := nth [g.terms, g.nonterms] j) (by omega)] at hs2
      exact hs2
  · (repeat' (first | apply jA | apply jH | apply jJ | apply jK | apply jL | apply jP | apply jS | (refine wp_cond rfl (fun hc => ?_) (fun hc => ?_) <;> (try simp only [sB, ne_eq, reduceCtorEq] at hc) <;> (try (exfalso; omega))) | (refine WP.regionC (id := 3) ?_; (refine slss rfl rfl ?_); apply jW) | (refine WP.regionC (id := 14) ?_; (refine sassign rfl ?_); apply jW) | refine ret_b rfl ?_))
    rw [List.take_of_length_le (by omega)] at hs
    exact hs.all.symm
theorem gvalid1_fn (g : Gram) (x : Int) (hn : g.nonterms.length ≤ 120) : Fn Try.prog 34 [intA x, .iptr (gramA g).cells 0] (boolA (!symOk g x)) := by
  refine Fn.intro rfl (by kernel_rfl) Try.func34 rfl rfl Try.ntmps34 (by exact Nat.le_of_ble_eq_true rfl) ?_; intro Γ hm
  (repeat' (first | apply jA | apply jH | apply jK | apply jS | (refine WP.regionC (id := 0) ?_; (refine sassign rfl ?_); apply jW) | (refine WP.regionC (id := 1) ?_; (refine smove rfl ?_); (refine su (afieldi rfl rfl rfl) ?_); (refine su (aloadi rfl rfl) ?_); (refine slenm rfl rfl ?_); (refine su (ageq rfl rfl) ?_); (refine smove rfl ?_); (refine sg (gq_vf rfl rfl) (fun he => ap_move (rq_p rfl rfl)) ?_); (refine sg (gq_vf rfl rfl) (fun he => ap_field_i (rq_p rfl rfl) rfl rfl) ?_); (refine sg (gq_vf rfl rfl) (fun he => ap_load_i (rq_c rfl rfl) rfl) ?_); (refine sg (gq_vf rfl rfl) (fun he => ap_len_m rfl (rq_c rfl rfl)) ?_); (refine sg (gq_vf rfl rfl) (fun he => ap_neg (rq_c rfl rfl) (by (try simp only [sH, id, sB, ne_eq, reduceCtorEq] at he); exact inr_i64_of (by omega))) ?_); (refine sg (gq_vf rfl rfl) (fun he => ap_lss (rq_c rfl rfl) (rq_c rfl rfl)) ?_); (refine su (ap_or (rq_p rfl rfl) (rq_c rfl rfl)) ?_); (refine sassign rfl ?_); apply jW) | refine ret_b rfl ?_))
  simp only [symOk]
  rw [Bool.eq_iff_iff]
  simp
  try omega
theorem any_not_sym {g : Gram} {l : List Int} : l.any (fun x => !symOk g x) = !l.all (symOk g) := by
  induction l with
  | nil => rfl
  | cons x l ih => simp only [List.any_cons, List.all_cons, ih, Bool.not_and]
theorem gvalid18_fn (g : Gram) : Fn Try.prog 18 [gramA g] (boolA (validG g)) := by
  refine Fn.intro rfl (by kernel_rfl) Try.func18 rfl rfl Try.ntmps18 (by exact Nat.le_of_ble_eq_true rfl) ?_; intro Γ hm
  refine wp_lens 0 rfl fun hl => ?_
  obtain ⟨hl1, hl2, hl3, hl4⟩ := (lens_gramA g).1 hl
  (repeat' (first | apply jA | apply jF | apply jH | apply jI | apply jK | apply jM | apply jS | (refine wp_cond rfl (fun hc => ?_) (fun hc => ?_) <;> (try simp only [sB, ne_eq, reduceCtorEq] at hc) <;> (try (exfalso; omega))) | (refine WP.regionC (id := 0) ?_; (refine se_box rfl (by exact ⟨rfl, rfl⟩) ?_); (refine sassign rfl ?_); apply jW) | (refine WP.regionC (id := 1) ?_; (refine sfieldp rfl rfl rfl ?_); (refine sloadp rfl rfl rfl rfl ?_); (refine slenm rfl rfl ?_); (refine su (agtr rfl rfl) ?_); (refine smove rfl ?_); (refine sg (gq_vf rfl rfl) (fun he => ap_field_p (rq_p rfl rfl) rfl rfl) ?_); (refine sg (gq_vf rfl rfl) (fun he => ap_load_p (rq_c rfl rfl) rfl rfl rfl) ?_); (refine sg (gq_vf rfl rfl) (fun he => ap_len_m rfl (rq_c rfl rfl)) ?_); (refine sg (gq_vf rfl rfl) (fun he => ap_lss (rq_c rfl rfl) (rq_p rfl rfl)) ?_); (refine su (ap_or (rq_p rfl rfl) (rq_c rfl rfl)) ?_); (refine smove rfl ?_); (refine sg (gq_vf rfl rfl) (fun he => ap_field_p (rq_p rfl rfl) rfl rfl) ?_); (refine sg (gq_vf rfl rfl) (fun he => ap_load_p (rq_c rfl rfl) rfl rfl rfl) ?_); (refine sg (gq_vf rfl rfl) (fun he => ap_len_m rfl (rq_c rfl rfl)) ?_); (refine sg (gq_vf rfl rfl) (fun he => ap_gtr (rq_c rfl rfl) (rq_p rfl rfl)) ?_); (refine su (ap_or (rq_p rfl rfl) (rq_c rfl rfl)) ?_); (refine smove rfl ?_); (refine sg (gq_vf rfl rfl) (fun he => ap_load_pw (rq_p rfl rfl) rfl rfl rfl) ?_); (refine sg_p (gq_vf rfl rfl) (fun he => ⟨(rq_p rfl rfl), (RqL.cons (rq_c rfl rfl) (RqL.nil)), (by first | ((repeat' first | exact SubL.nil | refine SubL.cons ?_ ?_ | exact Sub.refl); done) | fail), (by first | (simp [bdL, bdL_append, AV.bd]; done) | fail), named_fn _ (by (try simp only [sH, id, sB, ne_eq, reduceCtorEq] at he); omega) (by (try simp only [sH, id, sB, ne_eq, reduceCtorEq] at he); omega)⟩) ?_); (refine sg (gq_vf rfl rfl) (fun he => ap_not (rq_c rfl rfl)) ?_); (refine su (ap_or (rq_p rfl rfl) (rq_c rfl rfl)) ?_); (refine smove rfl ?_); (refine sg (gq_vf rfl rfl) (fun he => ap_field_p (rq_p rfl rfl) rfl rfl) ?_); (refine sg (gq_vf rfl rfl) (fun he => ap_load_p (rq_c rfl rfl) rfl rfl rfl) ?_); (refine sg (gq_vf rfl rfl) (fun he => ap_lss (rq_c rfl rfl) (rq_p rfl rfl)) ?_); (refine su (ap_or (rq_p rfl rfl) (rq_c rfl rfl)) ?_); (refine smove rfl ?_); (refine sg (gq_vf rfl rfl) (fun he => ap_field_p (rq_p rfl rfl) rfl rfl) ?_); (refine sg (gq_vf rfl rfl) (fun he => ap_load_p (rq_c rfl rfl) rfl rfl rfl) ?_); (refine sg (gq_vf rfl rfl) (fun he => ap_field_p (rq_p rfl rfl) rfl rfl) ?_); (refine sg (gq_vf rfl rfl) (fun he => ap_load_p (rq_c rfl rfl) rfl rfl rfl) ?_); (refine sg (gq_vf rfl rfl) (fun he => ap_len_m rfl (rq_c rfl rfl)) ?_); (refine sg (gq_vf rfl rfl) (fun he => ap_geq (rq_c rfl rfl) (rq_c rfl rfl)) ?_); (refine su (ap_or (rq_p rfl rfl) (rq_c rfl rfl)) ?_); (refine smove rfl ?_); (refine sg (gq_vf rfl rfl) (fun he => ap_field_p (rq_p rfl rfl) rfl rfl) ?_); (refine sg (gq_vf rfl rfl) (fun he => ap_load_p (rq_c rfl rfl) rfl rfl rfl) ?_); (refine sg (gq_vf rfl rfl) (fun he => ap_len_m rfl (rq_c rfl rfl)) ?_); (refine sg (gq_vf rfl rfl) (fun he => ap_lss (rq_c rfl rfl) (rq_p rfl rfl)) ?_); (refine su (ap_or (rq_p rfl rfl) (rq_c rfl rfl)) ?_); (refine smove rfl ?_); (refine sg (gq_vf rfl rfl) (fun he => ap_field_p (rq_p rfl rfl) rfl rfl) ?_); (refine sg (gq_vf rfl rfl) (fun he => ap_load_p (rq_c rfl rfl) rfl rfl rfl) ?_); (refine sg (gq_vf rfl rfl) (fun he => ap_len_m rfl (rq_c rfl rfl)) ?_); (refine sg (gq_vf rfl rfl) (fun he => ap_gtr (rq_c rfl rfl) (rq_p rfl rfl)) ?_); (refine su (ap_or (rq_p rfl rfl) (rq_c rfl rfl)) ?_); apply jW) | (refine WP.regionC (id := 2) ?_; (refine sassign rfl ?_); apply jW) | (refine WP.regionC (id := 3) ?_; (refine sfieldp rfl rfl rfl ?_); (refine sloadp rfl rfl rfl rfl ?_); (refine slenm rfl rfl ?_); (refine smove rfl ?_); apply jW) | refine ret_b rfl ?_))
  · by_cases hns : namesOk (g.terms ++ g.nonterms) = true
    · simp only [hns, Bool.true_eq_false, or_false] at hc
      simp [validG]; omega
    · simp [validG, hns]
  have hns : namesOk (g.terms ++ g.nonterms) = true := hc.1.1.1.1.2
  have hn2 : g.nonterms.length ≤ 120 := by omega
  refine wp_loop (fun (i : Nat) => i ≤ g.rules.length ∧ (g.rules.take i).all (ruleOk g) = true) (fun i => g.rules.length - i)
    (fun i => (S 90 [(1, .ptr 0 4 0 0), (52, rulesA g.rules), (53, intA (g.rules.length : Nat)), (54, intA (i : Nat))] 1 [(0, some (.arr 4 [gramA g]))])) 0 ⟨[0], ToR.S rfl (by repeat' (first | exact rt_nil | refine rt_t rfl rfl ?_ | refine rt_e rfl rfl ?_ | refine rt_p rfl rfl (by first | (simp [AV.bd, bdL, bdL_append]; done) | fail) ?_)) (by repeat' (first | exact ro_nil | refine ro_p rfl (by first | exact rfl | fail) (by first | (simp [bdL, bdL_append, AV.bd]; done) | fail) ?_)) rfl (by (rw [hm]; exact rfl)) rfl (by (simp [bdT, AV.bd, bdL, bdL_append]; done)) (by repeat' (first | exact True.intro | refine And.intro ?_ ?_ | (simp [bdOq, bdL, bdL_append, AV.bd]; done))) (by (rw [hm]; exact Nat.le_of_ble_eq_true rfl))⟩ ⟨Nat.zero_le _, rfl⟩ ?_
  rintro i ⟨hi, hall⟩
  (repeat' (first | apply jA | apply jF | apply jH | apply jI | apply jJ | apply jK | apply jL | apply jM | apply jN | apply jO | apply jP | apply jS | (refine wp_cond rfl (fun hc => ?_) (fun hc => ?_) <;> (try simp only [sB, ne_eq, reduceCtorEq] at hc) <;> (try (exfalso; omega))) | (refine WP.regionC (id := 4) ?_; (refine slss rfl rfl ?_); apply jW) | (refine WP.regionC (id := 5) ?_; (refine sidxn rfl rfl (by omega) ?_); (refine sloadw rfl rfl ?_); (refine se_alloc rfl ?_); (refine se_store_b rfl rfl rfl rfl ?_); apply jW) | (refine WP.regionC (id := 6) ?_; (refine sfieldp rfl rfl rfl ?_); (refine sloadp rfl rfl rfl rfl ?_); (refine slss rfl rfl ?_); (refine smove rfl ?_); (refine sg (gq_vf rfl rfl) (fun he => ap_field_p (rq_p rfl rfl) rfl rfl) ?_); (refine sg (gq_vf rfl rfl) (fun he => ap_load_p (rq_c rfl rfl) rfl rfl rfl) ?_); (refine sg (gq_vf rfl rfl) (fun he => ap_field_p (rq_p rfl rfl) rfl rfl) ?_); (refine sg (gq_vf rfl rfl) (fun he => ap_load_p (rq_c rfl rfl) rfl rfl rfl) ?_); (refine sg (gq_vf rfl rfl) (fun he => ap_len_m rfl (rq_c rfl rfl)) ?_); (refine sg (gq_vf rfl rfl) (fun he => ap_geq (rq_c rfl rfl) (rq_c rfl rfl)) ?_); (refine su (ap_or (rq_p rfl rfl) (rq_c rfl rfl)) ?_); (refine smove rfl ?_); (refine sg (gq_vf rfl rfl) (fun he => ap_field_p (rq_p rfl rfl) rfl rfl) ?_); (refine sg (gq_vf rfl rfl) (fun he => ap_load_p (rq_c rfl rfl) rfl rfl rfl) ?_); (refine sg (gq_vf rfl rfl) (fun he => ap_len_m rfl (rq_c rfl rfl)) ?_); (refine sg (gq_vf rfl rfl) (fun he => ap_gtr (rq_c rfl rfl) (rq_p rfl rfl)) ?_); (refine su (ap_or (rq_p rfl rfl) (rq_c rfl rfl)) ?_); (refine smove rfl ?_); (refine sg (gq_vf rfl rfl) (fun he => ap_field_p (rq_p rfl rfl) rfl rfl) ?_); (refine sg (gq_vf rfl rfl) (fun he => ap_load_p (rq_c rfl rfl) rfl rfl rfl) ?_); (refine sg (gq_vf rfl rfl) (fun he => ap_lss (rq_c rfl rfl) (rq_p rfl rfl)) ?_); (refine su (ap_or (rq_p rfl rfl) (rq_c rfl rfl)) ?_); (refine smove rfl ?_); (refine sg (gq_vf rfl rfl) (fun he => ap_field_p (rq_p rfl rfl) rfl rfl) ?_); (refine sg (gq_vf rfl rfl) (fun he => ap_load_p (rq_c rfl rfl) rfl rfl rfl) ?_); (refine sg (gq_vf rfl rfl) (fun he => ap_gtr (rq_c rfl rfl) (rq_p rfl rfl)) ?_); (refine su (ap_or (rq_p rfl rfl) (rq_c rfl rfl)) ?_); apply jW) | (refine WP.regionC ?_; (refine sassign rfl ?_); apply jW) | (refine WP.regionC (id := 8) ?_; (refine sfieldp rfl rfl rfl ?_); (refine sloadp rfl rfl rfl rfl ?_); (refine su (ap_clo (RqL.nil) (RqL.cons (rq_p rfl rfl) (RqL.nil))) ?_); (refine sc_b rfl rfl (by first | ((repeat' first | exact FzL.nil | refine FzL.cons ?_ ?_ | (exact Fz.reflp (by simp [AV.bd, bdL, bdL_append])) | refine Fz.ptrL rfl rfl ?_ | refine Fz.cloL ?_ ?_); done) | fail) (containsFunc_fn _ _ _ (fun x => !symOk g x) (fun n => by simp [bdL, AV.bd, AV.cells, gramA]) (fun x hx => gvalid1_fn g x hn2)) rfl ?_); apply jW) | (refine WP.regionC (id := 10) ?_; (refine sadd rfl rfl (by exact inr_i64_of (by omega)) ?_); (refine smove rfl ?_); apply jW) | refine ret_b rfl ?_))
  · rw [validG_no (i := i) (by omega) (by simp [ruleOk]; omega)]
  · rw [any_not_sym, Bool.not_eq_true'] at hc
    rw [validG_no (i := i) (by omega) (by simp only [ruleOk, hc, Bool.and_false])]
  · rw [any_not_sym, Bool.not_eq_false'] at hc
    exact ⟨i + 1, ⟨by omega, by omega, take_all_succ (by omega) hall (by simp only [ruleOk, hc, Bool.and_true]; simp; omega)⟩, ⟨[0], ToR.S rfl (by repeat' (first | exact rt_nil | refine rt_t rfl rfl ?_ | refine rt_e rfl rfl ?_ | refine rt_p rfl rfl (by first | (simp [AV.bd, bdL, bdL_append]; done) | fail) ?_)) (by repeat' (first | exact ro_nil | refine ro_p rfl (by first | exact rfl | fail) (by first | (simp [bdL, bdL_append, AV.bd]; done) | fail) ?_)) rfl (by (rw [hm]; exact rfl)) rfl (by (simp [bdT, AV.bd, bdL, bdL_append]; done)) (by repeat' (first | exact True.intro | refine And.intro ?_ ?_ | (simp [bdOq, bdL, bdL_append, AV.bd]; done))) (by (rw [hm]; exact Nat.le_of_ble_eq_true rfl))⟩⟩
  simp [validG, hns, all_of_take' (by omega) hall]; omega
end Go.Lg

namespace Go.Lg
def jB := @WP.label
end Go.Lg

namespace Go.Lg
def jD := @ng_r
end Go.Lg

namespace Go.Lg
def jG := @WP.scope
end Go.Lg

namespace Go.Lg
open Go.Proofs
set_option linter.unusedSimpArgs false
set_option linter.unusedVariables false
attribute [local irreducible] Ap Rq asemC WP RunD Ret Gq thenA inBlockA bodyQ noGotoA RqL RqP OpP
set_option maxHeartbeats 4000000
theorem firesP_no {g : Gram} {out : List Bool} (h : ∀ j, j < g.rules.length → firesP out (nth g.rules j) = false) : ∀ r, r ∈ g.rules → r.body.all (okSym out) = true → nth out r.head.toNat = true := by
  intro r hr hb
  obtain ⟨j, hj, rfl⟩ := List.getElem_of_mem hr
  have := h j hj
  rw [nth_eq hj] at this
  unfold firesP at this
  rw [hb] at this
  simpa using this
theorem fixH_fn (g : Gram) (hv : GVal g) :
    FnM Try.prog 30 [gramA g, .clo (.func 37) [] [.ptr 0 1 0 0, .ptr 2 1 0 0]] (objH g.nonterms.length (nob g.nonterms.length)) fun _ os' => os' = objH g.nonterms.length (prodG g) := by
  refine FnM.intro (by kernel_rfl) Try.func30 rfl rfl Try.ntmps30 (by exact Nat.le_of_ble_eq_true rfl) ?_; intro Γ hm
  have hr2 := hv.r2
  have hn2 := hv.n2
  (repeat' (first | apply jA | apply jB | apply jF | apply jG | apply jH | (refine WP.regionC (id := 0) ?_; (refine se_box rfl (by exact ⟨rfl, rfl⟩) ?_); apply jW)))
  refine wp_loop (fun (out : List Bool) => UnderP g out) (fun out => falses out)
    (fun out => (S 17 [(1, .clo (.func 37) [] [.ptr 0 1 0 0, .ptr 2 1 0 0]), (2, .ptr 3 4 0 0)] 4 [(0, some (.arr 1 [.ref 1 1 0 g.nonterms.length])), (1, some (.arr 1 (out.map boolA))), (2, some (.arr 1 [boolA true])), (3, some (.arr 4 [gramA g]))])) (nob g.nonterms.length) ⟨[0, 1, 2, 3], ToR.S rfl (by repeat' (first | exact rt_nil | refine rt_t rfl rfl ?_ | refine rt_e rfl rfl ?_)) (by repeat' (first | exact ro_nil | refine ro_e rfl rfl ?_ | refine ro_p rfl (by first | exact rfl | fail) (by first | exact bdL_map (fun _ => by exact rfl) _ | (simp [bdL, bdL_append, AV.bd]; done) | fail) ?_)) rfl (by (rw [hm]; exact rfl)) rfl (by (simp [bdT, AV.bd, bdL, bdL_append]; done)) (by repeat' (first | exact True.intro | exact rfl | refine And.intro ?_ ?_ | exact bdL_map (fun _ => by exact rfl) _ | (simp [bdOq, bdL, bdL_append, AV.bd]; done))) (by (rw [hm]; exact Nat.le_of_ble_eq_true rfl))⟩ (UnderP.nob g) ?_
  rintro out hu
  have hol := hu.1
  (repeat' (first | apply jA | apply jF | apply jH | (refine WP.regionC (id := 1) ?_; (refine sfieldp rfl rfl rfl ?_); (refine sloadp rfl rfl rfl rfl ?_); (refine slenm rfl rfl ?_); (refine smove rfl ?_); apply jW)))
  refine wp_loop (fun (i : Nat) => i ≤ g.rules.length ∧ ∀ j, j < i → firesP out (nth g.rules j) = false) (fun i => g.rules.length - i)
    (fun i => (S 17 [(1, .clo (.func 37) [] [.ptr 0 1 0 0, .ptr 2 1 0 0]), (2, .ptr 3 4 0 0), (7, rulesA g.rules), (8, intA (g.rules.length : Nat)), (9, intA (i : Nat))] 4 [(0, some (.arr 1 [.ref 1 1 0 g.nonterms.length])), (1, some (.arr 1 (out.map boolA))), (2, some (.arr 1 [boolA true])), (3, some (.arr 4 [gramA g]))])) 0 ⟨[0, 1, 2, 3], ToR.S rfl (by repeat' (first | exact rt_nil | refine rt_t rfl rfl ?_ | refine rt_e rfl rfl ?_ | refine rt_p rfl rfl (by first | (simp [AV.bd, bdL, bdL_append]; done) | fail) ?_)) (by repeat' (first | exact ro_nil | refine ro_e rfl rfl ?_ | refine ro_p rfl (by first | exact rfl | fail) (by first | exact bdL_map (fun _ => by exact rfl) _ | (simp [bdL, bdL_append, AV.bd]; done) | fail) ?_)) rfl (by (rw [hm]; exact rfl)) rfl (by (simp [bdT, AV.bd, bdL, bdL_append]; done)) (by repeat' (first | exact True.intro | exact rfl | refine And.intro ?_ ?_ | exact bdL_map (fun _ => by exact rfl) _ | (simp [bdOq, bdL, bdL_append, AV.bd]; done))) (by (rw [hm]; exact Nat.le_of_ble_eq_true rfl))⟩ ⟨Nat.zero_le _, by simp⟩ ?_
  rintro i ⟨hi, hall⟩
  by_cases hlt : i < g.rules.length
  · have hr := hv.rule _ (nth_mem hlt)
    have h0 := hr.h0
    have h1 := hr.hn
    have hlo : ∀ x, x ∈ (nth g.rules i).body → -(out.length : Int) ≤ x := fun x hx => by have := hr.lo x hx; omega
    (repeat' (first | apply jA | apply jF | apply jH | apply jI | apply jJ | apply jL | apply jN | apply jP | refine bl_y rfl ?_ | (refine wp_cond rfl (fun hc => ?_) (fun hc => ?_) <;> (try simp only [sB, ne_eq, reduceCtorEq] at hc) <;> (try (exfalso; omega))) | (refine WP.regionC (id := 2) ?_; (refine slss rfl rfl ?_); apply jW) | (refine WP.regionC (id := 3) ?_; (refine sidxn rfl rfl (by omega) ?_); (refine sloadw rfl rfl ?_); (refine se_alloc rfl ?_); (refine se_store_b rfl rfl rfl rfl ?_); apply jW) | (refine WP.regionC (id := 4) ?_; (refine smove rfl ?_); (refine sloadpw rfl rfl rfl rfl ?_); (refine sc_v [0, 1, 2] rfl rfl (heads1_fn g.nonterms.length out (nth g.rules i) hol hn2 h0 (by omega) hlo) (Lend.S (by first | ((repeat' first | exact RenL.nil | refine RenL.cons (by first | exact rfl | exact ren_p (by simp [AV.bd, bdL, bdL_append])) ?_); done) | fail) (by first | ((repeat' first | exact LendO.nil | refine LendO.arr rfl (by first | exact rfl | (refine (renL_pure ?_).symm; exact bdL_map (fun _ => by exact rfl) _)) ?_); done) | fail) (by decide) rfl (by simp [AV.bd, bdL, bdL_append]) (by repeat' (first | exact True.intro | refine And.intro ?_ ?_ | exact bdL_map (fun _ => by exact rfl) _ | simp [AV.bd, bdL, bdL_append]))) ?_; rintro r os' hlen ⟨rfl, rfl⟩; simp only [objH, upd, AObj.ren, renL, AV.ren, renL_pure, bdL_boolA, bdL_intA, bdL_strA, bd_boolA, bd_intA, bd_strA, apx, ap, List.length_cons, List.length_nil, List.getD_cons_zero, List.getD_cons_succ, Nat.lt_irrefl, if_true, if_false, Nat.zero_lt_succ, Nat.reduceLT, Nat.reduceAdd, intA, boolA, strA]); apply jW) | (refine WP.regionC (id := 5) ?_; (refine sadd rfl rfl (by exact inr_i64_of (by omega)) ?_); (refine smove rfl ?_); apply jW)))
    · have hf := hc
      simp only [firesP, Bool.and_eq_true, Bool.not_eq_true'] at hf
      have e : afterP out (nth g.rules i) = out.set (nth g.rules i).head.toNat true := by rw [afterP, if_pos hc]
      have hl : (afterP out (nth g.rules i)).length = out.length := by rw [e]; simp
      refine ⟨afterP out (nth g.rules i), ⟨?_, ?_⟩, ⟨[0, 1, 2, 3], ToR.S rfl (by repeat' (first | exact rt_nil | refine rt_t rfl rfl ?_ | refine rt_e rfl rfl ?_)) (by repeat' (first | exact ro_nil | refine ro_e rfl rfl ?_ | refine ro_p rfl (by first | exact rfl | fail) (by first | exact bdL_map (fun _ => by exact rfl) _ | (simp [bdL, bdL_append, AV.bd]; done) | fail) ?_)) rfl (by (rw [hm]; exact rfl)) rfl (by (simp [bdT, AV.bd, bdL, bdL_append]; done)) (by repeat' (first | exact True.intro | exact rfl | refine And.intro ?_ ?_ | exact bdL_map (fun _ => by exact rfl) _ | (simp [bdOq, bdL, bdL_append, AV.bd]; done))) (by (rw [hm]; exact Nat.le_of_ble_eq_true rfl))⟩⟩
      · have := falses_set (l := out) (i := (nth g.rules i).head.toNat) (by omega) hf.1
        rw [e]; omega
      · rw [e]; exact hu.set hv (nth_mem hlt) hf.2
    · have e : afterP out (nth g.rules i) = out := by rw [afterP, if_neg (by simp [hc])]
      refine ⟨i + 1, ⟨by omega, by omega, fun j hj => ?_⟩, by rw [e]; exact ⟨[0, 1, 2, 3], ToR.S rfl (by repeat' (first | exact rt_nil | refine rt_t rfl rfl ?_ | refine rt_e rfl rfl ?_ | refine rt_p rfl rfl (by first | (simp [AV.bd, bdL, bdL_append]; done) | fail) ?_)) (by repeat' (first | exact ro_nil | refine ro_e rfl rfl ?_ | refine ro_p rfl (by first | exact rfl | fail) (by first | exact bdL_map (fun _ => by exact rfl) _ | (simp [bdL, bdL_append, AV.bd]; done) | fail) ?_)) rfl (by (rw [hm]; exact rfl)) rfl (by (simp [bdT, AV.bd, bdL, bdL_append]; done)) (by repeat' (first | exact True.intro | exact rfl | refine And.intro ?_ ?_ | exact bdL_map (fun _ => by exact rfl) _ | (simp [bdOq, bdL, bdL_append, AV.bd]; done))) (by (rw [hm]; exact Nat.le_of_ble_eq_true rfl))⟩⟩
      by_cases q : j = i
      · subst q; exact hc
      · exact hall j (by omega)
  · (repeat' (first | apply jA | apply jD | apply jH | apply jJ | apply jK | apply jL | apply jM | apply jO | apply jP | apply jS | (refine wp_cond rfl (fun hc => ?_) (fun hc => ?_) <;> (try simp only [sB, ne_eq, reduceCtorEq] at hc) <;> (try (exfalso; omega))) | (refine WP.regionC (id := 2) ?_; (refine slss rfl rfl ?_); apply jW)))
    have e : out = prodG g := hu.eq (firesP_no fun j hj => hall j (by omega))
    exact retM_0 (os1 := [(0, some (.arr 1 [.ref 1 1 0 g.nonterms.length])), (1, some (.arr 1 (out.map boolA))), (2, some (.arr 1 [boolA true]))]) (objH g.nonterms.length out) ⟨[0, 1, 2], ToR.S rfl (by repeat' (exact rt_nil)) (by repeat' (first | exact ro_nil | refine ro_e rfl rfl ?_ | refine ro_p rfl (by first | exact rfl | fail) (by first | exact bdL_map (fun _ => by exact rfl) _ | fail) ?_)) rfl rfl rfl (by (simp [bdT, AV.bd, bdL, bdL_append]; done)) (by repeat' (first | exact True.intro | exact rfl | refine And.intro ?_ ?_ | exact bdL_map (fun _ => by exact rfl) _)) (by exact Nat.le_of_ble_eq_true rfl)⟩ rfl (by rw [e])
theorem heads_fn (g : Gram) (hv : GVal g) : Fn Try.prog 29 [gramA g, boolA true] (boolsA (prodG g)) := by
  refine Fn.intro (by simp [AV.bd, bdL, bdL_append]) (by kernel_rfl) Try.func29 rfl rfl Try.ntmps29 (by exact Nat.le_of_ble_eq_true rfl) ?_; intro Γ hm
  have hpl := prodG_len g
  have hn2 := hv.n2
  (repeat' (first | apply jA | apply jH | apply jK | apply jS | (refine WP.regionC (id := 0) ?_; (refine se_box rfl (by exact ⟨rfl, rfl⟩) ?_); (refine se_box rfl (by exact ⟨rfl, rfl⟩) ?_); (refine sassign rfl ?_); apply jW) | (refine WP.regionC (id := 1) ?_; (refine sfieldp rfl rfl rfl ?_); (refine sloadp rfl rfl rfl rfl ?_); (refine slenm rfl rfl ?_); (refine se_makeT boolA false rfl rfl rfl rfl rfl (by omega) ?_); (refine se_alloc rfl ?_); (refine se_store_b rfl rfl rfl rfl ?_); apply jW) | (refine WP.regionC (id := 2) ?_; (refine sloadpw rfl rfl rfl rfl ?_); (refine su (ap_clo (RqL.nil) (RqL.cons (rq_p rfl rfl) (RqL.cons (rq_p rfl rfl) (RqL.nil)))) ?_); (refine sc_v [3, 2, 1] rfl rfl (fixH_fn g hv) (Lend.S (by first | ((repeat' first | exact RenL.nil | refine RenL.cons (by first | exact rfl | exact ren_p (by simp [AV.bd, bdL, bdL_append])) ?_); done) | fail) (by first | ((repeat' first | exact LendO.nil | refine LendO.arr rfl (by first | exact rfl | (refine (renL_pure ?_).symm; exact bdL_map (fun _ => by exact rfl) _)) ?_); done) | fail) (by decide) rfl (by simp [AV.bd, bdL, bdL_append]) (by repeat' (first | exact True.intro | refine And.intro ?_ ?_ | exact bdL_map (fun _ => by exact rfl) _ | simp [AV.bd, bdL, bdL_append]))) ?_; rintro r os' hlen rfl; simp only [objH, upd, AObj.ren, renL, AV.ren, renL_pure, bdL_boolA, bdL_intA, bdL_strA, bd_boolA, bd_intA, bd_strA, apx, ap, List.length_cons, List.length_nil, List.getD_cons_zero, List.getD_cons_succ, Nat.lt_irrefl, if_true, if_false, Nat.zero_lt_succ, Nat.reduceLT, Nat.reduceAdd, intA, boolA, strA]); apply jW) | (refine WP.regionC (id := 3) ?_; (refine sloadpw rfl rfl rfl rfl ?_); (refine sassign rfl ?_); apply jW) | refine ret_sl rfl rfl (by first | exact rfl | assumption) (fun _ => by exact rfl) (fun _ => rfl) ?_))
  rfl
theorem productive_an (g : Gram) (hv : GVal g) : Fn Try.prog 16 [gramA g] (boolsA (prodG g)) := by
  refine Fn.intro (by simp [AV.bd, bdL, bdL_append]) (by kernel_rfl) Try.func16 rfl rfl Try.ntmps16 (by exact Nat.le_of_ble_eq_true rfl) ?_; intro Γ hm
  (repeat' (first | apply jA | apply jH | apply jK | apply jS | (refine WP.regionC (id := 0) ?_; (refine se_box rfl (by exact ⟨rfl, rfl⟩) ?_); (refine sassign rfl ?_); apply jW) | (refine WP.regionC (id := 1) ?_; (refine sloadpw rfl rfl rfl rfl ?_); (refine sc_p rfl rfl (by first | ((repeat' first | exact SubL.nil | refine SubL.cons ?_ ?_ | exact Sub.refl); done) | fail) (by first | (simp [bdL, bdL_append, AV.bd]; done) | fail) (heads_fn g hv) ?_); (refine sassign rfl ?_); apply jW) | exact ret_eq rfl (by (simp [AV.bd, bdL, bdL_append]; done)) rfl))
end Go.Lg

namespace Go.Lg
open Go.Proofs
set_option linter.unusedSimpArgs false
set_option linter.unusedVariables false
attribute [local irreducible] Ap Rq asemC WP RunD Ret Gq thenA inBlockA bodyQ noGotoA RqL RqP OpP
set_option maxHeartbeats 1000000
theorem cloneStrs_fn (l : List ByteArray) (hl : l.length ≤ 1048576) : Fn Try.prog 20 [strsA l] (strsA l) := by
  have hin := @ti9
  refine Fn.clone (vf := Value.string) (e := 9) (bytes := 16) (by kernel_rfl) (fun _ => rfl) (fun c w => Try.slices_Clone_string_nil 0 c w) (fun a c w => (Try.slices_Clone_string_zero a c w).mono fun e w' ⟨v', h1, h2, _, h3⟩ => ⟨v', h1, h2, h3⟩) ?_ l (by omega)
  intro b off n c news w hn hm hbig hc hat
  obtain ⟨d, i0, hd, hi, hti⟩ := tinfo_of hin
  have h1 : i0.size = 1 := by have := congrArg TI.size hti; exact this.symm
  have h2 : i0.bytes = 16 := by have := congrArg TI.bytes hti; exact this.symm
  obtain ⟨z, hz, hzc⟩ : ∃ z, i0.zero = some z ∧ z.cells.size = 1 := by
    have := congrArg TI.zero hti
    cases hq : i0.zero with
    | none => rw [hq] at this; simp at this
    | some z => rw [hq] at this; simp at this; exact ⟨z, rfl, by have := congrArg List.length this; simpa using this.symm⟩
  refine (Try.slices_Clone i0 z 1 16 hi hz h1 h2 hzc (by decide) (fun w => by rw [run_sizeOf hin]) b off n c news w (by omega) hm hbig hc hat).mono fun e w' ⟨v', h1, h2, _, h3⟩ => ⟨v', h1, h2, h3⟩
end Go.Lg

namespace Go.Lg
open Go.Proofs
set_option linter.unusedSimpArgs false
set_option linter.unusedVariables false
attribute [local irreducible] Ap Rq asemC WP RunD Ret Gq thenA inBlockA bodyQ noGotoA RqL RqP OpP
set_option maxHeartbeats 8000000
def NumM (use : List Bool) (i : Nat) (m : List (Int × Int)) : Prop := ∀ x : Int, 0 ≤ x → x < i → (aget m x).getD 0 = (numB use x.toNat : Int)
theorem NumM.no {use : List Bool} {i : Nat} {m : List (Int × Int)} (h : NumM use i m) (hn : nth use i = false) (hf : aget m (i : Int) = none) : NumM use (i + 1) m := by
  intro x h0 h1
  by_cases e : x = i
  · subst e; simp [hf, numB, hn]
  · exact h x h0 (by omega)
theorem NumM.yes {use : List Bool} {i : Nat} {m : List (Int × Int)} (h : NumM use i m) (hn : nth use i = true) : NumM use (i + 1) (aset m (i : Int) (cntB use i : Int)) := by
  intro x h0 h1
  rw [aget_aset]
  by_cases e : x = i
  · subst e; simp [numB, hn]
  · rw [if_neg e]; exact h x h0 (by omega)
theorem none_aset {i : Nat} {m : List (Int × Int)} {v : Int} (h : ∀ x : Int, (i : Int) ≤ x → aget m x = none) : ∀ x : Int, ((i + 1 : Nat) : Int) ≤ x → aget (aset m (i : Int) v) x = none := by
  intro x hx
  rw [aget_aset, if_neg (by omega)]; exact h x (by omega)
theorem reduce_fn (g : Gram) : Fn Try.prog 10 [gramA g] (reduceA g) := by
  refine Fn.intro (by simp [AV.bd, bdL, bdL_append]) (by kernel_rfl) Try.func10 rfl rfl Try.ntmps10 (by exact Nat.le_of_ble_eq_true rfl) ?_; intro Γ hm
  by_cases hval : validG g = true
  · have hv := validG_iff.1 hval
    have hn2 := hv.n2
    have hr2 := hv.r2
    have ht2 := hv.terms
    have hs0 := hv.s0
    have hsn := hv.sn
    have hpl := prodG_len g
    have hul := usefulG_len g (prodG g)
    have hlo : ∀ i, i < g.rules.length → ∀ x, x ∈ (nth g.rules i).body → -((prodG g).length : Int) ≤ x := fun i hi x hx => by have := (hv.rule _ (nth_mem hi)).lo x hx; omega
    (repeat' (first | apply jA | apply jH | apply jI | apply jK | apply jM | apply jS | (refine wp_cond rfl (fun hc => ?_) (fun hc => ?_) <;> (try simp only [sB, ne_eq, reduceCtorEq] at hc) <;> (try (exfalso; omega))) | (refine WP.regionC (id := 0) ?_; (refine se_box rfl (by exact ⟨rfl, rfl⟩) ?_); (refine se_alloc rfl ?_); (refine sassign rfl ?_); (refine sassign rfl ?_); apply jW) | (refine WP.regionC (id := 1) ?_; (refine sloadpw rfl rfl rfl rfl ?_); (refine sc_p rfl rfl (by first | ((repeat' first | exact SubL.nil | refine SubL.cons ?_ ?_ | exact Sub.refl); done) | fail) (by first | (simp [bdL, bdL_append, AV.bd]; done) | fail) (gvalid18_fn _) ?_); (refine su (anot rfl) ?_); apply jW) | (refine WP.regionC ?_; (refine su (ap_build (RqP.nil) rfl) ?_); (refine se_store_b rfl rfl rfl rfl ?_); (refine sassign rfl ?_); (refine sassign rfl ?_); apply jW) | (refine WP.regionC (id := 3) ?_; (refine sloadpw rfl rfl rfl rfl ?_); (refine sc_p rfl rfl (by first | ((repeat' first | exact SubL.nil | refine SubL.cons ?_ ?_ | exact Sub.refl); done) | fail) (by first | (simp [bdL, bdL_append, AV.bd]; done) | fail) (productive_an _ (by assumption)) ?_); (refine sassign rfl ?_); apply jW) | (refine WP.regionC (id := 4) ?_; (refine smove rfl ?_); (refine sfieldp rfl rfl rfl ?_); (refine sloadp rfl rfl rfl rfl ?_); (refine su (aidxz rfl rfl (by omega)) ?_); (refine sloadw rfl rfl ?_); (refine su (anot rfl) ?_); apply jW) | (refine WP.regionC (id := 6) ?_; (refine sloadpw rfl rfl rfl rfl ?_); (refine smove rfl ?_); (refine sc_p rfl rfl (by first | ((repeat' first | exact SubL.nil | refine SubL.cons ?_ ?_ | exact Sub.refl); done) | fail) (by first | (simp [bdL, bdL_append, AV.bd]; done) | fail) (useful_fn _ _ (by assumption) (by assumption)) ?_); (refine sassign rfl ?_); apply jW) | (refine WP.regionC (id := 7) ?_; (refine se_mkmap ?_); (refine sassign rfl ?_); apply jW) | (refine WP.regionC (id := 8) ?_; (refine sfieldp rfl rfl rfl ?_); (refine sloadp rfl rfl rfl rfl ?_); (refine sc_p rfl rfl (by first | ((repeat' first | exact SubL.nil | refine SubL.cons ?_ ?_ | exact Sub.refl); done) | fail) (by first | (simp [bdL, bdL_append, AV.bd]; done) | fail) (cloneStrs_fn _ (by omega)) ?_); (refine su (ap_build (RqP.cons (rq_p rfl rfl) (RqP.nil)) rfl) ?_); (refine se_alloc rfl ?_); (refine se_store_b rfl rfl rfl rfl ?_); apply jW)))
    · rw [hval] at hc; cases hc
    · rw [reduceA_10 hval hc]
      exact ret_many (.cellT rfl rfl rfl rfl (.tmp rfl (.tmp rfl .nil))) (by decide) (by first | ((repeat' first | exact FzL.nil | refine FzL.cons ?_ ?_ | exact Fz.nil | (exact Fz.reflp (by simp [AV.bd, bdL, bdL_append])) | refine Fz.aggL ?_); done) | fail)
    have hpr : nth (prodG g) g.start.toNat = true := hc
    generalize hU : usefulG g (prodG g) = use at *
    refine wp_nilo 3 1 1 rfl rfl (wp_nilo 3 3 3 rfl rfl ?_)
    (repeat' (first | apply jF | apply jH | (refine WP.regionC (id := 9) ?_; (refine sfieldp rfl rfl rfl ?_); (refine sloadp rfl rfl rfl rfl ?_); (refine slenm rfl rfl ?_); (refine smove rfl ?_); apply jW)))
    refine wp_loop (fun (x : Nat × List (Int × Int)) => x.1 ≤ g.nonterms.length ∧ NumM use x.1 x.2 ∧ ∀ y : Int, (x.1 : Int) ≤ y → aget x.2 y = none) (fun x => g.nonterms.length - x.1)
      (fun x => (S 129 [(1, .ptr 0 4 0 0), (2, .ptr 1 4 0 0), (5, boolsA (prodG g)), (6, boolsA use), (7, .map 2), (8, .ptr 3 4 0 0), (39, strsA g.nonterms), (40, intA (g.nonterms.length : Nat)), (41, intA (x.1 : Nat))] 6 [(0, some (.arr 4 [gramA g])), (1, some (.arr 4 [zgA])), (2, some (.map (mapA intK intA x.2))), (3, some (.arr 4 [.agg [strsA g.terms, .ref 4 1 0 (namesTo g use x.1).length, intA 0, .ref 5 3 0 0]])), (4, some (.arr 1 ((namesTo g use x.1).map strA))), (5, some (.arr 3 []))])) (0, []) ⟨[0, 1, 2, 3, 4, 5], ToR.S rfl (by repeat' (first | exact rt_nil | refine rt_t rfl rfl ?_ | refine rt_m rfl rfl ?_ | refine rt_e rfl rfl ?_ | refine rt_p rfl rfl (by first | (simp [AV.bd, bdL, bdL_append]; done) | fail) ?_)) (by repeat' (first | exact ro_nil | refine ro_e rfl rfl ?_ | refine ro_p rfl (by first | exact rfl | fail) (by first | (simp [bdL, bdL_append, AV.bd]; done) | fail) ?_ | refine ro_m rfl rfl (mapA_bd (fun _ => by exact rfl) _) ?_ | refine ro_e rfl (by simp only [renL, AV.ren, ren_strsA, ren_intsA]; exact rfl) ?_)) rfl (by (rw [hm]; exact rfl)) rfl (by (simp [bdT, AV.bd, bdL, bdL_append]; done)) (by repeat' (first | exact True.intro | exact rfl | refine And.intro ?_ ?_ | (simp [bdOq, bdL, bdL_append, AV.bd]; done))) (by (rw [hm]; exact Nat.le_of_ble_eq_true rfl))⟩ ⟨Nat.zero_le _, fun x h0 h1 => by simp at h1; omega, fun y _ => rfl⟩ ?_
    rintro ⟨i, m⟩ ⟨hi, hm1, hm2⟩
    dsimp only at *
    by_cases hlt : i < g.nonterms.length
    · have hnl : (namesTo g use i).length ≤ i := by rw [namesTo_len]; exact cntB_le use i
      (repeat' (first | apply jA | apply jF | apply jH | apply jI | apply jN | (refine wp_cond rfl (fun hc => ?_) (fun hc => ?_) <;> (try simp only [sB, ne_eq, reduceCtorEq] at hc) <;> (try (exfalso; omega))) | (refine WP.regionC (id := 10) ?_; (refine slss rfl rfl ?_); apply jW) | (refine WP.regionC (id := 11) ?_; (refine smove rfl ?_); (refine sidxn rfl rfl (by omega) ?_); (refine sloadw rfl rfl ?_); (refine sassign rfl ?_); (refine sassign rfl ?_); apply jW) | (refine WP.regionC (id := 12) ?_; (refine smove rfl ?_); (refine smove rfl ?_); (refine sidxn rfl rfl (by omega) ?_); (refine sloadw rfl rfl ?_); apply jW) | (refine WP.regionC (id := 13) ?_; (refine smove rfl ?_); (refine smove rfl ?_); (refine sfieldp rfl rfl rfl ?_); (refine sloadp rfl rfl rfl rfl ?_); (refine su (alenr rfl rfl) ?_); (refine se_mapset (kf := intK) rfl rfl rfl rfl ?_); apply jW) | (refine WP.regionC (id := 14) ?_; (refine sfieldp rfl rfl rfl ?_); (refine sloadp rfl rfl rfl rfl ?_); (refine smove rfl ?_); (refine se_lit (OpP.cons rfl (OpP.nil)) rfl rfl rfl rfl rfl rfl ?_); (refine se_app1 rfl rfl rfl rfl rfl rfl rfl rfl (by omega) ?_); (refine sfieldp rfl rfl rfl ?_); (refine se_store_b rfl rfl rfl rfl ?_); apply jW) | (refine WP.regionC (id := 15) ?_; (refine sadd rfl rfl (by exact inr_i64_of (by omega)) ?_); (refine smove rfl ?_); apply jW)))
      · refine ⟨(i + 1, aset m (i : Int) (cntB use i : Int)), ⟨by dsimp only; omega, by dsimp only; omega, hm1.yes hc, none_aset hm2⟩, ?_⟩
        dsimp only
        rw [namesTo_yes hc, ← namesTo_len (g := g)]
        exact ⟨[0, 1, 2, 3, 7, 5], ToR.S rfl (by repeat' (first | exact rt_nil | refine rt_t rfl rfl ?_ | refine rt_m rfl rfl ?_ | refine rt_e rfl rfl ?_ | refine rt_p rfl rfl (by first | (simp [AV.bd, bdL, bdL_append]; done) | fail) ?_)) (by repeat' (first | exact ro_nil | refine ro_e rfl rfl ?_ | refine ro_p rfl (by first | exact rfl | fail) (by first | exact bdL_map (fun _ => by exact rfl) _ | (simp [bdL, bdL_append, AV.bd]; done) | fail) ?_ | refine ro_m rfl rfl (mapA_bd (fun _ => by exact rfl) _) ?_ | refine ro_e rfl (by simp only [renL, AV.ren, ren_strsA, ren_intsA]; exact rfl) ?_)) rfl (by (rw [hm]; exact rfl)) rfl (by (simp [bdT, AV.bd, bdL, bdL_append]; done)) (by repeat' (first | exact True.intro | exact rfl | exact mapA_all (fun _ => by exact rfl) _ | refine And.intro ?_ ?_ | exact bdL_map (fun _ => by exact rfl) _ | (simp [bdOq, bdL, bdL_append, AV.bd]; done))) (by (rw [hm]; exact Nat.le_of_ble_eq_true rfl))⟩
      · refine ⟨(i + 1, m), ⟨by dsimp only; omega, by dsimp only; omega, hm1.no hc (hm2 _ (Int.le_refl _)), fun y hy => hm2 y (by omega)⟩, ?_⟩
        dsimp only
        rw [namesTo_no hc]
        exact ⟨[0, 1, 2, 3, 4, 5], ToR.S rfl (by repeat' (first | exact rt_nil | refine rt_t rfl rfl ?_ | refine rt_m rfl rfl ?_ | refine rt_e rfl rfl ?_ | refine rt_p rfl rfl (by first | (simp [AV.bd, bdL, bdL_append]; done) | fail) ?_)) (by repeat' (first | exact ro_nil | refine ro_e rfl rfl ?_ | refine ro_p rfl (by first | exact rfl | fail) (by first | exact bdL_map (fun _ => by exact rfl) _ | (simp [bdL, bdL_append, AV.bd]; done) | fail) ?_ | refine ro_m rfl rfl (mapA_bd (fun _ => by exact rfl) _) ?_ | refine ro_e rfl (by simp only [renL, AV.ren, ren_strsA, ren_intsA]; exact rfl) ?_)) rfl (by (rw [hm]; exact rfl)) rfl (by (simp [bdT, AV.bd, bdL, bdL_append]; done)) (by repeat' (first | exact True.intro | exact rfl | exact mapA_all (fun _ => by exact rfl) _ | refine And.intro ?_ ?_ | exact bdL_map (fun _ => by exact rfl) _ | (simp [bdOq, bdL, bdL_append, AV.bd]; done))) (by (rw [hm]; exact Nat.le_of_ble_eq_true rfl))⟩
    obtain rfl : i = g.nonterms.length := by omega
    have hnl : (namesTo g use g.nonterms.length).length ≤ g.nonterms.length := by rw [namesTo_len]; exact cntB_le use _
    have hst : (aget m g.start).getD 0 = (numB use g.start.toNat : Int) := hm1 _ hs0 hsn
    (repeat' (first | apply jA | apply jF | apply jH | apply jJ | apply jL | apply jP | (refine wp_cond rfl (fun hc => ?_) (fun hc => ?_) <;> (try simp only [sB, ne_eq, reduceCtorEq] at hc) <;> (try (exfalso; omega))) | (refine WP.regionC (id := 10) ?_; (refine slss rfl rfl ?_); apply jW) | (refine WP.regionC (id := 16) ?_; (refine smove rfl ?_); (refine sfieldp rfl rfl rfl ?_); (refine sloadp rfl rfl rfl rfl ?_); (refine su (ap_look (kf := intK) (rq_p rfl rfl) rfl (rq_p rfl rfl) rfl) ?_); (refine sfieldp rfl rfl rfl ?_); (refine se_store_b rfl rfl rfl rfl ?_); apply jW) | (refine WP.regionC (id := 17) ?_; (refine sassign rfl ?_); apply jW) | (refine WP.regionC (id := 18) ?_; (refine sfieldp rfl rfl rfl ?_); (refine sloadp rfl rfl rfl rfl ?_); (refine slenm rfl rfl ?_); (refine smove rfl ?_); apply jW)))
    rw [hst]
    refine wp_nil 11 1 rfl ?_
    refine wp_loop (fun (i : Nat) => i ≤ g.rules.length) (fun i => g.rules.length - i)
      (fun i => (S 129 [(2, .ptr 1 4 0 0), (5, boolsA (prodG g)), (6, boolsA use), (7, .map 2), (8, .ptr 3 4 0 0), (11, .ref 6 1 0 (fromTo g (prodG g) use i).length), (68, rulesA g.rules), (69, intA (g.rules.length : Nat)), (70, intA (i : Nat))] 7 [(0, some (.arr 4 [gramA g])), (1, some (.arr 4 [zgA])), (2, some (.map (mapA intK intA m))), (3, some (.arr 4 [.agg [strsA g.terms, .ref 4 1 0 (namesTo g use g.nonterms.length).length, intA (numB use g.start.toNat : Nat), .ref 5 3 0 (rulesTo g (prodG g) use i).length]])), (4, some (.arr 1 ((namesTo g use g.nonterms.length).map strA))), (5, some (.arr 3 ((rulesTo g (prodG g) use i).map ruleA))), (6, some (.arr 1 ((fromTo g (prodG g) use i).map intA)))])) 0 ⟨[0, 1, 2, 3, 4, 5, 6], ToR.S rfl (by repeat' (first | exact rt_nil | refine rt_r rfl rfl ?_ | refine rt_t rfl rfl ?_ | refine rt_m rfl rfl ?_ | refine rt_e rfl rfl ?_ | refine rt_p rfl rfl (by first | (simp [AV.bd, bdL, bdL_append]; done) | fail) ?_)) (by repeat' (first | exact ro_nil | refine ro_e rfl rfl ?_ | refine ro_p rfl (by first | exact rfl | fail) (by first | exact bdL_map (fun _ => by exact rfl) _ | (simp [bdL, bdL_append, AV.bd]; done) | fail) ?_ | refine ro_m rfl rfl (mapA_bd (fun _ => by exact rfl) _) ?_ | refine ro_e rfl (by simp only [renL, AV.ren, ren_strsA, ren_intsA]; exact rfl) ?_)) rfl (by (rw [hm]; exact rfl)) rfl (by (simp [bdT, AV.bd, bdL, bdL_append]; done)) (by repeat' (first | exact True.intro | exact rfl | exact mapA_all (fun _ => by exact rfl) _ | refine And.intro ?_ ?_ | exact bdL_map (fun _ => by exact rfl) _ | (simp [bdOq, bdL, bdL_append, AV.bd]; done))) (by (rw [hm]; exact Nat.le_of_ble_eq_true rfl))⟩ (Nat.zero_le _) ?_
    rintro i hi
    by_cases hlt : i < g.rules.length
    · have hr := hv.rule _ (nth_mem hlt)
      have hr0 := hr.h0
      have hrn := hr.hn
      have hrl := hr.len
      have hlo' := hlo i hlt
      have hrl2 := rules_le (g := g) (is := prodG g) (use := use) (i := i)
      have hfl2 := from_le (g := g) (is := prodG g) (use := use) (i := i)
      have hnv : (aget m (nth g.rules i).head).getD 0 = (numB use (nth g.rules i).head.toNat : Int) := hm1 _ hr0 hrn
      (repeat' (first | apply jA | apply jF | apply jH | apply jI | apply jJ | apply jL | apply jP | (refine wp_cond rfl (fun hc => ?_) (fun hc => ?_) <;> (try simp only [sB, ne_eq, reduceCtorEq] at hc) <;> (try (exfalso; omega))) | (refine WP.regionC (id := 19) ?_; (refine slss rfl rfl ?_); apply jW) | (refine WP.regionC (id := 20) ?_; (refine smove rfl ?_); (refine sidxn rfl rfl (by omega) ?_); (refine sloadw rfl rfl ?_); (refine se_alloc rfl ?_); (refine sassign rfl ?_); (refine se_store_b rfl rfl rfl rfl ?_); apply jW) | (refine WP.regionC (id := 21) ?_; (refine smove rfl ?_); (refine sfieldp rfl rfl rfl ?_); (refine sloadp rfl rfl rfl rfl ?_); (refine su (aidxz rfl rfl (by omega)) ?_); (refine sloadw rfl rfl ?_); (refine su (anot rfl) ?_); (refine smove rfl ?_); (refine sg (gq_vf rfl rfl) (fun he => ap_field_p (rq_p rfl rfl) rfl rfl) ?_); (refine sg (gq_vf rfl rfl) (fun he => ap_load_p (rq_c rfl rfl) rfl rfl rfl) ?_); (refine sg (gq_vf rfl rfl) (fun he => ap_move (rq_p rfl rfl)) ?_); (refine sg_p (gq_vf rfl rfl) (fun he => ⟨(rq_p rfl rfl), (RqL.cons (rq_c rfl rfl) (RqL.cons (rq_c rfl rfl) (RqL.nil))), (by first | ((repeat' first | exact SubL.nil | refine SubL.cons ?_ ?_ | exact Sub.refl); done) | fail), (by first | (simp [bdL, bdL_append, AV.bd]; done) | fail), works_fn _ _ (by assumption)⟩) ?_); (refine sg (gq_vf rfl rfl) (fun he => ap_not (rq_c rfl rfl)) ?_); (refine su (ap_or (rq_p rfl rfl) (rq_c rfl rfl)) ?_); apply jW) | (refine WP.regionC (id := 32) ?_; (refine sadd rfl rfl (by exact inr_i64_of (by omega)) ?_); (refine smove rfl ?_); apply jW)))
      · refine ⟨i + 1, ⟨by omega, by omega⟩, ?_⟩
        have hk : keepR (prodG g) use (nth g.rules i) = false := by unfold keepR; rcases hc with hc | hc <;> simp [hc]
        rw [rules_no hk, from_no hk]
        exact ⟨[0, 1, 2, 3, 4, 5, 6], ToR.S rfl (by repeat' (first | exact rt_nil | refine rt_r rfl rfl ?_ | refine rt_t rfl rfl ?_ | refine rt_m rfl rfl ?_ | refine rt_e rfl rfl ?_ | refine rt_p rfl rfl (by first | (simp [AV.bd, bdL, bdL_append]; done) | fail) ?_)) (by repeat' (first | exact ro_nil | refine ro_e rfl rfl ?_ | refine ro_p rfl (by first | exact rfl | fail) (by first | exact bdL_map (fun _ => by first | exact rfl | simp [AV.bd, bdL, bdL_append]) _ | (simp [bdL, bdL_append, AV.bd]; done) | fail) ?_ | refine ro_m rfl rfl (mapA_bd (fun _ => by exact rfl) _) ?_ | refine ro_e rfl (by simp only [renL, AV.ren, ren_strsA, ren_intsA]; exact rfl) ?_)) rfl (by (rw [hm]; exact rfl)) rfl (by (simp [bdT, AV.bd, bdL, bdL_append]; done)) (by repeat' (first | exact True.intro | exact rfl | exact mapA_all (fun _ => by exact rfl) _ | refine And.intro ?_ ?_ | exact bdL_map (fun _ => by first | exact rfl | simp [AV.bd, bdL, bdL_append]) _ | (simp [bdOq, bdL, bdL_append, AV.bd]; done))) (by (rw [hm]; exact Nat.le_of_ble_eq_true rfl))⟩
      have hk : keepR (prodG g) use (nth g.rules i) = true := by unfold keepR; simp [hc]
      (repeat' (first | apply jA | apply jH | (refine WP.regionC (id := 22) ?_; (refine smove rfl ?_); (refine sfieldp rfl rfl rfl ?_); (refine sloadp rfl rfl rfl rfl ?_); (refine su (ap_look (kf := intK) (rq_p rfl rfl) rfl (rq_p rfl rfl) rfl) ?_); (refine sfieldp rfl rfl rfl ?_); (refine sloadp rfl rfl rfl rfl ?_); (refine su (ap_build (RqP.cons (rq_p rfl rfl) (RqP.cons (rq_p rfl rfl) (RqP.nil))) rfl) ?_); (refine se_alloc rfl ?_); (refine se_store_b rfl rfl rfl rfl ?_); apply jW)))
      rw [hnv]
      refine wp_nilo 8 1 1 rfl rfl ?_
      (repeat' (first | apply jF | apply jH | (refine WP.regionC (id := 23) ?_; (refine sfieldp rfl rfl rfl ?_); (refine sloadp rfl rfl rfl rfl ?_); (refine slenm rfl rfl ?_); (refine smove rfl ?_); apply jW)))
      refine wp_loop (fun (k : Nat) => k ≤ (nth g.rules i).body.length) (fun k => (nth g.rules i).body.length - k)
        (fun k => (S 129 [(2, .ptr 1 4 0 0), (5, boolsA (prodG g)), (6, boolsA use), (7, .map 2), (8, .ptr 3 4 0 0), (11, .ref 6 1 0 (fromTo g (prodG g) use i).length), (12, intA (i : Nat)), (14, .ptr 7 3 0 0), (68, rulesA g.rules), (69, intA (g.rules.length : Nat)), (70, intA (i : Nat)), (96, intsA (nth g.rules i).body), (97, intA ((nth g.rules i).body.length : Nat)), (98, intA (k : Nat))] 9 [(0, some (.arr 4 [gramA g])), (1, some (.arr 4 [zgA])), (2, some (.map (mapA intK intA m))), (3, some (.arr 4 [.agg [strsA g.terms, .ref 4 1 0 (namesTo g use g.nonterms.length).length, intA (numB use g.start.toNat : Nat), .ref 5 3 0 (rulesTo g (prodG g) use i).length]])), (4, some (.arr 1 ((namesTo g use g.nonterms.length).map strA))), (5, some (.arr 3 ((rulesTo g (prodG g) use i).map ruleA))), (6, some (.arr 1 ((fromTo g (prodG g) use i).map intA))), (7, some (.arr 3 [.agg [intA (numB use (nth g.rules i).head.toNat : Nat), .ref 8 1 0 (bodyTo use (nth g.rules i) k).length, intA (nth g.rules i).price]])), (8, some (.arr 1 ((bodyTo use (nth g.rules i) k).map intA)))])) 0 ⟨[0, 1, 2, 3, 4, 5, 6, 8, 9], ToR.S rfl (by repeat' (first | exact rt_nil | refine rt_r rfl rfl ?_ | refine rt_t rfl rfl ?_ | refine rt_m rfl rfl ?_ | refine rt_e rfl rfl ?_ | refine rt_p rfl rfl (by first | (simp [AV.bd, bdL, bdL_append]; done) | fail) ?_)) (by repeat' (first | exact ro_nil | refine ro_e rfl rfl ?_ | refine ro_p rfl (by first | exact rfl | fail) (by first | exact bdL_map (fun _ => by first | exact rfl | simp [AV.bd, bdL, bdL_append]) _ | (simp [bdL, bdL_append, AV.bd]; done) | fail) ?_ | refine ro_m rfl rfl (mapA_bd (fun _ => by exact rfl) _) ?_ | refine ro_e rfl (by simp only [renL, AV.ren, ren_strsA, ren_intsA]; exact rfl) ?_)) rfl (by (rw [hm]; exact rfl)) rfl (by (simp [bdT, AV.bd, bdL, bdL_append]; done)) (by repeat' (first | exact True.intro | exact rfl | exact mapA_all (fun _ => by exact rfl) _ | refine And.intro ?_ ?_ | exact bdL_map (fun _ => by first | exact rfl | simp [AV.bd, bdL, bdL_append]) _ | (simp [bdOq, bdL, bdL_append, AV.bd]; done))) (by (rw [hm]; exact Nat.le_of_ble_eq_true rfl))⟩ (Nat.zero_le _) ?_
      rintro k hk2
      have hbl := bodyTo_len (use := use) hk2
      by_cases hkl : k < (nth g.rules i).body.length
      · have hxl := hlo' _ (nth_mem hkl)
        (repeat' (first | apply jA | apply jF | apply jH | apply jI | apply jN | (refine wp_cond rfl (fun hc => ?_) (fun hc => ?_) <;> (try simp only [sB, ne_eq, reduceCtorEq] at hc) <;> (try (exfalso; omega))) | (refine WP.regionC (id := 24) ?_; (refine slss rfl rfl ?_); apply jW) | (refine WP.regionC (id := 25) ?_; (refine sidxn rfl rfl (by omega) ?_); (refine sloadw rfl rfl ?_); (refine sassign rfl ?_); apply jW) | (refine WP.regionC (id := 26) ?_; (refine smove rfl ?_); (refine slss rfl rfl ?_); apply jW) | (refine WP.regionC (id := 28) ?_; (refine sfieldp rfl rfl rfl ?_); (refine sloadp rfl rfl rfl rfl ?_); (refine smove rfl ?_); (refine se_lit (OpP.cons rfl (OpP.nil)) rfl rfl rfl rfl rfl rfl ?_); (refine se_app1 rfl rfl rfl rfl rfl rfl rfl rfl (by omega) ?_); (refine sfieldp rfl rfl rfl ?_); (refine se_store_b rfl rfl rfl rfl ?_); apply jW) | (refine WP.regionC (id := 29) ?_; (refine sadd rfl rfl (by exact inr_i64_of (by omega)) ?_); (refine smove rfl ?_); apply jW)))
        · have hnx := hm1 (-1 - nth (nth g.rules i).body k) (by omega) (by omega)
          have hle := cntB_le use (-1 - nth (nth g.rules i).body k).toNat
          have hn0 : 0 ≤ (aget m (-1 - nth (nth g.rules i).body k)).getD 0 := by rw [hnx]; omega
          have hn1 : (aget m (-1 - nth (nth g.rules i).body k)).getD 0 ≤ 120 := by rw [hnx, numB]; split <;> omega
          (repeat' (first | apply jH | apply jN | (refine WP.regionC (id := 27) ?_; (refine smove rfl ?_); (refine smove rfl ?_); (refine su (asub rfl rfl (by exact inr_i64_of (by omega))) ?_); (refine su (ap_look (kf := intK) (rq_p rfl rfl) rfl (rq_p rfl rfl) rfl) ?_); (refine su (asub rfl rfl (by exact inr_i64_of (by omega))) ?_); (refine sassign rfl ?_); apply jW) | (refine WP.regionC (id := 28) ?_; (refine sfieldp rfl rfl rfl ?_); (refine sloadp rfl rfl rfl rfl ?_); (refine smove rfl ?_); (refine se_lit (OpP.cons rfl (OpP.nil)) rfl rfl rfl rfl rfl rfl ?_); (refine se_app1 rfl rfl rfl rfl rfl rfl rfl rfl (by omega) ?_); (refine sfieldp rfl rfl rfl ?_); (refine se_store_b rfl rfl rfl rfl ?_); apply jW) | (refine WP.regionC (id := 29) ?_; (refine sadd rfl rfl (by exact inr_i64_of (by omega)) ?_); (refine smove rfl ?_); apply jW)))
          refine ⟨k + 1, ⟨by omega, by omega⟩, ?_⟩
          rw [bodyTo_neg hkl hc, ← hnx]
          exact ⟨[0, 1, 2, 3, 4, 5, 6, 7, 10], ToR.S rfl (by repeat' (first | exact rt_nil | refine rt_r rfl rfl ?_ | refine rt_t rfl rfl ?_ | refine rt_m rfl rfl ?_ | refine rt_e rfl rfl ?_ | refine rt_p rfl rfl (by first | (simp [AV.bd, bdL, bdL_append]; done) | fail) ?_)) (by repeat' (first | exact ro_nil | refine ro_e rfl rfl ?_ | refine ro_p rfl (by first | exact rfl | fail) (by first | exact bdL_map (fun _ => by first | exact rfl | simp [AV.bd, bdL, bdL_append]) _ | (simp [bdL, bdL_append, AV.bd]; done) | fail) ?_ | refine ro_m rfl rfl (mapA_bd (fun _ => by exact rfl) _) ?_ | refine ro_e rfl (by simp only [renL, AV.ren, ren_strsA, ren_intsA]; exact rfl) ?_)) rfl (by (rw [hm]; exact rfl)) rfl (by (simp [bdT, AV.bd, bdL, bdL_append]; done)) (by repeat' (first | exact True.intro | exact rfl | exact mapA_all (fun _ => by exact rfl) _ | refine And.intro ?_ ?_ | exact bdL_map (fun _ => by first | exact rfl | simp [AV.bd, bdL, bdL_append]) _ | (simp [bdOq, bdL, bdL_append, AV.bd]; done))) (by (rw [hm]; exact Nat.le_of_ble_eq_true rfl))⟩
        · refine ⟨k + 1, ⟨by omega, by omega⟩, ?_⟩
          rw [bodyTo_pos hkl hc]
          exact ⟨[0, 1, 2, 3, 4, 5, 6, 7, 10], ToR.S rfl (by repeat' (first | exact rt_nil | refine rt_r rfl rfl ?_ | refine rt_t rfl rfl ?_ | refine rt_m rfl rfl ?_ | refine rt_e rfl rfl ?_ | refine rt_p rfl rfl (by first | (simp [AV.bd, bdL, bdL_append]; done) | fail) ?_)) (by repeat' (first | exact ro_nil | refine ro_e rfl rfl ?_ | refine ro_p rfl (by first | exact rfl | fail) (by first | exact bdL_map (fun _ => by first | exact rfl | simp [AV.bd, bdL, bdL_append]) _ | (simp [bdL, bdL_append, AV.bd]; done) | fail) ?_ | refine ro_m rfl rfl (mapA_bd (fun _ => by exact rfl) _) ?_ | refine ro_e rfl (by simp only [renL, AV.ren, ren_strsA, ren_intsA]; exact rfl) ?_)) rfl (by (rw [hm]; exact rfl)) rfl (by (simp [bdT, AV.bd, bdL, bdL_append]; done)) (by repeat' (first | exact True.intro | exact rfl | exact mapA_all (fun _ => by exact rfl) _ | refine And.intro ?_ ?_ | exact bdL_map (fun _ => by first | exact rfl | simp [AV.bd, bdL, bdL_append]) _ | (simp [bdOq, bdL, bdL_append, AV.bd]; done))) (by (rw [hm]; exact Nat.le_of_ble_eq_true rfl))⟩
      · (repeat' (first | apply jA | apply jH | apply jJ | apply jL | apply jP | (refine wp_cond rfl (fun hc => ?_) (fun hc => ?_) <;> (try simp only [sB, ne_eq, reduceCtorEq] at hc) <;> (try (exfalso; omega))) | (refine WP.regionC (id := 24) ?_; (refine slss rfl rfl ?_); apply jW)))
        refine wp_frzo (id := 8) (k := 1) (f := intA) (L := bodyTo use (nth g.rules i) k) 7 1 hm rfl rfl rfl rfl rfl (fun _ => rfl) (fun _ => rfl) ?_
        rw [bodyTo_all (by omega)]
        (repeat' (first | apply jH | apply jN | (refine WP.regionC (id := 30) ?_; (refine sfieldp rfl rfl rfl ?_); (refine sloadp rfl rfl rfl rfl ?_); (refine sloadpw rfl rfl rfl rfl ?_); (refine se_lit (OpP.cons rfl (OpP.nil)) rfl rfl rfl rfl rfl rfl ?_); (refine se_app1R rfl rfl rfl rfl rfl rfl rfl rfl (by omega) ?_); (refine sfieldp rfl rfl rfl ?_); (refine se_store_b rfl rfl rfl rfl ?_); apply jW) | (refine WP.regionC (id := 31) ?_; (refine smove rfl ?_); (refine smove rfl ?_); (refine se_lit (OpP.cons rfl (OpP.nil)) rfl rfl rfl rfl rfl rfl ?_); (refine se_app1 rfl rfl rfl rfl rfl rfl rfl rfl (by omega) ?_); (refine sassign rfl ?_); apply jW) | (refine WP.regionC (id := 32) ?_; (refine sadd rfl rfl (by exact inr_i64_of (by omega)) ?_); (refine smove rfl ?_); apply jW)))
        refine ⟨i + 1, ⟨by omega, by omega⟩, ?_⟩
        have hrx : mapRul use (nth g.rules i) = ⟨numB use (nth g.rules i).head.toNat, (nth g.rules i).body.map (mapSym use), (nth g.rules i).price⟩ := rfl
        rw [rules_yes hk, from_yes hk, hrx]
        exact ⟨[0, 1, 2, 3, 4, 10, 12], ToR.S rfl (by repeat' (first | exact rt_nil | refine rt_r rfl rfl ?_ | refine rt_t rfl rfl ?_ | refine rt_m rfl rfl ?_ | refine rt_e rfl rfl ?_ | refine rt_p rfl rfl (by first | (simp [AV.bd, bdL, bdL_append]; done) | fail) ?_)) (by repeat' (first | exact ro_nil | refine ro_e rfl rfl ?_ | refine ro_p rfl (by first | exact rfl | fail) (by first | exact bdL_map (fun _ => by first | exact rfl | simp [AV.bd, bdL, bdL_append]) _ | (simp [bdL, bdL_append, AV.bd]; done) | fail) ?_ | refine ro_m rfl rfl (mapA_bd (fun _ => by exact rfl) _) ?_ | refine ro_e rfl (by simp only [renL, AV.ren, ren_strsA, ren_intsA]; exact rfl) ?_)) rfl (by (rw [hm]; exact rfl)) rfl (by (simp [bdT, AV.bd, bdL, bdL_append]; done)) (by repeat' (first | exact True.intro | exact rfl | exact mapA_all (fun _ => by exact rfl) _ | refine And.intro ?_ ?_ | exact bdL_map (fun _ => by first | exact rfl | simp [AV.bd, bdL, bdL_append]) _ | (simp [bdOq, bdL, bdL_append, AV.bd]; done))) (by (rw [hm]; exact Nat.le_of_ble_eq_true rfl))⟩
    · obtain rfl : i = g.rules.length := by omega
      (repeat' (first | apply jA | apply jH | apply jJ | apply jK | apply jL | apply jP | apply jS | (refine wp_cond rfl (fun hc => ?_) (fun hc => ?_) <;> (try simp only [sB, ne_eq, reduceCtorEq] at hc) <;> (try (exfalso; omega))) | (refine WP.regionC (id := 19) ?_; (refine slss rfl rfl ?_); apply jW) | (refine WP.regionC (id := 33) ?_; (refine sloadpw rfl rfl rfl rfl ?_); (refine smove rfl ?_); (refine se_store_b rfl rfl rfl rfl ?_); (refine sassign rfl ?_); (refine sassign rfl ?_); apply jW)))
      rw [reduceA_0 hval hpr, hU]
      exact ret_many (xs := [.agg [strsA g.terms, .ref 4 1 0 (namesTo g use g.nonterms.length).length, intA (numB use g.start.toNat : Nat), .ref 5 3 0 (rulesTo g (prodG g) use g.rules.length).length], .ref 6 1 0 (fromTo g (prodG g) use g.rules.length).length, .val (.int .i64 0)]) (.cellT rfl rfl rfl rfl (.tmp rfl (.tmp rfl .nil))) (by simp) (by first | ((repeat' first | exact FzL.nil | refine FzL.cons ?_ ?_ | (exact Fz.list rfl rfl (fun _ => by simp [AV.bd, bdL, bdL_append]) (fun _ => rfl)) | (exact Fz.reflp (by simp [AV.bd, bdL, bdL_append])) | refine Fz.aggL ?_); done) | fail)
  · have hv0 : validG g = false := by simpa using hval
    (repeat' (first | apply jA | apply jH | apply jI | apply jK | apply jM | apply jS | (refine wp_cond rfl (fun hc => ?_) (fun hc => ?_) <;> (try simp only [sB, ne_eq, reduceCtorEq] at hc) <;> (try (exfalso; omega))) | (refine WP.regionC (id := 0) ?_; (refine se_box rfl (by exact ⟨rfl, rfl⟩) ?_); (refine se_alloc rfl ?_); (refine sassign rfl ?_); (refine sassign rfl ?_); apply jW) | (refine WP.regionC (id := 1) ?_; (refine sloadpw rfl rfl rfl rfl ?_); (refine sc_p rfl rfl (by first | ((repeat' first | exact SubL.nil | refine SubL.cons ?_ ?_ | exact Sub.refl); done) | fail) (by first | (simp [bdL, bdL_append, AV.bd]; done) | fail) (gvalid18_fn _) ?_); (refine su (anot rfl) ?_); apply jW) | (refine WP.regionC (id := 2) ?_; (refine su (ap_build (RqP.nil) rfl) ?_); (refine se_store_b rfl rfl rfl rfl ?_); (refine sassign rfl ?_); (refine sassign rfl ?_); apply jW)))
    · rw [reduceA_1 hv0]
      exact ret_many (.cellT rfl rfl rfl rfl (.tmp rfl (.tmp rfl .nil))) (by decide) (by first | ((repeat' first | exact FzL.nil | refine FzL.cons ?_ ?_ | exact Fz.nil | (exact Fz.reflp (by simp [AV.bd, bdL, bdL_append])) | refine Fz.aggL ?_); done) | fail)
    · rw [hv0] at hc; cases hc
end Go.Lg

namespace Go.Lg
open Go.Proofs
set_option linter.unusedSimpArgs false
set_option linter.unusedVariables false
attribute [local irreducible] Ap Rq asemC WP RunD Ret Gq thenA inBlockA bodyQ noGotoA RqL RqP OpP
set_option maxHeartbeats 1000000
theorem ints_fn (a b : List Int) : Fn Try.prog 13 [intsA a, intsA b] (boolA (decide (a = b))) := by
  refine Fn.intro rfl (by kernel_rfl) Try.func13 rfl rfl Try.ntmps13 (by exact Nat.le_of_ble_eq_true rfl) ?_; intro Γ hm
  refine wp_lens 0 rfl fun h0 => wp_lens 1 rfl fun h1 => ?_
  rw [lens_intsA] at h0 h1
  (repeat' (first | apply jA | apply jF | apply jH | apply jI | apply jK | apply jM | apply jS | (refine wp_cond rfl (fun hc => ?_) (fun hc => ?_) <;> (try simp only [sB, ne_eq, reduceCtorEq] at hc) <;> (try (exfalso; omega))) | (refine WP.regionC ?_; (refine sassign rfl ?_); apply jW) | (refine WP.regionC (id := 1) ?_; (refine smove rfl ?_); (refine slenm rfl rfl ?_); (refine smove rfl ?_); (refine slenm rfl rfl ?_); (refine su (aneq rfl rfl) ?_); apply jW) | refine ret_b rfl ?_))
  · have : a ≠ b := by rintro rfl; exact hc rfl
    simp [this]
  refine wp_loop (fun k => k ≤ a.length ∧ a.take k = b.take k) (fun k => a.length - k) (fun k => (S 26 [(0, intsA a), (1, intsA b), (5, intA (k : Nat))] 0 [])) 0 ⟨[], ToR.S rfl (by repeat' (first | exact rt_nil | refine rt_e rfl rfl ?_ | refine rt_p rfl rfl (by first | (simp [AV.bd, bdL, bdL_append]; done) | fail) ?_)) (by repeat' (exact ro_nil)) rfl (by (rw [hm]; exact rfl)) rfl (by (simp [bdT, AV.bd, bdL, bdL_append]; done)) (by repeat' (exact True.intro)) (by (rw [hm]; exact Nat.le_of_ble_eq_true rfl))⟩ ⟨Nat.zero_le _, rfl⟩ ?_
  rintro k ⟨hk, hall⟩
  have hab : a.length = b.length := by omega
  (repeat' (first | apply jA | apply jF | apply jH | apply jI | apply jJ | apply jK | apply jL | apply jM | apply jN | apply jO | apply jP | apply jS | (refine wp_cond rfl (fun hc => ?_) (fun hc => ?_) <;> (try simp only [sB, ne_eq, reduceCtorEq] at hc) <;> (try (exfalso; omega))) | (refine WP.regionC (id := 4) ?_; (refine smove rfl ?_); (refine smove rfl ?_); (refine slenm rfl rfl ?_); (refine slss rfl rfl ?_); apply jW) | (refine wp_draw (id := 6) 9 mixed (by kernel_rfl) (by kernel_rfl) rfl ?_ <;> (refine rmove rfl ?_) <;> (refine rmove rfl ?_) <;> (refine rd_u rfl rfl (aidxn rfl rfl (by omega)) ?_) <;> (refine rd_u rfl rfl (aloadw rfl rfl) ?_) <;> (refine rmove rfl ?_) <;> (refine rmove rfl ?_) <;> (refine rd_u rfl rfl (aidxn rfl rfl (by omega)) ?_) <;> (refine rd_u rfl rfl (aloadw rfl rfl) ?_) <;> (refine rd_u rfl rfl (aneq rfl rfl) ?_) <;> (refine rd_end (by kernel_rfl) ?_)) | (refine WP.regionC ?_; (refine sassign rfl ?_); apply jW) | (refine WP.regionC (id := 5) ?_; (refine smove rfl ?_); (refine sadd rfl rfl (by exact inr_i64_of (by omega)) ?_); (refine sassign rfl ?_); apply jW) | refine ret_b rfl ?_))
  · have : a ≠ b := by rintro rfl; exact hc rfl
    simp [this]
  · exact ⟨k + 1, ⟨by omega, by omega, take_eq_succ (by omega) (by omega) hall hc⟩, ⟨[], ToR.S rfl (by repeat' (first | exact rt_nil | refine rt_e rfl rfl ?_ | refine rt_p rfl rfl (by first | (simp [AV.bd, bdL, bdL_append]; done) | fail) ?_)) (by repeat' (exact ro_nil)) rfl (by (rw [hm]; exact rfl)) rfl (by (simp [bdT, AV.bd, bdL, bdL_append]; done)) (by repeat' (exact True.intro)) (by (rw [hm]; exact Nat.le_of_ble_eq_true rfl))⟩⟩
  simp [eq_of_takes hab (by omega) hall]
end Go.Lg

namespace Go.Lg
open Go.Proofs
set_option linter.unusedSimpArgs false
set_option linter.unusedVariables false
attribute [local irreducible] Ap Rq asemC WP RunD Ret Gq thenA inBlockA bodyQ noGotoA RqL RqP OpP
set_option maxHeartbeats 8000000
def b1 (n : UInt8) : ByteArray := ⟨#[n]⟩
def awkG : Gram := ⟨[b1 97, b1 98, b1 99, b1 100], [b1 83, b1 66, b1 67, b1 68], 0, [⟨0, [0, -2], 0⟩, ⟨0, [-3], 0⟩, ⟨1, [1], 7⟩, ⟨2, [-3, 2], 0⟩, ⟨3, [3], 0⟩]⟩
def awkW : Gram := ⟨[b1 97, b1 98, b1 99, b1 100], [b1 83, b1 66], 0, [⟨0, [0, -2], 0⟩, ⟨1, [1], 7⟩]⟩
def awkG2 : Gram := { awkG with start := 2 }
theorem awake_fn : Fn Try.prog 9 [] (boolA true) := by
  refine Fn.intro rfl (by kernel_rfl) Try.func9 rfl rfl Try.ntmps9 (by exact Nat.le_of_ble_eq_true rfl) ?_; intro Γ hm
  (repeat' (first | apply jA | apply jH | (refine WP.regionC (id := 0) ?_; (refine sassign rfl ?_); apply jW) | (refine WP.regionC (id := 1) ?_; (refine se_lit (OpP.cons rfl (OpP.cons rfl (OpP.cons rfl (OpP.cons rfl (OpP.nil))))) rfl rfl rfl rfl rfl rfl ?_); (refine se_lit (OpP.cons rfl (OpP.cons rfl (OpP.cons rfl (OpP.cons rfl (OpP.nil))))) rfl rfl rfl rfl rfl rfl ?_); (refine se_lit (OpP.cons rfl (OpP.cons rfl (OpP.nil))) rfl rfl rfl rfl rfl rfl ?_); (refine su (ap_build (RqP.cons (rq_p rfl rfl) (RqP.cons (rq_p rfl rfl) (RqP.nil))) rfl) ?_); (refine se_lit (OpP.cons rfl (OpP.nil)) rfl rfl rfl rfl rfl rfl ?_); (refine su (ap_build (RqP.cons (rq_p rfl rfl) (RqP.cons (rq_p rfl rfl) (RqP.nil))) rfl) ?_); (refine se_lit (OpP.cons rfl (OpP.nil)) rfl rfl rfl rfl rfl rfl ?_); (refine su (ap_build (RqP.cons (rq_p rfl rfl) (RqP.cons (rq_p rfl rfl) (RqP.cons (rq_p rfl rfl) (RqP.nil)))) rfl) ?_); (refine se_lit (OpP.cons rfl (OpP.cons rfl (OpP.nil))) rfl rfl rfl rfl rfl rfl ?_); (refine su (ap_build (RqP.cons (rq_p rfl rfl) (RqP.cons (rq_p rfl rfl) (RqP.nil))) rfl) ?_); (refine se_lit (OpP.cons rfl (OpP.nil)) rfl rfl rfl rfl rfl rfl ?_); (refine su (ap_build (RqP.cons (rq_p rfl rfl) (RqP.cons (rq_p rfl rfl) (RqP.nil))) rfl) ?_); (refine se_lit (OpP.cons rfl (OpP.cons rfl (OpP.cons rfl (OpP.cons rfl (OpP.cons rfl (OpP.nil)))))) rfl rfl rfl rfl rfl rfl ?_); (refine su (ap_build (RqP.cons (rq_p rfl rfl) (RqP.cons (rq_p rfl rfl) (RqP.cons (rq_p rfl rfl) (RqP.nil)))) rfl) ?_); (refine se_alloc rfl ?_); (refine se_store_b rfl rfl rfl rfl ?_); apply jW)))
  refine wp_frzx (id := 2) (k := 1) (f := intA) (L := [0, -2]) 7 1 [] _ hm rfl rfl rfl rfl rfl (fun _ => rfl) (fun _ => rfl) ?_
  refine wp_frzx (id := 3) (k := 1) (f := intA) (L := [-3]) 7 1 [ruleA ⟨0, [0, -2], 0⟩] _ hm rfl rfl rfl rfl rfl (fun _ => rfl) (fun _ => rfl) ?_
  refine wp_frzx (id := 4) (k := 1) (f := intA) (L := [1]) 7 1 [ruleA ⟨0, [0, -2], 0⟩, ruleA ⟨0, [-3], 0⟩] _ hm rfl rfl rfl rfl rfl (fun _ => rfl) (fun _ => rfl) ?_
  refine wp_frzx (id := 5) (k := 1) (f := intA) (L := [-3, 2]) 7 1 [ruleA ⟨0, [0, -2], 0⟩, ruleA ⟨0, [-3], 0⟩, ruleA ⟨1, [1], 7⟩] _ hm rfl rfl rfl rfl rfl (fun _ => rfl) (fun _ => rfl) ?_
  refine wp_frzx (id := 6) (k := 1) (f := intA) (L := [3]) 7 1 [ruleA ⟨0, [0, -2], 0⟩, ruleA ⟨0, [-3], 0⟩, ruleA ⟨1, [1], 7⟩, ruleA ⟨2, [-3, 2], 0⟩] _ hm rfl rfl rfl rfl rfl (fun _ => rfl) (fun _ => rfl) ?_
  refine wp_frzo (id := 0) (k := 1) (f := strA) (L := awkG.terms) 8 0 hm rfl rfl rfl rfl rfl (fun _ => rfl) (fun _ => rfl) ?_
  refine wp_frzo (id := 1) (k := 1) (f := strA) (L := awkG.nonterms) 8 1 hm rfl rfl rfl rfl rfl (fun _ => rfl) (fun _ => rfl) ?_
  refine wp_frzo (id := 7) (k := 3) (f := ruleA) (L := awkG.rules) 8 3 hm rfl rfl rfl rfl rfl (fun _ => by simp) (fun _ => rfl) ?_
  refine wp_st (S 61 [(1, .ptr 0 4 0 0)] 1 [(0, some (.arr 4 [gramA awkG]))]) ⟨[8], ToR.S rfl (by repeat' (first | exact rt_nil | refine rt_t rfl rfl ?_)) (by repeat' (first | exact ro_nil | refine ro_e rfl rfl ?_)) rfl (by (rw [hm]; exact rfl)) rfl (by (simp [bdT, AV.bd, bdL, bdL_append]; done)) (by repeat' (first | exact True.intro | exact rfl | refine And.intro ?_ ?_)) (by (rw [hm]; exact Nat.le_of_ble_eq_true rfl))⟩ ?_
  (repeat' (first | apply jA | apply jH | (refine WP.regionC (id := 2) ?_; (refine sloadpw rfl rfl rfl rfl ?_); (refine sc_p rfl rfl (by first | ((repeat' first | exact SubL.nil | refine SubL.cons ?_ ?_ | exact Sub.refl); done) | fail) (by first | (simp [bdL, bdL_append, AV.bd]; done) | fail) (reduce_fn _) ?_); (refine smove rfl ?_); (refine su (aextract rfl rfl) ?_); (refine su (aextract rfl rfl) ?_); (refine su (aextract rfl rfl) ?_); (refine se_alloc rfl ?_); (refine se_store_b rfl rfl rfl rfl ?_); (refine sassign rfl ?_); (refine sassign rfl ?_); apply jW) | (refine WP.regionC (id := 3) ?_; (refine sfieldp rfl rfl rfl ?_); (refine sloadp rfl rfl rfl rfl ?_); (refine se_lit (OpP.cons rfl (OpP.cons rfl (OpP.nil))) rfl rfl rfl rfl rfl rfl ?_); (refine se_lit (OpP.cons rfl (OpP.cons rfl (OpP.nil))) rfl rfl rfl rfl rfl rfl ?_); (refine su (ap_build (RqP.cons (rq_p rfl rfl) (RqP.cons (rq_p rfl rfl) (RqP.nil))) rfl) ?_); (refine se_lit (OpP.cons rfl (OpP.nil)) rfl rfl rfl rfl rfl rfl ?_); (refine su (ap_build (RqP.cons (rq_p rfl rfl) (RqP.cons (rq_p rfl rfl) (RqP.cons (rq_p rfl rfl) (RqP.nil)))) rfl) ?_); (refine se_lit (OpP.cons rfl (OpP.cons rfl (OpP.nil))) rfl rfl rfl rfl rfl rfl ?_); (refine su (ap_build (RqP.cons (rq_p rfl rfl) (RqP.cons (rq_p rfl rfl) (RqP.cons (rq_p rfl rfl) (RqP.nil)))) rfl) ?_); (refine se_alloc rfl ?_); (refine se_store_b rfl rfl rfl rfl ?_); apply jW)))
  refine wp_frzx (id := 3) (k := 1) (f := intA) (L := [0, -2]) 5 1 [] _ hm rfl rfl rfl rfl rfl (fun _ => rfl) (fun _ => rfl) ?_
  refine wp_frzx (id := 4) (k := 1) (f := intA) (L := [1]) 5 1 [ruleA ⟨0, [0, -2], 0⟩] _ hm rfl rfl rfl rfl rfl (fun _ => rfl) (fun _ => rfl) ?_
  refine wp_frzo (id := 2) (k := 1) (f := strA) (L := awkW.nonterms) 6 1 hm rfl rfl rfl rfl rfl (fun _ => rfl) (fun _ => rfl) ?_
  refine wp_frzo (id := 5) (k := 3) (f := ruleA) (L := awkW.rules) 6 3 hm rfl rfl rfl rfl rfl (fun _ => by simp) (fun _ => rfl) ?_
  refine wp_st (S 61 [(1, .ptr 0 4 0 0), (2, .ptr 1 4 0 0), (3, intsA [0, 2]), (4, intA 0), (5, .ptr 2 4 0 0)] 3 [(0, some (.arr 4 [gramA awkG])), (1, some (.arr 4 [gramA awkW])), (2, some (.arr 4 [gramA awkW]))]) ⟨[0, 1, 6], ToR.S rfl (by repeat' (first | exact rt_nil | refine rt_t rfl rfl ?_ | refine rt_e rfl rfl ?_)) (by repeat' (first | exact ro_nil | refine ro_e rfl rfl ?_)) rfl (by (rw [hm]; exact rfl)) rfl (by (simp [bdT, AV.bd, bdL, bdL_append]; done)) (by repeat' (first | exact True.intro | exact rfl | refine And.intro ?_ ?_)) (by (rw [hm]; exact Nat.le_of_ble_eq_true rfl))⟩ ?_
  (repeat' (first | apply jA | apply jH | (refine WP.regionC (id := 4) ?_; (refine sfieldp rfl rfl rfl ?_); (refine se_store_b rfl rfl rfl rfl ?_); apply jW)))
  refine wp_st (S 61 [(1, .ptr 0 4 0 0), (2, .ptr 1 4 0 0), (3, intsA [0, 2]), (4, intA 0), (5, .ptr 2 4 0 0)] 3 [(0, some (.arr 4 [gramA awkG2])), (1, some (.arr 4 [gramA awkW])), (2, some (.arr 4 [gramA awkW]))]) ⟨[0, 1, 2], ToR.S rfl (by repeat' (first | exact rt_nil | refine rt_t rfl rfl ?_ | refine rt_e rfl rfl ?_)) (by repeat' (first | exact ro_nil | refine ro_e rfl rfl ?_)) rfl (by (rw [hm]; exact rfl)) rfl (by (simp [bdT, AV.bd, bdL, bdL_append]; done)) (by repeat' (first | exact True.intro | exact rfl | refine And.intro ?_ ?_)) (by (rw [hm]; exact Nat.le_of_ble_eq_true rfl))⟩ ?_
  (repeat' (first | apply jA | apply jH | apply jK | apply jS | (refine WP.regionC (id := 5) ?_; (refine sloadpw rfl rfl rfl rfl ?_); (refine sc_p rfl rfl (by first | ((repeat' first | exact SubL.nil | refine SubL.cons ?_ ?_ | exact Sub.refl); done) | fail) (by first | (simp [bdL, bdL_append, AV.bd]; done) | fail) (reduce_fn _) ?_); (refine smove rfl ?_); (refine su (aextract rfl rfl) ?_); (refine su (aextract rfl rfl) ?_); (refine su (aextract rfl rfl) ?_); (refine se_alloc rfl ?_); (refine se_store_b rfl rfl rfl rfl ?_); (refine sassign rfl ?_); (refine sassign rfl ?_); apply jW) | (refine WP.regionC (id := 6) ?_; (refine smove rfl ?_); (refine seql rfl rfl ?_); (refine smove rfl ?_); (refine sg (gq_vt rfl rfl) (fun he => ap_load_pw (rq_p rfl rfl) rfl rfl rfl) ?_); (refine sg (gq_vt rfl rfl) (fun he => ap_load_pw (rq_p rfl rfl) rfl rfl rfl) ?_); (refine sg_p (gq_vt rfl rfl) (fun he => ⟨(rq_p rfl rfl), (RqL.cons (rq_c rfl rfl) (RqL.cons (rq_c rfl rfl) (RqL.nil))), (by first | ((repeat' first | exact SubL.nil | refine SubL.cons ?_ ?_ | exact Sub.refl); done) | fail), (by first | (simp [bdL, bdL_append, AV.bd]; done) | fail), requal18_fn _ _⟩) ?_); (refine su (ap_and (rq_p rfl rfl) (rq_c rfl rfl)) ?_); (refine smove rfl ?_); (refine sg (gq_vt rfl rfl) (fun he => ap_move (rq_p rfl rfl)) ?_); (refine sgt_lit rfl rfl rfl (OpP.cons rfl (OpP.cons rfl (OpP.nil))) rfl rfl rfl rfl rfl rfl ?_); (refine sg_b (as' := ([intsA [0, 2], intsA [0, 2]])) (gq_vt rfl rfl) (fun he => ⟨(rq_p rfl rfl), (RqL.cons (rq_c rfl rfl) (RqL.cons (rq_p rfl rfl) (RqL.nil))), (by first | ((repeat' first | exact FzL.nil | refine FzL.cons ?_ ?_ | (exact Fz.list rfl rfl (fun _ => by simp [AV.bd, bdL, bdL_append]) (fun _ => rfl)) | (exact Fz.reflp (by simp [AV.bd, bdL, bdL_append]))); done) | fail), ints_fn [0, 2] [0, 2], rfl⟩) ?_); (refine su (ap_and (rq_p rfl rfl) (rq_c rfl rfl)) ?_); (refine smove rfl ?_); (refine sg (gq_vt rfl rfl) (fun he => ap_move (rq_p rfl rfl)) ?_); (refine sg (gq_vt rfl rfl) (fun he => ap_eql (rq_c rfl rfl) (rq_p rfl rfl)) ?_); (refine su (ap_and (rq_p rfl rfl) (rq_c rfl rfl)) ?_); (refine sassign rfl ?_); apply jW) | exact ret_eq rfl rfl rfl))
end Go.Lg

namespace Go.Lg
open Go.Proofs
set_option linter.unusedSimpArgs false
set_option linter.unusedVariables false
attribute [local irreducible] Ap Rq asemC WP RunD Ret Gq thenA inBlockA bodyQ noGotoA RqL RqP OpP
set_option maxHeartbeats 1000000
def few (g : Gram) (n : Int) : Bool := decide ((g.rules.length : Int) ≤ n) && decide (g.terms.length ≤ 12) && decide (g.nonterms.length ≤ 16) && g.rules.all (fun r => decide (r.body.length ≤ 6)) && g.terms.all (fun s => decide (s.size ≤ 40)) && g.nonterms.all (fun s => decide (s.size ≤ 40))
theorem few_fn (g : Gram) (n : Int) : Fn Try.prog 8 [gramA g, intA n] (boolA (few g n)) := by
  refine Fn.intro rfl (by kernel_rfl) Try.func8 rfl rfl Try.ntmps8 (by exact Nat.le_of_ble_eq_true rfl) ?_; intro Γ hm
  refine wp_lens 0 rfl fun hl => ?_
  obtain ⟨hl1, hl2, hl3, hl4⟩ := (lens_gramA g).1 hl
  (repeat' (first | apply jA | apply jF | apply jH | apply jI | apply jK | apply jM | apply jS | (refine wp_cond rfl (fun hc => ?_) (fun hc => ?_) <;> (try simp only [sB, ne_eq, reduceCtorEq] at hc) <;> (try (exfalso; omega))) | (refine WP.regionC (id := 0) ?_; (refine se_box rfl (by exact ⟨rfl, rfl⟩) ?_); (refine sassign rfl ?_); apply jW) | (refine WP.regionC (id := 1) ?_; (refine sfieldp rfl rfl rfl ?_); (refine sloadp rfl rfl rfl rfl ?_); (refine slenm rfl rfl ?_); (refine smove rfl ?_); (refine su (agtr rfl rfl) ?_); (refine smove rfl ?_); (refine sg (gq_vf rfl rfl) (fun he => ap_field_p (rq_p rfl rfl) rfl rfl) ?_); (refine sg (gq_vf rfl rfl) (fun he => ap_load_p (rq_c rfl rfl) rfl rfl rfl) ?_); (refine sg (gq_vf rfl rfl) (fun he => ap_len_m rfl (rq_c rfl rfl)) ?_); (refine sg (gq_vf rfl rfl) (fun he => ap_gtr (rq_c rfl rfl) (rq_p rfl rfl)) ?_); (refine su (ap_or (rq_p rfl rfl) (rq_c rfl rfl)) ?_); (refine smove rfl ?_); (refine sg (gq_vf rfl rfl) (fun he => ap_field_p (rq_p rfl rfl) rfl rfl) ?_); (refine sg (gq_vf rfl rfl) (fun he => ap_load_p (rq_c rfl rfl) rfl rfl rfl) ?_); (refine sg (gq_vf rfl rfl) (fun he => ap_len_m rfl (rq_c rfl rfl)) ?_); (refine sg (gq_vf rfl rfl) (fun he => ap_gtr (rq_c rfl rfl) (rq_p rfl rfl)) ?_); (refine su (ap_or (rq_p rfl rfl) (rq_c rfl rfl)) ?_); apply jW) | (refine WP.regionC ?_; (refine sassign rfl ?_); apply jW) | refine ret_b rfl ?_))
  · simp [few]; omega
  refine wp_loop (fun k => k ≤ g.rules.length ∧ (g.rules.take k).all (fun r => decide (r.body.length ≤ 6)) = true) (fun k => g.rules.length - k)
    (fun k => (S 68 [(0, gramA g), (1, intA n), (2, .ptr 0 4 0 0), (5, intA (k : Nat))] 1 [(0, some (.arr 4 [gramA g]))])) 0 ⟨[0], ToR.S rfl (by repeat' (first | exact rt_nil | refine rt_t rfl rfl ?_ | refine rt_e rfl rfl ?_ | refine rt_p rfl rfl (by first | (simp [AV.bd, bdL, bdL_append]; done) | fail) ?_)) (by repeat' (first | exact ro_nil | refine ro_p rfl (by first | exact rfl | fail) (by first | (simp [bdL, bdL_append, AV.bd]; done) | fail) ?_)) rfl (by (rw [hm]; exact rfl)) rfl (by (simp [bdT, AV.bd, bdL, bdL_append]; done)) (by repeat' (first | exact True.intro | refine And.intro ?_ ?_ | (simp [bdOq, bdL, bdL_append, AV.bd]; done))) (by (rw [hm]; exact Nat.le_of_ble_eq_true rfl))⟩ ⟨Nat.zero_le _, rfl⟩ ?_
  rintro k ⟨hk, hall⟩
  (repeat' (first | apply jA | apply jF | apply jH | apply jI | apply jJ | apply jK | apply jL | apply jM | apply jN | apply jO | apply jP | apply jS | (refine wp_cond rfl (fun hc => ?_) (fun hc => ?_) <;> (try simp only [sB, ne_eq, reduceCtorEq] at hc) <;> (try (exfalso; omega))) | (refine WP.regionC (id := 4) ?_; (refine smove rfl ?_); (refine sfieldp rfl rfl rfl ?_); (refine sloadp rfl rfl rfl rfl ?_); (refine slenm rfl rfl ?_); (refine slss rfl rfl ?_); apply jW) | (refine WP.regionC (id := 6) ?_; (refine sfieldp rfl rfl rfl ?_); (refine sloadp rfl rfl rfl rfl ?_); (refine smove rfl ?_); (refine sidxn rfl rfl (by omega) ?_); (refine su (afieldi rfl rfl rfl) ?_); (refine su (aloadi rfl rfl) ?_); (refine slenm rfl rfl ?_); (refine su (agtr rfl rfl) ?_); apply jW) | (refine WP.regionC ?_; (refine sassign rfl ?_); apply jW) | (refine WP.regionC (id := 5) ?_; (refine smove rfl ?_); (refine sadd rfl rfl (by exact inr_i64_of (by omega)) ?_); (refine sassign rfl ?_); apply jW) | refine ret_b rfl ?_))
  · have h := all_nth_no (l := g.rules) (f := fun r => decide (r.body.length ≤ 6)) (k := k) (by omega) (by simp; omega)
    simp only [few, h, Bool.and_false, Bool.false_and]
  · exact ⟨k + 1, ⟨by omega, by omega, take_all_succ (by omega) hall (by simp; omega)⟩, ⟨[0], ToR.S rfl (by repeat' (first | exact rt_nil | refine rt_t rfl rfl ?_ | refine rt_e rfl rfl ?_ | refine rt_p rfl rfl (by first | (simp [AV.bd, bdL, bdL_append]; done) | fail) ?_)) (by repeat' (first | exact ro_nil | refine ro_p rfl (by first | exact rfl | fail) (by first | (simp [bdL, bdL_append, AV.bd]; done) | fail) ?_)) rfl (by (rw [hm]; exact rfl)) rfl (by (simp [bdT, AV.bd, bdL, bdL_append]; done)) (by repeat' (first | exact True.intro | refine And.intro ?_ ?_ | (simp [bdOq, bdL, bdL_append, AV.bd]; done))) (by (rw [hm]; exact Nat.le_of_ble_eq_true rfl))⟩⟩
  have h1 := all_of_take' (by omega) hall
  refine wp_loop (fun k => k ≤ g.terms.length ∧ (g.terms.take k).all (fun s => decide (s.size ≤ 40)) = true) (fun k => g.terms.length - k)
    (fun k => (S 68 [(0, gramA g), (1, intA n), (2, .ptr 0 4 0 0), (6, intA (k : Nat))] 1 [(0, some (.arr 4 [gramA g]))])) 0 ⟨[0], ToR.S rfl (by repeat' (first | exact rt_nil | refine rt_t rfl rfl ?_ | refine rt_e rfl rfl ?_ | refine rt_p rfl rfl (by first | (simp [AV.bd, bdL, bdL_append]; done) | fail) ?_)) (by repeat' (first | exact ro_nil | refine ro_p rfl (by first | exact rfl | fail) (by first | (simp [bdL, bdL_append, AV.bd]; done) | fail) ?_)) rfl (by (rw [hm]; exact rfl)) rfl (by (simp [bdT, AV.bd, bdL, bdL_append]; done)) (by repeat' (first | exact True.intro | refine And.intro ?_ ?_ | (simp [bdOq, bdL, bdL_append, AV.bd]; done))) (by (rw [hm]; exact Nat.le_of_ble_eq_true rfl))⟩ ⟨Nat.zero_le _, rfl⟩ ?_
  rintro k ⟨hk, hall⟩
  (repeat' (first | apply jA | apply jF | apply jH | apply jI | apply jJ | apply jK | apply jL | apply jM | apply jN | apply jO | apply jP | apply jS | (refine wp_cond rfl (fun hc => ?_) (fun hc => ?_) <;> (try simp only [sB, ne_eq, reduceCtorEq] at hc) <;> (try (exfalso; omega))) | (refine WP.regionC (id := 9) ?_; (refine smove rfl ?_); (refine sfieldp rfl rfl rfl ?_); (refine sloadp rfl rfl rfl rfl ?_); (refine slenm rfl rfl ?_); (refine slss rfl rfl ?_); apply jW) | (refine WP.regionC (id := 11) ?_; (refine sfieldp rfl rfl rfl ?_); (refine sloadp rfl rfl rfl rfl ?_); (refine smove rfl ?_); (refine sidxn rfl rfl (by omega) ?_); (refine sloadw rfl rfl ?_); (refine su (alenstr rfl rfl) ?_); (refine su (agtr rfl rfl) ?_); apply jW) | (refine WP.regionC ?_; (refine sassign rfl ?_); apply jW) | (refine WP.regionC (id := 10) ?_; (refine smove rfl ?_); (refine sadd rfl rfl (by exact inr_i64_of (by omega)) ?_); (refine sassign rfl ?_); apply jW) | refine ret_b rfl ?_))
  · have h := all_nth_no (l := g.terms) (f := fun s => decide (s.size ≤ 40)) (k := k) (by omega) (by simp; omega)
    simp only [few, h, Bool.and_false, Bool.false_and]
  · exact ⟨k + 1, ⟨by omega, by omega, take_all_succ (by omega) hall (by simp; omega)⟩, ⟨[0], ToR.S rfl (by repeat' (first | exact rt_nil | refine rt_t rfl rfl ?_ | refine rt_e rfl rfl ?_ | refine rt_p rfl rfl (by first | (simp [AV.bd, bdL, bdL_append]; done) | fail) ?_)) (by repeat' (first | exact ro_nil | refine ro_p rfl (by first | exact rfl | fail) (by first | (simp [bdL, bdL_append, AV.bd]; done) | fail) ?_)) rfl (by (rw [hm]; exact rfl)) rfl (by (simp [bdT, AV.bd, bdL, bdL_append]; done)) (by repeat' (first | exact True.intro | refine And.intro ?_ ?_ | (simp [bdOq, bdL, bdL_append, AV.bd]; done))) (by (rw [hm]; exact Nat.le_of_ble_eq_true rfl))⟩⟩
  have h2 := all_of_take' (by omega) hall
  refine wp_loop (fun k => k ≤ g.nonterms.length ∧ (g.nonterms.take k).all (fun s => decide (s.size ≤ 40)) = true) (fun k => g.nonterms.length - k)
    (fun k => (S 68 [(0, gramA g), (1, intA n), (2, .ptr 0 4 0 0), (7, intA (k : Nat))] 1 [(0, some (.arr 4 [gramA g]))])) 0 ⟨[0], ToR.S rfl (by repeat' (first | exact rt_nil | refine rt_t rfl rfl ?_ | refine rt_e rfl rfl ?_ | refine rt_p rfl rfl (by first | (simp [AV.bd, bdL, bdL_append]; done) | fail) ?_)) (by repeat' (first | exact ro_nil | refine ro_p rfl (by first | exact rfl | fail) (by first | (simp [bdL, bdL_append, AV.bd]; done) | fail) ?_)) rfl (by (rw [hm]; exact rfl)) rfl (by (simp [bdT, AV.bd, bdL, bdL_append]; done)) (by repeat' (first | exact True.intro | refine And.intro ?_ ?_ | (simp [bdOq, bdL, bdL_append, AV.bd]; done))) (by (rw [hm]; exact Nat.le_of_ble_eq_true rfl))⟩ ⟨Nat.zero_le _, rfl⟩ ?_
  rintro k ⟨hk, hall⟩
  (repeat' (first | apply jA | apply jF | apply jH | apply jI | apply jJ | apply jK | apply jL | apply jM | apply jN | apply jO | apply jP | apply jS | (refine wp_cond rfl (fun hc => ?_) (fun hc => ?_) <;> (try simp only [sB, ne_eq, reduceCtorEq] at hc) <;> (try (exfalso; omega))) | (refine WP.regionC (id := 14) ?_; (refine smove rfl ?_); (refine sfieldp rfl rfl rfl ?_); (refine sloadp rfl rfl rfl rfl ?_); (refine slenm rfl rfl ?_); (refine slss rfl rfl ?_); apply jW) | (refine WP.regionC (id := 16) ?_; (refine sfieldp rfl rfl rfl ?_); (refine sloadp rfl rfl rfl rfl ?_); (refine smove rfl ?_); (refine sidxn rfl rfl (by omega) ?_); (refine sloadw rfl rfl ?_); (refine su (alenstr rfl rfl) ?_); (refine su (agtr rfl rfl) ?_); apply jW) | (refine WP.regionC ?_; (refine sassign rfl ?_); apply jW) | (refine WP.regionC (id := 15) ?_; (refine smove rfl ?_); (refine sadd rfl rfl (by exact inr_i64_of (by omega)) ?_); (refine sassign rfl ?_); apply jW) | refine ret_b rfl ?_))
  · have h := all_nth_no (l := g.nonterms) (f := fun s => decide (s.size ≤ 40)) (k := k) (by omega) (by simp; omega)
    simp only [few, h, Bool.and_false, Bool.false_and]
  · exact ⟨k + 1, ⟨by omega, by omega, take_all_succ (by omega) hall (by simp; omega)⟩, ⟨[0], ToR.S rfl (by repeat' (first | exact rt_nil | refine rt_t rfl rfl ?_ | refine rt_e rfl rfl ?_ | refine rt_p rfl rfl (by first | (simp [AV.bd, bdL, bdL_append]; done) | fail) ?_)) (by repeat' (first | exact ro_nil | refine ro_p rfl (by first | exact rfl | fail) (by first | (simp [bdL, bdL_append, AV.bd]; done) | fail) ?_)) rfl (by (rw [hm]; exact rfl)) rfl (by (simp [bdT, AV.bd, bdL, bdL_append]; done)) (by repeat' (first | exact True.intro | refine And.intro ?_ ?_ | (simp [bdOq, bdL, bdL_append, AV.bd]; done))) (by (rw [hm]; exact Nat.le_of_ble_eq_true rfl))⟩⟩
  have h3 := all_of_take' (by omega) hall
  simp [few, h1, h2, h3]; omega
end Go.Lg

namespace Go.Lg
open Go.Proofs
set_option linter.unusedSimpArgs false
set_option linter.unusedVariables false
attribute [local irreducible] Ap Rq asemC WP RunD Ret Gq thenA inBlockA bodyQ noGotoA RqL RqP OpP
set_option maxHeartbeats 8000000
set_option maxRecDepth 20000
attribute [local simp] bd_tabA
theorem rowsT_dim (n m : Nat) (t : List Bool) : Dim (rowsT n m t) n m :=
  ⟨by simp [rowsT], fun a ha => by rw [rowsT, nth_range ha]; simp, fun a b ha hb => by rw [rowsT, nth_range ha, nth_range hb]; simp⟩
def IsD (g : Gram) (s : List Int) (T : List (List (List Bool))) : Prop := Dim T g.nonterms.length (s.length + 1) ∧ ∀ a b c, a < g.nonterms.length → b < s.length + 1 → c < s.length + 1 → (nth (nth (nth T a) b) c = true ↔ Der g s a b c)
noncomputable def derT (g : Gram) (s : List Int) : List (List (List Bool)) := rowsT g.nonterms.length (s.length + 1) (derL g s)
theorem derT_is (g : Gram) (s : List Int) : IsD g s (derT g s) := ⟨rowsT_dim _ _ _, fun a b c ha hb hc => by
  have := rowsT_at (t := derL g s) ha hb hc
  unfold tbL at this
  unfold derT
  rw [this, derL_at ha hb hc]⟩
theorem derives_fn2 (g : Gram) (s : List Int) (hv : GVal g) (hs : s.length ≤ 100) : Fn Try.prog 15 [gramA g, intsA s] (tabLA (derT g s)) := by
  unfold derT; rw [rowsT_A]; exact derives_fn g s hv hs
def ltr (g : Gram) (bs : List UInt8) (i : Nat) : List Int := (bs.take i).map fun b => ((b.toNat : Int).tmod (g.terms.length : Int))
theorem ltr_len {g : Gram} {bs : List UInt8} {i : Nat} (h : i ≤ bs.length) : (ltr g bs i).length = i := by simp [ltr, h]
theorem law_language (g : Gram) (bs : List UInt8) : Fn Try.prog 4 [gramA g, .sl 1 (bs.map byteA)] (boolA true) := by
  refine Fn.intro (by rfl) (by kernel_rfl) Try.func4 rfl rfl Try.ntmps4 (by exact Nat.le_of_ble_eq_true rfl) ?_; intro Γ hm
  refine wp_lens 1 rfl fun hl => ?_
  have hlen : bs.length ≤ 9223372036854775807 := by simpa [AV.lens] using hl.1
  (repeat' (first | refine WP.seq ?_ | refine WP.block ?_ | refine go_n ?_ | refine WP.skip ?_ | refine WP.ret ?_ | refine go_r ?_ | refine bo_r ?_ | (refine wp_cond (by rfl) (fun hc => ?_) (fun hc => ?_) <;> (try simp only [sB, ne_eq, reduceCtorEq] at hc) <;> (try (exfalso; omega))) | (refine WP.regionC (id := 0) ?_; (refine se_box (by rfl) (by exact ⟨rfl, rfl⟩) ?_); (refine su (ap_assign (rq_p rfl rfl)) ?_); refine asemC_end ?_) | (refine WP.regionC (id := 1) ?_; (refine su (ap_load_pw (rq_p rfl rfl) (by rfl) (by rfl) (by rfl)) ?_); (refine sc_p rfl rfl (by first | ((repeat' first | exact SubL.nil | refine SubL.cons ?_ ?_ | exact Sub.refl); done) | fail) (by first | (simp [bdL, bdL_append, AV.bd]; done) | fail) (few_fn _ _) ?_); (refine su (ap_not (rq_p rfl rfl)) ?_); (refine su (ap_move (rq_p rfl rfl)) ?_); (refine sg (gq_vf rfl rfl) (fun he => ap_load_pw (rq_p rfl rfl) (by rfl) (by rfl) (by rfl)) ?_); (refine sg_p (gq_vf rfl rfl) (fun he => ⟨(rq_p rfl rfl), (RqL.cons (rq_c rfl rfl) (RqL.nil)), (by first | ((repeat' first | exact SubL.nil | refine SubL.cons ?_ ?_ | exact Sub.refl); done) | fail), (by first | (simp [bdL, bdL_append, AV.bd]; done) | fail), rvalid18_fn _⟩) ?_); (refine sg (gq_vf rfl rfl) (fun he => ap_not (rq_c rfl rfl)) ?_); (refine su (ap_or (rq_p rfl rfl) (rq_c rfl rfl)) ?_); (refine su (ap_move (rq_p rfl rfl)) ?_); (refine sg (gq_vf rfl rfl) (fun he => ap_field_p (rq_p rfl rfl) (by rfl) (by rfl)) ?_); (refine sg (gq_vf rfl rfl) (fun he => ap_load_p (rq_c rfl rfl) (by rfl) (by rfl) (by rfl)) ?_); (refine sg (gq_vf rfl rfl) (fun he => ap_len_m (by rfl) (rq_c rfl rfl)) ?_); (refine sg (gq_vf rfl rfl) (fun he => ap_eql (rq_c rfl rfl) (rq_p rfl rfl)) ?_); (refine su (ap_or (rq_p rfl rfl) (rq_c rfl rfl)) ?_); refine asemC_end ?_) | (refine WP.regionC (id := 2) ?_; (refine sc_p rfl rfl (by first | ((repeat' (exact SubL.nil)); done) | fail) (by first | (simp [bdL, bdL_append, AV.bd]; done) | fail) (awake_fn) ?_); (refine su (ap_assign (rq_p rfl rfl)) ?_); refine asemC_end ?_) | (refine WP.regionC (id := 3) ?_; (refine su (ap_assign (rq_p rfl rfl)) ?_); refine asemC_end ?_) | (refine WP.regionC (id := 4) ?_; (refine su (ap_assign (rq_p rfl rfl)) ?_); refine asemC_end ?_) | exact ret_eq (by rfl) (by rfl) rfl))
  obtain ⟨⟨hfew, hval⟩, hn0⟩ : (few g 20 = true ∧ validG g = true) ∧ ¬ (g.terms.length : Int) = 0 := hc
  have hv := validG_iff.1 hval
  have ht2 := hv.terms
  refine wp_nil 5 1 rfl ?_
  refine wp_loop (fun (i : Nat) => i ≤ bs.length ∧ i ≤ 4) (fun i => 4 - i)
    (fun i => (S 117 [(1, .sl 1 (bs.map byteA)), (2, .ptr 0 4 0 0), (5, .ref 1 1 0 (ltr g bs i).length), (6, intA (i : Nat))] 2 [(0, some (.arr 4 [gramA g])), (1, some (.arr 1 ((ltr g bs i).map intA)))])) 0 ⟨[0, 1], ToR.S rfl (by repeat' (first | exact rt_nil | refine rt_r (by rfl) (by rfl) ?_ | refine rt_t (by rfl) (by rfl) ?_ | refine rt_e (by rfl) (by rfl) ?_ | refine rt_p (by rfl) (by rfl) (by first | (simp [AV.bd, bdL, bdL_append]; done) | fail) ?_)) (by repeat' (first | exact ro_nil | refine ro_e (by rfl) (by rfl) ?_ | refine ro_p (by rfl) (by first | exact rfl | fail) (by first | (simp [bdL, bdL_append, AV.bd]; done) | fail) ?_)) (by rfl) (by (rw [hm]; exact rfl)) (by rfl) (by (simp [bdT, AV.bd, bdL, bdL_append]; done)) (by repeat' (first | exact True.intro | exact rfl | refine And.intro ?_ ?_ | (simp [bdOq, bdL, bdL_append, AV.bd]; done))) (by (rw [hm]; exact Nat.le_of_ble_eq_true rfl))⟩ ⟨Nat.zero_le _, Nat.zero_le _⟩ ?_
  rintro i ⟨hi, hi4⟩
  have hll := ltr_len (g := g) hi
  by_cases hlt : i < bs.length ∧ i < 4
  · obtain ⟨h1, h2⟩ := hlt
    have hb := (nth bs i).toNat_lt
    have e : ltr g bs (i + 1) = ltr g bs i ++ [((nth bs i).toNat : Int).tmod (g.terms.length : Int)] := by
      rw [ltr, take_succ_nth h1, List.map_append]; rfl
    have hm0 := Int.tmod_nonneg (a := ((nth bs i).toNat : Int)) (g.terms.length : Int) (by omega)
    (repeat' (first | refine WP.seq ?_ | refine WP.block ?_ | refine go_n ?_ | refine WP.skip ?_ | refine bl_n ?_ | (refine wp_cond (by rfl) (fun hc => ?_) (fun hc => ?_) <;> (try simp only [sB, ne_eq, reduceCtorEq] at hc) <;> (try (exfalso; omega))) | (refine WP.regionC (id := 5) ?_; (refine su (ap_move (rq_p rfl rfl)) ?_); (refine su (ap_move (rq_p rfl rfl)) ?_); (refine su (ap_len_m (by rfl) (rq_p rfl rfl)) ?_); (refine su (ap_lss (rq_p rfl rfl) (rq_p rfl rfl)) ?_); (refine su (ap_move (rq_p rfl rfl)) ?_); (refine sg (gq_vt rfl rfl) (fun he => ap_move (rq_p rfl rfl)) ?_); (refine sg (gq_vt rfl rfl) (fun he => ap_lss (rq_c rfl rfl) (rq_p rfl rfl)) ?_); (refine su (ap_and (rq_p rfl rfl) (rq_c rfl rfl)) ?_); refine asemC_end ?_) | (refine wp_draw (id := 7) 13 mixed (by kernel_rfl) (by kernel_rfl) rfl ?_ <;> (refine rd_u (by rfl) (by rfl) (ap_move (rq_p rfl rfl)) ?_) <;> (refine rd_u (by rfl) (by rfl) (ap_move (rq_p rfl rfl)) ?_) <;> (refine rd_u (by rfl) (by rfl) (ap_move (rq_p rfl rfl)) ?_) <;> (refine rd_u (by rfl) (by rfl) (ap_idx_n (rq_p rfl rfl) (rq_p rfl rfl) (by omega)) ?_) <;> (refine rd_u (by rfl) (by rfl) (ap_load_w (rq_p rfl rfl) (by rfl)) ?_) <;> (refine rd_u (by rfl) (by rfl) (ap_conv (rq_p rfl rfl) (by rfl) (by kernel_rfl) (by exact inr_i64_of (by omega))) ?_) <;> (refine rd_u (by rfl) (by rfl) (ap_field_p (rq_p rfl rfl) (by rfl) (by rfl)) ?_) <;> (refine rd_u (by rfl) (by rfl) (ap_load_p (rq_p rfl rfl) (by rfl) (by rfl) (by rfl)) ?_) <;> (refine rd_u (by rfl) (by rfl) (ap_len_m (by rfl) (rq_p rfl rfl)) ?_) <;> (refine rd_u (by rfl) (by rfl) (ap_rem (rq_p rfl rfl) (rq_p rfl rfl) (by omega)) ?_) <;> (refine rd_lit (OpP.cons (by rfl) (OpP.nil)) (by rfl) (by rfl) (by rfl) (by rfl) (by rfl) (by rfl) ?_) <;> (refine rd_app1 (by rfl) (by rfl) (by rfl) (by rfl) (by rfl) (by rfl) (by rfl) (by rfl) (by omega) ?_) <;> (refine rd_u (by rfl) (by rfl) (ap_assign (rq_p rfl rfl)) ?_) <;> (refine rd_end (by kernel_rfl) ?_)) | (refine WP.regionC (id := 6) ?_; (refine su (ap_move (rq_p rfl rfl)) ?_); (refine su (ap_add (rq_p rfl rfl) (rq_p rfl rfl) (by exact inr_i64_of (by omega))) ?_); (refine su (ap_assign (rq_p rfl rfl)) ?_); refine asemC_end ?_)))
    refine ⟨i + 1, ⟨by omega, by omega, by omega⟩, ?_⟩
    rw [e, List.length_append, List.map_append]
    exact ⟨[0, 13], ToR.S rfl (by repeat' (first | exact rt_nil | refine rt_r (by rfl) (by rfl) ?_ | refine rt_t (by rfl) (by rfl) ?_ | refine rt_e (by rfl) (by rfl) ?_ | refine rt_p (by rfl) (by rfl) (by first | (simp [AV.bd, bdL, bdL_append]; done) | fail) ?_)) (by repeat' (first | exact ro_nil | refine ro_p (by rfl) (by first | exact rfl | fail) (by first | (simp [bdL, bdL_append, AV.bd]; done) | fail) ?_)) (by rfl) (by (rw [hm]; exact rfl)) (by rfl) (by (simp [bdT, AV.bd, bdL, bdL_append]; done)) (by repeat' (first | exact True.intro | refine And.intro ?_ ?_ | (simp [bdOq, bdL, bdL_append, AV.bd]; done))) (by (rw [hm]; exact Nat.le_of_ble_eq_true rfl))⟩
  · (repeat' (first | refine WP.seq ?_ | refine go_n ?_ | refine WP.exit ?_ | refine go_x ?_ | refine bl_x ?_ | (refine wp_cond (by rfl) (fun hc => ?_) (fun hc => ?_) <;> (try simp only [sB, ne_eq, reduceCtorEq] at hc) <;> (try (exfalso; omega))) | (refine WP.regionC (id := 5) ?_; (refine su (ap_move (rq_p rfl rfl)) ?_); (refine su (ap_move (rq_p rfl rfl)) ?_); (refine su (ap_len_m (by rfl) (rq_p rfl rfl)) ?_); (refine su (ap_lss (rq_p rfl rfl) (rq_p rfl rfl)) ?_); (refine su (ap_move (rq_p rfl rfl)) ?_); (refine sg (gq_vt rfl rfl) (fun he => ap_move (rq_p rfl rfl)) ?_); (refine sg (gq_vt rfl rfl) (fun he => ap_lss (rq_c rfl rfl) (rq_p rfl rfl)) ?_); (refine su (ap_and (rq_p rfl rfl) (rq_c rfl rfl)) ?_); refine asemC_end ?_)))
    generalize hL : ltr g bs i = L at *
    refine wp_frz (k := 1) (f := intA) (L := L) 5 hm (by rfl) (by rfl) rfl (fun _ => rfl) (fun _ => rfl) ?_
    have hs0 := hv.s0
    have hsn := hv.sn
    have hD := derT_is g L
    have dv := derives_fn2 g L hv (by omega)
    generalize derT g L = T at *
    obtain ⟨hd1, hd2⟩ := hD
    have hT0 := hd1.len
    have hT1 := hd1.r g.start.toNat (by omega)
    have hT2 : (nth (nth T g.start.toNat) (nat_lit 0)).length = L.length + 1 := hd1.c g.start.toNat 0 (by omega) (by omega)
    (repeat' (first | refine WP.seq ?_ | refine go_n ?_ | refine WP.skip ?_ | refine WP.ret ?_ | refine go_r ?_ | refine bo_r ?_ | (refine wp_cond (by rfl) (fun hc => ?_) (fun hc => ?_) <;> (try simp only [sB, ne_eq, reduceCtorEq] at hc) <;> (try (exfalso; omega))) | (refine wp_draw (id := 8) 14 mixed (by kernel_rfl) (by kernel_rfl) rfl ?_ <;> (refine rd_u (by rfl) (by rfl) (ap_load_pw (rq_p rfl rfl) (by rfl) (by rfl) (by rfl)) ?_) <;> (refine rd_u (by rfl) (by rfl) (ap_move (rq_p rfl rfl)) ?_) <;> (refine rd_call rfl rfl (by first | ((repeat' first | exact SubL.nil | refine SubL.cons ?_ ?_ | exact Sub.refl); done) | fail) (by first | (simp [bdL, bdL_append, AV.bd]; done) | fail) (dv) ?_) <;> (refine rd_u (by rfl) (by rfl) (ap_field_p (rq_p rfl rfl) (by rfl) (by rfl)) ?_) <;> (refine rd_u (by rfl) (by rfl) (ap_load_p (rq_p rfl rfl) (by rfl) (by rfl) (by rfl)) ?_) <;> (refine rd_u (by rfl) (by rfl) (ap_idx_z (rq_p rfl rfl) (rq_p rfl rfl) (by omega)) ?_) <;> (refine rd_u (by rfl) (by rfl) (ap_load_w (rq_p rfl rfl) (by rfl)) ?_) <;> (refine rd_u (by rfl) (by rfl) (ap_idx_n (rq_p rfl rfl) (rq_p rfl rfl) (by (simp only [sL] <;> omega))) ?_) <;> (refine rd_u (by rfl) (by rfl) (ap_load_w (rq_p rfl rfl) (by rfl)) ?_) <;> (refine rd_u (by rfl) (by rfl) (ap_move (rq_p rfl rfl)) ?_) <;> (refine rd_u (by rfl) (by rfl) (ap_len_m (by rfl) (rq_p rfl rfl)) ?_) <;> (refine rd_u (by rfl) (by rfl) (ap_idx_n (rq_p rfl rfl) (rq_p rfl rfl) (by omega)) ?_) <;> (refine rd_u (by rfl) (by rfl) (ap_load_w (rq_p rfl rfl) (by rfl)) ?_) <;> (refine rd_u (by rfl) (by rfl) (ap_assign (rq_p rfl rfl)) ?_) <;> (refine rd_end (by kernel_rfl) ?_)) | (refine WP.regionC (id := 9) ?_; (refine su (ap_load_pw (rq_p rfl rfl) (by rfl) (by rfl) (by rfl)) ?_); (refine sc_p rfl rfl (by first | ((repeat' first | exact SubL.nil | refine SubL.cons ?_ ?_ | exact Sub.refl); done) | fail) (by first | (simp [bdL, bdL_append, AV.bd]; done) | fail) (reduce_fn _) ?_); (refine su (ap_move (rq_p rfl rfl)) ?_); (refine su (ap_extract (rq_p rfl rfl) (by rfl)) ?_); (refine su (ap_extract (rq_p rfl rfl) (by rfl)) ?_); (refine su (ap_extract (rq_p rfl rfl) (by rfl)) ?_); (refine se_alloc (by rfl) ?_); (refine se_store_b (by rfl) (by rfl) (by rfl) (by rfl) ?_); (refine su (ap_assign (rq_p rfl rfl)) ?_); (refine su (ap_assign (rq_p rfl rfl)) ?_); refine asemC_end ?_) | (refine WP.regionC (id := 10) ?_; (refine su (ap_move (rq_p rfl rfl)) ?_); (refine su (ap_neq (rq_p rfl rfl) (rq_p rfl rfl)) ?_); refine asemC_end ?_) | (refine WP.regionC (id := 11) ?_; (refine sc_p rfl rfl (by first | ((repeat' (exact SubL.nil)); done) | fail) (by first | (simp [bdL, bdL_append, AV.bd]; done) | fail) (awake_fn) ?_); (refine su (ap_move (rq_p rfl rfl)) ?_); (refine sg (gq_vt rfl rfl) (fun he => ap_move (rq_p rfl rfl)) ?_); (refine sg (gq_vt rfl rfl) (fun he => ap_eql (rq_c rfl rfl) (rq_p rfl rfl)) ?_); (refine su (ap_and (rq_p rfl rfl) (rq_c rfl rfl)) ?_); (refine su (ap_move (rq_p rfl rfl)) ?_); (refine sg (gq_vt rfl rfl) (fun he => ap_move (rq_p rfl rfl)) ?_); (refine sg (gq_vt rfl rfl) (fun he => ap_not (rq_c rfl rfl)) ?_); (refine su (ap_and (rq_p rfl rfl) (rq_c rfl rfl)) ?_); (refine su (ap_assign (rq_p rfl rfl)) ?_); refine asemC_end ?_) | (refine WP.regionC (id := 12) ?_; (refine su (ap_load_pw (rq_p rfl rfl) (by rfl) (by rfl) (by rfl)) ?_); (refine sc_p rfl rfl (by first | ((repeat' first | exact SubL.nil | refine SubL.cons ?_ ?_ | exact Sub.refl); done) | fail) (by first | (simp [bdL, bdL_append, AV.bd]; done) | fail) (rvalid18_fn _) ?_); (refine su (ap_not (rq_p rfl rfl)) ?_); (refine su (ap_move (rq_p rfl rfl)) ?_); (refine sg (gq_vf rfl rfl) (fun he => ap_field_p (rq_p rfl rfl) (by rfl) (by rfl)) ?_); (refine sg (gq_vf rfl rfl) (fun he => ap_load_p (rq_c rfl rfl) (by rfl) (by rfl) (by rfl)) ?_); (refine sg (gq_vf rfl rfl) (fun he => ap_len_m (by rfl) (rq_c rfl rfl)) ?_); (refine sg (gq_vf rfl rfl) (fun he => ap_field_p (rq_p rfl rfl) (by rfl) (by rfl)) ?_); (refine sg (gq_vf rfl rfl) (fun he => ap_load_p (rq_c rfl rfl) (by rfl) (by rfl) (by rfl)) ?_); (refine sg (gq_vf rfl rfl) (fun he => ap_len_m (by rfl) (rq_c rfl rfl)) ?_); (refine sg (gq_vf rfl rfl) (fun he => ap_gtr (rq_c rfl rfl) (rq_c rfl rfl)) ?_); (refine su (ap_or (rq_p rfl rfl) (rq_c rfl rfl)) ?_); (refine su (ap_move (rq_p rfl rfl)) ?_); (refine sg (gq_vf rfl rfl) (fun he => ap_field_p (rq_p rfl rfl) (by rfl) (by rfl)) ?_); (refine sg (gq_vf rfl rfl) (fun he => ap_load_p (rq_c rfl rfl) (by rfl) (by rfl) (by rfl)) ?_); (refine sg (gq_vf rfl rfl) (fun he => ap_len_m (by rfl) (rq_c rfl rfl)) ?_); (refine sg (gq_vf rfl rfl) (fun he => ap_field_p (rq_p rfl rfl) (by rfl) (by rfl)) ?_); (refine sg (gq_vf rfl rfl) (fun he => ap_load_p (rq_c rfl rfl) (by rfl) (by rfl) (by rfl)) ?_); (refine sg (gq_vf rfl rfl) (fun he => ap_len_m (by rfl) (rq_c rfl rfl)) ?_); (refine sg (gq_vf rfl rfl) (fun he => ap_neq (rq_c rfl rfl) (rq_c rfl rfl)) ?_); (refine su (ap_or (rq_p rfl rfl) (rq_c rfl rfl)) ?_); refine asemC_end ?_) | (refine WP.regionC (id := 13) ?_; (refine su (ap_assign (rq_p rfl rfl)) ?_); refine asemC_end ?_) | refine ret_b (by rfl) ?_))
    · have hc1 : ¬ (reduceR g).2.2 = 0 := hc
      have h10 : (reduceR g).2.2 = 10 ∧ nth (prodG g) g.start.toNat = false := by
        unfold reduceR at hc1 ⊢
        rw [if_pos hval] at hc1 ⊢
        by_cases hp : nth (prodG g) g.start.toNat = true
        · rw [if_pos hp] at hc1; exact absurd rfl hc1
        · rw [if_neg hp]; exact ⟨rfl, by simpa using hp⟩
      have hno : nth (nth (nth T g.start.toNat) 0) L.length = false := by
        cases hx : nth (nth (nth T g.start.toNat) 0) L.length with
        | false => rfl
        | true =>
          have := der_prod hv ((hd2 g.start.toNat 0 L.length (by omega) (by omega) (by omega)).1 hx)
          rw [h10.2] at this; cases this
      show (true && decide ((reduceR g).2.2 = 10) && !nth (nth (nth T g.start.toNat) 0) L.length) = true
      rw [h10.1, hno]; rfl
    · exfalso
      rename_i hc1
      have hc1 : (reduceR g).2.2 = 0 := hc1
      obtain ⟨hK, hR⟩ := reduce_ok hc1
      have hvr := validG_iff.2 (reduce_val hc1)
      have hle : (reduceR g).1.rules.length ≤ g.rules.length := by rw [hR]; exact rules_le
      have hte : (reduceR g).1.terms.length = g.terms.length := by rw [hR]
      rcases hc with (h | h) | h
      · rw [hvr] at h; cases h
      · omega
      · exact h (by rw [hte])
    have hc1 : (reduceR g).2.2 = 0 := by assumption
    obtain ⟨hK, hR⟩ := reduce_ok hc1
    have hvr := reduce_val hc1
    have hst : (reduceR g).1.start = (numB (usefulG g (prodG g)) g.start.toNat : Int) := by rw [hR]
    have hder : ∀ i k, Der (reduceR g).1 L (reduceR g).1.start.toNat i k ↔ Der g L g.start.toNat i k := fun i k => by
      rw [hst, Int.toNat_natCast]
      have := der_red hK (s := L) hK.st i k
      rw [hR]; exact this
    have hs0r := hvr.s0
    have hsnr := hvr.sn
    have hD2 := derT_is (reduceR g).1 L
    have dv2 := derives_fn2 (reduceR g).1 L hvr (by omega)
    generalize derT (reduceR g).1 L = U at *
    obtain ⟨hu1, hu2⟩ := hD2
    have hU0 := hu1.len
    have hU1 := hu1.r (reduceR g).1.start.toNat (by omega)
    have hU2 : (nth (nth U (reduceR g).1.start.toNat) (nat_lit 0)).length = L.length + 1 := hu1.c (reduceR g).1.start.toNat 0 (by omega) (by omega)
    (repeat' (first | refine go_n ?_ | refine WP.ret ?_ | refine bo_r ?_ | (refine wp_draw (id := 14) 19 mixed (by kernel_rfl) (by kernel_rfl) rfl ?_ <;> (refine rd_call rfl rfl (by first | ((repeat' (exact SubL.nil)); done) | fail) (by first | (simp [bdL, bdL_append, AV.bd]; done) | fail) (awake_fn) ?_) <;> (refine rd_u (by rfl) (by rfl) (ap_move (rq_p rfl rfl)) ?_) <;> (refine rdg_u rfl rfl (by rfl) (by rfl) (ap_load_pw (rq_p rfl rfl) (by rfl) (by rfl) (by rfl)) ?_) <;> (refine rdg_u rfl rfl (by rfl) (by rfl) (ap_move (rq_p rfl rfl)) ?_) <;> (refine rdg_call rfl (by rfl) rfl rfl (by first | ((repeat' first | exact SubL.nil | refine SubL.cons ?_ ?_ | exact Sub.refl); done) | fail) (by first | (simp [bdL, bdL_append, AV.bd]; done) | fail) (dv2) ?_) <;> (refine rdg_u rfl rfl (by rfl) (by rfl) (ap_field_p (rq_p rfl rfl) (by rfl) (by rfl)) ?_) <;> (refine rdg_u rfl rfl (by rfl) (by rfl) (ap_load_p (rq_p rfl rfl) (by rfl) (by rfl) (by rfl)) ?_) <;> (refine rdg_u rfl rfl (by rfl) (by rfl) (ap_idx_z (rq_p rfl rfl) (rq_p rfl rfl) (by omega)) ?_) <;> (refine rdg_u rfl rfl (by rfl) (by rfl) (ap_load_w (rq_p rfl rfl) (by rfl)) ?_) <;> (refine rdg_u rfl rfl (by rfl) (by rfl) (ap_idx_n (rq_p rfl rfl) (rq_p rfl rfl) (by (simp only [sL] <;> omega))) ?_) <;> (refine rdg_u rfl rfl (by rfl) (by rfl) (ap_load_w (rq_p rfl rfl) (by rfl)) ?_) <;> (refine rdg_u rfl rfl (by rfl) (by rfl) (ap_move (rq_p rfl rfl)) ?_) <;> (refine rdg_u rfl rfl (by rfl) (by rfl) (ap_len_m (by rfl) (rq_p rfl rfl)) ?_) <;> (refine rdg_u rfl rfl (by rfl) (by rfl) (ap_idx_n (rq_p rfl rfl) (rq_p rfl rfl) (by omega)) ?_) <;> (refine rdg_u rfl rfl (by rfl) (by rfl) (ap_load_w (rq_p rfl rfl) (by rfl)) ?_) <;> (refine rdg_u rfl rfl (by rfl) (by rfl) (ap_move (rq_p rfl rfl)) ?_) <;> (refine rdg_u rfl rfl (by rfl) (by rfl) (ap_eqb (by kernel_rfl) (rq_p rfl rfl) (rq_p rfl rfl)) ?_) <;> (refine rd_pick_t (by rfl) (by rfl) ?_) <;> (refine rd_u (by rfl) (by rfl) (ap_assign (rq_p rfl rfl)) ?_) <;> (refine rd_end (by kernel_rfl) ?_)) | refine ret_b (by rfl) ?_))
    have h1 := hd2 g.start.toNat 0 L.length (by omega) (by omega) (by omega)
    have h2 := hu2 (reduceR g).1.start.toNat 0 L.length (by omega) (by omega) (by omega)
    have h3 : nth (nth (nth U (reduceR g).1.start.toNat) 0) L.length = nth (nth (nth T g.start.toNat) 0) L.length := by
      rw [Bool.eq_iff_iff, h1, h2, hder]
    exact decide_eq_true h3
end Go.Lg
