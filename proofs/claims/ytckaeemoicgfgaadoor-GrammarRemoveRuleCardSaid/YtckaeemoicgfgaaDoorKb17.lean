/-
  Valid of the program and of the reference agree on every grammar
-/
import Derived.Test.YtckaeemoicgfgaaDoorKb16
import Derived.Lib.ItoaLen

set_option linter.unusedSimpArgs false
set_option linter.unusedVariables false
set_option linter.unusedSectionVars false

/- The text of a grammar: what it is; grammar.Format's closure. -/
namespace Go.Lg
open Go.Proofs
set_option linter.unusedSimpArgs false
set_option linter.unusedVariables false
attribute [local irreducible] Ap Rq asemC WP RunD Ret Gq thenA inBlockA bodyQ noGotoA RqL RqP OpP
set_option maxHeartbeats 4000000

def bl (s : ByteArray) : List UInt8 := s.data.toList
def tx (l : List UInt8) : ByteArray := ⟨l.toArray⟩
@[simp] theorem bl_tx (l : List UInt8) : bl (tx l) = l := rfl
theorem tx_bl (s : ByteArray) : tx (bl s) = s := by obtain ⟨⟨l⟩⟩ := s; rfl
theorem bl_app (a b : ByteArray) : bl (a ++ b) = bl a ++ bl b := by simp [bl]
theorem tx_inj {a b : List UInt8} (h : tx a = tx b) : a = b := by have := congrArg bl h; simpa using this
theorem ba_ext {a b : ByteArray} (h : bl a = bl b) : a = b := by rw [← tx_bl a, ← tx_bl b, h]
theorem tx_app (a b : List UInt8) : tx a ++ tx b = tx (a ++ b) := ba_ext (by rw [bl_app]; rfl)
theorem tx_size (l : List UInt8) : (tx l).size = l.length := by simp [tx, ByteArray.size]
theorem bl_len (s : ByteArray) : (bl s).length = s.size := by simp [bl]

/-- names, each behind a space -/
def spaced (l : List ByteArray) : List UInt8 := (l.map fun x => 32 :: bl x).flatten
/-- a line: words with a space between them -/
def lineT (l : List ByteArray) : List UInt8 := Lib.join (l.map bl) [32] ++ [10]
theorem lineT_cons (h : ByteArray) (r : List ByteArray) : lineT (h :: r) = bl h ++ spaced r ++ [10] := by
  simp only [lineT, List.map_cons, Lib.join_cons, Lib.joinTail, spaced, List.map_map]
  rfl
theorem spaced_app (a b : List ByteArray) : spaced (a ++ b) = spaced a ++ spaced b := by simp [spaced]
theorem spaced_len {l : List ByteArray} {c : Nat} (h : ∀ x, x ∈ l → x.size ≤ c) : (spaced l).length ≤ l.length * (c + 1) := by
  induction l with
  | nil => simp [spaced]
  | cons x l ih =>
    have h1 := ih fun y hy => h y (by simp [hy])
    have h2 := h x (by simp)
    simp only [spaced, List.map_cons, List.flatten_cons, List.length_append, List.length_cons, bl_len] at h1 ⊢
    rw [Nat.add_mul]; omega
theorem lineT_len {l : List ByteArray} {c : Nat} (h : ∀ x, x ∈ l → x.size ≤ c) : (lineT l).length ≤ l.length * (c + 1) + 1 := by
  cases l with
  | nil => simp [lineT, Lib.join_nil]
  | cons x l =>
    rw [lineT_cons]
    have h1 := spaced_len (l := l) (c := c) fun y hy => h y (by simp [hy])
    have h2 := h x (by simp)
    simp only [List.length_append, List.length_cons, List.length_nil, bl_len]
    rw [Nat.add_mul]; omega

/-- what grammar.Format's closure does -/
theorem line_wr (bs : List UInt8) (ws : List ByteArray) (hN : ws.length ≤ 1000) (hlen : (lineT ws).length ≤ 100000) (hb : bs.length ≤ 1000000000) :
    Wr Tryd.prog 31 [strsA ws, .ptr 0 2 0 0] TB bs (bs ++ lineT ws) (.tup []) := by
  have hj : (Lib.join (ws.map fun x => x.data.toList) [32]).length ≤ 100000 := by
    have : (lineT ws).length = (Lib.join (ws.map fun x => x.data.toList) [32]).length + 1 := by simp only [lineT, List.length_append, List.length_cons, List.length_nil]; rfl
    omega
  have hj2 : (⟨(Lib.join (ws.map fun x => x.data.toList) [32]).toArray⟩ : ByteArray).size ≤ 100000 := by rw [show (⟨(Lib.join (ws.map fun x => x.data.toList) [32]).toArray⟩ : ByteArray).size = _ from tx_size _]; exact hj
  have hj4 : (Lib.join (ws.map fun x => x.data.toList) [32]).length ≤ 140737488355328 := by omega
  refine Wr.intro (by exact rfl) (by exact rfl) (by kernel_rfl) Tryd.func31 rfl rfl Tryd.ntmps31 (by exact Nat.le_of_ble_eq_true rfl) ?_; intro Γ hm
  (repeat' (first | refine bo_n ?_ | (refine WP.regionC (id := 0) ?_; (refine su (ap_move (by exact rq_p rfl rfl)) ?_); (refine sc_p rfl rfl (by first | ((repeat' first | exact SubL.nil | refine SubL.cons ?_ ?_ | exact Sub.refl); done) | fail) (by first | (simp [bdL, bdL_append, AV.bd]; done) | fail) (join_fn _ _ (by omega) (by assumption)) ?_); (refine su (ap_cat (by exact rq_p rfl rfl) (by exact rq_p rfl rfl) (by (simp only [bsz, List.size_toArray, ByteArray.size_append, List.length_append, List.length_cons, List.length_nil] <;> omega))) ?_); (refine sc_wr rfl rfl (by repeat' first | exact ArgS.nil | refine ArgS.ren (by exact rfl) (by exact rfl) ?_) (by exact rfl) (by exact rfl) (by exact rfl) (by exact rfl) (by exact rfl) (by exact rfl) (wstr_wr _ (by exact blies_TB) _ _ (by (simp only [bsz, List.size_toArray, List.length_append, List.length_cons, List.length_nil, ByteArray.size_append] <;> omega))) ?_); refine asemC_end ?_)))
  have e : ((⟨(Lib.join (ws.map fun x => x.data.toList) (⟨#[32]⟩ : ByteArray).data.toList).toArray⟩ : ByteArray) ++ ⟨#[10]⟩).data.toList = lineT ws := (bl_app _ _).trans rfl
  rw [e]
  exact retW_0 ⟨[0, 1, 2], ToR.S rfl (by repeat' (exact rt_nil)) (by repeat' (first | exact ro_nil | refine ro_b (by exact rfl) (by first | exact rfl | fail) ?_ | refine ro_d (by exact rfl) (by exact rfl) ?_)) (by decide) (by exact rfl) (by exact rfl) (by (simp [bdT, AV.bd, bdL, bdL_append]; done)) (by repeat' (first | exact True.intro | exact rfl | refine And.intro ?_ ?_)) (by exact Nat.le_of_ble_eq_true rfl)⟩
end Go.Lg

/- strings.Contains, grammar.name. -/
namespace Go.Lg
open Go.Proofs
set_option linter.unusedSimpArgs false
set_option linter.unusedVariables false
attribute [local irreducible] Ap Rq asemC WP RunD Ret Gq thenA inBlockA bodyQ noGotoA RqL RqP OpP
set_option maxHeartbeats 4000000

theorem contains_fn (s sub : ByteArray) (hs : s.size < 4294967281) : Fn Tryd.prog 46 [.val (.string s), .val (.string sub)] (.val (.bool (Lib.contains s.data.toList sub.data.toList))) := by
  refine Fn.of_same (vs := [.string s, .string sub]) (by kernel_rfl) rfl fun w hw => ?_
  obtain ⟨m, hm⟩ := hw.1 (0, .i64) (by simp [gints])
  exact Tryd.strings_Contains s sub m w hs hm

def encOk (n : Nat) : Bool := Lib.contains [95, 46, 64] (Utf8.encode (n : Int)).data.toList == (decide ((n : Int) = 95) || decide ((n : Int) = 46) || decide ((n : Int) = 64))
theorem encOk_all : (List.range 256).all encOk = true := by kernel_rfl
theorem enc_byte (c : UInt8) : Lib.contains [95, 46, 64] (Utf8.encode c.toNat).data.toList = (decide ((c.toNat : Int) = 95) || decide ((c.toNat : Int) = 46) || decide ((c.toNat : Int) = 64)) := by
  have h := List.all_eq_true.1 encOk_all c.toNat (List.mem_range.2 c.toNat_lt)
  simpa [encOk] using h
/-- a byte of a name -/
def nameB (c : Int) : Bool := letB c || digB c || decide (c = 95) || decide (c = 46) || decide (c = 64)
theorem nth_bAt (s : ByteArray) (i : Nat) : ((nth s.data.toList i).toNat : Int) = bAt s i := rfl
theorem nameOk_of {s : ByteArray} (h0 : 0 < s.size) (h1 : s.size ≤ 48) (h2 : letB (bAt s 0) = true) (h : ∀ i, i < s.size → nameB (bAt s i) = true) : nameOk s = true := by
  simp only [nameOk, Bool.and_eq_true, decide_eq_true_eq, List.all_eq_true, List.mem_range]
  refine ⟨⟨h0, h1⟩, fun i hi => ?_⟩
  simp only [nameCh]
  by_cases e : i = 0
  · subst e; simp [h2]
  · have := h i hi
    simp only [nameB, Bool.or_assoc] at this
    simpa [e, Bool.or_assoc] using this
theorem nameOk_no {s : ByteArray} {i : Nat} (hi : i < s.size) (h : nameB (bAt s i) = false) : nameOk s = false := by
  have : nameCh s i = false := by
    simp only [nameB, Bool.or_eq_false_iff] at h
    simp only [nameCh, h.1.1.1.1, h.1.1.1.2, h.1.1.2, h.1.2, h.2, Bool.or_false, Bool.and_false, Bool.false_or]
  simp only [nameOk, range_all_no hi this, Bool.and_false]
theorem gname_fn (s : ByteArray) : Fn Tryd.prog 39 [strA s] (boolA (nameOk s)) := by
  refine Fn.intro (by exact rfl) (by kernel_rfl) Tryd.func39 rfl rfl Tryd.ntmps39 (by exact Nat.le_of_ble_eq_true rfl) ?_; intro Γ hm
  by_cases hs : s.size = 0
  · have : s = ⟨#[]⟩ := by
      obtain ⟨⟨l⟩⟩ := s
      have : l = [] := List.eq_nil_of_length_eq_zero (by simpa [ByteArray.size] using hs)
      subst this; rfl
    subst this
    (repeat' (first | refine WP.seq ?_ | refine WP.block ?_ | refine go_n ?_ | refine WP.skip ?_ | refine WP.ret ?_ | refine go_r ?_ | refine bo_r ?_ | (refine wp_cond (by exact rfl) (fun hc => ?_) (fun hc => ?_) <;> (try simp only [decide_eq_true_eq, decide_eq_false_iff_not, Decidable.not_not, Bool.and_eq_true, Bool.or_eq_true, Bool.not_eq_true', Bool.not_eq_false', Bool.or_eq_false_iff, Bool.and_eq_false_iff, Int.not_lt, Int.not_le, reduceCtorEq, ne_eq, Bool.not_true, Bool.not_false, Bool.not_eq_true, Bool.not_eq_false] at hc) <;> (try (exfalso; omega))) | (refine WP.regionC (id := 0) ?_; (refine su (ap_assign (by exact rq_p rfl rfl)) ?_); refine asemC_end ?_) | (refine WP.regionC (id := 1) ?_; (refine su (ap_move (by exact rq_p rfl rfl)) ?_); (refine su (ap_eqs (by exact rq_p rfl rfl) (by exact rq_p rfl rfl)) ?_); (refine su (ap_move (by exact rq_p rfl rfl)) ?_); (refine sg (by exact gq_vf rfl rfl) (fun he => ap_move (by exact rq_p rfl rfl)) ?_); (refine sg (by exact gq_vf rfl rfl) (fun he => ap_len_str (by exact rfl) (by exact rq_c rfl rfl)) ?_); (refine sg (by exact gq_vf rfl rfl) (fun he => ap_gtr (by exact rq_c rfl rfl) (by exact rq_p rfl rfl)) ?_); (refine su (ap_or (by exact rq_p rfl rfl) (by exact rq_c rfl rfl)) ?_); (refine su (ap_move (by exact rq_p rfl rfl)) ?_); (refine sg (by exact gq_vf rfl rfl) (fun he => ap_move (by exact rq_p rfl rfl)) ?_); (refine sg (by exact gq_vf rfl rfl) (fun he => ap_sidx_n (by exact rq_c rfl rfl) (by exact rq_p rfl rfl) (by exact rfl) (by (try simp only [List.all_cons, List.all_append, List.all_nil, id, Bool.and_true, decide_eq_true_eq, decide_eq_false_iff_not, Decidable.not_not, Bool.and_eq_true, Bool.or_eq_true, Bool.not_eq_true', Bool.not_eq_false', Bool.or_eq_false_iff, Bool.and_eq_false_iff, Int.not_lt, Int.not_le, reduceCtorEq, ne_eq, Bool.not_true, Bool.not_false, Bool.not_eq_true, Bool.not_eq_false] at he); (exfalso; simp at he; done))) ?_); (refine sg_p (by exact gq_vf rfl rfl) (fun he => ⟨(by exact rq_p rfl rfl), (RqL.cons (by exact rq_c rfl rfl) (RqL.nil)), (by first | ((repeat' first | exact SubL.nil | refine SubL.cons ?_ ?_ | exact Sub.refl); done) | fail), (by first | (simp [bdL, bdL_append, AV.bd]; done) | fail), letter_fn _⟩) ?_); (refine sg (by exact gq_vf rfl rfl) (fun he => ap_not (by exact rq_c rfl rfl)) ?_); (refine su (ap_or (by exact rq_p rfl rfl) (by exact rq_c rfl rfl)) ?_); refine asemC_end ?_) | (refine WP.regionC (id := 2) ?_; (refine su (ap_assign (by exact rq_p rfl rfl)) ?_); refine asemC_end ?_) | (refine WP.regionC (id := 3) ?_; (refine su (ap_move (by exact rq_p rfl rfl)) ?_); (refine se_s2b (by kernel_rfl) (by exact rfl) (by omega) ?_); (refine su (ap_len_m (by exact rfl) (by exact rq_p rfl rfl)) ?_); (refine su (ap_move (by exact rq_p rfl rfl)) ?_); refine asemC_end ?_) | exact ret_eq (by exact rfl) (by exact rfl) rfl))
    simp at hc
  have hb0 := bAt_bd s 0
  have hne : ¬ s = ⟨#[]⟩ := by rintro rfl; exact hs rfl
  have hlen : s.data.toList.length = s.size := by simp
  (repeat' (first | refine WP.seq ?_ | refine WP.block ?_ | refine go_n ?_ | refine WP.skip ?_ | refine WP.ret ?_ | refine go_r ?_ | refine bo_r ?_ | (refine wp_cond (by exact rfl) (fun hc => ?_) (fun hc => ?_) <;> (try simp only [decide_eq_true_eq, decide_eq_false_iff_not, Decidable.not_not, Bool.and_eq_true, Bool.or_eq_true, Bool.not_eq_true', Bool.not_eq_false', Bool.or_eq_false_iff, Bool.and_eq_false_iff, Int.not_lt, Int.not_le, reduceCtorEq, ne_eq, Bool.not_true, Bool.not_false, Bool.not_eq_true, Bool.not_eq_false] at hc) <;> (try (exfalso; omega))) | (refine WP.regionC (id := 0) ?_; (refine su (ap_assign (by exact rq_p rfl rfl)) ?_); refine asemC_end ?_) | (refine WP.regionC (id := 1) ?_; (refine su (ap_move (by exact rq_p rfl rfl)) ?_); (refine su (ap_eqs (by exact rq_p rfl rfl) (by exact rq_p rfl rfl)) ?_); (refine su (ap_move (by exact rq_p rfl rfl)) ?_); (refine sg (by exact gq_vf rfl rfl) (fun he => ap_move (by exact rq_p rfl rfl)) ?_); (refine sg (by exact gq_vf rfl rfl) (fun he => ap_len_str (by exact rfl) (by exact rq_c rfl rfl)) ?_); (refine sg (by exact gq_vf rfl rfl) (fun he => ap_gtr (by exact rq_c rfl rfl) (by exact rq_p rfl rfl)) ?_); (refine su (ap_or (by exact rq_p rfl rfl) (by exact rq_c rfl rfl)) ?_); (refine su (ap_move (by exact rq_p rfl rfl)) ?_); (refine sg (by exact gq_vf rfl rfl) (fun he => ap_move (by exact rq_p rfl rfl)) ?_); (refine sg (by exact gq_vf rfl rfl) (fun he => ap_sidx_n (by exact rq_c rfl rfl) (by exact rq_p rfl rfl) (by exact rfl) (by (try simp only [List.all_cons, List.all_append, List.all_nil, id, Bool.and_true, decide_eq_true_eq, decide_eq_false_iff_not, Decidable.not_not, Bool.and_eq_true, Bool.or_eq_true, Bool.not_eq_true', Bool.not_eq_false', Bool.or_eq_false_iff, Bool.and_eq_false_iff, Int.not_lt, Int.not_le, reduceCtorEq, ne_eq, Bool.not_true, Bool.not_false, Bool.not_eq_true, Bool.not_eq_false] at he); (simp only [List.length_replicate, List.length_set, List.length_append, List.length_map, List.length_cons, List.length_nil, List.length_take, List.length_drop] <;> omega))) ?_); (refine sg_p (by exact gq_vf rfl rfl) (fun he => ⟨(by exact rq_p rfl rfl), (RqL.cons (by exact rq_c rfl rfl) (RqL.nil)), (by first | ((repeat' first | exact SubL.nil | refine SubL.cons ?_ ?_ | exact Sub.refl); done) | fail), (by first | (simp [bdL, bdL_append, AV.bd]; done) | fail), letter_fn _⟩) ?_); (refine sg (by exact gq_vf rfl rfl) (fun he => ap_not (by exact rq_c rfl rfl)) ?_); (refine su (ap_or (by exact rq_p rfl rfl) (by exact rq_c rfl rfl)) ?_); refine asemC_end ?_) | (refine WP.regionC (id := 2) ?_; (refine su (ap_assign (by exact rq_p rfl rfl)) ?_); refine asemC_end ?_) | (refine WP.regionC (id := 3) ?_; (refine su (ap_move (by exact rq_p rfl rfl)) ?_); (refine se_s2b (by kernel_rfl) (by exact rfl) (by omega) ?_); (refine su (ap_len_m (by exact rfl) (by exact rq_p rfl rfl)) ?_); (refine su (ap_move (by exact rq_p rfl rfl)) ?_); refine asemC_end ?_) | refine ret_b (by exact rfl) ?_))
  · rcases hc with (hc | hc) | hc
    · exact absurd hc hne
    · simp [nameOk]; omega
    · have : nameCh s 0 = false := by simp [nameCh, hc]
      simp only [nameOk, range_all_no (k := 0) (n := s.size) (by omega) this, Bool.and_false]
  obtain ⟨⟨_, h48⟩, hl0⟩ := hc
  refine wp_loop (fun (k : Nat) => k ≤ s.size ∧ ∀ i, i < k → nameB (bAt s i) = true) (fun k => s.size - k)
    (fun k => (S 43 [(19, .sl 1 (s.data.toList.map byteA)), (20, intA (s.data.toList.length : Nat)), (21, intA (k : Nat))] 0 [])) 0 ⟨[], ToR.S rfl (by repeat' (first | exact rt_nil | refine rt_e (by exact rfl) (by exact rfl) ?_ | refine rt_p (by exact rfl) (by exact rfl) (by first | (simp [AV.bd, bdL, bdL_append]; done) | fail) ?_)) (by repeat' (exact ro_nil)) (by decide) (by (rw [hm]; exact rfl)) (by exact rfl) (by (simp [bdT, AV.bd, bdL, bdL_append]; done)) (by repeat' (exact True.intro)) (by (rw [hm]; exact Nat.le_of_ble_eq_true rfl))⟩ ⟨Nat.zero_le _, by simp⟩ ?_
  rintro k ⟨hk, hall⟩
  by_cases hlt : k < s.size
  · have hbk := bAt_bd s k
    have hlt' : k < s.data.toList.length := by omega
    have hnb := nth_bAt s k
    (repeat' (first | refine WP.seq ?_ | refine WP.block ?_ | refine go_n ?_ | refine WP.skip ?_ | refine WP.ret ?_ | refine go_r ?_ | refine bl_n ?_ | refine bl_r ?_ | refine bo_r ?_ | (refine wp_cond (by exact rfl) (fun hc => ?_) (fun hc => ?_) <;> (try simp only [decide_eq_true_eq, decide_eq_false_iff_not, Decidable.not_not, Bool.and_eq_true, Bool.or_eq_true, Bool.not_eq_true', Bool.not_eq_false', Bool.or_eq_false_iff, Bool.and_eq_false_iff, Int.not_lt, Int.not_le, reduceCtorEq, ne_eq, Bool.not_true, Bool.not_false, Bool.not_eq_true, Bool.not_eq_false] at hc) <;> (try (exfalso; omega))) | (refine WP.regionC (id := 4) ?_; (refine su (ap_lss (by exact rq_p rfl rfl) (by exact rq_p rfl rfl)) ?_); refine asemC_end ?_) | (refine WP.regionC (id := 5) ?_; (refine su (ap_idx_n (by exact rq_p rfl rfl) (by exact rq_p rfl rfl) (by omega)) ?_); (refine su (ap_load_w (by exact rq_p rfl rfl) (by exact rfl)) ?_); (refine su (ap_assign (by exact rq_p rfl rfl)) ?_); refine asemC_end ?_) | (refine WP.regionC (id := 6) ?_; (refine su (ap_move (by exact rq_p rfl rfl)) ?_); (refine sc_p rfl rfl (by first | ((repeat' first | exact SubL.nil | refine SubL.cons ?_ ?_ | exact Sub.refl); done) | fail) (by first | (simp [bdL, bdL_append, AV.bd]; done) | fail) (letter_fn _) ?_); (refine su (ap_not (by exact rq_p rfl rfl)) ?_); (refine su (ap_move (by exact rq_p rfl rfl)) ?_); (refine sg (by exact gq_vt rfl rfl) (fun he => ap_move (by exact rq_p rfl rfl)) ?_); (refine sg (by exact gq_vt rfl rfl) (fun he => ap_lss (by exact rq_c rfl rfl) (by exact rq_p rfl rfl)) ?_); (refine sg (by exact gq_vt rfl rfl) (fun he => ap_move (by exact rq_c rfl rfl)) ?_); (refine sg (by exact gq_cf rfl rfl) (fun he => ap_move (by exact rq_p rfl rfl)) ?_); (refine sg (by exact gq_cf rfl rfl) (fun he => ap_gtr (by exact rq_c rfl rfl) (by exact rq_p rfl rfl)) ?_); (refine sg (by exact gq_vt rfl rfl) (fun he => ap_or (by exact rq_c rfl rfl) (by exact rq_c rfl rfl)) ?_); (refine su (ap_and (by exact rq_p rfl rfl) (by exact rq_c rfl rfl)) ?_); (refine su (ap_move (by exact rq_p rfl rfl)) ?_); (refine sg (by exact gq_vt rfl rfl) (fun he => ap_move (by exact rq_p rfl rfl)) ?_); (refine sg (by exact gq_vt rfl rfl) (fun he => ap_conv_is (by exact rq_c rfl rfl) (by exact rfl) (by exact rfl) (by kernel_rfl)) ?_); (refine sg_p (by exact gq_vt rfl rfl) (fun he => ⟨(by exact rq_p rfl rfl), (RqL.cons (by exact rq_p rfl rfl) (RqL.cons (by exact rq_c rfl rfl) (RqL.nil))), (by first | ((repeat' first | exact SubL.nil | refine SubL.cons ?_ ?_ | exact Sub.refl); done) | fail), (by first | (simp [bdL, bdL_append, AV.bd]; done) | fail), contains_fn _ _ (by decide)⟩) ?_); (refine sg (by exact gq_vt rfl rfl) (fun he => ap_not (by exact rq_c rfl rfl)) ?_); (refine su (ap_and (by exact rq_p rfl rfl) (by exact rq_c rfl rfl)) ?_); refine asemC_end ?_) | (refine WP.regionC (id := 7) ?_; (refine su (ap_assign (by exact rq_p rfl rfl)) ?_); refine asemC_end ?_) | (refine WP.regionC (id := 8) ?_; (refine su (ap_add (by exact rq_p rfl rfl) (by exact rq_p rfl rfl) (by exact inr_i64_of (by omega))) ?_); (refine su (ap_move (by exact rq_p rfl rfl)) ?_); refine asemC_end ?_) | refine ret_b (by exact rfl) ?_))
    · obtain ⟨⟨h1, h2⟩, h3⟩ := hc
      rw [enc_byte, hnb] at h3
      rw [hnb] at h1 h2
      simp only [Bool.or_eq_false_iff] at h3
      rw [nameOk_no hlt]
      simp only [nameB, h1, h3.1.1, h3.1.2, h3.2, Bool.or_false, Bool.false_or, digB]
      simp; omega
    · refine ⟨k + 1, ⟨by omega, by omega, fun i hi => ?_⟩, ⟨[], ToR.S rfl (by repeat' (first | exact rt_nil | refine rt_e (by exact rfl) (by exact rfl) ?_ | refine rt_p (by exact rfl) (by exact rfl) (by first | (simp [AV.bd, bdL, bdL_append]; done) | fail) ?_)) (by repeat' (exact ro_nil)) (by decide) (by (rw [hm]; exact rfl)) (by exact rfl) (by (simp [bdT, AV.bd, bdL, bdL_append]; done)) (by repeat' (exact True.intro)) (by (rw [hm]; exact Nat.le_of_ble_eq_true rfl))⟩⟩
      by_cases e : i = k
      · subst e
        rw [enc_byte, hnb] at hc
        simp only [nameB, digB]
        simp only [Bool.or_eq_true, Bool.and_eq_true, decide_eq_true_eq] at hc ⊢
        rcases hc with (hc | hc) | (hc | hc) | hc
        · simp [hc]
        · simp [hc]
        · simp [hc]
        · simp [hc]
        · simp [hc]
      · exact hall i (by omega)
  · (repeat' (first | refine WP.seq ?_ | refine go_n ?_ | refine WP.exit ?_ | refine WP.ret ?_ | refine go_x ?_ | refine bl_x ?_ | refine bo_r ?_ | (refine wp_cond (by exact rfl) (fun hc => ?_) (fun hc => ?_) <;> (try simp only [decide_eq_true_eq, decide_eq_false_iff_not, Decidable.not_not, Bool.and_eq_true, Bool.or_eq_true, Bool.not_eq_true', Bool.not_eq_false', Bool.or_eq_false_iff, Bool.and_eq_false_iff, Int.not_lt, Int.not_le, reduceCtorEq, ne_eq, Bool.not_true, Bool.not_false, Bool.not_eq_true, Bool.not_eq_false] at hc) <;> (try (exfalso; omega))) | (refine WP.regionC (id := 4) ?_; (refine su (ap_lss (by exact rq_p rfl rfl) (by exact rq_p rfl rfl)) ?_); refine asemC_end ?_) | (refine WP.regionC (id := 9) ?_; (refine su (ap_assign (by exact rq_p rfl rfl)) ?_); refine asemC_end ?_) | refine ret_b (by exact rfl) ?_))
    rw [nameOk_of (by omega) (by omega) hl0 fun i hi => hall i (by omega)]
end Go.Lg

/- grammar: named, Valid -/
namespace Go.Lg
open Go.Proofs
set_option linter.unusedSimpArgs false
set_option linter.unusedVariables false
attribute [local irreducible] Ap Rq asemC WP RunD Ret Gq thenA inBlockA bodyQ noGotoA RqL RqP OpP
set_option maxHeartbeats 4000000

/-- the names seen so far -/
structure Seen (m : List (ByteArray × Unit)) (l : List ByteArray) : Prop where
  ok : ∀ x, x ∈ l → nameOk x = true
  nd : l.Nodup
  mem : ∀ x, (aget m x).isSome = true ↔ x ∈ l
theorem Seen.nil : Seen [] [] := ⟨by simp, by simp, by simp [aget, afind]⟩
theorem Seen.add {m : List (ByteArray × Unit)} {l : List ByteArray} {x : ByteArray} (h : Seen m l) (h1 : (aget m x).isSome = false) (h2 : nameOk x = true) : Seen (aset m x ()) (l ++ [x]) := by
  have hx : x ∉ l := fun e => by have := (h.mem x).2 e; rw [h1] at this; cases this
  refine ⟨fun y hy => ?_, ?_, fun y => ?_⟩
  · rcases List.mem_append.1 hy with hy | hy
    · exact h.ok y hy
    · rw [List.mem_singleton.1 hy]; exact h2
  · rw [List.nodup_append]; exact ⟨h.nd, by simp, fun a ha b hb => by rw [List.mem_singleton.1 hb]; rintro rfl; exact hx ha⟩
  · rw [aget_aset]
    by_cases e : y = x
    · subst e; simp
    · rw [if_neg e, h.mem y]; simp [e]
theorem Seen.all {m : List (ByteArray × Unit)} {l : List ByteArray} (h : Seen m l) : namesOk l = true := by
  simp only [namesOk, Bool.and_eq_true, decide_eq_true_eq, List.all_eq_true]; exact ⟨h.ok, h.nd⟩
theorem Seen.no {m : List (ByteArray × Unit)} {l r : List ByteArray} {x : ByteArray} (h : Seen m l) (h1 : (aget m x).isSome = true ∨ nameOk x = false) : namesOk (l ++ x :: r) = false := by
  cases hq : namesOk (l ++ x :: r) with
  | false => rfl
  | true =>
    simp only [namesOk, Bool.and_eq_true, decide_eq_true_eq, List.all_eq_true] at hq
    rcases h1 with h1 | h1
    · have := (h.mem x).1 h1
      exact absurd rfl ((List.nodup_append.1 hq.2).2.2 x this x (by simp))
    · have := hq.1 x (by simp); rw [h1] at this; cases this
theorem take_flatten {α : Type} [Inhabited α] {L : List (List α)} {j : Nat} (h : j < L.length) : (L.take (j + 1)).flatten = (L.take j).flatten ++ nth L j := by
  rw [take_succ_nth h, List.flatten_append]; simp
theorem split_at {α : Type} [Inhabited α] {L : List (List α)} {j k : Nat} (h : j < L.length) (hk : k < (nth L j).length) : ∃ r, L.flatten = ((L.take j).flatten ++ (nth L j).take k) ++ nth (nth L j) k :: r := by
  refine ⟨(nth L j).drop (k + 1) ++ (L.drop (j + 1)).flatten, ?_⟩
  conv => lhs; rw [← List.take_append_drop (j + 1) L, List.flatten_append, take_flatten h]
  conv => lhs; rw [← List.take_append_drop k (nth L j)]
  rw [List.drop_eq_getElem_cons hk, ← nth_eq hk]
  simp

theorem named_fn (g : Gram) (h1 : g.terms.length ≤ 120) (h2 : g.nonterms.length ≤ 120) : Fn Tryd.prog 22 [gramA g] (boolA (namesOk (g.terms ++ g.nonterms))) := by
  refine Fn.intro (by exact rfl) (by kernel_rfl) Tryd.func22 rfl rfl Tryd.ntmps22 (by exact Nat.le_of_ble_eq_true rfl) ?_; intro Γ hm
  have hfl : [g.terms, g.nonterms].flatten = g.terms ++ g.nonterms := by simp
  have hln : ∀ j, j < 2 → (nth [g.terms, g.nonterms] j).length ≤ 120 := by
    intro j hj
    match j, hj with
    | 0, _ => exact h1
    | 1, _ => exact h2
  have hll : [g.terms, g.nonterms].length = 2 := rfl
  rw [← hfl]
  (repeat' (first | refine WP.seq ?_ | refine WP.block ?_ | refine go_n ?_ | (refine WP.regionC (id := 0) ?_; (refine se_box (by exact rfl) (by exact ⟨rfl, rfl⟩) ?_); (refine su (ap_assign (by exact rq_p rfl rfl)) ?_); refine asemC_end ?_) | (refine WP.regionC (id := 1) ?_; (refine se_mkmap ?_); (refine su (ap_assign (by exact rq_p rfl rfl)) ?_); refine asemC_end ?_) | (refine WP.regionC (id := 2) ?_; (refine su (ap_field_p (by exact rq_p rfl rfl) (by exact rfl) (by exact rfl)) ?_); (refine su (ap_load_p (by exact rq_p rfl rfl) (by exact rfl) (by exact rfl) (by exact rfl)) ?_); (refine su (ap_field_p (by exact rq_p rfl rfl) (by exact rfl) (by exact rfl)) ?_); (refine su (ap_load_p (by exact rq_p rfl rfl) (by exact rfl) (by exact rfl) (by exact rfl)) ?_); (refine se_lit (OpP.cons (by exact rfl) (OpP.cons (by exact rfl) (OpP.nil))) (by exact rfl) (by exact rfl) (by exact rfl) (by exact rfl) (by exact rfl) (by exact rfl) ?_); (refine su (ap_len_r (by exact rfl) (by exact rq_p rfl rfl)) ?_); (refine su (ap_move (by exact rq_p rfl rfl)) ?_); refine asemC_end ?_)))
  refine wp_loop (fun (x : Nat × List (ByteArray × Unit)) => x.1 ≤ 2 ∧ Seen x.2 ([g.terms, g.nonterms].take x.1).flatten) (fun x => 2 - x.1)
    (fun x => (S 44 [(3, .map 0), (15, .ref 1 1 0 2), (16, intA (2 : Nat)), (17, intA (x.1 : Nat))] 2 [(0, some (.map (mapA strK unitA x.2))), (1, some (.arr 1 ([g.terms, g.nonterms].map strsA)))])) (0, []) ⟨[1, 2], ToR.S rfl (by repeat' (first | exact rt_nil | refine rt_r (by exact rfl) (by exact rfl) ?_ | refine rt_m (by exact rfl) (by exact rfl) ?_ | refine rt_e (by exact rfl) (by exact rfl) ?_)) (by repeat' (first | exact ro_nil | refine ro_p (by exact rfl) (by first | exact rfl | fail) (by first | exact bdL_map (fun _ => by simp [AV.bd, bdL, bdL_append]) _ | fail) ?_ | refine ro_m (by exact rfl) (by exact rfl) (mapA_bd (fun _ => by exact rfl) _) ?_)) (by decide) (by (rw [hm]; exact rfl)) (by exact rfl) (by (simp [bdT, AV.bd, bdL, bdL_append]; done)) (by repeat' (first | exact True.intro | exact rfl | refine And.intro ?_ ?_ | exact bdL_map (fun _ => by simp [AV.bd, bdL, bdL_append]) _)) (by (rw [hm]; exact Nat.le_of_ble_eq_true rfl))⟩ ⟨by decide, Seen.nil⟩ ?_
  rintro ⟨j, m⟩ ⟨hj, hs⟩
  dsimp only at *
  by_cases hlt : j < 2
  · have hjl := hln j hlt
    (repeat' (first | refine WP.seq ?_ | refine WP.block ?_ | refine go_n ?_ | refine WP.skip ?_ | (refine wp_cond (by exact rfl) (fun hc => ?_) (fun hc => ?_) <;> (try simp only [decide_eq_true_eq, decide_eq_false_iff_not, Decidable.not_not, Bool.and_eq_true, Bool.or_eq_true, Bool.not_eq_true', Bool.not_eq_false', Bool.or_eq_false_iff, Bool.and_eq_false_iff, Int.not_lt, Int.not_le, reduceCtorEq, ne_eq, Bool.not_true, Bool.not_false, Bool.not_eq_true, Bool.not_eq_false] at hc) <;> (try (exfalso; omega))) | (refine WP.regionC (id := 3) ?_; (refine su (ap_lss (by exact rq_p rfl rfl) (by exact rq_p rfl rfl)) ?_); refine asemC_end ?_) | (refine WP.regionC (id := 4) ?_; (refine su (ap_idxr_n (by exact rq_p rfl rfl) (by exact rq_p rfl rfl) (by omega)) ?_); (refine su (ap_load_pt (by exact rq_p rfl rfl) (by exact rfl) (by omega) (by exact rfl)) ?_); (refine su (ap_assign (by exact rq_p rfl rfl)) ?_); refine asemC_end ?_) | (refine WP.regionC (id := 5) ?_; (refine su (ap_move (by exact rq_p rfl rfl)) ?_); (refine su (ap_len_m (by exact rfl) (by exact rq_p rfl rfl)) ?_); (refine su (ap_move (by exact rq_p rfl rfl)) ?_); refine asemC_end ?_)))
    refine wp_loop (fun (x : Nat × List (ByteArray × Unit)) => x.1 ≤ (nth [g.terms, g.nonterms] j).length ∧ Seen x.2 (([g.terms, g.nonterms].take j).flatten ++ (nth [g.terms, g.nonterms] j).take x.1)) (fun x => (nth [g.terms, g.nonterms] j).length - x.1)
      (fun x => (S 44 [(3, .map 0), (15, .ref 1 1 0 2), (16, intA (2 : Nat)), (17, intA (j : Nat)), (21, strsA (nth [g.terms, g.nonterms] j)), (22, intA ((nth [g.terms, g.nonterms] j).length : Nat)), (23, intA (x.1 : Nat))] 2 [(0, some (.map (mapA strK unitA x.2))), (1, some (.arr 1 ([g.terms, g.nonterms].map strsA)))])) (0, m) ⟨[0, 1], ToR.S rfl (by repeat' (first | exact rt_nil | refine rt_r (by exact rfl) (by exact rfl) ?_ | refine rt_m (by exact rfl) (by exact rfl) ?_ | refine rt_e (by exact rfl) (by exact rfl) ?_ | refine rt_p (by exact rfl) (by exact rfl) (by first | (simp [AV.bd, bdL, bdL_append]; done) | fail) ?_)) (by repeat' (first | exact ro_nil | refine ro_p (by exact rfl) (by first | exact rfl | fail) (by first | exact bdL_map (fun _ => by simp [AV.bd, bdL, bdL_append]) _ | fail) ?_ | refine ro_m (by exact rfl) (by exact rfl) (mapA_bd (fun _ => by exact rfl) _) ?_)) (by decide) (by (rw [hm]; exact rfl)) (by exact rfl) (by (simp [bdT, AV.bd, bdL, bdL_append]; done)) (by repeat' (first | exact True.intro | exact mapA_all (fun _ => by exact rfl) _ | refine And.intro ?_ ?_ | exact bdL_map (fun _ => by simp [AV.bd, bdL, bdL_append]) _)) (by (rw [hm]; exact Nat.le_of_ble_eq_true rfl))⟩ ⟨Nat.zero_le _, by simpa using hs⟩ ?_
    rintro ⟨k, m2⟩ ⟨hk, hs2⟩
    dsimp only at *
    by_cases hkl : k < (nth [g.terms, g.nonterms] j).length
    · (repeat' (first | refine WP.seq ?_ | refine WP.block ?_ | refine go_n ?_ | refine WP.skip ?_ | refine WP.ret ?_ | refine go_r ?_ | refine bl_n ?_ | refine bl_r ?_ | refine bo_r ?_ | (refine wp_cond (by exact rfl) (fun hc => ?_) (fun hc => ?_) <;> (try simp only [decide_eq_true_eq, decide_eq_false_iff_not, Decidable.not_not, Bool.and_eq_true, Bool.or_eq_true, Bool.not_eq_true', Bool.not_eq_false', Bool.or_eq_false_iff, Bool.and_eq_false_iff, Int.not_lt, Int.not_le, reduceCtorEq, ne_eq, Bool.not_true, Bool.not_false, Bool.not_eq_true, Bool.not_eq_false] at hc) <;> (try (exfalso; omega))) | (refine WP.regionC (id := 6) ?_; (refine su (ap_lss (by exact rq_p rfl rfl) (by exact rq_p rfl rfl)) ?_); refine asemC_end ?_) | (refine WP.regionC (id := 7) ?_; (refine su (ap_idx_n (by exact rq_p rfl rfl) (by exact rq_p rfl rfl) (by omega)) ?_); (refine su (ap_load_w (by exact rq_p rfl rfl) (by exact rfl)) ?_); (refine su (ap_assign (by exact rq_p rfl rfl)) ?_); refine asemC_end ?_) | (refine WP.regionC (id := 8) ?_; (refine su (ap_move (by exact rq_p rfl rfl)) ?_); (refine su (ap_move (by exact rq_p rfl rfl)) ?_); (refine su (ap_look2 (kf := strK) (f := unitA) (z0 := ()) (by exact rq_p rfl rfl) (by exact rfl) (by exact rq_p rfl rfl) (by exact rfl)) ?_); (refine su (ap_move (by exact rq_p rfl rfl)) ?_); (refine su (ap_extract (by exact rq_p rfl rfl) (by exact rfl)) ?_); (refine su (ap_extract (by exact rq_p rfl rfl) (by exact rfl)) ?_); (refine se_unit_alloc (by kernel_rfl) ?_); (refine se_store_b (by exact rfl) (by exact rfl) (by exact rfl) (by exact rfl) ?_); (refine su (ap_assign (by exact rq_p rfl rfl)) ?_); refine asemC_end ?_) | (refine WP.regionC (id := 9) ?_; (refine su (ap_move (by exact rq_p rfl rfl)) ?_); (refine su (ap_move (by exact rq_p rfl rfl)) ?_); (refine sg (by exact gq_vf rfl rfl) (fun he => ap_move (by exact rq_p rfl rfl)) ?_); (refine sg_p (by exact gq_vf rfl rfl) (fun he => ⟨(by exact rq_p rfl rfl), (RqL.cons (by exact rq_c rfl rfl) (RqL.nil)), (by first | ((repeat' first | exact SubL.nil | refine SubL.cons ?_ ?_ | exact Sub.refl); done) | fail), (by first | (simp [bdL, bdL_append, AV.bd]; done) | fail), gname_fn _⟩) ?_); (refine sg (by exact gq_vf rfl rfl) (fun he => ap_not (by exact rq_c rfl rfl)) ?_); (refine su (ap_or (by exact rq_p rfl rfl) (by exact rq_c rfl rfl)) ?_); refine asemC_end ?_) | (refine WP.regionC (id := 10) ?_; (refine su (ap_assign (by exact rq_p rfl rfl)) ?_); refine asemC_end ?_) | (refine WP.regionC (id := 11) ?_; (refine su (ap_move (by exact rq_p rfl rfl)) ?_); (refine su (ap_move (by exact rq_p rfl rfl)) ?_); (refine se_unit_build (by kernel_rfl) ?_); (refine se_mapset (kf := strK) (f := unitA) (v := ()) (by exact rfl) (by exact rfl) (by exact rfl) (by exact rfl) ?_); refine asemC_end ?_) | (refine WP.regionC (id := 12) ?_; (refine su (ap_add (by exact rq_p rfl rfl) (by exact rq_p rfl rfl) (by exact inr_i64_of (by omega))) ?_); (refine su (ap_move (by exact rq_p rfl rfl)) ?_); refine asemC_end ?_) | refine ret_b (by exact rfl) ?_))
      · obtain ⟨r, hr⟩ := split_at (L := [g.terms, g.nonterms]) (by omega) hkl
        rw [hr, hs2.no hc]
      · refine ⟨(k + 1, aset m2 (nth (nth [g.terms, g.nonterms] j) k) ()), ⟨by dsimp only; omega, by dsimp only; omega, ?_⟩, ⟨[0, 1], ToR.S rfl (by repeat' (first | exact rt_nil | refine rt_r (by exact rfl) (by exact rfl) ?_ | refine rt_m (by exact rfl) (by exact rfl) ?_ | refine rt_e (by exact rfl) (by exact rfl) ?_ | refine rt_p (by exact rfl) (by exact rfl) (by first | (simp [AV.bd, bdL, bdL_append]; done) | fail) ?_)) (by repeat' (first | exact ro_nil | refine ro_p (by exact rfl) (by first | exact rfl | fail) (by first | exact bdL_map (fun _ => by simp [AV.bd, bdL, bdL_append]) _ | fail) ?_ | refine ro_m (by exact rfl) (by exact rfl) (mapA_bd (fun _ => by exact rfl) _) ?_)) (by decide) (by (rw [hm]; exact rfl)) (by exact rfl) (by (simp [bdT, AV.bd, bdL, bdL_append]; done)) (by repeat' (first | exact True.intro | exact mapA_all (fun _ => by exact rfl) _ | refine And.intro ?_ ?_ | exact bdL_map (fun _ => by simp [AV.bd, bdL, bdL_append]) _)) (by (rw [hm]; exact Nat.le_of_ble_eq_true rfl))⟩⟩
        have := hs2.add hc.1 hc.2
        rw [List.append_assoc, ← take_succ_nth hkl] at this
        exact this
    · (repeat' (first | refine WP.seq ?_ | refine go_n ?_ | refine WP.exit ?_ | refine go_x ?_ | refine bl_n ?_ | refine bl_x ?_ | (refine wp_cond (by exact rfl) (fun hc => ?_) (fun hc => ?_) <;> (try simp only [decide_eq_true_eq, decide_eq_false_iff_not, Decidable.not_not, Bool.and_eq_true, Bool.or_eq_true, Bool.not_eq_true', Bool.not_eq_false', Bool.or_eq_false_iff, Bool.and_eq_false_iff, Int.not_lt, Int.not_le, reduceCtorEq, ne_eq, Bool.not_true, Bool.not_false, Bool.not_eq_true, Bool.not_eq_false] at hc) <;> (try (exfalso; omega))) | (refine WP.regionC (id := 6) ?_; (refine su (ap_lss (by exact rq_p rfl rfl) (by exact rq_p rfl rfl)) ?_); refine asemC_end ?_) | (refine WP.regionC (id := 13) ?_; (refine su (ap_add (by exact rq_p rfl rfl) (by exact rq_p rfl rfl) (by exact inr_i64_of (by omega))) ?_); (refine su (ap_move (by exact rq_p rfl rfl)) ?_); refine asemC_end ?_)))
      refine ⟨(j + 1, m2), ⟨by dsimp only; omega, by dsimp only; omega, ?_⟩, ⟨[0, 1], ToR.S rfl (by repeat' (first | exact rt_nil | refine rt_r (by exact rfl) (by exact rfl) ?_ | refine rt_m (by exact rfl) (by exact rfl) ?_ | refine rt_e (by exact rfl) (by exact rfl) ?_)) (by repeat' (first | exact ro_nil | refine ro_p (by exact rfl) (by first | exact rfl | fail) (by first | exact bdL_map (fun _ => by simp [AV.bd, bdL, bdL_append]) _ | fail) ?_ | refine ro_m (by exact rfl) (by exact rfl) (mapA_bd (fun _ => by exact rfl) _) ?_)) (by decide) (by (rw [hm]; exact rfl)) (by exact rfl) (by (simp [bdT, AV.bd, bdL, bdL_append]; done)) (by repeat' (first | exact True.intro | exact mapA_all (fun _ => by exact rfl) _ | refine And.intro ?_ ?_ | exact bdL_map (fun _ => by simp [AV.bd, bdL, bdL_append]) _)) (by (rw [hm]; exact Nat.le_of_ble_eq_true rfl))⟩⟩
      dsimp only
      rw [take_flatten (by omega)]
      rw [List.take_of_length_le (l := nth [g.terms, g.nonterms] j) (by omega)] at hs2
      exact hs2
  · (repeat' (first | refine WP.seq ?_ | refine go_n ?_ | refine WP.exit ?_ | refine WP.ret ?_ | refine go_x ?_ | refine bl_x ?_ | refine bo_r ?_ | (refine wp_cond (by exact rfl) (fun hc => ?_) (fun hc => ?_) <;> (try simp only [decide_eq_true_eq, decide_eq_false_iff_not, Decidable.not_not, Bool.and_eq_true, Bool.or_eq_true, Bool.not_eq_true', Bool.not_eq_false', Bool.or_eq_false_iff, Bool.and_eq_false_iff, Int.not_lt, Int.not_le, reduceCtorEq, ne_eq, Bool.not_true, Bool.not_false, Bool.not_eq_true, Bool.not_eq_false] at hc) <;> (try (exfalso; omega))) | (refine WP.regionC (id := 3) ?_; (refine su (ap_lss (by exact rq_p rfl rfl) (by exact rq_p rfl rfl)) ?_); refine asemC_end ?_) | (refine WP.regionC (id := 14) ?_; (refine su (ap_assign (by exact rq_p rfl rfl)) ?_); refine asemC_end ?_) | refine ret_b (by exact rfl) ?_))
    rw [List.take_of_length_le (by omega)] at hs
    exact hs.all.symm

theorem gvalid1_fn (g : Gram) (x : Int) (hn : g.nonterms.length ≤ 120) : Fn Tryd.prog 24 [intA x, .iptr (gramA g).cells 0] (boolA (!symOk g x)) := by
  refine Fn.intro (by exact rfl) (by kernel_rfl) Tryd.func24 rfl rfl Tryd.ntmps24 (by exact Nat.le_of_ble_eq_true rfl) ?_; intro Γ hm
  (repeat' (first | refine WP.seq ?_ | refine go_n ?_ | refine WP.ret ?_ | refine bo_r ?_ | (refine WP.regionC (id := 0) ?_; (refine su (ap_assign (by exact rq_p rfl rfl)) ?_); refine asemC_end ?_) | (refine WP.regionC (id := 1) ?_; (refine su (ap_move (by exact rq_p rfl rfl)) ?_); (refine su (ap_field_i (by exact rq_p rfl rfl) (by exact rfl) (by exact rfl)) ?_); (refine su (ap_load_i (by exact rq_p rfl rfl) (by exact rfl)) ?_); (refine su (ap_len_m (by exact rfl) (by exact rq_p rfl rfl)) ?_); (refine su (ap_geq (by exact rq_p rfl rfl) (by exact rq_p rfl rfl)) ?_); (refine su (ap_move (by exact rq_p rfl rfl)) ?_); (refine sg (by exact gq_vf rfl rfl) (fun he => ap_move (by exact rq_p rfl rfl)) ?_); (refine sg (by exact gq_vf rfl rfl) (fun he => ap_field_i (by exact rq_p rfl rfl) (by exact rfl) (by exact rfl)) ?_); (refine sg (by exact gq_vf rfl rfl) (fun he => ap_load_i (by exact rq_c rfl rfl) (by exact rfl)) ?_); (refine sg (by exact gq_vf rfl rfl) (fun he => ap_len_m (by exact rfl) (by exact rq_c rfl rfl)) ?_); (refine sg (by exact gq_vf rfl rfl) (fun he => ap_neg (by exact rq_c rfl rfl) (by (try simp only [List.all_cons, List.all_append, List.all_nil, id, Bool.and_true, decide_eq_true_eq, decide_eq_false_iff_not, Decidable.not_not, Bool.and_eq_true, Bool.or_eq_true, Bool.not_eq_true', Bool.not_eq_false', Bool.or_eq_false_iff, Bool.and_eq_false_iff, Int.not_lt, Int.not_le, reduceCtorEq, ne_eq, Bool.not_true, Bool.not_false, Bool.not_eq_true, Bool.not_eq_false] at he); exact inr_i64_of (by omega))) ?_); (refine sg (by exact gq_vf rfl rfl) (fun he => ap_lss (by exact rq_c rfl rfl) (by exact rq_c rfl rfl)) ?_); (refine su (ap_or (by exact rq_p rfl rfl) (by exact rq_c rfl rfl)) ?_); (refine su (ap_assign (by exact rq_p rfl rfl)) ?_); refine asemC_end ?_) | refine ret_b (by exact rfl) ?_))
  simp only [symOk]
  rw [Bool.eq_iff_iff]
  simp
  try omega
theorem any_not_sym {g : Gram} {l : List Int} : l.any (fun x => !symOk g x) = !l.all (symOk g) := by
  induction l with
  | nil => rfl
  | cons x l ih => simp only [List.any_cons, List.all_cons, ih, Bool.not_and]
theorem gvalid_fn (g : Gram) : Fn Tryd.prog 12 [gramA g] (boolA (validG g)) := by
  refine Fn.intro (by exact rfl) (by kernel_rfl) Tryd.func12 rfl rfl Tryd.ntmps12 (by exact Nat.le_of_ble_eq_true rfl) ?_; intro Γ hm
  refine wp_lens 0 rfl fun hl => ?_
  obtain ⟨hl1, hl2, hl3, hl4⟩ := (lens_gramA g).1 hl
  (repeat' (first | refine WP.seq ?_ | refine WP.block ?_ | refine go_n ?_ | refine WP.skip ?_ | refine WP.ret ?_ | refine go_r ?_ | refine bo_r ?_ | (refine wp_cond (by exact rfl) (fun hc => ?_) (fun hc => ?_) <;> (try simp only [decide_eq_true_eq, decide_eq_false_iff_not, Decidable.not_not, Bool.and_eq_true, Bool.or_eq_true, Bool.not_eq_true', Bool.not_eq_false', Bool.or_eq_false_iff, Bool.and_eq_false_iff, Int.not_lt, Int.not_le, reduceCtorEq, ne_eq, Bool.not_true, Bool.not_false, Bool.not_eq_true, Bool.not_eq_false] at hc) <;> (try (exfalso; omega))) | (refine WP.regionC (id := 0) ?_; (refine se_box (by exact rfl) (by exact ⟨rfl, rfl⟩) ?_); (refine su (ap_assign (by exact rq_p rfl rfl)) ?_); refine asemC_end ?_) | (refine WP.regionC (id := 1) ?_; (refine su (ap_field_p (by exact rq_p rfl rfl) (by exact rfl) (by exact rfl)) ?_); (refine su (ap_load_p (by exact rq_p rfl rfl) (by exact rfl) (by exact rfl) (by exact rfl)) ?_); (refine su (ap_len_m (by exact rfl) (by exact rq_p rfl rfl)) ?_); (refine su (ap_gtr (by exact rq_p rfl rfl) (by exact rq_p rfl rfl)) ?_); (refine su (ap_move (by exact rq_p rfl rfl)) ?_); (refine sg (by exact gq_vf rfl rfl) (fun he => ap_field_p (by exact rq_p rfl rfl) (by exact rfl) (by exact rfl)) ?_); (refine sg (by exact gq_vf rfl rfl) (fun he => ap_load_p (by exact rq_c rfl rfl) (by exact rfl) (by exact rfl) (by exact rfl)) ?_); (refine sg (by exact gq_vf rfl rfl) (fun he => ap_len_m (by exact rfl) (by exact rq_c rfl rfl)) ?_); (refine sg (by exact gq_vf rfl rfl) (fun he => ap_lss (by exact rq_c rfl rfl) (by exact rq_p rfl rfl)) ?_); (refine su (ap_or (by exact rq_p rfl rfl) (by exact rq_c rfl rfl)) ?_); (refine su (ap_move (by exact rq_p rfl rfl)) ?_); (refine sg (by exact gq_vf rfl rfl) (fun he => ap_field_p (by exact rq_p rfl rfl) (by exact rfl) (by exact rfl)) ?_); (refine sg (by exact gq_vf rfl rfl) (fun he => ap_load_p (by exact rq_c rfl rfl) (by exact rfl) (by exact rfl) (by exact rfl)) ?_); (refine sg (by exact gq_vf rfl rfl) (fun he => ap_len_m (by exact rfl) (by exact rq_c rfl rfl)) ?_); (refine sg (by exact gq_vf rfl rfl) (fun he => ap_gtr (by exact rq_c rfl rfl) (by exact rq_p rfl rfl)) ?_); (refine su (ap_or (by exact rq_p rfl rfl) (by exact rq_c rfl rfl)) ?_); (refine su (ap_move (by exact rq_p rfl rfl)) ?_); (refine sg (by exact gq_vf rfl rfl) (fun he => ap_load_pw (by exact rq_p rfl rfl) (by exact rfl) (by exact rfl) (by exact rfl)) ?_); (refine sg_p (by exact gq_vf rfl rfl) (fun he => ⟨(by exact rq_p rfl rfl), (RqL.cons (by exact rq_c rfl rfl) (RqL.nil)), (by first | ((repeat' first | exact SubL.nil | refine SubL.cons ?_ ?_ | exact Sub.refl); done) | fail), (by first | (simp [bdL, bdL_append, AV.bd]; done) | fail), named_fn _ (by (try simp only [List.all_cons, List.all_append, List.all_nil, id, Bool.and_true, decide_eq_true_eq, decide_eq_false_iff_not, Decidable.not_not, Bool.and_eq_true, Bool.or_eq_true, Bool.not_eq_true', Bool.not_eq_false', Bool.or_eq_false_iff, Bool.and_eq_false_iff, Int.not_lt, Int.not_le, reduceCtorEq, ne_eq, Bool.not_true, Bool.not_false, Bool.not_eq_true, Bool.not_eq_false] at he); omega) (by (try simp only [List.all_cons, List.all_append, List.all_nil, id, Bool.and_true, decide_eq_true_eq, decide_eq_false_iff_not, Decidable.not_not, Bool.and_eq_true, Bool.or_eq_true, Bool.not_eq_true', Bool.not_eq_false', Bool.or_eq_false_iff, Bool.and_eq_false_iff, Int.not_lt, Int.not_le, reduceCtorEq, ne_eq, Bool.not_true, Bool.not_false, Bool.not_eq_true, Bool.not_eq_false] at he); omega)⟩) ?_); (refine sg (by exact gq_vf rfl rfl) (fun he => ap_not (by exact rq_c rfl rfl)) ?_); (refine su (ap_or (by exact rq_p rfl rfl) (by exact rq_c rfl rfl)) ?_); (refine su (ap_move (by exact rq_p rfl rfl)) ?_); (refine sg (by exact gq_vf rfl rfl) (fun he => ap_field_p (by exact rq_p rfl rfl) (by exact rfl) (by exact rfl)) ?_); (refine sg (by exact gq_vf rfl rfl) (fun he => ap_load_p (by exact rq_c rfl rfl) (by exact rfl) (by exact rfl) (by exact rfl)) ?_); (refine sg (by exact gq_vf rfl rfl) (fun he => ap_lss (by exact rq_c rfl rfl) (by exact rq_p rfl rfl)) ?_); (refine su (ap_or (by exact rq_p rfl rfl) (by exact rq_c rfl rfl)) ?_); (refine su (ap_move (by exact rq_p rfl rfl)) ?_); (refine sg (by exact gq_vf rfl rfl) (fun he => ap_field_p (by exact rq_p rfl rfl) (by exact rfl) (by exact rfl)) ?_); (refine sg (by exact gq_vf rfl rfl) (fun he => ap_load_p (by exact rq_c rfl rfl) (by exact rfl) (by exact rfl) (by exact rfl)) ?_); (refine sg (by exact gq_vf rfl rfl) (fun he => ap_field_p (by exact rq_p rfl rfl) (by exact rfl) (by exact rfl)) ?_); (refine sg (by exact gq_vf rfl rfl) (fun he => ap_load_p (by exact rq_c rfl rfl) (by exact rfl) (by exact rfl) (by exact rfl)) ?_); (refine sg (by exact gq_vf rfl rfl) (fun he => ap_len_m (by exact rfl) (by exact rq_c rfl rfl)) ?_); (refine sg (by exact gq_vf rfl rfl) (fun he => ap_geq (by exact rq_c rfl rfl) (by exact rq_c rfl rfl)) ?_); (refine su (ap_or (by exact rq_p rfl rfl) (by exact rq_c rfl rfl)) ?_); (refine su (ap_move (by exact rq_p rfl rfl)) ?_); (refine sg (by exact gq_vf rfl rfl) (fun he => ap_field_p (by exact rq_p rfl rfl) (by exact rfl) (by exact rfl)) ?_); (refine sg (by exact gq_vf rfl rfl) (fun he => ap_load_p (by exact rq_c rfl rfl) (by exact rfl) (by exact rfl) (by exact rfl)) ?_); (refine sg (by exact gq_vf rfl rfl) (fun he => ap_len_m (by exact rfl) (by exact rq_c rfl rfl)) ?_); (refine sg (by exact gq_vf rfl rfl) (fun he => ap_lss (by exact rq_c rfl rfl) (by exact rq_p rfl rfl)) ?_); (refine su (ap_or (by exact rq_p rfl rfl) (by exact rq_c rfl rfl)) ?_); (refine su (ap_move (by exact rq_p rfl rfl)) ?_); (refine sg (by exact gq_vf rfl rfl) (fun he => ap_field_p (by exact rq_p rfl rfl) (by exact rfl) (by exact rfl)) ?_); (refine sg (by exact gq_vf rfl rfl) (fun he => ap_load_p (by exact rq_c rfl rfl) (by exact rfl) (by exact rfl) (by exact rfl)) ?_); (refine sg (by exact gq_vf rfl rfl) (fun he => ap_len_m (by exact rfl) (by exact rq_c rfl rfl)) ?_); (refine sg (by exact gq_vf rfl rfl) (fun he => ap_gtr (by exact rq_c rfl rfl) (by exact rq_p rfl rfl)) ?_); (refine su (ap_or (by exact rq_p rfl rfl) (by exact rq_c rfl rfl)) ?_); refine asemC_end ?_) | (refine WP.regionC (id := 2) ?_; (refine su (ap_assign (by exact rq_p rfl rfl)) ?_); refine asemC_end ?_) | (refine WP.regionC (id := 3) ?_; (refine su (ap_field_p (by exact rq_p rfl rfl) (by exact rfl) (by exact rfl)) ?_); (refine su (ap_load_p (by exact rq_p rfl rfl) (by exact rfl) (by exact rfl) (by exact rfl)) ?_); (refine su (ap_len_m (by exact rfl) (by exact rq_p rfl rfl)) ?_); (refine su (ap_move (by exact rq_p rfl rfl)) ?_); refine asemC_end ?_) | refine ret_b (by exact rfl) ?_))
  · by_cases hns : namesOk (g.terms ++ g.nonterms) = true
    · simp only [hns, Bool.true_eq_false, or_false] at hc
      simp [validG]; omega
    · simp [validG, hns]
  have hns : namesOk (g.terms ++ g.nonterms) = true := hc.1.1.1.1.2
  have hn2 : g.nonterms.length ≤ 120 := by omega
  refine wp_loop (fun (i : Nat) => i ≤ g.rules.length ∧ (g.rules.take i).all (ruleOk g) = true) (fun i => g.rules.length - i)
    (fun i => (S 90 [(1, .ptr 0 4 0 0), (52, rulesA g.rules), (53, intA (g.rules.length : Nat)), (54, intA (i : Nat))] 1 [(0, some (.arr 4 [gramA g]))])) 0 ⟨[0], ToR.S rfl (by repeat' (first | exact rt_nil | refine rt_t (by exact rfl) (by exact rfl) ?_ | refine rt_e (by exact rfl) (by exact rfl) ?_ | refine rt_p (by exact rfl) (by exact rfl) (by first | (simp [AV.bd, bdL, bdL_append]; done) | fail) ?_)) (by repeat' (first | exact ro_nil | refine ro_p (by exact rfl) (by first | exact rfl | fail) (by first | (simp [bdL, bdL_append, AV.bd]; done) | fail) ?_)) (by decide) (by (rw [hm]; exact rfl)) (by exact rfl) (by (simp [bdT, AV.bd, bdL, bdL_append]; done)) (by repeat' (first | exact True.intro | refine And.intro ?_ ?_ | (simp [bdOq, bdL, bdL_append, AV.bd]; done))) (by (rw [hm]; exact Nat.le_of_ble_eq_true rfl))⟩ ⟨Nat.zero_le _, rfl⟩ ?_
  rintro i ⟨hi, hall⟩
  (repeat' (first | refine WP.seq ?_ | refine WP.block ?_ | refine go_n ?_ | refine WP.skip ?_ | refine WP.exit ?_ | refine WP.ret ?_ | refine go_x ?_ | refine go_r ?_ | refine bl_n ?_ | refine bl_r ?_ | refine bl_x ?_ | refine bo_r ?_ | (refine wp_cond (by exact rfl) (fun hc => ?_) (fun hc => ?_) <;> (try simp only [decide_eq_true_eq, decide_eq_false_iff_not, Decidable.not_not, Bool.and_eq_true, Bool.or_eq_true, Bool.not_eq_true', Bool.not_eq_false', Bool.or_eq_false_iff, Bool.and_eq_false_iff, Int.not_lt, Int.not_le, reduceCtorEq, ne_eq, Bool.not_true, Bool.not_false, Bool.not_eq_true, Bool.not_eq_false] at hc) <;> (try (exfalso; omega))) | (refine WP.regionC (id := 4) ?_; (refine su (ap_lss (by exact rq_p rfl rfl) (by exact rq_p rfl rfl)) ?_); refine asemC_end ?_) | (refine WP.regionC (id := 5) ?_; (refine su (ap_idx_n (by exact rq_p rfl rfl) (by exact rq_p rfl rfl) (by omega)) ?_); (refine su (ap_load_w (by exact rq_p rfl rfl) (by exact rfl)) ?_); (refine se_alloc (by exact rfl) ?_); (refine se_store_b (by exact rfl) (by exact rfl) (by exact rfl) (by exact rfl) ?_); refine asemC_end ?_) | (refine WP.regionC (id := 6) ?_; (refine su (ap_field_p (by exact rq_p rfl rfl) (by exact rfl) (by exact rfl)) ?_); (refine su (ap_load_p (by exact rq_p rfl rfl) (by exact rfl) (by exact rfl) (by exact rfl)) ?_); (refine su (ap_lss (by exact rq_p rfl rfl) (by exact rq_p rfl rfl)) ?_); (refine su (ap_move (by exact rq_p rfl rfl)) ?_); (refine sg (by exact gq_vf rfl rfl) (fun he => ap_field_p (by exact rq_p rfl rfl) (by exact rfl) (by exact rfl)) ?_); (refine sg (by exact gq_vf rfl rfl) (fun he => ap_load_p (by exact rq_c rfl rfl) (by exact rfl) (by exact rfl) (by exact rfl)) ?_); (refine sg (by exact gq_vf rfl rfl) (fun he => ap_field_p (by exact rq_p rfl rfl) (by exact rfl) (by exact rfl)) ?_); (refine sg (by exact gq_vf rfl rfl) (fun he => ap_load_p (by exact rq_c rfl rfl) (by exact rfl) (by exact rfl) (by exact rfl)) ?_); (refine sg (by exact gq_vf rfl rfl) (fun he => ap_len_m (by exact rfl) (by exact rq_c rfl rfl)) ?_); (refine sg (by exact gq_vf rfl rfl) (fun he => ap_geq (by exact rq_c rfl rfl) (by exact rq_c rfl rfl)) ?_); (refine su (ap_or (by exact rq_p rfl rfl) (by exact rq_c rfl rfl)) ?_); (refine su (ap_move (by exact rq_p rfl rfl)) ?_); (refine sg (by exact gq_vf rfl rfl) (fun he => ap_field_p (by exact rq_p rfl rfl) (by exact rfl) (by exact rfl)) ?_); (refine sg (by exact gq_vf rfl rfl) (fun he => ap_load_p (by exact rq_c rfl rfl) (by exact rfl) (by exact rfl) (by exact rfl)) ?_); (refine sg (by exact gq_vf rfl rfl) (fun he => ap_len_m (by exact rfl) (by exact rq_c rfl rfl)) ?_); (refine sg (by exact gq_vf rfl rfl) (fun he => ap_gtr (by exact rq_c rfl rfl) (by exact rq_p rfl rfl)) ?_); (refine su (ap_or (by exact rq_p rfl rfl) (by exact rq_c rfl rfl)) ?_); (refine su (ap_move (by exact rq_p rfl rfl)) ?_); (refine sg (by exact gq_vf rfl rfl) (fun he => ap_field_p (by exact rq_p rfl rfl) (by exact rfl) (by exact rfl)) ?_); (refine sg (by exact gq_vf rfl rfl) (fun he => ap_load_p (by exact rq_c rfl rfl) (by exact rfl) (by exact rfl) (by exact rfl)) ?_); (refine sg (by exact gq_vf rfl rfl) (fun he => ap_lss (by exact rq_c rfl rfl) (by exact rq_p rfl rfl)) ?_); (refine su (ap_or (by exact rq_p rfl rfl) (by exact rq_c rfl rfl)) ?_); (refine su (ap_move (by exact rq_p rfl rfl)) ?_); (refine sg (by exact gq_vf rfl rfl) (fun he => ap_field_p (by exact rq_p rfl rfl) (by exact rfl) (by exact rfl)) ?_); (refine sg (by exact gq_vf rfl rfl) (fun he => ap_load_p (by exact rq_c rfl rfl) (by exact rfl) (by exact rfl) (by exact rfl)) ?_); (refine sg (by exact gq_vf rfl rfl) (fun he => ap_gtr (by exact rq_c rfl rfl) (by exact rq_p rfl rfl)) ?_); (refine su (ap_or (by exact rq_p rfl rfl) (by exact rq_c rfl rfl)) ?_); refine asemC_end ?_) | (refine WP.regionC (id := 7) ?_; (refine su (ap_assign (by exact rq_p rfl rfl)) ?_); refine asemC_end ?_) | (refine WP.regionC (id := 8) ?_; (refine su (ap_field_p (by exact rq_p rfl rfl) (by exact rfl) (by exact rfl)) ?_); (refine su (ap_load_p (by exact rq_p rfl rfl) (by exact rfl) (by exact rfl) (by exact rfl)) ?_); (refine su (ap_clo (RqL.nil) (RqL.cons (by exact rq_p rfl rfl) (RqL.nil))) ?_); (refine sc_b rfl rfl (by repeat' first | exact FzL.nil | refine FzL.cons ?_ ?_ | (exact Fz.reflp (by simp [AV.bd, bdL, bdL_append])) | refine Fz.ptrL (by exact rfl) (by exact rfl) ?_ | refine Fz.cloL ?_ ?_) (containsFunc_fn _ _ _ (fun x => !symOk g x) (fun n => by simp [bdL, AV.bd, AV.cells, gramA]) (fun x hx => gvalid1_fn g x hn2)) (by exact rfl) ?_); refine asemC_end ?_) | (refine WP.regionC (id := 9) ?_; (refine su (ap_assign (by exact rq_p rfl rfl)) ?_); refine asemC_end ?_) | (refine WP.regionC (id := 10) ?_; (refine su (ap_add (by exact rq_p rfl rfl) (by exact rq_p rfl rfl) (by exact inr_i64_of (by omega))) ?_); (refine su (ap_move (by exact rq_p rfl rfl)) ?_); refine asemC_end ?_) | (refine WP.regionC (id := 11) ?_; (refine su (ap_assign (by exact rq_p rfl rfl)) ?_); refine asemC_end ?_) | refine ret_b (by exact rfl) ?_))
  · rw [validG_no (i := i) (by omega) (by simp [ruleOk]; omega)]
  · rw [any_not_sym, Bool.not_eq_true'] at hc
    rw [validG_no (i := i) (by omega) (by simp only [ruleOk, hc, Bool.and_false])]
  · rw [any_not_sym, Bool.not_eq_false'] at hc
    exact ⟨i + 1, ⟨by omega, by omega, take_all_succ (by omega) hall (by simp only [ruleOk, hc, Bool.and_true]; simp; omega)⟩, ⟨[0], ToR.S rfl (by repeat' (first | exact rt_nil | refine rt_t (by exact rfl) (by exact rfl) ?_ | refine rt_e (by exact rfl) (by exact rfl) ?_ | refine rt_p (by exact rfl) (by exact rfl) (by first | (simp [AV.bd, bdL, bdL_append]; done) | fail) ?_)) (by repeat' (first | exact ro_nil | refine ro_p (by exact rfl) (by first | exact rfl | fail) (by first | (simp [bdL, bdL_append, AV.bd]; done) | fail) ?_)) (by decide) (by (rw [hm]; exact rfl)) (by exact rfl) (by (simp [bdT, AV.bd, bdL, bdL_append]; done)) (by repeat' (first | exact True.intro | refine And.intro ?_ ?_ | (simp [bdOq, bdL, bdL_append, AV.bd]; done))) (by (rw [hm]; exact Nat.le_of_ble_eq_true rfl))⟩⟩
  simp [validG, hns, all_of_take' (by omega) hall]; omega
end Go.Lg

/-
  Literals of no element; what is appended to them.
-/
namespace Go.Lg
theorem ren_strsA (π : Nat → Nat) (l : List ByteArray) : (strsA l).ren π = strsA l := ren_pure (by simp [strsA, AV.bd])
theorem ren_intsA (π : Nat → Nat) (l : List Int) : (intsA l).ren π = intsA l := ren_pure (by simp [intsA, AV.bd])
section
variable {P : Program} {n M N i : Nat} {l : List (Nat × AV)} {os : List (Nat × Option AObj)} {a b : Operand} {d : Tmp} {ty : TypeId} {pos : String} {af : Array Edge} {ops : Array Oper} {rest : List Oper} {KK : List Rec → St → Prop} {K : St → Prop} {rs : List Rec}
theorem se_lit0 {te : TI} {k bt : Nat} [ht : TEl P ty te k bt] {ty2 : TypeId} (hk : asemC P ops rest (S n ((d, .ref M k 0 0) :: l) (M + 1) ((M, some (.arr k [])) :: os)) K) :
    asemC P ops (⟨some d, .buildSlice ty 0 #[], ty2, pos, af, none⟩ :: rest) (S n l M os) K := by
  obtain ⟨ti, el, g1, he, hs, g4, hsz, hbz⟩ := ht.h
  refine se_new (x := .ref M k 0 0) (by rintro c f h; cases h) ?_ hk
  have hb : buildSliceA te 0 [] = some (.arr k []) := by simp [buildSliceA, hsz]
  simp only [aop, g1, he, g4, Option.bind_some, Array.toList, List.map_nil, hb, Option.map_some, hsz]
theorem rd_lit0 {te : TI} {k bt : Nat} [ht : TEl P ty te k bt] {ty2 : TypeId} (hk : RunD P ops N (i + 1) rest (S n ((d, .ref (N + i) k 0 0) :: l) M ((N + i, some (.arr k [])) :: os)) (rs ++ [⟨some d, [N + i], topq n l (Op.operands (.buildSlice ty 0 #[])).toList⟩]) KK) :
    RunD P ops N i (⟨some d, .buildSlice ty 0 #[], ty2, pos, af, none⟩ :: rest) (S n l M os) rs KK := by
  obtain ⟨ti, el, g1, he, hs, g4, hsz, hbz⟩ := ht.h
  have hb : buildSliceA te 0 [] = some (.arr k []) := by simp [buildSliceA, hsz]
  refine rd (.ref (N + i) k 0 0, .new (.arr k [])) (by simp only [aop, g1, he, g4, Option.bind_some, Array.toList, List.map_nil, hb, Option.map_some, hsz]) ?_
  have : ((S n l M os).eff (N + i) (.new (.arr k []))).put (some d) (.ref (N + i) k 0 0) = S n ((d, .ref (N + i) k 0 0) :: l) M ((N + i, some (.arr k [])) :: os) := by
    simp only [St.eff, St.set, S, St.put, ol_set, tl_set]
  rw [this]; exact hk
/-- a whole slice appended to a literal of no element -/
theorem se_appE {te tj : TI} {tx : TypeId} {k bt id : Nat} {ys : List AV} [ht : TEl P ty te k bt] [h3 : TIc P tx tj] (hsh : (match tj.sh with | .int => false | _ => true) = true) (ha : opq n l a = some (.ref id k 0 0)) (ho : lookq M os id = some (.arr k []))
    (hb : opq n l b = some (.sl k ys)) (hz0 : (zeroA te).isSome = true) (hbt : Nat.beq bt 0 = false) (hr : ys.length * bt ≤ 140737488355328) {ty2 : TypeId} (hk : asemC P ops rest (S n ((d, .ref M k 0 ys.length) :: l) (M + 1) ((M, some (.arr k ys)) :: (id, none) :: os)) K) :
    asemC P ops (⟨some d, .call ⟨.builtin .append, #[a, b], #[ty, tx]⟩, ty2, pos, af, none⟩ :: rest) (S n l M os) K :=
  se_app (es := []) (ys := ys) hsh ha ho rfl hb (by obtain ⟨ti, el, g1, he, hs, g4, hsz, hbz⟩ := ht.h; simp [srcA, hsz]) hz0 hbt (by simpa using hr) hk
theorem rd_appE {te tj : TI} {tx : TypeId} {k bt id : Nat} {ys : List AV} [ht : TEl P ty te k bt] [h3 : TIc P tx tj] (hsh : (match tj.sh with | .int => false | _ => true) = true) (ha : opq n l a = some (.ref id k 0 0)) (ho : lookq M os id = some (.arr k []))
    (hb : opq n l b = some (.sl k ys)) (hz0 : (zeroA te).isSome = true) (hbt : Nat.beq bt 0 = false) (hr : ys.length * bt ≤ 140737488355328) {ty2 : TypeId}
    (hk : RunD P ops N (i + 1) rest (S n ((d, .ref (N + i) k 0 ys.length) :: l) M ((N + i, some (.arr k ys)) :: (id, none) :: os)) (rs ++ [⟨some d, [id, N + i], topq n l [a, b]⟩]) KK) :
    RunD P ops N i (⟨some d, .call ⟨.builtin .append, #[a, b], #[ty, tx]⟩, ty2, pos, af, none⟩ :: rest) (S n l M os) rs KK :=
  rd_app (es := []) (ys := ys) hsh ha ho rfl hb (by obtain ⟨ti, el, g1, he, hs, g4, hsz, hbz⟩ := ht.h; simp [srcA, hsz]) hz0 hbt (by simpa using hr) hk
end

section
variable {P : Program} {Γ : Cx} {c : Code} {Q : Exit → St → Prop} {n M : Nat} {l : List (Nat × AV)} {os : List (Nat × Option AObj)}
/-- A finished slice in one struct of several that lie in one object. -/
theorem wp_frzx {id k len : Nat} {α : Type} {f : α → AV} {L : List α} (ido m : Nat) {k' : Nat} (pre post : List AV) {cs : List AV} (hm : Γ.m = 0) (hid : Nat.beq id ido = false) (hob : lookq M os ido = some (.arr k' (pre ++ .agg cs :: post))) (h : cs[m]? = some (.ref id k 0 len)) (ho : lookq M os id = some (.arr k (L.map f))) (hl : L.length = len) (hb : ∀ x, (f x).bd 0 = true) (hk : ∀ x, (f x).cells.length = k)
    (hw : WP P Γ c Q (S n l M ((ido, some (.arr k' (pre ++ .agg (cs.set m (.sl k (L.map f))) :: post))) :: (id, none) :: os))) : WP P Γ c Q (S n l M os) := fun a w hs => by
  refine hw a w ?_
  obtain ⟨ρ, hs⟩ := hs
  have h1 := hs.kill id
  have hne : id ≠ ido := Nat.ne_of_beq_eq_false hid
  have hob' : ((S n l M os).set id none).live ido (.arr k' (pre ++ .agg cs :: post)) := by
    have := St.look_some.1 (by rw [S_look]; exact hob : (S n l M os).look ido = some (.arr k' (pre ++ .agg cs :: post)))
    simp only [St.live, St.set_objs] at this ⊢
    rw [List.getElem?_set_ne hne]; exact this
  have hwide : ∀ e, e ∈ pre ++ .agg cs :: post → e.cells.length = k' := by
    have := hs.obj ido _ (St.look_some.1 (by rw [S_look]; exact hob))
    cases hr : ρ ido with
    | none => rw [hr] at this; obtain ⟨_, h2⟩ := this.resolve_left (by simp); simp at h2
    | some b => rw [hr] at this; obtain ⟨_, _, _, _, h3, _⟩ := this; exact h3
  have hm1 : m < cs.length := (List.getElem?_eq_some_iff.1 h).1
  have hfl : flat (pre ++ .agg (cs.set m (.sl k (L.map f))) :: post) = (flat (pre ++ .agg cs :: post)).set ((flat pre).length + m) (.sl k (L.map f)) := by
    simp only [flat, List.flatMap_append, List.flatMap_cons, AV.cells]
    rw [List.set_append_right _ _ (by omega), Nat.add_sub_cancel_left, List.set_append_left _ _ hm1]
  have hat : (flat (pre ++ .agg cs :: post))[(flat pre).length + m]? = some (.ref id k 0 len) := by
    simp only [flat, List.flatMap_append, List.flatMap_cons, AV.cells]
    rw [List.getElem?_append_right (by omega), Nat.add_sub_cancel_left, List.getElem?_append_left hm1]; exact h
  have h2 := h1.recell hob' (es' := pre ++ .agg (cs.set m (.sl k (L.map f))) :: post) (by rw [hfl]; simp) (fun e he => by
      rcases List.mem_append.1 he with he | he
      · exact hwide e (by simp [he])
      · rcases List.mem_cons.1 he with rfl | he
        · have := hwide (.agg cs) (by simp)
          simpa [AV.cells] using this
        · exact hwide e (by simp [he])) (by simp) (fun j x y hx hy v hv => by
    rw [hfl, List.getElem?_set] at hy
    by_cases e : (flat pre).length + m = j
    · subst e
      rw [hat] at hx; injection hx with hx; subst hx
      simp only [if_true] at hy
      split at hy
      · injection hy with hy; subst hy
        exact hs.list hm (by rw [S_look]; exact ho) hl hb hk hv
      · cases hy
    · rw [if_neg e, hx] at hy; injection hy with hy; subst hy; exact hv)
  refine ⟨ρ, ?_⟩
  have e : (((S n l M os).set id none).set ido (some (.arr k' (pre ++ .agg (cs.set m (.sl k (L.map f))) :: post)))) = S n l M ((ido, some (.arr k' (pre ++ .agg (cs.set m (.sl k (L.map f))) :: post))) :: (id, none) :: os) := by simp [S, St.set, ol_set]
  rw [e] at h2
  simpa [S, ol_length] using h2
/-- The state in other words. -/
theorem wp_st (t : St) {s : St} (h0 : ∃ is, ToR Γ.m is s t) (h : WP P Γ c Q t) : WP P Γ c Q s := by
  obtain ⟨is, h0⟩ := h0; exact .toR is t h0 h
end
section
variable {P : Program} {n M : Nat} {l : List (Nat × AV)} {os : List (Nat × Option AObj)} {d t : Tmp} {ty : TypeId} {pos : String} {af : Array Edge} {ops : Array Oper} {rest : List Oper} {K : St → Prop} {j : Nat} {want b : Bool} {x : AV} {op : Op}
/-- A guarded operation that is known to run: a new object. -/
theorem sgt_new {o : AObj} (hd : (ops[j]?).bind (·.dst) = some t) (hv : opq n l (.tmp t) = some (.val (.bool b))) (hb : b = want) (hc : ∀ c f, op = .call c → c.callee ≠ .value f) (h : aop P (S n ((t, .val (.bool b)) :: l) M os).look M (S n ((t, .val (.bool b)) :: l) M os).op op = some (x, .new o))
    (hk : asemC P ops rest (S n ((d, x) :: (t, .val (.bool b)) :: l) (M + 1) ((M, some o) :: os)) K) : asemC P ops (⟨some d, op, ty, pos, af, some (j, want)⟩ :: rest) (S n l M os) K := by
  subst hb
  simp only [asemC]
  refine .inl ⟨b, ?_, fun _ => ?_, fun h => by cases b <;> cases h⟩
  · have hop := opq_op (M := M) (os := os) hv
    simp only [St.op] at hop
    simp only [yieldedA, hd, Option.map_some, hop]
  rw [hd, S_put]
  have hl : (S n ((t, .val (.bool b)) :: l) M os).objs.length = M := ol_length M os
  have hs : (S n ((t, .val (.bool b)) :: l) M os).after (some d) (x, .new o) = S n ((d, x) :: (t, .val (.bool b)) :: l) (M + 1) ((M, some o) :: os) := by
    simp only [St.after, S, St.put, ol_push, tl_set]
  unfold execA
  split
  · rename_i c hop
    simp only at hop
    split
    · rename_i f hf; exact absurd hf (hc c f hop)
    · exact ⟨_, by rw [hl, ← hop]; exact h, by rw [hs]; exact hk⟩
  · exact ⟨_, by rw [hl]; exact h, by rw [hs]; exact hk⟩
theorem sgt_lit {te : TI} {k m bt : Nat} {z : AV} {ps : Array (Nat × Operand)} {xs : List (Nat × AV)} {vs : List AV} (hd : (ops[j]?).bind (·.dst) = some t) (hg : opq n l (.tmp t) = some (.val (.bool b))) (hgb : b = want) [ht : TEl P ty te k bt] (hp : OpP n ((t, .val (.bool b)) :: l) ps.toList xs) (hv : seqv 0 xs = some vs) (hl : xs.length = m) (h0 : Nat.beq m 0 = false) (hbig : Nat.ble (m * k) 16777216 = true) (hzero : zeroA te = some z)
    (hc : (vs.all fun x => Nat.beq x.cells.length k && x.store) = true) {ty2 : TypeId} (hk : asemC P ops rest (S n ((d, .ref M k 0 m) :: (t, .val (.bool b)) :: l) (M + 1) ((M, some (.arr k vs)) :: os)) K) :
    asemC P ops (⟨some d, .buildSlice ty m ps, ty2, pos, af, some (j, want)⟩ :: rest) (S n l M os) K := by
  obtain ⟨ti, el, g1, he, hs, g4, hsz, hbz⟩ := ht.h
  refine sgt_new (x := .ref M k 0 m) hd hg hgb (by rintro c f h; cases h) ?_ hk
  have hp' := hp.get (M := M) (os := os)
  have hb : buildSliceA te m xs = some (.arr k vs) := by
    have hne : m ≠ 0 := Nat.ne_of_beq_eq_false h0
    simp only [buildSliceA, if_neg hne, hzero, Option.bind_some, hsz, if_pos (Nat.le_of_ble_eq_true hbig)]
    have := seqv_fill (k := k) (z := z) xs [] vs hv (fun x hx => by
      have := List.all_eq_true.1 hc x hx
      simp only [Bool.and_eq_true] at this
      exact ⟨Nat.eq_of_beq_eq_true this.1, this.2⟩)
    simp only [List.nil_append, hl] at this
    rw [this]; rfl
  simp only [aop, g1, he, g4, Option.bind_some, hp', hb, Option.map_some, hsz]
end
theorem ret_c {P : Program} {n : Nat} {l : List (Nat × AV)} {M : Nat} {os : List (Nat × Option AObj)} {a : Tmp} {ty : TypeId} {ti : TI} [hti : TIc P ty ti] {id k i j : Nat} {es : List AV} {y x X : AV} (h : opq n l (.tmp a) = some (.ptr id k i j)) (ho : lookq M os id = some (.arr k es)) (hi : es[i]? = some y) (hp : part ti y.cells j = some x)
    (hz : Fz (lookq M os) x X) : Ret P [.cell a ty] X (S n l M os) := by
  refine ⟨x, ?_, by rw [S_look']; exact hz⟩
  have := (ResL.cellT h ho hi hp .nil : ResL P n l M os [.cell a ty] [x]).ok
  simp only [resN, this, Option.map_some, tupA]
theorem Fz.rowL {look : Nat → Option AObj} {id k n : Nat} {es ys : List AV} (hlook : look id = some (.arr k es)) (hn : es.length = n) (hk : (ys.all fun e => Nat.beq e.cells.length k) = true) (h : FzL look es ys) : Fz look (.ref id k 0 n) (.sl k ys) := by
  have hz := h.fzs
  have hl := Fzs_len hz
  have e : (es.drop 0).take n = es := by rw [List.drop_zero, List.take_of_length_le (by omega)]
  refine Fz.ref' hlook (by omega) (by omega) (fun y hy => Nat.eq_of_beq_eq_true (List.all_eq_true.1 hk y hy)) fun i x y hx hy => ?_
  rw [e] at hx
  exact Fzs_get hz i x y hx hy
end Go.Lg

/- grammar.Format -/
namespace Go.Lg
open Go.Proofs
set_option linter.unusedSimpArgs false
set_option linter.unusedVariables false
attribute [local irreducible] Ap Rq asemC WP RunD Ret Gq thenA inBlockA bodyQ noGotoA RqL RqP OpP
set_option maxHeartbeats 8000000

def wTerms : ByteArray := ⟨#[116, 101, 114, 109, 115]⟩
def wNonterms : ByteArray := ⟨#[110, 111, 110, 116, 101, 114, 109, 115]⟩
def wStart : ByteArray := ⟨#[115, 116, 97, 114, 116]⟩
def wArrow : ByteArray := ⟨#[45, 62]⟩
def wPrice : ByteArray := ⟨#[91, 112, 114, 105, 99, 101, 93]⟩
def symN (g : Gram) (x : Int) : ByteArray := if 0 ≤ x then nth g.terms x.toNat else nth g.nonterms (-1 - x).toNat
def priceW (p : Int) : List ByteArray := if p = 0 then [] else [wPrice, tx (Lib.itoa p)]
def headW (g : Gram) (r : Rul) (k : Nat) : List ByteArray := nth g.nonterms r.head.toNat :: wArrow :: (r.body.take k).map (symN g)
def ruleW (g : Gram) (r : Rul) : List ByteArray := headW g r r.body.length ++ priceW r.price
def fmt0 (g : Gram) : List UInt8 := lineT (wTerms :: g.terms) ++ lineT (wNonterms :: g.nonterms) ++ lineT [wStart, nth g.nonterms g.start.toNat]
def fmtTo (g : Gram) (k : Nat) : List UInt8 := fmt0 g ++ ((g.rules.take k).map fun r => lineT (ruleW g r)).flatten
def formatR (g : Gram) : ByteArray := if validG g then tx (fmtTo g g.rules.length) else ⟨#[]⟩
theorem fmtTo_succ {g : Gram} {k : Nat} (hk : k < g.rules.length) : fmtTo g (k + 1) = fmtTo g k ++ lineT (ruleW g (nth g.rules k)) := by
  simp only [fmtTo, take_succ_nth hk, List.map_append, List.flatten_append, List.append_assoc]
  simp
theorem headW_succ {g : Gram} {r : Rul} {k : Nat} (hk : k < r.body.length) : headW g r (k + 1) = headW g r k ++ [symN g (nth r.body k)] := by
  simp only [headW, take_succ_nth hk, List.map_append, List.cons_append]; rfl
theorem headW_len {g : Gram} {r : Rul} {k : Nat} (hk : k ≤ r.body.length) : (headW g r k).length = k + 2 := by
  simp [headW]; omega

/-- what the text needs of a valid grammar -/
structure FVal (g : Gram) : Prop where
  n1 : 1 ≤ g.nonterms.length
  t2 : g.terms.length ≤ 120
  n2 : g.nonterms.length ≤ 120
  r2 : g.rules.length ≤ 120
  s0 : 0 ≤ g.start
  sn : g.start < g.nonterms.length
  nm : ∀ s, s ∈ g.terms ++ g.nonterms → nameOk s = true
  nd : (g.terms ++ g.nonterms).Nodup
  rule : ∀ r, r ∈ g.rules → 0 ≤ r.head ∧ r.head < g.nonterms.length ∧ r.body.length ≤ 12 ∧ 0 ≤ r.price ∧ r.price ≤ 1000 ∧ ∀ x, x ∈ r.body → x < g.terms.length ∧ -(g.nonterms.length : Int) ≤ x
theorem nameOk_size {s : ByteArray} (h : nameOk s = true) : 1 ≤ s.size ∧ s.size ≤ 48 := by
  simp only [nameOk, Bool.and_eq_true, decide_eq_true_eq] at h; exact h.1
theorem FVal.of {g : Gram} (h : validG g = true) : FVal g := by
  simp only [validG, Bool.and_eq_true, decide_eq_true_eq, List.all_eq_true, ruleOk, symOk, namesOk] at h
  obtain ⟨⟨⟨⟨⟨⟨⟨⟨h1, h2⟩, h3⟩, h4⟩, h5⟩, h6⟩, h7⟩, h8⟩, h9⟩ := h
  exact ⟨h2, h1, h3, h5, h6, h7, h8.1, h8.2, fun r hr => by have := h9 r hr; exact ⟨this.1.1.1.1.1, this.1.1.1.1.2, this.1.1.1.2, this.1.1.2, this.1.2, fun x hx => this.2 x hx⟩⟩
theorem FVal.ts {g : Gram} (hv : FVal g) {x : ByteArray} (h : x ∈ g.terms) : x.size ≤ 48 := (nameOk_size (hv.nm x (List.mem_append_left _ h))).2
theorem FVal.ns {g : Gram} (hv : FVal g) {x : ByteArray} (h : x ∈ g.nonterms) : x.size ≤ 48 := (nameOk_size (hv.nm x (List.mem_append_right _ h))).2
theorem FVal.sym {g : Gram} (hv : FVal g) {x : Int} (h1 : x < g.terms.length) (h2 : -(g.nonterms.length : Int) ≤ x) : (symN g x).size ≤ 48 := by
  unfold symN
  split
  · exact hv.ts (nth_mem (by omega))
  · exact hv.ns (nth_mem (by omega))
theorem FVal.headW {g : Gram} (hv : FVal g) {r : Rul} (hr : r ∈ g.rules) {k : Nat} : ∀ x, x ∈ headW g r k → x.size ≤ 48 := by
  have h := hv.rule r hr
  intro x hx
  simp only [Lg.headW, List.mem_cons, List.mem_map] at hx
  rcases hx with rfl | rfl | ⟨y, hy, rfl⟩
  · exact hv.ns (nth_mem (by omega))
  · decide
  · have := h.2.2.2.2.2 y (List.mem_of_mem_take hy)
    exact hv.sym this.1 this.2
theorem itoa_len {p : Int} (h0 : 0 ≤ p) (h1 : p ≤ 1000) : (Lib.itoa p).length ≤ 21 := Lib.itoa_length_le p (by omega) (by omega)
theorem FVal.ruleW {g : Gram} (hv : FVal g) {r : Rul} (hr : r ∈ g.rules) : ∀ x, x ∈ ruleW g r → x.size ≤ 48 := by
  have h := hv.rule r hr
  intro x hx
  rcases List.mem_append.1 hx with hx | hx
  · exact hv.headW hr x hx
  · unfold priceW at hx
    split at hx
    · cases hx
    · simp only [List.mem_cons, List.mem_nil_iff, or_false] at hx
      rcases hx with rfl | rfl
      · decide
      · have := itoa_len h.2.2.2.1 h.2.2.2.2.1
        rw [tx_size]; omega
theorem FVal.ruleLen {g : Gram} (hv : FVal g) {r : Rul} (hr : r ∈ g.rules) : (Lg.ruleW g r).length ≤ 16 := by
  have h := hv.rule r hr
  have h1 := headW_len (g := g) (Nat.le_refl r.body.length)
  have h2 : (priceW r.price).length ≤ 2 := by unfold priceW; split <;> simp
  simp only [Lg.ruleW, List.length_append, h1]; omega
theorem FVal.lineLen {g : Gram} (hv : FVal g) {r : Rul} (hr : r ∈ g.rules) : (lineT (Lg.ruleW g r)).length ≤ 800 := by
  have h1 := lineT_len (hv.ruleW hr)
  have h2 := hv.ruleLen hr
  have : (Lg.ruleW g r).length * (48 + 1) ≤ 16 * 49 := Nat.mul_le_mul h2 (Nat.le_refl _)
  omega
theorem FVal.l1 {g : Gram} (hv : FVal g) : (lineT (wTerms :: g.terms)).length ≤ 6000 := by
  have h1 := lineT_len (l := wTerms :: g.terms) (c := 48) (fun x hx => by rcases List.mem_cons.1 hx with rfl | hx; exact (by decide); exact hv.ts hx)
  have h2 := hv.t2
  simp only [List.length_cons] at h1
  omega
theorem FVal.l2 {g : Gram} (hv : FVal g) : (lineT (wNonterms :: g.nonterms)).length ≤ 6000 := by
  have h1 := lineT_len (l := wNonterms :: g.nonterms) (c := 48) (fun x hx => by rcases List.mem_cons.1 hx with rfl | hx; exact (by decide); exact hv.ns hx)
  have h2 := hv.n2
  simp only [List.length_cons] at h1
  omega
theorem FVal.l3 {g : Gram} (hv : FVal g) : (lineT [wStart, nth g.nonterms g.start.toNat]).length ≤ 6000 := by
  have h0 := hv.s0
  have h9 := hv.sn
  have h1 := lineT_len (l := [wStart, nth g.nonterms g.start.toNat]) (c := 48) (fun x hx => by
    simp only [List.mem_cons, List.mem_nil_iff, or_false] at hx
    rcases hx with rfl | rfl
    · decide
    · exact hv.ns (nth_mem (by omega)))
  simp only [List.length_cons, List.length_nil] at h1
  omega
theorem FVal.fmtLen {g : Gram} (hv : FVal g) {k : Nat} (hk : k ≤ g.rules.length) : (fmtTo g k).length ≤ 18000 + 800 * k := by
  induction k with
  | zero =>
    have h1 := hv.l1; have h2 := hv.l2; have h3 := hv.l3
    simp only [fmtTo, fmt0, List.take_zero, List.map_nil, List.flatten_nil, List.append_nil, List.length_append]; omega
  | succ k ih =>
    rw [fmtTo_succ (by omega), List.length_append]
    have := ih (by omega)
    have := hv.lineLen (nth_mem (l := g.rules) (k := k) (by omega))
    omega

theorem gformat_fn (g : Gram) : Fn Tryd.prog 16 [gramA g] (strA (formatR g)) := by
  refine Fn.intro (by exact rfl) (by kernel_rfl) Tryd.func16 rfl rfl Tryd.ntmps16 (by exact Nat.le_of_ble_eq_true rfl) ?_; intro Γ hm
  by_cases hval : validG g = true
  · have hv := FVal.of hval
    have hn1 := hv.n1; have ht2 := hv.t2; have hn2 := hv.n2; have hr2 := hv.r2; have hs0 := hv.s0; have hsn := hv.sn
    have hl1 := hv.l1; have hl2 := hv.l2; have hl3 := hv.l3
    (repeat' (first | refine WP.seq ?_ | refine WP.block ?_ | refine go_n ?_ | refine WP.skip ?_ | refine WP.ret ?_ | refine go_r ?_ | refine bo_r ?_ | (refine wp_cond (by exact rfl) (fun hc => ?_) (fun hc => ?_) <;> (try simp only [decide_eq_true_eq, decide_eq_false_iff_not, Decidable.not_not, Bool.and_eq_true, Bool.or_eq_true, Bool.not_eq_true', Bool.not_eq_false', Bool.or_eq_false_iff, Bool.and_eq_false_iff, Int.not_lt, Int.not_le, reduceCtorEq, ne_eq, Bool.not_true, Bool.not_false, Bool.not_eq_true, Bool.not_eq_false] at hc) <;> (try (exfalso; omega))) | (refine WP.regionC (id := 0) ?_; (refine se_box (by exact rfl) (by exact ⟨rfl, rfl⟩) ?_); (refine su (ap_assign (by exact rq_p rfl rfl)) ?_); refine asemC_end ?_) | (refine WP.regionC (id := 1) ?_; (refine su (ap_load_pw (by exact rq_p rfl rfl) (by exact rfl) (by exact rfl) (by exact rfl)) ?_); (refine sc_p rfl rfl (by first | ((repeat' first | exact SubL.nil | refine SubL.cons ?_ ?_ | exact Sub.refl); done) | fail) (by first | (simp [bdL, bdL_append, AV.bd]; done) | fail) (gvalid_fn _) ?_); (refine su (ap_not (by exact rq_p rfl rfl)) ?_); refine asemC_end ?_) | (refine WP.regionC (id := 2) ?_; (refine su (ap_assign (by exact rq_p rfl rfl)) ?_); refine asemC_end ?_) | (refine WP.regionC (id := 3) ?_; (refine se_bld (T := 48) (by exact rfl) ?_); refine asemC_end ?_) | (refine WP.regionC (id := 4) ?_; (refine su (ap_clo (RqL.nil) (RqL.cons (by exact rq_p rfl rfl) (RqL.nil))) ?_); (refine su (ap_assign (by exact rq_p rfl rfl)) ?_); refine asemC_end ?_) | (refine WP.regionC (id := 5) ?_; (refine su (ap_move (by exact rq_p rfl rfl)) ?_); (refine se_lit (OpP.cons (by exact rfl) (OpP.nil)) (by exact rfl) (by exact rfl) (by exact rfl) (by exact rfl) (by exact rfl) (by exact rfl) ?_); (refine su (ap_field_p (by exact rq_p rfl rfl) (by exact rfl) (by exact rfl)) ?_); (refine su (ap_load_p (by exact rq_p rfl rfl) (by exact rfl) (by exact rfl) (by exact rfl)) ?_); (refine se_app (by exact rfl) (by exact rfl) (by exact rfl) (by exact rfl) (by exact rfl) (by exact rfl) (by exact rfl) (by exact rfl) (by (simp only [List.length_replicate, List.length_set, List.length_append, List.length_map, List.length_cons, List.length_nil, List.length_take, List.length_drop] <;> omega)) ?_); (refine sc_wr rfl rfl (by repeat' first | exact ArgS.nil | refine ArgS.ren (by exact rfl) (by exact rfl) ?_ | refine ArgS.row (by exact rfl) (by exact rfl) (by exact bdL_map (fun _ => by exact rfl) _) (by (intro e he; obtain ⟨_, _, rfl⟩ := List.mem_map.1 he; rfl)) ?_) (by exact rfl) (by exact rfl) (by exact rfl) (by exact rfl) (by exact rfl) (by exact rfl) (line_wr _ (wTerms :: g.terms) (by simp only [List.length_cons]; omega) (by omega) (by simp only [List.length_append, List.length_nil]; omega)) ?_); refine asemC_end ?_) | (refine WP.regionC (id := 6) ?_; (refine su (ap_move (by exact rq_p rfl rfl)) ?_); (refine se_lit (OpP.cons (by exact rfl) (OpP.nil)) (by exact rfl) (by exact rfl) (by exact rfl) (by exact rfl) (by exact rfl) (by exact rfl) ?_); (refine su (ap_field_p (by exact rq_p rfl rfl) (by exact rfl) (by exact rfl)) ?_); (refine su (ap_load_p (by exact rq_p rfl rfl) (by exact rfl) (by exact rfl) (by exact rfl)) ?_); (refine se_app (by exact rfl) (by exact rfl) (by exact rfl) (by exact rfl) (by exact rfl) (by exact rfl) (by exact rfl) (by exact rfl) (by (simp only [List.length_replicate, List.length_set, List.length_append, List.length_map, List.length_cons, List.length_nil, List.length_take, List.length_drop] <;> omega)) ?_); (refine sc_wr rfl rfl (by repeat' first | exact ArgS.nil | refine ArgS.ren (by exact rfl) (by exact rfl) ?_ | refine ArgS.row (by exact rfl) (by exact rfl) (by exact bdL_map (fun _ => by exact rfl) _) (by (intro e he; obtain ⟨_, _, rfl⟩ := List.mem_map.1 he; rfl)) ?_) (by exact rfl) (by exact rfl) (by exact rfl) (by exact rfl) (by exact rfl) (by exact rfl) (line_wr _ (wNonterms :: g.nonterms) (by simp only [List.length_cons]; omega) (by omega) (by simp only [List.length_append, List.length_nil]; omega)) ?_); refine asemC_end ?_) | (refine WP.regionC (id := 7) ?_; (refine su (ap_move (by exact rq_p rfl rfl)) ?_); (refine su (ap_field_p (by exact rq_p rfl rfl) (by exact rfl) (by exact rfl)) ?_); (refine su (ap_load_p (by exact rq_p rfl rfl) (by exact rfl) (by exact rfl) (by exact rfl)) ?_); (refine su (ap_field_p (by exact rq_p rfl rfl) (by exact rfl) (by exact rfl)) ?_); (refine su (ap_load_p (by exact rq_p rfl rfl) (by exact rfl) (by exact rfl) (by exact rfl)) ?_); (refine su (ap_idx_z (by exact rq_p rfl rfl) (by exact rq_p rfl rfl) (by omega)) ?_); (refine su (ap_load_w (by exact rq_p rfl rfl) (by exact rfl)) ?_); (refine se_lit (OpP.cons (by exact rfl) (OpP.cons (by exact rfl) (OpP.nil))) (by exact rfl) (by exact rfl) (by exact rfl) (by exact rfl) (by exact rfl) (by exact rfl) ?_); (refine sc_wr rfl rfl (by repeat' first | exact ArgS.nil | refine ArgS.ren (by exact rfl) (by exact rfl) ?_ | refine ArgS.row (by exact rfl) (by exact rfl) (by exact bdL_map (fun _ => by exact rfl) _) (by (intro e he; obtain ⟨_, _, rfl⟩ := List.mem_map.1 he; rfl)) ?_) (by exact rfl) (by exact rfl) (by exact rfl) (by exact rfl) (by exact rfl) (by exact rfl) (line_wr _ [wStart, nth g.nonterms g.start.toNat] (by simp) (by omega) (by simp only [List.length_append, List.length_nil]; omega)) ?_); refine asemC_end ?_) | (refine WP.regionC (id := 8) ?_; (refine su (ap_field_p (by exact rq_p rfl rfl) (by exact rfl) (by exact rfl)) ?_); (refine su (ap_load_p (by exact rq_p rfl rfl) (by exact rfl) (by exact rfl) (by exact rfl)) ?_); (refine su (ap_len_m (by exact rfl) (by exact rq_p rfl rfl)) ?_); (refine su (ap_move (by exact rq_p rfl rfl)) ?_); refine asemC_end ?_)))
    · rw [hval] at hc; cases hc
    have e0 : [] ++ lineT (wTerms :: g.terms) ++ lineT (wNonterms :: g.nonterms) ++ lineT [wStart, nth g.nonterms g.start.toNat] = fmtTo g 0 := by simp [fmtTo, fmt0]
    rw [e0]
    refine wp_loop (fun (i : Nat) => i ≤ g.rules.length) (fun i => g.rules.length - i)
      (fun i => (S 77 [(1, .ptr 0 4 0 0), (3, .ptr 1 2 0 0), (4, .clo (.func 31) [] [.ptr 1 2 0 0]), (36, rulesA g.rules), (37, intA (g.rules.length : Nat)), (38, intA (i : Nat))] 3 [(0, some (.arr 4 [gramA g])), (1, some (.bld TB (.ref 2 1 0 (fmtTo g i).length))), (2, some (.bytes (fmtTo g i)))])) 0 ⟨[0, 1, 10], ToR.S rfl (by repeat' (first | exact rt_nil | refine rt_t (by exact rfl) (by exact rfl) ?_ | refine rt_e (by exact rfl) (by exact rfl) ?_ | refine rt_p (by exact rfl) (by exact rfl) (by first | (simp [AV.bd, bdL, bdL_append]; done) | fail) ?_)) (by repeat' (first | exact ro_nil | refine ro_b (by exact rfl) (by first | exact rfl | fail) ?_ | refine ro_d (by exact rfl) (by exact rfl) ?_ | refine ro_p (by exact rfl) (by first | exact rfl | fail) (by first | (simp [bdL, bdL_append, AV.bd]; done) | fail) ?_)) (by decide) (by (rw [hm]; exact rfl)) (by exact rfl) (by (simp [bdT, AV.bd, bdL, bdL_append]; done)) (by repeat' (first | exact True.intro | exact rfl | refine And.intro ?_ ?_ | (simp [bdOq, bdL, bdL_append, AV.bd]; done))) (by (rw [hm]; exact Nat.le_of_ble_eq_true rfl))⟩ (Nat.zero_le _) ?_
    rintro i hi
    have hfl := hv.fmtLen hi
    by_cases hlt : i < g.rules.length
    · have hr := hv.rule _ (nth_mem hlt)
      have hrh := hr.1; have hrn := hr.2.1; have hrb := hr.2.2.1; have hp0 := hr.2.2.2.1; have hp1 := hr.2.2.2.2.1
      (repeat' (first | refine WP.seq ?_ | refine WP.block ?_ | refine go_n ?_ | refine WP.skip ?_ | (refine wp_cond (by exact rfl) (fun hc => ?_) (fun hc => ?_) <;> (try simp only [decide_eq_true_eq, decide_eq_false_iff_not, Decidable.not_not, Bool.and_eq_true, Bool.or_eq_true, Bool.not_eq_true', Bool.not_eq_false', Bool.or_eq_false_iff, Bool.and_eq_false_iff, Int.not_lt, Int.not_le, reduceCtorEq, ne_eq, Bool.not_true, Bool.not_false, Bool.not_eq_true, Bool.not_eq_false] at hc) <;> (try (exfalso; omega))) | (refine WP.regionC (id := 9) ?_; (refine su (ap_lss (by exact rq_p rfl rfl) (by exact rq_p rfl rfl)) ?_); refine asemC_end ?_) | (refine WP.regionC (id := 10) ?_; (refine su (ap_idx_n (by exact rq_p rfl rfl) (by exact rq_p rfl rfl) (by omega)) ?_); (refine su (ap_load_w (by exact rq_p rfl rfl) (by exact rfl)) ?_); (refine se_alloc (by exact rfl) ?_); (refine se_store_b (by exact rfl) (by exact rfl) (by exact rfl) (by exact rfl) ?_); refine asemC_end ?_) | (refine WP.regionC (id := 11) ?_; (refine su (ap_field_p (by exact rq_p rfl rfl) (by exact rfl) (by exact rfl)) ?_); (refine su (ap_load_p (by exact rq_p rfl rfl) (by exact rfl) (by exact rfl) (by exact rfl)) ?_); (refine su (ap_field_p (by exact rq_p rfl rfl) (by exact rfl) (by exact rfl)) ?_); (refine su (ap_load_p (by exact rq_p rfl rfl) (by exact rfl) (by exact rfl) (by exact rfl)) ?_); (refine su (ap_idx_z (by exact rq_p rfl rfl) (by exact rq_p rfl rfl) (by omega)) ?_); (refine su (ap_load_w (by exact rq_p rfl rfl) (by exact rfl)) ?_); (refine se_lit (OpP.cons (by exact rfl) (OpP.cons (by exact rfl) (OpP.nil))) (by exact rfl) (by exact rfl) (by exact rfl) (by exact rfl) (by exact rfl) (by exact rfl) ?_); (refine su (ap_assign (by exact rq_p rfl rfl)) ?_); refine asemC_end ?_) | (refine WP.regionC (id := 12) ?_; (refine su (ap_field_p (by exact rq_p rfl rfl) (by exact rfl) (by exact rfl)) ?_); (refine su (ap_load_p (by exact rq_p rfl rfl) (by exact rfl) (by exact rfl) (by exact rfl)) ?_); (refine su (ap_len_m (by exact rfl) (by exact rq_p rfl rfl)) ?_); (refine su (ap_move (by exact rq_p rfl rfl)) ?_); refine asemC_end ?_)))
      refine wp_loop (fun (k : Nat) => k ≤ (nth g.rules i).body.length) (fun k => (nth g.rules i).body.length - k)
        (fun k => (S 77 [(1, .ptr 0 4 0 0), (3, .ptr 1 2 0 0), (4, .clo (.func 31) [] [.ptr 1 2 0 0]), (6, .ptr 3 3 0 0), (7, .ref 4 1 0 (headW g (nth g.rules i) k).length), (36, rulesA g.rules), (37, intA (g.rules.length : Nat)), (38, intA (i : Nat)), (50, intsA (nth g.rules i).body), (51, intA ((nth g.rules i).body.length : Nat)), (52, intA (k : Nat))] 5 [(0, some (.arr 4 [gramA g])), (1, some (.bld TB (.ref 2 1 0 (fmtTo g i).length))), (2, some (.bytes (fmtTo g i))), (3, some (.arr 3 [ruleA (nth g.rules i)])), (4, some (.arr 1 ((headW g (nth g.rules i) k).map strA)))])) 0 ⟨[0, 1, 2, 3, 4], ToR.S rfl (by repeat' (first | exact rt_nil | refine rt_r (by exact rfl) (by exact rfl) ?_ | refine rt_t (by exact rfl) (by exact rfl) ?_ | refine rt_e (by exact rfl) (by exact rfl) ?_ | refine rt_p (by exact rfl) (by exact rfl) (by first | (simp [AV.bd, bdL, bdL_append]; done) | fail) ?_)) (by repeat' (first | exact ro_nil | refine ro_b (by exact rfl) (by first | exact rfl | fail) ?_ | refine ro_d (by exact rfl) (by exact rfl) ?_ | refine ro_e (by exact rfl) (by exact rfl) ?_ | refine ro_p (by exact rfl) (by first | exact rfl | fail) (by first | (simp [bdL, bdL_append, AV.bd]; done) | fail) ?_)) (by decide) (by (rw [hm]; exact rfl)) (by exact rfl) (by (simp [bdT, AV.bd, bdL, bdL_append]; done)) (by repeat' (first | exact True.intro | exact rfl | refine And.intro ?_ ?_ | (simp [bdOq, bdL, bdL_append, AV.bd]; done))) (by (rw [hm]; exact Nat.le_of_ble_eq_true rfl))⟩ (Nat.zero_le _) ?_
      rintro k hk
      have hhl := headW_len (g := g) hk
      by_cases hkl : k < (nth g.rules i).body.length
      · have hx := hr.2.2.2.2.2 _ (nth_mem hkl)
        have hx1 := hx.1; have hx2 := hx.2
        (repeat' (first | refine WP.seq ?_ | refine WP.block ?_ | refine go_n ?_ | refine WP.skip ?_ | refine bl_n ?_ | (refine wp_cond (by exact rfl) (fun hc => ?_) (fun hc => ?_) <;> (try simp only [decide_eq_true_eq, decide_eq_false_iff_not, Decidable.not_not, Bool.and_eq_true, Bool.or_eq_true, Bool.not_eq_true', Bool.not_eq_false', Bool.or_eq_false_iff, Bool.and_eq_false_iff, Int.not_lt, Int.not_le, reduceCtorEq, ne_eq, Bool.not_true, Bool.not_false, Bool.not_eq_true, Bool.not_eq_false] at hc) <;> (try (exfalso; omega))) | (refine WP.regionC (id := 13) ?_; (refine su (ap_lss (by exact rq_p rfl rfl) (by exact rq_p rfl rfl)) ?_); refine asemC_end ?_) | (refine WP.regionC (id := 14) ?_; (refine su (ap_idx_n (by exact rq_p rfl rfl) (by exact rq_p rfl rfl) (by omega)) ?_); (refine su (ap_load_w (by exact rq_p rfl rfl) (by exact rfl)) ?_); (refine su (ap_assign (by exact rq_p rfl rfl)) ?_); refine asemC_end ?_) | (refine WP.regionC (id := 15) ?_; (refine su (ap_move (by exact rq_p rfl rfl)) ?_); (refine su (ap_load_pw (by exact rq_p rfl rfl) (by exact rfl) (by exact rfl) (by exact rfl)) ?_); (refine su (ap_move (by exact rq_p rfl rfl)) ?_); (refine sc_p rfl rfl (by first | ((repeat' first | exact SubL.nil | refine SubL.cons ?_ ?_ | exact Sub.refl); done) | fail) (by first | (simp [bdL, bdL_append, AV.bd]; done) | fail) (symb_fn g _ hx1 hx2 (by omega)) ?_); (refine se_lit (OpP.cons (by exact rfl) (OpP.nil)) (by exact rfl) (by exact rfl) (by exact rfl) (by exact rfl) (by exact rfl) (by exact rfl) ?_); (refine se_app1 (by exact rfl) (by exact rfl) (by exact rfl) (by exact rfl) (by exact rfl) (by exact rfl) (by exact rfl) (by exact rfl) (by omega) ?_); (refine su (ap_assign (by exact rq_p rfl rfl)) ?_); refine asemC_end ?_) | (refine WP.regionC (id := 16) ?_; (refine su (ap_add (by exact rq_p rfl rfl) (by exact rq_p rfl rfl) (by exact inr_i64_of (by omega))) ?_); (refine su (ap_move (by exact rq_p rfl rfl)) ?_); refine asemC_end ?_)))
        refine ⟨k + 1, ⟨by omega, by omega⟩, ?_⟩
        rw [headW_succ hkl]
        exact ⟨[0, 1, 2, 3, 6], ToR.S rfl (by repeat' (first | exact rt_nil | refine rt_r (by exact rfl) (by exact rfl) ?_ | refine rt_t (by exact rfl) (by exact rfl) ?_ | refine rt_e (by exact rfl) (by exact rfl) ?_ | refine rt_p (by exact rfl) (by exact rfl) (by first | (simp [AV.bd, bdL, bdL_append]; done) | fail) ?_)) (by repeat' (first | exact ro_nil | refine ro_b (by exact rfl) (by first | exact rfl | fail) ?_ | refine ro_d (by exact rfl) (by exact rfl) ?_ | refine ro_p (by exact rfl) (by first | exact rfl | fail) (by first | exact bdL_map (fun _ => by exact rfl) _ | (simp [bdL, bdL_append, AV.bd]; done) | fail) ?_)) (by decide) (by (rw [hm]; exact rfl)) (by exact rfl) (by (simp [bdT, AV.bd, bdL, bdL_append]; done)) (by repeat' (first | exact True.intro | exact rfl | refine And.intro ?_ ?_ | exact bdL_map (fun _ => by exact rfl) _ | (simp [bdOq, bdL, bdL_append, AV.bd]; done))) (by (rw [hm]; exact Nat.le_of_ble_eq_true rfl))⟩
      · obtain rfl : k = (nth g.rules i).body.length := by omega
        have hrl := hv.ruleLen (nth_mem hlt)
        have hll := hv.lineLen (nth_mem hlt)
        (repeat' (first | refine WP.seq ?_ | refine go_n ?_ | refine WP.skip ?_ | refine WP.exit ?_ | refine go_x ?_ | refine bl_x ?_ | (refine wp_cond (by exact rfl) (fun hc => ?_) (fun hc => ?_) <;> (try simp only [decide_eq_true_eq, decide_eq_false_iff_not, Decidable.not_not, Bool.and_eq_true, Bool.or_eq_true, Bool.not_eq_true', Bool.not_eq_false', Bool.or_eq_false_iff, Bool.and_eq_false_iff, Int.not_lt, Int.not_le, reduceCtorEq, ne_eq, Bool.not_true, Bool.not_false, Bool.not_eq_true, Bool.not_eq_false] at hc) <;> (try (exfalso; omega))) | (refine WP.regionC (id := 13) ?_; (refine su (ap_lss (by exact rq_p rfl rfl) (by exact rq_p rfl rfl)) ?_); refine asemC_end ?_) | (refine WP.regionC (id := 17) ?_; (refine su (ap_field_p (by exact rq_p rfl rfl) (by exact rfl) (by exact rfl)) ?_); (refine su (ap_load_p (by exact rq_p rfl rfl) (by exact rfl) (by exact rfl) (by exact rfl)) ?_); (refine su (ap_neq (by exact rq_p rfl rfl) (by exact rq_p rfl rfl)) ?_); refine asemC_end ?_) | (refine WP.regionC (id := 18) ?_; (refine su (ap_move (by exact rq_p rfl rfl)) ?_); (refine su (ap_field_p (by exact rq_p rfl rfl) (by exact rfl) (by exact rfl)) ?_); (refine su (ap_load_p (by exact rq_p rfl rfl) (by exact rfl) (by exact rfl) (by exact rfl)) ?_); (refine sc_p rfl rfl (by first | ((repeat' first | exact SubL.nil | refine SubL.cons ?_ ?_ | exact Sub.refl); done) | fail) (by first | (simp [bdL, bdL_append, AV.bd]; done) | fail) (itoa_fn _ (by omega) (by omega)) ?_); (refine se_lit (OpP.cons (by exact rfl) (OpP.cons (by exact rfl) (OpP.nil))) (by exact rfl) (by exact rfl) (by exact rfl) (by exact rfl) (by exact rfl) (by exact rfl) ?_); (refine se_app (by exact rfl) (by exact rfl) (by exact rfl) (by (simp; done)) (by exact rfl) (by exact rfl) (by exact rfl) (by exact rfl) (by (simp only [List.length_replicate, List.length_set, List.length_append, List.length_map, List.length_cons, List.length_nil, List.length_take, List.length_drop] <;> omega)) ?_); (refine su (ap_assign (by exact rq_p rfl rfl)) ?_); refine asemC_end ?_)))
        · have e1 : (ruleW g (nth g.rules i)).map strA = (headW g (nth g.rules i) (nth g.rules i).body.length).map strA ++ [strA wPrice, strA (tx (Lib.itoa (nth g.rules i).price))] := by
            simp [ruleW, priceW, hc]
          have e2 : ((headW g (nth g.rules i) (nth g.rules i).body.length).map strA ++ [strA wPrice, strA (tx (Lib.itoa (nth g.rules i).price))]).length = (ruleW g (nth g.rules i)).length := by rw [← e1, List.length_map]
          refine wp_st (S 77 [(1, .ptr 0 4 0 0), (3, .ptr 1 2 0 0), (4, .clo (.func 31) [] [.ptr 1 2 0 0]), (6, .ptr 3 3 0 0), (7, .ref 4 1 0 ((headW g (nth g.rules i) (nth g.rules i).body.length).map strA ++ [strA wPrice, strA (tx (Lib.itoa (nth g.rules i).price))]).length), (36, rulesA g.rules), (37, intA (g.rules.length : Nat)), (38, intA (i : Nat))] 5 [(0, some (.arr 4 [gramA g])), (1, some (.bld TB (.ref 2 1 0 (fmtTo g i).length))), (2, some (.bytes (fmtTo g i))), (3, some (.arr 3 [ruleA (nth g.rules i)])), (4, some (.arr 1 ((headW g (nth g.rules i) (nth g.rules i).body.length).map strA ++ [strA wPrice, strA (tx (Lib.itoa (nth g.rules i).price))])))]) ⟨[0, 1, 2, 3, 6], ToR.S rfl (by repeat' (first | exact rt_nil | refine rt_r (by exact rfl) (by exact rfl) ?_ | refine rt_t (by exact rfl) (by exact rfl) ?_ | refine rt_e (by exact rfl) (by exact rfl) ?_ | refine rt_p (by exact rfl) (by exact rfl) (by first | (simp [AV.bd, bdL, bdL_append]; done) | fail) ?_)) (by repeat' (first | exact ro_nil | refine ro_b (by exact rfl) (by first | exact rfl | fail) ?_ | refine ro_d (by exact rfl) (by exact rfl) ?_ | refine ro_p (by exact rfl) (by first | exact rfl | fail) (by first | (simp [bdL, bdL_append, AV.bd]; done) | fail) ?_)) (by decide) (by (rw [hm]; exact rfl)) (by exact rfl) (by (simp [bdT, AV.bd, bdL, bdL_append]; done)) (by repeat' (first | exact True.intro | exact rfl | refine And.intro ?_ ?_ | (simp [bdOq, bdL, bdL_append, AV.bd]; done))) (by (rw [hm]; exact Nat.le_of_ble_eq_true rfl))⟩ ?_
          rw [e2, ← e1]
          (repeat' (first | refine go_n ?_ | refine bl_n ?_ | (refine WP.regionC (id := 19) ?_; (refine su (ap_move (by exact rq_p rfl rfl)) ?_); (refine su (ap_move (by exact rq_p rfl rfl)) ?_); (refine sc_wr rfl rfl (by repeat' first | exact ArgS.nil | refine ArgS.ren (by exact rfl) (by exact rfl) ?_ | refine ArgS.row (by exact rfl) (by (simp; done)) (by exact bdL_map (fun _ => by exact rfl) _) (by (intro e he; obtain ⟨_, _, rfl⟩ := List.mem_map.1 he; rfl)) ?_) (by exact rfl) (by exact rfl) (by exact rfl) (by exact rfl) (by exact rfl) (by exact rfl) (line_wr _ (ruleW g (nth g.rules i)) (by omega) (by omega) (by omega)) ?_); refine asemC_end ?_) | (refine WP.regionC (id := 20) ?_; (refine su (ap_add (by exact rq_p rfl rfl) (by exact rq_p rfl rfl) (by exact inr_i64_of (by omega))) ?_); (refine su (ap_move (by exact rq_p rfl rfl)) ?_); refine asemC_end ?_)))
          refine ⟨i + 1, ⟨by omega, by omega⟩, ?_⟩
          rw [fmtTo_succ hlt]
          exact ⟨[0, 1, 5], ToR.S rfl (by repeat' (first | exact rt_nil | refine rt_t (by exact rfl) (by exact rfl) ?_ | refine rt_e (by exact rfl) (by exact rfl) ?_ | refine rt_p (by exact rfl) (by exact rfl) (by first | (simp [AV.bd, bdL, bdL_append]; done) | fail) ?_)) (by repeat' (first | exact ro_nil | refine ro_b (by exact rfl) (by first | exact rfl | fail) ?_ | refine ro_d (by exact rfl) (by exact rfl) ?_ | refine ro_p (by exact rfl) (by first | exact rfl | fail) (by first | (simp [bdL, bdL_append, AV.bd]; done) | fail) ?_)) (by decide) (by (rw [hm]; exact rfl)) (by exact rfl) (by (simp [bdT, AV.bd, bdL, bdL_append]; done)) (by repeat' (first | exact True.intro | exact rfl | refine And.intro ?_ ?_ | (simp [bdOq, bdL, bdL_append, AV.bd]; done))) (by (rw [hm]; exact Nat.le_of_ble_eq_true rfl))⟩
        · have e1 : ruleW g (nth g.rules i) = headW g (nth g.rules i) (nth g.rules i).body.length := by simp [ruleW, priceW, hc]
          rw [← e1]
          (repeat' (first | refine go_n ?_ | refine bl_n ?_ | (refine WP.regionC (id := 19) ?_; (refine su (ap_move (by exact rq_p rfl rfl)) ?_); (refine su (ap_move (by exact rq_p rfl rfl)) ?_); (refine sc_wr rfl rfl (by repeat' first | exact ArgS.nil | refine ArgS.ren (by exact rfl) (by exact rfl) ?_ | refine ArgS.row (by exact rfl) (by (simp; done)) (by exact bdL_map (fun _ => by exact rfl) _) (by (intro e he; obtain ⟨_, _, rfl⟩ := List.mem_map.1 he; rfl)) ?_) (by exact rfl) (by exact rfl) (by exact rfl) (by exact rfl) (by exact rfl) (by exact rfl) (line_wr _ (ruleW g (nth g.rules i)) (by omega) (by omega) (by omega)) ?_); refine asemC_end ?_) | (refine WP.regionC (id := 20) ?_; (refine su (ap_add (by exact rq_p rfl rfl) (by exact rq_p rfl rfl) (by exact inr_i64_of (by omega))) ?_); (refine su (ap_move (by exact rq_p rfl rfl)) ?_); refine asemC_end ?_)))
          refine ⟨i + 1, ⟨by omega, by omega⟩, ?_⟩
          rw [fmtTo_succ hlt]
          exact ⟨[0, 1, 5], ToR.S rfl (by repeat' (first | exact rt_nil | refine rt_t (by exact rfl) (by exact rfl) ?_ | refine rt_e (by exact rfl) (by exact rfl) ?_ | refine rt_p (by exact rfl) (by exact rfl) (by first | (simp [AV.bd, bdL, bdL_append]; done) | fail) ?_)) (by repeat' (first | exact ro_nil | refine ro_b (by exact rfl) (by first | exact rfl | fail) ?_ | refine ro_d (by exact rfl) (by exact rfl) ?_ | refine ro_p (by exact rfl) (by first | exact rfl | fail) (by first | (simp [bdL, bdL_append, AV.bd]; done) | fail) ?_)) (by decide) (by (rw [hm]; exact rfl)) (by exact rfl) (by (simp [bdT, AV.bd, bdL, bdL_append]; done)) (by repeat' (first | exact True.intro | exact rfl | refine And.intro ?_ ?_ | (simp [bdOq, bdL, bdL_append, AV.bd]; done))) (by (rw [hm]; exact Nat.le_of_ble_eq_true rfl))⟩
    · obtain rfl : i = g.rules.length := by omega
      have hne : fmtTo g g.rules.length ≠ [] := by
        simp [fmtTo, fmt0, lineT_cons]
      (repeat' (first | refine WP.seq ?_ | refine go_n ?_ | refine WP.exit ?_ | refine WP.ret ?_ | refine go_x ?_ | refine bl_x ?_ | refine bo_r ?_ | (refine wp_cond (by exact rfl) (fun hc => ?_) (fun hc => ?_) <;> (try simp only [decide_eq_true_eq, decide_eq_false_iff_not, Decidable.not_not, Bool.and_eq_true, Bool.or_eq_true, Bool.not_eq_true', Bool.not_eq_false', Bool.or_eq_false_iff, Bool.and_eq_false_iff, Int.not_lt, Int.not_le, reduceCtorEq, ne_eq, Bool.not_true, Bool.not_false, Bool.not_eq_true, Bool.not_eq_false] at hc) <;> (try (exfalso; omega))) | (refine WP.regionC (id := 9) ?_; (refine su (ap_lss (by exact rq_p rfl rfl) (by exact rq_p rfl rfl)) ?_); refine asemC_end ?_) | (refine WP.regionC (id := 21) ?_; (refine sc_bstr rfl rfl (by exact rfl) (by exact rfl) (by exact rfl) (by exact rfl) (by exact rfl) (by assumption) ?_); (refine su (ap_assign (by exact rq_p rfl rfl)) ?_); refine asemC_end ?_)))
      rw [show formatR g = tx (fmtTo g g.rules.length) from by simp [formatR, hval]]
      exact ret_eq (by exact rfl) rfl rfl
  · have hv0 : validG g = false := by simpa using hval
    have e1 : formatR g = ⟨#[]⟩ := by simp [formatR, hv0]
    rw [e1]
    (repeat' (first | refine WP.seq ?_ | refine go_n ?_ | refine WP.skip ?_ | refine WP.ret ?_ | refine go_r ?_ | refine bo_r ?_ | (refine wp_cond (by exact rfl) (fun hc => ?_) (fun hc => ?_) <;> (try simp only [decide_eq_true_eq, decide_eq_false_iff_not, Decidable.not_not, Bool.and_eq_true, Bool.or_eq_true, Bool.not_eq_true', Bool.not_eq_false', Bool.or_eq_false_iff, Bool.and_eq_false_iff, Int.not_lt, Int.not_le, reduceCtorEq, ne_eq, Bool.not_true, Bool.not_false, Bool.not_eq_true, Bool.not_eq_false] at hc) <;> (try (exfalso; omega))) | (refine WP.regionC (id := 0) ?_; (refine se_box (by exact rfl) (by exact ⟨rfl, rfl⟩) ?_); (refine su (ap_assign (by exact rq_p rfl rfl)) ?_); refine asemC_end ?_) | (refine WP.regionC (id := 1) ?_; (refine su (ap_load_pw (by exact rq_p rfl rfl) (by exact rfl) (by exact rfl) (by exact rfl)) ?_); (refine sc_p rfl rfl (by first | ((repeat' first | exact SubL.nil | refine SubL.cons ?_ ?_ | exact Sub.refl); done) | fail) (by first | (simp [bdL, bdL_append, AV.bd]; done) | fail) (gvalid_fn _) ?_); (refine su (ap_not (by exact rq_p rfl rfl)) ?_); refine asemC_end ?_) | (refine WP.regionC (id := 2) ?_; (refine su (ap_assign (by exact rq_p rfl rfl)) ?_); refine asemC_end ?_) | exact ret_eq (by exact rfl) (by exact rfl) rfl))
    rw [hv0] at hc; cases hc
end Go.Lg

/- reference: words, Format. -/
namespace Go.Lg
open Go.Proofs
set_option linter.unusedSimpArgs false
set_option linter.unusedVariables false
attribute [local irreducible] Ap Rq asemC WP RunD Ret Gq thenA inBlockA bodyQ noGotoA RqL RqP OpP
set_option maxHeartbeats 8000000

theorem words_fn (l : List ByteArray) (hl : l.length ≤ 200) (hb : ∀ x, x ∈ l → x.size ≤ 48) : Fn Tryd.prog 37 [strsA l] (strA (tx (spaced l))) := by
  refine Fn.intro (by exact rfl) (by kernel_rfl) Tryd.func37 rfl rfl Tryd.ntmps37 (by exact Nat.le_of_ble_eq_true rfl) ?_; intro Γ hm
  (repeat' (first | refine WP.seq ?_ | refine WP.block ?_ | refine go_n ?_ | (refine WP.regionC (id := 0) ?_; (refine su (ap_assign (by exact rq_p rfl rfl)) ?_); refine asemC_end ?_) | (refine WP.regionC (id := 1) ?_; (refine su (ap_assign (by exact rq_p rfl rfl)) ?_); refine asemC_end ?_) | (refine WP.regionC (id := 2) ?_; (refine su (ap_assign (by exact rq_p rfl rfl)) ?_); refine asemC_end ?_)))
  refine wp_loop (fun (k : Nat) => k ≤ l.length) (fun k => l.length - k) (fun k => (S 19 [(0, strsA l), (3, strA (tx (spaced (l.take k)))), (4, intA (k : Nat))] 0 [])) 0 ⟨[], ToR.S rfl (by repeat' (first | exact rt_nil | refine rt_e (by exact rfl) (by exact rfl) ?_ | refine rt_p (by exact rfl) (by exact rfl) (by first | (simp [AV.bd, bdL, bdL_append]; done) | fail) ?_)) (by repeat' (exact ro_nil)) (by decide) (by (rw [hm]; exact rfl)) (by exact rfl) (by (simp [bdT, AV.bd, bdL, bdL_append]; done)) (by repeat' (exact True.intro)) (by (rw [hm]; exact Nat.le_of_ble_eq_true rfl))⟩ (Nat.zero_le _) ?_
  rintro k hk
  have h1 := spaced_len (l := l.take k) (c := 48) (fun x hx => hb x (List.mem_of_mem_take hx))
  have h2 : (tx (spaced (l.take k))).size ≤ 10000 := by
    rw [tx_size]; rw [List.length_take, Nat.min_eq_left hk] at h1; omega
  by_cases hlt : k < l.length
  · have h3 := hb _ (nth_mem hlt)
    have e : tx (spaced (l.take k)) ++ ⟨#[32]⟩ ++ nth l k = tx (spaced (l.take (k + 1))) := by
      apply ba_ext
      rw [take_succ_nth hlt, spaced_app]
      simp only [bl_app, bl_tx]
      simp [spaced, bl]
    (repeat' (first | refine WP.seq ?_ | refine WP.block ?_ | refine go_n ?_ | refine WP.skip ?_ | refine bl_n ?_ | (refine wp_cond (by exact rfl) (fun hc => ?_) (fun hc => ?_) <;> (try simp only [decide_eq_true_eq, decide_eq_false_iff_not, Decidable.not_not, Bool.and_eq_true, Bool.or_eq_true, Bool.not_eq_true', Bool.not_eq_false', Bool.or_eq_false_iff, Bool.and_eq_false_iff, Int.not_lt, Int.not_le, reduceCtorEq, ne_eq, Bool.not_true, Bool.not_false, Bool.not_eq_true, Bool.not_eq_false] at hc) <;> (try (exfalso; omega))) | (refine WP.regionC (id := 3) ?_; (refine su (ap_move (by exact rq_p rfl rfl)) ?_); (refine su (ap_move (by exact rq_p rfl rfl)) ?_); (refine su (ap_len_m (by exact rfl) (by exact rq_p rfl rfl)) ?_); (refine su (ap_lss (by exact rq_p rfl rfl) (by exact rq_p rfl rfl)) ?_); refine asemC_end ?_) | (refine WP.regionC (id := 5) ?_; (refine su (ap_move (by exact rq_p rfl rfl)) ?_); (refine su (ap_cat (by exact rq_p rfl rfl) (by exact rq_p rfl rfl) (by (simp only [bsz, List.size_toArray, ByteArray.size_append, List.length_append, List.length_cons, List.length_nil] <;> omega))) ?_); (refine su (ap_move (by exact rq_p rfl rfl)) ?_); (refine su (ap_move (by exact rq_p rfl rfl)) ?_); (refine su (ap_idx_n (by exact rq_p rfl rfl) (by exact rq_p rfl rfl) (by omega)) ?_); (refine su (ap_load_w (by exact rq_p rfl rfl) (by exact rfl)) ?_); (refine su (ap_cat (by exact rq_p rfl rfl) (by exact rq_p rfl rfl) (by (simp only [bsz, List.size_toArray, ByteArray.size_append, List.length_append, List.length_cons, List.length_nil] <;> omega))) ?_); (refine su (ap_assign (by exact rq_p rfl rfl)) ?_); refine asemC_end ?_) | (refine WP.regionC (id := 4) ?_; (refine su (ap_move (by exact rq_p rfl rfl)) ?_); (refine su (ap_add (by exact rq_p rfl rfl) (by exact rq_p rfl rfl) (by exact inr_i64_of (by omega))) ?_); (refine su (ap_assign (by exact rq_p rfl rfl)) ?_); refine asemC_end ?_)))
    refine ⟨k + 1, ⟨by omega, by omega⟩, ?_⟩
    rw [e]
    exact ⟨[], ToR.S rfl (by repeat' (first | exact rt_nil | refine rt_e (by exact rfl) (by exact rfl) ?_ | refine rt_p (by exact rfl) (by exact rfl) (by first | (simp [AV.bd, bdL, bdL_append]; done) | fail) ?_)) (by repeat' (exact ro_nil)) (by decide) (by (rw [hm]; exact rfl)) (by exact rfl) (by (simp [bdT, AV.bd, bdL, bdL_append]; done)) (by repeat' (exact True.intro)) (by (rw [hm]; exact Nat.le_of_ble_eq_true rfl))⟩
  · (repeat' (first | refine WP.seq ?_ | refine go_n ?_ | refine WP.exit ?_ | refine WP.ret ?_ | refine go_x ?_ | refine bl_x ?_ | refine bo_r ?_ | (refine wp_cond (by exact rfl) (fun hc => ?_) (fun hc => ?_) <;> (try simp only [decide_eq_true_eq, decide_eq_false_iff_not, Decidable.not_not, Bool.and_eq_true, Bool.or_eq_true, Bool.not_eq_true', Bool.not_eq_false', Bool.or_eq_false_iff, Bool.and_eq_false_iff, Int.not_lt, Int.not_le, reduceCtorEq, ne_eq, Bool.not_true, Bool.not_false, Bool.not_eq_true, Bool.not_eq_false] at hc) <;> (try (exfalso; omega))) | (refine WP.regionC (id := 3) ?_; (refine su (ap_move (by exact rq_p rfl rfl)) ?_); (refine su (ap_move (by exact rq_p rfl rfl)) ?_); (refine su (ap_len_m (by exact rfl) (by exact rq_p rfl rfl)) ?_); (refine su (ap_lss (by exact rq_p rfl rfl) (by exact rq_p rfl rfl)) ?_); refine asemC_end ?_) | (refine WP.regionC (id := 6) ?_; (refine su (ap_move (by exact rq_p rfl rfl)) ?_); (refine su (ap_assign (by exact rq_p rfl rfl)) ?_); refine asemC_end ?_)))
    rw [List.take_of_length_le (by omega)]; exact ret_eq (by exact rfl) rfl rfl
/-- the reference's text, k symbols of rule i done -/
def rIn (g : Gram) (i k : Nat) : List UInt8 := fmtTo g i ++ bl (nth g.nonterms (nth g.rules i).head.toNat) ++ [32, 45, 62] ++ spaced (((nth g.rules i).body.take k).map (symN g))
theorem rIn_succ {g : Gram} {i k : Nat} (hk : k < (nth g.rules i).body.length) : rIn g i (k + 1) = rIn g i k ++ 32 :: bl (symN g (nth (nth g.rules i).body k)) := by
  simp only [rIn, take_succ_nth hk, List.map_append, spaced_app, List.append_assoc]
  simp [spaced]
theorem rIn_end {g : Gram} {i : Nat} (hi : i < g.rules.length) : fmtTo g (i + 1) = rIn g i (nth g.rules i).body.length ++ spaced (priceW (nth g.rules i).price) ++ [10] := by
  rw [fmtTo_succ hi]
  simp only [ruleW, headW, rIn, List.cons_append, lineT_cons, List.take_length, List.append_assoc]
  simp [spaced, wArrow, bl]
theorem FVal.rInLen {g : Gram} (hv : FVal g) {i k : Nat} (hi : i < g.rules.length) (hk : k ≤ (nth g.rules i).body.length) : (rIn g i k).length ≤ 20000 + 800 * i := by
  have h1 := hv.fmtLen (Nat.le_of_lt hi)
  have hr := hv.rule _ (nth_mem hi)
  have h2 := hv.ns (nth_mem (l := g.nonterms) (k := (nth g.rules i).head.toNat) (by omega))
  have h3 := spaced_len (l := ((nth g.rules i).body.take k).map (symN g)) (c := 48) (fun x hx => by
    obtain ⟨y, hy, rfl⟩ := List.mem_map.1 hx
    have := hr.2.2.2.2.2 y (List.mem_of_mem_take hy)
    exact hv.sym this.1 this.2)
  simp only [List.length_map, List.length_take, Nat.min_eq_left hk] at h3
  simp only [rIn, List.length_append, List.length_cons, List.length_nil, bl_len]
  omega

theorem rformat_fn (g : Gram) : Fn Tryd.prog 17 [gramA g] (strA (formatR g)) := by
  refine Fn.intro (by exact rfl) (by kernel_rfl) Tryd.func17 rfl rfl Tryd.ntmps17 (by exact Nat.le_of_ble_eq_true rfl) ?_; intro Γ hm
  by_cases hval : validG g = true
  · have hv := FVal.of hval
    have hn1 := hv.n1; have ht2 := hv.t2; have hn2 := hv.n2; have hr2 := hv.r2; have hs0 := hv.s0; have hsn := hv.sn
    have hw1 : (tx (spaced g.terms)).size ≤ 6000 := by
      have := spaced_len (l := g.terms) (c := 48) fun x hx => hv.ts hx
      rw [tx_size]; omega
    have hw2 : (tx (spaced g.nonterms)).size ≤ 6000 := by
      have := spaced_len (l := g.nonterms) (c := 48) fun x hx => hv.ns hx
      rw [tx_size]; omega
    have hw3 := hv.ns (nth_mem (l := g.nonterms) (k := g.start.toNat) (by omega))
    have hnm : ∀ x, x ∈ g.terms ∨ x ∈ g.nonterms → x.size ≤ 48 := fun x hx => hx.elim (fun h => hv.ts h) (fun h => hv.ns h)
    (repeat' (first | refine WP.seq ?_ | refine WP.block ?_ | refine go_n ?_ | refine WP.skip ?_ | refine WP.ret ?_ | refine go_r ?_ | refine bo_r ?_ | (refine wp_cond (by exact rfl) (fun hc => ?_) (fun hc => ?_) <;> (try simp only [decide_eq_true_eq, decide_eq_false_iff_not, Decidable.not_not, Bool.and_eq_true, Bool.or_eq_true, Bool.not_eq_true', Bool.not_eq_false', Bool.or_eq_false_iff, Bool.and_eq_false_iff, Int.not_lt, Int.not_le, reduceCtorEq, ne_eq, Bool.not_true, Bool.not_false, Bool.not_eq_true, Bool.not_eq_false] at hc) <;> (try (exfalso; omega))) | (refine WP.regionC (id := 0) ?_; (refine se_box (by exact rfl) (by exact ⟨rfl, rfl⟩) ?_); (refine su (ap_assign (by exact rq_p rfl rfl)) ?_); refine asemC_end ?_) | (refine WP.regionC (id := 1) ?_; (refine su (ap_load_pw (by exact rq_p rfl rfl) (by exact rfl) (by exact rfl) (by exact rfl)) ?_); (refine sc_p rfl rfl (by first | ((repeat' first | exact SubL.nil | refine SubL.cons ?_ ?_ | exact Sub.refl); done) | fail) (by first | (simp [bdL, bdL_append, AV.bd]; done) | fail) (rvalid_fn _) ?_); (refine su (ap_not (by exact rq_p rfl rfl)) ?_); refine asemC_end ?_) | (refine WP.regionC (id := 2) ?_; (refine su (ap_assign (by exact rq_p rfl rfl)) ?_); refine asemC_end ?_) | (refine wp_draw (id := 3) 19 mixed (by kernel_rfl) (by kernel_rfl) rfl ?_ <;> (refine rd_u (by exact rfl) (by exact rfl) (ap_field_p (by exact rq_p rfl rfl) (by exact rfl) (by exact rfl)) ?_) <;> (refine rd_u (by exact rfl) (by exact rfl) (ap_load_p (by exact rq_p rfl rfl) (by exact rfl) (by exact rfl) (by exact rfl)) ?_) <;> (refine rd_call rfl rfl (by first | ((repeat' first | exact SubL.nil | refine SubL.cons ?_ ?_ | exact Sub.refl); done) | fail) (by first | (simp [bdL, bdL_append, AV.bd]; done) | fail) (words_fn _ (by omega) (fun x hx => hnm x (by simp [hx]))) ?_) <;> (refine rd_u (by exact rfl) (by exact rfl) (ap_cat (by exact rq_p rfl rfl) (by exact rq_p rfl rfl) (by (simp only [bsz, List.size_toArray, ByteArray.size_append, List.length_append, List.length_cons, List.length_nil] <;> omega))) ?_) <;> (refine rd_u (by exact rfl) (by exact rfl) (ap_cat (by exact rq_p rfl rfl) (by exact rq_p rfl rfl) (by (simp only [bsz, List.size_toArray, ByteArray.size_append, List.length_append, List.length_cons, List.length_nil] <;> omega))) ?_) <;> (refine rd_u (by exact rfl) (by exact rfl) (ap_field_p (by exact rq_p rfl rfl) (by exact rfl) (by exact rfl)) ?_) <;> (refine rd_u (by exact rfl) (by exact rfl) (ap_load_p (by exact rq_p rfl rfl) (by exact rfl) (by exact rfl) (by exact rfl)) ?_) <;> (refine rd_call rfl rfl (by first | ((repeat' first | exact SubL.nil | refine SubL.cons ?_ ?_ | exact Sub.refl); done) | fail) (by first | (simp [bdL, bdL_append, AV.bd]; done) | fail) (words_fn _ (by omega) (fun x hx => hnm x (by simp [hx]))) ?_) <;> (refine rd_u (by exact rfl) (by exact rfl) (ap_cat (by exact rq_p rfl rfl) (by exact rq_p rfl rfl) (by (simp only [bsz, List.size_toArray, ByteArray.size_append, List.length_append, List.length_cons, List.length_nil] <;> omega))) ?_) <;> (refine rd_u (by exact rfl) (by exact rfl) (ap_cat (by exact rq_p rfl rfl) (by exact rq_p rfl rfl) (by (simp only [bsz, List.size_toArray, ByteArray.size_append, List.length_append, List.length_cons, List.length_nil] <;> omega))) ?_) <;> (refine rd_u (by exact rfl) (by exact rfl) (ap_field_p (by exact rq_p rfl rfl) (by exact rfl) (by exact rfl)) ?_) <;> (refine rd_u (by exact rfl) (by exact rfl) (ap_load_p (by exact rq_p rfl rfl) (by exact rfl) (by exact rfl) (by exact rfl)) ?_) <;> (refine rd_u (by exact rfl) (by exact rfl) (ap_field_p (by exact rq_p rfl rfl) (by exact rfl) (by exact rfl)) ?_) <;> (refine rd_u (by exact rfl) (by exact rfl) (ap_load_p (by exact rq_p rfl rfl) (by exact rfl) (by exact rfl) (by exact rfl)) ?_) <;> (refine rd_u (by exact rfl) (by exact rfl) (ap_idx_z (by exact rq_p rfl rfl) (by exact rq_p rfl rfl) (by omega)) ?_) <;> (refine rd_u (by exact rfl) (by exact rfl) (ap_load_w (by exact rq_p rfl rfl) (by exact rfl)) ?_) <;> (refine rd_u (by exact rfl) (by exact rfl) (ap_cat (by exact rq_p rfl rfl) (by exact rq_p rfl rfl) (by (simp only [bsz, List.size_toArray, ByteArray.size_append, List.length_append, List.length_cons, List.length_nil] <;> omega))) ?_) <;> (refine rd_u (by exact rfl) (by exact rfl) (ap_cat (by exact rq_p rfl rfl) (by exact rq_p rfl rfl) (by (simp only [bsz, List.size_toArray, ByteArray.size_append, List.length_append, List.length_cons, List.length_nil] <;> omega))) ?_) <;> (refine rd_u (by exact rfl) (by exact rfl) (ap_assign (by exact rq_p rfl rfl)) ?_) <;> (refine rd_end (by kernel_rfl) ?_)) | (refine WP.regionC (id := 4) ?_; (refine su (ap_assign (by exact rq_p rfl rfl)) ?_); refine asemC_end ?_)))
    · rw [hval] at hc; cases hc
    have e0 : (⟨#[116, 101, 114, 109, 115]⟩ ++ tx (spaced g.terms) ++ ⟨#[10, 110, 111, 110, 116, 101, 114, 109, 115]⟩ ++ tx (spaced g.nonterms) ++ ⟨#[10, 115, 116, 97, 114, 116, 32]⟩ ++ nth g.nonterms g.start.toNat ++ ⟨#[10]⟩ : ByteArray) = tx (fmtTo g 0) := by
      apply ba_ext
      simp only [bl_app, bl_tx, fmtTo, fmt0, lineT_cons, List.take_zero, List.map_nil, List.flatten_nil, List.append_nil]
      simp [spaced, bl, wTerms, wNonterms, wStart]
    rw [e0]
    refine wp_loop (fun (i : Nat) => i ≤ g.rules.length) (fun i => g.rules.length - i)
      (fun i => (S 99 [(1, .ptr 0 4 0 0), (3, strA (tx (fmtTo g i))), (4, intA (i : Nat))] 1 [(0, some (.arr 4 [gramA g]))])) 0 ⟨[0], ToR.S rfl (by repeat' (first | exact rt_nil | refine rt_t (by exact rfl) (by exact rfl) ?_ | refine rt_e (by exact rfl) (by exact rfl) ?_)) (by repeat' (first | exact ro_nil | refine ro_p (by exact rfl) (by first | exact rfl | fail) (by first | (simp [bdL, bdL_append, AV.bd]; done) | fail) ?_)) (by decide) (by (rw [hm]; exact rfl)) (by exact rfl) (by (simp [bdT, AV.bd, bdL, bdL_append]; done)) (by repeat' (first | exact True.intro | refine And.intro ?_ ?_ | (simp [bdOq, bdL, bdL_append, AV.bd]; done))) (by (rw [hm]; exact Nat.le_of_ble_eq_true rfl))⟩ (Nat.zero_le _) ?_
    rintro i hi
    have hfl := hv.fmtLen hi
    have hfs : (tx (fmtTo g i)).size ≤ 18000 + 800 * i := by rw [tx_size]; exact hfl
    by_cases hlt : i < g.rules.length
    · have hr := hv.rule _ (nth_mem hlt)
      have hrh := hr.1; have hrn := hr.2.1; have hrb := hr.2.2.1; have hp0 := hr.2.2.2.1; have hp1 := hr.2.2.2.2.1
      have hhs := hv.ns (nth_mem (l := g.nonterms) (k := (nth g.rules i).head.toNat) (by omega))
      (repeat' (first | refine WP.seq ?_ | refine WP.block ?_ | refine go_n ?_ | refine WP.skip ?_ | (refine wp_cond (by exact rfl) (fun hc => ?_) (fun hc => ?_) <;> (try simp only [decide_eq_true_eq, decide_eq_false_iff_not, Decidable.not_not, Bool.and_eq_true, Bool.or_eq_true, Bool.not_eq_true', Bool.not_eq_false', Bool.or_eq_false_iff, Bool.and_eq_false_iff, Int.not_lt, Int.not_le, reduceCtorEq, ne_eq, Bool.not_true, Bool.not_false, Bool.not_eq_true, Bool.not_eq_false] at hc) <;> (try (exfalso; omega))) | (refine WP.regionC (id := 5) ?_; (refine su (ap_move (by exact rq_p rfl rfl)) ?_); (refine su (ap_field_p (by exact rq_p rfl rfl) (by exact rfl) (by exact rfl)) ?_); (refine su (ap_load_p (by exact rq_p rfl rfl) (by exact rfl) (by exact rfl) (by exact rfl)) ?_); (refine su (ap_len_m (by exact rfl) (by exact rq_p rfl rfl)) ?_); (refine su (ap_lss (by exact rq_p rfl rfl) (by exact rq_p rfl rfl)) ?_); refine asemC_end ?_) | (refine WP.regionC (id := 7) ?_; (refine su (ap_field_p (by exact rq_p rfl rfl) (by exact rfl) (by exact rfl)) ?_); (refine su (ap_load_p (by exact rq_p rfl rfl) (by exact rfl) (by exact rfl) (by exact rfl)) ?_); (refine su (ap_move (by exact rq_p rfl rfl)) ?_); (refine su (ap_idx_n (by exact rq_p rfl rfl) (by exact rq_p rfl rfl) (by omega)) ?_); (refine su (ap_load_w (by exact rq_p rfl rfl) (by exact rfl)) ?_); (refine se_alloc (by exact rfl) ?_); (refine se_store_b (by exact rfl) (by exact rfl) (by exact rfl) (by exact rfl) ?_); refine asemC_end ?_) | (refine WP.regionC (id := 8) ?_; (refine su (ap_move (by exact rq_p rfl rfl)) ?_); (refine su (ap_field_p (by exact rq_p rfl rfl) (by exact rfl) (by exact rfl)) ?_); (refine su (ap_load_p (by exact rq_p rfl rfl) (by exact rfl) (by exact rfl) (by exact rfl)) ?_); (refine su (ap_field_p (by exact rq_p rfl rfl) (by exact rfl) (by exact rfl)) ?_); (refine su (ap_load_p (by exact rq_p rfl rfl) (by exact rfl) (by exact rfl) (by exact rfl)) ?_); (refine su (ap_idx_z (by exact rq_p rfl rfl) (by exact rq_p rfl rfl) (by omega)) ?_); (refine su (ap_load_w (by exact rq_p rfl rfl) (by exact rfl)) ?_); (refine su (ap_cat (by exact rq_p rfl rfl) (by exact rq_p rfl rfl) (by omega)) ?_); (refine su (ap_cat (by exact rq_p rfl rfl) (by exact rq_p rfl rfl) (by (simp only [bsz, List.size_toArray, ByteArray.size_append, List.length_append, List.length_cons, List.length_nil] <;> omega))) ?_); (refine su (ap_assign (by exact rq_p rfl rfl)) ?_); refine asemC_end ?_) | (refine WP.regionC (id := 9) ?_; (refine su (ap_assign (by exact rq_p rfl rfl)) ?_); refine asemC_end ?_)))
      have e1 : (tx (fmtTo g i) ++ nth g.nonterms (nth g.rules i).head.toNat ++ ⟨#[32, 45, 62]⟩ : ByteArray) = tx (rIn g i 0) := by
        apply ba_ext
        simp only [bl_app, bl_tx, rIn, List.take_zero, List.map_nil]
        simp [spaced, bl]
      rw [e1]
      refine wp_loop (fun (k : Nat) => k ≤ (nth g.rules i).body.length) (fun k => (nth g.rules i).body.length - k)
        (fun k => (S 99 [(1, .ptr 0 4 0 0), (3, strA (tx (rIn g i k))), (4, intA (i : Nat)), (5, .ptr 1 3 0 0), (6, intA (k : Nat))] 2 [(0, some (.arr 4 [gramA g])), (1, some (.arr 3 [ruleA (nth g.rules i)]))])) 0 ⟨[0, 1], ToR.S rfl (by repeat' (first | exact rt_nil | refine rt_t (by exact rfl) (by exact rfl) ?_ | refine rt_e (by exact rfl) (by exact rfl) ?_)) (by repeat' (first | exact ro_nil | refine ro_p (by exact rfl) (by first | exact rfl | fail) (by first | (simp [bdL, bdL_append, AV.bd]; done) | fail) ?_)) (by decide) (by (rw [hm]; exact rfl)) (by exact rfl) (by (simp [bdT, AV.bd, bdL, bdL_append]; done)) (by repeat' (first | exact True.intro | refine And.intro ?_ ?_ | (simp [bdOq, bdL, bdL_append, AV.bd]; done))) (by (rw [hm]; exact Nat.le_of_ble_eq_true rfl))⟩ (Nat.zero_le _) ?_
      rintro k hk
      have hil := hv.rInLen hlt hk
      have his : (tx (rIn g i k)).size ≤ 20000 + 800 * i := by rw [tx_size]; exact hil
      by_cases hkl : k < (nth g.rules i).body.length
      · have hx := hr.2.2.2.2.2 _ (nth_mem hkl)
        have hx1 := hx.1; have hx2 := hx.2
        have hss := hv.sym hx1 hx2
        by_cases hx0 : 0 ≤ nth (nth g.rules i).body k
        · have e2 : symN g (nth (nth g.rules i).body k) = nth g.terms (nth (nth g.rules i).body k).toNat := if_pos hx0
          have e3 : (tx (rIn g i k) ++ ⟨#[32]⟩ ++ nth g.terms (nth (nth g.rules i).body k).toNat : ByteArray) = tx (rIn g i (k + 1)) := by
            apply ba_ext
            rw [rIn_succ hkl, ← e2]
            simp only [bl_app, bl_tx]
            simp [bl]
          rw [e2] at hss
          (repeat' (first | refine WP.seq ?_ | refine WP.block ?_ | refine go_n ?_ | refine WP.skip ?_ | refine bl_n ?_ | (refine wp_cond (by exact rfl) (fun hc => ?_) (fun hc => ?_) <;> (try simp only [decide_eq_true_eq, decide_eq_false_iff_not, Decidable.not_not, Bool.and_eq_true, Bool.or_eq_true, Bool.not_eq_true', Bool.not_eq_false', Bool.or_eq_false_iff, Bool.and_eq_false_iff, Int.not_lt, Int.not_le, reduceCtorEq, ne_eq, Bool.not_true, Bool.not_false, Bool.not_eq_true, Bool.not_eq_false] at hc) <;> (try (exfalso; omega))) | (refine WP.regionC (id := 10) ?_; (refine su (ap_move (by exact rq_p rfl rfl)) ?_); (refine su (ap_field_p (by exact rq_p rfl rfl) (by exact rfl) (by exact rfl)) ?_); (refine su (ap_load_p (by exact rq_p rfl rfl) (by exact rfl) (by exact rfl) (by exact rfl)) ?_); (refine su (ap_len_m (by exact rfl) (by exact rq_p rfl rfl)) ?_); (refine su (ap_lss (by exact rq_p rfl rfl) (by exact rq_p rfl rfl)) ?_); refine asemC_end ?_) | (refine WP.regionC (id := 12) ?_; (refine su (ap_field_p (by exact rq_p rfl rfl) (by exact rfl) (by exact rfl)) ?_); (refine su (ap_load_p (by exact rq_p rfl rfl) (by exact rfl) (by exact rfl) (by exact rfl)) ?_); (refine su (ap_move (by exact rq_p rfl rfl)) ?_); (refine su (ap_idx_n (by exact rq_p rfl rfl) (by exact rq_p rfl rfl) (by omega)) ?_); (refine su (ap_load_w (by exact rq_p rfl rfl) (by exact rfl)) ?_); (refine su (ap_geq (by exact rq_p rfl rfl) (by exact rq_p rfl rfl)) ?_); refine asemC_end ?_) | (refine wp_draw (id := 13) 13 mixed (by kernel_rfl) (by kernel_rfl) rfl ?_ <;> (refine rd_u (by exact rfl) (by exact rfl) (ap_move (by exact rq_p rfl rfl)) ?_) <;> (refine rd_u (by exact rfl) (by exact rfl) (ap_cat (by exact rq_p rfl rfl) (by exact rq_p rfl rfl) (by (simp only [bsz, List.size_toArray, ByteArray.size_append, List.length_append, List.length_cons, List.length_nil] <;> omega))) ?_) <;> (refine rd_u (by exact rfl) (by exact rfl) (ap_field_p (by exact rq_p rfl rfl) (by exact rfl) (by exact rfl)) ?_) <;> (refine rd_u (by exact rfl) (by exact rfl) (ap_load_p (by exact rq_p rfl rfl) (by exact rfl) (by exact rfl) (by exact rfl)) ?_) <;> (refine rd_u (by exact rfl) (by exact rfl) (ap_field_p (by exact rq_p rfl rfl) (by exact rfl) (by exact rfl)) ?_) <;> (refine rd_u (by exact rfl) (by exact rfl) (ap_load_p (by exact rq_p rfl rfl) (by exact rfl) (by exact rfl) (by exact rfl)) ?_) <;> (refine rd_u (by exact rfl) (by exact rfl) (ap_move (by exact rq_p rfl rfl)) ?_) <;> (refine rd_u (by exact rfl) (by exact rfl) (ap_idx_n (by exact rq_p rfl rfl) (by exact rq_p rfl rfl) (by omega)) ?_) <;> (refine rd_u (by exact rfl) (by exact rfl) (ap_load_w (by exact rq_p rfl rfl) (by exact rfl)) ?_) <;> (refine rd_u (by exact rfl) (by exact rfl) (ap_idx_z (by exact rq_p rfl rfl) (by exact rq_p rfl rfl) (by omega)) ?_) <;> (refine rd_u (by exact rfl) (by exact rfl) (ap_load_w (by exact rq_p rfl rfl) (by exact rfl)) ?_) <;> (refine rd_u (by exact rfl) (by exact rfl) (ap_cat (by exact rq_p rfl rfl) (by exact rq_p rfl rfl) (by (simp only [bsz, List.size_toArray, ByteArray.size_append, List.length_append, List.length_cons, List.length_nil] <;> omega))) ?_) <;> (refine rd_u (by exact rfl) (by exact rfl) (ap_assign (by exact rq_p rfl rfl)) ?_) <;> (refine rd_end (by kernel_rfl) ?_)) | (refine WP.regionC (id := 11) ?_; (refine su (ap_move (by exact rq_p rfl rfl)) ?_); (refine su (ap_add (by exact rq_p rfl rfl) (by exact rq_p rfl rfl) (by exact inr_i64_of (by omega))) ?_); (refine su (ap_assign (by exact rq_p rfl rfl)) ?_); refine asemC_end ?_)))
          refine ⟨k + 1, ⟨by omega, by omega⟩, ?_⟩
          rw [e3]
          exact ⟨[0, 1], ToR.S rfl (by repeat' (first | exact rt_nil | refine rt_t (by exact rfl) (by exact rfl) ?_ | refine rt_e (by exact rfl) (by exact rfl) ?_)) (by repeat' (first | exact ro_nil | refine ro_p (by exact rfl) (by first | exact rfl | fail) (by first | (simp [bdL, bdL_append, AV.bd]; done) | fail) ?_)) (by decide) (by (rw [hm]; exact rfl)) (by exact rfl) (by (simp [bdT, AV.bd, bdL, bdL_append]; done)) (by repeat' (first | exact True.intro | refine And.intro ?_ ?_ | (simp [bdOq, bdL, bdL_append, AV.bd]; done))) (by (rw [hm]; exact Nat.le_of_ble_eq_true rfl))⟩
        · have e2 : symN g (nth (nth g.rules i).body k) = nth g.nonterms (-1 - nth (nth g.rules i).body k).toNat := if_neg hx0
          have e3 : (tx (rIn g i k) ++ ⟨#[32]⟩ ++ nth g.nonterms (-1 - nth (nth g.rules i).body k).toNat : ByteArray) = tx (rIn g i (k + 1)) := by
            apply ba_ext
            rw [rIn_succ hkl, ← e2]
            simp only [bl_app, bl_tx]
            simp [bl]
          rw [e2] at hss
          (repeat' (first | refine WP.seq ?_ | refine WP.block ?_ | refine go_n ?_ | refine WP.skip ?_ | refine bl_n ?_ | (refine wp_cond (by exact rfl) (fun hc => ?_) (fun hc => ?_) <;> (try simp only [decide_eq_true_eq, decide_eq_false_iff_not, Decidable.not_not, Bool.and_eq_true, Bool.or_eq_true, Bool.not_eq_true', Bool.not_eq_false', Bool.or_eq_false_iff, Bool.and_eq_false_iff, Int.not_lt, Int.not_le, reduceCtorEq, ne_eq, Bool.not_true, Bool.not_false, Bool.not_eq_true, Bool.not_eq_false] at hc) <;> (try (exfalso; omega))) | (refine WP.regionC (id := 10) ?_; (refine su (ap_move (by exact rq_p rfl rfl)) ?_); (refine su (ap_field_p (by exact rq_p rfl rfl) (by exact rfl) (by exact rfl)) ?_); (refine su (ap_load_p (by exact rq_p rfl rfl) (by exact rfl) (by exact rfl) (by exact rfl)) ?_); (refine su (ap_len_m (by exact rfl) (by exact rq_p rfl rfl)) ?_); (refine su (ap_lss (by exact rq_p rfl rfl) (by exact rq_p rfl rfl)) ?_); refine asemC_end ?_) | (refine WP.regionC (id := 12) ?_; (refine su (ap_field_p (by exact rq_p rfl rfl) (by exact rfl) (by exact rfl)) ?_); (refine su (ap_load_p (by exact rq_p rfl rfl) (by exact rfl) (by exact rfl) (by exact rfl)) ?_); (refine su (ap_move (by exact rq_p rfl rfl)) ?_); (refine su (ap_idx_n (by exact rq_p rfl rfl) (by exact rq_p rfl rfl) (by omega)) ?_); (refine su (ap_load_w (by exact rq_p rfl rfl) (by exact rfl)) ?_); (refine su (ap_geq (by exact rq_p rfl rfl) (by exact rq_p rfl rfl)) ?_); refine asemC_end ?_) | (refine wp_draw (id := 14) 14 mixed (by kernel_rfl) (by kernel_rfl) rfl ?_ <;> (refine rd_u (by exact rfl) (by exact rfl) (ap_move (by exact rq_p rfl rfl)) ?_) <;> (refine rd_u (by exact rfl) (by exact rfl) (ap_cat (by exact rq_p rfl rfl) (by exact rq_p rfl rfl) (by (simp only [bsz, List.size_toArray, ByteArray.size_append, List.length_append, List.length_cons, List.length_nil] <;> omega))) ?_) <;> (refine rd_u (by exact rfl) (by exact rfl) (ap_field_p (by exact rq_p rfl rfl) (by exact rfl) (by exact rfl)) ?_) <;> (refine rd_u (by exact rfl) (by exact rfl) (ap_load_p (by exact rq_p rfl rfl) (by exact rfl) (by exact rfl) (by exact rfl)) ?_) <;> (refine rd_u (by exact rfl) (by exact rfl) (ap_field_p (by exact rq_p rfl rfl) (by exact rfl) (by exact rfl)) ?_) <;> (refine rd_u (by exact rfl) (by exact rfl) (ap_load_p (by exact rq_p rfl rfl) (by exact rfl) (by exact rfl) (by exact rfl)) ?_) <;> (refine rd_u (by exact rfl) (by exact rfl) (ap_move (by exact rq_p rfl rfl)) ?_) <;> (refine rd_u (by exact rfl) (by exact rfl) (ap_idx_n (by exact rq_p rfl rfl) (by exact rq_p rfl rfl) (by omega)) ?_) <;> (refine rd_u (by exact rfl) (by exact rfl) (ap_load_w (by exact rq_p rfl rfl) (by exact rfl)) ?_) <;> (refine rd_u (by exact rfl) (by exact rfl) (ap_sub (by exact rq_p rfl rfl) (by exact rq_p rfl rfl) (by exact inr_i64_of (by omega))) ?_) <;> (refine rd_u (by exact rfl) (by exact rfl) (ap_idx_z (by exact rq_p rfl rfl) (by exact rq_p rfl rfl) (by omega)) ?_) <;> (refine rd_u (by exact rfl) (by exact rfl) (ap_load_w (by exact rq_p rfl rfl) (by exact rfl)) ?_) <;> (refine rd_u (by exact rfl) (by exact rfl) (ap_cat (by exact rq_p rfl rfl) (by exact rq_p rfl rfl) (by (simp only [bsz, List.size_toArray, ByteArray.size_append, List.length_append, List.length_cons, List.length_nil] <;> omega))) ?_) <;> (refine rd_u (by exact rfl) (by exact rfl) (ap_assign (by exact rq_p rfl rfl)) ?_) <;> (refine rd_end (by kernel_rfl) ?_)) | (refine WP.regionC (id := 11) ?_; (refine su (ap_move (by exact rq_p rfl rfl)) ?_); (refine su (ap_add (by exact rq_p rfl rfl) (by exact rq_p rfl rfl) (by exact inr_i64_of (by omega))) ?_); (refine su (ap_assign (by exact rq_p rfl rfl)) ?_); refine asemC_end ?_)))
          refine ⟨k + 1, ⟨by omega, by omega⟩, ?_⟩
          rw [e3]
          exact ⟨[0, 1], ToR.S rfl (by repeat' (first | exact rt_nil | refine rt_t (by exact rfl) (by exact rfl) ?_ | refine rt_e (by exact rfl) (by exact rfl) ?_)) (by repeat' (first | exact ro_nil | refine ro_p (by exact rfl) (by first | exact rfl | fail) (by first | (simp [bdL, bdL_append, AV.bd]; done) | fail) ?_)) (by decide) (by (rw [hm]; exact rfl)) (by exact rfl) (by (simp [bdT, AV.bd, bdL, bdL_append]; done)) (by repeat' (first | exact True.intro | refine And.intro ?_ ?_ | (simp [bdOq, bdL, bdL_append, AV.bd]; done))) (by (rw [hm]; exact Nat.le_of_ble_eq_true rfl))⟩
      · obtain rfl : k = (nth g.rules i).body.length := by omega
        have hit := itoa_len hp0 hp1
        have his2 : (⟨(Lib.itoa (nth g.rules i).price).toArray⟩ : ByteArray).size ≤ 21 := by rw [show (⟨(Lib.itoa (nth g.rules i).price).toArray⟩ : ByteArray).size = _ from tx_size _]; exact hit
        (repeat' (first | refine WP.seq ?_ | refine go_n ?_ | refine WP.skip ?_ | refine WP.exit ?_ | refine go_x ?_ | refine bl_n ?_ | refine bl_x ?_ | (refine wp_cond (by exact rfl) (fun hc => ?_) (fun hc => ?_) <;> (try simp only [decide_eq_true_eq, decide_eq_false_iff_not, Decidable.not_not, Bool.and_eq_true, Bool.or_eq_true, Bool.not_eq_true', Bool.not_eq_false', Bool.or_eq_false_iff, Bool.and_eq_false_iff, Int.not_lt, Int.not_le, reduceCtorEq, ne_eq, Bool.not_true, Bool.not_false, Bool.not_eq_true, Bool.not_eq_false] at hc) <;> (try (exfalso; omega))) | (refine WP.regionC (id := 10) ?_; (refine su (ap_move (by exact rq_p rfl rfl)) ?_); (refine su (ap_field_p (by exact rq_p rfl rfl) (by exact rfl) (by exact rfl)) ?_); (refine su (ap_load_p (by exact rq_p rfl rfl) (by exact rfl) (by exact rfl) (by exact rfl)) ?_); (refine su (ap_len_m (by exact rfl) (by exact rq_p rfl rfl)) ?_); (refine su (ap_lss (by exact rq_p rfl rfl) (by exact rq_p rfl rfl)) ?_); refine asemC_end ?_) | (refine WP.regionC (id := 15) ?_; (refine su (ap_field_p (by exact rq_p rfl rfl) (by exact rfl) (by exact rfl)) ?_); (refine su (ap_load_p (by exact rq_p rfl rfl) (by exact rfl) (by exact rfl) (by exact rfl)) ?_); (refine su (ap_gtr (by exact rq_p rfl rfl) (by exact rq_p rfl rfl)) ?_); refine asemC_end ?_) | (refine WP.regionC (id := 16) ?_; (refine su (ap_move (by exact rq_p rfl rfl)) ?_); (refine su (ap_cat (by exact rq_p rfl rfl) (by exact rq_p rfl rfl) (by (simp only [bsz, List.size_toArray, ByteArray.size_append, List.length_append, List.length_cons, List.length_nil] <;> omega))) ?_); (refine su (ap_field_p (by exact rq_p rfl rfl) (by exact rfl) (by exact rfl)) ?_); (refine su (ap_load_p (by exact rq_p rfl rfl) (by exact rfl) (by exact rfl) (by exact rfl)) ?_); (refine sc_p rfl rfl (by first | ((repeat' first | exact SubL.nil | refine SubL.cons ?_ ?_ | exact Sub.refl); done) | fail) (by first | (simp [bdL, bdL_append, AV.bd]; done) | fail) (itoa_fn _ (by omega) (by omega)) ?_); (refine su (ap_cat (by exact rq_p rfl rfl) (by exact rq_p rfl rfl) (by (simp only [bsz, List.size_toArray, ByteArray.size_append, List.length_append, List.length_cons, List.length_nil] <;> omega))) ?_); (refine su (ap_assign (by exact rq_p rfl rfl)) ?_); refine asemC_end ?_) | (refine WP.regionC (id := 17) ?_; (refine su (ap_move (by exact rq_p rfl rfl)) ?_); (refine su (ap_cat (by exact rq_p rfl rfl) (by exact rq_p rfl rfl) (by (simp only [bsz, List.size_toArray, ByteArray.size_append, List.length_append, List.length_cons, List.length_nil] <;> omega))) ?_); (refine su (ap_assign (by exact rq_p rfl rfl)) ?_); refine asemC_end ?_) | (refine WP.regionC (id := 6) ?_; (refine su (ap_move (by exact rq_p rfl rfl)) ?_); (refine su (ap_add (by exact rq_p rfl rfl) (by exact rq_p rfl rfl) (by exact inr_i64_of (by omega))) ?_); (refine su (ap_assign (by exact rq_p rfl rfl)) ?_); refine asemC_end ?_)))
        · refine ⟨i + 1, ⟨by omega, by omega⟩, ?_⟩
          have e4 : (tx (rIn g i (nth g.rules i).body.length) ++ ⟨#[32, 91, 112, 114, 105, 99, 101, 93, 32]⟩ ++ ⟨(Lib.itoa (nth g.rules i).price).toArray⟩ ++ ⟨#[10]⟩ : ByteArray) = tx (fmtTo g (i + 1)) := by
            apply ba_ext
            rw [rIn_end hlt, priceW, if_neg (by omega)]
            simp only [bl_app, bl_tx]
            simp [spaced, bl, wPrice, tx]
          rw [e4]
          exact ⟨[0], ToR.S rfl (by repeat' (first | exact rt_nil | refine rt_t (by exact rfl) (by exact rfl) ?_ | refine rt_e (by exact rfl) (by exact rfl) ?_)) (by repeat' (first | exact ro_nil | refine ro_p (by exact rfl) (by first | exact rfl | fail) (by first | (simp [bdL, bdL_append, AV.bd]; done) | fail) ?_)) (by decide) (by (rw [hm]; exact rfl)) (by exact rfl) (by (simp [bdT, AV.bd, bdL, bdL_append]; done)) (by repeat' (first | exact True.intro | refine And.intro ?_ ?_ | (simp [bdOq, bdL, bdL_append, AV.bd]; done))) (by (rw [hm]; exact Nat.le_of_ble_eq_true rfl))⟩
        · refine ⟨i + 1, ⟨by omega, by omega⟩, ?_⟩
          have e4 : (tx (rIn g i (nth g.rules i).body.length) ++ ⟨#[10]⟩ : ByteArray) = tx (fmtTo g (i + 1)) := by
            apply ba_ext
            rw [rIn_end hlt, priceW, if_pos (by omega)]
            simp only [bl_app, bl_tx]
            simp [spaced, bl]
          rw [e4]
          exact ⟨[0], ToR.S rfl (by repeat' (first | exact rt_nil | refine rt_t (by exact rfl) (by exact rfl) ?_ | refine rt_e (by exact rfl) (by exact rfl) ?_)) (by repeat' (first | exact ro_nil | refine ro_p (by exact rfl) (by first | exact rfl | fail) (by first | (simp [bdL, bdL_append, AV.bd]; done) | fail) ?_)) (by decide) (by (rw [hm]; exact rfl)) (by exact rfl) (by (simp [bdT, AV.bd, bdL, bdL_append]; done)) (by repeat' (first | exact True.intro | refine And.intro ?_ ?_ | (simp [bdOq, bdL, bdL_append, AV.bd]; done))) (by (rw [hm]; exact Nat.le_of_ble_eq_true rfl))⟩
    · obtain rfl : i = g.rules.length := by omega
      (repeat' (first | refine WP.seq ?_ | refine go_n ?_ | refine WP.exit ?_ | refine WP.ret ?_ | refine go_x ?_ | refine bl_x ?_ | refine bo_r ?_ | (refine wp_cond (by exact rfl) (fun hc => ?_) (fun hc => ?_) <;> (try simp only [decide_eq_true_eq, decide_eq_false_iff_not, Decidable.not_not, Bool.and_eq_true, Bool.or_eq_true, Bool.not_eq_true', Bool.not_eq_false', Bool.or_eq_false_iff, Bool.and_eq_false_iff, Int.not_lt, Int.not_le, reduceCtorEq, ne_eq, Bool.not_true, Bool.not_false, Bool.not_eq_true, Bool.not_eq_false] at hc) <;> (try (exfalso; omega))) | (refine WP.regionC (id := 5) ?_; (refine su (ap_move (by exact rq_p rfl rfl)) ?_); (refine su (ap_field_p (by exact rq_p rfl rfl) (by exact rfl) (by exact rfl)) ?_); (refine su (ap_load_p (by exact rq_p rfl rfl) (by exact rfl) (by exact rfl) (by exact rfl)) ?_); (refine su (ap_len_m (by exact rfl) (by exact rq_p rfl rfl)) ?_); (refine su (ap_lss (by exact rq_p rfl rfl) (by exact rq_p rfl rfl)) ?_); refine asemC_end ?_) | (refine WP.regionC (id := 18) ?_; (refine su (ap_move (by exact rq_p rfl rfl)) ?_); (refine su (ap_assign (by exact rq_p rfl rfl)) ?_); refine asemC_end ?_)))
      rw [show formatR g = tx (fmtTo g g.rules.length) from by simp [formatR, hval]]
      exact ret_eq (by exact rfl) rfl rfl
  · have hv0 : validG g = false := by simpa using hval
    have e1 : formatR g = ⟨#[]⟩ := by simp [formatR, hv0]
    rw [e1]
    (repeat' (first | refine WP.seq ?_ | refine go_n ?_ | refine WP.skip ?_ | refine WP.ret ?_ | refine go_r ?_ | refine bo_r ?_ | (refine wp_cond (by exact rfl) (fun hc => ?_) (fun hc => ?_) <;> (try simp only [decide_eq_true_eq, decide_eq_false_iff_not, Decidable.not_not, Bool.and_eq_true, Bool.or_eq_true, Bool.not_eq_true', Bool.not_eq_false', Bool.or_eq_false_iff, Bool.and_eq_false_iff, Int.not_lt, Int.not_le, reduceCtorEq, ne_eq, Bool.not_true, Bool.not_false, Bool.not_eq_true, Bool.not_eq_false] at hc) <;> (try (exfalso; omega))) | (refine WP.regionC (id := 0) ?_; (refine se_box (by exact rfl) (by exact ⟨rfl, rfl⟩) ?_); (refine su (ap_assign (by exact rq_p rfl rfl)) ?_); refine asemC_end ?_) | (refine WP.regionC (id := 1) ?_; (refine su (ap_load_pw (by exact rq_p rfl rfl) (by exact rfl) (by exact rfl) (by exact rfl)) ?_); (refine sc_p rfl rfl (by first | ((repeat' first | exact SubL.nil | refine SubL.cons ?_ ?_ | exact Sub.refl); done) | fail) (by first | (simp [bdL, bdL_append, AV.bd]; done) | fail) (rvalid_fn _) ?_); (refine su (ap_not (by exact rq_p rfl rfl)) ?_); refine asemC_end ?_) | (refine WP.regionC (id := 2) ?_; (refine su (ap_assign (by exact rq_p rfl rfl)) ?_); refine asemC_end ?_) | exact ret_eq (by exact rfl) (by exact rfl) rfl))
    rw [hv0] at hc; cases hc
end Go.Lg

/-
  Guarded calls in drawn regions.
-/
namespace Go.Lg
section
variable {P : Program} {n M N i : Nat} {l : List (Nat × AV)} {os : List (Nat × Option AObj)} {d t : Tmp} {ty : TypeId} {pos : String} {af : Array Edge} {ops : Array Oper} {rest : List Oper} {K : List Rec → St → Prop} {rs : List Rec} {j : Nat} {want : Bool} {X : AV}
/-- a guarded call in a drawn region that is known to run -/
theorem rdg_call {g : FuncId} {first cap us us' : List AV} {f : Operand} {args : Array Operand} {tys : Array TypeId} (ht : (ops[j]?).bind (·.dst) = some t) (hg : opq n l (.tmp t) = some (.val (.bool want))) (hf : opq n l f = some (.clo (.func g) first cap)) (has : opqL n l args.toList = some us) (hsub : SubL (first ++ us ++ cap) us') (hp : bdL 0 (first ++ us ++ cap) = true) (hspec : Fn P g us' X)
    (hk : RunD P ops N (i + 1) rest (S n ((d, X) :: l) M os) (rs ++ [⟨some d, [], topq n l (Op.operands (.call ⟨.value f, args, tys⟩)).toList⟩]) K) : RunD P ops N i (⟨some d, .call ⟨.value f, args, tys⟩, ty, pos, af, some (j, want)⟩ :: rest) (S n l M os) rs K := by
  have e := opqL_op (M := M) (os := os) has
  refine ⟨.did (X, .none), _, ⟨rfl, .inr ⟨_, f, g, first, cap, rfl, rfl, opq_op hf, by rw [e]; exact (hspec.sub hsub).spec, by rw [e]; exact hp, rfl⟩, yielded_q ht hg⟩, ?_⟩
  show RunD P ops N (i + 1) rest ((S n l M os).put (some d) X) (rs ++ [⟨some d, [], topIds (S n l M os) _⟩]) K
  rw [topq_ids, S_put]
  exact hk
/-- a guarded pick in a drawn region that is known to run, its condition known -/
theorem rdg_pick_t {c a b : Operand} {x : AV} (ht : (ops[j]?).bind (·.dst) = some t) (hg : opq n l (.tmp t) = some (.val (.bool want))) (hc : opq n l c = some (.val (.bool true))) (ha : opq n l a = some x) (hk : RunD P ops N (i + 1) rest (S n ((d, x) :: l) M os) (rs ++ [⟨some d, [], topq n l [c, a, b]⟩]) K) : RunD P ops N i (⟨some d, .pick c a b, ty, pos, af, some (j, want)⟩ :: rest) (S n l M os) rs K := by
  refine rdg (x, .none) ht hg ?_ ?_
  · simp only [aop, opq_op hc, opq_op ha, pickA, pure']
    split <;> simp_all
  · simp only [St.eff, S_put, Eff.ids]; exact hk
theorem rdg_pick_f {c a b : Operand} {x : AV} (ht : (ops[j]?).bind (·.dst) = some t) (hg : opq n l (.tmp t) = some (.val (.bool want))) (hc : opq n l c = some (.val (.bool false))) (hb : opq n l b = some x) (hk : RunD P ops N (i + 1) rest (S n ((d, x) :: l) M os) (rs ++ [⟨some d, [], topq n l [c, a, b]⟩]) K) : RunD P ops N i (⟨some d, .pick c a b, ty, pos, af, some (j, want)⟩ :: rest) (S n l M os) rs K := by
  refine rdg (x, .none) ht hg ?_ ?_
  · simp only [aop, opq_op hc, opq_op hb, pickA, pure']
    split <;> simp_all
  · simp only [St.eff, S_put, Eff.ids]; exact hk
end
end Go.Lg

/- the law's example -/
namespace Go.Lg
open Go.Proofs
set_option linter.unusedSimpArgs false
set_option linter.unusedVariables false
attribute [local irreducible] Ap Rq asemC WP RunD Ret Gq thenA inBlockA bodyQ noGotoA RqL RqP OpP
set_option maxHeartbeats 8000000

def exG : Gram := ⟨[tx [97], tx [98]], [tx [83]], 0, [⟨0, [0, -1, 1], 2⟩, ⟨0, [], 0⟩]⟩
theorem example_fn : Fn Tryd.prog 21 [] (gramA exG) := by
  refine Fn.intro (by exact rfl) (by kernel_rfl) Tryd.func21 rfl rfl Tryd.ntmps21 (by exact Nat.le_of_ble_eq_true rfl) ?_; intro Γ hm
  (repeat' (first | refine WP.seq ?_ | refine go_n ?_ | refine WP.ret ?_ | refine bo_r ?_ | (refine WP.regionC (id := 0) ?_; (refine se_alloc (by exact rfl) ?_); refine asemC_end ?_) | (refine WP.regionC (id := 1) ?_; (refine se_lit (OpP.cons (by exact rfl) (OpP.cons (by exact rfl) (OpP.nil))) (by exact rfl) (by exact rfl) (by exact rfl) (by exact rfl) (by exact rfl) (by exact rfl) ?_); (refine se_lit (OpP.cons (by exact rfl) (OpP.nil)) (by exact rfl) (by exact rfl) (by exact rfl) (by exact rfl) (by exact rfl) (by exact rfl) ?_); (refine se_lit (OpP.cons (by exact rfl) (OpP.cons (by exact rfl) (OpP.cons (by exact rfl) (OpP.nil)))) (by exact rfl) (by exact rfl) (by exact rfl) (by exact rfl) (by exact rfl) (by exact rfl) ?_); (refine su (ap_build (RqP.cons (by exact rq_p rfl rfl) (RqP.cons (by exact rq_p rfl rfl) (RqP.nil))) (by exact rfl)) ?_); (refine su (ap_build (RqP.nil) (by exact rfl)) ?_); (refine se_lit (OpP.cons (by exact rfl) (OpP.cons (by exact rfl) (OpP.nil))) (by exact rfl) (by exact rfl) (by exact rfl) (by exact rfl) (by exact rfl) (by exact rfl) ?_); (refine su (ap_build (RqP.cons (by exact rq_p rfl rfl) (RqP.cons (by exact rq_p rfl rfl) (RqP.cons (by exact rq_p rfl rfl) (RqP.nil)))) (by exact rfl)) ?_); (refine se_store_b (by exact rfl) (by exact rfl) (by exact rfl) (by exact rfl) ?_); refine asemC_end ?_)))
  exact ret_c (x := .agg [.ref 1 1 0 2, .ref 2 1 0 1, .val (.int .i64 0), .ref 4 3 0 2]) (by exact rfl) (by exact rfl) (by exact rfl) (by exact rfl) (by repeat' first | exact FzL.nil | refine FzL.cons ?_ ?_ | exact Fz.nil | (exact Fz.list (by exact rfl) (by exact rfl) (fun _ => by simp [AV.bd, bdL, bdL_append]) (fun _ => rfl)) | (exact Fz.reflp (by simp [AV.bd, bdL, bdL_append])) | refine Fz.rowL (by exact rfl) (by exact rfl) (by exact rfl) ?_ | refine Fz.aggL ?_)
end Go.Lg

/- awake of the laws about grammar -/
namespace Go.Lg
open Go.Proofs
set_option linter.unusedSimpArgs false
set_option linter.unusedVariables false
attribute [local irreducible] Ap Rq asemC WP RunD Ret Gq thenA inBlockA bodyQ noGotoA RqL RqP OpP
set_option maxHeartbeats 8000000

def exT : ByteArray := ⟨#[116, 101, 114, 109, 115, 32, 97, 32, 98, 10, 110, 111, 110, 116, 101, 114, 109, 115, 32, 83, 10, 115, 116, 97, 114, 116, 32, 83, 10, 83, 32, 45, 62, 32, 97, 32, 83, 32, 98, 32, 91, 112, 114, 105, 99, 101, 93, 32, 50, 10, 83, 32, 45, 62, 10]⟩
theorem ex_valid : validG exG = true := by decide +kernel
theorem ex_itoa : Lib.itoa 2 = [50] := by
  show (if (2 : Int) < 0 then _ else _) = _
  rw [if_neg (by decide), show (2 : Int).toNat = 2 from rfl, Lib.decDigits_one (by decide)]
  rfl
theorem ex_text : formatR exG = exT := by
  apply ba_ext
  rw [formatR, if_pos ex_valid, bl_tx]
  simp only [fmtTo, fmt0, exG, List.length_cons, List.length_nil, List.take_succ_cons, List.take_zero, List.map_cons, List.map_nil, ruleW, headW, priceW, lineT_cons, ex_itoa]
  decide +kernel
theorem ex_sym : symR exG (tx [83]) = (-1, true) := by decide +kernel
theorem exv_fn : Fn Tryd.prog 12 [gramA exG] (boolA true) := ex_valid ▸ gvalid_fn exG
def zG : Gram := ⟨[], [], 0, []⟩
theorem exz_fn : Fn Tryd.prog 12 [gramA zG] (boolA false) := (show validG zG = false by decide +kernel) ▸ gvalid_fn zG
theorem exe_fn : Fn Tryd.prog 14 [gramA exG, gramA exG] (boolA true) := (show decide (exG = exG) = true by simp) ▸ gequal_fn exG exG
theorem exf_fn : Fn Tryd.prog 16 [gramA exG] (strA exT) := ex_text ▸ gformat_fn exG
theorem exs_fn : Fn Tryd.prog 18 [gramA exG, strA (tx [83])] (.tup [intA (-1), boolA true]) := by
  have h := gsymbol_fn exG (tx [83])
  rw [ex_sym] at h; exact h
theorem exr_fn : Fn Tryd.prog 20 [gramA exG, intA 0] (intsA [0, 1]) := by
  have h := grulesOf_fn exG 0 (by decide)
  rw [show rulesOf exG 0 exG.rules.length = [0, 1] by decide +kernel] at h; exact h

theorem awake18_fn : Fn Tryd.prog 10 [] (boolA true) := by
  refine Fn.intro (by exact rfl) (by kernel_rfl) Tryd.func10 rfl rfl Tryd.ntmps10 (by exact Nat.le_of_ble_eq_true rfl) ?_; intro Γ hm
  (repeat' (first | refine WP.seq ?_ | refine go_n ?_ | (refine WP.regionC (id := 0) ?_; (refine su (ap_assign (by exact rq_p rfl rfl)) ?_); refine asemC_end ?_) | (refine WP.regionC (id := 1) ?_; (refine sc_p rfl rfl (by first | ((repeat' (exact SubL.nil)); done) | fail) (by first | (simp [bdL, bdL_append, AV.bd]; done) | fail) (example_fn) ?_); (refine se_alloc (by exact rfl) ?_); (refine se_store_b (by exact rfl) (by exact rfl) (by exact rfl) (by exact rfl) ?_); refine asemC_end ?_) | (refine WP.regionC (id := 2) ?_; (refine su (ap_load_pw (by exact rq_p rfl rfl) (by exact rfl) (by exact rfl) (by exact rfl)) ?_); (refine sc_p rfl rfl (by first | ((repeat' first | exact SubL.nil | refine SubL.cons ?_ ?_ | exact Sub.refl); done) | fail) (by first | (simp [bdL, bdL_append, AV.bd]; done) | fail) (gsymbol_fn _ _) ?_); (refine su (ap_move (by exact rq_p rfl rfl)) ?_); (refine su (ap_extract (by exact rq_p rfl rfl) (by exact rfl)) ?_); (refine su (ap_extract (by exact rq_p rfl rfl) (by exact rfl)) ?_); (refine su (ap_assign (by exact rq_p rfl rfl)) ?_); (refine su (ap_assign (by exact rq_p rfl rfl)) ?_); refine asemC_end ?_)))
  refine wp_st (S 40 [(1, .ptr 0 4 0 0), (2, intA (-1)), (3, boolA true)] 1 [(0, some (.arr 4 [gramA exG]))]) ⟨[0], ToR.S rfl (by repeat' (first | exact rt_nil | refine rt_t (by exact rfl) (by exact rfl) ?_ | refine rt_e (by exact rfl) (by exact rfl) ?_)) (by repeat' (first | exact ro_nil | refine ro_e (by exact rfl) (by exact rfl) ?_)) (by decide) (by (rw [hm]; exact rfl)) (by exact rfl) (by (simp [bdT, AV.bd, bdL, bdL_append]; done)) (by repeat' (first | exact True.intro | exact rfl | refine And.intro ?_ ?_)) (by (rw [hm]; exact Nat.le_of_ble_eq_true rfl))⟩ ?_
  (repeat' (first | refine go_n ?_ | refine WP.ret ?_ | refine bo_r ?_ | (refine wp_draw (id := 3) 31 mixed (by kernel_rfl) (by kernel_rfl) rfl ?_ <;> (refine rd_u (by exact rfl) (by exact rfl) (ap_load_pw (by exact rq_p rfl rfl) (by exact rfl) (by exact rfl) (by exact rfl)) ?_) <;> (refine rd_call rfl rfl (by first | ((repeat' first | exact SubL.nil | refine SubL.cons ?_ ?_ | exact Sub.refl); done) | fail) (by first | (simp [bdL, bdL_append, AV.bd]; done) | fail) (gvalid_fn _) ?_) <;> (refine rd_u (by exact rfl) (by exact rfl) (ap_move (by exact rq_p rfl rfl)) ?_) <;> (refine rdg_u rfl rfl (by exact rfl) (by exact rfl) (ap_build (RqP.nil) (by exact rfl)) ?_) <;> (refine rdg_call rfl (by exact rfl) rfl rfl (by first | ((repeat' first | exact SubL.nil | refine SubL.cons ?_ ?_ | exact Sub.refl | exact Sub.nil | refine Sub.aggL ?_); done) | fail) (by first | (simp [bdL, bdL_append, AV.bd]; done) | fail) (exz_fn) ?_) <;> (refine rdg_u rfl rfl (by exact rfl) (by exact rfl) (ap_not (by exact rq_p rfl rfl)) ?_) <;> (refine rd_pick_t (by exact rfl) (by exact rfl) ?_) <;> (refine rd_u (by exact rfl) (by exact rfl) (ap_move (by exact rq_p rfl rfl)) ?_) <;> (refine rdg_u rfl rfl (by exact rfl) (by exact rfl) (ap_load_pw (by exact rq_p rfl rfl) (by exact rfl) (by exact rfl) (by exact rfl)) ?_) <;> (refine rdg_call rfl (by exact rfl) rfl rfl (by first | ((repeat' (exact SubL.nil)); done) | fail) (by first | (simp [bdL, bdL_append, AV.bd]; done) | fail) (example_fn) ?_) <;> (refine rdg_call rfl (by exact rfl) rfl rfl (by first | ((repeat' first | exact SubL.nil | refine SubL.cons ?_ ?_ | exact Sub.refl); done) | fail) (by first | (simp [bdL, bdL_append, AV.bd]; done) | fail) (gequal_fn _ _) ?_) <;> (refine rd_pick_t (by exact rfl) (by exact rfl) ?_) <;> (refine rd_u (by exact rfl) (by exact rfl) (ap_move (by exact rq_p rfl rfl)) ?_) <;> (refine rdg_u rfl rfl (by exact rfl) (by exact rfl) (ap_load_pw (by exact rq_p rfl rfl) (by exact rfl) (by exact rfl) (by exact rfl)) ?_) <;> (refine rdg_call rfl (by exact rfl) rfl rfl (by first | ((repeat' first | exact SubL.nil | refine SubL.cons ?_ ?_ | exact Sub.refl); done) | fail) (by first | (simp [bdL, bdL_append, AV.bd]; done) | fail) (gformat_fn _) ?_) <;> (refine rdg_u rfl rfl (by exact rfl) (by exact rfl) (ap_eqs (by exact rq_p rfl rfl) (by exact rq_p rfl rfl)) ?_) <;> (refine rd_pick_t (by exact rfl) (by exact rfl) ?_) <;> (refine rd_u (by exact rfl) (by exact rfl) (ap_move (by exact rq_p rfl rfl)) ?_) <;> ((refine rd_split (t := 27) (by exact rfl) (fun hc => ?_) (fun hc => ?_) <;> (try simp only [decide_eq_true_eq, decide_eq_false_iff_not, Decidable.not_not, Bool.and_eq_true, Bool.or_eq_true, Bool.not_eq_true', Bool.not_eq_false', Bool.or_eq_false_iff, Bool.and_eq_false_iff, Int.not_lt, Int.not_le, reduceCtorEq, ne_eq, Bool.not_true, Bool.not_false, Bool.not_eq_true, Bool.not_eq_false] at hc) <;> (try (exfalso; omega)) <;> (first | refine rd_skip rfl rfl ?_ | refine rdg_u rfl rfl (by exact rfl) (by exact rfl) (ap_move (by exact rq_p rfl rfl)) ?_))) <;> (first | refine rd_pick_t (by exact rfl) (by exact rfl) ?_ | refine rd_pick_f (by exact rfl) (by exact rfl) ?_) <;> (refine rd_u (by exact rfl) (by exact rfl) (ap_move (by exact rq_p rfl rfl)) ?_) <;> (first | refine rd_skip rfl rfl ?_ | refine rdg_u rfl rfl (by exact rfl) (by exact rfl) (ap_move (by exact rq_p rfl rfl)) ?_) <;> (first | refine rd_skip rfl rfl ?_ | refine rdg_u rfl rfl (by exact rfl) (by exact rfl) (ap_eql (by exact rq_p rfl rfl) (by exact rq_p rfl rfl)) ?_) <;> (first | refine rd_pick_t (by exact rfl) (by exact rfl) ?_ | refine rd_pick_f (by exact rfl) (by exact rfl) ?_) <;> (refine rd_u (by exact rfl) (by exact rfl) (ap_move (by exact rq_p rfl rfl)) ?_) <;> (first | refine rd_skip rfl rfl ?_ | refine rdg_u rfl rfl (by exact rfl) (by exact rfl) (ap_load_pw (by exact rq_p rfl rfl) (by exact rfl) (by exact rfl) (by exact rfl)) ?_) <;> (first | refine rd_skip rfl rfl ?_ | refine rdg_call rfl (by exact rfl) rfl rfl (by first | ((repeat' first | exact SubL.nil | refine SubL.cons ?_ ?_ | exact Sub.refl); done) | fail) (by first | (simp [bdL, bdL_append, AV.bd]; done) | fail) (exr_fn) ?_) <;> (first | refine rd_skip rfl rfl ?_ | refine rdg_u rfl rfl (by exact rfl) (by exact rfl) (ap_len_m (by exact rfl) (by exact rq_p rfl rfl)) ?_) <;> (first | refine rd_skip rfl rfl ?_ | refine rdg_u rfl rfl (by exact rfl) (by exact rfl) (ap_eql (by exact rq_p rfl rfl) (by exact rq_p rfl rfl)) ?_) <;> (first | refine rd_pick_t (by exact rfl) (by exact rfl) ?_ | refine rd_pick_f (by exact rfl) (by exact rfl) ?_) <;> (refine rd_u (by exact rfl) (by exact rfl) (ap_assign (by exact rq_p rfl rfl)) ?_) <;> (refine rd_end (by kernel_rfl) ?_)) | exact ret_eq (by exact rfl) (by exact rfl) rfl | refine ret_b (by exact rfl) ?_))
  exact absurd ex_text hc
end Go.Lg

/- the laws about grammar: Valid, Equal, Format -/
namespace Go.Lg
open Go.Proofs
set_option linter.unusedSimpArgs false
set_option linter.unusedVariables false
attribute [local irreducible] Ap Rq asemC WP RunD Ret Gq thenA inBlockA bodyQ noGotoA RqL RqP OpP
set_option maxHeartbeats 8000000

theorem law_gvalid (g : Gram) : Fn Tryd.prog 3 [gramA g] (boolA true) := by
  refine Fn.intro (by exact rfl) (by kernel_rfl) Tryd.func3 rfl rfl Tryd.ntmps3 (by exact Nat.le_of_ble_eq_true rfl) ?_; intro Γ hm
  (repeat' (first | refine WP.seq ?_ | refine go_n ?_ | refine WP.skip ?_ | refine WP.ret ?_ | refine bo_r ?_ | (refine wp_cond (by exact rfl) (fun hc => ?_) (fun hc => ?_) <;> (try simp only [decide_eq_true_eq, decide_eq_false_iff_not, Decidable.not_not, Bool.and_eq_true, Bool.or_eq_true, Bool.not_eq_true', Bool.not_eq_false', Bool.or_eq_false_iff, Bool.and_eq_false_iff, Int.not_lt, Int.not_le, reduceCtorEq, ne_eq, Bool.not_true, Bool.not_false, Bool.not_eq_true, Bool.not_eq_false] at hc) <;> (try (exfalso; omega))) | (refine WP.regionC (id := 0) ?_; (refine se_box (by exact rfl) (by exact ⟨rfl, rfl⟩) ?_); (refine su (ap_assign (by exact rq_p rfl rfl)) ?_); refine asemC_end ?_) | (refine WP.regionC (id := 1) ?_; (refine sc_p rfl rfl (by first | ((repeat' (exact SubL.nil)); done) | fail) (by first | (simp [bdL, bdL_append, AV.bd]; done) | fail) (awake18_fn) ?_); (refine su (ap_not (by exact rq_p rfl rfl)) ?_); refine asemC_end ?_) | (refine wp_draw (id := 3) 11 mixed (by kernel_rfl) (by kernel_rfl) rfl ?_ <;> (refine rd_u (by exact rfl) (by exact rfl) (ap_load_pw (by exact rq_p rfl rfl) (by exact rfl) (by exact rfl) (by exact rfl)) ?_) <;> (refine rd_call rfl rfl (by first | ((repeat' first | exact SubL.nil | refine SubL.cons ?_ ?_ | exact Sub.refl); done) | fail) (by first | (simp [bdL, bdL_append, AV.bd]; done) | fail) (few_fn18 _) ?_) <;> (refine rd_u (by exact rfl) (by exact rfl) (ap_not (by exact rq_p rfl rfl)) ?_) <;> (refine rd_u (by exact rfl) (by exact rfl) (ap_move (by exact rq_p rfl rfl)) ?_) <;> ((refine rd_split (t := 8) (by exact rfl) (fun hc => ?_) (fun hc => ?_) <;> (try simp only [decide_eq_true_eq, decide_eq_false_iff_not, Decidable.not_not, Bool.and_eq_true, Bool.or_eq_true, Bool.not_eq_true', Bool.not_eq_false', Bool.or_eq_false_iff, Bool.and_eq_false_iff, Int.not_lt, Int.not_le, reduceCtorEq, ne_eq, Bool.not_true, Bool.not_false, Bool.not_eq_true, Bool.not_eq_false] at hc) <;> (try (exfalso; omega)) <;> (first | refine rd_skip rfl rfl ?_ | refine rdg_u rfl rfl (by exact rfl) (by exact rfl) (ap_load_pw (by exact rq_p rfl rfl) (by exact rfl) (by exact rfl) (by exact rfl)) ?_))) <;> (first | refine rd_skip rfl rfl ?_ | refine rdg_call rfl (by exact rfl) rfl rfl (by first | ((repeat' first | exact SubL.nil | refine SubL.cons ?_ ?_ | exact Sub.refl); done) | fail) (by first | (simp [bdL, bdL_append, AV.bd]; done) | fail) (gvalid_fn _) ?_) <;> (first | refine rd_skip rfl rfl ?_ | refine rdg_u rfl rfl (by exact rfl) (by exact rfl) (ap_load_pw (by exact rq_p rfl rfl) (by exact rfl) (by exact rfl) (by exact rfl)) ?_) <;> (first | refine rd_skip rfl rfl ?_ | refine rdg_call rfl (by exact rfl) rfl rfl (by first | ((repeat' first | exact SubL.nil | refine SubL.cons ?_ ?_ | exact Sub.refl); done) | fail) (by first | (simp [bdL, bdL_append, AV.bd]; done) | fail) (rvalid_fn _) ?_) <;> (first | refine rd_skip rfl rfl ?_ | refine rdg_u rfl rfl (by exact rfl) (by exact rfl) (ap_eqb (by kernel_rfl) (by exact rq_p rfl rfl) (by exact rq_p rfl rfl)) ?_) <;> (first | refine rd_pick_t (by exact rfl) (by exact rfl) ?_ | refine rd_pick_f (by exact rfl) (by exact rfl) ?_) <;> (refine rd_u (by exact rfl) (by exact rfl) (ap_assign (by exact rq_p rfl rfl)) ?_) <;> (refine rd_end (by kernel_rfl) ?_)) | exact ret_eq (by exact rfl) (by exact rfl) rfl | refine ret_b (by exact rfl) ?_))
  simp
theorem law_gequal (a b : Gram) : Fn Tryd.prog 4 [gramA a, gramA b] (boolA true) := by
  refine Fn.intro (by exact rfl) (by kernel_rfl) Tryd.func4 rfl rfl Tryd.ntmps4 (by exact Nat.le_of_ble_eq_true rfl) ?_; intro Γ hm
  (repeat' (first | refine WP.seq ?_ | refine go_n ?_ | refine WP.skip ?_ | refine WP.ret ?_ | refine go_r ?_ | refine bo_r ?_ | (refine wp_cond (by exact rfl) (fun hc => ?_) (fun hc => ?_) <;> (try simp only [decide_eq_true_eq, decide_eq_false_iff_not, Decidable.not_not, Bool.and_eq_true, Bool.or_eq_true, Bool.not_eq_true', Bool.not_eq_false', Bool.or_eq_false_iff, Bool.and_eq_false_iff, Int.not_lt, Int.not_le, reduceCtorEq, ne_eq, Bool.not_true, Bool.not_false, Bool.not_eq_true, Bool.not_eq_false] at hc) <;> (try (exfalso; omega))) | (refine WP.regionC (id := 0) ?_; (refine se_box (by exact rfl) (by exact ⟨rfl, rfl⟩) ?_); (refine se_box (by exact rfl) (by exact ⟨rfl, rfl⟩) ?_); (refine su (ap_assign (by exact rq_p rfl rfl)) ?_); refine asemC_end ?_) | (refine WP.regionC (id := 1) ?_; (refine sc_p rfl rfl (by first | ((repeat' (exact SubL.nil)); done) | fail) (by first | (simp [bdL, bdL_append, AV.bd]; done) | fail) (awake18_fn) ?_); (refine su (ap_not (by exact rq_p rfl rfl)) ?_); refine asemC_end ?_) | (refine WP.regionC (id := 3) ?_; (refine su (ap_load_pw (by exact rq_p rfl rfl) (by exact rfl) (by exact rfl) (by exact rfl)) ?_); (refine sc_p rfl rfl (by first | ((repeat' first | exact SubL.nil | refine SubL.cons ?_ ?_ | exact Sub.refl); done) | fail) (by first | (simp [bdL, bdL_append, AV.bd]; done) | fail) (few_fn18 _) ?_); (refine su (ap_not (by exact rq_p rfl rfl)) ?_); (refine su (ap_move (by exact rq_p rfl rfl)) ?_); (refine sg (by exact gq_vf rfl rfl) (fun he => ap_load_pw (by exact rq_p rfl rfl) (by exact rfl) (by exact rfl) (by exact rfl)) ?_); (refine sg_p (by exact gq_vf rfl rfl) (fun he => ⟨(by exact rq_p rfl rfl), (RqL.cons (by exact rq_c rfl rfl) (RqL.nil)), (by first | ((repeat' first | exact SubL.nil | refine SubL.cons ?_ ?_ | exact Sub.refl); done) | fail), (by first | (simp [bdL, bdL_append, AV.bd]; done) | fail), few_fn18 _⟩) ?_); (refine sg (by exact gq_vf rfl rfl) (fun he => ap_not (by exact rq_c rfl rfl)) ?_); (refine su (ap_or (by exact rq_p rfl rfl) (by exact rq_c rfl rfl)) ?_); refine asemC_end ?_) | (refine WP.regionC (id := 4) ?_; (refine su (ap_assign (by exact rq_p rfl rfl)) ?_); refine asemC_end ?_) | (refine wp_draw (id := 5) 13 mixed (by kernel_rfl) (by kernel_rfl) rfl ?_ <;> (refine rd_u (by exact rfl) (by exact rfl) (ap_load_pw (by exact rq_p rfl rfl) (by exact rfl) (by exact rfl) (by exact rfl)) ?_) <;> (refine rd_u (by exact rfl) (by exact rfl) (ap_load_pw (by exact rq_p rfl rfl) (by exact rfl) (by exact rfl) (by exact rfl)) ?_) <;> (refine rd_call rfl rfl (by first | ((repeat' first | exact SubL.nil | refine SubL.cons ?_ ?_ | exact Sub.refl); done) | fail) (by first | (simp [bdL, bdL_append, AV.bd]; done) | fail) (gequal_fn _ _) ?_) <;> (refine rd_u (by exact rfl) (by exact rfl) (ap_load_pw (by exact rq_p rfl rfl) (by exact rfl) (by exact rfl) (by exact rfl)) ?_) <;> (refine rd_u (by exact rfl) (by exact rfl) (ap_load_pw (by exact rq_p rfl rfl) (by exact rfl) (by exact rfl) (by exact rfl)) ?_) <;> (refine rd_call rfl rfl (by first | ((repeat' first | exact SubL.nil | refine SubL.cons ?_ ?_ | exact Sub.refl); done) | fail) (by first | (simp [bdL, bdL_append, AV.bd]; done) | fail) (requal_fn _ _) ?_) <;> (refine rd_u (by exact rfl) (by exact rfl) (ap_eqb (by kernel_rfl) (by exact rq_p rfl rfl) (by exact rq_p rfl rfl)) ?_) <;> (refine rd_u (by exact rfl) (by exact rfl) (ap_move (by exact rq_p rfl rfl)) ?_) <;> ((refine rd_split (t := 22) (by exact rfl) (fun hc => ?_) (fun hc => ?_) <;> (try simp only [decide_eq_true_eq, decide_eq_false_iff_not, Decidable.not_not, Bool.and_eq_true, Bool.or_eq_true, Bool.not_eq_true', Bool.not_eq_false', Bool.or_eq_false_iff, Bool.and_eq_false_iff, Int.not_lt, Int.not_le, reduceCtorEq, ne_eq, Bool.not_true, Bool.not_false, Bool.not_eq_true, Bool.not_eq_false] at hc) <;> (try (exfalso; omega)) <;> (first | refine rd_skip rfl rfl ?_ | refine rdg_u rfl rfl (by exact rfl) (by exact rfl) (ap_load_pw (by exact rq_p rfl rfl) (by exact rfl) (by exact rfl) (by exact rfl)) ?_))) <;> (first | refine rd_skip rfl rfl ?_ | refine rdg_u rfl rfl (by exact rfl) (by exact rfl) (ap_load_pw (by exact rq_p rfl rfl) (by exact rfl) (by exact rfl) (by exact rfl)) ?_) <;> (first | refine rd_skip rfl rfl ?_ | refine rdg_call rfl (by exact rfl) rfl rfl (by first | ((repeat' first | exact SubL.nil | refine SubL.cons ?_ ?_ | exact Sub.refl); done) | fail) (by first | (simp [bdL, bdL_append, AV.bd]; done) | fail) (gequal_fn _ _) ?_) <;> (first | refine rd_pick_t (by exact rfl) (by exact rfl) ?_ | refine rd_pick_f (by exact rfl) (by exact rfl) ?_) <;> (refine rd_u (by exact rfl) (by exact rfl) (ap_assign (by exact rq_p rfl rfl)) ?_) <;> (refine rd_end (by kernel_rfl) ?_)) | exact ret_eq (by exact rfl) (by exact rfl) rfl | refine ret_b (by exact rfl) ?_))
  all_goals simp_all
theorem law_gformat (g : Gram) : Fn Tryd.prog 5 [gramA g] (boolA true) := by
  refine Fn.intro (by exact rfl) (by kernel_rfl) Tryd.func5 rfl rfl Tryd.ntmps5 (by exact Nat.le_of_ble_eq_true rfl) ?_; intro Γ hm
  (repeat' (first | refine WP.seq ?_ | refine go_n ?_ | refine WP.skip ?_ | refine WP.ret ?_ | refine bo_r ?_ | (refine wp_cond (by exact rfl) (fun hc => ?_) (fun hc => ?_) <;> (try simp only [decide_eq_true_eq, decide_eq_false_iff_not, Decidable.not_not, Bool.and_eq_true, Bool.or_eq_true, Bool.not_eq_true', Bool.not_eq_false', Bool.or_eq_false_iff, Bool.and_eq_false_iff, Int.not_lt, Int.not_le, reduceCtorEq, ne_eq, Bool.not_true, Bool.not_false, Bool.not_eq_true, Bool.not_eq_false] at hc) <;> (try (exfalso; omega))) | (refine WP.regionC (id := 0) ?_; (refine se_box (by exact rfl) (by exact ⟨rfl, rfl⟩) ?_); (refine su (ap_assign (by exact rq_p rfl rfl)) ?_); refine asemC_end ?_) | (refine WP.regionC (id := 1) ?_; (refine sc_p rfl rfl (by first | ((repeat' (exact SubL.nil)); done) | fail) (by first | (simp [bdL, bdL_append, AV.bd]; done) | fail) (awake18_fn) ?_); (refine su (ap_not (by exact rq_p rfl rfl)) ?_); refine asemC_end ?_) | (refine wp_draw (id := 3) 11 mixed (by kernel_rfl) (by kernel_rfl) rfl ?_ <;> (refine rd_u (by exact rfl) (by exact rfl) (ap_load_pw (by exact rq_p rfl rfl) (by exact rfl) (by exact rfl) (by exact rfl)) ?_) <;> (refine rd_call rfl rfl (by first | ((repeat' first | exact SubL.nil | refine SubL.cons ?_ ?_ | exact Sub.refl); done) | fail) (by first | (simp [bdL, bdL_append, AV.bd]; done) | fail) (few_fn18 _) ?_) <;> (refine rd_u (by exact rfl) (by exact rfl) (ap_not (by exact rq_p rfl rfl)) ?_) <;> (refine rd_u (by exact rfl) (by exact rfl) (ap_move (by exact rq_p rfl rfl)) ?_) <;> ((refine rd_split (t := 8) (by exact rfl) (fun hc => ?_) (fun hc => ?_) <;> (try simp only [decide_eq_true_eq, decide_eq_false_iff_not, Decidable.not_not, Bool.and_eq_true, Bool.or_eq_true, Bool.not_eq_true', Bool.not_eq_false', Bool.or_eq_false_iff, Bool.and_eq_false_iff, Int.not_lt, Int.not_le, reduceCtorEq, ne_eq, Bool.not_true, Bool.not_false, Bool.not_eq_true, Bool.not_eq_false] at hc) <;> (try (exfalso; omega)) <;> (first | refine rd_skip rfl rfl ?_ | refine rdg_u rfl rfl (by exact rfl) (by exact rfl) (ap_load_pw (by exact rq_p rfl rfl) (by exact rfl) (by exact rfl) (by exact rfl)) ?_))) <;> (first | refine rd_skip rfl rfl ?_ | refine rdg_call rfl (by exact rfl) rfl rfl (by first | ((repeat' first | exact SubL.nil | refine SubL.cons ?_ ?_ | exact Sub.refl); done) | fail) (by first | (simp [bdL, bdL_append, AV.bd]; done) | fail) (gformat_fn _) ?_) <;> (first | refine rd_skip rfl rfl ?_ | refine rdg_u rfl rfl (by exact rfl) (by exact rfl) (ap_load_pw (by exact rq_p rfl rfl) (by exact rfl) (by exact rfl) (by exact rfl)) ?_) <;> (first | refine rd_skip rfl rfl ?_ | refine rdg_call rfl (by exact rfl) rfl rfl (by first | ((repeat' first | exact SubL.nil | refine SubL.cons ?_ ?_ | exact Sub.refl); done) | fail) (by first | (simp [bdL, bdL_append, AV.bd]; done) | fail) (rformat_fn _) ?_) <;> (first | refine rd_skip rfl rfl ?_ | refine rdg_u rfl rfl (by exact rfl) (by exact rfl) (ap_eqs (by exact rq_p rfl rfl) (by exact rq_p rfl rfl)) ?_) <;> (first | refine rd_pick_t (by exact rfl) (by exact rfl) ?_ | refine rd_pick_f (by exact rfl) (by exact rfl) ?_) <;> (refine rd_u (by exact rfl) (by exact rfl) (ap_assign (by exact rq_p rfl rfl)) ?_) <;> (refine rd_end (by kernel_rfl) ?_)) | exact ret_eq (by exact rfl) (by exact rfl) rfl | refine ret_b (by exact rfl) ?_))
  simp
end Go.Lg

/- A valid grammar's text tells the grammar (plain law). -/
namespace Go.Lg

theorem cut_at {c : UInt8} : ∀ {x y r s : List UInt8}, c ∉ x → c ∉ y → x ++ c :: r = y ++ c :: s → x = y ∧ r = s
  | [], [], _, _, _, _, h => ⟨rfl, by simpa using h⟩
  | [], y :: ys, _, _, _, hy, h => by simp at h hy; exact absurd h.1 hy.1
  | x :: xs, [], _, _, hx, _, h => by simp at h hx; exact absurd h.1.symm hx.1
  | x :: xs, y :: ys, _, _, hx, hy, h => by
    simp at h hx hy
    obtain ⟨h1, h2⟩ := cut_at (x := xs) (y := ys) hx.2 hy.2 h.2
    exact ⟨by rw [h.1, h1], h2⟩
theorem cut_lines : ∀ {L M : List (List UInt8)}, (∀ x, x ∈ L → (10 : UInt8) ∉ x) → (∀ x, x ∈ M → (10 : UInt8) ∉ x) → (L.map (· ++ [10])).flatten = (M.map (· ++ [10])).flatten → L = M
  | [], [], _, _, _ => rfl
  | [], y :: ys, _, _, h => by simp at h
  | x :: xs, [], _, _, h => by simp at h
  | x :: xs, y :: ys, hx, hy, h => by
    simp only [List.map_cons, List.flatten_cons, List.append_assoc, List.singleton_append] at h
    obtain ⟨h1, h2⟩ := cut_at (hx x (by simp)) (hy y (by simp)) h
    rw [h1, cut_lines (fun z hz => hx z (by simp [hz])) (fun z hz => hy z (by simp [hz])) h2]
/-- words with a space ahead of each but the first -/
def wordsOf (x : List UInt8) (r : List (List UInt8)) : List UInt8 := x ++ (r.map (32 :: ·)).flatten
theorem cut_words : ∀ {r s : List (List UInt8)} {x y : List UInt8}, (32 : UInt8) ∉ x → (32 : UInt8) ∉ y → (∀ z, z ∈ r → (32 : UInt8) ∉ z) → (∀ z, z ∈ s → (32 : UInt8) ∉ z) → wordsOf x r = wordsOf y s → x = y ∧ r = s
  | [], [], x, y, _, _, _, _, h => by simpa [wordsOf] using h
  | [], z :: zs, x, y, hx, _, _, _, h => by
    simp only [wordsOf, List.map_nil, List.flatten_nil, List.append_nil, List.map_cons, List.flatten_cons] at h
    exact absurd (by rw [h]; simp) hx
  | z :: zs, [], x, y, _, hy, _, _, h => by
    simp only [wordsOf, List.map_nil, List.flatten_nil, List.append_nil, List.map_cons, List.flatten_cons] at h
    exact absurd (by rw [← h]; simp) hy
  | u :: us, v :: vs, x, y, hx, hy, hu, hv, h => by
    simp only [wordsOf, List.map_cons, List.flatten_cons, List.cons_append] at h
    obtain ⟨h1, h2⟩ := cut_at hx hy h
    obtain ⟨h3, h4⟩ := cut_words (r := us) (s := vs) (hu u (by simp)) (hv v (by simp)) (fun z hz => hu z (by simp [hz])) (fun z hz => hv z (by simp [hz])) h2
    exact ⟨h1, by rw [h3, h4]⟩

/-- a word without space and line end -/
def Plain (w : ByteArray) : Prop := (32 : UInt8) ∉ bl w ∧ (10 : UInt8) ∉ bl w
theorem bl_inj {a b : ByteArray} (h : bl a = bl b) : a = b := ba_ext h
theorem lineT_eq (x : ByteArray) (r : List ByteArray) : lineT (x :: r) = wordsOf (bl x) (r.map bl) ++ [10] := by
  rw [lineT_cons]; simp [wordsOf, spaced, List.map_map, Function.comp_def]
theorem map_bl_inj : ∀ {r s : List ByteArray}, r.map bl = s.map bl → r = s
  | [], [], _ => rfl
  | [], _ :: _, h => by simp at h
  | _ :: _, [], h => by simp at h
  | x :: xs, y :: ys, h => by simp at h; rw [bl_inj h.1, map_bl_inj h.2]
theorem words_no {c : UInt8} (hc : c ≠ 32) {x : List UInt8} {r : List (List UInt8)} (hx : c ∉ x) (hr : ∀ z, z ∈ r → c ∉ z) : c ∉ wordsOf x r := by
  simp only [wordsOf, List.mem_append, List.mem_flatten, List.mem_map, not_or, not_exists, not_and]
  refine ⟨hx, ?_⟩
  rintro _ ⟨z, hz, rfl⟩ h2
  rcases List.mem_cons.1 h2 with h2 | h2
  · exact hc h2
  · exact hr z hz h2
/-- The lines, of one word or more each, tell the words. -/
theorem text_inj {L M : List (List ByteArray)} (hL : ∀ l, l ∈ L → l ≠ [] ∧ ∀ w, w ∈ l → Plain w) (hM : ∀ l, l ∈ M → l ≠ [] ∧ ∀ w, w ∈ l → Plain w) (h : (L.map lineT).flatten = (M.map lineT).flatten) : L = M := by
  let body : List ByteArray → List UInt8 := fun l => match l with
    | [] => []
    | x :: r => wordsOf (bl x) (r.map bl)
  have hb : ∀ l : List ByteArray, l ≠ [] → lineT l = body l ++ [10] := fun l hl => by
    cases l with
    | nil => exact absurd rfl hl
    | cons x r => exact lineT_eq x r
  have hno : ∀ l : List ByteArray, l ≠ [] → (∀ w, w ∈ l → Plain w) → (10 : UInt8) ∉ body l := fun l hl hw => by
    cases l with
    | nil => exact absurd rfl hl
    | cons x r =>
      refine words_no (by decide) (hw x (by simp)).2 fun z hz => ?_
      obtain ⟨w, hw', rfl⟩ := List.mem_map.1 hz
      exact (hw w (by simp [hw'])).2
  have e : ∀ K : List (List ByteArray), (∀ l, l ∈ K → l ≠ [] ∧ ∀ w, w ∈ l → Plain w) → K.map lineT = (K.map body).map (· ++ [10]) := fun K hK => by
    rw [List.map_map]
    exact List.map_congr_left fun l hl => hb l (hK l hl).1
  rw [e L hL, e M hM] at h
  have h2 := cut_lines (fun x hx => by obtain ⟨l, hl, rfl⟩ := List.mem_map.1 hx; exact hno l (hL l hl).1 (hL l hl).2) (fun x hx => by obtain ⟨l, hl, rfl⟩ := List.mem_map.1 hx; exact hno l (hM l hl).1 (hM l hl).2) h
  clear h e
  induction L generalizing M with
  | nil => cases M with
    | nil => rfl
    | cons y ys => simp at h2
  | cons l ls ih =>
    cases M with
    | nil => simp at h2
    | cons m ms =>
      simp only [List.map_cons, List.cons.injEq] at h2
      have h3 := hL l (by simp)
      have h4 := hM m (by simp)
      have h5 : l = m := by
        cases l with
        | nil => exact absurd rfl h3.1
        | cons x r =>
          cases m with
          | nil => exact absurd rfl h4.1
          | cons y s =>
            obtain ⟨q1, q2⟩ := cut_words (h3.2 x (by simp)).1 (h4.2 y (by simp)).1 (fun z hz => by obtain ⟨w, hw, rfl⟩ := List.mem_map.1 hz; exact (h3.2 w (by simp [hw])).1) (fun z hz => by obtain ⟨w, hw, rfl⟩ := List.mem_map.1 hz; exact (h4.2 w (by simp [hw])).1) h2.1
            rw [bl_inj q1, map_bl_inj q2]
      rw [h5, ih (fun l hl => hL l (by simp [hl])) (fun l hl => hM l (by simp [hl])) h2.2]

/-! the words of a grammar's text are plain -/
theorem bAt_get {s : ByteArray} {i : Nat} (hi : i < (bl s).length) : bAt s i = (((bl s)[i]).toNat : Int) := by
  show ((nth (bl s) i).toNat : Int) = _
  rw [nth_eq hi]
theorem name_plain {s : ByteArray} (h : nameOk s = true) : Plain s := by
  simp only [nameOk, Bool.and_eq_true, decide_eq_true_eq, List.all_eq_true, List.mem_range] at h
  have key : ∀ c : UInt8, c ∈ bl s → c ≠ 32 ∧ c ≠ 10 := by
    intro c hc
    obtain ⟨i, hi, rfl⟩ := List.getElem_of_mem hc
    have h1 := h.2 i (by rw [← bl_len]; exact hi)
    simp only [nameCh, letB, digB, bAt_get hi, Bool.or_eq_true, Bool.and_eq_true, decide_eq_true_eq, Bool.not_eq_true'] at h1
    constructor
    · intro e; rw [e] at h1; simp at h1
    · intro e; rw [e] at h1; simp at h1
  exact ⟨fun hc => (key _ hc).1 rfl, fun hc => (key _ hc).2 rfl⟩
theorem dec_ge (u : Nat) : ∀ c, c ∈ Lib.decDigits u → 48 ≤ c.toNat := by
  induction u using Nat.strongRecOn with
  | _ u ih =>
    intro c hc
    rw [Lib.decDigits] at hc
    split at hc
    · rename_i h; rw [List.mem_singleton] at hc; subst hc; rw [UInt8.toNat_ofNat']; omega
    · rename_i h
      rcases List.mem_append.1 hc with hc | hc
      · exact ih (u / 10) (by omega) c hc
      · rw [List.mem_singleton] at hc; subst hc
        have := Nat.mod_lt u (show 0 < 10 by decide)
        rw [UInt8.toNat_ofNat']; omega
theorem dec_pos (u : Nat) : Lib.decDigits u ≠ [] := by
  rw [Lib.decDigits]; split <;> simp
theorem dec_inj : ∀ u v : Nat, Lib.decDigits u = Lib.decDigits v → u = v := by
  intro u
  induction u using Nat.strongRecOn with
  | _ u ih =>
    intro v h
    have dg : ∀ a b : Nat, a < 10 → b < 10 → UInt8.ofNat (48 + a) = UInt8.ofNat (48 + b) → a = b := fun a b ha hb e => by
      have := congrArg UInt8.toNat e
      rw [UInt8.toNat_ofNat', UInt8.toNat_ofNat'] at this; omega
    rw [Lib.decDigits] at h
    rw [Lib.decDigits.eq_def v] at h
    split at h <;> split at h
    · rename_i h1 h2
      simp only [List.cons.injEq, and_true] at h
      exact dg u v h1 h2 h
    · have := congrArg List.length h
      have hp := List.length_pos_iff.2 (dec_pos (v / 10))
      simp only [List.length_append, List.length_cons, List.length_nil] at this; omega
    · have := congrArg List.length h
      have hp := List.length_pos_iff.2 (dec_pos (u / 10))
      simp only [List.length_append, List.length_cons, List.length_nil] at this; omega
    · obtain ⟨q1, q2⟩ := List.append_inj' h rfl
      simp only [List.cons.injEq, and_true] at q2
      have e1 := ih (u / 10) (by omega) (v / 10) q1
      have e2 := dg (u % 10) (v % 10) (Nat.mod_lt _ (by decide)) (Nat.mod_lt _ (by decide)) q2
      omega
theorem itoa_inj {p q : Int} (hp : 0 ≤ p) (hq : 0 ≤ q) (h : Lib.itoa p = Lib.itoa q) : p = q := by
  unfold Lib.itoa at h
  rw [if_neg (by omega), if_neg (by omega)] at h
  have := dec_inj _ _ h
  omega
theorem itoa_plain {p : Int} (hp : 0 ≤ p) : Plain (tx (Lib.itoa p)) := by
  have : ∀ c, c ∈ bl (tx (Lib.itoa p)) → 48 ≤ c.toNat := by
    rw [bl_tx]; unfold Lib.itoa; rw [if_neg (by omega)]; exact dec_ge _
  exact ⟨fun h => absurd (this _ h) (by decide), fun h => absurd (this _ h) (by decide)⟩
theorem price_name : nameOk wPrice = false := by decide +kernel

/-- the lines of the text -/
def linesG (g : Gram) : List (List ByteArray) := (wTerms :: g.terms) :: (wNonterms :: g.nonterms) :: [wStart, nth g.nonterms g.start.toNat] :: g.rules.map (ruleW g)
theorem fmt_lines (g : Gram) : fmtTo g g.rules.length = ((linesG g).map lineT).flatten := by
  simp [fmtTo, fmt0, linesG, List.map_map, Function.comp_def]
theorem FVal.tp {g : Gram} (hv : FVal g) {x : ByteArray} (h : x ∈ g.terms) : nameOk x = true := hv.nm x (List.mem_append_left _ h)
theorem FVal.np {g : Gram} (hv : FVal g) {x : ByteArray} (h : x ∈ g.nonterms) : nameOk x = true := hv.nm x (List.mem_append_right _ h)
theorem FVal.symOk {g : Gram} (hv : FVal g) {x : Int} (h1 : x < g.terms.length) (h2 : -(g.nonterms.length : Int) ≤ x) : nameOk (symN g x) = true := by
  unfold symN
  split
  · exact hv.tp (nth_mem (by omega))
  · exact hv.np (nth_mem (by omega))
theorem FVal.plain {g : Gram} (hv : FVal g) : ∀ l, l ∈ linesG g → l ≠ [] ∧ ∀ w, w ∈ l → Plain w := by
  have hs0 := hv.s0
  have hsn := hv.sn
  intro l hl
  simp only [linesG, List.mem_cons, List.mem_map] at hl
  rcases hl with rfl | rfl | rfl | ⟨r, hr, rfl⟩
  · refine ⟨by simp, fun w hw => ?_⟩
    rcases List.mem_cons.1 hw with rfl | hw
    · exact ⟨by decide, by decide⟩
    · exact name_plain (hv.tp hw)
  · refine ⟨by simp, fun w hw => ?_⟩
    rcases List.mem_cons.1 hw with rfl | hw
    · exact ⟨by decide, by decide⟩
    · exact name_plain (hv.np hw)
  · refine ⟨by simp, fun w hw => ?_⟩
    simp only [List.mem_cons, List.mem_nil_iff, or_false] at hw
    rcases hw with rfl | rfl
    · exact ⟨by decide, by decide⟩
    · exact name_plain (hv.np (nth_mem (by omega)))
  · have h := hv.rule r hr
    refine ⟨by simp [Lg.ruleW, Lg.headW], fun w hw => ?_⟩
    simp only [Lg.ruleW, Lg.headW, List.take_length, List.cons_append, List.mem_cons, List.mem_append, List.mem_map] at hw
    rcases hw with rfl | rfl | ⟨x, hx, rfl⟩ | hw
    · exact name_plain (hv.np (nth_mem (by omega)))
    · exact ⟨by decide, by decide⟩
    · have := h.2.2.2.2.2 x hx
      exact name_plain (hv.symOk this.1 this.2)
    · unfold priceW at hw
      split at hw
      · cases hw
      · simp only [List.mem_cons, List.mem_nil_iff, or_false] at hw
        rcases hw with rfl | rfl
        · exact ⟨by decide, by decide⟩
        · exact itoa_plain h.2.2.2.1
theorem nodup_nth_inj {α : Type} [Inhabited α] {l : List α} (h : l.Nodup) {i j : Nat} (hi : i < l.length) (hj : j < l.length) (e : nth l i = nth l j) : i = j := by
  rw [nth_eq hi, nth_eq hj] at e
  exact (List.getElem_inj h).1 e
theorem nth_app_r {α : Type} [Inhabited α] {l m : List α} {i : Nat} (h : i < m.length) : nth (l ++ m) (l.length + i) = nth m i := by
  rw [nth_eq (by simp; omega), nth_eq h, List.getElem_append_right (by omega)]
  congr 1; omega
theorem nth_app_l {α : Type} [Inhabited α] {l m : List α} {i : Nat} (h : i < l.length) : nth (l ++ m) i = nth l i := by
  rw [nth_eq (by simp; omega), nth_eq h, List.getElem_append_left h]
/-- the place of a symbol's name -/
def symI (g : Gram) (x : Int) : Nat := if 0 ≤ x then x.toNat else g.terms.length + (-1 - x).toNat
theorem symN_at {g : Gram} {x : Int} (h1 : x < g.terms.length) (h2 : -(g.nonterms.length : Int) ≤ x) : symN g x = nth (g.terms ++ g.nonterms) (symI g x) ∧ symI g x < (g.terms ++ g.nonterms).length := by
  unfold symN symI
  rw [List.length_append]
  split
  · exact ⟨(nth_app_l (by omega)).symm, by omega⟩
  · exact ⟨(nth_app_r (by omega)).symm, by omega⟩
theorem FVal.symInj {g : Gram} (hv : FVal g) {x y : Int} (h1 : x < g.terms.length) (h2 : -(g.nonterms.length : Int) ≤ x) (h3 : y < g.terms.length) (h4 : -(g.nonterms.length : Int) ≤ y) (e : symN g x = symN g y) : x = y := by
  obtain ⟨a1, a2⟩ := symN_at h1 h2
  obtain ⟨b1, b2⟩ := symN_at h3 h4
  have := nodup_nth_inj hv.nd a2 b2 (by rw [← a1, ← b1, e])
  unfold symI at this
  split at this <;> split at this <;> omega
theorem FVal.ntInj {g : Gram} (hv : FVal g) {i j : Int} (h1 : 0 ≤ i) (h2 : i < g.nonterms.length) (h3 : 0 ≤ j) (h4 : j < g.nonterms.length) (e : nth g.nonterms i.toNat = nth g.nonterms j.toNat) : i = j := by
  have := nodup_nth_inj (List.nodup_append.1 hv.nd).2.1 (i := i.toNat) (j := j.toNat) (by omega) (by omega) e
  omega
/-- names ahead of a price -/
theorem names_price : ∀ {A B : List ByteArray} {p q : Int}, (∀ x, x ∈ A → nameOk x = true) → (∀ x, x ∈ B → nameOk x = true) → 0 ≤ p → 0 ≤ q → A ++ priceW p = B ++ priceW q → A = B ∧ p = q
  | [], [], p, q, _, _, hp, hq, h => by
    refine ⟨rfl, ?_⟩
    simp only [List.nil_append, priceW] at h
    split at h <;> split at h
    · omega
    · simp at h
    · simp at h
    · simp only [List.cons.injEq, and_true, true_and] at h
      exact itoa_inj hp hq (tx_inj h)
  | [], y :: ys, p, q, _, hB, _, _, h => by
    simp only [List.nil_append, priceW] at h
    split at h
    · simp at h
    · simp only [List.cons_append, List.cons.injEq] at h
      have := hB y (by simp)
      rw [← h.1, price_name] at this; cases this
  | x :: xs, [], p, q, hA, _, _, _, h => by
    simp only [List.nil_append, priceW] at h
    split at h
    all_goals split at h
    all_goals first
      | (simp at h; done)
      | (simp only [List.cons_append, List.cons.injEq] at h
         have := hA x (by simp)
         rw [h.1, price_name] at this; cases this)
  | x :: xs, y :: ys, p, q, hA, hB, hp, hq, h => by
    simp only [List.cons_append, List.cons.injEq] at h
    obtain ⟨h1, h2⟩ := names_price (A := xs) (B := ys) (fun z hz => hA z (by simp [hz])) (fun z hz => hB z (by simp [hz])) hp hq h.2
    exact ⟨by rw [h.1, h1], h2⟩
theorem map_sym_inj {g : Gram} (hv : FVal g) : ∀ {l m : List Int}, (∀ x, x ∈ l → x < g.terms.length ∧ -(g.nonterms.length : Int) ≤ x) → (∀ x, x ∈ m → x < g.terms.length ∧ -(g.nonterms.length : Int) ≤ x) → l.map (symN g) = m.map (symN g) → l = m
  | [], [], _, _, _ => rfl
  | [], _ :: _, _, _, h => by simp at h
  | _ :: _, [], _, _, h => by simp at h
  | x :: xs, y :: ys, hl, hm, h => by
    simp only [List.map_cons, List.cons.injEq] at h
    have a := hl x (by simp)
    have b := hm y (by simp)
    rw [hv.symInj a.1 a.2 b.1 b.2 h.1, map_sym_inj hv (fun z hz => hl z (by simp [hz])) (fun z hz => hm z (by simp [hz])) h.2]
theorem rules_inj {a b : Gram} (ha : FVal a) (et : a.terms = b.terms) (en : a.nonterms = b.nonterms) : ∀ {l m : List Rul},
    (∀ r, r ∈ l → 0 ≤ r.head ∧ r.head < a.nonterms.length ∧ r.body.length ≤ 12 ∧ 0 ≤ r.price ∧ r.price ≤ 1000 ∧ ∀ x, x ∈ r.body → x < a.terms.length ∧ -(a.nonterms.length : Int) ≤ x) →
    (∀ r, r ∈ m → 0 ≤ r.head ∧ r.head < a.nonterms.length ∧ r.body.length ≤ 12 ∧ 0 ≤ r.price ∧ r.price ≤ 1000 ∧ ∀ x, x ∈ r.body → x < a.terms.length ∧ -(a.nonterms.length : Int) ≤ x) →
    l.map (ruleW a) = m.map (ruleW b) → l = m
  | [], [], _, _, _ => rfl
  | [], _ :: _, _, _, h => by simp at h
  | _ :: _, [], _, _, h => by simp at h
  | r :: rs, q :: qs, hl, hm, h => by
    simp only [List.map_cons, List.cons.injEq] at h
    have hr := hl r (by simp)
    have hq := hm q (by simp)
    have es : symN b = symN a := by funext x; simp only [symN, et, en]
    obtain ⟨h1, h2⟩ := h
    simp only [ruleW, Lg.headW, List.take_length, List.cons_append, List.cons.injEq, true_and, es, ← en] at h1
    have e1 := ha.ntInj hr.1 hr.2.1 hq.1 hq.2.1 h1.1
    obtain ⟨e2, e3⟩ := names_price (fun x hx => by obtain ⟨y, hy, rfl⟩ := List.mem_map.1 hx; have := hr.2.2.2.2.2 y hy; exact ha.symOk this.1 this.2) (fun x hx => by obtain ⟨y, hy, rfl⟩ := List.mem_map.1 hx; have := hq.2.2.2.2.2 y hy; exact ha.symOk this.1 this.2) hr.2.2.2.1 hq.2.2.2.1 h1.2
    have e4 := map_sym_inj ha hr.2.2.2.2.2 hq.2.2.2.2.2 e2
    rw [Rul.ext' e1 e4 e3, rules_inj ha et en (fun z hz => hl z (by simp [hz])) (fun z hz => hm z (by simp [hz])) h2]
theorem format_inj {a b : Gram} (ha : validG a = true) (hb : validG b = true) (h : formatR a = formatR b) : a = b := by
  have va := FVal.of ha
  have vb := FVal.of hb
  simp only [formatR, ha, hb, if_true] at h
  have h1 := tx_inj h
  rw [fmt_lines, fmt_lines] at h1
  have h2 := text_inj va.plain vb.plain h1
  simp only [linesG, List.cons.injEq, true_and, and_true] at h2
  obtain ⟨et, en, es, er⟩ := h2
  have e1 := va.ntInj va.s0 va.sn vb.s0 (by rw [en]; exact vb.sn) (by rw [es, en])
  exact Gram.ext' et en e1 (rules_inj va et en va.rule (by rw [et, en]; exact vb.rule) er)
end Go.Lg

/- the laws about grammar: FormatInjective, SymbolInverse, RulesOfPartition, RemoveRule -/
namespace Go.Lg
open Go.Proofs
set_option linter.unusedSimpArgs false
set_option linter.unusedVariables false
attribute [local irreducible] Ap Rq asemC WP RunD Ret Gq thenA inBlockA bodyQ noGotoA RqL RqP OpP
set_option maxHeartbeats 8000000

theorem law_ginj (a b : Gram) : Fn Tryd.prog 6 [gramA a, gramA b] (boolA true) := by
  refine Fn.intro (by exact rfl) (by kernel_rfl) Tryd.func6 rfl rfl Tryd.ntmps6 (by exact Nat.le_of_ble_eq_true rfl) ?_; intro Γ hm
  (repeat' (first | refine WP.seq ?_ | refine go_n ?_ | refine WP.skip ?_ | refine WP.ret ?_ | refine go_r ?_ | refine bo_r ?_ | (refine wp_cond (by exact rfl) (fun hc => ?_) (fun hc => ?_) <;> (try simp only [decide_eq_true_eq, decide_eq_false_iff_not, Decidable.not_not, Bool.and_eq_true, Bool.or_eq_true, Bool.not_eq_true', Bool.not_eq_false', Bool.or_eq_false_iff, Bool.and_eq_false_iff, Int.not_lt, Int.not_le, reduceCtorEq, ne_eq, Bool.not_true, Bool.not_false, Bool.not_eq_true, Bool.not_eq_false] at hc) <;> (try (exfalso; omega))) | (refine WP.regionC (id := 0) ?_; (refine se_box (by exact rfl) (by exact ⟨rfl, rfl⟩) ?_); (refine se_box (by exact rfl) (by exact ⟨rfl, rfl⟩) ?_); (refine su (ap_assign (by exact rq_p rfl rfl)) ?_); refine asemC_end ?_) | (refine WP.regionC (id := 1) ?_; (refine sc_p rfl rfl (by first | ((repeat' (exact SubL.nil)); done) | fail) (by first | (simp [bdL, bdL_append, AV.bd]; done) | fail) (awake18_fn) ?_); (refine su (ap_not (by exact rq_p rfl rfl)) ?_); refine asemC_end ?_) | (refine WP.regionC (id := 3) ?_; (refine su (ap_load_pw (by exact rq_p rfl rfl) (by exact rfl) (by exact rfl) (by exact rfl)) ?_); (refine sc_p rfl rfl (by first | ((repeat' first | exact SubL.nil | refine SubL.cons ?_ ?_ | exact Sub.refl); done) | fail) (by first | (simp [bdL, bdL_append, AV.bd]; done) | fail) (few_fn18 _) ?_); (refine su (ap_not (by exact rq_p rfl rfl)) ?_); (refine su (ap_move (by exact rq_p rfl rfl)) ?_); (refine sg (by exact gq_vf rfl rfl) (fun he => ap_load_pw (by exact rq_p rfl rfl) (by exact rfl) (by exact rfl) (by exact rfl)) ?_); (refine sg_p (by exact gq_vf rfl rfl) (fun he => ⟨(by exact rq_p rfl rfl), (RqL.cons (by exact rq_c rfl rfl) (RqL.nil)), (by first | ((repeat' first | exact SubL.nil | refine SubL.cons ?_ ?_ | exact Sub.refl); done) | fail), (by first | (simp [bdL, bdL_append, AV.bd]; done) | fail), few_fn18 _⟩) ?_); (refine sg (by exact gq_vf rfl rfl) (fun he => ap_not (by exact rq_c rfl rfl)) ?_); (refine su (ap_or (by exact rq_p rfl rfl) (by exact rq_c rfl rfl)) ?_); (refine su (ap_move (by exact rq_p rfl rfl)) ?_); (refine sg (by exact gq_vf rfl rfl) (fun he => ap_load_pw (by exact rq_p rfl rfl) (by exact rfl) (by exact rfl) (by exact rfl)) ?_); (refine sg_p (by exact gq_vf rfl rfl) (fun he => ⟨(by exact rq_p rfl rfl), (RqL.cons (by exact rq_c rfl rfl) (RqL.nil)), (by first | ((repeat' first | exact SubL.nil | refine SubL.cons ?_ ?_ | exact Sub.refl); done) | fail), (by first | (simp [bdL, bdL_append, AV.bd]; done) | fail), rvalid_fn _⟩) ?_); (refine sg (by exact gq_vf rfl rfl) (fun he => ap_not (by exact rq_c rfl rfl)) ?_); (refine su (ap_or (by exact rq_p rfl rfl) (by exact rq_c rfl rfl)) ?_); (refine su (ap_move (by exact rq_p rfl rfl)) ?_); (refine sg (by exact gq_vf rfl rfl) (fun he => ap_load_pw (by exact rq_p rfl rfl) (by exact rfl) (by exact rfl) (by exact rfl)) ?_); (refine sg_p (by exact gq_vf rfl rfl) (fun he => ⟨(by exact rq_p rfl rfl), (RqL.cons (by exact rq_c rfl rfl) (RqL.nil)), (by first | ((repeat' first | exact SubL.nil | refine SubL.cons ?_ ?_ | exact Sub.refl); done) | fail), (by first | (simp [bdL, bdL_append, AV.bd]; done) | fail), rvalid_fn _⟩) ?_); (refine sg (by exact gq_vf rfl rfl) (fun he => ap_not (by exact rq_c rfl rfl)) ?_); (refine su (ap_or (by exact rq_p rfl rfl) (by exact rq_c rfl rfl)) ?_); refine asemC_end ?_) | (refine WP.regionC (id := 4) ?_; (refine su (ap_assign (by exact rq_p rfl rfl)) ?_); refine asemC_end ?_) | (refine wp_draw (id := 5) 10 mixed (by kernel_rfl) (by kernel_rfl) rfl ?_ <;> (refine rd_u (by exact rfl) (by exact rfl) (ap_load_pw (by exact rq_p rfl rfl) (by exact rfl) (by exact rfl) (by exact rfl)) ?_) <;> (refine rd_call rfl rfl (by first | ((repeat' first | exact SubL.nil | refine SubL.cons ?_ ?_ | exact Sub.refl); done) | fail) (by first | (simp [bdL, bdL_append, AV.bd]; done) | fail) (gformat_fn _) ?_) <;> (refine rd_u (by exact rfl) (by exact rfl) (ap_load_pw (by exact rq_p rfl rfl) (by exact rfl) (by exact rfl) (by exact rfl)) ?_) <;> (refine rd_call rfl rfl (by first | ((repeat' first | exact SubL.nil | refine SubL.cons ?_ ?_ | exact Sub.refl); done) | fail) (by first | (simp [bdL, bdL_append, AV.bd]; done) | fail) (gformat_fn _) ?_) <;> (refine rd_u (by exact rfl) (by exact rfl) (ap_eqs (by exact rq_p rfl rfl) (by exact rq_p rfl rfl)) ?_) <;> (refine rd_u (by exact rfl) (by exact rfl) (ap_load_pw (by exact rq_p rfl rfl) (by exact rfl) (by exact rfl) (by exact rfl)) ?_) <;> (refine rd_u (by exact rfl) (by exact rfl) (ap_load_pw (by exact rq_p rfl rfl) (by exact rfl) (by exact rfl) (by exact rfl)) ?_) <;> (refine rd_call rfl rfl (by first | ((repeat' first | exact SubL.nil | refine SubL.cons ?_ ?_ | exact Sub.refl); done) | fail) (by first | (simp [bdL, bdL_append, AV.bd]; done) | fail) (gequal_fn _ _) ?_) <;> (refine rd_u (by exact rfl) (by exact rfl) (ap_eqb (by kernel_rfl) (by exact rq_p rfl rfl) (by exact rq_p rfl rfl)) ?_) <;> (refine rd_u (by exact rfl) (by exact rfl) (ap_assign (by exact rq_p rfl rfl)) ?_) <;> (refine rd_end (by kernel_rfl) ?_)) | exact ret_eq (by exact rfl) (by exact rfl) rfl | refine ret_b (by exact rfl) ?_))
  by_cases e : a = b
  · subst e; simp
  · have : formatR a ≠ formatR b := fun h => e (format_inj (by simp_all) (by simp_all) h)
    simp [e, this]

theorem idx_none {l : List ByteArray} {s : ByteArray} (h : s ∉ l) : idx l s = -1 :=
  indexP_no (Nat.le_refl _) (by rw [List.take_length, List.any_eq_false]; intro x hx; simp; rintro rfl; exact h hx)
theorem idx_nth {l : List ByteArray} (h : l.Nodup) {i : Nat} (hi : i < l.length) : idx l (nth l i) = i := by
  refine indexP_at hi ?_ (by simp)
  rw [List.any_eq_false]
  intro x hx
  obtain ⟨j, hj, rfl⟩ := List.getElem_of_mem hx
  simp only [List.length_take] at hj
  rw [List.getElem_take]
  simp only [decide_eq_true_eq]
  intro e
  have := nodup_nth_inj h hi (j := j) (by omega) (by rw [e, nth_eq (by omega)])
  omega
theorem symR_nt {g : Gram} (hv : FVal g) {i : Nat} (hi : i < g.nonterms.length) : symR g (nth g.nonterms i) = (-1 - (i : Int), true) := by
  have h1 : idx g.terms (nth g.nonterms i) = -1 := idx_none fun h => (List.nodup_append.1 hv.nd).2.2 _ h _ (nth_mem hi) rfl
  have h2 := idx_nth (List.nodup_append.1 hv.nd).2.1 hi
  unfold symR
  rw [if_neg (by omega), if_pos (by omega), h2]
theorem law_gsym (g : Gram) (s : ByteArray) : Fn Tryd.prog 7 [gramA g, strA s] (boolA true) := by
  refine Fn.intro (by exact rfl) (by kernel_rfl) Tryd.func7 rfl rfl Tryd.ntmps7 (by exact Nat.le_of_ble_eq_true rfl) ?_; intro Γ hm
  (repeat' (first | refine WP.seq ?_ | refine WP.block ?_ | refine go_n ?_ | refine WP.skip ?_ | refine WP.ret ?_ | refine go_r ?_ | refine bo_r ?_ | (refine wp_cond (by exact rfl) (fun hc => ?_) (fun hc => ?_) <;> (try simp only [decide_eq_true_eq, decide_eq_false_iff_not, Decidable.not_not, Bool.and_eq_true, Bool.or_eq_true, Bool.not_eq_true', Bool.not_eq_false', Bool.or_eq_false_iff, Bool.and_eq_false_iff, Int.not_lt, Int.not_le, reduceCtorEq, ne_eq, Bool.not_true, Bool.not_false, Bool.not_eq_true, Bool.not_eq_false] at hc) <;> (try (exfalso; omega))) | (refine WP.regionC (id := 0) ?_; (refine se_box (by exact rfl) (by exact ⟨rfl, rfl⟩) ?_); (refine su (ap_assign (by exact rq_p rfl rfl)) ?_); refine asemC_end ?_) | (refine WP.regionC (id := 1) ?_; (refine sc_p rfl rfl (by first | ((repeat' (exact SubL.nil)); done) | fail) (by first | (simp [bdL, bdL_append, AV.bd]; done) | fail) (awake18_fn) ?_); (refine su (ap_not (by exact rq_p rfl rfl)) ?_); refine asemC_end ?_) | (refine WP.regionC (id := 3) ?_; (refine su (ap_load_pw (by exact rq_p rfl rfl) (by exact rfl) (by exact rfl) (by exact rfl)) ?_); (refine sc_p rfl rfl (by first | ((repeat' first | exact SubL.nil | refine SubL.cons ?_ ?_ | exact Sub.refl); done) | fail) (by first | (simp [bdL, bdL_append, AV.bd]; done) | fail) (few_fn18 _) ?_); (refine su (ap_not (by exact rq_p rfl rfl)) ?_); refine asemC_end ?_) | (refine WP.regionC (id := 4) ?_; (refine su (ap_assign (by exact rq_p rfl rfl)) ?_); refine asemC_end ?_) | (refine WP.regionC (id := 5) ?_; (refine su (ap_load_pw (by exact rq_p rfl rfl) (by exact rfl) (by exact rfl) (by exact rfl)) ?_); (refine su (ap_move (by exact rq_p rfl rfl)) ?_); (refine sc_p rfl rfl (by first | ((repeat' first | exact SubL.nil | refine SubL.cons ?_ ?_ | exact Sub.refl); done) | fail) (by first | (simp [bdL, bdL_append, AV.bd]; done) | fail) (gsymbol_fn _ _) ?_); (refine su (ap_move (by exact rq_p rfl rfl)) ?_); (refine su (ap_extract (by exact rq_p rfl rfl) (by exact rfl)) ?_); (refine su (ap_extract (by exact rq_p rfl rfl) (by exact rfl)) ?_); (refine su (ap_assign (by exact rq_p rfl rfl)) ?_); (refine su (ap_assign (by exact rq_p rfl rfl)) ?_); refine asemC_end ?_) | (refine WP.regionC (id := 6) ?_; (refine su (ap_load_pw (by exact rq_p rfl rfl) (by exact rfl) (by exact rfl) (by exact rfl)) ?_); (refine su (ap_move (by exact rq_p rfl rfl)) ?_); (refine sc_p rfl rfl (by first | ((repeat' first | exact SubL.nil | refine SubL.cons ?_ ?_ | exact Sub.refl); done) | fail) (by first | (simp [bdL, bdL_append, AV.bd]; done) | fail) (rsymbol_fn _ _) ?_); (refine su (ap_move (by exact rq_p rfl rfl)) ?_); (refine su (ap_extract (by exact rq_p rfl rfl) (by exact rfl)) ?_); (refine su (ap_extract (by exact rq_p rfl rfl) (by exact rfl)) ?_); (refine su (ap_assign (by exact rq_p rfl rfl)) ?_); (refine su (ap_assign (by exact rq_p rfl rfl)) ?_); refine asemC_end ?_) | (refine WP.regionC (id := 7) ?_; (refine su (ap_move (by exact rq_p rfl rfl)) ?_); (refine su (ap_move (by exact rq_p rfl rfl)) ?_); (refine su (ap_neq (by exact rq_p rfl rfl) (by exact rq_p rfl rfl)) ?_); (refine su (ap_move (by exact rq_p rfl rfl)) ?_); (refine sg (by exact gq_vf rfl rfl) (fun he => ap_move (by exact rq_p rfl rfl)) ?_); (refine sg (by exact gq_vf rfl rfl) (fun he => ap_move (by exact rq_p rfl rfl)) ?_); (refine sg (by exact gq_vf rfl rfl) (fun he => ap_neb (by kernel_rfl) (by exact rq_c rfl rfl) (by exact rq_c rfl rfl)) ?_); (refine su (ap_or (by exact rq_p rfl rfl) (by exact rq_c rfl rfl)) ?_); refine asemC_end ?_) | (refine WP.regionC (id := 8) ?_; (refine su (ap_assign (by exact rq_p rfl rfl)) ?_); refine asemC_end ?_) | (refine WP.regionC (id := 9) ?_; (refine su (ap_assign (by exact rq_p rfl rfl)) ?_); refine asemC_end ?_) | exact ret_eq (by exact rfl) (by exact rfl) rfl | refine ret_b (by exact rfl) ?_))
  · simp at hc
  refine wp_loop (fun (i : Nat) => i ≤ g.nonterms.length) (fun i => g.nonterms.length - i) (fun i => (S 66 [(2, .ptr 0 4 0 0), (9, intA (i : Nat))] 1 [(0, some (.arr 4 [gramA g]))])) 0 ⟨[0], ToR.S rfl (by repeat' (first | exact rt_nil | refine rt_t (by exact rfl) (by exact rfl) ?_ | refine rt_e (by exact rfl) (by exact rfl) ?_)) (by repeat' (first | exact ro_nil | refine ro_p (by exact rfl) (by first | exact rfl | fail) (by first | (simp [bdL, bdL_append, AV.bd]; done) | fail) ?_)) (by decide) (by (rw [hm]; exact rfl)) (by exact rfl) (by (simp [bdT, AV.bd, bdL, bdL_append]; done)) (by repeat' (first | exact True.intro | refine And.intro ?_ ?_ | (simp [bdOq, bdL, bdL_append, AV.bd]; done))) (by (rw [hm]; exact Nat.le_of_ble_eq_true rfl))⟩ (Nat.zero_le _) ?_
  rintro i hi
  by_cases hval : validG g = true
  · have hv := FVal.of hval
    have hn2 := hv.n2
    by_cases hlt : i < g.nonterms.length
    · have hs := symR_nt hv hlt
      have hsf : Fn Tryd.prog 18 [gramA g, strA (nth g.nonterms i)] (.tup [intA (-1 - (i : Int)), boolA true]) := by
        have h := gsymbol_fn g (nth g.nonterms i)
        rw [hs] at h; exact h
      have hvf : Fn Tryd.prog 13 [gramA g] (boolA true) := hval ▸ rvalid_fn g
      (repeat' (first | refine WP.seq ?_ | refine WP.block ?_ | refine go_n ?_ | refine WP.skip ?_ | refine WP.exit ?_ | refine WP.ret ?_ | refine go_x ?_ | refine bl_x ?_ | refine bo_r ?_ | (refine wp_cond (by exact rfl) (fun hc => ?_) (fun hc => ?_) <;> (try simp only [decide_eq_true_eq, decide_eq_false_iff_not, Decidable.not_not, Bool.and_eq_true, Bool.or_eq_true, Bool.not_eq_true', Bool.not_eq_false', Bool.or_eq_false_iff, Bool.and_eq_false_iff, Int.not_lt, Int.not_le, reduceCtorEq, ne_eq, Bool.not_true, Bool.not_false, Bool.not_eq_true, Bool.not_eq_false] at hc) <;> (try (exfalso; omega))) | (refine WP.regionC (id := 10) ?_; (refine su (ap_move (by exact rq_p rfl rfl)) ?_); (refine su (ap_field_p (by exact rq_p rfl rfl) (by exact rfl) (by exact rfl)) ?_); (refine su (ap_load_p (by exact rq_p rfl rfl) (by exact rfl) (by exact rfl) (by exact rfl)) ?_); (refine su (ap_len_m (by exact rfl) (by exact rq_p rfl rfl)) ?_); (refine su (ap_lss (by exact rq_p rfl rfl) (by exact rq_p rfl rfl)) ?_); (refine su (ap_move (by exact rq_p rfl rfl)) ?_); (refine sg (by exact gq_vt rfl rfl) (fun he => ap_load_pw (by exact rq_p rfl rfl) (by exact rfl) (by exact rfl) (by exact rfl)) ?_); (refine sg_p (by exact gq_vt rfl rfl) (fun he => ⟨(by exact rq_p rfl rfl), (RqL.cons (by exact rq_c rfl rfl) (RqL.nil)), (by first | ((repeat' first | exact SubL.nil | refine SubL.cons ?_ ?_ | exact Sub.refl); done) | fail), (by first | (simp [bdL, bdL_append, AV.bd]; done) | fail), rvalid_fn _⟩) ?_); (refine su (ap_and (by exact rq_p rfl rfl) (by exact rq_c rfl rfl)) ?_); refine asemC_end ?_) | (refine WP.regionC (id := 15) ?_; (refine su (ap_assign (by exact rq_p rfl rfl)) ?_); refine asemC_end ?_) | exact ret_eq (by exact rfl) (by exact rfl) rfl))
      · refine wp_st (S 66 [(2, .ptr 0 4 0 0), (9, intA (i : Nat))] 1 [(0, some (.arr 4 [gramA g]))]) ⟨[0], ToR.S rfl (by repeat' (first | exact rt_nil | refine rt_t (by exact rfl) (by exact rfl) ?_ | refine rt_e (by exact rfl) (by exact rfl) ?_)) (by repeat' (first | exact ro_nil | refine ro_p (by exact rfl) (by first | exact rfl | fail) (by first | (simp [bdL, bdL_append, AV.bd]; done) | fail) ?_)) (by decide) (by (rw [hm]; exact rfl)) (by exact rfl) (by (simp [bdT, AV.bd, bdL, bdL_append]; done)) (by repeat' (first | exact True.intro | refine And.intro ?_ ?_ | (simp [bdOq, bdL, bdL_append, AV.bd]; done))) (by (rw [hm]; exact Nat.le_of_ble_eq_true rfl))⟩ ?_
        (repeat' (first | refine WP.seq ?_ | refine go_n ?_ | refine WP.skip ?_ | refine WP.ret ?_ | refine go_r ?_ | refine bl_n ?_ | refine bl_r ?_ | refine bo_r ?_ | (refine wp_cond (by exact rfl) (fun hc => ?_) (fun hc => ?_) <;> (try simp only [decide_eq_true_eq, decide_eq_false_iff_not, Decidable.not_not, Bool.and_eq_true, Bool.or_eq_true, Bool.not_eq_true', Bool.not_eq_false', Bool.or_eq_false_iff, Bool.and_eq_false_iff, Int.not_lt, Int.not_le, reduceCtorEq, ne_eq, Bool.not_true, Bool.not_false, Bool.not_eq_true, Bool.not_eq_false] at hc) <;> (try (exfalso; omega))) | (refine wp_draw (id := 12) 12 mixed (by kernel_rfl) (by kernel_rfl) rfl ?_ <;> (refine rd_u (by exact rfl) (by exact rfl) (ap_load_pw (by exact rq_p rfl rfl) (by exact rfl) (by exact rfl) (by exact rfl)) ?_) <;> (refine rd_u (by exact rfl) (by exact rfl) (ap_field_p (by exact rq_p rfl rfl) (by exact rfl) (by exact rfl)) ?_) <;> (refine rd_u (by exact rfl) (by exact rfl) (ap_load_p (by exact rq_p rfl rfl) (by exact rfl) (by exact rfl) (by exact rfl)) ?_) <;> (refine rd_u (by exact rfl) (by exact rfl) (ap_move (by exact rq_p rfl rfl)) ?_) <;> (refine rd_u (by exact rfl) (by exact rfl) (ap_idx_n (by exact rq_p rfl rfl) (by exact rq_p rfl rfl) (by omega)) ?_) <;> (refine rd_u (by exact rfl) (by exact rfl) (ap_load_w (by exact rq_p rfl rfl) (by exact rfl)) ?_) <;> (refine rd_call rfl rfl (by first | ((repeat' first | exact SubL.nil | refine SubL.cons ?_ ?_ | exact Sub.refl); done) | fail) (by first | (simp [bdL, bdL_append, AV.bd]; done) | fail) (gsymbol_fn _ _) ?_) <;> (refine rd_u (by exact rfl) (by exact rfl) (ap_move (by exact rq_p rfl rfl)) ?_) <;> (refine rd_u (by exact rfl) (by exact rfl) (ap_extract (by exact rq_p rfl rfl) (by exact rfl)) ?_) <;> (refine rd_u (by exact rfl) (by exact rfl) (ap_extract (by exact rq_p rfl rfl) (by exact rfl)) ?_) <;> (refine rd_u (by exact rfl) (by exact rfl) (ap_assign (by exact rq_p rfl rfl)) ?_) <;> (refine rd_u (by exact rfl) (by exact rfl) (ap_assign (by exact rq_p rfl rfl)) ?_) <;> (refine rd_end (by kernel_rfl) ?_)) | (refine WP.regionC (id := 13) ?_; (refine su (ap_move (by exact rq_p rfl rfl)) ?_); (refine su (ap_not (by exact rq_p rfl rfl)) ?_); (refine su (ap_move (by exact rq_p rfl rfl)) ?_); (refine sg (by exact gq_vf rfl rfl) (fun he => ap_move (by exact rq_p rfl rfl)) ?_); (refine sg (by exact gq_vf rfl rfl) (fun he => ap_move (by exact rq_p rfl rfl)) ?_); (refine sg (by exact gq_vf rfl rfl) (fun he => ap_sub (by exact rq_p rfl rfl) (by exact rq_c rfl rfl) (by (try simp only [List.all_cons, List.all_append, List.all_nil, id, Bool.and_true, decide_eq_true_eq, decide_eq_false_iff_not, Decidable.not_not, Bool.and_eq_true, Bool.or_eq_true, Bool.not_eq_true', Bool.not_eq_false', Bool.or_eq_false_iff, Bool.and_eq_false_iff, Int.not_lt, Int.not_le, reduceCtorEq, ne_eq, Bool.not_true, Bool.not_false, Bool.not_eq_true, Bool.not_eq_false] at he); exact inr_i64_of (by omega))) ?_); (refine sg (by exact gq_vf rfl rfl) (fun he => ap_neq (by exact rq_c rfl rfl) (by exact rq_c rfl rfl)) ?_); (refine su (ap_or (by exact rq_p rfl rfl) (by exact rq_c rfl rfl)) ?_); refine asemC_end ?_) | (refine WP.regionC (id := 14) ?_; (refine su (ap_assign (by exact rq_p rfl rfl)) ?_); refine asemC_end ?_) | (refine WP.regionC (id := 11) ?_; (refine su (ap_move (by exact rq_p rfl rfl)) ?_); (refine su (ap_add (by exact rq_p rfl rfl) (by exact rq_p rfl rfl) (by exact inr_i64_of (by omega))) ?_); (refine su (ap_assign (by exact rq_p rfl rfl)) ?_); refine asemC_end ?_) | refine ret_b (by exact rfl) ?_))
        all_goals first | exact ⟨i + 1, ⟨by omega, by omega⟩, ⟨[0], ToR.S rfl (by repeat' (first | exact rt_nil | refine rt_t (by exact rfl) (by exact rfl) ?_ | refine rt_e (by exact rfl) (by exact rfl) ?_)) (by repeat' (first | exact ro_nil | refine ro_p (by exact rfl) (by first | exact rfl | fail) (by first | (simp [bdL, bdL_append, AV.bd]; done) | fail) ?_)) (by decide) (by (rw [hm]; exact rfl)) (by exact rfl) (by (simp [bdT, AV.bd, bdL, bdL_append]; done)) (by repeat' (first | exact True.intro | refine And.intro ?_ ?_ | (simp [bdOq, bdL, bdL_append, AV.bd]; done))) (by (rw [hm]; exact Nat.le_of_ble_eq_true rfl))⟩⟩ | simp_all
      all_goals simp_all
    · (repeat' (first | refine WP.seq ?_ | refine go_n ?_ | refine WP.exit ?_ | refine WP.ret ?_ | refine go_x ?_ | refine bl_x ?_ | refine bo_r ?_ | (refine wp_cond (by exact rfl) (fun hc => ?_) (fun hc => ?_) <;> (try simp only [decide_eq_true_eq, decide_eq_false_iff_not, Decidable.not_not, Bool.and_eq_true, Bool.or_eq_true, Bool.not_eq_true', Bool.not_eq_false', Bool.or_eq_false_iff, Bool.and_eq_false_iff, Int.not_lt, Int.not_le, reduceCtorEq, ne_eq, Bool.not_true, Bool.not_false, Bool.not_eq_true, Bool.not_eq_false] at hc) <;> (try (exfalso; omega))) | (refine WP.regionC (id := 10) ?_; (refine su (ap_move (by exact rq_p rfl rfl)) ?_); (refine su (ap_field_p (by exact rq_p rfl rfl) (by exact rfl) (by exact rfl)) ?_); (refine su (ap_load_p (by exact rq_p rfl rfl) (by exact rfl) (by exact rfl) (by exact rfl)) ?_); (refine su (ap_len_m (by exact rfl) (by exact rq_p rfl rfl)) ?_); (refine su (ap_lss (by exact rq_p rfl rfl) (by exact rq_p rfl rfl)) ?_); (refine su (ap_move (by exact rq_p rfl rfl)) ?_); (refine sg (by exact gq_vt rfl rfl) (fun he => ap_load_pw (by exact rq_p rfl rfl) (by exact rfl) (by exact rfl) (by exact rfl)) ?_); (refine sg_p (by exact gq_vt rfl rfl) (fun he => ⟨(by exact rq_p rfl rfl), (RqL.cons (by exact rq_c rfl rfl) (RqL.nil)), (by first | ((repeat' first | exact SubL.nil | refine SubL.cons ?_ ?_ | exact Sub.refl); done) | fail), (by first | (simp [bdL, bdL_append, AV.bd]; done) | fail), rvalid_fn _⟩) ?_); (refine su (ap_and (by exact rq_p rfl rfl) (by exact rq_c rfl rfl)) ?_); refine asemC_end ?_) | (refine WP.regionC (id := 15) ?_; (refine su (ap_assign (by exact rq_p rfl rfl)) ?_); refine asemC_end ?_) | exact ret_eq (by exact rfl) (by exact rfl) rfl))
      all_goals simp_all
  · have hv0 : validG g = false := by simpa using hval
    (repeat' (first | refine WP.seq ?_ | refine WP.block ?_ | refine go_n ?_ | refine WP.skip ?_ | refine WP.exit ?_ | refine WP.ret ?_ | refine go_x ?_ | refine go_r ?_ | refine bl_n ?_ | refine bl_r ?_ | refine bl_x ?_ | refine bo_r ?_ | (refine wp_cond (by exact rfl) (fun hc => ?_) (fun hc => ?_) <;> (try simp only [decide_eq_true_eq, decide_eq_false_iff_not, Decidable.not_not, Bool.and_eq_true, Bool.or_eq_true, Bool.not_eq_true', Bool.not_eq_false', Bool.or_eq_false_iff, Bool.and_eq_false_iff, Int.not_lt, Int.not_le, reduceCtorEq, ne_eq, Bool.not_true, Bool.not_false, Bool.not_eq_true, Bool.not_eq_false] at hc) <;> (try (exfalso; omega))) | (refine WP.regionC (id := 10) ?_; (refine su (ap_move (by exact rq_p rfl rfl)) ?_); (refine su (ap_field_p (by exact rq_p rfl rfl) (by exact rfl) (by exact rfl)) ?_); (refine su (ap_load_p (by exact rq_p rfl rfl) (by exact rfl) (by exact rfl) (by exact rfl)) ?_); (refine su (ap_len_m (by exact rfl) (by exact rq_p rfl rfl)) ?_); (refine su (ap_lss (by exact rq_p rfl rfl) (by exact rq_p rfl rfl)) ?_); (refine su (ap_move (by exact rq_p rfl rfl)) ?_); (refine sg (by exact gq_vt rfl rfl) (fun he => ap_load_pw (by exact rq_p rfl rfl) (by exact rfl) (by exact rfl) (by exact rfl)) ?_); (refine sg_p (by exact gq_vt rfl rfl) (fun he => ⟨(by exact rq_p rfl rfl), (RqL.cons (by exact rq_c rfl rfl) (RqL.nil)), (by first | ((repeat' first | exact SubL.nil | refine SubL.cons ?_ ?_ | exact Sub.refl); done) | fail), (by first | (simp [bdL, bdL_append, AV.bd]; done) | fail), rvalid_fn _⟩) ?_); (refine su (ap_and (by exact rq_p rfl rfl) (by exact rq_c rfl rfl)) ?_); refine asemC_end ?_) | (refine wp_draw (id := 12) 12 mixed (by kernel_rfl) (by kernel_rfl) rfl ?_ <;> (refine rd_u (by exact rfl) (by exact rfl) (ap_load_pw (by exact rq_p rfl rfl) (by exact rfl) (by exact rfl) (by exact rfl)) ?_) <;> (refine rd_u (by exact rfl) (by exact rfl) (ap_field_p (by exact rq_p rfl rfl) (by exact rfl) (by exact rfl)) ?_) <;> (refine rd_u (by exact rfl) (by exact rfl) (ap_load_p (by exact rq_p rfl rfl) (by exact rfl) (by exact rfl) (by exact rfl)) ?_) <;> (refine rd_u (by exact rfl) (by exact rfl) (ap_move (by exact rq_p rfl rfl)) ?_) <;> (refine rd_u (by exact rfl) (by exact rfl) (ap_idx_n (by exact rq_p rfl rfl) (by exact rq_p rfl rfl) (by omega)) ?_) <;> (refine rd_u (by exact rfl) (by exact rfl) (ap_load_w (by exact rq_p rfl rfl) (by exact rfl)) ?_) <;> (refine rd_call rfl rfl (by first | ((repeat' first | exact SubL.nil | refine SubL.cons ?_ ?_ | exact Sub.refl); done) | fail) (by first | (simp [bdL, bdL_append, AV.bd]; done) | fail) (gsymbol_fn _ _) ?_) <;> (refine rd_u (by exact rfl) (by exact rfl) (ap_move (by exact rq_p rfl rfl)) ?_) <;> (refine rd_u (by exact rfl) (by exact rfl) (ap_extract (by exact rq_p rfl rfl) (by exact rfl)) ?_) <;> (refine rd_u (by exact rfl) (by exact rfl) (ap_extract (by exact rq_p rfl rfl) (by exact rfl)) ?_) <;> (refine rd_u (by exact rfl) (by exact rfl) (ap_assign (by exact rq_p rfl rfl)) ?_) <;> (refine rd_u (by exact rfl) (by exact rfl) (ap_assign (by exact rq_p rfl rfl)) ?_) <;> (refine rd_end (by kernel_rfl) ?_)) | (refine WP.regionC (id := 13) ?_; (refine su (ap_move (by exact rq_p rfl rfl)) ?_); (refine su (ap_not (by exact rq_p rfl rfl)) ?_); (refine su (ap_move (by exact rq_p rfl rfl)) ?_); (refine sg (by exact gq_vf rfl rfl) (fun he => ap_move (by exact rq_p rfl rfl)) ?_); (refine sg (by exact gq_vf rfl rfl) (fun he => ap_move (by exact rq_p rfl rfl)) ?_); (refine sg (by exact gq_vf rfl rfl) (fun he => ap_sub (by exact rq_p rfl rfl) (by exact rq_c rfl rfl) (by (try simp only [List.all_cons, List.all_append, List.all_nil, id, Bool.and_true, decide_eq_true_eq, decide_eq_false_iff_not, Decidable.not_not, Bool.and_eq_true, Bool.or_eq_true, Bool.not_eq_true', Bool.not_eq_false', Bool.or_eq_false_iff, Bool.and_eq_false_iff, Int.not_lt, Int.not_le, reduceCtorEq, ne_eq, Bool.not_true, Bool.not_false, Bool.not_eq_true, Bool.not_eq_false] at he); exact inr_i64_of (by omega))) ?_); (refine sg (by exact gq_vf rfl rfl) (fun he => ap_neq (by exact rq_c rfl rfl) (by exact rq_c rfl rfl)) ?_); (refine su (ap_or (by exact rq_p rfl rfl) (by exact rq_c rfl rfl)) ?_); refine asemC_end ?_) | (refine WP.regionC (id := 14) ?_; (refine su (ap_assign (by exact rq_p rfl rfl)) ?_); refine asemC_end ?_) | (refine WP.regionC (id := 11) ?_; (refine su (ap_move (by exact rq_p rfl rfl)) ?_); (refine su (ap_add (by exact rq_p rfl rfl) (by exact rq_p rfl rfl) (by exact inr_i64_of (by omega))) ?_); (refine su (ap_assign (by exact rq_p rfl rfl)) ?_); refine asemC_end ?_) | (refine WP.regionC (id := 15) ?_; (refine su (ap_assign (by exact rq_p rfl rfl)) ?_); refine asemC_end ?_) | exact ret_eq (by exact rfl) (by exact rfl) rfl | refine ret_b (by exact rfl) ?_))
    all_goals simp_all
end Go.Lg

/- the laws about grammar: RulesOfPartition, RemoveRule -/
namespace Go.Lg
open Go.Proofs
set_option linter.unusedSimpArgs false
set_option linter.unusedVariables false
attribute [local irreducible] Ap Rq asemC WP RunD Ret Gq thenA inBlockA bodyQ noGotoA RqL RqP OpP
set_option maxHeartbeats 8000000

/-- how many rules have a head below h -/
def cntH (g : Gram) (h : Int) : Nat := ((List.range g.rules.length).filter fun i => decide ((nth g.rules i).head < h)).length
theorem filter_three {α : Type} {p q r : α → Bool} : ∀ {l : List α}, (∀ x, x ∈ l → r x = (p x || q x)) → (∀ x, x ∈ l → (p x && q x) = false) → (l.filter r).length = (l.filter p).length + (l.filter q).length
  | [], _, _ => rfl
  | x :: xs, h1, h2 => by
    have ih := filter_three (l := xs) (fun y hy => h1 y (by simp [hy])) (fun y hy => h2 y (by simp [hy]))
    have a := h1 x (by simp)
    have b := h2 x (by simp)
    simp only [List.filter_cons]
    cases hp : p x <;> cases hq : q x <;> simp only [hp, hq, Bool.or_false, Bool.or_true, Bool.false_or, Bool.and_true, Bool.and_false] at a b <;> simp [a] <;> first | omega | (cases b)
theorem cntH_succ (g : Gram) (h : Int) : cntH g (h + 1) = cntH g h + (rulesOf g h g.rules.length).length := by
  simp only [cntH, rulesOf, List.length_map]
  refine filter_three (fun x _ => ?_) (fun x _ => ?_)
  · rw [Bool.eq_iff_iff]; simp only [Bool.or_eq_true, decide_eq_true_eq]; omega
  · rw [Bool.and_eq_false_iff]; simp only [decide_eq_false_iff_not]; omega
theorem FVal.cnt0 {g : Gram} (hv : FVal g) : cntH g (-1) = 0 := by
  simp only [cntH]
  rw [List.length_eq_zero_iff, List.filter_eq_nil_iff]
  intro i hi
  have := hv.rule _ (nth_mem (l := g.rules) (k := i) (by simpa using hi))
  simp; omega
theorem FVal.cntAll {g : Gram} (hv : FVal g) {h : Int} (hh : (g.nonterms.length : Int) ≤ h) : cntH g h = g.rules.length := by
  simp only [cntH]
  rw [List.filter_eq_self.2, List.length_range]
  intro i hi
  have := hv.rule _ (nth_mem (l := g.rules) (k := i) (by simpa using hi))
  simp; omega
theorem cntH_le (g : Gram) (h : Int) : cntH g h ≤ g.rules.length := by
  have := List.length_filter_le (fun i => decide ((nth g.rules i).head < h)) (List.range g.rules.length)
  simpa [cntH] using this
theorem rulesOf_mem {g : Gram} {h x : Int} (hx : x ∈ rulesOf g h g.rules.length) : 0 ≤ x ∧ x < g.rules.length ∧ (nth g.rules x.toNat).head = h := by
  simp only [rulesOf, List.mem_map, List.mem_filter, List.mem_range, decide_eq_true_eq] at hx
  obtain ⟨i, ⟨h1, h2⟩, rfl⟩ := hx
  exact ⟨by omega, by omega, by simpa using h2⟩
theorem rulesOf_inc {g : Gram} {h : Int} {i j : Nat} (hij : i < j) (hj : j < (rulesOf g h g.rules.length).length) : nth (rulesOf g h g.rules.length) i < nth (rulesOf g h g.rules.length) j := by
  have hp : (rulesOf g h g.rules.length).Pairwise (· < ·) := by
    simp only [rulesOf]
    rw [List.pairwise_map]
    have : (List.range g.rules.length).Pairwise (· < ·) := List.pairwise_lt_range
    exact (this.filter _).imp (fun h => by omega)
  rw [nth_eq (by omega), nth_eq hj]
  exact List.pairwise_iff_getElem.1 hp i j (by omega) hj hij

theorem law_gpart (g : Gram) : Fn Tryd.prog 8 [gramA g] (boolA true) := by
  refine Fn.intro (by exact rfl) (by kernel_rfl) Tryd.func8 rfl rfl Tryd.ntmps8 (by exact Nat.le_of_ble_eq_true rfl) ?_; intro Γ hm
  (repeat' (first | refine WP.seq ?_ | refine WP.block ?_ | refine go_n ?_ | refine WP.skip ?_ | refine WP.ret ?_ | refine go_r ?_ | refine bo_r ?_ | (refine wp_cond (by exact rfl) (fun hc => ?_) (fun hc => ?_) <;> (try simp only [decide_eq_true_eq, decide_eq_false_iff_not, Decidable.not_not, Bool.and_eq_true, Bool.or_eq_true, Bool.not_eq_true', Bool.not_eq_false', Bool.or_eq_false_iff, Bool.and_eq_false_iff, Int.not_lt, Int.not_le, reduceCtorEq, ne_eq, Bool.not_true, Bool.not_false, Bool.not_eq_true, Bool.not_eq_false] at hc) <;> (try (exfalso; omega))) | (refine WP.regionC (id := 0) ?_; (refine se_box (by exact rfl) (by exact ⟨rfl, rfl⟩) ?_); (refine su (ap_assign (by exact rq_p rfl rfl)) ?_); refine asemC_end ?_) | (refine WP.regionC (id := 1) ?_; (refine sc_p rfl rfl (by first | ((repeat' (exact SubL.nil)); done) | fail) (by first | (simp [bdL, bdL_append, AV.bd]; done) | fail) (awake18_fn) ?_); (refine su (ap_not (by exact rq_p rfl rfl)) ?_); refine asemC_end ?_) | (refine WP.regionC (id := 3) ?_; (refine su (ap_load_pw (by exact rq_p rfl rfl) (by exact rfl) (by exact rfl) (by exact rfl)) ?_); (refine sc_p rfl rfl (by first | ((repeat' first | exact SubL.nil | refine SubL.cons ?_ ?_ | exact Sub.refl); done) | fail) (by first | (simp [bdL, bdL_append, AV.bd]; done) | fail) (few_fn18 _) ?_); (refine su (ap_not (by exact rq_p rfl rfl)) ?_); (refine su (ap_move (by exact rq_p rfl rfl)) ?_); (refine sg (by exact gq_vf rfl rfl) (fun he => ap_load_pw (by exact rq_p rfl rfl) (by exact rfl) (by exact rfl) (by exact rfl)) ?_); (refine sg_p (by exact gq_vf rfl rfl) (fun he => ⟨(by exact rq_p rfl rfl), (RqL.cons (by exact rq_c rfl rfl) (RqL.nil)), (by first | ((repeat' first | exact SubL.nil | refine SubL.cons ?_ ?_ | exact Sub.refl); done) | fail), (by first | (simp [bdL, bdL_append, AV.bd]; done) | fail), rvalid_fn _⟩) ?_); (refine sg (by exact gq_vf rfl rfl) (fun he => ap_not (by exact rq_c rfl rfl)) ?_); (refine su (ap_or (by exact rq_p rfl rfl) (by exact rq_c rfl rfl)) ?_); refine asemC_end ?_) | (refine WP.regionC (id := 4) ?_; (refine su (ap_assign (by exact rq_p rfl rfl)) ?_); refine asemC_end ?_) | (refine WP.regionC (id := 5) ?_; (refine su (ap_assign (by exact rq_p rfl rfl)) ?_); refine asemC_end ?_) | (refine WP.regionC (id := 6) ?_; (refine su (ap_assign (by exact rq_p rfl rfl)) ?_); refine asemC_end ?_) | exact ret_eq (by exact rfl) (by exact rfl) rfl))
  have hval : validG g = true := by simp_all
  have hv := FVal.of hval
  have hn2 := hv.n2
  have hr2 := hv.r2
  refine wp_loop (fun (k : Nat) => k ≤ g.nonterms.length + 2) (fun k => g.nonterms.length + 2 - k) (fun k => (S 86 [(1, .ptr 0 4 0 0), (3, intA (cntH g ((k : Int) - 1) : Nat)), (4, intA ((k : Int) - 1))] 1 [(0, some (.arr 4 [gramA g]))])) 0 (by rw [show (((0 : Nat) : Int) - 1) = -1 from rfl, hv.cnt0]; exact ⟨[0], ToR.S rfl (by repeat' (first | exact rt_nil | refine rt_t (by exact rfl) (by exact rfl) ?_ | refine rt_e (by exact rfl) (by exact rfl) ?_)) (by repeat' (first | exact ro_nil | refine ro_p (by exact rfl) (by first | exact rfl | fail) (by first | (simp [bdL, bdL_append, AV.bd]; done) | fail) ?_)) (by decide) (by (rw [hm]; exact rfl)) (by exact rfl) (by (simp [bdT, AV.bd, bdL, bdL_append]; done)) (by repeat' (first | exact True.intro | refine And.intro ?_ ?_ | (simp [bdOq, bdL, bdL_append, AV.bd]; done))) (by (rw [hm]; exact Nat.le_of_ble_eq_true rfl))⟩) (Nat.zero_le _) ?_
  rintro k hk
  have hcl := cntH_le g ((k : Int) - 1)
  have hcs := cntH_succ g ((k : Int) - 1)
  by_cases hlt : (k : Int) - 1 ≤ g.nonterms.length
  · have hrl := rulesOf_len g ((k : Int) - 1) g.rules.length
    (repeat' (first | refine WP.seq ?_ | refine WP.block ?_ | refine go_n ?_ | refine WP.skip ?_ | (refine wp_cond (by exact rfl) (fun hc => ?_) (fun hc => ?_) <;> (try simp only [decide_eq_true_eq, decide_eq_false_iff_not, Decidable.not_not, Bool.and_eq_true, Bool.or_eq_true, Bool.not_eq_true', Bool.not_eq_false', Bool.or_eq_false_iff, Bool.and_eq_false_iff, Int.not_lt, Int.not_le, reduceCtorEq, ne_eq, Bool.not_true, Bool.not_false, Bool.not_eq_true, Bool.not_eq_false] at hc) <;> (try (exfalso; omega))) | (refine WP.regionC (id := 7) ?_; (refine su (ap_move (by exact rq_p rfl rfl)) ?_); (refine su (ap_field_p (by exact rq_p rfl rfl) (by exact rfl) (by exact rfl)) ?_); (refine su (ap_load_p (by exact rq_p rfl rfl) (by exact rfl) (by exact rfl) (by exact rfl)) ?_); (refine su (ap_len_m (by exact rfl) (by exact rq_p rfl rfl)) ?_); (refine su (ap_leq (by exact rq_p rfl rfl) (by exact rq_p rfl rfl)) ?_); refine asemC_end ?_) | (refine WP.regionC (id := 9) ?_; (refine su (ap_load_pw (by exact rq_p rfl rfl) (by exact rfl) (by exact rfl) (by exact rfl)) ?_); (refine su (ap_move (by exact rq_p rfl rfl)) ?_); (refine sc_p rfl rfl (by first | ((repeat' first | exact SubL.nil | refine SubL.cons ?_ ?_ | exact Sub.refl); done) | fail) (by first | (simp [bdL, bdL_append, AV.bd]; done) | fail) (grulesOf_fn _ _ (by omega)) ?_); (refine su (ap_assign (by exact rq_p rfl rfl)) ?_); refine asemC_end ?_) | (refine WP.regionC (id := 10) ?_; (refine su (ap_assign (by exact rq_p rfl rfl)) ?_); refine asemC_end ?_)))
    have hmem : ∀ i, i < (rulesOf g ((k : Int) - 1) g.rules.length).length → 0 ≤ nth (rulesOf g ((k : Int) - 1) g.rules.length) i ∧ nth (rulesOf g ((k : Int) - 1) g.rules.length) i < g.rules.length ∧ (nth g.rules (nth (rulesOf g ((k : Int) - 1) g.rules.length) i).toNat).head = (k : Int) - 1 := fun i hi => rulesOf_mem (nth_mem hi)
    have hinc : ∀ i j, i < j → j < (rulesOf g ((k : Int) - 1) g.rules.length).length → nth (rulesOf g ((k : Int) - 1) g.rules.length) i < nth (rulesOf g ((k : Int) - 1) g.rules.length) j := fun i j hij hj => rulesOf_inc hij hj
    generalize hL : rulesOf g ((k : Int) - 1) g.rules.length = L at *
    refine wp_loop (fun (i : Nat) => i ≤ L.length) (fun i => L.length - i) (fun i => (S 86 [(1, .ptr 0 4 0 0), (3, intA (cntH g ((k : Int) - 1) : Nat)), (4, intA ((k : Int) - 1)), (5, intsA L), (6, intA (i : Nat))] 1 [(0, some (.arr 4 [gramA g]))])) 0 ⟨[0], ToR.S rfl (by repeat' (first | exact rt_nil | refine rt_t (by exact rfl) (by exact rfl) ?_ | refine rt_e (by exact rfl) (by exact rfl) ?_ | refine rt_p (by exact rfl) (by exact rfl) (by first | (simp [AV.bd, bdL, bdL_append]; done) | fail) ?_)) (by repeat' (first | exact ro_nil | refine ro_p (by exact rfl) (by first | exact rfl | fail) (by first | (simp [bdL, bdL_append, AV.bd]; done) | fail) ?_)) (by decide) (by (rw [hm]; exact rfl)) (by exact rfl) (by (simp [bdT, AV.bd, bdL, bdL_append]; done)) (by repeat' (first | exact True.intro | refine And.intro ?_ ?_ | (simp [bdOq, bdL, bdL_append, AV.bd]; done))) (by (rw [hm]; exact Nat.le_of_ble_eq_true rfl))⟩ (Nat.zero_le _) ?_
    rintro i hi
    by_cases hil : i < L.length
    · obtain ⟨m1, m2, m3⟩ := hmem i hil
      by_cases hi0 : 0 < i
      · have hii := hinc (i - 1) i (by omega) hil
        have e1 : ((i : Int) - 1).toNat = i - 1 := by omega
        (repeat' (first | refine WP.seq ?_ | refine WP.block ?_ | refine go_n ?_ | refine WP.skip ?_ | refine WP.ret ?_ | refine go_r ?_ | refine bl_n ?_ | refine bl_r ?_ | refine bo_r ?_ | (refine wp_cond (by exact rfl) (fun hc => ?_) (fun hc => ?_) <;> (try simp only [decide_eq_true_eq, decide_eq_false_iff_not, Decidable.not_not, Bool.and_eq_true, Bool.or_eq_true, Bool.not_eq_true', Bool.not_eq_false', Bool.or_eq_false_iff, Bool.and_eq_false_iff, Int.not_lt, Int.not_le, reduceCtorEq, ne_eq, Bool.not_true, Bool.not_false, Bool.not_eq_true, Bool.not_eq_false] at hc) <;> (try (exfalso; omega))) | (refine WP.regionC (id := 11) ?_; (refine su (ap_move (by exact rq_p rfl rfl)) ?_); (refine su (ap_move (by exact rq_p rfl rfl)) ?_); (refine su (ap_len_m (by exact rfl) (by exact rq_p rfl rfl)) ?_); (refine su (ap_lss (by exact rq_p rfl rfl) (by exact rq_p rfl rfl)) ?_); refine asemC_end ?_) | (refine wp_draw (id := 13) 44 mixed (by kernel_rfl) (by kernel_rfl) rfl ?_ <;> (refine rd_u (by exact rfl) (by exact rfl) (ap_move (by exact rq_p rfl rfl)) ?_) <;> (refine rd_u (by exact rfl) (by exact rfl) (ap_move (by exact rq_p rfl rfl)) ?_) <;> (refine rd_u (by exact rfl) (by exact rfl) (ap_idx_n (by exact rq_p rfl rfl) (by exact rq_p rfl rfl) (by omega)) ?_) <;> (refine rd_u (by exact rfl) (by exact rfl) (ap_load_w (by exact rq_p rfl rfl) (by exact rfl)) ?_) <;> (refine rd_u (by exact rfl) (by exact rfl) (ap_lss (by exact rq_p rfl rfl) (by exact rq_p rfl rfl)) ?_) <;> (refine rd_u (by exact rfl) (by exact rfl) (ap_move (by exact rq_p rfl rfl)) ?_) <;> ((refine rd_split (t := 38) (by exact rfl) (fun hc => ?_) (fun hc => ?_) <;> (try simp only [decide_eq_true_eq, decide_eq_false_iff_not, Decidable.not_not, Bool.and_eq_true, Bool.or_eq_true, Bool.not_eq_true', Bool.not_eq_false', Bool.or_eq_false_iff, Bool.and_eq_false_iff, Int.not_lt, Int.not_le, reduceCtorEq, ne_eq, Bool.not_true, Bool.not_false, Bool.not_eq_true, Bool.not_eq_false] at hc) <;> (try (exfalso; omega)) <;> (refine rdg_u rfl rfl (by exact rfl) (by exact rfl) (ap_move (by exact rq_p rfl rfl)) ?_))) <;> (refine rdg_u rfl rfl (by exact rfl) (by exact rfl) (ap_move (by exact rq_p rfl rfl)) ?_) <;> (refine rdg_u rfl rfl (by exact rfl) (by exact rfl) (ap_idx_n (by exact rq_p rfl rfl) (by exact rq_p rfl rfl) (by omega)) ?_) <;> (refine rdg_u rfl rfl (by exact rfl) (by exact rfl) (ap_load_w (by exact rq_p rfl rfl) (by exact rfl)) ?_) <;> (refine rdg_u rfl rfl (by exact rfl) (by exact rfl) (ap_field_p (by exact rq_p rfl rfl) (by exact rfl) (by exact rfl)) ?_) <;> (refine rdg_u rfl rfl (by exact rfl) (by exact rfl) (ap_load_p (by exact rq_p rfl rfl) (by exact rfl) (by exact rfl) (by exact rfl)) ?_) <;> (refine rdg_u rfl rfl (by exact rfl) (by exact rfl) (ap_len_m (by exact rfl) (by exact rq_p rfl rfl)) ?_) <;> (refine rdg_u rfl rfl (by exact rfl) (by exact rfl) (ap_geq (by exact rq_p rfl rfl) (by exact rq_p rfl rfl)) ?_) <;> (refine rd_pick_f (by exact rfl) (by exact rfl) ?_) <;> (refine rd_u (by exact rfl) (by exact rfl) (ap_move (by exact rq_p rfl rfl)) ?_) <;> ((refine rd_split (t := 48) (by exact rfl) (fun hc => ?_) (fun hc => ?_) <;> (try simp only [decide_eq_true_eq, decide_eq_false_iff_not, Decidable.not_not, Bool.and_eq_true, Bool.or_eq_true, Bool.not_eq_true', Bool.not_eq_false', Bool.or_eq_false_iff, Bool.and_eq_false_iff, Int.not_lt, Int.not_le, reduceCtorEq, ne_eq, Bool.not_true, Bool.not_false, Bool.not_eq_true, Bool.not_eq_false] at hc) <;> (try (exfalso; omega)) <;> (refine rdg_u rfl rfl (by exact rfl) (by exact rfl) (ap_field_p (by exact rq_p rfl rfl) (by exact rfl) (by exact rfl)) ?_))) <;> (refine rdg_u rfl rfl (by exact rfl) (by exact rfl) (ap_load_p (by exact rq_p rfl rfl) (by exact rfl) (by exact rfl) (by exact rfl)) ?_) <;> (refine rdg_u rfl rfl (by exact rfl) (by exact rfl) (ap_move (by exact rq_p rfl rfl)) ?_) <;> (refine rdg_u rfl rfl (by exact rfl) (by exact rfl) (ap_move (by exact rq_p rfl rfl)) ?_) <;> (refine rdg_u rfl rfl (by exact rfl) (by exact rfl) (ap_idx_n (by exact rq_p rfl rfl) (by exact rq_p rfl rfl) (by omega)) ?_) <;> (refine rdg_u rfl rfl (by exact rfl) (by exact rfl) (ap_load_w (by exact rq_p rfl rfl) (by exact rfl)) ?_) <;> (refine rdg_u rfl rfl (by exact rfl) (by exact rfl) (ap_idx_z (by exact rq_p rfl rfl) (by exact rq_p rfl rfl) (by omega)) ?_) <;> (refine rdg_u rfl rfl (by exact rfl) (by exact rfl) (ap_field_i (by exact rq_p rfl rfl) (by exact rfl) (by exact rfl)) ?_) <;> (refine rdg_u rfl rfl (by exact rfl) (by exact rfl) (ap_load_i (by exact rq_p rfl rfl) (by exact rfl)) ?_) <;> (refine rdg_u rfl rfl (by exact rfl) (by exact rfl) (ap_move (by exact rq_p rfl rfl)) ?_) <;> (refine rdg_u rfl rfl (by exact rfl) (by exact rfl) (ap_neq (by exact rq_p rfl rfl) (by exact rq_p rfl rfl)) ?_) <;> (refine rd_pick_f (by exact rfl) (by exact rfl) ?_) <;> (refine rd_u (by exact rfl) (by exact rfl) (ap_move (by exact rq_p rfl rfl)) ?_) <;> ((refine rd_split (t := 61) (by exact rfl) (fun hc => ?_) (fun hc => ?_) <;> (try simp only [decide_eq_true_eq, decide_eq_false_iff_not, Decidable.not_not, Bool.and_eq_true, Bool.or_eq_true, Bool.not_eq_true', Bool.not_eq_false', Bool.or_eq_false_iff, Bool.and_eq_false_iff, Int.not_lt, Int.not_le, reduceCtorEq, ne_eq, Bool.not_true, Bool.not_false, Bool.not_eq_true, Bool.not_eq_false] at hc) <;> (try (exfalso; omega)) <;> (refine rdg_u rfl rfl (by exact rfl) (by exact rfl) (ap_move (by exact rq_p rfl rfl)) ?_))) <;> (refine rdg_u rfl rfl (by exact rfl) (by exact rfl) (ap_gtr (by exact rq_p rfl rfl) (by exact rq_p rfl rfl)) ?_) <;> (refine rdg_u rfl rfl (by exact rfl) (by exact rfl) (ap_move (by exact rq_p rfl rfl)) ?_) <;> ((refine rd_split (t := 64) (by exact rfl) (fun hc => ?_) (fun hc => ?_) <;> (try simp only [decide_eq_true_eq, decide_eq_false_iff_not, Decidable.not_not, Bool.and_eq_true, Bool.or_eq_true, Bool.not_eq_true', Bool.not_eq_false', Bool.or_eq_false_iff, Bool.and_eq_false_iff, Int.not_lt, Int.not_le, reduceCtorEq, ne_eq, Bool.not_true, Bool.not_false, Bool.not_eq_true, Bool.not_eq_false] at hc) <;> (try (exfalso; omega)) <;> (refine rdg_u rfl rfl (by exact rfl) (by exact rfl) (ap_move (by exact rq_p rfl rfl)) ?_))) <;> (refine rdg_u rfl rfl (by exact rfl) (by exact rfl) (ap_move (by exact rq_p rfl rfl)) ?_) <;> (refine rdg_u rfl rfl (by exact rfl) (by exact rfl) (ap_idx_n (by exact rq_p rfl rfl) (by exact rq_p rfl rfl) (by omega)) ?_) <;> (refine rdg_u rfl rfl (by exact rfl) (by exact rfl) (ap_load_w (by exact rq_p rfl rfl) (by exact rfl)) ?_) <;> (refine rdg_u rfl rfl (by exact rfl) (by exact rfl) (ap_move (by exact rq_p rfl rfl)) ?_) <;> (refine rdg_u rfl rfl (by exact rfl) (by exact rfl) (ap_move (by exact rq_p rfl rfl)) ?_) <;> (refine rdg_u rfl rfl (by exact rfl) (by exact rfl) (ap_sub (by exact rq_p rfl rfl) (by exact rq_p rfl rfl) (by exact inr_i64_of (by omega))) ?_) <;> (refine rdg_u rfl rfl (by exact rfl) (by exact rfl) (ap_idx_z (by exact rq_p rfl rfl) (by exact rq_p rfl rfl) (by omega)) ?_) <;> (refine rdg_u rfl rfl (by exact rfl) (by exact rfl) (ap_load_w (by exact rq_p rfl rfl) (by exact rfl)) ?_) <;> (refine rdg_u rfl rfl (by exact rfl) (by exact rfl) (ap_leq (by exact rq_p rfl rfl) (by exact rq_p rfl rfl)) ?_) <;> (refine rdg_pick_t rfl (by exact rfl) (by exact rfl) (by exact rfl) ?_) <;> (refine rd_pick_f (by exact rfl) (by exact rfl) ?_) <;> (refine rd_end (by kernel_rfl) ?_)) | (refine WP.regionC (id := 14) ?_; (refine su (ap_assign (by exact rq_p rfl rfl)) ?_); refine asemC_end ?_) | (refine WP.regionC (id := 12) ?_; (refine su (ap_move (by exact rq_p rfl rfl)) ?_); (refine su (ap_add (by exact rq_p rfl rfl) (by exact rq_p rfl rfl) (by exact inr_i64_of (by omega))) ?_); (refine su (ap_assign (by exact rq_p rfl rfl)) ?_); refine asemC_end ?_) | refine ret_b (by exact rfl) ?_))
        · rw [e1] at hc; exfalso; omega
        · exact ⟨i + 1, ⟨by omega, by omega⟩, ⟨[0], ToR.S rfl (by repeat' (first | exact rt_nil | refine rt_t (by exact rfl) (by exact rfl) ?_ | refine rt_e (by exact rfl) (by exact rfl) ?_ | refine rt_p (by exact rfl) (by exact rfl) (by first | (simp [AV.bd, bdL, bdL_append]; done) | fail) ?_)) (by repeat' (first | exact ro_nil | refine ro_p (by exact rfl) (by first | exact rfl | fail) (by first | (simp [bdL, bdL_append, AV.bd]; done) | fail) ?_)) (by decide) (by (rw [hm]; exact rfl)) (by exact rfl) (by (simp [bdT, AV.bd, bdL, bdL_append]; done)) (by repeat' (first | exact True.intro | refine And.intro ?_ ?_ | (simp [bdOq, bdL, bdL_append, AV.bd]; done))) (by (rw [hm]; exact Nat.le_of_ble_eq_true rfl))⟩⟩
      · obtain rfl : i = 0 := by omega
        (repeat' (first | refine WP.seq ?_ | refine WP.block ?_ | refine go_n ?_ | refine WP.skip ?_ | refine bl_n ?_ | (refine wp_cond (by exact rfl) (fun hc => ?_) (fun hc => ?_) <;> (try simp only [decide_eq_true_eq, decide_eq_false_iff_not, Decidable.not_not, Bool.and_eq_true, Bool.or_eq_true, Bool.not_eq_true', Bool.not_eq_false', Bool.or_eq_false_iff, Bool.and_eq_false_iff, Int.not_lt, Int.not_le, reduceCtorEq, ne_eq, Bool.not_true, Bool.not_false, Bool.not_eq_true, Bool.not_eq_false] at hc) <;> (try (exfalso; omega))) | (refine WP.regionC (id := 11) ?_; (refine su (ap_move (by exact rq_p rfl rfl)) ?_); (refine su (ap_move (by exact rq_p rfl rfl)) ?_); (refine su (ap_len_m (by exact rfl) (by exact rq_p rfl rfl)) ?_); (refine su (ap_lss (by exact rq_p rfl rfl) (by exact rq_p rfl rfl)) ?_); refine asemC_end ?_) | (refine wp_draw (id := 13) 44 mixed (by kernel_rfl) (by kernel_rfl) rfl ?_ <;> (refine rd_u (by exact rfl) (by exact rfl) (ap_move (by exact rq_p rfl rfl)) ?_) <;> (refine rd_u (by exact rfl) (by exact rfl) (ap_move (by exact rq_p rfl rfl)) ?_) <;> (refine rd_u (by exact rfl) (by exact rfl) (ap_idx_n (by exact rq_p rfl rfl) (by exact rq_p rfl rfl) (by omega)) ?_) <;> (refine rd_u (by exact rfl) (by exact rfl) (ap_load_w (by exact rq_p rfl rfl) (by exact rfl)) ?_) <;> (refine rd_u (by exact rfl) (by exact rfl) (ap_lss (by exact rq_p rfl rfl) (by exact rq_p rfl rfl)) ?_) <;> (refine rd_u (by exact rfl) (by exact rfl) (ap_move (by exact rq_p rfl rfl)) ?_) <;> ((refine rd_split (t := 38) (by exact rfl) (fun hc => ?_) (fun hc => ?_) <;> (try simp only [decide_eq_true_eq, decide_eq_false_iff_not, Decidable.not_not, Bool.and_eq_true, Bool.or_eq_true, Bool.not_eq_true', Bool.not_eq_false', Bool.or_eq_false_iff, Bool.and_eq_false_iff, Int.not_lt, Int.not_le, reduceCtorEq, ne_eq, Bool.not_true, Bool.not_false, Bool.not_eq_true, Bool.not_eq_false] at hc) <;> (try (exfalso; omega)) <;> (refine rdg_u rfl rfl (by exact rfl) (by exact rfl) (ap_move (by exact rq_p rfl rfl)) ?_))) <;> (refine rdg_u rfl rfl (by exact rfl) (by exact rfl) (ap_move (by exact rq_p rfl rfl)) ?_) <;> (refine rdg_u rfl rfl (by exact rfl) (by exact rfl) (ap_idx_n (by exact rq_p rfl rfl) (by exact rq_p rfl rfl) (by omega)) ?_) <;> (refine rdg_u rfl rfl (by exact rfl) (by exact rfl) (ap_load_w (by exact rq_p rfl rfl) (by exact rfl)) ?_) <;> (refine rdg_u rfl rfl (by exact rfl) (by exact rfl) (ap_field_p (by exact rq_p rfl rfl) (by exact rfl) (by exact rfl)) ?_) <;> (refine rdg_u rfl rfl (by exact rfl) (by exact rfl) (ap_load_p (by exact rq_p rfl rfl) (by exact rfl) (by exact rfl) (by exact rfl)) ?_) <;> (refine rdg_u rfl rfl (by exact rfl) (by exact rfl) (ap_len_m (by exact rfl) (by exact rq_p rfl rfl)) ?_) <;> (refine rdg_u rfl rfl (by exact rfl) (by exact rfl) (ap_geq (by exact rq_p rfl rfl) (by exact rq_p rfl rfl)) ?_) <;> (refine rd_pick_f (by exact rfl) (by exact rfl) ?_) <;> (refine rd_u (by exact rfl) (by exact rfl) (ap_move (by exact rq_p rfl rfl)) ?_) <;> ((refine rd_split (t := 48) (by exact rfl) (fun hc => ?_) (fun hc => ?_) <;> (try simp only [decide_eq_true_eq, decide_eq_false_iff_not, Decidable.not_not, Bool.and_eq_true, Bool.or_eq_true, Bool.not_eq_true', Bool.not_eq_false', Bool.or_eq_false_iff, Bool.and_eq_false_iff, Int.not_lt, Int.not_le, reduceCtorEq, ne_eq, Bool.not_true, Bool.not_false, Bool.not_eq_true, Bool.not_eq_false] at hc) <;> (try (exfalso; omega)) <;> (refine rdg_u rfl rfl (by exact rfl) (by exact rfl) (ap_field_p (by exact rq_p rfl rfl) (by exact rfl) (by exact rfl)) ?_))) <;> (refine rdg_u rfl rfl (by exact rfl) (by exact rfl) (ap_load_p (by exact rq_p rfl rfl) (by exact rfl) (by exact rfl) (by exact rfl)) ?_) <;> (refine rdg_u rfl rfl (by exact rfl) (by exact rfl) (ap_move (by exact rq_p rfl rfl)) ?_) <;> (refine rdg_u rfl rfl (by exact rfl) (by exact rfl) (ap_move (by exact rq_p rfl rfl)) ?_) <;> (refine rdg_u rfl rfl (by exact rfl) (by exact rfl) (ap_idx_n (by exact rq_p rfl rfl) (by exact rq_p rfl rfl) (by omega)) ?_) <;> (refine rdg_u rfl rfl (by exact rfl) (by exact rfl) (ap_load_w (by exact rq_p rfl rfl) (by exact rfl)) ?_) <;> (refine rdg_u rfl rfl (by exact rfl) (by exact rfl) (ap_idx_z (by exact rq_p rfl rfl) (by exact rq_p rfl rfl) (by omega)) ?_) <;> (refine rdg_u rfl rfl (by exact rfl) (by exact rfl) (ap_field_i (by exact rq_p rfl rfl) (by exact rfl) (by exact rfl)) ?_) <;> (refine rdg_u rfl rfl (by exact rfl) (by exact rfl) (ap_load_i (by exact rq_p rfl rfl) (by exact rfl)) ?_) <;> (refine rdg_u rfl rfl (by exact rfl) (by exact rfl) (ap_move (by exact rq_p rfl rfl)) ?_) <;> (refine rdg_u rfl rfl (by exact rfl) (by exact rfl) (ap_neq (by exact rq_p rfl rfl) (by exact rq_p rfl rfl)) ?_) <;> (refine rd_pick_f (by exact rfl) (by exact rfl) ?_) <;> (refine rd_u (by exact rfl) (by exact rfl) (ap_move (by exact rq_p rfl rfl)) ?_) <;> ((refine rd_split (t := 61) (by exact rfl) (fun hc => ?_) (fun hc => ?_) <;> (try simp only [decide_eq_true_eq, decide_eq_false_iff_not, Decidable.not_not, Bool.and_eq_true, Bool.or_eq_true, Bool.not_eq_true', Bool.not_eq_false', Bool.or_eq_false_iff, Bool.and_eq_false_iff, Int.not_lt, Int.not_le, reduceCtorEq, ne_eq, Bool.not_true, Bool.not_false, Bool.not_eq_true, Bool.not_eq_false] at hc) <;> (try (exfalso; omega)) <;> (refine rdg_u rfl rfl (by exact rfl) (by exact rfl) (ap_move (by exact rq_p rfl rfl)) ?_))) <;> (refine rdg_u rfl rfl (by exact rfl) (by exact rfl) (ap_gtr (by exact rq_p rfl rfl) (by exact rq_p rfl rfl)) ?_) <;> (refine rdg_u rfl rfl (by exact rfl) (by exact rfl) (ap_move (by exact rq_p rfl rfl)) ?_) <;> (refine rd_skip rfl rfl ?_) <;> (refine rd_skip rfl rfl ?_) <;> (refine rd_skip rfl rfl ?_) <;> (refine rd_skip rfl rfl ?_) <;> (refine rd_skip rfl rfl ?_) <;> (refine rd_skip rfl rfl ?_) <;> (refine rd_skip rfl rfl ?_) <;> (refine rd_skip rfl rfl ?_) <;> (refine rd_skip rfl rfl ?_) <;> (refine rd_skip rfl rfl ?_) <;> (refine rdg_pick_f rfl (by exact rfl) (by exact rfl) (by exact rfl) ?_) <;> (refine rd_pick_f (by exact rfl) (by exact rfl) ?_) <;> (refine rd_end (by kernel_rfl) ?_)) | (refine WP.regionC (id := 12) ?_; (refine su (ap_move (by exact rq_p rfl rfl)) ?_); (refine su (ap_add (by exact rq_p rfl rfl) (by exact rq_p rfl rfl) (by exact inr_i64_of (by omega))) ?_); (refine su (ap_assign (by exact rq_p rfl rfl)) ?_); refine asemC_end ?_)))
        exact ⟨0 + 1, ⟨by omega, by omega⟩, ⟨[0], ToR.S rfl (by repeat' (first | exact rt_nil | refine rt_t (by exact rfl) (by exact rfl) ?_ | refine rt_e (by exact rfl) (by exact rfl) ?_ | refine rt_p (by exact rfl) (by exact rfl) (by first | (simp [AV.bd, bdL, bdL_append]; done) | fail) ?_)) (by repeat' (first | exact ro_nil | refine ro_p (by exact rfl) (by first | exact rfl | fail) (by first | (simp [bdL, bdL_append, AV.bd]; done) | fail) ?_)) (by decide) (by (rw [hm]; exact rfl)) (by exact rfl) (by (simp [bdT, AV.bd, bdL, bdL_append]; done)) (by repeat' (first | exact True.intro | refine And.intro ?_ ?_ | (simp [bdOq, bdL, bdL_append, AV.bd]; done))) (by (rw [hm]; exact Nat.le_of_ble_eq_true rfl))⟩⟩
    · (repeat' (first | refine WP.seq ?_ | refine go_n ?_ | refine WP.exit ?_ | refine go_x ?_ | refine bl_n ?_ | refine bl_x ?_ | (refine wp_cond (by exact rfl) (fun hc => ?_) (fun hc => ?_) <;> (try simp only [decide_eq_true_eq, decide_eq_false_iff_not, Decidable.not_not, Bool.and_eq_true, Bool.or_eq_true, Bool.not_eq_true', Bool.not_eq_false', Bool.or_eq_false_iff, Bool.and_eq_false_iff, Int.not_lt, Int.not_le, reduceCtorEq, ne_eq, Bool.not_true, Bool.not_false, Bool.not_eq_true, Bool.not_eq_false] at hc) <;> (try (exfalso; omega))) | (refine WP.regionC (id := 11) ?_; (refine su (ap_move (by exact rq_p rfl rfl)) ?_); (refine su (ap_move (by exact rq_p rfl rfl)) ?_); (refine su (ap_len_m (by exact rfl) (by exact rq_p rfl rfl)) ?_); (refine su (ap_lss (by exact rq_p rfl rfl) (by exact rq_p rfl rfl)) ?_); refine asemC_end ?_) | (refine WP.regionC (id := 15) ?_; (refine su (ap_move (by exact rq_p rfl rfl)) ?_); (refine su (ap_move (by exact rq_p rfl rfl)) ?_); (refine su (ap_len_m (by exact rfl) (by exact rq_p rfl rfl)) ?_); (refine su (ap_add (by exact rq_p rfl rfl) (by exact rq_p rfl rfl) (by exact inr_i64_of (by omega))) ?_); (refine su (ap_assign (by exact rq_p rfl rfl)) ?_); refine asemC_end ?_) | (refine WP.regionC (id := 8) ?_; (refine su (ap_move (by exact rq_p rfl rfl)) ?_); (refine su (ap_add (by exact rq_p rfl rfl) (by exact rq_p rfl rfl) (by exact inr_i64_of (by omega))) ?_); (refine su (ap_assign (by exact rq_p rfl rfl)) ?_); refine asemC_end ?_)))
      refine ⟨k + 1, ⟨by omega, by omega⟩, ?_⟩
      have e1 : ((k + 1 : Nat) : Int) - 1 = (k : Int) - 1 + 1 := by omega
      have e2 : ((cntH g ((k : Int) - 1 + 1) : Nat) : Int) = (cntH g ((k : Int) - 1) : Int) + (L.length : Int) := by rw [hcs]; omega
      rw [e1, e2]
      exact ⟨[0], ToR.S rfl (by repeat' (first | exact rt_nil | refine rt_t (by exact rfl) (by exact rfl) ?_ | refine rt_e (by exact rfl) (by exact rfl) ?_)) (by repeat' (first | exact ro_nil | refine ro_p (by exact rfl) (by first | exact rfl | fail) (by first | (simp [bdL, bdL_append, AV.bd]; done) | fail) ?_)) (by decide) (by (rw [hm]; exact rfl)) (by exact rfl) (by (simp [bdT, AV.bd, bdL, bdL_append]; done)) (by repeat' (first | exact True.intro | refine And.intro ?_ ?_ | (simp [bdOq, bdL, bdL_append, AV.bd]; done))) (by (rw [hm]; exact Nat.le_of_ble_eq_true rfl))⟩
  · (repeat' (first | refine WP.seq ?_ | refine go_n ?_ | refine WP.exit ?_ | refine WP.ret ?_ | refine go_x ?_ | refine bl_x ?_ | refine bo_r ?_ | (refine wp_cond (by exact rfl) (fun hc => ?_) (fun hc => ?_) <;> (try simp only [decide_eq_true_eq, decide_eq_false_iff_not, Decidable.not_not, Bool.and_eq_true, Bool.or_eq_true, Bool.not_eq_true', Bool.not_eq_false', Bool.or_eq_false_iff, Bool.and_eq_false_iff, Int.not_lt, Int.not_le, reduceCtorEq, ne_eq, Bool.not_true, Bool.not_false, Bool.not_eq_true, Bool.not_eq_false] at hc) <;> (try (exfalso; omega))) | (refine WP.regionC (id := 7) ?_; (refine su (ap_move (by exact rq_p rfl rfl)) ?_); (refine su (ap_field_p (by exact rq_p rfl rfl) (by exact rfl) (by exact rfl)) ?_); (refine su (ap_load_p (by exact rq_p rfl rfl) (by exact rfl) (by exact rfl) (by exact rfl)) ?_); (refine su (ap_len_m (by exact rfl) (by exact rq_p rfl rfl)) ?_); (refine su (ap_leq (by exact rq_p rfl rfl) (by exact rq_p rfl rfl)) ?_); refine asemC_end ?_) | (refine WP.regionC (id := 16) ?_; (refine su (ap_move (by exact rq_p rfl rfl)) ?_); (refine su (ap_field_p (by exact rq_p rfl rfl) (by exact rfl) (by exact rfl)) ?_); (refine su (ap_load_p (by exact rq_p rfl rfl) (by exact rfl) (by exact rfl) (by exact rfl)) ?_); (refine su (ap_len_m (by exact rfl) (by exact rq_p rfl rfl)) ?_); (refine su (ap_eql (by exact rq_p rfl rfl) (by exact rq_p rfl rfl)) ?_); (refine su (ap_assign (by exact rq_p rfl rfl)) ?_); refine asemC_end ?_) | refine ret_b (by exact rfl) ?_))
    rw [hv.cntAll (by omega)]; simp
end Go.Lg

/- the law GrammarRemoveRule -/
namespace Go.Lg
open Go.Proofs
set_option linter.unusedSimpArgs false
set_option linter.unusedVariables false
attribute [local irreducible] Ap Rq asemC WP RunD Ret Gq thenA inBlockA bodyQ noGotoA RqL RqP OpP
set_option maxHeartbeats 8000000

/-- the rules but one, among the first i -/
def restTo (g : Gram) (k i : Nat) : List Rul := ((List.range i).filter fun j => decide (j ≠ k)).map (nth g.rules)
theorem restTo_yes {g : Gram} {k i : Nat} (h : i ≠ k) : restTo g k (i + 1) = restTo g k i ++ [nth g.rules i] := by
  simp [restTo, List.range_succ, List.filter_append, h]
theorem restTo_no {g : Gram} {k i : Nat} (h : i = k) : restTo g k (i + 1) = restTo g k i := by
  simp [restTo, List.range_succ, List.filter_append, h]
theorem restTo_len (g : Gram) (k i : Nat) : (restTo g k i).length ≤ i := by
  have := List.length_filter_le (fun j => decide (j ≠ k)) (List.range i)
  simpa [restTo] using this
theorem restTo_lt {g : Gram} {k i : Nat} (h : k < i) : (restTo g k i).length + 1 = i := by
  induction i with
  | zero => omega
  | succ i ih =>
    by_cases e : i = k
    · rw [restTo_no e]
      subst e
      have : restTo g i i = (List.range i).map (nth g.rules) := by
        simp only [restTo]
        rw [List.filter_eq_self.2]
        intro j hj
        have := List.mem_range.1 hj
        simp; omega
      rw [this]; simp
    · rw [restTo_yes e, List.length_append, List.length_singleton, ih (by omega)]
theorem rest_valid {g : Gram} (h : validG g = true) {k : Nat} (hk : k < g.rules.length) (h2 : 2 ≤ g.rules.length) : validG { g with rules := restTo g k g.rules.length } = true := by
  have hl := restTo_lt (g := g) hk
  simp only [validG, Bool.and_eq_true, decide_eq_true_eq, List.all_eq_true] at h ⊢
  refine ⟨⟨⟨⟨⟨⟨⟨⟨h.1.1.1.1.1.1.1.1, h.1.1.1.1.1.1.1.2⟩, h.1.1.1.1.1.1.2⟩, by omega⟩, by omega⟩, h.1.1.1.2⟩, h.1.1.2⟩, h.1.2⟩, fun r hr => ?_⟩
  simp only [restTo, List.mem_map, List.mem_filter, List.mem_range] at hr
  obtain ⟨j, ⟨hj, _⟩, rfl⟩ := hr
  have := h.2 _ (nth_mem hj)
  simpa [ruleOk, symOk] using this
theorem rest_ne {g : Gram} {k : Nat} (hk : k < g.rules.length) : g ≠ { g with rules := restTo g k g.rules.length } := by
  intro e
  have := congrArg (fun x => x.rules.length) e
  have hl := restTo_lt (g := g) hk
  simp only at this; omega

theorem law_grem (g : Gram) (n : Int) (hn : 0 ≤ n ∧ n ≤ 255) : Fn Tryd.prog 9 [gramA g, .val (.int .u8 n)] (boolA true) := by
  refine Fn.intro (by exact rfl) (by kernel_rfl) Tryd.func9 rfl rfl Tryd.ntmps9 (by exact Nat.le_of_ble_eq_true rfl) ?_; intro Γ hm
  obtain ⟨hn0, hn1⟩ := hn
  (repeat' (first | refine WP.seq ?_ | refine WP.block ?_ | refine go_n ?_ | refine WP.skip ?_ | refine WP.ret ?_ | refine go_r ?_ | refine bo_r ?_ | (refine wp_cond (by exact rfl) (fun hc => ?_) (fun hc => ?_) <;> (try simp only [decide_eq_true_eq, decide_eq_false_iff_not, Decidable.not_not, Bool.and_eq_true, Bool.or_eq_true, Bool.not_eq_true', Bool.not_eq_false', Bool.or_eq_false_iff, Bool.and_eq_false_iff, Int.not_lt, Int.not_le, reduceCtorEq, ne_eq, Bool.not_true, Bool.not_false, Bool.not_eq_true, Bool.not_eq_false] at hc) <;> (try (exfalso; omega))) | (refine WP.regionC (id := 0) ?_; (refine se_box (by exact rfl) (by exact ⟨rfl, rfl⟩) ?_); (refine su (ap_assign (by exact rq_p rfl rfl)) ?_); refine asemC_end ?_) | (refine WP.regionC (id := 1) ?_; (refine sc_p rfl rfl (by first | ((repeat' (exact SubL.nil)); done) | fail) (by first | (simp [bdL, bdL_append, AV.bd]; done) | fail) (awake18_fn) ?_); (refine su (ap_not (by exact rq_p rfl rfl)) ?_); refine asemC_end ?_) | (refine WP.regionC (id := 3) ?_; (refine su (ap_load_pw (by exact rq_p rfl rfl) (by exact rfl) (by exact rfl) (by exact rfl)) ?_); (refine sc_p rfl rfl (by first | ((repeat' first | exact SubL.nil | refine SubL.cons ?_ ?_ | exact Sub.refl); done) | fail) (by first | (simp [bdL, bdL_append, AV.bd]; done) | fail) (few_fn18 _) ?_); (refine su (ap_not (by exact rq_p rfl rfl)) ?_); (refine su (ap_move (by exact rq_p rfl rfl)) ?_); (refine sg (by exact gq_vf rfl rfl) (fun he => ap_load_pw (by exact rq_p rfl rfl) (by exact rfl) (by exact rfl) (by exact rfl)) ?_); (refine sg_p (by exact gq_vf rfl rfl) (fun he => ⟨(by exact rq_p rfl rfl), (RqL.cons (by exact rq_c rfl rfl) (RqL.nil)), (by first | ((repeat' first | exact SubL.nil | refine SubL.cons ?_ ?_ | exact Sub.refl); done) | fail), (by first | (simp [bdL, bdL_append, AV.bd]; done) | fail), rvalid_fn _⟩) ?_); (refine sg (by exact gq_vf rfl rfl) (fun he => ap_not (by exact rq_c rfl rfl)) ?_); (refine su (ap_or (by exact rq_p rfl rfl) (by exact rq_c rfl rfl)) ?_); (refine su (ap_move (by exact rq_p rfl rfl)) ?_); (refine sg (by exact gq_vf rfl rfl) (fun he => ap_field_p (by exact rq_p rfl rfl) (by exact rfl) (by exact rfl)) ?_); (refine sg (by exact gq_vf rfl rfl) (fun he => ap_load_p (by exact rq_c rfl rfl) (by exact rfl) (by exact rfl) (by exact rfl)) ?_); (refine sg (by exact gq_vf rfl rfl) (fun he => ap_len_m (by exact rfl) (by exact rq_c rfl rfl)) ?_); (refine sg (by exact gq_vf rfl rfl) (fun he => ap_lss (by exact rq_c rfl rfl) (by exact rq_p rfl rfl)) ?_); (refine su (ap_or (by exact rq_p rfl rfl) (by exact rq_c rfl rfl)) ?_); refine asemC_end ?_) | (refine WP.regionC (id := 4) ?_; (refine su (ap_assign (by exact rq_p rfl rfl)) ?_); refine asemC_end ?_) | (refine WP.regionC (id := 5) ?_; (refine su (ap_move (by exact rq_p rfl rfl)) ?_); (refine su (ap_conv (by exact rq_p rfl rfl) (by exact rfl) (by kernel_rfl) (by exact inr_i64_of (by omega))) ?_); (refine su (ap_field_p (by exact rq_p rfl rfl) (by exact rfl) (by exact rfl)) ?_); (refine su (ap_load_p (by exact rq_p rfl rfl) (by exact rfl) (by exact rfl) (by exact rfl)) ?_); (refine su (ap_len_m (by exact rfl) (by exact rq_p rfl rfl)) ?_); (refine su (ap_rem (by exact rq_p rfl rfl) (by exact rq_p rfl rfl) (by omega)) ?_); (refine su (ap_assign (by exact rq_p rfl rfl)) ?_); refine asemC_end ?_) | (refine WP.regionC (id := 6) ?_; (refine su (ap_load_pw (by exact rq_p rfl rfl) (by exact rfl) (by exact rfl) (by exact rfl)) ?_); (refine se_alloc (by exact rfl) ?_); (refine se_store_b (by exact rfl) (by exact rfl) (by exact rfl) (by exact rfl) ?_); refine asemC_end ?_) | (refine WP.regionC (id := 7) ?_; (refine su (ap_field_p (by exact rq_p rfl rfl) (by exact rfl) (by exact rfl)) ?_); (refine se_store_b (by exact rfl) (by exact rfl) (by exact rfl) (by exact rfl) ?_); refine asemC_end ?_) | (refine WP.regionC (id := 8) ?_; (refine su (ap_assign (by exact rq_p rfl rfl)) ?_); refine asemC_end ?_) | exact ret_eq (by exact rfl) (by exact rfl) rfl))
  have hval : validG g = true := by simp_all
  have h2 : 2 ≤ g.rules.length := by omega
  have hv := FVal.of hval
  have hr2 := hv.r2
  obtain ⟨K, hK, hKl⟩ : ∃ K : Nat, n.tmod (g.rules.length : Int) = (K : Int) ∧ K < g.rules.length := by
    have h1 : 0 ≤ n.tmod (g.rules.length : Int) := Int.tmod_nonneg _ hn0
    have h3 : n.tmod (g.rules.length : Int) < (g.rules.length : Int) := Int.tmod_lt_of_pos _ (by omega)
    exact ⟨(n.tmod (g.rules.length : Int)).toNat, by omega, by omega⟩
  rw [hK]
  refine wp_nilo 1 3 3 (by exact rfl) (by exact rfl) ?_
  refine wp_loop (fun (i : Nat) => i ≤ g.rules.length) (fun i => g.rules.length - i) (fun i => (S 60 [(2, .ptr 0 4 0 0), (5, intA (K : Nat)), (6, .ptr 1 4 0 0), (7, intA (i : Nat))] 3 [(0, some (.arr 4 [gramA g])), (1, some (.arr 4 [.agg [strsA g.terms, strsA g.nonterms, intA g.start, .ref 2 3 0 (restTo g K i).length]])), (2, some (.arr 3 ((restTo g K i).map ruleA)))])) 0 ⟨[0, 1, 2], ToR.S rfl (by repeat' (first | exact rt_nil | refine rt_t (by exact rfl) (by exact rfl) ?_ | refine rt_e (by exact rfl) (by exact rfl) ?_)) (by repeat' (first | exact ro_nil | refine ro_e (by exact rfl) (by exact rfl) ?_ | refine ro_p (by exact rfl) (by first | exact rfl | fail) (by first | (simp [bdL, bdL_append, AV.bd]; done) | fail) ?_ | refine ro_e (by exact rfl) (by simp only [renL, AV.ren, ren_strsA, ren_intsA]; exact rfl) ?_)) (by decide) (by (rw [hm]; exact rfl)) (by exact rfl) (by (simp [bdT, AV.bd, bdL, bdL_append]; done)) (by repeat' (first | exact True.intro | exact rfl | refine And.intro ?_ ?_ | (simp [bdOq, bdL, bdL_append, AV.bd]; done))) (by (rw [hm]; exact Nat.le_of_ble_eq_true rfl))⟩ (Nat.zero_le _) ?_
  rintro i hi
  have hrl := restTo_len g K i
  by_cases hlt : i < g.rules.length
  · (repeat' (first | refine WP.seq ?_ | refine WP.block ?_ | refine go_n ?_ | refine WP.skip ?_ | refine bl_n ?_ | (refine wp_cond (by exact rfl) (fun hc => ?_) (fun hc => ?_) <;> (try simp only [decide_eq_true_eq, decide_eq_false_iff_not, Decidable.not_not, Bool.and_eq_true, Bool.or_eq_true, Bool.not_eq_true', Bool.not_eq_false', Bool.or_eq_false_iff, Bool.and_eq_false_iff, Int.not_lt, Int.not_le, reduceCtorEq, ne_eq, Bool.not_true, Bool.not_false, Bool.not_eq_true, Bool.not_eq_false] at hc) <;> (try (exfalso; omega))) | (refine WP.regionC (id := 9) ?_; (refine su (ap_move (by exact rq_p rfl rfl)) ?_); (refine su (ap_field_p (by exact rq_p rfl rfl) (by exact rfl) (by exact rfl)) ?_); (refine su (ap_load_p (by exact rq_p rfl rfl) (by exact rfl) (by exact rfl) (by exact rfl)) ?_); (refine su (ap_len_m (by exact rfl) (by exact rq_p rfl rfl)) ?_); (refine su (ap_lss (by exact rq_p rfl rfl) (by exact rq_p rfl rfl)) ?_); refine asemC_end ?_) | (refine WP.regionC (id := 11) ?_; (refine su (ap_move (by exact rq_p rfl rfl)) ?_); (refine su (ap_move (by exact rq_p rfl rfl)) ?_); (refine su (ap_neq (by exact rq_p rfl rfl) (by exact rq_p rfl rfl)) ?_); refine asemC_end ?_) | (refine wp_draw (id := 12) 11 mixed (by kernel_rfl) (by kernel_rfl) rfl ?_ <;> (refine rd_u (by exact rfl) (by exact rfl) (ap_field_p (by exact rq_p rfl rfl) (by exact rfl) (by exact rfl)) ?_) <;> (refine rd_u (by exact rfl) (by exact rfl) (ap_load_p (by exact rq_p rfl rfl) (by exact rfl) (by exact rfl) (by exact rfl)) ?_) <;> (refine rd_u (by exact rfl) (by exact rfl) (ap_field_p (by exact rq_p rfl rfl) (by exact rfl) (by exact rfl)) ?_) <;> (refine rd_u (by exact rfl) (by exact rfl) (ap_load_p (by exact rq_p rfl rfl) (by exact rfl) (by exact rfl) (by exact rfl)) ?_) <;> (refine rd_u (by exact rfl) (by exact rfl) (ap_move (by exact rq_p rfl rfl)) ?_) <;> (refine rd_u (by exact rfl) (by exact rfl) (ap_idx_n (by exact rq_p rfl rfl) (by exact rq_p rfl rfl) (by omega)) ?_) <;> (refine rd_u (by exact rfl) (by exact rfl) (ap_load_w (by exact rq_p rfl rfl) (by exact rfl)) ?_) <;> (refine rd_lit (OpP.cons (by exact rfl) (OpP.nil)) (by exact rfl) (by exact rfl) (by exact rfl) (by exact rfl) (by exact rfl) (by exact rfl) ?_) <;> (refine rd_app1 (by exact rfl) (by exact rfl) (by exact rfl) (by exact rfl) (by exact rfl) (by exact rfl) (by exact rfl) (by exact rfl) (by omega) ?_) <;> (refine rd_u (by exact rfl) (by exact rfl) (ap_field_p (by exact rq_p rfl rfl) (by exact rfl) (by exact rfl)) ?_) <;> (refine rd_store_b (by exact rfl) (by exact rfl) (by exact rfl) (by exact rfl) ?_) <;> (refine rd_end (by kernel_rfl) ?_)) | (refine WP.regionC (id := 10) ?_; (refine su (ap_move (by exact rq_p rfl rfl)) ?_); (refine su (ap_add (by exact rq_p rfl rfl) (by exact rq_p rfl rfl) (by exact inr_i64_of (by omega))) ?_); (refine su (ap_assign (by exact rq_p rfl rfl)) ?_); refine asemC_end ?_)))
    · refine ⟨i + 1, ⟨by omega, by omega⟩, ?_⟩
      rw [restTo_yes (by omega)]
      exact ⟨[0, 1, 11], ToR.S rfl (by repeat' (first | exact rt_nil | refine rt_t (by exact rfl) (by exact rfl) ?_ | refine rt_e (by exact rfl) (by exact rfl) ?_)) (by repeat' (first | exact ro_nil | refine ro_p (by exact rfl) (by first | exact rfl | fail) (by first | exact bdL_map (fun _ => by simp [AV.bd, bdL, bdL_append]) _ | (simp [bdL, bdL_append, AV.bd]; done) | fail) ?_ | refine ro_e (by exact rfl) (by simp only [renL, AV.ren, ren_strsA, ren_intsA]; exact rfl) ?_)) (by decide) (by (rw [hm]; exact rfl)) (by exact rfl) (by (simp [bdT, AV.bd, bdL, bdL_append]; done)) (by repeat' (first | exact True.intro | refine And.intro ?_ ?_ | exact bdL_map (fun _ => by simp [AV.bd, bdL, bdL_append]) _ | (simp [bdOq, bdL, bdL_append, AV.bd]; done))) (by (rw [hm]; exact Nat.le_of_ble_eq_true rfl))⟩
    · refine ⟨i + 1, ⟨by omega, by omega⟩, ?_⟩
      rw [restTo_no (by omega)]
      exact ⟨[0, 1, 2], ToR.S rfl (by repeat' (first | exact rt_nil | refine rt_t (by exact rfl) (by exact rfl) ?_ | refine rt_e (by exact rfl) (by exact rfl) ?_)) (by repeat' (first | exact ro_nil | refine ro_p (by exact rfl) (by first | exact rfl | fail) (by first | exact bdL_map (fun _ => by simp [AV.bd, bdL, bdL_append]) _ | (simp [bdL, bdL_append, AV.bd]; done) | fail) ?_ | refine ro_e (by exact rfl) (by simp only [renL, AV.ren, ren_strsA, ren_intsA]; exact rfl) ?_)) (by decide) (by (rw [hm]; exact rfl)) (by exact rfl) (by (simp [bdT, AV.bd, bdL, bdL_append]; done)) (by repeat' (first | exact True.intro | refine And.intro ?_ ?_ | exact bdL_map (fun _ => by simp [AV.bd, bdL, bdL_append]) _ | (simp [bdOq, bdL, bdL_append, AV.bd]; done))) (by (rw [hm]; exact Nat.le_of_ble_eq_true rfl))⟩
  · obtain rfl : i = g.rules.length := by omega
    (repeat' (first | refine WP.seq ?_ | refine go_n ?_ | refine WP.exit ?_ | refine go_x ?_ | refine bl_x ?_ | (refine wp_cond (by exact rfl) (fun hc => ?_) (fun hc => ?_) <;> (try simp only [decide_eq_true_eq, decide_eq_false_iff_not, Decidable.not_not, Bool.and_eq_true, Bool.or_eq_true, Bool.not_eq_true', Bool.not_eq_false', Bool.or_eq_false_iff, Bool.and_eq_false_iff, Int.not_lt, Int.not_le, reduceCtorEq, ne_eq, Bool.not_true, Bool.not_false, Bool.not_eq_true, Bool.not_eq_false] at hc) <;> (try (exfalso; omega))) | (refine WP.regionC (id := 9) ?_; (refine su (ap_move (by exact rq_p rfl rfl)) ?_); (refine su (ap_field_p (by exact rq_p rfl rfl) (by exact rfl) (by exact rfl)) ?_); (refine su (ap_load_p (by exact rq_p rfl rfl) (by exact rfl) (by exact rfl) (by exact rfl)) ?_); (refine su (ap_len_m (by exact rfl) (by exact rq_p rfl rfl)) ?_); (refine su (ap_lss (by exact rq_p rfl rfl) (by exact rq_p rfl rfl)) ?_); refine asemC_end ?_)))
    refine wp_frzo (id := 2) (k := 3) (f := ruleA) (L := restTo g K g.rules.length) 1 3 hm (by exact rfl) (by exact rfl) (by exact rfl) (by exact rfl) (by exact rfl) (fun _ => by simp) (fun _ => rfl) ?_
    refine wp_st (S 60 [(2, .ptr 0 4 0 0), (6, .ptr 1 4 0 0)] 2 [(0, some (.arr 4 [gramA g])), (1, some (.arr 4 [gramA { g with rules := restTo g K g.rules.length }]))]) ⟨[0, 1], ToR.S rfl (by repeat' (first | exact rt_nil | refine rt_t (by exact rfl) (by exact rfl) ?_)) (by repeat' (first | exact ro_nil | refine ro_p (by exact rfl) (by first | exact rfl | fail) (by first | (simp [bdL, bdL_append, AV.bd]; done) | fail) ?_)) (by decide) (by (rw [hm]; exact rfl)) (by exact rfl) (by (simp [bdT, AV.bd, bdL, bdL_append]; done)) (by repeat' (first | exact True.intro | refine And.intro ?_ ?_ | (simp [bdOq, bdL, bdL_append, AV.bd]; done))) (by (rw [hm]; exact Nat.le_of_ble_eq_true rfl))⟩ ?_
    have hvf : Fn Tryd.prog 12 [gramA { g with rules := restTo g K g.rules.length }] (boolA true) := by
      have h := gvalid_fn { g with rules := restTo g K g.rules.length }
      rwa [rest_valid hval hKl h2] at h
    have hef : Fn Tryd.prog 14 [gramA g, gramA { g with rules := restTo g K g.rules.length }] (boolA false) := by
      have h := gequal_fn g { g with rules := restTo g K g.rules.length }
      rwa [decide_eq_false (rest_ne hKl)] at h
    (repeat' (first | refine go_n ?_ | refine WP.ret ?_ | refine bo_r ?_ | (refine WP.regionC (id := 13) ?_; (refine su (ap_load_pw (by exact rq_p rfl rfl) (by exact rfl) (by exact rfl) (by exact rfl)) ?_); (refine sc_p rfl rfl (by first | ((repeat' first | exact SubL.nil | refine SubL.cons ?_ ?_ | exact Sub.refl); done) | fail) (by first | (simp [bdL, bdL_append, AV.bd]; done) | fail) (gvalid_fn _) ?_); (refine su (ap_move (by exact rq_p rfl rfl)) ?_); (refine sg (by exact gq_vt rfl rfl) (fun he => ap_load_pw (by exact rq_p rfl rfl) (by exact rfl) (by exact rfl) (by exact rfl)) ?_); (refine sg (by exact gq_vt rfl rfl) (fun he => ap_load_pw (by exact rq_p rfl rfl) (by exact rfl) (by exact rfl) (by exact rfl)) ?_); (refine sg_p (by exact gq_vt rfl rfl) (fun he => ⟨(by exact rq_p rfl rfl), (RqL.cons (by exact rq_c rfl rfl) (RqL.cons (by exact rq_c rfl rfl) (RqL.nil))), (by first | ((repeat' first | exact SubL.nil | refine SubL.cons ?_ ?_ | exact Sub.refl); done) | fail), (by first | (simp [bdL, bdL_append, AV.bd]; done) | fail), gequal_fn _ _⟩) ?_); (refine sg (by exact gq_vt rfl rfl) (fun he => ap_not (by exact rq_c rfl rfl)) ?_); (refine su (ap_and (by exact rq_p rfl rfl) (by exact rq_c rfl rfl)) ?_); (refine su (ap_assign (by exact rq_p rfl rfl)) ?_); refine asemC_end ?_) | refine ret_b (by exact rfl) ?_))
    rw [rest_valid hval hKl h2, decide_eq_false (rest_ne hKl)]; rfl
end Go.Lg
