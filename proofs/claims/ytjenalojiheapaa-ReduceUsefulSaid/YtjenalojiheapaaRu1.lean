/-
  Part 1 of the proof of ReduceUseful: the logic over the model, the functions' contracts and the plain laws.
-/
import Derived.Test.YtjenalojiheapaaRg12

/- What Reduce leaves is valid, and all of it is productive and useful (plain law). -/
namespace Go.Lg
set_option linter.unusedSectionVars false

theorem yesB_len (n : Nat) : (yesB n).length = n := by simp [yesB]
theorem yesB_at {n i : Nat} (h : i < n) : nth (yesB n) i = true := nth_replicate h
theorem eq_yes {l : List Bool} {n : Nat} (hl : l.length = n) (h : ∀ i, i < n → nth l i = true) : l = yesB n :=
  nth_ext (by rw [hl, yesB_len]) fun i hi => by rw [h i (by omega), yesB_at (by omega)]

theorem cntB_mono {use : List Bool} {i j : Nat} (h : i ≤ j) : cntB use i ≤ cntB use j := by
  induction j with
  | zero => have : i = 0 := by omega
            subst this; exact Nat.le_refl _
  | succ j ih =>
    by_cases e : i = j + 1
    · subst e; exact Nat.le_refl _
    · have := ih (by omega)
      rw [cntB_succ]; omega
theorem cntB_lt {use : List Bool} {i n : Nat} (h : nth use i = true) (hi : i < n) : cntB use i < cntB use n := by
  have h1 := cntB_mono (use := use) (i := i + 1) (j := n) (by omega)
  rw [cntB_succ, if_pos h] at h1; omega
/-- each number is given -/
theorem cntB_onto {use : List Bool} {n : Nat} : ∀ {j : Nat}, j < cntB use n → ∃ i, i < n ∧ nth use i = true ∧ cntB use i = j := by
  induction n with
  | zero => intro j h; simp [cntB] at h
  | succ n ih =>
    intro j h
    rw [cntB_succ] at h
    by_cases hu : nth use n = true
    · rw [if_pos hu] at h
      by_cases e : j = cntB use n
      · exact ⟨n, by omega, hu, e.symm⟩
      · obtain ⟨i, h1, h2, h3⟩ := ih (j := j) (by omega)
        exact ⟨i, by omega, h2, h3⟩
    · rw [if_neg hu] at h
      obtain ⟨i, h1, h2, h3⟩ := ih (j := j) (by omega)
      exact ⟨i, by omega, h2, h3⟩
theorem names_at {g : Gram} {use : List Bool} {i : Nat} (h : nth use i = true) : ∀ {n : Nat}, i < n → nth (namesTo g use n) (cntB use i) = nth g.nonterms i
  | 0, hi => by omega
  | n + 1, hi => by
    cases hu : nth use n with
    | true =>
      rw [namesTo_yes hu, nth_append, namesTo_len]
      by_cases e : i = n
      · subst e; simp [nth]
      · rw [if_pos (cntB_lt h (by omega))]; exact names_at h (by omega)
    | false =>
      rw [namesTo_no hu]
      have : i ≠ n := by rintro rfl; rw [hu] at h; cases h
      exact names_at h (by omega)

/-- What is said of the grammar that is left. -/
structure Kept (g : Gram) (is use : List Bool) : Prop where
  v : GVal g
  pl : is.length = g.nonterms.length
  ul : use.length = g.nonterms.length
  sub : ∀ i, nth use i = true → nth is i = true
  st : nth use g.start.toNat = true
  cl : ∀ r, r ∈ g.rules → ClosedU is use r
theorem kept_of {g : Gram} (hv : GVal g) (hs : nth (prodG g) g.start.toNat = true) : Kept g (prodG g) (usefulG g (prodG g)) := by
  have hfix : stepU g (prodG g) (usefulG g (prodG g)) = usefulG g (prodG g) := lfpB_fix (stepU_mono g _ _) (initU_len g)
  have hup : leB (initU g) (usefulG g (prodG g)) := lfpB_up (stepU_mono g _ _) (initU_len g)
  have hs0 := hv.s0
  have hsn := hv.sn
  refine ⟨hv, prodG_len g, usefulG_len g _, ?_, ?_, ?_⟩
  · have h1 : leB (initU g) (prodG g) := leB_set (nob_le (prodG_len g)) hs
    have h2 : stepU g (prodG g) (prodG g) = prodG g := stepU_closed fun r _ _ h x hx h0 => by
      have := List.all_eq_true.1 h x hx
      simpa [okSym, show ¬ 0 ≤ x by omega] using this
    exact (lfpB_least (stepU_mono g _ _) (initU_len g) h1 (by rw [h2]; exact .refl _)).2
  · exact hup.2 _ (by rw [initU, nth_set (by rw [nob_len]; omega), if_pos rfl])
  · intro r hr h1 h2 x hx h0
    exact stepU_closes (by rw [hfix]; exact .refl _) hr h1 h2 hx h0 (by rw [usefulG_len]; exact (hv.rule r hr).lo x hx)
section
variable {g : Gram} {is use : List Bool} (h : Kept g is use)
include h
/-- the grammar that is left -/
abbrev redOf (g : Gram) (is use : List Bool) : Gram := ⟨g.terms, namesTo g use g.nonterms.length, (numB use g.start.toNat : Int), rulesTo g is use g.rules.length⟩
theorem Kept.nl : (redOf g is use).nonterms.length = cntB use g.nonterms.length := namesTo_len
theorem Kept.num {i : Nat} (hi : nth use i = true) : numB use i < cntB use g.nonterms.length := by
  rw [numB, if_pos hi]; exact cntB_lt hi (by have := nth_lt hi; rw [h.ul] at this; exact this)
/-- a rule that is kept -/
theorem Kept.rule {r : Rul} (hr : r ∈ rulesTo g is use g.rules.length) : ∃ q, q ∈ g.rules ∧ keepR is use q = true ∧ r = mapRul use q := by
  simp only [rulesTo, keptTo, List.mem_map, List.mem_filter, List.mem_range] at hr
  obtain ⟨j, ⟨h1, h2⟩, rfl⟩ := hr
  exact ⟨_, nth_mem h1, h2, rfl⟩
theorem Kept.mem {q : Rul} (hq : q ∈ g.rules) (hk : keepR is use q = true) : mapRul use q ∈ rulesTo g is use g.rules.length := by
  obtain ⟨j, hj, rfl⟩ := List.getElem_of_mem hq
  simp only [rulesTo, keptTo, List.mem_map, List.mem_filter, List.mem_range]
  exact ⟨j, ⟨hj, by rw [nth_eq hj]; exact hk⟩, by rw [nth_eq hj]⟩
/-- the symbols of a rule that is kept -/
theorem Kept.sym {q : Rul} (hq : q ∈ g.rules) (hk : keepR is use q = true) {x : Int} (hx : x ∈ q.body) (h0 : x < 0) : nth use (-1 - x).toNat = true := by
  simp only [keepR, Bool.and_eq_true] at hk
  exact h.cl q hq hk.1 hk.2 x hx h0
theorem Kept.val (hr1 : 1 ≤ (rulesTo g is use g.rules.length).length) : GVal (redOf g is use) := by
  have hv := h.v
  have hn1 : 1 ≤ cntB use g.nonterms.length := by have := h.num h.st; omega
  have hn2 := cntB_le use g.nonterms.length
  have hnv := hv.n2
  have hrv := hv.r2
  have hrl := rules_le (g := g) (is := is) (use := use) (i := g.rules.length)
  refine ⟨hv.terms, by rw [h.nl]; exact hn1, by rw [h.nl]; omega, hr1, by show (rulesTo g is use g.rules.length).length ≤ 120; omega, ?_, ?_, ?_, ?_⟩
  · show (0 : Int) ≤ (numB use g.start.toNat : Int); omega
  · rw [h.nl]; have := h.num h.st; show (numB use g.start.toNat : Int) < _; omega
  · have hs : List.Sublist (namesTo g use g.nonterms.length) g.nonterms := by
      have : g.nonterms = (List.range g.nonterms.length).map (nth g.nonterms) := nth_ext (by simp) fun i hi => by rw [nth_range hi]
      conv => rhs; rw [this]
      exact List.Sublist.map _ List.filter_sublist
    have hall := hv.names
    simp only [namesOk, Bool.and_eq_true, decide_eq_true_eq, List.all_eq_true] at hall ⊢
    have hs2 : List.Sublist (g.terms ++ namesTo g use g.nonterms.length) (g.terms ++ g.nonterms) := (List.Sublist.refl _).append hs
    exact ⟨fun x hx => hall.1 x (hs2.subset hx), hall.2.sublist hs2⟩
  · intro r hr
    obtain ⟨q, hq, hk, rfl⟩ := h.rule hr
    have hf := hv.rule q hq
    have hkk := hk
    simp only [keepR, Bool.and_eq_true] at hkk
    refine ⟨by simp [mapRul], by rw [h.nl]; have := h.num hkk.1; simp only [mapRul]; omega, by simpa [mapRul] using hf.len, hf.p0, hf.p1, ?_, ?_⟩
    · intro x hx
      simp only [mapRul, List.mem_map] at hx
      obtain ⟨y, hy, rfl⟩ := hx
      unfold mapSym
      split
      · show -1 - (numB use (-1 - y).toNat : Int) < (g.terms.length : Int); omega
      · exact hf.hi y hy
    · intro x hx
      simp only [mapRul, List.mem_map] at hx
      obtain ⟨y, hy, rfl⟩ := hx
      rw [h.nl]
      unfold mapSym
      split
      · rename_i h0
        have := h.num (h.sym hq hk hy h0)
        omega
      · have := hf.lo y hy; omega
end
theorem all_map_ok {use is' : List Bool} {l : List Int} (h : ∀ x, x ∈ l → x < 0 → nth is' (numB use (-1 - x).toNat) = true) : (l.map (mapSym use)).all (okSym is') = true := by
  rw [List.all_eq_true]
  intro x hx
  obtain ⟨y, hy, rfl⟩ := List.mem_map.1 hx
  unfold mapSym
  split
  · rename_i h0
    have := h y hy h0
    simp only [okSym, Bool.or_eq_true, decide_eq_true_eq]
    right
    rw [show (-1 - (-1 - (numB use (-1 - y).toNat : Int))).toNat = numB use (-1 - y).toNat by omega]; exact this
  · simp only [okSym, Bool.or_eq_true, decide_eq_true_eq]; left; omega
/-- All that is left is productive. -/
theorem Kept.prod {g : Gram} {use : List Bool} (h : Kept g (prodG g) use) : prodG (redOf g (prodG g) use) = yesB (cntB use g.nonterms.length) := by
  let G := redOf g (prodG g) use
  have hnl : G.nonterms.length = cntB use g.nonterms.length := h.nl
  have hfix : stepP G (prodG G) = prodG G := lfpB_fix (stepP_mono G _) (nob_len _)
  have hl : (prodG G).length = cntB use g.nonterms.length := by rw [prodG_len, hnl]
  let T : List Bool := (List.range g.nonterms.length).map fun i => nth (prodG g) i && (!nth use i || nth (prodG G) (numB use i))
  have hT : ∀ i, i < g.nonterms.length → nth T i = (nth (prodG g) i && (!nth use i || nth (prodG G) (numB use i))) := fun i hi => nth_range hi
  have hTl : T.length = g.nonterms.length := by simp [T]
  have hgfix : stepP g (prodG g) = prodG g := lfpB_fix (stepP_mono g _) (nob_len _)
  have hTp : leB T (prodG g) := ⟨by rw [hTl, prodG_len], fun i hi => by
    have := nth_lt hi
    rw [hT i (by omega)] at hi
    simp only [Bool.and_eq_true] at hi; exact hi.1⟩
  have hc : stepP g T = T := stepP_closed fun r hr hb => by
    have hf := h.v.rule r hr
    have hrn := hf.hn
    have hr0 := hf.h0
    have hb' : r.body.all (okSym (prodG g)) = true := by
      rw [List.all_eq_true] at hb ⊢
      exact fun x hx => okSym_mono hTp (hb x hx)
    have hP : nth (prodG g) r.head.toNat = true := stepP_closes (by rw [hgfix]; exact .refl _) hr hr0 (by rw [prodG_len]; exact hrn) hb'
    rw [hT _ (by omega), hP, Bool.true_and, Bool.or_eq_true, Bool.not_eq_true']
    cases hu : nth use r.head.toNat with
    | false => exact .inl rfl
    | true =>
      right
      have hk : keepR (prodG g) use r = true := by simp [keepR, hu, hb']
      have hm := h.mem hr hk
      have := stepP_closes (g := G) (S := prodG G) (by rw [hfix]; exact .refl _) hm (by simp [mapRul]) (by rw [hl]; have := h.num hu; simp only [mapRul]; omega) (all_map_ok fun x hx h0 => by
        have hux := h.sym hr hk hx h0
        have hlo := hf.lo x hx
        have h1 := List.all_eq_true.1 hb x hx
        simp only [okSym, Bool.or_eq_true, decide_eq_true_eq] at h1
        rcases h1 with h1 | h1
        · omega
        · rw [hT _ (by omega)] at h1
          simp only [Bool.and_eq_true, Bool.or_eq_true, Bool.not_eq_true'] at h1
          rcases h1.2 with h2 | h2
          · rw [hux] at h2; cases h2
          · exact h2)
      simpa [mapRul] using this
  have hle := lfpB_least (stepP_mono g _) (nob_len _) (nob_le hTl) (by rw [hc]; exact .refl _)
  refine eq_yes hl fun j hj => ?_
  obtain ⟨i, hi, hu, rfl⟩ := cntB_onto hj
  have h1 := hle.2 i (h.sub i hu)
  rw [hT i hi] at h1
  simp only [Bool.and_eq_true, Bool.or_eq_true, Bool.not_eq_true'] at h1
  rcases h1.2 with h2 | h2
  · rw [hu] at h2; cases h2
  · rwa [numB, if_pos hu] at h2
/-- All that is left is useful. -/
theorem Kept.used {g : Gram} (h : Kept g (prodG g) (usefulG g (prodG g))) : usefulG (redOf g (prodG g) (usefulG g (prodG g))) (yesB (cntB (usefulG g (prodG g)) g.nonterms.length)) = yesB (cntB (usefulG g (prodG g)) g.nonterms.length) := by
  generalize hU : usefulG g (prodG g) = use at *
  let G := redOf g (prodG g) use
  let n' := cntB use g.nonterms.length
  have hnl : G.nonterms.length = n' := h.nl
  have hfix : stepU G (yesB n') (usefulG G (yesB n')) = usefulG G (yesB n') := lfpB_fix (stepU_mono G _ _) (initU_len G)
  have hup : leB (initU G) (usefulG G (yesB n')) := lfpB_up (stepU_mono G _ _) (initU_len G)
  have hl : (usefulG G (yesB n')).length = n' := by rw [usefulG_len, hnl]
  let T : List Bool := (List.range g.nonterms.length).map fun i => nth use i && nth (usefulG G (yesB n')) (numB use i)
  have hT : ∀ i, i < g.nonterms.length → nth T i = (nth use i && nth (usefulG G (yesB n')) (numB use i)) := fun i hi => nth_range hi
  have hTl : T.length = g.nonterms.length := by simp [T]
  have hs0 := h.v.s0
  have hsn := h.v.sn
  have hst : nth (usefulG G (yesB n')) (numB use g.start.toNat) = true := hup.2 _ (by
    have := h.num h.st
    rw [initU, nth_set (by rw [nob_len, hnl]; show ((numB use g.start.toNat : Int)).toNat < _; omega), if_pos (by show ((numB use g.start.toNat : Int)).toNat = _; omega)])
  have hi : leB (initU g) T := leB_set (nob_le hTl) (by rw [hT _ (by omega), h.st, hst]; rfl)
  have hc : stepU g (prodG g) T = T := stepU_closed fun r hr h1 h2 x hx h0 => by
    have hf := h.v.rule r hr
    have hrn := hf.hn
    have hr0 := hf.h0
    have hlo := hf.lo x hx
    rw [hT _ (by omega), Bool.and_eq_true] at h1
    have hk : keepR (prodG g) use r = true := by simp [keepR, h1.1, h2]
    have hux := h.sym hr hk hx h0
    have hm := h.mem hr hk
    have hnx := h.num hux
    have := stepU_closes (g := G) (is := yesB n') (S := usefulG G (yesB n')) (by rw [hfix]; exact .refl _) hm (by simpa [mapRul] using h1.2)
      (all_map_ok fun y hy hy0 => yesB_at (h.num (h.sym hr hk hy hy0))) (x := mapSym use x) (by simp only [mapRul]; exact List.mem_map_of_mem hx) (by unfold mapSym; rw [if_pos h0]; omega) (by rw [hl]; unfold mapSym; rw [if_pos h0]; omega)
    rw [hT _ (by omega), hux, Bool.true_and]
    rw [mapSym, if_pos h0, show (-1 - (-1 - (numB use (-1 - x).toNat : Int))).toNat = numB use (-1 - x).toNat by omega] at this
    exact this
  have hle : leB use T := by
    rw [← hU]
    exact lfpB_least (stepU_mono g _ _) (initU_len g) hi (by rw [hc]; exact .refl _)
  refine eq_yes hl fun j hj => ?_
  obtain ⟨i, hi, hu, rfl⟩ := cntB_onto hj
  have h1 := hle.2 i hu
  rw [hT i hi, Bool.and_eq_true] at h1
  have := h1.2
  rwa [numB, if_pos hu] at this
theorem Kept.some_rule {g : Gram} {use : List Bool} (h : Kept g (prodG g) use) : 1 ≤ (rulesTo g (prodG g) use g.rules.length).length := by
  rcases Nat.eq_zero_or_pos (rulesTo g (prodG g) use g.rules.length).length with h0 | h0
  · exfalso
    have he : rulesTo g (prodG g) use g.rules.length = [] := List.eq_nil_of_length_eq_zero h0
    have h1 := h.prod
    have h2 : prodG (redOf g (prodG g) use) = nob (redOf g (prodG g) use).nonterms.length :=
      lfpB_eq (stepP_mono _ _) (nob_len _) (.refl _) (stepP_closed fun r (hr : r ∈ rulesTo g (prodG g) use g.rules.length) _ => by rw [he] at hr; cases hr) (fun S hS _ => hS)
    have h3 := h.num h.st
    have h4 : nth (yesB (cntB use g.nonterms.length)) 0 = true := yesB_at (by omega)
    rw [← h1, h2, nob, nth_replicate (by rw [h.nl]; omega)] at h4
    cases h4
  · exact h0
theorem cntB_yes {n : Nat} : ∀ {i : Nat}, i ≤ n → cntB (yesB n) i = i
  | 0, _ => rfl
  | i + 1, h => by rw [cntB_succ, cntB_yes (by omega), if_pos (yesB_at (by omega))]
theorem numB_yes {n i : Nat} (h : i < n) : numB (yesB n) i = i := by rw [numB, if_pos (yesB_at h), cntB_yes (by omega)]
def iota (n : Nat) : List Int := (List.range n).map Int.ofNat
theorem iota_len (n : Nat) : (iota n).length = n := by simp [iota]
theorem iota_at {n i : Nat} (h : i < n) : nth (iota n) i = (i : Int) := nth_range h
theorem full_map {α : Type} [Inhabited α] (l : List α) : (List.range l.length).map (nth l) = l := nth_ext (by simp) fun i hi => by rw [nth_range (by simpa using hi)]
/-- Where all is productive and useful, nothing is left out. -/
theorem red_full {G : Gram} (hv : GVal G) (hp : prodG G = yesB G.nonterms.length) (hu : usefulG G (yesB G.nonterms.length) = yesB G.nonterms.length) : reduceR G = (G, iota G.rules.length, 0) := by
  have hs0 := hv.s0
  have hsn := hv.sn
  have hn : namesTo G (yesB G.nonterms.length) G.nonterms.length = G.nonterms := by
    rw [namesTo, List.filter_eq_self.2 fun i hi => yesB_at (List.mem_range.1 hi), full_map]
  have hk : keptTo G (yesB G.nonterms.length) (yesB G.nonterms.length) G.rules.length = List.range G.rules.length := by
    rw [keptTo, List.filter_eq_self]
    intro i hi
    have hf := hv.rule _ (nth_mem (List.mem_range.1 hi))
    have h0 := hf.h0
    have h1 := hf.hn
    simp only [keepR, Bool.and_eq_true]
    exact ⟨yesB_at (by omega), all_yes hf.lo⟩
  have hr : rulesTo G (yesB G.nonterms.length) (yesB G.nonterms.length) G.rules.length = G.rules := by
    rw [rulesTo, hk]
    refine nth_ext (by simp) fun i hi => ?_
    have hi : i < G.rules.length := by simpa using hi
    rw [nth_range hi]
    have hf := hv.rule _ (nth_mem hi)
    have h0 := hf.h0
    have h1 := hf.hn
    have hb : (nth G.rules i).body.map (mapSym (yesB G.nonterms.length)) = (nth G.rules i).body := by
      conv => rhs; rw [← List.map_id (nth G.rules i).body]
      refine List.map_congr_left fun x hx => ?_
      unfold mapSym
      split
      · have := hf.lo x hx
        rw [numB_yes (by omega)]; simp only [id]; omega
      · rfl
    rw [mapRul, hb, numB_yes (by omega)]
    have : ((nth G.rules i).head.toNat : Int) = (nth G.rules i).head := by omega
    rw [this]
  have hst : ((numB (yesB G.nonterms.length) G.start.toNat : Nat) : Int) = G.start := by rw [numB_yes (by omega)]; omega
  have hsp : nth (prodG G) G.start.toNat = true := by rw [hp]; exact yesB_at (by omega)
  rw [reduceR, if_pos (validG_iff.2 hv), if_pos hsp]
  simp only [redG, hp, hu, hn, hr, hst, fromTo, hk, iota]
/-- The cases of Reduce. -/
theorem reduce_ok {g : Gram} (h : (reduceR g).2.2 = 0) : ∃ _ : Kept g (prodG g) (usefulG g (prodG g)), reduceR g = (redOf g (prodG g) (usefulG g (prodG g)), fromTo g (prodG g) (usefulG g (prodG g)) g.rules.length, 0) := by
  unfold reduceR at h ⊢
  by_cases h1 : validG g = true
  · rw [if_pos h1] at h ⊢
    by_cases h2 : nth (prodG g) g.start.toNat = true
    · rw [if_pos h2]
      exact ⟨kept_of (validG_iff.1 h1) h2, rfl⟩
    · rw [if_neg h2] at h; simp at h
  · rw [if_neg h1] at h; simp at h
theorem reduce_no {g : Gram} (h : (reduceR g).2.2 ≠ 0) : (reduceR g).1 = emptyG := by
  unfold reduceR at h ⊢
  split
  · rename_i h1
    rw [if_pos h1] at h
    split
    · rename_i h2; rw [if_pos h2] at h; exact absurd rfl h
    · rfl
  · rfl
theorem reduce_val {g : Gram} (h : (reduceR g).2.2 = 0) : GVal (reduceR g).1 := by
  obtain ⟨hk, he⟩ := reduce_ok h
  rw [he]; exact hk.val hk.some_rule
theorem reduce_prod {g : Gram} (h : (reduceR g).2.2 = 0) : prodG (reduceR g).1 = yesB (reduceR g).1.nonterms.length := by
  obtain ⟨hk, he⟩ := reduce_ok h
  rw [he]; show prodG (redOf g (prodG g) (usefulG g (prodG g))) = _
  rw [hk.prod]; show _ = yesB (namesTo _ _ _).length
  rw [namesTo_len]
theorem reduce_used {g : Gram} (h : (reduceR g).2.2 = 0) : usefulG (reduceR g).1 (yesB (reduceR g).1.nonterms.length) = yesB (reduceR g).1.nonterms.length := by
  obtain ⟨hk, he⟩ := reduce_ok h
  rw [he]; show usefulG (redOf g (prodG g) (usefulG g (prodG g))) (yesB (namesTo _ _ _).length) = yesB (namesTo _ _ _).length
  rw [namesTo_len]; exact hk.used
theorem reduce_again {g : Gram} (h : (reduceR g).2.2 = 0) : reduceR (reduceR g).1 = ((reduceR g).1, iota (reduceR g).1.rules.length, 0) :=
  red_full (reduce_val h) (reduce_prod h) (reduce_used h)
end Go.Lg

/- ReduceUseful -/
namespace Go.Lg
open Go.Proofs
set_option linter.unusedSimpArgs false
set_option linter.unusedVariables false
attribute [local irreducible] Ap Rq asemC WP RunD Ret Gq thenA inBlockA bodyQ noGotoA RqL RqP OpP
set_option maxHeartbeats 8000000

theorem law_useful (g : Gram) : Fn Try.prog 7 [gramA g] (boolA true) := by
  refine Fn.intro (by exact rfl) (by kernel_rfl) Try.func7 rfl rfl Try.ntmps7 (by exact Nat.le_of_ble_eq_true rfl) ?_; intro Γ hm
  have hno := @reduce_no g
  (repeat' (first | refine WP.seq ?_ | refine go_n ?_ | refine WP.skip ?_ | refine WP.ret ?_ | refine go_r ?_ | refine bo_r ?_ | (refine wp_cond (by exact rfl) (fun hc => ?_) (fun hc => ?_) <;> (try simp only [decide_eq_true_eq, decide_eq_false_iff_not, Decidable.not_not, Bool.and_eq_true, Bool.or_eq_true, Bool.not_eq_true', Bool.not_eq_false', Bool.or_eq_false_iff, Bool.and_eq_false_iff, Int.not_lt, Int.not_le, reduceCtorEq, ne_eq, Bool.not_true, Bool.not_false, Bool.not_eq_true, Bool.not_eq_false] at hc) <;> (try (exfalso; omega))) | (refine WP.regionC (id := 0) ?_; (refine se_box (by exact rfl) (by exact ⟨rfl, rfl⟩) ?_); (refine su (ap_assign (by exact rq_p rfl rfl)) ?_); refine asemC_end ?_) | (refine WP.regionC (id := 1) ?_; (refine su (ap_load_pw (by exact rq_p rfl rfl) (by exact rfl) (by exact rfl) (by exact rfl)) ?_); (refine sc_p rfl rfl (by repeat' first | exact SubL.nil | refine SubL.cons ?_ ?_ | exact Sub.refl) (by first | (simp [bdL, bdL_append, AV.bd]; done) | fail) (few_fn _ _) ?_); (refine su (ap_not (by exact rq_p rfl rfl)) ?_); refine asemC_end ?_) | (refine WP.regionC (id := 2) ?_; (refine sc_p rfl rfl (by repeat' (exact SubL.nil)) (by first | (simp [bdL, bdL_append, AV.bd]; done) | fail) (awake_fn) ?_); (refine su (ap_assign (by exact rq_p rfl rfl)) ?_); refine asemC_end ?_) | (refine WP.regionC (id := 3) ?_; (refine su (ap_load_pw (by exact rq_p rfl rfl) (by exact rfl) (by exact rfl) (by exact rfl)) ?_); (refine sc_p rfl rfl (by repeat' first | exact SubL.nil | refine SubL.cons ?_ ?_ | exact Sub.refl) (by first | (simp [bdL, bdL_append, AV.bd]; done) | fail) (reduce_fn _) ?_); (refine su (ap_move (by exact rq_p rfl rfl)) ?_); (refine su (ap_extract (by exact rq_p rfl rfl) (by exact rfl)) ?_); (refine su (ap_extract (by exact rq_p rfl rfl) (by exact rfl)) ?_); (refine su (ap_extract (by exact rq_p rfl rfl) (by exact rfl)) ?_); (refine se_alloc (by exact rfl) ?_); (refine se_store_b (by exact rfl) (by exact rfl) (by exact rfl) (by exact rfl) ?_); (refine su (ap_assign (by exact rq_p rfl rfl)) ?_); (refine su (ap_assign (by exact rq_p rfl rfl)) ?_); refine asemC_end ?_) | (refine WP.regionC (id := 4) ?_; (refine su (ap_move (by exact rq_p rfl rfl)) ?_); (refine su (ap_neq (by exact rq_p rfl rfl) (by exact rq_p rfl rfl)) ?_); refine asemC_end ?_) | (refine WP.regionC (id := 5) ?_; (refine sc_p rfl rfl (by repeat' (exact SubL.nil)) (by first | (simp [bdL, bdL_append, AV.bd]; done) | fail) (awake_fn) ?_); (refine su (ap_move (by exact rq_p rfl rfl)) ?_); (refine sg (by exact gq_vt rfl rfl) (fun he => ap_field_p (by exact rq_p rfl rfl) (by exact rfl) (by exact rfl)) ?_); (refine sg (by exact gq_vt rfl rfl) (fun he => ap_load_p (by exact rq_c rfl rfl) (by exact rfl) (by exact rfl) (by exact rfl)) ?_); (refine sg (by exact gq_vt rfl rfl) (fun he => ap_len_m (by exact rfl) (by exact rq_c rfl rfl)) ?_); (refine sg (by exact gq_vt rfl rfl) (fun he => ap_eql (by exact rq_c rfl rfl) (by exact rq_p rfl rfl)) ?_); (refine su (ap_and (by exact rq_p rfl rfl) (by exact rq_c rfl rfl)) ?_); (refine su (ap_assign (by exact rq_p rfl rfl)) ?_); refine asemC_end ?_) | exact ret_eq (by exact rfl) (by exact rfl) rfl | refine ret_b (by exact rfl) ?_))
  · rw [hno hc]; rfl
  have hc1 : (reduceR g).2.2 = 0 := hc
  have hv := reduce_val hc1
  have hn2 := hv.n2
  have hp := reduce_prod hc1
  have hu := reduce_used hc1
  have hpl := prodG_len (reduceR g).1
  have hul := usefulG_len (reduceR g).1 (yesB (reduceR g).1.nonterms.length)
  have hpa : ∀ i, i < (reduceR g).1.nonterms.length → nth (prodG (reduceR g).1) i = true := fun i hi => by rw [hp]; exact yesB_at hi
  have hua : ∀ i, i < (reduceR g).1.nonterms.length → nth (usefulG (reduceR g).1 (yesB (reduceR g).1.nonterms.length)) i = true := fun i hi => by rw [hu]; exact yesB_at hi
  clear hp hu
  (repeat' (first | refine WP.seq ?_ | refine WP.block ?_ | refine go_n ?_ | refine WP.skip ?_ | (refine wp_cond (by exact rfl) (fun hc => ?_) (fun hc => ?_) <;> (try simp only [decide_eq_true_eq, decide_eq_false_iff_not, Decidable.not_not, Bool.and_eq_true, Bool.or_eq_true, Bool.not_eq_true', Bool.not_eq_false', Bool.or_eq_false_iff, Bool.and_eq_false_iff, Int.not_lt, Int.not_le, reduceCtorEq, ne_eq, Bool.not_true, Bool.not_false, Bool.not_eq_true, Bool.not_eq_false] at hc) <;> (try (exfalso; omega))) | (refine wp_draw (id := 6) 6 mixed (by kernel_rfl) (by kernel_rfl) rfl ?_ <;> (refine rd_u (by exact rfl) (by exact rfl) (ap_load_pw (by exact rq_p rfl rfl) (by exact rfl) (by exact rfl) (by exact rfl)) ?_) <;> (refine rd_call rfl rfl (by repeat' first | exact SubL.nil | refine SubL.cons ?_ ?_ | exact Sub.refl) (by first | (simp [bdL, bdL_append, AV.bd]; done) | fail) (productive_an _ (by assumption)) ?_) <;> (refine rd_u (by exact rfl) (by exact rfl) (ap_load_pw (by exact rq_p rfl rfl) (by exact rfl) (by exact rfl) (by exact rfl)) ?_) <;> (refine rd_call rfl rfl (by repeat' first | exact SubL.nil | refine SubL.cons ?_ ?_ | exact Sub.refl) (by first | (simp [bdL, bdL_append, AV.bd]; done) | fail) (reachable_an _ (by assumption)) ?_) <;> (refine rd_u (by exact rfl) (by exact rfl) (ap_assign (by exact rq_p rfl rfl)) ?_) <;> (refine rd_u (by exact rfl) (by exact rfl) (ap_assign (by exact rq_p rfl rfl)) ?_) <;> (refine rd_end (by kernel_rfl) ?_)) | (refine WP.regionC (id := 7) ?_; (refine su (ap_move (by exact rq_p rfl rfl)) ?_); (refine su (ap_len_m (by exact rfl) (by exact rq_p rfl rfl)) ?_); (refine su (ap_field_p (by exact rq_p rfl rfl) (by exact rfl) (by exact rfl)) ?_); (refine su (ap_load_p (by exact rq_p rfl rfl) (by exact rfl) (by exact rfl) (by exact rfl)) ?_); (refine su (ap_len_m (by exact rfl) (by exact rq_p rfl rfl)) ?_); (refine su (ap_neq (by exact rq_p rfl rfl) (by exact rq_p rfl rfl)) ?_); (refine su (ap_move (by exact rq_p rfl rfl)) ?_); (refine sg (by exact gq_vf rfl rfl) (fun he => ap_move (by exact rq_p rfl rfl)) ?_); (refine sg (by exact gq_vf rfl rfl) (fun he => ap_len_m (by exact rfl) (by exact rq_c rfl rfl)) ?_); (refine sg (by exact gq_vf rfl rfl) (fun he => ap_field_p (by exact rq_p rfl rfl) (by exact rfl) (by exact rfl)) ?_); (refine sg (by exact gq_vf rfl rfl) (fun he => ap_load_p (by exact rq_c rfl rfl) (by exact rfl) (by exact rfl) (by exact rfl)) ?_); (refine sg (by exact gq_vf rfl rfl) (fun he => ap_len_m (by exact rfl) (by exact rq_c rfl rfl)) ?_); (refine sg (by exact gq_vf rfl rfl) (fun he => ap_neq (by exact rq_c rfl rfl) (by exact rq_c rfl rfl)) ?_); (refine su (ap_or (by exact rq_p rfl rfl) (by exact rq_c rfl rfl)) ?_); refine asemC_end ?_) | (refine WP.regionC (id := 9) ?_; (refine su (ap_assign (by exact rq_p rfl rfl)) ?_); refine asemC_end ?_)))
  refine wp_loop (fun (i : Nat) => i ≤ (reduceR g).1.nonterms.length) (fun i => (reduceR g).1.nonterms.length - i) (fun i => (S 65 [(6, boolsA (prodG (reduceR g).1)), (7, boolsA (usefulG (reduceR g).1 (yesB (reduceR g).1.nonterms.length))), (8, intA (i : Nat))] 0 [])) 0 ⟨[], ToR.S rfl (by repeat' (first | exact rt_nil | refine rt_e (by exact rfl) (by exact rfl) ?_ | refine rt_p (by exact rfl) (by exact rfl) (by first | (simp [AV.bd, bdL, bdL_append]; done) | fail) ?_)) (by repeat' (exact ro_nil)) (by decide) (by (rw [hm]; exact rfl)) (by exact rfl) (by (simp [bdT, AV.bd, bdL, bdL_append]; done)) (by repeat' (exact True.intro)) (by (rw [hm]; exact Nat.le_of_ble_eq_true rfl))⟩ (Nat.zero_le _) ?_
  rintro i hi
  by_cases hlt : i < (reduceR g).1.nonterms.length
  · have h1 := hpa i hlt
    have h2 := hua i hlt
    (repeat' (first | refine WP.seq ?_ | refine WP.block ?_ | refine go_n ?_ | refine WP.skip ?_ | refine WP.ret ?_ | refine go_r ?_ | refine bl_n ?_ | refine bl_r ?_ | refine bo_r ?_ | (refine wp_cond (by exact rfl) (fun hc => ?_) (fun hc => ?_) <;> (try simp only [decide_eq_true_eq, decide_eq_false_iff_not, Decidable.not_not, Bool.and_eq_true, Bool.or_eq_true, Bool.not_eq_true', Bool.not_eq_false', Bool.or_eq_false_iff, Bool.and_eq_false_iff, Int.not_lt, Int.not_le, reduceCtorEq, ne_eq, Bool.not_true, Bool.not_false, Bool.not_eq_true, Bool.not_eq_false] at hc) <;> (try (exfalso; omega))) | (refine WP.regionC (id := 10) ?_; (refine su (ap_move (by exact rq_p rfl rfl)) ?_); (refine su (ap_move (by exact rq_p rfl rfl)) ?_); (refine su (ap_len_m (by exact rfl) (by exact rq_p rfl rfl)) ?_); (refine su (ap_lss (by exact rq_p rfl rfl) (by exact rq_p rfl rfl)) ?_); refine asemC_end ?_) | (refine WP.regionC (id := 12) ?_; (refine su (ap_move (by exact rq_p rfl rfl)) ?_); (refine su (ap_move (by exact rq_p rfl rfl)) ?_); (refine su (ap_idx_n (by exact rq_p rfl rfl) (by exact rq_p rfl rfl) (by omega)) ?_); (refine su (ap_load_w (by exact rq_p rfl rfl) (by exact rfl)) ?_); (refine su (ap_not (by exact rq_p rfl rfl)) ?_); (refine su (ap_move (by exact rq_p rfl rfl)) ?_); (refine sg (by exact gq_vf rfl rfl) (fun he => ap_move (by exact rq_p rfl rfl)) ?_); (refine sg (by exact gq_vf rfl rfl) (fun he => ap_move (by exact rq_p rfl rfl)) ?_); (refine sg (by exact gq_vf rfl rfl) (fun he => ap_idx_n (by exact rq_c rfl rfl) (by exact rq_c rfl rfl) (by (try simp only [List.all_cons, List.all_append, List.all_nil, id, Bool.and_true, decide_eq_true_eq, decide_eq_false_iff_not, Decidable.not_not, Bool.and_eq_true, Bool.or_eq_true, Bool.not_eq_true', Bool.not_eq_false', Bool.or_eq_false_iff, Bool.and_eq_false_iff, Int.not_lt, Int.not_le, reduceCtorEq, ne_eq, Bool.not_true, Bool.not_false, Bool.not_eq_true, Bool.not_eq_false] at he); omega)) ?_); (refine sg (by exact gq_vf rfl rfl) (fun he => ap_load_w (by exact rq_c rfl rfl) (by exact rfl)) ?_); (refine sg (by exact gq_vf rfl rfl) (fun he => ap_not (by exact rq_c rfl rfl)) ?_); (refine su (ap_or (by exact rq_p rfl rfl) (by exact rq_c rfl rfl)) ?_); refine asemC_end ?_) | (refine WP.regionC (id := 13) ?_; (refine su (ap_assign (by exact rq_p rfl rfl)) ?_); refine asemC_end ?_) | (refine WP.regionC (id := 11) ?_; (refine su (ap_move (by exact rq_p rfl rfl)) ?_); (refine su (ap_add (by exact rq_p rfl rfl) (by exact rq_p rfl rfl) (by exact inr_i64_of (by omega))) ?_); (refine su (ap_assign (by exact rq_p rfl rfl)) ?_); refine asemC_end ?_) | refine ret_b (by exact rfl) ?_))
    · rcases hc with hc | hc
      · rw [h1] at hc; cases hc
      · rw [h2] at hc; cases hc
    · exact ⟨i + 1, ⟨by omega, by omega⟩, ⟨[], ToR.S rfl (by repeat' (first | exact rt_nil | refine rt_e (by exact rfl) (by exact rfl) ?_ | refine rt_p (by exact rfl) (by exact rfl) (by first | (simp [AV.bd, bdL, bdL_append]; done) | fail) ?_)) (by repeat' (exact ro_nil)) (by decide) (by (rw [hm]; exact rfl)) (by exact rfl) (by (simp [bdT, AV.bd, bdL, bdL_append]; done)) (by repeat' (exact True.intro)) (by (rw [hm]; exact Nat.le_of_ble_eq_true rfl))⟩⟩
  · (repeat' (first | refine WP.seq ?_ | refine go_n ?_ | refine WP.exit ?_ | refine WP.ret ?_ | refine go_x ?_ | refine bl_x ?_ | refine bo_r ?_ | (refine wp_cond (by exact rfl) (fun hc => ?_) (fun hc => ?_) <;> (try simp only [decide_eq_true_eq, decide_eq_false_iff_not, Decidable.not_not, Bool.and_eq_true, Bool.or_eq_true, Bool.not_eq_true', Bool.not_eq_false', Bool.or_eq_false_iff, Bool.and_eq_false_iff, Int.not_lt, Int.not_le, reduceCtorEq, ne_eq, Bool.not_true, Bool.not_false, Bool.not_eq_true, Bool.not_eq_false] at hc) <;> (try (exfalso; omega))) | (refine WP.regionC (id := 10) ?_; (refine su (ap_move (by exact rq_p rfl rfl)) ?_); (refine su (ap_move (by exact rq_p rfl rfl)) ?_); (refine su (ap_len_m (by exact rfl) (by exact rq_p rfl rfl)) ?_); (refine su (ap_lss (by exact rq_p rfl rfl) (by exact rq_p rfl rfl)) ?_); refine asemC_end ?_) | (refine WP.regionC (id := 14) ?_; (refine sc_p rfl rfl (by repeat' (exact SubL.nil)) (by first | (simp [bdL, bdL_append, AV.bd]; done) | fail) (awake_fn) ?_); (refine su (ap_assign (by exact rq_p rfl rfl)) ?_); refine asemC_end ?_) | exact ret_eq (by exact rfl) (by exact rfl) rfl))
end Go.Lg
