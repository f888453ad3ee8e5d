/-
  Part 20 of the proof of PrecedenceSameSentencesCard: the logic over the model, the functions' contracts and the plain laws.
-/
import Derived.Test.YtmgpndmmodkhhaaDoorPm19
import Derived.OrdersIn

set_option linter.unusedSimpArgs false
set_option linter.unusedVariables false
set_option linter.unusedSectionVars false
set_option linter.defProp false

namespace Go.Lg
open Go.RowKit
section
variable {P : Program} {Γ : Cx} {n M : Nat} {l : List (Nat × AV)} {os : List (Nat × Option AObj)} {Q : Exit → St → Prop}
end
end Go.Lg

namespace Go.Lg
open Go.RowKit
section
variable {P : Program} {Γ : Cx} {n M : Nat} {l : List (Nat × AV)} {os : List (Nat × Option AObj)} {Q : Exit → St → Prop}
end
end Go.Lg

namespace Go.Lg
open Go.Proofs
set_option linter.unusedSimpArgs false
set_option linter.unusedVariables false
attribute [local irreducible] Ap Rq asemC WP RunD Ret Gq thenA inBlockA bodyQ noGotoA RqL RqP OpP
set_option maxHeartbeats 4000000
set_option maxRecDepth 20000
attribute [local simp] AV.cells rdT
end Go.Lg

namespace Go.Lg
section
variable {g : Gram} {pr : List Bool}
end
end Go.Lg

namespace Go.Lg
def lvlTok (l : List GLe) : List ByteArray := (l.map (·.tokens)).flatten
def levOk (x : GLe) : Bool := decide (1 ≤ x.assoc) && decide (x.assoc ≤ 3) && decide (x.tokens.length ≠ 0)
def levsOk (l : List GLe) : Bool := l.all levOk && decide (lvlTok l).Nodup
def termI (g : Gram) (s : ByteArray) : Int := indexP (fun x => decide (x = s)) g.terms
def levelG (g : Gram) (l : List GLe) (t : Int) : Int := indexP (fun x : GLe => x.tokens.any fun n => decide (termI g n = t)) l
def selfB (r : Rul) : Bool := decide (r.body.length = 3) && decide (nth r.body 0 = -1 - r.head) && decide (nth r.body 2 = -1 - r.head) && decide (0 ≤ nth r.body 1)
def binL (g : Gram) (l : List GLe) (r : Rul) : Int := if selfB r then levelG g l (nth r.body 1) else -1
def noTok (g : Gram) (l : List GLe) : Bool := (lvlTok l).all fun s => decide (0 ≤ termI g s)
def sameOp (g : Gram) (l : List GLe) (r s : Rul) : Bool := decide (0 ≤ binL g l s) && decide (s.head = r.head) && decide (nth s.body 1 = nth r.body 1)
def conflG (g : Gram) (l : List GLe) (i : Nat) : Bool :=
  if 0 ≤ binL g l (nth g.rules i) then (g.rules.take i).any (sameOp g l (nth g.rules i)) else (nth g.rules i).body.any fun t => decide (0 ≤ t) && decide (0 ≤ levelG g l t)
def checkG (g : Gram) (l : List GLe) : Int := if validG g && levsOk l then (if noTok g l then (if (List.range g.rules.length).any (conflG g l) then 14 else 0) else 4) else 1
def useL (g : Gram) (l : List GLe) (e : Nat) : List Nat := (List.range l.length).filter fun (i : Nat) => g.rules.any fun r => decide (r.head = (e : Int)) && decide (binL g l r = (i : Int))
def offN (g : Gram) (l : List GLe) : Nat → Nat
  | 0 => g.nonterms.length
  | e + 1 => offN g l e + (useL g l e).length
def chnG (g : Gram) (l : List GLe) (e : Nat) : List Int := (e : Int) :: (List.range (useL g l e).length).map fun (i : Nat) => ((offN g l e + i : Nat) : Int)
def namG (g : Gram) (l : List GLe) (e : Nat) : List ByteArray := (List.range (useL g l e).length).map fun (i : Nat) => nth g.nonterms e ++ ⟨#[64]⟩ ++ tx (Lib.itoa ((i + 2 : Nat) : Int))
def namsG (g : Gram) (l : List GLe) (k : Nat) : List ByteArray := g.nonterms ++ ((List.range k).map (namG g l)).flatten
def lastC (g : Gram) (l : List GLe) (e : Nat) : Int := nth (chnG g l e) (useL g l e).length
def posU (g : Gram) (l : List GLe) (e : Nat) (b : Int) : Nat := (indexP (fun (i : Nat) => decide ((i : Int) = b)) (useL g l e)).toNat
def ruleS (g : Gram) (l : List GLe) (r : Rul) : Rul :=
  if 0 ≤ binL g l r then
    ⟨nth (chnG g l r.head.toNat) (posU g l r.head.toNat (binL g l r)),
      [-1 - nth (chnG g l r.head.toNat) (posU g l r.head.toNat (binL g l r) + if (nth l (binL g l r).toNat).assoc = 1 then 0 else 1), nth r.body 1,
        -1 - nth (chnG g l r.head.toNat) (posU g l r.head.toNat (binL g l r) + if (nth l (binL g l r).toNat).assoc = 2 then 0 else 1)], r.price⟩
  else ⟨lastC g l r.head.toNat, (List.range r.body.length).map fun k => if (k = 0 ∨ k + 1 = r.body.length) ∧ nth r.body k = -1 - r.head then -1 - lastC g l r.head.toNat else nth r.body k, r.price⟩
def unitS (g : Gram) (l : List GLe) (e : Nat) : List Rul := (List.range (useL g l e).length).map fun i => ⟨nth (chnG g l e) i, [-1 - nth (chnG g l e) (i + 1)], 0⟩
def unitsS (g : Gram) (l : List GLe) (k : Nat) : List Rul := ((List.range k).map (unitS g l)).flatten
def stratG (g : Gram) (l : List GLe) : Gram := ⟨g.terms, namsG g l g.nonterms.length, g.start, g.rules.map (ruleS g l) ++ unitsS g l g.nonterms.length⟩
def fromG (g : Gram) (l : List GLe) : List Int := (List.range g.rules.length).map (fun (i : Nat) => (i : Int)) ++ List.replicate (unitsS g l g.nonterms.length).length (-1)
def zG : Gram := ⟨[], [], 0, []⟩
def stratR (g : Gram) (l : List GLe) : Gram × List Int × Int :=
  if checkG g l = 0 then (if validG (stratG g l) then (stratG g l, fromG g l, 0) else (zG, [], 11)) else (zG, [], checkG g l)
section
variable (g : Gram) (l : List GLe)
theorem offN_le (e : Nat) : g.nonterms.length ≤ offN g l e := by
  induction e with
  | zero => exact Nat.le_refl _
  | succ e ih => rw [offN]; omega
theorem offN_mono {e f : Nat} (h : e < f) : offN g l e + (useL g l e).length ≤ offN g l f := by
  induction f with
  | zero => omega
  | succ f ih =>
    rcases Nat.lt_or_ge e f with h1 | h1
    · rw [offN]; have := ih h1; omega
    · obtain rfl : e = f := by omega
      rw [offN]; omega
theorem chnG_len (e : Nat) : (chnG g l e).length = (useL g l e).length + 1 := by simp [chnG]
theorem chnG_0 (e : Nat) : nth (chnG g l e) 0 = (e : Int) := rfl
theorem chnG_s {e i : Nat} (h : i < (useL g l e).length) : nth (chnG g l e) (i + 1) = ((offN g l e + i : Nat) : Int) := by
  unfold chnG
  rw [nth_eq (by simp; omega)]
  simp
theorem chnG_at {e i : Nat} (h : i ≤ (useL g l e).length) : nth (chnG g l e) i = if i = 0 then (e : Int) else ((offN g l e + (i - 1) : Nat) : Int) := by
  cases i with
  | zero => rfl
  | succ i => rw [chnG_s g l (by omega), if_neg (by omega)]; rfl
theorem mem_chn {e : Nat} {k : Int} : k ∈ chnG g l e ↔ k = (e : Int) ∨ ((offN g l e : Int) ≤ k ∧ k < ((offN g l e + (useL g l e).length : Nat) : Int)) := by
  simp only [chnG, List.mem_cons, List.mem_map, List.mem_range]
  constructor
  · rintro (h | ⟨i, hi, rfl⟩)
    · exact .inl h
    · exact .inr ⟨by omega, by omega⟩
  · rintro (h | ⟨h1, h2⟩)
    · exact .inl h
    · exact .inr ⟨(k - offN g l e).toNat, by omega, by omega⟩
theorem chn_uniq {e f : Nat} {k : Int} (he : e < g.nonterms.length) (hf : f < g.nonterms.length) (h1 : k ∈ chnG g l e) (h2 : k ∈ chnG g l f) : e = f := by
  rw [mem_chn] at h1 h2
  have a1 := offN_le g l e
  have a2 := offN_le g l f
  rcases Nat.lt_trichotomy e f with h | h | h
  · have := offN_mono g l h; omega
  · exact h
  · have := offN_mono g l h; omega
theorem namG_len (e : Nat) : (namG g l e).length = (useL g l e).length := by simp [namG]
theorem namsG_len (k : Nat) : (namsG g l k).length = offN g l k := by
  induction k with
  | zero => simp [namsG, offN]
  | succ k ih =>
    simp only [namsG, List.length_append] at ih
    simp only [namsG, List.range_succ, List.map_append, List.map_cons, List.map_nil, List.flatten_append, List.flatten_cons, List.flatten_nil, List.append_nil, List.length_append, namG_len, offN]
    omega
theorem namsG_succ (k : Nat) : namsG g l (k + 1) = namsG g l k ++ namG g l k := by
  simp [namsG, List.range_succ]
theorem unitS_len (e : Nat) : (unitS g l e).length = (useL g l e).length := by simp [unitS]
theorem unitsS_succ (k : Nat) : unitsS g l (k + 1) = unitsS g l k ++ unitS g l k := by
  simp [unitsS, List.range_succ]
theorem useL_lt {e i : Nat} (h : i ∈ useL g l e) : i < l.length := by
  simp only [useL, List.mem_filter, List.mem_range] at h; exact h.1
theorem useL_len (e : Nat) : (useL g l e).length ≤ l.length := by
  have := List.length_filter_le (fun (i : Nat) => g.rules.any fun r => decide (r.head = (e : Int)) && decide (binL g l r = (i : Int))) (List.range l.length)
  simpa [useL] using this
theorem lastC_mem (e : Nat) : lastC g l e ∈ chnG g l e := nth_mem (by rw [chnG_len]; omega)
theorem levelG_lt (t : Int) : -1 ≤ levelG g l t ∧ levelG g l t < l.length := indexP_lt _ _
theorem binL_lt (r : Rul) : -1 ≤ binL g l r ∧ binL g l r < l.length := by
  unfold binL
  split
  · exact levelG_lt g l _
  · omega
theorem bin_used {r : Rul} (hr : r ∈ g.rules) (h0 : 0 ≤ r.head) (hb : 0 ≤ binL g l r) : (binL g l r).toNat ∈ useL g l r.head.toNat := by
  have := binL_lt g l r
  simp only [useL, List.mem_filter, List.mem_range, List.any_eq_true, Bool.and_eq_true, decide_eq_true_eq]
  exact ⟨by omega, r, hr, by omega, by omega⟩
theorem posU_is {e i : Nat} (h : i ∈ useL g l e) : posU g l e (i : Int) < (useL g l e).length ∧ nth (useL g l e) (posU g l e (i : Int)) = i := by
  obtain ⟨j, hj, e1⟩ := List.getElem_of_mem h
  have hex : ∃ k : Nat, k < (useL g l e).length ∧ indexP (fun (x : Nat) => decide ((x : Int) = (i : Int))) (useL g l e) = k ∧ nth (useL g l e) k = i := by
    have h1 := indexP_lt (fun (x : Nat) => decide ((x : Int) = (i : Int))) (useL g l e)
    have h2 : ∀ k : Nat, k < (useL g l e).length → (∀ m, m < k → nth (useL g l e) m ≠ i) → nth (useL g l e) k = i → indexP (fun (x : Nat) => decide ((x : Int) = (i : Int))) (useL g l e) = k := fun k hk hm hq =>
      indexP_is hk (by simp [hq]) fun m hmk => decide_eq_false fun h => hm m hmk (by omega)
    have hfirst : ∀ n, n ≤ (useL g l e).length → (∃ k, k < n ∧ nth (useL g l e) k = i) → ∃ k, k < n ∧ nth (useL g l e) k = i ∧ ∀ m, m < k → nth (useL g l e) m ≠ i := by
      intro n
      induction n with
      | zero => rintro _ ⟨k, hk, _⟩; omega
      | succ n ih =>
        rintro hn ⟨k, hk, hq⟩
        by_cases hex : ∃ k, k < n ∧ nth (useL g l e) k = i
        · obtain ⟨k', a, b, c⟩ := ih (by omega) hex
          exact ⟨k', by omega, b, c⟩
        · refine ⟨k, hk, hq, fun m hm hmi => hex ⟨m, by omega, hmi⟩⟩
    obtain ⟨k, a, b, c⟩ := hfirst _ (Nat.le_refl _) ⟨j, hj, by rw [nth_eq hj]; exact e1⟩
    exact ⟨k, a, h2 k a c b, b⟩
  obtain ⟨k, a, b, c⟩ := hex
  unfold posU
  rw [b, Int.toNat_natCast]
  exact ⟨a, c⟩
end
end Go.Lg

namespace Go.Lg
open Go.Proofs
set_option linter.unusedSimpArgs false
set_option linter.unusedVariables false
attribute [local irreducible] Ap Rq asemC WP RunD Ret Gq thenA inBlockA bodyQ noGotoA RqL RqP OpP
set_option maxHeartbeats 4000000
set_option maxRecDepth 20000
attribute [local simp] AV.cells
end Go.Lg

namespace Go.Lg
open Go.Proofs
set_option linter.unusedSimpArgs false
set_option linter.unusedVariables false
attribute [local irreducible] Ap Rq asemC WP RunD Ret Gq thenA inBlockA bodyQ noGotoA RqL RqP OpP
set_option maxHeartbeats 4000000
set_option maxRecDepth 20000
attribute [local simp] AV.cells
end Go.Lg

namespace Go.Lg
open Go.Proofs
set_option linter.unusedSimpArgs false
set_option linter.unusedVariables false
attribute [local irreducible] Ap Rq asemC WP RunD Ret Gq thenA inBlockA bodyQ noGotoA RqL RqP OpP
set_option maxHeartbeats 4000000
set_option maxRecDepth 20000
attribute [local simp] AV.cells
end Go.Lg

namespace Go.Lg
open Go.Proofs
set_option linter.unusedSimpArgs false
set_option linter.unusedVariables false
attribute [local irreducible] Ap Rq asemC WP RunD Ret Gq thenA inBlockA bodyQ noGotoA RqL RqP OpP
set_option maxHeartbeats 4000000
set_option maxRecDepth 20000
attribute [local simp] AV.cells
end Go.Lg

namespace Go.Lg
open Go.Proofs
set_option linter.unusedSimpArgs false
set_option linter.unusedVariables false
attribute [local irreducible] Ap Rq asemC WP RunD Ret Gq thenA inBlockA bodyQ noGotoA RqL RqP OpP
set_option maxHeartbeats 4000000
set_option maxRecDepth 20000
attribute [local simp] AV.cells
mutual
def leftT : Tre → Int → Int → Int
  | .mk _ _ l, lev, m => if 60 < lev ∨ m ≤ 0 then -1 else leftTL l lev (m - 1)
def leftTL : List Tre → Int → Int → Int
  | [], _, m => m
  | t :: l, lev, m => if 0 ≤ m then leftTL l lev (leftT t (lev + 1) m) else m
end
end Go.Lg

namespace Go.Lg
open Go.Proofs
set_option linter.unusedSimpArgs false
set_option linter.unusedVariables false
attribute [local irreducible] Ap Rq asemC WP RunD Ret Gq thenA inBlockA bodyQ noGotoA RqL RqP OpP
set_option maxHeartbeats 4000000
set_option maxRecDepth 20000
attribute [local simp] AV.cells
mutual
def lfT (n : Nat) : Tre → Bool
  | .mk r _ l => if r < 0 then decide (r = -1) && decide (l.length = 0) else decide (r < n) && lfTL n l
def lfTL (n : Nat) : List Tre → Bool
  | [] => true
  | t :: l => lfT n t && lfTL n l
end
end Go.Lg

namespace Go.Lg
mutual
def liftT (fr : List Int) : Tre → List Tre
  | .mk r t l => if r = -1 then [.mk r t l] else if nth fr r.toNat = -1 then liftTL fr l else [.mk (nth fr r.toNat) 0 (liftTL fr l)]
def liftTL (fr : List Int) : List Tre → List Tre
  | [] => []
  | t :: l => liftT fr t ++ liftTL fr l
end
end Go.Lg

namespace Go.Lg
def relS (g : Gram) (l : List GLe) (y' y : Int) : Prop := (0 ≤ y ∧ y' = y) ∨ (y < 0 ∧ (-1 - y).toNat < g.nonterms.length ∧ (-1 - y') ∈ chnG g l (-1 - y).toNat)
section
variable {g : Gram} {l : List GLe}
theorem relS_self {y : Int} (h : -(g.nonterms.length : Int) ≤ y) : relS g l y y := by
  by_cases hy : 0 ≤ y
  · exact .inl ⟨hy, rfl⟩
  · refine .inr ⟨by omega, by omega, ?_⟩
    rw [mem_chn]; left; omega
theorem chn_at_mem {e i : Nat} (h : i ≤ (useL g l e).length) : nth (chnG g l e) i ∈ chnG g l e := nth_mem (by rw [chnG_len]; omega)
theorem selfB_iff {r : Rul} : selfB r = true ↔ r.body.length = 3 ∧ nth r.body 0 = -1 - r.head ∧ nth r.body 2 = -1 - r.head ∧ 0 ≤ nth r.body 1 := by
  simp only [selfB, Bool.and_eq_true, decide_eq_true_eq, and_assoc]
theorem bin_self {r : Rul} (h : 0 ≤ binL g l r) : selfB r = true ∧ binL g l r = levelG g l (nth r.body 1) := by
  unfold binL at h ⊢
  split
  · rename_i h1; exact ⟨h1, rfl⟩
  · rename_i h1; rw [if_neg h1] at h; omega
theorem ruleS_fit (hv : GVal g) {r : Rul} (hr : r ∈ g.rules) : (ruleS g l r).head ∈ chnG g l r.head.toNat ∧ (ruleS g l r).price = r.price ∧ (ruleS g l r).body.length = r.body.length ∧
    ∀ j, j < r.body.length → relS g l (nth (ruleS g l r).body j) (nth r.body j) := by
  have hf := hv.rule r hr
  have h0 := hf.h0
  have hn := hf.hn
  have hself : ∀ i, i ≤ (useL g l r.head.toNat).length → relS g l (-1 - nth (chnG g l r.head.toNat) i) (-1 - r.head) := fun i hi => by
    refine .inr ⟨by omega, by omega, ?_⟩
    rw [show (-1 - (-1 - r.head)).toNat = r.head.toNat by omega, show -1 - (-1 - nth (chnG g l r.head.toNat) i) = nth (chnG g l r.head.toNat) i by omega]
    exact chn_at_mem hi
  by_cases hb : 0 ≤ binL g l r
  · obtain ⟨hs, _⟩ := bin_self hb
    obtain ⟨s1, s2, s3, s4⟩ := selfB_iff.1 hs
    have hu := posU_is g l (bin_used g l hr h0 hb)
    rw [Int.toNat_of_nonneg hb] at hu
    have hu := hu.1
    unfold ruleS
    rw [if_pos hb]
    refine ⟨chn_at_mem (by omega), rfl, by simp [s1], ?_⟩
    intro j hj
    match j, hj with
    | 0, _ => rw [s2]; exact hself _ (by split <;> omega)
    | 1, _ => exact .inl ⟨s4, rfl⟩
    | 2, _ => rw [s3]; exact hself _ (by split <;> omega)
    | j + 3, hj => omega
  · unfold ruleS
    rw [if_neg hb]
    refine ⟨lastC_mem g l _, rfl, by simp, ?_⟩
    intro j hj
    rw [nth_range hj]
    split
    · rename_i hc
      rw [hc.2]
      exact hself _ (Nat.le_refl _)
    · exact relS_self (hf.lo _ (nth_mem hj))
theorem mem_unitsS {r : Rul} {k : Nat} (h : r ∈ unitsS g l k) : ∃ e i, e < k ∧ i < (useL g l e).length ∧ r = ⟨nth (chnG g l e) i, [-1 - nth (chnG g l e) (i + 1)], 0⟩ := by
  simp only [unitsS, unitS, List.mem_flatten, List.mem_map, List.mem_range] at h
  obtain ⟨q, ⟨e, he, rfl⟩, hq⟩ := h
  obtain ⟨i, hi, rfl⟩ := List.mem_map.1 hq
  exact ⟨e, i, he, by simpa using hi, rfl⟩
theorem strat_old {i : Nat} (h : i < g.rules.length) : nth (stratG g l).rules i = ruleS g l (nth g.rules i) := by
  unfold stratG
  simp only
  rw [nth_append, if_pos (by simpa using h), nth_mapP h]
theorem strat_unit {i : Nat} (h1 : g.rules.length ≤ i) (h2 : i < (stratG g l).rules.length) : ∃ e j, e < g.nonterms.length ∧ j < (useL g l e).length ∧ nth (stratG g l).rules i = ⟨nth (chnG g l e) j, [-1 - nth (chnG g l e) (j + 1)], 0⟩ := by
  have h3 : nth (stratG g l).rules i ∈ unitsS g l g.nonterms.length := by
    unfold stratG at h2 ⊢
    simp only [List.length_append, List.length_map] at h2 ⊢
    rw [nth_append, if_neg (by simp; omega)]
    exact nth_mem (by simp; omega)
  exact mem_unitsS h3
end
end Go.Lg

namespace Go.Lg
def bdyP (R : Nat → Nat → Nat → Prop) (s : List Int) : List Int → Nat → Nat → Prop
  | [], i, k => i = k
  | x :: xs, i, k => (0 ≤ x ∧ i < k ∧ nth s i = x ∧ bdyP R s xs (i + 1) k) ∨ (x < 0 ∧ ∃ m, i ≤ m ∧ m ≤ k ∧ R (-1 - x).toNat i m ∧ bdyP R s xs m k)
theorem bdyP.mono {R R' : Nat → Nat → Nat → Prop} {s : List Int} : ∀ {l : List Int} {i k : Nat}, (∀ x, x ∈ l → x < 0 → ∀ a b, R (-1 - x).toNat a b → R' (-1 - x).toNat a b) → bdyP R s l i k → bdyP R' s l i k
  | [], _, _, _, h => h
  | x :: xs, i, k, hr, h => by
    rcases h with ⟨h1, h2, h3, h4⟩ | ⟨h1, m, h2, h3, h4, h5⟩
    · exact .inl ⟨h1, h2, h3, h4.mono fun y hy => hr y (by simp [hy])⟩
    · exact .inr ⟨h1, m, h2, h3, hr x (by simp) h1 _ _ h4, h5.mono fun y hy => hr y (by simp [hy])⟩
def bdyT (T : Nat → Nat → Nat → Bool) (s : List Int) : List Int → Nat → Nat → Bool
  | [], i, k => decide (i = k)
  | x :: xs, i, k => if 0 ≤ x then decide (i < k) && (decide (nth s i = x) && bdyT T s xs (i + 1) k) else (List.range (k + 1 - i)).any fun d => T (-1 - x).toNat i (i + d) && bdyT T s xs (i + d) k
theorem bdyT_iff {T : Nat → Nat → Nat → Bool} {s : List Int} : ∀ {l : List Int} {i k : Nat}, bdyT T s l i k = true ↔ bdyP (fun a b c => T a b c = true) s l i k
  | [], i, k => by simp [bdyT, bdyP]
  | x :: xs, i, k => by
    simp only [bdyT, bdyP]
    by_cases hx : 0 ≤ x
    · have hn : ¬ x < 0 := by omega
      simp [hx, hn, bdyT_iff (l := xs)]
    · rw [if_neg hx]
      have hn : x < 0 := by omega
      simp only [hx, hn, false_and, true_and, false_or, List.any_eq_true, List.mem_range, Bool.and_eq_true, bdyT_iff (l := xs)]
      constructor
      · rintro ⟨d, h1, h2, h3⟩; exact ⟨i + d, by omega, by omega, h2, h3⟩
      · rintro ⟨m, h1, h2, h3, h4⟩
        obtain ⟨d, rfl⟩ : ∃ d, m = i + d := ⟨m - i, by omega⟩
        exact ⟨d, by omega, h3, h4⟩
def Clo (g : Gram) (s : List Int) (R : Nat → Nat → Nat → Prop) : Prop := ∀ r, r ∈ g.rules → ∀ i k, i ≤ k → k ≤ s.length → bdyP R s r.body i k → R r.head.toNat i k
def Der (g : Gram) (s : List Int) (a i k : Nat) : Prop := ∀ R, Clo g s R → R a i k
theorem Der.clo (g : Gram) (s : List Int) : Clo g s (Der g s) := fun r hr i k hi hk hb R hR => hR r hr i k hi hk (hb.mono fun x _ _ a b h => h R hR)
def tix (m a b c : Nat) : Nat := (a * m + b) * m + c
theorem tix_lt {n m a b c : Nat} (ha : a < n) (hb : b < m) (hc : c < m) : tix m a b c < n * m * m := by
  unfold tix
  have h1 : a * m + b + 1 ≤ n * m := by
    have := Nat.mul_le_mul_right m (show a + 1 ≤ n from ha)
    rw [Nat.add_mul] at this; omega
  have h2 := Nat.mul_le_mul_right m h1
  rw [Nat.add_mul] at h2; omega
theorem pair_inj {m a b a' b' : Nat} (hb : b < m) (hb' : b' < m) (h : a * m + b = a' * m + b') : a = a' ∧ b = b' := by
  have h1 : (a * m + b) / m = a := by rw [Nat.mul_comm, Nat.mul_add_div (by omega), Nat.div_eq_of_lt hb]; omega
  have h2 : (a' * m + b') / m = a' := by rw [Nat.mul_comm, Nat.mul_add_div (by omega), Nat.div_eq_of_lt hb']; omega
  have : a = a' := by rw [← h1, h, h2]
  subst this; exact ⟨rfl, by omega⟩
theorem tix_inj {m a b c a' b' c' : Nat} (hb : b < m) (hc : c < m) (hb' : b' < m) (hc' : c' < m) (h : tix m a b c = tix m a' b' c') : a = a' ∧ b = b' ∧ c = c' := by
  unfold tix at h
  obtain ⟨h1, h2⟩ := pair_inj hc hc' h
  obtain ⟨h3, h4⟩ := pair_inj hb hb' h1
  exact ⟨h3, h4, h2⟩
def tb (m : Nat) (t : List Bool) (a b c : Nat) : Bool := nth t (tix m a b c)
theorem tb_set {n m : Nat} {t : List Bool} (ht : t.length = n * m * m) {a b c a' b' c' : Nat} (ha : a < n) (hb : b < m) (hc : c < m) (hb' : b' < m) (hc' : c' < m) :
    tb m (t.set (tix m a b c) true) a' b' c' = if a = a' ∧ b = b' ∧ c = c' then true else tb m t a' b' c' := by
  unfold tb
  rw [nth_set (by rw [ht]; exact tix_lt ha hb hc)]
  by_cases h : tix m a b c = tix m a' b' c'
  · rw [if_pos h, if_pos (tix_inj hb hc hb' hc' h)]
  · rw [if_neg h, if_neg]; rintro ⟨rfl, rfl, rfl⟩; exact h rfl
def UnderD (g : Gram) (s : List Int) (t : List Bool) : Prop := t.length = g.nonterms.length * (s.length + 1) * (s.length + 1) ∧ ∀ a b c, a < g.nonterms.length → b < s.length + 1 → c < s.length + 1 → tb (s.length + 1) t a b c = true → Der g s a b c
open Classical in
noncomputable def derL (g : Gram) (s : List Int) : List Bool := (List.range (g.nonterms.length * (s.length + 1) * (s.length + 1))).map fun j => decide (Der g s (j / (s.length + 1) / (s.length + 1)) (j / (s.length + 1) % (s.length + 1)) (j % (s.length + 1)))
theorem tix_div {m a b c : Nat} (hb : b < m) (hc : c < m) : tix m a b c / m / m = a ∧ tix m a b c / m % m = b ∧ tix m a b c % m = c := by
  have e1 : tix m a b c / m = a * m + b := by unfold tix; rw [Nat.mul_comm (a * m + b), Nat.mul_add_div (by omega), Nat.div_eq_of_lt hc]; omega
  rw [e1]
  refine ⟨?_, ?_, ?_⟩
  · rw [Nat.mul_comm, Nat.mul_add_div (by omega), Nat.div_eq_of_lt hb]; omega
  · rw [Nat.mul_add_mod_self_right, Nat.mod_eq_of_lt hb]
  · unfold tix; rw [Nat.mul_add_mod_self_right, Nat.mod_eq_of_lt hc]
theorem derL_len (g : Gram) (s : List Int) : (derL g s).length = g.nonterms.length * (s.length + 1) * (s.length + 1) := by simp [derL]
theorem derL_at {g : Gram} {s : List Int} {a b c : Nat} (ha : a < g.nonterms.length) (hb : b < s.length + 1) (hc : c < s.length + 1) : tb (s.length + 1) (derL g s) a b c = true ↔ Der g s a b c := by
  unfold tb derL
  rw [nth_range (tix_lt ha hb hc)]
  obtain ⟨h1, h2, h3⟩ := tix_div (a := a) hb hc
  rw [h1, h2, h3]; simp
theorem tix_cov {n m j : Nat} (hm : 0 < m) (h : j < n * m * m) : ∃ a b c, a < n ∧ b < m ∧ c < m ∧ j = tix m a b c := by
  refine ⟨j / m / m, j / m % m, j % m, ?_, Nat.mod_lt _ hm, Nat.mod_lt _ hm, ?_⟩
  · rw [Nat.div_div_eq_div_mul, Nat.div_lt_iff_lt_mul (Nat.mul_pos hm hm), ← Nat.mul_assoc]; exact h
  · unfold tix; rw [Nat.mul_comm (j / m / m), Nat.div_add_mod, Nat.mul_comm (j / m), Nat.div_add_mod]
theorem tb_ext {n m : Nat} (hm : 0 < m) {t u : List Bool} (ht : t.length = n * m * m) (hu : u.length = n * m * m) (h : ∀ a b c, a < n → b < m → c < m → (tb m t a b c = true ↔ tb m u a b c = true)) : t = u := by
  refine nth_ext (by rw [ht, hu]) fun j hj => ?_
  obtain ⟨a, b, c, ha, hb, hc, rfl⟩ := tix_cov hm (by rw [← ht]; exact hj)
  have := h a b c ha hb hc
  unfold tb at this
  exact Bool.eq_iff_iff.2 this
def CloT (g : Gram) (s : List Int) (t : List Bool) (r : Rul) : Prop := ∀ i k, i ≤ k → k ≤ s.length → bdyT (tb (s.length + 1) t) s r.body i k = true → tb (s.length + 1) t r.head.toNat i k = true
theorem bdyP_in {g : Gram} {s : List Int} {R : Nat → Nat → Nat → Prop} {t : List Bool} (hR : ∀ a b c, a < g.nonterms.length → b ≤ c → c < s.length + 1 → R a b c → tb (s.length + 1) t a b c = true) : ∀ {l : List Int} {i k : Nat}, (∀ x, x ∈ l → -(g.nonterms.length : Int) ≤ x) → k ≤ s.length → i ≤ k →
    bdyP R s l i k → bdyP (fun a b c => tb (s.length + 1) t a b c = true) s l i k
  | [], _, _, _, _, _, h => h
  | x :: xs, i, k, hl, hk, hi, h => by
    rcases h with ⟨h1, h2, h3, h4⟩ | ⟨h1, m, h2, h3, h4, h5⟩
    · exact .inl ⟨h1, h2, h3, bdyP_in hR (fun y hy => hl y (by simp [hy])) hk (by omega) h4⟩
    · exact .inr ⟨h1, m, h2, h3, hR _ _ _ (by have := hl x (by simp); omega) h2 (by omega) h4, bdyP_in hR (fun y hy => hl y (by simp [hy])) hk (by omega) h5⟩
theorem UnderD.eq {g : Gram} {s : List Int} {t : List Bool} (hv : GVal g) (h : UnderD g s t) (hc : ∀ r, r ∈ g.rules → CloT g s t r) : t = derL g s := by
  refine tb_ext (by omega) h.1 (derL_len g s) fun a b c ha hb hcc => ?_
  rw [derL_at ha hb hcc]
  refine ⟨h.2 a b c ha hb hcc, fun hd => ?_⟩
  have := hd (fun a b c => a < g.nonterms.length → b ≤ c → c < s.length + 1 → tb (s.length + 1) t a b c = true) fun r hr i k hi hk hb _ _ _ => ?_
  · exact hd (fun a b c => a < g.nonterms.length → c < s.length + 1 → tb (s.length + 1) t a b c = true) (fun r hr i k hi hk hb _ _ => by
      refine hc r hr i k hi hk (bdyT_iff.2 ?_)
      exact bdyP_in (fun a b c h1 _ h3 h4 => h4 h1 h3) (fun x hx => (hv.rule r hr).lo x hx) hk hi hb) ha hcc
  · refine hc r hr i k hi hk (bdyT_iff.2 (bdyP_in (fun a b c h1 h2 h3 h4 => h4 h1 h2 h3) (fun x hx => (hv.rule r hr).lo x hx) hk hi hb))
theorem UnderD.set {g : Gram} {s : List Int} {t : List Bool} (hv : GVal g) (h : UnderD g s t) {r : Rul} (hr : r ∈ g.rules) {i k : Nat} (hi : i ≤ k) (hk : k ≤ s.length) (hb : bdyT (tb (s.length + 1) t) s r.body i k = true) : UnderD g s (t.set (tix (s.length + 1) r.head.toNat i k) true) := by
  have hh : r.head.toNat < g.nonterms.length := by have h1 := (hv.rule r hr).h0; have h2 := (hv.rule r hr).hn; omega
  refine ⟨by rw [List.length_set]; exact h.1, fun a b c ha hb' hc ht => ?_⟩
  rw [tb_set h.1 hh (by omega) (by omega) hb' hc] at ht
  split at ht
  · rename_i e
    obtain ⟨rfl, rfl, rfl⟩ := e
    refine Der.clo g s r hr i k hi hk ?_
    have key : ∀ {l : List Int} {i : Nat}, (∀ x, x ∈ l → -(g.nonterms.length : Int) ≤ x) → i ≤ k → bdyP (fun a b c => tb (s.length + 1) t a b c = true) s l i k → bdyP (Der g s) s l i k := by
      intro l
      induction l with
      | nil => intro i _ _ h; exact h
      | cons x xs ih =>
        intro i hl hi h'
        rcases h' with ⟨h1, h2, h3, h4⟩ | ⟨h1, m, h2, h3, h4, h5⟩
        · exact .inl ⟨h1, h2, h3, ih (fun y hy => hl y (by simp [hy])) (by omega) h4⟩
        · exact .inr ⟨h1, m, h2, h3, h.2 _ _ _ (by have := hl x (by simp); omega) (by omega) (by omega) h4, ih (fun y hy => hl y (by simp [hy])) (by omega) h5⟩
    exact key (fun x hx => (hv.rule r hr).lo x hx) hi (bdyT_iff.1 hb)
  · exact h.2 a b c ha hb' hc ht
theorem UnderD.init (g : Gram) (s : List Int) : UnderD g s (List.replicate (g.nonterms.length * (s.length + 1) * (s.length + 1)) false) := ⟨by simp, fun a b c ha hb hc h => by
  unfold tb at h; rw [nth_replicate (tix_lt ha hb hc)] at h; cases h⟩
end Go.Lg

namespace Go.Lg
theorem Der.le {g : Gram} {s : List Int} {a i k : Nat} (h : Der g s a i k) : i ≤ k ∧ k ≤ s.length := h (fun _ i k => i ≤ k ∧ k ≤ s.length) fun _ _ _ _ hi hk _ => ⟨hi, hk⟩
theorem bdyP_le {R : Nat → Nat → Nat → Prop} {s : List Int} : ∀ {l : List Int} {i k : Nat}, bdyP R s l i k → i ≤ k
  | [], _, _, h => Nat.le_of_eq h
  | _ :: _, _, _, h => by
    rcases h with ⟨_, h2, _, h4⟩ | ⟨_, m, h2, h3, _, h5⟩
    · have := bdyP_le h4; omega
    · omega
section
variable {g : Gram} {l : List GLe} {s : List Int}
def opAt (g : Gram) (l : List GLe) (e c : Nat) (x : Int) : Prop := ∃ r, r ∈ g.rules ∧ r.head = (e : Int) ∧ 0 ≤ binL g l r ∧ nth r.body 1 = x ∧ posU g l e (binL g l r) = c
theorem op_rule {e c : Nat} {x : Int} (h : opAt g l e c x) : c < (useL g l e).length ∧ 0 ≤ x ∧ nth (useL g l e) c < l.length ∧ ∃ p,
    (⟨nth (chnG g l e) c, [-1 - nth (chnG g l e) (c + if (nth l (nth (useL g l e) c)).assoc = 1 then 0 else 1), x, -1 - nth (chnG g l e) (c + if (nth l (nth (useL g l e) c)).assoc = 2 then 0 else 1)], p⟩ : Rul) ∈ (stratG g l).rules := by
  obtain ⟨r, hr, hh, hb, hx, hc⟩ := h
  obtain ⟨hs, _⟩ := bin_self hb
  obtain ⟨_, _, _, s4⟩ := selfB_iff.1 hs
  have hu := bin_used g l hr (by omega) hb
  have he : r.head.toNat = e := by omega
  rw [he] at hu
  have hp := posU_is g l hu
  rw [Int.toNat_of_nonneg hb, hc] at hp
  refine ⟨hp.1, by omega, by rw [hp.2]; exact useL_lt g l hu, r.price, ?_⟩
  have hm : ruleS g l r ∈ (stratG g l).rules := by
    unfold stratG
    exact List.mem_append_left _ (List.mem_map_of_mem hr)
  have e1 : ruleS g l r = ⟨nth (chnG g l e) c, [-1 - nth (chnG g l e) (c + if (nth l (nth (useL g l e) c)).assoc = 1 then 0 else 1), x, -1 - nth (chnG g l e) (c + if (nth l (nth (useL g l e) c)).assoc = 2 then 0 else 1)], r.price⟩ := by
    unfold ruleS
    rw [if_pos hb, he, hc, hp.2, hx]
  rw [e1] at hm
  exact hm
theorem unit_rule {e c : Nat} (he : e < g.nonterms.length) (hc : c < (useL g l e).length) : (⟨nth (chnG g l e) c, [-1 - nth (chnG g l e) (c + 1)], 0⟩ : Rul) ∈ (stratG g l).rules := by
  unfold stratG
  refine List.mem_append_right _ ?_
  unfold unitsS
  rw [List.mem_flatten]
  exact ⟨unitS g l e, List.mem_map.2 ⟨e, List.mem_range.2 he, rfl⟩, List.mem_map.2 ⟨c, List.mem_range.2 hc, rfl⟩⟩
theorem chn_nn {e c : Nat} (h : c ≤ (useL g l e).length) : 0 ≤ nth (chnG g l e) c := by
  rw [chnG_at g l h]; split <;> omega
def DC (g : Gram) (l : List GLe) (s : List Int) (e c i k : Nat) : Prop := Der (stratG g l) s (nth (chnG g l e) c).toNat i k
theorem DC.unit {e c i k : Nat} (he : e < g.nonterms.length) (hc : c < (useL g l e).length) (h : DC g l s e (c + 1) i k) : DC g l s e c i k := by
  have hl := Der.le h
  refine Der.clo (stratG g l) s _ (unit_rule he hc) i k hl.1 hl.2 ?_
  have hn := chn_nn (g := g) (l := l) (e := e) (c := c + 1) (by omega)
  refine .inr ⟨by omega, k, hl.1, Nat.le_refl _, ?_, rfl⟩
  rw [show ∀ z : Int, -1 - (-1 - z) = z by omega]
  exact h
theorem DC.bin {e c i m k : Nat} (ho : opAt g l e c (nth s m)) (hm : m < k)
    (h1 : DC g l s e (c + if (nth l (nth (useL g l e) c)).assoc = 1 then 0 else 1) i m) (h2 : DC g l s e (c + if (nth l (nth (useL g l e) c)).assoc = 2 then 0 else 1) (m + 1) k) : DC g l s e c i k := by
  obtain ⟨q1, q2, q3, p, q4⟩ := op_rule ho
  have l1 := Der.le h1
  have l2 := Der.le h2
  have n1 := chn_nn (g := g) (l := l) (e := e) (c := c + if (nth l (nth (useL g l e) c)).assoc = 1 then 0 else 1) (by split <;> omega)
  have n2 := chn_nn (g := g) (l := l) (e := e) (c := c + if (nth l (nth (useL g l e) c)).assoc = 2 then 0 else 1) (by split <;> omega)
  refine Der.clo (stratG g l) s _ q4 i k (by omega) l2.2 ?_
  refine .inr ⟨by omega, m, l1.1, by omega, ?_, .inl ⟨q2, hm, rfl, .inr ⟨by omega, k, l2.1, Nat.le_refl _, ?_, rfl⟩⟩⟩
  · rw [show ∀ z : Int, -1 - (-1 - z) = z by omega]; exact h1
  · rw [show ∀ z : Int, -1 - (-1 - z) = z by omega]; exact h2
inductive SeqL (g : Gram) (l : List GLe) (s : List Int) (e c : Nat) : Nat → Nat → Prop
  | one {i k : Nat} (h : DC g l s e (useL g l e).length i k) : SeqL g l s e c i k
  | cons {i m k c' : Nat} (h : DC g l s e (useL g l e).length i m) (hm : m < k) (hc : c ≤ c') (ho : opAt g l e c' (nth s m)) (hs : SeqL g l s e c (m + 1) k) : SeqL g l s e c i k
theorem SeqL.le {e c i k : Nat} (h : SeqL g l s e c i k) : i ≤ k ∧ k ≤ s.length := by
  induction h with
  | one h => exact Der.le h
  | cons h hm _ _ _ ih => have := Der.le h; omega
theorem SeqL.app {e c c' i m k : Nat} (h : SeqL g l s e c i m) (hm : m < k) (hc : c ≤ c') (ho : opAt g l e c' (nth s m)) (hs : SeqL g l s e c (m + 1) k) : SeqL g l s e c i k := by
  induction h with
  | one h => exact .cons h hm hc ho hs
  | cons h hm' hc' ho' _ ih => exact .cons h (by omega) hc' ho' (ih hm ho hs)
theorem SeqL.first {e i k : Nat} (h : SeqL g l s e 0 i k) : ∃ m, m ≤ k ∧ DC g l s e (useL g l e).length i m ∧ ∀ i', SeqL g l s e 0 i' m → SeqL g l s e 0 i' k := by
  cases h with
  | one h => exact ⟨k, Nat.le_refl _, h, fun _ h => h⟩
  | cons h hm hc ho hs => exact ⟨_, by omega, h, fun i' h' => h'.app hm hc ho hs⟩
theorem SeqL.last {e i k : Nat} (h : SeqL g l s e 0 i k) : ∃ m, i ≤ m ∧ DC g l s e (useL g l e).length m k ∧ ∀ k', SeqL g l s e 0 m k' → SeqL g l s e 0 i k' := by
  induction h with
  | @one i k h => exact ⟨i, Nat.le_refl _, h, fun _ h => h⟩
  | @cons i m k c' h hm hc ho hs ih =>
    obtain ⟨m', h1, h2, h3⟩ := ih
    have := Der.le h
    refine ⟨m', by omega, h2, fun k' hk' => .cons h ?_ hc ho (h3 k' hk')⟩
    have := (h3 k' hk').le
    omega
inductive SegL (g : Gram) (l : List GLe) (s : List Int) (e c : Nat) : Nat → Nat → Prop
  | one {i k : Nat} (h : SeqL g l s e (c + 1) i k) : SegL g l s e c i k
  | cons {i m k : Nat} (h : SeqL g l s e (c + 1) i m) (hm : m < k) (ho : opAt g l e c (nth s m)) (hs : SegL g l s e c (m + 1) k) : SegL g l s e c i k
theorem SeqL.seg {e c i k : Nat} (h : SeqL g l s e c i k) : SegL g l s e c i k := by
  induction h with
  | one h => exact .one (.one h)
  | @cons i m k c' h hm hc ho hs ih =>
    by_cases e1 : c' = c
    · subst e1; exact .cons (.one h) hm ho ih
    · cases ih with
      | one h' => exact .one (.cons h hm (by omega) ho h')
      | cons h' hm' ho' hs' =>
        have := h'.le
        exact .cons (.cons h (by omega) (by omega) ho h') hm' ho' hs'
theorem SeqL.dc (hn : ∀ x, x ∈ l → x.assoc = 1 ∨ x.assoc = 2) {e : Nat} (he : e < g.nonterms.length) : ∀ d c i k, c + d = (useL g l e).length → SeqL g l s e c i k → DC g l s e c i k := by
  intro d
  induction d with
  | zero =>
    intro c i k hc h
    cases h with
    | one h => rw [show c = (useL g l e).length by omega]; exact h
    | cons _ _ hc' ho _ => have := (op_rule ho).1; omega
  | succ d ih =>
    intro c i k hc h
    have hs := h.seg
    have hlt : c < (useL g l e).length := by omega
    have has : ∀ x, opAt g l e c x → (nth l (nth (useL g l e) c)).assoc = 1 ∨ (nth l (nth (useL g l e) c)).assoc = 2 := fun x ho => hn _ (nth_mem (op_rule ho).2.2.1)
    have key : SegL g l s e c i k → DC g l s e c i k ∧ ∀ i' p, i = p + 1 → i' ≤ p → (nth l (nth (useL g l e) c)).assoc = 1 → opAt g l e c (nth s p) → DC g l s e c i' p → DC g l s e c i' k := by
      intro hs0
      clear h hs
      induction hs0 with
      | @one i k h =>
        have h1 := ih (c + 1) i k (by omega) h
        refine ⟨h1.unit he hlt, fun i' p hi hp ha ho hd => ?_⟩
        subst hi
        have := Der.le h1
        refine DC.bin ho (by omega) ?_ ?_
        · rw [if_pos ha]; exact hd
        · rw [if_neg (by omega)]; exact h1
      | @cons i m k h hm ho hs ih' =>
        have h1 := ih (c + 1) i m (by omega) h
        have l1 := Der.le h1
        rcases has _ ho with ha | ha
        · refine ⟨ih'.2 i m rfl l1.1 ha ho (h1.unit he hlt), fun i' p hi hp ha' ho' hd => ?_⟩
          subst hi
          refine ih'.2 i' m rfl (by omega) ha ho ?_
          refine DC.bin ho' (by omega) ?_ ?_
          · rw [if_pos ha]; exact hd
          · rw [if_neg (by omega)]; exact h1
        · refine ⟨?_, fun i' p hi hp ha' => by omega⟩
          refine DC.bin ho hm ?_ ?_
          · rw [if_neg (by omega)]; exact h1
          · rw [if_pos ha]; exact ih'.1
    exact (key hs).1
def SD (g : Gram) (l : List GLe) (s : List Int) (a i k : Nat) : Prop := Der (stratG g l) s a i k ∧ (a < g.nonterms.length → SeqL g l s a 0 i k)
theorem SD.of (hn : ∀ x, x ∈ l → x.assoc = 1 ∨ x.assoc = 2) {a i k : Nat} (ha : a < g.nonterms.length) (h : SeqL g l s a 0 i k) : SD g l s a i k := by
  refine ⟨?_, fun _ => h⟩
  have := SeqL.dc hn ha (useL g l a).length 0 i k (by omega) h
  unfold DC at this
  rwa [chnG_0, Int.toNat_natCast] at this
theorem SD.last {e i k : Nat} (h : DC g l s e (useL g l e).length i k) : SD g l s (lastC g l e).toNat i k := by
  refine ⟨h, fun hl => ?_⟩
  have h0 : (useL g l e).length = 0 := by
    unfold lastC at hl
    rw [chnG_at g l (Nat.le_refl _)] at hl
    have := offN_le g l e
    split at hl
    · assumption
    · omega
  have e1 : (lastC g l e).toNat = e := by unfold lastC; rw [h0, chnG_0]; rfl
  rw [e1]
  exact .one h
theorem front {e : Nat} (he : e < g.nonterms.length) {x : Int} {xs : List Int} {i k : Nat} (hx : x = -1 - (e : Int)) (h : bdyP (SD g l s) s (x :: xs) i k) :
    ∃ i', i ≤ i' ∧ bdyP (SD g l s) s ((-1 - lastC g l e) :: xs) i' k ∧ ∀ k', SeqL g l s e 0 i' k' → SeqL g l s e 0 i k' := by
  rcases h with ⟨h1, _⟩ | ⟨_, m, h2, h3, h4, h5⟩
  · omega
  · have ea : (-1 - x).toNat = e := by omega
    rw [ea] at h4
    obtain ⟨i', q1, q2, q3⟩ := (h4.2 he).last
    have := Der.le q2
    have hnn : 0 ≤ lastC g l e := chn_nn (Nat.le_refl _)
    refine ⟨i', q1, .inr ⟨by omega, m, this.1, h3, ?_, h5⟩, q3⟩
    rw [show ∀ z : Int, -1 - (-1 - z) = z by omega]
    exact SD.last q2
theorem back {e : Nat} (he : e < g.nonterms.length) : ∀ (xs : List Int) (i k : Nat), xs ≠ [] → nth xs (xs.length - 1) = -1 - (e : Int) → bdyP (SD g l s) s xs i k →
    ∃ k', k' ≤ k ∧ bdyP (SD g l s) s (xs.set (xs.length - 1) (-1 - lastC g l e)) i k' ∧ ∀ i', SeqL g l s e 0 i' k' → SeqL g l s e 0 i' k
  | [], _, _, h, _, _ => absurd rfl h
  | [z], i, k, _, hz, h => by
    have hz : z = -1 - (e : Int) := hz
    rcases h with ⟨h1, _⟩ | ⟨_, m, h2, h3, h4, h5⟩
    · omega
    · have hmk : m = k := h5
      subst hmk
      have ea : (-1 - z).toNat = e := by omega
      rw [ea] at h4
      obtain ⟨k', q1, q2, q3⟩ := (h4.2 he).first
      have := Der.le q2
      have hnn : 0 ≤ lastC g l e := chn_nn (Nat.le_refl _)
      refine ⟨k', q1, .inr ⟨by omega, k', this.1, Nat.le_refl _, ?_, rfl⟩, q3⟩
      rw [show ∀ z : Int, -1 - (-1 - z) = z by omega]
      exact SD.last q2
  | a :: b :: xs, i, k, _, hz, h => by
    have hz' : nth (b :: xs) ((b :: xs).length - 1) = -1 - (e : Int) := hz
    have es : (a :: b :: xs).set ((a :: b :: xs).length - 1) (-1 - lastC g l e) = a :: (b :: xs).set ((b :: xs).length - 1) (-1 - lastC g l e) := by simp
    rw [es]
    rcases h with ⟨h1, h2, h3, h4⟩ | ⟨h1, m, h2, h3, h4, h5⟩
    · obtain ⟨k', q1, q2, q3⟩ := back he (b :: xs) (i + 1) k (by simp) hz' h4
      have := bdyP_le q2
      exact ⟨k', q1, .inl ⟨h1, by omega, h3, q2⟩, q3⟩
    · obtain ⟨k', q1, q2, q3⟩ := back he (b :: xs) m k (by simp) hz' h5
      have := bdyP_le q2
      exact ⟨k', q1, .inr ⟨h1, m, h2, this, h4, q2⟩, q3⟩
theorem atom_rule {r : Rul} (hr : r ∈ g.rules) (h0 : 0 ≤ r.head) (he : r.head.toNat < g.nonterms.length) (hb : ¬ 0 ≤ binL g l r) {i k : Nat} (hik : i ≤ k) (hk : k ≤ s.length) (h : bdyP (SD g l s) s r.body i k) : SeqL g l s r.head.toNat 0 i k := by
  have hm : ruleS g l r ∈ (stratG g l).rules := by
    unfold stratG
    exact List.mem_append_left _ (List.mem_map_of_mem hr)
  have fin : ∀ i' k', i' ≤ k' → k' ≤ s.length → bdyP (SD g l s) s (ruleS g l r).body i' k' → SeqL g l s r.head.toNat 0 i' k' := fun i' k' h1 h2 h3 => by
    refine .one ?_
    have := Der.clo (stratG g l) s _ hm i' k' h1 h2 (h3.mono fun x _ _ a b h => h.1)
    unfold ruleS at this
    rw [if_neg hb] at this
    exact this
  have hself : ∀ x : Int, x = -1 - r.head ↔ x = -1 - (r.head.toNat : Int) := fun x => by rw [Int.toNat_of_nonneg h0]
  have hbody : (ruleS g l r).body = (List.range r.body.length).map fun k => if (k = 0 ∨ k + 1 = r.body.length) ∧ nth r.body k = -1 - r.head then -1 - lastC g l r.head.toNat else nth r.body k := by
    unfold ruleS; rw [if_neg hb]
  have hfront : ∃ b1 i', b1.length = r.body.length ∧ (∀ j, j < r.body.length → nth b1 j = if j = 0 ∧ nth r.body j = -1 - r.head then -1 - lastC g l r.head.toNat else nth r.body j) ∧ i ≤ i' ∧ bdyP (SD g l s) s b1 i' k ∧ ∀ k', SeqL g l s r.head.toNat 0 i' k' → SeqL g l s r.head.toNat 0 i k' := by
    by_cases hx : 0 < r.body.length ∧ nth r.body 0 = -1 - r.head
    · obtain ⟨hx1, hx2⟩ := hx
      cases hq : r.body with
      | nil => rw [hq] at hx1; simp at hx1
      | cons x xs =>
        rw [hq] at h hx2
        obtain ⟨i', q1, q2, q3⟩ := front he ((hself x).1 hx2) h
        refine ⟨_, i', ?_, ?_, q1, q2, q3⟩
        · simp
        · intro j hj
          cases j with
          | zero => rw [if_pos ⟨rfl, hx2⟩]; rfl
          | succ j => rw [if_neg (by omega)]; rfl
    · refine ⟨r.body, i, rfl, fun j hj => ?_, Nat.le_refl _, h, fun _ h => h⟩
      rw [if_neg]
      rintro ⟨rfl, h2⟩
      exact hx ⟨hj, h2⟩
  obtain ⟨b1, i', hl1, hb1, hi1, h1, hext1⟩ := hfront
  have hback : ∃ b2 k', b2.length = r.body.length ∧ (∀ j, j < r.body.length → nth b2 j = if j + 1 = r.body.length ∧ nth b1 j = -1 - r.head then -1 - lastC g l r.head.toNat else nth b1 j) ∧ k' ≤ k ∧ bdyP (SD g l s) s b2 i' k' ∧ ∀ i', SeqL g l s r.head.toNat 0 i' k' → SeqL g l s r.head.toNat 0 i' k := by
    by_cases hx : 0 < r.body.length ∧ nth b1 (b1.length - 1) = -1 - r.head
    · obtain ⟨hx1, hx2⟩ := hx
      obtain ⟨k', q1, q2, q3⟩ := back he b1 i' k (by rintro rfl; simp at hl1; omega) ((hself _).1 hx2) h1
      refine ⟨_, k', by rw [List.length_set]; exact hl1, fun j hj => ?_, q1, q2, q3⟩
      rw [nth_set (by omega)]
      by_cases ej : b1.length - 1 = j
      · subst ej; rw [if_pos rfl, if_pos ⟨by omega, hx2⟩]
      · rw [if_neg ej, if_neg (by omega)]
    · refine ⟨b1, k, hl1, fun j hj => ?_, Nat.le_refl _, h1, fun _ h => h⟩
      rw [if_neg]
      rintro ⟨h1, h2⟩
      exact hx ⟨by omega, by rw [show b1.length - 1 = j by omega]; exact h2⟩
  obtain ⟨b2, k', hl2, hb2, hk2, h2, hext2⟩ := hback
  have e2 : b2 = (ruleS g l r).body := by
    rw [hbody]
    refine nth_ext (by simp [hl2]) fun j hj => ?_
    rw [hl2] at hj
    rw [nth_range hj, hb2 j hj, hb1 j hj]
    generalize nth r.body j = b
    generalize -1 - lastC g l r.head.toNat = L
    generalize -1 - r.head = S
    grind
  rw [e2] at h2
  exact hext1 k (hext2 i' (fin i' k' (bdyP_le h2) (by omega) h2))
theorem strat_same (hv : GVal g) (hn : ∀ x, x ∈ l → x.assoc = 1 ∨ x.assoc = 2) {e : Nat} (he : e < g.nonterms.length) (i k : Nat) : Der (stratG g l) s e i k ↔ Der g s e i k := by
  constructor
  · intro h
    refine h (fun a i k => ∀ e, e < g.nonterms.length → (a : Int) ∈ chnG g l e → Der g s e i k) (fun r hr i k hi hk hb e he hc => ?_) e he (by rw [mem_chn]; left; rfl)
    obtain ⟨j, hj, rfl⟩ := List.getElem_of_mem hr
    rw [← nth_eq hj] at hb hc
    by_cases ho : j < g.rules.length
    · rw [strat_old ho] at hb hc
      have hrm := nth_mem ho
      have hf := hv.rule _ hrm
      have h0 := hf.h0
      have hn' := hf.hn
      obtain ⟨f1, _, f3, f4⟩ := ruleS_fit (l := l) hv hrm
      have hh0 : 0 ≤ (ruleS g l (nth g.rules j)).head := by rw [mem_chn] at f1; have := offN_le g l (nth g.rules j).head.toNat; omega
      rw [Int.toNat_of_nonneg hh0] at hc
      have ee := chn_uniq g l (by omega) he f1 hc
      subst ee
      refine Der.clo g s _ hrm i k hi hk ?_
      generalize (ruleS g l (nth g.rules j)).body = xs' at *
      generalize (nth g.rules j).body = xs at *
      clear hf f1 hc hh0 hi
      induction xs generalizing xs' i with
      | nil =>
        have : xs' = [] := List.eq_nil_of_length_eq_zero f3
        subst this
        exact hb
      | cons x xs ih =>
        cases xs' with
        | nil => simp at f3
        | cons x' xs' =>
          have hrel : relS g l x' x := f4 0 (by simp)
          have hrest := fun i' hb' => ih i' xs' hb' (by simpa using f3) (fun j hj => f4 (j + 1) (by simpa using hj))
          rcases hrel with ⟨hx, rfl⟩ | ⟨hx, hxn, hxc⟩
          · rcases hb with ⟨b1, b2, b3, b4⟩ | ⟨b1, _⟩
            · exact .inl ⟨b1, b2, b3, hrest _ b4⟩
            · omega
          · have hx' : x' < 0 := by
              rw [mem_chn] at hxc
              have := offN_le g l (-1 - x).toNat
              omega
            rcases hb with ⟨b1, _⟩ | ⟨b1, m, b2, b3, b4, b5⟩
            · omega
            · exact .inr ⟨hx, m, b2, b3, b4 _ hxn (by rw [Int.toNat_of_nonneg (by omega)]; exact hxc), hrest _ b5⟩
    · obtain ⟨e', c, he', hc', hq⟩ := strat_unit (g := g) (l := l) (by omega) hj
      rw [hq] at hb hc
      simp only at hb hc
      have hnn := chn_nn (g := g) (l := l) (e := e') (c := c) (by omega)
      rw [Int.toNat_of_nonneg hnn] at hc
      have ee := chn_uniq g l he' he (chn_at_mem (by omega)) hc
      subst ee
      have hnn2 := chn_nn (g := g) (l := l) (e := e') (c := c + 1) (by omega)
      rcases hb with ⟨b1, _⟩ | ⟨b1, m, b2, b3, b4, b5⟩
      · omega
      · have hmk : m = k := b5
        subst hmk
        refine b4 e' he ?_
        rw [show -1 - (-1 - nth (chnG g l e') (c + 1)) = nth (chnG g l e') (c + 1) by omega, Int.toNat_of_nonneg hnn2]
        exact chn_at_mem (by omega)
  · intro h
    have := h (fun a i k => a < g.nonterms.length → SeqL g l s a 0 i k) (fun r hr i k hi hk hb he => ?_) he
    · exact (SD.of hn he this).1
    · have hf := hv.rule r hr
      have h0 := hf.h0
      have hb' : bdyP (SD g l s) s r.body i k := hb.mono fun x hx h0 a b h => SD.of hn (by have := hf.lo x hx; omega) (h (by have := hf.lo x hx; omega))
      by_cases hbin : 0 ≤ binL g l r
      · obtain ⟨hs, _⟩ := bin_self hbin
        obtain ⟨s1, s2, s3, s4⟩ := selfB_iff.1 hs
        have e3 : r.body = [nth r.body 0, nth r.body 1, nth r.body 2] := by
          refine nth_ext (by rw [s1]; rfl) fun j hj => ?_
          match j, hj with
          | 0, _ => rfl
          | 1, _ => rfl
          | 2, _ => rfl
          | j + 3, hj => omega
        rw [e3, s2, s3] at hb'
        rcases hb' with ⟨b1, _⟩ | ⟨_, m, b2, b3, b4, b5⟩
        · omega
        rcases b5 with ⟨_, c2, c3, c4⟩ | ⟨c1, _⟩
        · rcases c4 with ⟨d1, _⟩ | ⟨_, m', d2, d3, d4, d5⟩
          · omega
          · have hmk : m' = k := d5
            subst hmk
            rw [show (-1 - (-1 - r.head)).toNat = r.head.toNat by omega] at b4 d4
            have hop : opAt g l r.head.toNat (posU g l r.head.toNat (binL g l r)) (nth s m) := ⟨r, hr, by omega, hbin, c3.symm, rfl⟩
            exact (b4.2 he).app c2 (Nat.zero_le _) hop (d4.2 he)
        · omega
      · exact atom_rule hr h0 he hbin hi hk hb'
end
end Go.Lg

namespace Go.Lg
theorem bdyP_apnd {R : Nat → Nat → Nat → Prop} {s : List Int} : ∀ {xs ys : List Int} {i k : Nat}, i ≤ k → (bdyP R s (xs ++ ys) i k ↔ ∃ m, i ≤ m ∧ m ≤ k ∧ bdyP R s xs i m ∧ bdyP R s ys m k)
  | [], ys, i, k, h => by
    simp only [List.nil_append, bdyP]
    exact ⟨fun h' => ⟨i, Nat.le_refl _, h, rfl, h'⟩, fun ⟨m, _, _, e, h'⟩ => e ▸ h'⟩
  | x :: xs, ys, i, k, h => by
    simp only [List.cons_append, bdyP]
    constructor
    · rintro (⟨h1, h2, h3, h4⟩ | ⟨h1, m, h2, h3, h4, h5⟩)
      · obtain ⟨m, a, b, c, d⟩ := (bdyP_apnd (by omega)).1 h4
        exact ⟨m, by omega, b, .inl ⟨h1, by omega, h3, c⟩, d⟩
      · obtain ⟨m', a, b, c, d⟩ := (bdyP_apnd h3).1 h5
        exact ⟨m', by omega, b, .inr ⟨h1, m, h2, a, h4, c⟩, d⟩
    · rintro ⟨m, a, b, (⟨h1, h2, h3, h4⟩ | ⟨h1, m', h2, h3, h4, h5⟩), d⟩
      · exact .inl ⟨h1, by omega, h3, (bdyP_apnd (by omega)).2 ⟨m, by omega, b, h4, d⟩⟩
      · exact .inr ⟨h1, m', h2, by omega, h4, (bdyP_apnd (by omega)).2 ⟨m, h3, b, h5, d⟩⟩
def stepT (T : Nat → Nat → Nat → Bool) (s : List Int) (x : Int) (m j : Nat) : Bool := if 0 ≤ x then decide (m < s.length) && (decide (nth s m = x) && decide (j = m + 1)) else decide (m ≤ j) && T (-1 - x).toNat m j
def outL (T : Nat → Nat → Nat → Bool) (s : List Int) (x : Int) (at_ : List Bool) (n i : Nat) : List Bool := (List.range n).map fun j => (List.range i).any fun m => nth at_ m && stepT T s x m j
def advL (T : Nat → Nat → Nat → Bool) (s : List Int) (x : Int) (at_ : List Bool) : List Bool := outL T s x at_ (s.length + 1) (s.length + 1)
def endL (T : Nat → Nat → Nat → Bool) (s l : List Int) (i : Nat) : List Bool := (List.range (s.length + 1)).map fun j => bdyT T s l i j
theorem outL_len (T : Nat → Nat → Nat → Bool) (s : List Int) (x : Int) (a : List Bool) (n i : Nat) : (outL T s x a n i).length = n := by simp [outL]
theorem outL_zero (T : Nat → Nat → Nat → Bool) (s : List Int) (x : Int) (a : List Bool) (n : Nat) : outL T s x a n 0 = List.replicate n false := by
  refine nth_ext (by simp [outL]) fun j hj => ?_
  rw [outL_len] at hj
  unfold outL
  rw [nth_range hj, nth_replicate hj]; rfl
theorem outL_at {T : Nat → Nat → Nat → Bool} {s : List Int} {x : Int} {a : List Bool} {n i j : Nat} (hj : j < n) : nth (outL T s x a n i) j = (List.range i).any fun m => nth a m && stepT T s x m j := by
  unfold outL; exact nth_range hj
theorem outL_succ {T : Nat → Nat → Nat → Bool} {s : List Int} {x : Int} {a : List Bool} {n i j : Nat} (hj : j < n) : nth (outL T s x a n (i + 1)) j = (nth (outL T s x a n i) j || (nth a i && stepT T s x i j)) := by
  rw [outL_at hj, outL_at hj, List.range_succ, List.any_append]; simp
theorem endL_len (T : Nat → Nat → Nat → Bool) (s l : List Int) (i : Nat) : (endL T s l i).length = s.length + 1 := by simp [endL]
theorem endL_at {T : Nat → Nat → Nat → Bool} {s l : List Int} {i j : Nat} (hj : j ≤ s.length) : nth (endL T s l i) j = bdyT T s l i j := by
  unfold endL; exact nth_range (by omega)
theorem endL_nil {T : Nat → Nat → Nat → Bool} {s : List Int} {i : Nat} (hi : i ≤ s.length) : endL T s [] i = (List.replicate (s.length + 1) false).set i true := by
  refine nth_ext (by simp [endL]) fun j hj => ?_
  rw [endL_len] at hj
  rw [endL_at (by omega), nth_set (by simp; omega), nth_replicate hj]
  simp [bdyT]
theorem bdyT_le {T : Nat → Nat → Nat → Bool} {s l : List Int} {i k : Nat} (h : bdyT T s l i k = true) : i ≤ k := bdyP_le (bdyT_iff.1 h)
theorem bdyT_snoc {T : Nat → Nat → Nat → Bool} {s l : List Int} {x : Int} {i j : Nat} (hj : j ≤ s.length) : bdyT T s (l ++ [x]) i j = true ↔ ∃ m, bdyT T s l i m = true ∧ stepT T s x m j = true := by
  constructor
  · intro h
    have hij := bdyT_le h
    obtain ⟨m, h1, h2, h3, h4⟩ := (bdyP_apnd hij).1 (bdyT_iff.1 h)
    refine ⟨m, bdyT_iff.2 h3, ?_⟩
    unfold stepT
    rcases h4 with ⟨q1, q2, q3, q4⟩ | ⟨q1, m', q2, q3, q4, q5⟩
    · have q4 : m + 1 = j := q4
      rw [if_pos q1]
      simp only [Bool.and_eq_true, decide_eq_true_eq]
      exact ⟨by omega, q3, q4.symm⟩
    · have q5 : m' = j := q5
      subst q5
      rw [if_neg (by omega)]
      simp only [Bool.and_eq_true, decide_eq_true_eq]
      exact ⟨h2, q4⟩
  · rintro ⟨m, h1, h2⟩
    have him := bdyT_le h1
    unfold stepT at h2
    split at h2
    · rename_i hx
      simp only [Bool.and_eq_true, decide_eq_true_eq] at h2
      obtain ⟨a, b, c⟩ := h2
      exact bdyT_iff.2 ((bdyP_apnd (by omega)).2 ⟨m, him, by omega, bdyT_iff.1 h1, .inl ⟨hx, by omega, b, c.symm⟩⟩)
    · rename_i hx
      simp only [Bool.and_eq_true, decide_eq_true_eq] at h2
      exact bdyT_iff.2 ((bdyP_apnd (by omega)).2 ⟨m, him, h2.1, bdyT_iff.1 h1, .inr ⟨by omega, j, h2.1, Nat.le_refl _, h2.2, rfl⟩⟩)
theorem step_le {T : Nat → Nat → Nat → Bool} {s : List Int} {x : Int} {m j : Nat} (h : stepT T s x m j = true) : m ≤ j := by
  unfold stepT at h
  split at h <;> simp only [Bool.and_eq_true, decide_eq_true_eq] at h <;> omega
theorem adv_ends {T : Nat → Nat → Nat → Bool} {s l : List Int} {x : Int} {i : Nat} : advL T s x (endL T s l i) = endL T s (l ++ [x]) i := by
  refine nth_ext (by simp [advL, outL, endL]) fun j hj => ?_
  unfold advL at hj ⊢
  rw [outL_len] at hj
  rw [outL_at hj, endL_at (by omega), Bool.eq_iff_iff, bdyT_snoc (by omega), List.any_eq_true]
  constructor
  · rintro ⟨m, hm, h⟩
    have hm := List.mem_range.1 hm
    rw [Bool.and_eq_true, endL_at (by omega)] at h
    exact ⟨m, h⟩
  · rintro ⟨m, h1, h2⟩
    have := step_le h2
    refine ⟨m, List.mem_range.2 (by omega), ?_⟩
    rw [Bool.and_eq_true, endL_at (by omega)]
    exact ⟨h1, h2⟩
theorem bdyT_mono {T U : Nat → Nat → Nat → Bool} {s l : List Int} {i k : Nat} (h : ∀ a b c, T a b c = true → U a b c = true) (hb : bdyT T s l i k = true) : bdyT U s l i k = true :=
  bdyT_iff.2 ((bdyT_iff.1 hb).mono fun _ _ _ a b => h _ a b)
theorem tix_int (a b c m : Nat) : ((tix m a b c : Nat) : Int) = (a : Int) * ((m : Int) * m) + b * m + c := by
  unfold tix
  push_cast
  rw [Int.add_mul, Int.mul_assoc]
theorem tix_int2 (a b c m : Nat) : ((tix m a b c : Nat) : Int) = (a : Int) * m * m + b * m + c := by
  unfold tix
  push_cast
  rw [Int.add_mul]
structure MidE (g : Gram) (s : List Int) (t u : List Bool) (mo : Bool) (P : Prop) : Prop where
  un : UnderD g s u
  le : falses u ≤ falses t
  t1 : mo = true → falses u < falses t
  t0 : mo = false → u = t ∧ P
theorem MidE.mono {g : Gram} {s : List Int} {t u : List Bool} {mo : Bool} {P Q : Prop} (h : MidE g s t u mo P) (hp : P → Q) : MidE g s t u mo Q := ⟨h.un, h.le, h.t1, fun e => ⟨(h.t0 e).1, hp (h.t0 e).2⟩⟩
theorem MidE.set {g : Gram} {s : List Int} {t u : List Bool} {mo : Bool} {P Q : Prop} (h : MidE g s t u mo P) (hv : GVal g) {r : Rul} (hr : r ∈ g.rules) {i k : Nat} (hi : i ≤ k) (hk : k ≤ s.length) (hb : bdyT (tb (s.length + 1) u) s r.body i k = true) (hn : tb (s.length + 1) u r.head.toNat i k = false) :
    MidE g s t (u.set (tix (s.length + 1) r.head.toNat i k) true) true Q := by
  have hh : r.head.toNat < g.nonterms.length := by have h1 := (hv.rule r hr).h0; have h2 := (hv.rule r hr).hn; omega
  have hf := falses_set (l := u) (i := tix (s.length + 1) r.head.toNat i k) (by rw [h.un.1]; exact tix_lt hh (by omega) (by omega)) hn
  have := h.le
  exact ⟨h.un.set hv hr hi hk hb, by omega, fun _ => by omega, fun e => by cases e⟩
theorem set_same {t : List Bool} {j : Nat} {b : Bool} (h : nth t j = b) : t.set j b = t := by
  by_cases hj : j < t.length
  · refine nth_ext (by simp) fun k hk => ?_
    rw [nth_set hj]; split
    · rename_i e; subst e; exact h.symm
    · rfl
  · rw [List.set_eq_of_length_le (by omega)]
theorem set_keeps {t : List Bool} {i k : Nat} (h : nth t k = true) : nth (t.set i true) k = true := by
  by_cases hi : i < t.length
  · rw [nth_set hi]; split
    · rfl
    · exact h
  · rw [List.set_eq_of_length_le (by omega)]; exact h
section
variable {T : Nat → Nat → Nat → Bool} {s : List Int} {x : Int} {a : List Bool} {n i j : Nat}
theorem out_skip (h : nth a i = false) : outL T s x a n (i + 1) = outL T s x a n i := by
  refine nth_ext (by simp [outL]) fun j hj => ?_
  rw [outL_len] at hj
  rw [outL_succ hj, h]; simp
theorem out_tok (h : nth a i = true) (hx : 0 ≤ x) (hi : i < s.length) (hs : nth s i = x) (hn : i + 1 < n) : outL T s x a n (i + 1) = (outL T s x a n i).set (i + 1) true := by
  refine nth_ext (by simp [outL]) fun j hj => ?_
  rw [outL_len] at hj
  rw [outL_succ hj, h, nth_set (by rw [outL_len]; exact hn)]
  unfold stepT
  rw [if_pos hx]
  by_cases e : i + 1 = j
  · rw [if_pos e]; simp [hi, hs, e]
  · rw [if_neg e]; simp [show ¬ j = i + 1 by omega]
theorem out_ntok (hx : 0 ≤ x) (h : ¬ (i < s.length ∧ nth s i = x)) : outL T s x a n (i + 1) = outL T s x a n i := by
  refine nth_ext (by simp [outL]) fun j hj => ?_
  rw [outL_len] at hj
  rw [outL_succ hj]
  unfold stepT
  rw [if_pos hx]
  by_cases h1 : i < s.length
  · have : ¬ nth s i = x := fun e => h ⟨h1, e⟩
    simp [this]
  · simp [h1]
def outP (T : Nat → Nat → Nat → Bool) (s : List Int) (x : Int) (a : List Bool) (n i j : Nat) : List Bool := (List.range n).map fun k => if k < j then nth (outL T s x a n (i + 1)) k else nth (outL T s x a n i) k
theorem outP_len : (outP T s x a n i j).length = n := by simp [outP]
theorem outP_at {k : Nat} (hk : k < n) : nth (outP T s x a n i j) k = if k < j then nth (outL T s x a n (i + 1)) k else nth (outL T s x a n i) k := by
  unfold outP; exact nth_range hk
theorem outP_zero (hx : x < 0) : outP T s x a n i i = outL T s x a n i := by
  refine nth_ext (by rw [outP_len, outL_len]) fun j hj => ?_
  rw [outP_len] at hj
  rw [outP_at hj]
  split
  · rename_i h
    rw [outL_succ hj]
    unfold stepT
    rw [if_neg (by omega)]
    simp [show ¬ i ≤ j by omega]
  · rfl
theorem outP_end : outP T s x a n i n = outL T s x a n (i + 1) := by
  refine nth_ext (by rw [outP_len, outL_len]) fun j hj => ?_
  rw [outP_len] at hj
  rw [outP_at hj, if_pos hj]
theorem outP_succ (h : nth a i = true) (hx : x < 0) (hij : i ≤ j) (hj : j < n) : outP T s x a n i (j + 1) = (outP T s x a n i j).set j (nth (outP T s x a n i j) j || T (-1 - x).toNat i j) := by
  refine nth_ext (by simp [outP]) fun k hk => ?_
  rw [outP_len] at hk
  rw [outP_at hk, nth_set (by rw [outP_len]; exact hj), outP_at hk, outP_at hj, if_neg (Nat.lt_irrefl j)]
  by_cases e : j = k
  · subst e
    rw [if_pos (by omega), if_pos rfl, outL_succ hj, h]
    unfold stepT
    rw [if_neg (by omega)]
    simp [hij]
  · rw [if_neg e]
    by_cases h2 : k < j
    · rw [if_pos h2, if_pos (by omega)]
    · rw [if_neg h2, if_neg (by omega)]
end
end Go.Lg

namespace Go.Lg
open Go.Proofs
open Go.RowKit
set_option maxRecDepth 20000
section
variable {P : Program} {n M : Nat} {l : List (Nat × AV)} {os : List (Nat × Option AObj)} {e : List Bool} {a : Operand} {ty : TypeId} {ti tj : TI}
end
end Go.Lg

namespace Go.Lg
open Go.Proofs
set_option linter.unusedSimpArgs false
set_option linter.unusedVariables false
attribute [local irreducible] Ap Rq asemC WP RunD Ret Gq thenA inBlockA bodyQ noGotoA RqL RqP OpP
set_option maxHeartbeats 4000000
set_option maxRecDepth 20000
theorem dd_lt {u : Nat} (h : u / 10 = 0) : Lib.decDigits u = [UInt8.ofNat (48 + u % 10)] := by
  rw [Lib.decDigits_one (by omega), Nat.mod_eq_of_lt (by omega)]
theorem dd_len : ∀ n : Nat, n ≤ 1000000 → (Lib.decDigits n).length ≤ 21 := fun n hn => by
  have := Lib.itoa_length_le (n : Int) (by omega) (by omega)
  rw [itoa_nat] at this; exact this
attribute [local simp] AV.cells
end Go.Lg

namespace Go.Lg
open Go.Proofs
set_option linter.unusedSimpArgs false
set_option linter.unusedVariables false
attribute [local irreducible] Ap Rq asemC WP RunD Ret Gq thenA inBlockA bodyQ noGotoA RqL RqP OpP
set_option maxHeartbeats 4000000
set_option maxRecDepth 20000
theorem same20_fn (a b : List Int) : Fn Tryd.prog 17 [intsA a, intsA b] (boolA (decide (a = b))) := by
  refine Fn.intro rfl (by kernel_rfl) Tryd.func17 rfl rfl Tryd.ntmps17 (by exact Nat.le_of_ble_eq_true rfl) ?_; intro Γ hm
  refine wp_lens 0 rfl fun h0 => wp_lens 1 rfl fun h1 => ?_
  have h0 : a.length ≤ 9223372036854775807 := by have := h0; simp [AV.lens, intsA] at this; omega
  have h1 : b.length ≤ 9223372036854775807 := by have := h1; simp [AV.lens, intsA] at this; omega
  by_cases hlen : a.length = b.length
  · (repeat' (first | apply jA | apply jF | apply jH | apply jI | (refine wp_cond rfl (fun hc => ?_) (fun hc => ?_) <;> (try simp only [sB, ne_eq, reduceCtorEq] at hc) <;> (try (exfalso; omega))) | (refine WP.regionC ?_; (refine sassign rfl ?_); apply jW) | (refine WP.regionC (id := 1) ?_; (refine smove rfl ?_); (refine slenm rfl rfl ?_); (refine smove rfl ?_); (refine slenm rfl rfl ?_); (refine su (aneq rfl rfl) ?_); apply jW)))
    all_goals try (exfalso; omega)
    refine wp_loop (fun (i : Nat) => i ≤ a.length ∧ a.take i = b.take i) (fun i => a.length - i)
      (fun i => (S 26 [(0, intsA a), (1, intsA b), (5, intA (i : Nat))] 0 [])) 0 ⟨[], ToR.S rfl (by repeat' (first | exact rt_nil | refine rt_e rfl rfl ?_ | refine rt_p rfl rfl (by first | (simp [AV.bd, bdL, bdL_append]; done) | fail) ?_)) (by repeat' (exact ro_nil)) rfl (by (rw [hm]; exact rfl)) rfl (by (simp [bdT, AV.bd, bdL, bdL_append]; done)) (by repeat' (exact True.intro)) (by (rw [hm]; exact Nat.le_of_ble_eq_true rfl))⟩ ⟨Nat.zero_le _, rfl⟩ ?_
    rintro i ⟨hi, hall⟩
    by_cases hlt : i < a.length
    · (repeat' (first | apply jA | apply jF | apply jH | apply jI | apply jK | apply jM | apply jN | apply jO | apply jS | (refine wp_cond rfl (fun hc => ?_) (fun hc => ?_) <;> (try simp only [sB, ne_eq, reduceCtorEq] at hc) <;> (try (exfalso; omega))) | (refine WP.regionC (id := 4) ?_; (refine smove rfl ?_); (refine smove rfl ?_); (refine slenm rfl rfl ?_); (refine slss rfl rfl ?_); apply jW) | (refine wp_draw (id := 6) 9 mixed (by kernel_rfl) (by kernel_rfl) rfl ?_ <;> (refine rmove rfl ?_) <;> (refine rmove rfl ?_) <;> (refine rd_u rfl rfl (aidxn rfl rfl (by omega)) ?_) <;> (refine rd_u rfl rfl (aloadw rfl rfl) ?_) <;> (refine rmove rfl ?_) <;> (refine rmove rfl ?_) <;> (refine rd_u rfl rfl (aidxn rfl rfl (by omega)) ?_) <;> (refine rd_u rfl rfl (aloadw rfl rfl) ?_) <;> (refine rd_u rfl rfl (aneq rfl rfl) ?_) <;> (refine rd_end (by kernel_rfl) ?_)) | (refine WP.regionC (id := 7) ?_; (refine sassign rfl ?_); apply jW) | (refine WP.regionC (id := 5) ?_; (refine smove rfl ?_); (refine sadd rfl rfl (by exact inr_i64_of (by omega)) ?_); (refine sassign rfl ?_); apply jW) | refine ret_b rfl ?_))
      · rw [decide_eq_false]
        rintro rfl
        exact absurd rfl hc
      · exact ⟨i + 1, ⟨by omega, by omega, take_eq_succ (by omega) (by omega) hall hc⟩, ⟨[], ToR.S rfl (by repeat' (first | exact rt_nil | refine rt_e rfl rfl ?_ | refine rt_p rfl rfl (by first | (simp [AV.bd, bdL, bdL_append]; done) | fail) ?_)) (by repeat' (exact ro_nil)) rfl (by (rw [hm]; exact rfl)) rfl (by (simp [bdT, AV.bd, bdL, bdL_append]; done)) (by repeat' (exact True.intro)) (by (rw [hm]; exact Nat.le_of_ble_eq_true rfl))⟩⟩
    · rw [decide_eq_true (eq_of_takes hlen (by omega) hall)]
      (repeat' (first | apply jA | apply jH | apply jJ | apply jK | apply jL | apply jP | apply jS | (refine wp_cond rfl (fun hc => ?_) (fun hc => ?_) <;> (try simp only [sB, ne_eq, reduceCtorEq] at hc) <;> (try (exfalso; omega))) | (refine WP.regionC (id := 4) ?_; (refine smove rfl ?_); (refine smove rfl ?_); (refine slenm rfl rfl ?_); (refine slss rfl rfl ?_); apply jW) | (refine WP.regionC (id := 8) ?_; (refine sassign rfl ?_); apply jW) | exact ret_eq rfl rfl rfl))
  · rw [decide_eq_false (fun h => hlen (by rw [h]))]
    (repeat' (first | apply jA | apply jH | apply jK | apply jM | apply jS | (refine wp_cond rfl (fun hc => ?_) (fun hc => ?_) <;> (try simp only [sB, ne_eq, reduceCtorEq] at hc) <;> (try (exfalso; omega))) | (refine WP.regionC ?_; (refine sassign rfl ?_); apply jW) | (refine WP.regionC (id := 1) ?_; (refine smove rfl ?_); (refine slenm rfl rfl ?_); (refine smove rfl ?_); (refine slenm rfl rfl ?_); (refine su (aneq rfl rfl) ?_); apply jW) | exact ret_eq rfl rfl rfl))
    all_goals (rfl)
def fewR (r : Rul) : Bool := decide (r.body.length ≤ 20)
def fewV (x : GLe) : Bool := decide (x.tokens.length ≤ 10)
def fewG (g : Gram) (l : List GLe) (n : Int) : Bool := decide (g.terms.length ≤ 130 ∧ g.nonterms.length ≤ 130 ∧ (g.rules.length : Int) ≤ n ∧ l.length ≤ 10) && g.rules.all fewR && l.all fewV
theorem few20_fn (g : Gram) (l : List GLe) (n : Int) (h0 : 0 ≤ n) (h1 : n ≤ 1000) : Fn Tryd.prog 10 [gramA g, levelsA l, intA n] (boolA (fewG g l n)) := by
  unfold fewG
  refine Fn.intro rfl (by kernel_rfl) Tryd.func10 rfl rfl Tryd.ntmps10 (by exact Nat.le_of_ble_eq_true rfl) ?_; intro Γ hm
  refine wp_lens 0 rfl fun hl => wp_lens 1 rfl fun hll => ?_
  obtain ⟨hl1, hl2, hl3, hl4⟩ := (lens_gramA g).1 hl
  have hl5 : l.length ≤ 9223372036854775807 := by have := hll; simp [AV.lens, levelsA] at this; omega
  have hl6 : ∀ x, x ∈ l → x.tokens.length ≤ 9223372036854775807 := by have := hll; intro x hx; simp [AV.lens, levelsA, lensL_map, levelA] at this; have := this.2 x hx; simp [lensL, AV.lens, intA, strsA] at this; omega
  by_cases hc0 : g.terms.length ≤ 130 ∧ g.nonterms.length ≤ 130 ∧ (g.rules.length : Int) ≤ n ∧ l.length ≤ 10
  · rw [decide_eq_true hc0, Bool.true_and]
    (repeat' (first | apply jA | apply jF | apply jH | apply jI | (refine wp_cond rfl (fun hc => ?_) (fun hc => ?_) <;> (try simp only [sB, ne_eq, reduceCtorEq] at hc) <;> (try (exfalso; omega))) | (refine WP.regionC (id := 0) ?_; (refine se_box rfl (by exact ⟨rfl, rfl⟩) ?_); (refine sassign rfl ?_); apply jW) | (refine WP.regionC (id := 1) ?_; (refine sfieldp rfl rfl rfl ?_); (refine sloadp rfl rfl rfl rfl ?_); (refine slenm rfl rfl ?_); (refine su (agtr rfl rfl) ?_); (refine smove rfl ?_); (refine sg (gq_vf rfl rfl) (fun he => ap_field_p (rq_p rfl rfl) rfl rfl) ?_); (refine sg (gq_vf rfl rfl) (fun he => ap_load_p (rq_c rfl rfl) rfl rfl rfl) ?_); (refine sg (gq_vf rfl rfl) (fun he => ap_len_m rfl (rq_c rfl rfl)) ?_); (refine sg (gq_vf rfl rfl) (fun he => ap_gtr (rq_c rfl rfl) (rq_p rfl rfl)) ?_); (refine su (ap_or (rq_p rfl rfl) (rq_c rfl rfl)) ?_); (refine smove rfl ?_); (refine sg (gq_vf rfl rfl) (fun he => ap_field_p (rq_p rfl rfl) rfl rfl) ?_); (refine sg (gq_vf rfl rfl) (fun he => ap_load_p (rq_c rfl rfl) rfl rfl rfl) ?_); (refine sg (gq_vf rfl rfl) (fun he => ap_len_m rfl (rq_c rfl rfl)) ?_); (refine sg (gq_vf rfl rfl) (fun he => ap_move (rq_p rfl rfl)) ?_); (refine sg (gq_vf rfl rfl) (fun he => ap_gtr (rq_c rfl rfl) (rq_c rfl rfl)) ?_); (refine su (ap_or (rq_p rfl rfl) (rq_c rfl rfl)) ?_); (refine smove rfl ?_); (refine sg (gq_vf rfl rfl) (fun he => ap_move (rq_p rfl rfl)) ?_); (refine sg (gq_vf rfl rfl) (fun he => ap_len_m rfl (rq_c rfl rfl)) ?_); (refine sg (gq_vf rfl rfl) (fun he => ap_gtr (rq_c rfl rfl) (rq_p rfl rfl)) ?_); (refine su (ap_or (rq_p rfl rfl) (rq_c rfl rfl)) ?_); apply jW) | (refine WP.regionC (id := 3) ?_; (refine sassign rfl ?_); apply jW)))
    all_goals try (exfalso; omega)
    refine wp_loop (fun (i : Nat) => i ≤ g.rules.length ∧ (g.rules.take i).all fewR = true) (fun i => g.rules.length - i)
      (fun i => (S 59 [(1, levelsA l), (3, .ptr 0 4 0 0), (7, intA (i : Nat))] 1 [(0, some (.arr 4 [gramA g]))])) 0 ⟨[0], ToR.S rfl (by repeat' (first | exact rt_nil | refine rt_t rfl rfl ?_ | refine rt_e rfl rfl ?_ | refine rt_p rfl rfl (by first | (simp [AV.bd, bdL, bdL_append]; done) | fail) ?_)) (by repeat' (first | exact ro_nil | refine ro_p rfl (by first | exact rfl | fail) (by first | (simp [bdL, bdL_append, AV.bd]; done) | fail) ?_)) rfl (by (rw [hm]; exact rfl)) rfl (by (simp [bdT, AV.bd, bdL, bdL_append]; done)) (by repeat' (first | exact True.intro | refine And.intro ?_ ?_ | (simp [bdOq, bdL, bdL_append, AV.bd]; done))) (by (rw [hm]; exact Nat.le_of_ble_eq_true rfl))⟩ ⟨Nat.zero_le _, rfl⟩ ?_
    rintro i ⟨hi, hall⟩
    by_cases hlt : i < g.rules.length
    · have hb := hl4 _ (nth_mem hlt)
      (repeat' (first | apply jA | apply jF | apply jH | apply jI | apply jK | apply jM | apply jN | apply jO | apply jS | (refine wp_cond rfl (fun hc => ?_) (fun hc => ?_) <;> (try simp only [sB, ne_eq, reduceCtorEq] at hc) <;> (try (exfalso; omega))) | (refine WP.regionC (id := 4) ?_; (refine smove rfl ?_); (refine sfieldp rfl rfl rfl ?_); (refine sloadp rfl rfl rfl rfl ?_); (refine slenm rfl rfl ?_); (refine slss rfl rfl ?_); apply jW) | (refine WP.regionC (id := 6) ?_; (refine sfieldp rfl rfl rfl ?_); (refine sloadp rfl rfl rfl rfl ?_); (refine smove rfl ?_); (refine sidxn rfl rfl (by omega) ?_); (refine su (afieldi rfl rfl rfl) ?_); (refine su (aloadi rfl rfl) ?_); (refine slenm rfl rfl ?_); (refine su (agtr rfl rfl) ?_); apply jW) | (refine WP.regionC (id := 7) ?_; (refine sassign rfl ?_); apply jW) | (refine WP.regionC (id := 5) ?_; (refine smove rfl ?_); (refine sadd rfl rfl (by exact inr_i64_of (by omega)) ?_); (refine sassign rfl ?_); apply jW) | refine ret_b rfl ?_))
      · rw [all_nth_no (f := fewR) hlt (decide_eq_false (by omega))]; rfl
      · exact ⟨i + 1, ⟨by omega, by omega, take_all_succ hlt hall (decide_eq_true (by omega))⟩, ⟨[0], ToR.S rfl (by repeat' (first | exact rt_nil | refine rt_t rfl rfl ?_ | refine rt_e rfl rfl ?_ | refine rt_p rfl rfl (by first | (simp [AV.bd, bdL, bdL_append]; done) | fail) ?_)) (by repeat' (first | exact ro_nil | refine ro_p rfl (by first | exact rfl | fail) (by first | (simp [bdL, bdL_append, AV.bd]; done) | fail) ?_)) rfl (by (rw [hm]; exact rfl)) rfl (by (simp [bdT, AV.bd, bdL, bdL_append]; done)) (by repeat' (first | exact True.intro | refine And.intro ?_ ?_ | (simp [bdOq, bdL, bdL_append, AV.bd]; done))) (by (rw [hm]; exact Nat.le_of_ble_eq_true rfl))⟩⟩
    · rw [all_of_take' (by omega) hall, Bool.true_and]
      (repeat' (first | apply jA | apply jF | apply jH | apply jJ | apply jL | apply jP | (refine wp_cond rfl (fun hc => ?_) (fun hc => ?_) <;> (try simp only [sB, ne_eq, reduceCtorEq] at hc) <;> (try (exfalso; omega))) | (refine WP.regionC (id := 4) ?_; (refine smove rfl ?_); (refine sfieldp rfl rfl rfl ?_); (refine sloadp rfl rfl rfl rfl ?_); (refine slenm rfl rfl ?_); (refine slss rfl rfl ?_); apply jW) | (refine WP.regionC (id := 8) ?_; (refine sassign rfl ?_); apply jW)))
      refine wp_loop (fun (i : Nat) => i ≤ l.length ∧ (l.take i).all fewV = true) (fun i => l.length - i)
        (fun i => (S 59 [(1, levelsA l), (8, intA (i : Nat))] 0 [])) 0 ⟨[], ToR.S rfl (by repeat' (first | exact rt_nil | refine rt_e rfl rfl ?_ | refine rt_p rfl rfl (by first | (simp [AV.bd, bdL, bdL_append]; done) | fail) ?_)) (by repeat' (exact ro_nil)) rfl (by (rw [hm]; exact rfl)) rfl (by (simp [bdT, AV.bd, bdL, bdL_append]; done)) (by repeat' (exact True.intro)) (by (rw [hm]; exact Nat.le_of_ble_eq_true rfl))⟩ ⟨Nat.zero_le _, rfl⟩ ?_
      rintro j ⟨hj, hallj⟩
      by_cases hltj : j < l.length
      · have hb := hl6 _ (nth_mem hltj)
        (repeat' (first | apply jA | apply jF | apply jH | apply jI | apply jK | apply jM | apply jN | apply jO | apply jS | (refine wp_cond rfl (fun hc => ?_) (fun hc => ?_) <;> (try simp only [sB, ne_eq, reduceCtorEq] at hc) <;> (try (exfalso; omega))) | (refine WP.regionC (id := 9) ?_; (refine smove rfl ?_); (refine smove rfl ?_); (refine slenm rfl rfl ?_); (refine slss rfl rfl ?_); apply jW) | (refine WP.regionC (id := 11) ?_; (refine smove rfl ?_); (refine smove rfl ?_); (refine sidxn rfl rfl (by omega) ?_); (refine su (afieldi rfl rfl rfl) ?_); (refine su (aloadi rfl rfl) ?_); (refine slenm rfl rfl ?_); (refine su (agtr rfl rfl) ?_); apply jW) | (refine WP.regionC (id := 12) ?_; (refine sassign rfl ?_); apply jW) | (refine WP.regionC (id := 10) ?_; (refine smove rfl ?_); (refine sadd rfl rfl (by exact inr_i64_of (by omega)) ?_); (refine sassign rfl ?_); apply jW) | refine ret_b rfl ?_))
        · rw [all_nth_no (f := fewV) hltj (decide_eq_false (by omega))]
        · exact ⟨j + 1, ⟨by omega, by omega, take_all_succ hltj hallj (decide_eq_true (by omega))⟩, ⟨[], ToR.S rfl (by repeat' (first | exact rt_nil | refine rt_e rfl rfl ?_ | refine rt_p rfl rfl (by first | (simp [AV.bd, bdL, bdL_append]; done) | fail) ?_)) (by repeat' (exact ro_nil)) rfl (by (rw [hm]; exact rfl)) rfl (by (simp [bdT, AV.bd, bdL, bdL_append]; done)) (by repeat' (exact True.intro)) (by (rw [hm]; exact Nat.le_of_ble_eq_true rfl))⟩⟩
      · rw [all_of_take' (by omega) hallj]
        (repeat' (first | apply jA | apply jH | apply jJ | apply jK | apply jL | apply jP | apply jS | (refine wp_cond rfl (fun hc => ?_) (fun hc => ?_) <;> (try simp only [sB, ne_eq, reduceCtorEq] at hc) <;> (try (exfalso; omega))) | (refine WP.regionC (id := 9) ?_; (refine smove rfl ?_); (refine smove rfl ?_); (refine slenm rfl rfl ?_); (refine slss rfl rfl ?_); apply jW) | (refine WP.regionC (id := 13) ?_; (refine sassign rfl ?_); apply jW) | exact ret_eq rfl rfl rfl))
  · rw [decide_eq_false hc0, Bool.false_and, Bool.false_and]
    (repeat' (first | apply jA | apply jH | apply jK | apply jM | apply jS | (refine wp_cond rfl (fun hc => ?_) (fun hc => ?_) <;> (try simp only [sB, ne_eq, reduceCtorEq] at hc) <;> (try (exfalso; omega))) | (refine WP.regionC (id := 0) ?_; (refine se_box rfl (by exact ⟨rfl, rfl⟩) ?_); (refine sassign rfl ?_); apply jW) | (refine WP.regionC (id := 1) ?_; (refine sfieldp rfl rfl rfl ?_); (refine sloadp rfl rfl rfl rfl ?_); (refine slenm rfl rfl ?_); (refine su (agtr rfl rfl) ?_); (refine smove rfl ?_); (refine sg (gq_vf rfl rfl) (fun he => ap_field_p (rq_p rfl rfl) rfl rfl) ?_); (refine sg (gq_vf rfl rfl) (fun he => ap_load_p (rq_c rfl rfl) rfl rfl rfl) ?_); (refine sg (gq_vf rfl rfl) (fun he => ap_len_m rfl (rq_c rfl rfl)) ?_); (refine sg (gq_vf rfl rfl) (fun he => ap_gtr (rq_c rfl rfl) (rq_p rfl rfl)) ?_); (refine su (ap_or (rq_p rfl rfl) (rq_c rfl rfl)) ?_); (refine smove rfl ?_); (refine sg (gq_vf rfl rfl) (fun he => ap_field_p (rq_p rfl rfl) rfl rfl) ?_); (refine sg (gq_vf rfl rfl) (fun he => ap_load_p (rq_c rfl rfl) rfl rfl rfl) ?_); (refine sg (gq_vf rfl rfl) (fun he => ap_len_m rfl (rq_c rfl rfl)) ?_); (refine sg (gq_vf rfl rfl) (fun he => ap_move (rq_p rfl rfl)) ?_); (refine sg (gq_vf rfl rfl) (fun he => ap_gtr (rq_c rfl rfl) (rq_c rfl rfl)) ?_); (refine su (ap_or (rq_p rfl rfl) (rq_c rfl rfl)) ?_); (refine smove rfl ?_); (refine sg (gq_vf rfl rfl) (fun he => ap_move (rq_p rfl rfl)) ?_); (refine sg (gq_vf rfl rfl) (fun he => ap_len_m rfl (rq_c rfl rfl)) ?_); (refine sg (gq_vf rfl rfl) (fun he => ap_gtr (rq_c rfl rfl) (rq_p rfl rfl)) ?_); (refine su (ap_or (rq_p rfl rfl) (rq_c rfl rfl)) ?_); apply jW) | (refine WP.regionC (id := 2) ?_; (refine sassign rfl ?_); apply jW) | exact ret_eq rfl rfl rfl))
    all_goals (rfl)
end Go.Lg

namespace Go.Lg
open Go.Proofs
set_option linter.unusedSimpArgs false
set_option linter.unusedVariables false
attribute [local irreducible] Ap Rq asemC WP RunD Ret Gq thenA inBlockA bodyQ noGotoA RqL RqP OpP
set_option maxHeartbeats 4000000
set_option maxRecDepth 20000
attribute [local simp] AV.cells
structure FewL (l : List GLe) : Prop where
  n : l.length ≤ 10
  t : ∀ x, x ∈ l → x.tokens.length ≤ 10
theorem FewL.of {g : Gram} {l : List GLe} {n : Int} (h : fewG g l n = true) : FewL l := by
  unfold fewG at h
  simp only [Bool.and_eq_true, decide_eq_true_eq, List.all_eq_true] at h
  exact ⟨h.1.1.2.2.2, fun x hx => by have := h.2 x hx; simpa [fewV] using this⟩
theorem lvlTok_succ {l : List GLe} {i : Nat} (hi : i < l.length) : lvlTok (l.take (i + 1)) = lvlTok (l.take i) ++ (nth l i).tokens := by
  unfold lvlTok
  rw [take_succ_nth hi, List.map_append, List.flatten_append]
  simp
theorem lvlTok_pre {l : List GLe} {i k : Nat} (hi : i < l.length) (hk : k < (nth l i).tokens.length) : (lvlTok (l.take i) ++ (nth l i).tokens.take k ++ [nth (nth l i).tokens k]) <+: lvlTok l := by
  have h1 : lvlTok l = lvlTok (l.take (i + 1)) ++ lvlTok (l.drop (i + 1)) := by
    unfold lvlTok
    rw [← List.flatten_append, ← List.map_append, List.take_append_drop]
  have h2 : (nth l i).tokens.take k ++ [nth (nth l i).tokens k] = (nth l i).tokens.take (k + 1) := (take_succ_nth hk).symm
  rw [List.append_assoc, h2, h1, lvlTok_succ hi, List.append_assoc]
  exact (List.prefix_append_right_inj _).2 (List.IsPrefix.trans (List.take_prefix _ _) (List.prefix_append _ _))
end Go.Lg

namespace Go.Lg
open Go.Proofs
set_option linter.unusedSimpArgs false
set_option linter.unusedVariables false
attribute [local irreducible] Ap Rq asemC WP RunD Ret Gq thenA inBlockA bodyQ noGotoA RqL RqP OpP
set_option maxHeartbeats 4000000
set_option maxRecDepth 20000
attribute [local simp] AV.cells
end Go.Lg

namespace Go.Lg
open Go.Proofs
set_option linter.unusedSimpArgs false
set_option linter.unusedVariables false
attribute [local irreducible] Ap Rq asemC WP RunD Ret Gq thenA inBlockA bodyQ noGotoA RqL RqP OpP
set_option maxHeartbeats 4000000
set_option maxRecDepth 20000
attribute [local simp] AV.cells
theorem noTok_nth {g : Gram} {l : List GLe} {i k : Nat} (hi : i < l.length) (hk : k < (nth l i).tokens.length) (h : ¬ 0 ≤ termI g (nth (nth l i).tokens k)) : noTok g l = false := by
  rw [Bool.eq_false_iff]
  intro hn
  unfold noTok lvlTok at hn
  rw [List.all_eq_true] at hn
  have := hn _ (List.mem_flatten.2 ⟨_, List.mem_map.2 ⟨_, nth_mem hi, rfl⟩, nth_mem hk⟩)
  exact h (by simpa using this)
theorem noTok_all {g : Gram} {l : List GLe} (h : ∀ i, i < l.length → ∀ k, k < (nth l i).tokens.length → 0 ≤ termI g (nth (nth l i).tokens k)) : noTok g l = true := by
  unfold noTok lvlTok
  rw [List.all_eq_true]
  intro s hs
  obtain ⟨q, hq, hs⟩ := List.mem_flatten.1 hs
  obtain ⟨x, hx, rfl⟩ := List.mem_map.1 hq
  obtain ⟨i, hi, rfl⟩ := List.getElem_of_mem hx
  obtain ⟨k, hk, rfl⟩ := List.getElem_of_mem hs
  have h2 := h i hi
  rw [nth_eq hi] at h2
  have := h2 k hk
  rw [nth_eq hk] at this
  simpa using this
theorem confl_any {g : Gram} {l : List GLe} {i : Nat} (hi : i < g.rules.length) (h : conflG g l i = true) : (List.range g.rules.length).any (conflG g l) = true := by
  rw [List.any_eq_true]; exact ⟨i, List.mem_range.2 hi, h⟩
theorem sameOp_iff {g : Gram} {l : List GLe} {r s : Rul} : sameOp g l r s = true ↔ 0 ≤ binL g l s ∧ s.head = r.head ∧ nth s.body 1 = nth r.body 1 := by
  unfold sameOp
  simp only [Bool.and_eq_true, decide_eq_true_eq, and_assoc]
theorem bin_len3 {g : Gram} {l : List GLe} {r : Rul} (h : 0 ≤ binL g l r) : r.body.length = 3 := (selfB_iff.1 (bin_self h).1).1
end Go.Lg

namespace Go.Lg
open Go.RowKit
set_option linter.unusedVariables false
section
variable {P : Program} {Γ : Cx} {A : Nat → Prop} {ρ : Nat → Option Nat} {s : St} {a : Act} {w : World}
set_option maxHeartbeats 1600000 in
theorem append_two (h : SRa Γ A ρ s a w) {t tx ty e : TypeId} {ti te : TI} (ht : tinfo P t = some ti) (he : ti.elem = some e) (hte : tinfo P e = some te) {d : TypeDesc} (hd : P.underlying tx = some d) (hd' : ∀ k, d ≠ .int k) (hz0 : (zeroA te).isSome = true)
    {y : AV} {v u : Value} {id len : Nat} {es ys : List AV} (hlook : s.look id = some (.arr te.size es)) (hel : es.length = len) (hx : RV A ρ (Im Γ ρ s w) w (.ref id te.size 0 len) v) (hy : RV A ρ (Im Γ ρ s w) w y u) (hys : srcA te s.look y = some ys) (hpos : 0 < ys.length) (hroom : room te (es.length + ys.length)) {nid : Nat} (hn : nid < s.objs.length) (hA : ¬ A nid) :
    ∃ z w', (Builtin.append_ #[t, tx] ty #[v, u]).run P w = .ok z w' ∧
      ((SRa Γ A ρ (s.set id (some (.arr te.size (es ++ ys)))) a w' ∧ RV A ρ (Im Γ ρ (s.set id (some (.arr te.size (es ++ ys)))) w') w' (.ref id te.size 0 (es ++ ys).length) z) ∨
       ∃ ρ', SRa Γ (fun i => A i ∨ i = nid) ρ' (s.set nid (some (.arr te.size (es ++ ys)))) a w' ∧ RV (fun i => A i ∨ i = nid) ρ' (Im Γ ρ' (s.set nid (some (.arr te.size (es ++ ys)))) w') w' (.ref nid te.size 0 (es ++ ys).length) z) := by
  have hu := elem_spec ht he
  obtain ⟨z0, hz0⟩ := Option.isSome_iff_exists.1 hz0
  obtain ⟨zv, _, hzc, _, _, hzl, hs0, _, i, hi, hz, hsz, hby⟩ := zeroA_spec hte hz0
  have hzcs : zv.cells.size = te.size := by rw [← Array.length_toList, hzc, hzl]
  have grow : ∀ (olds news : List Value) (es ys : List AV) (old : Nat), old < es.length + ys.length → CR A ρ (Im Γ ρ s w) w (flat es) olds → CR A ρ (Im Γ ρ s w) w (flat ys) news → (∀ e, e ∈ es → e.cells.length = te.size) → (∀ e, e ∈ ys → e.cells.length = te.size) →
      room te (es.length + ys.length) →
      let w' := w.drew.alloc (.cells (olds.toArray ++ news.toArray ++ Builtin.zeroCells zv.cells (grownCap w (es.length + ys.length) old e - (es.length + ys.length))) e)
      let ρ' := fun i => if i = nid then some w.heap.size else ρ i
      SRa Γ (fun i => A i ∨ i = nid) ρ' (s.set nid (some (.arr te.size (es ++ ys)))) a w' ∧
      csize w' w.heap.size = some (grownCap w (es.length + ys.length) old e * te.size) ∧ es.length + ys.length ≤ grownCap w (es.length + ys.length) old e ∧ grownCap w (es.length + ys.length) old e ≤ maxLen := by
    intro olds news es ys old hold ho hnw hke hky hroom w' ρ'
    have hall : ∀ e, e ∈ es ++ ys → e.cells.length = te.size := fun e he => (List.mem_append.1 he).elim (hke e) (hky e)
    have hcr : CR A ρ (Im Γ ρ s w) w (flat (es ++ ys)) (olds ++ news) := by rw [flat_append]; exact ho.append hnw
    have hfl := flat_length hall
    have hl := hcr.len
    have hrow := hcr.row hall (Builtin.zeroCells zv.cells (grownCap w (es.length + ys.length) old e - (es.length + ys.length))).toList
    have heq : (olds ++ news ++ (Builtin.zeroCells zv.cells (grownCap w (es.length + ys.length) old e - (es.length + ys.length))).toList).toArray = olds.toArray ++ news.toArray ++ Builtin.zeroCells zv.cells (grownCap w (es.length + ys.length) old e - (es.length + ys.length)) := by
      apply Array.ext'; simp
    rw [heq] at hrow
    have hge := grownCap_ge w (es.length + ys.length) old e
    have hpos : es.length + ys.length ≤ maxLen := by
      have hb := hroom.1
      have : es.length + ys.length ≤ (es.length + ys.length) * te.bytes := Nat.le_mul_of_pos_right _ (Nat.pos_of_ne_zero hroom.2)
      simp only [maxLen]; omega
    refine ⟨(h.drawn (w.drawn + 1)).newRow hn hA e (hrow.drawn _), ?_, hge, grownCap_le_maxLen w _ old e hpos⟩
    refine (csize_block (heap_alloc_new w.drew _)).trans ?_
    congr 1
    rw [← heq]
    simp only [List.size_toArray, List.length_append, hfl, Array.length_toList, size_zeroCells, hzcs] at hl ⊢
    rw [hl, ← Nat.add_mul]
    congr 1
    omega
  obtain ⟨news, hsrc, hcr, hky⟩ := srcA_sound h hy hys
  have hlive := St.look_some.1 hlook
  cases hx with
  | @ref _ _ _ _ cap b hAi hb hl hcs hm =>
    subst hel
    obtain ⟨cs, t', hblk, hrow⟩ := h.row hlook hb
    have hft := flat_length hrow.wide
    have hcap : cs.size = cap * te.size := by rw [csize_block hblk] at hcs; simpa using hcs
    have hocr := hrow.cr
    have hll := hocr.len
    have hof : ∀ d, (Builtin.firstCells i.size es.length (.slice (some ⟨b, 0 * te.size, none⟩) es.length cap)).run P { w with drawn := d } = .ok (cs.toList.take (flat es).length).toArray { w with drawn := d } := fun d => by
      refine firstCells_some i.size es.length b _ cap _ (by rw [hll, hft, hsz]) (fun j u hu => ?_) d es.length
      rw [cell_of_block hblk]
      rw [List.getElem?_take] at hu
      split at hu
      · simpa using hu
      · cases hu
    have hrun := run_append_gen (P := P) (w := w) (t := t) (tx := tx) (ty := ty) hu hd hd' hi hz hof (by rw [hsz]; exact hsrc) (by rw [hby]; exact hroom.1) (by rw [hby]; exact hroom.2)
    by_cases hle : es.length + ys.length ≤ cap
    · have hnl := hcr.len
      have hyl := flat_length hky
      have hfit : es.length * te.size + news.length ≤ cs.size := by
        rw [hnl, hyl, hcap, ← Nat.add_mul]; exact Nat.mul_le_mul_right _ hle
      have hst := run_storeCells_at P b (es.length * te.size) t' news 0 cs w hblk (by simpa using hfit) hcr.atoms
      simp only [Nat.add_zero] at hst
      have hall : ∀ e, e ∈ es ++ ys → e.cells.length = te.size := fun e he => (List.mem_append.1 he).elim (hrow.wide e) (hky e)
      have hrow2 : Row A ρ (Im Γ ρ s w) w te.size (es ++ ys) (cs.toList.take (es.length * te.size) ++ news ++ cs.toList.drop (es.length * te.size + news.length)).toArray := by
        have := (hocr.append hcr)
        rw [← flat_append, hft] at this
        exact this.row hall _
      have hw1 := h.writeRow (w' := w.setRow b (cs.toList.take (es.length * te.size) ++ news ++ cs.toList.drop (es.length * te.size + news.length)).toArray) hlive hb (by simp) rfl rfl rfl (fun c hc => setRow_grow w b c _ hc) hblk (setRow_heap w b cs _ t' (0, 0) hblk)
        (by simp only [List.size_toArray, List.length_append, List.length_take, List.length_drop, Array.length_toList]; omega) hrow2
      refine ⟨_, _, hrun.1 hle _ ?_, .inl ⟨hw1, ?_⟩⟩
      · simpa [hsz, add_lit] using hst
      · rw [List.length_append]
        have hcz := csize_block (setRow_heap w b cs (cs.toList.take (es.length * te.size) ++ news ++ cs.toList.drop (es.length * te.size + news.length)).toArray t' (0, 0) hblk)
        refine .ref hAi hb hle (hcz.trans ?_) hm
        congr 1
        rw [Nat.zero_add, ← hcap]
        simp only [List.size_toArray, List.length_append, List.length_take, List.length_drop, Array.length_toList]
        omega
    · have hg := grow _ news es ys cap (by omega) hocr hcr hrow.wide hky hroom
      obtain ⟨g1, g2, g3, g4⟩ := hg
      refine ⟨_, _, hrun.2 (by omega), .inr ⟨_, g1, ?_⟩⟩
      rw [List.length_append]
      exact .ref0 (.inr rfl) (by simp) g3 g2 g4
  | refn hAi hb =>
    have hnone := h.obj id _ hlive
    rw [hb] at hnone
    obtain ⟨k0, hk0⟩ := hnone.resolve_left (by simp)
    injection hk0 with _ hes
    subst hes
    have hrun := run_append_gen (P := P) (w := w) (t := t) (tx := tx) (ty := ty) hu hd hd' hi hz (base := none) (sLen := 0) (sCap := 0) (olds := []) (fun d => by simp [Builtin.firstCells]) (by rw [hsz]; exact hsrc) (by rw [hby]; simpa using hroom.1) (by rw [hby]; exact hroom.2)
    have hg := grow [] news [] ys 0 (by simp; omega) ⟨rfl, by simp, by simp [flat]⟩ hcr (by simp) hky (by simpa using hroom)
    simp only [List.length_nil, Nat.zero_add, List.nil_append] at hg hrun
    obtain ⟨g1, g2, g3, g4⟩ := hg
    exact ⟨_, _, hrun.2 (by omega), .inr ⟨_, g1, .ref0 (.inr rfl) (by simp) g3 g2 g4⟩⟩
end
section
variable {P : Program} {Γ : Cx} {n M : Nat} {l : List (Nat × AV)} {os : List (Nat × Option AObj)} {x X : AV} {d t : Tmp} {ty : TypeId} {pos : String} {af : Array Edge} {ops : Array Oper} {rest : List Oper} {K : St → Prop} {Q : Exit → St → Prop} {a b : Operand} {g : FuncId} {first cap xa ys : List AV} {f : Operand} {args : Array Operand} {tys : Array TypeId}
theorem wpo_app2 {i : Nat} {te tj : TI} {tx ty2 : TypeId} {k bt id len : Nat} {es zs : List AV} {y : AV} [ht : TEl P ty te k bt] [h3 : TIc P tx tj] (hop : ops[i]? = some ⟨some d, .call ⟨.builtin .append, #[a, b], #[ty, tx]⟩, ty2, pos, af, none⟩)
    (hsh : (match tj.sh with | .int => false | _ => true) = true) (ha : opq n l a = some (.ref id k 0 len)) (ho : lookq M os id = some (.arr k es)) (hl : es.length = len)
    (hb : opq n l b = some y) (hy : srcA te (lookq M os) y = some zs) (hpos : 0 < zs.length) (hz0 : (zeroA te).isSome = true) (hbt : Nat.beq bt 0 = false) (hr : (es.length + zs.length) * bt ≤ 140737488355328)
    (h1 : K (S n ((d, .ref id k 0 (es ++ zs).length) :: l) (M + 1) ((id, some (.arr k (es ++ zs))) :: (M, none) :: os)))
    (h2 : K (S n ((d, .ref M k 0 (es ++ zs).length) :: l) (M + 1) ((M, some (.arr k (es ++ zs))) :: os))) : WPO P Γ ops Q i K (S n l M os) := by
  obtain ⟨ti, el, g1, he, hs, g4, hsz, hbz⟩ := ht.h
  subst hsz
  intro ac w hs0
  unfold wpOp
  rw [hop]
  simp only
  rw [if_pos (by simp [Region.wanted])]
  refine .inl ?_
  obtain ⟨ρ, hρ⟩ := hs0
  have hM : (S n l M os).objs.length = M := ol_length M os
  have hroom := hρ.room'
  have e0 : ({ S n l M os with objs := (S n l M os).objs ++ [none] } : St) = S n l (M + 1) ((M, none) :: os) := by simp only [S]; rw [ol_push]
  rw [e0, hM] at hroom
  have hsh' : ¬ tj.sh = .int := by intro h; rw [h] at hsh; cases hsh
  obtain ⟨dd, hd, hd'⟩ := sh_not_int h3.h hsh'
  have hb0 : te.bytes ≠ 0 := by rw [hbz]; exact Nat.ne_of_beq_eq_false hbt
  have hrm : room te (es.length + zs.length) := ⟨by rw [hbz]; exact hr, hb0⟩
  have hidM : id < M := by
    unfold lookq at ho
    cases h : Nat.blt id M with
    | true => exact blt_of h
    | false => rw [h] at ho; simp at ho
  have hlk : ∀ j, j < M → lookq (M + 1) ((M, none) :: os) j = lookq M os j := fun j hj => by
    rw [← S_look n l, ← S_look n l]
    simp only [St.look, S]
    rw [← ol_push, List.getElem?_append_left (by rw [ol_length]; exact hj)]
  have hx := hroom.eval a
  have hyv := hroom.eval b
  have hopa : (S n l (M + 1) ((M, none) :: os)).op a = .ref id te.size 0 len := opq_op ha
  have hopb : (S n l (M + 1) ((M, none) :: os)).op b = y := opq_op hb
  rw [hopa] at hx
  rw [hopb] at hyv
  have hlook : (S n l (M + 1) ((M, none) :: os)).look id = some (.arr te.size es) := by rw [S_look, hlk id hidM]; exact ho
  have hys : srcA te (S n l (M + 1) ((M, none) :: os)).look y = some zs := by
    have e1 : ∀ j o, lookq M os j = some o → (S n l (M + 1) ((M, none) :: os)).look j = some o := fun j o hj => by
      have hjM : j < M := by
        unfold lookq at hj
        cases h : Nat.blt j M with
        | true => exact blt_of h
        | false => rw [h] at hj; simp at hj
      rw [S_look, hlk j hjM]; exact hj
    cases y with
    | ref id2 k2 off2 len2 =>
      simp only [srcA] at hy ⊢
      cases hq : lookq M os id2 with
      | none => rw [hq] at hy; cases hy
      | some o => rw [hq] at hy; rw [e1 _ _ hq]; exact hy
    | val v =>
      have e2 : ∀ f g : Nat → Option AObj, srcA te f (.val v) = srcA te g (.val v) := fun f g => by
        cases v with
        | slice a n c => cases a <;> cases n <;> rfl
        | _ => rfl
      rw [e2 _ (lookq M os)]; exact hy
    | _ => exact hy
  obtain ⟨z, w', hrun, hres⟩ := append_two (P := P) (ty := ty2) hroom g1 he g4 hd hd' hz0 hlook hl hx hyv hys hpos hrm (nid := M) (by rw [show (S n l (M + 1) ((M, none) :: os)).objs.length = M + 1 from ol_length _ _]; omega) (by omega)
  unfold Oper.wp
  rw [show (execOp ac.eval ⟨some d, .call ⟨.builtin .append, #[a, b], #[ty, tx]⟩, ty2, pos, af, none⟩).run P w = .ok (.value z) w' by simp_all [execOp, resolve, invoke, builtin]]
  simp only [Oper.upon]
  rcases hres with ⟨hA, hv⟩ | ⟨ρ', hA, hv⟩
  · refine ⟨_, h1, ρ, ?_⟩
    have h5 := hA.put (some d) hv
    have e : ((S n l (M + 1) ((M, none) :: os)).set id (some (.arr te.size (es ++ zs)))).put (some d) (.ref id te.size 0 (es ++ zs).length) = S n ((d, .ref id te.size 0 (es ++ zs).length) :: l) (M + 1) ((id, some (.arr te.size (es ++ zs))) :: (M, none) :: os) := by simp [S, St.set, St.put, ol_set, tl_set]
    rw [e] at h5
    refine h5.more (fun j hj => ?_) (fun j hj => hj)
    rw [show (S n ((d, AV.ref id te.size 0 (es ++ zs).length) :: l) (M + 1) ((id, some (.arr te.size (es ++ zs))) :: (M, none) :: os)).objs.length = M + 1 from ol_length _ _]
    omega
  · refine ⟨_, h2, ρ', ?_⟩
    have h5 := hA.put (some d) hv
    have e : ((S n l (M + 1) ((M, none) :: os)).set M (some (.arr te.size (es ++ zs)))).put (some d) (.ref M te.size 0 (es ++ zs).length) = S n ((d, .ref M te.size 0 (es ++ zs).length) :: l) (M + 1) ((M, some (.arr te.size (es ++ zs))) :: os) := by
      simp only [S, St.set, St.put, tl_set, St.mk.injEq, true_and]
      rw [← ol_push, ← ol_push, List.set_append_right _ _ (by rw [ol_length]; omega), ol_length, Nat.sub_self]
      rfl
    rw [e] at h5
    refine h5.more (fun j hj => ?_) (fun j hj => hj)
    rw [show (S n ((d, AV.ref M te.size 0 (es ++ zs).length) :: l) (M + 1) ((M, some (.arr te.size (es ++ zs))) :: os)).objs.length = M + 1 from ol_length _ _]
    omega
def FnQ (P : Program) (g : FuncId) (ys : List AV) (os : List AObj) (post : AV → List (Option AObj) → Prop) : Prop :=
  Spec P g ys (os.map some) fun r o' => post r o' ∧ os.length ≤ o'.length ∧ r.bd o'.length = true
def RetQ (P : Program) (rs : List ResultVar) (m : Nat) (post : AV → List (Option AObj) → Prop) (s : St) : Prop := ∃ X os', post X os' ∧ m ≤ os'.length ∧ X.bd os'.length = true ∧ RetO P rs m X os' s
theorem FnQ.intro {fn : Func} {c : Code} {aos : List AObj} {post : AV → List (Option AObj) → Prop} {rs : List ResultVar} (he : enterable P g = true) (hf : P.funcs[g]? = some fn) (hb : fn.body = some c) (hrs : fn.results = rs.toArray) (hn : fn.ntmps = n) (hl : ys.length ≤ n)
    (h : ∀ Γ : Cx, Γ.m = aos.length → WP P Γ c (bodyQ (RetQ P rs aos.length post)) (S n (enumA 0 ys) aos.length (enumO 0 aos))) : FnQ P g ys aos post := by
  refine Spec.introR he hf hb (rs := rs) (by rw [hrs]) fun Γ hm => ?_
  subst hn
  rw [List.length_map] at hm
  rw [tl_start _ _ hl]
  have hw := h Γ hm
  simp only [S, ← ol_enum] at hw
  refine WP.mono hw ?_
  have key : ∀ s, RetQ P rs aos.length post s → ∃ x y l t, resN P s rs = some x ∧ ToR (aos.map some).length l ⟨[x], s.objs⟩ ⟨[y], t⟩ ∧ (post y t ∧ aos.length ≤ t.length ∧ y.bd t.length = true) := by
    rintro s ⟨X, os', h1, h2, h3, x, is, h4, h5⟩
    exact ⟨x, X, is, os', h4, by rw [List.length_map]; exact h5, h1, h2, h3⟩
  intro e s hq
  cases e with
  | normal => exact key s hq
  | ret => exact key s hq
  | _ => exact hq
end
section
variable {P : Program} {Γ : Cx} {n M : Nat} {l : List (Nat × AV)} {os : List (Nat × Option AObj)} {x : AV} {d : Tmp} {ty : TypeId} {pos : String} {af : Array Edge} {ops : Array Oper} {Q : Exit → St → Prop} {fuel : Nat} {listed : Array Bool}
end
section
variable {P : Program} {Γ : Cx} {A : Nat → Prop} {ρ : Nat → Option Nat} {s : St} {a : Act} {w : World}
end
section
variable {P : Program} {Γ : Cx} {n M : Nat} {l : List (Nat × AV)} {os : List (Nat × Option AObj)} {c : Code} {Q : Exit → St → Prop}
end
section
variable {P : Program} {n M : Nat} {l : List (Nat × AV)} {os : List (Nat × Option AObj)} {ty : TypeId} {a b : Operand} {y : AV} {pos : String} {af : Array Edge} {ops : Array Oper} {rest : List Oper} {N i : Nat} 
def oneE : AV → Bool
  | .agg _ => false
  | e => e.one
end
section
variable {P : Program} {Γ : Cx} {n M : Nat} {l : List (Nat × AV)} {os : List (Nat × Option AObj)} {c : Code} {Q : Exit → St → Prop}
end
theorem wp_cut {P : Program} {Γ : Cx} {c : Code} {s : St} {Q' : Exit → St → Prop} (R : St → Prop) (h1 : WP P Γ c (fun e s => e = .normal ∧ R s) s) (h2 : ∀ s, R s → Q' .normal s) : WP P Γ c Q' s :=
  h1.mono fun e s ⟨he, hr⟩ => by subst he; exact h2 s hr
section
variable {P : Program} {n M : Nat} {l : List (Nat × AV)} {os : List (Nat × Option AObj)} {d : Tmp} {ty : TypeId} {pos : String} {af : Array Edge} {ops : Array Oper} {rest : List Oper} {K : St → Prop} {a b : Operand}
end
section
variable {P : Program} {Γ : Cx} {n M : Nat} {l : List (Nat × AV)} {os : List (Nat × Option AObj)} {c : Code} {Q : Exit → St → Prop}
end
end Go.Lg
