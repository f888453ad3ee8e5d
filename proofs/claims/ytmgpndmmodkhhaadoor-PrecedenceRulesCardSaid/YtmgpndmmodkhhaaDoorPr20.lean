/-
  Part 20 of the proof of PrecedenceRulesCard: the logic over the model, the functions' contracts and the plain laws.
-/
import Derived.Test.YtmgpndmmodkhhaaDoorPr19
import Derived.OrdersIn

set_option linter.unusedSimpArgs false
set_option linter.unusedVariables false
set_option linter.unusedSectionVars false
set_option linter.defProp false

namespace Go.Lg
open Go.RowKit
section
variable {P : Program} {Γ : Cx} {n M : Nat} {l : List (Nat × AV)} {os : List (Nat × Option AObj)} {Q : Exit → St → Prop}
end
end Go.Lg

namespace Go.Lg
open Go.RowKit
section
variable {P : Program} {Γ : Cx} {n M : Nat} {l : List (Nat × AV)} {os : List (Nat × Option AObj)} {Q : Exit → St → Prop}
end
end Go.Lg

namespace Go.Lg
open Go.Proofs
set_option linter.unusedSimpArgs false
set_option linter.unusedVariables false
attribute [local irreducible] Ap Rq asemC WP RunD Ret Gq thenA inBlockA bodyQ noGotoA RqL RqP OpP
set_option maxHeartbeats 4000000
set_option maxRecDepth 20000
attribute [local simp] AV.cells rdT
end Go.Lg

namespace Go.Lg
section
variable {g : Gram} {pr : List Bool}
end
end Go.Lg

namespace Go.Lg
open Go.Proofs
set_option linter.unusedSimpArgs false
set_option linter.unusedVariables false
attribute [local irreducible] Ap Rq asemC WP RunD Ret Gq thenA inBlockA bodyQ noGotoA RqL RqP OpP
set_option maxHeartbeats 4000000
set_option maxRecDepth 20000
attribute [local simp] AV.cells
end Go.Lg

namespace Go.Lg
open Go.Proofs
set_option linter.unusedSimpArgs false
set_option linter.unusedVariables false
attribute [local irreducible] Ap Rq asemC WP RunD Ret Gq thenA inBlockA bodyQ noGotoA RqL RqP OpP
set_option maxHeartbeats 4000000
set_option maxRecDepth 20000
attribute [local simp] AV.cells
end Go.Lg

namespace Go.Lg
open Go.Proofs
set_option linter.unusedSimpArgs false
set_option linter.unusedVariables false
attribute [local irreducible] Ap Rq asemC WP RunD Ret Gq thenA inBlockA bodyQ noGotoA RqL RqP OpP
set_option maxHeartbeats 4000000
set_option maxRecDepth 20000
attribute [local simp] AV.cells
end Go.Lg

namespace Go.Lg
open Go.Proofs
set_option linter.unusedSimpArgs false
set_option linter.unusedVariables false
attribute [local irreducible] Ap Rq asemC WP RunD Ret Gq thenA inBlockA bodyQ noGotoA RqL RqP OpP
set_option maxHeartbeats 4000000
set_option maxRecDepth 20000
attribute [local simp] AV.cells
end Go.Lg

namespace Go.Lg
open Go.Proofs
set_option linter.unusedSimpArgs false
set_option linter.unusedVariables false
attribute [local irreducible] Ap Rq asemC WP RunD Ret Gq thenA inBlockA bodyQ noGotoA RqL RqP OpP
set_option maxHeartbeats 4000000
set_option maxRecDepth 20000
attribute [local simp] AV.cells
mutual
def leftT : Tre → Int → Int → Int
  | .mk _ _ l, lev, m => if 60 < lev ∨ m ≤ 0 then -1 else leftTL l lev (m - 1)
def leftTL : List Tre → Int → Int → Int
  | [], _, m => m
  | t :: l, lev, m => if 0 ≤ m then leftTL l lev (leftT t (lev + 1) m) else m
end
end Go.Lg

namespace Go.Lg
open Go.Proofs
set_option linter.unusedSimpArgs false
set_option linter.unusedVariables false
attribute [local irreducible] Ap Rq asemC WP RunD Ret Gq thenA inBlockA bodyQ noGotoA RqL RqP OpP
set_option maxHeartbeats 4000000
set_option maxRecDepth 20000
attribute [local simp] AV.cells
mutual
def lfT (n : Nat) : Tre → Bool
  | .mk r _ l => if r < 0 then decide (r = -1) && decide (l.length = 0) else decide (r < n) && lfTL n l
def lfTL (n : Nat) : List Tre → Bool
  | [] => true
  | t :: l => lfT n t && lfTL n l
end
end Go.Lg

namespace Go.Lg
mutual
def liftT (fr : List Int) : Tre → List Tre
  | .mk r t l => if r = -1 then [.mk r t l] else if nth fr r.toNat = -1 then liftTL fr l else [.mk (nth fr r.toNat) 0 (liftTL fr l)]
def liftTL (fr : List Int) : List Tre → List Tre
  | [] => []
  | t :: l => liftT fr t ++ liftTL fr l
end
end Go.Lg

namespace Go.Lg
open Go.Proofs
set_option linter.unusedSimpArgs false
set_option linter.unusedVariables false
attribute [local irreducible] Ap Rq asemC WP RunD Ret Gq thenA inBlockA bodyQ noGotoA RqL RqP OpP
set_option maxHeartbeats 4000000
set_option maxRecDepth 20000
theorem dd_lt {u : Nat} (h : u / 10 = 0) : Lib.decDigits u = [UInt8.ofNat (48 + u % 10)] := by
  rw [Lib.decDigits_one (by omega), Nat.mod_eq_of_lt (by omega)]
theorem dd_len : ∀ n : Nat, n ≤ 1000000 → (Lib.decDigits n).length ≤ 21 := fun n hn => by
  have := Lib.itoa_length_le (n : Int) (by omega) (by omega)
  rw [itoa_nat] at this; exact this
attribute [local simp] AV.cells
end Go.Lg

namespace Go.Lg
def lvlTok (l : List GLe) : List ByteArray := (l.map (·.tokens)).flatten
def levOk (x : GLe) : Bool := decide (1 ≤ x.assoc) && decide (x.assoc ≤ 3) && decide (x.tokens.length ≠ 0)
def levsOk (l : List GLe) : Bool := l.all levOk && decide (lvlTok l).Nodup
def termI (g : Gram) (s : ByteArray) : Int := indexP (fun x => decide (x = s)) g.terms
def levelG (g : Gram) (l : List GLe) (t : Int) : Int := indexP (fun x : GLe => x.tokens.any fun n => decide (termI g n = t)) l
def selfB (r : Rul) : Bool := decide (r.body.length = 3) && decide (nth r.body 0 = -1 - r.head) && decide (nth r.body 2 = -1 - r.head) && decide (0 ≤ nth r.body 1)
def binL (g : Gram) (l : List GLe) (r : Rul) : Int := if selfB r then levelG g l (nth r.body 1) else -1
def noTok (g : Gram) (l : List GLe) : Bool := (lvlTok l).all fun s => decide (0 ≤ termI g s)
def sameOp (g : Gram) (l : List GLe) (r s : Rul) : Bool := decide (0 ≤ binL g l s) && decide (s.head = r.head) && decide (nth s.body 1 = nth r.body 1)
def conflG (g : Gram) (l : List GLe) (i : Nat) : Bool :=
  if 0 ≤ binL g l (nth g.rules i) then (g.rules.take i).any (sameOp g l (nth g.rules i)) else (nth g.rules i).body.any fun t => decide (0 ≤ t) && decide (0 ≤ levelG g l t)
def checkG (g : Gram) (l : List GLe) : Int := if validG g && levsOk l then (if noTok g l then (if (List.range g.rules.length).any (conflG g l) then 14 else 0) else 4) else 1
def useL (g : Gram) (l : List GLe) (e : Nat) : List Nat := (List.range l.length).filter fun (i : Nat) => g.rules.any fun r => decide (r.head = (e : Int)) && decide (binL g l r = (i : Int))
def offN (g : Gram) (l : List GLe) : Nat → Nat
  | 0 => g.nonterms.length
  | e + 1 => offN g l e + (useL g l e).length
def chnG (g : Gram) (l : List GLe) (e : Nat) : List Int := (e : Int) :: (List.range (useL g l e).length).map fun (i : Nat) => ((offN g l e + i : Nat) : Int)
def namG (g : Gram) (l : List GLe) (e : Nat) : List ByteArray := (List.range (useL g l e).length).map fun (i : Nat) => nth g.nonterms e ++ ⟨#[64]⟩ ++ tx (Lib.itoa ((i + 2 : Nat) : Int))
def namsG (g : Gram) (l : List GLe) (k : Nat) : List ByteArray := g.nonterms ++ ((List.range k).map (namG g l)).flatten
def lastC (g : Gram) (l : List GLe) (e : Nat) : Int := nth (chnG g l e) (useL g l e).length
def posU (g : Gram) (l : List GLe) (e : Nat) (b : Int) : Nat := (indexP (fun (i : Nat) => decide ((i : Int) = b)) (useL g l e)).toNat
def ruleS (g : Gram) (l : List GLe) (r : Rul) : Rul :=
  if 0 ≤ binL g l r then
    ⟨nth (chnG g l r.head.toNat) (posU g l r.head.toNat (binL g l r)),
      [-1 - nth (chnG g l r.head.toNat) (posU g l r.head.toNat (binL g l r) + if (nth l (binL g l r).toNat).assoc = 1 then 0 else 1), nth r.body 1,
        -1 - nth (chnG g l r.head.toNat) (posU g l r.head.toNat (binL g l r) + if (nth l (binL g l r).toNat).assoc = 2 then 0 else 1)], r.price⟩
  else ⟨lastC g l r.head.toNat, (List.range r.body.length).map fun k => if (k = 0 ∨ k + 1 = r.body.length) ∧ nth r.body k = -1 - r.head then -1 - lastC g l r.head.toNat else nth r.body k, r.price⟩
def unitS (g : Gram) (l : List GLe) (e : Nat) : List Rul := (List.range (useL g l e).length).map fun i => ⟨nth (chnG g l e) i, [-1 - nth (chnG g l e) (i + 1)], 0⟩
def unitsS (g : Gram) (l : List GLe) (k : Nat) : List Rul := ((List.range k).map (unitS g l)).flatten
def stratG (g : Gram) (l : List GLe) : Gram := ⟨g.terms, namsG g l g.nonterms.length, g.start, g.rules.map (ruleS g l) ++ unitsS g l g.nonterms.length⟩
def fromG (g : Gram) (l : List GLe) : List Int := (List.range g.rules.length).map (fun (i : Nat) => (i : Int)) ++ List.replicate (unitsS g l g.nonterms.length).length (-1)
def zG : Gram := ⟨[], [], 0, []⟩
def stratR (g : Gram) (l : List GLe) : Gram × List Int × Int :=
  if checkG g l = 0 then (if validG (stratG g l) then (stratG g l, fromG g l, 0) else (zG, [], 11)) else (zG, [], checkG g l)
section
variable (g : Gram) (l : List GLe)
theorem offN_le (e : Nat) : g.nonterms.length ≤ offN g l e := by
  induction e with
  | zero => exact Nat.le_refl _
  | succ e ih => rw [offN]; omega
theorem chnG_len (e : Nat) : (chnG g l e).length = (useL g l e).length + 1 := by simp [chnG]
theorem mem_chn {e : Nat} {k : Int} : k ∈ chnG g l e ↔ k = (e : Int) ∨ ((offN g l e : Int) ≤ k ∧ k < ((offN g l e + (useL g l e).length : Nat) : Int)) := by
  simp only [chnG, List.mem_cons, List.mem_map, List.mem_range]
  constructor
  · rintro (h | ⟨i, hi, rfl⟩)
    · exact .inl h
    · exact .inr ⟨by omega, by omega⟩
  · rintro (h | ⟨h1, h2⟩)
    · exact .inl h
    · exact .inr ⟨(k - offN g l e).toNat, by omega, by omega⟩
theorem namG_len (e : Nat) : (namG g l e).length = (useL g l e).length := by simp [namG]
theorem namsG_len (k : Nat) : (namsG g l k).length = offN g l k := by
  induction k with
  | zero => simp [namsG, offN]
  | succ k ih =>
    simp only [namsG, List.length_append] at ih
    simp only [namsG, List.range_succ, List.map_append, List.map_cons, List.map_nil, List.flatten_append, List.flatten_cons, List.flatten_nil, List.append_nil, List.length_append, namG_len, offN]
    omega
theorem namsG_succ (k : Nat) : namsG g l (k + 1) = namsG g l k ++ namG g l k := by
  simp [namsG, List.range_succ]
theorem unitS_len (e : Nat) : (unitS g l e).length = (useL g l e).length := by simp [unitS]
theorem unitsS_succ (k : Nat) : unitsS g l (k + 1) = unitsS g l k ++ unitS g l k := by
  simp [unitsS, List.range_succ]
theorem useL_len (e : Nat) : (useL g l e).length ≤ l.length := by
  have := List.length_filter_le (fun (i : Nat) => g.rules.any fun r => decide (r.head = (e : Int)) && decide (binL g l r = (i : Int))) (List.range l.length)
  simpa [useL] using this
theorem lastC_mem (e : Nat) : lastC g l e ∈ chnG g l e := nth_mem (by rw [chnG_len]; omega)
theorem levelG_lt (t : Int) : -1 ≤ levelG g l t ∧ levelG g l t < l.length := indexP_lt _ _
theorem binL_lt (r : Rul) : -1 ≤ binL g l r ∧ binL g l r < l.length := by
  unfold binL
  split
  · exact levelG_lt g l _
  · omega
theorem bin_used {r : Rul} (hr : r ∈ g.rules) (h0 : 0 ≤ r.head) (hb : 0 ≤ binL g l r) : (binL g l r).toNat ∈ useL g l r.head.toNat := by
  have := binL_lt g l r
  simp only [useL, List.mem_filter, List.mem_range, List.any_eq_true, Bool.and_eq_true, decide_eq_true_eq]
  exact ⟨by omega, r, hr, by omega, by omega⟩
theorem posU_is {e i : Nat} (h : i ∈ useL g l e) : posU g l e (i : Int) < (useL g l e).length ∧ nth (useL g l e) (posU g l e (i : Int)) = i := by
  obtain ⟨j, hj, e1⟩ := List.getElem_of_mem h
  have hex : ∃ k : Nat, k < (useL g l e).length ∧ indexP (fun (x : Nat) => decide ((x : Int) = (i : Int))) (useL g l e) = k ∧ nth (useL g l e) k = i := by
    have h1 := indexP_lt (fun (x : Nat) => decide ((x : Int) = (i : Int))) (useL g l e)
    have h2 : ∀ k : Nat, k < (useL g l e).length → (∀ m, m < k → nth (useL g l e) m ≠ i) → nth (useL g l e) k = i → indexP (fun (x : Nat) => decide ((x : Int) = (i : Int))) (useL g l e) = k := fun k hk hm hq =>
      indexP_is hk (by simp [hq]) fun m hmk => decide_eq_false fun h => hm m hmk (by omega)
    have hfirst : ∀ n, n ≤ (useL g l e).length → (∃ k, k < n ∧ nth (useL g l e) k = i) → ∃ k, k < n ∧ nth (useL g l e) k = i ∧ ∀ m, m < k → nth (useL g l e) m ≠ i := by
      intro n
      induction n with
      | zero => rintro _ ⟨k, hk, _⟩; omega
      | succ n ih =>
        rintro hn ⟨k, hk, hq⟩
        by_cases hex : ∃ k, k < n ∧ nth (useL g l e) k = i
        · obtain ⟨k', a, b, c⟩ := ih (by omega) hex
          exact ⟨k', by omega, b, c⟩
        · refine ⟨k, hk, hq, fun m hm hmi => hex ⟨m, by omega, hmi⟩⟩
    obtain ⟨k, a, b, c⟩ := hfirst _ (Nat.le_refl _) ⟨j, hj, by rw [nth_eq hj]; exact e1⟩
    exact ⟨k, a, h2 k a c b, b⟩
  obtain ⟨k, a, b, c⟩ := hex
  unfold posU
  rw [b, Int.toNat_natCast]
  exact ⟨a, c⟩
end
end Go.Lg

namespace Go.Lg
def relS (g : Gram) (l : List GLe) (y' y : Int) : Prop := (0 ≤ y ∧ y' = y) ∨ (y < 0 ∧ (-1 - y).toNat < g.nonterms.length ∧ (-1 - y') ∈ chnG g l (-1 - y).toNat)
section
variable {g : Gram} {l : List GLe}
theorem relS_self {y : Int} (h : -(g.nonterms.length : Int) ≤ y) : relS g l y y := by
  by_cases hy : 0 ≤ y
  · exact .inl ⟨hy, rfl⟩
  · refine .inr ⟨by omega, by omega, ?_⟩
    rw [mem_chn]; left; omega
theorem chn_at_mem {e i : Nat} (h : i ≤ (useL g l e).length) : nth (chnG g l e) i ∈ chnG g l e := nth_mem (by rw [chnG_len]; omega)
theorem selfB_iff {r : Rul} : selfB r = true ↔ r.body.length = 3 ∧ nth r.body 0 = -1 - r.head ∧ nth r.body 2 = -1 - r.head ∧ 0 ≤ nth r.body 1 := by
  simp only [selfB, Bool.and_eq_true, decide_eq_true_eq, and_assoc]
theorem bin_self {r : Rul} (h : 0 ≤ binL g l r) : selfB r = true ∧ binL g l r = levelG g l (nth r.body 1) := by
  unfold binL at h ⊢
  split
  · rename_i h1; exact ⟨h1, rfl⟩
  · rename_i h1; rw [if_neg h1] at h; omega
theorem ruleS_fit (hv : GVal g) {r : Rul} (hr : r ∈ g.rules) : (ruleS g l r).head ∈ chnG g l r.head.toNat ∧ (ruleS g l r).price = r.price ∧ (ruleS g l r).body.length = r.body.length ∧
    ∀ j, j < r.body.length → relS g l (nth (ruleS g l r).body j) (nth r.body j) := by
  have hf := hv.rule r hr
  have h0 := hf.h0
  have hn := hf.hn
  have hself : ∀ i, i ≤ (useL g l r.head.toNat).length → relS g l (-1 - nth (chnG g l r.head.toNat) i) (-1 - r.head) := fun i hi => by
    refine .inr ⟨by omega, by omega, ?_⟩
    rw [show (-1 - (-1 - r.head)).toNat = r.head.toNat by omega, show -1 - (-1 - nth (chnG g l r.head.toNat) i) = nth (chnG g l r.head.toNat) i by omega]
    exact chn_at_mem hi
  by_cases hb : 0 ≤ binL g l r
  · obtain ⟨hs, _⟩ := bin_self hb
    obtain ⟨s1, s2, s3, s4⟩ := selfB_iff.1 hs
    have hu := posU_is g l (bin_used g l hr h0 hb)
    rw [Int.toNat_of_nonneg hb] at hu
    have hu := hu.1
    unfold ruleS
    rw [if_pos hb]
    refine ⟨chn_at_mem (by omega), rfl, by simp [s1], ?_⟩
    intro j hj
    match j, hj with
    | 0, _ => rw [s2]; exact hself _ (by split <;> omega)
    | 1, _ => exact .inl ⟨s4, rfl⟩
    | 2, _ => rw [s3]; exact hself _ (by split <;> omega)
    | j + 3, hj => omega
  · unfold ruleS
    rw [if_neg hb]
    refine ⟨lastC_mem g l _, rfl, by simp, ?_⟩
    intro j hj
    rw [nth_range hj]
    split
    · rename_i hc
      rw [hc.2]
      exact hself _ (Nat.le_refl _)
    · exact relS_self (hf.lo _ (nth_mem hj))
theorem mem_unitsS {r : Rul} {k : Nat} (h : r ∈ unitsS g l k) : ∃ e i, e < k ∧ i < (useL g l e).length ∧ r = ⟨nth (chnG g l e) i, [-1 - nth (chnG g l e) (i + 1)], 0⟩ := by
  simp only [unitsS, unitS, List.mem_flatten, List.mem_map, List.mem_range] at h
  obtain ⟨q, ⟨e, he, rfl⟩, hq⟩ := h
  obtain ⟨i, hi, rfl⟩ := List.mem_map.1 hq
  exact ⟨e, i, he, by simpa using hi, rfl⟩
theorem strat_old {i : Nat} (h : i < g.rules.length) : nth (stratG g l).rules i = ruleS g l (nth g.rules i) := by
  unfold stratG
  simp only
  rw [nth_append, if_pos (by simpa using h), nth_mapP h]
theorem strat_unit {i : Nat} (h1 : g.rules.length ≤ i) (h2 : i < (stratG g l).rules.length) : ∃ e j, e < g.nonterms.length ∧ j < (useL g l e).length ∧ nth (stratG g l).rules i = ⟨nth (chnG g l e) j, [-1 - nth (chnG g l e) (j + 1)], 0⟩ := by
  have h3 : nth (stratG g l).rules i ∈ unitsS g l g.nonterms.length := by
    unfold stratG at h2 ⊢
    simp only [List.length_append, List.length_map] at h2 ⊢
    rw [nth_append, if_neg (by simp; omega)]
    exact nth_mem (by simp; omega)
  exact mem_unitsS h3
end
end Go.Lg

namespace Go.Lg
open Go.Proofs
set_option linter.unusedSimpArgs false
set_option linter.unusedVariables false
attribute [local irreducible] Ap Rq asemC WP RunD Ret Gq thenA inBlockA bodyQ noGotoA RqL RqP OpP
set_option maxHeartbeats 4000000
set_option maxRecDepth 20000
theorem same20_fn (a b : List Int) : Fn Tryd.prog 17 [intsA a, intsA b] (boolA (decide (a = b))) := by
  refine Fn.intro rfl (by kernel_rfl) Tryd.func17 rfl rfl Tryd.ntmps17 (by exact Nat.le_of_ble_eq_true rfl) ?_; intro Γ hm
  refine wp_lens 0 rfl fun h0 => wp_lens 1 rfl fun h1 => ?_
  have h0 : a.length ≤ 9223372036854775807 := by have := h0; simp [AV.lens, intsA] at this; omega
  have h1 : b.length ≤ 9223372036854775807 := by have := h1; simp [AV.lens, intsA] at this; omega
  by_cases hlen : a.length = b.length
  · (repeat' (first | apply jA | apply jF | apply jH | apply jI | (refine wp_cond rfl (fun hc => ?_) (fun hc => ?_) <;> (try simp only [sB, ne_eq, reduceCtorEq] at hc) <;> (try (exfalso; omega))) | (refine WP.regionC ?_; (refine sassign rfl ?_); apply jW) | (refine WP.regionC (id := 1) ?_; (refine smove rfl ?_); (refine slenm rfl rfl ?_); (refine smove rfl ?_); (refine slenm rfl rfl ?_); (refine su (aneq rfl rfl) ?_); apply jW)))
    all_goals try (exfalso; omega)
    refine wp_loop (fun (i : Nat) => i ≤ a.length ∧ a.take i = b.take i) (fun i => a.length - i)
      (fun i => (S 26 [(0, intsA a), (1, intsA b), (5, intA (i : Nat))] 0 [])) 0 ⟨[], ToR.S rfl (by repeat' (first | exact rt_nil | refine rt_e rfl rfl ?_ | refine rt_p rfl rfl (by first | (simp [AV.bd, bdL, bdL_append]; done) | fail) ?_)) (by repeat' (exact ro_nil)) rfl (by (rw [hm]; exact rfl)) rfl (by (simp [bdT, AV.bd, bdL, bdL_append]; done)) (by repeat' (exact True.intro)) (by (rw [hm]; exact Nat.le_of_ble_eq_true rfl))⟩ ⟨Nat.zero_le _, rfl⟩ ?_
    rintro i ⟨hi, hall⟩
    by_cases hlt : i < a.length
    · (repeat' (first | apply jA | apply jF | apply jH | apply jI | apply jK | apply jM | apply jN | apply jO | apply jS | (refine wp_cond rfl (fun hc => ?_) (fun hc => ?_) <;> (try simp only [sB, ne_eq, reduceCtorEq] at hc) <;> (try (exfalso; omega))) | (refine WP.regionC (id := 4) ?_; (refine smove rfl ?_); (refine smove rfl ?_); (refine slenm rfl rfl ?_); (refine slss rfl rfl ?_); apply jW) | (refine wp_draw (id := 6) 9 mixed (by kernel_rfl) (by kernel_rfl) rfl ?_ <;> (refine rmove rfl ?_) <;> (refine rmove rfl ?_) <;> (refine rd_u rfl rfl (aidxn rfl rfl (by omega)) ?_) <;> (refine rd_u rfl rfl (aloadw rfl rfl) ?_) <;> (refine rmove rfl ?_) <;> (refine rmove rfl ?_) <;> (refine rd_u rfl rfl (aidxn rfl rfl (by omega)) ?_) <;> (refine rd_u rfl rfl (aloadw rfl rfl) ?_) <;> (refine rd_u rfl rfl (aneq rfl rfl) ?_) <;> (refine rd_end (by kernel_rfl) ?_)) | (refine WP.regionC (id := 7) ?_; (refine sassign rfl ?_); apply jW) | (refine WP.regionC (id := 5) ?_; (refine smove rfl ?_); (refine sadd rfl rfl (by exact inr_i64_of (by omega)) ?_); (refine sassign rfl ?_); apply jW) | refine ret_b rfl ?_))
      · rw [decide_eq_false]
        rintro rfl
        exact absurd rfl hc
      · exact ⟨i + 1, ⟨by omega, by omega, take_eq_succ (by omega) (by omega) hall hc⟩, ⟨[], ToR.S rfl (by repeat' (first | exact rt_nil | refine rt_e rfl rfl ?_ | refine rt_p rfl rfl (by first | (simp [AV.bd, bdL, bdL_append]; done) | fail) ?_)) (by repeat' (exact ro_nil)) rfl (by (rw [hm]; exact rfl)) rfl (by (simp [bdT, AV.bd, bdL, bdL_append]; done)) (by repeat' (exact True.intro)) (by (rw [hm]; exact Nat.le_of_ble_eq_true rfl))⟩⟩
    · rw [decide_eq_true (eq_of_takes hlen (by omega) hall)]
      (repeat' (first | apply jA | apply jH | apply jJ | apply jK | apply jL | apply jP | apply jS | (refine wp_cond rfl (fun hc => ?_) (fun hc => ?_) <;> (try simp only [sB, ne_eq, reduceCtorEq] at hc) <;> (try (exfalso; omega))) | (refine WP.regionC (id := 4) ?_; (refine smove rfl ?_); (refine smove rfl ?_); (refine slenm rfl rfl ?_); (refine slss rfl rfl ?_); apply jW) | (refine WP.regionC (id := 8) ?_; (refine sassign rfl ?_); apply jW) | exact ret_eq rfl rfl rfl))
  · rw [decide_eq_false (fun h => hlen (by rw [h]))]
    (repeat' (first | apply jA | apply jH | apply jK | apply jM | apply jS | (refine wp_cond rfl (fun hc => ?_) (fun hc => ?_) <;> (try simp only [sB, ne_eq, reduceCtorEq] at hc) <;> (try (exfalso; omega))) | (refine WP.regionC ?_; (refine sassign rfl ?_); apply jW) | (refine WP.regionC (id := 1) ?_; (refine smove rfl ?_); (refine slenm rfl rfl ?_); (refine smove rfl ?_); (refine slenm rfl rfl ?_); (refine su (aneq rfl rfl) ?_); apply jW) | exact ret_eq rfl rfl rfl))
    all_goals (rfl)
def fewR (r : Rul) : Bool := decide (r.body.length ≤ 20)
def fewV (x : GLe) : Bool := decide (x.tokens.length ≤ 10)
def fewG (g : Gram) (l : List GLe) (n : Int) : Bool := decide (g.terms.length ≤ 130 ∧ g.nonterms.length ≤ 130 ∧ (g.rules.length : Int) ≤ n ∧ l.length ≤ 10) && g.rules.all fewR && l.all fewV
theorem few20_fn (g : Gram) (l : List GLe) (n : Int) (h0 : 0 ≤ n) (h1 : n ≤ 1000) : Fn Tryd.prog 10 [gramA g, levelsA l, intA n] (boolA (fewG g l n)) := by
  unfold fewG
  refine Fn.intro rfl (by kernel_rfl) Tryd.func10 rfl rfl Tryd.ntmps10 (by exact Nat.le_of_ble_eq_true rfl) ?_; intro Γ hm
  refine wp_lens 0 rfl fun hl => wp_lens 1 rfl fun hll => ?_
  obtain ⟨hl1, hl2, hl3, hl4⟩ := (lens_gramA g).1 hl
  have hl5 : l.length ≤ 9223372036854775807 := by have := hll; simp [AV.lens, levelsA] at this; omega
  have hl6 : ∀ x, x ∈ l → x.tokens.length ≤ 9223372036854775807 := by have := hll; intro x hx; simp [AV.lens, levelsA, lensL_map, levelA] at this; have := this.2 x hx; simp [lensL, AV.lens, intA, strsA] at this; omega
  by_cases hc0 : g.terms.length ≤ 130 ∧ g.nonterms.length ≤ 130 ∧ (g.rules.length : Int) ≤ n ∧ l.length ≤ 10
  · rw [decide_eq_true hc0, Bool.true_and]
    (repeat' (first | apply jA | apply jF | apply jH | apply jI | (refine wp_cond rfl (fun hc => ?_) (fun hc => ?_) <;> (try simp only [sB, ne_eq, reduceCtorEq] at hc) <;> (try (exfalso; omega))) | (refine WP.regionC (id := 0) ?_; (refine se_box rfl (by exact ⟨rfl, rfl⟩) ?_); (refine sassign rfl ?_); apply jW) | (refine WP.regionC (id := 1) ?_; (refine sfieldp rfl rfl rfl ?_); (refine sloadp rfl rfl rfl rfl ?_); (refine slenm rfl rfl ?_); (refine su (agtr rfl rfl) ?_); (refine smove rfl ?_); (refine sg (gq_vf rfl rfl) (fun he => ap_field_p (rq_p rfl rfl) rfl rfl) ?_); (refine sg (gq_vf rfl rfl) (fun he => ap_load_p (rq_c rfl rfl) rfl rfl rfl) ?_); (refine sg (gq_vf rfl rfl) (fun he => ap_len_m rfl (rq_c rfl rfl)) ?_); (refine sg (gq_vf rfl rfl) (fun he => ap_gtr (rq_c rfl rfl) (rq_p rfl rfl)) ?_); (refine su (ap_or (rq_p rfl rfl) (rq_c rfl rfl)) ?_); (refine smove rfl ?_); (refine sg (gq_vf rfl rfl) (fun he => ap_field_p (rq_p rfl rfl) rfl rfl) ?_); (refine sg (gq_vf rfl rfl) (fun he => ap_load_p (rq_c rfl rfl) rfl rfl rfl) ?_); (refine sg (gq_vf rfl rfl) (fun he => ap_len_m rfl (rq_c rfl rfl)) ?_); (refine sg (gq_vf rfl rfl) (fun he => ap_move (rq_p rfl rfl)) ?_); (refine sg (gq_vf rfl rfl) (fun he => ap_gtr (rq_c rfl rfl) (rq_c rfl rfl)) ?_); (refine su (ap_or (rq_p rfl rfl) (rq_c rfl rfl)) ?_); (refine smove rfl ?_); (refine sg (gq_vf rfl rfl) (fun he => ap_move (rq_p rfl rfl)) ?_); (refine sg (gq_vf rfl rfl) (fun he => ap_len_m rfl (rq_c rfl rfl)) ?_); (refine sg (gq_vf rfl rfl) (fun he => ap_gtr (rq_c rfl rfl) (rq_p rfl rfl)) ?_); (refine su (ap_or (rq_p rfl rfl) (rq_c rfl rfl)) ?_); apply jW) | (refine WP.regionC (id := 3) ?_; (refine sassign rfl ?_); apply jW)))
    all_goals try (exfalso; omega)
    refine wp_loop (fun (i : Nat) => i ≤ g.rules.length ∧ (g.rules.take i).all fewR = true) (fun i => g.rules.length - i)
      (fun i => (S 59 [(1, levelsA l), (3, .ptr 0 4 0 0), (7, intA (i : Nat))] 1 [(0, some (.arr 4 [gramA g]))])) 0 ⟨[0], ToR.S rfl (by repeat' (first | exact rt_nil | refine rt_t rfl rfl ?_ | refine rt_e rfl rfl ?_ | refine rt_p rfl rfl (by first | (simp [AV.bd, bdL, bdL_append]; done) | fail) ?_)) (by repeat' (first | exact ro_nil | refine ro_p rfl (by first | exact rfl | fail) (by first | (simp [bdL, bdL_append, AV.bd]; done) | fail) ?_)) rfl (by (rw [hm]; exact rfl)) rfl (by (simp [bdT, AV.bd, bdL, bdL_append]; done)) (by repeat' (first | exact True.intro | refine And.intro ?_ ?_ | (simp [bdOq, bdL, bdL_append, AV.bd]; done))) (by (rw [hm]; exact Nat.le_of_ble_eq_true rfl))⟩ ⟨Nat.zero_le _, rfl⟩ ?_
    rintro i ⟨hi, hall⟩
    by_cases hlt : i < g.rules.length
    · have hb := hl4 _ (nth_mem hlt)
      (repeat' (first | apply jA | apply jF | apply jH | apply jI | apply jK | apply jM | apply jN | apply jO | apply jS | (refine wp_cond rfl (fun hc => ?_) (fun hc => ?_) <;> (try simp only [sB, ne_eq, reduceCtorEq] at hc) <;> (try (exfalso; omega))) | (refine WP.regionC (id := 4) ?_; (refine smove rfl ?_); (refine sfieldp rfl rfl rfl ?_); (refine sloadp rfl rfl rfl rfl ?_); (refine slenm rfl rfl ?_); (refine slss rfl rfl ?_); apply jW) | (refine WP.regionC (id := 6) ?_; (refine sfieldp rfl rfl rfl ?_); (refine sloadp rfl rfl rfl rfl ?_); (refine smove rfl ?_); (refine sidxn rfl rfl (by omega) ?_); (refine su (afieldi rfl rfl rfl) ?_); (refine su (aloadi rfl rfl) ?_); (refine slenm rfl rfl ?_); (refine su (agtr rfl rfl) ?_); apply jW) | (refine WP.regionC (id := 7) ?_; (refine sassign rfl ?_); apply jW) | (refine WP.regionC (id := 5) ?_; (refine smove rfl ?_); (refine sadd rfl rfl (by exact inr_i64_of (by omega)) ?_); (refine sassign rfl ?_); apply jW) | refine ret_b rfl ?_))
      · rw [all_nth_no (f := fewR) hlt (decide_eq_false (by omega))]; rfl
      · exact ⟨i + 1, ⟨by omega, by omega, take_all_succ hlt hall (decide_eq_true (by omega))⟩, ⟨[0], ToR.S rfl (by repeat' (first | exact rt_nil | refine rt_t rfl rfl ?_ | refine rt_e rfl rfl ?_ | refine rt_p rfl rfl (by first | (simp [AV.bd, bdL, bdL_append]; done) | fail) ?_)) (by repeat' (first | exact ro_nil | refine ro_p rfl (by first | exact rfl | fail) (by first | (simp [bdL, bdL_append, AV.bd]; done) | fail) ?_)) rfl (by (rw [hm]; exact rfl)) rfl (by (simp [bdT, AV.bd, bdL, bdL_append]; done)) (by repeat' (first | exact True.intro | refine And.intro ?_ ?_ | (simp [bdOq, bdL, bdL_append, AV.bd]; done))) (by (rw [hm]; exact Nat.le_of_ble_eq_true rfl))⟩⟩
    · rw [all_of_take' (by omega) hall, Bool.true_and]
      (repeat' (first | apply jA | apply jF | apply jH | apply jJ | apply jL | apply jP | (refine wp_cond rfl (fun hc => ?_) (fun hc => ?_) <;> (try simp only [sB, ne_eq, reduceCtorEq] at hc) <;> (try (exfalso; omega))) | (refine WP.regionC (id := 4) ?_; (refine smove rfl ?_); (refine sfieldp rfl rfl rfl ?_); (refine sloadp rfl rfl rfl rfl ?_); (refine slenm rfl rfl ?_); (refine slss rfl rfl ?_); apply jW) | (refine WP.regionC (id := 8) ?_; (refine sassign rfl ?_); apply jW)))
      refine wp_loop (fun (i : Nat) => i ≤ l.length ∧ (l.take i).all fewV = true) (fun i => l.length - i)
        (fun i => (S 59 [(1, levelsA l), (8, intA (i : Nat))] 0 [])) 0 ⟨[], ToR.S rfl (by repeat' (first | exact rt_nil | refine rt_e rfl rfl ?_ | refine rt_p rfl rfl (by first | (simp [AV.bd, bdL, bdL_append]; done) | fail) ?_)) (by repeat' (exact ro_nil)) rfl (by (rw [hm]; exact rfl)) rfl (by (simp [bdT, AV.bd, bdL, bdL_append]; done)) (by repeat' (exact True.intro)) (by (rw [hm]; exact Nat.le_of_ble_eq_true rfl))⟩ ⟨Nat.zero_le _, rfl⟩ ?_
      rintro j ⟨hj, hallj⟩
      by_cases hltj : j < l.length
      · have hb := hl6 _ (nth_mem hltj)
        (repeat' (first | apply jA | apply jF | apply jH | apply jI | apply jK | apply jM | apply jN | apply jO | apply jS | (refine wp_cond rfl (fun hc => ?_) (fun hc => ?_) <;> (try simp only [sB, ne_eq, reduceCtorEq] at hc) <;> (try (exfalso; omega))) | (refine WP.regionC (id := 9) ?_; (refine smove rfl ?_); (refine smove rfl ?_); (refine slenm rfl rfl ?_); (refine slss rfl rfl ?_); apply jW) | (refine WP.regionC (id := 11) ?_; (refine smove rfl ?_); (refine smove rfl ?_); (refine sidxn rfl rfl (by omega) ?_); (refine su (afieldi rfl rfl rfl) ?_); (refine su (aloadi rfl rfl) ?_); (refine slenm rfl rfl ?_); (refine su (agtr rfl rfl) ?_); apply jW) | (refine WP.regionC (id := 12) ?_; (refine sassign rfl ?_); apply jW) | (refine WP.regionC (id := 10) ?_; (refine smove rfl ?_); (refine sadd rfl rfl (by exact inr_i64_of (by omega)) ?_); (refine sassign rfl ?_); apply jW) | refine ret_b rfl ?_))
        · rw [all_nth_no (f := fewV) hltj (decide_eq_false (by omega))]
        · exact ⟨j + 1, ⟨by omega, by omega, take_all_succ hltj hallj (decide_eq_true (by omega))⟩, ⟨[], ToR.S rfl (by repeat' (first | exact rt_nil | refine rt_e rfl rfl ?_ | refine rt_p rfl rfl (by first | (simp [AV.bd, bdL, bdL_append]; done) | fail) ?_)) (by repeat' (exact ro_nil)) rfl (by (rw [hm]; exact rfl)) rfl (by (simp [bdT, AV.bd, bdL, bdL_append]; done)) (by repeat' (exact True.intro)) (by (rw [hm]; exact Nat.le_of_ble_eq_true rfl))⟩⟩
      · rw [all_of_take' (by omega) hallj]
        (repeat' (first | apply jA | apply jH | apply jJ | apply jK | apply jL | apply jP | apply jS | (refine wp_cond rfl (fun hc => ?_) (fun hc => ?_) <;> (try simp only [sB, ne_eq, reduceCtorEq] at hc) <;> (try (exfalso; omega))) | (refine WP.regionC (id := 9) ?_; (refine smove rfl ?_); (refine smove rfl ?_); (refine slenm rfl rfl ?_); (refine slss rfl rfl ?_); apply jW) | (refine WP.regionC (id := 13) ?_; (refine sassign rfl ?_); apply jW) | exact ret_eq rfl rfl rfl))
  · rw [decide_eq_false hc0, Bool.false_and, Bool.false_and]
    (repeat' (first | apply jA | apply jH | apply jK | apply jM | apply jS | (refine wp_cond rfl (fun hc => ?_) (fun hc => ?_) <;> (try simp only [sB, ne_eq, reduceCtorEq] at hc) <;> (try (exfalso; omega))) | (refine WP.regionC (id := 0) ?_; (refine se_box rfl (by exact ⟨rfl, rfl⟩) ?_); (refine sassign rfl ?_); apply jW) | (refine WP.regionC (id := 1) ?_; (refine sfieldp rfl rfl rfl ?_); (refine sloadp rfl rfl rfl rfl ?_); (refine slenm rfl rfl ?_); (refine su (agtr rfl rfl) ?_); (refine smove rfl ?_); (refine sg (gq_vf rfl rfl) (fun he => ap_field_p (rq_p rfl rfl) rfl rfl) ?_); (refine sg (gq_vf rfl rfl) (fun he => ap_load_p (rq_c rfl rfl) rfl rfl rfl) ?_); (refine sg (gq_vf rfl rfl) (fun he => ap_len_m rfl (rq_c rfl rfl)) ?_); (refine sg (gq_vf rfl rfl) (fun he => ap_gtr (rq_c rfl rfl) (rq_p rfl rfl)) ?_); (refine su (ap_or (rq_p rfl rfl) (rq_c rfl rfl)) ?_); (refine smove rfl ?_); (refine sg (gq_vf rfl rfl) (fun he => ap_field_p (rq_p rfl rfl) rfl rfl) ?_); (refine sg (gq_vf rfl rfl) (fun he => ap_load_p (rq_c rfl rfl) rfl rfl rfl) ?_); (refine sg (gq_vf rfl rfl) (fun he => ap_len_m rfl (rq_c rfl rfl)) ?_); (refine sg (gq_vf rfl rfl) (fun he => ap_move (rq_p rfl rfl)) ?_); (refine sg (gq_vf rfl rfl) (fun he => ap_gtr (rq_c rfl rfl) (rq_c rfl rfl)) ?_); (refine su (ap_or (rq_p rfl rfl) (rq_c rfl rfl)) ?_); (refine smove rfl ?_); (refine sg (gq_vf rfl rfl) (fun he => ap_move (rq_p rfl rfl)) ?_); (refine sg (gq_vf rfl rfl) (fun he => ap_len_m rfl (rq_c rfl rfl)) ?_); (refine sg (gq_vf rfl rfl) (fun he => ap_gtr (rq_c rfl rfl) (rq_p rfl rfl)) ?_); (refine su (ap_or (rq_p rfl rfl) (rq_c rfl rfl)) ?_); apply jW) | (refine WP.regionC (id := 2) ?_; (refine sassign rfl ?_); apply jW) | exact ret_eq rfl rfl rfl))
    all_goals (rfl)
end Go.Lg

namespace Go.Lg
open Go.Proofs
set_option linter.unusedSimpArgs false
set_option linter.unusedVariables false
attribute [local irreducible] Ap Rq asemC WP RunD Ret Gq thenA inBlockA bodyQ noGotoA RqL RqP OpP
set_option maxHeartbeats 4000000
set_option maxRecDepth 20000
attribute [local simp] AV.cells
structure FewL (l : List GLe) : Prop where
  n : l.length ≤ 10
  t : ∀ x, x ∈ l → x.tokens.length ≤ 10
theorem FewL.of {g : Gram} {l : List GLe} {n : Int} (h : fewG g l n = true) : FewL l := by
  unfold fewG at h
  simp only [Bool.and_eq_true, decide_eq_true_eq, List.all_eq_true] at h
  exact ⟨h.1.1.2.2.2, fun x hx => by have := h.2 x hx; simpa [fewV] using this⟩
theorem lvlTok_succ {l : List GLe} {i : Nat} (hi : i < l.length) : lvlTok (l.take (i + 1)) = lvlTok (l.take i) ++ (nth l i).tokens := by
  unfold lvlTok
  rw [take_succ_nth hi, List.map_append, List.flatten_append]
  simp
theorem lvlTok_pre {l : List GLe} {i k : Nat} (hi : i < l.length) (hk : k < (nth l i).tokens.length) : (lvlTok (l.take i) ++ (nth l i).tokens.take k ++ [nth (nth l i).tokens k]) <+: lvlTok l := by
  have h1 : lvlTok l = lvlTok (l.take (i + 1)) ++ lvlTok (l.drop (i + 1)) := by
    unfold lvlTok
    rw [← List.flatten_append, ← List.map_append, List.take_append_drop]
  have h2 : (nth l i).tokens.take k ++ [nth (nth l i).tokens k] = (nth l i).tokens.take (k + 1) := (take_succ_nth hk).symm
  rw [List.append_assoc, h2, h1, lvlTok_succ hi, List.append_assoc]
  exact (List.prefix_append_right_inj _).2 (List.IsPrefix.trans (List.take_prefix _ _) (List.prefix_append _ _))
end Go.Lg

namespace Go.Lg
open Go.Proofs
set_option linter.unusedSimpArgs false
set_option linter.unusedVariables false
attribute [local irreducible] Ap Rq asemC WP RunD Ret Gq thenA inBlockA bodyQ noGotoA RqL RqP OpP
set_option maxHeartbeats 4000000
set_option maxRecDepth 20000
attribute [local simp] AV.cells
end Go.Lg

namespace Go.Lg
open Go.Proofs
set_option linter.unusedSimpArgs false
set_option linter.unusedVariables false
attribute [local irreducible] Ap Rq asemC WP RunD Ret Gq thenA inBlockA bodyQ noGotoA RqL RqP OpP
set_option maxHeartbeats 4000000
set_option maxRecDepth 20000
attribute [local simp] AV.cells
theorem noTok_nth {g : Gram} {l : List GLe} {i k : Nat} (hi : i < l.length) (hk : k < (nth l i).tokens.length) (h : ¬ 0 ≤ termI g (nth (nth l i).tokens k)) : noTok g l = false := by
  rw [Bool.eq_false_iff]
  intro hn
  unfold noTok lvlTok at hn
  rw [List.all_eq_true] at hn
  have := hn _ (List.mem_flatten.2 ⟨_, List.mem_map.2 ⟨_, nth_mem hi, rfl⟩, nth_mem hk⟩)
  exact h (by simpa using this)
theorem noTok_all {g : Gram} {l : List GLe} (h : ∀ i, i < l.length → ∀ k, k < (nth l i).tokens.length → 0 ≤ termI g (nth (nth l i).tokens k)) : noTok g l = true := by
  unfold noTok lvlTok
  rw [List.all_eq_true]
  intro s hs
  obtain ⟨q, hq, hs⟩ := List.mem_flatten.1 hs
  obtain ⟨x, hx, rfl⟩ := List.mem_map.1 hq
  obtain ⟨i, hi, rfl⟩ := List.getElem_of_mem hx
  obtain ⟨k, hk, rfl⟩ := List.getElem_of_mem hs
  have h2 := h i hi
  rw [nth_eq hi] at h2
  have := h2 k hk
  rw [nth_eq hk] at this
  simpa using this
theorem confl_any {g : Gram} {l : List GLe} {i : Nat} (hi : i < g.rules.length) (h : conflG g l i = true) : (List.range g.rules.length).any (conflG g l) = true := by
  rw [List.any_eq_true]; exact ⟨i, List.mem_range.2 hi, h⟩
theorem sameOp_iff {g : Gram} {l : List GLe} {r s : Rul} : sameOp g l r s = true ↔ 0 ≤ binL g l s ∧ s.head = r.head ∧ nth s.body 1 = nth r.body 1 := by
  unfold sameOp
  simp only [Bool.and_eq_true, decide_eq_true_eq, and_assoc]
theorem bin_len3 {g : Gram} {l : List GLe} {r : Rul} (h : 0 ≤ binL g l r) : r.body.length = 3 := (selfB_iff.1 (bin_self h).1).1
end Go.Lg

namespace Go.Lg
open Go.RowKit
set_option linter.unusedVariables false
section
variable {P : Program} {Γ : Cx} {A : Nat → Prop} {ρ : Nat → Option Nat} {s : St} {a : Act} {w : World}
set_option maxHeartbeats 1600000 in
theorem append_two (h : SRa Γ A ρ s a w) {t tx ty e : TypeId} {ti te : TI} (ht : tinfo P t = some ti) (he : ti.elem = some e) (hte : tinfo P e = some te) {d : TypeDesc} (hd : P.underlying tx = some d) (hd' : ∀ k, d ≠ .int k) (hz0 : (zeroA te).isSome = true)
    {y : AV} {v u : Value} {id len : Nat} {es ys : List AV} (hlook : s.look id = some (.arr te.size es)) (hel : es.length = len) (hx : RV A ρ (Im Γ ρ s w) w (.ref id te.size 0 len) v) (hy : RV A ρ (Im Γ ρ s w) w y u) (hys : srcA te s.look y = some ys) (hpos : 0 < ys.length) (hroom : room te (es.length + ys.length)) {nid : Nat} (hn : nid < s.objs.length) (hA : ¬ A nid) :
    ∃ z w', (Builtin.append_ #[t, tx] ty #[v, u]).run P w = .ok z w' ∧
      ((SRa Γ A ρ (s.set id (some (.arr te.size (es ++ ys)))) a w' ∧ RV A ρ (Im Γ ρ (s.set id (some (.arr te.size (es ++ ys)))) w') w' (.ref id te.size 0 (es ++ ys).length) z) ∨
       ∃ ρ', SRa Γ (fun i => A i ∨ i = nid) ρ' (s.set nid (some (.arr te.size (es ++ ys)))) a w' ∧ RV (fun i => A i ∨ i = nid) ρ' (Im Γ ρ' (s.set nid (some (.arr te.size (es ++ ys)))) w') w' (.ref nid te.size 0 (es ++ ys).length) z) := by
  have hu := elem_spec ht he
  obtain ⟨z0, hz0⟩ := Option.isSome_iff_exists.1 hz0
  obtain ⟨zv, _, hzc, _, _, hzl, hs0, _, i, hi, hz, hsz, hby⟩ := zeroA_spec hte hz0
  have hzcs : zv.cells.size = te.size := by rw [← Array.length_toList, hzc, hzl]
  have grow : ∀ (olds news : List Value) (es ys : List AV) (old : Nat), old < es.length + ys.length → CR A ρ (Im Γ ρ s w) w (flat es) olds → CR A ρ (Im Γ ρ s w) w (flat ys) news → (∀ e, e ∈ es → e.cells.length = te.size) → (∀ e, e ∈ ys → e.cells.length = te.size) →
      room te (es.length + ys.length) →
      let w' := w.drew.alloc (.cells (olds.toArray ++ news.toArray ++ Builtin.zeroCells zv.cells (grownCap w (es.length + ys.length) old e - (es.length + ys.length))) e)
      let ρ' := fun i => if i = nid then some w.heap.size else ρ i
      SRa Γ (fun i => A i ∨ i = nid) ρ' (s.set nid (some (.arr te.size (es ++ ys)))) a w' ∧
      csize w' w.heap.size = some (grownCap w (es.length + ys.length) old e * te.size) ∧ es.length + ys.length ≤ grownCap w (es.length + ys.length) old e ∧ grownCap w (es.length + ys.length) old e ≤ maxLen := by
    intro olds news es ys old hold ho hnw hke hky hroom w' ρ'
    have hall : ∀ e, e ∈ es ++ ys → e.cells.length = te.size := fun e he => (List.mem_append.1 he).elim (hke e) (hky e)
    have hcr : CR A ρ (Im Γ ρ s w) w (flat (es ++ ys)) (olds ++ news) := by rw [flat_append]; exact ho.append hnw
    have hfl := flat_length hall
    have hl := hcr.len
    have hrow := hcr.row hall (Builtin.zeroCells zv.cells (grownCap w (es.length + ys.length) old e - (es.length + ys.length))).toList
    have heq : (olds ++ news ++ (Builtin.zeroCells zv.cells (grownCap w (es.length + ys.length) old e - (es.length + ys.length))).toList).toArray = olds.toArray ++ news.toArray ++ Builtin.zeroCells zv.cells (grownCap w (es.length + ys.length) old e - (es.length + ys.length)) := by
      apply Array.ext'; simp
    rw [heq] at hrow
    have hge := grownCap_ge w (es.length + ys.length) old e
    have hpos : es.length + ys.length ≤ maxLen := by
      have hb := hroom.1
      have : es.length + ys.length ≤ (es.length + ys.length) * te.bytes := Nat.le_mul_of_pos_right _ (Nat.pos_of_ne_zero hroom.2)
      simp only [maxLen]; omega
    refine ⟨(h.drawn (w.drawn + 1)).newRow hn hA e (hrow.drawn _), ?_, hge, grownCap_le_maxLen w _ old e hpos⟩
    refine (csize_block (heap_alloc_new w.drew _)).trans ?_
    congr 1
    rw [← heq]
    simp only [List.size_toArray, List.length_append, hfl, Array.length_toList, size_zeroCells, hzcs] at hl ⊢
    rw [hl, ← Nat.add_mul]
    congr 1
    omega
  obtain ⟨news, hsrc, hcr, hky⟩ := srcA_sound h hy hys
  have hlive := St.look_some.1 hlook
  cases hx with
  | @ref _ _ _ _ cap b hAi hb hl hcs hm =>
    subst hel
    obtain ⟨cs, t', hblk, hrow⟩ := h.row hlook hb
    have hft := flat_length hrow.wide
    have hcap : cs.size = cap * te.size := by rw [csize_block hblk] at hcs; simpa using hcs
    have hocr := hrow.cr
    have hll := hocr.len
    have hof : ∀ d, (Builtin.firstCells i.size es.length (.slice (some ⟨b, 0 * te.size, none⟩) es.length cap)).run P { w with drawn := d } = .ok (cs.toList.take (flat es).length).toArray { w with drawn := d } := fun d => by
      refine firstCells_some i.size es.length b _ cap _ (by rw [hll, hft, hsz]) (fun j u hu => ?_) d es.length
      rw [cell_of_block hblk]
      rw [List.getElem?_take] at hu
      split at hu
      · simpa using hu
      · cases hu
    have hrun := run_append_gen (P := P) (w := w) (t := t) (tx := tx) (ty := ty) hu hd hd' hi hz hof (by rw [hsz]; exact hsrc) (by rw [hby]; exact hroom.1) (by rw [hby]; exact hroom.2)
    by_cases hle : es.length + ys.length ≤ cap
    · have hnl := hcr.len
      have hyl := flat_length hky
      have hfit : es.length * te.size + news.length ≤ cs.size := by
        rw [hnl, hyl, hcap, ← Nat.add_mul]; exact Nat.mul_le_mul_right _ hle
      have hst := run_storeCells_at P b (es.length * te.size) t' news 0 cs w hblk (by simpa using hfit) hcr.atoms
      simp only [Nat.add_zero] at hst
      have hall : ∀ e, e ∈ es ++ ys → e.cells.length = te.size := fun e he => (List.mem_append.1 he).elim (hrow.wide e) (hky e)
      have hrow2 : Row A ρ (Im Γ ρ s w) w te.size (es ++ ys) (cs.toList.take (es.length * te.size) ++ news ++ cs.toList.drop (es.length * te.size + news.length)).toArray := by
        have := (hocr.append hcr)
        rw [← flat_append, hft] at this
        exact this.row hall _
      have hw1 := h.writeRow (w' := w.setRow b (cs.toList.take (es.length * te.size) ++ news ++ cs.toList.drop (es.length * te.size + news.length)).toArray) hlive hb (by simp) rfl rfl rfl (fun c hc => setRow_grow w b c _ hc) hblk (setRow_heap w b cs _ t' (0, 0) hblk)
        (by simp only [List.size_toArray, List.length_append, List.length_take, List.length_drop, Array.length_toList]; omega) hrow2
      refine ⟨_, _, hrun.1 hle _ ?_, .inl ⟨hw1, ?_⟩⟩
      · simpa [hsz, add_lit] using hst
      · rw [List.length_append]
        have hcz := csize_block (setRow_heap w b cs (cs.toList.take (es.length * te.size) ++ news ++ cs.toList.drop (es.length * te.size + news.length)).toArray t' (0, 0) hblk)
        refine .ref hAi hb hle (hcz.trans ?_) hm
        congr 1
        rw [Nat.zero_add, ← hcap]
        simp only [List.size_toArray, List.length_append, List.length_take, List.length_drop, Array.length_toList]
        omega
    · have hg := grow _ news es ys cap (by omega) hocr hcr hrow.wide hky hroom
      obtain ⟨g1, g2, g3, g4⟩ := hg
      refine ⟨_, _, hrun.2 (by omega), .inr ⟨_, g1, ?_⟩⟩
      rw [List.length_append]
      exact .ref0 (.inr rfl) (by simp) g3 g2 g4
  | refn hAi hb =>
    have hnone := h.obj id _ hlive
    rw [hb] at hnone
    obtain ⟨k0, hk0⟩ := hnone.resolve_left (by simp)
    injection hk0 with _ hes
    subst hes
    have hrun := run_append_gen (P := P) (w := w) (t := t) (tx := tx) (ty := ty) hu hd hd' hi hz (base := none) (sLen := 0) (sCap := 0) (olds := []) (fun d => by simp [Builtin.firstCells]) (by rw [hsz]; exact hsrc) (by rw [hby]; simpa using hroom.1) (by rw [hby]; exact hroom.2)
    have hg := grow [] news [] ys 0 (by simp; omega) ⟨rfl, by simp, by simp [flat]⟩ hcr (by simp) hky (by simpa using hroom)
    simp only [List.length_nil, Nat.zero_add, List.nil_append] at hg hrun
    obtain ⟨g1, g2, g3, g4⟩ := hg
    exact ⟨_, _, hrun.2 (by omega), .inr ⟨_, g1, .ref0 (.inr rfl) (by simp) g3 g2 g4⟩⟩
end
section
variable {P : Program} {Γ : Cx} {n M : Nat} {l : List (Nat × AV)} {os : List (Nat × Option AObj)} {x X : AV} {d t : Tmp} {ty : TypeId} {pos : String} {af : Array Edge} {ops : Array Oper} {rest : List Oper} {K : St → Prop} {Q : Exit → St → Prop} {a b : Operand} {g : FuncId} {first cap xa ys : List AV} {f : Operand} {args : Array Operand} {tys : Array TypeId}
theorem wpo_app2 {i : Nat} {te tj : TI} {tx ty2 : TypeId} {k bt id len : Nat} {es zs : List AV} {y : AV} [ht : TEl P ty te k bt] [h3 : TIc P tx tj] (hop : ops[i]? = some ⟨some d, .call ⟨.builtin .append, #[a, b], #[ty, tx]⟩, ty2, pos, af, none⟩)
    (hsh : (match tj.sh with | .int => false | _ => true) = true) (ha : opq n l a = some (.ref id k 0 len)) (ho : lookq M os id = some (.arr k es)) (hl : es.length = len)
    (hb : opq n l b = some y) (hy : srcA te (lookq M os) y = some zs) (hpos : 0 < zs.length) (hz0 : (zeroA te).isSome = true) (hbt : Nat.beq bt 0 = false) (hr : (es.length + zs.length) * bt ≤ 140737488355328)
    (h1 : K (S n ((d, .ref id k 0 (es ++ zs).length) :: l) (M + 1) ((id, some (.arr k (es ++ zs))) :: (M, none) :: os)))
    (h2 : K (S n ((d, .ref M k 0 (es ++ zs).length) :: l) (M + 1) ((M, some (.arr k (es ++ zs))) :: os))) : WPO P Γ ops Q i K (S n l M os) := by
  obtain ⟨ti, el, g1, he, hs, g4, hsz, hbz⟩ := ht.h
  subst hsz
  intro ac w hs0
  unfold wpOp
  rw [hop]
  simp only
  rw [if_pos (by simp [Region.wanted])]
  refine .inl ?_
  obtain ⟨ρ, hρ⟩ := hs0
  have hM : (S n l M os).objs.length = M := ol_length M os
  have hroom := hρ.room'
  have e0 : ({ S n l M os with objs := (S n l M os).objs ++ [none] } : St) = S n l (M + 1) ((M, none) :: os) := by simp only [S]; rw [ol_push]
  rw [e0, hM] at hroom
  have hsh' : ¬ tj.sh = .int := by intro h; rw [h] at hsh; cases hsh
  obtain ⟨dd, hd, hd'⟩ := sh_not_int h3.h hsh'
  have hb0 : te.bytes ≠ 0 := by rw [hbz]; exact Nat.ne_of_beq_eq_false hbt
  have hrm : room te (es.length + zs.length) := ⟨by rw [hbz]; exact hr, hb0⟩
  have hidM : id < M := by
    unfold lookq at ho
    cases h : Nat.blt id M with
    | true => exact blt_of h
    | false => rw [h] at ho; simp at ho
  have hlk : ∀ j, j < M → lookq (M + 1) ((M, none) :: os) j = lookq M os j := fun j hj => by
    rw [← S_look n l, ← S_look n l]
    simp only [St.look, S]
    rw [← ol_push, List.getElem?_append_left (by rw [ol_length]; exact hj)]
  have hx := hroom.eval a
  have hyv := hroom.eval b
  have hopa : (S n l (M + 1) ((M, none) :: os)).op a = .ref id te.size 0 len := opq_op ha
  have hopb : (S n l (M + 1) ((M, none) :: os)).op b = y := opq_op hb
  rw [hopa] at hx
  rw [hopb] at hyv
  have hlook : (S n l (M + 1) ((M, none) :: os)).look id = some (.arr te.size es) := by rw [S_look, hlk id hidM]; exact ho
  have hys : srcA te (S n l (M + 1) ((M, none) :: os)).look y = some zs := by
    have e1 : ∀ j o, lookq M os j = some o → (S n l (M + 1) ((M, none) :: os)).look j = some o := fun j o hj => by
      have hjM : j < M := by
        unfold lookq at hj
        cases h : Nat.blt j M with
        | true => exact blt_of h
        | false => rw [h] at hj; simp at hj
      rw [S_look, hlk j hjM]; exact hj
    cases y with
    | ref id2 k2 off2 len2 =>
      simp only [srcA] at hy ⊢
      cases hq : lookq M os id2 with
      | none => rw [hq] at hy; cases hy
      | some o => rw [hq] at hy; rw [e1 _ _ hq]; exact hy
    | val v =>
      have e2 : ∀ f g : Nat → Option AObj, srcA te f (.val v) = srcA te g (.val v) := fun f g => by
        cases v with
        | slice a n c => cases a <;> cases n <;> rfl
        | _ => rfl
      rw [e2 _ (lookq M os)]; exact hy
    | _ => exact hy
  obtain ⟨z, w', hrun, hres⟩ := append_two (P := P) (ty := ty2) hroom g1 he g4 hd hd' hz0 hlook hl hx hyv hys hpos hrm (nid := M) (by rw [show (S n l (M + 1) ((M, none) :: os)).objs.length = M + 1 from ol_length _ _]; omega) (by omega)
  unfold Oper.wp
  rw [show (execOp ac.eval ⟨some d, .call ⟨.builtin .append, #[a, b], #[ty, tx]⟩, ty2, pos, af, none⟩).run P w = .ok (.value z) w' by simp_all [execOp, resolve, invoke, builtin]]
  simp only [Oper.upon]
  rcases hres with ⟨hA, hv⟩ | ⟨ρ', hA, hv⟩
  · refine ⟨_, h1, ρ, ?_⟩
    have h5 := hA.put (some d) hv
    have e : ((S n l (M + 1) ((M, none) :: os)).set id (some (.arr te.size (es ++ zs)))).put (some d) (.ref id te.size 0 (es ++ zs).length) = S n ((d, .ref id te.size 0 (es ++ zs).length) :: l) (M + 1) ((id, some (.arr te.size (es ++ zs))) :: (M, none) :: os) := by simp [S, St.set, St.put, ol_set, tl_set]
    rw [e] at h5
    refine h5.more (fun j hj => ?_) (fun j hj => hj)
    rw [show (S n ((d, AV.ref id te.size 0 (es ++ zs).length) :: l) (M + 1) ((id, some (.arr te.size (es ++ zs))) :: (M, none) :: os)).objs.length = M + 1 from ol_length _ _]
    omega
  · refine ⟨_, h2, ρ', ?_⟩
    have h5 := hA.put (some d) hv
    have e : ((S n l (M + 1) ((M, none) :: os)).set M (some (.arr te.size (es ++ zs)))).put (some d) (.ref M te.size 0 (es ++ zs).length) = S n ((d, .ref M te.size 0 (es ++ zs).length) :: l) (M + 1) ((M, some (.arr te.size (es ++ zs))) :: os) := by
      simp only [S, St.set, St.put, tl_set, St.mk.injEq, true_and]
      rw [← ol_push, ← ol_push, List.set_append_right _ _ (by rw [ol_length]; omega), ol_length, Nat.sub_self]
      rfl
    rw [e] at h5
    refine h5.more (fun j hj => ?_) (fun j hj => hj)
    rw [show (S n ((d, AV.ref M te.size 0 (es ++ zs).length) :: l) (M + 1) ((M, some (.arr te.size (es ++ zs))) :: os)).objs.length = M + 1 from ol_length _ _]
    omega
def FnQ (P : Program) (g : FuncId) (ys : List AV) (os : List AObj) (post : AV → List (Option AObj) → Prop) : Prop :=
  Spec P g ys (os.map some) fun r o' => post r o' ∧ os.length ≤ o'.length ∧ r.bd o'.length = true
def RetQ (P : Program) (rs : List ResultVar) (m : Nat) (post : AV → List (Option AObj) → Prop) (s : St) : Prop := ∃ X os', post X os' ∧ m ≤ os'.length ∧ X.bd os'.length = true ∧ RetO P rs m X os' s
theorem FnQ.intro {fn : Func} {c : Code} {aos : List AObj} {post : AV → List (Option AObj) → Prop} {rs : List ResultVar} (he : enterable P g = true) (hf : P.funcs[g]? = some fn) (hb : fn.body = some c) (hrs : fn.results = rs.toArray) (hn : fn.ntmps = n) (hl : ys.length ≤ n)
    (h : ∀ Γ : Cx, Γ.m = aos.length → WP P Γ c (bodyQ (RetQ P rs aos.length post)) (S n (enumA 0 ys) aos.length (enumO 0 aos))) : FnQ P g ys aos post := by
  refine Spec.introR he hf hb (rs := rs) (by rw [hrs]) fun Γ hm => ?_
  subst hn
  rw [List.length_map] at hm
  rw [tl_start _ _ hl]
  have hw := h Γ hm
  simp only [S, ← ol_enum] at hw
  refine WP.mono hw ?_
  have key : ∀ s, RetQ P rs aos.length post s → ∃ x y l t, resN P s rs = some x ∧ ToR (aos.map some).length l ⟨[x], s.objs⟩ ⟨[y], t⟩ ∧ (post y t ∧ aos.length ≤ t.length ∧ y.bd t.length = true) := by
    rintro s ⟨X, os', h1, h2, h3, x, is, h4, h5⟩
    exact ⟨x, X, is, os', h4, by rw [List.length_map]; exact h5, h1, h2, h3⟩
  intro e s hq
  cases e with
  | normal => exact key s hq
  | ret => exact key s hq
  | _ => exact hq
end
section
variable {P : Program} {Γ : Cx} {n M : Nat} {l : List (Nat × AV)} {os : List (Nat × Option AObj)} {x : AV} {d : Tmp} {ty : TypeId} {pos : String} {af : Array Edge} {ops : Array Oper} {Q : Exit → St → Prop} {fuel : Nat} {listed : Array Bool}
end
section
variable {P : Program} {Γ : Cx} {A : Nat → Prop} {ρ : Nat → Option Nat} {s : St} {a : Act} {w : World}
end
section
variable {P : Program} {Γ : Cx} {n M : Nat} {l : List (Nat × AV)} {os : List (Nat × Option AObj)} {c : Code} {Q : Exit → St → Prop}
end
section
variable {P : Program} {n M : Nat} {l : List (Nat × AV)} {os : List (Nat × Option AObj)} {ty : TypeId} {a b : Operand} {y : AV} {pos : String} {af : Array Edge} {ops : Array Oper} {rest : List Oper} {N i : Nat} 
def oneE : AV → Bool
  | .agg _ => false
  | e => e.one
end
section
variable {P : Program} {Γ : Cx} {n M : Nat} {l : List (Nat × AV)} {os : List (Nat × Option AObj)} {c : Code} {Q : Exit → St → Prop}
end
theorem wp_cut {P : Program} {Γ : Cx} {c : Code} {s : St} {Q' : Exit → St → Prop} (R : St → Prop) (h1 : WP P Γ c (fun e s => e = .normal ∧ R s) s) (h2 : ∀ s, R s → Q' .normal s) : WP P Γ c Q' s :=
  h1.mono fun e s ⟨he, hr⟩ => by subst he; exact h2 s hr
section
variable {P : Program} {n M : Nat} {l : List (Nat × AV)} {os : List (Nat × Option AObj)} {d : Tmp} {ty : TypeId} {pos : String} {af : Array Edge} {ops : Array Oper} {rest : List Oper} {K : St → Prop} {a b : Operand}
end
section
variable {P : Program} {Γ : Cx} {n M : Nat} {l : List (Nat × AV)} {os : List (Nat × Option AObj)} {c : Code} {Q : Exit → St → Prop}
end
end Go.Lg
