/-
  Part 20 of the proof of PrecedenceStratifyCard: the logic over the model, the functions' contracts and the plain laws.
-/
import Derived.Test.YtmgpndmmodkhhaaDoorPs19
import Derived.OrdersIn

set_option linter.unusedSimpArgs false
set_option linter.unusedVariables false
set_option linter.unusedSectionVars false
set_option linter.defProp false

namespace Go.Lg
open Go.RowKit
section
variable {P : Program} {Γ : Cx} {n M : Nat} {l : List (Nat × AV)} {os : List (Nat × Option AObj)} {Q : Exit → St → Prop}
end
end Go.Lg

namespace Go.Lg
open Go.RowKit
section
variable {P : Program} {Γ : Cx} {n M : Nat} {l : List (Nat × AV)} {os : List (Nat × Option AObj)} {Q : Exit → St → Prop}
end
end Go.Lg

namespace Go.Lg
open Go.Proofs
set_option linter.unusedSimpArgs false
set_option linter.unusedVariables false
attribute [local irreducible] Ap Rq asemC WP RunD Ret Gq thenA inBlockA bodyQ noGotoA RqL RqP OpP
set_option maxHeartbeats 4000000
set_option maxRecDepth 20000
attribute [local simp] AV.cells rdT
end Go.Lg

namespace Go.Lg
section
variable {g : Gram} {pr : List Bool}
end
end Go.Lg

namespace Go.Lg
open Go.Proofs
set_option linter.unusedSimpArgs false
set_option linter.unusedVariables false
attribute [local irreducible] Ap Rq asemC WP RunD Ret Gq thenA inBlockA bodyQ noGotoA RqL RqP OpP
set_option maxHeartbeats 4000000
set_option maxRecDepth 20000
attribute [local simp] AV.cells
end Go.Lg

namespace Go.Lg
open Go.Proofs
set_option linter.unusedSimpArgs false
set_option linter.unusedVariables false
attribute [local irreducible] Ap Rq asemC WP RunD Ret Gq thenA inBlockA bodyQ noGotoA RqL RqP OpP
set_option maxHeartbeats 4000000
set_option maxRecDepth 20000
attribute [local simp] AV.cells
end Go.Lg

namespace Go.Lg
open Go.Proofs
set_option linter.unusedSimpArgs false
set_option linter.unusedVariables false
attribute [local irreducible] Ap Rq asemC WP RunD Ret Gq thenA inBlockA bodyQ noGotoA RqL RqP OpP
set_option maxHeartbeats 4000000
set_option maxRecDepth 20000
attribute [local simp] AV.cells
end Go.Lg

namespace Go.Lg
open Go.Proofs
set_option linter.unusedSimpArgs false
set_option linter.unusedVariables false
attribute [local irreducible] Ap Rq asemC WP RunD Ret Gq thenA inBlockA bodyQ noGotoA RqL RqP OpP
set_option maxHeartbeats 4000000
set_option maxRecDepth 20000
attribute [local simp] AV.cells
end Go.Lg

namespace Go.Lg
open Go.Proofs
set_option linter.unusedSimpArgs false
set_option linter.unusedVariables false
attribute [local irreducible] Ap Rq asemC WP RunD Ret Gq thenA inBlockA bodyQ noGotoA RqL RqP OpP
set_option maxHeartbeats 4000000
set_option maxRecDepth 20000
attribute [local simp] AV.cells
mutual
def leftT : Tre → Int → Int → Int
  | .mk _ _ l, lev, m => if 60 < lev ∨ m ≤ 0 then -1 else leftTL l lev (m - 1)
def leftTL : List Tre → Int → Int → Int
  | [], _, m => m
  | t :: l, lev, m => if 0 ≤ m then leftTL l lev (leftT t (lev + 1) m) else m
end
end Go.Lg

namespace Go.Lg
open Go.Proofs
set_option linter.unusedSimpArgs false
set_option linter.unusedVariables false
attribute [local irreducible] Ap Rq asemC WP RunD Ret Gq thenA inBlockA bodyQ noGotoA RqL RqP OpP
set_option maxHeartbeats 4000000
set_option maxRecDepth 20000
attribute [local simp] AV.cells
mutual
def lfT (n : Nat) : Tre → Bool
  | .mk r _ l => if r < 0 then decide (r = -1) && decide (l.length = 0) else decide (r < n) && lfTL n l
def lfTL (n : Nat) : List Tre → Bool
  | [] => true
  | t :: l => lfT n t && lfTL n l
end
end Go.Lg

namespace Go.Lg
mutual
def liftT (fr : List Int) : Tre → List Tre
  | .mk r t l => if r = -1 then [.mk r t l] else if nth fr r.toNat = -1 then liftTL fr l else [.mk (nth fr r.toNat) 0 (liftTL fr l)]
def liftTL (fr : List Int) : List Tre → List Tre
  | [] => []
  | t :: l => liftT fr t ++ liftTL fr l
end
end Go.Lg

namespace Go.Lg
open Go.Proofs
set_option linter.unusedSimpArgs false
set_option linter.unusedVariables false
attribute [local irreducible] Ap Rq asemC WP RunD Ret Gq thenA inBlockA bodyQ noGotoA RqL RqP OpP
set_option maxHeartbeats 4000000
set_option maxRecDepth 20000
theorem dd_step {u : Nat} (h : 0 < u / 10) : Lib.decDigits u = Lib.decDigits (u / 10) ++ [UInt8.ofNat (48 + u % 10)] := by
  rw [Lib.decDigits]
  split
  · omega
  · rfl
theorem dd_lt {u : Nat} (h : u / 10 = 0) : Lib.decDigits u = [UInt8.ofNat (48 + u % 10)] := by
  rw [Lib.decDigits_one (by omega), Nat.mod_eq_of_lt (by omega)]
theorem tmod10Y (n : Nat) : (n : Int).tmod 10 = ((n % 10 : Nat) : Int) := by rw [Int.tmod_eq_emod_of_nonneg (by omega)]; omega
theorem tdiv10Y (n : Nat) : (n : Int).tdiv 10 = ((n / 10 : Nat) : Int) := by rw [Int.tdiv_eq_ediv_of_nonneg (by omega)]; omega
theorem dd_len : ∀ n : Nat, n ≤ 1000000 → (Lib.decDigits n).length ≤ 21 := fun n hn => by
  have := Lib.itoa_length_le (n : Int) (by omega) (by omega)
  rw [itoa_nat] at this; exact this
attribute [local simp] AV.cells
end Go.Lg

namespace Go.Lg
def lvlTok (l : List GLe) : List ByteArray := (l.map (·.tokens)).flatten
def levOk (x : GLe) : Bool := decide (1 ≤ x.assoc) && decide (x.assoc ≤ 3) && decide (x.tokens.length ≠ 0)
def levsOk (l : List GLe) : Bool := l.all levOk && decide (lvlTok l).Nodup
def termI (g : Gram) (s : ByteArray) : Int := indexP (fun x => decide (x = s)) g.terms
def levelG (g : Gram) (l : List GLe) (t : Int) : Int := indexP (fun x : GLe => x.tokens.any fun n => decide (termI g n = t)) l
def selfB (r : Rul) : Bool := decide (r.body.length = 3) && decide (nth r.body 0 = -1 - r.head) && decide (nth r.body 2 = -1 - r.head) && decide (0 ≤ nth r.body 1)
def binL (g : Gram) (l : List GLe) (r : Rul) : Int := if selfB r then levelG g l (nth r.body 1) else -1
def noTok (g : Gram) (l : List GLe) : Bool := (lvlTok l).all fun s => decide (0 ≤ termI g s)
def sameOp (g : Gram) (l : List GLe) (r s : Rul) : Bool := decide (0 ≤ binL g l s) && decide (s.head = r.head) && decide (nth s.body 1 = nth r.body 1)
def conflG (g : Gram) (l : List GLe) (i : Nat) : Bool :=
  if 0 ≤ binL g l (nth g.rules i) then (g.rules.take i).any (sameOp g l (nth g.rules i)) else (nth g.rules i).body.any fun t => decide (0 ≤ t) && decide (0 ≤ levelG g l t)
def checkG (g : Gram) (l : List GLe) : Int := if validG g && levsOk l then (if noTok g l then (if (List.range g.rules.length).any (conflG g l) then 14 else 0) else 4) else 1
def useL (g : Gram) (l : List GLe) (e : Nat) : List Nat := (List.range l.length).filter fun (i : Nat) => g.rules.any fun r => decide (r.head = (e : Int)) && decide (binL g l r = (i : Int))
def offN (g : Gram) (l : List GLe) : Nat → Nat
  | 0 => g.nonterms.length
  | e + 1 => offN g l e + (useL g l e).length
def chnG (g : Gram) (l : List GLe) (e : Nat) : List Int := (e : Int) :: (List.range (useL g l e).length).map fun (i : Nat) => ((offN g l e + i : Nat) : Int)
def namG (g : Gram) (l : List GLe) (e : Nat) : List ByteArray := (List.range (useL g l e).length).map fun (i : Nat) => nth g.nonterms e ++ ⟨#[64]⟩ ++ tx (Lib.itoa ((i + 2 : Nat) : Int))
def namsG (g : Gram) (l : List GLe) (k : Nat) : List ByteArray := g.nonterms ++ ((List.range k).map (namG g l)).flatten
def lastC (g : Gram) (l : List GLe) (e : Nat) : Int := nth (chnG g l e) (useL g l e).length
def posU (g : Gram) (l : List GLe) (e : Nat) (b : Int) : Nat := (indexP (fun (i : Nat) => decide ((i : Int) = b)) (useL g l e)).toNat
def ruleS (g : Gram) (l : List GLe) (r : Rul) : Rul :=
  if 0 ≤ binL g l r then
    ⟨nth (chnG g l r.head.toNat) (posU g l r.head.toNat (binL g l r)),
      [-1 - nth (chnG g l r.head.toNat) (posU g l r.head.toNat (binL g l r) + if (nth l (binL g l r).toNat).assoc = 1 then 0 else 1), nth r.body 1,
        -1 - nth (chnG g l r.head.toNat) (posU g l r.head.toNat (binL g l r) + if (nth l (binL g l r).toNat).assoc = 2 then 0 else 1)], r.price⟩
  else ⟨lastC g l r.head.toNat, (List.range r.body.length).map fun k => if (k = 0 ∨ k + 1 = r.body.length) ∧ nth r.body k = -1 - r.head then -1 - lastC g l r.head.toNat else nth r.body k, r.price⟩
def unitS (g : Gram) (l : List GLe) (e : Nat) : List Rul := (List.range (useL g l e).length).map fun i => ⟨nth (chnG g l e) i, [-1 - nth (chnG g l e) (i + 1)], 0⟩
def unitsS (g : Gram) (l : List GLe) (k : Nat) : List Rul := ((List.range k).map (unitS g l)).flatten
def stratG (g : Gram) (l : List GLe) : Gram := ⟨g.terms, namsG g l g.nonterms.length, g.start, g.rules.map (ruleS g l) ++ unitsS g l g.nonterms.length⟩
def fromG (g : Gram) (l : List GLe) : List Int := (List.range g.rules.length).map (fun (i : Nat) => (i : Int)) ++ List.replicate (unitsS g l g.nonterms.length).length (-1)
def zG : Gram := ⟨[], [], 0, []⟩
def stratR (g : Gram) (l : List GLe) : Gram × List Int × Int :=
  if checkG g l = 0 then (if validG (stratG g l) then (stratG g l, fromG g l, 0) else (zG, [], 11)) else (zG, [], checkG g l)
section
variable (g : Gram) (l : List GLe)
theorem chnG_len (e : Nat) : (chnG g l e).length = (useL g l e).length + 1 := by simp [chnG]
theorem mem_chn {e : Nat} {k : Int} : k ∈ chnG g l e ↔ k = (e : Int) ∨ ((offN g l e : Int) ≤ k ∧ k < ((offN g l e + (useL g l e).length : Nat) : Int)) := by
  simp only [chnG, List.mem_cons, List.mem_map, List.mem_range]
  constructor
  · rintro (h | ⟨i, hi, rfl⟩)
    · exact .inl h
    · exact .inr ⟨by omega, by omega⟩
  · rintro (h | ⟨h1, h2⟩)
    · exact .inl h
    · exact .inr ⟨(k - offN g l e).toNat, by omega, by omega⟩
theorem namG_len (e : Nat) : (namG g l e).length = (useL g l e).length := by simp [namG]
theorem namsG_len (k : Nat) : (namsG g l k).length = offN g l k := by
  induction k with
  | zero => simp [namsG, offN]
  | succ k ih =>
    simp only [namsG, List.length_append] at ih
    simp only [namsG, List.range_succ, List.map_append, List.map_cons, List.map_nil, List.flatten_append, List.flatten_cons, List.flatten_nil, List.append_nil, List.length_append, namG_len, offN]
    omega
theorem namsG_succ (k : Nat) : namsG g l (k + 1) = namsG g l k ++ namG g l k := by
  simp [namsG, List.range_succ]
theorem unitS_len (e : Nat) : (unitS g l e).length = (useL g l e).length := by simp [unitS]
theorem unitsS_succ (k : Nat) : unitsS g l (k + 1) = unitsS g l k ++ unitS g l k := by
  simp [unitsS, List.range_succ]
theorem useL_len (e : Nat) : (useL g l e).length ≤ l.length := by
  have := List.length_filter_le (fun (i : Nat) => g.rules.any fun r => decide (r.head = (e : Int)) && decide (binL g l r = (i : Int))) (List.range l.length)
  simpa [useL] using this
theorem levelG_lt (t : Int) : -1 ≤ levelG g l t ∧ levelG g l t < l.length := indexP_lt _ _
theorem binL_lt (r : Rul) : -1 ≤ binL g l r ∧ binL g l r < l.length := by
  unfold binL
  split
  · exact levelG_lt g l _
  · omega
theorem bin_used {r : Rul} (hr : r ∈ g.rules) (h0 : 0 ≤ r.head) (hb : 0 ≤ binL g l r) : (binL g l r).toNat ∈ useL g l r.head.toNat := by
  have := binL_lt g l r
  simp only [useL, List.mem_filter, List.mem_range, List.any_eq_true, Bool.and_eq_true, decide_eq_true_eq]
  exact ⟨by omega, r, hr, by omega, by omega⟩
theorem posU_is {e i : Nat} (h : i ∈ useL g l e) : posU g l e (i : Int) < (useL g l e).length ∧ nth (useL g l e) (posU g l e (i : Int)) = i := by
  obtain ⟨j, hj, e1⟩ := List.getElem_of_mem h
  have hex : ∃ k : Nat, k < (useL g l e).length ∧ indexP (fun (x : Nat) => decide ((x : Int) = (i : Int))) (useL g l e) = k ∧ nth (useL g l e) k = i := by
    have h1 := indexP_lt (fun (x : Nat) => decide ((x : Int) = (i : Int))) (useL g l e)
    have h2 : ∀ k : Nat, k < (useL g l e).length → (∀ m, m < k → nth (useL g l e) m ≠ i) → nth (useL g l e) k = i → indexP (fun (x : Nat) => decide ((x : Int) = (i : Int))) (useL g l e) = k := fun k hk hm hq =>
      indexP_is hk (by simp [hq]) fun m hmk => decide_eq_false fun h => hm m hmk (by omega)
    have hfirst : ∀ n, n ≤ (useL g l e).length → (∃ k, k < n ∧ nth (useL g l e) k = i) → ∃ k, k < n ∧ nth (useL g l e) k = i ∧ ∀ m, m < k → nth (useL g l e) m ≠ i := by
      intro n
      induction n with
      | zero => rintro _ ⟨k, hk, _⟩; omega
      | succ n ih =>
        rintro hn ⟨k, hk, hq⟩
        by_cases hex : ∃ k, k < n ∧ nth (useL g l e) k = i
        · obtain ⟨k', a, b, c⟩ := ih (by omega) hex
          exact ⟨k', by omega, b, c⟩
        · refine ⟨k, hk, hq, fun m hm hmi => hex ⟨m, by omega, hmi⟩⟩
    obtain ⟨k, a, b, c⟩ := hfirst _ (Nat.le_refl _) ⟨j, hj, by rw [nth_eq hj]; exact e1⟩
    exact ⟨k, a, h2 k a c b, b⟩
  obtain ⟨k, a, b, c⟩ := hex
  unfold posU
  rw [b, Int.toNat_natCast]
  exact ⟨a, c⟩
end
end Go.Lg

namespace Go.Lg
section
variable {g : Gram} {l : List GLe}
theorem selfB_iff {r : Rul} : selfB r = true ↔ r.body.length = 3 ∧ nth r.body 0 = -1 - r.head ∧ nth r.body 2 = -1 - r.head ∧ 0 ≤ nth r.body 1 := by
  simp only [selfB, Bool.and_eq_true, decide_eq_true_eq, and_assoc]
theorem bin_self {r : Rul} (h : 0 ≤ binL g l r) : selfB r = true ∧ binL g l r = levelG g l (nth r.body 1) := by
  unfold binL at h ⊢
  split
  · rename_i h1; exact ⟨h1, rfl⟩
  · rename_i h1; rw [if_neg h1] at h; omega
end
end Go.Lg

namespace Go.Lg
open Go.Proofs
set_option linter.unusedSimpArgs false
set_option linter.unusedVariables false
attribute [local irreducible] Ap Rq asemC WP RunD Ret Gq thenA inBlockA bodyQ noGotoA RqL RqP OpP
set_option maxHeartbeats 4000000
set_option maxRecDepth 20000
theorem same20_fn (a b : List Int) : Fn Tryd.prog 17 [intsA a, intsA b] (boolA (decide (a = b))) := by
  refine Fn.intro rfl (by kernel_rfl) Tryd.func17 rfl rfl Tryd.ntmps17 (by exact Nat.le_of_ble_eq_true rfl) ?_; intro Γ hm
  refine wp_lens 0 rfl fun h0 => wp_lens 1 rfl fun h1 => ?_
  have h0 : a.length ≤ 9223372036854775807 := by have := h0; simp [AV.lens, intsA] at this; omega
  have h1 : b.length ≤ 9223372036854775807 := by have := h1; simp [AV.lens, intsA] at this; omega
  by_cases hlen : a.length = b.length
  · (repeat' (first | apply jA | apply jF | apply jH | apply jI | (refine wp_cond rfl (fun hc => ?_) (fun hc => ?_) <;> (try simp only [sB, ne_eq, reduceCtorEq] at hc) <;> (try (exfalso; omega))) | (refine WP.regionC ?_; (refine sassign rfl ?_); apply jW) | (refine WP.regionC (id := 1) ?_; (refine smove rfl ?_); (refine slenm rfl rfl ?_); (refine smove rfl ?_); (refine slenm rfl rfl ?_); (refine su (aneq rfl rfl) ?_); apply jW)))
    all_goals try (exfalso; omega)
    refine wp_loop (fun (i : Nat) => i ≤ a.length ∧ a.take i = b.take i) (fun i => a.length - i)
      (fun i => (S 26 [(0, intsA a), (1, intsA b), (5, intA (i : Nat))] 0 [])) 0 ⟨[], ToR.S rfl (by repeat' (first | exact rt_nil | refine rt_e rfl rfl ?_ | refine rt_p rfl rfl (by first | (simp [AV.bd, bdL, bdL_append]; done) | fail) ?_)) (by repeat' (exact ro_nil)) rfl (by (rw [hm]; exact rfl)) rfl (by (simp [bdT, AV.bd, bdL, bdL_append]; done)) (by repeat' (exact True.intro)) (by (rw [hm]; exact Nat.le_of_ble_eq_true rfl))⟩ ⟨Nat.zero_le _, rfl⟩ ?_
    rintro i ⟨hi, hall⟩
    by_cases hlt : i < a.length
    · (repeat' (first | apply jA | apply jF | apply jH | apply jI | apply jK | apply jM | apply jN | apply jO | apply jS | (refine wp_cond rfl (fun hc => ?_) (fun hc => ?_) <;> (try simp only [sB, ne_eq, reduceCtorEq] at hc) <;> (try (exfalso; omega))) | (refine WP.regionC (id := 4) ?_; (refine smove rfl ?_); (refine smove rfl ?_); (refine slenm rfl rfl ?_); (refine slss rfl rfl ?_); apply jW) | (refine wp_draw (id := 6) 9 mixed (by kernel_rfl) (by kernel_rfl) rfl ?_ <;> (refine rmove rfl ?_) <;> (refine rmove rfl ?_) <;> (refine rd_u rfl rfl (aidxn rfl rfl (by omega)) ?_) <;> (refine rd_u rfl rfl (aloadw rfl rfl) ?_) <;> (refine rmove rfl ?_) <;> (refine rmove rfl ?_) <;> (refine rd_u rfl rfl (aidxn rfl rfl (by omega)) ?_) <;> (refine rd_u rfl rfl (aloadw rfl rfl) ?_) <;> (refine rd_u rfl rfl (aneq rfl rfl) ?_) <;> (refine rd_end (by kernel_rfl) ?_)) | (refine WP.regionC (id := 7) ?_; (refine sassign rfl ?_); apply jW) | (refine WP.regionC (id := 5) ?_; (refine smove rfl ?_); (refine sadd rfl rfl (by exact inr_i64_of (by omega)) ?_); (refine sassign rfl ?_); apply jW) | refine ret_b rfl ?_))
      · rw [decide_eq_false]
        rintro rfl
        exact absurd rfl hc
      · exact ⟨i + 1, ⟨by omega, by omega, take_eq_succ (by omega) (by omega) hall hc⟩, ⟨[], ToR.S rfl (by repeat' (first | exact rt_nil | refine rt_e rfl rfl ?_ | refine rt_p rfl rfl (by first | (simp [AV.bd, bdL, bdL_append]; done) | fail) ?_)) (by repeat' (exact ro_nil)) rfl (by (rw [hm]; exact rfl)) rfl (by (simp [bdT, AV.bd, bdL, bdL_append]; done)) (by repeat' (exact True.intro)) (by (rw [hm]; exact Nat.le_of_ble_eq_true rfl))⟩⟩
    · rw [decide_eq_true (eq_of_takes hlen (by omega) hall)]
      (repeat' (first | apply jA | apply jH | apply jJ | apply jK | apply jL | apply jP | apply jS | (refine wp_cond rfl (fun hc => ?_) (fun hc => ?_) <;> (try simp only [sB, ne_eq, reduceCtorEq] at hc) <;> (try (exfalso; omega))) | (refine WP.regionC (id := 4) ?_; (refine smove rfl ?_); (refine smove rfl ?_); (refine slenm rfl rfl ?_); (refine slss rfl rfl ?_); apply jW) | (refine WP.regionC (id := 8) ?_; (refine sassign rfl ?_); apply jW) | exact ret_eq rfl rfl rfl))
  · rw [decide_eq_false (fun h => hlen (by rw [h]))]
    (repeat' (first | apply jA | apply jH | apply jK | apply jM | apply jS | (refine wp_cond rfl (fun hc => ?_) (fun hc => ?_) <;> (try simp only [sB, ne_eq, reduceCtorEq] at hc) <;> (try (exfalso; omega))) | (refine WP.regionC ?_; (refine sassign rfl ?_); apply jW) | (refine WP.regionC (id := 1) ?_; (refine smove rfl ?_); (refine slenm rfl rfl ?_); (refine smove rfl ?_); (refine slenm rfl rfl ?_); (refine su (aneq rfl rfl) ?_); apply jW) | exact ret_eq rfl rfl rfl))
    all_goals (rfl)
def fewR (r : Rul) : Bool := decide (r.body.length ≤ 20)
def fewV (x : GLe) : Bool := decide (x.tokens.length ≤ 10)
def fewG (g : Gram) (l : List GLe) (n : Int) : Bool := decide (g.terms.length ≤ 130 ∧ g.nonterms.length ≤ 130 ∧ (g.rules.length : Int) ≤ n ∧ l.length ≤ 10) && g.rules.all fewR && l.all fewV
theorem few20_fn (g : Gram) (l : List GLe) (n : Int) (h0 : 0 ≤ n) (h1 : n ≤ 1000) : Fn Tryd.prog 10 [gramA g, levelsA l, intA n] (boolA (fewG g l n)) := by
  unfold fewG
  refine Fn.intro rfl (by kernel_rfl) Tryd.func10 rfl rfl Tryd.ntmps10 (by exact Nat.le_of_ble_eq_true rfl) ?_; intro Γ hm
  refine wp_lens 0 rfl fun hl => wp_lens 1 rfl fun hll => ?_
  obtain ⟨hl1, hl2, hl3, hl4⟩ := (lens_gramA g).1 hl
  have hl5 : l.length ≤ 9223372036854775807 := by have := hll; simp [AV.lens, levelsA] at this; omega
  have hl6 : ∀ x, x ∈ l → x.tokens.length ≤ 9223372036854775807 := by have := hll; intro x hx; simp [AV.lens, levelsA, lensL_map, levelA] at this; have := this.2 x hx; simp [lensL, AV.lens, intA, strsA] at this; omega
  by_cases hc0 : g.terms.length ≤ 130 ∧ g.nonterms.length ≤ 130 ∧ (g.rules.length : Int) ≤ n ∧ l.length ≤ 10
  · rw [decide_eq_true hc0, Bool.true_and]
    (repeat' (first | apply jA | apply jF | apply jH | apply jI | (refine wp_cond rfl (fun hc => ?_) (fun hc => ?_) <;> (try simp only [sB, ne_eq, reduceCtorEq] at hc) <;> (try (exfalso; omega))) | (refine WP.regionC (id := 0) ?_; (refine se_box rfl (by exact ⟨rfl, rfl⟩) ?_); (refine sassign rfl ?_); apply jW) | (refine WP.regionC (id := 1) ?_; (refine sfieldp rfl rfl rfl ?_); (refine sloadp rfl rfl rfl rfl ?_); (refine slenm rfl rfl ?_); (refine su (agtr rfl rfl) ?_); (refine smove rfl ?_); (refine sg (gq_vf rfl rfl) (fun he => ap_field_p (rq_p rfl rfl) rfl rfl) ?_); (refine sg (gq_vf rfl rfl) (fun he => ap_load_p (rq_c rfl rfl) rfl rfl rfl) ?_); (refine sg (gq_vf rfl rfl) (fun he => ap_len_m rfl (rq_c rfl rfl)) ?_); (refine sg (gq_vf rfl rfl) (fun he => ap_gtr (rq_c rfl rfl) (rq_p rfl rfl)) ?_); (refine su (ap_or (rq_p rfl rfl) (rq_c rfl rfl)) ?_); (refine smove rfl ?_); (refine sg (gq_vf rfl rfl) (fun he => ap_field_p (rq_p rfl rfl) rfl rfl) ?_); (refine sg (gq_vf rfl rfl) (fun he => ap_load_p (rq_c rfl rfl) rfl rfl rfl) ?_); (refine sg (gq_vf rfl rfl) (fun he => ap_len_m rfl (rq_c rfl rfl)) ?_); (refine sg (gq_vf rfl rfl) (fun he => ap_move (rq_p rfl rfl)) ?_); (refine sg (gq_vf rfl rfl) (fun he => ap_gtr (rq_c rfl rfl) (rq_c rfl rfl)) ?_); (refine su (ap_or (rq_p rfl rfl) (rq_c rfl rfl)) ?_); (refine smove rfl ?_); (refine sg (gq_vf rfl rfl) (fun he => ap_move (rq_p rfl rfl)) ?_); (refine sg (gq_vf rfl rfl) (fun he => ap_len_m rfl (rq_c rfl rfl)) ?_); (refine sg (gq_vf rfl rfl) (fun he => ap_gtr (rq_c rfl rfl) (rq_p rfl rfl)) ?_); (refine su (ap_or (rq_p rfl rfl) (rq_c rfl rfl)) ?_); apply jW) | (refine WP.regionC (id := 3) ?_; (refine sassign rfl ?_); apply jW)))
    all_goals try (exfalso; omega)
    refine wp_loop (fun (i : Nat) => i ≤ g.rules.length ∧ (g.rules.take i).all fewR = true) (fun i => g.rules.length - i)
      (fun i => (S 59 [(1, levelsA l), (3, .ptr 0 4 0 0), (7, intA (i : Nat))] 1 [(0, some (.arr 4 [gramA g]))])) 0 ⟨[0], ToR.S rfl (by repeat' (first | exact rt_nil | refine rt_t rfl rfl ?_ | refine rt_e rfl rfl ?_ | refine rt_p rfl rfl (by first | (simp [AV.bd, bdL, bdL_append]; done) | fail) ?_)) (by repeat' (first | exact ro_nil | refine ro_p rfl (by first | exact rfl | fail) (by first | (simp [bdL, bdL_append, AV.bd]; done) | fail) ?_)) rfl (by (rw [hm]; exact rfl)) rfl (by (simp [bdT, AV.bd, bdL, bdL_append]; done)) (by repeat' (first | exact True.intro | refine And.intro ?_ ?_ | (simp [bdOq, bdL, bdL_append, AV.bd]; done))) (by (rw [hm]; exact Nat.le_of_ble_eq_true rfl))⟩ ⟨Nat.zero_le _, rfl⟩ ?_
    rintro i ⟨hi, hall⟩
    by_cases hlt : i < g.rules.length
    · have hb := hl4 _ (nth_mem hlt)
      (repeat' (first | apply jA | apply jF | apply jH | apply jI | apply jK | apply jM | apply jN | apply jO | apply jS | (refine wp_cond rfl (fun hc => ?_) (fun hc => ?_) <;> (try simp only [sB, ne_eq, reduceCtorEq] at hc) <;> (try (exfalso; omega))) | (refine WP.regionC (id := 4) ?_; (refine smove rfl ?_); (refine sfieldp rfl rfl rfl ?_); (refine sloadp rfl rfl rfl rfl ?_); (refine slenm rfl rfl ?_); (refine slss rfl rfl ?_); apply jW) | (refine WP.regionC (id := 6) ?_; (refine sfieldp rfl rfl rfl ?_); (refine sloadp rfl rfl rfl rfl ?_); (refine smove rfl ?_); (refine sidxn rfl rfl (by omega) ?_); (refine su (afieldi rfl rfl rfl) ?_); (refine su (aloadi rfl rfl) ?_); (refine slenm rfl rfl ?_); (refine su (agtr rfl rfl) ?_); apply jW) | (refine WP.regionC (id := 7) ?_; (refine sassign rfl ?_); apply jW) | (refine WP.regionC (id := 5) ?_; (refine smove rfl ?_); (refine sadd rfl rfl (by exact inr_i64_of (by omega)) ?_); (refine sassign rfl ?_); apply jW) | refine ret_b rfl ?_))
      · rw [all_nth_no (f := fewR) hlt (decide_eq_false (by omega))]; rfl
      · exact ⟨i + 1, ⟨by omega, by omega, take_all_succ hlt hall (decide_eq_true (by omega))⟩, ⟨[0], ToR.S rfl (by repeat' (first | exact rt_nil | refine rt_t rfl rfl ?_ | refine rt_e rfl rfl ?_ | refine rt_p rfl rfl (by first | (simp [AV.bd, bdL, bdL_append]; done) | fail) ?_)) (by repeat' (first | exact ro_nil | refine ro_p rfl (by first | exact rfl | fail) (by first | (simp [bdL, bdL_append, AV.bd]; done) | fail) ?_)) rfl (by (rw [hm]; exact rfl)) rfl (by (simp [bdT, AV.bd, bdL, bdL_append]; done)) (by repeat' (first | exact True.intro | refine And.intro ?_ ?_ | (simp [bdOq, bdL, bdL_append, AV.bd]; done))) (by (rw [hm]; exact Nat.le_of_ble_eq_true rfl))⟩⟩
    · rw [all_of_take' (by omega) hall, Bool.true_and]
      (repeat' (first | apply jA | apply jF | apply jH | apply jJ | apply jL | apply jP | (refine wp_cond rfl (fun hc => ?_) (fun hc => ?_) <;> (try simp only [sB, ne_eq, reduceCtorEq] at hc) <;> (try (exfalso; omega))) | (refine WP.regionC (id := 4) ?_; (refine smove rfl ?_); (refine sfieldp rfl rfl rfl ?_); (refine sloadp rfl rfl rfl rfl ?_); (refine slenm rfl rfl ?_); (refine slss rfl rfl ?_); apply jW) | (refine WP.regionC (id := 8) ?_; (refine sassign rfl ?_); apply jW)))
      refine wp_loop (fun (i : Nat) => i ≤ l.length ∧ (l.take i).all fewV = true) (fun i => l.length - i)
        (fun i => (S 59 [(1, levelsA l), (8, intA (i : Nat))] 0 [])) 0 ⟨[], ToR.S rfl (by repeat' (first | exact rt_nil | refine rt_e rfl rfl ?_ | refine rt_p rfl rfl (by first | (simp [AV.bd, bdL, bdL_append]; done) | fail) ?_)) (by repeat' (exact ro_nil)) rfl (by (rw [hm]; exact rfl)) rfl (by (simp [bdT, AV.bd, bdL, bdL_append]; done)) (by repeat' (exact True.intro)) (by (rw [hm]; exact Nat.le_of_ble_eq_true rfl))⟩ ⟨Nat.zero_le _, rfl⟩ ?_
      rintro j ⟨hj, hallj⟩
      by_cases hltj : j < l.length
      · have hb := hl6 _ (nth_mem hltj)
        (repeat' (first | apply jA | apply jF | apply jH | apply jI | apply jK | apply jM | apply jN | apply jO | apply jS | (refine wp_cond rfl (fun hc => ?_) (fun hc => ?_) <;> (try simp only [sB, ne_eq, reduceCtorEq] at hc) <;> (try (exfalso; omega))) | (refine WP.regionC (id := 9) ?_; (refine smove rfl ?_); (refine smove rfl ?_); (refine slenm rfl rfl ?_); (refine slss rfl rfl ?_); apply jW) | (refine WP.regionC (id := 11) ?_; (refine smove rfl ?_); (refine smove rfl ?_); (refine sidxn rfl rfl (by omega) ?_); (refine su (afieldi rfl rfl rfl) ?_); (refine su (aloadi rfl rfl) ?_); (refine slenm rfl rfl ?_); (refine su (agtr rfl rfl) ?_); apply jW) | (refine WP.regionC (id := 12) ?_; (refine sassign rfl ?_); apply jW) | (refine WP.regionC (id := 10) ?_; (refine smove rfl ?_); (refine sadd rfl rfl (by exact inr_i64_of (by omega)) ?_); (refine sassign rfl ?_); apply jW) | refine ret_b rfl ?_))
        · rw [all_nth_no (f := fewV) hltj (decide_eq_false (by omega))]
        · exact ⟨j + 1, ⟨by omega, by omega, take_all_succ hltj hallj (decide_eq_true (by omega))⟩, ⟨[], ToR.S rfl (by repeat' (first | exact rt_nil | refine rt_e rfl rfl ?_ | refine rt_p rfl rfl (by first | (simp [AV.bd, bdL, bdL_append]; done) | fail) ?_)) (by repeat' (exact ro_nil)) rfl (by (rw [hm]; exact rfl)) rfl (by (simp [bdT, AV.bd, bdL, bdL_append]; done)) (by repeat' (exact True.intro)) (by (rw [hm]; exact Nat.le_of_ble_eq_true rfl))⟩⟩
      · rw [all_of_take' (by omega) hallj]
        (repeat' (first | apply jA | apply jH | apply jJ | apply jK | apply jL | apply jP | apply jS | (refine wp_cond rfl (fun hc => ?_) (fun hc => ?_) <;> (try simp only [sB, ne_eq, reduceCtorEq] at hc) <;> (try (exfalso; omega))) | (refine WP.regionC (id := 9) ?_; (refine smove rfl ?_); (refine smove rfl ?_); (refine slenm rfl rfl ?_); (refine slss rfl rfl ?_); apply jW) | (refine WP.regionC (id := 13) ?_; (refine sassign rfl ?_); apply jW) | exact ret_eq rfl rfl rfl))
  · rw [decide_eq_false hc0, Bool.false_and, Bool.false_and]
    (repeat' (first | apply jA | apply jH | apply jK | apply jM | apply jS | (refine wp_cond rfl (fun hc => ?_) (fun hc => ?_) <;> (try simp only [sB, ne_eq, reduceCtorEq] at hc) <;> (try (exfalso; omega))) | (refine WP.regionC (id := 0) ?_; (refine se_box rfl (by exact ⟨rfl, rfl⟩) ?_); (refine sassign rfl ?_); apply jW) | (refine WP.regionC (id := 1) ?_; (refine sfieldp rfl rfl rfl ?_); (refine sloadp rfl rfl rfl rfl ?_); (refine slenm rfl rfl ?_); (refine su (agtr rfl rfl) ?_); (refine smove rfl ?_); (refine sg (gq_vf rfl rfl) (fun he => ap_field_p (rq_p rfl rfl) rfl rfl) ?_); (refine sg (gq_vf rfl rfl) (fun he => ap_load_p (rq_c rfl rfl) rfl rfl rfl) ?_); (refine sg (gq_vf rfl rfl) (fun he => ap_len_m rfl (rq_c rfl rfl)) ?_); (refine sg (gq_vf rfl rfl) (fun he => ap_gtr (rq_c rfl rfl) (rq_p rfl rfl)) ?_); (refine su (ap_or (rq_p rfl rfl) (rq_c rfl rfl)) ?_); (refine smove rfl ?_); (refine sg (gq_vf rfl rfl) (fun he => ap_field_p (rq_p rfl rfl) rfl rfl) ?_); (refine sg (gq_vf rfl rfl) (fun he => ap_load_p (rq_c rfl rfl) rfl rfl rfl) ?_); (refine sg (gq_vf rfl rfl) (fun he => ap_len_m rfl (rq_c rfl rfl)) ?_); (refine sg (gq_vf rfl rfl) (fun he => ap_move (rq_p rfl rfl)) ?_); (refine sg (gq_vf rfl rfl) (fun he => ap_gtr (rq_c rfl rfl) (rq_c rfl rfl)) ?_); (refine su (ap_or (rq_p rfl rfl) (rq_c rfl rfl)) ?_); (refine smove rfl ?_); (refine sg (gq_vf rfl rfl) (fun he => ap_move (rq_p rfl rfl)) ?_); (refine sg (gq_vf rfl rfl) (fun he => ap_len_m rfl (rq_c rfl rfl)) ?_); (refine sg (gq_vf rfl rfl) (fun he => ap_gtr (rq_c rfl rfl) (rq_p rfl rfl)) ?_); (refine su (ap_or (rq_p rfl rfl) (rq_c rfl rfl)) ?_); apply jW) | (refine WP.regionC (id := 2) ?_; (refine sassign rfl ?_); apply jW) | exact ret_eq rfl rfl rfl))
    all_goals (rfl)
end Go.Lg

namespace Go.Lg
open Go.Proofs
set_option linter.unusedSimpArgs false
set_option linter.unusedVariables false
attribute [local irreducible] Ap Rq asemC WP RunD Ret Gq thenA inBlockA bodyQ noGotoA RqL RqP OpP
set_option maxHeartbeats 4000000
set_option maxRecDepth 20000
attribute [local simp] AV.cells
structure FewL (l : List GLe) : Prop where
  n : l.length ≤ 10
  t : ∀ x, x ∈ l → x.tokens.length ≤ 10
theorem FewL.of {g : Gram} {l : List GLe} {n : Int} (h : fewG g l n = true) : FewL l := by
  unfold fewG at h
  simp only [Bool.and_eq_true, decide_eq_true_eq, List.all_eq_true] at h
  exact ⟨h.1.1.2.2.2, fun x hx => by have := h.2 x hx; simpa [fewV] using this⟩
theorem lvlTok_succ {l : List GLe} {i : Nat} (hi : i < l.length) : lvlTok (l.take (i + 1)) = lvlTok (l.take i) ++ (nth l i).tokens := by
  unfold lvlTok
  rw [take_succ_nth hi, List.map_append, List.flatten_append]
  simp
theorem lvlTok_pre {l : List GLe} {i k : Nat} (hi : i < l.length) (hk : k < (nth l i).tokens.length) : (lvlTok (l.take i) ++ (nth l i).tokens.take k ++ [nth (nth l i).tokens k]) <+: lvlTok l := by
  have h1 : lvlTok l = lvlTok (l.take (i + 1)) ++ lvlTok (l.drop (i + 1)) := by
    unfold lvlTok
    rw [← List.flatten_append, ← List.map_append, List.take_append_drop]
  have h2 : (nth l i).tokens.take k ++ [nth (nth l i).tokens k] = (nth l i).tokens.take (k + 1) := (take_succ_nth hk).symm
  rw [List.append_assoc, h2, h1, lvlTok_succ hi, List.append_assoc]
  exact (List.prefix_append_right_inj _).2 (List.IsPrefix.trans (List.take_prefix _ _) (List.prefix_append _ _))
theorem lvlTok_len {l : List GLe} (h : ∀ x, x ∈ l → x.tokens.length ≤ 10) : (lvlTok l).length ≤ 10 * l.length := by
  induction l with
  | nil => simp [lvlTok]
  | cons a l ih =>
    have h1 := h a (by simp)
    have h2 := ih fun x hx => h x (by simp [hx])
    simp only [lvlTok, List.map_cons, List.flatten_cons, List.length_append, List.length_cons] at h2 ⊢
    omega
theorem levs20_fn (l : List GLe) (hf : FewL l) : Fn Tryd.prog 28 [levelsA l] (boolA (levsOk l)) := by
  have hfn := hf.n
  have hft := hf.t
  refine Fn.intro rfl (by kernel_rfl) Tryd.func28 rfl rfl Tryd.ntmps28 (by exact Nat.le_of_ble_eq_true rfl) ?_; intro Γ hm
  (repeat' (first | apply jA | apply jF | apply jH | (refine WP.regionC ?_; (refine sassign rfl ?_); apply jW)))
  refine wp_nil 3 1 rfl ?_
  refine wp_loop (fun (i : Nat) => i ≤ l.length ∧ (l.take i).all levOk = true ∧ (lvlTok (l.take i)).Nodup) (fun i => l.length - i)
    (fun i => (S 76 [(0, levelsA l), (3, .ref 0 1 0 (lvlTok (l.take i)).length), (4, intA (i : Nat))] 1 [(0, some (.arr 1 ((lvlTok (l.take i)).map strA)))])) 0 ⟨[0], ToR.S rfl (by repeat' (first | exact rt_nil | refine rt_r rfl rfl ?_ | refine rt_e rfl rfl ?_ | refine rt_p rfl rfl (by first | (simp [AV.bd, bdL, bdL_append]; done) | fail) ?_)) (by repeat' (first | exact ro_nil | refine ro_e rfl rfl ?_)) rfl (by (rw [hm]; exact rfl)) rfl (by (simp [bdT, AV.bd, bdL, bdL_append]; done)) (by repeat' (first | exact True.intro | exact rfl | refine And.intro ?_ ?_)) (by (rw [hm]; exact Nat.le_of_ble_eq_true rfl))⟩ ⟨Nat.zero_le _, rfl, by simp [lvlTok]⟩ ?_
  rintro i ⟨hi, hall, hnd⟩
  have hln := lvlTok_len (l := l.take i) fun x hx => hft x (List.mem_of_mem_take hx)
  rw [List.length_take] at hln
  by_cases hlt : i < l.length
  · have htk := hft _ (nth_mem hlt)
    by_cases hok : levOk (nth l i) = true
    · have hok' := hok
      simp only [levOk, Bool.and_eq_true, decide_eq_true_eq] at hok'
      (repeat' (first | apply jA | apply jF | apply jH | apply jI | (refine wp_cond rfl (fun hc => ?_) (fun hc => ?_) <;> (try simp only [sB, ne_eq, reduceCtorEq] at hc) <;> (try (exfalso; omega))) | (refine WP.regionC (id := 3) ?_; (refine smove rfl ?_); (refine smove rfl ?_); (refine slenm rfl rfl ?_); (refine slss rfl rfl ?_); apply jW) | (refine WP.regionC (id := 5) ?_; (refine smove rfl ?_); (refine smove rfl ?_); (refine sidxn rfl rfl (by omega) ?_); (refine su (afieldi rfl rfl rfl) ?_); (refine su (aloadi rfl rfl) ?_); (refine slss rfl rfl ?_); (refine smove rfl ?_); (refine sg (gq_vf rfl rfl) (fun he => ap_move (rq_p rfl rfl)) ?_); (refine sg (gq_vf rfl rfl) (fun he => ap_move (rq_p rfl rfl)) ?_); (refine sg (gq_vf rfl rfl) (fun he => ap_idx_n (rq_c rfl rfl) (rq_c rfl rfl) (by (try simp only [sH, id, sB, ne_eq, reduceCtorEq] at he); omega)) ?_); (refine sg (gq_vf rfl rfl) (fun he => ap_field_i (rq_c rfl rfl) rfl rfl) ?_); (refine sg (gq_vf rfl rfl) (fun he => ap_load_i (rq_c rfl rfl) rfl) ?_); (refine sg (gq_vf rfl rfl) (fun he => ap_gtr (rq_c rfl rfl) (rq_p rfl rfl)) ?_); (refine su (ap_or (rq_p rfl rfl) (rq_c rfl rfl)) ?_); (refine smove rfl ?_); (refine sg (gq_vf rfl rfl) (fun he => ap_move (rq_p rfl rfl)) ?_); (refine sg (gq_vf rfl rfl) (fun he => ap_move (rq_p rfl rfl)) ?_); (refine sg (gq_vf rfl rfl) (fun he => ap_idx_n (rq_c rfl rfl) (rq_c rfl rfl) (by (try simp only [sH, id, sB, ne_eq, reduceCtorEq] at he); omega)) ?_); (refine sg (gq_vf rfl rfl) (fun he => ap_field_i (rq_c rfl rfl) rfl rfl) ?_); (refine sg (gq_vf rfl rfl) (fun he => ap_load_i (rq_c rfl rfl) rfl) ?_); (refine sg (gq_vf rfl rfl) (fun he => ap_len_m rfl (rq_c rfl rfl)) ?_); (refine sg (gq_vf rfl rfl) (fun he => ap_eql (rq_c rfl rfl) (rq_p rfl rfl)) ?_); (refine su (ap_or (rq_p rfl rfl) (rq_c rfl rfl)) ?_); apply jW) | (refine WP.regionC (id := 7) ?_; (refine sassign rfl ?_); apply jW)))
      all_goals try (exfalso; omega)
      refine wp_loop (fun (k : Nat) => k ≤ (nth l i).tokens.length ∧ (lvlTok (l.take i) ++ (nth l i).tokens.take k).Nodup) (fun k => (nth l i).tokens.length - k)
        (fun k => (S 76 [(0, levelsA l), (3, .ref 0 1 0 (lvlTok (l.take i) ++ (nth l i).tokens.take k).length), (4, intA (i : Nat)), (5, intA (k : Nat))] 1 [(0, some (.arr 1 ((lvlTok (l.take i) ++ (nth l i).tokens.take k).map strA)))])) 0 ?_ ⟨Nat.zero_le _, by simpa using hnd⟩ ?_
      · rw [List.take_zero, List.append_nil]
        exact ⟨[0], ToR.S rfl (by repeat' (first | exact rt_nil | refine rt_r rfl rfl ?_ | refine rt_e rfl rfl ?_ | refine rt_p rfl rfl (by first | (simp [AV.bd, bdL, bdL_append]; done) | fail) ?_)) (by repeat' (first | exact ro_nil | refine ro_p rfl (by first | exact rfl | fail) (by first | exact bdL_map (fun _ => by exact rfl) _ | fail) ?_)) rfl (by (rw [hm]; exact rfl)) rfl (by (simp [bdT, AV.bd, bdL, bdL_append]; done)) (by repeat' (first | exact True.intro | refine And.intro ?_ ?_ | exact bdL_map (fun _ => by exact rfl) _)) (by (rw [hm]; exact Nat.le_of_ble_eq_true rfl))⟩
      rintro k ⟨hk, hnk⟩
      by_cases hkt : k < (nth l i).tokens.length
      · have hpre := lvlTok_pre hlt hkt
        have hsl : (lvlTok (l.take i) ++ (nth l i).tokens.take k).length ≤ 200 := by rw [List.length_append, List.length_take]; omega
        have hsn : lvlTok (l.take i) ++ (nth l i).tokens.take (k + 1) = (lvlTok (l.take i) ++ (nth l i).tokens.take k) ++ [nth (nth l i).tokens k] := by rw [take_succ_nth hkt, List.append_assoc]
        generalize lvlTok (l.take i) ++ (nth l i).tokens.take k = seen at *
        (repeat' (first | apply jA | apply jF | apply jH | apply jI | (refine wp_cond rfl (fun hc => ?_) (fun hc => ?_) <;> (try simp only [sB, ne_eq, reduceCtorEq] at hc) <;> (try (exfalso; omega))) | (refine WP.regionC (id := 8) ?_; (refine smove rfl ?_); (refine smove rfl ?_); (refine smove rfl ?_); (refine sidxn rfl rfl (by omega) ?_); (refine su (afieldi rfl rfl rfl) ?_); (refine su (aloadi rfl rfl) ?_); (refine slenm rfl rfl ?_); (refine slss rfl rfl ?_); apply jW) | (refine WP.regionC (id := 10) ?_; (refine sassign rfl ?_); apply jW)))
        refine wp_loop (fun (m : Nat) => m ≤ seen.length ∧ ∀ j, j < m → nth seen j ≠ nth (nth l i).tokens k) (fun m => seen.length - m)
          (fun m => (S 76 [(0, levelsA l), (3, .ref 0 1 0 seen.length), (4, intA (i : Nat)), (5, intA (k : Nat)), (6, intA (m : Nat))] 1 [(0, some (.arr 1 (seen.map strA)))])) 0 ⟨[0], ToR.S rfl (by repeat' (first | exact rt_nil | refine rt_r rfl rfl ?_ | refine rt_e rfl rfl ?_ | refine rt_p rfl rfl (by first | (simp [AV.bd, bdL, bdL_append]; done) | fail) ?_)) (by repeat' (first | exact ro_nil | refine ro_p rfl (by first | exact rfl | fail) (by first | exact bdL_map (fun _ => by exact rfl) _ | fail) ?_)) rfl (by (rw [hm]; exact rfl)) rfl (by (simp [bdT, AV.bd, bdL, bdL_append]; done)) (by repeat' (first | exact True.intro | refine And.intro ?_ ?_ | exact bdL_map (fun _ => by exact rfl) _)) (by (rw [hm]; exact Nat.le_of_ble_eq_true rfl))⟩ ⟨Nat.zero_le _, by omega⟩ ?_
        rintro m ⟨hmq, hne⟩
        by_cases hml : m < seen.length
        · (repeat' (first | apply jA | apply jF | apply jH | apply jI | apply jK | apply jM | apply jN | apply jO | apply jS | (refine wp_cond rfl (fun hc => ?_) (fun hc => ?_) <;> (try simp only [sB, ne_eq, reduceCtorEq] at hc) <;> (try (exfalso; omega))) | (refine WP.regionC (id := 11) ?_; (refine smove rfl ?_); (refine smove rfl ?_); (refine su (alenr rfl rfl) ?_); (refine slss rfl rfl ?_); apply jW) | (refine wp_draw (id := 13) 13 mixed (by kernel_rfl) (by kernel_rfl) rfl ?_ <;> (refine rmove rfl ?_) <;> (refine rmove rfl ?_) <;> (refine rd_u rfl rfl (aidxrn rfl rfl (by omega)) ?_) <;> (refine rd_u rfl rfl (aloadpt rfl rfl (by omega) rfl) ?_) <;> (refine rmove rfl ?_) <;> (refine rmove rfl ?_) <;> (refine rd_u rfl rfl (aidxn rfl rfl (by omega)) ?_) <;> (refine rd_u rfl rfl (afieldi rfl rfl rfl) ?_) <;> (refine rd_u rfl rfl (aloadi rfl rfl) ?_) <;> (refine rmove rfl ?_) <;> (refine rd_u rfl rfl (aidxn rfl rfl (by omega)) ?_) <;> (refine rd_u rfl rfl (aloadw rfl rfl) ?_) <;> (refine rd_u rfl rfl (aeqs rfl rfl) ?_) <;> (refine rd_end (by kernel_rfl) ?_)) | (refine WP.regionC (id := 14) ?_; (refine sassign rfl ?_); apply jW) | (refine WP.regionC (id := 12) ?_; (refine smove rfl ?_); (refine sadd rfl rfl (by exact inr_i64_of (by omega)) ?_); (refine sassign rfl ?_); apply jW) | refine ret_b rfl ?_))
          · have : levsOk l = false := by
              rw [Bool.eq_false_iff]
              intro h
              unfold levsOk at h
              rw [Bool.and_eq_true, decide_eq_true_eq] at h
              have h2 := h.2.sublist hpre.sublist
              rw [List.nodup_append] at h2
              exact h2.2.2 _ (nth_mem hml) _ (by simp) hc
            rw [this]
          · exact ⟨m + 1, ⟨by omega, by omega, fun j hj => by
              by_cases e : j = m
              · subst e; exact hc
              · exact hne j (by omega)⟩, ⟨[0], ToR.S rfl (by repeat' (first | exact rt_nil | refine rt_r rfl rfl ?_ | refine rt_e rfl rfl ?_ | refine rt_p rfl rfl (by first | (simp [AV.bd, bdL, bdL_append]; done) | fail) ?_)) (by repeat' (first | exact ro_nil | refine ro_p rfl (by first | exact rfl | fail) (by first | exact bdL_map (fun _ => by exact rfl) _ | fail) ?_)) rfl (by (rw [hm]; exact rfl)) rfl (by (simp [bdT, AV.bd, bdL, bdL_append]; done)) (by repeat' (first | exact True.intro | refine And.intro ?_ ?_ | exact bdL_map (fun _ => by exact rfl) _)) (by (rw [hm]; exact Nat.le_of_ble_eq_true rfl))⟩⟩
        · (repeat' (first | apply jA | apply jH | apply jJ | apply jL | apply jN | apply jP | (refine wp_cond rfl (fun hc => ?_) (fun hc => ?_) <;> (try simp only [sB, ne_eq, reduceCtorEq] at hc) <;> (try (exfalso; omega))) | (refine WP.regionC (id := 11) ?_; (refine smove rfl ?_); (refine smove rfl ?_); (refine su (alenr rfl rfl) ?_); (refine slss rfl rfl ?_); apply jW) | (refine WP.regionC (id := 15) ?_; (refine smove rfl ?_); (refine smove rfl ?_); (refine smove rfl ?_); (refine sidxn rfl rfl (by omega) ?_); (refine su (afieldi rfl rfl rfl) ?_); (refine su (aloadi rfl rfl) ?_); (refine smove rfl ?_); (refine sidxn rfl rfl (by omega) ?_); (refine sloadw rfl rfl ?_); (refine se_lit (OpP.cons rfl (OpP.nil)) rfl rfl rfl rfl rfl rfl ?_); (refine se_app1 rfl rfl rfl rfl rfl rfl rfl rfl (by omega) ?_); (refine sassign rfl ?_); apply jW) | (refine WP.regionC (id := 9) ?_; (refine smove rfl ?_); (refine sadd rfl rfl (by exact inr_i64_of (by omega)) ?_); (refine sassign rfl ?_); apply jW)))
          refine ⟨k + 1, ⟨by omega, by omega, ?_⟩, ?_⟩
          · rw [hsn, List.nodup_append]
            refine ⟨hnk, by simp, fun a ha b hb => ?_⟩
            rw [List.mem_singleton] at hb
            subst hb
            obtain ⟨j, hj, rfl⟩ := List.getElem_of_mem ha
            have := hne j (by omega)
            rwa [nth_eq hj] at this
          · rw [hsn]
            exact ⟨[2], ToR.S rfl (by repeat' (first | exact rt_nil | refine rt_r rfl rfl ?_ | refine rt_e rfl rfl ?_ | refine rt_p rfl rfl (by first | (simp [AV.bd, bdL, bdL_append]; done) | fail) ?_)) (by repeat' (first | exact ro_nil | refine ro_p rfl (by first | exact rfl | fail) (by first | exact bdL_map (fun _ => by exact rfl) _ | fail) ?_)) rfl (by (rw [hm]; exact rfl)) rfl (by (simp [bdT, AV.bd, bdL, bdL_append]; done)) (by repeat' (first | exact True.intro | refine And.intro ?_ ?_ | exact bdL_map (fun _ => by exact rfl) _)) (by (rw [hm]; exact Nat.le_of_ble_eq_true rfl))⟩
      · have e1 : (nth l i).tokens.take k = (nth l i).tokens := List.take_of_length_le (by omega)
        rw [e1] at hnk ⊢
        rw [← lvlTok_succ hlt] at hnk ⊢
        (repeat' (first | apply jA | apply jH | apply jJ | apply jL | apply jN | apply jP | (refine wp_cond rfl (fun hc => ?_) (fun hc => ?_) <;> (try simp only [sB, ne_eq, reduceCtorEq] at hc) <;> (try (exfalso; omega))) | (refine WP.regionC (id := 8) ?_; (refine smove rfl ?_); (refine smove rfl ?_); (refine smove rfl ?_); (refine sidxn rfl rfl (by omega) ?_); (refine su (afieldi rfl rfl rfl) ?_); (refine su (aloadi rfl rfl) ?_); (refine slenm rfl rfl ?_); (refine slss rfl rfl ?_); apply jW) | (refine WP.regionC (id := 4) ?_; (refine smove rfl ?_); (refine sadd rfl rfl (by exact inr_i64_of (by omega)) ?_); (refine sassign rfl ?_); apply jW)))
        exact ⟨i + 1, ⟨by omega, by omega, take_all_succ hlt hall hok, hnk⟩, ⟨[0], ToR.S rfl (by repeat' (first | exact rt_nil | refine rt_r rfl rfl ?_ | refine rt_e rfl rfl ?_ | refine rt_p rfl rfl (by first | (simp [AV.bd, bdL, bdL_append]; done) | fail) ?_)) (by repeat' (first | exact ro_nil | refine ro_p rfl (by first | exact rfl | fail) (by first | exact bdL_map (fun _ => by exact rfl) _ | fail) ?_)) rfl (by (rw [hm]; exact rfl)) rfl (by (simp [bdT, AV.bd, bdL, bdL_append]; done)) (by repeat' (first | exact True.intro | refine And.intro ?_ ?_ | exact bdL_map (fun _ => by exact rfl) _)) (by (rw [hm]; exact Nat.le_of_ble_eq_true rfl))⟩⟩
    · have hok : levOk (nth l i) = false := by simpa using hok
      have hno : levsOk l = false := by
        unfold levsOk
        rw [all_nth_no (f := levOk) hlt hok, Bool.false_and]
      have hok' := hok
      simp only [levOk, Bool.and_eq_false_iff, decide_eq_false_iff_not] at hok'
      rw [hno]
      (repeat' (first | apply jA | apply jF | apply jH | apply jI | apply jK | apply jM | apply jO | apply jS | (refine wp_cond rfl (fun hc => ?_) (fun hc => ?_) <;> (try simp only [sB, ne_eq, reduceCtorEq] at hc) <;> (try (exfalso; omega))) | (refine WP.regionC (id := 3) ?_; (refine smove rfl ?_); (refine smove rfl ?_); (refine slenm rfl rfl ?_); (refine slss rfl rfl ?_); apply jW) | (refine WP.regionC (id := 5) ?_; (refine smove rfl ?_); (refine smove rfl ?_); (refine sidxn rfl rfl (by omega) ?_); (refine su (afieldi rfl rfl rfl) ?_); (refine su (aloadi rfl rfl) ?_); (refine slss rfl rfl ?_); (refine smove rfl ?_); (refine sg (gq_vf rfl rfl) (fun he => ap_move (rq_p rfl rfl)) ?_); (refine sg (gq_vf rfl rfl) (fun he => ap_move (rq_p rfl rfl)) ?_); (refine sg (gq_vf rfl rfl) (fun he => ap_idx_n (rq_c rfl rfl) (rq_c rfl rfl) (by (try simp only [sH, id, sB, ne_eq, reduceCtorEq] at he); omega)) ?_); (refine sg (gq_vf rfl rfl) (fun he => ap_field_i (rq_c rfl rfl) rfl rfl) ?_); (refine sg (gq_vf rfl rfl) (fun he => ap_load_i (rq_c rfl rfl) rfl) ?_); (refine sg (gq_vf rfl rfl) (fun he => ap_gtr (rq_c rfl rfl) (rq_p rfl rfl)) ?_); (refine su (ap_or (rq_p rfl rfl) (rq_c rfl rfl)) ?_); (refine smove rfl ?_); (refine sg (gq_vf rfl rfl) (fun he => ap_move (rq_p rfl rfl)) ?_); (refine sg (gq_vf rfl rfl) (fun he => ap_move (rq_p rfl rfl)) ?_); (refine sg (gq_vf rfl rfl) (fun he => ap_idx_n (rq_c rfl rfl) (rq_c rfl rfl) (by (try simp only [sH, id, sB, ne_eq, reduceCtorEq] at he); omega)) ?_); (refine sg (gq_vf rfl rfl) (fun he => ap_field_i (rq_c rfl rfl) rfl rfl) ?_); (refine sg (gq_vf rfl rfl) (fun he => ap_load_i (rq_c rfl rfl) rfl) ?_); (refine sg (gq_vf rfl rfl) (fun he => ap_len_m rfl (rq_c rfl rfl)) ?_); (refine sg (gq_vf rfl rfl) (fun he => ap_eql (rq_c rfl rfl) (rq_p rfl rfl)) ?_); (refine su (ap_or (rq_p rfl rfl) (rq_c rfl rfl)) ?_); apply jW) | (refine WP.regionC (id := 6) ?_; (refine sassign rfl ?_); apply jW) | exact ret_eq rfl rfl rfl))
      all_goals (rfl)
  · rw [List.take_of_length_le (by omega)] at hall hnd
    have : levsOk l = true := by
      unfold levsOk
      rw [hall, decide_eq_true hnd]; rfl
    rw [this]
    (repeat' (first | apply jA | apply jH | apply jJ | apply jK | apply jL | apply jP | apply jS | (refine wp_cond rfl (fun hc => ?_) (fun hc => ?_) <;> (try simp only [sB, ne_eq, reduceCtorEq] at hc) <;> (try (exfalso; omega))) | (refine WP.regionC (id := 3) ?_; (refine smove rfl ?_); (refine smove rfl ?_); (refine slenm rfl rfl ?_); (refine slss rfl rfl ?_); apply jW) | (refine WP.regionC (id := 16) ?_; (refine sassign rfl ?_); apply jW) | exact ret_eq rfl rfl rfl))
theorem term20_fn (g : Gram) (s : ByteArray) : Fn Tryd.prog 29 [gramA g, strA s] (intA (termI g s)) := by
  refine Fn.intro rfl (by kernel_rfl) Tryd.func29 rfl rfl Tryd.ntmps29 (by exact Nat.le_of_ble_eq_true rfl) ?_; intro Γ hm
  refine wp_lens 0 rfl fun hl => ?_
  obtain ⟨hl1, hl2, hl3, hl4⟩ := (lens_gramA g).1 hl
  (repeat' (first | apply jA | apply jF | apply jH | (refine WP.regionC (id := 0) ?_; (refine se_box rfl (by exact ⟨rfl, rfl⟩) ?_); (refine sassign rfl ?_); apply jW) | (refine WP.regionC (id := 1) ?_; (refine sassign rfl ?_); apply jW)))
  refine wp_loop (fun k => k ≤ g.terms.length ∧ (g.terms.take k).any (fun x => decide (x = s)) = false) (fun k => g.terms.length - k) (fun k => (S 21 [(1, strA s), (2, .ptr 0 4 0 0), (5, intA (k : Nat))] 1 [(0, some (.arr 4 [gramA g]))])) 0 ⟨[0], ToR.S rfl (by repeat' (first | exact rt_nil | refine rt_t rfl rfl ?_ | refine rt_e rfl rfl ?_)) (by repeat' (first | exact ro_nil | refine ro_p rfl (by first | exact rfl | fail) (by first | (simp [bdL, bdL_append, AV.bd]; done) | fail) ?_)) rfl (by (rw [hm]; exact rfl)) rfl (by (simp [bdT, AV.bd, bdL, bdL_append]; done)) (by repeat' (first | exact True.intro | refine And.intro ?_ ?_ | (simp [bdOq, bdL, bdL_append, AV.bd]; done))) (by (rw [hm]; exact Nat.le_of_ble_eq_true rfl))⟩ ⟨Nat.zero_le _, rfl⟩ ?_
  rintro k ⟨hk, hall⟩
  (repeat' (first | apply jA | apply jF | apply jH | apply jI | apply jJ | apply jK | apply jL | apply jM | apply jN | apply jO | apply jP | apply jS | (refine wp_cond rfl (fun hc => ?_) (fun hc => ?_) <;> (try simp only [sB, ne_eq, reduceCtorEq] at hc) <;> (try (exfalso; omega))) | (refine WP.regionC (id := 2) ?_; (refine smove rfl ?_); (refine sfieldp rfl rfl rfl ?_); (refine sloadp rfl rfl rfl rfl ?_); (refine slenm rfl rfl ?_); (refine slss rfl rfl ?_); apply jW) | (refine WP.regionC (id := 4) ?_; (refine sfieldp rfl rfl rfl ?_); (refine sloadp rfl rfl rfl rfl ?_); (refine smove rfl ?_); (refine sidxn rfl rfl (by omega) ?_); (refine sloadw rfl rfl ?_); (refine smove rfl ?_); (refine seqs rfl rfl ?_); apply jW) | (refine WP.regionC (id := 5) ?_; (refine smove rfl ?_); (refine sassign rfl ?_); apply jW) | (refine WP.regionC (id := 3) ?_; (refine smove rfl ?_); (refine sadd rfl rfl (by exact inr_i64_of (by omega)) ?_); (refine sassign rfl ?_); apply jW) | (refine WP.regionC (id := 6) ?_; (refine sassign rfl ?_); apply jW) | refine ret_i rfl ?_))
  · exact (indexP_at (by omega) hall (by simp [hc])).symm
  · exact ⟨k + 1, ⟨by omega, by omega, take_any_succ (by omega) hall (by simp [hc])⟩, ⟨[0], ToR.S rfl (by repeat' (first | exact rt_nil | refine rt_t rfl rfl ?_ | refine rt_e rfl rfl ?_)) (by repeat' (first | exact ro_nil | refine ro_p rfl (by first | exact rfl | fail) (by first | (simp [bdL, bdL_append, AV.bd]; done) | fail) ?_)) rfl (by (rw [hm]; exact rfl)) rfl (by (simp [bdT, AV.bd, bdL, bdL_append]; done)) (by repeat' (first | exact True.intro | refine And.intro ?_ ?_ | (simp [bdOq, bdL, bdL_append, AV.bd]; done))) (by (rw [hm]; exact Nat.le_of_ble_eq_true rfl))⟩⟩
  · exact (indexP_no (by omega) hall).symm
theorem level20_fn (g : Gram) (l : List GLe) (hf : FewL l) (t : Int) : Fn Tryd.prog 31 [gramA g, levelsA l, intA t] (intA (levelG g l t)) := by
  have hfn := hf.n
  have hft := hf.t
  have hterm := term20_fn g
  refine Fn.intro rfl (by kernel_rfl) Tryd.func31 rfl rfl Tryd.ntmps31 (by exact Nat.le_of_ble_eq_true rfl) ?_; intro Γ hm
  (repeat' (first | apply jA | apply jF | apply jH | (refine WP.regionC (id := 0) ?_; (refine se_box rfl (by exact ⟨rfl, rfl⟩) ?_); (refine sassign rfl ?_); apply jW) | (refine WP.regionC (id := 1) ?_; (refine sassign rfl ?_); apply jW)))
  refine wp_loop (fun i => i ≤ l.length ∧ (l.take i).any (fun x : GLe => x.tokens.any fun n => decide (termI g n = t)) = false) (fun i => l.length - i)
    (fun i => (S 38 [(1, levelsA l), (2, intA t), (3, .ptr 0 4 0 0), (7, intA (i : Nat))] 1 [(0, some (.arr 4 [gramA g]))])) 0 ⟨[0], ToR.S rfl (by repeat' (first | exact rt_nil | refine rt_t rfl rfl ?_ | refine rt_e rfl rfl ?_ | refine rt_p rfl rfl (by first | (simp [AV.bd, bdL, bdL_append]; done) | fail) ?_)) (by repeat' (first | exact ro_nil | refine ro_p rfl (by first | exact rfl | fail) (by first | (simp [bdL, bdL_append, AV.bd]; done) | fail) ?_)) rfl (by (rw [hm]; exact rfl)) rfl (by (simp [bdT, AV.bd, bdL, bdL_append]; done)) (by repeat' (first | exact True.intro | refine And.intro ?_ ?_ | (simp [bdOq, bdL, bdL_append, AV.bd]; done))) (by (rw [hm]; exact Nat.le_of_ble_eq_true rfl))⟩ ⟨Nat.zero_le _, rfl⟩ ?_
  rintro i ⟨hi, hall⟩
  by_cases hlt : i < l.length
  · have htk := hft _ (nth_mem hlt)
    (repeat' (first | apply jA | apply jF | apply jH | apply jI | (refine wp_cond rfl (fun hc => ?_) (fun hc => ?_) <;> (try simp only [sB, ne_eq, reduceCtorEq] at hc) <;> (try (exfalso; omega))) | (refine WP.regionC (id := 2) ?_; (refine smove rfl ?_); (refine smove rfl ?_); (refine slenm rfl rfl ?_); (refine slss rfl rfl ?_); apply jW) | (refine WP.regionC (id := 4) ?_; (refine sassign rfl ?_); apply jW)))
    refine wp_loop (fun k => k ≤ (nth l i).tokens.length ∧ ((nth l i).tokens.take k).any (fun n => decide (termI g n = t)) = false) (fun k => (nth l i).tokens.length - k)
      (fun k => (S 38 [(1, levelsA l), (2, intA t), (3, .ptr 0 4 0 0), (7, intA (i : Nat)), (8, intA (k : Nat))] 1 [(0, some (.arr 4 [gramA g]))])) 0 ⟨[0], ToR.S rfl (by repeat' (first | exact rt_nil | refine rt_t rfl rfl ?_ | refine rt_e rfl rfl ?_ | refine rt_p rfl rfl (by first | (simp [AV.bd, bdL, bdL_append]; done) | fail) ?_)) (by repeat' (first | exact ro_nil | refine ro_p rfl (by first | exact rfl | fail) (by first | (simp [bdL, bdL_append, AV.bd]; done) | fail) ?_)) rfl (by (rw [hm]; exact rfl)) rfl (by (simp [bdT, AV.bd, bdL, bdL_append]; done)) (by repeat' (first | exact True.intro | refine And.intro ?_ ?_ | (simp [bdOq, bdL, bdL_append, AV.bd]; done))) (by (rw [hm]; exact Nat.le_of_ble_eq_true rfl))⟩ ⟨Nat.zero_le _, rfl⟩ ?_
    rintro k ⟨hk, hallk⟩
    by_cases hkl : k < (nth l i).tokens.length
    · (repeat' (first | apply jA | apply jF | apply jH | apply jI | apply jK | apply jM | apply jN | apply jO | apply jS | (refine wp_cond rfl (fun hc => ?_) (fun hc => ?_) <;> (try simp only [sB, ne_eq, reduceCtorEq] at hc) <;> (try (exfalso; omega))) | (refine WP.regionC (id := 5) ?_; (refine smove rfl ?_); (refine smove rfl ?_); (refine smove rfl ?_); (refine sidxn rfl rfl (by omega) ?_); (refine su (afieldi rfl rfl rfl) ?_); (refine su (aloadi rfl rfl) ?_); (refine slenm rfl rfl ?_); (refine slss rfl rfl ?_); apply jW) | (refine wp_draw (id := 7) 12 mixed (by kernel_rfl) (by kernel_rfl) rfl ?_ <;> (refine rd_u rfl rfl (aloadpw rfl rfl rfl rfl) ?_) <;> (refine rmove rfl ?_) <;> (refine rmove rfl ?_) <;> (refine rd_u rfl rfl (aidxn rfl rfl (by omega)) ?_) <;> (refine rd_u rfl rfl (afieldi rfl rfl rfl) ?_) <;> (refine rd_u rfl rfl (aloadi rfl rfl) ?_) <;> (refine rmove rfl ?_) <;> (refine rd_u rfl rfl (aidxn rfl rfl (by omega)) ?_) <;> (refine rd_u rfl rfl (aloadw rfl rfl) ?_) <;> (refine rd_call rfl rfl (by first | ((repeat' first | exact SubL.nil | refine SubL.cons ?_ ?_ | exact Sub.refl); done) | fail) (by first | (simp [bdL, bdL_append, AV.bd]; done) | fail) (hterm _) ?_) <;> (refine rmove rfl ?_) <;> (refine rd_u rfl rfl (aeql rfl rfl) ?_) <;> (refine rd_end (by kernel_rfl) ?_)) | (refine WP.regionC (id := 8) ?_; (refine smove rfl ?_); (refine sassign rfl ?_); apply jW) | (refine WP.regionC (id := 6) ?_; (refine smove rfl ?_); (refine sadd rfl rfl (by exact inr_i64_of (by omega)) ?_); (refine sassign rfl ?_); apply jW) | refine ret_i rfl ?_))
      · have hany : ((nth l i).tokens.any fun n => decide (termI g n = t)) = true := by
          rw [List.any_eq_true]
          exact ⟨_, nth_mem hkl, by simp [hc]⟩
        have : levelG g l t = (i : Int) := indexP_at hlt hall hany
        rw [this]
      · exact ⟨k + 1, ⟨by omega, by omega, take_any_succ hkl hallk (by simp [hc])⟩, ⟨[0], ToR.S rfl (by repeat' (first | exact rt_nil | refine rt_t rfl rfl ?_ | refine rt_e rfl rfl ?_ | refine rt_p rfl rfl (by first | (simp [AV.bd, bdL, bdL_append]; done) | fail) ?_)) (by repeat' (first | exact ro_nil | refine ro_p rfl (by first | exact rfl | fail) (by first | (simp [bdL, bdL_append, AV.bd]; done) | fail) ?_)) rfl (by (rw [hm]; exact rfl)) rfl (by (simp [bdT, AV.bd, bdL, bdL_append]; done)) (by repeat' (first | exact True.intro | refine And.intro ?_ ?_ | (simp [bdOq, bdL, bdL_append, AV.bd]; done))) (by (rw [hm]; exact Nat.le_of_ble_eq_true rfl))⟩⟩
    · (repeat' (first | apply jA | apply jH | apply jJ | apply jL | apply jN | apply jP | (refine wp_cond rfl (fun hc => ?_) (fun hc => ?_) <;> (try simp only [sB, ne_eq, reduceCtorEq] at hc) <;> (try (exfalso; omega))) | (refine WP.regionC (id := 5) ?_; (refine smove rfl ?_); (refine smove rfl ?_); (refine smove rfl ?_); (refine sidxn rfl rfl (by omega) ?_); (refine su (afieldi rfl rfl rfl) ?_); (refine su (aloadi rfl rfl) ?_); (refine slenm rfl rfl ?_); (refine slss rfl rfl ?_); apply jW) | (refine WP.regionC (id := 3) ?_; (refine smove rfl ?_); (refine sadd rfl rfl (by exact inr_i64_of (by omega)) ?_); (refine sassign rfl ?_); apply jW)))
      have hany : ((nth l i).tokens.any fun n => decide (termI g n = t)) = false := by
        rw [← hallk, List.take_of_length_le (by omega)]
      exact ⟨i + 1, ⟨by omega, by omega, take_any_succ hlt hall hany⟩, ⟨[0], ToR.S rfl (by repeat' (first | exact rt_nil | refine rt_t rfl rfl ?_ | refine rt_e rfl rfl ?_ | refine rt_p rfl rfl (by first | (simp [AV.bd, bdL, bdL_append]; done) | fail) ?_)) (by repeat' (first | exact ro_nil | refine ro_p rfl (by first | exact rfl | fail) (by first | (simp [bdL, bdL_append, AV.bd]; done) | fail) ?_)) rfl (by (rw [hm]; exact rfl)) rfl (by (simp [bdT, AV.bd, bdL, bdL_append]; done)) (by repeat' (first | exact True.intro | refine And.intro ?_ ?_ | (simp [bdOq, bdL, bdL_append, AV.bd]; done))) (by (rw [hm]; exact Nat.le_of_ble_eq_true rfl))⟩⟩
  · have : levelG g l t = -1 := indexP_no (by omega) hall
    rw [this]
    (repeat' (first | apply jA | apply jH | apply jJ | apply jK | apply jL | apply jP | apply jS | (refine wp_cond rfl (fun hc => ?_) (fun hc => ?_) <;> (try simp only [sB, ne_eq, reduceCtorEq] at hc) <;> (try (exfalso; omega))) | (refine WP.regionC (id := 2) ?_; (refine smove rfl ?_); (refine smove rfl ?_); (refine slenm rfl rfl ?_); (refine slss rfl rfl ?_); apply jW) | (refine WP.regionC (id := 9) ?_; (refine sassign rfl ?_); apply jW) | exact ret_eq rfl rfl rfl))
theorem binary20_fn {g : Gram} (hv : GVal g) (l : List GLe) (hf : FewL l) (r : Nat) (hr : r < g.rules.length) : Fn Tryd.prog 30 [gramA g, levelsA l, intA (r : Nat)] (intA (binL g l (nth g.rules r))) := by
  have hrf := hv.rule _ (nth_mem hr)
  have h0 := hrf.h0
  have h1 := hrf.hn
  have hn2 := hv.n2
  have hr2 := hv.r2
  have hln := hrf.len
  have hlv := level20_fn g l hf (nth (nth g.rules r).body (nat_lit 1))
  unfold binL
  by_cases hs : selfB (nth g.rules r) = true
  · rw [if_pos hs]
    obtain ⟨s1, s2, s3, s4⟩ := selfB_iff.1 hs
    refine Fn.intro rfl (by kernel_rfl) Tryd.func30 rfl rfl Tryd.ntmps30 (by exact Nat.le_of_ble_eq_true rfl) ?_; intro Γ hm
    (repeat' (first | apply jA | apply jH | apply jI | apply jK | apply jS | (refine wp_cond rfl (fun hc => ?_) (fun hc => ?_) <;> (try simp only [sB, ne_eq, reduceCtorEq] at hc) <;> (try (exfalso; omega))) | (refine WP.regionC (id := 0) ?_; (refine se_box rfl (by exact ⟨rfl, rfl⟩) ?_); (refine sassign rfl ?_); apply jW) | (refine WP.regionC (id := 1) ?_; (refine sfieldp rfl rfl rfl ?_); (refine sloadp rfl rfl rfl rfl ?_); (refine smove rfl ?_); (refine sidxn rfl rfl (by omega) ?_); (refine sloadw rfl rfl ?_); (refine se_alloc rfl ?_); (refine se_store_b rfl rfl rfl rfl ?_); apply jW) | (refine wp_draw (id := 2) 31 mixed (by kernel_rfl) (by kernel_rfl) rfl ?_ <;> (refine rfieldp rfl rfl rfl ?_) <;> (refine rloadp rfl rfl rfl rfl ?_) <;> (refine rd_u rfl rfl (alenm rfl rfl) ?_) <;> (refine rd_u rfl rfl (aneq rfl rfl) ?_) <;> (refine rmove rfl ?_) <;> ((refine rd_split (t := 17) rfl (fun hc => ?_) (fun hc => ?_) <;> (try simp only [sB, ne_eq, reduceCtorEq] at hc) <;> (try (exfalso; omega)) <;> (refine gfieldp rfl rfl rfl rfl rfl ?_))) <;> (refine gloadp rfl rfl rfl rfl rfl rfl ?_) <;> (refine rdg_u rfl rfl rfl rfl (aidxn rfl rfl (by (simp only [sL] <;> omega))) ?_) <;> (refine rdg_u rfl rfl rfl rfl (aloadw rfl rfl) ?_) <;> (refine gfieldp rfl rfl rfl rfl rfl ?_) <;> (refine gloadp rfl rfl rfl rfl rfl rfl ?_) <;> (refine rdg_u rfl rfl rfl rfl (asub rfl rfl (by exact inr_i64_of (by omega))) ?_) <;> (refine rdg_u rfl rfl rfl rfl (aneq rfl rfl) ?_) <;> (refine rd_pick_f rfl rfl ?_) <;> (refine rmove rfl ?_) <;> ((refine rd_split (t := 27) rfl (fun hc => ?_) (fun hc => ?_) <;> (try simp only [sB, ne_eq, reduceCtorEq] at hc) <;> (try (exfalso; omega)) <;> (refine gfieldp rfl rfl rfl rfl rfl ?_))) <;> (refine gloadp rfl rfl rfl rfl rfl rfl ?_) <;> (refine rdg_u rfl rfl rfl rfl (aidxn rfl rfl (by (simp only [sL] <;> omega))) ?_) <;> (refine rdg_u rfl rfl rfl rfl (aloadw rfl rfl) ?_) <;> (refine gfieldp rfl rfl rfl rfl rfl ?_) <;> (refine gloadp rfl rfl rfl rfl rfl rfl ?_) <;> (refine rdg_u rfl rfl rfl rfl (asub rfl rfl (by exact inr_i64_of (by omega))) ?_) <;> (refine rdg_u rfl rfl rfl rfl (aneq rfl rfl) ?_) <;> (refine rd_pick_f rfl rfl ?_) <;> (refine rmove rfl ?_) <;> ((refine rd_split (t := 37) rfl (fun hc => ?_) (fun hc => ?_) <;> (try simp only [sB, ne_eq, reduceCtorEq] at hc) <;> (try (exfalso; omega)) <;> (refine gfieldp rfl rfl rfl rfl rfl ?_))) <;> (refine gloadp rfl rfl rfl rfl rfl rfl ?_) <;> (refine rdg_u rfl rfl rfl rfl (aidxn rfl rfl (by (simp only [sL] <;> omega))) ?_) <;> (refine rdg_u rfl rfl rfl rfl (aloadw rfl rfl) ?_) <;> (refine rdg_u rfl rfl rfl rfl (alss rfl rfl) ?_) <;> (refine rd_pick_f rfl rfl ?_) <;> (refine rd_end (by kernel_rfl) ?_)) | (refine wp_draw (id := 4) 8 mixed (by kernel_rfl) (by kernel_rfl) rfl ?_ <;> (refine rd_u rfl rfl (aloadpw rfl rfl rfl rfl) ?_) <;> (refine rmove rfl ?_) <;> (refine rfieldp rfl rfl rfl ?_) <;> (refine rloadp rfl rfl rfl rfl ?_) <;> (refine rd_u rfl rfl (aidxn rfl rfl (by (simp only [sL] <;> omega))) ?_) <;> (refine rd_u rfl rfl (aloadw rfl rfl) ?_) <;> (refine rd_call rfl rfl (by first | ((repeat' first | exact SubL.nil | refine SubL.cons ?_ ?_ | exact Sub.refl); done) | fail) (by first | (simp [bdL, bdL_append, AV.bd]; done) | fail) (hlv) ?_) <;> (refine rd_u rfl rfl (aassign rfl) ?_) <;> (refine rd_end (by kernel_rfl) ?_)) | exact ret_eq rfl rfl rfl))
    all_goals (rfl)
  · rw [if_neg hs]
    have hno : ¬ ((nth g.rules r).body.length = 3 ∧ nth (nth g.rules r).body (nat_lit 0) = -1 - (nth g.rules r).head ∧ nth (nth g.rules r).body (nat_lit 2) = -1 - (nth g.rules r).head ∧ 0 ≤ nth (nth g.rules r).body (nat_lit 1)) := fun h => hs (selfB_iff.2 h)
    refine Fn.intro rfl (by kernel_rfl) Tryd.func30 rfl rfl Tryd.ntmps30 (by exact Nat.le_of_ble_eq_true rfl) ?_; intro Γ hm
    (repeat' (first | apply jA | apply jH | apply jI | apply jK | apply jM | apply jS | (refine wp_cond rfl (fun hc => ?_) (fun hc => ?_) <;> (try simp only [sB, ne_eq, reduceCtorEq] at hc) <;> (try (exfalso; omega))) | (refine WP.regionC (id := 0) ?_; (refine se_box rfl (by exact ⟨rfl, rfl⟩) ?_); (refine sassign rfl ?_); apply jW) | (refine WP.regionC (id := 1) ?_; (refine sfieldp rfl rfl rfl ?_); (refine sloadp rfl rfl rfl rfl ?_); (refine smove rfl ?_); (refine sidxn rfl rfl (by omega) ?_); (refine sloadw rfl rfl ?_); (refine se_alloc rfl ?_); (refine se_store_b rfl rfl rfl rfl ?_); apply jW) | (refine wp_draw (id := 2) 31 mixed (by kernel_rfl) (by kernel_rfl) rfl ?_ <;> (refine rfieldp rfl rfl rfl ?_) <;> (refine rloadp rfl rfl rfl rfl ?_) <;> (refine rd_u rfl rfl (alenm rfl rfl) ?_) <;> (refine rd_u rfl rfl (aneq rfl rfl) ?_) <;> (refine rmove rfl ?_) <;> ((refine rd_split (t := 17) rfl (fun hc => ?_) (fun hc => ?_) <;> (try simp only [sB, ne_eq, reduceCtorEq] at hc) <;> (try (exfalso; omega)) <;> (first | refine rd_skip rfl rfl ?_ | refine gfieldp rfl rfl rfl rfl rfl ?_))) <;> (first | refine rd_skip rfl rfl ?_ | refine gloadp rfl rfl rfl rfl rfl rfl ?_) <;> (first | refine rd_skip rfl rfl ?_ | refine rdg_u rfl rfl rfl rfl (aidxn rfl rfl (by (simp only [sL] <;> omega))) ?_) <;> (first | refine rd_skip rfl rfl ?_ | refine rdg_u rfl rfl rfl rfl (aloadw rfl rfl) ?_) <;> (first | refine rd_skip rfl rfl ?_ | refine gfieldp rfl rfl rfl rfl rfl ?_) <;> (first | refine rd_skip rfl rfl ?_ | refine gloadp rfl rfl rfl rfl rfl rfl ?_) <;> (first | refine rd_skip rfl rfl ?_ | refine rdg_u rfl rfl rfl rfl (asub rfl rfl (by exact inr_i64_of (by omega))) ?_) <;> (first | refine rd_skip rfl rfl ?_ | refine rdg_u rfl rfl rfl rfl (aneq rfl rfl) ?_) <;> (first | refine rd_pick_t rfl rfl ?_ | refine rd_pick_f rfl rfl ?_) <;> (refine rmove rfl ?_) <;> (first | refine rd_skip rfl rfl ?_ | (refine rd_split (t := 27) rfl (fun hc => ?_) (fun hc => ?_) <;> (try simp only [sB, ne_eq, reduceCtorEq] at hc) <;> (try (exfalso; omega)) <;> (first | refine rd_skip rfl rfl ?_ | refine gfieldp rfl rfl rfl rfl rfl ?_))) <;> (first | refine rd_skip rfl rfl ?_ | refine gloadp rfl rfl rfl rfl rfl rfl ?_) <;> (first | refine rd_skip rfl rfl ?_ | refine rdg_u rfl rfl rfl rfl (aidxn rfl rfl (by (simp only [sL] <;> omega))) ?_) <;> (first | refine rd_skip rfl rfl ?_ | refine rdg_u rfl rfl rfl rfl (aloadw rfl rfl) ?_) <;> (first | refine rd_skip rfl rfl ?_ | refine gfieldp rfl rfl rfl rfl rfl ?_) <;> (first | refine rd_skip rfl rfl ?_ | refine gloadp rfl rfl rfl rfl rfl rfl ?_) <;> (first | refine rd_skip rfl rfl ?_ | refine rdg_u rfl rfl rfl rfl (asub rfl rfl (by exact inr_i64_of (by omega))) ?_) <;> (first | refine rd_skip rfl rfl ?_ | refine rdg_u rfl rfl rfl rfl (aneq rfl rfl) ?_) <;> (first | refine rd_pick_t rfl rfl ?_ | refine rd_pick_f rfl rfl ?_) <;> (refine rmove rfl ?_) <;> (first | refine rd_skip rfl rfl ?_ | (refine rd_split (t := 37) rfl (fun hc => ?_) (fun hc => ?_) <;> (try simp only [sB, ne_eq, reduceCtorEq] at hc) <;> (try (exfalso; omega)) <;> (first | refine rd_skip rfl rfl ?_ | refine gfieldp rfl rfl rfl rfl rfl ?_))) <;> (first | refine rd_skip rfl rfl ?_ | refine gloadp rfl rfl rfl rfl rfl rfl ?_) <;> (first | refine rd_skip rfl rfl ?_ | refine rdg_u rfl rfl rfl rfl (aidxn rfl rfl (by (simp only [sL] <;> omega))) ?_) <;> (first | refine rd_skip rfl rfl ?_ | refine rdg_u rfl rfl rfl rfl (aloadw rfl rfl) ?_) <;> (first | refine rd_skip rfl rfl ?_ | refine rdg_u rfl rfl rfl rfl (alss rfl rfl) ?_) <;> (first | refine rd_pick_t rfl rfl ?_ | refine rd_pick_f rfl rfl ?_) <;> (refine rd_end (by kernel_rfl) ?_)) | (refine WP.regionC (id := 3) ?_; (refine sassign rfl ?_); apply jW) | exact ret_eq rfl rfl rfl))
    all_goals ((exfalso; grind))
end Go.Lg

namespace Go.Lg
open Go.Proofs
set_option linter.unusedSimpArgs false
set_option linter.unusedVariables false
attribute [local irreducible] Ap Rq asemC WP RunD Ret Gq thenA inBlockA bodyQ noGotoA RqL RqP OpP
set_option maxHeartbeats 4000000
set_option maxRecDepth 20000
attribute [local simp] AV.cells
def useTo (g : Gram) (l : List GLe) (e k : Nat) : List Int := ((List.range k).filter fun (i : Nat) => g.rules.any fun r => decide (r.head = (e : Int)) && decide (binL g l r = (i : Int))).map fun (i : Nat) => (i : Int)
theorem useTo_all (g : Gram) (l : List GLe) (e : Nat) : useTo g l e l.length = (useL g l e).map fun (i : Nat) => (i : Int) := rfl
theorem useTo_succ (g : Gram) (l : List GLe) (e k : Nat) : useTo g l e (k + 1) = useTo g l e k ++ (if (g.rules.any fun r => decide (r.head = (e : Int)) && decide (binL g l r = (k : Int))) = true then [(k : Int)] else []) := by
  unfold useTo
  rw [List.range_succ, List.filter_append, List.map_append]
  congr 1
  simp only [List.filter_cons, List.filter_nil]
  split <;> rfl
theorem useTo_len (g : Gram) (l : List GLe) (e k : Nat) : (useTo g l e k).length ≤ k := by
  unfold useTo
  rw [List.length_map]
  have := List.length_filter_le (fun (i : Nat) => g.rules.any fun r => decide (r.head = (e : Int)) && decide (binL g l r = (i : Int))) (List.range k)
  simpa using this
theorem used20_fn {g : Gram} (hv : GVal g) (l : List GLe) (hf : FewL l) (e : Nat) : Fn Tryd.prog 39 [gramA g, levelsA l, intA (e : Nat)] (intsA ((useL g l e).map fun (i : Nat) => (i : Int))) := by
  have hfn := hf.n
  have hr2 := hv.r2
  have hbin := fun r hr => binary20_fn hv l hf r hr
  rw [← useTo_all]
  refine Fn.intro (by simp [AV.bd, bdL, bdL_append]) (by kernel_rfl) Tryd.func39 rfl rfl Tryd.ntmps39 (by exact Nat.le_of_ble_eq_true rfl) ?_; intro Γ hm
  (repeat' (first | apply jA | apply jF | apply jH | (refine WP.regionC (id := 0) ?_; (refine se_box rfl (by exact ⟨rfl, rfl⟩) ?_); (refine sassign rfl ?_); apply jW) | (refine WP.regionC ?_; (refine sassign rfl ?_); apply jW)))
  refine wp_nil 7 1 rfl ?_
  refine wp_loop (fun (i : Nat) => i ≤ l.length) (fun i => l.length - i)
    (fun i => (S 49 [(1, levelsA l), (2, intA (e : Nat)), (3, .ptr 0 4 0 0), (7, .ref 1 1 0 (useTo g l e i).length), (8, intA (i : Nat))] 2 [(0, some (.arr 4 [gramA g])), (1, some (.arr 1 ((useTo g l e i).map intA)))])) 0 ⟨[0, 1], ToR.S rfl (by repeat' (first | exact rt_nil | refine rt_r rfl rfl ?_ | refine rt_t rfl rfl ?_ | refine rt_e rfl rfl ?_ | refine rt_p rfl rfl (by first | (simp [AV.bd, bdL, bdL_append]; done) | fail) ?_)) (by repeat' (first | exact ro_nil | refine ro_e rfl rfl ?_ | refine ro_p rfl (by first | exact rfl | fail) (by first | (simp [bdL, bdL_append, AV.bd]; done) | fail) ?_)) rfl (by (rw [hm]; exact rfl)) rfl (by (simp [bdT, AV.bd, bdL, bdL_append]; done)) (by repeat' (first | exact True.intro | exact rfl | refine And.intro ?_ ?_ | (simp [bdOq, bdL, bdL_append, AV.bd]; done))) (by (rw [hm]; exact Nat.le_of_ble_eq_true rfl))⟩ (Nat.zero_le _) ?_
  intro i hi
  have hul := useTo_len g l e i
  by_cases hlt : i < l.length
  · (repeat' (first | apply jA | apply jF | apply jH | apply jI | (refine wp_cond rfl (fun hc => ?_) (fun hc => ?_) <;> (try simp only [sB, ne_eq, reduceCtorEq] at hc) <;> (try (exfalso; omega))) | (refine WP.regionC (id := 3) ?_; (refine smove rfl ?_); (refine smove rfl ?_); (refine slenm rfl rfl ?_); (refine slss rfl rfl ?_); apply jW) | (refine WP.regionC ?_; (refine sassign rfl ?_); apply jW)))
    refine wp_loop (fun (r : Nat) => r ≤ g.rules.length) (fun r => g.rules.length - r)
      (fun r => (S 49 [(1, levelsA l), (2, intA (e : Nat)), (3, .ptr 0 4 0 0), (7, .ref 1 1 0 (useTo g l e i).length), (8, intA (i : Nat)), (9, boolA ((g.rules.take r).any fun r => decide (r.head = (e : Int)) && decide (binL g l r = (i : Int)))), (10, intA (r : Nat))] 2 [(0, some (.arr 4 [gramA g])), (1, some (.arr 1 ((useTo g l e i).map intA)))])) 0 ⟨[0, 1], ToR.S rfl (by repeat' (first | exact rt_nil | refine rt_r rfl rfl ?_ | refine rt_t rfl rfl ?_ | refine rt_e rfl rfl ?_ | refine rt_p rfl rfl (by first | (simp [AV.bd, bdL, bdL_append]; done) | fail) ?_)) (by repeat' (first | exact ro_nil | refine ro_p rfl (by first | exact rfl | fail) (by first | exact bdL_map (fun _ => by exact rfl) _ | (simp [bdL, bdL_append, AV.bd]; done) | fail) ?_)) rfl (by (rw [hm]; exact rfl)) rfl (by (simp [bdT, AV.bd, bdL, bdL_append]; done)) (by repeat' (first | exact True.intro | refine And.intro ?_ ?_ | exact bdL_map (fun _ => by exact rfl) _ | (simp [bdOq, bdL, bdL_append, AV.bd]; done))) (by (rw [hm]; exact Nat.le_of_ble_eq_true rfl))⟩ (Nat.zero_le _) ?_
    intro r hr
    by_cases hrl : r < g.rules.length
    · have hx := hbin r hrl
      have hsn : ((g.rules.take (r + 1)).any fun r => decide (r.head = (e : Int)) && decide (binL g l r = (i : Int))) = (((g.rules.take r).any fun r => decide (r.head = (e : Int)) && decide (binL g l r = (i : Int))) || (decide ((nth g.rules r).head = (e : Int)) && decide (binL g l (nth g.rules r) = (i : Int)))) := by
        rw [take_succ_nth hrl, List.any_append]; simp
      generalize ((g.rules.take r).any fun r => decide (r.head = (e : Int)) && decide (binL g l r = (i : Int))) = F at *
      (repeat' (first | apply jA | apply jF | apply jH | apply jI | apply jN | (refine wp_cond rfl (fun hc => ?_) (fun hc => ?_) <;> (try simp only [sB, ne_eq, reduceCtorEq] at hc) <;> (try (exfalso; omega))) | (refine WP.regionC (id := 7) ?_; (refine smove rfl ?_); (refine sfieldp rfl rfl rfl ?_); (refine sloadp rfl rfl rfl rfl ?_); (refine slenm rfl rfl ?_); (refine slss rfl rfl ?_); apply jW) | (refine WP.regionC (id := 9) ?_; (refine smove rfl ?_); (refine smove rfl ?_); (refine sg (gq_vf rfl rfl) (fun he => ap_field_p (rq_p rfl rfl) rfl rfl) ?_); (refine sg (gq_vf rfl rfl) (fun he => ap_load_p (rq_c rfl rfl) rfl rfl rfl) ?_); (refine sg (gq_vf rfl rfl) (fun he => ap_move (rq_p rfl rfl)) ?_); (refine sg (gq_vf rfl rfl) (fun he => ap_idx_n (rq_c rfl rfl) (rq_c rfl rfl) (by (try simp only [sH, id, sB, ne_eq, reduceCtorEq] at he); omega)) ?_); (refine sg (gq_vf rfl rfl) (fun he => ap_field_i (rq_c rfl rfl) rfl rfl) ?_); (refine sg (gq_vf rfl rfl) (fun he => ap_load_i (rq_c rfl rfl) rfl) ?_); (refine sg (gq_vf rfl rfl) (fun he => ap_move (rq_p rfl rfl)) ?_); (refine sg (gq_vf rfl rfl) (fun he => ap_eql (rq_c rfl rfl) (rq_c rfl rfl)) ?_); (refine sg (gq_vf rfl rfl) (fun he => ap_move (rq_c rfl rfl)) ?_); (refine sg (gq_ct rfl rfl) (fun he => ap_load_pw (rq_p rfl rfl) rfl rfl rfl) ?_); (refine sg (gq_ct rfl rfl) (fun he => ap_move (rq_p rfl rfl)) ?_); (refine sg (gq_ct rfl rfl) (fun he => ap_move (rq_p rfl rfl)) ?_); (refine sg_p (gq_ct rfl rfl) (fun he => ⟨(rq_p rfl rfl), (RqL.cons (rq_c rfl rfl) (RqL.cons (rq_c rfl rfl) (RqL.cons (rq_c rfl rfl) (RqL.nil)))), (by first | ((repeat' first | exact SubL.nil | refine SubL.cons ?_ ?_ | exact Sub.refl); done) | fail), (by first | (simp [bdL, bdL_append, AV.bd]; done) | fail), hx⟩) ?_); (refine sg (gq_ct rfl rfl) (fun he => ap_move (rq_p rfl rfl)) ?_); (refine sg (gq_ct rfl rfl) (fun he => ap_eql (rq_c rfl rfl) (rq_c rfl rfl)) ?_); (refine sg (gq_vf rfl rfl) (fun he => ap_and (rq_c rfl rfl) (rq_c rfl rfl)) ?_); (refine su (ap_or (rq_p rfl rfl) (rq_c rfl rfl)) ?_); (refine sassign rfl ?_); apply jW) | (refine WP.regionC (id := 8) ?_; (refine smove rfl ?_); (refine sadd rfl rfl (by exact inr_i64_of (by omega)) ?_); (refine sassign rfl ?_); apply jW)))
      all_goals try (exfalso; omega)
      refine ⟨r + 1, ⟨by omega, by omega⟩, ?_⟩
      rw [hsn]
      exact ⟨[0, 1], ToR.S rfl (by repeat' (first | exact rt_nil | refine rt_r rfl rfl ?_ | refine rt_t rfl rfl ?_ | refine rt_e rfl rfl ?_ | refine rt_p rfl rfl (by first | (simp [AV.bd, bdL, bdL_append]; done) | fail) ?_)) (by repeat' (first | exact ro_nil | refine ro_p rfl (by first | exact rfl | fail) (by first | exact bdL_map (fun _ => by exact rfl) _ | (simp [bdL, bdL_append, AV.bd]; done) | fail) ?_)) rfl (by (rw [hm]; exact rfl)) rfl (by (simp [bdT, AV.bd, bdL, bdL_append]; done)) (by repeat' (first | exact True.intro | refine And.intro ?_ ?_ | exact bdL_map (fun _ => by exact rfl) _ | (simp [bdOq, bdL, bdL_append, AV.bd]; done))) (by (rw [hm]; exact Nat.le_of_ble_eq_true rfl))⟩
    · rw [List.take_of_length_le (by omega)]
      have hsu := useTo_succ g l e i
      cases hF : (g.rules.any fun r => decide (r.head = (e : Int)) && decide (binL g l r = (i : Int))) with
      | false =>
        rw [hF, if_neg (by simp), List.append_nil] at hsu
        (repeat' (first | apply jA | apply jH | apply jI | apply jJ | apply jL | apply jN | apply jP | (refine wp_cond rfl (fun hc => ?_) (fun hc => ?_) <;> (try simp only [sB, ne_eq, reduceCtorEq] at hc) <;> (try (exfalso; omega))) | (refine WP.regionC (id := 7) ?_; (refine smove rfl ?_); (refine sfieldp rfl rfl rfl ?_); (refine sloadp rfl rfl rfl rfl ?_); (refine slenm rfl rfl ?_); (refine slss rfl rfl ?_); apply jW) | (refine WP.regionC (id := 10) ?_; (refine smove rfl ?_); apply jW) | (refine WP.regionC (id := 4) ?_; (refine smove rfl ?_); (refine sadd rfl rfl (by exact inr_i64_of (by omega)) ?_); (refine sassign rfl ?_); apply jW)))
        all_goals try (exfalso; simp at hc; done)
        refine ⟨i + 1, ⟨by omega, by omega⟩, ?_⟩
        rw [hsu]
        exact ⟨[0, 1], ToR.S rfl (by repeat' (first | exact rt_nil | refine rt_r rfl rfl ?_ | refine rt_t rfl rfl ?_ | refine rt_e rfl rfl ?_ | refine rt_p rfl rfl (by first | (simp [AV.bd, bdL, bdL_append]; done) | fail) ?_)) (by repeat' (first | exact ro_nil | refine ro_p rfl (by first | exact rfl | fail) (by first | exact bdL_map (fun _ => by exact rfl) _ | (simp [bdL, bdL_append, AV.bd]; done) | fail) ?_)) rfl (by (rw [hm]; exact rfl)) rfl (by (simp [bdT, AV.bd, bdL, bdL_append]; done)) (by repeat' (first | exact True.intro | refine And.intro ?_ ?_ | exact bdL_map (fun _ => by exact rfl) _ | (simp [bdOq, bdL, bdL_append, AV.bd]; done))) (by (rw [hm]; exact Nat.le_of_ble_eq_true rfl))⟩
      | true =>
        rw [hF, if_pos rfl] at hsu
        (repeat' (first | apply jA | apply jH | apply jJ | apply jL | apply jN | apply jP | (refine wp_cond rfl (fun hc => ?_) (fun hc => ?_) <;> (try simp only [sB, ne_eq, reduceCtorEq] at hc) <;> (try (exfalso; omega))) | (refine WP.regionC (id := 7) ?_; (refine smove rfl ?_); (refine sfieldp rfl rfl rfl ?_); (refine sloadp rfl rfl rfl rfl ?_); (refine slenm rfl rfl ?_); (refine slss rfl rfl ?_); apply jW) | (refine WP.regionC (id := 10) ?_; (refine smove rfl ?_); apply jW) | (refine WP.regionC (id := 11) ?_; (refine smove rfl ?_); (refine smove rfl ?_); (refine se_lit (OpP.cons rfl (OpP.nil)) rfl rfl rfl rfl rfl rfl ?_); (refine se_app1 rfl rfl rfl rfl rfl rfl rfl rfl (by omega) ?_); (refine sassign rfl ?_); apply jW) | (refine WP.regionC (id := 4) ?_; (refine smove rfl ?_); (refine sadd rfl rfl (by exact inr_i64_of (by omega)) ?_); (refine sassign rfl ?_); apply jW)))
        all_goals try (exfalso; simp at hc; done)
        refine ⟨i + 1, ⟨by omega, by omega⟩, ?_⟩
        rw [hsu]
        exact ⟨[0, 3], ToR.S rfl (by repeat' (first | exact rt_nil | refine rt_r rfl rfl ?_ | refine rt_t rfl rfl ?_ | refine rt_e rfl rfl ?_ | refine rt_p rfl rfl (by first | (simp [AV.bd, bdL, bdL_append]; done) | fail) ?_)) (by repeat' (first | exact ro_nil | refine ro_p rfl (by first | exact rfl | fail) (by first | exact bdL_map (fun _ => by exact rfl) _ | (simp [bdL, bdL_append, AV.bd]; done) | fail) ?_)) rfl (by (rw [hm]; exact rfl)) rfl (by (simp [bdT, AV.bd, bdL, bdL_append]; done)) (by repeat' (first | exact True.intro | refine And.intro ?_ ?_ | exact bdL_map (fun _ => by exact rfl) _ | (simp [bdOq, bdL, bdL_append, AV.bd]; done))) (by (rw [hm]; exact Nat.le_of_ble_eq_true rfl))⟩
  · obtain rfl : i = l.length := by omega
    (repeat' (first | apply jA | apply jH | apply jJ | apply jK | apply jL | apply jP | apply jS | (refine wp_cond rfl (fun hc => ?_) (fun hc => ?_) <;> (try simp only [sB, ne_eq, reduceCtorEq] at hc) <;> (try (exfalso; omega))) | (refine WP.regionC (id := 3) ?_; (refine smove rfl ?_); (refine smove rfl ?_); (refine slenm rfl rfl ?_); (refine slss rfl rfl ?_); apply jW) | (refine WP.regionC (id := 12) ?_; (refine smove rfl ?_); (refine sassign rfl ?_); apply jW) | refine ret_sl rfl rfl rfl (fun _ => by exact rfl) (fun _ => rfl) ?_))
    all_goals rfl
theorem decimal20_fn (n : Nat) : n ≤ 1000 → Fn Tryd.prog 40 [intA (n : Nat)] (strA (tx (Lib.decDigits n))) := by
  induction n using Nat.strongRecOn with
  | ind n ih =>
    intro hn
    by_cases h : n < 10
    · rw [dd_lt (by omega)]
      refine Fn.intro rfl (by kernel_rfl) Tryd.func40 rfl rfl Tryd.ntmps40 (by exact Nat.le_of_ble_eq_true rfl) ?_; intro Γ hm
      (repeat' (first | apply jA | apply jH | apply jK | apply jM | apply jS | (refine wp_cond rfl (fun hc => ?_) (fun hc => ?_) <;> (try simp only [sB, ne_eq, reduceCtorEq] at hc) <;> (try (exfalso; omega))) | (refine WP.regionC (id := 0) ?_; (refine sassign rfl ?_); apply jW) | (refine WP.regionC (id := 1) ?_; (refine smove rfl ?_); (refine slss rfl rfl ?_); apply jW) | (refine WP.regionC (id := 2) ?_; (refine smove rfl ?_); (refine sadd rfl rfl (by exact inr_i64_of (by omega)) ?_); (refine su (aconv rfl rfl (by kernel_rfl) (by exact inr_u8_of (by omega))) ?_); (refine se_lit (OpP.cons rfl (OpP.nil)) rfl rfl rfl rfl rfl rfl ?_); (refine su (ap_conv_r1 (rq_p rfl rfl) rfl (by omega) rfl rfl (by kernel_rfl) (by kernel_rfl)) ?_); (refine sassign rfl ?_); apply jW)))
      all_goals try (exfalso; omega)
      rw [show ((48 : Int) + (n : Int)).toNat = 48 + n % 10 by omega]
      exact ret_eq rfl rfl rfl
    · have h1 := ih (n / 10) (by omega) (by omega)
      have h2 := ih (n % 10) (by omega) (by omega)
      rw [← tdiv10Y] at h1
      rw [← tmod10Y] at h2
      have t1 := tmod10Y n
      have t2 := tdiv10Y n
      have l1 := dd_len (n / 10) (by omega)
      have l2 := dd_len (n % 10) (by omega)
      have s1 := tx_size (Lib.decDigits (n / 10))
      have s2 := tx_size (Lib.decDigits (n % 10))
      have e : tx (Lib.decDigits n) = tx (Lib.decDigits (n / 10)) ++ tx (Lib.decDigits (n % 10)) := by
        rw [dd_step (by omega), dd_lt (u := n % 10) (by omega), tx_app, Nat.mod_mod]
      rw [e]
      refine Fn.intro rfl (by kernel_rfl) Tryd.func40 rfl rfl Tryd.ntmps40 (by exact Nat.le_of_ble_eq_true rfl) ?_; intro Γ hm
      (repeat' (first | apply jA | apply jH | apply jI | apply jK | apply jS | (refine wp_cond rfl (fun hc => ?_) (fun hc => ?_) <;> (try simp only [sB, ne_eq, reduceCtorEq] at hc) <;> (try (exfalso; omega))) | (refine WP.regionC (id := 0) ?_; (refine sassign rfl ?_); apply jW) | (refine WP.regionC (id := 1) ?_; (refine smove rfl ?_); (refine slss rfl rfl ?_); apply jW) | (refine WP.regionC (id := 3) ?_; (refine smove rfl ?_); (refine su (aquo rfl rfl (And.intro (by decide) (by exact inr_i64_of (by omega)))) ?_); (refine sc_p rfl rfl (by first | ((repeat' first | exact SubL.nil | refine SubL.cons ?_ ?_ | exact Sub.refl); done) | fail) (by first | (simp [bdL, bdL_append, AV.bd]; done) | fail) (h1) ?_); (refine smove rfl ?_); (refine su (arem rfl rfl (by omega)) ?_); (refine sc_p rfl rfl (by first | ((repeat' first | exact SubL.nil | refine SubL.cons ?_ ?_ | exact Sub.refl); done) | fail) (by first | (simp [bdL, bdL_append, AV.bd]; done) | fail) (h2) ?_); (refine su (acat rfl rfl (by omega)) ?_); (refine sassign rfl ?_); apply jW) | exact ret_eq rfl rfl rfl))
      all_goals try (exfalso; omega)
theorem index20_fn (l : List Int) (v : Int) : Fn Tryd.prog 41 [intsA l, intA v] (intA (indexP (fun x => decide (x = v)) l + 1)) := by
  refine Fn.intro rfl (by kernel_rfl) Tryd.func41 rfl rfl Tryd.ntmps41 (by exact Nat.le_of_ble_eq_true rfl) ?_; intro Γ hm
  refine wp_lens 0 rfl fun h0 => ?_
  have h0 : l.length ≤ 9223372036854775807 := by have := h0; simp [AV.lens, intsA] at this; omega
  (repeat' (first | apply jA | apply jF | apply jH | (refine WP.regionC ?_; (refine sassign rfl ?_); apply jW)))
  refine wp_loop (fun k => k ≤ l.length ∧ (l.take k).any (fun x => decide (x = v)) = false) (fun k => l.length - k) (fun k => (S 20 [(0, intsA l), (1, intA v), (5, intA (k : Nat))] 0 [])) 0 ⟨[], ToR.S rfl (by repeat' (first | exact rt_nil | refine rt_e rfl rfl ?_ | refine rt_p rfl rfl (by first | (simp [AV.bd, bdL, bdL_append]; done) | fail) ?_)) (by repeat' (exact ro_nil)) rfl (by (rw [hm]; exact rfl)) rfl (by (simp [bdT, AV.bd, bdL, bdL_append]; done)) (by repeat' (exact True.intro)) (by (rw [hm]; exact Nat.le_of_ble_eq_true rfl))⟩ ⟨Nat.zero_le _, rfl⟩ ?_
  rintro k ⟨hk, hall⟩
  (repeat' (first | apply jA | apply jF | apply jH | apply jI | apply jJ | apply jK | apply jL | apply jM | apply jN | apply jO | apply jP | apply jS | (refine wp_cond rfl (fun hc => ?_) (fun hc => ?_) <;> (try simp only [sB, ne_eq, reduceCtorEq] at hc) <;> (try (exfalso; omega))) | (refine WP.regionC (id := 2) ?_; (refine smove rfl ?_); (refine smove rfl ?_); (refine slenm rfl rfl ?_); (refine slss rfl rfl ?_); apply jW) | (refine WP.regionC (id := 4) ?_; (refine smove rfl ?_); (refine smove rfl ?_); (refine sidxn rfl rfl (by omega) ?_); (refine sloadw rfl rfl ?_); (refine smove rfl ?_); (refine seql rfl rfl ?_); apply jW) | (refine WP.regionC ?_; (refine smove rfl ?_); (refine sadd rfl rfl (by exact inr_i64_of (by omega)) ?_); (refine sassign rfl ?_); apply jW) | (refine WP.regionC (id := 6) ?_; (refine sassign rfl ?_); apply jW) | refine ret_i rfl ?_))
  · rw [indexP_at (p := fun x => decide (x = v)) (by omega) hall (by simp [hc])]
  · exact ⟨k + 1, ⟨by omega, by omega, take_any_succ (by omega) hall (by simp [hc])⟩, ⟨[], ToR.S rfl (by repeat' (first | exact rt_nil | refine rt_e rfl rfl ?_ | refine rt_p rfl rfl (by first | (simp [AV.bd, bdL, bdL_append]; done) | fail) ?_)) (by repeat' (exact ro_nil)) rfl (by (rw [hm]; exact rfl)) rfl (by (simp [bdT, AV.bd, bdL, bdL_append]; done)) (by repeat' (exact True.intro)) (by (rw [hm]; exact Nat.le_of_ble_eq_true rfl))⟩⟩
  · rw [indexP_no (p := fun x => decide (x = v)) (by omega) hall]; rfl
end Go.Lg

namespace Go.Lg
open Go.Proofs
set_option linter.unusedSimpArgs false
set_option linter.unusedVariables false
attribute [local irreducible] Ap Rq asemC WP RunD Ret Gq thenA inBlockA bodyQ noGotoA RqL RqP OpP
set_option maxHeartbeats 4000000
set_option maxRecDepth 20000
attribute [local simp] AV.cells
theorem noTok_nth {g : Gram} {l : List GLe} {i k : Nat} (hi : i < l.length) (hk : k < (nth l i).tokens.length) (h : ¬ 0 ≤ termI g (nth (nth l i).tokens k)) : noTok g l = false := by
  rw [Bool.eq_false_iff]
  intro hn
  unfold noTok lvlTok at hn
  rw [List.all_eq_true] at hn
  have := hn _ (List.mem_flatten.2 ⟨_, List.mem_map.2 ⟨_, nth_mem hi, rfl⟩, nth_mem hk⟩)
  exact h (by simpa using this)
theorem noTok_all {g : Gram} {l : List GLe} (h : ∀ i, i < l.length → ∀ k, k < (nth l i).tokens.length → 0 ≤ termI g (nth (nth l i).tokens k)) : noTok g l = true := by
  unfold noTok lvlTok
  rw [List.all_eq_true]
  intro s hs
  obtain ⟨q, hq, hs⟩ := List.mem_flatten.1 hs
  obtain ⟨x, hx, rfl⟩ := List.mem_map.1 hq
  obtain ⟨i, hi, rfl⟩ := List.getElem_of_mem hx
  obtain ⟨k, hk, rfl⟩ := List.getElem_of_mem hs
  have h2 := h i hi
  rw [nth_eq hi] at h2
  have := h2 k hk
  rw [nth_eq hk] at this
  simpa using this
theorem confl_any {g : Gram} {l : List GLe} {i : Nat} (hi : i < g.rules.length) (h : conflG g l i = true) : (List.range g.rules.length).any (conflG g l) = true := by
  rw [List.any_eq_true]; exact ⟨i, List.mem_range.2 hi, h⟩
theorem sameOp_iff {g : Gram} {l : List GLe} {r s : Rul} : sameOp g l r s = true ↔ 0 ≤ binL g l s ∧ s.head = r.head ∧ nth s.body 1 = nth r.body 1 := by
  unfold sameOp
  simp only [Bool.and_eq_true, decide_eq_true_eq, and_assoc]
theorem bin_len3 {g : Gram} {l : List GLe} {r : Rul} (h : 0 ≤ binL g l r) : r.body.length = 3 := (selfB_iff.1 (bin_self h).1).1
theorem check20_fn (g : Gram) (l : List GLe) (hf : FewL l) : Fn Tryd.prog 13 [gramA g, levelsA l] (intA (checkG g l)) := by
  have hfn := hf.n
  have hft := hf.t
  have hg := rvalid18_fn g
  have hlv := levs20_fn l hf
  unfold checkG
  cases hval : validG g with
  | false =>
    rw [hval] at hg
    rw [Bool.false_and, if_neg (by simp)]
    refine Fn.intro rfl (by kernel_rfl) Tryd.func13 rfl rfl Tryd.ntmps13 (by exact Nat.le_of_ble_eq_true rfl) ?_; intro Γ hm
    (repeat' (first | apply jA | apply jH | apply jK | apply jM | apply jS | (refine wp_cond rfl (fun hc => ?_) (fun hc => ?_) <;> (try simp only [sB, ne_eq, reduceCtorEq] at hc) <;> (try (exfalso; omega))) | (refine WP.regionC (id := 0) ?_; (refine se_box rfl (by exact ⟨rfl, rfl⟩) ?_); (refine sassign rfl ?_); apply jW) | (refine WP.regionC (id := 1) ?_; (refine sloadpw rfl rfl rfl rfl ?_); (refine sc_p rfl rfl (by first | ((repeat' first | exact SubL.nil | refine SubL.cons ?_ ?_ | exact Sub.refl); done) | fail) (by first | (simp [bdL, bdL_append, AV.bd]; done) | fail) (hg) ?_); (refine su (anot rfl) ?_); (refine smove rfl ?_); (refine sg (gq_vf rfl rfl) (fun he => ap_move (rq_p rfl rfl)) ?_); (refine sk_no rfl rfl ?_); (refine sk_no rfl rfl ?_); (refine pk_t rfl rfl ?_); apply jW) | (refine WP.regionC (id := 2) ?_; (refine sassign rfl ?_); apply jW) | exact ret_eq rfl rfl rfl))
    all_goals (rfl)
  | true =>
    rw [hval] at hg
    have hv := validG_iff.1 hval
    have hr2 := hv.r2
    cases hlo : levsOk l with
    | false =>
      rw [hlo] at hlv
      rw [Bool.and_false, if_neg (by simp)]
      refine Fn.intro rfl (by kernel_rfl) Tryd.func13 rfl rfl Tryd.ntmps13 (by exact Nat.le_of_ble_eq_true rfl) ?_; intro Γ hm
      (repeat' (first | apply jA | apply jH | apply jI | apply jK | apply jM | apply jS | (refine wp_cond rfl (fun hc => ?_) (fun hc => ?_) <;> (try simp only [sB, ne_eq, reduceCtorEq] at hc) <;> (try (exfalso; omega))) | (refine WP.regionC (id := 0) ?_; (refine se_box rfl (by exact ⟨rfl, rfl⟩) ?_); (refine sassign rfl ?_); apply jW) | (refine WP.regionC (id := 1) ?_; (refine sloadpw rfl rfl rfl rfl ?_); (refine sc_p rfl rfl (by first | ((repeat' first | exact SubL.nil | refine SubL.cons ?_ ?_ | exact Sub.refl); done) | fail) (by first | (simp [bdL, bdL_append, AV.bd]; done) | fail) (hg) ?_); (refine su (anot rfl) ?_); (refine smove rfl ?_); (refine sg (gq_vf rfl rfl) (fun he => ap_move (rq_p rfl rfl)) ?_); (refine sg_p (gq_vf rfl rfl) (fun he => ⟨(rq_p rfl rfl), (RqL.cons (rq_c rfl rfl) (RqL.nil)), (by first | ((repeat' first | exact SubL.nil | refine SubL.cons ?_ ?_ | exact Sub.refl); done) | fail), (by first | (simp [bdL, bdL_append, AV.bd]; done) | fail), hlv⟩) ?_); (refine sg (gq_vf rfl rfl) (fun he => ap_not (rq_c rfl rfl)) ?_); (refine su (ap_or (rq_p rfl rfl) (rq_c rfl rfl)) ?_); apply jW) | (refine WP.regionC (id := 2) ?_; (refine sassign rfl ?_); apply jW) | exact ret_eq rfl rfl rfl))
      all_goals ((exfalso; simp at hc; done))
    | true =>
      rw [hlo] at hlv
      rw [Bool.and_self, if_pos rfl]
      have hterm := term20_fn g
      refine Fn.intro rfl (by kernel_rfl) Tryd.func13 rfl rfl Tryd.ntmps13 (by exact Nat.le_of_ble_eq_true rfl) ?_; intro Γ hm
      (repeat' (first | apply jA | apply jF | apply jH | apply jI | (refine wp_cond rfl (fun hc => ?_) (fun hc => ?_) <;> (try simp only [sB, ne_eq, reduceCtorEq] at hc) <;> (try (exfalso; omega))) | (refine WP.regionC (id := 0) ?_; (refine se_box rfl (by exact ⟨rfl, rfl⟩) ?_); (refine sassign rfl ?_); apply jW) | (refine WP.regionC (id := 1) ?_; (refine sloadpw rfl rfl rfl rfl ?_); (refine sc_p rfl rfl (by first | ((repeat' first | exact SubL.nil | refine SubL.cons ?_ ?_ | exact Sub.refl); done) | fail) (by first | (simp [bdL, bdL_append, AV.bd]; done) | fail) (hg) ?_); (refine su (anot rfl) ?_); (refine smove rfl ?_); (refine sg (gq_vf rfl rfl) (fun he => ap_move (rq_p rfl rfl)) ?_); (refine sg_p (gq_vf rfl rfl) (fun he => ⟨(rq_p rfl rfl), (RqL.cons (rq_c rfl rfl) (RqL.nil)), (by first | ((repeat' first | exact SubL.nil | refine SubL.cons ?_ ?_ | exact Sub.refl); done) | fail), (by first | (simp [bdL, bdL_append, AV.bd]; done) | fail), hlv⟩) ?_); (refine sg (gq_vf rfl rfl) (fun he => ap_not (rq_c rfl rfl)) ?_); (refine su (ap_or (rq_p rfl rfl) (rq_c rfl rfl)) ?_); apply jW) | (refine WP.regionC (id := 3) ?_; (refine sassign rfl ?_); apply jW)))
      all_goals try (exfalso; simp at hc; done)
      refine wp_loop (fun (i : Nat) => i ≤ l.length ∧ ∀ j, j < i → ∀ k, k < (nth l j).tokens.length → 0 ≤ termI g (nth (nth l j).tokens k)) (fun i => l.length - i)
        (fun i => (S 131 [(1, levelsA l), (2, .ptr 0 4 0 0), (5, intA (i : Nat))] 1 [(0, some (.arr 4 [gramA g]))])) 0 ⟨[0], ToR.S rfl (by repeat' (first | exact rt_nil | refine rt_t rfl rfl ?_ | refine rt_e rfl rfl ?_ | refine rt_p rfl rfl (by first | (simp [AV.bd, bdL, bdL_append]; done) | fail) ?_)) (by repeat' (first | exact ro_nil | refine ro_p rfl (by first | exact rfl | fail) (by first | (simp [bdL, bdL_append, AV.bd]; done) | fail) ?_)) rfl (by (rw [hm]; exact rfl)) rfl (by (simp [bdT, AV.bd, bdL, bdL_append]; done)) (by repeat' (first | exact True.intro | refine And.intro ?_ ?_ | (simp [bdOq, bdL, bdL_append, AV.bd]; done))) (by (rw [hm]; exact Nat.le_of_ble_eq_true rfl))⟩ ⟨Nat.zero_le _, by omega⟩ ?_
      rintro i ⟨hi, hall⟩
      by_cases hlt : i < l.length
      · have htk := hft _ (nth_mem hlt)
        (repeat' (first | apply jA | apply jF | apply jH | apply jI | (refine wp_cond rfl (fun hc => ?_) (fun hc => ?_) <;> (try simp only [sB, ne_eq, reduceCtorEq] at hc) <;> (try (exfalso; omega))) | (refine WP.regionC (id := 4) ?_; (refine smove rfl ?_); (refine smove rfl ?_); (refine slenm rfl rfl ?_); (refine slss rfl rfl ?_); apply jW) | (refine WP.regionC (id := 6) ?_; (refine sassign rfl ?_); apply jW)))
        refine wp_loop (fun (k : Nat) => k ≤ (nth l i).tokens.length ∧ ∀ m, m < k → 0 ≤ termI g (nth (nth l i).tokens m)) (fun k => (nth l i).tokens.length - k)
          (fun k => (S 131 [(1, levelsA l), (2, .ptr 0 4 0 0), (5, intA (i : Nat)), (6, intA (k : Nat))] 1 [(0, some (.arr 4 [gramA g]))])) 0 ⟨[0], ToR.S rfl (by repeat' (first | exact rt_nil | refine rt_t rfl rfl ?_ | refine rt_e rfl rfl ?_ | refine rt_p rfl rfl (by first | (simp [AV.bd, bdL, bdL_append]; done) | fail) ?_)) (by repeat' (first | exact ro_nil | refine ro_p rfl (by first | exact rfl | fail) (by first | (simp [bdL, bdL_append, AV.bd]; done) | fail) ?_)) rfl (by (rw [hm]; exact rfl)) rfl (by (simp [bdT, AV.bd, bdL, bdL_append]; done)) (by repeat' (first | exact True.intro | refine And.intro ?_ ?_ | (simp [bdOq, bdL, bdL_append, AV.bd]; done))) (by (rw [hm]; exact Nat.le_of_ble_eq_true rfl))⟩ ⟨Nat.zero_le _, by omega⟩ ?_
        rintro k ⟨hk, hallk⟩
        by_cases hkl : k < (nth l i).tokens.length
        · (repeat' (first | apply jA | apply jF | apply jH | apply jI | apply jK | apply jM | apply jN | apply jO | apply jS | (refine wp_cond rfl (fun hc => ?_) (fun hc => ?_) <;> (try simp only [sB, ne_eq, reduceCtorEq] at hc) <;> (try (exfalso; omega))) | (refine WP.regionC (id := 7) ?_; (refine smove rfl ?_); (refine smove rfl ?_); (refine smove rfl ?_); (refine sidxn rfl rfl (by omega) ?_); (refine su (afieldi rfl rfl rfl) ?_); (refine su (aloadi rfl rfl) ?_); (refine slenm rfl rfl ?_); (refine slss rfl rfl ?_); apply jW) | (refine wp_draw (id := 9) 11 mixed (by kernel_rfl) (by kernel_rfl) rfl ?_ <;> (refine rd_u rfl rfl (aloadpw rfl rfl rfl rfl) ?_) <;> (refine rmove rfl ?_) <;> (refine rmove rfl ?_) <;> (refine rd_u rfl rfl (aidxn rfl rfl (by omega)) ?_) <;> (refine rd_u rfl rfl (afieldi rfl rfl rfl) ?_) <;> (refine rd_u rfl rfl (aloadi rfl rfl) ?_) <;> (refine rmove rfl ?_) <;> (refine rd_u rfl rfl (aidxn rfl rfl (by omega)) ?_) <;> (refine rd_u rfl rfl (aloadw rfl rfl) ?_) <;> (refine rd_call rfl rfl (by first | ((repeat' first | exact SubL.nil | refine SubL.cons ?_ ?_ | exact Sub.refl); done) | fail) (by first | (simp [bdL, bdL_append, AV.bd]; done) | fail) (hterm _) ?_) <;> (refine rd_u rfl rfl (alss rfl rfl) ?_) <;> (refine rd_end (by kernel_rfl) ?_)) | (refine WP.regionC (id := 10) ?_; (refine sassign rfl ?_); apply jW) | (refine WP.regionC (id := 8) ?_; (refine smove rfl ?_); (refine sadd rfl rfl (by exact inr_i64_of (by omega)) ?_); (refine sassign rfl ?_); apply jW) | refine ret_i rfl ?_))
          · rw [noTok_nth hlt hkl (by omega), if_neg (by simp)]
          · exact ⟨k + 1, ⟨by omega, by omega, fun m hm => by
              by_cases e : m = k
              · subst e; omega
              · exact hallk m (by omega)⟩, ⟨[0], ToR.S rfl (by repeat' (first | exact rt_nil | refine rt_t rfl rfl ?_ | refine rt_e rfl rfl ?_ | refine rt_p rfl rfl (by first | (simp [AV.bd, bdL, bdL_append]; done) | fail) ?_)) (by repeat' (first | exact ro_nil | refine ro_p rfl (by first | exact rfl | fail) (by first | (simp [bdL, bdL_append, AV.bd]; done) | fail) ?_)) rfl (by (rw [hm]; exact rfl)) rfl (by (simp [bdT, AV.bd, bdL, bdL_append]; done)) (by repeat' (first | exact True.intro | refine And.intro ?_ ?_ | (simp [bdOq, bdL, bdL_append, AV.bd]; done))) (by (rw [hm]; exact Nat.le_of_ble_eq_true rfl))⟩⟩
        · (repeat' (first | apply jA | apply jH | apply jJ | apply jL | apply jN | apply jP | (refine wp_cond rfl (fun hc => ?_) (fun hc => ?_) <;> (try simp only [sB, ne_eq, reduceCtorEq] at hc) <;> (try (exfalso; omega))) | (refine WP.regionC (id := 7) ?_; (refine smove rfl ?_); (refine smove rfl ?_); (refine smove rfl ?_); (refine sidxn rfl rfl (by omega) ?_); (refine su (afieldi rfl rfl rfl) ?_); (refine su (aloadi rfl rfl) ?_); (refine slenm rfl rfl ?_); (refine slss rfl rfl ?_); apply jW) | (refine WP.regionC (id := 5) ?_; (refine smove rfl ?_); (refine sadd rfl rfl (by exact inr_i64_of (by omega)) ?_); (refine sassign rfl ?_); apply jW)))
          exact ⟨i + 1, ⟨by omega, by omega, fun j hj => by
            by_cases e : j = i
            · subst e; exact fun m hm => hallk m (by omega)
            · exact hall j (by omega)⟩, ⟨[0], ToR.S rfl (by repeat' (first | exact rt_nil | refine rt_t rfl rfl ?_ | refine rt_e rfl rfl ?_ | refine rt_p rfl rfl (by first | (simp [AV.bd, bdL, bdL_append]; done) | fail) ?_)) (by repeat' (first | exact ro_nil | refine ro_p rfl (by first | exact rfl | fail) (by first | (simp [bdL, bdL_append, AV.bd]; done) | fail) ?_)) rfl (by (rw [hm]; exact rfl)) rfl (by (simp [bdT, AV.bd, bdL, bdL_append]; done)) (by repeat' (first | exact True.intro | refine And.intro ?_ ?_ | (simp [bdOq, bdL, bdL_append, AV.bd]; done))) (by (rw [hm]; exact Nat.le_of_ble_eq_true rfl))⟩⟩
      · rw [noTok_all fun j hj => hall j (by omega), if_pos rfl]
        have hbin := fun r hr => binary20_fn hv l hf r hr
        (repeat' (first | apply jA | apply jF | apply jH | apply jJ | apply jL | apply jP | (refine wp_cond rfl (fun hc => ?_) (fun hc => ?_) <;> (try simp only [sB, ne_eq, reduceCtorEq] at hc) <;> (try (exfalso; omega))) | (refine WP.regionC (id := 4) ?_; (refine smove rfl ?_); (refine smove rfl ?_); (refine slenm rfl rfl ?_); (refine slss rfl rfl ?_); apply jW) | (refine WP.regionC (id := 11) ?_; (refine sassign rfl ?_); apply jW)))
        refine wp_loop (fun (r : Nat) => r ≤ g.rules.length ∧ ∀ j, j < r → conflG g l j = false) (fun r => g.rules.length - r)
          (fun r => (S 131 [(1, levelsA l), (2, .ptr 0 4 0 0), (7, intA (r : Nat))] 1 [(0, some (.arr 4 [gramA g]))])) 0 ⟨[0], ToR.S rfl (by repeat' (first | exact rt_nil | refine rt_t rfl rfl ?_ | refine rt_e rfl rfl ?_ | refine rt_p rfl rfl (by first | (simp [AV.bd, bdL, bdL_append]; done) | fail) ?_)) (by repeat' (first | exact ro_nil | refine ro_p rfl (by first | exact rfl | fail) (by first | (simp [bdL, bdL_append, AV.bd]; done) | fail) ?_)) rfl (by (rw [hm]; exact rfl)) rfl (by (simp [bdT, AV.bd, bdL, bdL_append]; done)) (by repeat' (first | exact True.intro | refine And.intro ?_ ?_ | (simp [bdOq, bdL, bdL_append, AV.bd]; done))) (by (rw [hm]; exact Nat.le_of_ble_eq_true rfl))⟩ ⟨Nat.zero_le _, by omega⟩ ?_
        rintro r ⟨hr, hcf⟩
        by_cases hrl : r < g.rules.length
        · have hx := hbin r hrl
          have hrf := hv.rule _ (nth_mem hrl)
          have hln := hrf.len
          by_cases hb : 0 ≤ binL g l (nth g.rules r)
          · have h3 := bin_len3 hb
            have hcd : conflG g l r = (g.rules.take r).any (sameOp g l (nth g.rules r)) := by unfold conflG; rw [if_pos hb]
            (repeat' (first | apply jA | apply jF | apply jH | apply jI | (refine wp_cond rfl (fun hc => ?_) (fun hc => ?_) <;> (try simp only [sB, ne_eq, reduceCtorEq] at hc) <;> (try (exfalso; omega))) | (refine WP.regionC (id := 12) ?_; (refine smove rfl ?_); (refine sfieldp rfl rfl rfl ?_); (refine sloadp rfl rfl rfl rfl ?_); (refine slenm rfl rfl ?_); (refine slss rfl rfl ?_); apply jW) | (refine WP.regionC (id := 14) ?_; (refine sloadpw rfl rfl rfl rfl ?_); (refine smove rfl ?_); (refine smove rfl ?_); (refine sc_p rfl rfl (by first | ((repeat' first | exact SubL.nil | refine SubL.cons ?_ ?_ | exact Sub.refl); done) | fail) (by first | (simp [bdL, bdL_append, AV.bd]; done) | fail) (hx) ?_); (refine su (ageq rfl rfl) ?_); apply jW) | (refine WP.regionC (id := 15) ?_; (refine sassign rfl ?_); apply jW)))
            all_goals try (exfalso; omega)
            refine wp_loop (fun (s : Nat) => s ≤ r ∧ ∀ j, j < s → sameOp g l (nth g.rules r) (nth g.rules j) = false) (fun s => r - s)
              (fun s => (S 131 [(1, levelsA l), (2, .ptr 0 4 0 0), (7, intA (r : Nat)), (8, intA (s : Nat))] 1 [(0, some (.arr 4 [gramA g]))])) 0 ⟨[0], ToR.S rfl (by repeat' (first | exact rt_nil | refine rt_t rfl rfl ?_ | refine rt_e rfl rfl ?_ | refine rt_p rfl rfl (by first | (simp [AV.bd, bdL, bdL_append]; done) | fail) ?_)) (by repeat' (first | exact ro_nil | refine ro_p rfl (by first | exact rfl | fail) (by first | (simp [bdL, bdL_append, AV.bd]; done) | fail) ?_)) rfl (by (rw [hm]; exact rfl)) rfl (by (simp [bdT, AV.bd, bdL, bdL_append]; done)) (by repeat' (first | exact True.intro | refine And.intro ?_ ?_ | (simp [bdOq, bdL, bdL_append, AV.bd]; done))) (by (rw [hm]; exact Nat.le_of_ble_eq_true rfl))⟩ ⟨Nat.zero_le _, by omega⟩ ?_
            rintro s ⟨hs, hall2⟩
            by_cases hsr : s < r
            · have hxs := hbin s (by omega)
              have hso := sameOp_iff (g := g) (l := l) (r := nth g.rules r) (s := nth g.rules s)
              have hsm : nth g.rules s ∈ g.rules.take r := by
                rw [show nth g.rules s = nth (g.rules.take r) s by rw [nth_eq (by omega), nth_eq (by rw [List.length_take]; omega), List.getElem_take]]
                exact nth_mem (by rw [List.length_take]; omega)
              by_cases hbs : 0 ≤ binL g l (nth g.rules s)
              · have h3s := bin_len3 hbs
                have hso2 : sameOp g l (nth g.rules r) (nth g.rules s) = true ↔ (nth g.rules s).head = (nth g.rules r).head ∧ nth (nth g.rules s).body (nat_lit 1) = nth (nth g.rules r).body (nat_lit 1) := ⟨fun h => (hso.1 h).2, fun h => hso.2 ⟨hbs, h⟩⟩
                by_cases hsame : sameOp g l (nth g.rules r) (nth g.rules s) = true
                · have hs2 := hso2.1 hsame
                  rw [confl_any hrl (by rw [hcd, List.any_eq_true]; exact ⟨_, hsm, hsame⟩), if_pos rfl]
                  (repeat' (first | apply jA | apply jF | apply jH | apply jI | apply jK | apply jM | apply jN | apply jO | apply jS | (refine wp_cond rfl (fun hc => ?_) (fun hc => ?_) <;> (try simp only [sB, ne_eq, reduceCtorEq] at hc) <;> (try (exfalso; omega))) | (refine WP.regionC (id := 16) ?_; (refine smove rfl ?_); (refine smove rfl ?_); (refine slss rfl rfl ?_); apply jW) | (refine wp_draw (id := 18) 39 mixed (by kernel_rfl) (by kernel_rfl) rfl ?_ <;> (refine rd_u rfl rfl (aloadpw rfl rfl rfl rfl) ?_) <;> (refine rmove rfl ?_) <;> (refine rmove rfl ?_) <;> (refine rd_call rfl rfl (by first | ((repeat' first | exact SubL.nil | refine SubL.cons ?_ ?_ | exact Sub.refl); done) | fail) (by first | (simp [bdL, bdL_append, AV.bd]; done) | fail) (hxs) ?_) <;> (refine rd_u rfl rfl (ageq rfl rfl) ?_) <;> (refine rmove rfl ?_) <;> ((refine rd_split (t := 68) rfl (fun hc => ?_) (fun hc => ?_) <;> (try simp only [sB, ne_eq, reduceCtorEq] at hc) <;> (try (exfalso; omega)) <;> (refine gfieldp rfl rfl rfl rfl rfl ?_))) <;> (refine gloadp rfl rfl rfl rfl rfl rfl ?_) <;> (refine gmove rfl rfl rfl ?_) <;> (refine rdg_u rfl rfl rfl rfl (aidxn rfl rfl (by omega)) ?_) <;> (refine rdg_u rfl rfl rfl rfl (afieldi rfl rfl rfl) ?_) <;> (refine rdg_u rfl rfl rfl rfl (aloadi rfl rfl) ?_) <;> (refine gfieldp rfl rfl rfl rfl rfl ?_) <;> (refine gloadp rfl rfl rfl rfl rfl rfl ?_) <;> (refine gmove rfl rfl rfl ?_) <;> (refine rdg_u rfl rfl rfl rfl (aidxn rfl rfl (by omega)) ?_) <;> (refine rdg_u rfl rfl rfl rfl (afieldi rfl rfl rfl) ?_) <;> (refine rdg_u rfl rfl rfl rfl (aloadi rfl rfl) ?_) <;> (refine rdg_u rfl rfl rfl rfl (aeql rfl rfl) ?_) <;> (refine rd_pick_t rfl rfl ?_) <;> (refine rmove rfl ?_) <;> ((refine rd_split (t := 83) rfl (fun hc => ?_) (fun hc => ?_) <;> (try simp only [sB, ne_eq, reduceCtorEq] at hc) <;> (try (exfalso; omega)) <;> (refine gfieldp rfl rfl rfl rfl rfl ?_))) <;> (refine gloadp rfl rfl rfl rfl rfl rfl ?_) <;> (refine gmove rfl rfl rfl ?_) <;> (refine rdg_u rfl rfl rfl rfl (aidxn rfl rfl (by omega)) ?_) <;> (refine rdg_u rfl rfl rfl rfl (afieldi rfl rfl rfl) ?_) <;> (refine rdg_u rfl rfl rfl rfl (aloadi rfl rfl) ?_) <;> (refine rdg_u rfl rfl rfl rfl (aidxn rfl rfl (by (simp only [sL] <;> omega))) ?_) <;> (refine rdg_u rfl rfl rfl rfl (aloadw rfl rfl) ?_) <;> (refine gfieldp rfl rfl rfl rfl rfl ?_) <;> (refine gloadp rfl rfl rfl rfl rfl rfl ?_) <;> (refine gmove rfl rfl rfl ?_) <;> (refine rdg_u rfl rfl rfl rfl (aidxn rfl rfl (by omega)) ?_) <;> (refine rdg_u rfl rfl rfl rfl (afieldi rfl rfl rfl) ?_) <;> (refine rdg_u rfl rfl rfl rfl (aloadi rfl rfl) ?_) <;> (refine rdg_u rfl rfl rfl rfl (aidxn rfl rfl (by (simp only [sL] <;> omega))) ?_) <;> (refine rdg_u rfl rfl rfl rfl (aloadw rfl rfl) ?_) <;> (refine rdg_u rfl rfl rfl rfl (aeql rfl rfl) ?_) <;> (refine rd_pick_t rfl rfl ?_) <;> (refine rd_end (by kernel_rfl) ?_)) | (refine WP.regionC (id := 19) ?_; (refine sassign rfl ?_); apply jW) | exact ret_eq rfl rfl rfl))
                  all_goals ((exfalso; grind))
                · have hs2 : ¬ ((nth g.rules s).head = (nth g.rules r).head ∧ nth (nth g.rules s).body (nat_lit 1) = nth (nth g.rules r).body (nat_lit 1)) := fun h => hsame (hso2.2 h)
                  (repeat' (first | apply jA | apply jF | apply jH | apply jI | apply jN | (refine wp_cond rfl (fun hc => ?_) (fun hc => ?_) <;> (try simp only [sB, ne_eq, reduceCtorEq] at hc) <;> (try (exfalso; omega))) | (refine WP.regionC (id := 16) ?_; (refine smove rfl ?_); (refine smove rfl ?_); (refine slss rfl rfl ?_); apply jW) | (refine wp_draw (id := 18) 39 mixed (by kernel_rfl) (by kernel_rfl) rfl ?_ <;> (refine rd_u rfl rfl (aloadpw rfl rfl rfl rfl) ?_) <;> (refine rmove rfl ?_) <;> (refine rmove rfl ?_) <;> (refine rd_call rfl rfl (by first | ((repeat' first | exact SubL.nil | refine SubL.cons ?_ ?_ | exact Sub.refl); done) | fail) (by first | (simp [bdL, bdL_append, AV.bd]; done) | fail) (hxs) ?_) <;> (refine rd_u rfl rfl (ageq rfl rfl) ?_) <;> (refine rmove rfl ?_) <;> ((refine rd_split (t := 68) rfl (fun hc => ?_) (fun hc => ?_) <;> (try simp only [sB, ne_eq, reduceCtorEq] at hc) <;> (try (exfalso; omega)) <;> (refine gfieldp rfl rfl rfl rfl rfl ?_))) <;> (refine gloadp rfl rfl rfl rfl rfl rfl ?_) <;> (refine gmove rfl rfl rfl ?_) <;> (refine rdg_u rfl rfl rfl rfl (aidxn rfl rfl (by omega)) ?_) <;> (refine rdg_u rfl rfl rfl rfl (afieldi rfl rfl rfl) ?_) <;> (refine rdg_u rfl rfl rfl rfl (aloadi rfl rfl) ?_) <;> (refine gfieldp rfl rfl rfl rfl rfl ?_) <;> (refine gloadp rfl rfl rfl rfl rfl rfl ?_) <;> (refine gmove rfl rfl rfl ?_) <;> (refine rdg_u rfl rfl rfl rfl (aidxn rfl rfl (by omega)) ?_) <;> (refine rdg_u rfl rfl rfl rfl (afieldi rfl rfl rfl) ?_) <;> (refine rdg_u rfl rfl rfl rfl (aloadi rfl rfl) ?_) <;> (refine rdg_u rfl rfl rfl rfl (aeql rfl rfl) ?_) <;> (refine rd_pick_t rfl rfl ?_) <;> (refine rmove rfl ?_) <;> ((refine rd_split (t := 83) rfl (fun hc => ?_) (fun hc => ?_) <;> (try simp only [sB, ne_eq, reduceCtorEq] at hc) <;> (try (exfalso; omega)) <;> (first | refine rd_skip rfl rfl ?_ | refine gfieldp rfl rfl rfl rfl rfl ?_))) <;> (first | refine rd_skip rfl rfl ?_ | refine gloadp rfl rfl rfl rfl rfl rfl ?_) <;> (first | refine rd_skip rfl rfl ?_ | refine gmove rfl rfl rfl ?_) <;> (first | refine rd_skip rfl rfl ?_ | refine rdg_u rfl rfl rfl rfl (aidxn rfl rfl (by omega)) ?_) <;> (first | refine rd_skip rfl rfl ?_ | refine rdg_u rfl rfl rfl rfl (afieldi rfl rfl rfl) ?_) <;> (first | refine rd_skip rfl rfl ?_ | refine rdg_u rfl rfl rfl rfl (aloadi rfl rfl) ?_) <;> (first | refine rd_skip rfl rfl ?_ | refine rdg_u rfl rfl rfl rfl (aidxn rfl rfl (by (simp only [sL] <;> omega))) ?_) <;> (first | refine rd_skip rfl rfl ?_ | refine rdg_u rfl rfl rfl rfl (aloadw rfl rfl) ?_) <;> (first | refine rd_skip rfl rfl ?_ | refine gfieldp rfl rfl rfl rfl rfl ?_) <;> (first | refine rd_skip rfl rfl ?_ | refine gloadp rfl rfl rfl rfl rfl rfl ?_) <;> (first | refine rd_skip rfl rfl ?_ | refine gmove rfl rfl rfl ?_) <;> (first | refine rd_skip rfl rfl ?_ | refine rdg_u rfl rfl rfl rfl (aidxn rfl rfl (by omega)) ?_) <;> (first | refine rd_skip rfl rfl ?_ | refine rdg_u rfl rfl rfl rfl (afieldi rfl rfl rfl) ?_) <;> (first | refine rd_skip rfl rfl ?_ | refine rdg_u rfl rfl rfl rfl (aloadi rfl rfl) ?_) <;> (first | refine rd_skip rfl rfl ?_ | refine rdg_u rfl rfl rfl rfl (aidxn rfl rfl (by (simp only [sL] <;> omega))) ?_) <;> (first | refine rd_skip rfl rfl ?_ | refine rdg_u rfl rfl rfl rfl (aloadw rfl rfl) ?_) <;> (first | refine rd_skip rfl rfl ?_ | refine rdg_u rfl rfl rfl rfl (aeql rfl rfl) ?_) <;> (first | refine rd_pick_t rfl rfl ?_ | refine rd_pick_f rfl rfl ?_) <;> (refine rd_end (by kernel_rfl) ?_)) | (refine WP.regionC (id := 17) ?_; (refine smove rfl ?_); (refine sadd rfl rfl (by exact inr_i64_of (by omega)) ?_); (refine sassign rfl ?_); apply jW)))
                  all_goals try (exfalso; grind)
                  all_goals exact ⟨s + 1, ⟨by omega, by omega, fun j hj => by
                    by_cases e : j = s
                    · subst e; simpa using hsame
                    · exact hall2 j (by omega)⟩, ⟨[0], ToR.S rfl (by repeat' (first | exact rt_nil | refine rt_t rfl rfl ?_ | refine rt_e rfl rfl ?_ | refine rt_p rfl rfl (by first | (simp [AV.bd, bdL, bdL_append]; done) | fail) ?_)) (by repeat' (first | exact ro_nil | refine ro_p rfl (by first | exact rfl | fail) (by first | (simp [bdL, bdL_append, AV.bd]; done) | fail) ?_)) rfl (by (rw [hm]; exact rfl)) rfl (by (simp [bdT, AV.bd, bdL, bdL_append]; done)) (by repeat' (first | exact True.intro | refine And.intro ?_ ?_ | (simp [bdOq, bdL, bdL_append, AV.bd]; done))) (by (rw [hm]; exact Nat.le_of_ble_eq_true rfl))⟩⟩
              · have hsame : sameOp g l (nth g.rules r) (nth g.rules s) = false := by
                  rw [Bool.eq_false_iff]; exact fun h => hbs (hso.1 h).1
                (repeat' (first | apply jA | apply jF | apply jH | apply jI | apply jN | (refine wp_cond rfl (fun hc => ?_) (fun hc => ?_) <;> (try simp only [sB, ne_eq, reduceCtorEq] at hc) <;> (try (exfalso; omega))) | (refine WP.regionC (id := 16) ?_; (refine smove rfl ?_); (refine smove rfl ?_); (refine slss rfl rfl ?_); apply jW) | (refine wp_draw (id := 18) 39 mixed (by kernel_rfl) (by kernel_rfl) rfl ?_ <;> (refine rd_u rfl rfl (aloadpw rfl rfl rfl rfl) ?_) <;> (refine rmove rfl ?_) <;> (refine rmove rfl ?_) <;> (refine rd_call rfl rfl (by first | ((repeat' first | exact SubL.nil | refine SubL.cons ?_ ?_ | exact Sub.refl); done) | fail) (by first | (simp [bdL, bdL_append, AV.bd]; done) | fail) (hxs) ?_) <;> (refine rd_u rfl rfl (ageq rfl rfl) ?_) <;> (refine rmove rfl ?_) <;> ((refine rd_split (t := 68) rfl (fun hc => ?_) (fun hc => ?_) <;> (try simp only [sB, ne_eq, reduceCtorEq] at hc) <;> (try (exfalso; omega)) <;> (refine rd_skip rfl rfl ?_))) <;> (refine rd_skip rfl rfl ?_) <;> (refine rd_skip rfl rfl ?_) <;> (refine rd_skip rfl rfl ?_) <;> (refine rd_skip rfl rfl ?_) <;> (refine rd_skip rfl rfl ?_) <;> (refine rd_skip rfl rfl ?_) <;> (refine rd_skip rfl rfl ?_) <;> (refine rd_skip rfl rfl ?_) <;> (refine rd_skip rfl rfl ?_) <;> (refine rd_skip rfl rfl ?_) <;> (refine rd_skip rfl rfl ?_) <;> (refine rd_skip rfl rfl ?_) <;> (refine rd_pick_f rfl rfl ?_) <;> (refine rmove rfl ?_) <;> (refine rd_skip rfl rfl ?_) <;> (refine rd_skip rfl rfl ?_) <;> (refine rd_skip rfl rfl ?_) <;> (refine rd_skip rfl rfl ?_) <;> (refine rd_skip rfl rfl ?_) <;> (refine rd_skip rfl rfl ?_) <;> (refine rd_skip rfl rfl ?_) <;> (refine rd_skip rfl rfl ?_) <;> (refine rd_skip rfl rfl ?_) <;> (refine rd_skip rfl rfl ?_) <;> (refine rd_skip rfl rfl ?_) <;> (refine rd_skip rfl rfl ?_) <;> (refine rd_skip rfl rfl ?_) <;> (refine rd_skip rfl rfl ?_) <;> (refine rd_skip rfl rfl ?_) <;> (refine rd_skip rfl rfl ?_) <;> (refine rd_skip rfl rfl ?_) <;> (refine rd_pick_f rfl rfl ?_) <;> (refine rd_end (by kernel_rfl) ?_)) | (refine WP.regionC (id := 17) ?_; (refine smove rfl ?_); (refine sadd rfl rfl (by exact inr_i64_of (by omega)) ?_); (refine sassign rfl ?_); apply jW)))
                all_goals try (exfalso; omega)
                all_goals exact ⟨s + 1, ⟨by omega, by omega, fun j hj => by
                  by_cases e : j = s
                  · subst e; exact hsame
                  · exact hall2 j (by omega)⟩, ⟨[0], ToR.S rfl (by repeat' (first | exact rt_nil | refine rt_t rfl rfl ?_ | refine rt_e rfl rfl ?_ | refine rt_p rfl rfl (by first | (simp [AV.bd, bdL, bdL_append]; done) | fail) ?_)) (by repeat' (first | exact ro_nil | refine ro_p rfl (by first | exact rfl | fail) (by first | (simp [bdL, bdL_append, AV.bd]; done) | fail) ?_)) rfl (by (rw [hm]; exact rfl)) rfl (by (simp [bdT, AV.bd, bdL, bdL_append]; done)) (by repeat' (first | exact True.intro | refine And.intro ?_ ?_ | (simp [bdOq, bdL, bdL_append, AV.bd]; done))) (by (rw [hm]; exact Nat.le_of_ble_eq_true rfl))⟩⟩
            · (repeat' (first | apply jA | apply jH | apply jJ | apply jL | apply jP | (refine wp_cond rfl (fun hc => ?_) (fun hc => ?_) <;> (try simp only [sB, ne_eq, reduceCtorEq] at hc) <;> (try (exfalso; omega))) | (refine WP.regionC (id := 16) ?_; (refine smove rfl ?_); (refine smove rfl ?_); (refine slss rfl rfl ?_); apply jW) | (refine WP.regionC (id := 13) ?_; (refine smove rfl ?_); (refine sadd rfl rfl (by exact inr_i64_of (by omega)) ?_); (refine sassign rfl ?_); apply jW)))
              have hcr : conflG g l r = false := by
                rw [hcd, List.any_eq_false]
                intro x hx
                obtain ⟨j, hj, e⟩ := List.getElem_of_mem hx
                rw [List.length_take] at hj
                rw [List.getElem_take] at e
                have := hall2 j (by omega)
                rw [nth_eq (show j < g.rules.length by omega), e] at this
                simp [this]
              exact ⟨r + 1, ⟨by omega, by omega, fun j hj => by
                by_cases e : j = r
                · subst e; exact hcr
                · exact hcf j (by omega)⟩, ⟨[0], ToR.S rfl (by repeat' (first | exact rt_nil | refine rt_t rfl rfl ?_ | refine rt_e rfl rfl ?_ | refine rt_p rfl rfl (by first | (simp [AV.bd, bdL, bdL_append]; done) | fail) ?_)) (by repeat' (first | exact ro_nil | refine ro_p rfl (by first | exact rfl | fail) (by first | (simp [bdL, bdL_append, AV.bd]; done) | fail) ?_)) rfl (by (rw [hm]; exact rfl)) rfl (by (simp [bdT, AV.bd, bdL, bdL_append]; done)) (by repeat' (first | exact True.intro | refine And.intro ?_ ?_ | (simp [bdOq, bdL, bdL_append, AV.bd]; done))) (by (rw [hm]; exact Nat.le_of_ble_eq_true rfl))⟩⟩
          · have hcd : conflG g l r = (nth g.rules r).body.any fun t => decide (0 ≤ t) && decide (0 ≤ levelG g l t) := by unfold conflG; rw [if_neg hb]
            have hlvl := level20_fn g l hf
            (repeat' (first | apply jA | apply jF | apply jH | apply jI | (refine wp_cond rfl (fun hc => ?_) (fun hc => ?_) <;> (try simp only [sB, ne_eq, reduceCtorEq] at hc) <;> (try (exfalso; omega))) | (refine WP.regionC (id := 12) ?_; (refine smove rfl ?_); (refine sfieldp rfl rfl rfl ?_); (refine sloadp rfl rfl rfl rfl ?_); (refine slenm rfl rfl ?_); (refine slss rfl rfl ?_); apply jW) | (refine WP.regionC (id := 14) ?_; (refine sloadpw rfl rfl rfl rfl ?_); (refine smove rfl ?_); (refine smove rfl ?_); (refine sc_p rfl rfl (by first | ((repeat' first | exact SubL.nil | refine SubL.cons ?_ ?_ | exact Sub.refl); done) | fail) (by first | (simp [bdL, bdL_append, AV.bd]; done) | fail) (hx) ?_); (refine su (ageq rfl rfl) ?_); apply jW) | (refine WP.regionC (id := 20) ?_; (refine sassign rfl ?_); apply jW)))
            all_goals try (exfalso; omega)
            refine wp_loop (fun (k : Nat) => k ≤ (nth g.rules r).body.length ∧ ((nth g.rules r).body.take k).any (fun t => decide (0 ≤ t) && decide (0 ≤ levelG g l t)) = false) (fun k => (nth g.rules r).body.length - k)
              (fun k => (S 131 [(1, levelsA l), (2, .ptr 0 4 0 0), (7, intA (r : Nat)), (9, intA (k : Nat))] 1 [(0, some (.arr 4 [gramA g]))])) 0 ⟨[0], ToR.S rfl (by repeat' (first | exact rt_nil | refine rt_t rfl rfl ?_ | refine rt_e rfl rfl ?_ | refine rt_p rfl rfl (by first | (simp [AV.bd, bdL, bdL_append]; done) | fail) ?_)) (by repeat' (first | exact ro_nil | refine ro_p rfl (by first | exact rfl | fail) (by first | (simp [bdL, bdL_append, AV.bd]; done) | fail) ?_)) rfl (by (rw [hm]; exact rfl)) rfl (by (simp [bdT, AV.bd, bdL, bdL_append]; done)) (by repeat' (first | exact True.intro | refine And.intro ?_ ?_ | (simp [bdOq, bdL, bdL_append, AV.bd]; done))) (by (rw [hm]; exact Nat.le_of_ble_eq_true rfl))⟩ ⟨Nat.zero_le _, rfl⟩ ?_
            rintro k ⟨hk, hallk⟩
            by_cases hkl : k < (nth g.rules r).body.length
            · (repeat' (first | apply jA | apply jF | apply jH | apply jI | apply jK | apply jM | apply jN | apply jO | apply jS | (refine wp_cond rfl (fun hc => ?_) (fun hc => ?_) <;> (try simp only [sB, ne_eq, reduceCtorEq] at hc) <;> (try (exfalso; omega))) | (refine WP.regionC (id := 21) ?_; (refine smove rfl ?_); (refine sfieldp rfl rfl rfl ?_); (refine sloadp rfl rfl rfl rfl ?_); (refine smove rfl ?_); (refine sidxn rfl rfl (by omega) ?_); (refine su (afieldi rfl rfl rfl) ?_); (refine su (aloadi rfl rfl) ?_); (refine slenm rfl rfl ?_); (refine slss rfl rfl ?_); apply jW) | (refine WP.regionC (id := 23) ?_; (refine sfieldp rfl rfl rfl ?_); (refine sloadp rfl rfl rfl rfl ?_); (refine smove rfl ?_); (refine sidxn rfl rfl (by omega) ?_); (refine su (afieldi rfl rfl rfl) ?_); (refine su (aloadi rfl rfl) ?_); (refine smove rfl ?_); (refine sidxn rfl rfl (by omega) ?_); (refine sloadw rfl rfl ?_); (refine sassign rfl ?_); apply jW) | (refine WP.regionC (id := 24) ?_; (refine smove rfl ?_); (refine su (ageq rfl rfl) ?_); (refine smove rfl ?_); (refine sg (gq_vt rfl rfl) (fun he => ap_load_pw (rq_p rfl rfl) rfl rfl rfl) ?_); (refine sg (gq_vt rfl rfl) (fun he => ap_move (rq_p rfl rfl)) ?_); (refine sg (gq_vt rfl rfl) (fun he => ap_move (rq_p rfl rfl)) ?_); (refine sg_p (gq_vt rfl rfl) (fun he => ⟨(rq_p rfl rfl), (RqL.cons (rq_c rfl rfl) (RqL.cons (rq_c rfl rfl) (RqL.cons (rq_c rfl rfl) (RqL.nil)))), (by first | ((repeat' first | exact SubL.nil | refine SubL.cons ?_ ?_ | exact Sub.refl); done) | fail), (by first | (simp [bdL, bdL_append, AV.bd]; done) | fail), hlvl _⟩) ?_); (refine sg (gq_vt rfl rfl) (fun he => ap_geq (rq_c rfl rfl) (rq_p rfl rfl)) ?_); (refine su (ap_and (rq_p rfl rfl) (rq_c rfl rfl)) ?_); apply jW) | (refine WP.regionC (id := 25) ?_; (refine sassign rfl ?_); apply jW) | (refine WP.regionC (id := 22) ?_; (refine smove rfl ?_); (refine sadd rfl rfl (by exact inr_i64_of (by omega)) ?_); (refine sassign rfl ?_); apply jW) | refine ret_i rfl ?_))
              · rw [confl_any hrl (by rw [hcd, List.any_eq_true]; exact ⟨_, nth_mem hkl, by simp [hc.1, hc.2]⟩), if_pos rfl]
              · exact ⟨k + 1, ⟨by omega, by omega, take_any_succ hkl hallk (by
                  rw [Bool.and_eq_false_iff, decide_eq_false_iff_not, decide_eq_false_iff_not]
                  omega)⟩, ⟨[0], ToR.S rfl (by repeat' (first | exact rt_nil | refine rt_t rfl rfl ?_ | refine rt_e rfl rfl ?_ | refine rt_p rfl rfl (by first | (simp [AV.bd, bdL, bdL_append]; done) | fail) ?_)) (by repeat' (first | exact ro_nil | refine ro_p rfl (by first | exact rfl | fail) (by first | (simp [bdL, bdL_append, AV.bd]; done) | fail) ?_)) rfl (by (rw [hm]; exact rfl)) rfl (by (simp [bdT, AV.bd, bdL, bdL_append]; done)) (by repeat' (first | exact True.intro | refine And.intro ?_ ?_ | (simp [bdOq, bdL, bdL_append, AV.bd]; done))) (by (rw [hm]; exact Nat.le_of_ble_eq_true rfl))⟩⟩
            · (repeat' (first | apply jA | apply jH | apply jJ | apply jL | apply jN | apply jP | (refine wp_cond rfl (fun hc => ?_) (fun hc => ?_) <;> (try simp only [sB, ne_eq, reduceCtorEq] at hc) <;> (try (exfalso; omega))) | (refine WP.regionC (id := 21) ?_; (refine smove rfl ?_); (refine sfieldp rfl rfl rfl ?_); (refine sloadp rfl rfl rfl rfl ?_); (refine smove rfl ?_); (refine sidxn rfl rfl (by omega) ?_); (refine su (afieldi rfl rfl rfl) ?_); (refine su (aloadi rfl rfl) ?_); (refine slenm rfl rfl ?_); (refine slss rfl rfl ?_); apply jW) | (refine WP.regionC (id := 13) ?_; (refine smove rfl ?_); (refine sadd rfl rfl (by exact inr_i64_of (by omega)) ?_); (refine sassign rfl ?_); apply jW)))
              rw [List.take_of_length_le (by omega), ← hcd] at hallk
              exact ⟨r + 1, ⟨by omega, by omega, fun j hj => by
                by_cases e : j = r
                · subst e; exact hallk
                · exact hcf j (by omega)⟩, ⟨[0], ToR.S rfl (by repeat' (first | exact rt_nil | refine rt_t rfl rfl ?_ | refine rt_e rfl rfl ?_ | refine rt_p rfl rfl (by first | (simp [AV.bd, bdL, bdL_append]; done) | fail) ?_)) (by repeat' (first | exact ro_nil | refine ro_p rfl (by first | exact rfl | fail) (by first | (simp [bdL, bdL_append, AV.bd]; done) | fail) ?_)) rfl (by (rw [hm]; exact rfl)) rfl (by (simp [bdT, AV.bd, bdL, bdL_append]; done)) (by repeat' (first | exact True.intro | refine And.intro ?_ ?_ | (simp [bdOq, bdL, bdL_append, AV.bd]; done))) (by (rw [hm]; exact Nat.le_of_ble_eq_true rfl))⟩⟩
        · have hno : (List.range g.rules.length).any (conflG g l) = false := by
            rw [List.any_eq_false]
            intro j hj
            have := hcf j (by have := List.mem_range.1 hj; omega)
            simp [this]
          rw [hno, if_neg (by simp)]
          (repeat' (first | apply jA | apply jH | apply jJ | apply jK | apply jL | apply jP | apply jS | (refine wp_cond rfl (fun hc => ?_) (fun hc => ?_) <;> (try simp only [sB, ne_eq, reduceCtorEq] at hc) <;> (try (exfalso; omega))) | (refine WP.regionC (id := 12) ?_; (refine smove rfl ?_); (refine sfieldp rfl rfl rfl ?_); (refine sloadp rfl rfl rfl rfl ?_); (refine slenm rfl rfl ?_); (refine slss rfl rfl ?_); apply jW) | (refine WP.regionC (id := 26) ?_; (refine sassign rfl ?_); apply jW) | exact ret_eq rfl rfl rfl))
end Go.Lg

namespace Go.Lg
open Go.RowKit
set_option linter.unusedVariables false
section
variable {P : Program} {Γ : Cx} {A : Nat → Prop} {ρ : Nat → Option Nat} {s : St} {a : Act} {w : World}
set_option maxHeartbeats 1600000 in
theorem append_two (h : SRa Γ A ρ s a w) {t tx ty e : TypeId} {ti te : TI} (ht : tinfo P t = some ti) (he : ti.elem = some e) (hte : tinfo P e = some te) {d : TypeDesc} (hd : P.underlying tx = some d) (hd' : ∀ k, d ≠ .int k) (hz0 : (zeroA te).isSome = true)
    {y : AV} {v u : Value} {id len : Nat} {es ys : List AV} (hlook : s.look id = some (.arr te.size es)) (hel : es.length = len) (hx : RV A ρ (Im Γ ρ s w) w (.ref id te.size 0 len) v) (hy : RV A ρ (Im Γ ρ s w) w y u) (hys : srcA te s.look y = some ys) (hpos : 0 < ys.length) (hroom : room te (es.length + ys.length)) {nid : Nat} (hn : nid < s.objs.length) (hA : ¬ A nid) :
    ∃ z w', (Builtin.append_ #[t, tx] ty #[v, u]).run P w = .ok z w' ∧
      ((SRa Γ A ρ (s.set id (some (.arr te.size (es ++ ys)))) a w' ∧ RV A ρ (Im Γ ρ (s.set id (some (.arr te.size (es ++ ys)))) w') w' (.ref id te.size 0 (es ++ ys).length) z) ∨
       ∃ ρ', SRa Γ (fun i => A i ∨ i = nid) ρ' (s.set nid (some (.arr te.size (es ++ ys)))) a w' ∧ RV (fun i => A i ∨ i = nid) ρ' (Im Γ ρ' (s.set nid (some (.arr te.size (es ++ ys)))) w') w' (.ref nid te.size 0 (es ++ ys).length) z) := by
  have hu := elem_spec ht he
  obtain ⟨z0, hz0⟩ := Option.isSome_iff_exists.1 hz0
  obtain ⟨zv, _, hzc, _, _, hzl, hs0, _, i, hi, hz, hsz, hby⟩ := zeroA_spec hte hz0
  have hzcs : zv.cells.size = te.size := by rw [← Array.length_toList, hzc, hzl]
  have grow : ∀ (olds news : List Value) (es ys : List AV) (old : Nat), old < es.length + ys.length → CR A ρ (Im Γ ρ s w) w (flat es) olds → CR A ρ (Im Γ ρ s w) w (flat ys) news → (∀ e, e ∈ es → e.cells.length = te.size) → (∀ e, e ∈ ys → e.cells.length = te.size) →
      room te (es.length + ys.length) →
      let w' := w.drew.alloc (.cells (olds.toArray ++ news.toArray ++ Builtin.zeroCells zv.cells (grownCap w (es.length + ys.length) old e - (es.length + ys.length))) e)
      let ρ' := fun i => if i = nid then some w.heap.size else ρ i
      SRa Γ (fun i => A i ∨ i = nid) ρ' (s.set nid (some (.arr te.size (es ++ ys)))) a w' ∧
      csize w' w.heap.size = some (grownCap w (es.length + ys.length) old e * te.size) ∧ es.length + ys.length ≤ grownCap w (es.length + ys.length) old e ∧ grownCap w (es.length + ys.length) old e ≤ maxLen := by
    intro olds news es ys old hold ho hnw hke hky hroom w' ρ'
    have hall : ∀ e, e ∈ es ++ ys → e.cells.length = te.size := fun e he => (List.mem_append.1 he).elim (hke e) (hky e)
    have hcr : CR A ρ (Im Γ ρ s w) w (flat (es ++ ys)) (olds ++ news) := by rw [flat_append]; exact ho.append hnw
    have hfl := flat_length hall
    have hl := hcr.len
    have hrow := hcr.row hall (Builtin.zeroCells zv.cells (grownCap w (es.length + ys.length) old e - (es.length + ys.length))).toList
    have heq : (olds ++ news ++ (Builtin.zeroCells zv.cells (grownCap w (es.length + ys.length) old e - (es.length + ys.length))).toList).toArray = olds.toArray ++ news.toArray ++ Builtin.zeroCells zv.cells (grownCap w (es.length + ys.length) old e - (es.length + ys.length)) := by
      apply Array.ext'; simp
    rw [heq] at hrow
    have hge := grownCap_ge w (es.length + ys.length) old e
    have hpos : es.length + ys.length ≤ maxLen := by
      have hb := hroom.1
      have : es.length + ys.length ≤ (es.length + ys.length) * te.bytes := Nat.le_mul_of_pos_right _ (Nat.pos_of_ne_zero hroom.2)
      simp only [maxLen]; omega
    refine ⟨(h.drawn (w.drawn + 1)).newRow hn hA e (hrow.drawn _), ?_, hge, grownCap_le_maxLen w _ old e hpos⟩
    refine (csize_block (heap_alloc_new w.drew _)).trans ?_
    congr 1
    rw [← heq]
    simp only [List.size_toArray, List.length_append, hfl, Array.length_toList, size_zeroCells, hzcs] at hl ⊢
    rw [hl, ← Nat.add_mul]
    congr 1
    omega
  obtain ⟨news, hsrc, hcr, hky⟩ := srcA_sound h hy hys
  have hlive := St.look_some.1 hlook
  cases hx with
  | @ref _ _ _ _ cap b hAi hb hl hcs hm =>
    subst hel
    obtain ⟨cs, t', hblk, hrow⟩ := h.row hlook hb
    have hft := flat_length hrow.wide
    have hcap : cs.size = cap * te.size := by rw [csize_block hblk] at hcs; simpa using hcs
    have hocr := hrow.cr
    have hll := hocr.len
    have hof : ∀ d, (Builtin.firstCells i.size es.length (.slice (some ⟨b, 0 * te.size, none⟩) es.length cap)).run P { w with drawn := d } = .ok (cs.toList.take (flat es).length).toArray { w with drawn := d } := fun d => by
      refine firstCells_some i.size es.length b _ cap _ (by rw [hll, hft, hsz]) (fun j u hu => ?_) d es.length
      rw [cell_of_block hblk]
      rw [List.getElem?_take] at hu
      split at hu
      · simpa using hu
      · cases hu
    have hrun := run_append_gen (P := P) (w := w) (t := t) (tx := tx) (ty := ty) hu hd hd' hi hz hof (by rw [hsz]; exact hsrc) (by rw [hby]; exact hroom.1) (by rw [hby]; exact hroom.2)
    by_cases hle : es.length + ys.length ≤ cap
    · have hnl := hcr.len
      have hyl := flat_length hky
      have hfit : es.length * te.size + news.length ≤ cs.size := by
        rw [hnl, hyl, hcap, ← Nat.add_mul]; exact Nat.mul_le_mul_right _ hle
      have hst := run_storeCells_at P b (es.length * te.size) t' news 0 cs w hblk (by simpa using hfit) hcr.atoms
      simp only [Nat.add_zero] at hst
      have hall : ∀ e, e ∈ es ++ ys → e.cells.length = te.size := fun e he => (List.mem_append.1 he).elim (hrow.wide e) (hky e)
      have hrow2 : Row A ρ (Im Γ ρ s w) w te.size (es ++ ys) (cs.toList.take (es.length * te.size) ++ news ++ cs.toList.drop (es.length * te.size + news.length)).toArray := by
        have := (hocr.append hcr)
        rw [← flat_append, hft] at this
        exact this.row hall _
      have hw1 := h.writeRow (w' := w.setRow b (cs.toList.take (es.length * te.size) ++ news ++ cs.toList.drop (es.length * te.size + news.length)).toArray) hlive hb (by simp) rfl rfl rfl (fun c hc => setRow_grow w b c _ hc) hblk (setRow_heap w b cs _ t' (0, 0) hblk)
        (by simp only [List.size_toArray, List.length_append, List.length_take, List.length_drop, Array.length_toList]; omega) hrow2
      refine ⟨_, _, hrun.1 hle _ ?_, .inl ⟨hw1, ?_⟩⟩
      · simpa [hsz, add_lit] using hst
      · rw [List.length_append]
        have hcz := csize_block (setRow_heap w b cs (cs.toList.take (es.length * te.size) ++ news ++ cs.toList.drop (es.length * te.size + news.length)).toArray t' (0, 0) hblk)
        refine .ref hAi hb hle (hcz.trans ?_) hm
        congr 1
        rw [Nat.zero_add, ← hcap]
        simp only [List.size_toArray, List.length_append, List.length_take, List.length_drop, Array.length_toList]
        omega
    · have hg := grow _ news es ys cap (by omega) hocr hcr hrow.wide hky hroom
      obtain ⟨g1, g2, g3, g4⟩ := hg
      refine ⟨_, _, hrun.2 (by omega), .inr ⟨_, g1, ?_⟩⟩
      rw [List.length_append]
      exact .ref0 (.inr rfl) (by simp) g3 g2 g4
  | refn hAi hb =>
    have hnone := h.obj id _ hlive
    rw [hb] at hnone
    obtain ⟨k0, hk0⟩ := hnone.resolve_left (by simp)
    injection hk0 with _ hes
    subst hes
    have hrun := run_append_gen (P := P) (w := w) (t := t) (tx := tx) (ty := ty) hu hd hd' hi hz (base := none) (sLen := 0) (sCap := 0) (olds := []) (fun d => by simp [Builtin.firstCells]) (by rw [hsz]; exact hsrc) (by rw [hby]; simpa using hroom.1) (by rw [hby]; exact hroom.2)
    have hg := grow [] news [] ys 0 (by simp; omega) ⟨rfl, by simp, by simp [flat]⟩ hcr (by simp) hky (by simpa using hroom)
    simp only [List.length_nil, Nat.zero_add, List.nil_append] at hg hrun
    obtain ⟨g1, g2, g3, g4⟩ := hg
    exact ⟨_, _, hrun.2 (by omega), .inr ⟨_, g1, .ref0 (.inr rfl) (by simp) g3 g2 g4⟩⟩
end
section
variable {P : Program} {Γ : Cx} {n M : Nat} {l : List (Nat × AV)} {os : List (Nat × Option AObj)} {x X : AV} {d t : Tmp} {ty : TypeId} {pos : String} {af : Array Edge} {ops : Array Oper} {rest : List Oper} {K : St → Prop} {Q : Exit → St → Prop} {a b : Operand} {g : FuncId} {first cap xa ys : List AV} {f : Operand} {args : Array Operand} {tys : Array TypeId}
theorem wpo_app2 {i : Nat} {te tj : TI} {tx ty2 : TypeId} {k bt id len : Nat} {es zs : List AV} {y : AV} [ht : TEl P ty te k bt] [h3 : TIc P tx tj] (hop : ops[i]? = some ⟨some d, .call ⟨.builtin .append, #[a, b], #[ty, tx]⟩, ty2, pos, af, none⟩)
    (hsh : (match tj.sh with | .int => false | _ => true) = true) (ha : opq n l a = some (.ref id k 0 len)) (ho : lookq M os id = some (.arr k es)) (hl : es.length = len)
    (hb : opq n l b = some y) (hy : srcA te (lookq M os) y = some zs) (hpos : 0 < zs.length) (hz0 : (zeroA te).isSome = true) (hbt : Nat.beq bt 0 = false) (hr : (es.length + zs.length) * bt ≤ 140737488355328)
    (h1 : K (S n ((d, .ref id k 0 (es ++ zs).length) :: l) (M + 1) ((id, some (.arr k (es ++ zs))) :: (M, none) :: os)))
    (h2 : K (S n ((d, .ref M k 0 (es ++ zs).length) :: l) (M + 1) ((M, some (.arr k (es ++ zs))) :: os))) : WPO P Γ ops Q i K (S n l M os) := by
  obtain ⟨ti, el, g1, he, hs, g4, hsz, hbz⟩ := ht.h
  subst hsz
  intro ac w hs0
  unfold wpOp
  rw [hop]
  simp only
  rw [if_pos (by simp [Region.wanted])]
  refine .inl ?_
  obtain ⟨ρ, hρ⟩ := hs0
  have hM : (S n l M os).objs.length = M := ol_length M os
  have hroom := hρ.room'
  have e0 : ({ S n l M os with objs := (S n l M os).objs ++ [none] } : St) = S n l (M + 1) ((M, none) :: os) := by simp only [S]; rw [ol_push]
  rw [e0, hM] at hroom
  have hsh' : ¬ tj.sh = .int := by intro h; rw [h] at hsh; cases hsh
  obtain ⟨dd, hd, hd'⟩ := sh_not_int h3.h hsh'
  have hb0 : te.bytes ≠ 0 := by rw [hbz]; exact Nat.ne_of_beq_eq_false hbt
  have hrm : room te (es.length + zs.length) := ⟨by rw [hbz]; exact hr, hb0⟩
  have hidM : id < M := by
    unfold lookq at ho
    cases h : Nat.blt id M with
    | true => exact blt_of h
    | false => rw [h] at ho; simp at ho
  have hlk : ∀ j, j < M → lookq (M + 1) ((M, none) :: os) j = lookq M os j := fun j hj => by
    rw [← S_look n l, ← S_look n l]
    simp only [St.look, S]
    rw [← ol_push, List.getElem?_append_left (by rw [ol_length]; exact hj)]
  have hx := hroom.eval a
  have hyv := hroom.eval b
  have hopa : (S n l (M + 1) ((M, none) :: os)).op a = .ref id te.size 0 len := opq_op ha
  have hopb : (S n l (M + 1) ((M, none) :: os)).op b = y := opq_op hb
  rw [hopa] at hx
  rw [hopb] at hyv
  have hlook : (S n l (M + 1) ((M, none) :: os)).look id = some (.arr te.size es) := by rw [S_look, hlk id hidM]; exact ho
  have hys : srcA te (S n l (M + 1) ((M, none) :: os)).look y = some zs := by
    have e1 : ∀ j o, lookq M os j = some o → (S n l (M + 1) ((M, none) :: os)).look j = some o := fun j o hj => by
      have hjM : j < M := by
        unfold lookq at hj
        cases h : Nat.blt j M with
        | true => exact blt_of h
        | false => rw [h] at hj; simp at hj
      rw [S_look, hlk j hjM]; exact hj
    cases y with
    | ref id2 k2 off2 len2 =>
      simp only [srcA] at hy ⊢
      cases hq : lookq M os id2 with
      | none => rw [hq] at hy; cases hy
      | some o => rw [hq] at hy; rw [e1 _ _ hq]; exact hy
    | val v =>
      have e2 : ∀ f g : Nat → Option AObj, srcA te f (.val v) = srcA te g (.val v) := fun f g => by
        cases v with
        | slice a n c => cases a <;> cases n <;> rfl
        | _ => rfl
      rw [e2 _ (lookq M os)]; exact hy
    | _ => exact hy
  obtain ⟨z, w', hrun, hres⟩ := append_two (P := P) (ty := ty2) hroom g1 he g4 hd hd' hz0 hlook hl hx hyv hys hpos hrm (nid := M) (by rw [show (S n l (M + 1) ((M, none) :: os)).objs.length = M + 1 from ol_length _ _]; omega) (by omega)
  unfold Oper.wp
  rw [show (execOp ac.eval ⟨some d, .call ⟨.builtin .append, #[a, b], #[ty, tx]⟩, ty2, pos, af, none⟩).run P w = .ok (.value z) w' by simp_all [execOp, resolve, invoke, builtin]]
  simp only [Oper.upon]
  rcases hres with ⟨hA, hv⟩ | ⟨ρ', hA, hv⟩
  · refine ⟨_, h1, ρ, ?_⟩
    have h5 := hA.put (some d) hv
    have e : ((S n l (M + 1) ((M, none) :: os)).set id (some (.arr te.size (es ++ zs)))).put (some d) (.ref id te.size 0 (es ++ zs).length) = S n ((d, .ref id te.size 0 (es ++ zs).length) :: l) (M + 1) ((id, some (.arr te.size (es ++ zs))) :: (M, none) :: os) := by simp [S, St.set, St.put, ol_set, tl_set]
    rw [e] at h5
    refine h5.more (fun j hj => ?_) (fun j hj => hj)
    rw [show (S n ((d, AV.ref id te.size 0 (es ++ zs).length) :: l) (M + 1) ((id, some (.arr te.size (es ++ zs))) :: (M, none) :: os)).objs.length = M + 1 from ol_length _ _]
    omega
  · refine ⟨_, h2, ρ', ?_⟩
    have h5 := hA.put (some d) hv
    have e : ((S n l (M + 1) ((M, none) :: os)).set M (some (.arr te.size (es ++ zs)))).put (some d) (.ref M te.size 0 (es ++ zs).length) = S n ((d, .ref M te.size 0 (es ++ zs).length) :: l) (M + 1) ((M, some (.arr te.size (es ++ zs))) :: os) := by
      simp only [S, St.set, St.put, tl_set, St.mk.injEq, true_and]
      rw [← ol_push, ← ol_push, List.set_append_right _ _ (by rw [ol_length]; omega), ol_length, Nat.sub_self]
      rfl
    rw [e] at h5
    refine h5.more (fun j hj => ?_) (fun j hj => hj)
    rw [show (S n ((d, AV.ref M te.size 0 (es ++ zs).length) :: l) (M + 1) ((M, some (.arr te.size (es ++ zs))) :: os)).objs.length = M + 1 from ol_length _ _]
    omega
def FnQ (P : Program) (g : FuncId) (ys : List AV) (os : List AObj) (post : AV → List (Option AObj) → Prop) : Prop :=
  Spec P g ys (os.map some) fun r o' => post r o' ∧ os.length ≤ o'.length ∧ r.bd o'.length = true
def RetQ (P : Program) (rs : List ResultVar) (m : Nat) (post : AV → List (Option AObj) → Prop) (s : St) : Prop := ∃ X os', post X os' ∧ m ≤ os'.length ∧ X.bd os'.length = true ∧ RetO P rs m X os' s
theorem FnQ.intro {fn : Func} {c : Code} {aos : List AObj} {post : AV → List (Option AObj) → Prop} {rs : List ResultVar} (he : enterable P g = true) (hf : P.funcs[g]? = some fn) (hb : fn.body = some c) (hrs : fn.results = rs.toArray) (hn : fn.ntmps = n) (hl : ys.length ≤ n)
    (h : ∀ Γ : Cx, Γ.m = aos.length → WP P Γ c (bodyQ (RetQ P rs aos.length post)) (S n (enumA 0 ys) aos.length (enumO 0 aos))) : FnQ P g ys aos post := by
  refine Spec.introR he hf hb (rs := rs) (by rw [hrs]) fun Γ hm => ?_
  subst hn
  rw [List.length_map] at hm
  rw [tl_start _ _ hl]
  have hw := h Γ hm
  simp only [S, ← ol_enum] at hw
  refine WP.mono hw ?_
  have key : ∀ s, RetQ P rs aos.length post s → ∃ x y l t, resN P s rs = some x ∧ ToR (aos.map some).length l ⟨[x], s.objs⟩ ⟨[y], t⟩ ∧ (post y t ∧ aos.length ≤ t.length ∧ y.bd t.length = true) := by
    rintro s ⟨X, os', h1, h2, h3, x, is, h4, h5⟩
    exact ⟨x, X, is, os', h4, by rw [List.length_map]; exact h5, h1, h2, h3⟩
  intro e s hq
  cases e with
  | normal => exact key s hq
  | ret => exact key s hq
  | _ => exact hq
end
section
variable {P : Program} {Γ : Cx} {n M : Nat} {l : List (Nat × AV)} {os : List (Nat × Option AObj)} {x : AV} {d : Tmp} {ty : TypeId} {pos : String} {af : Array Edge} {ops : Array Oper} {Q : Exit → St → Prop} {fuel : Nat} {listed : Array Bool}
end
section
variable {P : Program} {Γ : Cx} {A : Nat → Prop} {ρ : Nat → Option Nat} {s : St} {a : Act} {w : World}
end
section
variable {P : Program} {Γ : Cx} {n M : Nat} {l : List (Nat × AV)} {os : List (Nat × Option AObj)} {c : Code} {Q : Exit → St → Prop}
end
section
variable {P : Program} {n M : Nat} {l : List (Nat × AV)} {os : List (Nat × Option AObj)} {ty : TypeId} {a b : Operand} {y : AV} {pos : String} {af : Array Edge} {ops : Array Oper} {rest : List Oper} {N i : Nat} 
def oneE : AV → Bool
  | .agg _ => false
  | e => e.one
end
section
variable {P : Program} {Γ : Cx} {n M : Nat} {l : List (Nat × AV)} {os : List (Nat × Option AObj)} {c : Code} {Q : Exit → St → Prop}
end
theorem wp_cut {P : Program} {Γ : Cx} {c : Code} {s : St} {Q' : Exit → St → Prop} (R : St → Prop) (h1 : WP P Γ c (fun e s => e = .normal ∧ R s) s) (h2 : ∀ s, R s → Q' .normal s) : WP P Γ c Q' s :=
  h1.mono fun e s ⟨he, hr⟩ => by subst he; exact h2 s hr
section
variable {P : Program} {n M : Nat} {l : List (Nat × AV)} {os : List (Nat × Option AObj)} {d : Tmp} {ty : TypeId} {pos : String} {af : Array Edge} {ops : Array Oper} {rest : List Oper} {K : St → Prop} {a b : Operand}
end
section
variable {P : Program} {Γ : Cx} {n M : Nat} {l : List (Nat × AV)} {os : List (Nat × Option AObj)} {c : Code} {Q : Exit → St → Prop}
end
end Go.Lg
