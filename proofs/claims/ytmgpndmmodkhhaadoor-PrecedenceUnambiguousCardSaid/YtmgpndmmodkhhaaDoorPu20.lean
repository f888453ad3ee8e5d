/-
  Part 20 of the proof of PrecedenceUnambiguousCard: the logic over the model, the functions' contracts and the plain laws.
-/
import Derived.Test.YtmgpndmmodkhhaaDoorPu19
import Derived.OrdersIn

set_option linter.unusedSimpArgs false
set_option linter.unusedVariables false
set_option linter.unusedSectionVars false
set_option linter.defProp false
set_option maxRecDepth 20000
set_option maxHeartbeats 8000000

namespace Go.Lg
open Go.RowKit
section
variable {P : Program} {Γ : Cx} {n M : Nat} {l : List (Nat × AV)} {os : List (Nat × Option AObj)} {Q : Exit -> St -> Prop}
end
section
variable {P : Program} {Γ : Cx} {n M : Nat} {l : List (Nat × AV)} {os : List (Nat × Option AObj)} {Q : Exit -> St -> Prop}
end
end Go.Lg
namespace Go.Lg
open Go.Proofs
attribute [local irreducible] Ap Rq asemC WP RunD Ret Gq thenA inBlockA bodyQ noGotoA RqL RqP OpP
attribute [local simp] AV.cells rdT
end Go.Lg
namespace Go.Lg
section
variable {g : Gram} {pr : List Bool}
end
def lvlTok (l : List GLe) : List ByteArray := (l.map (·.tokens)).flatten
def levOk (x : GLe) : Bool := decide (1 <= x.assoc) && decide (x.assoc <= 3) && decide (x.tokens.length ≠ 0)
def levsOk (l : List GLe) : Bool := l.all levOk && decide (lvlTok l).Nodup
def termI (g : Gram) (s : ByteArray) : Int := indexP (fun x => decide (x = s)) g.terms
def levelG (g : Gram) (l : List GLe) (t : Int) : Int := indexP (fun x : GLe => x.tokens.any fun n => decide (termI g n = t)) l
def selfB (r : Rul) : Bool := decide (r.body.length = 3) && decide (nth r.body 0 = -1 - r.head) && decide (nth r.body 2 = -1 - r.head) && decide (0 <= nth r.body 1)
def binL (g : Gram) (l : List GLe) (r : Rul) : Int := if selfB r then levelG g l (nth r.body 1) else -1
def noTok (g : Gram) (l : List GLe) : Bool := (lvlTok l).all fun s => decide (0 <= termI g s)
def sameOp (g : Gram) (l : List GLe) (r s : Rul) : Bool := decide (0 <= binL g l s) && decide (s.head = r.head) && decide (nth s.body 1 = nth r.body 1)
def conflG (g : Gram) (l : List GLe) (i : Nat) : Bool :=
 if 0 <= binL g l (nth g.rules i) then (g.rules.take i).any (sameOp g l (nth g.rules i)) else (nth g.rules i).body.any fun t => decide (0 <= t) && decide (0 <= levelG g l t)
def checkG (g : Gram) (l : List GLe) : Int := if validG g && levsOk l then (if noTok g l then (if (List.range g.rules.length).any (conflG g l) then 14 else 0) else 4) else 1
def useL (g : Gram) (l : List GLe) (e : Nat) : List Nat := (List.range l.length).filter fun (i : Nat) => g.rules.any fun r => decide (r.head = (e : Int)) && decide (binL g l r = (i : Int))
def offN (g : Gram) (l : List GLe) : Nat -> Nat
 | 0 => g.nonterms.length
 | e + 1 => offN g l e + (useL g l e).length
def chnG (g : Gram) (l : List GLe) (e : Nat) : List Int := (e : Int) :: (List.range (useL g l e).length).map fun (i : Nat) => ((offN g l e + i : Nat) : Int)
def namG (g : Gram) (l : List GLe) (e : Nat) : List ByteArray := (List.range (useL g l e).length).map fun (i : Nat) => nth g.nonterms e ++ ⟨#[64]⟩ ++ tx (Lib.itoa ((i + 2 : Nat) : Int))
def namsG (g : Gram) (l : List GLe) (k : Nat) : List ByteArray := g.nonterms ++ ((List.range k).map (namG g l)).flatten
def lastC (g : Gram) (l : List GLe) (e : Nat) : Int := nth (chnG g l e) (useL g l e).length
def posU (g : Gram) (l : List GLe) (e : Nat) (b : Int) : Nat := (indexP (fun (i : Nat) => decide ((i : Int) = b)) (useL g l e)).toNat
def ruleS (g : Gram) (l : List GLe) (r : Rul) : Rul :=
 if 0 <= binL g l r then
  ⟨nth (chnG g l r.head.toNat) (posU g l r.head.toNat (binL g l r)),
   [-1 - nth (chnG g l r.head.toNat) (posU g l r.head.toNat (binL g l r) + if (nth l (binL g l r).toNat).assoc = 1 then 0 else 1), nth r.body 1,
    -1 - nth (chnG g l r.head.toNat) (posU g l r.head.toNat (binL g l r) + if (nth l (binL g l r).toNat).assoc = 2 then 0 else 1)], r.price⟩
 else ⟨lastC g l r.head.toNat, (List.range r.body.length).map fun k => if (k = 0 \/ k + 1 = r.body.length) /\ nth r.body k = -1 - r.head then -1 - lastC g l r.head.toNat else nth r.body k, r.price⟩
def unitS (g : Gram) (l : List GLe) (e : Nat) : List Rul := (List.range (useL g l e).length).map fun i => ⟨nth (chnG g l e) i, [-1 - nth (chnG g l e) (i + 1)], 0⟩
def unitsS (g : Gram) (l : List GLe) (k : Nat) : List Rul := ((List.range k).map (unitS g l)).flatten
def stratG (g : Gram) (l : List GLe) : Gram := ⟨g.terms, namsG g l g.nonterms.length, g.start, g.rules.map (ruleS g l) ++ unitsS g l g.nonterms.length⟩
def fromG (g : Gram) (l : List GLe) : List Int := (List.range g.rules.length).map (fun (i : Nat) => (i : Int)) ++ List.replicate (unitsS g l g.nonterms.length).length (-1)
def zG : Gram := ⟨[], [], 0, []⟩
def stratR (g : Gram) (l : List GLe) : Gram × List Int × Int :=
 if checkG g l = 0 then (if validG (stratG g l) then (stratG g l, fromG g l, 0) else (zG, [], 11)) else (zG, [], checkG g l)
section
variable (g : Gram) (l : List GLe)
theorem offN_le (e : Nat) : g.nonterms.length <= offN g l e := by
 induction e with
 | zero => exact Nat.le_refl _
 | succ e ih => rw [offN]; omega
theorem chnG_len (e : Nat) : (chnG g l e).length = (useL g l e).length + 1 := by simp [chnG]
theorem chnG_0 (e : Nat) : nth (chnG g l e) 0 = (e : Int) := rfl
theorem chnG_s {e i : Nat} (h : i < (useL g l e).length) : nth (chnG g l e) (i + 1) = ((offN g l e + i : Nat) : Int) := by
 unfold chnG
 rw [nth_eq (by simp; omega)]
 simp
theorem chnG_at {e i : Nat} (h : i <= (useL g l e).length) : nth (chnG g l e) i = if i = 0 then (e : Int) else ((offN g l e + (i - 1) : Nat) : Int) := by
 cases i with
 | zero => rfl
 | succ i => rw [chnG_s g l (by omega), if_neg (by omega)]; rfl
theorem mem_chn {e : Nat} {k : Int} : k ∈ chnG g l e ↔ k = (e : Int) \/ ((offN g l e : Int) <= k /\ k < ((offN g l e + (useL g l e).length : Nat) : Int)) := by
 simp only [chnG, List.mem_cons, List.mem_map, List.mem_range]
 constructor
 ·rintro (h | ⟨i, hi, rfl⟩)
  ·exact .inl h
  ·exact .inr ⟨by omega, by omega⟩
 ·rintro (h | ⟨h1, h2⟩)
  ·exact .inl h
  ·exact .inr ⟨(k - offN g l e).toNat, by omega, by omega⟩
theorem namG_len (e : Nat) : (namG g l e).length = (useL g l e).length := by simp [namG]
theorem namsG_len (k : Nat) : (namsG g l k).length = offN g l k := by
 induction k with
 | zero => simp [namsG, offN]
 | succ k ih =>
  simp only [namsG, List.length_append] at ih
  simp only [namsG, List.range_succ, List.map_append, List.map_cons, List.map_nil, List.flatten_append, List.flatten_cons, List.flatten_nil, List.append_nil, List.length_append, namG_len, offN]
  omega
theorem namsG_succ (k : Nat) : namsG g l (k + 1) = namsG g l k ++ namG g l k := by
 simp [namsG, List.range_succ]
theorem unitS_len (e : Nat) : (unitS g l e).length = (useL g l e).length := by simp [unitS]
theorem unitsS_succ (k : Nat) : unitsS g l (k + 1) = unitsS g l k ++ unitS g l k := by
 simp [unitsS, List.range_succ]
theorem useL_lt {e i : Nat} (h : i ∈ useL g l e) : i < l.length := by
 simp only [useL, List.mem_filter, List.mem_range] at h; exact h.1
theorem useL_len (e : Nat) : (useL g l e).length <= l.length := by
 have := List.length_filter_le (fun (i : Nat) => g.rules.any fun r => decide (r.head = (e : Int)) && decide (binL g l r = (i : Int))) (List.range l.length)
 simpa [useL] using this
theorem levelG_lt (t : Int) : -1 <= levelG g l t /\ levelG g l t < l.length := indexP_lt _ _
theorem binL_lt (r : Rul) : -1 <= binL g l r /\ binL g l r < l.length := by
 unfold binL
 split
 ·exact levelG_lt g l _
 ·omega
theorem bin_used {r : Rul} (hr : r ∈ g.rules) (h0 : 0 <= r.head) (hb : 0 <= binL g l r) : (binL g l r).toNat ∈ useL g l r.head.toNat := by
 have := binL_lt g l r
 simp only [useL, List.mem_filter, List.mem_range, List.any_eq_true, Bool.and_eq_true, decide_eq_true_eq]
 exact ⟨by omega, r, hr, by omega, by omega⟩
theorem posU_is {e i : Nat} (h : i ∈ useL g l e) : posU g l e (i : Int) < (useL g l e).length /\ nth (useL g l e) (posU g l e (i : Int)) = i := by
 obtain ⟨j, hj, e1⟩ := List.getElem_of_mem h
 have hex : ∃ k : Nat, k < (useL g l e).length /\ indexP (fun (x : Nat) => decide ((x : Int) = (i : Int))) (useL g l e) = k /\ nth (useL g l e) k = i := by
  have h1 := indexP_lt (fun (x : Nat) => decide ((x : Int) = (i : Int))) (useL g l e)
  have h2 : ∀ k : Nat, k < (useL g l e).length -> (∀ m, m < k -> nth (useL g l e) m ≠ i) -> nth (useL g l e) k = i -> indexP (fun (x : Nat) => decide ((x : Int) = (i : Int))) (useL g l e) = k := fun k hk hm hq =>
   indexP_is hk (by simp [hq]) fun m hmk => decide_eq_false fun h => hm m hmk (by omega)
  have hfirst : ∀ n, n <= (useL g l e).length -> (∃ k, k < n /\ nth (useL g l e) k = i) -> ∃ k, k < n /\ nth (useL g l e) k = i /\ ∀ m, m < k -> nth (useL g l e) m ≠ i := by
   intro n
   induction n with
   | zero => rintro _ ⟨k, hk, _⟩; omega
   | succ n ih =>
    rintro hn ⟨k, hk, hq⟩
    by_cases hex : ∃ k, k < n /\ nth (useL g l e) k = i
    ·obtain ⟨k', a, b, c⟩ := ih (by omega) hex
     exact ⟨k', by omega, b, c⟩
    ·refine ⟨k, hk, hq, fun m hm hmi => hex ⟨m, by omega, hmi⟩⟩
  obtain ⟨k, a, b, c⟩ := hfirst _ (Nat.le_refl _) ⟨j, hj, by rw [nth_eq hj]; exact e1⟩
  exact ⟨k, a, h2 k a c b, b⟩
 obtain ⟨k, a, b, c⟩ := hex
 unfold posU
 rw [b, Int.toNat_natCast]
 exact ⟨a, c⟩
end
open Go.Proofs
attribute [local irreducible] Ap Rq asemC WP RunD Ret Gq thenA inBlockA bodyQ noGotoA RqL RqP OpP
attribute [local simp] AV.cells
end Go.Lg
namespace Go.Lg
open Go.Proofs
attribute [local irreducible] Ap Rq asemC WP RunD Ret Gq thenA inBlockA bodyQ noGotoA RqL RqP OpP
attribute [local simp] AV.cells
end Go.Lg
namespace Go.Lg
open Go.Proofs
attribute [local irreducible] Ap Rq asemC WP RunD Ret Gq thenA inBlockA bodyQ noGotoA RqL RqP OpP
attribute [local simp] AV.cells
end Go.Lg
namespace Go.Lg
open Go.Proofs
attribute [local irreducible] Ap Rq asemC WP RunD Ret Gq thenA inBlockA bodyQ noGotoA RqL RqP OpP
attribute [local simp] AV.cells
end Go.Lg
namespace Go.Lg
open Go.Proofs
attribute [local irreducible] Ap Rq asemC WP RunD Ret Gq thenA inBlockA bodyQ noGotoA RqL RqP OpP
attribute [local simp] AV.cells
mutual
def leftT : Tre -> Int -> Int -> Int
 | .mk _ _ l, lev, m => if 60 < lev \/ m <= 0 then -1 else leftTL l lev (m - 1)
def leftTL : List Tre -> Int -> Int -> Int
 | [], _, m => m
 | t :: l, lev, m => if 0 <= m then leftTL l lev (leftT t (lev + 1) m) else m
end
end Go.Lg
namespace Go.Lg
open Go.Proofs
attribute [local irreducible] Ap Rq asemC WP RunD Ret Gq thenA inBlockA bodyQ noGotoA RqL RqP OpP
attribute [local simp] AV.cells
mutual
def lfT (n : Nat) : Tre -> Bool
 | .mk r _ l => if r < 0 then decide (r = -1) && decide (l.length = 0) else decide (r < n) && lfTL n l
def lfTL (n : Nat) : List Tre -> Bool
 | [] => true
 | t :: l => lfT n t && lfTL n l
end
end Go.Lg
namespace Go.Lg
mutual
def liftT (fr : List Int) : Tre -> List Tre
 | .mk r t l => if r = -1 then [.mk r t l] else if nth fr r.toNat = -1 then liftTL fr l else [.mk (nth fr r.toNat) 0 (liftTL fr l)]
def liftTL (fr : List Int) : List Tre -> List Tre
 | [] => []
 | t :: l => liftT fr t ++ liftTL fr l
end
end Go.Lg
namespace Go.Lg
section
variable {g : Gram} {l : List GLe}
theorem selfB_iff {r : Rul} : selfB r = true ↔ r.body.length = 3 /\ nth r.body 0 = -1 - r.head /\ nth r.body 2 = -1 - r.head /\ 0 <= nth r.body 1 := by
 simp only [selfB, Bool.and_eq_true, decide_eq_true_eq, and_assoc]
theorem bin_self {r : Rul} (h : 0 <= binL g l r) : selfB r = true /\ binL g l r = levelG g l (nth r.body 1) := by
 unfold binL at h ⊢
 split
 ·rename_i h1; exact ⟨h1, rfl⟩
 ·rename_i h1; rw [if_neg h1] at h; omega
end
def bdyP (R : Nat -> Nat -> Nat -> Prop) (s : List Int) : List Int -> Nat -> Nat -> Prop
 | [], i, k => i = k
 | x :: xs, i, k => (0 <= x /\ i < k /\ nth s i = x /\ bdyP R s xs (i + 1) k) \/ (x < 0 /\ ∃ m, i <= m /\ m <= k /\ R (-1 - x).toNat i m /\ bdyP R s xs m k)
theorem bdyP.mono {R R' : Nat -> Nat -> Nat -> Prop} {s : List Int} : ∀ {l : List Int} {i k : Nat}, (∀ x, x ∈ l -> x < 0 -> ∀ a b, R (-1 - x).toNat a b -> R' (-1 - x).toNat a b) -> bdyP R s l i k -> bdyP R' s l i k
  | [], _, _, _, h => h
  | x :: xs, i, k, hr, h => by
    rcases h with ⟨h1, h2, h3, h4⟩ | ⟨h1, m, h2, h3, h4, h5⟩
    · exact .inl ⟨h1, h2, h3, h4.mono fun y hy => hr y (by simp [hy])⟩
    · exact .inr ⟨h1, m, h2, h3, hr x (by simp) h1 _ _ h4, h5.mono fun y hy => hr y (by simp [hy])⟩
def bdyT (T : Nat -> Nat -> Nat -> Bool) (s : List Int) : List Int -> Nat -> Nat -> Bool
 | [], i, k => decide (i = k)
 | x :: xs, i, k => if 0 <= x then decide (i < k) && (decide (nth s i = x) && bdyT T s xs (i + 1) k) else (List.range (k + 1 - i)).any fun d => T (-1 - x).toNat i (i + d) && bdyT T s xs (i + d) k
theorem bdyT_iff {T : Nat -> Nat -> Nat -> Bool} {s : List Int} : ∀ {l : List Int} {i k : Nat}, bdyT T s l i k = true ↔ bdyP (fun a b c => T a b c = true) s l i k
  | [], i, k => by simp [bdyT, bdyP]
  | x :: xs, i, k => by
    simp only [bdyT, bdyP]
    by_cases hx : 0 <= x
    · have hn : ¬ x < 0 := by omega
      simp [hx, hn, bdyT_iff (l := xs)]
    · rw [if_neg hx]
      have hn : x < 0 := by omega
      simp only [hx, hn, false_and, true_and, false_or, List.any_eq_true, List.mem_range, Bool.and_eq_true, bdyT_iff (l := xs)]
      constructor
      · rintro ⟨d, h1, h2, h3⟩; exact ⟨i + d, by omega, by omega, h2, h3⟩
      · rintro ⟨m, h1, h2, h3, h4⟩
        obtain ⟨d, rfl⟩ : ∃ d, m = i + d := ⟨m - i, by omega⟩
        exact ⟨d, by omega, h3, h4⟩
def Clo (g : Gram) (s : List Int) (R : Nat -> Nat -> Nat -> Prop) : Prop := ∀ r, r ∈ g.rules -> ∀ i k, i <= k -> k <= s.length -> bdyP R s r.body i k -> R r.head.toNat i k
def Der (g : Gram) (s : List Int) (a i k : Nat) : Prop := ∀ R, Clo g s R -> R a i k
theorem Der.clo (g : Gram) (s : List Int) : Clo g s (Der g s) := fun r hr i k hi hk hb R hR => hR r hr i k hi hk (hb.mono fun x _ _ a b h => h R hR)
def tix (m a b c : Nat) : Nat := (a * m + b) * m + c
theorem tix_lt {n m a b c : Nat} (ha : a < n) (hb : b < m) (hc : c < m) : tix m a b c < n * m * m := by
 unfold tix
 have h1 : a * m + b + 1 <= n * m := by
  have := Nat.mul_le_mul_right m (show a + 1 <= n from ha)
  rw [Nat.add_mul] at this; omega
 have h2 := Nat.mul_le_mul_right m h1
 rw [Nat.add_mul] at h2; omega
theorem pair_inj {m a b a' b' : Nat} (hb : b < m) (hb' : b' < m) (h : a * m + b = a' * m + b') : a = a' /\ b = b' := by
 have h1 : (a * m + b) / m = a := by rw [Nat.mul_comm, Nat.mul_add_div (by omega), Nat.div_eq_of_lt hb]; omega
 have h2 : (a' * m + b') / m = a' := by rw [Nat.mul_comm, Nat.mul_add_div (by omega), Nat.div_eq_of_lt hb']; omega
 have : a = a' := by rw [<- h1, h, h2]
 subst this; exact ⟨rfl, by omega⟩
theorem tix_inj {m a b c a' b' c' : Nat} (hb : b < m) (hc : c < m) (hb' : b' < m) (hc' : c' < m) (h : tix m a b c = tix m a' b' c') : a = a' /\ b = b' /\ c = c' := by
 unfold tix at h
 obtain ⟨h1, h2⟩ := pair_inj hc hc' h
 obtain ⟨h3, h4⟩ := pair_inj hb hb' h1
 exact ⟨h3, h4, h2⟩
def tb (m : Nat) (t : List Bool) (a b c : Nat) : Bool := nth t (tix m a b c)
theorem tb_set {n m : Nat} {t : List Bool} (ht : t.length = n * m * m) {a b c a' b' c' : Nat} (ha : a < n) (hb : b < m) (hc : c < m) (hb' : b' < m) (hc' : c' < m) :
  tb m (t.set (tix m a b c) true) a' b' c' = if a = a' /\ b = b' /\ c = c' then true else tb m t a' b' c' := by
 unfold tb
 rw [nth_set (by rw [ht]; exact tix_lt ha hb hc)]
 by_cases h : tix m a b c = tix m a' b' c'
 ·rw [if_pos h, if_pos (tix_inj hb hc hb' hc' h)]
 ·rw [if_neg h, if_neg]; rintro ⟨rfl, rfl, rfl⟩; exact h rfl
def UnderD (g : Gram) (s : List Int) (t : List Bool) : Prop := t.length = g.nonterms.length * (s.length + 1) * (s.length + 1) /\ ∀ a b c, a < g.nonterms.length -> b < s.length + 1 -> c < s.length + 1 -> tb (s.length + 1) t a b c = true -> Der g s a b c
open Classical in
noncomputable def derL (g : Gram) (s : List Int) : List Bool := (List.range (g.nonterms.length * (s.length + 1) * (s.length + 1))).map fun j => decide (Der g s (j / (s.length + 1) / (s.length + 1)) (j / (s.length + 1) % (s.length + 1)) (j % (s.length + 1)))
theorem tix_div {m a b c : Nat} (hb : b < m) (hc : c < m) : tix m a b c / m / m = a /\ tix m a b c / m % m = b /\ tix m a b c % m = c := by
 have e1 : tix m a b c / m = a * m + b := by unfold tix; rw [Nat.mul_comm (a * m + b), Nat.mul_add_div (by omega), Nat.div_eq_of_lt hc]; omega
 rw [e1]
 refine ⟨?_, ?_, ?_⟩
 ·rw [Nat.mul_comm, Nat.mul_add_div (by omega), Nat.div_eq_of_lt hb]; omega
 ·rw [Nat.mul_add_mod_self_right, Nat.mod_eq_of_lt hb]
 ·unfold tix; rw [Nat.mul_add_mod_self_right, Nat.mod_eq_of_lt hc]
theorem derL_len (g : Gram) (s : List Int) : (derL g s).length = g.nonterms.length * (s.length + 1) * (s.length + 1) := by simp [derL]
theorem derL_at {g : Gram} {s : List Int} {a b c : Nat} (ha : a < g.nonterms.length) (hb : b < s.length + 1) (hc : c < s.length + 1) : tb (s.length + 1) (derL g s) a b c = true ↔ Der g s a b c := by
 unfold tb derL
 rw [nth_range (tix_lt ha hb hc)]
 obtain ⟨h1, h2, h3⟩ := tix_div (a := a) hb hc
 rw [h1, h2, h3]; simp
theorem tix_cov {n m j : Nat} (hm : 0 < m) (h : j < n * m * m) : ∃ a b c, a < n /\ b < m /\ c < m /\ j = tix m a b c := by
 refine ⟨j / m / m, j / m % m, j % m, ?_, Nat.mod_lt _ hm, Nat.mod_lt _ hm, ?_⟩
 ·rw [Nat.div_div_eq_div_mul, Nat.div_lt_iff_lt_mul (Nat.mul_pos hm hm), <- Nat.mul_assoc]; exact h
 ·unfold tix; rw [Nat.mul_comm (j / m / m), Nat.div_add_mod, Nat.mul_comm (j / m), Nat.div_add_mod]
theorem tb_ext {n m : Nat} (hm : 0 < m) {t u : List Bool} (ht : t.length = n * m * m) (hu : u.length = n * m * m) (h : ∀ a b c, a < n -> b < m -> c < m -> (tb m t a b c = true ↔ tb m u a b c = true)) : t = u := by
 refine nth_ext (by rw [ht, hu]) fun j hj => ?_
 obtain ⟨a, b, c, ha, hb, hc, rfl⟩ := tix_cov hm (by rw [<- ht]; exact hj)
 have := h a b c ha hb hc
 unfold tb at this
 exact Bool.eq_iff_iff.2 this
def CloT (g : Gram) (s : List Int) (t : List Bool) (r : Rul) : Prop := ∀ i k, i <= k -> k <= s.length -> bdyT (tb (s.length + 1) t) s r.body i k = true -> tb (s.length + 1) t r.head.toNat i k = true
theorem bdyP_in {g : Gram} {s : List Int} {R : Nat -> Nat -> Nat -> Prop} {t : List Bool} (hR : ∀ a b c, a < g.nonterms.length -> b <= c -> c < s.length + 1 -> R a b c -> tb (s.length + 1) t a b c = true) : ∀ {l : List Int} {i k : Nat}, (∀ x, x ∈ l -> -(g.nonterms.length : Int) <= x) -> k <= s.length -> i <= k ->
    bdyP R s l i k -> bdyP (fun a b c => tb (s.length + 1) t a b c = true) s l i k
  | [], _, _, _, _, _, h => h
  | x :: xs, i, k, hl, hk, hi, h => by
    rcases h with ⟨h1, h2, h3, h4⟩ | ⟨h1, m, h2, h3, h4, h5⟩
    · exact .inl ⟨h1, h2, h3, bdyP_in hR (fun y hy => hl y (by simp [hy])) hk (by omega) h4⟩
    · exact .inr ⟨h1, m, h2, h3, hR _ _ _ (by have := hl x (by simp); omega) h2 (by omega) h4, bdyP_in hR (fun y hy => hl y (by simp [hy])) hk (by omega) h5⟩
theorem UnderD.eq {g : Gram} {s : List Int} {t : List Bool} (hv : GVal g) (h : UnderD g s t) (hc : ∀ r, r ∈ g.rules -> CloT g s t r) : t = derL g s := by
 refine tb_ext (by omega) h.1 (derL_len g s) fun a b c ha hb hcc => ?_
 rw [derL_at ha hb hcc]
 refine ⟨h.2 a b c ha hb hcc, fun hd => ?_⟩
 have := hd (fun a b c => a < g.nonterms.length -> b <= c -> c < s.length + 1 -> tb (s.length + 1) t a b c = true) fun r hr i k hi hk hb _ _ _ => ?_
 ·exact hd (fun a b c => a < g.nonterms.length -> c < s.length + 1 -> tb (s.length + 1) t a b c = true) (fun r hr i k hi hk hb _ _ => by
   refine hc r hr i k hi hk (bdyT_iff.2 ?_)
   exact bdyP_in (fun a b c h1 _ h3 h4 => h4 h1 h3) (fun x hx => (hv.rule r hr).lo x hx) hk hi hb) ha hcc
 ·refine hc r hr i k hi hk (bdyT_iff.2 (bdyP_in (fun a b c h1 h2 h3 h4 => h4 h1 h2 h3) (fun x hx => (hv.rule r hr).lo x hx) hk hi hb))
theorem UnderD.set {g : Gram} {s : List Int} {t : List Bool} (hv : GVal g) (h : UnderD g s t) {r : Rul} (hr : r ∈ g.rules) {i k : Nat} (hi : i <= k) (hk : k <= s.length) (hb : bdyT (tb (s.length + 1) t) s r.body i k = true) : UnderD g s (t.set (tix (s.length + 1) r.head.toNat i k) true) := by
 have hh : r.head.toNat < g.nonterms.length := by have h1 := (hv.rule r hr).h0; have h2 := (hv.rule r hr).hn; omega
 refine ⟨by rw [List.length_set]; exact h.1, fun a b c ha hb' hc ht => ?_⟩
 rw [tb_set h.1 hh (by omega) (by omega) hb' hc] at ht
 split at ht
 ·rename_i e
  obtain ⟨rfl, rfl, rfl⟩ := e
  refine Der.clo g s r hr i k hi hk ?_
  have key : ∀ {l : List Int} {i : Nat}, (∀ x, x ∈ l -> -(g.nonterms.length : Int) <= x) -> i <= k -> bdyP (fun a b c => tb (s.length + 1) t a b c = true) s l i k -> bdyP (Der g s) s l i k := by
   intro l
   induction l with
   | nil => intro i _ _ h; exact h
   | cons x xs ih =>
    intro i hl hi h'
    rcases h' with ⟨h1, h2, h3, h4⟩ | ⟨h1, m, h2, h3, h4, h5⟩
    ·exact .inl ⟨h1, h2, h3, ih (fun y hy => hl y (by simp [hy])) (by omega) h4⟩
    ·exact .inr ⟨h1, m, h2, h3, h.2 _ _ _ (by have := hl x (by simp); omega) (by omega) (by omega) h4, ih (fun y hy => hl y (by simp [hy])) (by omega) h5⟩
  exact key (fun x hx => (hv.rule r hr).lo x hx) hi (bdyT_iff.1 hb)
 ·exact h.2 a b c ha hb' hc ht
theorem Der.le {g : Gram} {s : List Int} {a i k : Nat} (h : Der g s a i k) : i <= k /\ k <= s.length := h (fun _ i k => i <= k /\ k <= s.length) fun _ _ _ _ hi hk _ => ⟨hi, hk⟩
theorem bdyP_le {R : Nat -> Nat -> Nat -> Prop} {s : List Int} : ∀ {l : List Int} {i k : Nat}, bdyP R s l i k -> i <= k
  | [], _, _, h => Nat.le_of_eq h
  | _ :: _, _, _, h => by
    rcases h with ⟨_, h2, _, h4⟩ | ⟨_, m, h2, h3, _, h5⟩
    · have := bdyP_le h4; omega
    · omega
section
variable {g : Gram} {l : List GLe} {s : List Int}
def opAt (g : Gram) (l : List GLe) (e c : Nat) (x : Int) : Prop := ∃ r, r ∈ g.rules /\ r.head = (e : Int) /\ 0 <= binL g l r /\ nth r.body 1 = x /\ posU g l e (binL g l r) = c
theorem op_rule {e c : Nat} {x : Int} (h : opAt g l e c x) : c < (useL g l e).length /\ 0 <= x /\ nth (useL g l e) c < l.length /\ ∃ p,
  (⟨nth (chnG g l e) c, [-1 - nth (chnG g l e) (c + if (nth l (nth (useL g l e) c)).assoc = 1 then 0 else 1), x, -1 - nth (chnG g l e) (c + if (nth l (nth (useL g l e) c)).assoc = 2 then 0 else 1)], p⟩ : Rul) ∈ (stratG g l).rules := by
 obtain ⟨r, hr, hh, hb, hx, hc⟩ := h
 obtain ⟨hs, _⟩ := bin_self hb
 obtain ⟨_, _, _, s4⟩ := selfB_iff.1 hs
 have hu := bin_used g l hr (by omega) hb
 have he : r.head.toNat = e := by omega
 rw [he] at hu
 have hp := posU_is g l hu
 rw [Int.toNat_of_nonneg hb, hc] at hp
 refine ⟨hp.1, by omega, by rw [hp.2]; exact useL_lt g l hu, r.price, ?_⟩
 have hm : ruleS g l r ∈ (stratG g l).rules := by
  unfold stratG
  exact List.mem_append_left _ (List.mem_map_of_mem hr)
 have e1 : ruleS g l r = ⟨nth (chnG g l e) c, [-1 - nth (chnG g l e) (c + if (nth l (nth (useL g l e) c)).assoc = 1 then 0 else 1), x, -1 - nth (chnG g l e) (c + if (nth l (nth (useL g l e) c)).assoc = 2 then 0 else 1)], r.price⟩ := by
  unfold ruleS
  rw [if_pos hb, he, hc, hp.2, hx]
 rw [e1] at hm
 exact hm
theorem unit_rule {e c : Nat} (he : e < g.nonterms.length) (hc : c < (useL g l e).length) : (⟨nth (chnG g l e) c, [-1 - nth (chnG g l e) (c + 1)], 0⟩ : Rul) ∈ (stratG g l).rules := by
 unfold stratG
 refine List.mem_append_right _ ?_
 unfold unitsS
 rw [List.mem_flatten]
 exact ⟨unitS g l e, List.mem_map.2 ⟨e, List.mem_range.2 he, rfl⟩, List.mem_map.2 ⟨c, List.mem_range.2 hc, rfl⟩⟩
theorem chn_nn {e c : Nat} (h : c <= (useL g l e).length) : 0 <= nth (chnG g l e) c := by
 rw [chnG_at g l h]; split <;> omega
def DC (g : Gram) (l : List GLe) (s : List Int) (e c i k : Nat) : Prop := Der (stratG g l) s (nth (chnG g l e) c).toNat i k
theorem DC.unit {e c i k : Nat} (he : e < g.nonterms.length) (hc : c < (useL g l e).length) (h : DC g l s e (c + 1) i k) : DC g l s e c i k := by
 have hl := Der.le h
 refine Der.clo (stratG g l) s _ (unit_rule he hc) i k hl.1 hl.2 ?_
 have hn := chn_nn (g := g) (l := l) (e := e) (c := c + 1) (by omega)
 refine .inr ⟨by omega, k, hl.1, Nat.le_refl _, ?_, rfl⟩
 rw [show ∀ z : Int, -1 - (-1 - z) = z by omega]
 exact h
theorem DC.bin {e c i m k : Nat} (ho : opAt g l e c (nth s m)) (hm : m < k)
  (h1 : DC g l s e (c + if (nth l (nth (useL g l e) c)).assoc = 1 then 0 else 1) i m) (h2 : DC g l s e (c + if (nth l (nth (useL g l e) c)).assoc = 2 then 0 else 1) (m + 1) k) : DC g l s e c i k := by
 obtain ⟨q1, q2, q3, p, q4⟩ := op_rule ho
 have l1 := Der.le h1
 have l2 := Der.le h2
 have n1 := chn_nn (g := g) (l := l) (e := e) (c := c + if (nth l (nth (useL g l e) c)).assoc = 1 then 0 else 1) (by split <;> omega)
 have n2 := chn_nn (g := g) (l := l) (e := e) (c := c + if (nth l (nth (useL g l e) c)).assoc = 2 then 0 else 1) (by split <;> omega)
 refine Der.clo (stratG g l) s _ q4 i k (by omega) l2.2 ?_
 refine .inr ⟨by omega, m, l1.1, by omega, ?_, .inl ⟨q2, hm, rfl, .inr ⟨by omega, k, l2.1, Nat.le_refl _, ?_, rfl⟩⟩⟩
 ·rw [show ∀ z : Int, -1 - (-1 - z) = z by omega]; exact h1
 ·rw [show ∀ z : Int, -1 - (-1 - z) = z by omega]; exact h2
inductive SeqL (g : Gram) (l : List GLe) (s : List Int) (e c : Nat) : Nat -> Nat -> Prop
 | one {i k : Nat} (h : DC g l s e (useL g l e).length i k) : SeqL g l s e c i k
 | cons {i m k c' : Nat} (h : DC g l s e (useL g l e).length i m) (hm : m < k) (hc : c <= c') (ho : opAt g l e c' (nth s m)) (hs : SeqL g l s e c (m + 1) k) : SeqL g l s e c i k
theorem SeqL.le {e c i k : Nat} (h : SeqL g l s e c i k) : i <= k /\ k <= s.length := by
 induction h with
 | one h => exact Der.le h
 | cons h hm _ _ _ ih => have := Der.le h; omega
theorem SeqL.app {e c c' i m k : Nat} (h : SeqL g l s e c i m) (hm : m < k) (hc : c <= c') (ho : opAt g l e c' (nth s m)) (hs : SeqL g l s e c (m + 1) k) : SeqL g l s e c i k := by
 induction h with
 | one h => exact .cons h hm hc ho hs
 | cons h hm' hc' ho' _ ih => exact .cons h (by omega) hc' ho' (ih hm ho hs)
theorem SeqL.first {e i k : Nat} (h : SeqL g l s e 0 i k) : ∃ m, m <= k /\ DC g l s e (useL g l e).length i m /\ ∀ i', SeqL g l s e 0 i' m -> SeqL g l s e 0 i' k := by
 cases h with
 | one h => exact ⟨k, Nat.le_refl _, h, fun _ h => h⟩
 | cons h hm hc ho hs => exact ⟨_, by omega, h, fun i' h' => h'.app hm hc ho hs⟩
theorem SeqL.last {e i k : Nat} (h : SeqL g l s e 0 i k) : ∃ m, i <= m /\ DC g l s e (useL g l e).length m k /\ ∀ k', SeqL g l s e 0 m k' -> SeqL g l s e 0 i k' := by
 induction h with
 | @one i k h => exact ⟨i, Nat.le_refl _, h, fun _ h => h⟩
 | @cons i m k c' h hm hc ho hs ih =>
  obtain ⟨m', h1, h2, h3⟩ := ih
  have := Der.le h
  refine ⟨m', by omega, h2, fun k' hk' => .cons h ?_ hc ho (h3 k' hk')⟩
  have := (h3 k' hk').le
  omega
inductive SegL (g : Gram) (l : List GLe) (s : List Int) (e c : Nat) : Nat -> Nat -> Prop
 | one {i k : Nat} (h : SeqL g l s e (c + 1) i k) : SegL g l s e c i k
 | cons {i m k : Nat} (h : SeqL g l s e (c + 1) i m) (hm : m < k) (ho : opAt g l e c (nth s m)) (hs : SegL g l s e c (m + 1) k) : SegL g l s e c i k
theorem SeqL.seg {e c i k : Nat} (h : SeqL g l s e c i k) : SegL g l s e c i k := by
 induction h with
 | one h => exact .one (.one h)
 | @cons i m k c' h hm hc ho hs ih =>
  by_cases e1 : c' = c
  ·subst e1; exact .cons (.one h) hm ho ih
  ·cases ih with
   | one h' => exact .one (.cons h hm (by omega) ho h')
   | cons h' hm' ho' hs' =>
    have := h'.le
    exact .cons (.cons h (by omega) (by omega) ho h') hm' ho' hs'
theorem SeqL.dc (hn : ∀ x, x ∈ l -> x.assoc = 1 \/ x.assoc = 2) {e : Nat} (he : e < g.nonterms.length) : ∀ d c i k, c + d = (useL g l e).length -> SeqL g l s e c i k -> DC g l s e c i k := by
 intro d
 induction d with
 | zero =>
  intro c i k hc h
  cases h with
  | one h => rw [show c = (useL g l e).length by omega]; exact h
  | cons _ _ hc' ho _ => have := (op_rule ho).1; omega
 | succ d ih =>
  intro c i k hc h
  have hs := h.seg
  have hlt : c < (useL g l e).length := by omega
  have has : ∀ x, opAt g l e c x -> (nth l (nth (useL g l e) c)).assoc = 1 \/ (nth l (nth (useL g l e) c)).assoc = 2 := fun x ho => hn _ (nth_mem (op_rule ho).2.2.1)
  have key : SegL g l s e c i k -> DC g l s e c i k /\ ∀ i' p, i = p + 1 -> i' <= p -> (nth l (nth (useL g l e) c)).assoc = 1 -> opAt g l e c (nth s p) -> DC g l s e c i' p -> DC g l s e c i' k := by
   intro hs0
   clear h hs
   induction hs0 with
   | @one i k h =>
    have h1 := ih (c + 1) i k (by omega) h
    refine ⟨h1.unit he hlt, fun i' p hi hp ha ho hd => ?_⟩
    subst hi
    have := Der.le h1
    refine DC.bin ho (by omega) ?_ ?_
    ·rw [if_pos ha]; exact hd
    ·rw [if_neg (by omega)]; exact h1
   | @cons i m k h hm ho hs ih' =>
    have h1 := ih (c + 1) i m (by omega) h
    have l1 := Der.le h1
    rcases has _ ho with ha | ha
    ·refine ⟨ih'.2 i m rfl l1.1 ha ho (h1.unit he hlt), fun i' p hi hp ha' ho' hd => ?_⟩
     subst hi
     refine ih'.2 i' m rfl (by omega) ha ho ?_
     refine DC.bin ho' (by omega) ?_ ?_
     ·rw [if_pos ha]; exact hd
     ·rw [if_neg (by omega)]; exact h1
    ·refine ⟨?_, fun i' p hi hp ha' => by omega⟩
     refine DC.bin ho hm ?_ ?_
     ·rw [if_neg (by omega)]; exact h1
     ·rw [if_pos ha]; exact ih'.1
  exact (key hs).1
def SD (g : Gram) (l : List GLe) (s : List Int) (a i k : Nat) : Prop := Der (stratG g l) s a i k /\ (a < g.nonterms.length -> SeqL g l s a 0 i k)
theorem SD.of (hn : ∀ x, x ∈ l -> x.assoc = 1 \/ x.assoc = 2) {a i k : Nat} (ha : a < g.nonterms.length) (h : SeqL g l s a 0 i k) : SD g l s a i k := by
 refine ⟨?_, fun _ => h⟩
 have := SeqL.dc hn ha (useL g l a).length 0 i k (by omega) h
 unfold DC at this
 rwa [chnG_0, Int.toNat_natCast] at this
theorem SD.last {e i k : Nat} (h : DC g l s e (useL g l e).length i k) : SD g l s (lastC g l e).toNat i k := by
 refine ⟨h, fun hl => ?_⟩
 have h0 : (useL g l e).length = 0 := by
  unfold lastC at hl
  rw [chnG_at g l (Nat.le_refl _)] at hl
  have := offN_le g l e
  split at hl
  ·assumption
  ·omega
 have e1 : (lastC g l e).toNat = e := by unfold lastC; rw [h0, chnG_0]; rfl
 rw [e1]
 exact .one h
theorem back {e : Nat} (he : e < g.nonterms.length) : ∀ (xs : List Int) (i k : Nat), xs ≠ [] -> nth xs (xs.length - 1) = -1 - (e : Int) -> bdyP (SD g l s) s xs i k ->
    ∃ k', k' <= k /\ bdyP (SD g l s) s (xs.set (xs.length - 1) (-1 - lastC g l e)) i k' /\ ∀ i', SeqL g l s e 0 i' k' -> SeqL g l s e 0 i' k
  | [], _, _, h, _, _ => absurd rfl h
  | [z], i, k, _, hz, h => by
    have hz : z = -1 - (e : Int) := hz
    rcases h with ⟨h1, _⟩ | ⟨_, m, h2, h3, h4, h5⟩
    · omega
    · have hmk : m = k := h5
      subst hmk
      have ea : (-1 - z).toNat = e := by omega
      rw [ea] at h4
      obtain ⟨k', q1, q2, q3⟩ := (h4.2 he).first
      have := Der.le q2
      have hnn : 0 <= lastC g l e := chn_nn (Nat.le_refl _)
      refine ⟨k', q1, .inr ⟨by omega, k', this.1, Nat.le_refl _, ?_, rfl⟩, q3⟩
      rw [show ∀ z : Int, -1 - (-1 - z) = z by omega]
      exact SD.last q2
  | a :: b :: xs, i, k, _, hz, h => by
    have hz' : nth (b :: xs) ((b :: xs).length - 1) = -1 - (e : Int) := hz
    have es : (a :: b :: xs).set ((a :: b :: xs).length - 1) (-1 - lastC g l e) = a :: (b :: xs).set ((b :: xs).length - 1) (-1 - lastC g l e) := by simp
    rw [es]
    rcases h with ⟨h1, h2, h3, h4⟩ | ⟨h1, m, h2, h3, h4, h5⟩
    · obtain ⟨k', q1, q2, q3⟩ := back he (b :: xs) (i + 1) k (by simp) hz' h4
      have := bdyP_le q2
      exact ⟨k', q1, .inl ⟨h1, by omega, h3, q2⟩, q3⟩
    · obtain ⟨k', q1, q2, q3⟩ := back he (b :: xs) m k (by simp) hz' h5
      have := bdyP_le q2
      exact ⟨k', q1, .inr ⟨h1, m, h2, this, h4, q2⟩, q3⟩
end
def bodyC (cnt : Int -> List Int -> Nat) : List Int -> List Int -> Nat
  | [], s => if s.length = 0 then 1 else 0
  | x :: l, s => if s.length <= l.length then 0 else if 0 <= x then (if nth s 0 = x then bodyC cnt l s.tail else 0)
     else min 2 (((List.range (s.length - l.length)).map fun n => bodyC cnt l (s.drop (n + 1)) * cnt (-1 - x) (s.take (n + 1))).sum)
def countC (g : Gram) : Nat -> Int -> List Int -> Nat
 | 0, _, _ => 0
 | d + 1, h, s => min 2 ((g.rules.map fun r => if r.head = h then bodyC (countC g d) r.body s else 0).sum)
section
variable {α : Type} {v : α -> Nat}
theorem sum0 : ∀ {l : List α}, (∀ a, a ∈ l -> v a = 0) -> (l.map v).sum = 0
  | [], _ => rfl
  | a :: l, h => by
    have h1 := h a (by simp)
    have h2 := sum0 (l := l) fun b hb => h b (by simp [hb])
    simp only [List.map_cons, List.sum_cons]; omega
theorem sum_ge : ∀ {l : List α} {a : α}, a ∈ l -> v a <= (l.map v).sum
  | b :: l, a, h => by
    simp only [List.map_cons, List.sum_cons]
    rcases List.mem_cons.1 h with rfl | h
    · omega
    · have := sum_ge h; omega
theorem sum_pos {l : List α} (h : 0 < (l.map v).sum) : ∃ a, a ∈ l /\ 0 < v a := by
 refine Classical.byContradiction fun hn => ?_
 rw [sum0 fun a ha => Nat.eq_zero_of_not_pos fun hp => hn ⟨a, ha, hp⟩] at h
 omega
theorem sum_le1 : ∀ {l : List α}, (∀ a, a ∈ l -> v a <= 1) -> l.Pairwise (fun a b => v a = 0 \/ v b = 0) -> (l.map v).sum <= 1
  | [], _, _ => by simp
  | a :: l, h, hp => by
    have h1 := h a (by simp)
    rw [List.pairwise_cons] at hp
    have h2 := sum_le1 (l := l) (fun b hb => h b (by simp [hb])) hp.2
    simp only [List.map_cons, List.sum_cons]
    by_cases h0 : v a = 0
    · omega
    · rw [sum0 fun b hb => (hp.1 b hb).resolve_left h0]; omega
end
theorem pair_nth {α : Type} [Inhabited α] {R : α -> α -> Prop} {l : List α} (h : ∀ i j, i < j -> j < l.length -> R (nth l i) (nth l j)) : l.Pairwise R := by
 rw [List.pairwise_iff_getElem]
 intro i j hi hj hij
 have := h i j hij hj
 rwa [nth_eq hi, nth_eq hj] at this
theorem sum_range1 {n : Nat} {v : Nat -> Nat} (h1 : ∀ i, i < n -> v i <= 1) (h2 : ∀ i j, i < j -> j < n -> v i = 0 \/ v j = 0) : ((List.range n).map v).sum <= 1 := by
 refine sum_le1 (fun a ha => h1 a (List.mem_range.1 ha)) (pair_nth fun i j hij hj => ?_)
 simp only [List.length_range] at hj
 have e : ∀ k, k < n -> nth (List.range n) k = k := fun k hk => by rw [nth_eq (by simpa using hk)]; simp
 rw [e i (by omega), e j hj]
 exact h2 i j hij hj
theorem sum_single {n k : Nat} {v : Nat -> Nat} (hk : k < n) (h : ∀ i, i < n -> i ≠ k -> v i = 0) : ((List.range n).map v).sum = v k := by
 induction n with
 | zero => omega
 | succ n ih =>
  rw [List.range_succ, List.map_append, List.sum_append]
  simp only [List.map_cons, List.map_nil, List.sum_cons, List.sum_nil, Nat.add_zero]
  by_cases e : k = n
  ·subst e
   rw [sum0 fun a ha => h a (by have := List.mem_range.1 ha; omega) (by have := List.mem_range.1 ha; omega)]; omega
  ·rw [ih (by omega) fun i hi hne => h i (by omega) hne, h n (by omega) (by omega)]; omega
section
variable {cnt : Int -> List Int -> Nat}
theorem body1 {y : Int} (hy : y < 0) (w : List Int) : bodyC cnt [y] w = if w.length = 0 then 0 else min 2 (cnt (-1 - y) w) := by
 rw [bodyC]
 simp only [List.length_nil, Nat.le_zero]
 split
 ·rfl
 ·rename_i h0
  rw [if_neg (by omega), Nat.sub_zero]
  rw [sum_single (k := w.length - 1) (by omega) fun i hi hne => ?_]
  ·rw [show w.length - 1 + 1 = w.length by omega, List.take_length, List.drop_length]
   simp [bodyC]
  ·rw [bodyC, if_neg (by rw [List.length_drop]; omega), Nat.zero_mul]
theorem body1t {x : Int} (hx : 0 <= x) (w : List Int) : bodyC cnt [x] w = if w = [x] then 1 else 0 := by
 rw [bodyC]
 simp only [List.length_nil, Nat.le_zero]
 cases w with
 | nil => simp
 | cons a w =>
  simp only [List.length_cons, if_neg (Nat.succ_ne_zero _), if_pos hx, List.tail_cons, bodyC]
  rw [show nth (a :: w) 0 = a from rfl]
  by_cases ha : a = x
  ·rw [if_pos ha]
   cases w with
   | nil => simp [ha]
   | cons b w => simp
  ·rw [if_neg ha, if_neg]
   intro h
   injection h with h1 _
   exact ha h1
def spl (cnt : Int -> List Int -> Nat) (yl x yr : Int) (w : List Int) (n : Nat) : Nat := if nth w (n + 1) = x then min 2 (cnt (-1 - yr) (w.drop (n + 2))) * cnt (-1 - yl) (w.take (n + 1)) else 0
theorem body3 {yl x yr : Int} (hl : yl < 0) (hx : 0 <= x) (hr : yr < 0) (w : List Int) : bodyC cnt [yl, x, yr] w = if w.length <= 2 then 0 else min 2 (((List.range (w.length - 2)).map (spl cnt yl x yr w)).sum) := by
 rw [bodyC]
 simp only [List.length_cons, List.length_nil]
 split
 ·rfl
 ·rename_i h2
  rw [if_neg (by omega)]
  congr 2
  refine List.map_congr_left fun n hn => ?_
  have hn := List.mem_range.1 hn
  rw [bodyC, if_neg (by simp only [List.length_drop, List.length_cons, List.length_nil]; omega), if_pos hx]
  have e1 : nth (w.drop (n + 1)) 0 = nth w (n + 1) := by
   rw [nth_eq (by rw [List.length_drop]; omega), nth_eq (by omega)]
   simp
  have e2 : (w.drop (n + 1)).tail = w.drop (n + 2) := by rw [List.tail_drop]
  rw [e1, e2, spl]
  by_cases h : nth w (n + 1) = x
  ·rw [if_pos h, if_pos h, body1 hr, if_neg (by rw [List.length_drop]; omega)]
  ·rw [if_neg h, if_neg h, Nat.zero_mul]
end
theorem check_facts {g : Gram} {l : List GLe} (h : checkG g l = 0) : GVal g /\ levsOk l = true /\ noTok g l = true /\ ∀ i, i < g.rules.length -> conflG g l i = false := by
 unfold checkG at h
 split at h
 ·rename_i h1
  rw [Bool.and_eq_true] at h1
  split at h
  ·rename_i h2
   split at h
   ·omega
   ·rename_i h3
    refine ⟨validG_iff.1 h1.1, h1.2, h2, fun i hi => ?_⟩
    rw [Bool.not_eq_true, List.any_eq_false] at h3
    have := h3 i (List.mem_range.2 hi)
    simpa using this
  ·omega
 ·omega
structure OpG (g : Gram) (l : List GLe) : Prop where
 ck : checkG g l = 0
 op : ∀ r, r ∈ g.rules -> r.head = g.start /\ (0 <= binL g l r \/ (r.body.length = 1 /\ 0 <= nth r.body 0))
def eO (g : Gram) : Nat := g.start.toNat
def KO (g : Gram) (l : List GLe) : Nat := (useL g l (eO g)).length
def plc (g : Gram) (l : List GLe) (x : Int) : Nat := posU g l (eO g) (levelG g l x)
def isOp (g : Gram) (l : List GLe) (x : Int) : Prop := opAt g l (eO g) (plc g l x) x
def dlO (g : Gram) (l : List GLe) (c : Nat) : Nat := if (nth l (nth (useL g l (eO g)) c)).assoc = 1 then 0 else 1
def drO (g : Gram) (l : List GLe) (c : Nat) : Nat := if (nth l (nth (useL g l (eO g)) c)).assoc = 2 then 0 else 1
theorem dlr (g : Gram) (l : List GLe) (c : Nat) : dlO g l c <= 1 /\ drO g l c <= 1 /\ (dlO g l c = 1 \/ drO g l c = 1) := by
 unfold dlO drO
 split <;> split <;> omega
section
variable {g : Gram} {l : List GLe}
theorem plc_lt {x : Int} (h : isOp g l x) : plc g l x < KO g l := (op_rule h).1
theorem chn_inj {i j : Nat} (he : eO g < g.nonterms.length) (hi : i <= KO g l) (hj : j <= KO g l) (h : nth (chnG g l (eO g)) i = nth (chnG g l (eO g)) j) : i = j := by
 rw [chnG_at g l hi, chnG_at g l hj] at h
 have := offN_le g l (eO g)
 split at h <;> split at h <;> omega
variable (hG : OpG g l)
include hG
theorem OpG.v : GVal g := (check_facts hG.ck).1
theorem OpG.e_lt : eO g < g.nonterms.length := by
 have h := hG.v
 have h0 := h.s0
 have h1 := h.sn
 unfold eO; omega
theorem OpG.head {r : Rul} (hr : r ∈ g.rules) : r.head = (eO g : Int) := by
 have h0 := hG.v.s0
 have := (hG.op r hr).1
 unfold eO; omega
theorem OpG.use_nil {e : Nat} (h : e ≠ eO g) : useL g l e = [] := by
 unfold useL
 rw [List.filter_eq_nil_iff]
 intro i _
 rw [Bool.not_eq_true, List.any_eq_false]
 intro r hr
 have := hG.head hr
 simp only [Bool.and_eq_true, decide_eq_true_eq]
 omega
theorem OpG.units (k : Nat) : unitsS g l k = if eO g < k then unitS g l (eO g) else [] := by
 induction k with
 | zero => simp [unitsS]
 | succ k ih =>
  rw [unitsS_succ, ih]
  by_cases h : k = eO g
  ·subst h
   rw [if_neg (Nat.lt_irrefl _), if_pos (Nat.lt_succ_self _)]; rfl
  ·have : unitS g l k = [] := by unfold unitS; rw [hG.use_nil h]; rfl
   rw [this, List.append_nil]
   by_cases h1 : eO g < k
   ·rw [if_pos h1, if_pos (by omega)]
   ·rw [if_neg h1, if_neg (by omega)]
theorem OpG.bin {r : Rul} (hr : r ∈ g.rules) (hb : 0 <= binL g l r) : isOp g l (nth r.body 1) /\ 0 <= nth r.body 1 /\
  ruleS g l r = ⟨nth (chnG g l (eO g)) (plc g l (nth r.body 1)), [-1 - nth (chnG g l (eO g)) (plc g l (nth r.body 1) + dlO g l (plc g l (nth r.body 1))), nth r.body 1, -1 - nth (chnG g l (eO g)) (plc g l (nth r.body 1) + drO g l (plc g l (nth r.body 1)))], r.price⟩ := by
 have hh := hG.head hr
 obtain ⟨hs, hlv⟩ := bin_self hb
 obtain ⟨_, _, _, s4⟩ := selfB_iff.1 hs
 have ho : opAt g l (eO g) (plc g l (nth r.body 1)) (nth r.body 1) := ⟨r, hr, hh, hb, rfl, by rw [hlv]; rfl⟩
 refine ⟨ho, s4, ?_⟩
 have hu := posU_is g l (bin_used g l hr (by omega) hb)
 rw [Int.toNat_of_nonneg hb, show r.head.toNat = eO g by omega] at hu
 have hp : posU g l (eO g) (binL g l r) = plc g l (nth r.body 1) := by rw [hlv]; rfl
 rw [hp] at hu
 unfold ruleS
 rw [if_pos hb, show r.head.toNat = eO g by omega, hp]
 unfold dlO drO
 rw [hu.2]
theorem OpG.opd {r : Rul} (hr : r ∈ g.rules) (hb : ¬ 0 <= binL g l r) : ∃ x, r.body = [x] /\ 0 <= x /\ ¬ isOp g l x /\ ruleS g l r = ⟨nth (chnG g l (eO g)) (KO g l), [x], r.price⟩ := by
 have hh := hG.head hr
 rcases (hG.op r hr).2 with h | ⟨h1, h2⟩
 ·exact absurd h hb
 ·obtain ⟨x, hx⟩ : ∃ x, r.body = [x] := by
   cases hq : r.body with
   | nil => rw [hq] at h1; simp at h1
   | cons a m =>
    rw [hq] at h1
    have : m = [] := List.eq_nil_of_length_eq_zero (by simpa using h1)
    rw [this]; exact ⟨a, rfl⟩
  have hx0 : 0 <= x := by rw [hx] at h2; exact h2
  refine ⟨x, hx, hx0, fun ho => ?_, ?_⟩
  ·obtain ⟨i, hi, e⟩ := List.getElem_of_mem hr
   have hc := (check_facts hG.ck).2.2.2 i hi
   rw [<- nth_eq hi] at e
   unfold conflG at hc
   rw [e, if_neg hb, hx] at hc
   obtain ⟨r', hr', _, hb', hx', _⟩ := ho
   have := (bin_self hb').2
   rw [hx'] at this
   rw [this] at hb'
   simp [hx0, hb'] at hc
  ·unfold ruleS
   rw [if_neg hb, show r.head.toNat = eO g by omega, hx]
   unfold lastC KO
   simp only [List.length_cons, List.length_nil]
   congr 1
   rw [show List.range (0 + 1) = [0] from rfl, List.map_cons, List.map_nil, show nth [x] 0 = x from rfl, if_neg]
   rintro ⟨_, h⟩
   omega
def vO (g : Gram) (l : List GLe) (cnt : Int -> List Int -> Nat) (c : Nat) (w : List Int) (r : Rul) : Nat := if (ruleS g l r).head = nth (chnG g l (eO g)) c then bodyC cnt (ruleS g l r).body w else 0
omit hG in
theorem vO_def (cnt : Int -> List Int -> Nat) (c : Nat) (w : List Int) (r : Rul) : vO g l cnt c w r = if (ruleS g l r).head = nth (chnG g l (eO g)) c then bodyC cnt (ruleS g l r).body w else 0 := rfl
def fO (g : Gram) (l : List GLe) (d c : Nat) (w : List Int) : Nat := countC (stratG g l) d (nth (chnG g l (eO g)) c) w
theorem OpG.succ {d c : Nat} {w : List Int} (hc : c <= KO g l) : fO g l (d + 1) c w = min 2 ((g.rules.map (vO g l (countC (stratG g l) d) c w)).sum + if c < KO g l /\ w.length ≠ 0 then min 2 (fO g l d (c + 1) w) else 0) := by
 have hrules : (stratG g l).rules = g.rules.map (ruleS g l) ++ unitS g l (eO g) := by
  unfold stratG
  simp only
  rw [hG.units, if_pos hG.e_lt]
 have hnn : ∀ i, i <= KO g l -> 0 <= nth (chnG g l (eO g)) i := fun i hi => chn_nn hi
 unfold fO
 rw [countC, hrules, List.map_append, List.sum_append]
 congr 1
 congr 1
 ·rw [List.map_map]
  rfl
 ·unfold unitS
  rw [List.map_map]
  by_cases h : c < KO g l
  ·rw [show (useL g l (eO g)).length = KO g l from rfl, sum_single h fun i hi hne => ?_]
   ·simp only [Function.comp, if_true]
    have h1 := hnn (c + 1) (by omega)
    rw [body1 (by omega), show -1 - (-1 - nth (chnG g l (eO g)) (c + 1)) = nth (chnG g l (eO g)) (c + 1) by omega]
    by_cases hw : w.length = 0
    ·rw [if_pos hw, if_neg (fun h => h.2 hw)]
    ·rw [if_neg hw, if_pos ⟨h, hw⟩]
   ·simp only [Function.comp]
    rw [if_neg]
    intro e
    exact hne (chn_inj hG.e_lt (by omega) (by omega) e)
  ·rw [if_neg (fun h' => h h'.1)]
   refine sum0 fun i hi => ?_
   have hi := List.mem_range.1 hi
   simp only [Function.comp]
   rw [if_neg]
   intro e
   have : i = c := chn_inj hG.e_lt (Nat.le_of_lt hi) hc e
   have : i < KO g l := hi
   omega
def HypO (g : Gram) (l : List GLe) (d : Nat) : Prop := ∀ c w, c <= KO g l -> fO g l d c w <= 1 /\ (0 < fO g l d c w -> ∀ x, x ∈ w -> isOp g l x -> c <= plc g l x)
def splO (g : Gram) (l : List GLe) (d c : Nat) (w : List Int) (n : Nat) : Nat := min 2 (fO g l d (c + drO g l c) (w.drop (n + 2))) * fO g l d (c + dlO g l c) (w.take (n + 1))
theorem OpG.v_bin {d c : Nat} {w : List Int} {r : Rul} (hr : r ∈ g.rules) (hb : 0 <= binL g l r) (hc : c <= KO g l) : vO g l (countC (stratG g l) d) c w r =
  if plc g l (nth r.body 1) = c /\ 2 < w.length then min 2 (((List.range (w.length - 2)).map fun n => if nth w (n + 1) = nth r.body 1 then splO g l d c w n else 0).sum) else 0 := by
 obtain ⟨ho, h0, he⟩ := hG.bin hr hb
 have hp := plc_lt ho
 have hd := dlr g l (plc g l (nth r.body 1))
 rw [vO_def, he]
 simp only
 by_cases hpc : plc g l (nth r.body 1) = c
 ·rw [if_pos (by rw [hpc])]
  rw [hpc] at hp hd ⊢
  have n1 : 0 <= nth (chnG g l (eO g)) (c + dlO g l c) := chn_nn (show c + dlO g l c <= KO g l by omega)
  have n2 : 0 <= nth (chnG g l (eO g)) (c + drO g l c) := chn_nn (show c + drO g l c <= KO g l by omega)
  rw [body3 (by omega) h0 (by omega)]
  by_cases hw : w.length <= 2
  ·rw [if_pos hw, if_neg (by omega)]
  ·rw [if_neg hw, if_pos ⟨rfl, by omega⟩]
   congr 2
   refine List.map_congr_left fun n _ => ?_
   unfold spl splO fO
   rw [show ∀ z : Int, -1 - (-1 - z) = z by omega, show ∀ z : Int, -1 - (-1 - z) = z by omega]
 ·rw [if_neg (fun e => hpc (chn_inj hG.e_lt (Nat.le_of_lt hp) hc e)), if_neg (fun h => hpc h.1)]
theorem OpG.v_opd {d c : Nat} {w : List Int} {r : Rul} {x : Int} (hx : r.body = [x]) (hx0 : 0 <= x) (he : ruleS g l r = ⟨nth (chnG g l (eO g)) (KO g l), [x], r.price⟩) (hc : c <= KO g l) : vO g l (countC (stratG g l) d) c w r = if c = KO g l /\ w = [x] then 1 else 0 := by
 rw [vO_def, he]
 simp only
 by_cases h : c = KO g l
 ·rw [if_pos (by rw [h]), body1t hx0]
  by_cases hw : w = [x]
  ·rw [if_pos hw, if_pos ⟨h, hw⟩]
  ·rw [if_neg hw, if_neg (fun h' => hw h'.2)]
 ·rw [if_neg (fun e => h (chn_inj hG.e_lt (Nat.le_refl _) hc e).symm), if_neg (fun h' => h h'.1)]
theorem OpG.pos_uniq {d c : Nat} {w : List Int} (hd : HypO g l d) (hc : c < KO g l) {n m : Nat} (hn : n + 2 < w.length) (hm : m + 2 < w.length) (hon : isOp g l (nth w (n + 1)) /\ plc g l (nth w (n + 1)) = c) (hom : isOp g l (nth w (m + 1)) /\ plc g l (nth w (m + 1)) = c)
  (h1 : 0 < splO g l d c w n) (h2 : 0 < splO g l d c w m) (hlt : n < m) : False := by
 have hdd := dlr g l c
 unfold splO at h1 h2
 have p1 : 0 < fO g l d (c + drO g l c) (w.drop (n + 2)) := by
  refine Nat.pos_of_ne_zero fun e => ?_
  rw [e] at h1; simp at h1
 have p2 : 0 < fO g l d (c + dlO g l c) (w.take (m + 1)) := by
  refine Nat.pos_of_ne_zero fun e => ?_
  rw [e] at h2; simp at h2
 by_cases hdr : drO g l c = 1
 ·have hmem : nth w (m + 1) ∈ w.drop (n + 2) := by
   rw [show nth w (m + 1) = nth (w.drop (n + 2)) (m - (n + 1)) by rw [nth_eq (by omega), nth_eq (by rw [List.length_drop]; omega), List.getElem_drop]; congr 1; omega]
   exact nth_mem (by rw [List.length_drop]; omega)
  have := (hd (c + drO g l c) _ (by omega)).2 p1 _ hmem hom.1
  omega
 ·have hmem : nth w (n + 1) ∈ w.take (m + 1) := by
   rw [show nth w (n + 1) = nth (w.take (m + 1)) (n + 1) by rw [nth_eq (by omega), nth_eq (by rw [List.length_take]; omega), List.getElem_take]]
   exact nth_mem (by rw [List.length_take]; omega)
  have := (hd (c + dlO g l c) _ (by omega)).2 p2 _ hmem hon.1
  omega
theorem OpG.spl_le {d c : Nat} {w : List Int} (hd : HypO g l d) (hc : c < KO g l) (n : Nat) : splO g l d c w n <= 1 := by
 have hdd := dlr g l c
 have h1 := (hd (c + drO g l c) (w.drop (n + 2)) (by omega)).1
 have h2 := (hd (c + dlO g l c) (w.take (n + 1)) (by omega)).1
 unfold splO
 have : min 2 (fO g l d (c + drO g l c) (w.drop (n + 2))) <= 1 := by omega
 exact Nat.le_trans (Nat.mul_le_mul this h2) (by omega)
theorem OpG.bin_pos {d c : Nat} {w : List Int} {r : Rul} (hr : r ∈ g.rules) (hb : 0 <= binL g l r) (hc : c <= KO g l) (h : 0 < vO g l (countC (stratG g l) d) c w r) :
  plc g l (nth r.body 1) = c /\ c < KO g l /\ ∃ n, n + 2 < w.length /\ nth w (n + 1) = nth r.body 1 /\ 0 < splO g l d c w n := by
 have hp := plc_lt (hG.bin hr hb).1
 rw [hG.v_bin hr hb hc] at h
 split at h
 ·rename_i h1
  have h2 : 0 < ((List.range (w.length - 2)).map fun n => if nth w (n + 1) = nth r.body 1 then splO g l d c w n else 0).sum := by omega
  obtain ⟨n, hn, hq⟩ := sum_pos h2
  have hn := List.mem_range.1 hn
  split at hq
  ·rename_i h3
   exact ⟨h1.1, by omega, n, by omega, h3, hq⟩
  ·omega
 ·omega
def NoRep (g : Gram) : Prop := ∀ i j, i < j -> j < g.rules.length -> (nth g.rules i).head = (nth g.rules j).head -> (nth g.rules i).body = (nth g.rules j).body -> False
theorem OpG.step (hrep : NoRep g) {d : Nat} (hd : HypO g l d) : HypO g l (d + 1) := by
 intro c w hc
 have hconf : ∀ i j, i < j -> j < g.rules.length -> 0 <= binL g l (nth g.rules i) -> 0 <= binL g l (nth g.rules j) -> nth (nth g.rules i).body 1 = nth (nth g.rules j).body 1 -> False := fun i j hij hj hi1 hj1 he => by
  have hcf := (check_facts hG.ck).2.2.2 j hj
  unfold conflG at hcf
  rw [if_pos hj1, List.any_eq_false] at hcf
  have hmem : nth g.rules i ∈ g.rules.take j := by
   rw [show nth g.rules i = nth (g.rules.take j) i by rw [nth_eq (by omega), nth_eq (by rw [List.length_take]; omega), List.getElem_take]]
   exact nth_mem (by rw [List.length_take]; omega)
  have := hcf _ hmem
  apply this
  unfold sameOp
  simp only [Bool.and_eq_true, decide_eq_true_eq]
  exact ⟨⟨hi1, by rw [hG.head (nth_mem (show i < g.rules.length by omega)), hG.head (nth_mem hj)]⟩, he⟩
 have hA1 : ∀ r, r ∈ g.rules -> vO g l (countC (stratG g l) d) c w r <= 1 := fun r hr => by
  by_cases hb : 0 <= binL g l r
  ·rw [hG.v_bin hr hb hc]
   split
   ·rename_i h1
    have hcl : c < KO g l := by have := plc_lt (hG.bin hr hb).1; omega
    have ho := (hG.bin hr hb).1
    have : ((List.range (w.length - 2)).map fun n => if nth w (n + 1) = nth r.body 1 then splO g l d c w n else 0).sum <= 1 := by
     refine sum_range1 (fun n _ => ?_) fun n m hnm hm => ?_
     ·split
      ·exact hG.spl_le hd hcl n
      ·omega
     ·refine Classical.byContradiction fun hno => ?_
      rw [not_or] at hno
      obtain ⟨hn1, hm1⟩ := hno
      split at hn1
      ·rename_i e1
       split at hm1
       ·rename_i e2
        exact hG.pos_uniq hd hcl (w := w) (n := n) (m := m) (by omega) (by omega) (by rw [e1]; exact ⟨ho, h1.1⟩) (by rw [e2]; exact ⟨ho, h1.1⟩) (by omega) (by omega) hnm
       ·exact hm1 rfl
      ·exact hn1 rfl
    omega
   ·omega
  ·obtain ⟨x, hx, hx0, _, he⟩ := hG.opd hr hb
   rw [hG.v_opd hx hx0 he hc]
   split <;> omega
 have hA2 : (g.rules.map (vO g l (countC (stratG g l) d) c w)).sum <= 1 := by
  refine sum_le1 hA1 (pair_nth fun i j hij hj => ?_)
  refine Classical.byContradiction fun hno => ?_
  rw [not_or] at hno
  obtain ⟨hi1, hj1⟩ := hno
  have hri := nth_mem (show i < g.rules.length by omega)
  have hrj := nth_mem hj
  by_cases hbi : 0 <= binL g l (nth g.rules i)
  ·obtain ⟨q1, q2, n, q3, q4, q5⟩ := hG.bin_pos hri hbi hc (Nat.pos_of_ne_zero hi1)
   by_cases hbj : 0 <= binL g l (nth g.rules j)
   ·obtain ⟨r1, r2, m, r3, r4, r5⟩ := hG.bin_pos hrj hbj hc (Nat.pos_of_ne_zero hj1)
    have oi := (hG.bin hri hbi).1
    have oj := (hG.bin hrj hbj).1
    rcases Nat.lt_trichotomy n m with h | h | h
    ·exact hG.pos_uniq hd q2 q3 r3 (by rw [q4]; exact ⟨oi, q1⟩) (by rw [r4]; exact ⟨oj, r1⟩) q5 r5 h
    ·subst h
     exact hconf i j hij hj hbi hbj (by rw [<- q4, <- r4])
    ·exact hG.pos_uniq hd q2 r3 q3 (by rw [r4]; exact ⟨oj, r1⟩) (by rw [q4]; exact ⟨oi, q1⟩) r5 q5 h
   ·obtain ⟨x, hx, hx0, _, he⟩ := hG.opd hrj hbj
    rw [hG.v_opd hx hx0 he hc] at hj1
    split at hj1
    ·rename_i h; omega
    ·exact hj1 rfl
  ·obtain ⟨x, hx, hx0, _, he⟩ := hG.opd hri hbi
   rw [hG.v_opd hx hx0 he hc] at hi1
   split at hi1
   ·rename_i h
    by_cases hbj : 0 <= binL g l (nth g.rules j)
    ·obtain ⟨r1, r2, _⟩ := hG.bin_pos hrj hbj hc (Nat.pos_of_ne_zero hj1)
     omega
    ·obtain ⟨y, hy, hy0, _, hey⟩ := hG.opd hrj hbj
     rw [hG.v_opd hy hy0 hey hc] at hj1
     split at hj1
     ·rename_i h'
      have : x = y := by
       have := h.2.symm.trans h'.2
       injection this
      exact hrep i j hij hj (by rw [hG.head hri, hG.head hrj]) (by rw [hx, hy, this])
     ·exact hj1 rfl
   ·exact hi1 rfl
 have hAp : 0 < (g.rules.map (vO g l (countC (stratG g l) d) c w)).sum -> (c = KO g l /\ ∃ x, w = [x] /\ ¬ isOp g l x) \/ (c < KO g l /\ ∃ n, n + 2 < w.length /\ isOp g l (nth w (n + 1)) /\ plc g l (nth w (n + 1)) = c /\ 0 < splO g l d c w n) := fun h => by
  obtain ⟨r, hr, hv⟩ := sum_pos h
  by_cases hb : 0 <= binL g l r
  ·obtain ⟨q1, q2, n, q3, q4, q5⟩ := hG.bin_pos hr hb hc hv
   exact .inr ⟨q2, n, q3, by rw [q4]; exact (hG.bin hr hb).1, by rw [q4]; exact q1, q5⟩
  ·obtain ⟨x, hx, hx0, hno, he⟩ := hG.opd hr hb
   rw [hG.v_opd hx hx0 he hc] at hv
   split at hv
   ·rename_i h; exact .inl ⟨h.1, x, h.2, hno⟩
   ·omega
 have hB : (if c < KO g l /\ w.length ≠ 0 then min 2 (fO g l d (c + 1) w) else 0) <= 1 := by
  split
  ·rename_i h
   have := (hd (c + 1) w (by omega)).1
   omega
  ·omega
 have hAB : 0 < (g.rules.map (vO g l (countC (stratG g l) d) c w)).sum -> (if c < KO g l /\ w.length ≠ 0 then min 2 (fO g l d (c + 1) w) else 0) = 0 := fun h => by
  split
  ·rename_i h1
   rcases hAp h with ⟨h2, _⟩ | ⟨_, n, h3, h4, h5, _⟩
   ·omega
   ·refine Classical.byContradiction fun hp => ?_
    have := (hd (c + 1) w (by omega)).2 (by omega) _ (nth_mem (show n + 1 < w.length by omega)) h4
    omega
  ·rfl
 rw [hG.succ hc]
 refine ⟨by omega, fun h x hx ho => ?_⟩
 by_cases hA : 0 < (g.rules.map (vO g l (countC (stratG g l) d) c w)).sum
 ·rcases hAp hA with ⟨_, y, rfl, hno⟩ | ⟨h2, n, h3, h4, h5, h6⟩
  ·rw [List.mem_singleton] at hx; subst hx; exact absurd ho hno
  ·have hdd := dlr g l c
   unfold splO at h6
   have p1 : 0 < fO g l d (c + drO g l c) (w.drop (n + 2)) := by
    refine Nat.pos_of_ne_zero fun e => ?_
    rw [e] at h6; simp at h6
   have p2 : 0 < fO g l d (c + dlO g l c) (w.take (n + 1)) := by
    refine Nat.pos_of_ne_zero fun e => ?_
    rw [e] at h6; simp at h6
   have hw : w = w.take (n + 1) ++ nth w (n + 1) :: w.drop (n + 2) := by
    rw [nth_eq (show n + 1 < w.length by omega), <- List.drop_eq_getElem_cons, List.take_append_drop]
   rw [hw] at hx
   rcases List.mem_append.1 hx with hx | hx
   ·have := (hd _ _ (by omega)).2 p2 x hx ho; omega
   ·rcases List.mem_cons.1 hx with rfl | hx
    ·omega
    ·have := (hd _ _ (by omega)).2 p1 x hx ho; omega
 ·split at h
  ·rename_i h1
   have := (hd (c + 1) w (by omega)).2 (by omega) x hx ho
   omega
  ·omega
theorem OpG.all (hrep : NoRep g) : ∀ d, HypO g l d
 | 0 => fun c w _ => ⟨by simp [fO, countC], fun h => by simp [fO, countC] at h⟩
 | d + 1 => hG.step hrep (OpG.all hrep d)
end
def fndO (g : Gram) (s : List Int) (i : Nat) : Bool := g.rules.any fun r => (decide (i % 2 = 0) && decide (r.body.length = 1) && decide (nth r.body 0 = nth s i)) || (decide (i % 2 = 1) && decide (r.body.length = 3) && decide (nth r.body 1 = nth s i))
def levO (g : Gram) (l : List GLe) (s : List Int) (i : Nat) : Int := levelG g l (nth s i)
def rootN (g : Gram) (l : List GLe) (s : List Int) : Nat -> Nat -> Int -> Int × Bool
 | 0, _, root => (root, true)
 | n + 1, i, root =>
  if root < 0 \/ levO g l s i < levO g l s root.toNat then rootN g l s n (i + 2) i
  else if levO g l s i = levO g l s root.toNat then
   (if (nth l (levO g l s i).toNat).assoc = 3 then (0, false) else if (nth l (levO g l s i).toNat).assoc = 1 then rootN g l s n (i + 2) i else rootN g l s n (i + 2) root)
  else rootN g l s n (i + 2) root
def rootE (g : Gram) (l : List GLe) (s : List Int) : Int × Bool := if s.length % 2 = 0 then (0, false) else if (List.range s.length).all (fndO g s) then rootN g l s (s.length / 2) 1 (-1) else (0, false)
def exprE (g : Gram) (l : List GLe) : Nat -> List Int -> Bool
 | 0, _ => false
 | k + 1, s => if (rootE g l s).2 = false \/ (rootE g l s).1 < 0 then (rootE g l s).2 else exprE g l k (s.take (rootE g l s).1.toNat) && exprE g l k (s.drop ((rootE g l s).1.toNat + 1))
structure RootP (g : Gram) (l : List GLe) (s : List Int) (r b : Nat) : Prop where
 odd : r % 2 = 1
 lt : r < b
 le : ∀ j, j < b -> j % 2 = 1 -> levO g l s r <= levO g l s j
 eq : ∀ j, j < b -> j % 2 = 1 -> levO g l s j = levO g l s r -> j ≠ r -> ((nth l (levO g l s r).toNat).assoc = 1 /\ j < r) \/ ((nth l (levO g l s r).toNat).assoc ≠ 1 /\ (nth l (levO g l s r).toNat).assoc ≠ 3 /\ r < j)
theorem rootN_ok {g : Gram} {l : List GLe} {s : List Int} : ∀ (n i : Nat) (r : Nat) (q : Int), i % 2 = 1 -> RootP g l s r i -> rootN g l s n i r = (q, true) -> ∃ r' : Nat, q = r' /\ RootP g l s r' (i + 2 * n)
  | 0, i, r, q, _, hr, h => by
    rw [rootN] at h
    injection h with h1 _
    exact ⟨r, h1.symm, hr⟩
  | n + 1, i, r, q, hi, hr, h => by
    have hlt := hr.lt
    have hodd := hr.odd
    have e2 : i + 2 * (n + 1) = (i + 2) + 2 * n := by omega
    rw [e2]
    rw [rootN, Int.toNat_natCast] at h
    have hkeep : levO g l s r < levO g l s i \/ (levO g l s i = levO g l s r /\ (nth l (levO g l s i).toNat).assoc ≠ 1 /\ (nth l (levO g l s i).toNat).assoc ≠ 3) -> RootP g l s r (i + 2) := fun hk => by
      refine ⟨hodd, by omega, fun j hj hjo => ?_, fun j hj hjo he hne => ?_⟩
      · by_cases hji : j < i
        · exact hr.le j hji hjo
        · obtain rfl : j = i := by omega
          omega
      · by_cases hji : j < i
        · exact hr.eq j hji hjo he hne
        · obtain rfl : j = i := by omega
          rcases hk with hk | ⟨k1, k2, k3⟩
          · omega
          · rw [k1] at k2 k3
            exact .inr ⟨k2, k3, by omega⟩
    by_cases h1 : (r : Int) < 0 \/ levO g l s i < levO g l s r
    · rw [if_pos h1] at h
      have h1 : levO g l s i < levO g l s r := by omega
      refine rootN_ok n (i + 2) i q (by omega) ⟨hi, by omega, fun j hj hjo => ?_, fun j hj hjo he hne => ?_⟩ h
      · by_cases hji : j < i
        · have := hr.le j hji hjo; omega
        · obtain rfl : j = i := by omega
          omega
      · have hji : j < i := by omega
        have := hr.le j hji hjo; omega
    · rw [if_neg h1] at h
      by_cases h2 : levO g l s i = levO g l s r
      · rw [if_pos h2] at h
        split at h
        · cases h
        · rename_i h3
          split at h
          · rename_i h4
            refine rootN_ok n (i + 2) i q (by omega) ⟨hi, by omega, fun j hj hjo => ?_, fun j hj hjo he hne => ?_⟩ h
            · by_cases hji : j < i
              · have := hr.le j hji hjo; omega
              · obtain rfl : j = i := by omega
                omega
            · exact .inl ⟨h4, by omega⟩
          · rename_i h4
            exact rootN_ok n (i + 2) r q (by omega) (hkeep (.inr ⟨h2, h4, h3⟩)) h
      · rw [if_neg h2] at h
        exact rootN_ok n (i + 2) r q (by omega) (hkeep (.inl (by omega))) h
theorem rootE_ok {g : Gram} {l : List GLe} {s : List Int} {q : Int} (h : rootE g l s = (q, true)) : s.length % 2 = 1 /\ (∀ i, i < s.length -> fndO g s i = true) /\ ((s.length = 1 /\ q = -1) \/ ∃ r : Nat, q = r /\ RootP g l s r s.length) := by
 unfold rootE at h
 split at h
 ·cases h
 ·rename_i h0
  split at h
  ·rename_i h1
   refine ⟨by omega, fun i hi => List.all_eq_true.1 h1 i (List.mem_range.2 hi), ?_⟩
   cases hn : s.length / 2 with
   | zero =>
    rw [hn, rootN] at h
    injection h with h2 _
    exact .inl ⟨by omega, h2.symm⟩
   | succ n =>
    rw [hn, rootN, if_pos (.inl (by omega))] at h
    have hr : RootP g l s 1 3 := ⟨rfl, by omega, fun j hj hjo => by
     obtain rfl : j = 1 := by omega
     exact Int.le_refl _, fun j hj hjo _ hne => by omega⟩
    obtain ⟨r', q1, q2⟩ := rootN_ok n 3 1 q rfl hr h
    refine .inr ⟨r', q1, ?_⟩
    rw [show s.length = 3 + 2 * n by omega]
    exact q2
  ·cases h
theorem useL_mono {g : Gram} {l : List GLe} {e i j : Nat} (hij : i < j) (hj : j < (useL g l e).length) : nth (useL g l e) i < nth (useL g l e) j := by
 have h : (useL g l e).Pairwise (· < ·) := List.pairwise_lt_range.filter _
 rw [List.pairwise_iff_getElem] at h
 rw [nth_eq (by omega), nth_eq hj]
 exact h i j (by omega) hj hij
section
variable {g : Gram} {l : List GLe}
theorem op_lev {x : Int} (h : isOp g l x) : 0 <= levelG g l x /\ nth (useL g l (eO g)) (plc g l x) = (levelG g l x).toNat /\ levelG g l x < l.length := by
 obtain ⟨r, hr, hh, hb, hx, hc⟩ := h
 have h1 := (bin_self hb).2
 rw [hx] at h1
 rw [h1] at hb
 have hu := bin_used g l hr (by unfold eO at hh; omega) (by rw [h1]; exact hb)
 rw [h1, show r.head.toNat = eO g by omega] at hu
 have hp := (posU_is g l hu).2
 rw [Int.toNat_of_nonneg hb] at hp
 exact ⟨hb, hp, (levelG_lt g l x).2⟩
theorem plc_le {x y : Int} (hx : isOp g l x) (hy : isOp g l y) : (plc g l x <= plc g l y ↔ levelG g l x <= levelG g l y) /\ (plc g l x = plc g l y ↔ levelG g l x = levelG g l y) := by
 have a := op_lev hx
 have b := op_lev hy
 have px : plc g l x < (useL g l (eO g)).length := plc_lt hx
 have py : plc g l y < (useL g l (eO g)).length := plc_lt hy
 rcases Nat.lt_trichotomy (plc g l x) (plc g l y) with h | h | h
 ·have := useL_mono h py; omega
 ·rw [h] at a; omega
 ·have := useL_mono h px; omega
variable (hG : OpG g l)
include hG
theorem OpG.odd_op {s : List Int} {i : Nat} (hf : fndO g s i = true) (hi : i % 2 = 1) : isOp g l (nth s i) := by
 unfold fndO at hf
 rw [List.any_eq_true] at hf
 obtain ⟨r, hr, h⟩ := hf
 simp only [Bool.or_eq_true, Bool.and_eq_true, decide_eq_true_eq] at h
 rcases h with h | h
 ·omega
 ·rcases (hG.op r hr).2 with hb | hb
  ·rw [<- h.2]; exact (hG.bin hr hb).1
  ·omega
theorem OpG.even_no {s : List Int} {i : Nat} (hf : fndO g s i = true) (hi : i % 2 = 0) : ∃ r, r ∈ g.rules /\ r.body = [nth s i] /\ ¬ 0 <= binL g l r := by
 unfold fndO at hf
 rw [List.any_eq_true] at hf
 obtain ⟨r, hr, h⟩ := hf
 simp only [Bool.or_eq_true, Bool.and_eq_true, decide_eq_true_eq] at h
 rcases h with h | h
 ·refine ⟨r, hr, ?_, fun hb => ?_⟩
  ·cases hq : r.body with
   | nil => rw [hq] at h; simp at h
   | cons a m =>
    rw [hq] at h
    have : m = [] := List.eq_nil_of_length_eq_zero (by simpa using h.1.2)
    subst this
    have := h.2
    rw [<- this]; rfl
  ·have := (selfB_iff.1 (bin_self hb).1).1
   omega
 ·omega
theorem OpG.opd_no {r : Rul} {x : Int} (hr : r ∈ g.rules) (hx : r.body = [x]) (hb : ¬ 0 <= binL g l r) : ¬ isOp g l x := by
 obtain ⟨y, hy, _, hno, _⟩ := hG.opd hr hb
 rw [hx] at hy
 injection hy with hy _
 rw [hy]; exact hno
inductive ExprP (g : Gram) (l : List GLe) : List Int -> Prop
 | one {x : Int} {r : Rul} (hr : r ∈ g.rules) (hx : r.body = [x]) (hb : ¬ 0 <= binL g l r) : ExprP g l [x]
 | bin {w : List Int} {k : Nat} (hk : k < w.length) (ho : isOp g l (nth w k)) (hL : ExprP g l (w.take k)) (hR : ExprP g l (w.drop (k + 1)))
   (hmin : ∀ x, x ∈ w -> isOp g l x -> plc g l (nth w k) <= plc g l x) (hl : ∀ x, x ∈ w.take k -> isOp g l x -> plc g l (nth w k) + dlO g l (plc g l (nth w k)) <= plc g l x) (hr : ∀ x, x ∈ w.drop (k + 1) -> isOp g l x -> plc g l (nth w k) + drO g l (plc g l (nth w k)) <= plc g l x) : ExprP g l w
omit hG in
theorem ExprP.pos {w : List Int} (h : ExprP g l w) : 1 <= w.length := by
 cases h with
 | one => simp
 | bin hk => omega
omit hG in
omit hG in
omit hG in
theorem mem_take_nth {w : List Int} {k : Nat} {x : Int} (h : x ∈ w.take k) : ∃ j, j < k /\ j < w.length /\ x = nth w j := by
 obtain ⟨j, hj, e⟩ := List.getElem_of_mem h
 rw [List.length_take] at hj
 rw [List.getElem_take] at e
 exact ⟨j, by omega, by omega, by rw [nth_eq (by omega)]; exact e.symm⟩
omit hG in
theorem mem_drop_nth {w : List Int} {k : Nat} {x : Int} (h : x ∈ w.drop k) : ∃ j, k <= j /\ j < w.length /\ x = nth w j := by
 obtain ⟨j, hj, e⟩ := List.getElem_of_mem h
 rw [List.length_drop] at hj
 rw [List.getElem_drop] at e
 exact ⟨k + j, by omega, by omega, by rw [nth_eq (by omega)]; exact e.symm⟩
theorem OpG.root_parts {s : List Int} {r : Nat} (hf : ∀ i, i < s.length -> fndO g s i = true) (hr : RootP g l s r s.length) :
  isOp g l (nth s r) /\ (∀ j, j < s.length -> isOp g l (nth s j) -> j % 2 = 1 /\ plc g l (nth s r) <= plc g l (nth s j) /\
   (j < r -> plc g l (nth s r) + dlO g l (plc g l (nth s r)) <= plc g l (nth s j)) /\ (r < j -> plc g l (nth s r) + drO g l (plc g l (nth s r)) <= plc g l (nth s j))) := by
 have hor := hG.odd_op (hf r hr.lt) hr.odd
 have hlr := op_lev hor
 have has : (nth l (nth (useL g l (eO g)) (plc g l (nth s r)))).assoc = (nth l (levO g l s r).toNat).assoc := by rw [hlr.2.1]; rfl
 have hlev := (check_facts hG.ck).2.1
 have hrange : ∀ x, x ∈ l -> 1 <= x.assoc /\ x.assoc <= 3 := fun x hx => by
  unfold levsOk at hlev
  rw [Bool.and_eq_true, List.all_eq_true] at hlev
  have := hlev.1 x hx
  simp only [levOk, Bool.and_eq_true, decide_eq_true_eq] at this
  exact this.1
 have hx := hrange _ (nth_mem (show (levO g l s r).toNat < l.length by have := hlr; unfold levO; omega))
 refine ⟨hor, fun j hj ho => ?_⟩
 have hodd : j % 2 = 1 := by
  refine Classical.byContradiction fun hno => ?_
  obtain ⟨q, hq, hb, hbn⟩ := hG.even_no (hf j hj) (by omega)
  exact hG.opd_no hq hb hbn ho
 have hle := (plc_le hor ho).1.2 (hr.le j hj hodd)
 have heq := (plc_le hor ho).2
 refine ⟨hodd, hle, fun hjr => ?_, fun hjr => ?_⟩
 ·unfold dlO
  rw [has]
  split
  ·omega
  ·rename_i h1
   rcases Nat.lt_or_ge (plc g l (nth s r)) (plc g l (nth s j)) with h | h
   ·omega
   ·have := hr.eq j hj hodd (heq.1 (by omega)).symm (by omega)
    omega
 ·unfold drO
  rw [has]
  split
  ·omega
  ·rename_i h1
   rcases Nat.lt_or_ge (plc g l (nth s r)) (plc g l (nth s j)) with h | h
   ·omega
   ·have := hr.eq j hj hodd (heq.1 (by omega)).symm (by omega)
    omega
theorem OpG.expr : ∀ (k : Nat) (s : List Int), exprE g l k s = true -> ExprP g l s
  | 0, _, h => by simp [exprE] at h
  | k + 1, s, h => by
    rw [exprE] at h
    cases hq : rootE g l s with
    | mk q b =>
      rw [hq] at h
      simp only at h
      cases b with
      | false => simp at h
      | true =>
        obtain ⟨h1, hf, h3⟩ := rootE_ok hq
        rcases h3 with ⟨h3, rfl⟩ | ⟨r, rfl, hr⟩
        · obtain ⟨x, rfl⟩ : ∃ x, s = [x] := by
            cases s with
            | nil => simp at h3
            | cons a m =>
              have : m = [] := List.eq_nil_of_length_eq_zero (by simpa using h3)
              rw [this]; exact ⟨a, rfl⟩
          obtain ⟨r, hr, hb, hbn⟩ := hG.even_no (hf 0 (by simp)) rfl
          exact .one hr hb hbn
        · rw [if_neg (by simp), Int.toNat_natCast, Bool.and_eq_true] at h
          obtain ⟨ho, hp⟩ := hG.root_parts hf hr
          refine .bin hr.lt ho (OpG.expr k _ h.1) (OpG.expr k _ h.2) (fun x hx hox => ?_) (fun x hx hox => ?_) fun x hx hox => ?_
          · obtain ⟨j, hj, e⟩ := List.getElem_of_mem hx
            rw [<- nth_eq hj] at e
            subst e
            exact (hp j hj hox).2.1
          · obtain ⟨j, hj, hj2, rfl⟩ := mem_take_nth hx
            exact (hp j hj2 hox).2.2.1 hj
          · obtain ⟨j, hj, hj2, rfl⟩ := mem_drop_nth hx
            exact (hp j hj2 hox).2.2.2 (by omega)
theorem OpG.one (hrep : NoRep g) : ∀ (d c : Nat) (w : List Int), ExprP g l w -> c <= KO g l -> (∀ x, x ∈ w -> isOp g l x -> c <= plc g l x) -> KO g l - c + w.length + 1 <= d -> fO g l d c w = 1
  | 0, _, _, _, _, _, h => by omega
  | d + 1, c, w, hE, hc, hop, hd => by
    have hle := (hG.all hrep (d + 1) c w hc).1
    have hpos := hE.pos
    suffices h : 0 < fO g l (d + 1) c w by omega
    rw [hG.succ hc]
    have up : c < KO g l -> (∀ x, x ∈ w -> isOp g l x -> c + 1 <= plc g l x) -> 0 < min 2 ((g.rules.map (vO g l (countC (stratG g l) d) c w)).sum + if c < KO g l /\ w.length ≠ 0 then min 2 (fO g l d (c + 1) w) else 0) := fun h1 h2 => by
      have := OpG.one hrep d (c + 1) w hE (by omega) h2 (by omega)
      rw [if_pos ⟨h1, by omega⟩, this]
      omega
    cases hE with
    | @one x r hr hx hb =>
      obtain ⟨y, hy, hy0, hno, he⟩ := hG.opd hr hb
      rw [hx] at hy
      injection hy with hy _
      subst hy
      by_cases hcK : c = KO g l
      · have h1 := hG.v_opd (d := d) (c := c) (w := [x]) hx hy0 he hc
        rw [if_pos ⟨hcK, rfl⟩] at h1
        have := sum_ge (v := vO g l (countC (stratG g l) d) c [x]) hr
        rw [h1] at this
        omega
      · refine up (by omega) fun x' hx' ho => ?_
        rw [List.mem_singleton] at hx'
        subst hx'
        exact absurd ho hno
    | @bin _ k hk ho hL hR hmin hl hr =>
      have hc0 := hop _ (nth_mem hk) ho
      have hpl := plc_lt ho
      by_cases hcc : c = plc g l (nth w k)
      · subst hcc
        have hdd := dlr g l (plc g l (nth w k))
        have hRp := hR.pos
        have hLp := hL.pos
        rw [List.length_drop] at hRp
        rw [List.length_take] at hLp
        obtain ⟨r, hrr, _, hb, hx, _⟩ := ho
        have a1 := OpG.one hrep d (plc g l (nth w k) + dlO g l (plc g l (nth w k))) (w.take k) hL (by omega) hl (by rw [List.length_take]; omega)
        have a2 := OpG.one hrep d (plc g l (nth w k) + drO g l (plc g l (nth w k))) (w.drop (k + 1)) hR (by omega) hr (by rw [List.length_drop]; omega)
        have h1 := hG.v_bin (d := d) (c := plc g l (nth w k)) (w := w) hrr hb hc
        rw [if_pos ⟨by rw [hx], by omega⟩] at h1
        have h2 := sum_ge (v := fun n => if nth w (n + 1) = nth r.body 1 then splO g l d (plc g l (nth w k)) w n else 0) (List.mem_range.2 (show k - 1 < w.length - 2 by omega))
        try simp only at h2
        rw [show k - 1 + 1 = k by omega, if_pos hx.symm] at h2
        have h3 : splO g l d (plc g l (nth w k)) w (k - 1) = 1 := by
          unfold splO
          rw [show k - 1 + 2 = k + 1 by omega, show k - 1 + 1 = k by omega, a1, a2]
          rfl
        have h4 := sum_ge (v := vO g l (countC (stratG g l) d) (plc g l (nth w k)) w) hrr
        omega
      · exact up (by omega) fun x hx hox => by have := hmin x hx hox; omega
end
section
variable {g : Gram} {l : List GLe}
theorem DC.up {s : List Int} {e i k : Nat} (he : e < g.nonterms.length) : ∀ (d c : Nat), c + d <= (useL g l e).length -> DC g l s e (c + d) i k -> DC g l s e c i k
 | 0, _, _, h => h
 | d + 1, c, hc, h => DC.unit he (by omega) (DC.up he d (c + 1) (by omega) (by rw [show c + 1 + d = c + (d + 1) by omega]; exact h))
end
open Go.Proofs
open Go.RowKit
section
variable {P : Program} {n M : Nat} {l : List (Nat × AV)} {os : List (Nat × Option AObj)} {e : List Bool} {a : Operand} {ty : TypeId} {ti tj : TI}
end
end Go.Lg
namespace Go.Lg
open Go.Proofs
attribute [local irreducible] Ap Rq asemC WP RunD Ret Gq thenA inBlockA bodyQ noGotoA RqL RqP OpP
theorem dd_lt {u : Nat} (h : u / 10 = 0) : Lib.decDigits u = [UInt8.ofNat (48 + u % 10)] := by
 rw [Lib.decDigits_one (by omega), Nat.mod_eq_of_lt (by omega)]
theorem dd_len : ∀ n : Nat, n <= 1000000 -> (Lib.decDigits n).length <= 21 := fun n hn => by
 have := Lib.itoa_length_le (n : Int) (by omega) (by omega)
 rw [itoa_nat] at this; exact this
attribute [local simp] AV.cells
end Go.Lg
namespace Go.Lg
open Go.Proofs
attribute [local irreducible] Ap Rq asemC WP RunD Ret Gq thenA inBlockA bodyQ noGotoA RqL RqP OpP
theorem same20_fn (a b : List Int) : Fn Tryd.prog 17 [intsA a, intsA b] (boolA (decide (a = b))) := by
 refine Fn.intro rfl (by kernel_rfl) Tryd.func17 rfl rfl Tryd.ntmps17 (by exact nle rfl) ?_; intro Γ hm
 refine wp_lens 0 rfl fun h0 => wp_lens 1 rfl fun h1 => ?_
 have h0 : a.length <= 9223372036854775807 := by have := h0; simp [AV.lens, intsA] at this; omega
 have h1 : b.length <= 9223372036854775807 := by have := h1; simp [AV.lens, intsA] at this; omega
 by_cases hlen : a.length = b.length
 ·(repeat' (first | apply jA | apply jF | apply jH | apply jI | (refine wp_cond rfl (fun hc => ?_) (fun hc => ?_) <;> (try simp only [sB, ne_eq, reduceCtorEq] at hc) <;> (try (exfalso; omega))) | (refine WP.regionC ?_; (refine sassign rfl ?_); apply jW) | (refine rgC 1 ?_; (refine smove rfl ?_); (refine slenm rfl rfl ?_); (refine smove rfl ?_); (refine slenm rfl rfl ?_); (refine su (aneq rfl rfl) ?_); apply jW)))
  all_goals try (exfalso; omega)
  refine wp_loop (fun (i : Nat) => i <= a.length /\ a.take i = b.take i) (fun i => a.length - i)
   (fun i => (S 26 [(0, intsA a), (1, intsA b), (5, intA (i : Nat))] 0 [])) 0 ⟨[], ToR.S rfl (by repeat' (first | exact rt_nil | refine rt_e rfl rfl ?_ | refine rt_p rfl rfl (by first | (simp [AV.bd, bdL, bdL_append]; done) | fail) ?_)) (by repeat' (exact ro_nil)) rfl (by (rw [hm]; exact rfl)) rfl zq4 (by repeat' (exact True.intro)) (by (rw [hm]; exact nle rfl))⟩ ⟨Nat.zero_le _, rfl⟩ ?_
  rintro i ⟨hi, hall⟩
  by_cases hlt : i < a.length
  ·(repeat' (first | apply jA | apply jF | apply jH | apply jI | apply jK | apply jM | apply jN | apply jO | apply jS | (refine wp_cond rfl (fun hc => ?_) (fun hc => ?_) <;> (try simp only [sB, ne_eq, reduceCtorEq] at hc) <;> (try (exfalso; omega))) | (refine rgC 4 ?_; (refine smove rfl ?_); (refine smove rfl ?_); (refine slenm rfl rfl ?_); (refine slss rfl rfl ?_); apply jW) | (refine wp_draw (id := 6) 9 mixed (by kernel_rfl) (by kernel_rfl) rfl ?_ <;> (refine rmove rfl ?_) <;> (refine rmove rfl ?_) <;> (refine rd_u rfl rfl (aidxn rfl rfl (by omega)) ?_) <;> (refine rd_u rfl rfl (aloadw rfl rfl) ?_) <;> (refine rmove rfl ?_) <;> (refine rmove rfl ?_) <;> (refine rd_u rfl rfl (aidxn rfl rfl (by omega)) ?_) <;> (refine rd_u rfl rfl (aloadw rfl rfl) ?_) <;> (refine rd_u rfl rfl (aneq rfl rfl) ?_) <;> (refine rd_end (by kernel_rfl) ?_)) | (refine rgC 7 ?_; (refine sassign rfl ?_); apply jW) | (refine rgC 5 ?_; (refine smove rfl ?_); (refine sadd rfl rfl (by exact inr_i64_of (by omega)) ?_); (refine sassign rfl ?_); apply jW) | refine ret_b rfl ?_))
   ·rw [decide_eq_false]
    rintro rfl
    exact absurd rfl hc
   ·exact ⟨i + 1, ⟨by omega, by omega, take_eq_succ (by omega) (by omega) hall hc⟩, ⟨[], ToR.S rfl (by repeat' (first | exact rt_nil | refine rt_e rfl rfl ?_ | refine rt_p rfl rfl (by first | (simp [AV.bd, bdL, bdL_append]; done) | fail) ?_)) (by repeat' (exact ro_nil)) rfl (by (rw [hm]; exact rfl)) rfl zq4 (by repeat' (exact True.intro)) (by (rw [hm]; exact nle rfl))⟩⟩
  ·rw [decide_eq_true (eq_of_takes hlen (by omega) hall)]
   (repeat' (first | apply jA | apply jH | apply jJ | apply jK | apply jL | apply jP | apply jS | (refine wp_cond rfl (fun hc => ?_) (fun hc => ?_) <;> (try simp only [sB, ne_eq, reduceCtorEq] at hc) <;> (try (exfalso; omega))) | (refine rgC 4 ?_; (refine smove rfl ?_); (refine smove rfl ?_); (refine slenm rfl rfl ?_); (refine slss rfl rfl ?_); apply jW) | (refine rgC 8 ?_; (refine sassign rfl ?_); apply jW) | exact ret_eq rfl rfl rfl))
 ·rw [decide_eq_false (fun h => hlen (by rw [h]))]
  (repeat' (first | apply jA | apply jH | apply jK | apply jM | apply jS | (refine wp_cond rfl (fun hc => ?_) (fun hc => ?_) <;> (try simp only [sB, ne_eq, reduceCtorEq] at hc) <;> (try (exfalso; omega))) | (refine WP.regionC ?_; (refine sassign rfl ?_); apply jW) | (refine rgC 1 ?_; (refine smove rfl ?_); (refine slenm rfl rfl ?_); (refine smove rfl ?_); (refine slenm rfl rfl ?_); (refine su (aneq rfl rfl) ?_); apply jW) | exact ret_eq rfl rfl rfl))
  all_goals (rfl)
def fewR (r : Rul) : Bool := decide (r.body.length <= 20)
def fewV (x : GLe) : Bool := decide (x.tokens.length <= 10)
def fewG (g : Gram) (l : List GLe) (n : Int) : Bool := decide (g.terms.length <= 130 /\ g.nonterms.length <= 130 /\ (g.rules.length : Int) <= n /\ l.length <= 10) && g.rules.all fewR && l.all fewV
theorem few20_fn (g : Gram) (l : List GLe) (n : Int) (h0 : 0 <= n) (h1 : n <= 1000) : Fn Tryd.prog 10 [gramA g, levelsA l, intA n] (boolA (fewG g l n)) := by
 unfold fewG
 refine Fn.intro rfl (by kernel_rfl) Tryd.func10 rfl rfl Tryd.ntmps10 (by exact nle rfl) ?_; intro Γ hm
 refine wp_lens 0 rfl fun hl => wp_lens 1 rfl fun hll => ?_
 obtain ⟨hl1, hl2, hl3, hl4⟩ := (lens_gramA g).1 hl
 have hl5 : l.length <= 9223372036854775807 := by have := hll; simp [AV.lens, levelsA] at this; omega
 have hl6 : ∀ x, x ∈ l -> x.tokens.length <= 9223372036854775807 := by have := hll; intro x hx; simp [AV.lens, levelsA, lensL_map, levelA] at this; have := this.2 x hx; simp [lensL, AV.lens, intA, strsA] at this; omega
 by_cases hc0 : g.terms.length <= 130 /\ g.nonterms.length <= 130 /\ (g.rules.length : Int) <= n /\ l.length <= 10
 ·rw [decide_eq_true hc0, Bool.true_and]
  (repeat' (first | apply jA | apply jF | apply jH | apply jI | (refine wp_cond rfl (fun hc => ?_) (fun hc => ?_) <;> (try simp only [sB, ne_eq, reduceCtorEq] at hc) <;> (try (exfalso; omega))) | (refine rgC 0 ?_; (refine se_box rfl (by exact ⟨rfl, rfl⟩) ?_); (refine sassign rfl ?_); apply jW) | (refine rgC 1 ?_; (refine sfieldp rfl rfl rfl ?_); (refine sloadp rfl rfl rfl rfl ?_); (refine slenm rfl rfl ?_); (refine su (agtr rfl rfl) ?_); (refine smove rfl ?_); (refine sg (gq_vf rfl rfl) (fun he => ap_field_p (rq_p rfl rfl) rfl rfl) ?_); (refine sg (gq_vf rfl rfl) (fun he => ap_load_p (rq_c rfl rfl) rfl rfl rfl) ?_); (refine sg (gq_vf rfl rfl) (fun he => ap_len_m rfl (rq_c rfl rfl)) ?_); (refine sg (gq_vf rfl rfl) (fun he => ap_gtr (rq_c rfl rfl) (rq_p rfl rfl)) ?_); (refine su (ap_or (rq_p rfl rfl) (rq_c rfl rfl)) ?_); (refine smove rfl ?_); (refine sg (gq_vf rfl rfl) (fun he => ap_field_p (rq_p rfl rfl) rfl rfl) ?_); (refine sg (gq_vf rfl rfl) (fun he => ap_load_p (rq_c rfl rfl) rfl rfl rfl) ?_); (refine sg (gq_vf rfl rfl) (fun he => ap_len_m rfl (rq_c rfl rfl)) ?_); (refine sg (gq_vf rfl rfl) (fun he => ap_move (rq_p rfl rfl)) ?_); (refine sg (gq_vf rfl rfl) (fun he => ap_gtr (rq_c rfl rfl) (rq_c rfl rfl)) ?_); (refine su (ap_or (rq_p rfl rfl) (rq_c rfl rfl)) ?_); (refine smove rfl ?_); (refine sg (gq_vf rfl rfl) (fun he => ap_move (rq_p rfl rfl)) ?_); (refine sg (gq_vf rfl rfl) (fun he => ap_len_m rfl (rq_c rfl rfl)) ?_); (refine sg (gq_vf rfl rfl) (fun he => ap_gtr (rq_c rfl rfl) (rq_p rfl rfl)) ?_); (refine su (ap_or (rq_p rfl rfl) (rq_c rfl rfl)) ?_); apply jW) | (refine rgC 3 ?_; (refine sassign rfl ?_); apply jW)))
  all_goals try (exfalso; omega)
  refine wp_loop (fun (i : Nat) => i <= g.rules.length /\ (g.rules.take i).all fewR = true) (fun i => g.rules.length - i)
   (fun i => (S 59 [(1, levelsA l), (3, .ptr 0 4 0 0), (7, intA (i : Nat))] 1 [(0, some (.arr 4 [gramA g]))])) 0 ⟨[0], ToR.S rfl (by repeat' (first | exact rt_nil | refine rt_t rfl rfl ?_ | refine rt_e rfl rfl ?_ | refine rt_p rfl rfl (by first | (simp [AV.bd, bdL, bdL_append]; done) | fail) ?_)) (by repeat' (first | exact ro_nil | refine ro_p rfl (by first | exact rfl | fail) zq5 ?_)) rfl (by (rw [hm]; exact rfl)) rfl zq4 zq3 (by (rw [hm]; exact nle rfl))⟩ ⟨Nat.zero_le _, rfl⟩ ?_
  rintro i ⟨hi, hall⟩
  by_cases hlt : i < g.rules.length
  ·have hb := hl4 _ (nth_mem hlt)
   (repeat' (first | apply jA | apply jF | apply jH | apply jI | apply jK | apply jM | apply jN | apply jO | apply jS | (refine wp_cond rfl (fun hc => ?_) (fun hc => ?_) <;> (try simp only [sB, ne_eq, reduceCtorEq] at hc) <;> (try (exfalso; omega))) | (refine rgC 4 ?_; (refine smove rfl ?_); (refine sfieldp rfl rfl rfl ?_); (refine sloadp rfl rfl rfl rfl ?_); (refine slenm rfl rfl ?_); (refine slss rfl rfl ?_); apply jW) | (refine rgC 6 ?_; (refine sfieldp rfl rfl rfl ?_); (refine sloadp rfl rfl rfl rfl ?_); (refine smove rfl ?_); (refine sidxn rfl rfl (by omega) ?_); (refine su (afieldi rfl rfl rfl) ?_); (refine su (aloadi rfl rfl) ?_); (refine slenm rfl rfl ?_); (refine su (agtr rfl rfl) ?_); apply jW) | (refine rgC 7 ?_; (refine sassign rfl ?_); apply jW) | (refine rgC 5 ?_; (refine smove rfl ?_); (refine sadd rfl rfl (by exact inr_i64_of (by omega)) ?_); (refine sassign rfl ?_); apply jW) | refine ret_b rfl ?_))
   ·rw [all_nth_no (f := fewR) hlt (decide_eq_false (by omega))]; rfl
   ·exact ⟨i + 1, ⟨by omega, by omega, take_all_succ hlt hall (decide_eq_true (by omega))⟩, ⟨[0], ToR.S rfl (by repeat' (first | exact rt_nil | refine rt_t rfl rfl ?_ | refine rt_e rfl rfl ?_ | refine rt_p rfl rfl (by first | (simp [AV.bd, bdL, bdL_append]; done) | fail) ?_)) (by repeat' (first | exact ro_nil | refine ro_p rfl (by first | exact rfl | fail) zq5 ?_)) rfl (by (rw [hm]; exact rfl)) rfl zq4 zq3 (by (rw [hm]; exact nle rfl))⟩⟩
  ·rw [all_of_take' (by omega) hall, Bool.true_and]
   (repeat' (first | apply jA | apply jF | apply jH | apply jJ | apply jL | apply jP | (refine wp_cond rfl (fun hc => ?_) (fun hc => ?_) <;> (try simp only [sB, ne_eq, reduceCtorEq] at hc) <;> (try (exfalso; omega))) | (refine rgC 4 ?_; (refine smove rfl ?_); (refine sfieldp rfl rfl rfl ?_); (refine sloadp rfl rfl rfl rfl ?_); (refine slenm rfl rfl ?_); (refine slss rfl rfl ?_); apply jW) | (refine rgC 8 ?_; (refine sassign rfl ?_); apply jW)))
   refine wp_loop (fun (i : Nat) => i <= l.length /\ (l.take i).all fewV = true) (fun i => l.length - i)
    (fun i => (S 59 [(1, levelsA l), (8, intA (i : Nat))] 0 [])) 0 ⟨[], ToR.S rfl (by repeat' (first | exact rt_nil | refine rt_e rfl rfl ?_ | refine rt_p rfl rfl (by first | (simp [AV.bd, bdL, bdL_append]; done) | fail) ?_)) (by repeat' (exact ro_nil)) rfl (by (rw [hm]; exact rfl)) rfl zq4 (by repeat' (exact True.intro)) (by (rw [hm]; exact nle rfl))⟩ ⟨Nat.zero_le _, rfl⟩ ?_
   rintro j ⟨hj, hallj⟩
   by_cases hltj : j < l.length
   ·have hb := hl6 _ (nth_mem hltj)
    (repeat' (first | apply jA | apply jF | apply jH | apply jI | apply jK | apply jM | apply jN | apply jO | apply jS | (refine wp_cond rfl (fun hc => ?_) (fun hc => ?_) <;> (try simp only [sB, ne_eq, reduceCtorEq] at hc) <;> (try (exfalso; omega))) | (refine rgC 9 ?_; (refine smove rfl ?_); (refine smove rfl ?_); (refine slenm rfl rfl ?_); (refine slss rfl rfl ?_); apply jW) | (refine rgC 11 ?_; (refine smove rfl ?_); (refine smove rfl ?_); (refine sidxn rfl rfl (by omega) ?_); (refine su (afieldi rfl rfl rfl) ?_); (refine su (aloadi rfl rfl) ?_); (refine slenm rfl rfl ?_); (refine su (agtr rfl rfl) ?_); apply jW) | (refine rgC 12 ?_; (refine sassign rfl ?_); apply jW) | (refine rgC 10 ?_; (refine smove rfl ?_); (refine sadd rfl rfl (by exact inr_i64_of (by omega)) ?_); (refine sassign rfl ?_); apply jW) | refine ret_b rfl ?_))
    ·rw [all_nth_no (f := fewV) hltj (decide_eq_false (by omega))]
    ·exact ⟨j + 1, ⟨by omega, by omega, take_all_succ hltj hallj (decide_eq_true (by omega))⟩, ⟨[], ToR.S rfl (by repeat' (first | exact rt_nil | refine rt_e rfl rfl ?_ | refine rt_p rfl rfl (by first | (simp [AV.bd, bdL, bdL_append]; done) | fail) ?_)) (by repeat' (exact ro_nil)) rfl (by (rw [hm]; exact rfl)) rfl zq4 (by repeat' (exact True.intro)) (by (rw [hm]; exact nle rfl))⟩⟩
   ·rw [all_of_take' (by omega) hallj]
    (repeat' (first | apply jA | apply jH | apply jJ | apply jK | apply jL | apply jP | apply jS | (refine wp_cond rfl (fun hc => ?_) (fun hc => ?_) <;> (try simp only [sB, ne_eq, reduceCtorEq] at hc) <;> (try (exfalso; omega))) | (refine rgC 9 ?_; (refine smove rfl ?_); (refine smove rfl ?_); (refine slenm rfl rfl ?_); (refine slss rfl rfl ?_); apply jW) | (refine rgC 13 ?_; (refine sassign rfl ?_); apply jW) | exact ret_eq rfl rfl rfl))
 ·rw [decide_eq_false hc0, Bool.false_and, Bool.false_and]
  (repeat' (first | apply jA | apply jH | apply jK | apply jM | apply jS | (refine wp_cond rfl (fun hc => ?_) (fun hc => ?_) <;> (try simp only [sB, ne_eq, reduceCtorEq] at hc) <;> (try (exfalso; omega))) | (refine rgC 0 ?_; (refine se_box rfl (by exact ⟨rfl, rfl⟩) ?_); (refine sassign rfl ?_); apply jW) | (refine rgC 1 ?_; (refine sfieldp rfl rfl rfl ?_); (refine sloadp rfl rfl rfl rfl ?_); (refine slenm rfl rfl ?_); (refine su (agtr rfl rfl) ?_); (refine smove rfl ?_); (refine sg (gq_vf rfl rfl) (fun he => ap_field_p (rq_p rfl rfl) rfl rfl) ?_); (refine sg (gq_vf rfl rfl) (fun he => ap_load_p (rq_c rfl rfl) rfl rfl rfl) ?_); (refine sg (gq_vf rfl rfl) (fun he => ap_len_m rfl (rq_c rfl rfl)) ?_); (refine sg (gq_vf rfl rfl) (fun he => ap_gtr (rq_c rfl rfl) (rq_p rfl rfl)) ?_); (refine su (ap_or (rq_p rfl rfl) (rq_c rfl rfl)) ?_); (refine smove rfl ?_); (refine sg (gq_vf rfl rfl) (fun he => ap_field_p (rq_p rfl rfl) rfl rfl) ?_); (refine sg (gq_vf rfl rfl) (fun he => ap_load_p (rq_c rfl rfl) rfl rfl rfl) ?_); (refine sg (gq_vf rfl rfl) (fun he => ap_len_m rfl (rq_c rfl rfl)) ?_); (refine sg (gq_vf rfl rfl) (fun he => ap_move (rq_p rfl rfl)) ?_); (refine sg (gq_vf rfl rfl) (fun he => ap_gtr (rq_c rfl rfl) (rq_c rfl rfl)) ?_); (refine su (ap_or (rq_p rfl rfl) (rq_c rfl rfl)) ?_); (refine smove rfl ?_); (refine sg (gq_vf rfl rfl) (fun he => ap_move (rq_p rfl rfl)) ?_); (refine sg (gq_vf rfl rfl) (fun he => ap_len_m rfl (rq_c rfl rfl)) ?_); (refine sg (gq_vf rfl rfl) (fun he => ap_gtr (rq_c rfl rfl) (rq_p rfl rfl)) ?_); (refine su (ap_or (rq_p rfl rfl) (rq_c rfl rfl)) ?_); apply jW) | (refine rgC 2 ?_; (refine sassign rfl ?_); apply jW) | exact ret_eq rfl rfl rfl))
  all_goals (rfl)
end Go.Lg
namespace Go.Lg
open Go.Proofs
attribute [local irreducible] Ap Rq asemC WP RunD Ret Gq thenA inBlockA bodyQ noGotoA RqL RqP OpP
attribute [local simp] AV.cells
structure FewL (l : List GLe) : Prop where
 n : l.length <= 10
 t : ∀ x, x ∈ l -> x.tokens.length <= 10
theorem FewL.of {g : Gram} {l : List GLe} {n : Int} (h : fewG g l n = true) : FewL l := by
 unfold fewG at h
 simp only [Bool.and_eq_true, decide_eq_true_eq, List.all_eq_true] at h
 exact ⟨h.1.1.2.2.2, fun x hx => by have := h.2 x hx; simpa [fewV] using this⟩
theorem lvlTok_succ {l : List GLe} {i : Nat} (hi : i < l.length) : lvlTok (l.take (i + 1)) = lvlTok (l.take i) ++ (nth l i).tokens := by
 unfold lvlTok
 rw [take_succ_nth hi, List.map_append, List.flatten_append]
 simp
theorem lvlTok_pre {l : List GLe} {i k : Nat} (hi : i < l.length) (hk : k < (nth l i).tokens.length) : (lvlTok (l.take i) ++ (nth l i).tokens.take k ++ [nth (nth l i).tokens k]) <+: lvlTok l := by
 have h1 : lvlTok l = lvlTok (l.take (i + 1)) ++ lvlTok (l.drop (i + 1)) := by
  unfold lvlTok
  rw [<- List.flatten_append, <- List.map_append, List.take_append_drop]
 have h2 : (nth l i).tokens.take k ++ [nth (nth l i).tokens k] = (nth l i).tokens.take (k + 1) := (take_succ_nth hk).symm
 rw [List.append_assoc, h2, h1, lvlTok_succ hi, List.append_assoc]
 exact (List.prefix_append_right_inj _).2 (List.IsPrefix.trans (List.take_prefix _ _) (List.prefix_append _ _))
theorem lvlTok_len {l : List GLe} (h : ∀ x, x ∈ l -> x.tokens.length <= 10) : (lvlTok l).length <= 10 * l.length := by
 induction l with
 | nil => simp [lvlTok]
 | cons a l ih =>
  have h1 := h a (by simp)
  have h2 := ih fun x hx => h x (by simp [hx])
  simp only [lvlTok, List.map_cons, List.flatten_cons, List.length_append, List.length_cons] at h2 ⊢
  omega
theorem levs20_fn (l : List GLe) (hf : FewL l) : Fn Tryd.prog 28 [levelsA l] (boolA (levsOk l)) := by
 have hfn := hf.n
 have hft := hf.t
 refine Fn.intro rfl (by kernel_rfl) Tryd.func28 rfl rfl Tryd.ntmps28 (by exact nle rfl) ?_; intro Γ hm
 (repeat' (first | apply jA | apply jF | apply jH | (refine WP.regionC ?_; (refine sassign rfl ?_); apply jW)))
 refine wp_nil 3 1 rfl ?_
 refine wp_loop (fun (i : Nat) => i <= l.length /\ (l.take i).all levOk = true /\ (lvlTok (l.take i)).Nodup) (fun i => l.length - i)
  (fun i => (S 76 [(0, levelsA l), (3, .ref 0 1 0 (lvlTok (l.take i)).length), (4, intA (i : Nat))] 1 [(0, some (.arr 1 ((lvlTok (l.take i)).map strA)))])) 0 ⟨[0], ToR.S rfl (by repeat' (first | exact rt_nil | refine rt_r rfl rfl ?_ | refine rt_e rfl rfl ?_ | refine rt_p rfl rfl (by first | (simp [AV.bd, bdL, bdL_append]; done) | fail) ?_)) (by repeat' (first | exact ro_nil | refine ro_e rfl rfl ?_)) rfl (by (rw [hm]; exact rfl)) rfl zq4 (by repeat' (first | exact True.intro | exact rfl | refine And.intro ?_ ?_)) (by (rw [hm]; exact nle rfl))⟩ ⟨Nat.zero_le _, rfl, by simp [lvlTok]⟩ ?_
 rintro i ⟨hi, hall, hnd⟩
 have hln := lvlTok_len (l := l.take i) fun x hx => hft x (List.mem_of_mem_take hx)
 rw [List.length_take] at hln
 by_cases hlt : i < l.length
 ·have htk := hft _ (nth_mem hlt)
  by_cases hok : levOk (nth l i) = true
  ·have hok' := hok
   simp only [levOk, Bool.and_eq_true, decide_eq_true_eq] at hok'
   (repeat' (first | apply jA | apply jF | apply jH | apply jI | (refine wp_cond rfl (fun hc => ?_) (fun hc => ?_) <;> (try simp only [sB, ne_eq, reduceCtorEq] at hc) <;> (try (exfalso; omega))) | (refine rgC 3 ?_; (refine smove rfl ?_); (refine smove rfl ?_); (refine slenm rfl rfl ?_); (refine slss rfl rfl ?_); apply jW) | (refine rgC 5 ?_; (refine smove rfl ?_); (refine smove rfl ?_); (refine sidxn rfl rfl (by omega) ?_); (refine su (afieldi rfl rfl rfl) ?_); (refine su (aloadi rfl rfl) ?_); (refine slss rfl rfl ?_); (refine smove rfl ?_); (refine sg (gq_vf rfl rfl) (fun he => ap_move (rq_p rfl rfl)) ?_); (refine sg (gq_vf rfl rfl) (fun he => ap_move (rq_p rfl rfl)) ?_); (refine sg (gq_vf rfl rfl) (fun he => ap_idx_n (rq_c rfl rfl) (rq_c rfl rfl) (by (try simp only [sH, id, sB, ne_eq, reduceCtorEq] at he); omega)) ?_); (refine sg (gq_vf rfl rfl) (fun he => ap_field_i (rq_c rfl rfl) rfl rfl) ?_); (refine sg (gq_vf rfl rfl) (fun he => ap_load_i (rq_c rfl rfl) rfl) ?_); (refine sg (gq_vf rfl rfl) (fun he => ap_gtr (rq_c rfl rfl) (rq_p rfl rfl)) ?_); (refine su (ap_or (rq_p rfl rfl) (rq_c rfl rfl)) ?_); (refine smove rfl ?_); (refine sg (gq_vf rfl rfl) (fun he => ap_move (rq_p rfl rfl)) ?_); (refine sg (gq_vf rfl rfl) (fun he => ap_move (rq_p rfl rfl)) ?_); (refine sg (gq_vf rfl rfl) (fun he => ap_idx_n (rq_c rfl rfl) (rq_c rfl rfl) (by (try simp only [sH, id, sB, ne_eq, reduceCtorEq] at he); omega)) ?_); (refine sg (gq_vf rfl rfl) (fun he => ap_field_i (rq_c rfl rfl) rfl rfl) ?_); (refine sg (gq_vf rfl rfl) (fun he => ap_load_i (rq_c rfl rfl) rfl) ?_); (refine sg (gq_vf rfl rfl) (fun he => ap_len_m rfl (rq_c rfl rfl)) ?_); (refine sg (gq_vf rfl rfl) (fun he => ap_eql (rq_c rfl rfl) (rq_p rfl rfl)) ?_); (refine su (ap_or (rq_p rfl rfl) (rq_c rfl rfl)) ?_); apply jW) | (refine rgC 7 ?_; (refine sassign rfl ?_); apply jW)))
   all_goals try (exfalso; omega)
   refine wp_loop (fun (k : Nat) => k <= (nth l i).tokens.length /\ (lvlTok (l.take i) ++ (nth l i).tokens.take k).Nodup) (fun k => (nth l i).tokens.length - k)
    (fun k => (S 76 [(0, levelsA l), (3, .ref 0 1 0 (lvlTok (l.take i) ++ (nth l i).tokens.take k).length), (4, intA (i : Nat)), (5, intA (k : Nat))] 1 [(0, some (.arr 1 ((lvlTok (l.take i) ++ (nth l i).tokens.take k).map strA)))])) 0 ?_ ⟨Nat.zero_le _, by simpa using hnd⟩ ?_
   ·rw [List.take_zero, List.append_nil]
    exact ⟨[0], ToR.S rfl (by repeat' (first | exact rt_nil | refine rt_r rfl rfl ?_ | refine rt_e rfl rfl ?_ | refine rt_p rfl rfl (by first | (simp [AV.bd, bdL, bdL_append]; done) | fail) ?_)) (by repeat' (first | exact ro_nil | refine ro_p rfl (by first | exact rfl | fail) (by first | exact bdL_map (fun _ => by exact rfl) _ | fail) ?_)) rfl (by (rw [hm]; exact rfl)) rfl zq4 (by repeat' (first | exact True.intro | refine And.intro ?_ ?_ | exact bdL_map (fun _ => by exact rfl) _)) (by (rw [hm]; exact nle rfl))⟩
   rintro k ⟨hk, hnk⟩
   by_cases hkt : k < (nth l i).tokens.length
   ·have hpre := lvlTok_pre hlt hkt
    have hsl : (lvlTok (l.take i) ++ (nth l i).tokens.take k).length <= 200 := by rw [List.length_append, List.length_take]; omega
    have hsn : lvlTok (l.take i) ++ (nth l i).tokens.take (k + 1) = (lvlTok (l.take i) ++ (nth l i).tokens.take k) ++ [nth (nth l i).tokens k] := by rw [take_succ_nth hkt, List.append_assoc]
    generalize lvlTok (l.take i) ++ (nth l i).tokens.take k = seen at *
    (repeat' (first | apply jA | apply jF | apply jH | apply jI | (refine wp_cond rfl (fun hc => ?_) (fun hc => ?_) <;> (try simp only [sB, ne_eq, reduceCtorEq] at hc) <;> (try (exfalso; omega))) | (refine rgC 8 ?_; (refine smove rfl ?_); (refine smove rfl ?_); (refine smove rfl ?_); (refine sidxn rfl rfl (by omega) ?_); (refine su (afieldi rfl rfl rfl) ?_); (refine su (aloadi rfl rfl) ?_); (refine slenm rfl rfl ?_); (refine slss rfl rfl ?_); apply jW) | (refine rgC 10 ?_; (refine sassign rfl ?_); apply jW)))
    refine wp_loop (fun (m : Nat) => m <= seen.length /\ ∀ j, j < m -> nth seen j ≠ nth (nth l i).tokens k) (fun m => seen.length - m)
     (fun m => (S 76 [(0, levelsA l), (3, .ref 0 1 0 seen.length), (4, intA (i : Nat)), (5, intA (k : Nat)), (6, intA (m : Nat))] 1 [(0, some (.arr 1 (seen.map strA)))])) 0 ⟨[0], ToR.S rfl (by repeat' (first | exact rt_nil | refine rt_r rfl rfl ?_ | refine rt_e rfl rfl ?_ | refine rt_p rfl rfl (by first | (simp [AV.bd, bdL, bdL_append]; done) | fail) ?_)) (by repeat' (first | exact ro_nil | refine ro_p rfl (by first | exact rfl | fail) (by first | exact bdL_map (fun _ => by exact rfl) _ | fail) ?_)) rfl (by (rw [hm]; exact rfl)) rfl zq4 (by repeat' (first | exact True.intro | refine And.intro ?_ ?_ | exact bdL_map (fun _ => by exact rfl) _)) (by (rw [hm]; exact nle rfl))⟩ ⟨Nat.zero_le _, by omega⟩ ?_
    rintro m ⟨hmq, hne⟩
    by_cases hml : m < seen.length
    ·(repeat' (first | apply jA | apply jF | apply jH | apply jI | apply jK | apply jM | apply jN | apply jO | apply jS | (refine wp_cond rfl (fun hc => ?_) (fun hc => ?_) <;> (try simp only [sB, ne_eq, reduceCtorEq] at hc) <;> (try (exfalso; omega))) | (refine rgC 11 ?_; (refine smove rfl ?_); (refine smove rfl ?_); (refine su (alenr rfl rfl) ?_); (refine slss rfl rfl ?_); apply jW) | (refine wp_draw (id := 13) 13 mixed (by kernel_rfl) (by kernel_rfl) rfl ?_ <;> (refine rmove rfl ?_) <;> (refine rmove rfl ?_) <;> (refine rd_u rfl rfl (aidxrn rfl rfl (by omega)) ?_) <;> (refine rd_u rfl rfl (aloadpt rfl rfl (by omega) rfl) ?_) <;> (refine rmove rfl ?_) <;> (refine rmove rfl ?_) <;> (refine rd_u rfl rfl (aidxn rfl rfl (by omega)) ?_) <;> (refine rd_u rfl rfl (afieldi rfl rfl rfl) ?_) <;> (refine rd_u rfl rfl (aloadi rfl rfl) ?_) <;> (refine rmove rfl ?_) <;> (refine rd_u rfl rfl (aidxn rfl rfl (by omega)) ?_) <;> (refine rd_u rfl rfl (aloadw rfl rfl) ?_) <;> (refine rd_u rfl rfl (aeqs rfl rfl) ?_) <;> (refine rd_end (by kernel_rfl) ?_)) | (refine rgC 14 ?_; (refine sassign rfl ?_); apply jW) | (refine rgC 12 ?_; (refine smove rfl ?_); (refine sadd rfl rfl (by exact inr_i64_of (by omega)) ?_); (refine sassign rfl ?_); apply jW) | refine ret_b rfl ?_))
     ·have : levsOk l = false := by
       rw [Bool.eq_false_iff]
       intro h
       unfold levsOk at h
       rw [Bool.and_eq_true, decide_eq_true_eq] at h
       have h2 := h.2.sublist hpre.sublist
       rw [List.nodup_append] at h2
       exact h2.2.2 _ (nth_mem hml) _ (by simp) hc
      rw [this]
     ·exact ⟨m + 1, ⟨by omega, by omega, fun j hj => by
       by_cases e : j = m
       ·subst e; exact hc
       ·exact hne j (by omega)⟩, ⟨[0], ToR.S rfl (by repeat' (first | exact rt_nil | refine rt_r rfl rfl ?_ | refine rt_e rfl rfl ?_ | refine rt_p rfl rfl (by first | (simp [AV.bd, bdL, bdL_append]; done) | fail) ?_)) (by repeat' (first | exact ro_nil | refine ro_p rfl (by first | exact rfl | fail) (by first | exact bdL_map (fun _ => by exact rfl) _ | fail) ?_)) rfl (by (rw [hm]; exact rfl)) rfl zq4 (by repeat' (first | exact True.intro | refine And.intro ?_ ?_ | exact bdL_map (fun _ => by exact rfl) _)) (by (rw [hm]; exact nle rfl))⟩⟩
    ·(repeat' (first | apply jA | apply jH | apply jJ | apply jL | apply jN | apply jP | (refine wp_cond rfl (fun hc => ?_) (fun hc => ?_) <;> (try simp only [sB, ne_eq, reduceCtorEq] at hc) <;> (try (exfalso; omega))) | (refine rgC 11 ?_; (refine smove rfl ?_); (refine smove rfl ?_); (refine su (alenr rfl rfl) ?_); (refine slss rfl rfl ?_); apply jW) | (refine rgC 15 ?_; (refine smove rfl ?_); (refine smove rfl ?_); (refine smove rfl ?_); (refine sidxn rfl rfl (by omega) ?_); (refine su (afieldi rfl rfl rfl) ?_); (refine su (aloadi rfl rfl) ?_); (refine smove rfl ?_); (refine sidxn rfl rfl (by omega) ?_); (refine sloadw rfl rfl ?_); (refine se_lit (OpP.cons rfl (OpP.nil)) rfl rfl rfl rfl rfl rfl ?_); (refine se_app1 rfl rfl rfl rfl rfl rfl rfl rfl (by omega) ?_); (refine sassign rfl ?_); apply jW) | (refine rgC 9 ?_; (refine smove rfl ?_); (refine sadd rfl rfl (by exact inr_i64_of (by omega)) ?_); (refine sassign rfl ?_); apply jW)))
     refine ⟨k + 1, ⟨by omega, by omega, ?_⟩, ?_⟩
     ·rw [hsn, List.nodup_append]
      refine ⟨hnk, by simp, fun a ha b hb => ?_⟩
      rw [List.mem_singleton] at hb
      subst hb
      obtain ⟨j, hj, rfl⟩ := List.getElem_of_mem ha
      have := hne j (by omega)
      rwa [nth_eq hj] at this
     ·rw [hsn]
      exact ⟨[2], ToR.S rfl (by repeat' (first | exact rt_nil | refine rt_r rfl rfl ?_ | refine rt_e rfl rfl ?_ | refine rt_p rfl rfl (by first | (simp [AV.bd, bdL, bdL_append]; done) | fail) ?_)) (by repeat' (first | exact ro_nil | refine ro_p rfl (by first | exact rfl | fail) (by first | exact bdL_map (fun _ => by exact rfl) _ | fail) ?_)) rfl (by (rw [hm]; exact rfl)) rfl zq4 (by repeat' (first | exact True.intro | refine And.intro ?_ ?_ | exact bdL_map (fun _ => by exact rfl) _)) (by (rw [hm]; exact nle rfl))⟩
   ·have e1 : (nth l i).tokens.take k = (nth l i).tokens := List.take_of_length_le (by omega)
    rw [e1] at hnk ⊢
    rw [<- lvlTok_succ hlt] at hnk ⊢
    (repeat' (first | apply jA | apply jH | apply jJ | apply jL | apply jN | apply jP | (refine wp_cond rfl (fun hc => ?_) (fun hc => ?_) <;> (try simp only [sB, ne_eq, reduceCtorEq] at hc) <;> (try (exfalso; omega))) | (refine rgC 8 ?_; (refine smove rfl ?_); (refine smove rfl ?_); (refine smove rfl ?_); (refine sidxn rfl rfl (by omega) ?_); (refine su (afieldi rfl rfl rfl) ?_); (refine su (aloadi rfl rfl) ?_); (refine slenm rfl rfl ?_); (refine slss rfl rfl ?_); apply jW) | (refine rgC 4 ?_; (refine smove rfl ?_); (refine sadd rfl rfl (by exact inr_i64_of (by omega)) ?_); (refine sassign rfl ?_); apply jW)))
    exact ⟨i + 1, ⟨by omega, by omega, take_all_succ hlt hall hok, hnk⟩, ⟨[0], ToR.S rfl (by repeat' (first | exact rt_nil | refine rt_r rfl rfl ?_ | refine rt_e rfl rfl ?_ | refine rt_p rfl rfl (by first | (simp [AV.bd, bdL, bdL_append]; done) | fail) ?_)) (by repeat' (first | exact ro_nil | refine ro_p rfl (by first | exact rfl | fail) (by first | exact bdL_map (fun _ => by exact rfl) _ | fail) ?_)) rfl (by (rw [hm]; exact rfl)) rfl zq4 (by repeat' (first | exact True.intro | refine And.intro ?_ ?_ | exact bdL_map (fun _ => by exact rfl) _)) (by (rw [hm]; exact nle rfl))⟩⟩
  ·have hok : levOk (nth l i) = false := by simpa using hok
   have hno : levsOk l = false := by
    unfold levsOk
    rw [all_nth_no (f := levOk) hlt hok, Bool.false_and]
   have hok' := hok
   simp only [levOk, Bool.and_eq_false_iff, decide_eq_false_iff_not] at hok'
   rw [hno]
   (repeat' (first | apply jA | apply jF | apply jH | apply jI | apply jK | apply jM | apply jO | apply jS | (refine wp_cond rfl (fun hc => ?_) (fun hc => ?_) <;> (try simp only [sB, ne_eq, reduceCtorEq] at hc) <;> (try (exfalso; omega))) | (refine rgC 3 ?_; (refine smove rfl ?_); (refine smove rfl ?_); (refine slenm rfl rfl ?_); (refine slss rfl rfl ?_); apply jW) | (refine rgC 5 ?_; (refine smove rfl ?_); (refine smove rfl ?_); (refine sidxn rfl rfl (by omega) ?_); (refine su (afieldi rfl rfl rfl) ?_); (refine su (aloadi rfl rfl) ?_); (refine slss rfl rfl ?_); (refine smove rfl ?_); (refine sg (gq_vf rfl rfl) (fun he => ap_move (rq_p rfl rfl)) ?_); (refine sg (gq_vf rfl rfl) (fun he => ap_move (rq_p rfl rfl)) ?_); (refine sg (gq_vf rfl rfl) (fun he => ap_idx_n (rq_c rfl rfl) (rq_c rfl rfl) (by (try simp only [sH, id, sB, ne_eq, reduceCtorEq] at he); omega)) ?_); (refine sg (gq_vf rfl rfl) (fun he => ap_field_i (rq_c rfl rfl) rfl rfl) ?_); (refine sg (gq_vf rfl rfl) (fun he => ap_load_i (rq_c rfl rfl) rfl) ?_); (refine sg (gq_vf rfl rfl) (fun he => ap_gtr (rq_c rfl rfl) (rq_p rfl rfl)) ?_); (refine su (ap_or (rq_p rfl rfl) (rq_c rfl rfl)) ?_); (refine smove rfl ?_); (refine sg (gq_vf rfl rfl) (fun he => ap_move (rq_p rfl rfl)) ?_); (refine sg (gq_vf rfl rfl) (fun he => ap_move (rq_p rfl rfl)) ?_); (refine sg (gq_vf rfl rfl) (fun he => ap_idx_n (rq_c rfl rfl) (rq_c rfl rfl) (by (try simp only [sH, id, sB, ne_eq, reduceCtorEq] at he); omega)) ?_); (refine sg (gq_vf rfl rfl) (fun he => ap_field_i (rq_c rfl rfl) rfl rfl) ?_); (refine sg (gq_vf rfl rfl) (fun he => ap_load_i (rq_c rfl rfl) rfl) ?_); (refine sg (gq_vf rfl rfl) (fun he => ap_len_m rfl (rq_c rfl rfl)) ?_); (refine sg (gq_vf rfl rfl) (fun he => ap_eql (rq_c rfl rfl) (rq_p rfl rfl)) ?_); (refine su (ap_or (rq_p rfl rfl) (rq_c rfl rfl)) ?_); apply jW) | (refine rgC 6 ?_; (refine sassign rfl ?_); apply jW) | exact ret_eq rfl rfl rfl))
   all_goals (rfl)
 ·rw [List.take_of_length_le (by omega)] at hall hnd
  have : levsOk l = true := by
   unfold levsOk
   rw [hall, decide_eq_true hnd]; rfl
  rw [this]
  (repeat' (first | apply jA | apply jH | apply jJ | apply jK | apply jL | apply jP | apply jS | (refine wp_cond rfl (fun hc => ?_) (fun hc => ?_) <;> (try simp only [sB, ne_eq, reduceCtorEq] at hc) <;> (try (exfalso; omega))) | (refine rgC 3 ?_; (refine smove rfl ?_); (refine smove rfl ?_); (refine slenm rfl rfl ?_); (refine slss rfl rfl ?_); apply jW) | (refine rgC 16 ?_; (refine sassign rfl ?_); apply jW) | exact ret_eq rfl rfl rfl))
theorem term20_fn (g : Gram) (s : ByteArray) : Fn Tryd.prog 29 [gramA g, strA s] (intA (termI g s)) := by
 refine Fn.intro rfl (by kernel_rfl) Tryd.func29 rfl rfl Tryd.ntmps29 (by exact nle rfl) ?_; intro Γ hm
 refine wp_lens 0 rfl fun hl => ?_
 obtain ⟨hl1, hl2, hl3, hl4⟩ := (lens_gramA g).1 hl
 (repeat' (first | apply jA | apply jF | apply jH | (refine rgC 0 ?_; (refine se_box rfl (by exact ⟨rfl, rfl⟩) ?_); (refine sassign rfl ?_); apply jW) | (refine rgC 1 ?_; (refine sassign rfl ?_); apply jW)))
 refine wp_loop (fun k => k <= g.terms.length /\ (g.terms.take k).any (fun x => decide (x = s)) = false) (fun k => g.terms.length - k) (fun k => (S 21 [(1, strA s), (2, .ptr 0 4 0 0), (5, intA (k : Nat))] 1 [(0, some (.arr 4 [gramA g]))])) 0 ⟨[0], ToR.S rfl (by repeat' (first | exact rt_nil | refine rt_t rfl rfl ?_ | refine rt_e rfl rfl ?_)) (by repeat' (first | exact ro_nil | refine ro_p rfl (by first | exact rfl | fail) zq5 ?_)) rfl (by (rw [hm]; exact rfl)) rfl zq4 zq3 (by (rw [hm]; exact nle rfl))⟩ ⟨Nat.zero_le _, rfl⟩ ?_
 rintro k ⟨hk, hall⟩
 (repeat' (first | apply jA | apply jF | apply jH | apply jI | apply jJ | apply jK | apply jL | apply jM | apply jN | apply jO | apply jP | apply jS | (refine wp_cond rfl (fun hc => ?_) (fun hc => ?_) <;> (try simp only [sB, ne_eq, reduceCtorEq] at hc) <;> (try (exfalso; omega))) | (refine rgC 2 ?_; (refine smove rfl ?_); (refine sfieldp rfl rfl rfl ?_); (refine sloadp rfl rfl rfl rfl ?_); (refine slenm rfl rfl ?_); (refine slss rfl rfl ?_); apply jW) | (refine rgC 4 ?_; (refine sfieldp rfl rfl rfl ?_); (refine sloadp rfl rfl rfl rfl ?_); (refine smove rfl ?_); (refine sidxn rfl rfl (by omega) ?_); (refine sloadw rfl rfl ?_); (refine smove rfl ?_); (refine seqs rfl rfl ?_); apply jW) | (refine rgC 5 ?_; (refine smove rfl ?_); (refine sassign rfl ?_); apply jW) | (refine rgC 3 ?_; (refine smove rfl ?_); (refine sadd rfl rfl (by exact inr_i64_of (by omega)) ?_); (refine sassign rfl ?_); apply jW) | (refine rgC 6 ?_; (refine sassign rfl ?_); apply jW) | refine ret_i rfl ?_))
 ·exact (indexP_at (by omega) hall (by simp [hc])).symm
 ·exact ⟨k + 1, ⟨by omega, by omega, take_any_succ (by omega) hall (by simp [hc])⟩, ⟨[0], ToR.S rfl (by repeat' (first | exact rt_nil | refine rt_t rfl rfl ?_ | refine rt_e rfl rfl ?_)) (by repeat' (first | exact ro_nil | refine ro_p rfl (by first | exact rfl | fail) zq5 ?_)) rfl (by (rw [hm]; exact rfl)) rfl zq4 zq3 (by (rw [hm]; exact nle rfl))⟩⟩
 ·exact (indexP_no (by omega) hall).symm
theorem level20_fn (g : Gram) (l : List GLe) (hf : FewL l) (t : Int) : Fn Tryd.prog 31 [gramA g, levelsA l, intA t] (intA (levelG g l t)) := by
 have hfn := hf.n
 have hft := hf.t
 have hterm := term20_fn g
 refine Fn.intro rfl (by kernel_rfl) Tryd.func31 rfl rfl Tryd.ntmps31 (by exact nle rfl) ?_; intro Γ hm
 (repeat' (first | apply jA | apply jF | apply jH | (refine rgC 0 ?_; (refine se_box rfl (by exact ⟨rfl, rfl⟩) ?_); (refine sassign rfl ?_); apply jW) | (refine rgC 1 ?_; (refine sassign rfl ?_); apply jW)))
 refine wp_loop (fun i => i <= l.length /\ (l.take i).any (fun x : GLe => x.tokens.any fun n => decide (termI g n = t)) = false) (fun i => l.length - i)
  (fun i => (S 38 [(1, levelsA l), (2, intA t), (3, .ptr 0 4 0 0), (7, intA (i : Nat))] 1 [(0, some (.arr 4 [gramA g]))])) 0 ⟨[0], ToR.S rfl (by repeat' (first | exact rt_nil | refine rt_t rfl rfl ?_ | refine rt_e rfl rfl ?_ | refine rt_p rfl rfl (by first | (simp [AV.bd, bdL, bdL_append]; done) | fail) ?_)) (by repeat' (first | exact ro_nil | refine ro_p rfl (by first | exact rfl | fail) zq5 ?_)) rfl (by (rw [hm]; exact rfl)) rfl zq4 zq3 (by (rw [hm]; exact nle rfl))⟩ ⟨Nat.zero_le _, rfl⟩ ?_
 rintro i ⟨hi, hall⟩
 by_cases hlt : i < l.length
 ·have htk := hft _ (nth_mem hlt)
  (repeat' (first | apply jA | apply jF | apply jH | apply jI | (refine wp_cond rfl (fun hc => ?_) (fun hc => ?_) <;> (try simp only [sB, ne_eq, reduceCtorEq] at hc) <;> (try (exfalso; omega))) | (refine rgC 2 ?_; (refine smove rfl ?_); (refine smove rfl ?_); (refine slenm rfl rfl ?_); (refine slss rfl rfl ?_); apply jW) | (refine rgC 4 ?_; (refine sassign rfl ?_); apply jW)))
  refine wp_loop (fun k => k <= (nth l i).tokens.length /\ ((nth l i).tokens.take k).any (fun n => decide (termI g n = t)) = false) (fun k => (nth l i).tokens.length - k)
   (fun k => (S 38 [(1, levelsA l), (2, intA t), (3, .ptr 0 4 0 0), (7, intA (i : Nat)), (8, intA (k : Nat))] 1 [(0, some (.arr 4 [gramA g]))])) 0 ⟨[0], ToR.S rfl (by repeat' (first | exact rt_nil | refine rt_t rfl rfl ?_ | refine rt_e rfl rfl ?_ | refine rt_p rfl rfl (by first | (simp [AV.bd, bdL, bdL_append]; done) | fail) ?_)) (by repeat' (first | exact ro_nil | refine ro_p rfl (by first | exact rfl | fail) zq5 ?_)) rfl (by (rw [hm]; exact rfl)) rfl zq4 zq3 (by (rw [hm]; exact nle rfl))⟩ ⟨Nat.zero_le _, rfl⟩ ?_
  rintro k ⟨hk, hallk⟩
  by_cases hkl : k < (nth l i).tokens.length
  ·(repeat' (first | apply jA | apply jF | apply jH | apply jI | apply jK | apply jM | apply jN | apply jO | apply jS | (refine wp_cond rfl (fun hc => ?_) (fun hc => ?_) <;> (try simp only [sB, ne_eq, reduceCtorEq] at hc) <;> (try (exfalso; omega))) | (refine rgC 5 ?_; (refine smove rfl ?_); (refine smove rfl ?_); (refine smove rfl ?_); (refine sidxn rfl rfl (by omega) ?_); (refine su (afieldi rfl rfl rfl) ?_); (refine su (aloadi rfl rfl) ?_); (refine slenm rfl rfl ?_); (refine slss rfl rfl ?_); apply jW) | (refine wp_draw (id := 7) 12 mixed (by kernel_rfl) (by kernel_rfl) rfl ?_ <;> (refine rd_u rfl rfl (aloadpw rfl rfl rfl rfl) ?_) <;> (refine rmove rfl ?_) <;> (refine rmove rfl ?_) <;> (refine rd_u rfl rfl (aidxn rfl rfl (by omega)) ?_) <;> (refine rd_u rfl rfl (afieldi rfl rfl rfl) ?_) <;> (refine rd_u rfl rfl (aloadi rfl rfl) ?_) <;> (refine rmove rfl ?_) <;> (refine rd_u rfl rfl (aidxn rfl rfl (by omega)) ?_) <;> (refine rd_u rfl rfl (aloadw rfl rfl) ?_) <;> (refine rd_call rfl rfl zq1 zq5 (hterm _) ?_) <;> (refine rmove rfl ?_) <;> (refine rd_u rfl rfl (aeql rfl rfl) ?_) <;> (refine rd_end (by kernel_rfl) ?_)) | (refine rgC 8 ?_; (refine smove rfl ?_); (refine sassign rfl ?_); apply jW) | (refine rgC 6 ?_; (refine smove rfl ?_); (refine sadd rfl rfl (by exact inr_i64_of (by omega)) ?_); (refine sassign rfl ?_); apply jW) | refine ret_i rfl ?_))
   ·have hany : ((nth l i).tokens.any fun n => decide (termI g n = t)) = true := by
     rw [List.any_eq_true]
     exact ⟨_, nth_mem hkl, by simp [hc]⟩
    have : levelG g l t = (i : Int) := indexP_at hlt hall hany
    rw [this]
   ·exact ⟨k + 1, ⟨by omega, by omega, take_any_succ hkl hallk (by simp [hc])⟩, ⟨[0], ToR.S rfl (by repeat' (first | exact rt_nil | refine rt_t rfl rfl ?_ | refine rt_e rfl rfl ?_ | refine rt_p rfl rfl (by first | (simp [AV.bd, bdL, bdL_append]; done) | fail) ?_)) (by repeat' (first | exact ro_nil | refine ro_p rfl (by first | exact rfl | fail) zq5 ?_)) rfl (by (rw [hm]; exact rfl)) rfl zq4 zq3 (by (rw [hm]; exact nle rfl))⟩⟩
  ·(repeat' (first | apply jA | apply jH | apply jJ | apply jL | apply jN | apply jP | (refine wp_cond rfl (fun hc => ?_) (fun hc => ?_) <;> (try simp only [sB, ne_eq, reduceCtorEq] at hc) <;> (try (exfalso; omega))) | (refine rgC 5 ?_; (refine smove rfl ?_); (refine smove rfl ?_); (refine smove rfl ?_); (refine sidxn rfl rfl (by omega) ?_); (refine su (afieldi rfl rfl rfl) ?_); (refine su (aloadi rfl rfl) ?_); (refine slenm rfl rfl ?_); (refine slss rfl rfl ?_); apply jW) | (refine rgC 3 ?_; (refine smove rfl ?_); (refine sadd rfl rfl (by exact inr_i64_of (by omega)) ?_); (refine sassign rfl ?_); apply jW)))
   have hany : ((nth l i).tokens.any fun n => decide (termI g n = t)) = false := by
    rw [<- hallk, List.take_of_length_le (by omega)]
   exact ⟨i + 1, ⟨by omega, by omega, take_any_succ hlt hall hany⟩, ⟨[0], ToR.S rfl (by repeat' (first | exact rt_nil | refine rt_t rfl rfl ?_ | refine rt_e rfl rfl ?_ | refine rt_p rfl rfl (by first | (simp [AV.bd, bdL, bdL_append]; done) | fail) ?_)) (by repeat' (first | exact ro_nil | refine ro_p rfl (by first | exact rfl | fail) zq5 ?_)) rfl (by (rw [hm]; exact rfl)) rfl zq4 zq3 (by (rw [hm]; exact nle rfl))⟩⟩
 ·have : levelG g l t = -1 := indexP_no (by omega) hall
  rw [this]
  (repeat' (first | apply jA | apply jH | apply jJ | apply jK | apply jL | apply jP | apply jS | (refine wp_cond rfl (fun hc => ?_) (fun hc => ?_) <;> (try simp only [sB, ne_eq, reduceCtorEq] at hc) <;> (try (exfalso; omega))) | (refine rgC 2 ?_; (refine smove rfl ?_); (refine smove rfl ?_); (refine slenm rfl rfl ?_); (refine slss rfl rfl ?_); apply jW) | (refine rgC 9 ?_; (refine sassign rfl ?_); apply jW) | exact ret_eq rfl rfl rfl))
theorem binary20_fn {g : Gram} (hv : GVal g) (l : List GLe) (hf : FewL l) (r : Nat) (hr : r < g.rules.length) : Fn Tryd.prog 30 [gramA g, levelsA l, intA (r : Nat)] (intA (binL g l (nth g.rules r))) := by
 have hrf := hv.rule _ (nth_mem hr)
 have h0 := hrf.h0
 have h1 := hrf.hn
 have hn2 := hv.n2
 have hr2 := hv.r2
 have hln := hrf.len
 have hlv := level20_fn g l hf (nth (nth g.rules r).body (nat_lit 1))
 unfold binL
 by_cases hs : selfB (nth g.rules r) = true
 ·rw [if_pos hs]
  obtain ⟨s1, s2, s3, s4⟩ := selfB_iff.1 hs
  refine Fn.intro rfl (by kernel_rfl) Tryd.func30 rfl rfl Tryd.ntmps30 (by exact nle rfl) ?_; intro Γ hm
  (repeat' (first | apply jA | apply jH | apply jI | apply jK | apply jS | (refine wp_cond rfl (fun hc => ?_) (fun hc => ?_) <;> (try simp only [sB, ne_eq, reduceCtorEq] at hc) <;> (try (exfalso; omega))) | (refine rgC 0 ?_; (refine se_box rfl (by exact ⟨rfl, rfl⟩) ?_); (refine sassign rfl ?_); apply jW) | (refine rgC 1 ?_; (refine sfieldp rfl rfl rfl ?_); (refine sloadp rfl rfl rfl rfl ?_); (refine smove rfl ?_); (refine sidxn rfl rfl (by omega) ?_); (refine sloadw rfl rfl ?_); (refine se_alloc rfl ?_); (refine se_store_b rfl rfl rfl rfl ?_); apply jW) | (refine wp_draw (id := 2) 31 mixed (by kernel_rfl) (by kernel_rfl) rfl ?_ <;> (refine rfieldp rfl rfl rfl ?_) <;> (refine rloadp rfl rfl rfl rfl ?_) <;> (refine rd_u rfl rfl (alenm rfl rfl) ?_) <;> (refine rd_u rfl rfl (aneq rfl rfl) ?_) <;> (refine rmove rfl ?_) <;> ((refine rd_split (t := 17) rfl (fun hc => ?_) (fun hc => ?_) <;> (try simp only [sB, ne_eq, reduceCtorEq] at hc) <;> (try (exfalso; omega)) <;> (refine gfieldp rfl rfl rfl rfl rfl ?_))) <;> (refine gloadp rfl rfl rfl rfl rfl rfl ?_) <;> (refine rdg_u rfl rfl rfl rfl (aidxn rfl rfl (by (simp only [sL] <;> omega))) ?_) <;> (refine rdg_u rfl rfl rfl rfl (aloadw rfl rfl) ?_) <;> (refine gfieldp rfl rfl rfl rfl rfl ?_) <;> (refine gloadp rfl rfl rfl rfl rfl rfl ?_) <;> (refine rdg_u rfl rfl rfl rfl (asub rfl rfl (by exact inr_i64_of (by omega))) ?_) <;> (refine rdg_u rfl rfl rfl rfl (aneq rfl rfl) ?_) <;> (refine rd_pick_f rfl rfl ?_) <;> (refine rmove rfl ?_) <;> ((refine rd_split (t := 27) rfl (fun hc => ?_) (fun hc => ?_) <;> (try simp only [sB, ne_eq, reduceCtorEq] at hc) <;> (try (exfalso; omega)) <;> (refine gfieldp rfl rfl rfl rfl rfl ?_))) <;> (refine gloadp rfl rfl rfl rfl rfl rfl ?_) <;> (refine rdg_u rfl rfl rfl rfl (aidxn rfl rfl (by (simp only [sL] <;> omega))) ?_) <;> (refine rdg_u rfl rfl rfl rfl (aloadw rfl rfl) ?_) <;> (refine gfieldp rfl rfl rfl rfl rfl ?_) <;> (refine gloadp rfl rfl rfl rfl rfl rfl ?_) <;> (refine rdg_u rfl rfl rfl rfl (asub rfl rfl (by exact inr_i64_of (by omega))) ?_) <;> (refine rdg_u rfl rfl rfl rfl (aneq rfl rfl) ?_) <;> (refine rd_pick_f rfl rfl ?_) <;> (refine rmove rfl ?_) <;> ((refine rd_split (t := 37) rfl (fun hc => ?_) (fun hc => ?_) <;> (try simp only [sB, ne_eq, reduceCtorEq] at hc) <;> (try (exfalso; omega)) <;> (refine gfieldp rfl rfl rfl rfl rfl ?_))) <;> (refine gloadp rfl rfl rfl rfl rfl rfl ?_) <;> (refine rdg_u rfl rfl rfl rfl (aidxn rfl rfl (by (simp only [sL] <;> omega))) ?_) <;> (refine rdg_u rfl rfl rfl rfl (aloadw rfl rfl) ?_) <;> (refine rdg_u rfl rfl rfl rfl (alss rfl rfl) ?_) <;> (refine rd_pick_f rfl rfl ?_) <;> (refine rd_end (by kernel_rfl) ?_)) | (refine wp_draw (id := 4) 8 mixed (by kernel_rfl) (by kernel_rfl) rfl ?_ <;> (refine rd_u rfl rfl (aloadpw rfl rfl rfl rfl) ?_) <;> (refine rmove rfl ?_) <;> (refine rfieldp rfl rfl rfl ?_) <;> (refine rloadp rfl rfl rfl rfl ?_) <;> (refine rd_u rfl rfl (aidxn rfl rfl (by (simp only [sL] <;> omega))) ?_) <;> (refine rd_u rfl rfl (aloadw rfl rfl) ?_) <;> (refine rd_call rfl rfl zq1 zq5 (hlv) ?_) <;> (refine rd_u rfl rfl (aassign rfl) ?_) <;> (refine rd_end (by kernel_rfl) ?_)) | exact ret_eq rfl rfl rfl))
  all_goals (rfl)
 ·rw [if_neg hs]
  have hno : ¬ ((nth g.rules r).body.length = 3 /\ nth (nth g.rules r).body (nat_lit 0) = -1 - (nth g.rules r).head /\ nth (nth g.rules r).body (nat_lit 2) = -1 - (nth g.rules r).head /\ 0 <= nth (nth g.rules r).body (nat_lit 1)) := fun h => hs (selfB_iff.2 h)
  refine Fn.intro rfl (by kernel_rfl) Tryd.func30 rfl rfl Tryd.ntmps30 (by exact nle rfl) ?_; intro Γ hm
  (repeat' (first | apply jA | apply jH | apply jI | apply jK | apply jM | apply jS | (refine wp_cond rfl (fun hc => ?_) (fun hc => ?_) <;> (try simp only [sB, ne_eq, reduceCtorEq] at hc) <;> (try (exfalso; omega))) | (refine rgC 0 ?_; (refine se_box rfl (by exact ⟨rfl, rfl⟩) ?_); (refine sassign rfl ?_); apply jW) | (refine rgC 1 ?_; (refine sfieldp rfl rfl rfl ?_); (refine sloadp rfl rfl rfl rfl ?_); (refine smove rfl ?_); (refine sidxn rfl rfl (by omega) ?_); (refine sloadw rfl rfl ?_); (refine se_alloc rfl ?_); (refine se_store_b rfl rfl rfl rfl ?_); apply jW) | (refine wp_draw (id := 2) 31 mixed (by kernel_rfl) (by kernel_rfl) rfl ?_ <;> (refine rfieldp rfl rfl rfl ?_) <;> (refine rloadp rfl rfl rfl rfl ?_) <;> (refine rd_u rfl rfl (alenm rfl rfl) ?_) <;> (refine rd_u rfl rfl (aneq rfl rfl) ?_) <;> (refine rmove rfl ?_) <;> ((refine rd_split (t := 17) rfl (fun hc => ?_) (fun hc => ?_) <;> (try simp only [sB, ne_eq, reduceCtorEq] at hc) <;> (try (exfalso; omega)) <;> (first | refine rd_skip rfl rfl ?_ | refine gfieldp rfl rfl rfl rfl rfl ?_))) <;> (first | refine rd_skip rfl rfl ?_ | refine gloadp rfl rfl rfl rfl rfl rfl ?_) <;> (first | refine rd_skip rfl rfl ?_ | refine rdg_u rfl rfl rfl rfl (aidxn rfl rfl (by (simp only [sL] <;> omega))) ?_) <;> (first | refine rd_skip rfl rfl ?_ | refine rdg_u rfl rfl rfl rfl (aloadw rfl rfl) ?_) <;> (first | refine rd_skip rfl rfl ?_ | refine gfieldp rfl rfl rfl rfl rfl ?_) <;> (first | refine rd_skip rfl rfl ?_ | refine gloadp rfl rfl rfl rfl rfl rfl ?_) <;> (first | refine rd_skip rfl rfl ?_ | refine rdg_u rfl rfl rfl rfl (asub rfl rfl (by exact inr_i64_of (by omega))) ?_) <;> (first | refine rd_skip rfl rfl ?_ | refine rdg_u rfl rfl rfl rfl (aneq rfl rfl) ?_) <;> (first | refine rd_pick_t rfl rfl ?_ | refine rd_pick_f rfl rfl ?_) <;> (refine rmove rfl ?_) <;> (first | refine rd_skip rfl rfl ?_ | (refine rd_split (t := 27) rfl (fun hc => ?_) (fun hc => ?_) <;> (try simp only [sB, ne_eq, reduceCtorEq] at hc) <;> (try (exfalso; omega)) <;> (first | refine rd_skip rfl rfl ?_ | refine gfieldp rfl rfl rfl rfl rfl ?_))) <;> (first | refine rd_skip rfl rfl ?_ | refine gloadp rfl rfl rfl rfl rfl rfl ?_) <;> (first | refine rd_skip rfl rfl ?_ | refine rdg_u rfl rfl rfl rfl (aidxn rfl rfl (by (simp only [sL] <;> omega))) ?_) <;> (first | refine rd_skip rfl rfl ?_ | refine rdg_u rfl rfl rfl rfl (aloadw rfl rfl) ?_) <;> (first | refine rd_skip rfl rfl ?_ | refine gfieldp rfl rfl rfl rfl rfl ?_) <;> (first | refine rd_skip rfl rfl ?_ | refine gloadp rfl rfl rfl rfl rfl rfl ?_) <;> (first | refine rd_skip rfl rfl ?_ | refine rdg_u rfl rfl rfl rfl (asub rfl rfl (by exact inr_i64_of (by omega))) ?_) <;> (first | refine rd_skip rfl rfl ?_ | refine rdg_u rfl rfl rfl rfl (aneq rfl rfl) ?_) <;> (first | refine rd_pick_t rfl rfl ?_ | refine rd_pick_f rfl rfl ?_) <;> (refine rmove rfl ?_) <;> (first | refine rd_skip rfl rfl ?_ | (refine rd_split (t := 37) rfl (fun hc => ?_) (fun hc => ?_) <;> (try simp only [sB, ne_eq, reduceCtorEq] at hc) <;> (try (exfalso; omega)) <;> (first | refine rd_skip rfl rfl ?_ | refine gfieldp rfl rfl rfl rfl rfl ?_))) <;> (first | refine rd_skip rfl rfl ?_ | refine gloadp rfl rfl rfl rfl rfl rfl ?_) <;> (first | refine rd_skip rfl rfl ?_ | refine rdg_u rfl rfl rfl rfl (aidxn rfl rfl (by (simp only [sL] <;> omega))) ?_) <;> (first | refine rd_skip rfl rfl ?_ | refine rdg_u rfl rfl rfl rfl (aloadw rfl rfl) ?_) <;> (first | refine rd_skip rfl rfl ?_ | refine rdg_u rfl rfl rfl rfl (alss rfl rfl) ?_) <;> (first | refine rd_pick_t rfl rfl ?_ | refine rd_pick_f rfl rfl ?_) <;> (refine rd_end (by kernel_rfl) ?_)) | (refine rgC 3 ?_; (refine sassign rfl ?_); apply jW) | exact ret_eq rfl rfl rfl))
  all_goals ((exfalso; grind))
end Go.Lg
namespace Go.Lg
open Go.Proofs
attribute [local irreducible] Ap Rq asemC WP RunD Ret Gq thenA inBlockA bodyQ noGotoA RqL RqP OpP
attribute [local simp] AV.cells
end Go.Lg
namespace Go.Lg
open Go.Proofs
attribute [local irreducible] Ap Rq asemC WP RunD Ret Gq thenA inBlockA bodyQ noGotoA RqL RqP OpP
attribute [local simp] AV.cells
theorem noTok_nth {g : Gram} {l : List GLe} {i k : Nat} (hi : i < l.length) (hk : k < (nth l i).tokens.length) (h : ¬ 0 <= termI g (nth (nth l i).tokens k)) : noTok g l = false := by
 rw [Bool.eq_false_iff]
 intro hn
 unfold noTok lvlTok at hn
 rw [List.all_eq_true] at hn
 have := hn _ (List.mem_flatten.2 ⟨_, List.mem_map.2 ⟨_, nth_mem hi, rfl⟩, nth_mem hk⟩)
 exact h (by simpa using this)
theorem noTok_all {g : Gram} {l : List GLe} (h : ∀ i, i < l.length -> ∀ k, k < (nth l i).tokens.length -> 0 <= termI g (nth (nth l i).tokens k)) : noTok g l = true := by
 unfold noTok lvlTok
 rw [List.all_eq_true]
 intro s hs
 obtain ⟨q, hq, hs⟩ := List.mem_flatten.1 hs
 obtain ⟨x, hx, rfl⟩ := List.mem_map.1 hq
 obtain ⟨i, hi, rfl⟩ := List.getElem_of_mem hx
 obtain ⟨k, hk, rfl⟩ := List.getElem_of_mem hs
 have h2 := h i hi
 rw [nth_eq hi] at h2
 have := h2 k hk
 rw [nth_eq hk] at this
 simpa using this
theorem confl_any {g : Gram} {l : List GLe} {i : Nat} (hi : i < g.rules.length) (h : conflG g l i = true) : (List.range g.rules.length).any (conflG g l) = true := by
 rw [List.any_eq_true]; exact ⟨i, List.mem_range.2 hi, h⟩
theorem sameOp_iff {g : Gram} {l : List GLe} {r s : Rul} : sameOp g l r s = true ↔ 0 <= binL g l s /\ s.head = r.head /\ nth s.body 1 = nth r.body 1 := by
 unfold sameOp
 simp only [Bool.and_eq_true, decide_eq_true_eq, and_assoc]
theorem bin_len3 {g : Gram} {l : List GLe} {r : Rul} (h : 0 <= binL g l r) : r.body.length = 3 := (selfB_iff.1 (bin_self h).1).1
theorem check20_fn (g : Gram) (l : List GLe) (hf : FewL l) : Fn Tryd.prog 13 [gramA g, levelsA l] (intA (checkG g l)) := by
 have hfn := hf.n
 have hft := hf.t
 have hg := rvalid18_fn g
 have hlv := levs20_fn l hf
 unfold checkG
 cases hval : validG g with
 | false =>
  rw [hval] at hg
  rw [Bool.false_and, if_neg (by simp)]
  refine Fn.intro rfl (by kernel_rfl) Tryd.func13 rfl rfl Tryd.ntmps13 (by exact nle rfl) ?_; intro Γ hm
  (repeat' (first | apply jA | apply jH | apply jK | apply jM | apply jS | (refine wp_cond rfl (fun hc => ?_) (fun hc => ?_) <;> (try simp only [sB, ne_eq, reduceCtorEq] at hc) <;> (try (exfalso; omega))) | (refine rgC 0 ?_; (refine se_box rfl (by exact ⟨rfl, rfl⟩) ?_); (refine sassign rfl ?_); apply jW) | (refine rgC 1 ?_; (refine sloadpw rfl rfl rfl rfl ?_); (refine sc_p rfl rfl zq1 zq5 (hg) ?_); (refine su (anot rfl) ?_); (refine smove rfl ?_); (refine sg (gq_vf rfl rfl) (fun he => ap_move (rq_p rfl rfl)) ?_); (refine sk_no rfl rfl ?_); (refine sk_no rfl rfl ?_); (refine pk_t rfl rfl ?_); apply jW) | (refine rgC 2 ?_; (refine sassign rfl ?_); apply jW) | exact ret_eq rfl rfl rfl))
  all_goals (rfl)
 | true =>
  rw [hval] at hg
  have hv := validG_iff.1 hval
  have hr2 := hv.r2
  cases hlo : levsOk l with
  | false =>
   rw [hlo] at hlv
   rw [Bool.and_false, if_neg (by simp)]
   refine Fn.intro rfl (by kernel_rfl) Tryd.func13 rfl rfl Tryd.ntmps13 (by exact nle rfl) ?_; intro Γ hm
   (repeat' (first | apply jA | apply jH | apply jI | apply jK | apply jM | apply jS | (refine wp_cond rfl (fun hc => ?_) (fun hc => ?_) <;> (try simp only [sB, ne_eq, reduceCtorEq] at hc) <;> (try (exfalso; omega))) | (refine rgC 0 ?_; (refine se_box rfl (by exact ⟨rfl, rfl⟩) ?_); (refine sassign rfl ?_); apply jW) | (refine rgC 1 ?_; (refine sloadpw rfl rfl rfl rfl ?_); (refine sc_p rfl rfl zq1 zq5 (hg) ?_); (refine su (anot rfl) ?_); (refine smove rfl ?_); (refine sg (gq_vf rfl rfl) (fun he => ap_move (rq_p rfl rfl)) ?_); (refine sg_p (gq_vf rfl rfl) (fun he => ⟨(rq_p rfl rfl), (RqL.cons (rq_c rfl rfl) (RqL.nil)), zq1, zq5, hlv⟩) ?_); (refine sg (gq_vf rfl rfl) (fun he => ap_not (rq_c rfl rfl)) ?_); (refine su (ap_or (rq_p rfl rfl) (rq_c rfl rfl)) ?_); apply jW) | (refine rgC 2 ?_; (refine sassign rfl ?_); apply jW) | exact ret_eq rfl rfl rfl))
   all_goals ((exfalso; simp at hc; done))
  | true =>
   rw [hlo] at hlv
   rw [Bool.and_self, if_pos rfl]
   have hterm := term20_fn g
   refine Fn.intro rfl (by kernel_rfl) Tryd.func13 rfl rfl Tryd.ntmps13 (by exact nle rfl) ?_; intro Γ hm
   (repeat' (first | apply jA | apply jF | apply jH | apply jI | (refine wp_cond rfl (fun hc => ?_) (fun hc => ?_) <;> (try simp only [sB, ne_eq, reduceCtorEq] at hc) <;> (try (exfalso; omega))) | (refine rgC 0 ?_; (refine se_box rfl (by exact ⟨rfl, rfl⟩) ?_); (refine sassign rfl ?_); apply jW) | (refine rgC 1 ?_; (refine sloadpw rfl rfl rfl rfl ?_); (refine sc_p rfl rfl zq1 zq5 (hg) ?_); (refine su (anot rfl) ?_); (refine smove rfl ?_); (refine sg (gq_vf rfl rfl) (fun he => ap_move (rq_p rfl rfl)) ?_); (refine sg_p (gq_vf rfl rfl) (fun he => ⟨(rq_p rfl rfl), (RqL.cons (rq_c rfl rfl) (RqL.nil)), zq1, zq5, hlv⟩) ?_); (refine sg (gq_vf rfl rfl) (fun he => ap_not (rq_c rfl rfl)) ?_); (refine su (ap_or (rq_p rfl rfl) (rq_c rfl rfl)) ?_); apply jW) | (refine rgC 3 ?_; (refine sassign rfl ?_); apply jW)))
   all_goals try (exfalso; simp at hc; done)
   refine wp_loop (fun (i : Nat) => i <= l.length /\ ∀ j, j < i -> ∀ k, k < (nth l j).tokens.length -> 0 <= termI g (nth (nth l j).tokens k)) (fun i => l.length - i)
    (fun i => (S 131 [(1, levelsA l), (2, .ptr 0 4 0 0), (5, intA (i : Nat))] 1 [(0, some (.arr 4 [gramA g]))])) 0 ⟨[0], ToR.S rfl (by repeat' (first | exact rt_nil | refine rt_t rfl rfl ?_ | refine rt_e rfl rfl ?_ | refine rt_p rfl rfl (by first | (simp [AV.bd, bdL, bdL_append]; done) | fail) ?_)) (by repeat' (first | exact ro_nil | refine ro_p rfl (by first | exact rfl | fail) zq5 ?_)) rfl (by (rw [hm]; exact rfl)) rfl zq4 zq3 (by (rw [hm]; exact nle rfl))⟩ ⟨Nat.zero_le _, by omega⟩ ?_
   rintro i ⟨hi, hall⟩
   by_cases hlt : i < l.length
   ·have htk := hft _ (nth_mem hlt)
    (repeat' (first | apply jA | apply jF | apply jH | apply jI | (refine wp_cond rfl (fun hc => ?_) (fun hc => ?_) <;> (try simp only [sB, ne_eq, reduceCtorEq] at hc) <;> (try (exfalso; omega))) | (refine rgC 4 ?_; (refine smove rfl ?_); (refine smove rfl ?_); (refine slenm rfl rfl ?_); (refine slss rfl rfl ?_); apply jW) | (refine rgC 6 ?_; (refine sassign rfl ?_); apply jW)))
    refine wp_loop (fun (k : Nat) => k <= (nth l i).tokens.length /\ ∀ m, m < k -> 0 <= termI g (nth (nth l i).tokens m)) (fun k => (nth l i).tokens.length - k)
     (fun k => (S 131 [(1, levelsA l), (2, .ptr 0 4 0 0), (5, intA (i : Nat)), (6, intA (k : Nat))] 1 [(0, some (.arr 4 [gramA g]))])) 0 ⟨[0], ToR.S rfl (by repeat' (first | exact rt_nil | refine rt_t rfl rfl ?_ | refine rt_e rfl rfl ?_ | refine rt_p rfl rfl (by first | (simp [AV.bd, bdL, bdL_append]; done) | fail) ?_)) (by repeat' (first | exact ro_nil | refine ro_p rfl (by first | exact rfl | fail) zq5 ?_)) rfl (by (rw [hm]; exact rfl)) rfl zq4 zq3 (by (rw [hm]; exact nle rfl))⟩ ⟨Nat.zero_le _, by omega⟩ ?_
    rintro k ⟨hk, hallk⟩
    by_cases hkl : k < (nth l i).tokens.length
    ·(repeat' (first | apply jA | apply jF | apply jH | apply jI | apply jK | apply jM | apply jN | apply jO | apply jS | (refine wp_cond rfl (fun hc => ?_) (fun hc => ?_) <;> (try simp only [sB, ne_eq, reduceCtorEq] at hc) <;> (try (exfalso; omega))) | (refine rgC 7 ?_; (refine smove rfl ?_); (refine smove rfl ?_); (refine smove rfl ?_); (refine sidxn rfl rfl (by omega) ?_); (refine su (afieldi rfl rfl rfl) ?_); (refine su (aloadi rfl rfl) ?_); (refine slenm rfl rfl ?_); (refine slss rfl rfl ?_); apply jW) | (refine wp_draw (id := 9) 11 mixed (by kernel_rfl) (by kernel_rfl) rfl ?_ <;> (refine rd_u rfl rfl (aloadpw rfl rfl rfl rfl) ?_) <;> (refine rmove rfl ?_) <;> (refine rmove rfl ?_) <;> (refine rd_u rfl rfl (aidxn rfl rfl (by omega)) ?_) <;> (refine rd_u rfl rfl (afieldi rfl rfl rfl) ?_) <;> (refine rd_u rfl rfl (aloadi rfl rfl) ?_) <;> (refine rmove rfl ?_) <;> (refine rd_u rfl rfl (aidxn rfl rfl (by omega)) ?_) <;> (refine rd_u rfl rfl (aloadw rfl rfl) ?_) <;> (refine rd_call rfl rfl zq1 zq5 (hterm _) ?_) <;> (refine rd_u rfl rfl (alss rfl rfl) ?_) <;> (refine rd_end (by kernel_rfl) ?_)) | (refine rgC 10 ?_; (refine sassign rfl ?_); apply jW) | (refine rgC 8 ?_; (refine smove rfl ?_); (refine sadd rfl rfl (by exact inr_i64_of (by omega)) ?_); (refine sassign rfl ?_); apply jW) | refine ret_i rfl ?_))
     ·rw [noTok_nth hlt hkl (by omega), if_neg (by simp)]
     ·exact ⟨k + 1, ⟨by omega, by omega, fun m hm => by
       by_cases e : m = k
       ·subst e; omega
       ·exact hallk m (by omega)⟩, ⟨[0], ToR.S rfl (by repeat' (first | exact rt_nil | refine rt_t rfl rfl ?_ | refine rt_e rfl rfl ?_ | refine rt_p rfl rfl (by first | (simp [AV.bd, bdL, bdL_append]; done) | fail) ?_)) (by repeat' (first | exact ro_nil | refine ro_p rfl (by first | exact rfl | fail) zq5 ?_)) rfl (by (rw [hm]; exact rfl)) rfl zq4 zq3 (by (rw [hm]; exact nle rfl))⟩⟩
    ·(repeat' (first | apply jA | apply jH | apply jJ | apply jL | apply jN | apply jP | (refine wp_cond rfl (fun hc => ?_) (fun hc => ?_) <;> (try simp only [sB, ne_eq, reduceCtorEq] at hc) <;> (try (exfalso; omega))) | (refine rgC 7 ?_; (refine smove rfl ?_); (refine smove rfl ?_); (refine smove rfl ?_); (refine sidxn rfl rfl (by omega) ?_); (refine su (afieldi rfl rfl rfl) ?_); (refine su (aloadi rfl rfl) ?_); (refine slenm rfl rfl ?_); (refine slss rfl rfl ?_); apply jW) | (refine rgC 5 ?_; (refine smove rfl ?_); (refine sadd rfl rfl (by exact inr_i64_of (by omega)) ?_); (refine sassign rfl ?_); apply jW)))
     exact ⟨i + 1, ⟨by omega, by omega, fun j hj => by
      by_cases e : j = i
      ·subst e; exact fun m hm => hallk m (by omega)
      ·exact hall j (by omega)⟩, ⟨[0], ToR.S rfl (by repeat' (first | exact rt_nil | refine rt_t rfl rfl ?_ | refine rt_e rfl rfl ?_ | refine rt_p rfl rfl (by first | (simp [AV.bd, bdL, bdL_append]; done) | fail) ?_)) (by repeat' (first | exact ro_nil | refine ro_p rfl (by first | exact rfl | fail) zq5 ?_)) rfl (by (rw [hm]; exact rfl)) rfl zq4 zq3 (by (rw [hm]; exact nle rfl))⟩⟩
   ·rw [noTok_all fun j hj => hall j (by omega), if_pos rfl]
    have hbin := fun r hr => binary20_fn hv l hf r hr
    (repeat' (first | apply jA | apply jF | apply jH | apply jJ | apply jL | apply jP | (refine wp_cond rfl (fun hc => ?_) (fun hc => ?_) <;> (try simp only [sB, ne_eq, reduceCtorEq] at hc) <;> (try (exfalso; omega))) | (refine rgC 4 ?_; (refine smove rfl ?_); (refine smove rfl ?_); (refine slenm rfl rfl ?_); (refine slss rfl rfl ?_); apply jW) | (refine rgC 11 ?_; (refine sassign rfl ?_); apply jW)))
    refine wp_loop (fun (r : Nat) => r <= g.rules.length /\ ∀ j, j < r -> conflG g l j = false) (fun r => g.rules.length - r)
     (fun r => (S 131 [(1, levelsA l), (2, .ptr 0 4 0 0), (7, intA (r : Nat))] 1 [(0, some (.arr 4 [gramA g]))])) 0 ⟨[0], ToR.S rfl (by repeat' (first | exact rt_nil | refine rt_t rfl rfl ?_ | refine rt_e rfl rfl ?_ | refine rt_p rfl rfl (by first | (simp [AV.bd, bdL, bdL_append]; done) | fail) ?_)) (by repeat' (first | exact ro_nil | refine ro_p rfl (by first | exact rfl | fail) zq5 ?_)) rfl (by (rw [hm]; exact rfl)) rfl zq4 zq3 (by (rw [hm]; exact nle rfl))⟩ ⟨Nat.zero_le _, by omega⟩ ?_
    rintro r ⟨hr, hcf⟩
    by_cases hrl : r < g.rules.length
    ·have hx := hbin r hrl
     have hrf := hv.rule _ (nth_mem hrl)
     have hln := hrf.len
     by_cases hb : 0 <= binL g l (nth g.rules r)
     ·have h3 := bin_len3 hb
      have hcd : conflG g l r = (g.rules.take r).any (sameOp g l (nth g.rules r)) := by unfold conflG; rw [if_pos hb]
      (repeat' (first | apply jA | apply jF | apply jH | apply jI | (refine wp_cond rfl (fun hc => ?_) (fun hc => ?_) <;> (try simp only [sB, ne_eq, reduceCtorEq] at hc) <;> (try (exfalso; omega))) | (refine rgC 12 ?_; (refine smove rfl ?_); (refine sfieldp rfl rfl rfl ?_); (refine sloadp rfl rfl rfl rfl ?_); (refine slenm rfl rfl ?_); (refine slss rfl rfl ?_); apply jW) | (refine rgC 14 ?_; (refine sloadpw rfl rfl rfl rfl ?_); (refine smove rfl ?_); (refine smove rfl ?_); (refine sc_p rfl rfl zq1 zq5 (hx) ?_); (refine su (ageq rfl rfl) ?_); apply jW) | (refine rgC 15 ?_; (refine sassign rfl ?_); apply jW)))
      all_goals try (exfalso; omega)
      refine wp_loop (fun (s : Nat) => s <= r /\ ∀ j, j < s -> sameOp g l (nth g.rules r) (nth g.rules j) = false) (fun s => r - s)
       (fun s => (S 131 [(1, levelsA l), (2, .ptr 0 4 0 0), (7, intA (r : Nat)), (8, intA (s : Nat))] 1 [(0, some (.arr 4 [gramA g]))])) 0 ⟨[0], ToR.S rfl (by repeat' (first | exact rt_nil | refine rt_t rfl rfl ?_ | refine rt_e rfl rfl ?_ | refine rt_p rfl rfl (by first | (simp [AV.bd, bdL, bdL_append]; done) | fail) ?_)) (by repeat' (first | exact ro_nil | refine ro_p rfl (by first | exact rfl | fail) zq5 ?_)) rfl (by (rw [hm]; exact rfl)) rfl zq4 zq3 (by (rw [hm]; exact nle rfl))⟩ ⟨Nat.zero_le _, by omega⟩ ?_
      rintro s ⟨hs, hall2⟩
      by_cases hsr : s < r
      ·have hxs := hbin s (by omega)
       have hso := sameOp_iff (g := g) (l := l) (r := nth g.rules r) (s := nth g.rules s)
       have hsm : nth g.rules s ∈ g.rules.take r := by
        rw [show nth g.rules s = nth (g.rules.take r) s by rw [nth_eq (by omega), nth_eq (by rw [List.length_take]; omega), List.getElem_take]]
        exact nth_mem (by rw [List.length_take]; omega)
       by_cases hbs : 0 <= binL g l (nth g.rules s)
       ·have h3s := bin_len3 hbs
        have hso2 : sameOp g l (nth g.rules r) (nth g.rules s) = true ↔ (nth g.rules s).head = (nth g.rules r).head /\ nth (nth g.rules s).body (nat_lit 1) = nth (nth g.rules r).body (nat_lit 1) := ⟨fun h => (hso.1 h).2, fun h => hso.2 ⟨hbs, h⟩⟩
        by_cases hsame : sameOp g l (nth g.rules r) (nth g.rules s) = true
        ·have hs2 := hso2.1 hsame
         rw [confl_any hrl (by rw [hcd, List.any_eq_true]; exact ⟨_, hsm, hsame⟩), if_pos rfl]
         (repeat' (first | apply jA | apply jF | apply jH | apply jI | apply jK | apply jM | apply jN | apply jO | apply jS | (refine wp_cond rfl (fun hc => ?_) (fun hc => ?_) <;> (try simp only [sB, ne_eq, reduceCtorEq] at hc) <;> (try (exfalso; omega))) | (refine rgC 16 ?_; (refine smove rfl ?_); (refine smove rfl ?_); (refine slss rfl rfl ?_); apply jW) | (refine wp_draw (id := 18) 39 mixed (by kernel_rfl) (by kernel_rfl) rfl ?_ <;> (refine rd_u rfl rfl (aloadpw rfl rfl rfl rfl) ?_) <;> (refine rmove rfl ?_) <;> (refine rmove rfl ?_) <;> (refine rd_call rfl rfl zq1 zq5 (hxs) ?_) <;> (refine rd_u rfl rfl (ageq rfl rfl) ?_) <;> (refine rmove rfl ?_) <;> ((refine rd_split (t := 68) rfl (fun hc => ?_) (fun hc => ?_) <;> (try simp only [sB, ne_eq, reduceCtorEq] at hc) <;> (try (exfalso; omega)) <;> (refine gfieldp rfl rfl rfl rfl rfl ?_))) <;> (refine gloadp rfl rfl rfl rfl rfl rfl ?_) <;> (refine gmove rfl rfl rfl ?_) <;> (refine rdg_u rfl rfl rfl rfl (aidxn rfl rfl (by omega)) ?_) <;> (refine rdg_u rfl rfl rfl rfl (afieldi rfl rfl rfl) ?_) <;> (refine rdg_u rfl rfl rfl rfl (aloadi rfl rfl) ?_) <;> (refine gfieldp rfl rfl rfl rfl rfl ?_) <;> (refine gloadp rfl rfl rfl rfl rfl rfl ?_) <;> (refine gmove rfl rfl rfl ?_) <;> (refine rdg_u rfl rfl rfl rfl (aidxn rfl rfl (by omega)) ?_) <;> (refine rdg_u rfl rfl rfl rfl (afieldi rfl rfl rfl) ?_) <;> (refine rdg_u rfl rfl rfl rfl (aloadi rfl rfl) ?_) <;> (refine rdg_u rfl rfl rfl rfl (aeql rfl rfl) ?_) <;> (refine rd_pick_t rfl rfl ?_) <;> (refine rmove rfl ?_) <;> ((refine rd_split (t := 83) rfl (fun hc => ?_) (fun hc => ?_) <;> (try simp only [sB, ne_eq, reduceCtorEq] at hc) <;> (try (exfalso; omega)) <;> (refine gfieldp rfl rfl rfl rfl rfl ?_))) <;> (refine gloadp rfl rfl rfl rfl rfl rfl ?_) <;> (refine gmove rfl rfl rfl ?_) <;> (refine rdg_u rfl rfl rfl rfl (aidxn rfl rfl (by omega)) ?_) <;> (refine rdg_u rfl rfl rfl rfl (afieldi rfl rfl rfl) ?_) <;> (refine rdg_u rfl rfl rfl rfl (aloadi rfl rfl) ?_) <;> (refine rdg_u rfl rfl rfl rfl (aidxn rfl rfl (by (simp only [sL] <;> omega))) ?_) <;> (refine rdg_u rfl rfl rfl rfl (aloadw rfl rfl) ?_) <;> (refine gfieldp rfl rfl rfl rfl rfl ?_) <;> (refine gloadp rfl rfl rfl rfl rfl rfl ?_) <;> (refine gmove rfl rfl rfl ?_) <;> (refine rdg_u rfl rfl rfl rfl (aidxn rfl rfl (by omega)) ?_) <;> (refine rdg_u rfl rfl rfl rfl (afieldi rfl rfl rfl) ?_) <;> (refine rdg_u rfl rfl rfl rfl (aloadi rfl rfl) ?_) <;> (refine rdg_u rfl rfl rfl rfl (aidxn rfl rfl (by (simp only [sL] <;> omega))) ?_) <;> (refine rdg_u rfl rfl rfl rfl (aloadw rfl rfl) ?_) <;> (refine rdg_u rfl rfl rfl rfl (aeql rfl rfl) ?_) <;> (refine rd_pick_t rfl rfl ?_) <;> (refine rd_end (by kernel_rfl) ?_)) | (refine rgC 19 ?_; (refine sassign rfl ?_); apply jW) | exact ret_eq rfl rfl rfl))
         all_goals ((exfalso; grind))
        ·have hs2 : ¬ ((nth g.rules s).head = (nth g.rules r).head /\ nth (nth g.rules s).body (nat_lit 1) = nth (nth g.rules r).body (nat_lit 1)) := fun h => hsame (hso2.2 h)
         (repeat' (first | apply jA | apply jF | apply jH | apply jI | apply jN | (refine wp_cond rfl (fun hc => ?_) (fun hc => ?_) <;> (try simp only [sB, ne_eq, reduceCtorEq] at hc) <;> (try (exfalso; omega))) | (refine rgC 16 ?_; (refine smove rfl ?_); (refine smove rfl ?_); (refine slss rfl rfl ?_); apply jW) | (refine wp_draw (id := 18) 39 mixed (by kernel_rfl) (by kernel_rfl) rfl ?_ <;> (refine rd_u rfl rfl (aloadpw rfl rfl rfl rfl) ?_) <;> (refine rmove rfl ?_) <;> (refine rmove rfl ?_) <;> (refine rd_call rfl rfl zq1 zq5 (hxs) ?_) <;> (refine rd_u rfl rfl (ageq rfl rfl) ?_) <;> (refine rmove rfl ?_) <;> ((refine rd_split (t := 68) rfl (fun hc => ?_) (fun hc => ?_) <;> (try simp only [sB, ne_eq, reduceCtorEq] at hc) <;> (try (exfalso; omega)) <;> (refine gfieldp rfl rfl rfl rfl rfl ?_))) <;> (refine gloadp rfl rfl rfl rfl rfl rfl ?_) <;> (refine gmove rfl rfl rfl ?_) <;> (refine rdg_u rfl rfl rfl rfl (aidxn rfl rfl (by omega)) ?_) <;> (refine rdg_u rfl rfl rfl rfl (afieldi rfl rfl rfl) ?_) <;> (refine rdg_u rfl rfl rfl rfl (aloadi rfl rfl) ?_) <;> (refine gfieldp rfl rfl rfl rfl rfl ?_) <;> (refine gloadp rfl rfl rfl rfl rfl rfl ?_) <;> (refine gmove rfl rfl rfl ?_) <;> (refine rdg_u rfl rfl rfl rfl (aidxn rfl rfl (by omega)) ?_) <;> (refine rdg_u rfl rfl rfl rfl (afieldi rfl rfl rfl) ?_) <;> (refine rdg_u rfl rfl rfl rfl (aloadi rfl rfl) ?_) <;> (refine rdg_u rfl rfl rfl rfl (aeql rfl rfl) ?_) <;> (refine rd_pick_t rfl rfl ?_) <;> (refine rmove rfl ?_) <;> ((refine rd_split (t := 83) rfl (fun hc => ?_) (fun hc => ?_) <;> (try simp only [sB, ne_eq, reduceCtorEq] at hc) <;> (try (exfalso; omega)) <;> (first | refine rd_skip rfl rfl ?_ | refine gfieldp rfl rfl rfl rfl rfl ?_))) <;> (first | refine rd_skip rfl rfl ?_ | refine gloadp rfl rfl rfl rfl rfl rfl ?_) <;> (first | refine rd_skip rfl rfl ?_ | refine gmove rfl rfl rfl ?_) <;> (first | refine rd_skip rfl rfl ?_ | refine rdg_u rfl rfl rfl rfl (aidxn rfl rfl (by omega)) ?_) <;> (first | refine rd_skip rfl rfl ?_ | refine rdg_u rfl rfl rfl rfl (afieldi rfl rfl rfl) ?_) <;> (first | refine rd_skip rfl rfl ?_ | refine rdg_u rfl rfl rfl rfl (aloadi rfl rfl) ?_) <;> (first | refine rd_skip rfl rfl ?_ | refine rdg_u rfl rfl rfl rfl (aidxn rfl rfl (by (simp only [sL] <;> omega))) ?_) <;> (first | refine rd_skip rfl rfl ?_ | refine rdg_u rfl rfl rfl rfl (aloadw rfl rfl) ?_) <;> (first | refine rd_skip rfl rfl ?_ | refine gfieldp rfl rfl rfl rfl rfl ?_) <;> (first | refine rd_skip rfl rfl ?_ | refine gloadp rfl rfl rfl rfl rfl rfl ?_) <;> (first | refine rd_skip rfl rfl ?_ | refine gmove rfl rfl rfl ?_) <;> (first | refine rd_skip rfl rfl ?_ | refine rdg_u rfl rfl rfl rfl (aidxn rfl rfl (by omega)) ?_) <;> (first | refine rd_skip rfl rfl ?_ | refine rdg_u rfl rfl rfl rfl (afieldi rfl rfl rfl) ?_) <;> (first | refine rd_skip rfl rfl ?_ | refine rdg_u rfl rfl rfl rfl (aloadi rfl rfl) ?_) <;> (first | refine rd_skip rfl rfl ?_ | refine rdg_u rfl rfl rfl rfl (aidxn rfl rfl (by (simp only [sL] <;> omega))) ?_) <;> (first | refine rd_skip rfl rfl ?_ | refine rdg_u rfl rfl rfl rfl (aloadw rfl rfl) ?_) <;> (first | refine rd_skip rfl rfl ?_ | refine rdg_u rfl rfl rfl rfl (aeql rfl rfl) ?_) <;> (first | refine rd_pick_t rfl rfl ?_ | refine rd_pick_f rfl rfl ?_) <;> (refine rd_end (by kernel_rfl) ?_)) | (refine rgC 17 ?_; (refine smove rfl ?_); (refine sadd rfl rfl (by exact inr_i64_of (by omega)) ?_); (refine sassign rfl ?_); apply jW)))
         all_goals try (exfalso; grind)
         all_goals exact ⟨s + 1, ⟨by omega, by omega, fun j hj => by
          by_cases e : j = s
          ·subst e; simpa using hsame
          ·exact hall2 j (by omega)⟩, ⟨[0], ToR.S rfl (by repeat' (first | exact rt_nil | refine rt_t rfl rfl ?_ | refine rt_e rfl rfl ?_ | refine rt_p rfl rfl (by first | (simp [AV.bd, bdL, bdL_append]; done) | fail) ?_)) (by repeat' (first | exact ro_nil | refine ro_p rfl (by first | exact rfl | fail) zq5 ?_)) rfl (by (rw [hm]; exact rfl)) rfl zq4 zq3 (by (rw [hm]; exact nle rfl))⟩⟩
       ·have hsame : sameOp g l (nth g.rules r) (nth g.rules s) = false := by
         rw [Bool.eq_false_iff]; exact fun h => hbs (hso.1 h).1
        (repeat' (first | apply jA | apply jF | apply jH | apply jI | apply jN | (refine wp_cond rfl (fun hc => ?_) (fun hc => ?_) <;> (try simp only [sB, ne_eq, reduceCtorEq] at hc) <;> (try (exfalso; omega))) | (refine rgC 16 ?_; (refine smove rfl ?_); (refine smove rfl ?_); (refine slss rfl rfl ?_); apply jW) | (refine wp_draw (id := 18) 39 mixed (by kernel_rfl) (by kernel_rfl) rfl ?_ <;> (refine rd_u rfl rfl (aloadpw rfl rfl rfl rfl) ?_) <;> (refine rmove rfl ?_) <;> (refine rmove rfl ?_) <;> (refine rd_call rfl rfl zq1 zq5 (hxs) ?_) <;> (refine rd_u rfl rfl (ageq rfl rfl) ?_) <;> (refine rmove rfl ?_) <;> ((refine rd_split (t := 68) rfl (fun hc => ?_) (fun hc => ?_) <;> (try simp only [sB, ne_eq, reduceCtorEq] at hc) <;> (try (exfalso; omega)) <;> (refine rd_skip rfl rfl ?_))) <;> (refine rd_skip rfl rfl ?_) <;> (refine rd_skip rfl rfl ?_) <;> (refine rd_skip rfl rfl ?_) <;> (refine rd_skip rfl rfl ?_) <;> (refine rd_skip rfl rfl ?_) <;> (refine rd_skip rfl rfl ?_) <;> (refine rd_skip rfl rfl ?_) <;> (refine rd_skip rfl rfl ?_) <;> (refine rd_skip rfl rfl ?_) <;> (refine rd_skip rfl rfl ?_) <;> (refine rd_skip rfl rfl ?_) <;> (refine rd_skip rfl rfl ?_) <;> (refine rd_pick_f rfl rfl ?_) <;> (refine rmove rfl ?_) <;> (refine rd_skip rfl rfl ?_) <;> (refine rd_skip rfl rfl ?_) <;> (refine rd_skip rfl rfl ?_) <;> (refine rd_skip rfl rfl ?_) <;> (refine rd_skip rfl rfl ?_) <;> (refine rd_skip rfl rfl ?_) <;> (refine rd_skip rfl rfl ?_) <;> (refine rd_skip rfl rfl ?_) <;> (refine rd_skip rfl rfl ?_) <;> (refine rd_skip rfl rfl ?_) <;> (refine rd_skip rfl rfl ?_) <;> (refine rd_skip rfl rfl ?_) <;> (refine rd_skip rfl rfl ?_) <;> (refine rd_skip rfl rfl ?_) <;> (refine rd_skip rfl rfl ?_) <;> (refine rd_skip rfl rfl ?_) <;> (refine rd_skip rfl rfl ?_) <;> (refine rd_pick_f rfl rfl ?_) <;> (refine rd_end (by kernel_rfl) ?_)) | (refine rgC 17 ?_; (refine smove rfl ?_); (refine sadd rfl rfl (by exact inr_i64_of (by omega)) ?_); (refine sassign rfl ?_); apply jW)))
        all_goals try (exfalso; omega)
        all_goals exact ⟨s + 1, ⟨by omega, by omega, fun j hj => by
         by_cases e : j = s
         ·subst e; exact hsame
         ·exact hall2 j (by omega)⟩, ⟨[0], ToR.S rfl (by repeat' (first | exact rt_nil | refine rt_t rfl rfl ?_ | refine rt_e rfl rfl ?_ | refine rt_p rfl rfl (by first | (simp [AV.bd, bdL, bdL_append]; done) | fail) ?_)) (by repeat' (first | exact ro_nil | refine ro_p rfl (by first | exact rfl | fail) zq5 ?_)) rfl (by (rw [hm]; exact rfl)) rfl zq4 zq3 (by (rw [hm]; exact nle rfl))⟩⟩
      ·(repeat' (first | apply jA | apply jH | apply jJ | apply jL | apply jP | (refine wp_cond rfl (fun hc => ?_) (fun hc => ?_) <;> (try simp only [sB, ne_eq, reduceCtorEq] at hc) <;> (try (exfalso; omega))) | (refine rgC 16 ?_; (refine smove rfl ?_); (refine smove rfl ?_); (refine slss rfl rfl ?_); apply jW) | (refine rgC 13 ?_; (refine smove rfl ?_); (refine sadd rfl rfl (by exact inr_i64_of (by omega)) ?_); (refine sassign rfl ?_); apply jW)))
       have hcr : conflG g l r = false := by
        rw [hcd, List.any_eq_false]
        intro x hx
        obtain ⟨j, hj, e⟩ := List.getElem_of_mem hx
        rw [List.length_take] at hj
        rw [List.getElem_take] at e
        have := hall2 j (by omega)
        rw [nth_eq (show j < g.rules.length by omega), e] at this
        simp [this]
       exact ⟨r + 1, ⟨by omega, by omega, fun j hj => by
        by_cases e : j = r
        ·subst e; exact hcr
        ·exact hcf j (by omega)⟩, ⟨[0], ToR.S rfl (by repeat' (first | exact rt_nil | refine rt_t rfl rfl ?_ | refine rt_e rfl rfl ?_ | refine rt_p rfl rfl (by first | (simp [AV.bd, bdL, bdL_append]; done) | fail) ?_)) (by repeat' (first | exact ro_nil | refine ro_p rfl (by first | exact rfl | fail) zq5 ?_)) rfl (by (rw [hm]; exact rfl)) rfl zq4 zq3 (by (rw [hm]; exact nle rfl))⟩⟩
     ·have hcd : conflG g l r = (nth g.rules r).body.any fun t => decide (0 <= t) && decide (0 <= levelG g l t) := by unfold conflG; rw [if_neg hb]
      have hlvl := level20_fn g l hf
      (repeat' (first | apply jA | apply jF | apply jH | apply jI | (refine wp_cond rfl (fun hc => ?_) (fun hc => ?_) <;> (try simp only [sB, ne_eq, reduceCtorEq] at hc) <;> (try (exfalso; omega))) | (refine rgC 12 ?_; (refine smove rfl ?_); (refine sfieldp rfl rfl rfl ?_); (refine sloadp rfl rfl rfl rfl ?_); (refine slenm rfl rfl ?_); (refine slss rfl rfl ?_); apply jW) | (refine rgC 14 ?_; (refine sloadpw rfl rfl rfl rfl ?_); (refine smove rfl ?_); (refine smove rfl ?_); (refine sc_p rfl rfl zq1 zq5 (hx) ?_); (refine su (ageq rfl rfl) ?_); apply jW) | (refine rgC 20 ?_; (refine sassign rfl ?_); apply jW)))
      all_goals try (exfalso; omega)
      refine wp_loop (fun (k : Nat) => k <= (nth g.rules r).body.length /\ ((nth g.rules r).body.take k).any (fun t => decide (0 <= t) && decide (0 <= levelG g l t)) = false) (fun k => (nth g.rules r).body.length - k)
       (fun k => (S 131 [(1, levelsA l), (2, .ptr 0 4 0 0), (7, intA (r : Nat)), (9, intA (k : Nat))] 1 [(0, some (.arr 4 [gramA g]))])) 0 ⟨[0], ToR.S rfl (by repeat' (first | exact rt_nil | refine rt_t rfl rfl ?_ | refine rt_e rfl rfl ?_ | refine rt_p rfl rfl (by first | (simp [AV.bd, bdL, bdL_append]; done) | fail) ?_)) (by repeat' (first | exact ro_nil | refine ro_p rfl (by first | exact rfl | fail) zq5 ?_)) rfl (by (rw [hm]; exact rfl)) rfl zq4 zq3 (by (rw [hm]; exact nle rfl))⟩ ⟨Nat.zero_le _, rfl⟩ ?_
      rintro k ⟨hk, hallk⟩
      by_cases hkl : k < (nth g.rules r).body.length
      ·(repeat' (first | apply jA | apply jF | apply jH | apply jI | apply jK | apply jM | apply jN | apply jO | apply jS | (refine wp_cond rfl (fun hc => ?_) (fun hc => ?_) <;> (try simp only [sB, ne_eq, reduceCtorEq] at hc) <;> (try (exfalso; omega))) | (refine rgC 21 ?_; (refine smove rfl ?_); (refine sfieldp rfl rfl rfl ?_); (refine sloadp rfl rfl rfl rfl ?_); (refine smove rfl ?_); (refine sidxn rfl rfl (by omega) ?_); (refine su (afieldi rfl rfl rfl) ?_); (refine su (aloadi rfl rfl) ?_); (refine slenm rfl rfl ?_); (refine slss rfl rfl ?_); apply jW) | (refine rgC 23 ?_; (refine sfieldp rfl rfl rfl ?_); (refine sloadp rfl rfl rfl rfl ?_); (refine smove rfl ?_); (refine sidxn rfl rfl (by omega) ?_); (refine su (afieldi rfl rfl rfl) ?_); (refine su (aloadi rfl rfl) ?_); (refine smove rfl ?_); (refine sidxn rfl rfl (by omega) ?_); (refine sloadw rfl rfl ?_); (refine sassign rfl ?_); apply jW) | (refine rgC 24 ?_; (refine smove rfl ?_); (refine su (ageq rfl rfl) ?_); (refine smove rfl ?_); (refine sg (gq_vt rfl rfl) (fun he => ap_load_pw (rq_p rfl rfl) rfl rfl rfl) ?_); (refine sg (gq_vt rfl rfl) (fun he => ap_move (rq_p rfl rfl)) ?_); (refine sg (gq_vt rfl rfl) (fun he => ap_move (rq_p rfl rfl)) ?_); (refine sg_p (gq_vt rfl rfl) (fun he => ⟨(rq_p rfl rfl), (RqL.cons (rq_c rfl rfl) (RqL.cons (rq_c rfl rfl) (RqL.cons (rq_c rfl rfl) (RqL.nil)))), zq1, zq5, hlvl _⟩) ?_); (refine sg (gq_vt rfl rfl) (fun he => ap_geq (rq_c rfl rfl) (rq_p rfl rfl)) ?_); (refine su (ap_and (rq_p rfl rfl) (rq_c rfl rfl)) ?_); apply jW) | (refine rgC 25 ?_; (refine sassign rfl ?_); apply jW) | (refine rgC 22 ?_; (refine smove rfl ?_); (refine sadd rfl rfl (by exact inr_i64_of (by omega)) ?_); (refine sassign rfl ?_); apply jW) | refine ret_i rfl ?_))
       ·rw [confl_any hrl (by rw [hcd, List.any_eq_true]; exact ⟨_, nth_mem hkl, by simp [hc.1, hc.2]⟩), if_pos rfl]
       ·exact ⟨k + 1, ⟨by omega, by omega, take_any_succ hkl hallk (by
         rw [Bool.and_eq_false_iff, decide_eq_false_iff_not, decide_eq_false_iff_not]
         omega)⟩, ⟨[0], ToR.S rfl (by repeat' (first | exact rt_nil | refine rt_t rfl rfl ?_ | refine rt_e rfl rfl ?_ | refine rt_p rfl rfl (by first | (simp [AV.bd, bdL, bdL_append]; done) | fail) ?_)) (by repeat' (first | exact ro_nil | refine ro_p rfl (by first | exact rfl | fail) zq5 ?_)) rfl (by (rw [hm]; exact rfl)) rfl zq4 zq3 (by (rw [hm]; exact nle rfl))⟩⟩
      ·(repeat' (first | apply jA | apply jH | apply jJ | apply jL | apply jN | apply jP | (refine wp_cond rfl (fun hc => ?_) (fun hc => ?_) <;> (try simp only [sB, ne_eq, reduceCtorEq] at hc) <;> (try (exfalso; omega))) | (refine rgC 21 ?_; (refine smove rfl ?_); (refine sfieldp rfl rfl rfl ?_); (refine sloadp rfl rfl rfl rfl ?_); (refine smove rfl ?_); (refine sidxn rfl rfl (by omega) ?_); (refine su (afieldi rfl rfl rfl) ?_); (refine su (aloadi rfl rfl) ?_); (refine slenm rfl rfl ?_); (refine slss rfl rfl ?_); apply jW) | (refine rgC 13 ?_; (refine smove rfl ?_); (refine sadd rfl rfl (by exact inr_i64_of (by omega)) ?_); (refine sassign rfl ?_); apply jW)))
       rw [List.take_of_length_le (by omega), <- hcd] at hallk
       exact ⟨r + 1, ⟨by omega, by omega, fun j hj => by
        by_cases e : j = r
        ·subst e; exact hallk
        ·exact hcf j (by omega)⟩, ⟨[0], ToR.S rfl (by repeat' (first | exact rt_nil | refine rt_t rfl rfl ?_ | refine rt_e rfl rfl ?_ | refine rt_p rfl rfl (by first | (simp [AV.bd, bdL, bdL_append]; done) | fail) ?_)) (by repeat' (first | exact ro_nil | refine ro_p rfl (by first | exact rfl | fail) zq5 ?_)) rfl (by (rw [hm]; exact rfl)) rfl zq4 zq3 (by (rw [hm]; exact nle rfl))⟩⟩
    ·have hno : (List.range g.rules.length).any (conflG g l) = false := by
      rw [List.any_eq_false]
      intro j hj
      have := hcf j (by have := List.mem_range.1 hj; omega)
      simp [this]
     rw [hno, if_neg (by simp)]
     (repeat' (first | apply jA | apply jH | apply jJ | apply jK | apply jL | apply jP | apply jS | (refine wp_cond rfl (fun hc => ?_) (fun hc => ?_) <;> (try simp only [sB, ne_eq, reduceCtorEq] at hc) <;> (try (exfalso; omega))) | (refine rgC 12 ?_; (refine smove rfl ?_); (refine sfieldp rfl rfl rfl ?_); (refine sloadp rfl rfl rfl rfl ?_); (refine slenm rfl rfl ?_); (refine slss rfl rfl ?_); apply jW) | (refine rgC 26 ?_; (refine sassign rfl ?_); apply jW) | exact ret_eq rfl rfl rfl))
end Go.Lg
namespace Go.Lg
open Go.Proofs
attribute [local irreducible] Ap Rq asemC WP RunD Ret Gq thenA inBlockA bodyQ noGotoA RqL RqP OpP
attribute [local simp] AV.cells
theorem nameOk_szY {x : ByteArray} (h : nameOk x = true) : x.size <= 48 := by
 simp only [nameOk, Bool.and_eq_true, decide_eq_true_eq] at h
 exact h.1.2
def stratA (x : Gram × List Int × Int) : AV := .tup [gramA x.1, intsA x.2.1, intA x.2.2]
@[simp] theorem bd_stratA (n : Nat) (x : Gram × List Int × Int) : (stratA x).bd n = true := by simp [stratA, AV.bd, bdL]
@[simp] theorem bdL_intsA2 (n : Nat) (l : List (List Int)) : bdL n (l.map intsA) = true := bdL_map (fun _ => by simp [intsA, AV.bd, bdL]) l
@[simp] theorem bdL_replI (n k : Nat) (z : Int) : bdL n (List.replicate k (intA z)) = true := by
 rw [<- List.map_replicate]
 exact bdL_map (fun _ => by simp) _
def useI (g : Gram) (l : List GLe) (e : Nat) : List Int := (useL g l e).map fun (i : Nat) => (i : Int)
def chnTo (g : Gram) (l : List GLe) (k : Nat) : List (List Int) := (List.range k).map (chnG g l)
theorem chnTo_len (g : Gram) (l : List GLe) (k : Nat) : (chnTo g l k).length = k := by simp [chnTo]
def chnP (g : Gram) (l : List GLe) (e i : Nat) : List Int := (e : Int) :: (List.range i).map fun (j : Nat) => ((offN g l e + j : Nat) : Int)
theorem chnP_succ (g : Gram) (l : List GLe) (e i : Nat) : chnP g l e (i + 1) = chnP g l e i ++ [((offN g l e + i : Nat) : Int)] := by simp [chnP, List.range_succ]
theorem chnP_len (g : Gram) (l : List GLe) (e i : Nat) : (chnP g l e i).length = i + 1 := by simp [chnP]
def namP (g : Gram) (l : List GLe) (e i : Nat) : List ByteArray := namsG g l e ++ (List.range i).map fun (i : Nat) => nth g.nonterms e ++ ⟨#[64]⟩ ++ tx (Lib.decDigits (i + 2))
theorem namP_succ (g : Gram) (l : List GLe) (e i : Nat) : namP g l e (i + 1) = namP g l e i ++ [nth g.nonterms e ++ ⟨#[64]⟩ ++ tx (Lib.decDigits (i + 2))] := by simp [namP, List.range_succ]
theorem namP_all (g : Gram) (l : List GLe) (e : Nat) : namP g l e (useL g l e).length = namsG g l (e + 1) := by
 rw [namsG_succ]
 unfold namP namG
 congr 1
 done
theorem namP_len (g : Gram) (l : List GLe) (e i : Nat) : (namP g l e i).length = offN g l e + i := by
 unfold namP
 rw [List.length_append, namsG_len]; simp
theorem offN_bd {g : Gram} {l : List GLe} (hl : l.length <= 10) (e : Nat) : offN g l e <= g.nonterms.length + 10 * e := by
 induction e with
 | zero => exact Nat.le_refl _
 | succ e ih => have := useL_len g l e; rw [offN]; omega
theorem useL_monoY {g : Gram} {l : List GLe} {e i j : Nat} (hij : i < j) (hj : j < (useL g l e).length) : nth (useL g l e) i < nth (useL g l e) j := by
 have h : (useL g l e).Pairwise (· < ·) := List.pairwise_lt_range.filter _
 rw [List.pairwise_iff_getElem] at h
 rw [nth_eq (by omega), nth_eq hj]
 exact h i j (by omega) hj hij
theorem idx_pos {g : Gram} {l : List GLe} {e i : Nat} (h : i ∈ useL g l e) : indexP (fun x => decide (x = (i : Int))) (useI g l e) = ((posU g l e (i : Int) : Nat) : Int) /\ posU g l e (i : Int) < (useL g l e).length := by
 obtain ⟨h1, h2⟩ := posU_is g l h
 have hl : (useI g l e).length = (useL g l e).length := by simp [useI]
 have hn : ∀ j, j < (useL g l e).length -> nth (useI g l e) j = ((nth (useL g l e) j : Nat) : Int) := fun j hj => by
  unfold useI
  rw [nth_mapP hj]
 refine ⟨indexP_is (by omega) (by rw [hn _ h1, h2]; simp) fun j hj => ?_, h1⟩
 rw [hn j (by omega)]
 have := useL_monoY hj h1
 exact decide_eq_false (by omega)
theorem take_chn {g : Gram} {l : List GLe} {e i : Nat} : chnP g l e (useL g l e).length = chnG g l e := rfl
theorem set3 {B : List Int} (h : B.length = 3) (x y : Int) : (B.set 0 x).set 2 y = [x, nth B 1, y] := by
 match B, h with
 | [a, b, c], _ => rfl
theorem set3a {B : List Int} (h : B.length = 3) (x y z : Int) : ((B.set 0 x).set 2 y).set 0 z = [z, nth B 1, y] := by
 match B, h with
 | [a, b, c], _ => rfl
theorem set3b {B : List Int} (h : B.length = 3) (x y z : Int) : ((B.set 0 x).set 2 y).set 2 z = [x, nth B 1, z] := by
 match B, h with
 | [a, b, c], _ => rfl
def bodN (q s : Int) (B : List Int) : List Int := (if nth B 0 = s then B.set 0 q else B)
def bodM (q s : Int) (B : List Int) : List Int := if nth B (B.length - 1) = s then (bodN q s B).set (B.length - 1) q else bodN q s B
theorem bodM_is (q s : Int) (B : List Int) (h : 0 < B.length) : bodM q s B = (List.range B.length).map fun k => if (k = 0 \/ k + 1 = B.length) /\ nth B k = s then q else nth B k := by
 have hl : (bodN q s B).length = B.length := by unfold bodN; split <;> simp
 have hn : ∀ j, j < B.length -> nth (bodN q s B) j = if j = 0 /\ nth B j = s then q else nth B j := fun j hj => by
  unfold bodN
  split
  ·rename_i h0
   rw [nth_set h]
   by_cases e : 0 = j
   ·subst e; rw [if_pos rfl, if_pos ⟨rfl, h0⟩]
   ·rw [if_neg e, if_neg (fun h => e h.1.symm)]
  ·rename_i h0
   rw [if_neg]
   rintro ⟨rfl, h1⟩
   exact h0 h1
 have hl2 : (bodM q s B).length = B.length := by unfold bodM; split <;> simp [hl]
 refine nth_ext (by rw [hl2]; simp) fun j hj => ?_
 rw [hl2] at hj
 rw [nth_range hj]
 unfold bodM
 split
 ·rename_i h1
  rw [nth_set (by rw [hl]; omega), hn j hj]
  by_cases e : B.length - 1 = j
  ·subst e
   rw [if_pos rfl, if_pos ⟨.inr (by omega), h1⟩]
  ·rw [if_neg e]
   by_cases e2 : j = 0
   ·subst e2
    by_cases e3 : nth B 0 = s
    ·rw [if_pos ⟨rfl, e3⟩, if_pos ⟨.inl rfl, e3⟩]
    ·rw [if_neg (fun h => e3 h.2), if_neg (fun h => e3 h.2)]
   ·rw [if_neg (fun h => e2 h.1), if_neg]
    rintro ⟨h | h, _⟩ <;> omega
 ·rename_i h1
  rw [hn j hj]
  by_cases e2 : j = 0
  ·subst e2
   by_cases e3 : nth B 0 = s
   ·rw [if_pos ⟨rfl, e3⟩, if_pos ⟨.inl rfl, e3⟩]
   ·rw [if_neg (fun h => e3 h.2), if_neg (fun h => e3 h.2)]
  ·rw [if_neg (fun h => e2 h.1), if_neg]
   rintro ⟨h | h, h3⟩
   ·omega
   ·rw [show B.length - 1 = j by omega] at h1
    exact h1 h3
end Go.Lg
namespace Go.Lg
open Go.Proofs
attribute [local irreducible] Ap Rq asemC WP RunD Ret Gq thenA inBlockA bodyQ noGotoA RqL RqP OpP
attribute [local simp] AV.cells
def rulTo (g : Gram) (l : List GLe) (r : Nat) : List Rul := (g.rules.take r).map (ruleS g l)
theorem rulTo_succ {g : Gram} (l : List GLe) {r : Nat} (hr : r < g.rules.length) : rulTo g l (r + 1) = rulTo g l r ++ [ruleS g l (nth g.rules r)] := by
 unfold rulTo; rw [take_succ_nth hr, List.map_append]; rfl
theorem rulTo_len {g : Gram} (l : List GLe) {r : Nat} (hr : r <= g.rules.length) : (rulTo g l r).length = r := by unfold rulTo; rw [List.length_map, List.length_take]; omega
def froTo (r : Nat) : List Int := (List.range r).map fun (i : Nat) => (i : Int)
theorem froTo_succ (r : Nat) : froTo (r + 1) = froTo r ++ [(r : Int)] := by simp [froTo, List.range_succ]
theorem froTo_len (r : Nat) : (froTo r).length = r := by simp [froTo]
def untP (g : Gram) (l : List GLe) (e i : Nat) : List Rul := (List.range i).map fun i => ⟨nth (chnG g l e) i, [-1 - nth (chnG g l e) (i + 1)], 0⟩
theorem untP_succ (g : Gram) (l : List GLe) (e i : Nat) : untP g l e (i + 1) = untP g l e i ++ [⟨nth (chnG g l e) i, [-1 - nth (chnG g l e) (i + 1)], 0⟩] := by simp [untP, List.range_succ]
theorem untP_len (g : Gram) (l : List GLe) (e i : Nat) : (untP g l e i).length = i := by simp [untP]
theorem unitsS_bd {g : Gram} {l : List GLe} (hl : l.length <= 10) (e : Nat) : (unitsS g l e).length <= 10 * e := by
 induction e with
 | zero => simp [unitsS]
 | succ e ih => have := useL_len g l e; rw [unitsS_succ, List.length_append, unitS_len]; omega
end Go.Lg
namespace Go.Lg
open Go.Proofs
attribute [local irreducible] Ap Rq asemC WP RunD Ret Gq thenA inBlockA bodyQ noGotoA RqL RqP OpP
attribute [local simp] AV.cells
end Go.Lg
namespace Go.Lg
open Go.Proofs
attribute [local irreducible] Ap Rq asemC WP RunD Ret Gq thenA inBlockA bodyQ noGotoA RqL RqP OpP
attribute [local simp] AV.cells
def liftA (x : Tre × Int) : AV := .tup [treA x.1, intA x.2]
@[simp] theorem bd_liftA (n : Nat) (x : Tre × Int) : (liftA x).bd n = true := by simp [liftA, AV.bd, bdL]
end Go.Lg
namespace Go.Lg
open Go.Proofs
attribute [local irreducible] Ap Rq asemC WP RunD Ret Gq thenA inBlockA bodyQ noGotoA RqL RqP OpP
end Go.Lg
namespace Go.Lg
open Go.Proofs
attribute [local irreducible] Ap Rq asemC WP RunD Ret Gq thenA inBlockA bodyQ noGotoA RqL RqP OpP
def UnderP (g : Gram) (out : List Bool) : Prop := out.length = g.nonterms.length /\ ∀ S : List Bool, S.length = g.nonterms.length -> leB (stepP g S) S -> leB out S
theorem UnderP.set {g : Gram} {out : List Bool} (hv : GVal g) (h : UnderP g out) {r : Rul} (hr : r ∈ g.rules) (hb : r.body.all (okSym out) = true) : UnderP g (out.set r.head.toNat true) := by
 refine ⟨by simp [h.1], fun S hS hc => leB_set (h.2 S hS hc) ?_⟩
 refine stepP_closes hc hr (hv.rule r hr).h0 (by rw [hS]; exact (hv.rule r hr).hn) ?_
 rw [List.all_eq_true] at *
 exact fun x hx => okSym_mono (h.2 S hS hc) (hb x hx)
theorem UnderP.eq {g : Gram} {out : List Bool} (h : UnderP g out) (hc : ∀ r, r ∈ g.rules -> r.body.all (okSym out) = true -> nth out r.head.toNat = true) : out = prodG g :=
 (lfpB_eq (stepP_mono g _) (nob_len _) (nob_le h.1) (stepP_closed hc) (fun S h1 h2 => h.2 S (by rw [<- h1.1, nob_len]) h2)).symm
end Go.Lg
namespace Go.Lg
open Go.Proofs
attribute [local irreducible] Ap Rq asemC WP RunD Ret Gq thenA inBlockA bodyQ noGotoA RqL RqP OpP
end Go.Lg
namespace Go.Lg
open Go.Proofs
attribute [local irreducible] Ap Rq asemC WP RunD Ret Gq thenA inBlockA bodyQ noGotoA RqL RqP OpP
attribute [local simp] AV.cells
def RTA (r : RT) : AV := .tup [.agg [intA r.1.rule, intA r.1.term, tresA r.1.kids], intA (r.2.1 : Nat), boolA r.2.2]
@[simp] theorem bd_RTA (n : Nat) (r : RT) : (RTA r).bd n = true := by simp [RTA, tresA, AV.bd, bdL]
end Go.Lg
namespace Go.Lg
open Go.Proofs
attribute [local irreducible] Ap Rq asemC WP RunD Ret Gq thenA inBlockA bodyQ noGotoA RqL RqP OpP
attribute [local simp] AV.cells rdT
end Go.Lg
