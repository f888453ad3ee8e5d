/-
  Part 17 of the proof of TreeLiftStratifiedCard: the logic over the model, the functions' contracts and the plain laws.
-/
import Derived.Test.YtfaoljcgigkonabDoorTs16
import Derived.Stop.Looks
set_option linter.unusedSimpArgs false
set_option linter.unusedVariables false
set_option linter.unusedSectionVars false
set_option linter.defProp false
set_option maxRecDepth 20000
set_option maxHeartbeats 4000000
namespace Go.Lg
open Go.RowKit
def OkSame {α : Type} (P : Program) (s : Sem α) : Prop := ∀ w a w', s.run P w = .ok a w' -> w' = w
section
variable {P : Program}
theorem OkSame.bind {α β : Type} {s : Sem α} {f : α -> Sem β} (hs : OkSame P s) (hf : ∀ a, OkSame P (f a)) : OkSame P (s >>= f) := by
 intro w b w' h
 rw [Sem.run_bind] at h
 cases hr : s.run P w with
 | ok a w1 =>
  rw [hr] at h
  have := hs _ _ _ hr
  subst this
  exact hf a _ _ _ h
 | halt x w1 => rw [hr] at h; cases h
theorem OkSame.looks {α : Type} {s : Sem α} (h : s.Looks) : OkSame P s := fun _ _ _ e => h.ok e
theorem okSame_sureAddr (x : Value) : OkSame P (Instr.sureAddr x) := by
 refine .looks ?_
 unfold Instr.sureAddr
 split <;> trivial
theorem okSame_asIntOf (v : Value) : OkSame P (asIntOf v) := by
 refine .looks ?_
 unfold asIntOf
 split <;> trivial
def NoOk {α : Type} (P : Program) (s : Sem α) : Prop := ∀ w a w', s.run P w ≠ .ok a w'
theorem NoOk.same {α : Type} {s : Sem α} (h : NoOk P s) : OkSame P s := fun w a w' e => absurd e (h w a w')
theorem NoOk.bind {α β : Type} {s : Sem α} {f : α -> Sem β} (hf : ∀ a, NoOk P (f a)) : NoOk P (s >>= f) := by
 intro w b w' h
 rw [Sem.run_bind] at h
 cases hr : s.run P w with
 | ok a w1 => rw [hr] at h; exact hf a _ _ _ h
 | halt x w1 => rw [hr] at h; cases h
theorem noOk_goPanic {α : Type} (v : Value) : NoOk P (goPanic v : Sem α) := by
 intro w a w' h
 simp [goPanic] at h
theorem noOk_bounds {α : Type} (k : IntKind) (x y : Int) (c : BoundsCode) : NoOk P (boundsPanic k x y c : Sem α) := by
 have h : ∀ b, NoOk P (runtimePanic (.bounds (IntKind.i64.wrap x) y b c) : Sem α) := fun b => by
  unfold runtimePanic
  exact NoOk.bind fun p => noOk_goPanic _
 unfold boundsPanic
 dsimp only
 split
 ·exact NoOk.bind h
 ·exact NoOk.bind h
theorem okSame_indexAt (t : TypeId) (x ix : Value) : OkSame P (Instr.indexAt t x ix) := by
 unfold Instr.indexAt
 refine (okSame_asIntOf ix).bind fun ki => ?_
 obtain ⟨k, i⟩ := ki
 dsimp only
 refine (OkSame.looks (underlying_looks t)).bind fun u => ?_
 have fin : ∀ z : Option Addr × Nat × TypeId, OkSame P (do
   let u2 <- underlying t
   match z.1 with
   | some a =>
    if 0 <= i /\ i < (z.2.1 : Int) then do
     let n <- sizeOf z.2.2
     pure (Value.pointer (some (a.add (i.toNat * n))))
    else if (decide (z.2.1 ≤ 1) && match u2 with | .array _ _ => true | _ => false) = true then unsupported (.noEntry "op/indexAddr.an index out of range at an array of length 0 or 1 (ledger 616)")
    else boundsPanic k i z.2.1 .index
   | none => boundsPanic k i 0 .index) := by
  intro z
  refine (OkSame.looks (underlying_looks t)).bind fun u2 => ?_
  split
  ·split
   ·exact (OkSame.looks (sizeOf_looks _)).bind fun _ => .looks trivial
   ·split <;> (split; exact .looks (unsupported_looks _); exact (noOk_bounds _ _ _ _).same)
  ·exact (noOk_bounds _ _ _ _).same
 split
 ·exact (okSame_sureAddr _).bind fun a => (OkSame.looks (pure_looks _)).bind fin
 ·exact (OkSame.looks (pure_looks _)).bind fin
 ·exact (OkSame.looks (stuck_looks _)).bind fin
def neuB : Op -> Bool
 | .load _ _ | .move _ | .assign _ | .indexAddr _ _ _ | .fieldAddr _ _ _ => true
 | _ => false
end
section
variable {P : Program} {ops : Array Oper} {Q : Exit -> Act -> World -> Prop} {md : Region.Mode}
def YieldsAt (P : Program) (oi : Oper) (v : Value) (a : Act) (w : World) : Prop := (execOp a.eval oi).run P w = .ok (.value v) w
theorem YieldsAt.same {oi : Oper} {v : Value} {a a' : Act} {w : World} (hy : YieldsAt P oi v a w) (he : execOp a'.eval oi = execOp a.eval oi) : YieldsAt P oi v a' w := by
 unfold YieldsAt at *; rw [he]; exact hy
end
section
variable {P : Program} {Γ : Cx} {n M : Nat} {l : List (Nat × AV)} {os : List (Nat × Option AObj)} {x : AV} {d : Tmp} {ty : TypeId} {pos : String} {af : Array Edge} {ops : Array Oper} {Q : Exit -> St -> Prop} {fuel : Nat} {listed : Array Bool}
end
end Go.Lg
namespace Go.Lg
open Go.Proofs
attribute [local irreducible] Ap Rq asemC WP RunD Ret Gq thenA inBlockA bodyQ noGotoA RqL RqP OpP
theorem lcp_lt : ∀ {T R : Tx} {n : Nat}, n <= lcp T R -> (n < lcp T R ↔ n < T.length /\ n < R.length /\ T.getD n 0 = R.getD n 0)
  | [], _, n, h => by simp [lcp]
  | _ :: _, [], n, h => by simp [lcp]
  | a :: T, b :: R, 0, h => by
    simp only [lcp, List.length_cons, List.getD_cons_zero]
    split
    · rename_i e; simp [e]
    · rename_i e; simp [e]
  | a :: T, b :: R, n + 1, h => by
    simp only [lcp] at h ⊢
    split
    · rename_i e
      rw [if_pos e] at h
      have := lcp_lt (T := T) (R := R) (n := n) (by omega)
      simp only [List.length_cons, List.getD_cons_succ, Nat.add_lt_add_iff_right]
      exact this
    · rename_i e
      rw [if_neg e] at h; omega
def rdT (g : Gram) (s : ByteArray) (a : Int) (pr : List Bool) : AObj := .arr 7 [.agg [strsA g.terms, strsA g.nonterms, intA g.start, rulesA g.rules, strA s, intA a, boolsA pr]]
def choA (c : Tx × Tre) : AV := .agg [strA (tx c.1), intA c.2.rule, intA c.2.term, .val (.slice none 0 0)]
def rawA (t : Tre) : AV := .agg [intA t.rule, intA t.term, .val (.slice none 0 0)]
def resC (g : Gram) (s : ByteArray) (pr : List Bool) : PT Tre -> Res
 | .ok t a => .ok (rawA t) [some (.arr 7 [.agg [strsA g.terms, strsA g.nonterms, intA g.start, rulesA g.rules, strA s, intA a, boolsA pr]])]
 | .err e => .die (.iface 70 (.int .i64 e))
def synY (x : Int) : Value := .iface 70 (.int .i64 x)
def resT (g : Gram) (s : ByteArray) (pr : List Bool) : PT Tre -> Res
 | .ok t a => .ok (treA t) [some (rdT g s a pr)]
 | .err e => .die (synY e)
attribute [local simp] AV.cells rdT
theorem common_fn (g : Gram) (s : ByteArray) (a : Nat) (pr : List Bool) (text : ByteArray) (hs : s.size <= 1000000) (ha : a <= 1000000) (ht : text.size <= 1000000) : FnO Tryd.prog 50 [.ptr 0 7 0 0, strA text] [rdT g s a pr] (intA (lcp (bl text) ((bl s).drop a) : Nat)) [some (rdT g s a pr)] := by
 unfold rdT
 refine FnO.intro (by exact nle rfl) rfl (by kernel_rfl) Tryd.func50 rfl rfl Tryd.ntmps50 (by exact nle rfl) ?_; intro Γ hm
 (repeat' (first | apply jA | apply jF | apply jH | (refine WP.regionC ?_; (refine sassign rfl ?_); apply jW)))
 refine wp_loop (fun (n : Nat) => n <= lcp (bl text) ((bl s).drop a)) (fun n => lcp (bl text) ((bl s).drop a) - n)
  (fun n => (S 44 [(0, .ptr 0 7 0 0), (1, strA text), (5, intA (n : Nat))] 1 [(0, some (.arr 7 [.agg [strsA g.terms, strsA g.nonterms, intA g.start, rulesA g.rules, strA s, intA a, boolsA pr]]))])) 0 ⟨[0], ToR.S rfl (by repeat' (first | exact rt_nil | refine rt_t rfl rfl ?_ | refine rt_e rfl rfl ?_)) (by repeat' (first | exact ro_nil | refine ro_p rfl (by first | exact rfl | fail) zq5 ?_)) rfl (by (rw [hm]; exact rfl)) rfl zq4 zq3 (by (rw [hm]; exact nle rfl))⟩ (Nat.zero_le _) ?_
 intro n hn
 have hlt := lcp_lt hn
 have hle := lcp_le (bl text) ((bl s).drop a)
 rw [List.length_drop, bl_len, bl_len] at hlt
 rw [List.length_drop, bl_len, bl_len] at hle
 have hbt : bAt s (a + n) = bAt text n ↔ (bl text).getD n 0 = ((bl s).drop a).getD n 0 := by
  have e : ((bl s).drop a).getD n 0 = (bl s).getD (a + n) 0 := by simp [List.getD]
  rw [e]
  show (((bl s).getD (a + n) 0).toNat : Int) = (((bl text).getD n 0).toNat : Int) ↔ _
  constructor
  ·intro h; exact (UInt8.toNat_inj.1 (by omega))
  ·intro h; rw [h]
 (repeat' (first | apply jA | apply jF | apply jH | apply jI | apply jJ | apply jK | apply jL | apply jN | apply jP | apply jS | (refine wp_cond rfl (fun hc => ?_) (fun hc => ?_) <;> (try simp only [sB, ne_eq, reduceCtorEq] at hc) <;> (try (exfalso; omega))) | (refine wp_draw (id := 2) 35 mixed (by kernel_rfl) (by kernel_rfl) rfl ?_ <;> (refine rmove rfl ?_) <;> (refine rmove rfl ?_) <;> (refine rd_u rfl rfl (alenstr rfl rfl) ?_) <;> (refine rd_u rfl rfl (alss rfl rfl) ?_) <;> (refine rmove rfl ?_) <;> ((refine rd_split (t := 10) rfl (fun hc => ?_) (fun hc => ?_) <;> (try simp only [sB, ne_eq, reduceCtorEq] at hc) <;> (try (exfalso; omega)) <;> (first | refine rd_skip rfl rfl ?_ | refine gmove rfl rfl rfl ?_))) <;> (first | refine rd_skip rfl rfl ?_ | refine gnilc rfl rfl rfl ?_) <;> (first | refine rd_skip rfl rfl ?_ | refine gfieldp rfl rfl rfl rfl rfl ?_) <;> (first | refine rd_skip rfl rfl ?_ | refine gloadp rfl rfl rfl rfl rfl rfl ?_) <;> (first | refine rd_skip rfl rfl ?_ | refine gmove rfl rfl rfl ?_) <;> (first | refine rd_skip rfl rfl ?_ | refine rdg_u rfl rfl rfl rfl (aadd rfl rfl (by exact inr_i64_of (by omega))) ?_) <;> (first | refine rd_skip rfl rfl ?_ | refine gmove rfl rfl rfl ?_) <;> (first | refine rd_skip rfl rfl ?_ | refine gnilc rfl rfl rfl ?_) <;> (first | refine rd_skip rfl rfl ?_ | refine gfieldp rfl rfl rfl rfl rfl ?_) <;> (first | refine rd_skip rfl rfl ?_ | refine gloadp rfl rfl rfl rfl rfl rfl ?_) <;> (first | refine rd_skip rfl rfl ?_ | refine rdg_u rfl rfl rfl rfl (alenstr rfl rfl) ?_) <;> (first | refine rd_skip rfl rfl ?_ | refine rdg_u rfl rfl rfl rfl (alss rfl rfl) ?_) <;> (first | refine rd_pick_t rfl rfl ?_ | refine rd_pick_f rfl rfl ?_) <;> (refine rmove rfl ?_) <;> (first | refine rd_skip rfl rfl ?_ | (refine rd_split (t := 24) rfl (fun hc => ?_) (fun hc => ?_) <;> (try simp only [sB, ne_eq, reduceCtorEq] at hc) <;> (try (exfalso; omega)) <;> (first | refine rd_skip rfl rfl ?_ | refine gmove rfl rfl rfl ?_))) <;> (first | refine rd_skip rfl rfl ?_ | refine gnilc rfl rfl rfl ?_) <;> (first | refine rd_skip rfl rfl ?_ | refine gfieldp rfl rfl rfl rfl rfl ?_) <;> (first | refine rd_skip rfl rfl ?_ | refine gloadp rfl rfl rfl rfl rfl rfl ?_) <;> (first | refine rd_skip rfl rfl ?_ | refine gmove rfl rfl rfl ?_) <;> (first | refine rd_skip rfl rfl ?_ | refine gnilc rfl rfl rfl ?_) <;> (first | refine rd_skip rfl rfl ?_ | refine gfieldp rfl rfl rfl rfl rfl ?_) <;> (first | refine rd_skip rfl rfl ?_ | refine gloadp rfl rfl rfl rfl rfl rfl ?_) <;> (first | refine rd_skip rfl rfl ?_ | refine gmove rfl rfl rfl ?_) <;> (first | refine rd_skip rfl rfl ?_ | refine rdg_u rfl rfl rfl rfl (aadd rfl rfl (by exact inr_i64_of (by omega))) ?_) <;> (first | refine rd_skip rfl rfl ?_ | refine rdg_u rfl rfl rfl rfl (asidxn rfl rfl rfl (by omega)) ?_) <;> (first | refine rd_skip rfl rfl ?_ | refine gmove rfl rfl rfl ?_) <;> (first | refine rd_skip rfl rfl ?_ | refine gmove rfl rfl rfl ?_) <;> (first | refine rd_skip rfl rfl ?_ | refine rdg_u rfl rfl rfl rfl (asidxn rfl rfl rfl (by omega)) ?_) <;> (first | refine rd_skip rfl rfl ?_ | refine rdg_u rfl rfl rfl rfl (aeql rfl rfl) ?_) <;> (first | refine rd_pick_t rfl rfl ?_ | refine rd_pick_f rfl rfl ?_) <;> (refine rd_end (by kernel_rfl) ?_)) | (refine rgC 3 ?_; (refine smove rfl ?_); (refine sadd rfl rfl (by exact inr_i64_of (by omega)) ?_); (refine sassign rfl ?_); apply jW) | (refine rgC 4 ?_; (refine smove rfl ?_); (refine sassign rfl ?_); apply jW)))
 ·have hl := hlt.2 ⟨by omega, by omega, hbt.1 hc⟩
  exact ⟨n + 1, ⟨by omega, by omega⟩, ⟨[0], ToR.S rfl (by repeat' (first | exact rt_nil | refine rt_t rfl rfl ?_ | refine rt_e rfl rfl ?_)) (by repeat' (first | exact ro_nil | refine ro_p rfl (by first | exact rfl | fail) zq5 ?_)) rfl (by (rw [hm]; exact rfl)) rfl zq4 zq3 (by (rw [hm]; exact nle rfl))⟩⟩
 ·have e : n = lcp (bl text) ((bl s).drop a) := Nat.le_antisymm hn (Nat.not_lt.1 fun h => hc (hbt.2 (hlt.1 h).2.2))
  rw [<- e]
  refine retO_L (x := intA (n : Nat)) (k := 1) (os1 := [(0, some (.arr 7 [.agg [strsA g.terms, strsA g.nonterms, intA g.start, rulesA g.rules, strA s, intA a, boolsA pr]]))]) (.tmp rfl .nil) rfl ⟨[0], ToR.S rfl (by repeat' (first | exact rt_nil | refine rt_e rfl rfl ?_)) (by repeat' (first | exact ro_nil | refine ro_p rfl (by first | exact rfl | fail) zq5 ?_)) rfl rfl rfl zq4 zq3 (by exact nle rfl)⟩ rfl
 all_goals (have e : n = lcp (bl text) ((bl s).drop a) := Nat.le_antisymm hn (Nat.not_lt.1 fun h => by have := hlt.1 h; omega))
 all_goals rw [<- e]
 all_goals refine retO_L (x := intA (n : Nat)) (k := 1) (os1 := [(0, some (.arr 7 [.agg [strsA g.terms, strsA g.nonterms, intA g.start, rulesA g.rules, strA s, intA a, boolsA pr]]))]) (.tmp rfl .nil) rfl ⟨[0], ToR.S rfl (by repeat' (first | exact rt_nil | refine rt_e rfl rfl ?_)) (by repeat' (first | exact ro_nil | refine ro_p rfl (by first | exact rfl | fail) zq5 ?_)) rfl rfl rfl zq4 zq3 (by exact nle rfl)⟩ rfl
end Go.Lg
namespace Go.Lg
theorem sO : (∀ {α : Type} {β : Type} (b : α) (f : α -> β), (some b).map f = some (f b)) /\
 (∀ {α : Type} {β : Type} (f : α -> β), (none : Option α).map f = none) /\
 (∀ {π : Nat -> Nat} {l : List AV}, bdL 0 l = true -> renL π l = l) /\
 (∀ {π : Nat -> Nat} {x : AV}, x.bd 0 = true -> x.ren π = x) /\
 (∀ (n : Nat) (l : List Bool), bdL n (l.map boolA) = true) /\
 (∀ (n : Nat) (l : List Int), bdL n (l.map intA) = true) /\
 (∀ (n : Nat) (l : List ByteArray), bdL n (l.map strA) = true) /\
 (∀ (n : Nat) (x : Bool), (boolA x).bd n = true) /\
 (∀ (n : Nat) (x : Int), (intA x).bd n = true) /\
 (∀ (n : Nat) (x : ByteArray), (strA x).bd n = true) /\
 (∀ (n : Nat) (l : List Int), (intsA l).bd n = true) /\
 (∀ (n : Nat) (l : List ByteArray), (strsA l).bd n = true) /\
 (∀ {α : Type} {a : α} {us : List α}, (a :: us).length = us.length + 1) /\
 (∀ {α : Type}, ([] : List α).length = 0) /\
 (∀ {α : Type} {a : α} {us : List α} {d : α}, (a :: us).getD 0 d = a) /\
 (∀ {α : Type} {a : α} {us : List α} {i : Nat} {d : α}, (a :: us).getD (i + 1) d = us.getD i d) /\
 (∀ n : Nat, ¬n < n) /\
 (∀ n : Nat, 0 < n.succ) /\
 (∀ n : Nat, n - 0 = n) /\
 (∀ n : Nat, n - n = 0) /\
 (∀ n : Nat, n + 0 = n) := ⟨@Option.map_some, @Option.map_none, @renL_pure, @ren_pure, bdL_boolA, bdL_intA, bdL_strA, bd_boolA, bd_intA, bd_strA, bd_intsA, bd_strsA, @List.length_cons, @List.length_nil, @List.getD_cons_zero, @List.getD_cons_succ, Nat.lt_irrefl, Nat.zero_lt_succ, Nat.sub_zero, Nat.sub_self, Nat.add_zero⟩
theorem RenL.of {π : Nat -> Nat} : ∀ {xs ys : List AV}, xs = renL π ys -> RenL π xs ys
 | xs, [], h => by subst h; exact .nil
 | xs, y :: ys, h => by subst h; exact .cons rfl (RenL.of rfl)
theorem Lend.o1 {n M : Nat} {l : List (Nat × AV)} {os : List (Nat × Option AObj)} {xs ys es es' : List AV} {i k : Nat} (h1 : xs = renL (ap [i]) ys) (h : lkO i os = some (.arr k es)) (he : es = renL (ap [i]) es') (hlt : Nat.blt i M = true) (h3 : bdL 1 ys = true) (h4 : bdL 1 es' = true) : Lend [i] (Lg.S n l M os) xs ys [.arr k es'] :=
 Lend.S (RenL.of h1) (.arr h he .nil) (by simp) (by simp [hlt]) h3 ⟨h4, trivial⟩
open Go.Proofs
attribute [local irreducible] Ap Rq asemC WP RunD Ret Gq thenA inBlockA bodyQ noGotoA RqL RqP OpP
attribute [local simp] AV.cells
theorem ren_rulesY (π : Nat -> Nat) (l : List Rul) : AV.ren π (rulesA l) = rulesA l := ren_pure (by simp)
theorem ren_boolsY (π : Nat -> Nat) (l : List Bool) : AV.ren π (boolsA l) = boolsA l := ren_pure (by simp)
instance : Inhabited (Tx × Tre) := ⟨([], .mk 0 0 [])⟩
theorem choA_bd (n : Nat) (c : Tx × Tre) : (choA c).bd n = true := by simp [choA, AV.bd, bdL]
@[simp] theorem choL_bd (n : Nat) (l : List (Tx × Tre)) : bdL n (l.map choA) = true := bdL_map (choA_bd n) l
def chsA (l : List (Tx × Tre)) : AV := .sl 4 (l.map choA)
@[simp] theorem bd_chsA (n : Nat) (l : List (Tx × Tre)) : (chsA l).bd n = true := choL_bd n l
theorem tx_len (t : Tx) : (tx t).size = t.length := by rw [<- bl_len, bl_tx]
theorem resT_fine (g : Gram) (s : ByteArray) (pr : List Bool) (p : PT Tre) : (resT g s pr p).fine 1 := by
 cases p with
 | ok t a => exact ⟨Nat.le_refl _, bd_treA _ _⟩
 | err e => trivial
theorem resC_fine (g : Gram) (s : ByteArray) (pr : List Bool) (p : PT Tre) : (resC g s pr p).fine 1 := by
 cases p with
 | ok t a => exact ⟨Nat.le_refl _, rfl⟩
 | err e => trivial
theorem choose_fn (g : Gram) (s : ByteArray) (a : Nat) (pr : List Bool) (l : List (Tx × Tre)) (hs : s.size <= 1000000) (ha : a <= 1000000) (hl : ∀ c, c ∈ l -> c.1.length <= 1000000) :
  FnP Tryd.prog 52 [.ptr 0 7 0 0, chsA l] [rdT g s a pr] (resC g s pr (chooseT ((bl s).drop a) a l 0)) := by
 have hfine := resC_fine g s pr (chooseT ((bl s).drop a) a l 0)
 have hcm := fun (c : Tx × Tre) (hc : c ∈ l) => common_fn g s a pr (tx c.1) hs ha (by rw [tx_len]; exact hl c hc)
 unfold rdT at *
 unfold chsA
 refine FnP.intro ?_ (by kernel_rfl) Tryd.func52 rfl rfl Tryd.ntmps52 (by exact nle rfl) ?_; rotate_left; intro Γ hm
 ·refine wp_lens 1 rfl fun hll => ?_
  have hll : l.length <= 9223372036854775807 := by have := hll; simp [AV.lens] at this; omega
  (repeat' (first | apply jA | apply jF | apply jH | (refine rgC 0 ?_; (refine se_alloc rfl ?_); apply jW) | (refine rgC 1 ?_; (refine sassign rfl ?_); apply jW) | (refine rgC 2 ?_; (refine smove rfl ?_); (refine slenm rfl rfl ?_); (refine smove rfl ?_); apply jW)))
  refine wp_loop (fun (x : Nat × Nat) => x.1 <= l.length /\ x.2 <= 1000000 /\ chooseT ((bl s).drop a) a (l.drop x.1) x.2 = chooseT ((bl s).drop a) a l 0) (fun x => l.length - x.1)
   (fun x => (S 45 [(0, .ptr 0 7 0 0), (4, .ptr 1 3 0 0), (5, intA (x.2 : Nat)), (9, .sl 4 (l.map choA)), (10, intA (l.length : Nat)), (11, intA (x.1 : Nat))] 2 [(0, some (.arr 7 [.agg [strsA g.terms, strsA g.nonterms, intA g.start, rulesA g.rules, strA s, intA a, boolsA pr]])), (1, some (.arr 3 [.agg [intA 0, intA 0, .val (.slice none 0 0)]]))])) (0, 0) ⟨[0, 1], ToR.S rfl (by repeat' (first | exact rt_nil | refine rt_t rfl rfl ?_ | refine rt_e rfl rfl ?_ | refine rt_p rfl rfl (by first | (simp [AV.bd, bdL, bdL_append]; done) | fail) ?_)) (by repeat' (first | exact ro_nil | refine ro_e rfl rfl ?_ | refine ro_p rfl (by first | exact rfl | fail) zq5 ?_)) rfl (by (rw [hm]; exact rfl)) rfl zq4 (by repeat' (first | exact True.intro | exact rfl | refine And.intro ?_ ?_ | (simp [bdOq, bdL, bdL_append, AV.bd]; done))) (by (rw [hm]; exact nle rfl))⟩ ⟨Nat.zero_le _, Nat.zero_le _, rfl⟩ ?_
  rintro ⟨i, b⟩ ⟨hi, hb, hC⟩
  simp only at hi hb hC ⊢
  by_cases hlt : i < l.length
  ·have hd : l.drop i = nth l i :: l.drop (i + 1) := by rw [List.drop_eq_getElem_cons hlt, nth_eq hlt]
   have hc0 := hcm _ (nth_mem hlt)
   have hcl := hl _ (nth_mem hlt)
   have hle := (lcp_le (nth l i).1 ((bl s).drop a)).1
   have hsz := tx_len (nth l i).1
   rw [bl_tx] at hc0
   rw [hd, chooseT] at hC
   have hch : choA (nth l i) = .agg [strA (tx (nth l i).1), intA (nth l i).2.rule, intA (nth l i).2.term, .val (.slice none 0 0)] := rfl
   by_cases hf : lcp (nth l i).1 ((bl s).drop a) = (nth l i).1.length
   ·rw [if_pos hf] at hC
    rw [hf] at hc0
    have hr : resC g s pr (.ok (nth l i).2 (a + (nth l i).1.length)) = .ok (.agg [intA (nth l i).2.rule, intA (nth l i).2.term, .val (.slice none 0 0)]) [some (.arr 7 [.agg [strsA g.terms, strsA g.nonterms, intA g.start, rulesA g.rules, strA s, intA ((a : Int) + ((nth l i).1.length : Nat)), boolsA pr]])] := by
     rw [<- Int.natCast_add]; rfl
    rw [<- hC, hr]
    (repeat' (first | apply jA | apply jF | apply jH | apply jI | apply jK | apply jM | apply jO | (refine wp_cond rfl (fun hc => ?_) (fun hc => ?_) <;> (try simp only [sB, ne_eq, reduceCtorEq] at hc) <;> (try (exfalso; omega))) | (refine rgC 3 ?_; (refine slss rfl rfl ?_); apply jW) | (refine rgC 4 ?_; (refine sidxn rfl rfl (by omega) ?_); (refine sloadw rfl rfl ?_); (refine se_alloc rfl ?_); (refine se_store_b rfl rfl rfl rfl ?_); apply jW) | (refine rgC 5 ?_; (refine smove rfl ?_); (refine sfieldp rfl rfl rfl ?_); (refine sloadp rfl rfl rfl rfl ?_); (refine sc_o [0] rfl rfl (hc0) (Lend.S (by first | ((repeat' first | exact RenL.nil | refine RenL.cons rfl ?_); done) | fail) zq2 (by decide) rfl (by simp [AV.bd, bdL, bdL_append]) (by repeat' (first | exact True.intro | refine And.intro ?_ ?_ | simp [AV.bd, bdL, bdL_append]))) ?_; simp only [updN, newO, AObj.ren, renL, AV.ren, apx, ap, if_true, if_false, Nat.reduceLT, Nat.reduceAdd, Nat.reduceSub, sO, intA, boolA, strA, ren_rulesY, ren_boolsY]); (refine sassign rfl ?_); apply jW) | (refine rgC 6 ?_; (refine smove rfl ?_); (refine sfieldp rfl rfl rfl ?_); (refine sloadp rfl rfl rfl rfl ?_); (refine su (alenstr rfl rfl) ?_); (refine seql rfl rfl ?_); apply jW) | (refine rgC 7 ?_; (refine smove rfl ?_); (refine snilc rfl ?_); (refine sfieldp rfl rfl rfl ?_); (refine sloadp rfl rfl rfl rfl ?_); (refine smove rfl ?_); (refine sadd rfl rfl (by exact inr_i64_of (by omega)) ?_); (refine snilc rfl ?_); (refine sfieldp rfl rfl rfl ?_); (refine se_store_b rfl rfl rfl rfl ?_); apply jW) | (refine rgC 8 ?_; (refine sfieldp rfl rfl rfl ?_); (refine sloadp rfl rfl rfl rfl ?_); (refine se_store_b rfl rfl rfl rfl ?_); apply jW)))
    ·refine bp_r rfl ?_
     refine retO_L (x := .agg [intA (nth l i).2.rule, intA (nth l i).2.term, .val (.slice none 0 0)]) (k := 1) (os1 := [(0, some (.arr 7 [.agg [strsA g.terms, strsA g.nonterms, intA g.start, rulesA g.rules, strA s, intA ((a : Int) + ((nth l i).1.length : Nat)), boolsA pr]]))]) (.cellT rfl rfl rfl rfl .nil) rfl ⟨[0], ToR.S rfl (by repeat' (first | exact rt_nil | refine rt_e rfl rfl ?_)) (by repeat' (first | exact ro_nil | refine ro_p rfl (by first | exact rfl | fail) zq5 ?_)) rfl rfl rfl zq4 zq3 (by exact nle rfl)⟩ rfl
    all_goals (exfalso; omega)
   ·rw [if_neg hf] at hC
    (repeat' (first | apply jA | apply jF | apply jH | apply jI | apply jN | (refine wp_cond rfl (fun hc => ?_) (fun hc => ?_) <;> (try simp only [sB, ne_eq, reduceCtorEq] at hc) <;> (try (exfalso; omega))) | (refine rgC 3 ?_; (refine slss rfl rfl ?_); apply jW) | (refine rgC 4 ?_; (refine sidxn rfl rfl (by omega) ?_); (refine sloadw rfl rfl ?_); (refine se_alloc rfl ?_); (refine se_store_b rfl rfl rfl rfl ?_); apply jW) | (refine rgC 5 ?_; (refine smove rfl ?_); (refine sfieldp rfl rfl rfl ?_); (refine sloadp rfl rfl rfl rfl ?_); (refine sc_o [0] rfl rfl (hc0) (Lend.S (by first | ((repeat' first | exact RenL.nil | refine RenL.cons rfl ?_); done) | fail) zq2 (by decide) rfl (by simp [AV.bd, bdL, bdL_append]) (by repeat' (first | exact True.intro | refine And.intro ?_ ?_ | simp [AV.bd, bdL, bdL_append]))) ?_; simp only [updN, newO, AObj.ren, renL, AV.ren, apx, ap, if_true, if_false, Nat.reduceLT, Nat.reduceAdd, Nat.reduceSub, sO, intA, boolA, strA, ren_rulesY, ren_boolsY]); (refine sassign rfl ?_); apply jW) | (refine rgC 6 ?_; (refine smove rfl ?_); (refine sfieldp rfl rfl rfl ?_); (refine sloadp rfl rfl rfl rfl ?_); (refine su (alenstr rfl rfl) ?_); (refine seql rfl rfl ?_); apply jW) | (refine rgC 9 ?_; (refine smove rfl ?_); (refine smove rfl ?_); (refine su (amax rfl rfl) ?_); (refine sassign rfl ?_); apply jW) | (refine rgC 10 ?_; (refine sadd rfl rfl (by exact inr_i64_of (by omega)) ?_); (refine smove rfl ?_); apply jW)))
    ·refine ⟨(i + 1, max b (lcp (nth l i).1 ((bl s).drop a))), ⟨by simp only; omega, by simp only; omega, by simp only; omega, hC⟩, ?_⟩
     simp only
     rw [show ((max b (lcp (nth l i).1 ((bl s).drop a)) : Nat) : Int) = max (b : Int) (lcp (nth l i).1 ((bl s).drop a) : Nat) by omega]
     exact ⟨[0, 1], ToR.S rfl (by repeat' (first | exact rt_nil | refine rt_t rfl rfl ?_ | refine rt_e rfl rfl ?_ | refine rt_p rfl rfl (by first | (simp [AV.bd, bdL, bdL_append]; done) | fail) ?_)) (by repeat' (first | exact ro_nil | refine ro_e rfl rfl ?_ | refine ro_p rfl (by first | exact rfl | fail) zq5 ?_)) rfl (by (rw [hm]; exact rfl)) rfl zq4 (by repeat' (first | exact True.intro | exact rfl | refine And.intro ?_ ?_ | (simp [bdOq, bdL, bdL_append, AV.bd]; done))) (by (rw [hm]; exact nle rfl))⟩
  ·rw [List.drop_of_length_le (l := l) (by omega), chooseT] at hC
   have hr : resC g s pr (.err (a + b)) = .die (synY ((a : Int) + (b : Int))) := by rw [<- Int.natCast_add]; rfl
   rw [<- hC, hr]
   (repeat' (first | apply jA | apply jH | apply jJ | apply jL | apply jP | (refine wp_cond rfl (fun hc => ?_) (fun hc => ?_) <;> (try simp only [sB, ne_eq, reduceCtorEq] at hc) <;> (try (exfalso; omega))) | (refine rgC 3 ?_; (refine slss rfl rfl ?_); apply jW) | (refine wpl_region (id := 11) ?_; (refine wpl_step rfl ?_); (refine smove rfl ?_); (apply jW); (refine wpl_step rfl ?_); (refine snilc rfl ?_); (apply jW); (refine wpl_step rfl ?_); (refine sfieldp rfl rfl rfl ?_); (apply jW); (refine wpl_step rfl ?_); (refine sloadp rfl rfl rfl rfl ?_); (apply jW); (refine wpl_step rfl ?_); (refine smove rfl ?_); (apply jW); (refine wpl_step rfl ?_); (refine sadd rfl rfl (by exact inr_i64_of (by omega)) ?_); (apply jW); (refine wpl_step rfl ?_); (refine se_iface rfl (by kernel_rfl) (by kernel_rfl) ?_); (apply jW); (refine wpl_panic rfl ?_))))
   all_goals exact bp_p rfl
 ·exact hfine
end Go.Lg
