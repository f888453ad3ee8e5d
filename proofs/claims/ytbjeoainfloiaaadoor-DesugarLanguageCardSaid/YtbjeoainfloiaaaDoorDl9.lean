/-
  Part 9 of the proof of DesugarLanguageCard: the logic over the model, the functions' contracts and the plain laws.
-/
import Derived.Test.YtbjeoainfloiaaaDoorDl8
import Derived.Test.YtbjeoainfloiaaaDoorRows

set_option linter.unusedSimpArgs false
set_option linter.unusedVariables false
set_option linter.unusedSectionVars false
set_option linter.defProp false

namespace Go.Lg
open Go.Proofs Go.RowKit Go.ChangeShapes Go.WideShapes
def SzOk (s : ByteArray) : Prop := s.size ≤ 9223372036854775807
mutual
def GEx.fit : GEx → Prop
  | .mk _ n l => SzOk n ∧ GEx.fitL l
def GEx.fitL : List GEx → Prop
  | [] => True
  | e :: l => e.fit ∧ GEx.fitL l
end
theorem GEx.fitL_iff : ∀ {l : List GEx}, GEx.fitL l ↔ ∀ e, e ∈ l → e.fit
  | [] => by simp [GEx.fitL]
  | e :: l => by simp [GEx.fitL, GEx.fitL_iff (l := l)]
theorem GEx.fit_iff {e : GEx} : e.fit ↔ SzOk e.name ∧ ∀ k, k ∈ e.kids → k.fit := by cases e; rw [GEx.fit, GEx.fitL_iff]; rfl
def GLe.fit (l : GLe) : Prop := ∀ t, t ∈ l.tokens → SzOk t
def GRu.fit (r : GRu) : Prop := SzOk r.name ∧ ∀ a, a ∈ r.alts → a.body.fit
def GFi.fit (f : GFi) : Prop := SzOk f.start ∧ (∀ l, l ∈ f.levels → l.fit) ∧ ∀ r, r ∈ f.rules → r.fit
theorem map_val {α : Type} {p : α → Prop} (f : α → AV) (l : List {x : α // p x}) : l.map (fun x => f x.1) = (l.map Subtype.val).map f := by rw [List.map_map]; rfl
theorem val_ok {α : Type} {p : α → Prop} (l : List {x : α // p x}) : ∀ x, x ∈ l.map Subtype.val → p x := by
  intro x hx; obtain ⟨y, _, rfl⟩ := List.mem_map.1 hx; exact y.2
instance dat_int_i : Dat Tryd.prog 3 intA := dat_int (k := .i64) (by kernel_rfl)
theorem dat_stringB {P : Program} {t : TypeId} (ht : P.underlying t = some .string) : Dat P t (fun s : {s : ByteArray // SzOk s} => strA s.1) := ⟨fun h => by
  obtain ⟨n, rfl, rfl, hs⟩ := DataW.trod_string ht h
  exact ⟨⟨n, by unfold maxLen at hs; simp only [SzOk]; omega⟩, CR.one (.val rfl) rfl⟩⟩
instance dat_str_i : Dat Tryd.prog 9 (fun s : {s : ByteArray // SzOk s} => strA s.1) := dat_stringB (by kernel_rfl)
theorem datb_expr : ∀ m, DatB Tryd.prog 56 (fun e : {e : GEx // e.fit} => exprA e.1) m := by
  intro m
  induction m using Nat.strongRecOn with
  | _ m ih =>
    match m with
    | 0 => exact .zero
    | m + 1 =>
      refine datb_fields (l := [(3, 0), (9, 1), (54, 2)]) (mm := 3) (by kernel_rfl) (by kernel_rfl) fun {H} {enc} {w} {n} {cs} hn hc ⟨h0, h1, h2, _⟩ => ?_
      have hsl : DatB Tryd.prog 54 (fun l : List {e : GEx // e.fit} => AV.sl 3 (l.map fun e => exprA e.1)) (n + 1) :=
        datb_slice (e := 56) (k := 3) (by kernel_rfl) (by kernel_rfl) (by decide) (fun _ => rfl) (ih n (by omega))
      obtain ⟨a0, h0⟩ := fieldn_dat h0 (k := 1) (by kernel_rfl)
      obtain ⟨a1, h1⟩ := fieldn_dat h1 (k := 1) (by kernel_rfl)
      obtain ⟨a2, h2⟩ := fieldb_dat hsl (Nat.lt_succ_self _) h2 (k := 1) (by kernel_rfl)
      refine ⟨⟨.mk a0 a1.1 (a2.map Subtype.val), GEx.fit_iff.2 ⟨a1.2, val_ok a2⟩⟩, ?_⟩
      rw [map_val] at h2
      show CW0 w (exprA (.mk a0 a1.1 (a2.map Subtype.val))).cells _
      rw [exprA_eq]
      exact CR.seg h0 (CR.seg h1 (CR.seg h2 (CR.fin (by omega))))
instance dat_expr_i : Dat Tryd.prog 56 (fun e : {e : GEx // e.fit} => exprA e.1) := Dat.ofB datb_expr
instance dat_alt_i : Dat Tryd.prog 58 (fun a : {a : GAl // a.body.fit} => altA a.1) := dat_fields (l := [(56, 0), (3, 3)]) (m := 4) (by kernel_rfl) (by kernel_rfl) fun hc ⟨h0, h1, _⟩ => by
  obtain ⟨a0, h0⟩ := field_dat h0 (n := 3) (by kernel_rfl)
  obtain ⟨a1, h1⟩ := field_dat h1 (n := 1) (by kernel_rfl)
  exact ⟨⟨⟨a0.1, a1⟩, a0.2⟩, CR.seg h0 (CR.seg h1 (CR.fin (by omega)))⟩
instance dat_alts_i : Dat Tryd.prog 49 (fun l : List {a : GAl // a.body.fit} => .sl 4 (l.map fun a => altA a.1)) := dat_slice (e := 58) (k := 4) (by kernel_rfl) (by kernel_rfl) (by decide) (fun _ => rfl)
instance dat_grule_i : Dat Tryd.prog 51 (fun r : {r : GRu // r.fit} => gruleA r.1) := dat_fields (l := [(9, 0), (49, 1)]) (m := 2) (by kernel_rfl) (by kernel_rfl) fun hc ⟨h0, h1, _⟩ => by
  obtain ⟨a0, h0⟩ := field_dat h0 (n := 1) (by kernel_rfl)
  obtain ⟨a1, h1⟩ := field_dat h1 (n := 1) (by kernel_rfl)
  rw [map_val] at h1
  exact ⟨⟨⟨a0.1, a1.map Subtype.val⟩, a0.2, val_ok a1⟩, CR.seg h0 (CR.seg h1 (CR.fin (by omega)))⟩
instance dat_grules_i : Dat Tryd.prog 23 (fun l : List {r : GRu // r.fit} => .sl 2 (l.map fun r => gruleA r.1)) := dat_slice (e := 51) (k := 2) (by kernel_rfl) (by kernel_rfl) (by decide) (fun _ => rfl)
set_option maxRecDepth 20000
theorem ownk : ownKnob Tryd.prog.godebug = none := by kernel_rfl
theorem laidk : laidOutB Tryd.prog = true := by kernel_rfl
theorem agg_file : ∃ fs, Tryd.prog.underlying 25 = some (.struct fs) := by
  have h : ((Tryd.prog.underlying 25).map fun d => match d with | .struct _ => true | _ => false) = some true := by kernel_rfl
  cases hu : Tryd.prog.underlying 25 with
  | none => rw [hu] at h; cases h
  | some d => rw [hu] at h; cases d <;> first | exact ⟨_, rfl⟩ | cases h
end Go.Lg
