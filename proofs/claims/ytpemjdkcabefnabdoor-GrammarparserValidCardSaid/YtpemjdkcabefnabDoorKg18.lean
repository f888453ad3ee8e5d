/-
  Part 18 of the proof of GrammarparserValidCard: the logic over the model, the functions' contracts and the plain laws.
-/
import Derived.Test.YtpemjdkcabefnabDoorKg17
import Derived.Shelf.RegionOpenPlain

set_option linter.unusedSimpArgs false
set_option linter.unusedVariables false
set_option linter.unusedSectionVars false
set_option linter.defProp false

namespace Go.Lg
open Go.RowKit Go.Lib Go.Proofs
section
set_option maxHeartbeats 2000000
set_option maxRecDepth 100000
theorem BFr.freeze (w : World) (b g n : Nat) : BFr w (w.drew.freeze ⟨g, 0, none⟩ n) b (some g) := by
  have hh : ∀ k, k ≠ g → (w.drew.freeze ⟨g, 0, none⟩ n).heap[k]? = w.heap[k]? := fun k hk => by
    unfold World.freeze
    split
    · rfl
    · simp only [Array.getElem?_modify, if_neg (Ne.symm hk)]; rfl
  refine ⟨?_, ?_, ?_, ?_, fun k hk hkb hkr => hh k (fun e => hkr (by rw [e])), fun k m hm => ?_⟩
  · unfold World.freeze; split <;> rfl
  · unfold World.freeze; split <;> rfl
  · unfold World.freeze; split <;> rfl
  · unfold World.freeze; split <;> simp
  · by_cases e : k = g
    · subst e
      unfold World.freeze
      split
      · exact hm
      · have hlt := csize_lt hm
        unfold Lg.csize at hm ⊢
        have hd : w.drew.heap = w.heap := rfl
        simp only [Array.getElem?_modify, hd, if_true]
        cases hq : w.heap[k]? with
        | none => rw [hq] at hm; exact hm
        | some o =>
          rw [hq] at hm
          cases o <;> simp_all
    · unfold Lg.csize at *; rw [hh k e]; exact hm
theorem bstr_calls (b : Nat) (w : World) {T : TypeId} {p v : Value} (hb : w.heap[b]? = some (.cells #[p, v] T (0, 0))) {l : List UInt8} (h0 : l ≠ []) (hown : w.ownsRow 0 GB 1 v l.length (byteCells l)) :
    Calls Tryd.prog 19 #[.pointer (some ⟨b, 0, none⟩)] w fun e w' => e = .returned (.string ⟨l.toArray⟩) ∧ BFr w w' b v.ownBlock := by
  have hl0 : l.length ≠ 0 := by simpa using h0
  rcases hown.2 with ⟨_, hz⟩ | ⟨g, cap, cur, rfl, hbg, hg, hnc, hcm, hcs, htake⟩
  · exact absurd hz hl0
  have c1 : w.drew.cell? ⟨b, 1, none⟩ = some (.slice (some ⟨g, 0, none⟩) l.length cap) := by
    have : w.drew.heap[b]? = some (.cells #[p, .slice (some ⟨g, 0, none⟩) l.length cap] T (0, 0)) := hb
    rw [cell_at this]; rfl
  have hSD : (Builtin.unsafeSliceData_ #[53] 91 #[.slice (some ⟨g, 0, none⟩) l.length cap]).run Tryd.prog w.drew = .ok (.pointer (some ⟨g, 0, none⟩)) w.drew :=
    Lib.run_unsafeSliceData_row _ _ _ _ _ _ (by omega)
  have hUS : (Builtin.unsafeString_ #[91, 3] 9 #[.pointer (some ⟨g, 0, none⟩), .int .i64 l.length]).run Tryd.prog w.drew = .ok (.string ⟨l.toArray⟩) (w.drew.freeze ⟨g, 0, none⟩ l.length) := by
    refine Lib.run_unsafeString_row w.drew 91 3 9 GB Tryd.underlying91 (by kernel_rfl) g cur.size (by have hg' : w.drew.heap[g]? = some (.cells cur GB (0, 0)) := hg; simp [World.shape?, hg']) l h0 (by omega) (by unfold maxLen at hcm; omega) ?_
    intro j x hx
    have := hown.cells (g := g) rfl j (.int .u8 x.toNat) (by simp [byteCells, hx])
    exact this
  go_enter Tryd.func19, Tryd.ntmps19
  have hmx := mixed
  go_wp2
  go_region_o
  all_goals (go_wp2; go_ret; exact ⟨rfl, BFr.freeze w b g l.length⟩)
end
end Go.Lg

namespace Go.Lg
open Go.RowKit Go.Lib Go.Proofs
structure BldIn (Γ : Cx) (w : World) (T : TypeId) (l : List UInt8) (b : Nat) (p v : Value) : Prop where
  blk : w.heap[b]? = some (.cells #[p, v] T (0, 0))
  hp : p = .pointer none ∨ p = .pointer (some ⟨b, 0, none⟩)
  own : w.ownsRow 0 GB 1 v l.length (byteCells l)
  ne : v.ownBlock ≠ some b
  r0 : Γ.ρ0 0 = some b
  r1 : Γ.ρ0 1 = v.ownBlock
theorem bytes_take {cs : Array Value} {l : List UInt8} (h : l.length ≤ cs.size) (hc : ∀ (j : Nat) x, l[j]? = some x → cs[j]? = some (.int .u8 x.toNat)) : cs.toList.take l.length = byteCells l := by
  apply List.ext_getElem?
  intro j
  rw [List.getElem?_take]
  by_cases hj : j < l.length
  · rw [if_pos hj]
    have := hc j l[j] (List.getElem?_eq_getElem hj)
    simp only [byteCells, List.getElem?_map, List.getElem?_eq_getElem hj, Option.map_some]
    simpa using this
  · rw [if_neg hj, List.getElem?_eq_none (by rw [byteCells_length]; omega)]
theorem bld_in {Γ : Cx} (hm : Γ.m = 2) {T : TypeId} {l : List UInt8} {args : List AV} {vs : Array Value} {v0 : Value} (h : SR Γ ⟨.ptr 0 2 0 0 :: args, [some (.bld T (.ref 1 1 0 l.length)), some (.bytes l)]⟩ ⟨vs, []⟩ Γ.w0) (hv : vs[0]? = some v0) :
    ∃ b p v, v0 = .pointer (some ⟨b, 0, none⟩) ∧ BldIn Γ Γ.w0 T l b p v := by
  obtain ⟨ρ, h⟩ := h
  have h0 := h.tmp 0 _ v0 rfl hv
  have e0 := (h.ext 0 (by omega)).2
  have e1 := (h.ext 1 (by omega)).2
  have o0 := h.obj 0 _ (show St.live _ 0 (.bld T (.ref 1 1 0 l.length)) from rfl)
  have o1 := h.obj 1 _ (show St.live _ 1 (.bytes l) from rfl)
  have hinj := h.inj 0 1 (.bld T (.ref 1 1 0 l.length)) (.bytes l)
  cases h0 with
  | @ptr _ _ _ _ b hA hb =>
    rw [hb] at o0
    obtain ⟨p, v, q1, q2, q3, q4⟩ := o0
    refine ⟨b, p, v, rfl, ?_⟩
    generalize hgen : l.length = n at q4
    cases q4 with
    | @ref _ _ _ _ cap g _ hg hl hcs hcm =>
      rw [hg] at o1
      obtain ⟨cs, r1, r2, r3⟩ := o1
      have hcz : cs.size = cap := by simp [csize, r1] at hcs; exact hcs
      subst hgen
      refine ⟨q1, q2, ⟨by simp [byteCells_length], .inr ⟨g, cap, cs, by simp, Nat.zero_le _, r1, hl, hcm, by omega, ?_⟩⟩, ?_, by rw [← e0]; exact hb, by rw [← e1]; simpa [Value.ownBlock] using hg⟩
      · rw [Nat.mul_one]; exact bytes_take r2 r3
      · intro e
        simp only [Value.ownBlock, Option.some.injEq] at e
        subst e
        have := hinj g rfl rfl hb hg
        cases this
    | @refn _ _ _ hn =>
      rw [hn] at o1
      have hl : l = [] := by
        rcases o1 with q | ⟨k, q⟩
        · injection q
        · cases q
      subst hl
      exact ⟨q1, q2, ⟨rfl, .inl ⟨rfl, rfl⟩⟩, by simp [Value.ownBlock], by rw [← e0]; exact hb, by rw [← e1]; exact hn⟩
theorem BFr.fr {Γ : Cx} {w' : World} {T : TypeId} {l : List UInt8} {b : Nat} {p v : Value} (hi : BldIn Γ Γ.w0 T l b p v) (hm : Γ.m = 2) (h : BFr Γ.w0 w' b v.ownBlock) : Fr Γ w' :=
  ⟨h.size, h.os, h.tape, h.output, fun k hk hne => h.block k hk (fun e => hne 0 (by omega) (by rw [hi.r0, e])) (fun e => hne 1 (by omega) (by rw [hi.r1, e])), h.csize⟩
theorem wstr_spec (T : TypeId) (hT : BLies T) (l : List UInt8) (s : ByteArray) (hn : l.length + s.size ≤ 140737488355328) :
    Spec Tryd.prog 15 [.ptr 0 2 0 0, strA s] [some (.bld T (.ref 1 1 0 l.length)), some (.bytes l)] fun r os' => r = .tup [.val (.int .i64 s.size), .val .nilIface] ∧ os' = [some (.bld T (.ref 2 1 0 (l.length + s.size))), none, some (.bytes (l ++ s.data.toList))] := by
  refine ⟨by kernel_rfl, fun Γ vs hm hs => ?_⟩
  have hm2 : Γ.m = 2 := hm
  have hlen : vs.size = 2 := by obtain ⟨ρ, h⟩ := hs; exact h.len
  have hv0 := Array.getElem?_eq_getElem (show 0 < vs.size by omega)
  have hv1 := Array.getElem?_eq_getElem (show 1 < vs.size by omega)
  obtain ⟨b, p, v, hp0, hi⟩ := bld_in hm2 hs hv0
  have h1 : vs[1] = .string s := by obtain ⟨ρ, h⟩ := hs; exact (h.tmp 1 _ _ rfl hv1).val_eq
  have hvs : vs = #[.pointer (some ⟨b, 0, none⟩), .string s] := by
    apply Array.ext
    · exact hlen
    · intro i h1' h2'
      match i with
      | 0 => exact hp0
      | 1 => exact h1
      | i + 2 => exact absurd h2' (by simp)
  subst hvs
  refine (wstr_calls T hT b Γ.w0 hi.blk hi.hp hi.own hi.ne s hn).mono ?_
  rintro e w' ⟨rfl, v', hb', hown', hnb', hfr, hfresh⟩
  obtain ⟨ρ, h⟩ := hs
  refine ⟨_, _, _, rfl, ⟨rfl, rfl⟩, fun i => if i = 2 then v'.ownBlock else ρ i, ?_⟩
  have hxs : byteCells l ++ strCells s = byteCells (l ++ s.data.toList) := by rw [byteCells_append]; rfl
  rw [hxs] at hown'
  have hll : (l ++ s.data.toList).length = l.length + s.size := by simp
  have hrow : OR (fun id => id < 3) (fun i => if i = 2 then v'.ownBlock else ρ i) (Im Γ (fun i => if i = 2 then v'.ownBlock else ρ i) ⟨[.tup [.val (.int .i64 s.size), .val .nilIface]], [some (.bld T (.ref 2 1 0 (l.length + s.size))), none, some (.bytes (l ++ s.data.toList))]⟩ w') w' v'.ownBlock (.bytes (l ++ s.data.toList)) := by
    rcases hown'.2 with ⟨rfl, hz⟩ | ⟨g, cap, cur, rfl, _, hg, hnc, hcm, hcs, htake⟩
    · have hnil : l ++ s.data.toList = [] := List.eq_nil_of_length_eq_zero (by rw [hll]; exact hz)
      rw [hnil]; exact .inl rfl
    · refine ⟨cur, hg, by omega, fun j x hx => ?_⟩
      have hj : j < l.length + s.size := by rw [← hll]; exact (List.getElem?_eq_some_iff.1 hx).1
      have := congrArg (fun q => q[j]?) htake
      simp only [Nat.mul_one, List.getElem?_take, if_pos hj, byteCells, List.getElem?_map, hx, Option.map_some] at this
      simpa using this
  refine ⟨fun i hi' => ⟨show i < 3 by omega, (if_neg (by omega)).trans (h.ext i hi').2⟩, rfl, ?_, ?_, ?_, fun _ hid => hid, ?_, ?_, h.defers, hfr.fr hi hm2⟩
  · intro i x u hx hu
    match i with
    | 0 =>
      simp only [List.getElem?_cons_zero, Option.some.injEq] at hx
      simp at hu
      subst hx hu
      refine .tup rfl fun j y z hy hz => ?_
      match j with
      | 0 => simp at hy hz; subst hy hz; exact .val rfl
      | 1 => simp at hy hz; subst hy hz; exact .val rfl
      | j + 2 => simp at hy
    | i + 1 => simp at hx
  · intro id o hl
    match id with
    | 0 =>
      simp [St.live] at hl; subst hl
      have hr0 : ρ 0 = some b := (h.ext 0 (by omega)).2.trans hi.r0
      show OR _ _ _ _ (if (0 : Nat) = 2 then v'.ownBlock else ρ 0) _
      rw [if_neg (by decide), hr0]
      refine ⟨_, v', hb', .inr rfl, ?_, ?_⟩
      · rcases hown'.2 with ⟨rfl, _⟩ | ⟨g, cap, cur, rfl, _⟩ <;> rfl
      · rcases hown'.2 with ⟨rfl, hz⟩ | ⟨g, cap, cur, rfl, _, hg, hnc, hcm, hcs, htake⟩
        · rw [hz]; exact .refn (show (2 : Nat) < 3 by decide) rfl
        · exact .ref0 (show (2 : Nat) < 3 by decide) rfl hnc (by simp [csize, hg]; omega) hcm
    | 1 => simp [St.live] at hl
    | 2 => simp [St.live] at hl; subst hl; exact hrow
    | i + 3 => simp [St.live] at hl
  · intro id o hl
    have := (List.getElem?_eq_some_iff.1 hl).1
    simpa using this
  · intro id o c hl hc
    match id with
    | 0 =>
      have hc : ρ 0 = some c := hc
      exact .inr ⟨0, by omega, (h.ext 0 (by omega)).2 ▸ hc⟩
    | 1 => simp [St.live] at hl
    | 2 =>
      have hc : v'.ownBlock = some c := hc
      rcases hfresh with q | q
      · exact .inr ⟨1, by omega, by rw [hi.r1, ← q]; exact hc⟩
      · rw [q] at hc; injection hc with hc; exact .inl (by omega)
    | i + 3 => simp [St.live] at hl
  · intro id id' o o' c h1 h2 h3 h4
    have hr0 : ρ 0 = some b := (h.ext 0 (by omega)).2.trans hi.r0
    match id, id' with
    | 0, 0 => rfl
    | 2, 2 => rfl
    | 0, 2 => have h3 : ρ 0 = some c := h3; have h4 : v'.ownBlock = some c := h4; rw [hr0] at h3; rw [← h3] at h4; exact absurd h4 hnb'
    | 2, 0 => have h4 : ρ 0 = some c := h4; have h3 : v'.ownBlock = some c := h3; rw [hr0] at h4; rw [← h4] at h3; exact absurd h3 hnb'
    | 1, _ => simp [St.live] at h1
    | _, 1 => simp [St.live] at h2
    | i + 3, _ => simp [St.live] at h1
    | _, i + 3 => simp [St.live] at h2
theorem bstr_spec (T : TypeId) (l : List UInt8) (h0 : l ≠ []) :
    Spec Tryd.prog 19 [.ptr 0 2 0 0] [some (.bld T (.ref 1 1 0 l.length)), some (.bytes l)] fun r os' => r = strA ⟨l.toArray⟩ ∧ os' = [none, none] := by
  refine ⟨by kernel_rfl, fun Γ vs hm hs => ?_⟩
  have hm2 : Γ.m = 2 := hm
  have hlen : vs.size = 1 := by obtain ⟨ρ, h⟩ := hs; exact h.len
  have hv0 := Array.getElem?_eq_getElem (show 0 < vs.size by omega)
  obtain ⟨b, p, v, hp0, hi⟩ := bld_in hm2 hs hv0
  have hvs : vs = #[.pointer (some ⟨b, 0, none⟩)] := by
    apply Array.ext
    · exact hlen
    · intro i h1' h2'
      match i with
      | 0 => exact hp0
      | i + 1 => exact absurd h2' (by simp)
  subst hvs
  refine (bstr_calls b Γ.w0 hi.blk h0 hi.own).mono ?_
  rintro e w' ⟨rfl, hfr⟩
  obtain ⟨ρ, h⟩ := hs
  have nl : ∀ id o, ¬ St.live ⟨[strA ⟨l.toArray⟩], [none, none]⟩ id o := fun id o hl => by
    match id with
    | 0 => simp [St.live] at hl
    | 1 => simp [St.live] at hl
    | i + 2 => simp [St.live] at hl
  refine ⟨_, _, _, rfl, ⟨rfl, rfl⟩, ρ, fun i hi' => ⟨by simp; omega, (h.ext i hi').2⟩, rfl, ?_, fun id o hl => absurd hl (nl id o), fun id o hl => absurd hl (nl id o), fun _ hid => hid, fun id o _ hl => absurd hl (nl id o), fun id _ o _ _ hl => absurd hl (nl id o), h.defers, hfr.fr hi hm2⟩
  intro i x u hx hu
  match i with
  | 0 => simp only [List.getElem?_cons_zero, Option.some.injEq] at hx; simp at hu; subst hx hu; exact .val rfl
  | i + 1 => simp at hx
end Go.Lg

namespace Go.Lg
open Go.RowKit Go.Lib Go.Proofs
section
variable {P : Program} {Γ : Cx} {ρ : Nat → Option Nat} {s : St} {a : Act} {w : World}
def fbρ (M b0 : Nat) (ρ : Nat → Option Nat) (i : Nat) : Option Nat := if i = M then some b0 else if i = M + 1 then none else ρ i
theorem fbρ_lt {M b0 i : Nat} {ρ : Nat → Option Nat} (h : i < M) : fbρ M b0 ρ i = ρ i := by unfold fbρ; rw [if_neg (by omega), if_neg (by omega)]
theorem fbρ_M {M b0 : Nat} {ρ : Nat → Option Nat} : fbρ M b0 ρ M = some b0 := if_pos rfl
theorem fbρ_S {M b0 : Nat} {ρ : Nat → Option Nat} : fbρ M b0 ρ (M + 1) = none := by unfold fbρ; rw [if_neg (by omega), if_pos rfl]
theorem SRa.newBld {M : Nat} (h : SRa Γ (fun id => id < M) ρ s a w) (hM : s.objs.length = M) (T : TypeId) :
    SRa Γ (fun id => id < M + 2) (fbρ M w.heap.size ρ)
      ⟨s.tmps, s.objs ++ [some (.bld T (.ref (M + 1) 1 0 0)), some (.bytes [])]⟩ a (w.alloc (.cells #[.pointer none, .slice none 0 0] T)) := by
  have hlv : ∀ id o, St.live ⟨s.tmps, s.objs ++ [some (.bld T (.ref (M + 1) 1 0 0)), some (.bytes [])]⟩ id o → (s.live id o ∧ id < M) ∨ (id = M ∧ o = .bld T (.ref (M + 1) 1 0 0)) ∨ (id = M + 1 ∧ o = .bytes []) := by
    intro id o hl
    simp only [St.live] at hl
    by_cases h1 : id < M
    · rw [List.getElem?_append_left (by omega)] at hl; exact .inl ⟨hl, h1⟩
    · rw [List.getElem?_append_right (by omega), hM] at hl
      by_cases h2 : id = M
      · subst h2; simp at hl; exact .inr (.inl ⟨rfl, hl.symm⟩)
      · by_cases h3 : id = M + 1
        · subst h3; simp at hl; exact .inr (.inr ⟨rfl, hl.symm⟩)
        · have : (2 : Nat) ≤ id - M := by omega
          rw [List.getElem?_eq_none (by simpa using this)] at hl; cases hl
  have hA' : ∀ id, id < M → id < M + 2 ∧ fbρ M w.heap.size ρ id = ρ id := fun id hi => ⟨by omega, fbρ_lt hi⟩
  have hblk : ∀ id o b, s.live id o → ρ id = some b → b < w.heap.size := fun id o b hl hb => by
    have := h.obj id o hl
    rw [hb] at this
    cases o with
    | arr k es => obtain ⟨cs, t, h1, _⟩ := this; exact World.lt_of_block h1
    | map m => obtain ⟨cs, t, h1, _⟩ := this; exact World.lt_of_block h1
    | bytes l => obtain ⟨cs, h1, _⟩ := this; exact World.lt_of_block h1
    | bld T x => obtain ⟨p, v, h1, _⟩ := this; exact World.lt_of_block h1
  have hI : ∀ b, Im Γ ρ s w b → Im Γ (fbρ M w.heap.size ρ) ⟨s.tmps, s.objs ++ [some (.bld T (.ref (M + 1) 1 0 0)), some (.bytes [])]⟩ (w.alloc (.cells #[.pointer none, .slice none 0 0] T)) b ∧ (w.alloc (.cells #[.pointer none, .slice none 0 0] T)).heap[b]? = w.heap[b]? := by
    rintro b ⟨h1, h2, h3⟩
    refine ⟨⟨h1, by simp; omega, fun id o hl => ?_⟩, Below.heap_alloc _ _ _ h2⟩
    rcases hlv id o hl with ⟨q, hq⟩ | ⟨rfl, _⟩ | ⟨rfl, _⟩
    · rw [fbρ_lt hq]; exact h3 id o q
    · rw [fbρ_M]; simp; omega
    · rw [fbρ_S]; simp
  refine h.turn rfl hA' hI (csize_alloc w _) ?_ ?_ ?_ ?_ ?_ (h.fr.alloc _)
  · intro id o hl
    rcases hlv id o hl with ⟨q, hq⟩ | ⟨rfl, rfl⟩ | ⟨rfl, rfl⟩
    · rw [fbρ_lt hq]
      exact (h.obj id o q).mono hA' hI (csize_alloc w _) (fun c hc => Below.heap_alloc _ _ _ (hblk id o c q hc))
    · rw [fbρ_M]
      exact ⟨_, _, heap_alloc_new w _, .inl rfl, rfl, .refn (Nat.lt_succ_self _) fbρ_S⟩
    · rw [fbρ_S]; exact .inl rfl
  · intro id o hl
    rcases hlv id o hl with ⟨q, hq⟩ | ⟨rfl, rfl⟩ | ⟨rfl, rfl⟩ <;> omega
  · intro id hid; simp; omega
  · intro id o b hl hb
    rcases hlv id o hl with ⟨q, hq⟩ | ⟨rfl, rfl⟩ | ⟨rfl, rfl⟩
    · rw [fbρ_lt hq] at hb; exact h.own id o b q hb
    · rw [fbρ_M] at hb; injection hb with hb; subst hb; exact .inl h.fr.size
    · rw [fbρ_S] at hb; cases hb
  · intro id id' o o' b h1 h2 h3 h4
    rcases hlv id o h1 with ⟨q, hq⟩ | ⟨e, rfl⟩ | ⟨e, rfl⟩
    · rw [fbρ_lt hq] at h3
      have hlt := hblk _ _ _ q h3
      rcases hlv id' o' h2 with ⟨q', hq'⟩ | ⟨e', rfl⟩ | ⟨e', rfl⟩
      · rw [fbρ_lt hq'] at h4; exact h.inj id id' o o' b q q' h3 h4
      · rw [e', fbρ_M] at h4; injection h4 with h4; omega
      · rw [e', fbρ_S] at h4; cases h4
    · rw [e, fbρ_M] at h3; injection h3 with h3
      rcases hlv id' o' h2 with ⟨q', hq'⟩ | ⟨e', rfl⟩ | ⟨e', rfl⟩
      · rw [fbρ_lt hq'] at h4; have := hblk _ _ _ q' h4; omega
      · omega
      · rw [e', fbρ_S] at h4; cases h4
    · rw [e, fbρ_S] at h3; cases h3
end
section
variable {P : Program} {n M : Nat} {l : List (Nat × AV)} {os : List (Nat × Option AObj)} {a b f : Operand} {d : Tmp} {ty : TypeId} {pos : String} {af : Array Edge} {ops : Array Oper} {rest : List Oper} {K : St → Prop} {args : Array Operand} {xa first cap : List AV} {g : FuncId}
theorem ol_push2 (M : Nat) (os : List (Nat × Option AObj)) (x y : Option AObj) : ol M os ++ [x, y] = ol (M + 2) ((M + 1, y) :: (M, x) :: os) := by
  have e1 := ol_push M os x
  have e2 := ol_push (M + 1) ((M, x) :: os) y
  rw [← e2, ← e1]; simp
theorem se_bld {T : TypeId} {ti : TI} [ht : TIc P T ti] (hz : zeroA ti = some (.agg [.val (.pointer none), .val (.slice none 0 0)])) {ty2 : TypeId} (hk : asemC P ops rest (S n ((d, .ptr M 2 0 0) :: l) (M + 2) ((M + 1, some (.bytes [])) :: (M, some (.bld T (.ref (M + 1) 1 0 0))) :: os)) K) :
    asemC P ops (⟨some d, .alloc T, ty2, pos, af, none⟩ :: rest) (S n l M os) K := by
  simp only [asemC]
  refine .inr (.inr ⟨_, hk, fun Γ a w hs => ?_⟩)
  obtain ⟨ρ, hs⟩ := hs
  have hM : (S n l M os).objs.length = M := ol_length M os
  obtain ⟨zv, hrun, hzc, hcells, hall, hlen, h0, hst, _⟩ := zeroA_spec ht.h hz
  have hzv : zv.cells = #[.pointer none, .slice none 0 0] := by
    apply Array.ext'
    rw [hzc]
    have h2 : List.map AV.val [.pointer none, .slice none 0 0] = List.map AV.val ti.zero := hcells
    exact ((List.map_inj_right (fun x y h => AV.val.inj h)).1 h2).symm
  rw [hM] at hs
  have hnew := hs.newBld hM T
  have hp := hnew.put (some d) (x := .ptr M 2 0 0) (v := .pointer (some ⟨w.heap.size, 0, none⟩)) (.ptr (b := w.heap.size) (show M < M + 2 by omega) fbρ_M)
  have e : (⟨(S n l M os).tmps, (S n l M os).objs ++ [some (.bld T (.ref (M + 1) 1 0 0)), some (.bytes [])]⟩ : St).put (some d) (.ptr M 2 0 0) = S n ((d, .ptr M 2 0 0) :: l) (M + 2) ((M + 1, some (.bytes [])) :: (M, some (.bld T (.ref (M + 1) 1 0 0))) :: os) := by
    simp only [St.put, S, tl_set, ol_push2]
  rw [e] at hp
  have e2 : (S n ((d, .ptr M 2 0 0) :: l) (M + 2) ((M + 1, some (.bytes [])) :: (M, some (.bld T (.ref (M + 1) 1 0 0))) :: os)).objs.length = M + 2 := ol_length _ _
  refine ⟨.pointer (some ⟨w.heap.size, 0, none⟩), w.alloc (.cells #[.pointer none, .slice none 0 0] T), ?_, ⟨fbρ M w.heap.size ρ, ?_⟩⟩
  · simp [execOp, Instr.alloc, hrun, newVar, newRow, hzv]
  · rw [e2]; exact hp
structure Wr (P : Program) (g : FuncId) (ys : List AV) (T : TypeId) (bs out : List UInt8) (r : AV) : Prop where
  spec : Spec P g ys [some (.bld T (.ref 1 1 0 bs.length)), some (.bytes bs)] fun r' os' => r' = r ∧ os' = [some (.bld T (.ref 2 1 0 out.length)), none, some (.bytes out)]
  bd : r.bd 0 = true
  sc : r.scal = true
theorem sc_wr {T : TypeId} {i j m : Nat} {bs out : List UInt8} {r : AV} {ys : List AV} {tys : Array TypeId} (hf : opq n l f = some (.clo (.func g) first cap)) (has : opqL n l args.toList = some xa)
    (hL : ArgS (ap [i, j]) 2 (lookq M os) (first ++ xa ++ cap) ys) (hi : lkO i os = some (.bld T (.ref j 1 0 m))) (hj : lkO j os = some (.bytes bs)) (hm : bs.length = m) (hne : (Nat.beq i j) = false) (hlt : (Nat.blt i M && Nat.blt j M) = true) (hids : ((shown (first ++ xa ++ cap) ys).all fun id => !([i, j].contains id)) = true)
    (hspec : Wr P g ys T bs out r)
    (hk : asemC P ops rest (S n ((d, r) :: l) (M + 1) ((M, some (.bytes out)) :: (j, none) :: (i, some (.bld T (.ref M 1 0 out.length))) :: os)) K) :
    asemC P ops (⟨some d, .call ⟨.value f, args, tys⟩, ty, pos, af, none⟩ :: rest) (S n l M os) K := by
  subst hm
  simp only [asemC]
  refine .inl ?_
  have hM : (S n l M os).objs.length = M := ol_length M os
  have hlt' := hlt
  simp only [Bool.and_eq_true] at hlt
  have hi' := blt_of hlt.1
  have hj' := blt_of hlt.2
  have hij : i ≠ j := Nat.ne_of_beq_eq_false hne
  simp only [execA, opq_op hf, opqL_op has]
  have hlend : LendS [i, j] (S n l M os) (first ++ xa ++ cap) ys [.bld T (.ref 1 1 0 bs.length), .bytes bs] :=
    ⟨by rw [S_look']; exact hL, hids, LendO.wk (.bld hi rfl (.byt hj .nil)) (by simp [hlt.1, hlt.2]), by simp [hij], bdO_of ⟨by simp [AV.bd], trivial, trivial⟩⟩
  refine Call.show [i, j] hspec.spec hlend ?_ (fun r' os' h => h.1 ▸ hspec.sc)
  rintro r' os' ⟨rfl, rfl⟩
  refine ⟨by simp, hspec.bd, fun k o ho => ?_, ?_⟩
  · match k with
    | 0 => simp at ho; subst ho; rfl
    | 1 => simp at ho
    | 2 => simp at ho; subst ho; rfl
    | k + 3 => simp at ho
  · rw [ren_pure hspec.bd, hM]
    have e : (⟨(S n l M os).tmps, updO (apx M [i, j]) (S n l M os).objs [i, j] [some (.bld T (.ref 2 1 0 out.length)), none, some (.bytes out)]⟩ : St).put (some d) r' = S n ((d, r') :: l) (M + 1) ((M, some (.bytes out)) :: (j, none) :: (i, some (.bld T (.ref M 1 0 out.length))) :: os) := by
      have h2 : apx M [i, j] 2 = M := by simp [apx]
      simp only [updO, Option.map_some, Option.map_none, AObj.ren, AV.ren, h2, S, ol_set, List.map_cons, List.map_nil, ol_push, St.put, tl_set]
    rw [e]; exact hk
theorem sc_bstr {T : TypeId} {i j m : Nat} {bs : List UInt8} {tys : Array TypeId} (hf : opq n l f = some (.clo (.func 19) [] [])) (has : opqL n l args.toList = some [.ptr i 2 0 0])
    (hi : lkO i os = some (.bld T (.ref j 1 0 m))) (hj : lkO j os = some (.bytes bs)) (hm : bs.length = m) (hne : (Nat.beq i j) = false) (hlt : (Nat.blt i M && Nat.blt j M) = true) (h0 : bs ≠ [])
    (hk : asemC Tryd.prog ops rest (S n ((d, strA ⟨bs.toArray⟩) :: l) M ((j, none) :: (i, none) :: os)) K) :
    asemC Tryd.prog ops (⟨some d, .call ⟨.value f, args, tys⟩, ty, pos, af, none⟩ :: rest) (S n l M os) K := by
  subst hm
  simp only [asemC]
  refine .inl ?_
  have hM : (S n l M os).objs.length = M := ol_length M os
  simp only [Bool.and_eq_true] at hlt
  have hij : i ≠ j := Nat.ne_of_beq_eq_false hne
  simp only [execA, opq_op hf, opqL_op has]
  have hlend : Lend [i, j] (S n l M os) ([] ++ [.ptr i 2 0 0] ++ []) [.ptr 0 2 0 0] [.bld T (.ref 1 1 0 bs.length), .bytes bs] :=
    Lend.S (.cons rfl .nil) (.bld hi rfl (.byt hj .nil)) (by simp [hij]) (by simp [hlt.1, hlt.2]) rfl ⟨by simp [AV.bd], trivial, trivial⟩
  refine Call.via [i, j] (bstr_spec T bs h0) hlend ?_
  rintro r' os' ⟨rfl, rfl⟩
  refine ⟨by simp, rfl, ?_⟩
  rw [hM]
  have e : (⟨(S n l M os).tmps, updO (apx M [i, j]) (S n l M os).objs [i, j] [none, none]⟩ : St).put (some d) ((strA ⟨bs.toArray⟩).ren (apx M [i, j])) = S n ((d, strA ⟨bs.toArray⟩) :: l) M ((j, none) :: (i, none) :: os) := by
    simp only [updO, Option.map_none, S, ol_set, List.map_nil, List.append_nil, St.put, tl_set]; rfl
  rw [e]; exact hk
end
theorem wstr_wr (T : TypeId) (hT : BLies T) (l : List UInt8) (s : ByteArray) (hn : l.length + s.size ≤ 140737488355328) :
    Wr Tryd.prog 15 [.ptr 0 2 0 0, strA s] T l (l ++ s.data.toList) (.tup [.val (.int .i64 s.size), .val .nilIface]) :=
  ⟨by have h := wstr_spec T hT l s hn
      have e : (l ++ s.data.toList).length = l.length + s.size := by simp
      rw [e]; exact h, rfl, rfl⟩
theorem SR.val_out {Γ : Cx} {ρ : Nat → Option Nat} {A : Nat → Prop} {args : List AV} {us : Array Value} {w' : World} (h : SRa Γ A ρ ⟨args, []⟩ ⟨us, []⟩ Γ.w0) (hA : ∀ id, A id → id < 0) (hb : Below Γ.w0.heap.size Γ.w0 w') {v : Value} (hat : atom v = true) : SR Γ ⟨[.val v], []⟩ ⟨#[v], []⟩ w' := by
  refine ⟨ρ, fun i hi => absurd (hA i (h.ext i hi).1) (Nat.not_lt_zero i), rfl, fun i x u hx hu => ?_, fun id o hl => by simp [St.live] at hl, fun id o hl => by simp [St.live] at hl, fun id hid => hid, fun id o b hl => by simp [St.live] at hl, fun i j o o' b hl => by simp [St.live] at hl, h.defers, h.fr.below hb⟩
  match i with
  | 0 => simp at hx hu; subst hx hu; exact .val hat
  | i + 1 => simp at hx
theorem tab_is {w : World} (hw : GW w) : Lib.TabIs Tryd.prog w "internal/strconv.uint64pow10" .u64 Lib.pow10Tab := by
  have hp : ∃ p, p ∈ gtabs ∧ p.2 = (.u64, Lib.pow10Tab) ∧ Tryd.prog.globalNamed "internal/strconv.uint64pow10" = some p.1 := by
    refine ⟨gtabs.getD 2 (0, .u64, []), ?_, by decide +kernel, by kernel_rfl⟩
    simp [gtabs]
  obtain ⟨⟨i, k, zs⟩, hp1, hp2, hp3⟩ := hp
  obtain ⟨t, z, hh⟩ := hw.2 _ hp1
  simp only [Prod.mk.injEq] at hp2
  obtain ⟨rfl, rfl⟩ := hp2
  unfold Lib.TabIs World.var?
  rw [hp3]
  simp only [Option.bind_some, hh]
theorem itoa_fn (n : Int) (h0 : -9223372036854775808 ≤ n) (h1 : n ≤ 9223372036854775807) : Fn Tryd.prog 47 [intA n] (strA ⟨(Lib.itoa n).toArray⟩) := by
  refine ⟨⟨by kernel_rfl, fun Γ us _ hs => ?_⟩, rfl⟩
  obtain ⟨ρ, hs⟩ := hs
  have hl : us.size = 1 := hs.len
  obtain ⟨v, rfl⟩ : ∃ v, us = #[v] := ⟨us[0], by apply Array.ext (by simpa using hl); intro i h1 h2; simp at h2; subst h2; rfl⟩
  have hv : v = .int .i64 n := (hs.tmp 0 _ v rfl rfl).val_eq
  subst hv
  refine (Tryd.strconv_Itoa n h0 h1 Γ.w0 (tab_is Γ.hG)).mono ?_
  rintro e w' ⟨rfl, k, os, rfl⟩
  refine ⟨_, [], _, rfl, ⟨rfl, rfl⟩, SR.val_out hs (fun _ h => h) ?_ rfl⟩
  refine ⟨rfl, rfl, rfl, ?_, fun b hb => ?_⟩
  · show Γ.w0.heap.size ≤ (Γ.w0.heap ++ os).size
    simp
  · show (Γ.w0.heap ++ os)[b]? = Γ.w0.heap[b]?
    rw [Array.getElem?_append_left hb]
theorem join_fn (l : List ByteArray) (sep : ByteArray) (hN : l.length ≤ 140737488355328) (hlen : (Lib.join (l.map (·.data.toList)) sep.data.toList).length ≤ 140737488355328) :
    Fn Tryd.prog 17 [strsA l, strA sep] (strA ⟨(Lib.join (l.map (·.data.toList)) sep.data.toList).toArray⟩) := by
  refine ⟨⟨by kernel_rfl, fun Γ us _ hs => ?_⟩, rfl⟩
  obtain ⟨ρ, hs⟩ := hs
  have hl : us.size = 2 := hs.len
  have hfl : flat (l.map strA) = l.map strA := flat_one (fun _ => rfl) l
  have hv0 := Array.getElem?_eq_getElem (show 0 < us.size by omega)
  have hv1 := Array.getElem?_eq_getElem (show 1 < us.size by omega)
  have e1 : us[1] = .string sep := (hs.tmp 1 _ _ rfl hv1).val_eq
  have h0 := hs.tmp 0 _ _ rfl hv0
  have hus : us = #[us[0], .string sep] := by
    apply Array.ext
    · exact hl
    · intro i h1' h2'
      match i with
      | 0 => rfl
      | 1 => exact e1
      | i + 2 => exact absurd h2' (by simp)
  rw [hus]
  rw [hus] at hs
  generalize us[0] = v at *
  simp only [strsA] at h0
  generalize hE : l.map strA = E at h0
  cases h0 with
  | @nils _ a c =>
    have : l = [] := by simpa using hE
    subst this
    refine (Tryd.strings_Join_none a c sep Γ.w0).mono ?_
    rintro e w' ⟨rfl, rfl⟩
    exact ⟨_, [], _, rfl, ⟨rfl, rfl⟩, SR.val_out hs (fun _ h => h) (.refl _ _) rfl⟩
  | @sl _ _ b o c f hn hI hk hc ha hr =>
    subst hE
    rw [hfl] at hc ha hr
    rw [List.length_map] at *
    refine (Tryd.strings_Join b o c l sep Γ.w0 (fun j x hx => ?_) hI.2.1 hN hn.1 hlen).mono ?_
    · have hj := (List.getElem?_eq_some_iff.1 hx).1
      rw [hc j hj]
      have := (hr j (strA x) (by simp [hx])).val_eq
      rw [this]
    · rintro e w' ⟨rfl, hb⟩
      exact ⟨_, [], _, rfl, ⟨rfl, rfl⟩, SR.val_out hs (fun _ h => h) hb rfl⟩
end Go.Lg

namespace Go.Lg
open Go.RowKit Go.Lib Go.Proofs
section
variable {P : Program} {n M : Nat} {l : List (Nat × AV)} {os : List (Nat × Option AObj)} {g : FuncId} {ys : List AV} {t : Tmp} {T : TypeId} {bs out : List UInt8} {r : AV}
def RetW (P : Program) (rs : List ResultVar) (T : TypeId) (out : List UInt8) (r : AV) (s : St) : Prop :=
  ∃ is, resN P s rs = some r ∧ ToR 2 is ⟨[], s.objs⟩ ⟨[], [some (.bld T (.ref 2 1 0 out.length)), none, some (.bytes out)]⟩
theorem Wr.intro {fn : Func} {c : Code} {rs : List ResultVar} (hbd : r.bd 0 = true) (hsc : r.scal = true) (he : enterable P g = true) (hf : P.funcs[g]? = some fn) (hb : fn.body = some c) (hrs : fn.results = rs.toArray) (hn : fn.ntmps = n) (hl : ys.length ≤ n)
    (h : ∀ Γ : Cx, Γ.m = 2 → WP P Γ c (bodyQ (RetW P rs T out r)) (S n (enumA 0 ys) 2 [(0, some (.bld T (.ref 1 1 0 bs.length))), (1, some (.bytes bs))])) : Wr P g ys T bs out r := by
  refine ⟨Spec.introR he hf hb (rs := rs) (by rw [hrs]) fun Γ hm => ?_, hbd, hsc⟩
  subst hn
  rw [tl_start _ _ hl]
  have hw := h Γ hm
  have e : ([some (.bld T (.ref 1 1 0 bs.length)), some (.bytes bs)] : List (Option AObj)) = ol 2 [(0, some (.bld T (.ref 1 1 0 bs.length))), (1, some (.bytes bs))] := rfl
  rw [e]
  refine WP.mono hw ?_
  have key : ∀ s, RetW P rs T out r s → ∃ x y il t, resN P s rs = some x ∧ ToR 2 il ⟨[x], s.objs⟩ ⟨[y], t⟩ ∧ y = r ∧ t = [some (.bld T (.ref 2 1 0 out.length)), none, some (.bytes out)] := by
    rintro s ⟨is, h1, h3⟩
    refine ⟨r, r, is, _, h1, ?_, rfl, rfl⟩
    obtain ⟨_, g2, g3, g4, _, g6, g7⟩ := h3
    refine ⟨⟨.inr (ren_pure hbd).symm, trivial⟩, g2, g3, g4, ?_, g6, g7⟩
    have := bdL_of0 (n := 3) (l := [r]) (by simp [bdL, hbd])
    exact this
  intro e s hq
  cases e with
  | normal => exact key s hq
  | ret => exact key s hq
  | _ => exact hq
theorem retW_0 (hT : ∃ is, ToR 2 is (S 0 [] M os) (S 0 [] 3 [(0, some (.bld T (.ref 2 1 0 out.length))), (2, some (.bytes out))])) : RetW P [] T out (.tup []) (S n l M os) := by
  obtain ⟨is, hT⟩ := hT
  refine ⟨is, by simp [resN, resL, tupA], ?_⟩
  have e : ol 3 [(0, some (.bld T (.ref 2 1 0 out.length))), (2, some (.bytes out))] = ([some (.bld T (.ref 2 1 0 out.length)), none, some (.bytes out)] : List (Option AObj)) := rfl
  simp only [S, tl, List.range_zero, List.map_nil] at hT
  rw [e] at hT
  exact hT
end
end Go.Lg

namespace Go.Lg
open Go.RowKit Go.Lib Go.Proofs
section
variable {P : Program} {Γ : Cx} {ρ : Nat → Option Nat} {s : St} {a : Act} {w : World}
def mvρ (M : Nat) (b : Option Nat) (ρ : Nat → Option Nat) (i : Nat) : Option Nat := if i = M then b else ρ i
theorem mvρ_lt {M i : Nat} {b : Option Nat} {ρ : Nat → Option Nat} (h : i < M) : mvρ M b ρ i = ρ i := if_neg (by omega)
theorem mvρ_M {M : Nat} {b : Option Nat} {ρ : Nat → Option Nat} : mvρ M b ρ M = b := if_pos rfl
theorem SRa.moveB {M : Nat} (h : SRa Γ (fun id => id < M) ρ s a w) (hM : s.objs.length = M) {i j m : Nat} {T : TypeId} {bs : List UInt8} (hi : s.live i (.bld T (.ref j 1 0 m))) (hj : s.live j (.bytes bs)) (hij : i ≠ j) :
    SRa Γ (fun id => id < M + 1) (mvρ M (ρ j) ρ) ⟨s.tmps, ((s.objs.set j none).set i (some (.bld T (.ref M 1 0 m)))) ++ [some (.bytes bs)]⟩ a w := by
  have hiM : i < M := by rw [← hM]; exact live_len hi
  have hjM : j < M := by rw [← hM]; exact live_len hj
  have hlv : ∀ id o, St.live ⟨s.tmps, ((s.objs.set j none).set i (some (.bld T (.ref M 1 0 m)))) ++ [some (.bytes bs)]⟩ id o → (s.live id o ∧ id < M ∧ id ≠ i ∧ id ≠ j) ∨ (id = i ∧ o = .bld T (.ref M 1 0 m)) ∨ (id = M ∧ o = .bytes bs) := by
    intro id o hl
    simp only [St.live] at hl
    by_cases h1 : id < M
    · rw [List.getElem?_append_left (by simp; omega)] at hl
      by_cases h2 : id = i
      · subst h2; rw [List.getElem?_set_self (by simp; omega)] at hl; simp at hl; exact .inr (.inl ⟨rfl, hl.symm⟩)
      · rw [List.getElem?_set_ne (fun e => h2 e.symm)] at hl
        by_cases h3 : id = j
        · subst h3; rw [List.getElem?_set_self (by omega)] at hl; simp at hl
        · rw [List.getElem?_set_ne (fun e => h3 e.symm)] at hl; exact .inl ⟨hl, h1, h2, h3⟩
    · rw [List.getElem?_append_right (by simp; omega)] at hl
      simp only [List.length_set, hM] at hl
      by_cases h2 : id = M
      · subst h2; simp at hl; exact .inr (.inr ⟨rfl, hl.symm⟩)
      · have : (1 : Nat) ≤ id - M := by omega
        rw [List.getElem?_eq_none (by simpa using this)] at hl; cases hl
  have hA' : ∀ id, id < M → id < M + 1 ∧ mvρ M (ρ j) ρ id = ρ id := fun id hid => ⟨by omega, mvρ_lt hid⟩
  have hI : ∀ b, Im Γ ρ s w b → Im Γ (mvρ M (ρ j) ρ) ⟨s.tmps, ((s.objs.set j none).set i (some (.bld T (.ref M 1 0 m)))) ++ [some (.bytes bs)]⟩ w b ∧ w.heap[b]? = w.heap[b]? := by
    rintro b ⟨h1, h2, h3⟩
    refine ⟨⟨h1, h2, fun id o hl => ?_⟩, rfl⟩
    rcases hlv id o hl with ⟨q, hq, _, _⟩ | ⟨rfl, _⟩ | ⟨rfl, _⟩
    · rw [mvρ_lt hq]; exact h3 id o q
    · rw [mvρ_lt hiM]; exact h3 _ _ hi
    · rw [mvρ_M]; exact h3 _ _ hj
  refine h.turn rfl hA' hI (fun _ _ hn => hn) ?_ ?_ ?_ ?_ ?_ h.fr
  · intro id o hl
    rcases hlv id o hl with ⟨q, hq, _, _⟩ | ⟨rfl, rfl⟩ | ⟨rfl, rfl⟩
    · rw [mvρ_lt hq]
      exact (h.obj id o q).mono hA' hI (fun _ _ hn => hn) (fun _ _ => rfl)
    · rw [mvρ_lt hiM]
      have ho := h.obj _ _ hi
      cases hr : ρ id with
      | none =>
        rw [hr] at ho
        rcases ho with q | ⟨k, q⟩ <;> cases q
      | some b =>
        rw [hr] at ho
        obtain ⟨p, v, q1, q2, q3, q4⟩ := ho
        refine ⟨p, v, q1, q2, q3, ?_⟩
        cases q4 with
        | ref hA hb hl' hcs hm => exact .ref (Nat.lt_succ_self _) (by rw [mvρ_M]; exact hb) hl' hcs hm
        | refn hA hb => exact .refn (Nat.lt_succ_self _) (by rw [mvρ_M]; exact hb)
    · rw [mvρ_M]
      exact (h.obj _ _ hj).mono hA' hI (fun _ _ hn => hn) (fun _ _ => rfl)
  · intro id o hl
    rcases hlv id o hl with ⟨q, hq, _, _⟩ | ⟨rfl, rfl⟩ | ⟨rfl, rfl⟩ <;> omega
  · intro id hid; simp; omega
  · intro id o b hl hb
    rcases hlv id o hl with ⟨q, hq, _, _⟩ | ⟨rfl, rfl⟩ | ⟨rfl, rfl⟩
    · rw [mvρ_lt hq] at hb; exact h.own id o b q hb
    · rw [mvρ_lt hiM] at hb; exact h.own _ _ b hi hb
    · rw [mvρ_M] at hb; exact h.own _ _ b hj hb
  · have key : ∀ id o b, St.live ⟨s.tmps, ((s.objs.set j none).set i (some (.bld T (.ref M 1 0 m)))) ++ [some (.bytes bs)]⟩ id o → mvρ M (ρ j) ρ id = some b → ∃ o', s.live (if id = M then j else id) o' ∧ ρ (if id = M then j else id) = some b := by
      intro id o b hl hb
      rcases hlv id o hl with ⟨q, hq, _, _⟩ | ⟨rfl, rfl⟩ | ⟨rfl, rfl⟩
      · rw [mvρ_lt hq] at hb; rw [if_neg (by omega)]; exact ⟨o, q, hb⟩
      · rw [mvρ_lt hiM] at hb; rw [if_neg (by omega)]; exact ⟨_, hi, hb⟩
      · rw [mvρ_M] at hb; rw [if_pos rfl]; exact ⟨_, hj, hb⟩
    intro id id' o o' b h1 h2 h3 h4
    obtain ⟨p1, p2, p3⟩ := key id o b h1 h3
    obtain ⟨q1, q2, q3⟩ := key id' o' b h2 h4
    have e := h.inj _ _ _ _ b p2 q2 p3 q3
    have nj : ∀ id o, St.live ⟨s.tmps, ((s.objs.set j none).set i (some (.bld T (.ref M 1 0 m)))) ++ [some (.bytes bs)]⟩ id o → id ≠ j := by
      intro id o hl
      rcases hlv id o hl with ⟨_, _, _, q⟩ | ⟨rfl, _⟩ | ⟨rfl, _⟩
      · exact q
      · exact hij
      · omega
    have n1 := nj id o h1
    have n2 := nj id' o' h2
    split at e <;> split at e <;> omega
end
theorem wp_mv {P : Program} {Γ : Cx} {n M : Nat} {l : List (Nat × AV)} {os : List (Nat × Option AObj)} {c : Code} {Q : Exit → St → Prop} {i j m : Nat} {T : TypeId} {bs : List UInt8} (hi : lkO i os = some (.bld T (.ref j 1 0 m))) (hj : lkO j os = some (.bytes bs)) (hne : Nat.beq i j = false) (hlt : (Nat.blt i M && Nat.blt j M) = true)
    (hw : WP P Γ c Q (S n l (M + 1) ((M, some (.bytes bs)) :: (i, some (.bld T (.ref M 1 0 m))) :: (j, none) :: os))) : WP P Γ c Q (S n l M os) := fun a w hs => by
  refine hw a w ?_
  obtain ⟨ρ, hs⟩ := hs
  have hM : (S n l M os).objs.length = M := ol_length M os
  simp only [Bool.and_eq_true] at hlt
  have hi' := blt_of hlt.1
  have hj' := blt_of hlt.2
  rw [hM] at hs
  have h := hs.moveB hM (i := i) (j := j) (m := m) (T := T) (bs := bs) (by show (ol M os)[i]? = _; rw [ol_get _ hi', hi]) (by show (ol M os)[j]? = _; rw [ol_get _ hj', hj]) (Nat.ne_of_beq_eq_false hne)
  have e : (⟨(S n l M os).tmps, (((S n l M os).objs.set j none).set i (some (.bld T (.ref M 1 0 m)))) ++ [some (.bytes bs)]⟩ : St) = S n l (M + 1) ((M, some (.bytes bs)) :: (i, some (.bld T (.ref M 1 0 m))) :: (j, none) :: os) := by
    simp only [S, ol_set, ol_push]
  rw [e] at h
  refine ⟨mvρ M (ρ j) ρ, ?_⟩
  have e2 : (S n l (M + 1) ((M, some (.bytes bs)) :: (i, some (.bld T (.ref M 1 0 m))) :: (j, none) :: os)).objs.length = M + 1 := ol_length _ _
  rw [e2]; exact h
end Go.Lg

namespace Go.Lg
open Go.RowKit Go.Lib Go.Proofs
section
variable {P : Program} {t ty : TypeId} {i : TypeInfo}
theorem bytes_append1 (ht : P.underlying t = some (.slice GB)) (hi : P.info? GB = some i) (hz : i.zero = some (.int .u8 0)) (hsize : i.size = 1) (hby : i.bytes = 1)
    {w : World} {v : Value} {n : Nat} {xs : List Value} (hown : w.ownsRow 0 GB 1 v n xs) (x : UInt8) {ad : Addr} {c : Nat} (hcell : w.cell? ad = some (.int .u8 x.toNat)) (hn : n + 1 ≤ 140737488355328) :
    ∃ v' w', (Builtin.append_ #[t, t] ty #[v, .slice (some ad) 1 c]).run P w = .ok v' w' ∧ w'.ownsRow 0 GB 1 v' (n + 1) (xs ++ [.int .u8 x.toNat]) ∧ w.grownBy w' v.ownBlock ∧
      (v'.ownBlock = v.ownBlock ∨ v'.ownBlock = some w.heap.size) ∧ ∀ b m, csize w b = some m → csize w' b = some m := by
  have hxl : xs.length = n := by simpa using hown.1
  have hlen : (xs ++ [Value.int .u8 x.toNat]).length = (n + 1) * 1 := by simp [hxl]
  have hcz : ∀ (o : Obj) b m, csize w b = some m → csize (w.drew.alloc o) b = some m := fun o b m h => csize_alloc w.drew o b m h
  have hl : ([Value.int .u8 x.toNat] : List Value).length = 1 * i.size := by simp [hsize]
  have hnews : ∀ j u, ([Value.int .u8 x.toNat] : List Value)[j]? = some u → w.cell? (ad.add j) = some u := by
    intro j u hj
    match j with
    | 0 => simp at hj; subst hj; simpa [Addr.add] using hcell
    | j + 1 => simp at hj
  have h1 : ∀ u ∈ ([Value.int .u8 x.toNat] : List Value), u.oneCell' = true := by simp [Value.oneCell']
  have grown : ∀ (old : Nat), old < n + 1 → ∀ (row : Option Nat),
      (w.drew.alloc (.cells (xs.toArray ++ [Value.int .u8 x.toNat].toArray ++ Builtin.zeroCells (Value.int .u8 0).cells (grownCap w (n + 1) old GB - (n + 1))) GB)).ownsRow 0 GB 1
        (.slice (some ⟨w.heap.size, 0, none⟩) (n + 1) (grownCap w (n + 1) old GB)) (n + 1) (xs ++ [Value.int .u8 x.toNat]) ∧
      w.grownBy (w.drew.alloc (.cells (xs.toArray ++ [Value.int .u8 x.toNat].toArray ++ Builtin.zeroCells (Value.int .u8 0).cells (grownCap w (n + 1) old GB - (n + 1))) GB)) row := by
    intro old ho row
    have hge := grownCap_ge w (n + 1) old GB
    have hcm : grownCap w (n + 1) old GB ≤ maxLen := grownCap_le_maxLen w (n + 1) old GB (by unfold maxLen; omega)
    refine ⟨⟨hlen, .inr ⟨w.heap.size, _, _, rfl, Nat.zero_le _, heap_alloc_new w.drew _, hge, hcm, ?_, ?_⟩⟩, ⟨rfl, rfl, rfl, by simp, fun k hk _ => Below.heap_alloc w.drew _ k hk⟩⟩
    · have hz1 : (Value.int IntKind.u8 0).cells.size = 1 := rfl
      simp only [Array.size_append, List.size_toArray, size_zeroCells, hz1, hxl, List.length_cons, List.length_nil]
      omega
    · simp only [Array.toList_append, List.append_assoc]
      rw [← List.append_assoc, ← hlen]
      exact List.take_left
  rcases hown.2 with ⟨rfl, rfl⟩ | ⟨g, cap, cur, rfl, hbg, hg, hnc, hcm, hcs, htake⟩
  · have hx : xs = [] := List.eq_nil_of_length_eq_zero hxl
    subst hx
    have hr := run_append_nil (P := P) w t ty GB i (.int .u8 0) ht hi hz ad 1 c _ hl hnews (by omega) (by omega) (by rw [hby]; omega)
    have hgr := grown 0 (by omega) (Value.ownBlock (.slice none 0 0))
    simp only [Nat.zero_add, List.nil_append, Array.empty_append] at hgr ⊢
    exact ⟨_, _, hr, hgr.1, hgr.2, .inr rfl, hcz _⟩
  · have hcs' : cur.size = cap := by simpa using hcs
    by_cases hroom : n + 1 ≤ cap
    · have hr := run_append_room (P := P) w t ty GB i ht hi g n cap cur hg ad 1 c _ hl hnews h1 hroom (by simp [hsize]; omega)
      rw [hsize] at hr
      have hsz : (cur.toList.take (n * 1) ++ [Value.int .u8 x.toNat] ++ cur.toList.drop (n * 1 + [Value.int .u8 x.toNat].length)).toArray.size = cur.size := by
        simp only [List.size_toArray, List.length_append, List.length_take, List.length_drop, Array.length_toList, List.length_cons, List.length_nil]
        omega
      refine ⟨_, _, hr, ⟨hlen, .inr ⟨g, cap, _, rfl, hbg, setRow_heap w g cur _ GB _ hg, hroom, hcm, by rw [hsz]; exact hcs, ?_⟩⟩, ⟨rfl, rfl, rfl, by simp, fun k _ hk => setRow_other w g k _ (fun e => hk (by simp [Value.ownBlock, e]))⟩, .inl rfl, csize_setRow hg hsz⟩
      rw [htake, ← hlen]
      exact List.take_left
    · have holds : ∀ j u, xs[j]? = some u → w.cell? ((⟨g, 0, none⟩ : Addr).add j) = some u := hown.cells (g := g) rfl
      have hr := run_append_grow (P := P) w t ty GB i (.int .u8 0) ht hi hz ⟨g, 0, none⟩ n cap xs (by rw [hsize]; simpa using hxl) holds ad 1 c _ hl hnews (by omega) (by omega) (by rw [hby]; exact growslice_fits (by omega) (by omega))
      have hgr := grown cap (by omega) (Value.ownBlock (.slice (some ⟨g, 0, none⟩) n cap))
      exact ⟨_, _, hr, hgr.1, hgr.2, .inr rfl, hcz _⟩
theorem wpList_bytes_append1 {ops : Array Oper} {rest : List Oper} {o : Oper} {a : Act} {Q : Exit → Act → World → Prop} (hgd : o.guard = none) (sl x : Operand)
    (ho : o.op = .call { callee := .builtin .append, args := #[sl, x], argTypes := #[t, t] })
    (ht : P.underlying t = some (.slice GB)) (hi : P.info? GB = some i) (hz : i.zero = some (.int .u8 0)) (hsize : i.size = 1) (hby : i.bytes = 1)
    {w : World} (v : Value) (n : Nat) (xs : List Value) (hs : a.eval sl = v) (hown : w.ownsRow 0 GB 1 v n xs) (c : UInt8) {ad : Addr} {cp : Nat} (hx : a.eval x = .slice (some ad) 1 cp) (hcell : w.cell? ad = some (.int .u8 c.toNat)) (hn : n + 1 ≤ 140737488355328)
    (h : ∀ v' w', w'.ownsRow 0 GB 1 v' (n + 1) (xs ++ [.int .u8 c.toNat]) → w.grownBy w' v.ownBlock → (v'.ownBlock = v.ownBlock ∨ v'.ownBlock = some w.heap.size) → (∀ b m, csize w b = some m → csize w' b = some m) → wpList P ops Q rest (a.put o.dst v') w') : wpList P ops Q (o :: rest) a w := by
  refine wpList_plain hgd fun K hK => ?_
  obtain ⟨v', w', hr, h2, h3, h4, h5⟩ := bytes_append1 (P := P) (ty := o.type) (c := cp) ht hi hz hsize hby hown c hcell hn
  unfold Oper.wp execOp
  simp only [ho, resolve, invoke, builtin, Sem.run_bind, Sem.run_pure, Result.andThen_ok, List.map_toArray, List.map_cons, List.map_nil, hs, hx, hr]
  exact hK _ _ (h v' w' h2 h3 h4 h5)
end
section
set_option maxHeartbeats 2000000
set_option maxRecDepth 100000
theorem wbyte_calls (T : TypeId) (hT : BLies T) (b : Nat) (w : World) {p v : Value} (hb : w.heap[b]? = some (.cells #[p, v] T (0, 0))) (hp : p = .pointer none ∨ p = .pointer (some ⟨b, 0, none⟩)) {n : Nat} {xs : List Value} (hown : w.ownsRow 0 GB 1 v n xs) (hne : v.ownBlock ≠ some b)
    (c : UInt8) (hn : n + 1 ≤ 140737488355328) :
    Calls Tryd.prog 45 #[.pointer (some ⟨b, 0, none⟩), .int .u8 c.toNat] w fun e w' => e = .returned .nilIface ∧ ∃ v', w'.heap[b]? = some (.cells #[.pointer (some ⟨b, 0, none⟩), v'] T (0, 0)) ∧
      w'.ownsRow 0 GB 1 v' (n + 1) (xs ++ [.int .u8 c.toNat]) ∧ v'.ownBlock ≠ some b ∧ BFr w w' b v.ownBlock ∧ (v'.ownBlock = v.ownBlock ∨ ∃ k, v'.ownBlock = some k ∧ w.heap.size ≤ k) := by
  obtain ⟨i0, hi, hz, h1, h2⟩ := info_byte
  have hbw : b < w.heap.size := (Array.getElem?_eq_some_iff.1 hb).1
  go_enter Tryd.func45, Tryd.ntmps45
  go_wp2_with (go_at_call 43; refine (ccheck T hT b _ hb hp v.ownBlock).mono ?_)
  rintro e w1 ⟨rfl, hb1, hf1, hs1, ho1⟩
  have c0 : w1.cell? ⟨b, 0, none⟩ = some (.pointer (some ⟨b, 0, none⟩)) := by rw [cell_at hb1]; rfl
  have c1 : w1.cell? ⟨b, 1, none⟩ = some v := by rw [cell_at hb1]; rfl
  have hown1 : w1.ownsRow 0 GB 1 v n xs := by
    refine ⟨hown.1, ?_⟩
    rcases hown.2 with q | ⟨g, cap, cur, rfl, q1, q2, q3⟩
    · exact .inl q
    · exact .inr ⟨g, cap, cur, rfl, q1, by rw [ho1 g (fun e => hne (by simp [Value.ownBlock, e]))]; exact q2, q3⟩
  have hsl : Tryd.prog.underlying 53 = some (.slice GB) := Tryd.underlying53
  go_wp2_with (at_builtin; refine wpList_bytes_append1 (t := 53) rfl _ _ rfl hsl hi hz h1 h2 v n xs rfl ?hown c rfl ?hcell hn ?_)
  · exact hown1.alloc _
  · have hn1 := heap_alloc_new w1 (Obj.cells #[Value.int IntKind.u8 c.toNat] 5)
    rw [hs1] at hn1
    simp [World.cell?, hn1]
  intro v' w2 hown' hgrow hfresh hcz
  have hsz : (w1.alloc (Obj.cells #[Value.int IntKind.u8 c.toNat] 5)).heap.size = w1.heap.size + 1 := Array.size_push _
  have hb2 : w2.heap[b]? = some (.cells #[.pointer (some ⟨b, 0, none⟩), v] T (0, 0)) := by
    rw [hgrow.block b (by omega) (fun e => hne e.symm), Below.heap_alloc w1 _ b (by omega)]
    exact hb1
  have d0 : w2.cell? ⟨b, 0, none⟩ = some (.pointer (some ⟨b, 0, none⟩)) := by rw [cell_at hb2]; rfl
  have d1 : w2.cell? ⟨b, 1, none⟩ = some v := by rw [cell_at hb2]; rfl
  have f1 : w2.frozen? ⟨b, 1, none⟩ = false := by simp [World.frozen?, hb2]
  have hfresh : v'.ownBlock = v.ownBlock ∨ ∃ k, v'.ownBlock = some k ∧ w.heap.size ≤ k := by
    rcases hfresh with q | q
    · exact .inl q
    · exact .inr ⟨_, q, by omega⟩
  have hnb' : v'.ownBlock ≠ some b := by
    rcases hfresh with q | ⟨k, q, hk⟩
    · rw [q]; exact hne
    · rw [q]; intro e; injection e with e; omega
  obtain ⟨ao, n', cap, rfl⟩ : ∃ ao n' cap, v' = .slice ao n' cap := by
    rcases hown'.2 with ⟨hv, _⟩ | ⟨g, cap, cur, hv, _⟩
    · exact ⟨_, _, _, hv⟩
    · exact ⟨_, _, _, hv⟩
  go_wp2
  go_ret
  have hfr2 : BFr w w2 b v.ownBlock := ⟨hgrow.os.trans hf1.os, hgrow.tape.trans hf1.tape, hgrow.output.trans hf1.output, by have := hgrow.size; omega, fun k hk hkb hkr => (hgrow.block k (by omega) hkr).trans ((Below.heap_alloc w1 _ k (by omega)).trans (ho1 k hkb)), fun k m hm => hcz k m (csize_alloc w1 _ k m (hf1.csize k m hm))⟩
  refine ⟨rfl, _, by rw [setCell_heap hb2]; rfl, ?_, hnb', hfr2.setCell hb2 _ _, hfresh⟩
  refine ⟨hown'.1, ?_⟩
  rcases hown'.2 with q | ⟨g, cap', cur, hv, q1, q2, q3⟩
  · exact .inl q
  · exact .inr ⟨g, cap', cur, hv, q1, by rw [setCell_other _ _ (fun e => hnb' (by rw [hv, ← e]; rfl))]; exact q2, q3⟩
end
theorem wbyte_spec (T : TypeId) (hT : BLies T) (l : List UInt8) (c0 : UInt8) (hn : l.length + 1 ≤ 140737488355328) :
    Spec Tryd.prog 45 [.ptr 0 2 0 0, .val (.int .u8 c0.toNat)] [some (.bld T (.ref 1 1 0 l.length)), some (.bytes l)] fun r os' => r = .val .nilIface ∧ os' = [some (.bld T (.ref 2 1 0 (l.length + 1))), none, some (.bytes (l ++ [c0]))] := by
  refine ⟨by kernel_rfl, fun Γ vs hm hs => ?_⟩
  have hm2 : Γ.m = 2 := hm
  have hlen : vs.size = 2 := by obtain ⟨ρ, h⟩ := hs; exact h.len
  have hv0 := Array.getElem?_eq_getElem (show 0 < vs.size by omega)
  have hv1 := Array.getElem?_eq_getElem (show 1 < vs.size by omega)
  obtain ⟨b, p, v, hp0, hi⟩ := bld_in hm2 hs hv0
  have h1 : vs[1] = .int .u8 c0.toNat := by obtain ⟨ρ, h⟩ := hs; exact (h.tmp 1 _ _ rfl hv1).val_eq
  have hvs : vs = #[.pointer (some ⟨b, 0, none⟩), .int .u8 c0.toNat] := by
    apply Array.ext
    · exact hlen
    · intro i h1' h2'
      match i with
      | 0 => exact hp0
      | 1 => exact h1
      | i + 2 => exact absurd h2' (by simp)
  subst hvs
  refine (wbyte_calls T hT b Γ.w0 hi.blk hi.hp hi.own hi.ne c0 hn).mono ?_
  rintro e w' ⟨rfl, v', hb', hown', hnb', hfr, hfresh⟩
  obtain ⟨ρ, h⟩ := hs
  refine ⟨_, _, _, rfl, ⟨rfl, rfl⟩, fun i => if i = 2 then v'.ownBlock else ρ i, ?_⟩
  have hxs : byteCells l ++ [Value.int .u8 c0.toNat] = byteCells (l ++ [c0]) := by rw [byteCells_append]; rfl
  rw [hxs] at hown'
  have hll : (l ++ [c0]).length = l.length + 1 := by simp
  have hrow : OR (fun id => id < 3) (fun i => if i = 2 then v'.ownBlock else ρ i) (Im Γ (fun i => if i = 2 then v'.ownBlock else ρ i) ⟨[.val .nilIface], [some (.bld T (.ref 2 1 0 (l.length + 1))), none, some (.bytes (l ++ [c0]))]⟩ w') w' v'.ownBlock (.bytes (l ++ [c0])) := by
    rcases hown'.2 with ⟨rfl, hz⟩ | ⟨g, cap, cur, rfl, _, hg, hnc, hcm, hcs, htake⟩
    · have hnil : l ++ [c0] = [] := List.eq_nil_of_length_eq_zero (by rw [hll]; exact hz)
      rw [hnil]; exact .inl rfl
    · refine ⟨cur, hg, by omega, fun j x hx => ?_⟩
      have hj : j < l.length + 1 := by rw [← hll]; exact (List.getElem?_eq_some_iff.1 hx).1
      have := congrArg (fun q => q[j]?) htake
      simp only [Nat.mul_one, List.getElem?_take, if_pos hj, byteCells, List.getElem?_map, hx, Option.map_some] at this
      simpa using this
  refine ⟨fun i hi' => ⟨show i < 3 by omega, (if_neg (by omega)).trans (h.ext i hi').2⟩, rfl, ?_, ?_, ?_, fun _ hid => hid, ?_, ?_, h.defers, hfr.fr hi hm2⟩
  · intro i x u hx hu
    match i with
    | 0 =>
      simp only [List.getElem?_cons_zero, Option.some.injEq] at hx
      simp at hu
      subst hx hu
      exact .val rfl
    | i + 1 => simp at hx
  · intro id o hl
    match id with
    | 0 =>
      simp [St.live] at hl; subst hl
      have hr0 : ρ 0 = some b := (h.ext 0 (by omega)).2.trans hi.r0
      show OR _ _ _ _ (if (0 : Nat) = 2 then v'.ownBlock else ρ 0) _
      rw [if_neg (by decide), hr0]
      refine ⟨_, v', hb', .inr rfl, ?_, ?_⟩
      · rcases hown'.2 with ⟨rfl, _⟩ | ⟨g, cap, cur, rfl, _⟩ <;> rfl
      · rcases hown'.2 with ⟨rfl, hz⟩ | ⟨g, cap, cur, rfl, _, hg, hnc, hcm, hcs, htake⟩
        · rw [hz]; exact .refn (show (2 : Nat) < 3 by decide) rfl
        · exact .ref0 (show (2 : Nat) < 3 by decide) rfl hnc (by simp [csize, hg]; omega) hcm
    | 1 => simp [St.live] at hl
    | 2 => simp [St.live] at hl; subst hl; exact hrow
    | i + 3 => simp [St.live] at hl
  · intro id o hl
    have := (List.getElem?_eq_some_iff.1 hl).1
    simpa using this
  · intro id o c hl hc
    match id with
    | 0 =>
      have hc : ρ 0 = some c := hc
      exact .inr ⟨0, by omega, (h.ext 0 (by omega)).2 ▸ hc⟩
    | 1 => simp [St.live] at hl
    | 2 =>
      have hc : v'.ownBlock = some c := hc
      rcases hfresh with q | q
      · exact .inr ⟨1, by omega, by rw [hi.r1, ← q]; exact hc⟩
      · obtain ⟨k, q, hk⟩ := q
        rw [q] at hc; injection hc with hc; exact .inl (by omega)
    | i + 3 => simp [St.live] at hl
  · intro id id' o o' c h1 h2 h3 h4
    have hr0 : ρ 0 = some b := (h.ext 0 (by omega)).2.trans hi.r0
    match id, id' with
    | 0, 0 => rfl
    | 2, 2 => rfl
    | 0, 2 => have h3 : ρ 0 = some c := h3; have h4 : v'.ownBlock = some c := h4; rw [hr0] at h3; rw [← h3] at h4; exact absurd h4 hnb'
    | 2, 0 => have h4 : ρ 0 = some c := h4; have h3 : v'.ownBlock = some c := h3; rw [hr0] at h4; rw [← h4] at h3; exact absurd h3 hnb'
    | 1, _ => simp [St.live] at h1
    | _, 1 => simp [St.live] at h2
    | i + 3, _ => simp [St.live] at h1
    | _, i + 3 => simp [St.live] at h2
theorem wbyte_wr (T : TypeId) (hT : BLies T) (l : List UInt8) (c0 : UInt8) (n : Int) (hc : n = c0.toNat) (hn : l.length + 1 ≤ 140737488355328) :
    Wr Tryd.prog 45 [.ptr 0 2 0 0, .val (.int .u8 n)] T l (l ++ [c0]) (.val .nilIface) :=
  ⟨by subst hc
      have h := wbyte_spec T hT l c0 hn
      have e : (l ++ [c0]).length = l.length + 1 := by simp
      rw [e]; exact h, rfl, rfl⟩
abbrev TW : TypeId := 57
theorem blies_W : BLies TW := by show _ = true; kernel_rfl
end Go.Lg

namespace Go.Lg
open Go.Proofs
set_option linter.unusedSimpArgs false
set_option linter.unusedVariables false
attribute [local irreducible] Ap Rq asemC WP RunD Ret Gq thenA inBlockA bodyQ noGotoA RqL RqP OpP
set_option maxHeartbeats 4000000
set_option maxRecDepth 20000
theorem wbyte_lit (T : TypeId) (hT : BLies T) (l : List UInt8) (n : Int) (hc : n = (UInt8.ofNat n.toNat).toNat) (hn : l.length + 1 ≤ 140737488355328) :
    Wr Tryd.prog 45 [.ptr 0 2 0 0, .val (.int .u8 n)] T l (l ++ [UInt8.ofNat n.toNat]) (.val .nilIface) := wbyte_wr T hT l _ n hc hn
theorem enclosed_wr (e : GEx) (r : Bool) (hE : ∀ bs : List UInt8, bs.length + (exT e).length ≤ 1000000000 → Wr Tryd.prog 58 [.ptr 0 2 0 0, exprA e] TW bs (bs ++ exT e) (.tup []))
    (bs : List UInt8) (hb : bs.length + (encT (exT e) r).length ≤ 1000000000) : Wr Tryd.prog 46 [.ptr 0 2 0 0, exprA e, boolA r] TW bs (bs ++ encT (exT e) r) (.tup []) := by
  cases r with
  | false =>
    have hx := hE bs hb
    show Wr _ _ _ TW bs (bs ++ exT e) _
    refine Wr.intro rfl rfl (by kernel_rfl) Tryd.func46 rfl rfl Tryd.ntmps46 (by exact Nat.le_of_ble_eq_true rfl) ?_; intro Γ hm
    (repeat' (first | apply jA | apply jH | apply jK | apply jM | apply jS | (refine wp_cond rfl (fun hc => ?_) (fun hc => ?_) <;> (try simp only [sB, ne_eq, reduceCtorEq] at hc) <;> (try (exfalso; omega))) | (refine WP.regionC (id := 0) ?_; (refine se_box rfl (by exact ⟨rfl, rfl⟩) ?_); apply jW) | (refine WP.regionC (id := 1) ?_; (refine smove rfl ?_); (refine su (anot rfl) ?_); apply jW) | (refine WP.regionC (id := 2) ?_; (refine smove rfl ?_); (refine sloadpw rfl rfl rfl rfl ?_); (refine sc_wr rfl rfl (by repeat' first | exact ArgS.nil | refine ArgS.ren (by first | exact rfl | exact ren_p (by simp [AV.bd, bdL, bdL_append])) (by first | exact rfl | (simp [AV.bd, bdL, bdL_append]; done)) ?_) rfl rfl rfl rfl rfl rfl (hx) ?_); apply jW)))
    exact retW_0 ⟨[0, 1, 3], ToR.S rfl (by repeat' (exact rt_nil)) (by repeat' (first | exact ro_nil | refine ro_b rfl (by first | exact rfl | fail) ?_ | refine ro_d rfl rfl ?_)) rfl rfl rfl (by (simp [bdT, AV.bd, bdL, bdL_append]; done)) (by repeat' (first | exact True.intro | exact rfl | refine And.intro ?_ ?_)) (by exact Nat.le_of_ble_eq_true rfl)⟩
  | true =>
    have hb : bs.length + ((exT e).length + 2) ≤ 1000000000 := by simpa [encT, Nat.add_assoc] using hb
    have hx := hE (bs ++ [40]) (by simp; omega)
    have e1 : bs ++ encT (exT e) true = bs ++ [40] ++ exT e ++ [41] := by simp [encT]
    rw [e1]
    refine Wr.intro rfl rfl (by kernel_rfl) Tryd.func46 rfl rfl Tryd.ntmps46 (by exact Nat.le_of_ble_eq_true rfl) ?_; intro Γ hm
    (repeat' (first | apply jA | apply jH | apply jI | apply jR | (refine wp_cond rfl (fun hc => ?_) (fun hc => ?_) <;> (try simp only [sB, ne_eq, reduceCtorEq] at hc) <;> (try (exfalso; omega))) | (refine WP.regionC (id := 0) ?_; (refine se_box rfl (by exact ⟨rfl, rfl⟩) ?_); apply jW) | (refine WP.regionC (id := 1) ?_; (refine smove rfl ?_); (refine su (anot rfl) ?_); apply jW) | (refine WP.regionC (id := 3) ?_; (refine smove rfl ?_); (refine snilc rfl ?_); (refine sfieldp rfl rfl rfl ?_); (refine sc_wr rfl rfl (by repeat' first | exact ArgS.nil | refine ArgS.ren rfl rfl ?_) rfl rfl rfl rfl rfl rfl (wbyte_lit _ (by exact blies_W) _ _ (by decide) (by omega)) ?_); apply jW) | (refine WP.regionC (id := 4) ?_; (refine smove rfl ?_); (refine sloadpw rfl rfl rfl rfl ?_); (refine sc_wr rfl rfl (by repeat' first | exact ArgS.nil | refine ArgS.ren (by first | exact rfl | exact ren_p (by simp [AV.bd, bdL, bdL_append])) (by first | exact rfl | (simp [AV.bd, bdL, bdL_append]; done)) ?_) rfl rfl rfl rfl rfl rfl (hx) ?_); apply jW) | (refine WP.regionC (id := 5) ?_; (refine smove rfl ?_); (refine snilc rfl ?_); (refine sfieldp rfl rfl rfl ?_); (refine sc_wr rfl rfl (by repeat' first | exact ArgS.nil | refine ArgS.ren rfl rfl ?_) rfl rfl rfl rfl rfl rfl (wbyte_lit _ (by exact blies_W) _ _ (by decide) (by (simp only [bsz, List.size_toArray, List.length_append, List.length_cons, List.length_nil, ByteArray.size_append] <;> omega))) ?_); apply jW)))
    exact retW_0 ⟨[0, 1, 5], ToR.S rfl (by repeat' (exact rt_nil)) (by repeat' (first | exact ro_nil | refine ro_b rfl (by first | exact rfl | fail) ?_ | refine ro_d rfl rfl ?_)) rfl rfl rfl (by (simp [bdT, AV.bd, bdL, bdL_append]; done)) (by repeat' (first | exact True.intro | exact rfl | refine And.intro ?_ ?_)) (by exact Nat.le_of_ble_eq_true rfl)⟩
theorem expr_wr (e : GEx) : ∀ bs : List UInt8, bs.length + (exT e).length ≤ 1000000000 → Wr Tryd.prog 58 [.ptr 0 2 0 0, exprA e] TW bs (bs ++ exT e) (.tup []) := by
  induction e using GEx.ind with
  | h e ih =>
    intro bs hb
    rw [exT_eq] at hb ⊢
    rw [exprA, kids_exprsA]
    generalize hkd : e.kids = kids at *
    generalize e.kind = kk at *
    generalize e.name = nm at *
    clear hkd e
    rw [List.length_append] at hb
    refine Wr.intro rfl rfl (by kernel_rfl) Tryd.func58 rfl rfl Tryd.ntmps58 (by exact Nat.le_of_ble_eq_true rfl) ?_; intro Γ hm
    refine wp_lens 1 rfl fun hl => ?_
    have hl : kids.length ≤ 9223372036854775807 := by have := hl; simp [AV.lens, lensL, exprsA] at this; omega
    (repeat' (first | apply jA | apply jF | apply jH | (refine WP.regionC (id := 0) ?_; (refine se_box rfl (by exact ⟨rfl, rfl⟩) ?_); apply jW) | (refine WP.regionC (id := 1) ?_; (refine sfieldp rfl rfl rfl ?_); (refine sloadp rfl rfl rfl rfl ?_); (refine slenm rfl rfl ?_); (refine smove rfl ?_); apply jW)))
    refine wp_mv (i := 0) (j := 1) rfl rfl rfl rfl ?_
    have e0 : bs = bs ++ kidsT kk false (kids.take 0) := by simp [kidsT]
    refine wp_loop (fun (i : Nat) => i ≤ kids.length) (fun i => kids.length - i)
      (fun i => (S 95 [(0, .ptr 0 2 0 0), (3, .ptr 3 3 0 0), (7, exprsA kids), (8, intA (kids.length : Nat)), (9, intA (i : Nat))] 4 [(0, some (.bld TW (.ref 2 1 0 (bs ++ kidsT kk false (kids.take i)).length))), (2, some (.bytes (bs ++ kidsT kk false (kids.take i)))), (3, some (.arr 3 [.agg [intA kk, strA nm, exprsA kids]]))])) 0 ?_ (Nat.zero_le _) ?_
    · rw [← e0]; exact ⟨[0, 1, 3, 2], ToR.S rfl (by repeat' (first | exact rt_nil | refine rt_t rfl rfl ?_ | refine rt_e rfl rfl ?_ | refine rt_p rfl rfl (by first | (simp [AV.bd, bdL, bdL_append]; done) | fail) ?_)) (by repeat' (first | exact ro_nil | refine ro_b rfl (by first | exact rfl | fail) ?_ | refine ro_d rfl rfl ?_ | refine ro_p rfl (by first | exact rfl | fail) (by first | (simp [bdL, bdL_append, AV.bd]; done) | fail) ?_)) rfl (by (rw [hm]; exact rfl)) rfl (by (simp [bdT, AV.bd, bdL, bdL_append]; done)) (by repeat' (first | exact True.intro | exact rfl | refine And.intro ?_ ?_ | (simp [bdOq, bdL, bdL_append, AV.bd]; done))) (by (rw [hm]; exact Nat.le_of_ble_eq_true rfl))⟩
    rintro i hi
    have hmo := kidsT_mono kk kids hi
    by_cases hlt : i < kids.length
    · have hmo2 := kidsT_mono kk kids (i := i + 1) (by omega)
      rw [kidsT_take hlt, List.length_append] at hmo2
      have hx := ih _ (nth_mem hlt)
      by_cases hk2 : kk = 2
      ·
        have ho : ∀ q : List UInt8, oneT kk i (nth kids i) = (if i = 0 then [] else [32]) ++ encT (exT (nth kids i)) (decide ((nth kids i).kind = 2) || decide ((nth kids i).kind = 3)) := fun _ => by simp [oneT, sepT, reqP, hk2]
        have ho := ho []
        have hW : ∀ b' : List UInt8, b'.length + (encT (exT (nth kids i)) (decide ((nth kids i).kind = 2) || decide ((nth kids i).kind = 3))).length ≤ 1000000000 → Wr Tryd.prog 46 [.ptr 0 2 0 0, exprA (nth kids i), boolA (decide ((nth kids i).kind = 2) || decide ((nth kids i).kind = 3))] TW b' (b' ++ encT (exT (nth kids i)) (decide ((nth kids i).kind = 2) || decide ((nth kids i).kind = 3))) (.tup []) := fun b' hb' => enclosed_wr _ _ hx b' hb'
        by_cases hi0 : i = 0
        · rw [if_pos hi0, List.nil_append] at ho
          rw [ho] at hmo2
          have e1 : bs ++ kidsT kk false (kids.take (i + 1)) = bs ++ kidsT kk false (kids.take i) ++ encT (exT (nth kids i)) (decide ((nth kids i).kind = 2) || decide ((nth kids i).kind = 3)) := by rw [kidsT_take hlt, ho, List.append_assoc]
          (repeat' (first | apply jA | apply jF | apply jH | apply jI | apply jN | (refine wp_cond rfl (fun hc => ?_) (fun hc => ?_) <;> (try simp only [sB, ne_eq, reduceCtorEq] at hc) <;> (try (exfalso; omega))) | (refine WP.regionC (id := 2) ?_; (refine slss rfl rfl ?_); apply jW) | (refine WP.regionC (id := 3) ?_; (refine smove rfl ?_); (refine sidxn rfl rfl (by omega) ?_); (refine sloadw rfl rfl ?_); (refine se_alloc rfl ?_); (refine sassign rfl ?_); (refine se_store_b rfl rfl rfl rfl ?_); apply jW) | (refine WP.regionC (id := 4) ?_; (refine sfieldp rfl rfl rfl ?_); (refine sloadp rfl rfl rfl rfl ?_); apply jW) | (refine WP.regionC (id := 6) ?_; (refine seql rfl rfl ?_); (refine sassign rfl ?_); apply jW) | (refine WP.regionC (id := 7) ?_; (refine smove rfl ?_); (refine su (agtr rfl rfl) ?_); apply jW) | (refine WP.regionC (id := 9) ?_; (refine smove rfl ?_); (refine sloadpw rfl rfl rfl rfl ?_); (refine sfieldp rfl rfl rfl ?_); (refine sloadp rfl rfl rfl rfl ?_); (refine seql rfl rfl ?_); (refine smove rfl ?_); (refine sg (gq_vf rfl rfl) (fun he => ap_field_p (rq_p rfl rfl) rfl rfl) ?_); (refine sg (gq_vf rfl rfl) (fun he => ap_load_p (rq_c rfl rfl) rfl rfl rfl) ?_); (refine sg (gq_vf rfl rfl) (fun he => ap_eql (rq_c rfl rfl) (rq_p rfl rfl)) ?_); (refine su (ap_or (rq_p rfl rfl) (rq_c rfl rfl)) ?_); (refine sc_wr rfl rfl (by repeat' first | exact ArgS.nil | refine ArgS.ren (by first | exact rfl | exact ren_p (by simp [AV.bd, bdL, bdL_append])) (by first | exact rfl | (simp [AV.bd, bdL, bdL_append]; done)) ?_) rfl rfl rfl rfl rfl rfl (hW _ (by simp only [List.length_append]; omega)) ?_); apply jW) | (refine WP.regionC (id := 14) ?_; (refine sadd rfl rfl (by exact inr_i64_of (by omega)) ?_); (refine smove rfl ?_); apply jW)))
          refine ⟨i + 1, ⟨by omega, by omega⟩, ?_⟩
          rw [e1]
          exact ⟨[0, 1, 5, 3], ToR.S rfl (by repeat' (first | exact rt_nil | refine rt_t rfl rfl ?_ | refine rt_e rfl rfl ?_ | refine rt_p rfl rfl (by first | (simp [AV.bd, bdL, bdL_append]; done) | fail) ?_)) (by repeat' (first | exact ro_nil | refine ro_b rfl (by first | exact rfl | fail) ?_ | refine ro_d rfl rfl ?_ | refine ro_p rfl (by first | exact rfl | fail) (by first | (simp [bdL, bdL_append, AV.bd]; done) | fail) ?_)) rfl (by (rw [hm]; exact rfl)) rfl (by (simp [bdT, AV.bd, bdL, bdL_append]; done)) (by repeat' (first | exact True.intro | exact rfl | refine And.intro ?_ ?_ | (simp [bdOq, bdL, bdL_append, AV.bd]; done))) (by (rw [hm]; exact Nat.le_of_ble_eq_true rfl))⟩
        · rw [if_neg hi0] at ho
          rw [ho, List.length_append] at hmo2
          have e1 : bs ++ kidsT kk false (kids.take (i + 1)) = bs ++ kidsT kk false (kids.take i) ++ [32] ++ encT (exT (nth kids i)) (decide ((nth kids i).kind = 2) || decide ((nth kids i).kind = 3)) := by rw [kidsT_take hlt, ho]; simp only [List.append_assoc]
          simp only [List.length_cons, List.length_nil] at hmo2
          (repeat' (first | apply jA | apply jF | apply jH | apply jI | apply jN | (refine wp_cond rfl (fun hc => ?_) (fun hc => ?_) <;> (try simp only [sB, ne_eq, reduceCtorEq] at hc) <;> (try (exfalso; omega))) | (refine WP.regionC (id := 2) ?_; (refine slss rfl rfl ?_); apply jW) | (refine WP.regionC (id := 3) ?_; (refine smove rfl ?_); (refine sidxn rfl rfl (by omega) ?_); (refine sloadw rfl rfl ?_); (refine se_alloc rfl ?_); (refine sassign rfl ?_); (refine se_store_b rfl rfl rfl rfl ?_); apply jW) | (refine WP.regionC (id := 4) ?_; (refine sfieldp rfl rfl rfl ?_); (refine sloadp rfl rfl rfl rfl ?_); apply jW) | (refine WP.regionC (id := 6) ?_; (refine seql rfl rfl ?_); (refine sassign rfl ?_); apply jW) | (refine WP.regionC (id := 7) ?_; (refine smove rfl ?_); (refine su (agtr rfl rfl) ?_); apply jW) | (refine WP.regionC (id := 8) ?_; (refine smove rfl ?_); (refine snilc rfl ?_); (refine sfieldp rfl rfl rfl ?_); (refine sc_wr rfl rfl (by repeat' first | exact ArgS.nil | refine ArgS.ren rfl rfl ?_) rfl rfl rfl rfl rfl rfl (wbyte_lit _ (by exact blies_W) _ _ (by decide) (by (simp only [bsz, List.size_toArray, List.length_append, List.length_cons, List.length_nil, ByteArray.size_append] <;> omega))) ?_); apply jW) | (refine WP.regionC (id := 9) ?_; (refine smove rfl ?_); (refine sloadpw rfl rfl rfl rfl ?_); (refine sfieldp rfl rfl rfl ?_); (refine sloadp rfl rfl rfl rfl ?_); (refine seql rfl rfl ?_); (refine smove rfl ?_); (refine sg (gq_vf rfl rfl) (fun he => ap_field_p (rq_p rfl rfl) rfl rfl) ?_); (refine sg (gq_vf rfl rfl) (fun he => ap_load_p (rq_c rfl rfl) rfl rfl rfl) ?_); (refine sg (gq_vf rfl rfl) (fun he => ap_eql (rq_c rfl rfl) (rq_p rfl rfl)) ?_); (refine su (ap_or (rq_p rfl rfl) (rq_c rfl rfl)) ?_); (refine sc_wr rfl rfl (by repeat' first | exact ArgS.nil | refine ArgS.ren (by first | exact rfl | exact ren_p (by simp [AV.bd, bdL, bdL_append])) (by first | exact rfl | (simp [AV.bd, bdL, bdL_append]; done)) ?_) rfl rfl rfl rfl rfl rfl (hW _ (by simp only [List.length_append, List.length_cons, List.length_nil]; omega)) ?_); apply jW) | (refine WP.regionC (id := 14) ?_; (refine sadd rfl rfl (by exact inr_i64_of (by omega)) ?_); (refine smove rfl ?_); apply jW)))
          refine ⟨i + 1, ⟨by omega, by omega⟩, ?_⟩
          rw [e1]
          exact ⟨[0, 1, 6, 3], ToR.S rfl (by repeat' (first | exact rt_nil | refine rt_t rfl rfl ?_ | refine rt_e rfl rfl ?_ | refine rt_p rfl rfl (by first | (simp [AV.bd, bdL, bdL_append]; done) | fail) ?_)) (by repeat' (first | exact ro_nil | refine ro_b rfl (by first | exact rfl | fail) ?_ | refine ro_d rfl rfl ?_ | refine ro_p rfl (by first | exact rfl | fail) (by first | (simp [bdL, bdL_append, AV.bd]; done) | fail) ?_)) rfl (by (rw [hm]; exact rfl)) rfl (by (simp [bdT, AV.bd, bdL, bdL_append]; done)) (by repeat' (first | exact True.intro | exact rfl | refine And.intro ?_ ?_ | (simp [bdOq, bdL, bdL_append, AV.bd]; done))) (by (rw [hm]; exact Nat.le_of_ble_eq_true rfl))⟩
      by_cases hk3 : kk = 3
      ·
        have ho : ∀ q : List UInt8, oneT kk i (nth kids i) = (if i = 0 then [] else [32, 124, 32]) ++ encT (exT (nth kids i)) (decide ((nth kids i).kind = 3) || decide ((nth kids i).kind = 2) && decide (((nth kids i).kids.length : Int) = 0)) := fun _ => by simp [oneT, sepT, reqP, hk2, hk3]
        have ho := ho []
        have hW : ∀ b' : List UInt8, b'.length + (encT (exT (nth kids i)) (decide ((nth kids i).kind = 3) || decide ((nth kids i).kind = 2) && decide (((nth kids i).kids.length : Int) = 0))).length ≤ 1000000000 → Wr Tryd.prog 46 [.ptr 0 2 0 0, exprA (nth kids i), boolA (decide ((nth kids i).kind = 3) || decide ((nth kids i).kind = 2) && decide (((kidsL (nth kids i)).length : Int) = 0))] TW b' (b' ++ encT (exT (nth kids i)) (decide ((nth kids i).kind = 3) || decide ((nth kids i).kind = 2) && decide (((nth kids i).kids.length : Int) = 0))) (.tup []) := fun b' hb' => by rw [kidsL_len]; exact enclosed_wr _ _ hx b' hb'
        by_cases hi0 : i = 0
        · rw [if_pos hi0, List.nil_append] at ho
          rw [ho] at hmo2
          have e1 : bs ++ kidsT kk false (kids.take (i + 1)) = bs ++ kidsT kk false (kids.take i) ++ encT (exT (nth kids i)) (decide ((nth kids i).kind = 3) || decide ((nth kids i).kind = 2) && decide (((nth kids i).kids.length : Int) = 0)) := by rw [kidsT_take hlt, ho, List.append_assoc]
          (repeat' (first | apply jA | apply jF | apply jH | apply jI | apply jN | (refine wp_cond rfl (fun hc => ?_) (fun hc => ?_) <;> (try simp only [sB, ne_eq, reduceCtorEq] at hc) <;> (try (exfalso; omega))) | (refine WP.regionC (id := 2) ?_; (refine slss rfl rfl ?_); apply jW) | (refine WP.regionC (id := 3) ?_; (refine smove rfl ?_); (refine sidxn rfl rfl (by omega) ?_); (refine sloadw rfl rfl ?_); (refine se_alloc rfl ?_); (refine sassign rfl ?_); (refine se_store_b rfl rfl rfl rfl ?_); apply jW) | (refine WP.regionC (id := 4) ?_; (refine sfieldp rfl rfl rfl ?_); (refine sloadp rfl rfl rfl rfl ?_); apply jW) | (refine WP.regionC ?_; (refine seql rfl rfl ?_); (refine sassign rfl ?_); apply jW) | (refine WP.regionC (id := 11) ?_; (refine smove rfl ?_); (refine su (agtr rfl rfl) ?_); apply jW) | (refine WP.regionC (id := 13) ?_; (refine smove rfl ?_); (refine sloadpw rfl rfl rfl rfl ?_); (refine sfieldp rfl rfl rfl ?_); (refine sloadp rfl rfl rfl rfl ?_); (refine seql rfl rfl ?_); (refine smove rfl ?_); (refine sg (gq_vf rfl rfl) (fun he => ap_field_p (rq_p rfl rfl) rfl rfl) ?_); (refine sg (gq_vf rfl rfl) (fun he => ap_load_p (rq_c rfl rfl) rfl rfl rfl) ?_); (refine sg (gq_vf rfl rfl) (fun he => ap_eql (rq_c rfl rfl) (rq_p rfl rfl)) ?_); (refine sg (gq_vf rfl rfl) (fun he => ap_move (rq_c rfl rfl)) ?_); (refine sg (gq_ct rfl rfl) (fun he => ap_field_p (rq_p rfl rfl) rfl rfl) ?_); (refine sg (gq_ct rfl rfl) (fun he => ap_load_p (rq_c rfl rfl) rfl rfl rfl) ?_); (refine sg (gq_ct rfl rfl) (fun he => ap_len_s rfl (rq_c rfl rfl)) ?_); (refine sg (gq_ct rfl rfl) (fun he => ap_eql (rq_c rfl rfl) (rq_p rfl rfl)) ?_); (refine sg (gq_vf rfl rfl) (fun he => ap_and (rq_c rfl rfl) (rq_c rfl rfl)) ?_); (refine su (ap_or (rq_p rfl rfl) (rq_c rfl rfl)) ?_); (refine sc_wr rfl rfl (by repeat' first | exact ArgS.nil | refine ArgS.ren (by first | exact rfl | exact ren_p (by simp [AV.bd, bdL, bdL_append])) (by first | exact rfl | (simp [AV.bd, bdL, bdL_append]; done)) ?_) rfl rfl rfl rfl rfl rfl (hW _ (by simp only [List.length_append]; omega)) ?_); apply jW) | (refine WP.regionC (id := 14) ?_; (refine sadd rfl rfl (by exact inr_i64_of (by omega)) ?_); (refine smove rfl ?_); apply jW)))
          refine ⟨i + 1, ⟨by omega, by omega⟩, ?_⟩
          rw [e1]
          exact ⟨[0, 1, 5, 3], ToR.S rfl (by repeat' (first | exact rt_nil | refine rt_t rfl rfl ?_ | refine rt_e rfl rfl ?_ | refine rt_p rfl rfl (by first | (simp [AV.bd, bdL, bdL_append]; done) | fail) ?_)) (by repeat' (first | exact ro_nil | refine ro_b rfl (by first | exact rfl | fail) ?_ | refine ro_d rfl rfl ?_ | refine ro_p rfl (by first | exact rfl | fail) (by first | (simp [bdL, bdL_append, AV.bd]; done) | fail) ?_)) rfl (by (rw [hm]; exact rfl)) rfl (by (simp [bdT, AV.bd, bdL, bdL_append]; done)) (by repeat' (first | exact True.intro | exact rfl | refine And.intro ?_ ?_ | (simp [bdOq, bdL, bdL_append, AV.bd]; done))) (by (rw [hm]; exact Nat.le_of_ble_eq_true rfl))⟩
        · rw [if_neg hi0] at ho
          rw [ho, List.length_append] at hmo2
          have e1 : bs ++ kidsT kk false (kids.take (i + 1)) = bs ++ kidsT kk false (kids.take i) ++ [32, 124, 32] ++ encT (exT (nth kids i)) (decide ((nth kids i).kind = 3) || decide ((nth kids i).kind = 2) && decide (((nth kids i).kids.length : Int) = 0)) := by rw [kidsT_take hlt, ho]; simp only [List.append_assoc]
          simp only [List.length_cons, List.length_nil] at hmo2
          (repeat' (first | apply jA | apply jF | apply jH | apply jI | apply jN | (refine wp_cond rfl (fun hc => ?_) (fun hc => ?_) <;> (try simp only [sB, ne_eq, reduceCtorEq] at hc) <;> (try (exfalso; omega))) | (refine WP.regionC (id := 2) ?_; (refine slss rfl rfl ?_); apply jW) | (refine WP.regionC (id := 3) ?_; (refine smove rfl ?_); (refine sidxn rfl rfl (by omega) ?_); (refine sloadw rfl rfl ?_); (refine se_alloc rfl ?_); (refine sassign rfl ?_); (refine se_store_b rfl rfl rfl rfl ?_); apply jW) | (refine WP.regionC (id := 4) ?_; (refine sfieldp rfl rfl rfl ?_); (refine sloadp rfl rfl rfl rfl ?_); apply jW) | (refine WP.regionC ?_; (refine seql rfl rfl ?_); (refine sassign rfl ?_); apply jW) | (refine WP.regionC (id := 11) ?_; (refine smove rfl ?_); (refine su (agtr rfl rfl) ?_); apply jW) | (refine WP.regionC (id := 12) ?_; (refine smove rfl ?_); (refine snilc rfl ?_); (refine sfieldp rfl rfl rfl ?_); (refine sc_wr rfl rfl (by repeat' first | exact ArgS.nil | refine ArgS.ren rfl rfl ?_) rfl rfl rfl rfl rfl rfl (wstr_wr _ (by exact blies_W) _ _ (by (simp only [bsz, List.size_toArray, List.length_append, List.length_cons, List.length_nil, ByteArray.size_append] <;> omega))) ?_); apply jW) | (refine WP.regionC (id := 13) ?_; (refine smove rfl ?_); (refine sloadpw rfl rfl rfl rfl ?_); (refine sfieldp rfl rfl rfl ?_); (refine sloadp rfl rfl rfl rfl ?_); (refine seql rfl rfl ?_); (refine smove rfl ?_); (refine sg (gq_vf rfl rfl) (fun he => ap_field_p (rq_p rfl rfl) rfl rfl) ?_); (refine sg (gq_vf rfl rfl) (fun he => ap_load_p (rq_c rfl rfl) rfl rfl rfl) ?_); (refine sg (gq_vf rfl rfl) (fun he => ap_eql (rq_c rfl rfl) (rq_p rfl rfl)) ?_); (refine sg (gq_vf rfl rfl) (fun he => ap_move (rq_c rfl rfl)) ?_); (refine sg (gq_ct rfl rfl) (fun he => ap_field_p (rq_p rfl rfl) rfl rfl) ?_); (refine sg (gq_ct rfl rfl) (fun he => ap_load_p (rq_c rfl rfl) rfl rfl rfl) ?_); (refine sg (gq_ct rfl rfl) (fun he => ap_len_s rfl (rq_c rfl rfl)) ?_); (refine sg (gq_ct rfl rfl) (fun he => ap_eql (rq_c rfl rfl) (rq_p rfl rfl)) ?_); (refine sg (gq_vf rfl rfl) (fun he => ap_and (rq_c rfl rfl) (rq_c rfl rfl)) ?_); (refine su (ap_or (rq_p rfl rfl) (rq_c rfl rfl)) ?_); (refine sc_wr rfl rfl (by repeat' first | exact ArgS.nil | refine ArgS.ren (by first | exact rfl | exact ren_p (by simp [AV.bd, bdL, bdL_append])) (by first | exact rfl | (simp [AV.bd, bdL, bdL_append]; done)) ?_) rfl rfl rfl rfl rfl rfl (hW _ (by simp only [List.length_append, List.length_cons, List.length_nil]; omega)) ?_); apply jW) | (refine WP.regionC (id := 14) ?_; (refine sadd rfl rfl (by exact inr_i64_of (by omega)) ?_); (refine smove rfl ?_); apply jW)))
          refine ⟨i + 1, ⟨by omega, by omega⟩, ?_⟩
          rw [e1]
          exact ⟨[0, 1, 6, 3], ToR.S rfl (by repeat' (first | exact rt_nil | refine rt_t rfl rfl ?_ | refine rt_e rfl rfl ?_ | refine rt_p rfl rfl (by first | (simp [AV.bd, bdL, bdL_append]; done) | fail) ?_)) (by repeat' (first | exact ro_nil | refine ro_b rfl (by first | exact rfl | fail) ?_ | refine ro_d rfl rfl ?_ | refine ro_p rfl (by first | exact rfl | fail) (by first | (simp [bdL, bdL_append, AV.bd]; done) | fail) ?_)) rfl (by (rw [hm]; exact rfl)) rfl (by (simp [bdT, AV.bd, bdL, bdL_append]; done)) (by repeat' (first | exact True.intro | exact rfl | refine And.intro ?_ ?_ | (simp [bdOq, bdL, bdL_append, AV.bd]; done))) (by (rw [hm]; exact Nat.le_of_ble_eq_true rfl))⟩
      · have ho : oneT kk i (nth kids i) = encT (exT (nth kids i)) (!decide ((nth kids i).kind = 1)) := by simp [oneT, sepT, reqP, hk2, hk3]
        rw [ho] at hmo2
        have e1 : bs ++ kidsT kk false (kids.take (i + 1)) = bs ++ kidsT kk false (kids.take i) ++ encT (exT (nth kids i)) (!decide ((nth kids i).kind = 1)) := by rw [kidsT_take hlt, ho, List.append_assoc]
        have hW : ∀ b' : List UInt8, b'.length + (encT (exT (nth kids i)) (!decide ((nth kids i).kind = 1))).length ≤ 1000000000 → Wr Tryd.prog 46 [.ptr 0 2 0 0, exprA (nth kids i), boolA (!decide ((nth kids i).kind = 1))] TW b' (b' ++ encT (exT (nth kids i)) (!decide ((nth kids i).kind = 1))) (.tup []) := fun b' hb' => enclosed_wr _ _ hx b' hb'
        (repeat' (first | apply jA | apply jF | apply jH | apply jI | apply jN | (refine wp_cond rfl (fun hc => ?_) (fun hc => ?_) <;> (try simp only [sB, ne_eq, reduceCtorEq] at hc) <;> (try (exfalso; omega))) | (refine WP.regionC (id := 2) ?_; (refine slss rfl rfl ?_); apply jW) | (refine WP.regionC (id := 3) ?_; (refine smove rfl ?_); (refine sidxn rfl rfl (by omega) ?_); (refine sloadw rfl rfl ?_); (refine se_alloc rfl ?_); (refine sassign rfl ?_); (refine se_store_b rfl rfl rfl rfl ?_); apply jW) | (refine WP.regionC (id := 4) ?_; (refine sfieldp rfl rfl rfl ?_); (refine sloadp rfl rfl rfl rfl ?_); apply jW) | (refine WP.regionC ?_; (refine seql rfl rfl ?_); (refine sassign rfl ?_); apply jW) | (refine WP.regionC (id := 5) ?_; (refine smove rfl ?_); (refine sloadpw rfl rfl rfl rfl ?_); (refine sfieldp rfl rfl rfl ?_); (refine sloadp rfl rfl rfl rfl ?_); (refine su (aneq rfl rfl) ?_); (refine sc_wr rfl rfl (by repeat' first | exact ArgS.nil | refine ArgS.ren (by first | exact rfl | exact ren_p (by simp [AV.bd, bdL, bdL_append])) (by first | exact rfl | (simp [AV.bd, bdL, bdL_append]; done)) ?_) rfl rfl rfl rfl rfl rfl (hW _ (by simp only [List.length_append]; omega)) ?_); apply jW) | (refine WP.regionC (id := 14) ?_; (refine sadd rfl rfl (by exact inr_i64_of (by omega)) ?_); (refine smove rfl ?_); apply jW)))
        refine ⟨i + 1, ⟨by omega, by omega⟩, ?_⟩
        rw [e1]
        exact ⟨[0, 1, 5, 3], ToR.S rfl (by repeat' (first | exact rt_nil | refine rt_t rfl rfl ?_ | refine rt_e rfl rfl ?_ | refine rt_p rfl rfl (by first | (simp [AV.bd, bdL, bdL_append]; done) | fail) ?_)) (by repeat' (first | exact ro_nil | refine ro_b rfl (by first | exact rfl | fail) ?_ | refine ro_d rfl rfl ?_ | refine ro_p rfl (by first | exact rfl | fail) (by first | (simp [bdL, bdL_append, AV.bd]; done) | fail) ?_)) rfl (by (rw [hm]; exact rfl)) rfl (by (simp [bdT, AV.bd, bdL, bdL_append]; done)) (by repeat' (first | exact True.intro | exact rfl | refine And.intro ?_ ?_ | (simp [bdOq, bdL, bdL_append, AV.bd]; done))) (by (rw [hm]; exact Nat.le_of_ble_eq_true rfl))⟩
    obtain rfl : i = kids.length := by omega
    rw [List.take_of_length_le (Nat.le_refl _)] at hmo ⊢
    by_cases h1 : kk = 1
    · have e1 : tailT kk nm = bl nm := by simp [tailT, h1]
      rw [e1] at hb ⊢
      rw [bl_len] at hb
      (repeat' (first | apply jA | apply jF | apply jH | apply jJ | apply jL | apply jN | apply jP | apply jR | (refine wp_cond rfl (fun hc => ?_) (fun hc => ?_) <;> (try simp only [sB, ne_eq, reduceCtorEq] at hc) <;> (try (exfalso; omega))) | (refine WP.regionC (id := 2) ?_; (refine slss rfl rfl ?_); apply jW) | (refine WP.regionC (id := 15) ?_; (refine sfieldp rfl rfl rfl ?_); (refine sloadp rfl rfl rfl rfl ?_); apply jW) | (refine WP.regionC (id := 16) ?_; (refine seql rfl rfl ?_); (refine sassign rfl ?_); apply jW) | (refine wp_drawT (id := 17) 5 mixed (by kernel_rfl) (by kernel_rfl) (by kernel_rfl) rfl rfl ?_ <;> (refine rmove rfl ?_) <;> (refine rnilc rfl ?_) <;> (refine rfieldp rfl rfl rfl ?_) <;> (refine rfieldp rfl rfl rfl ?_) <;> (refine rloadp rfl rfl rfl rfl ?_) <;> (refine rd_tail (by kernel_rfl) ?_) <;> (refine sc_wr rfl rfl (by repeat' first | exact ArgS.nil | refine ArgS.ren rfl rfl ?_) rfl rfl rfl rfl rfl rfl (wstr_wr _ (by exact blies_W) _ _ (by (simp only [bsz, List.size_toArray, List.length_append, List.length_cons, List.length_nil, ByteArray.size_append] <;> omega))) ?_) <;> (apply jW))))
      rw [← List.append_assoc]
      exact retW_0 ⟨[0, 1, 9], ToR.S rfl (by repeat' (exact rt_nil)) (by repeat' (first | exact ro_nil | refine ro_b rfl (by first | exact rfl | fail) ?_ | refine ro_d rfl rfl ?_)) rfl rfl rfl (by (simp [bdT, AV.bd, bdL, bdL_append]; done)) (by repeat' (first | exact True.intro | exact rfl | refine And.intro ?_ ?_)) (by exact Nat.le_of_ble_eq_true rfl)⟩
    by_cases h4 : kk = 4
    · have e1 : tailT kk nm = [63] := by simp [tailT, h4]
      rw [e1] at hb ⊢
      simp only [List.length_cons, List.length_nil] at hb
      (repeat' (first | apply jA | apply jF | apply jH | apply jJ | apply jL | apply jN | apply jP | apply jR | (refine wp_cond rfl (fun hc => ?_) (fun hc => ?_) <;> (try simp only [sB, ne_eq, reduceCtorEq] at hc) <;> (try (exfalso; omega))) | (refine WP.regionC (id := 2) ?_; (refine slss rfl rfl ?_); apply jW) | (refine WP.regionC (id := 15) ?_; (refine sfieldp rfl rfl rfl ?_); (refine sloadp rfl rfl rfl rfl ?_); apply jW) | (refine WP.regionC ?_; (refine seql rfl rfl ?_); (refine sassign rfl ?_); apply jW) | (refine WP.regionC (id := 19) ?_; (refine smove rfl ?_); (refine snilc rfl ?_); (refine sfieldp rfl rfl rfl ?_); (refine sc_wr rfl rfl (by repeat' first | exact ArgS.nil | refine ArgS.ren rfl rfl ?_) rfl rfl rfl rfl rfl rfl (wbyte_lit _ (by exact blies_W) _ _ (by decide) (by (simp only [bsz, List.size_toArray, List.length_append, List.length_cons, List.length_nil, ByteArray.size_append] <;> omega))) ?_); apply jW)))
      rw [← List.append_assoc]
      exact retW_0 ⟨[0, 1, 4], ToR.S rfl (by repeat' (exact rt_nil)) (by repeat' (first | exact ro_nil | refine ro_b rfl (by first | exact rfl | fail) ?_ | refine ro_d rfl rfl ?_)) rfl rfl rfl (by (simp [bdT, AV.bd, bdL, bdL_append]; done)) (by repeat' (first | exact True.intro | exact rfl | refine And.intro ?_ ?_)) (by exact Nat.le_of_ble_eq_true rfl)⟩
    by_cases h5 : kk = 5
    · have e1 : tailT kk nm = [42] := by simp [tailT, h5]
      rw [e1] at hb ⊢
      simp only [List.length_cons, List.length_nil] at hb
      (repeat' (first | apply jA | apply jF | apply jH | apply jJ | apply jL | apply jN | apply jP | apply jR | (refine wp_cond rfl (fun hc => ?_) (fun hc => ?_) <;> (try simp only [sB, ne_eq, reduceCtorEq] at hc) <;> (try (exfalso; omega))) | (refine WP.regionC (id := 2) ?_; (refine slss rfl rfl ?_); apply jW) | (refine WP.regionC (id := 15) ?_; (refine sfieldp rfl rfl rfl ?_); (refine sloadp rfl rfl rfl rfl ?_); apply jW) | (refine WP.regionC ?_; (refine seql rfl rfl ?_); (refine sassign rfl ?_); apply jW) | (refine WP.regionC (id := 21) ?_; (refine smove rfl ?_); (refine snilc rfl ?_); (refine sfieldp rfl rfl rfl ?_); (refine sc_wr rfl rfl (by repeat' first | exact ArgS.nil | refine ArgS.ren rfl rfl ?_) rfl rfl rfl rfl rfl rfl (wbyte_lit _ (by exact blies_W) _ _ (by decide) (by (simp only [bsz, List.size_toArray, List.length_append, List.length_cons, List.length_nil, ByteArray.size_append] <;> omega))) ?_); apply jW)))
      rw [← List.append_assoc]
      exact retW_0 ⟨[0, 1, 4], ToR.S rfl (by repeat' (exact rt_nil)) (by repeat' (first | exact ro_nil | refine ro_b rfl (by first | exact rfl | fail) ?_ | refine ro_d rfl rfl ?_)) rfl rfl rfl (by (simp [bdT, AV.bd, bdL, bdL_append]; done)) (by repeat' (first | exact True.intro | exact rfl | refine And.intro ?_ ?_)) (by exact Nat.le_of_ble_eq_true rfl)⟩
    by_cases h6 : kk = 6
    · have e1 : tailT kk nm = [43] := by simp [tailT, h6]
      rw [e1] at hb ⊢
      simp only [List.length_cons, List.length_nil] at hb
      (repeat' (first | apply jA | apply jF | apply jH | apply jJ | apply jL | apply jN | apply jP | apply jR | (refine wp_cond rfl (fun hc => ?_) (fun hc => ?_) <;> (try simp only [sB, ne_eq, reduceCtorEq] at hc) <;> (try (exfalso; omega))) | (refine WP.regionC (id := 2) ?_; (refine slss rfl rfl ?_); apply jW) | (refine WP.regionC (id := 15) ?_; (refine sfieldp rfl rfl rfl ?_); (refine sloadp rfl rfl rfl rfl ?_); apply jW) | (refine WP.regionC ?_; (refine seql rfl rfl ?_); (refine sassign rfl ?_); apply jW) | (refine WP.regionC (id := 23) ?_; (refine smove rfl ?_); (refine snilc rfl ?_); (refine sfieldp rfl rfl rfl ?_); (refine sc_wr rfl rfl (by repeat' first | exact ArgS.nil | refine ArgS.ren rfl rfl ?_) rfl rfl rfl rfl rfl rfl (wbyte_lit _ (by exact blies_W) _ _ (by decide) (by (simp only [bsz, List.size_toArray, List.length_append, List.length_cons, List.length_nil, ByteArray.size_append] <;> omega))) ?_); apply jW)))
      rw [← List.append_assoc]
      exact retW_0 ⟨[0, 1, 4], ToR.S rfl (by repeat' (exact rt_nil)) (by repeat' (first | exact ro_nil | refine ro_b rfl (by first | exact rfl | fail) ?_ | refine ro_d rfl rfl ?_)) rfl rfl rfl (by (simp [bdT, AV.bd, bdL, bdL_append]; done)) (by repeat' (first | exact True.intro | exact rfl | refine And.intro ?_ ?_)) (by exact Nat.le_of_ble_eq_true rfl)⟩
    have e1 : tailT kk nm = [] := by simp [tailT, h1, h4, h5, h6]
    rw [e1, List.append_nil] at ⊢
    (repeat' (first | apply jA | apply jF | apply jH | apply jI | apply jJ | apply jL | apply jN | apply jP | apply jR | (refine wp_cond rfl (fun hc => ?_) (fun hc => ?_) <;> (try simp only [sB, ne_eq, reduceCtorEq] at hc) <;> (try (exfalso; omega))) | (refine WP.regionC (id := 2) ?_; (refine slss rfl rfl ?_); apply jW) | (refine WP.regionC (id := 15) ?_; (refine sfieldp rfl rfl rfl ?_); (refine sloadp rfl rfl rfl rfl ?_); apply jW) | (refine WP.regionC ?_; (refine seql rfl rfl ?_); (refine sassign rfl ?_); apply jW)))
    exact retW_0 ⟨[0, 1, 2], ToR.S rfl (by repeat' (exact rt_nil)) (by repeat' (first | exact ro_nil | refine ro_b rfl (by first | exact rfl | fail) ?_ | refine ro_d rfl rfl ?_)) rfl rfl rfl (by (simp [bdT, AV.bd, bdL, bdL_append]; done)) (by repeat' (first | exact True.intro | exact rfl | refine And.intro ?_ ?_)) (by exact Nat.le_of_ble_eq_true rfl)⟩
end Go.Lg

namespace Go.Lg
open Go.Proofs
set_option linter.unusedSimpArgs false
set_option linter.unusedVariables false
attribute [local irreducible] Ap Rq asemC WP RunD Ret Gq thenA inBlockA bodyQ noGotoA RqL RqP OpP
set_option maxHeartbeats 8000000
set_option maxRecDepth 20000
attribute [local simp] AV.cells
theorem alternative_wr (a : GAl) (hp0 : 0 ≤ a.price) (hp1 : a.price ≤ 1000) (bs : List UInt8) (hb : bs.length + (altT a).length ≤ 1000000000) :
    Wr Tryd.prog 18 [.ptr 0 2 0 0, altA a] TW bs (bs ++ altT a) (.tup []) := by
  have hil := itoa_len hp0 hp1
  rw [altT, List.length_append] at hb
  have hx : ∀ bs : List UInt8, bs.length + (encT (exT a.body) (decide (a.body.kind = 3))).length ≤ 1000000000 → Wr Tryd.prog 46 [.ptr 0 2 0 0, .agg [intA a.body.kind, strA a.body.name, .sl 3 (kidsL a.body)], boolA (decide (a.body.kind = 3))] TW bs (bs ++ encT (exT a.body) (decide (a.body.kind = 3))) (.tup []) :=
    fun bs hb => enclosed_wr a.body _ (fun bs hb => expr_wr a.body bs hb) bs hb
  have hkl : (kidsL a.body).length = a.body.kids.length := kidsL_len _
  unfold altA
  by_cases hbod : ¬ a.body.kind = 2 ∨ 0 < (a.body.kids.length : Int)
  · have e1 : bodT a.body = [32] ++ encT (exT a.body) (decide (a.body.kind = 3)) := by rw [bodT, if_pos hbod]
    have hb2 := hb
    rw [e1, List.length_append] at hb2
    simp only [List.length_cons, List.length_nil] at hb2
    have hy := hx (bs ++ [32]) (by simp only [List.length_append, List.length_cons, List.length_nil]; omega)
    by_cases hpz : a.price = 0
    · have e2 : altT a = bodT a.body := by rw [altT, prT, if_pos hpz, List.append_nil]
      rw [e2, e1, ← List.append_assoc]
      refine Wr.intro (by rfl) (by rfl) (by kernel_rfl) Tryd.func18 rfl rfl Tryd.ntmps18 (by exact Nat.le_of_ble_eq_true rfl) ?_; intro Γ hm
      (repeat' (first | refine WP.seq ?_ | refine go_n ?_ | refine WP.skip ?_ | refine bo_n ?_ | (refine wp_cond (by rfl) (fun hc => ?_) (fun hc => ?_) <;> (try simp only [sB, ne_eq, reduceCtorEq] at hc) <;> (try (exfalso; omega))) | (refine WP.regionC (id := 0) ?_; (refine se_box (by rfl) (by exact ⟨rfl, rfl⟩) ?_); refine asemC_end ?_) | (refine WP.regionC (id := 1) ?_; (refine su (ap_field_p (rq_p rfl rfl) (by rfl) (by rfl)) ?_); (refine su (ap_field_p (rq_p rfl rfl) (by rfl) (by rfl)) ?_); (refine su (ap_load_p (rq_p rfl rfl) (by rfl) (by rfl) (by rfl)) ?_); (refine su (ap_neq (rq_p rfl rfl) (rq_p rfl rfl)) ?_); (refine su (ap_move (rq_p rfl rfl)) ?_); (refine sg (gq_vf rfl rfl) (fun he => ap_field_p (rq_p rfl rfl) (by rfl) (by rfl)) ?_); (refine sg (gq_vf rfl rfl) (fun he => ap_field_p (rq_c rfl rfl) (by rfl) (by rfl)) ?_); (refine sg (gq_vf rfl rfl) (fun he => ap_load_p (rq_c rfl rfl) (by rfl) (by rfl) (by rfl)) ?_); (refine sg (gq_vf rfl rfl) (fun he => ap_len_s (by rfl) (rq_c rfl rfl)) ?_); (refine sg (gq_vf rfl rfl) (fun he => ap_gtr (rq_c rfl rfl) (rq_p rfl rfl)) ?_); (refine su (ap_or (rq_p rfl rfl) (rq_c rfl rfl)) ?_); refine asemC_end ?_) | (refine WP.regionC (id := 2) ?_; (refine su (ap_move (rq_p rfl rfl)) ?_); (refine su (ap_nilc (rq_p rfl rfl)) ?_); (refine su (ap_field_p (rq_p rfl rfl) (by rfl) (by rfl)) ?_); (refine sc_wr rfl rfl (by repeat' first | exact ArgS.nil | refine ArgS.ren (by rfl) (by rfl) ?_) (by rfl) (by rfl) (by rfl) (by rfl) (by rfl) (by rfl) (wbyte_lit _ (by exact blies_W) _ _ (by decide) (by omega)) ?_); refine asemC_end ?_) | (refine WP.regionC (id := 3) ?_; (refine su (ap_move (rq_p rfl rfl)) ?_); (refine su (ap_field_p (rq_p rfl rfl) (by rfl) (by rfl)) ?_); (refine su (ap_load_p (rq_p rfl rfl) (by rfl) (by rfl) (by rfl)) ?_); (refine su (ap_field_p (rq_p rfl rfl) (by rfl) (by rfl)) ?_); (refine su (ap_field_p (rq_p rfl rfl) (by rfl) (by rfl)) ?_); (refine su (ap_load_p (rq_p rfl rfl) (by rfl) (by rfl) (by rfl)) ?_); (refine su (ap_eql (rq_p rfl rfl) (rq_p rfl rfl)) ?_); (refine sc_wr rfl rfl (by repeat' first | exact ArgS.nil | refine ArgS.ren (by first | exact rfl | exact ren_p (by simp [AV.bd, bdL, bdL_append])) (by first | exact rfl | (simp [AV.bd, bdL, bdL_append]; done)) ?_) (by rfl) (by rfl) (by rfl) (by rfl) (by rfl) (by rfl) (hy) ?_); refine asemC_end ?_) | (refine WP.regionC (id := 4) ?_; (refine su (ap_field_p (rq_p rfl rfl) (by rfl) (by rfl)) ?_); (refine su (ap_load_p (rq_p rfl rfl) (by rfl) (by rfl) (by rfl)) ?_); (refine su (ap_neq (rq_p rfl rfl) (rq_p rfl rfl)) ?_); refine asemC_end ?_)))
      exact retW_0 ⟨[0, 1, 4], ToR.S rfl (by repeat' (exact rt_nil)) (by repeat' (first | exact ro_nil | refine ro_b (by rfl) (by first | exact rfl | fail) ?_ | refine ro_d (by rfl) (by rfl) ?_)) (by rfl) (by rfl) (by rfl) (by (simp [bdT, AV.bd, bdL, bdL_append]; done)) (by repeat' (first | exact True.intro | exact rfl | refine And.intro ?_ ?_)) (by exact Nat.le_of_ble_eq_true rfl)⟩
    · have e2 : altT a = bodT a.body ++ (wPrice ++ Lib.itoa a.price) := by rw [altT, prT, if_neg hpz]
      have e3 : bs ++ altT a = bs ++ [32] ++ encT (exT a.body) (decide (a.body.kind = 3)) ++ ((⟨#[32, 112, 114, 105, 99, 101, 32]⟩ : ByteArray) ++ ⟨(Lib.itoa a.price).toArray⟩).data.toList := by
        rw [e2, e1]; simp [wPrice]
      rw [prT, if_neg hpz] at hb2
      simp only [wPrice, List.length_append, List.length_cons, List.length_nil] at hb2
      rw [e3]
      have hsz : (⟨(Lib.itoa a.price).toArray⟩ : ByteArray).size = (Lib.itoa a.price).length := tx_size _
      refine Wr.intro (by rfl) (by rfl) (by kernel_rfl) Tryd.func18 rfl rfl Tryd.ntmps18 (by exact Nat.le_of_ble_eq_true rfl) ?_; intro Γ hm
      (repeat' (first | refine WP.seq ?_ | refine go_n ?_ | refine bo_n ?_ | (refine wp_cond (by rfl) (fun hc => ?_) (fun hc => ?_) <;> (try simp only [sB, ne_eq, reduceCtorEq] at hc) <;> (try (exfalso; omega))) | (refine WP.regionC (id := 0) ?_; (refine se_box (by rfl) (by exact ⟨rfl, rfl⟩) ?_); refine asemC_end ?_) | (refine WP.regionC (id := 1) ?_; (refine su (ap_field_p (rq_p rfl rfl) (by rfl) (by rfl)) ?_); (refine su (ap_field_p (rq_p rfl rfl) (by rfl) (by rfl)) ?_); (refine su (ap_load_p (rq_p rfl rfl) (by rfl) (by rfl) (by rfl)) ?_); (refine su (ap_neq (rq_p rfl rfl) (rq_p rfl rfl)) ?_); (refine su (ap_move (rq_p rfl rfl)) ?_); (refine sg (gq_vf rfl rfl) (fun he => ap_field_p (rq_p rfl rfl) (by rfl) (by rfl)) ?_); (refine sg (gq_vf rfl rfl) (fun he => ap_field_p (rq_c rfl rfl) (by rfl) (by rfl)) ?_); (refine sg (gq_vf rfl rfl) (fun he => ap_load_p (rq_c rfl rfl) (by rfl) (by rfl) (by rfl)) ?_); (refine sg (gq_vf rfl rfl) (fun he => ap_len_s (by rfl) (rq_c rfl rfl)) ?_); (refine sg (gq_vf rfl rfl) (fun he => ap_gtr (rq_c rfl rfl) (rq_p rfl rfl)) ?_); (refine su (ap_or (rq_p rfl rfl) (rq_c rfl rfl)) ?_); refine asemC_end ?_) | (refine WP.regionC (id := 2) ?_; (refine su (ap_move (rq_p rfl rfl)) ?_); (refine su (ap_nilc (rq_p rfl rfl)) ?_); (refine su (ap_field_p (rq_p rfl rfl) (by rfl) (by rfl)) ?_); (refine sc_wr rfl rfl (by repeat' first | exact ArgS.nil | refine ArgS.ren (by rfl) (by rfl) ?_) (by rfl) (by rfl) (by rfl) (by rfl) (by rfl) (by rfl) (wbyte_lit _ (by exact blies_W) _ _ (by decide) (by omega)) ?_); refine asemC_end ?_) | (refine WP.regionC (id := 3) ?_; (refine su (ap_move (rq_p rfl rfl)) ?_); (refine su (ap_field_p (rq_p rfl rfl) (by rfl) (by rfl)) ?_); (refine su (ap_load_p (rq_p rfl rfl) (by rfl) (by rfl) (by rfl)) ?_); (refine su (ap_field_p (rq_p rfl rfl) (by rfl) (by rfl)) ?_); (refine su (ap_field_p (rq_p rfl rfl) (by rfl) (by rfl)) ?_); (refine su (ap_load_p (rq_p rfl rfl) (by rfl) (by rfl) (by rfl)) ?_); (refine su (ap_eql (rq_p rfl rfl) (rq_p rfl rfl)) ?_); (refine sc_wr rfl rfl (by repeat' first | exact ArgS.nil | refine ArgS.ren (by first | exact rfl | exact ren_p (by simp [AV.bd, bdL, bdL_append])) (by first | exact rfl | (simp [AV.bd, bdL, bdL_append]; done)) ?_) (by rfl) (by rfl) (by rfl) (by rfl) (by rfl) (by rfl) (hy) ?_); refine asemC_end ?_) | (refine WP.regionC (id := 4) ?_; (refine su (ap_field_p (rq_p rfl rfl) (by rfl) (by rfl)) ?_); (refine su (ap_load_p (rq_p rfl rfl) (by rfl) (by rfl) (by rfl)) ?_); (refine su (ap_neq (rq_p rfl rfl) (rq_p rfl rfl)) ?_); refine asemC_end ?_) | (refine wp_drawT (id := 5) 7 mixed (by kernel_rfl) (by kernel_rfl) (by kernel_rfl) rfl rfl ?_ <;> (refine rd_u (by rfl) (by rfl) (ap_move (rq_p rfl rfl)) ?_) <;> (refine rd_u (by rfl) (by rfl) (ap_nilc (rq_p rfl rfl)) ?_) <;> (refine rd_u (by rfl) (by rfl) (ap_field_p (rq_p rfl rfl) (by rfl) (by rfl)) ?_) <;> (refine rd_u (by rfl) (by rfl) (ap_field_p (rq_p rfl rfl) (by rfl) (by rfl)) ?_) <;> (refine rd_u (by rfl) (by rfl) (ap_load_p (rq_p rfl rfl) (by rfl) (by rfl) (by rfl)) ?_) <;> (refine rd_call rfl rfl (by first | ((repeat' first | exact SubL.nil | refine SubL.cons ?_ ?_ | exact Sub.refl); done) | fail) (by first | (simp [bdL, bdL_append, AV.bd]; done) | fail) (itoa_fn _ (by omega) (by omega)) ?_) <;> (refine rd_u (by rfl) (by rfl) (ap_cat (rq_p rfl rfl) (rq_p rfl rfl) (by (simp only [bsz, sZ] <;> omega))) ?_) <;> (refine rd_tail (by kernel_rfl) ?_) <;> (refine sc_wr rfl rfl (by repeat' first | exact ArgS.nil | refine ArgS.ren (by rfl) (by rfl) ?_) (by rfl) (by rfl) (by rfl) (by rfl) (by rfl) (by rfl) (wstr_wr _ (by exact blies_W) _ _ (by (simp only [bsz, List.size_toArray, List.length_append, List.length_cons, List.length_nil, ByteArray.size_append] <;> omega))) ?_) <;> (refine asemC_end ?_))))
      exact retW_0 ⟨[0, 1, 12], ToR.S rfl (by repeat' (exact rt_nil)) (by repeat' (first | exact ro_nil | refine ro_b (by rfl) (by first | exact rfl | fail) ?_ | refine ro_d (by rfl) (by rfl) ?_)) (by rfl) (by rfl) (by rfl) (by (simp [bdT, AV.bd, bdL, bdL_append]; done)) (by repeat' (first | exact True.intro | exact rfl | refine And.intro ?_ ?_)) (by exact Nat.le_of_ble_eq_true rfl)⟩
  · have e1 : bodT a.body = [] := by rw [bodT, if_neg hbod]
    have hk0 : a.body.kind = 2 ∧ (a.body.kids.length : Int) ≤ 0 := by omega
    rw [e1] at hb
    by_cases hpz : a.price = 0
    · have e2 : altT a = [] := by rw [altT, prT, if_pos hpz, e1]; rfl
      rw [e2, List.append_nil]
      refine Wr.intro (by rfl) (by rfl) (by kernel_rfl) Tryd.func18 rfl rfl Tryd.ntmps18 (by exact Nat.le_of_ble_eq_true rfl) ?_; intro Γ hm
      (repeat' (first | refine WP.seq ?_ | refine go_n ?_ | (refine WP.regionC (id := 0) ?_; (refine se_box (by rfl) (by exact ⟨rfl, rfl⟩) ?_); refine asemC_end ?_)))
      refine wp_mv (i := 0) (j := 1) rfl rfl rfl rfl ?_
      (repeat' (first | refine WP.seq ?_ | refine go_n ?_ | refine WP.skip ?_ | refine bo_n ?_ | (refine wp_cond (by rfl) (fun hc => ?_) (fun hc => ?_) <;> (try simp only [sB, ne_eq, reduceCtorEq] at hc) <;> (try (exfalso; omega))) | (refine WP.regionC (id := 1) ?_; (refine su (ap_field_p (rq_p rfl rfl) (by rfl) (by rfl)) ?_); (refine su (ap_field_p (rq_p rfl rfl) (by rfl) (by rfl)) ?_); (refine su (ap_load_p (rq_p rfl rfl) (by rfl) (by rfl) (by rfl)) ?_); (refine su (ap_neq (rq_p rfl rfl) (rq_p rfl rfl)) ?_); (refine su (ap_move (rq_p rfl rfl)) ?_); (refine sg (gq_vf rfl rfl) (fun he => ap_field_p (rq_p rfl rfl) (by rfl) (by rfl)) ?_); (refine sg (gq_vf rfl rfl) (fun he => ap_field_p (rq_c rfl rfl) (by rfl) (by rfl)) ?_); (refine sg (gq_vf rfl rfl) (fun he => ap_load_p (rq_c rfl rfl) (by rfl) (by rfl) (by rfl)) ?_); (refine sg (gq_vf rfl rfl) (fun he => ap_len_s (by rfl) (rq_c rfl rfl)) ?_); (refine sg (gq_vf rfl rfl) (fun he => ap_gtr (rq_c rfl rfl) (rq_p rfl rfl)) ?_); (refine su (ap_or (rq_p rfl rfl) (rq_c rfl rfl)) ?_); refine asemC_end ?_) | (refine WP.regionC (id := 4) ?_; (refine su (ap_field_p (rq_p rfl rfl) (by rfl) (by rfl)) ?_); (refine su (ap_load_p (rq_p rfl rfl) (by rfl) (by rfl) (by rfl)) ?_); (refine su (ap_neq (rq_p rfl rfl) (rq_p rfl rfl)) ?_); refine asemC_end ?_)))
      exact retW_0 ⟨[0, 1, 3], ToR.S rfl (by repeat' (exact rt_nil)) (by repeat' (first | exact ro_nil | refine ro_b (by rfl) (by first | exact rfl | fail) ?_ | refine ro_d (by rfl) (by rfl) ?_)) (by rfl) (by rfl) (by rfl) (by (simp [bdT, AV.bd, bdL, bdL_append]; done)) (by repeat' (first | exact True.intro | exact rfl | refine And.intro ?_ ?_)) (by exact Nat.le_of_ble_eq_true rfl)⟩
    · have e2 : altT a = wPrice ++ Lib.itoa a.price := by rw [altT, prT, if_neg hpz, e1]; rfl
      have e3 : bs ++ altT a = bs ++ ((⟨#[32, 112, 114, 105, 99, 101, 32]⟩ : ByteArray) ++ ⟨(Lib.itoa a.price).toArray⟩).data.toList := by
        rw [e2]; simp [wPrice]
      rw [prT, if_neg hpz] at hb
      simp only [wPrice, List.length_append, List.length_cons, List.length_nil] at hb
      rw [e3]
      have hsz : (⟨(Lib.itoa a.price).toArray⟩ : ByteArray).size = (Lib.itoa a.price).length := tx_size _
      refine Wr.intro (by rfl) (by rfl) (by kernel_rfl) Tryd.func18 rfl rfl Tryd.ntmps18 (by exact Nat.le_of_ble_eq_true rfl) ?_; intro Γ hm
      (repeat' (first | refine WP.seq ?_ | refine go_n ?_ | refine WP.skip ?_ | refine bo_n ?_ | (refine wp_cond (by rfl) (fun hc => ?_) (fun hc => ?_) <;> (try simp only [sB, ne_eq, reduceCtorEq] at hc) <;> (try (exfalso; omega))) | (refine WP.regionC (id := 0) ?_; (refine se_box (by rfl) (by exact ⟨rfl, rfl⟩) ?_); refine asemC_end ?_) | (refine WP.regionC (id := 1) ?_; (refine su (ap_field_p (rq_p rfl rfl) (by rfl) (by rfl)) ?_); (refine su (ap_field_p (rq_p rfl rfl) (by rfl) (by rfl)) ?_); (refine su (ap_load_p (rq_p rfl rfl) (by rfl) (by rfl) (by rfl)) ?_); (refine su (ap_neq (rq_p rfl rfl) (rq_p rfl rfl)) ?_); (refine su (ap_move (rq_p rfl rfl)) ?_); (refine sg (gq_vf rfl rfl) (fun he => ap_field_p (rq_p rfl rfl) (by rfl) (by rfl)) ?_); (refine sg (gq_vf rfl rfl) (fun he => ap_field_p (rq_c rfl rfl) (by rfl) (by rfl)) ?_); (refine sg (gq_vf rfl rfl) (fun he => ap_load_p (rq_c rfl rfl) (by rfl) (by rfl) (by rfl)) ?_); (refine sg (gq_vf rfl rfl) (fun he => ap_len_s (by rfl) (rq_c rfl rfl)) ?_); (refine sg (gq_vf rfl rfl) (fun he => ap_gtr (rq_c rfl rfl) (rq_p rfl rfl)) ?_); (refine su (ap_or (rq_p rfl rfl) (rq_c rfl rfl)) ?_); refine asemC_end ?_) | (refine WP.regionC (id := 4) ?_; (refine su (ap_field_p (rq_p rfl rfl) (by rfl) (by rfl)) ?_); (refine su (ap_load_p (rq_p rfl rfl) (by rfl) (by rfl) (by rfl)) ?_); (refine su (ap_neq (rq_p rfl rfl) (rq_p rfl rfl)) ?_); refine asemC_end ?_) | (refine wp_drawT (id := 5) 7 mixed (by kernel_rfl) (by kernel_rfl) (by kernel_rfl) rfl rfl ?_ <;> (refine rd_u (by rfl) (by rfl) (ap_move (rq_p rfl rfl)) ?_) <;> (refine rd_u (by rfl) (by rfl) (ap_nilc (rq_p rfl rfl)) ?_) <;> (refine rd_u (by rfl) (by rfl) (ap_field_p (rq_p rfl rfl) (by rfl) (by rfl)) ?_) <;> (refine rd_u (by rfl) (by rfl) (ap_field_p (rq_p rfl rfl) (by rfl) (by rfl)) ?_) <;> (refine rd_u (by rfl) (by rfl) (ap_load_p (rq_p rfl rfl) (by rfl) (by rfl) (by rfl)) ?_) <;> (refine rd_call rfl rfl (by first | ((repeat' first | exact SubL.nil | refine SubL.cons ?_ ?_ | exact Sub.refl); done) | fail) (by first | (simp [bdL, bdL_append, AV.bd]; done) | fail) (itoa_fn _ (by omega) (by omega)) ?_) <;> (refine rd_u (by rfl) (by rfl) (ap_cat (rq_p rfl rfl) (rq_p rfl rfl) (by (simp only [bsz, sZ] <;> omega))) ?_) <;> (refine rd_tail (by kernel_rfl) ?_) <;> (refine sc_wr rfl rfl (by repeat' first | exact ArgS.nil | refine ArgS.ren (by rfl) (by rfl) ?_) (by rfl) (by rfl) (by rfl) (by rfl) (by rfl) (by rfl) (wstr_wr _ (by exact blies_W) _ _ (by (simp only [bsz, List.size_toArray, List.length_append, List.length_cons, List.length_nil, ByteArray.size_append] <;> omega))) ?_) <;> (refine asemC_end ?_))))
      exact retW_0 ⟨[0, 1, 10], ToR.S rfl (by repeat' (exact rt_nil)) (by repeat' (first | exact ro_nil | refine ro_b (by rfl) (by first | exact rfl | fail) ?_ | refine ro_d (by rfl) (by rfl) ?_)) (by rfl) (by rfl) (by rfl) (by (simp [bdT, AV.bd, bdL, bdL_append]; done)) (by repeat' (first | exact True.intro | exact rfl | refine And.intro ?_ ?_)) (by exact Nat.le_of_ble_eq_true rfl)⟩
theorem word_fn (a : Int) : Fn Tryd.prog 16 [intA a] (strA (wordT a)) := by
  refine Fn.intro (by rfl) (by kernel_rfl) Tryd.func16 rfl rfl Tryd.ntmps16 (by exact Nat.le_of_ble_eq_true rfl) ?_; intro Γ hm
  by_cases h1 : a = 1
  · rw [wordT, if_pos h1]
    (repeat' (first | refine WP.seq ?_ | refine WP.block ?_ | refine go_n ?_ | refine WP.ret ?_ | refine go_r ?_ | refine bl_r ?_ | refine bo_r ?_ | (refine wp_cond (by rfl) (fun hc => ?_) (fun hc => ?_) <;> (try simp only [sB, ne_eq, reduceCtorEq] at hc) <;> (try (exfalso; omega))) | (refine WP.regionC (id := 0) ?_; (refine su (ap_assign (rq_p rfl rfl)) ?_); refine asemC_end ?_) | (refine WP.regionC (id := 1) ?_; (refine su (ap_move (rq_p rfl rfl)) ?_); refine asemC_end ?_) | (refine WP.regionC (id := 2) ?_; (refine su (ap_eql (rq_p rfl rfl) (rq_p rfl rfl)) ?_); (refine su (ap_assign (rq_p rfl rfl)) ?_); refine asemC_end ?_) | (refine WP.regionC (id := 3) ?_; (refine su (ap_assign (rq_p rfl rfl)) ?_); refine asemC_end ?_) | exact ret_eq (by rfl) (by rfl) rfl))
  by_cases h2 : a = 2
  · rw [wordT, if_neg h1, if_pos h2]
    (repeat' (first | refine WP.seq ?_ | refine WP.block ?_ | refine go_n ?_ | refine WP.ret ?_ | refine go_r ?_ | refine bl_r ?_ | refine bo_r ?_ | (refine wp_cond (by rfl) (fun hc => ?_) (fun hc => ?_) <;> (try simp only [sB, ne_eq, reduceCtorEq] at hc) <;> (try (exfalso; omega))) | (refine WP.regionC (id := 0) ?_; (refine su (ap_assign (rq_p rfl rfl)) ?_); refine asemC_end ?_) | (refine WP.regionC (id := 1) ?_; (refine su (ap_move (rq_p rfl rfl)) ?_); refine asemC_end ?_) | (refine WP.regionC (id := 2) ?_; (refine su (ap_eql (rq_p rfl rfl) (rq_p rfl rfl)) ?_); (refine su (ap_assign (rq_p rfl rfl)) ?_); refine asemC_end ?_) | (refine WP.regionC (id := 4) ?_; (refine su (ap_eql (rq_p rfl rfl) (rq_p rfl rfl)) ?_); (refine su (ap_assign (rq_p rfl rfl)) ?_); refine asemC_end ?_) | (refine WP.regionC (id := 5) ?_; (refine su (ap_assign (rq_p rfl rfl)) ?_); refine asemC_end ?_) | exact ret_eq (by rfl) (by rfl) rfl))
  rw [wordT, if_neg h1, if_neg h2]
  (repeat' (first | refine WP.seq ?_ | refine WP.block ?_ | refine go_n ?_ | refine WP.skip ?_ | refine WP.ret ?_ | refine bl_n ?_ | refine bo_r ?_ | (refine wp_cond (by rfl) (fun hc => ?_) (fun hc => ?_) <;> (try simp only [sB, ne_eq, reduceCtorEq] at hc) <;> (try (exfalso; omega))) | (refine WP.regionC (id := 0) ?_; (refine su (ap_assign (rq_p rfl rfl)) ?_); refine asemC_end ?_) | (refine WP.regionC (id := 1) ?_; (refine su (ap_move (rq_p rfl rfl)) ?_); refine asemC_end ?_) | (refine WP.regionC (id := 2) ?_; (refine su (ap_eql (rq_p rfl rfl) (rq_p rfl rfl)) ?_); (refine su (ap_assign (rq_p rfl rfl)) ?_); refine asemC_end ?_) | (refine WP.regionC (id := 4) ?_; (refine su (ap_eql (rq_p rfl rfl) (rq_p rfl rfl)) ?_); (refine su (ap_assign (rq_p rfl rfl)) ?_); refine asemC_end ?_) | (refine WP.regionC (id := 6) ?_; (refine su (ap_assign (rq_p rfl rfl)) ?_); refine asemC_end ?_) | exact ret_eq (by rfl) (by rfl) rfl))
end Go.Lg

namespace Go.Lg
open Go.Proofs
set_option linter.unusedSimpArgs false
set_option linter.unusedVariables false
attribute [local irreducible] Ap Rq asemC WP RunD Ret Gq thenA inBlockA bodyQ noGotoA RqL RqP OpP
set_option maxHeartbeats 8000000
set_option maxRecDepth 20000
theorem format_fn (f : GFi) (hP : ∀ r, r ∈ f.rules → ∀ a, a ∈ r.alts → 0 ≤ a.price ∧ a.price ≤ 1000) (hB : (fmtF f).length ≤ 100000000) : Fn Tryd.prog 6 [fileA f] (strA (tx (fmtF f))) := by
  have hl0 := fmL0_le f
  have hl1 := fmL_mono f (Nat.zero_le _)
  have hz : (fm0 f).length = 8 + f.start.size := by simp [fm0, wStartT, endT, bl_len]; omega
  have hl2 : (fmL f 0).length = 8 + f.start.size := by rw [← hz]; simp [fmL]
  refine Fn.intro (by rfl) (by kernel_rfl) Tryd.func6 rfl rfl Tryd.ntmps6 (by exact Nat.le_of_ble_eq_true rfl) ?_; intro Γ hm
  refine wp_lens 0 rfl fun hl => ?_
  have hln : f.rules.length ≤ 9223372036854775807 ∧ f.levels.length ≤ 9223372036854775807 := by have := hl; simp [AV.lens, lensL, fileA, levelsA, grulesA] at this; omega
  (repeat' (first | apply jA | apply jF | apply jH | (refine WP.regionC (id := 0) ?_; (refine se_box (by rfl) (by exact ⟨rfl, rfl⟩) ?_); (refine sassign rfl ?_); apply jW) | (refine WP.regionC (id := 1) ?_; (refine se_bld (T := 57) (by rfl) ?_); apply jW) | (refine WP.regionC (id := 2) ?_; (refine sfieldp rfl rfl rfl ?_); (refine sfieldp rfl rfl rfl ?_); (refine sloadp rfl rfl rfl rfl ?_); (refine su (acat rfl rfl (by (simp only [bsz, sZ] <;> omega))) ?_); (refine su (acat rfl rfl (by (simp only [bsz, sZ] <;> omega))) ?_); (refine sc_wr rfl rfl (by repeat' first | exact ArgS.nil | refine ArgS.ren (by rfl) (by rfl) ?_) (by rfl) (by rfl) (by rfl) (by rfl) (by rfl) (by rfl) (wstr_wr _ (by exact blies_W) _ _ (by (simp only [bsz, List.size_toArray, List.length_append, List.length_cons, List.length_nil, ByteArray.size_append] <;> omega))) ?_); apply jW) | (refine WP.regionC (id := 3) ?_; (refine sfieldp rfl rfl rfl ?_); (refine sloadp rfl rfl rfl rfl ?_); (refine slenm rfl rfl ?_); (refine smove rfl ?_); apply jW)))
  have e0 : [] ++ (({ data := #[115, 116, 97, 114, 116, 32] } : ByteArray) ++ f.start ++ { data := #[59, 10] }).data.toList = fmL f 0 := by
    simp [fmL, fm0, wStartT, endT, bl]
  rw [e0]
  refine wp_loop (fun (j : Nat) => j ≤ f.levels.length) (fun j => f.levels.length - j)
    (fun j => (S 67 [(1, .ptr 0 3 0 0), (3, .ptr 1 2 0 0), (17, levelsA f.levels), (18, intA (f.levels.length : Nat)), (19, intA (j : Nat))] 3 [(0, some (.arr 3 [fileA f])), (1, some (.bld TW (.ref 2 1 0 (fmL f j).length))), (2, some (.bytes (fmL f j)))])) 0 ⟨[0, 1, 3], ToR.S rfl (by repeat' (first | exact rt_nil | refine rt_t (by rfl) (by rfl) ?_ | refine rt_e (by rfl) (by rfl) ?_ | refine rt_p (by rfl) (by rfl) (by first | (simp [AV.bd, bdL, bdL_append]; done) | fail) ?_)) (by repeat' (first | exact ro_nil | refine ro_b (by rfl) (by first | exact rfl | fail) ?_ | refine ro_d (by rfl) (by rfl) ?_ | refine ro_p (by rfl) (by first | exact rfl | fail) (by first | (simp [bdL, bdL_append, AV.bd]; done) | fail) ?_)) (by rfl) (by (rw [hm]; exact rfl)) (by rfl) (by (simp [bdT, AV.bd, bdL, bdL_append]; done)) (by repeat' (first | exact True.intro | exact rfl | refine And.intro ?_ ?_ | (simp [bdOq, bdL, bdL_append, AV.bd]; done))) (by (rw [hm]; exact Nat.le_of_ble_eq_true rfl))⟩ (Nat.zero_le _) ?_
  rintro j hj
  have hm1 := fmL_mono f hj
  by_cases hlt : j < f.levels.length
  · have hm2 := fmL_mono f (k := j + 1) (by omega)
    rw [fmL_succ hlt, List.length_append] at hm2
    have hlv : (lvT (nth f.levels j)).length = (wordT (nth f.levels j).assoc).size + (1 + ((Lib.join ((nth f.levels j).tokens.map bl) [32]).length + 2)) := by
      simp [lvT, endT, bl_len]; omega
    have hw := word_size (nth f.levels j).assoc
    have hjn := join_ge (nth f.levels j).tokens
    have hj2 : (Lib.join ((nth f.levels j).tokens.map (·.data.toList)) (⟨#[32]⟩ : ByteArray).data.toList).length ≤ 140737488355328 := by
      show (Lib.join ((nth f.levels j).tokens.map bl) [32]).length ≤ _
      omega
    have hj3 : (⟨(Lib.join ((nth f.levels j).tokens.map (·.data.toList)) (⟨#[32]⟩ : ByteArray).data.toList).toArray⟩ : ByteArray).size = (Lib.join ((nth f.levels j).tokens.map bl) [32]).length := tx_size _
    have hj4 : (Lib.join ((nth f.levels j).tokens.map (·.data.toList)) [32]).length = (Lib.join ((nth f.levels j).tokens.map bl) [32]).length := rfl
    have hj5 : (Lib.join ((nth f.levels j).tokens.map (·.data.toList)) (⟨#[32]⟩ : ByteArray).data.toList).length = (Lib.join ((nth f.levels j).tokens.map bl) [32]).length := rfl
    (repeat' (first | apply jA | apply jF | apply jH | apply jI | apply jN | (refine wp_cond (by rfl) (fun hc => ?_) (fun hc => ?_) <;> (try simp only [sB, ne_eq, reduceCtorEq] at hc) <;> (try (exfalso; omega))) | (refine WP.regionC (id := 4) ?_; (refine slss rfl rfl ?_); apply jW) | (refine WP.regionC (id := 5) ?_; (refine sidxn rfl rfl (by omega) ?_); (refine sloadw rfl rfl ?_); (refine se_alloc (by rfl) ?_); (refine se_store_b (by rfl) (by rfl) (by rfl) (by rfl) ?_); apply jW) | (refine wp_drawT (id := 6) 10 mixed (by kernel_rfl) (by kernel_rfl) (by kernel_rfl) rfl rfl ?_ <;> (refine rfieldp rfl rfl rfl ?_) <;> (refine rfieldp rfl rfl rfl ?_) <;> (refine rloadp rfl rfl rfl rfl ?_) <;> (refine rd_call rfl rfl (by first | ((repeat' first | exact SubL.nil | refine SubL.cons ?_ ?_ | exact Sub.refl); done) | fail) (by first | (simp [bdL, bdL_append, AV.bd]; done) | fail) (word_fn _) ?_) <;> (refine rd_u (by rfl) (by rfl) (acat rfl rfl (by (simp only [bsz, sZ] <;> omega))) ?_) <;> (refine rfieldp rfl rfl rfl ?_) <;> (refine rloadp rfl rfl rfl rfl ?_) <;> (refine rd_call rfl rfl (by first | ((repeat' first | exact SubL.nil | refine SubL.cons ?_ ?_ | exact Sub.refl); done) | fail) (by first | (simp [bdL, bdL_append, AV.bd]; done) | fail) (join_fn _ _ (by omega) (by assumption)) ?_) <;> (refine rd_u (by rfl) (by rfl) (acat rfl rfl (by (simp only [bsz, sZ] <;> omega))) ?_) <;> (refine rd_u (by rfl) (by rfl) (acat rfl rfl (by (simp only [bsz, sZ] <;> omega))) ?_) <;> (refine rd_tail (by kernel_rfl) ?_) <;> (refine sc_wr rfl rfl (by repeat' first | exact ArgS.nil | refine ArgS.ren (by rfl) (by rfl) ?_) (by rfl) (by rfl) (by rfl) (by rfl) (by rfl) (by rfl) (wstr_wr _ (by exact blies_W) _ _ (by (simp only [bsz, List.size_toArray, List.length_append, List.length_cons, List.length_nil, ByteArray.size_append] <;> omega))) ?_) <;> (apply jW)) | (refine WP.regionC (id := 7) ?_; (refine sadd rfl rfl (by exact inr_i64_of (by omega)) ?_); (refine smove rfl ?_); apply jW)))
    refine ⟨j + 1, ⟨by omega, by omega⟩, ?_⟩
    have e1 : fmL f (j + 1) = fmL f j ++ (wordT (nth f.levels j).assoc ++ ({ data := #[32] } : ByteArray) ++ (⟨(Lib.join ((nth f.levels j).tokens.map (·.data.toList)) (⟨#[32]⟩ : ByteArray).data.toList).toArray⟩ : ByteArray) ++ { data := #[59, 10] }).data.toList := by
      rw [fmL_succ hlt]
      show _ = fmL f j ++ bl (wordT (nth f.levels j).assoc ++ ({ data := #[32] } : ByteArray) ++ tx (Lib.join ((nth f.levels j).tokens.map bl) [32]) ++ { data := #[59, 10] })
      rw [bl_app, bl_app, bl_app, bl_tx, lvT]
      simp [endT, bl]
    rw [e1]
    exact ⟨[0, 1, 14], ToR.S rfl (by repeat' (first | exact rt_nil | refine rt_t (by rfl) (by rfl) ?_ | refine rt_e (by rfl) (by rfl) ?_ | refine rt_p (by rfl) (by rfl) (by first | (simp [AV.bd, bdL, bdL_append]; done) | fail) ?_)) (by repeat' (first | exact ro_nil | refine ro_b (by rfl) (by first | exact rfl | fail) ?_ | refine ro_d (by rfl) (by rfl) ?_ | refine ro_p (by rfl) (by first | exact rfl | fail) (by first | (simp [bdL, bdL_append, AV.bd]; done) | fail) ?_)) (by rfl) (by (rw [hm]; exact rfl)) (by rfl) (by (simp [bdT, AV.bd, bdL, bdL_append]; done)) (by repeat' (first | exact True.intro | exact rfl | refine And.intro ?_ ?_ | (simp [bdOq, bdL, bdL_append, AV.bd]; done))) (by (rw [hm]; exact Nat.le_of_ble_eq_true rfl))⟩
  obtain rfl : j = f.levels.length := by omega
  have hl3 := fmR_mono f (Nat.zero_le _)
  (repeat' (first | apply jA | apply jF | apply jH | apply jJ | apply jL | apply jP | (refine wp_cond (by rfl) (fun hc => ?_) (fun hc => ?_) <;> (try simp only [sB, ne_eq, reduceCtorEq] at hc) <;> (try (exfalso; omega))) | (refine WP.regionC (id := 4) ?_; (refine slss rfl rfl ?_); apply jW) | (refine WP.regionC (id := 8) ?_; (refine sfieldp rfl rfl rfl ?_); (refine sloadp rfl rfl rfl rfl ?_); (refine slenm rfl rfl ?_); (refine smove rfl ?_); apply jW)))
  have e2 : fmL f f.levels.length = fmR f 0 := by simp [fmR]
  rw [e2]
  refine wp_loop (fun (k : Nat) => k ≤ f.rules.length) (fun k => f.rules.length - k)
    (fun k => (S 67 [(3, .ptr 0 2 0 0), (36, grulesA f.rules), (37, intA (f.rules.length : Nat)), (38, intA (k : Nat))] 2 [(0, some (.bld TW (.ref 1 1 0 (fmR f k).length))), (1, some (.bytes (fmR f k)))])) 0 ⟨[1, 2], ToR.S rfl (by repeat' (first | exact rt_nil | refine rt_t (by rfl) (by rfl) ?_ | refine rt_e (by rfl) (by rfl) ?_ | refine rt_p (by rfl) (by rfl) (by first | (simp [AV.bd, bdL, bdL_append]; done) | fail) ?_)) (by repeat' (first | exact ro_nil | refine ro_b (by rfl) (by first | exact rfl | fail) ?_ | refine ro_d (by rfl) (by rfl) ?_)) (by rfl) (by (rw [hm]; exact rfl)) (by rfl) (by (simp [bdT, AV.bd, bdL, bdL_append]; done)) (by repeat' (first | exact True.intro | exact rfl | refine And.intro ?_ ?_)) (by (rw [hm]; exact Nat.le_of_ble_eq_true rfl))⟩ (Nat.zero_le _) ?_
  rintro k hk
  have hr1 := fmR_mono f hk
  by_cases hlt2 : k < f.rules.length
  · have hr2 := fmR_mono f (k := k + 1) (by omega)
    rw [fmR_succ hlt2, List.length_append] at hr2
    have hrt : (ruT (nth f.rules k)).length = (nth f.rules k).name.size + 2 + ((altsT (nth f.rules k).alts (nth f.rules k).alts.length).length + 2) := by
      simp [ruT, endT, bl_len]; omega
    have hal : (nth f.rules k).alts.length ≤ 9223372036854775807 := by
      have := hl; simp [AV.lens, lensL, fileA, levelsA, grulesA, lensL_map] at this
      have := this.2.2.2 _ (nth_mem hlt2)
      simp [gruleA, AV.lens, lensL, altsA] at this
      omega
    (repeat' (first | apply jA | apply jF | apply jH | apply jI | (refine wp_cond (by rfl) (fun hc => ?_) (fun hc => ?_) <;> (try simp only [sB, ne_eq, reduceCtorEq] at hc) <;> (try (exfalso; omega))) | (refine WP.regionC (id := 9) ?_; (refine slss rfl rfl ?_); apply jW) | (refine WP.regionC (id := 10) ?_; (refine sidxn rfl rfl (by omega) ?_); (refine sloadw rfl rfl ?_); (refine se_alloc (by rfl) ?_); (refine se_store_b (by rfl) (by rfl) (by rfl) (by rfl) ?_); apply jW) | (refine WP.regionC (id := 11) ?_; (refine sfieldp rfl rfl rfl ?_); (refine sfieldp rfl rfl rfl ?_); (refine sloadp rfl rfl rfl rfl ?_); (refine su (acat rfl rfl (by (simp only [bsz, sZ] <;> omega))) ?_); (refine sc_wr rfl rfl (by repeat' first | exact ArgS.nil | refine ArgS.ren (by rfl) (by rfl) ?_) (by rfl) (by rfl) (by rfl) (by rfl) (by rfl) (by rfl) (wstr_wr _ (by exact blies_W) _ _ (by (simp only [bsz, List.size_toArray, List.length_append, List.length_cons, List.length_nil, ByteArray.size_append] <;> omega))) ?_); apply jW) | (refine WP.regionC (id := 12) ?_; (refine sfieldp rfl rfl rfl ?_); (refine sloadp rfl rfl rfl rfl ?_); (refine slenm rfl rfl ?_); (refine smove rfl ?_); apply jW)))
    have e3 : fmR f k ++ ((nth f.rules k).name ++ ({ data := #[32, 61] } : ByteArray)).data.toList = fmR f k ++ (bl (nth f.rules k).name ++ [32, 61]) ++ altsT (nth f.rules k).alts 0 := by
      simp [altsT, bl]
    rw [e3]
    refine wp_loop (fun (i : Nat) => i ≤ (nth f.rules k).alts.length) (fun i => (nth f.rules k).alts.length - i)
      (fun i => (S 67 [(3, .ptr 0 2 0 0), (36, grulesA f.rules), (37, intA (f.rules.length : Nat)), (38, intA (k : Nat)), (48, altsA (nth f.rules k).alts), (49, intA ((nth f.rules k).alts.length : Nat)), (50, intA (i : Nat))] 2 [(0, some (.bld TW (.ref 1 1 0 (fmR f k ++ (bl (nth f.rules k).name ++ [32, 61]) ++ altsT (nth f.rules k).alts i).length))), (1, some (.bytes (fmR f k ++ (bl (nth f.rules k).name ++ [32, 61]) ++ altsT (nth f.rules k).alts i)))])) 0 ⟨[0, 3], ToR.S rfl (by repeat' (first | exact rt_nil | refine rt_t (by rfl) (by rfl) ?_ | refine rt_e (by rfl) (by rfl) ?_ | refine rt_p (by rfl) (by rfl) (by first | (simp [AV.bd, bdL, bdL_append]; done) | fail) ?_)) (by repeat' (first | exact ro_nil | refine ro_b (by rfl) (by first | exact rfl | fail) ?_ | refine ro_d (by rfl) (by rfl) ?_)) (by rfl) (by (rw [hm]; exact rfl)) (by rfl) (by (simp [bdT, AV.bd, bdL, bdL_append]; done)) (by repeat' (first | exact True.intro | exact rfl | refine And.intro ?_ ?_)) (by (rw [hm]; exact Nat.le_of_ble_eq_true rfl))⟩ (Nat.zero_le _) ?_
    rintro i hi
    have ha1 := altsT_mono (nth f.rules k).alts hi
    have hbn := bl_len (nth f.rules k).name
    by_cases hlt3 : i < (nth f.rules k).alts.length
    · have ha2 := altsT_mono (nth f.rules k).alts (k := i + 1) (by omega)
      obtain ⟨hp0, hp1⟩ := hP _ (nth_mem hlt2) _ (nth_mem hlt3)
      have hW := alternative_wr (nth (nth f.rules k).alts i) hp0 hp1
      by_cases hi0 : i = 0
      · have e4 : altsT (nth f.rules k).alts (i + 1) = altsT (nth f.rules k).alts i ++ altT (nth (nth f.rules k).alts i) := by rw [altsT, if_pos hi0, List.nil_append]
        rw [e4, List.length_append] at ha2
        (repeat' (first | apply jA | apply jF | apply jH | apply jI | apply jN | (refine wp_cond (by rfl) (fun hc => ?_) (fun hc => ?_) <;> (try simp only [sB, ne_eq, reduceCtorEq] at hc) <;> (try (exfalso; omega))) | (refine WP.regionC (id := 13) ?_; (refine slss rfl rfl ?_); apply jW) | (refine WP.regionC (id := 14) ?_; (refine smove rfl ?_); (refine sidxn rfl rfl (by omega) ?_); (refine sloadw rfl rfl ?_); (refine se_alloc (by rfl) ?_); (refine sassign rfl ?_); (refine se_store_b (by rfl) (by rfl) (by rfl) (by rfl) ?_); apply jW) | (refine WP.regionC (id := 15) ?_; (refine smove rfl ?_); (refine su (agtr rfl rfl) ?_); apply jW) | (refine WP.regionC (id := 17) ?_; (refine sloadpw rfl rfl rfl rfl ?_); (refine sc_wr rfl rfl (by repeat' first | exact ArgS.nil | refine ArgS.ren (by first | exact rfl | exact ren_p (by simp [AV.bd, bdL, bdL_append])) (by first | exact rfl | (simp [AV.bd, bdL, bdL_append]; done)) ?_) (by rfl) (by rfl) (by rfl) (by rfl) (by rfl) (by rfl) (hW _ (by simp only [List.length_append, List.length_cons, List.length_nil]; omega)) ?_); apply jW) | (refine WP.regionC (id := 18) ?_; (refine sadd rfl rfl (by exact inr_i64_of (by omega)) ?_); (refine smove rfl ?_); apply jW)))
        refine ⟨i + 1, ⟨by omega, by omega⟩, ?_⟩
        have e6 : fmR f k ++ (bl (nth f.rules k).name ++ [32, 61]) ++ altsT (nth f.rules k).alts (i + 1) = fmR f k ++ (bl (nth f.rules k).name ++ [32, 61]) ++ altsT (nth f.rules k).alts i ++ altT (nth (nth f.rules k).alts i) := by rw [e4]; simp only [List.append_assoc]
        rw [e6]
        exact ⟨[0, 3], ToR.S rfl (by repeat' (first | exact rt_nil | refine rt_t (by rfl) (by rfl) ?_ | refine rt_e (by rfl) (by rfl) ?_ | refine rt_p (by rfl) (by rfl) (by first | (simp [AV.bd, bdL, bdL_append]; done) | fail) ?_)) (by repeat' (first | exact ro_nil | refine ro_b (by rfl) (by first | exact rfl | fail) ?_ | refine ro_d (by rfl) (by rfl) ?_)) (by rfl) (by (rw [hm]; exact rfl)) (by rfl) (by (simp [bdT, AV.bd, bdL, bdL_append]; done)) (by repeat' (first | exact True.intro | exact rfl | refine And.intro ?_ ?_)) (by (rw [hm]; exact Nat.le_of_ble_eq_true rfl))⟩
      · have e4 : altsT (nth f.rules k).alts (i + 1) = altsT (nth f.rules k).alts i ++ ([32, 124] ++ altT (nth (nth f.rules k).alts i)) := by rw [altsT, if_neg hi0]
        rw [e4, List.length_append, List.length_append] at ha2
        simp only [List.length_cons, List.length_nil] at ha2
        (repeat' (first | apply jA | apply jF | apply jH | apply jI | apply jN | (refine wp_cond (by rfl) (fun hc => ?_) (fun hc => ?_) <;> (try simp only [sB, ne_eq, reduceCtorEq] at hc) <;> (try (exfalso; omega))) | (refine WP.regionC (id := 13) ?_; (refine slss rfl rfl ?_); apply jW) | (refine WP.regionC (id := 14) ?_; (refine smove rfl ?_); (refine sidxn rfl rfl (by omega) ?_); (refine sloadw rfl rfl ?_); (refine se_alloc (by rfl) ?_); (refine sassign rfl ?_); (refine se_store_b (by rfl) (by rfl) (by rfl) (by rfl) ?_); apply jW) | (refine WP.regionC (id := 15) ?_; (refine smove rfl ?_); (refine su (agtr rfl rfl) ?_); apply jW) | (refine WP.regionC (id := 16) ?_; (refine sfieldp rfl rfl rfl ?_); (refine sc_wr rfl rfl (by repeat' first | exact ArgS.nil | refine ArgS.ren (by rfl) (by rfl) ?_) (by rfl) (by rfl) (by rfl) (by rfl) (by rfl) (by rfl) (wstr_wr _ (by exact blies_W) _ _ (by (simp only [bsz, List.size_toArray, List.length_append, List.length_cons, List.length_nil, ByteArray.size_append] <;> omega))) ?_); apply jW) | (refine WP.regionC (id := 17) ?_; (refine sloadpw rfl rfl rfl rfl ?_); (refine sc_wr rfl rfl (by repeat' first | exact ArgS.nil | refine ArgS.ren (by first | exact rfl | exact ren_p (by simp [AV.bd, bdL, bdL_append])) (by first | exact rfl | (simp [AV.bd, bdL, bdL_append]; done)) ?_) (by rfl) (by rfl) (by rfl) (by rfl) (by rfl) (by rfl) (hW _ (by simp only [List.length_append, List.length_cons, List.length_nil]; omega)) ?_); apply jW) | (refine WP.regionC (id := 18) ?_; (refine sadd rfl rfl (by exact inr_i64_of (by omega)) ?_); (refine smove rfl ?_); apply jW)))
        refine ⟨i + 1, ⟨by omega, by omega⟩, ?_⟩
        have e6 : fmR f k ++ (bl (nth f.rules k).name ++ [32, 61]) ++ altsT (nth f.rules k).alts (i + 1) = fmR f k ++ (bl (nth f.rules k).name ++ [32, 61]) ++ altsT (nth f.rules k).alts i ++ (⟨#[32, 124]⟩ : ByteArray).data.toList ++ altT (nth (nth f.rules k).alts i) := by rw [e4]; simp only [List.append_assoc]
        rw [e6]
        exact ⟨[0, 4], ToR.S rfl (by repeat' (first | exact rt_nil | refine rt_t (by rfl) (by rfl) ?_ | refine rt_e (by rfl) (by rfl) ?_ | refine rt_p (by rfl) (by rfl) (by first | (simp [AV.bd, bdL, bdL_append]; done) | fail) ?_)) (by repeat' (first | exact ro_nil | refine ro_b (by rfl) (by first | exact rfl | fail) ?_ | refine ro_d (by rfl) (by rfl) ?_)) (by rfl) (by (rw [hm]; exact rfl)) (by rfl) (by (simp [bdT, AV.bd, bdL, bdL_append]; done)) (by repeat' (first | exact True.intro | exact rfl | refine And.intro ?_ ?_)) (by (rw [hm]; exact Nat.le_of_ble_eq_true rfl))⟩
    obtain rfl : i = (nth f.rules k).alts.length := by omega
    (repeat' (first | apply jA | apply jH | apply jJ | apply jL | apply jN | apply jP | (refine wp_cond (by rfl) (fun hc => ?_) (fun hc => ?_) <;> (try simp only [sB, ne_eq, reduceCtorEq] at hc) <;> (try (exfalso; omega))) | (refine WP.regionC (id := 13) ?_; (refine slss rfl rfl ?_); apply jW) | (refine WP.regionC (id := 19) ?_; (refine sfieldp rfl rfl rfl ?_); (refine sc_wr rfl rfl (by repeat' first | exact ArgS.nil | refine ArgS.ren (by rfl) (by rfl) ?_) (by rfl) (by rfl) (by rfl) (by rfl) (by rfl) (by rfl) (wstr_wr _ (by exact blies_W) _ _ (by (simp only [bsz, List.size_toArray, List.length_append, List.length_cons, List.length_nil, ByteArray.size_append] <;> omega))) ?_); apply jW) | (refine WP.regionC (id := 20) ?_; (refine sadd rfl rfl (by exact inr_i64_of (by omega)) ?_); (refine smove rfl ?_); apply jW)))
    refine ⟨k + 1, ⟨by omega, by omega⟩, ?_⟩
    have e5 : fmR f (k + 1) = fmR f k ++ (bl (nth f.rules k).name ++ [32, 61]) ++ altsT (nth f.rules k).alts (nth f.rules k).alts.length ++ (⟨#[59, 10]⟩ : ByteArray).data.toList := by
      rw [fmR_succ hlt2, ruT]; simp [endT]
    rw [e5]
    exact ⟨[0, 2], ToR.S rfl (by repeat' (first | exact rt_nil | refine rt_t (by rfl) (by rfl) ?_ | refine rt_e (by rfl) (by rfl) ?_ | refine rt_p (by rfl) (by rfl) (by first | (simp [AV.bd, bdL, bdL_append]; done) | fail) ?_)) (by repeat' (first | exact ro_nil | refine ro_b (by rfl) (by first | exact rfl | fail) ?_ | refine ro_d (by rfl) (by rfl) ?_)) (by rfl) (by (rw [hm]; exact rfl)) (by rfl) (by (simp [bdT, AV.bd, bdL, bdL_append]; done)) (by repeat' (first | exact True.intro | exact rfl | refine And.intro ?_ ?_)) (by (rw [hm]; exact Nat.le_of_ble_eq_true rfl))⟩
  obtain rfl : k = f.rules.length := by omega
  have hne : fmR f f.rules.length ≠ [] := by
    intro h
    have h1 := congrArg List.length h
    have h2 := fmL_mono f (Nat.zero_le _)
    have h3 := fmL0_le f
    simp only [fmtF, List.length_nil] at h1 h3
    omega
  (repeat' (first | apply jA | apply jH | apply jJ | apply jK | apply jL | apply jP | apply jS | (refine wp_cond (by rfl) (fun hc => ?_) (fun hc => ?_) <;> (try simp only [sB, ne_eq, reduceCtorEq] at hc) <;> (try (exfalso; omega))) | (refine WP.regionC (id := 9) ?_; (refine slss rfl rfl ?_); apply jW) | (refine WP.regionC (id := 21) ?_; (refine sfieldp rfl rfl rfl ?_); (refine sc_bstr rfl rfl (by rfl) (by rfl) (by rfl) (by rfl) (by rfl) (by assumption) ?_); (refine sassign rfl ?_); apply jW) | exact ret_eq (by rfl) (by rfl) rfl))
end Go.Lg

namespace Go.Lg
open Go.Proofs
set_option linter.unusedSimpArgs false
set_option linter.unusedVariables false
attribute [local irreducible] Ap Rq asemC WP RunD Ret Gq thenA inBlockA bodyQ noGotoA RqL RqP OpP
set_option maxHeartbeats 4000000
noncomputable instance : DecidableEq GEx := fun _ _ => Classical.propDecidable _
noncomputable instance : DecidableEq GAl := fun _ _ => Classical.propDecidable _
noncomputable instance : DecidableEq GRu := fun _ _ => Classical.propDecidable _
noncomputable instance : DecidableEq GLe := fun _ _ => Classical.propDecidable _
noncomputable instance : DecidableEq GFi := fun _ _ => Classical.propDecidable _
theorem gex_iff {a b : GEx} : a = b ↔ (a.kind = b.kind ∧ a.name = b.name) ∧ a.kids = b.kids := ⟨by rintro rfl; exact ⟨⟨rfl, rfl⟩, rfl⟩, fun h => GEx.ext' h.1.1 h.1.2 h.2⟩
theorem gal_iff {a b : GAl} : a = b ↔ a.price = b.price ∧ a.body = b.body := ⟨by rintro rfl; exact ⟨rfl, rfl⟩, fun h => by cases a; cases b; simp only at h; rw [h.1, h.2]⟩
theorem gru_iff {a b : GRu} : a = b ↔ a.name = b.name ∧ a.alts = b.alts := ⟨by rintro rfl; exact ⟨rfl, rfl⟩, fun h => by cases a; cases b; simp only at h; rw [h.1, h.2]⟩
theorem gle_iff {a b : GLe} : a = b ↔ a.assoc = b.assoc ∧ a.tokens = b.tokens := ⟨by rintro rfl; exact ⟨rfl, rfl⟩, fun h => by cases a; cases b; simp only at h; rw [h.1, h.2]⟩
theorem gfi_iff {a b : GFi} : a = b ↔ (a.start = b.start ∧ a.levels = b.levels) ∧ a.rules = b.rules := ⟨by rintro rfl; exact ⟨⟨rfl, rfl⟩, rfl⟩, fun h => by cases a; cases b; simp only at h; rw [h.1.1, h.1.2, h.2]⟩
theorem equalStrs_fn (a b : List ByteArray) : Fn Tryd.prog 25 [strsA a, strsA b] (boolA (decide (a = b))) := by
  refine Fn.intro rfl (by kernel_rfl) Tryd.func25 rfl rfl Tryd.ntmps25 (by exact Nat.le_of_ble_eq_true rfl) ?_; intro Γ hm
  refine wp_lens 0 rfl fun h0 => wp_lens 1 rfl fun h1 => ?_
  rw [lens_strsA] at h0 h1
  (repeat' (first | apply jA | apply jF | apply jH | apply jI | apply jK | apply jM | apply jS | (refine wp_cond rfl (fun hc => ?_) (fun hc => ?_) <;> (try simp only [sB, ne_eq, reduceCtorEq] at hc) <;> (try (exfalso; omega))) | (refine WP.regionC ?_; (refine sassign rfl ?_); apply jW) | (refine WP.regionC (id := 1) ?_; (refine smove rfl ?_); (refine slenm rfl rfl ?_); (refine smove rfl ?_); (refine slenm rfl rfl ?_); (refine su (aneq rfl rfl) ?_); apply jW) | (refine WP.regionC (id := 3) ?_; (refine smove rfl ?_); (refine slenm rfl rfl ?_); (refine smove rfl ?_); apply jW) | refine ret_b rfl ?_))
  · have : a ≠ b := by rintro rfl; exact hc rfl
    simp [this]
  refine wp_loop (fun k => k ≤ a.length ∧ a.take k = b.take k) (fun k => a.length - k) (fun k => (S 26 [(0, strsA a), (1, strsA b), (12, intA (a.length : Nat)), (13, intA (k : Nat))] 0 [])) 0 ⟨[], ToR.S rfl (by repeat' (first | exact rt_nil | refine rt_e rfl rfl ?_ | refine rt_p rfl rfl (by first | (simp [AV.bd, bdL, bdL_append]; done) | fail) ?_)) (by repeat' (exact ro_nil)) rfl (by (rw [hm]; exact rfl)) rfl (by (simp [bdT, AV.bd, bdL, bdL_append]; done)) (by repeat' (exact True.intro)) (by (rw [hm]; exact Nat.le_of_ble_eq_true rfl))⟩ ⟨Nat.zero_le _, rfl⟩ ?_
  rintro k ⟨hk, hall⟩
  have hab : a.length = b.length := by omega
  (repeat' (first | apply jA | apply jF | apply jH | apply jI | apply jJ | apply jK | apply jL | apply jM | apply jN | apply jO | apply jP | apply jS | (refine wp_cond rfl (fun hc => ?_) (fun hc => ?_) <;> (try simp only [sB, ne_eq, reduceCtorEq] at hc) <;> (try (exfalso; omega))) | (refine WP.regionC (id := 4) ?_; (refine slss rfl rfl ?_); apply jW) | (refine WP.regionC (id := 5) ?_; (refine smove rfl ?_); (refine sassign rfl ?_); apply jW) | (refine wp_draw (id := 6) 9 mixed (by kernel_rfl) (by kernel_rfl) rfl ?_ <;> (refine rmove rfl ?_) <;> (refine rmove rfl ?_) <;> (refine rd_u rfl rfl (aidxn rfl rfl (by omega)) ?_) <;> (refine rd_u rfl rfl (aloadw rfl rfl) ?_) <;> (refine rmove rfl ?_) <;> (refine rmove rfl ?_) <;> (refine rd_u rfl rfl (aidxn rfl rfl (by omega)) ?_) <;> (refine rd_u rfl rfl (aloadw rfl rfl) ?_) <;> (refine rd_u rfl rfl (anes rfl rfl) ?_) <;> (refine rd_end (by kernel_rfl) ?_)) | (refine WP.regionC ?_; (refine sassign rfl ?_); apply jW) | (refine WP.regionC (id := 8) ?_; (refine sadd rfl rfl (by exact inr_i64_of (by omega)) ?_); (refine smove rfl ?_); apply jW) | refine ret_b rfl ?_))
  · have : a ≠ b := by rintro rfl; exact hc rfl
    simp [this]
  · exact ⟨k + 1, ⟨by omega, by omega, take_eq_succ (by omega) (by omega) hall hc⟩, ⟨[], ToR.S rfl (by repeat' (first | exact rt_nil | refine rt_e rfl rfl ?_ | refine rt_p rfl rfl (by first | (simp [AV.bd, bdL, bdL_append]; done) | fail) ?_)) (by repeat' (exact ro_nil)) rfl (by (rw [hm]; exact rfl)) rfl (by (simp [bdT, AV.bd, bdL, bdL_append]; done)) (by repeat' (exact True.intro)) (by (rw [hm]; exact Nat.le_of_ble_eq_true rfl))⟩⟩
  simp [eq_of_takes hab (by omega) hall]
theorem equalE_fn (a b : List GEx) (h : ∀ x, x ∈ a → ∀ y, Fn Tryd.prog 30 [exprA x, exprA y] (boolA (decide (x = y)))) : Fn Tryd.prog 53 [exprsA a, exprsA b, .clo (.func 30) [] []] (boolA (decide (a = b))) := by
  refine Fn.intro rfl (by kernel_rfl) Tryd.func53 rfl rfl Tryd.ntmps53 (by exact Nat.le_of_ble_eq_true rfl) ?_; intro Γ hm
  refine wp_lens 0 rfl fun h0 => wp_lens 1 rfl fun h1 => ?_
  have h0 : a.length ≤ 9223372036854775807 := by simpa [exprsA] using h0.1
  have h1 : b.length ≤ 9223372036854775807 := by simpa [exprsA] using h1.1
  (repeat' (first | apply jA | apply jF | apply jH | apply jI | apply jK | apply jM | apply jS | (refine wp_cond rfl (fun hc => ?_) (fun hc => ?_) <;> (try simp only [sB, ne_eq, reduceCtorEq] at hc) <;> (try (exfalso; omega))) | (refine WP.regionC ?_; (refine sassign rfl ?_); apply jW) | (refine WP.regionC (id := 1) ?_; (refine smove rfl ?_); (refine slenm rfl rfl ?_); (refine smove rfl ?_); (refine slenm rfl rfl ?_); (refine su (aneq rfl rfl) ?_); apply jW) | (refine WP.regionC (id := 3) ?_; (refine smove rfl ?_); (refine slenm rfl rfl ?_); (refine smove rfl ?_); apply jW) | refine ret_b rfl ?_))
  · have : a ≠ b := by rintro rfl; exact hc rfl
    simp [this]
  refine wp_loop (fun k => k ≤ a.length ∧ a.take k = b.take k) (fun k => a.length - k) (fun k => (S 32 [(1, exprsA b), (2, .clo (.func 30) [] []), (15, exprsA a), (16, intA (a.length : Nat)), (17, intA (k : Nat))] 0 [])) 0 ⟨[], ToR.S rfl (by repeat' (first | exact rt_nil | refine rt_e rfl rfl ?_ | refine rt_p rfl rfl (by first | (simp [AV.bd, bdL, bdL_append]; done) | fail) ?_)) (by repeat' (exact ro_nil)) rfl (by (rw [hm]; exact rfl)) rfl (by (simp [bdT, AV.bd, bdL, bdL_append]; done)) (by repeat' (exact True.intro)) (by (rw [hm]; exact Nat.le_of_ble_eq_true rfl))⟩ ⟨Nat.zero_le _, rfl⟩ ?_
  rintro k ⟨hk, hall⟩
  have hab : a.length = b.length := by omega
  by_cases hlt : k < a.length
  · have hx := h _ (nth_mem hlt) (nth b k)
    (repeat' (first | apply jA | apply jF | apply jH | apply jI | apply jK | apply jM | apply jN | apply jO | apply jS | (refine wp_cond rfl (fun hc => ?_) (fun hc => ?_) <;> (try simp only [sB, ne_eq, reduceCtorEq] at hc) <;> (try (exfalso; omega))) | (refine WP.regionC (id := 4) ?_; (refine slss rfl rfl ?_); apply jW) | (refine WP.regionC (id := 5) ?_; (refine smove rfl ?_); (refine sidxn rfl rfl (by omega) ?_); (refine sloadw rfl rfl ?_); (refine se_alloc rfl ?_); (refine sassign rfl ?_); (refine se_store_b rfl rfl rfl rfl ?_); apply jW) | (refine WP.regionC (id := 6) ?_; (refine smove rfl ?_); (refine smove rfl ?_); (refine sidxn rfl rfl (by omega) ?_); (refine sloadw rfl rfl ?_); (refine se_alloc rfl ?_); (refine se_store_b rfl rfl rfl rfl ?_); apply jW) | (refine WP.regionC (id := 7) ?_; (refine smove rfl ?_); (refine sloadpw rfl rfl rfl rfl ?_); (refine sloadpw rfl rfl rfl rfl ?_); (refine sc_p rfl rfl (by first | ((repeat' first | exact SubL.nil | refine SubL.cons ?_ ?_ | exact Sub.refl); done) | fail) (by first | (simp [bdL, bdL_append, AV.bd]; done) | fail) (hx) ?_); (refine su (anot rfl) ?_); apply jW) | (refine WP.regionC (id := 8) ?_; (refine sassign rfl ?_); apply jW) | (refine WP.regionC (id := 9) ?_; (refine sadd rfl rfl (by exact inr_i64_of (by omega)) ?_); (refine smove rfl ?_); apply jW) | refine ret_b rfl ?_))
    · have : a ≠ b := by rintro rfl; exact hc rfl
      simp [this]
    · exact ⟨k + 1, ⟨by omega, by omega, take_eq_succ (by omega) (by omega) hall hc⟩, ⟨[], ToR.S rfl (by repeat' (first | exact rt_nil | refine rt_e rfl rfl ?_ | refine rt_p rfl rfl (by first | (simp [AV.bd, bdL, bdL_append]; done) | fail) ?_)) (by repeat' (exact ro_nil)) rfl (by (rw [hm]; exact rfl)) rfl (by (simp [bdT, AV.bd, bdL, bdL_append]; done)) (by repeat' (exact True.intro)) (by (rw [hm]; exact Nat.le_of_ble_eq_true rfl))⟩⟩
  (repeat' (first | apply jA | apply jH | apply jJ | apply jK | apply jL | apply jP | apply jS | (refine wp_cond rfl (fun hc => ?_) (fun hc => ?_) <;> (try simp only [sB, ne_eq, reduceCtorEq] at hc) <;> (try (exfalso; omega))) | (refine WP.regionC (id := 4) ?_; (refine slss rfl rfl ?_); apply jW) | (refine WP.regionC (id := 10) ?_; (refine sassign rfl ?_); apply jW) | refine ret_b rfl ?_))
  simp [eq_of_takes hab (by omega) hall]
theorem sameExpr_fn (a : GEx) : ∀ b : GEx, Fn Tryd.prog 30 [exprA a, exprA b] (boolA (decide (a = b))) := by
  induction a using GEx.ind with
  | h a ih =>
    intro b
    have hq := equalE_fn a.kids b.kids ih
    have e1 : decide (a = b) = (decide (a.kind = b.kind) && decide (a.name = b.name) && decide (a.kids = b.kids)) := by
      rw [Bool.eq_iff_iff]; simp only [Bool.and_eq_true, decide_eq_true_eq]; exact gex_iff
    rw [e1, exprA, exprA, kids_exprsA, kids_exprsA]
    refine Fn.intro rfl (by kernel_rfl) Tryd.func30 rfl rfl Tryd.ntmps30 (by exact Nat.le_of_ble_eq_true rfl) ?_; intro Γ hm
    (repeat' (first | apply jA | apply jH | apply jK | apply jS | (refine WP.regionC (id := 0) ?_; (refine se_box rfl (by exact ⟨rfl, rfl⟩) ?_); (refine se_box rfl (by exact ⟨rfl, rfl⟩) ?_); (refine sassign rfl ?_); apply jW) | (refine WP.regionC (id := 1) ?_; (refine sfieldp rfl rfl rfl ?_); (refine sloadp rfl rfl rfl rfl ?_); (refine sfieldp rfl rfl rfl ?_); (refine sloadp rfl rfl rfl rfl ?_); (refine seql rfl rfl ?_); (refine smove rfl ?_); (refine sg (gq_vt rfl rfl) (fun he => ap_field_p (rq_p rfl rfl) rfl rfl) ?_); (refine sg (gq_vt rfl rfl) (fun he => ap_load_p (rq_c rfl rfl) rfl rfl rfl) ?_); (refine sg (gq_vt rfl rfl) (fun he => ap_field_p (rq_p rfl rfl) rfl rfl) ?_); (refine sg (gq_vt rfl rfl) (fun he => ap_load_p (rq_c rfl rfl) rfl rfl rfl) ?_); (refine sg (gq_vt rfl rfl) (fun he => ap_eqs (rq_c rfl rfl) (rq_c rfl rfl)) ?_); (refine su (ap_and (rq_p rfl rfl) (rq_c rfl rfl)) ?_); (refine smove rfl ?_); (refine sg (gq_vt rfl rfl) (fun he => ap_field_p (rq_p rfl rfl) rfl rfl) ?_); (refine sg (gq_vt rfl rfl) (fun he => ap_load_p (rq_c rfl rfl) rfl rfl rfl) ?_); (refine sg (gq_vt rfl rfl) (fun he => ap_field_p (rq_p rfl rfl) rfl rfl) ?_); (refine sg (gq_vt rfl rfl) (fun he => ap_load_p (rq_c rfl rfl) rfl rfl rfl) ?_); (refine sg_p (gq_vt rfl rfl) (fun he => ⟨(rq_p rfl rfl), (RqL.cons (rq_c rfl rfl) (RqL.cons (rq_c rfl rfl) (RqL.cons (rq_p rfl rfl) (RqL.nil)))), (by first | ((repeat' first | exact SubL.nil | refine SubL.cons ?_ ?_ | exact Sub.refl); done) | fail), (by first | (simp [bdL, bdL_append, AV.bd]; done) | fail), hq⟩) ?_); (refine su (ap_and (rq_p rfl rfl) (rq_c rfl rfl)) ?_); (refine sassign rfl ?_); apply jW) | exact ret_eq rfl rfl rfl))
theorem gequal3_fn (x y : GAl) : Fn Tryd.prog 29 [altA x, altA y] (boolA (decide (x = y))) := by
  have hq := sameExpr_fn x.body y.body
  have e1 : decide (x = y) = (decide (x.price = y.price) && decide (x.body = y.body)) := by
    rw [Bool.eq_iff_iff]; simp only [Bool.and_eq_true, decide_eq_true_eq]; exact gal_iff
  rw [e1]
  unfold altA
  refine Fn.intro rfl (by kernel_rfl) Tryd.func29 rfl rfl Tryd.ntmps29 (by exact Nat.le_of_ble_eq_true rfl) ?_; intro Γ hm
  (repeat' (first | apply jA | apply jH | apply jK | apply jS | (refine WP.regionC (id := 0) ?_; (refine se_box rfl (by exact ⟨rfl, rfl⟩) ?_); (refine se_box rfl (by exact ⟨rfl, rfl⟩) ?_); (refine sassign rfl ?_); apply jW) | (refine WP.regionC (id := 1) ?_; (refine sfieldp rfl rfl rfl ?_); (refine sloadp rfl rfl rfl rfl ?_); (refine sfieldp rfl rfl rfl ?_); (refine sloadp rfl rfl rfl rfl ?_); (refine seql rfl rfl ?_); (refine smove rfl ?_); (refine sg (gq_vt rfl rfl) (fun he => ap_field_p (rq_p rfl rfl) rfl rfl) ?_); (refine sg (gq_vt rfl rfl) (fun he => ap_load_p (rq_c rfl rfl) rfl rfl rfl) ?_); (refine sg (gq_vt rfl rfl) (fun he => ap_field_p (rq_p rfl rfl) rfl rfl) ?_); (refine sg (gq_vt rfl rfl) (fun he => ap_load_p (rq_c rfl rfl) rfl rfl rfl) ?_); (refine sg_p (gq_vt rfl rfl) (fun he => ⟨(rq_p rfl rfl), (RqL.cons (rq_c rfl rfl) (RqL.cons (rq_c rfl rfl) (RqL.nil))), (by first | ((repeat' first | exact SubL.nil | refine SubL.cons ?_ ?_ | exact Sub.refl); done) | fail), (by first | (simp [bdL, bdL_append, AV.bd, AV.cells]; done) | fail), hq⟩) ?_); (refine su (ap_and (rq_p rfl rfl) (rq_c rfl rfl)) ?_); (refine sassign rfl ?_); apply jW) | exact ret_eq rfl rfl rfl))
theorem equalA_fn (a b : List GAl) : Fn Tryd.prog 28 [altsA a, altsA b, .clo (.func 29) [] []] (boolA (decide (a = b))) := by
  refine Fn.intro rfl (by kernel_rfl) Tryd.func28 rfl rfl Tryd.ntmps28 (by exact Nat.le_of_ble_eq_true rfl) ?_; intro Γ hm
  refine wp_lens 0 rfl fun h0 => wp_lens 1 rfl fun h1 => ?_
  have h0 : a.length ≤ 9223372036854775807 := by simpa [altsA] using h0.1
  have h1 : b.length ≤ 9223372036854775807 := by simpa [altsA] using h1.1
  (repeat' (first | apply jA | apply jF | apply jH | apply jI | apply jK | apply jM | apply jS | (refine wp_cond rfl (fun hc => ?_) (fun hc => ?_) <;> (try simp only [sB, ne_eq, reduceCtorEq] at hc) <;> (try (exfalso; omega))) | (refine WP.regionC ?_; (refine sassign rfl ?_); apply jW) | (refine WP.regionC (id := 1) ?_; (refine smove rfl ?_); (refine slenm rfl rfl ?_); (refine smove rfl ?_); (refine slenm rfl rfl ?_); (refine su (aneq rfl rfl) ?_); apply jW) | (refine WP.regionC (id := 3) ?_; (refine smove rfl ?_); (refine slenm rfl rfl ?_); (refine smove rfl ?_); apply jW) | refine ret_b rfl ?_))
  · have : a ≠ b := by rintro rfl; exact hc rfl
    simp [this]
  refine wp_loop (fun k => k ≤ a.length ∧ a.take k = b.take k) (fun k => a.length - k) (fun k => (S 32 [(1, altsA b), (2, .clo (.func 29) [] []), (15, altsA a), (16, intA (a.length : Nat)), (17, intA (k : Nat))] 0 [])) 0 ⟨[], ToR.S rfl (by repeat' (first | exact rt_nil | refine rt_e rfl rfl ?_ | refine rt_p rfl rfl (by first | (simp [AV.bd, bdL, bdL_append]; done) | fail) ?_)) (by repeat' (exact ro_nil)) rfl (by (rw [hm]; exact rfl)) rfl (by (simp [bdT, AV.bd, bdL, bdL_append]; done)) (by repeat' (exact True.intro)) (by (rw [hm]; exact Nat.le_of_ble_eq_true rfl))⟩ ⟨Nat.zero_le _, rfl⟩ ?_
  rintro k ⟨hk, hall⟩
  have hab : a.length = b.length := by omega
  by_cases hlt : k < a.length
  · have hx := gequal3_fn (nth a k) (nth b k)
    (repeat' (first | apply jA | apply jF | apply jH | apply jI | apply jK | apply jM | apply jN | apply jO | apply jS | (refine wp_cond rfl (fun hc => ?_) (fun hc => ?_) <;> (try simp only [sB, ne_eq, reduceCtorEq] at hc) <;> (try (exfalso; omega))) | (refine WP.regionC (id := 4) ?_; (refine slss rfl rfl ?_); apply jW) | (refine WP.regionC (id := 5) ?_; (refine smove rfl ?_); (refine sidxn rfl rfl (by omega) ?_); (refine sloadw rfl rfl ?_); (refine se_alloc rfl ?_); (refine sassign rfl ?_); (refine se_store_b rfl rfl rfl rfl ?_); apply jW) | (refine WP.regionC (id := 6) ?_; (refine smove rfl ?_); (refine smove rfl ?_); (refine sidxn rfl rfl (by omega) ?_); (refine sloadw rfl rfl ?_); (refine se_alloc rfl ?_); (refine se_store_b rfl rfl rfl rfl ?_); apply jW) | (refine WP.regionC (id := 7) ?_; (refine smove rfl ?_); (refine sloadpw rfl rfl rfl rfl ?_); (refine sloadpw rfl rfl rfl rfl ?_); (refine sc_p rfl rfl (by first | ((repeat' first | exact SubL.nil | refine SubL.cons ?_ ?_ | exact Sub.refl); done) | fail) (by first | (simp [bdL, bdL_append, AV.bd]; done) | fail) (hx) ?_); (refine su (anot rfl) ?_); apply jW) | (refine WP.regionC (id := 8) ?_; (refine sassign rfl ?_); apply jW) | (refine WP.regionC (id := 9) ?_; (refine sadd rfl rfl (by exact inr_i64_of (by omega)) ?_); (refine smove rfl ?_); apply jW) | refine ret_b rfl ?_))
    · have : a ≠ b := by rintro rfl; exact hc rfl
      simp [this]
    · exact ⟨k + 1, ⟨by omega, by omega, take_eq_succ (by omega) (by omega) hall hc⟩, ⟨[], ToR.S rfl (by repeat' (first | exact rt_nil | refine rt_e rfl rfl ?_ | refine rt_p rfl rfl (by first | (simp [AV.bd, bdL, bdL_append]; done) | fail) ?_)) (by repeat' (exact ro_nil)) rfl (by (rw [hm]; exact rfl)) rfl (by (simp [bdT, AV.bd, bdL, bdL_append]; done)) (by repeat' (exact True.intro)) (by (rw [hm]; exact Nat.le_of_ble_eq_true rfl))⟩⟩
  (repeat' (first | apply jA | apply jH | apply jJ | apply jK | apply jL | apply jP | apply jS | (refine wp_cond rfl (fun hc => ?_) (fun hc => ?_) <;> (try simp only [sB, ne_eq, reduceCtorEq] at hc) <;> (try (exfalso; omega))) | (refine WP.regionC (id := 4) ?_; (refine slss rfl rfl ?_); apply jW) | (refine WP.regionC (id := 10) ?_; (refine sassign rfl ?_); apply jW) | refine ret_b rfl ?_))
  simp [eq_of_takes hab (by omega) hall]
theorem gequal2_fn (x y : GRu) : Fn Tryd.prog 27 [gruleA x, gruleA y] (boolA (decide (x = y))) := by
  have e1 : decide (x = y) = (decide (x.name = y.name) && decide (x.alts = y.alts)) := by
    rw [Bool.eq_iff_iff]; simp only [Bool.and_eq_true, decide_eq_true_eq]; exact gru_iff
  rw [e1]
  refine Fn.intro rfl (by kernel_rfl) Tryd.func27 rfl rfl Tryd.ntmps27 (by exact Nat.le_of_ble_eq_true rfl) ?_; intro Γ hm
  (repeat' (first | apply jA | apply jH | apply jK | apply jS | (refine WP.regionC (id := 0) ?_; (refine se_box rfl (by exact ⟨rfl, rfl⟩) ?_); (refine se_box rfl (by exact ⟨rfl, rfl⟩) ?_); (refine sassign rfl ?_); apply jW) | (refine WP.regionC (id := 1) ?_; (refine sfieldp rfl rfl rfl ?_); (refine sloadp rfl rfl rfl rfl ?_); (refine sfieldp rfl rfl rfl ?_); (refine sloadp rfl rfl rfl rfl ?_); (refine seqs rfl rfl ?_); (refine smove rfl ?_); (refine sg (gq_vt rfl rfl) (fun he => ap_field_p (rq_p rfl rfl) rfl rfl) ?_); (refine sg (gq_vt rfl rfl) (fun he => ap_load_p (rq_c rfl rfl) rfl rfl rfl) ?_); (refine sg (gq_vt rfl rfl) (fun he => ap_field_p (rq_p rfl rfl) rfl rfl) ?_); (refine sg (gq_vt rfl rfl) (fun he => ap_load_p (rq_c rfl rfl) rfl rfl rfl) ?_); (refine sg_p (gq_vt rfl rfl) (fun he => ⟨(rq_p rfl rfl), (RqL.cons (rq_c rfl rfl) (RqL.cons (rq_c rfl rfl) (RqL.cons (rq_p rfl rfl) (RqL.nil)))), (by first | ((repeat' first | exact SubL.nil | refine SubL.cons ?_ ?_ | exact Sub.refl); done) | fail), (by first | (simp [bdL, bdL_append, AV.bd]; done) | fail), equalA_fn x.alts y.alts⟩) ?_); (refine su (ap_and (rq_p rfl rfl) (rq_c rfl rfl)) ?_); (refine sassign rfl ?_); apply jW) | exact ret_eq rfl rfl rfl))
theorem equalR_fn (a b : List GRu) : Fn Tryd.prog 26 [grulesA a, grulesA b, .clo (.func 27) [] []] (boolA (decide (a = b))) := by
  refine Fn.intro rfl (by kernel_rfl) Tryd.func26 rfl rfl Tryd.ntmps26 (by exact Nat.le_of_ble_eq_true rfl) ?_; intro Γ hm
  refine wp_lens 0 rfl fun h0 => wp_lens 1 rfl fun h1 => ?_
  have h0 : a.length ≤ 9223372036854775807 := by simpa [grulesA] using h0.1
  have h1 : b.length ≤ 9223372036854775807 := by simpa [grulesA] using h1.1
  (repeat' (first | apply jA | apply jF | apply jH | apply jI | apply jK | apply jM | apply jS | (refine wp_cond rfl (fun hc => ?_) (fun hc => ?_) <;> (try simp only [sB, ne_eq, reduceCtorEq] at hc) <;> (try (exfalso; omega))) | (refine WP.regionC ?_; (refine sassign rfl ?_); apply jW) | (refine WP.regionC (id := 1) ?_; (refine smove rfl ?_); (refine slenm rfl rfl ?_); (refine smove rfl ?_); (refine slenm rfl rfl ?_); (refine su (aneq rfl rfl) ?_); apply jW) | (refine WP.regionC (id := 3) ?_; (refine smove rfl ?_); (refine slenm rfl rfl ?_); (refine smove rfl ?_); apply jW) | refine ret_b rfl ?_))
  · have : a ≠ b := by rintro rfl; exact hc rfl
    simp [this]
  refine wp_loop (fun k => k ≤ a.length ∧ a.take k = b.take k) (fun k => a.length - k) (fun k => (S 32 [(1, grulesA b), (2, .clo (.func 27) [] []), (15, grulesA a), (16, intA (a.length : Nat)), (17, intA (k : Nat))] 0 [])) 0 ⟨[], ToR.S rfl (by repeat' (first | exact rt_nil | refine rt_e rfl rfl ?_ | refine rt_p rfl rfl (by first | (simp [AV.bd, bdL, bdL_append]; done) | fail) ?_)) (by repeat' (exact ro_nil)) rfl (by (rw [hm]; exact rfl)) rfl (by (simp [bdT, AV.bd, bdL, bdL_append]; done)) (by repeat' (exact True.intro)) (by (rw [hm]; exact Nat.le_of_ble_eq_true rfl))⟩ ⟨Nat.zero_le _, rfl⟩ ?_
  rintro k ⟨hk, hall⟩
  have hab : a.length = b.length := by omega
  by_cases hlt : k < a.length
  · have hx := gequal2_fn (nth a k) (nth b k)
    (repeat' (first | apply jA | apply jF | apply jH | apply jI | apply jK | apply jM | apply jN | apply jO | apply jS | (refine wp_cond rfl (fun hc => ?_) (fun hc => ?_) <;> (try simp only [sB, ne_eq, reduceCtorEq] at hc) <;> (try (exfalso; omega))) | (refine WP.regionC (id := 4) ?_; (refine slss rfl rfl ?_); apply jW) | (refine WP.regionC (id := 5) ?_; (refine smove rfl ?_); (refine sidxn rfl rfl (by omega) ?_); (refine sloadw rfl rfl ?_); (refine se_alloc rfl ?_); (refine sassign rfl ?_); (refine se_store_b rfl rfl rfl rfl ?_); apply jW) | (refine WP.regionC (id := 6) ?_; (refine smove rfl ?_); (refine smove rfl ?_); (refine sidxn rfl rfl (by omega) ?_); (refine sloadw rfl rfl ?_); (refine se_alloc rfl ?_); (refine se_store_b rfl rfl rfl rfl ?_); apply jW) | (refine WP.regionC (id := 7) ?_; (refine smove rfl ?_); (refine sloadpw rfl rfl rfl rfl ?_); (refine sloadpw rfl rfl rfl rfl ?_); (refine sc_p rfl rfl (by first | ((repeat' first | exact SubL.nil | refine SubL.cons ?_ ?_ | exact Sub.refl); done) | fail) (by first | (simp [bdL, bdL_append, AV.bd]; done) | fail) (hx) ?_); (refine su (anot rfl) ?_); apply jW) | (refine WP.regionC (id := 8) ?_; (refine sassign rfl ?_); apply jW) | (refine WP.regionC (id := 9) ?_; (refine sadd rfl rfl (by exact inr_i64_of (by omega)) ?_); (refine smove rfl ?_); apply jW) | refine ret_b rfl ?_))
    · have : a ≠ b := by rintro rfl; exact hc rfl
      simp [this]
    · exact ⟨k + 1, ⟨by omega, by omega, take_eq_succ (by omega) (by omega) hall hc⟩, ⟨[], ToR.S rfl (by repeat' (first | exact rt_nil | refine rt_e rfl rfl ?_ | refine rt_p rfl rfl (by first | (simp [AV.bd, bdL, bdL_append]; done) | fail) ?_)) (by repeat' (exact ro_nil)) rfl (by (rw [hm]; exact rfl)) rfl (by (simp [bdT, AV.bd, bdL, bdL_append]; done)) (by repeat' (exact True.intro)) (by (rw [hm]; exact Nat.le_of_ble_eq_true rfl))⟩⟩
  (repeat' (first | apply jA | apply jH | apply jJ | apply jK | apply jL | apply jP | apply jS | (refine wp_cond rfl (fun hc => ?_) (fun hc => ?_) <;> (try simp only [sB, ne_eq, reduceCtorEq] at hc) <;> (try (exfalso; omega))) | (refine WP.regionC (id := 4) ?_; (refine slss rfl rfl ?_); apply jW) | (refine WP.regionC (id := 10) ?_; (refine sassign rfl ?_); apply jW) | refine ret_b rfl ?_))
  simp [eq_of_takes hab (by omega) hall]
theorem gequal1_fn (x y : GLe) : Fn Tryd.prog 24 [levelA x, levelA y] (boolA (decide (x = y))) := by
  have e1 : decide (x = y) = (decide (x.assoc = y.assoc) && decide (x.tokens = y.tokens)) := by
    rw [Bool.eq_iff_iff]; simp only [Bool.and_eq_true, decide_eq_true_eq]; exact gle_iff
  rw [e1]
  refine Fn.intro rfl (by kernel_rfl) Tryd.func24 rfl rfl Tryd.ntmps24 (by exact Nat.le_of_ble_eq_true rfl) ?_; intro Γ hm
  (repeat' (first | apply jA | apply jH | apply jK | apply jS | (refine WP.regionC (id := 0) ?_; (refine se_box rfl (by exact ⟨rfl, rfl⟩) ?_); (refine se_box rfl (by exact ⟨rfl, rfl⟩) ?_); (refine sassign rfl ?_); apply jW) | (refine WP.regionC (id := 1) ?_; (refine sfieldp rfl rfl rfl ?_); (refine sloadp rfl rfl rfl rfl ?_); (refine sfieldp rfl rfl rfl ?_); (refine sloadp rfl rfl rfl rfl ?_); (refine seql rfl rfl ?_); (refine smove rfl ?_); (refine sg (gq_vt rfl rfl) (fun he => ap_field_p (rq_p rfl rfl) rfl rfl) ?_); (refine sg (gq_vt rfl rfl) (fun he => ap_load_p (rq_c rfl rfl) rfl rfl rfl) ?_); (refine sg (gq_vt rfl rfl) (fun he => ap_field_p (rq_p rfl rfl) rfl rfl) ?_); (refine sg (gq_vt rfl rfl) (fun he => ap_load_p (rq_c rfl rfl) rfl rfl rfl) ?_); (refine sg_p (gq_vt rfl rfl) (fun he => ⟨(rq_p rfl rfl), (RqL.cons (rq_c rfl rfl) (RqL.cons (rq_c rfl rfl) (RqL.nil))), (by first | ((repeat' first | exact SubL.nil | refine SubL.cons ?_ ?_ | exact Sub.refl); done) | fail), (by first | (simp [bdL, bdL_append, AV.bd]; done) | fail), equalStrs_fn x.tokens y.tokens⟩) ?_); (refine su (ap_and (rq_p rfl rfl) (rq_c rfl rfl)) ?_); (refine sassign rfl ?_); apply jW) | exact ret_eq rfl rfl rfl))
theorem equalL_fn (a b : List GLe) : Fn Tryd.prog 23 [levelsA a, levelsA b, .clo (.func 24) [] []] (boolA (decide (a = b))) := by
  refine Fn.intro rfl (by kernel_rfl) Tryd.func23 rfl rfl Tryd.ntmps23 (by exact Nat.le_of_ble_eq_true rfl) ?_; intro Γ hm
  refine wp_lens 0 rfl fun h0 => wp_lens 1 rfl fun h1 => ?_
  have h0 : a.length ≤ 9223372036854775807 := by simpa [levelsA] using h0.1
  have h1 : b.length ≤ 9223372036854775807 := by simpa [levelsA] using h1.1
  (repeat' (first | apply jA | apply jF | apply jH | apply jI | apply jK | apply jM | apply jS | (refine wp_cond rfl (fun hc => ?_) (fun hc => ?_) <;> (try simp only [sB, ne_eq, reduceCtorEq] at hc) <;> (try (exfalso; omega))) | (refine WP.regionC ?_; (refine sassign rfl ?_); apply jW) | (refine WP.regionC (id := 1) ?_; (refine smove rfl ?_); (refine slenm rfl rfl ?_); (refine smove rfl ?_); (refine slenm rfl rfl ?_); (refine su (aneq rfl rfl) ?_); apply jW) | (refine WP.regionC (id := 3) ?_; (refine smove rfl ?_); (refine slenm rfl rfl ?_); (refine smove rfl ?_); apply jW) | refine ret_b rfl ?_))
  · have : a ≠ b := by rintro rfl; exact hc rfl
    simp [this]
  refine wp_loop (fun k => k ≤ a.length ∧ a.take k = b.take k) (fun k => a.length - k) (fun k => (S 32 [(1, levelsA b), (2, .clo (.func 24) [] []), (15, levelsA a), (16, intA (a.length : Nat)), (17, intA (k : Nat))] 0 [])) 0 ⟨[], ToR.S rfl (by repeat' (first | exact rt_nil | refine rt_e rfl rfl ?_ | refine rt_p rfl rfl (by first | (simp [AV.bd, bdL, bdL_append]; done) | fail) ?_)) (by repeat' (exact ro_nil)) rfl (by (rw [hm]; exact rfl)) rfl (by (simp [bdT, AV.bd, bdL, bdL_append]; done)) (by repeat' (exact True.intro)) (by (rw [hm]; exact Nat.le_of_ble_eq_true rfl))⟩ ⟨Nat.zero_le _, rfl⟩ ?_
  rintro k ⟨hk, hall⟩
  have hab : a.length = b.length := by omega
  by_cases hlt : k < a.length
  · have hx := gequal1_fn (nth a k) (nth b k)
    (repeat' (first | apply jA | apply jF | apply jH | apply jI | apply jK | apply jM | apply jN | apply jO | apply jS | (refine wp_cond rfl (fun hc => ?_) (fun hc => ?_) <;> (try simp only [sB, ne_eq, reduceCtorEq] at hc) <;> (try (exfalso; omega))) | (refine WP.regionC (id := 4) ?_; (refine slss rfl rfl ?_); apply jW) | (refine WP.regionC (id := 5) ?_; (refine smove rfl ?_); (refine sidxn rfl rfl (by omega) ?_); (refine sloadw rfl rfl ?_); (refine se_alloc rfl ?_); (refine sassign rfl ?_); (refine se_store_b rfl rfl rfl rfl ?_); apply jW) | (refine WP.regionC (id := 6) ?_; (refine smove rfl ?_); (refine smove rfl ?_); (refine sidxn rfl rfl (by omega) ?_); (refine sloadw rfl rfl ?_); (refine se_alloc rfl ?_); (refine se_store_b rfl rfl rfl rfl ?_); apply jW) | (refine WP.regionC (id := 7) ?_; (refine smove rfl ?_); (refine sloadpw rfl rfl rfl rfl ?_); (refine sloadpw rfl rfl rfl rfl ?_); (refine sc_p rfl rfl (by first | ((repeat' first | exact SubL.nil | refine SubL.cons ?_ ?_ | exact Sub.refl); done) | fail) (by first | (simp [bdL, bdL_append, AV.bd]; done) | fail) (hx) ?_); (refine su (anot rfl) ?_); apply jW) | (refine WP.regionC (id := 8) ?_; (refine sassign rfl ?_); apply jW) | (refine WP.regionC (id := 9) ?_; (refine sadd rfl rfl (by exact inr_i64_of (by omega)) ?_); (refine smove rfl ?_); apply jW) | refine ret_b rfl ?_))
    · have : a ≠ b := by rintro rfl; exact hc rfl
      simp [this]
    · exact ⟨k + 1, ⟨by omega, by omega, take_eq_succ (by omega) (by omega) hall hc⟩, ⟨[], ToR.S rfl (by repeat' (first | exact rt_nil | refine rt_e rfl rfl ?_ | refine rt_p rfl rfl (by first | (simp [AV.bd, bdL, bdL_append]; done) | fail) ?_)) (by repeat' (exact ro_nil)) rfl (by (rw [hm]; exact rfl)) rfl (by (simp [bdT, AV.bd, bdL, bdL_append]; done)) (by repeat' (exact True.intro)) (by (rw [hm]; exact Nat.le_of_ble_eq_true rfl))⟩⟩
  (repeat' (first | apply jA | apply jH | apply jJ | apply jK | apply jL | apply jP | apply jS | (refine wp_cond rfl (fun hc => ?_) (fun hc => ?_) <;> (try simp only [sB, ne_eq, reduceCtorEq] at hc) <;> (try (exfalso; omega))) | (refine WP.regionC (id := 4) ?_; (refine slss rfl rfl ?_); apply jW) | (refine WP.regionC (id := 10) ?_; (refine sassign rfl ?_); apply jW) | refine ret_b rfl ?_))
  simp [eq_of_takes hab (by omega) hall]
theorem gequal_fn (x y : GFi) : Fn Tryd.prog 8 [fileA x, fileA y] (boolA (decide (x = y))) := by
  have e1 : decide (x = y) = (decide (x.start = y.start) && decide (x.levels = y.levels) && decide (x.rules = y.rules)) := by
    rw [Bool.eq_iff_iff]; simp only [Bool.and_eq_true, decide_eq_true_eq]; exact gfi_iff
  rw [e1]
  refine Fn.intro rfl (by kernel_rfl) Tryd.func8 rfl rfl Tryd.ntmps8 (by exact Nat.le_of_ble_eq_true rfl) ?_; intro Γ hm
  (repeat' (first | apply jA | apply jH | apply jK | apply jS | (refine WP.regionC (id := 0) ?_; (refine se_box rfl (by exact ⟨rfl, rfl⟩) ?_); (refine se_box rfl (by exact ⟨rfl, rfl⟩) ?_); (refine sassign rfl ?_); apply jW) | (refine WP.regionC (id := 1) ?_; (refine sfieldp rfl rfl rfl ?_); (refine sloadp rfl rfl rfl rfl ?_); (refine sfieldp rfl rfl rfl ?_); (refine sloadp rfl rfl rfl rfl ?_); (refine seqs rfl rfl ?_); (refine smove rfl ?_); (refine sg (gq_vt rfl rfl) (fun he => ap_field_p (rq_p rfl rfl) rfl rfl) ?_); (refine sg (gq_vt rfl rfl) (fun he => ap_load_p (rq_c rfl rfl) rfl rfl rfl) ?_); (refine sg (gq_vt rfl rfl) (fun he => ap_field_p (rq_p rfl rfl) rfl rfl) ?_); (refine sg (gq_vt rfl rfl) (fun he => ap_load_p (rq_c rfl rfl) rfl rfl rfl) ?_); (refine sg_p (gq_vt rfl rfl) (fun he => ⟨(rq_p rfl rfl), (RqL.cons (rq_c rfl rfl) (RqL.cons (rq_c rfl rfl) (RqL.cons (rq_p rfl rfl) (RqL.nil)))), (by first | ((repeat' first | exact SubL.nil | refine SubL.cons ?_ ?_ | exact Sub.refl); done) | fail), (by first | (simp [bdL, bdL_append, AV.bd]; done) | fail), equalL_fn x.levels y.levels⟩) ?_); (refine su (ap_and (rq_p rfl rfl) (rq_c rfl rfl)) ?_); (refine smove rfl ?_); (refine sg (gq_vt rfl rfl) (fun he => ap_field_p (rq_p rfl rfl) rfl rfl) ?_); (refine sg (gq_vt rfl rfl) (fun he => ap_load_p (rq_c rfl rfl) rfl rfl rfl) ?_); (refine sg (gq_vt rfl rfl) (fun he => ap_field_p (rq_p rfl rfl) rfl rfl) ?_); (refine sg (gq_vt rfl rfl) (fun he => ap_load_p (rq_c rfl rfl) rfl rfl rfl) ?_); (refine sg_p (gq_vt rfl rfl) (fun he => ⟨(rq_p rfl rfl), (RqL.cons (rq_c rfl rfl) (RqL.cons (rq_c rfl rfl) (RqL.cons (rq_p rfl rfl) (RqL.nil)))), (by first | ((repeat' first | exact SubL.nil | refine SubL.cons ?_ ?_ | exact Sub.refl); done) | fail), (by first | (simp [bdL, bdL_append, AV.bd]; done) | fail), equalR_fn x.rules y.rules⟩) ?_); (refine su (ap_and (rq_p rfl rfl) (rq_c rfl rfl)) ?_); (refine sassign rfl ?_); apply jW) | exact ret_eq rfl rfl rfl))
end Go.Lg

namespace Go.Lg
open Go.Proofs
set_option linter.unusedSimpArgs false
set_option linter.unusedVariables false
attribute [local irreducible] Ap Rq asemC WP RunD Ret Gq thenA inBlockA bodyQ noGotoA RqL RqP OpP
set_option maxHeartbeats 8000000
set_option maxRecDepth 20000
theorem parseR_fmt {f : GFi} (hv : validF f = true) : parseR (tx (fmtF f)) = (f, 0, 0) := by
  unfold parseR
  rw [bl_tx, lexT_file (FVal.of hv), pFile_read (FVal.of hv)]
  simp only [hv, if_true]
theorem parseR_ok {s : ByteArray} (hs : s.size ≤ 300) (h : (parseR s).2.2 = 0) : validF (parseR s).1 = true ∧ (fmtF (parseR s).1).length ≤ 60032 ∧ (toks (parseR s).1 (parseR s).1.levels.length).length ≤ 1000000 := by
  have hb := file_bounds s (by omega)
  have hl := lexL_len _ (bl s) 0 (Nat.le_refl _)
  rw [bl_len] at hl
  have hl2 : (lexT (bl s)).length ≤ 300 := by unfold lexT; rw [List.length_map]; omega
  unfold parseR at h ⊢
  cases e : pFile (lexT (bl s)) with
  | ok f q =>
    rw [e] at h
    simp only at h ⊢
    by_cases hv : validF f = true
    · rw [if_pos hv]
      have := fmt_bound (N := s.size) (by omega) (lexT_sm s) e hv
      exact ⟨hv, by simp only; omega, (hb f q e).1⟩
    · rw [if_neg hv] at h
      cases h
  | err q => rw [e] at h; cases h
theorem law_gval (s : ByteArray) : Fn Tryd.prog 3 [strA s] (boolA true) := by
  by_cases hl : (s.size : Int) > 300
  · refine Fn.intro rfl (by kernel_rfl) Tryd.func3 rfl rfl Tryd.ntmps3 (by exact Nat.le_of_ble_eq_true rfl) ?_; intro Γ hm
    (repeat' (first | apply jA | apply jH | apply jK | apply jM | apply jS | (refine wp_cond rfl (fun hc => ?_) (fun hc => ?_) <;> (try simp only [sB, ne_eq, reduceCtorEq] at hc) <;> (try (exfalso; omega))) | (refine WP.regionC (id := 0) ?_; (refine sassign rfl ?_); apply jW) | (refine WP.regionC (id := 1) ?_; (refine smove rfl ?_); (refine su (alenstr rfl rfl) ?_); (refine su (agtr rfl rfl) ?_); apply jW) | (refine WP.regionC (id := 2) ?_; (refine sc_p rfl rfl (by first | ((repeat' (exact SubL.nil)); done) | fail) (by first | (simp [bdL, bdL_append, AV.bd]; done) | fail) (awake17_fn) ?_); (refine sassign rfl ?_); apply jW) | exact ret_eq rfl rfl rfl))
  · have hP := parseP_fn s (by omega)
    have hok := @parseR_ok s (by omega)
    generalize parseR s = x at *
    obtain ⟨f, at_, e⟩ := x
    simp only [parseA] at hP hok
    by_cases he : e = 0
    · subst he
      obtain ⟨hv, hb, ht⟩ := hok rfl
      have h3 := format_fn f (prices hv) (by omega)
      have h4 := parseP_fn (tx (fmtF f)) (by rw [tx_size]; omega)
      rw [parseR_fmt hv] at h4
      simp only [parseA] at h4
      have h5 := gequal_fn f f
      have h6 := gvalid_fn f ht
      rw [hv] at h6
      refine Fn.intro rfl (by kernel_rfl) Tryd.func3 rfl rfl Tryd.ntmps3 (by exact Nat.le_of_ble_eq_true rfl) ?_; intro Γ hm
      (repeat' (first | apply jA | apply jH | apply jI | apply jK | apply jM | apply jS | (refine wp_cond rfl (fun hc => ?_) (fun hc => ?_) <;> (try simp only [sB, ne_eq, reduceCtorEq] at hc) <;> (try (exfalso; omega))) | (refine WP.regionC (id := 0) ?_; (refine sassign rfl ?_); apply jW) | (refine WP.regionC (id := 1) ?_; (refine smove rfl ?_); (refine su (alenstr rfl rfl) ?_); (refine su (agtr rfl rfl) ?_); apply jW) | (refine WP.regionC (id := 3) ?_; (refine smove rfl ?_); (refine sc_p rfl rfl (by first | ((repeat' first | exact SubL.nil | refine SubL.cons ?_ ?_ | exact Sub.refl); done) | fail) (by first | (simp [bdL, bdL_append, AV.bd]; done) | fail) (hP) ?_); (refine smove rfl ?_); (refine su (aextract rfl rfl) ?_); (refine su (aextract rfl rfl) ?_); (refine su (aextract rfl rfl) ?_); (refine se_alloc rfl ?_); (refine se_store_b rfl rfl rfl rfl ?_); (refine sassign rfl ?_); (refine sassign rfl ?_); apply jW) | (refine WP.regionC (id := 4) ?_; (refine smove rfl ?_); (refine su (aneq rfl rfl) ?_); apply jW) | (refine WP.regionC (id := 5) ?_; (refine sc_p rfl rfl (by first | ((repeat' (exact SubL.nil)); done) | fail) (by first | (simp [bdL, bdL_append, AV.bd]; done) | fail) (awake17_fn) ?_); (refine sassign rfl ?_); apply jW) | (refine WP.regionC (id := 6) ?_; (refine sloadpw rfl rfl rfl rfl ?_); (refine sc_p rfl rfl (by first | ((repeat' first | exact SubL.nil | refine SubL.cons ?_ ?_ | exact Sub.refl); done) | fail) (by first | (simp [bdL, bdL_append, AV.bd]; done) | fail) (h3) ?_); (refine sc_p rfl rfl (by first | ((repeat' first | exact SubL.nil | refine SubL.cons ?_ ?_ | exact Sub.refl); done) | fail) (by first | (simp [bdL, bdL_append, AV.bd]; done) | fail) (h4) ?_); (refine smove rfl ?_); (refine su (aextract rfl rfl) ?_); (refine su (aextract rfl rfl) ?_); (refine su (aextract rfl rfl) ?_); (refine se_alloc rfl ?_); (refine se_store_b rfl rfl rfl rfl ?_); (refine sassign rfl ?_); (refine sassign rfl ?_); apply jW) | (refine WP.regionC (id := 7) ?_; (refine sc_p rfl rfl (by first | ((repeat' (exact SubL.nil)); done) | fail) (by first | (simp [bdL, bdL_append, AV.bd]; done) | fail) (awake17_fn) ?_); (refine smove rfl ?_); (refine sg (gq_vt rfl rfl) (fun he => ap_load_pw (rq_p rfl rfl) rfl rfl rfl) ?_); (refine sg_p (gq_vt rfl rfl) (fun he => ⟨(rq_p rfl rfl), (RqL.cons (rq_c rfl rfl) (RqL.nil)), (by first | ((repeat' first | exact SubL.nil | refine SubL.cons ?_ ?_ | exact Sub.refl); done) | fail), (by first | (simp [bdL, bdL_append, AV.bd]; done) | fail), h6⟩) ?_); (refine su (ap_and (rq_p rfl rfl) (rq_c rfl rfl)) ?_); (refine smove rfl ?_); (refine sg (gq_vt rfl rfl) (fun he => ap_move (rq_p rfl rfl)) ?_); (refine sg (gq_vt rfl rfl) (fun he => ap_eql (rq_c rfl rfl) (rq_p rfl rfl)) ?_); (refine su (ap_and (rq_p rfl rfl) (rq_c rfl rfl)) ?_); (refine smove rfl ?_); (refine sg (gq_vt rfl rfl) (fun he => ap_load_pw (rq_p rfl rfl) rfl rfl rfl) ?_); (refine sg (gq_vt rfl rfl) (fun he => ap_load_pw (rq_p rfl rfl) rfl rfl rfl) ?_); (refine sg_p (gq_vt rfl rfl) (fun he => ⟨(rq_p rfl rfl), (RqL.cons (rq_c rfl rfl) (RqL.cons (rq_c rfl rfl) (RqL.nil))), (by first | ((repeat' first | exact SubL.nil | refine SubL.cons ?_ ?_ | exact Sub.refl); done) | fail), (by first | (simp [bdL, bdL_append, AV.bd]; done) | fail), h5⟩) ?_); (refine su (ap_and (rq_p rfl rfl) (rq_c rfl rfl)) ?_); (refine sassign rfl ?_); apply jW) | exact ret_eq rfl rfl rfl | refine ret_b rfl ?_))
      all_goals (simp)
      all_goals done
    · refine Fn.intro rfl (by kernel_rfl) Tryd.func3 rfl rfl Tryd.ntmps3 (by exact Nat.le_of_ble_eq_true rfl) ?_; intro Γ hm
      (repeat' (first | apply jA | apply jH | apply jI | apply jK | apply jM | apply jS | (refine wp_cond rfl (fun hc => ?_) (fun hc => ?_) <;> (try simp only [sB, ne_eq, reduceCtorEq] at hc) <;> (try (exfalso; omega))) | (refine WP.regionC (id := 0) ?_; (refine sassign rfl ?_); apply jW) | (refine WP.regionC (id := 1) ?_; (refine smove rfl ?_); (refine su (alenstr rfl rfl) ?_); (refine su (agtr rfl rfl) ?_); apply jW) | (refine WP.regionC (id := 3) ?_; (refine smove rfl ?_); (refine sc_p rfl rfl (by first | ((repeat' first | exact SubL.nil | refine SubL.cons ?_ ?_ | exact Sub.refl); done) | fail) (by first | (simp [bdL, bdL_append, AV.bd]; done) | fail) (hP) ?_); (refine smove rfl ?_); (refine su (aextract rfl rfl) ?_); (refine su (aextract rfl rfl) ?_); (refine su (aextract rfl rfl) ?_); (refine se_alloc rfl ?_); (refine se_store_b rfl rfl rfl rfl ?_); (refine sassign rfl ?_); (refine sassign rfl ?_); apply jW) | (refine WP.regionC (id := 4) ?_; (refine smove rfl ?_); (refine su (aneq rfl rfl) ?_); apply jW) | (refine WP.regionC (id := 5) ?_; (refine sc_p rfl rfl (by first | ((repeat' (exact SubL.nil)); done) | fail) (by first | (simp [bdL, bdL_append, AV.bd]; done) | fail) (awake17_fn) ?_); (refine sassign rfl ?_); apply jW) | exact ret_eq rfl rfl rfl))
      all_goals done
end Go.Lg
