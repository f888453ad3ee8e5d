/-
  Part 11 of the proof of GrammarparserValidCard: the logic over the model, the functions' contracts and the plain laws.
-/
import Derived.Test.YtpemjdkcabefnabDoorKg10
import Derived.Test.YtpemjdkcabefnabDoorRows
import Derived.Shelf.Vars

set_option linter.unusedSimpArgs false
set_option linter.unusedVariables false
set_option linter.unusedSectionVars false
set_option linter.defProp false

namespace Go.Lg
open Go.Proofs Go.Proofs.YtpemjdkcabefnabDoor
def laid0 : List (String × DataW Unit) := [("math/bits.deBruijn32tab", Rows.laid_math_bits_deBruijn32tab), ("math/bits.deBruijn64tab", Rows.laid_math_bits_deBruijn64tab), ("internal/strconv.uint64pow10", Rows.laid_internal_strconv_uint64pow10)]
theorem gw_open {w : World} (h : w.ShapedOpen Tryd.prog) (hl : laidMetH Tryd.prog laid0 w) : GW w ∧ GL ≤ w.heap.size := by
  rw [MakeChecks.laidMetH_plain _ _ _ (by kernel_rfl)] at hl
  obtain ⟨ps, hl, _⟩ := hl
  refine ⟨⟨?_, ?_⟩, ?_⟩
  · intro p hp
    simp only [gints, List.mem_cons, List.mem_nil_iff, or_false] at hp
    rcases hp with rfl
    · exact cell_of_shapedOpen_int (zero := #[.int .i64 0]) (t := 3) h (of_decide_eq_true (by kernel_rfl)) (by kernel_rfl) rfl (by kernel_rfl) (by kernel_rfl) (by kernel_rfl)
  · intro p hp
    simp only [gtabs, List.mem_cons, List.mem_nil_iff, or_false] at hp
    rcases hp with rfl | rfl | rfl
    · exact laid_tab (name := "math/bits.deBruijn32tab") (t := 122) (e := 5) (n := 32) (by kernel_rfl) (by kernel_rfl) (by kernel_rfl) (by kernel_rfl) (by kernel_rfl) (by kernel_rfl) hl (by simp [laid0, Lib.tabData, Rows.laid_math_bits_deBruijn32tab])
    · exact laid_tab (name := "math/bits.deBruijn64tab") (t := 123) (e := 5) (n := 64) (by kernel_rfl) (by kernel_rfl) (by kernel_rfl) (by kernel_rfl) (by kernel_rfl) (by kernel_rfl) hl (by simp [laid0, Lib.tabData, Rows.laid_math_bits_deBruijn64tab])
    · exact laid_tab (name := "internal/strconv.uint64pow10") (t := 115) (e := 108) (n := 20) (by kernel_rfl) (by kernel_rfl) (by kernel_rfl) (by kernel_rfl) (by kernel_rfl) (by kernel_rfl) hl (by simp [laid0, Lib.tabData, Rows.laid_internal_strconv_uint64pow10])
  · have hs : ((((begin Tryd.prog (fun _ _ => 0) default).world.heap[3]?).bind Obj.row?).isSome) = true := by kernel_rfl
    obtain ⟨⟨zero, t⟩, hr⟩ := Option.isSome_iff_exists.1 hs
    obtain ⟨cs, hh, _⟩ := h.1 3 zero t (of_decide_eq_true (by kernel_rfl)) hr
    exact (Array.getElem?_eq_some_iff.1 hh).1
end Go.Lg

namespace Go.Lg
open Go.Proofs Go.RowKit
theorem door_met (os : Os) (args : Array Value) : laidMetH Tryd.prog laid0 ((World.doorLaid Tryd.prog 400 os).forCall (fun _ _ => 0) ⟨#[], args, []⟩).memory :=
  laidMetH_of_parts3 (fuel := 8) (laidMet_of_run' 8 (by kernel_rfl) (by kernel_rfl)) (by kernel_rfl) (by kernel_rfl)
theorem door_sh (os : Os) (args : Array Value) : ((World.doorLaid Tryd.prog 400 os).forCall (fun _ _ => 0) ⟨#[], args, []⟩).Shaped Tryd.prog :=
  World.shaped_of_RefB (by kernel_rfl) (by kernel_rfl)
end Go.Lg

namespace Go.Lg
open Go.RowKit
abbrev There' (w : World) (b : Nat) : Prop := b < w.heap.size
def AV.ifree : AV → Bool
  | .any | .val _ | .ref _ _ _ _ | .ptr _ _ _ _ | .map _ => true
  | _ => false
def AObj.ifree : AObj → Bool
  | .arr _ es => es.all AV.ifree
  | .bytes _ => true
  | .bld _ x => x.ifree
  | .map _ => false
section
variable {A A' : Nat → Prop} {ρ ρ' : Nat → Option Nat} {I I' : Nat → Prop} {w : World} {π : Nat → Nat}
theorem RV.reren_free {x : AV} {v : Value} (h : RV A ρ I w x v) (hx : x.ifree = true) (hA : ∀ id, A id → A' (π id) ∧ ρ' (π id) = ρ id) : RV A' ρ' I' w (x.ren π) v := by
  cases h with
  | any => exact .any
  | val h => exact .val h
  | ref h hb hl hcs hm => exact .ref (hA _ h).1 ((hA _ h).2.trans hb) hl hcs hm
  | refn h hb => exact .refn (hA _ h).1 ((hA _ h).2.trans hb)
  | ptr h hb => exact .ptr (hA _ h).1 ((hA _ h).2.trans hb)
  | map h hb => exact .map (hA _ h).1 ((hA _ h).2.trans hb)
  | _ => simp [AV.ifree] at hx
theorem flat_free : ∀ {es : List AV}, es.all AV.ifree = true → flat es = es
  | [], _ => rfl
  | e :: es, h => by
    simp only [List.all_cons, Bool.and_eq_true] at h
    have he : e.cells = [e] := by cases e <;> first | rfl | simp [AV.ifree] at h
    have := flat_free h.2
    simp only [flat] at this
    simp [flat, he, this]
theorem OR.reren_free {o : AObj} (ho : o.ifree = true) {c : Option Nat} (h : OR A ρ I w c o) (hA : ∀ id, A id → A' (π id) ∧ ρ' (π id) = ρ id) : OR A' ρ' I' w c (o.ren π) := by
  cases c with
  | none =>
    rcases h with rfl | ⟨k', rfl⟩
    · exact .inl rfl
    · exact .inr ⟨k', by simp [AObj.ren, renL]⟩
  | some b =>
    cases o with
    | bytes l => exact h
    | bld T x => obtain ⟨p, v, h1, h2, h3, h4⟩ := h; exact ⟨p, v, h1, h2, h3, h4.reren_free ho hA⟩
    | arr k xs =>
      obtain ⟨cs, t, h1, h2, h3, h4, h5⟩ := h
      refine ⟨cs, t, h1, by rw [flat_ren, List.length_map]; exact h2, fun e he => ?_, fun j v hj hv => h4 j v (by rw [flat_ren, List.length_map] at hj; exact hj) hv, fun j x v hx hv => ?_⟩
      · rw [renL_eq] at he; obtain ⟨e0, he0, rfl⟩ := List.mem_map.1 he; rw [cells_ren, List.length_map]; exact h3 e0 he0
      · rw [flat_ren] at hx; simp only [List.getElem?_map, Option.map_eq_some_iff] at hx; obtain ⟨y, hy, rfl⟩ := hx
        refine (h5 j y v hy hv).reren_free ?_ hA
        rw [flat_free ho] at hy
        exact List.all_eq_true.1 ho y (List.mem_of_getElem? hy)
    | map m => simp [AObj.ifree] at ho
theorem OR.rrf {o : AObj} {c : Option Nat} (h : OR A ρ I w c o) (ho : o.ifree = true) (hA : ∀ id, A id → A' (π id) ∧ ρ' (π id) = ρ id) : OR A' ρ' I' w c (o.ren π) := h.reren_free ho hA
theorem RV.pure_free {x : AV} {v : Value} (h : RV A ρ I w x v) (_ : x.bd 0 = true) (hx : x.scal = true) : RV A' ρ' I' w x v := h.scal hx
end
section
variable {P : Program} {Γ : Cx} {A : Nat → Prop} {ρ : Nat → Option Nat} {s : St} {a : Act} {w : World}
theorem row_shown (h : SRa Γ A ρ s a w) {id k len : Nat} {es : List AV} (hl : s.look id = some (.arr k es)) (hlen : es.length = len) (hb : bdL 0 es = true) (hk : ∀ e, e ∈ es → e.cells.length = k) {v : Value} (hv : RV A ρ (Im Γ ρ s w) w (.ref id k 0 len) v)
    {A' : Nat → Prop} {ρ' : Nat → Option Nat} {I' : Nat → Prop} (hI : ∀ b, ρ id = some b → I' b) (hII : ∀ b, Im Γ ρ s w b → I' b) : RV A' ρ' I' w (.sl k es) v := by
  cases hv with
  | @ref _ _ _ _ cap b hA hbk hlc hcs hm =>
    obtain ⟨cs, t, hblk, hrow⟩ := h.row hl hbk
    subst hlen
    have hget : ∀ j, j < (flat es).length → cs[j]? = some (cs.getD j undef) := fun j hj => by
      have := hrow.len
      simp [Array.getD, show j < cs.size by omega]
    rw [Nat.zero_mul]
    refine .sl (fun j => cs.getD j undef) ⟨hlc, hm⟩ (hI b hbk) hk (fun j hj => ?_) (fun j hj => hrow.atoms j _ hj (hget j hj)) fun j x hx => ?_
    · rw [Nat.zero_add, cell_of_block hblk]; exact hget j hj
    · have hj := (List.getElem?_eq_some_iff.1 hx).1
      exact (hrow.vals j x _ hx (hget j hj)).pure (flat_bd hb x (List.mem_of_getElem? hx)) (fun c hc => ⟨hII c hc, rfl⟩) (fun _ _ hn => hn)
  | refn =>
    have : es = [] := List.eq_nil_of_length_eq_zero hlen
    subst this; exact .nils
def shown : List AV → List AV → List Nat
  | x :: xs, y :: ys => match x, y with
    | .ref id _ _ _, .sl _ _ => id :: shown xs ys
    | _, _ => shown xs ys
  | _, _ => []
theorem shown_more {id : Nat} {x y : AV} {xs ys : List AV} (h : id ∈ shown xs ys) : id ∈ shown (x :: xs) (y :: ys) := by
  simp only [shown]
  split
  · exact List.mem_cons_of_mem _ h
  · exact h
inductive ArgS (π : Nat → Nat) (m : Nat) (look : Nat → Option AObj) : List AV → List AV → Prop
  | nil : ArgS π m look [] []
  | ren {x y : AV} {xs ys : List AV} (h : x = y.ren π) (hb : y.bd m = true) (t : ArgS π m look xs ys) : ArgS π m look (x :: xs) (y :: ys)
  | row {id k len : Nat} {es : List AV} {xs ys : List AV} (ho : look id = some (.arr k es)) (hl : es.length = len) (hb : bdL 0 es = true) (hk : ∀ e, e ∈ es → e.cells.length = k) (t : ArgS π m look xs ys) : ArgS π m look (.ref id k 0 len :: xs) (.sl k es :: ys)
theorem ArgS.len {π : Nat → Nat} {m : Nat} {look : Nat → Option AObj} {xs ys : List AV} (h : ArgS π m look xs ys) : ys.length = xs.length := by
  induction h with
  | nil => rfl
  | ren _ _ _ ih => simp [ih]
  | row _ _ _ _ _ ih => simp [ih]
theorem ArgS.get {π : Nat → Nat} {m : Nat} {look : Nat → Option AObj} {xs ys : List AV} (h : ArgS π m look xs ys) : ∀ (i : Nat) x y, xs[i]? = some x → ys[i]? = some y → (x = y.ren π ∧ y.bd m = true) ∨ ∃ id k len es, x = .ref id k 0 len ∧ y = .sl k es ∧ look id = some (.arr k es) ∧ es.length = len ∧ bdL 0 es = true ∧ (∀ e, e ∈ es → e.cells.length = k) ∧ id ∈ shown xs ys := by
  induction h with
  | nil => intro i x y hx; simp at hx
  | ren h hb _ ih =>
    intro i x y hx hy
    cases i with
    | zero => simp at hx hy; subst hx hy; exact .inl ⟨h, hb⟩
    | succ i =>
      rcases ih i x y (by simpa using hx) (by simpa using hy) with q | ⟨a, b, c, d, q1, q2, q3, q4, q5, q6, q7⟩
      · exact .inl q
      · exact .inr ⟨a, b, c, d, q1, q2, q3, q4, q5, q6, shown_more q7⟩
  | row ho hl hb hk _ ih =>
    intro i x y hx hy
    cases i with
    | zero => simp at hx hy; subst hx hy; exact .inr ⟨_, _, _, _, rfl, rfl, ho, hl, hb, hk, by simp [shown]⟩
    | succ i =>
      rcases ih i x y (by simpa using hx) (by simpa using hy) with q | ⟨a, b, c, d, q1, q2, q3, q4, q5, q6, q7⟩
      · exact .inl q
      · exact .inr ⟨a, b, c, d, q1, q2, q3, q4, q5, q6, shown_more q7⟩
def LendS (l : List Nat) (s : St) (xs ys : List AV) (os : List AObj) : Prop := ArgS (ap l) os.length s.look xs ys ∧ ((shown xs ys).all fun id => !(l.contains id)) = true ∧ wkRO (ap l) s.objs l (os.map some) ∧ l.Nodup ∧ bdO os.length (os.map some) = true
theorem Call.show {g : FuncId} {first cap args ys : List AV} {os : List AObj} (l : List Nat) {K : AV → St → Prop} {post : AV → List (Option AObj) → Prop} (hspec : Spec P g ys (os.map some) post) (hL : LendS l s (first ++ args ++ cap) ys os)
    (hK : ∀ r objs', post r objs' → os.length ≤ objs'.length ∧ r.bd 0 = true ∧ (∀ (j : Nat) o, objs'[j]? = some (some o) → o.ifree = true) ∧ K (r.ren (apx s.objs.length l)) ⟨s.tmps, updO (apx s.objs.length l) s.objs l objs'⟩) (hKs : ∀ r objs', post r objs' → r.scal = true) : Call P (.clo (.func g) first cap) args s K := by
  intro Γ a w f vs hs hfv
  obtain ⟨ρ, h⟩ := hs
  obtain ⟨hf, hl, hv⟩ := hfv ρ h
  obtain ⟨us, hrun, hsz, hrv⟩ := call_args hspec.1 hf hl hv
  refine ⟨g, us, hrun, ?_⟩
  obtain ⟨h1, hids, h2, h3, h6⟩ := hL
  have hm : os.length = l.length := by simpa using wkRO_len h2
  have hlive : ∀ j o, os[j]? = some o → s.live (ap l j) (o.ren (ap l)) := fun j o ho => wkRO_get h2 j o (by simp [ho])
  have hlive' : ∀ j, j < l.length → ∃ o, s.live (ap l j) o := fun j hj => ⟨_, hlive j _ (List.getElem?_eq_getElem (by omega))⟩
  have hlt : ∀ j, j < l.length → ap l j < s.objs.length := fun j hj => wkRO_lt h2 j hj
  have happ : ∀ j, j < l.length → ap l j ∈ l := fun j hj => by simp [ap, List.getD, List.getElem?_eq_getElem hj]
  let Γ' : Cx := ⟨w, There' w, os.length, fun j => ρ (ap l j), h.fr.next.1, h.fr.next.2, fun j hj b hb => by
    obtain ⟨o, ho⟩ := hlive' j (by omega)
    rcases h.own _ o b ho hb with q | ⟨i, hi, q⟩
    · exact Nat.le_trans Γ.hgl q
    · exact Γ.hext i hi b q, []⟩
  have hst : ∀ id o, St.live ⟨ys, os.map some⟩ id o → os[id]? = some o := fun id o hl => by
    unfold St.live at hl
    simp only [List.getElem?_map, Option.map_eq_some_iff] at hl
    obtain ⟨x, hx, hxo⟩ := hl
    injection hxo with hxo; subst hxo; exact hx
  have hI0 : ∀ b, Im Γ ρ s w b → Im Γ' (fun j => ρ (ap l j)) ⟨ys, os.map some⟩ w b ∧ w.heap[b]? = w.heap[b]? := fun b hb => ⟨⟨.inl hb.2.1, hb.2.1, fun id o hl => hb.2.2 _ _ (hlive id o (hst id o hl))⟩, rfl⟩
  have h0 : SR Γ' ⟨ys, os.map some⟩ ⟨us, []⟩ w := by
    refine ⟨fun j => ρ (ap l j), fun i hi => ⟨by simpa using hi, rfl⟩, by simp only; rw [hsz, h1.len], ?_, fun id o hl => ?_, fun id o hl => (List.getElem?_eq_some_iff.1 hl).1, fun _ hid => hid, fun id o b hl hb => .inr ⟨id, (List.getElem?_eq_some_iff.1 (hst id o hl)).1, hb⟩, fun i j o o' b g1 g2 g3 g4 => ?_, rfl, ⟨Nat.le_refl _, rfl, rfl, rfl, fun _ _ _ => rfl, fun _ _ hn => hn⟩⟩
    · intro i y v hy hu
      simp only at hy hu
      have hi : i < (first ++ args ++ cap).length := by rw [← h1.len]; exact (List.getElem?_eq_some_iff.1 hy).1
      have hx := List.getElem?_eq_getElem hi
      rcases h1.get i _ y hx hy with ⟨hxy, hyb⟩ | ⟨id, k, len, es, hxe, rfl, q1, q2, q3, q4, q5⟩
      · have := (hrv i _ v hx hu).unren (π := ap l) (n := os.length) (ρ' := fun j => ρ (ap l j)) (fun _ _ => rfl) hI0 (fun _ _ hn => hn) hxy hyb
        simpa using this
      · refine row_shown h q1 q2 q3 q4 (hxe ▸ hrv i _ v hx hu) (fun b hb => ⟨.inl ?_, ?_, fun j o hl hj => ?_⟩) (fun b hb => (hI0 b hb).1)
        · exact live_block h (St.look_some.1 q1) hb
        · exact live_block h (St.look_some.1 q1) hb
        · have hjl := (List.getElem?_eq_some_iff.1 (hst j o hl)).1
          have e := h.inj _ _ _ _ b (St.look_some.1 q1) (hlive j o (hst j o hl)) hb hj
          have : l.contains id = true := by rw [e]; simpa using happ j (by omega)
          have hn := List.all_eq_true.1 hids _ q5
          rw [this] at hn; cases hn
    · have := (h.obj _ _ (hlive id o (hst id o hl))).unren (π := ap l) (n := os.length) (ρ' := fun j => ρ (ap l j)) (fun _ _ => rfl) hI0 (fun _ _ hn => hn) (fun _ _ => rfl) (by have := bdO_get h6 id o (by simp [hst id o hl]); cases o <;> exact this)
      simpa using this
    · have e := h.inj _ _ _ _ b (hlive i o (hst i o g1)) (hlive j o' (hst j o' g2)) g3 g4
      have hi := (List.getElem?_eq_some_iff.1 (hst i o g1)).1
      have hj := (List.getElem?_eq_some_iff.1 (hst j o' g2)).1
      rw [hm] at hi hj
      simp only [ap, List.getD, List.getElem?_eq_getElem hi, List.getElem?_eq_getElem hj, Option.getD_some] at e
      exact (List.getElem_inj h3).1 e
  refine (hspec.2 Γ' us (by simp [Γ']) h0).mono ?_
  rintro e w' ⟨r, objs', v, rfl, hpost, ρ'', hs'⟩
  obtain ⟨hle, hrb, hfree, hKr⟩ := hK r objs' hpost
  have hfr := hs'.fr
  have hext : ∀ j, j < l.length → ρ'' j = ρ (ap l j) := fun j hj => (hs'.ext j (by simp only [Γ']; omega)).2
  generalize hs2 : (⟨s.tmps, updO (apx s.objs.length l) s.objs l objs'⟩ : St) = s2 at hKr
  let ρn : Nat → Option Nat := fun id => if id < s.objs.length then ρ id else ρ'' (id - s.objs.length + l.length)
  have hρold : ∀ id, id < s.objs.length → ρn id = ρ id := fun id hid => if_pos hid
  have hρnew : ∀ j, ρn (apx s.objs.length l j) = ρ'' j := fun j => by
    unfold apx
    split
    · rename_i hj; rw [hρold _ (hlt j hj)]; exact (hext j hj).symm
    · rename_i hj
      simp only [ρn]
      rw [if_neg (by omega)]
      congr 1; omega
  have hn2 : s2.objs.length = s.objs.length + (objs'.length - l.length) := by rw [← hs2]; exact updO_len (by omega)
  have hapx : ∀ j, j < objs'.length → apx s.objs.length l j < s2.objs.length := fun j hj => by
    rw [hn2]; unfold apx
    split
    · rename_i h; have := hlt j h; omega
    · omega
  have cases2 : ∀ id o, s2.live id o → (id < s.objs.length ∧ s.live id o ∧ id ∉ l) ∨ ∃ j o0, St.live ⟨[r], objs'⟩ j o0 ∧ o = o0.ren (apx s.objs.length l) ∧ id = apx s.objs.length l j := by
    intro id o ho
    rw [← hs2] at ho
    exact updO_get (os := objs') (show l.length ≤ objs'.length by omega) (fun j i hi => by
      have hj := (List.getElem?_eq_some_iff.1 hi).1
      have := hlt j hj
      simpa [ap, List.getD, hi] using this) h3 ho
  have hblk : ∀ b, b < w.heap.size → (∀ j, j < l.length → ρ (ap l j) ≠ some b) → w'.heap[b]? = w.heap[b]? := fun b hb hne => hfr.block b hb (fun i hi => hne i (by simp only [Γ'] at hi; omega))
  have hIold : ∀ b, Im Γ ρ s w b → Im Γ ρn s2 w' b ∧ w'.heap[b]? = w.heap[b]? := by
    rintro b ⟨g1, g2, g3⟩
    refine ⟨⟨g1, Nat.lt_of_lt_of_le g2 hfr.size, fun id o ho => ?_⟩, hblk b g2 fun j hj => ?_⟩
    · rcases cases2 id o ho with ⟨c1, c2, _⟩ | ⟨j, o0, c1, _, rfl⟩
      · rw [hρold id c1]; exact g3 id o c2
      · rw [hρnew]
        intro hb
        rcases hs'.own j o0 b c1 hb with q | ⟨i, hi, q⟩
        · simp only [Γ'] at q; omega
        · simp only [Γ'] at hi q
          obtain ⟨o', ho'⟩ := hlive' i (by omega)
          exact g3 _ _ ho' q
    · obtain ⟨o', ho'⟩ := hlive' j hj
      exact g3 _ _ ho'
  have hown : ∀ j o0 b, St.live ⟨[r], objs'⟩ j o0 → ρ'' j = some b → w.heap.size ≤ b ∨ ∃ i, i < l.length ∧ ρ (ap l i) = some b := fun j o0 b c1 hb => by
    rcases hs'.own j o0 b c1 hb with q | ⟨i, hi, q⟩
    · exact .inl q
    · exact .inr ⟨i, by simp only [Γ'] at hi; omega, q⟩
  have hw' : SRa Γ (fun id => id < s2.objs.length) ρn s2 a w' := by
    refine ⟨fun i hi => ?_, by rw [← hs2]; exact h.len, ?_, ?_, fun id o ho => (List.getElem?_eq_some_iff.1 ho).1, fun _ hid => hid, ?_, ?_, h.defers, h.fr.turn hfr.size hfr.os hfr.tape hfr.output ?_ hfr.csize⟩
    · have g := h.ext i hi
      exact ⟨by have := g.1; omega, (hρold i g.1).trans g.2⟩
    · intro i x u hx hu
      exact (h.tmp i x u (by rw [← hs2] at hx; exact hx) hu).mono (fun id hid => ⟨by omega, hρold id hid⟩) hIold hfr.csize
    · intro id o ho
      rcases cases2 id o ho with ⟨c1, c2, c3⟩ | ⟨j, o0, c1, rfl, rfl⟩
      · rw [hρold id c1]
        refine (h.obj id o c2).mono (fun id hid => ⟨by omega, hρold id hid⟩) hIold hfr.csize fun c hc => hblk c (live_block h c2 hc) fun j hj hj' => ?_
        obtain ⟨o', ho'⟩ := hlive' j hj
        have := h.inj _ _ _ _ c c2 ho' hc hj'
        exact c3 (this ▸ happ j hj)
      · rw [hρnew]
        exact OR.rrf (hs'.obj j o0 c1) (hfree j o0 c1) (fun id hid => ⟨hapx id hid, hρnew id⟩)
    · intro id o b ho hb
      rcases cases2 id o ho with ⟨c1, c2, c3⟩ | ⟨j, o0, c1, rfl, rfl⟩
      · rw [hρold id c1] at hb; exact h.own id o b c2 hb
      · rw [hρnew] at hb
        rcases hown j o0 b c1 hb with q | ⟨i, hi, q⟩
        · exact .inl (Nat.le_trans h.fr.size q)
        · obtain ⟨o', ho'⟩ := hlive' i hi
          exact h.own _ _ b ho' q
    · have mix : ∀ id o b j o0, s.live id o → id ∉ l → ρ id = some b → St.live ⟨[r], objs'⟩ j o0 → ρ'' j = some b → False := by
        intro id o b j o0 c2 c3 hb c1 hb'
        rcases hown j o0 b c1 hb' with q | ⟨i, hi, q⟩
        · have := live_block h c2 hb; omega
        · obtain ⟨o', ho'⟩ := hlive' i hi
          have := h.inj _ _ _ _ b c2 ho' hb q
          exact c3 (this ▸ happ i hi)
      intro id id' o o' b ho ho' hb hb'
      rcases cases2 id o ho with ⟨c1, c2, c3⟩ | ⟨j, o0, c1, rfl, rfl⟩ <;> rcases cases2 id' o' ho' with ⟨d1, d2, d3⟩ | ⟨j', o0', d1, rfl, rfl⟩
      · rw [hρold id c1] at hb; rw [hρold id' d1] at hb'
        exact h.inj _ _ _ _ b c2 d2 hb hb'
      · rw [hρold id c1] at hb; rw [hρnew] at hb'
        exact (mix _ _ _ _ _ c2 c3 hb d1 hb').elim
      · rw [hρnew] at hb; rw [hρold id' d1] at hb'
        exact (mix _ _ _ _ _ d2 d3 hb' c1 hb).elim
      · rw [hρnew] at hb hb'
        rw [hs'.inj _ _ _ _ b c1 d1 hb hb']
    · intro b hb
      by_cases hj : ∃ j, j < l.length ∧ ρ (ap l j) = some b
      · obtain ⟨j, hj, hjb⟩ := hj
        obtain ⟨o', ho'⟩ := hlive' j hj
        exact .inr (h.own _ _ b ho' hjb)
      · exact .inl (hblk b hb fun j hj' he => hj ⟨j, hj', he⟩)
  have hr : RV (fun id => id < s2.objs.length) ρn (Im Γ ρn s2 w') w' (r.ren (apx s.objs.length l)) v := by
    rw [ren_pure hrb]
    exact (hs'.tmp 0 r v rfl rfl).pure_free hrb (hKs r objs' hpost)
  exact ⟨_, s2, v, rfl, hKr, ⟨ρn, hw'⟩, fun dst => ⟨ρn, by simpa using hw'.put dst hr⟩⟩
end
end Go.Lg
