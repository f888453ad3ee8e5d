/-
  Part 17 of the proof of GrammarparserValidCard: the logic over the model, the functions' contracts and the plain laws.
-/
import Derived.Test.YtpemjdkcabefnabDoorKg16
import Derived.ProofKit
import Derived.Lib.Builder

set_option linter.unusedSimpArgs false
set_option linter.unusedVariables false
set_option linter.unusedSectionVars false
set_option linter.defProp false

namespace Go.Lg
open Go.RowKit Go.Lib Go.Proofs
abbrev TB : TypeId := 55
abbrev BLies (T : TypeId) : Prop := liesAt Tryd.prog Tryd.prog.depth T (2 / Tryd.prog.cellsOf T) 0 TB 1 = true
section
set_option maxHeartbeats 1000000
set_option maxRecDepth 100000
theorem ccheck_used (b : Nat) (w : World) (h0 : w.cell? ⟨b, 0, none⟩ = some (.pointer (some ⟨b, 0, none⟩))) :
    Calls Tryd.prog 43 #[.pointer (some ⟨b, 0, none⟩)] w fun e w' => e = .returned (.tuple #[]) ∧ w' = w := by
  obtain ⟨d, j, hd, hj, _⟩ := tinfo_of (@ti55)
  go_enter Tryd.func43, Tryd.ntmps43
  go_wp2
  rw [Lib.run_neq_ptr_same w _ Tryd.underlying52 hj]
  go_wp2
  go_end0
  exact ⟨rfl, rfl⟩
theorem ccheck_fresh (T : TypeId) (hT : BLies T) (b : Nat) (w : World) (h0 : w.cell? ⟨b, 0, none⟩ = some (.pointer none)) (hsh : w.shape? b = some (T, 2)) (hfz : w.frozen? ⟨b, 0, none⟩ = false) :
    Calls Tryd.prog 43 #[.pointer (some ⟨b, 0, none⟩)] w fun e w' => e = .returned (.tuple #[]) ∧ w' = w.setCell ⟨b, 0, none⟩ (.pointer (some ⟨b, 0, none⟩)) := by
  obtain ⟨d, j, hd, hj, hjs⟩ := tinfo_of (@ti55)
  have hjs' : j.size ≠ 0 := by have := congrArg TI.size hjs; simp at this; omega
  go_enter Tryd.func43, Tryd.ntmps43
  go_wp2
  rw [Lib.run_to_unsafe w ⟨b, 0, none⟩ Tryd.underlying52 Tryd.underlying98 hj hjs' hsh (Nat.zero_lt_succ 1)]
  simp only [Result.andThen]
  rw [Oper.upon_value]
  go_wp2
  rw [run_callFunc_extern Tryd.func56 (by kernel_rfl) (by kernel_rfl) (by kernel_rfl) (e := Extern.AbiNoEscape.same) (by kernel_rfl)]
  rw [Lib.run_noEscape]
  simp only [Result.andThen]
  rw [Oper.upon_value]
  go_wp2
  rw [Lib.run_from_unsafe w ⟨b, 0, none⟩ Tryd.underlying98 Tryd.underlying52 hj hsh hT]
  simp only [Result.andThen]
  rw [Oper.upon_value]
  go_wp2
  go_end0
  exact ⟨rfl, rfl⟩
structure BFr (w w' : World) (b : Nat) (row : Option Nat) : Prop where
  os : w'.os = w.os
  tape : w'.tape = w.tape
  output : w'.output = w.output
  size : w.heap.size ≤ w'.heap.size
  block : ∀ k, k < w.heap.size → k ≠ b → some k ≠ row → w'.heap[k]? = w.heap[k]?
  csize : ∀ k n, csize w k = some n → Lg.csize w' k = some n
theorem cell_at {w : World} {b : Nat} {cs : Array Value} {t : TypeId} {z : Nat × Nat} (h : w.heap[b]? = some (.cells cs t z)) (j : Nat) : w.cell? ⟨b, j, none⟩ = cs[j]? := by simp [World.cell?, h]
theorem setCell_heap {w : World} {b : Nat} {cs : Array Value} {t : TypeId} (h : w.heap[b]? = some (.cells cs t (0, 0))) (j : Nat) (v : Value) : (w.setCell ⟨b, j, none⟩ v).heap[b]? = some (.cells (cs.setIfInBounds j v) t (0, 0)) := by
  simp [World.setCell, Array.getElem?_modify, h]
theorem setCell_other {w : World} {b : Nat} (j : Nat) (v : Value) {k : Nat} (hk : k ≠ b) : (w.setCell ⟨b, j, none⟩ v).heap[k]? = w.heap[k]? := by
  simp [World.setCell, Array.getElem?_modify, Ne.symm hk]
theorem setCell_size {w : World} (a : Addr) (v : Value) : (w.setCell a v).heap.size = w.heap.size := by simp [World.setCell]
theorem BFr.setCell {w w' : World} {b : Nat} {row : Option Nat} (h : BFr w w' b row) {cs : Array Value} {t : TypeId} (hb : w'.heap[b]? = some (.cells cs t (0, 0))) (j : Nat) (v : Value) : BFr w (w'.setCell ⟨b, j, none⟩ v) b row := by
  refine ⟨h.os, h.tape, h.output, by rw [setCell_size]; exact h.size, fun k hk hkb hkr => by rw [setCell_other _ _ hkb]; exact h.block k hk hkb hkr, fun k n hn => ?_⟩
  have := h.csize k n hn
  by_cases e : k = b
  · subst e
    simp only [Lg.csize, hb, setCell_heap hb] at this ⊢
    simpa using this
  · unfold Lg.csize at *; rw [setCell_other _ _ e]; exact this
theorem BFr.refl (w : World) (b : Nat) (row : Option Nat) : BFr w w b row := ⟨rfl, rfl, rfl, Nat.le_refl _, fun _ _ _ _ => rfl, fun _ _ h => h⟩
theorem ccheck (T : TypeId) (hT : BLies T) (b : Nat) (w : World) {p v : Value} (hb : w.heap[b]? = some (.cells #[p, v] T (0, 0))) (hp : p = .pointer none ∨ p = .pointer (some ⟨b, 0, none⟩)) (row : Option Nat) :
    Calls Tryd.prog 43 #[.pointer (some ⟨b, 0, none⟩)] w fun e w' => e = .returned (.tuple #[]) ∧ w'.heap[b]? = some (.cells #[.pointer (some ⟨b, 0, none⟩), v] T (0, 0)) ∧ BFr w w' b row ∧ w'.heap.size = w.heap.size ∧ ∀ k, k ≠ b → w'.heap[k]? = w.heap[k]? := by
  rcases hp with rfl | rfl
  · refine (ccheck_fresh T hT b w (by rw [cell_at hb]; rfl) (by simp [World.shape?, hb]) (by simp [World.frozen?, hb])).mono ?_
    rintro e w' ⟨rfl, rfl⟩
    exact ⟨rfl, by rw [setCell_heap hb]; rfl, (BFr.refl w b row).setCell hb _ _, setCell_size _ _, fun k hk => setCell_other _ _ hk⟩
  · refine (ccheck_used b w (by rw [cell_at hb]; rfl)).mono ?_
    rintro e w' ⟨rfl, rfl⟩
    exact ⟨rfl, hb, BFr.refl w' b row, rfl, fun _ _ => rfl⟩
theorem info_byte : ∃ i : TypeInfo, Tryd.prog.info? GB = some i ∧ i.zero = some (.int .u8 0) ∧ i.size = 1 ∧ i.bytes = 1 := info_parts (by kernel_rfl)
theorem wstr_calls (T : TypeId) (hT : BLies T) (b : Nat) (w : World) {p v : Value} (hb : w.heap[b]? = some (.cells #[p, v] T (0, 0))) (hp : p = .pointer none ∨ p = .pointer (some ⟨b, 0, none⟩)) {n : Nat} {xs : List Value} (hown : w.ownsRow 0 GB 1 v n xs) (hne : v.ownBlock ≠ some b)
    (s : ByteArray) (hn : n + s.size ≤ 140737488355328) :
    Calls Tryd.prog 15 #[.pointer (some ⟨b, 0, none⟩), .string s] w fun e w' => e = .returned (.tuple #[.int .i64 s.size, .nilIface]) ∧ ∃ v', w'.heap[b]? = some (.cells #[.pointer (some ⟨b, 0, none⟩), v'] T (0, 0)) ∧
      w'.ownsRow 0 GB 1 v' (n + s.size) (xs ++ strCells s) ∧ v'.ownBlock ≠ some b ∧ BFr w w' b v.ownBlock ∧ (v'.ownBlock = v.ownBlock ∨ v'.ownBlock = some w.heap.size) := by
  obtain ⟨i0, hi, hz, h1, h2⟩ := info_byte
  have hbw : b < w.heap.size := (Array.getElem?_eq_some_iff.1 hb).1
  go_enter Tryd.func15, Tryd.ntmps15
  go_wp2_with (go_at_call 43; refine (ccheck T hT b _ hb hp v.ownBlock).mono ?_)
  rintro e w1 ⟨rfl, hb1, hf1, hs1, ho1⟩
  have c0 : w1.cell? ⟨b, 0, none⟩ = some (.pointer (some ⟨b, 0, none⟩)) := by rw [cell_at hb1]; rfl
  have c1 : w1.cell? ⟨b, 1, none⟩ = some v := by rw [cell_at hb1]; rfl
  have hown1 : w1.ownsRow 0 GB 1 v n xs := by
    refine ⟨hown.1, ?_⟩
    rcases hown.2 with q | ⟨g, cap, cur, rfl, q1, q2, q3⟩
    · exact .inl q
    · exact .inr ⟨g, cap, cur, rfl, q1, by rw [ho1 g (fun e => hne (by simp [Value.ownBlock, e]))]; exact q2, q3⟩
  have hsl : Tryd.prog.underlying 53 = some (.slice GB) := Tryd.underlying53
  go_wp2_with (at_builtin; refine wpList_bytes_append (t := 53) (u := 9) rfl _ _ rfl hsl Tryd.underlying9 hi hz h1 h2 v n xs rfl hown1 s rfl hn ?_)
  intro v' w2 hown' hgrow hfresh hcz
  have hb2 : w2.heap[b]? = some (.cells #[.pointer (some ⟨b, 0, none⟩), v] T (0, 0)) := by
    rw [hgrow.block b (by omega) (fun e => hne e.symm)]
    exact hb1
  have d0 : w2.cell? ⟨b, 0, none⟩ = some (.pointer (some ⟨b, 0, none⟩)) := by rw [cell_at hb2]; rfl
  have d1 : w2.cell? ⟨b, 1, none⟩ = some v := by rw [cell_at hb2]; rfl
  have f1 : w2.frozen? ⟨b, 1, none⟩ = false := by simp [World.frozen?, hb2]
  have hnb' : v'.ownBlock ≠ some b := by
    rcases hfresh with q | q
    · rw [q]; exact hne
    · rw [q]; intro e; injection e with e; omega
  obtain ⟨ao, n', cap, rfl⟩ : ∃ ao n' cap, v' = .slice ao n' cap := by
    rcases hown'.2 with ⟨hv, _⟩ | ⟨g, cap, cur, hv, _⟩
    · exact ⟨_, _, _, hv⟩
    · exact ⟨_, _, _, hv⟩
  go_wp2
  go_ret2
  have hfr2 : BFr w w2 b v.ownBlock := ⟨hgrow.os.trans hf1.os, hgrow.tape.trans hf1.tape, hgrow.output.trans hf1.output, Nat.le_trans hf1.size hgrow.size, fun k hk hkb hkr => (hgrow.block k (by omega) hkr).trans (ho1 k hkb), fun k m hm => hcz k m (hf1.csize k m hm)⟩
  refine ⟨rfl, _, by rw [setCell_heap hb2]; rfl, ?_, hnb', hfr2.setCell hb2 _ _, hfresh⟩
  refine ⟨hown'.1, ?_⟩
  rcases hown'.2 with q | ⟨g, cap', cur, hv, q1, q2, q3⟩
  · exact .inl q
  · exact .inr ⟨g, cap', cur, hv, q1, by rw [setCell_other _ _ (fun e => hnb' (by rw [hv, ← e]; rfl))]; exact q2, q3⟩
end
end Go.Lg
