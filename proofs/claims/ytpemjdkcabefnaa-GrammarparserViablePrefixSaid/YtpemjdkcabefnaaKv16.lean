/-
  Part 16 of the proof of GrammarparserViablePrefix: the logic over the model, the functions' contracts and the plain laws.
-/
import Derived.Test.YtpemjdkcabefnaaKv15

set_option linter.unusedSimpArgs false
set_option linter.unusedVariables false
set_option linter.unusedSectionVars false

namespace Go.Lg
open Go.Proofs
set_option linter.unusedSimpArgs false
set_option linter.unusedVariables false
attribute [local irreducible] Ap Rq asemC WP RunD Ret Gq thenA inBlockA bodyQ noGotoA RqL RqP OpP
set_option maxHeartbeats 8000000
set_option maxRecDepth 20000
theorem lexL_len (n : Nat) : ∀ (l : Tx) (k : Nat), l.length ≤ n → (lexL l k).length ≤ l.length := by
  induction n with
  | zero =>
    intro l k hl
    obtain rfl : l = [] := List.eq_nil_of_length_eq_zero (by omega)
    rw [lexL_nil]; exact Nat.le_refl _
  | succ n ih =>
    intro l k hl
    cases l with
    | nil => rw [lexL_nil]; exact Nat.le_refl _
    | cons c r =>
      simp only [List.length_cons] at hl ⊢
      rw [lexL_cons]
      split
      · have := ih r (k + 1) (by omega); omega
      · split
        · have := ih (r.drop (comN r)) (k + 1 + comN r) (by rw [List.length_drop]; omega)
          rw [List.length_drop] at this; omega
        · have htp := tokN_pos c r
          have := ih ((c :: r).drop (tokN (c :: r))) (k + tokN (c :: r)) (by rw [List.length_drop]; simp only [List.length_cons]; omega)
          rw [List.length_drop] at this
          simp only [List.length_cons] at this ⊢
          omega
theorem lexT_sm (s : ByteArray) : Sm s.size (lexT (bl s)) := by
  intro t ht
  obtain ⟨p, hp, rfl⟩ := List.mem_map.1 ht
  have := (lexL_num _ (bl s) 0 (Nat.le_refl _) p hp).1
  rwa [bl_len] at this
theorem file_bounds (s : ByteArray) (hs : s.size ≤ 100000) (f : GFi) (q : List Tx) (h : pFile (lexT (bl s)) = .ok f q) : (toks f f.levels.length).length ≤ 1000000 ∧ f.fit := by
  have h1 := pFile_fit (N := s.size) (by omega) (lexT_sm s) h
  have h2 : (lexT (bl s)).length ≤ (bl s).length := by
    unfold lexT
    rw [List.length_map]
    exact lexL_len _ _ _ (Nat.le_refl _)
  rw [bl_len] at h2
  exact ⟨by omega, h1.1⟩
theorem parseP_fn (s : ByteArray) (hs : s.size ≤ 100000) : Fn Try.prog 9 [strA s] (parseA (parseR s)) :=
  parse_fn s hs (by have := lexL_len _ (bl s) 0 (Nat.le_refl _); rw [bl_len] at this; omega) (by have := lexL_numW s 0; rwa [List.drop_zero] at this) fun f q h => (file_bounds s hs f q h).1
theorem pr1 : parseR s1 = (f1, 0, 0) := by unfold parseR; rw [file1]; simp only [valid1, if_true]
theorem pr2 : parseR s2 = (noF, 7, 3) := by
  unfold parseR; rw [file2]
  simp only [cut, List.length_nil, Nat.sub_zero, List.drop_length, pos]
  rfl
theorem pr3 : parseR s3 = (noF, 14, 3) := by
  unfold parseR; rw [file3]
  simp only
  rw [lex3L]
  rfl
theorem awake17_fn : Fn Try.prog 8 [] (boolA true) := by
  have h1 := parseP_fn s1 (by decide)
  have h2 := parseP_fn s2 (by decide)
  have h3 := parseP_fn s3 (by decide)
  rw [pr1] at h1
  rw [pr2] at h2
  rw [pr3] at h3
  simp only [parseA] at h1 h2 h3
  refine Fn.intro (by rfl) (by kernel_rfl) Try.func8 rfl rfl Try.ntmps8 (by exact Nat.le_of_ble_eq_true rfl) ?_; intro Γ hm
  (repeat' (first | refine WP.seq ?_ | refine go_n ?_ | refine WP.skip ?_ | refine WP.ret ?_ | refine go_r ?_ | refine bo_r ?_ | (refine wp_cond (by rfl) (fun hc => ?_) (fun hc => ?_) <;> (try simp only [sB, ne_eq, reduceCtorEq] at hc) <;> (try (exfalso; omega))) | (refine WP.regionC (id := 0) ?_; (refine su (ap_assign (by exact rq_p rfl rfl)) ?_); refine asemC_end ?_) | (refine WP.regionC (id := 1) ?_; (refine sc_p rfl rfl (by first | ((repeat' first | exact SubL.nil | refine SubL.cons ?_ ?_ | exact Sub.refl); done) | fail) (by first | (simp [bdL, bdL_append, AV.bd]; done) | fail) (h1) ?_); (refine su (ap_move (by exact rq_p rfl rfl)) ?_); (refine su (ap_extract (by exact rq_p rfl rfl) (by rfl)) ?_); (refine su (ap_extract (by exact rq_p rfl rfl) (by rfl)) ?_); (refine su (ap_extract (by exact rq_p rfl rfl) (by rfl)) ?_); (refine se_alloc (by rfl) ?_); (refine se_store_b (by rfl) (by rfl) (by rfl) (by rfl) ?_); (refine su (ap_assign (by exact rq_p rfl rfl)) ?_); (refine su (ap_assign (by exact rq_p rfl rfl)) ?_); refine asemC_end ?_) | (refine WP.regionC (id := 2) ?_; (refine sc_p rfl rfl (by first | ((repeat' first | exact SubL.nil | refine SubL.cons ?_ ?_ | exact Sub.refl); done) | fail) (by first | (simp [bdL, bdL_append, AV.bd]; done) | fail) (h2) ?_); (refine su (ap_move (by exact rq_p rfl rfl)) ?_); (refine su (ap_extract (by exact rq_p rfl rfl) (by rfl)) ?_); (refine su (ap_extract (by exact rq_p rfl rfl) (by rfl)) ?_); (refine su (ap_extract (by exact rq_p rfl rfl) (by rfl)) ?_); (refine se_alloc (by rfl) ?_); (refine se_store_b (by rfl) (by rfl) (by rfl) (by rfl) ?_); (refine su (ap_assign (by exact rq_p rfl rfl)) ?_); (refine su (ap_assign (by exact rq_p rfl rfl)) ?_); refine asemC_end ?_) | (refine WP.regionC (id := 3) ?_; (refine sc_p rfl rfl (by first | ((repeat' first | exact SubL.nil | refine SubL.cons ?_ ?_ | exact Sub.refl); done) | fail) (by first | (simp [bdL, bdL_append, AV.bd]; done) | fail) (h3) ?_); (refine su (ap_move (by exact rq_p rfl rfl)) ?_); (refine su (ap_extract (by exact rq_p rfl rfl) (by rfl)) ?_); (refine su (ap_extract (by exact rq_p rfl rfl) (by rfl)) ?_); (refine su (ap_extract (by exact rq_p rfl rfl) (by rfl)) ?_); (refine se_alloc (by rfl) ?_); (refine se_store_b (by rfl) (by rfl) (by rfl) (by rfl) ?_); (refine su (ap_assign (by exact rq_p rfl rfl)) ?_); (refine su (ap_assign (by exact rq_p rfl rfl)) ?_); refine asemC_end ?_) | (refine WP.regionC (id := 4) ?_; (refine su (ap_move (by exact rq_p rfl rfl)) ?_); (refine su (ap_neq (by exact rq_p rfl rfl) (by exact rq_p rfl rfl)) ?_); (refine su (ap_move (by exact rq_p rfl rfl)) ?_); (refine sg (by exact gq_vf rfl rfl) (fun he => ap_field_p (by exact rq_p rfl rfl) (by rfl) (by rfl)) ?_); (refine sg (by exact gq_vf rfl rfl) (fun he => ap_load_p (by exact rq_c rfl rfl) (by rfl) (by rfl) (by rfl)) ?_); (refine sg (by exact gq_vf rfl rfl) (fun he => ap_len_m (by rfl) (by exact rq_c rfl rfl)) ?_); (refine sg (by exact gq_vf rfl rfl) (fun he => ap_neq (by exact rq_c rfl rfl) (by exact rq_p rfl rfl)) ?_); (refine su (ap_or (by exact rq_p rfl rfl) (by exact rq_c rfl rfl)) ?_); (refine su (ap_move (by exact rq_p rfl rfl)) ?_); (refine sg (by exact gq_vf rfl rfl) (fun he => ap_field_p (by exact rq_p rfl rfl) (by rfl) (by rfl)) ?_); (refine sg (by exact gq_vf rfl rfl) (fun he => ap_load_p (by exact rq_c rfl rfl) (by rfl) (by rfl) (by rfl)) ?_); (refine sg (by exact gq_vf rfl rfl) (fun he => ap_len_m (by rfl) (by exact rq_c rfl rfl)) ?_); (refine sg (by exact gq_vf rfl rfl) (fun he => ap_neq (by exact rq_c rfl rfl) (by exact rq_p rfl rfl)) ?_); (refine su (ap_or (by exact rq_p rfl rfl) (by exact rq_c rfl rfl)) ?_); (refine su (ap_move (by exact rq_p rfl rfl)) ?_); (refine sg (by exact gq_vf rfl rfl) (fun he => ap_field_p (by exact rq_p rfl rfl) (by rfl) (by rfl)) ?_); (refine sg (by exact gq_vf rfl rfl) (fun he => ap_load_p (by exact rq_c rfl rfl) (by rfl) (by rfl) (by rfl)) ?_); (refine sg (by exact gq_vf rfl rfl) (fun he => ap_idx_n (by exact rq_c rfl rfl) (by exact rq_p rfl rfl) (by (try simp only [sH, id, sB, ne_eq, reduceCtorEq] at he); (simp only [sL] <;> omega))) ?_); (refine sg (by exact gq_vf rfl rfl) (fun he => ap_field_i (by exact rq_c rfl rfl) (by rfl) (by rfl)) ?_); (refine sg (by exact gq_vf rfl rfl) (fun he => ap_load_i (by exact rq_c rfl rfl) (by rfl)) ?_); (refine sg (by exact gq_vf rfl rfl) (fun he => ap_len_m (by rfl) (by exact rq_c rfl rfl)) ?_); (refine sg (by exact gq_vf rfl rfl) (fun he => ap_neq (by exact rq_c rfl rfl) (by exact rq_p rfl rfl)) ?_); (refine su (ap_or (by exact rq_p rfl rfl) (by exact rq_c rfl rfl)) ?_); refine asemC_end ?_) | (refine WP.regionC (id := 5) ?_; (refine su (ap_assign (by exact rq_p rfl rfl)) ?_); refine asemC_end ?_) | (refine WP.regionC (id := 6) ?_; (refine su (ap_field_p (by exact rq_p rfl rfl) (by rfl) (by rfl)) ?_); (refine su (ap_load_p (by exact rq_p rfl rfl) (by rfl) (by rfl) (by rfl)) ?_); (refine su (ap_idx_n (by exact rq_p rfl rfl) (by exact rq_p rfl rfl) (by (simp only [sL] <;> omega))) ?_); (refine su (ap_field_i (by exact rq_p rfl rfl) (by rfl) (by rfl)) ?_); (refine su (ap_load_i (by exact rq_p rfl rfl) (by rfl)) ?_); (refine su (ap_idx_n (by exact rq_p rfl rfl) (by exact rq_p rfl rfl) (by (simp only [sL] <;> omega))) ?_); (refine su (ap_field_i (by exact rq_p rfl rfl) (by rfl) (by rfl)) ?_); (refine su (ap_load_i (by exact rq_p rfl rfl) (by rfl)) ?_); (refine su (ap_eql (by exact rq_p rfl rfl) (by exact rq_p rfl rfl)) ?_); (refine su (ap_move (by exact rq_p rfl rfl)) ?_); (refine sg (by exact gq_vt rfl rfl) (fun he => ap_field_p (by exact rq_p rfl rfl) (by rfl) (by rfl)) ?_); (refine sg (by exact gq_vt rfl rfl) (fun he => ap_load_p (by exact rq_c rfl rfl) (by rfl) (by rfl) (by rfl)) ?_); (refine sg (by exact gq_vt rfl rfl) (fun he => ap_idx_n (by exact rq_c rfl rfl) (by exact rq_p rfl rfl) (by (try simp only [sH, id, sB, ne_eq, reduceCtorEq] at he); (simp only [sL] <;> omega))) ?_); (refine sg (by exact gq_vt rfl rfl) (fun he => ap_field_i (by exact rq_c rfl rfl) (by rfl) (by rfl)) ?_); (refine sg (by exact gq_vt rfl rfl) (fun he => ap_load_i (by exact rq_c rfl rfl) (by rfl)) ?_); (refine sg (by exact gq_vt rfl rfl) (fun he => ap_idx_n (by exact rq_c rfl rfl) (by exact rq_p rfl rfl) (by (try simp only [sH, id, sB, ne_eq, reduceCtorEq] at he); (simp only [sL] <;> omega))) ?_); (refine sg (by exact gq_vt rfl rfl) (fun he => ap_field_i (by exact rq_c rfl rfl) (by rfl) (by rfl)) ?_); (refine sg (by exact gq_vt rfl rfl) (fun he => ap_field_i (by exact rq_c rfl rfl) (by rfl) (by rfl)) ?_); (refine sg (by exact gq_vt rfl rfl) (fun he => ap_load_i (by exact rq_c rfl rfl) (by rfl)) ?_); (refine sg (by exact gq_vt rfl rfl) (fun he => ap_eqs (by exact rq_c rfl rfl) (by exact rq_p rfl rfl)) ?_); (refine su (ap_and (by exact rq_p rfl rfl) (by exact rq_c rfl rfl)) ?_); (refine su (ap_move (by exact rq_p rfl rfl)) ?_); (refine sg (by exact gq_vt rfl rfl) (fun he => ap_move (by exact rq_p rfl rfl)) ?_); (refine sg (by exact gq_vt rfl rfl) (fun he => ap_eql (by exact rq_c rfl rfl) (by exact rq_p rfl rfl)) ?_); (refine su (ap_and (by exact rq_p rfl rfl) (by exact rq_c rfl rfl)) ?_); (refine su (ap_move (by exact rq_p rfl rfl)) ?_); (refine sg (by exact gq_vt rfl rfl) (fun he => ap_move (by exact rq_p rfl rfl)) ?_); (refine sg (by exact gq_vt rfl rfl) (fun he => ap_eql (by exact rq_c rfl rfl) (by exact rq_p rfl rfl)) ?_); (refine su (ap_and (by exact rq_p rfl rfl) (by exact rq_c rfl rfl)) ?_); (refine su (ap_move (by exact rq_p rfl rfl)) ?_); (refine sg (by exact gq_vt rfl rfl) (fun he => ap_move (by exact rq_p rfl rfl)) ?_); (refine sg (by exact gq_vt rfl rfl) (fun he => ap_eql (by exact rq_c rfl rfl) (by exact rq_p rfl rfl)) ?_); (refine su (ap_and (by exact rq_p rfl rfl) (by exact rq_c rfl rfl)) ?_); (refine su (ap_move (by exact rq_p rfl rfl)) ?_); (refine sg (by exact gq_vt rfl rfl) (fun he => ap_move (by exact rq_p rfl rfl)) ?_); (refine sg (by exact gq_vt rfl rfl) (fun he => ap_eql (by exact rq_c rfl rfl) (by exact rq_p rfl rfl)) ?_); (refine su (ap_and (by exact rq_p rfl rfl) (by exact rq_c rfl rfl)) ?_); (refine su (ap_assign (by exact rq_p rfl rfl)) ?_); refine asemC_end ?_) | exact ret_eq (by rfl) (by rfl) rfl | refine ret_b (by rfl) ?_))
  exfalso
  revert hc
  decide
end Go.Lg

namespace Go.Lg
open Go.Proofs
set_option linter.unusedSimpArgs false
set_option linter.unusedVariables false
attribute [local irreducible] Ap Rq asemC WP RunD Ret Gq thenA inBlockA bodyQ noGotoA RqL RqP OpP
set_option maxHeartbeats 4000000
end Go.Lg

namespace Go.Lg
open Go.Proofs
set_option linter.unusedSimpArgs false
set_option linter.unusedVariables false
attribute [local irreducible] Ap Rq asemC WP RunD Ret Gq thenA inBlockA bodyQ noGotoA RqL RqP OpP
set_option maxHeartbeats 8000000
set_option maxRecDepth 20000
attribute [local simp] AV.cells altA
end Go.Lg

namespace Go.Lg
open Go.Proofs
set_option linter.unusedSimpArgs false
set_option linter.unusedVariables false
attribute [local irreducible] Ap Rq asemC WP RunD Ret Gq thenA inBlockA bodyQ noGotoA RqL RqP OpP
set_option maxHeartbeats 8000000
set_option maxRecDepth 20000
end Go.Lg

namespace Go.Lg
set_option linter.unusedVariables false
def PR.app {α : Type} (x : List Tx) : PR α → PR α
  | .ok a r => .ok a (r ++ x)
  | .err r => .err (r ++ x)
theorem sufT_app (y : List Tx) : ∀ (x : GEx) (l : List Tx), (sufT x l).2 ≠ [] → sufT x (l ++ y) = ((sufT x l).1, (sufT x l).2 ++ y)
  | x, [], h => by rw [sufT] at h; exact absurd rfl h
  | x, t :: r, h => by
    rw [sufT] at h
    rw [List.cons_append, sufT, sufT]
    split at h
    · rename_i e; rw [if_pos e, if_pos e]; exact sufT_app y _ r h
    · rename_i e
      rw [if_neg e, if_neg e]
      split at h
      · rename_i e2; rw [if_pos e2, if_pos e2]; exact sufT_app y _ r h
      · rename_i e2
        rw [if_neg e2, if_neg e2]
        split at h
        · rename_i e3; rw [if_pos e3, if_pos e3]; exact sufT_app y _ r h
        · rename_i e3; rw [if_neg e3, if_neg e3]; rfl
theorem ne_of_suf {a b : List Tx} (h : a <:+ b) (ha : a ≠ []) : b ≠ [] := fun e => ha (by rw [e] at h; exact List.suffix_nil.1 h)
theorem par_app (y : List Tx) (n : Nat) : ∀ l : List Tx, l.length ≤ n → ((pPrim l).rest ≠ [] → pPrim (l ++ y) = (pPrim l).app y) ∧ ((pItems l).rest ≠ [] → pItems (l ++ y) = (pItems l).app y) ∧ ((pAlts l).rest ≠ [] → pAlts (l ++ y) = (pAlts l).app y) := by
  induction n with
  | zero =>
    intro l hl
    obtain rfl : l = [] := List.eq_nil_of_length_eq_zero (by omega)
    exact ⟨fun h => absurd (List.suffix_nil.1 (pPrim_suf [])) h, fun h => absurd (List.suffix_nil.1 (pItems_suf [])) h, fun h => absurd (List.suffix_nil.1 (pAlts_suf [])) h⟩
  | succ n ih =>
    intro l hl
    have hp : (pPrim l).rest ≠ [] → pPrim (l ++ y) = (pPrim l).app y := by
      intro h
      cases l with
      | nil => exact absurd (List.suffix_nil.1 (pPrim_suf [])) h
      | cons t r =>
        rw [List.cons_append]
        by_cases hn : nmT t = true
        · rw [pPrim, if_pos hn, pPrim, if_pos hn]; rfl
        · by_cases h4 : t = [40]
          · subst h4
            rw [pPrim, if_neg hn, if_pos rfl] at h
            rw [pPrim, if_neg hn, if_pos rfl, pPrim, if_neg hn, if_pos rfl]
            have ha := (ih r (by simp at hl; omega)).2.2
            cases h1 : pAlts r with
            | err q =>
              rw [h1] at h ha
              have := ha h
              rw [this]
              rfl
            | ok es q =>
              rw [h1] at h ha
              cases q with
              | nil => exact absurd rfl h
              | cons t' q' =>
                have := ha (by simp [PR.rest])
                rw [this]
                simp only [PR.app, List.cons_append]
                split <;> rfl
          · rw [pPrim, if_neg hn, if_neg h4, pPrim, if_neg hn, if_neg h4]; rfl
    have hi : (pItems l).rest ≠ [] → pItems (l ++ y) = (pItems l).app y := by
      intro h
      cases l with
      | nil => exact absurd (List.suffix_nil.1 (pItems_suf [])) h
      | cons t r =>
        have hc : (isN ((t :: r) ++ y) || decide (hd ((t :: r) ++ y) = [40])) = (isN (t :: r) || decide (hd (t :: r) = [40])) := rfl
        rw [pItems_eq] at h
        rw [pItems_eq, hc, pItems_eq (t :: r)]
        by_cases hg : (isN (t :: r) || decide (hd (t :: r) = [40])) = true
        · rw [if_pos hg] at h ⊢
          rw [if_pos hg]
          cases h1 : pPrim (t :: r) with
          | err q =>
            rw [h1] at h
            have := hp (by rw [h1]; exact h)
            rw [this, h1]
            rfl
          | ok x0 r0 =>
            rw [h1] at h
            simp only at h
            have hlt := pPrim_lt h1
            have hsl := sufT_len x0 r0
            have hne : (sufT x0 r0).2 ≠ [] := by
              intro e
              rw [e] at h
              have : pItems [] = .ok [] [] := by rw [pItems_eq]; rfl
              rw [this] at h
              exact h rfl
            have hne0 : r0 ≠ [] := ne_of_suf (sufT_suf x0 r0) hne
            have := hp (by rw [h1]; exact hne0)
            rw [this, h1]
            simp only [PR.app]
            rw [sufT_app y x0 r0 hne]
            simp only
            have h2 := (ih (sufT x0 r0).2 (by omega)).2.1
            cases h3 : pItems (sufT x0 r0).2 with
            | err q => rw [h3] at h h2; rw [h2 h]; rfl
            | ok xs q => rw [h3] at h h2; rw [h2 h]; rfl
        · rw [if_neg hg, if_neg hg]; rfl
    refine ⟨hp, hi, fun h => ?_⟩
    rw [pAlts_eq] at h
    rw [pAlts_eq, pAlts_eq l]
    cases h1 : pItems l with
    | err q =>
      rw [h1] at h
      have := hi (by rw [h1]; exact h)
      rw [this, h1]
      rfl
    | ok xs q =>
      rw [h1] at h
      cases q with
      | nil => exact absurd rfl h
      | cons t q =>
        have := hi (by rw [h1]; simp [PR.rest])
        rw [this, h1]
        simp only [PR.app, List.cons_append]
        simp only [finA] at h ⊢
        have hle := (pItems_suf l).length_le
        rw [h1] at hle
        simp only [PR.rest, List.length_cons] at hle
        by_cases ht : t = [124]
        · rw [if_pos ht] at h ⊢
          rw [if_pos ht]
          have h2 := (ih q (by omega)).2.2
          cases h3 : pAlts q with
          | err q' => rw [h3] at h h2; rw [h2 h]; rfl
          | ok es q' => rw [h3] at h h2; rw [h2 h]; rfl
        · rw [if_neg ht, if_neg ht]; rfl
theorem pItems_app (y l : List Tx) (h : (pItems l).rest ≠ []) : pItems (l ++ y) = (pItems l).app y := (par_app y _ l (Nat.le_refl _)).2.1 h
theorem pName_app (y l : List Tx) (h : (pName l).rest ≠ []) : pName (l ++ y) = (pName l).app y := by
  cases l with
  | nil => exact absurd rfl h
  | cons t r => simp only [List.cons_append, pName]; split <;> rfl
theorem pTake_app (c : Tx) (y l : List Tx) (h : (pTake c l).rest ≠ []) : pTake c (l ++ y) = (pTake c l).app y := by
  cases l with
  | nil => exact absurd rfl h
  | cons t r => simp only [List.cons_append, pTake]; split <;> rfl
theorem pName_app' (y l : List Tx) (h : l ≠ []) : pName (l ++ y) = (pName l).app y := by
  cases l with
  | nil => exact absurd rfl h
  | cons t r => simp only [List.cons_append, pName]; split <;> rfl
theorem pTake_app' (c : Tx) (y l : List Tx) (h : l ≠ []) : pTake c (l ++ y) = (pTake c l).app y := by
  cases l with
  | nil => exact absurd rfl h
  | cons t r => simp only [List.cons_append, pTake]; split <;> rfl
theorem pNames_app (y : List Tx) : ∀ l : List Tx, (pNames l).2 ≠ [] → pNames (l ++ y) = ((pNames l).1, (pNames l).2 ++ y)
  | [], h => absurd rfl h
  | t :: r, h => by
    rw [pNames] at h
    rw [List.cons_append, pNames, pNames]
    split at h
    · rename_i e; rw [if_pos e, if_pos e, pNames_app y r h]
    · rename_i e; rw [if_neg e, if_neg e]; rfl
theorem pPrice_app (y l : List Tx) (h : (pPrice l).rest ≠ []) : pPrice (l ++ y) = (pPrice l).app y := by
  cases l with
  | nil => exact absurd rfl h
  | cons t r =>
    simp only [List.cons_append]
    unfold pPrice at h ⊢
    simp only at h ⊢
    by_cases e : t = bl kw4
    · rw [if_pos e] at h ⊢
      rw [if_pos e]
      cases r with
      | nil => exact absurd rfl h
      | cons t2 r2 => simp only [List.cons_append]; split <;> rfl
    · rw [if_neg e, if_neg e]; rfl
theorem pAlt_app (y l : List Tx) (h : (pAlt l).rest ≠ []) : pAlt (l ++ y) = (pAlt l).app y := by
  unfold pAlt at h ⊢
  cases h1 : pItems l with
  | err q =>
    rw [h1] at h
    rw [pItems_app y l (by rw [h1]; exact h), h1]; rfl
  | ok xs r =>
    rw [h1] at h
    simp only at h
    have hs := pPrice_suf r
    have hne : r ≠ [] := by
      intro e
      rw [e] at h hs
      cases h2 : pPrice ([] : List Tx) with
      | err q => rw [h2] at h hs; exact h (List.suffix_nil.1 hs)
      | ok p q => rw [h2] at h hs; exact h (List.suffix_nil.1 hs)
    rw [pItems_app y l (by rw [h1]; exact hne), h1]
    simp only [PR.app]
    cases h2 : pPrice r with
    | err q => rw [h2] at h; rw [pPrice_app y r (by rw [h2]; exact h), h2]; rfl
    | ok p q => rw [h2] at h; rw [pPrice_app y r (by rw [h2]; exact h), h2]; rfl
theorem pLevel_app (a : Int) (y l : List Tx) (h : (pLevel a l).rest ≠ []) : pLevel a (l ++ y) = (pLevel a l).app y := by
  unfold pLevel at h ⊢
  cases h1 : pName l with
  | err q => rw [h1] at h; rw [pName_app y l (by rw [h1]; exact h), h1]; rfl
  | ok n r =>
    rw [h1] at h
    simp only at h
    have hl : l ≠ [] := fun e => by rw [e] at h1; cases h1
    rw [pName_app' y l hl, h1]
    simp only [PR.app]
    have hne : (pNames r).2 ≠ [] := by
      intro e
      rw [e] at h
      exact h rfl
    rw [pNames_app y r hne]
    simp only
    cases h2 : pTake [59] (pNames r).2 with
    | err q => rw [pTake_app' [59] y _ hne, h2]; rfl
    | ok u q => rw [pTake_app' [59] y _ hne, h2]; rfl
theorem pLevels_app (y : List Tx) (n : Nat) : ∀ l : List Tx, l.length ≤ n → (pLevels l).rest ≠ [] → pLevels (l ++ y) = (pLevels l).app y := by
  induction n with
  | zero =>
    intro l hl h
    obtain rfl : l = [] := List.eq_nil_of_length_eq_zero (by omega)
    rw [pLevels_nil] at h; exact absurd rfl h
  | succ n ih =>
    intro l hl h
    cases l with
    | nil => rw [pLevels_nil] at h; exact absurd rfl h
    | cons t r =>
      rw [pLevels_cons] at h
      rw [List.cons_append, pLevels_cons, pLevels_cons]
      cases h0 : assocOf t with
      | none => rfl
      | some a =>
        rw [h0] at h
        simp only at h ⊢
        have hsuf := pLevel_suf a r
        cases h1 : pLevel a r with
        | err q => rw [h1] at h; rw [pLevel_app a y r (by rw [h1]; exact h), h1]; rfl
        | ok x q =>
          rw [h1] at h hsuf
          simp only at h
          have hq : q ≠ [] := by
            intro e
            rw [e, pLevels_nil] at h
            exact h rfl
          rw [pLevel_app a y r (by rw [h1]; exact hq), h1]
          simp only [PR.app]
          have hle := hsuf.length_le
          simp only [PR.rest] at hle
          simp only [List.length_cons] at hl
          have h2 := ih q (by omega)
          cases h3 : pLevels q with
          | err q' => rw [h3] at h h2; rw [h2 h]; rfl
          | ok ls q' => rw [h3] at h h2; rw [h2 h]; rfl
theorem pAltsR_app (y : List Tx) (n : Nat) : ∀ l : List Tx, l.length ≤ n → (pAltsR l).rest ≠ [] → pAltsR (l ++ y) = (pAltsR l).app y := by
  induction n with
  | zero =>
    intro l hl h
    obtain rfl : l = [] := List.eq_nil_of_length_eq_zero (by omega)
    exact absurd (List.suffix_nil.1 (pAltsR_suf _ [] (Nat.le_refl _))) h
  | succ n ih =>
    intro l hl h
    rw [pAltsR_eq] at h
    rw [pAltsR_eq, pAltsR_eq l]
    cases h1 : pAlt l with
    | err q => rw [h1] at h; rw [pAlt_app y l (by rw [h1]; exact h), h1]; rfl
    | ok a q =>
      rw [h1] at h
      cases q with
      | nil => exact absurd rfl h
      | cons t q =>
        rw [pAlt_app y l (by rw [h1]; simp [PR.rest]), h1]
        simp only [PR.app, List.cons_append]
        simp only [finR] at h ⊢
        have hle := (pAlt_suf l).length_le
        rw [h1] at hle
        simp only [PR.rest, List.length_cons] at hle
        by_cases ht : t = [124]
        · rw [if_pos ht] at h ⊢
          rw [if_pos ht]
          have h2 := ih q (by omega)
          cases h3 : pAltsR q with
          | err q' => rw [h3] at h h2; rw [h2 h]; rfl
          | ok es q' => rw [h3] at h h2; rw [h2 h]; rfl
        · rw [if_neg ht, if_neg ht]; rfl
theorem pRule_app (y l : List Tx) (h : (match pRule l with | .ok _ _ => True | .err q => q ≠ [])) : pRule (l ++ y) = (pRule l).app y := by
  unfold pRule at h ⊢
  cases e1 : pName l with
  | err q => rw [e1] at h; rw [pName_app y l (by rw [e1]; exact h), e1]; rfl
  | ok n r0 =>
    rw [e1] at h
    have hl : l ≠ [] := fun e => by rw [e] at e1; cases e1
    rw [pName_app' y l hl, e1]
    simp only [PR.app] at h ⊢
    cases e2 : pTake [61] r0 with
    | err q => rw [e2] at h; rw [pTake_app [61] y r0 (by rw [e2]; exact h), e2]; rfl
    | ok u r1 =>
      rw [e2] at h
      have hr0 : r0 ≠ [] := fun e => by rw [e] at e2; cases e2
      rw [pTake_app' [61] y r0 hr0, e2]
      simp only [PR.app] at h ⊢
      cases e3 : pAltsR r1 with
      | err q => rw [e3] at h; rw [pAltsR_app y _ r1 (Nat.le_refl _) (by rw [e3]; exact h), e3]; rfl
      | ok ys r2 =>
        rw [e3] at h
        simp only at h
        have hr2 : r2 ≠ [] := by
          intro e
          rw [e] at h
          exact h rfl
        rw [pAltsR_app y _ r1 (Nat.le_refl _) (by rw [e3]; exact hr2), e3]
        simp only [PR.app]
        rw [pTake_app' [59] y r2 hr2]
        cases pTake [59] r2 <;> rfl
theorem pRules_app (y : List Tx) (n : Nat) : ∀ (l q : List Tx), l.length ≤ n → pRules l = .err q → q ≠ [] → pRules (l ++ y) = .err (q ++ y) := by
  induction n with
  | zero =>
    intro l q hl h hq
    obtain rfl : l = [] := List.eq_nil_of_length_eq_zero (by omega)
    rw [pRules] at h; cases h
  | succ n ih =>
    intro l q hl h hq
    cases l with
    | nil => rw [pRules] at h; cases h
    | cons t r =>
      rw [← finU_nil, finU_step] at h
      rw [← finU_nil, List.cons_append, finU_step]
      cases h1 : pRule (t :: r) with
      | err q1 =>
        rw [h1] at h
        injection h with e
        subst e
        have := pRule_app y (t :: r) (by rw [h1]; exact hq)
        rw [List.cons_append, h1] at this
        rw [this]; rfl
      | ok x q1 =>
        rw [h1] at h
        have := pRule_app y (t :: r) (by rw [h1]; trivial)
        rw [List.cons_append, h1] at this
        rw [this]
        simp only [PR.app, finU] at h ⊢
        have hlt := pRule_lt h1
        simp only [List.length_cons] at hl hlt
        cases h3 : pRules q1 with
        | err q' =>
          rw [h3] at h
          injection h with e
          subst e
          rw [ih q1 q' (by omega) h3 hq]
        | ok ls q' => rw [h3] at h; cases h
theorem pFile_app (y l q : List Tx) (h : pFile l = .err q) (hq : q ≠ []) : pFile (l ++ y) = .err (q ++ y) := by
  unfold pFile at h ⊢
  cases e0 : pTake (bl kw0) l with
  | err q1 => rw [e0] at h; injection h with e; subst e; rw [pTake_app (bl kw0) y l (by rw [e0]; exact hq), e0]; rfl
  | ok u r =>
    rw [e0] at h
    have hl : l ≠ [] := fun e => by rw [e] at e0; cases e0
    rw [pTake_app' (bl kw0) y l hl, e0]
    simp only [PR.app] at h ⊢
    cases e1 : pName r with
    | err q1 => rw [e1] at h; injection h with e; subst e; rw [pName_app y r (by rw [e1]; exact hq), e1]; rfl
    | ok s r1 =>
      rw [e1] at h
      have hr : r ≠ [] := fun e => by rw [e] at e1; cases e1
      rw [pName_app' y r hr, e1]
      simp only [PR.app] at h ⊢
      cases e2 : pTake [59] r1 with
      | err q1 => rw [e2] at h; injection h with e; subst e; rw [pTake_app [59] y r1 (by rw [e2]; exact hq), e2]; rfl
      | ok u2 r2 =>
        rw [e2] at h
        have hr1 : r1 ≠ [] := fun e => by rw [e] at e2; cases e2
        rw [pTake_app' [59] y r1 hr1, e2]
        simp only [PR.app] at h ⊢
        cases e3 : pLevels r2 with
        | err q1 => rw [e3] at h; injection h with e; subst e; rw [pLevels_app y _ r2 (Nat.le_refl _) (by rw [e3]; exact hq), e3]; rfl
        | ok ls r3 =>
          rw [e3] at h
          simp only at h
          have hr3 : r3 ≠ [] := by
            intro e
            rw [e] at h
            have : pRules [] = .ok [] [] := by rw [pRules]
            rw [this] at h
            cases h
          rw [pLevels_app y _ r2 (Nat.le_refl _) (by rw [e3]; exact hr3), e3]
          simp only [PR.app]
          cases e4 : pRules r3 with
          | err q1 => rw [e4] at h; injection h with e; subst e; rw [pRules_app y _ r3 q1 (Nat.le_refl _) e4 hq]
          | ok rs q1 => rw [e4] at h; cases h
end Go.Lg

namespace Go.Lg
set_option linter.unusedVariables false
theorem isW32 : isW 32 = false := by decide
theorem isD32 : isD 32 = false := by decide
theorem tw_app {p : UInt8 → Bool} (h32 : p 32 = false) (r m : Tx) : (r ++ 32 :: m).takeWhile p = r.takeWhile p := by
  induction r with
  | nil => simp [h32]
  | cons c r ih =>
    rw [List.cons_append, List.takeWhile_cons, List.takeWhile_cons]
    split
    · rw [ih]
    · rfl
theorem tokN_app (c : UInt8) (r m : Tx) : tokN (c :: r ++ 32 :: m) = tokN (c :: r) := by
  simp only [List.cons_append, tokN]
  rw [tw_app isW32, tw_app isD32]
theorem lexL_app (m : Tx) (n : Nat) : ∀ (l : Tx) (k : Nat), l.length ≤ n → ∃ x, lexL (l ++ 32 :: m) k = lexL l k ++ x := by
  induction n with
  | zero =>
    intro l k hl
    obtain rfl : l = [] := List.eq_nil_of_length_eq_zero (by omega)
    exact ⟨_, by rw [lexL_nil]; rfl⟩
  | succ n ih =>
    intro l k hl
    cases l with
    | nil => exact ⟨_, by rw [lexL_nil]; rfl⟩
    | cons c r =>
      simp only [List.length_cons] at hl
      rw [List.cons_append, lexL_cons, lexL_cons]
      by_cases hB : isB c = true
      · rw [if_pos hB, if_pos hB]
        exact ih r (k + 1) (by omega)
      · rw [if_neg hB, if_neg hB]
        by_cases h35 : c = 35
        · rw [if_pos h35, if_pos h35]
          by_cases hc : comN r < r.length
          · -- the comment ends inside
            have e : comN (r ++ 32 :: m) = comN r := by
              have key : ∀ r : Tx, comN r < r.length → comN (r ++ 32 :: m) = comN r := by
                intro r
                induction r with
                | nil => intro h; simp [comN] at h
                | cons d r ih2 =>
                  intro h
                  simp only [comN, List.cons_append, List.takeWhile_cons] at h ⊢
                  split
                  · rename_i hd
                    rw [hd] at h
                    simp only [if_true, List.length_cons] at h ⊢
                    have := ih2 (by unfold comN; omega)
                    unfold comN at this
                    rw [this]
                  · rfl
              exact key r hc
            rw [e, List.drop_append_of_le_length (by omega)]
            exact ih (r.drop (comN r)) _ (by rw [List.length_drop]; omega)
          · have he : comN r = r.length := by have := comN_le r; omega
            rw [he, List.drop_length, lexL_nil]
            exact ⟨_, rfl⟩
        · rw [if_neg h35, if_neg h35]
          have ht := tokN_app c r m
          rw [List.cons_append] at ht
          have hle := tokN_le (c :: r)
          have htp := tokN_pos c r
          rw [ht]
          have e1 : (c :: (r ++ 32 :: m)).take (tokN (c :: r)) = (c :: r).take (tokN (c :: r)) := by
            rw [← List.cons_append, List.take_append_of_le_length hle]
          have e2 : (c :: (r ++ 32 :: m)).drop (tokN (c :: r)) = (c :: r).drop (tokN (c :: r)) ++ 32 :: m := by
            rw [← List.cons_append, List.drop_append_of_le_length hle]
          rw [e1, e2]
          obtain ⟨x, hx⟩ := ih ((c :: r).drop (tokN (c :: r))) (k + tokN (c :: r)) (by rw [List.length_drop]; simp only [List.length_cons]; omega)
          exact ⟨x, by rw [hx]; rfl⟩
theorem tw_cut {p : UInt8 → Bool} {r : Tx} {j : Nat} (h : (r.takeWhile p).length ≤ j) : (r.take j).takeWhile p = r.takeWhile p := by
  induction r generalizing j with
  | nil => simp
  | cons c r ih =>
    cases j with
    | zero =>
      have : r.takeWhile p = r.takeWhile p := rfl
      have h0 : ((c :: r).takeWhile p) = [] := List.eq_nil_of_length_eq_zero (by omega)
      rw [h0]; rfl
    | succ j =>
      rw [List.take_succ_cons, List.takeWhile_cons, List.takeWhile_cons]
      split
      · rename_i hc
        rw [List.takeWhile_cons, if_pos hc] at h
        simp only [List.length_cons] at h
        rw [ih (by omega)]
      · rfl
theorem lexL_cut (n : Nat) : ∀ (l : Tx) (k : Nat) (a : List (Nat × Tx)) (p : Nat × Tx) (b : List (Nat × Tx)), l.length ≤ n → lexL l k = a ++ p :: b → k ≤ p.1 ∧ p.1 - k < l.length ∧ lexL (l.take (p.1 - k)) k = a := by
  induction n with
  | zero =>
    intro l k a p b hl h
    obtain rfl : l = [] := List.eq_nil_of_length_eq_zero (by omega)
    rw [lexL_nil] at h
    cases a <;> cases h
  | succ n ih =>
    intro l k a p b hl h
    cases l with
    | nil => rw [lexL_nil] at h; cases a <;> cases h
    | cons c r =>
      simp only [List.length_cons] at hl ⊢
      rw [lexL_cons] at h
      by_cases hB : isB c = true
      · rw [if_pos hB] at h
        obtain ⟨h1, h2, h3⟩ := ih r (k + 1) a p b (by omega) h
        refine ⟨by omega, by omega, ?_⟩
        rw [show p.1 - k = (p.1 - (k + 1)) + 1 by omega, List.take_succ_cons, lexL_cons, if_pos hB]
        exact h3
      · rw [if_neg hB] at h
        by_cases h35 : c = 35
        · rw [if_pos h35] at h
          have hcl := comN_le r
          obtain ⟨h1, h2, h3⟩ := ih (r.drop (comN r)) (k + 1 + comN r) a p b (by rw [List.length_drop]; omega) h
          rw [List.length_drop] at h2
          refine ⟨by omega, by omega, ?_⟩
          obtain ⟨j, hj⟩ : ∃ j, p.1 - k = j + 1 := ⟨p.1 - k - 1, by omega⟩
          rw [hj, List.take_succ_cons, lexL_cons, if_neg hB, if_pos h35]
          have hcj : comN r ≤ j := by omega
          have e1 : comN (r.take j) = comN r := by unfold comN; rw [tw_cut hcj]
          rw [e1, List.drop_take]
          rw [show j - comN r = p.1 - (k + 1 + comN r) by omega]
          exact h3
        · rw [if_neg h35] at h
          have htp := tokN_pos c r
          have htl := tokN_le (c :: r)
          simp only [List.length_cons] at htl
          cases a with
          | nil =>
            simp only [List.nil_append] at h
            injection h with h1 h2
            subst h1
            refine ⟨Nat.le_refl _, by simp, ?_⟩
            simp only [Nat.sub_self, List.take_zero, lexL_nil]
          | cons a0 a =>
            rw [List.cons_append] at h
            injection h with h1 h2
            obtain ⟨h3, h4, h5⟩ := ih ((c :: r).drop (tokN (c :: r))) (k + tokN (c :: r)) a p b (by rw [List.length_drop]; simp only [List.length_cons]; omega) h2
            rw [List.length_drop] at h4
            simp only [List.length_cons] at h4
            refine ⟨by omega, by omega, ?_⟩
            obtain ⟨j, hj⟩ : ∃ j, p.1 - k = j + 1 := ⟨p.1 - k - 1, by omega⟩
            rw [hj, List.take_succ_cons, lexL_cons, if_neg hB, if_neg h35]
            have hjt : tokN (c :: r) ≤ j + 1 := by omega
            have e1 : tokN (c :: r.take j) = tokN (c :: r) := by
              simp only [tokN] at hjt ⊢
              split
              · rename_i hL
                rw [if_pos hL] at hjt
                rw [tw_cut (by omega)]
              · rename_i hL
                rw [if_neg hL] at hjt
                split
                · rename_i hD
                  rw [if_pos hD] at hjt
                  rw [tw_cut (by omega)]
                · rfl
            rw [e1]
            have e2 : (c :: r.take j).take (tokN (c :: r)) = (c :: r).take (tokN (c :: r)) := by
              rw [← List.take_succ_cons, List.take_take, Nat.min_eq_left hjt]
            have e3 : (c :: r.take j).drop (tokN (c :: r)) = ((c :: r).drop (tokN (c :: r))).take (p.1 - (k + tokN (c :: r))) := by
              rw [← List.take_succ_cons, List.drop_take]
              congr 1
              omega
            rw [e2, e3, h5, h1]
end Go.Lg

namespace Go.Lg
open Go.Proofs
set_option linter.unusedSimpArgs false
set_option linter.unusedVariables false
attribute [local irreducible] Ap Rq asemC WP RunD Ret Gq thenA inBlockA bodyQ noGotoA RqL RqP OpP
set_option maxHeartbeats 8000000
set_option maxRecDepth 20000
theorem cut_len {l : List (Nat × Tx)} {r : List Tx} (h : r <:+ l.map (·.2)) : (cut l r).length = r.length := by
  have := congrArg List.length (cut_map h)
  rwa [List.length_map] at this
theorem pFile_suf (l q : List Tx) (h : pFile l = .err q) : q <:+ l := by
  unfold pFile at h
  have h0 := pTake_suf (bl kw0) l
  cases e0 : pTake (bl kw0) l with
  | err q1 => rw [e0] at h h0; injection h with e; subst e; exact h0
  | ok u r =>
    rw [e0] at h h0
    simp only at h
    have h1 := pName_suf r
    cases e1 : pName r with
    | err q1 => rw [e1] at h h1; injection h with e; subst e; exact h1.trans h0
    | ok s r1 =>
      rw [e1] at h h1
      simp only at h
      have h2 := pTake_suf [59] r1
      cases e2 : pTake [59] r1 with
      | err q1 => rw [e2] at h h2; injection h with e; subst e; exact (h2.trans h1).trans h0
      | ok u2 r2 =>
        rw [e2] at h h2
        simp only at h
        have h3 := pLevels_suf _ r2 (Nat.le_refl _)
        cases e3 : pLevels r2 with
        | err q1 => rw [e3] at h h3; injection h with e; subst e; exact ((h3.trans h2).trans h1).trans h0
        | ok ls r3 =>
          rw [e3] at h h3
          simp only at h
          have h4 := pRules_suf _ r3 (Nat.le_refl _)
          cases e4 : pRules r3 with
          | err q1 => rw [e4] at h h4; injection h with e; subst e; exact (((h4.trans h3).trans h2).trans h1).trans h0
          | ok rs q1 => rw [e4] at h; cases h
theorem parseR_err {s : ByteArray} (h : (parseR s).2.2 = 3) : ∃ r, pFile (lexT (bl s)) = .err r ∧ parseR s = (noF, pos (cut (lexL (bl s) 0) r) (s.size : Int), 3) := by
  unfold parseR at h ⊢
  cases e : pFile (lexT (bl s)) with
  | ok f q =>
    rw [e] at h
    simp only at h
    split at h
    · cases h
    · cases h
  | err r => exact ⟨r, rfl, rfl⟩
theorem parseR_final {s more : ByteArray} (h : (parseR s).2.2 = 3) (hat : (parseR s).2.1 < s.size) : (parseR (s ++ (⟨#[32]⟩ : ByteArray) ++ more)).2 = ((parseR s).2.1, 3) := by
  obtain ⟨r, h1, h2⟩ := parseR_err h
  rw [h2] at hat ⊢
  simp only at hat ⊢
  have hsuf := pFile_suf _ r h1
  have hne : r ≠ [] := by
    intro e
    rw [e] at hat
    simp only [cut, List.length_nil, Nat.sub_zero, List.drop_length, pos] at hat
    omega
  have hb : bl (s ++ (⟨#[32]⟩ : ByteArray) ++ more) = bl s ++ 32 :: bl more := by
    rw [bl_app, bl_app]
    simp [bl]
  obtain ⟨x, hx⟩ := lexL_app (bl more) _ (bl s) 0 (Nat.le_refl _)
  have hT : lexT (bl (s ++ (⟨#[32]⟩ : ByteArray) ++ more)) = lexT (bl s) ++ x.map (·.2) := by
    unfold lexT
    rw [hb, hx, List.map_append]
  have hF := pFile_app (x.map (·.2)) _ r h1 hne
  rw [← hT] at hF
  unfold parseR
  rw [hF]
  simp only
  rw [hb, hx]
  have hlr : r.length ≤ (lexL (bl s) 0).length := by
    have := hsuf.length_le
    unfold lexT at this
    rwa [List.length_map] at this
  have hc : cut (lexL (bl s) 0 ++ x) (r ++ x.map (·.2)) = cut (lexL (bl s) 0) r ++ x := by
    unfold cut
    rw [List.length_append, List.length_append, List.length_map, show (lexL (bl s) 0).length + x.length - (r.length + x.length) = (lexL (bl s) 0).length - r.length by omega, List.drop_append_of_le_length (by omega)]
  rw [hc]
  have hcl := cut_len (l := lexL (bl s) 0) hsuf
  cases hq : cut (lexL (bl s) 0) r with
  | nil =>
    rw [hq] at hcl
    exact absurd (List.eq_nil_of_length_eq_zero hcl.symm) hne
  | cons p l => rfl
theorem parseR_viable {s : ByteArray} (h : (parseR s).2.2 = 3) : 0 ≤ (parseR s).2.1 ∧ (parseR s).2.1 ≤ s.size ∧
    ((parseR (s.extract 0 (parseR s).2.1.toNat)).2.2 = 0 ∨ (parseR (s.extract 0 (parseR s).2.1.toNat)).2.2 = 1 ∨ (parseR (s.extract 0 (parseR s).2.1.toNat)).2.1 = (parseR s).2.1) := by
  obtain ⟨r, h1, h2⟩ := parseR_err h
  rw [h2]
  simp only
  have hsuf := pFile_suf _ r h1
  have hcl := cut_len (l := lexL (bl s) 0) hsuf
  cases hq : cut (lexL (bl s) 0) r with
  | nil =>
    have hp : pos ([] : List (Nat × Tx)) (s.size : Int) = s.size := rfl
    rw [hp]
    refine ⟨by omega, Int.le_refl _, .inr (.inr ?_)⟩
    have he : s.extract 0 (s.size : Int).toNat = s := by
      apply ba_ext
      rw [extract_tx]
      show (((bl s).drop 0).take ((s.size : Int).toNat - 0)) = bl s
      rw [List.drop_zero, List.take_of_length_le (by rw [bl_len]; omega)]
    rw [he, h2, hq]
    rfl
  | cons p b =>
    obtain ⟨a, ha⟩ := cut_suf (lexL (bl s) 0) r
    rw [hq] at ha
    obtain ⟨_, c2, c3⟩ := lexL_cut _ (bl s) 0 a p b (Nat.le_refl _) ha.symm
    rw [bl_len] at c2
    simp only [Nat.sub_zero] at c2 c3
    have hp : pos (p :: b) (s.size : Int) = (p.1 : Int) := rfl
    rw [hp]
    refine ⟨by omega, by omega, ?_⟩
    have he : s.extract 0 (p.1 : Int).toNat = tx ((bl s).take p.1) := by
      rw [extract_tx]
      simp
    rw [he]
    have hbl : bl (tx ((bl s).take p.1)) = (bl s).take p.1 := rfl
    have hsz : (tx ((bl s).take p.1)).size = p.1 := by rw [tx_size, List.length_take, bl_len]; omega
    have hLa : lexT (bl (tx ((bl s).take p.1))) = a.map (·.2) := by unfold lexT; rw [hbl, c3]
    have hr : r = (p :: b).map (·.2) := by rw [← hq]; exact (cut_map hsuf).symm
    have hall : lexT (bl s) = a.map (·.2) ++ (p :: b).map (·.2) := by unfold lexT; rw [← ha, List.map_append]
    unfold parseR
    rw [hLa]
    cases hf : pFile (a.map (·.2)) with
    | ok f q =>
      simp only
      split
      · exact .inl rfl
      · exact .inr (.inl rfl)
    | err q =>
      have hq0 : q = [] := by
        cases q with
        | nil => rfl
        | cons t q =>
          exfalso
          have h3 := pFile_app ((p :: b).map (·.2)) _ _ hf (by simp)
          rw [← hall, h1] at h3
          injection h3 with e
          rw [hr] at e
          have := congrArg List.length e
          simp at this
          omega
      subst hq0
      refine .inr (.inr ?_)
      simp only
      rw [hsz]
      simp only [cut, List.length_nil, Nat.sub_zero, List.drop_length, pos]
theorem law_final (s more : ByteArray) : Fn Try.prog 5 [strA s, strA more] (boolA true) := by
  by_cases hl : (s.size : Int) > 200 ∨ (more.size : Int) > 100
  · refine Fn.intro (by rfl) (by kernel_rfl) Try.func5 rfl rfl Try.ntmps5 (by exact Nat.le_of_ble_eq_true rfl) ?_; intro Γ hm
    (repeat' (first | refine WP.seq ?_ | refine go_n ?_ | refine WP.ret ?_ | refine go_r ?_ | refine bo_r ?_ | (refine wp_cond (by rfl) (fun hc => ?_) (fun hc => ?_) <;> (try simp only [sB, ne_eq, reduceCtorEq] at hc) <;> (try (exfalso; omega))) | (refine WP.regionC (id := 0) ?_; (refine su (ap_assign (by exact rq_p rfl rfl)) ?_); refine asemC_end ?_) | (refine WP.regionC (id := 1) ?_; (refine su (ap_move (by exact rq_p rfl rfl)) ?_); (refine su (ap_len_str (by rfl) (by exact rq_p rfl rfl)) ?_); (refine su (ap_gtr (by exact rq_p rfl rfl) (by exact rq_p rfl rfl)) ?_); (refine su (ap_move (by exact rq_p rfl rfl)) ?_); (refine sg (by exact gq_vf rfl rfl) (fun he => ap_move (by exact rq_p rfl rfl)) ?_); (refine sg (by exact gq_vf rfl rfl) (fun he => ap_len_str (by rfl) (by exact rq_c rfl rfl)) ?_); (refine sg (by exact gq_vf rfl rfl) (fun he => ap_gtr (by exact rq_c rfl rfl) (by exact rq_p rfl rfl)) ?_); (refine su (ap_or (by exact rq_p rfl rfl) (by exact rq_c rfl rfl)) ?_); refine asemC_end ?_) | (refine WP.regionC (id := 2) ?_; (refine sc_p rfl rfl (by first | ((repeat' (exact SubL.nil)); done) | fail) (by first | (simp [bdL, bdL_append, AV.bd]; done) | fail) (awake17_fn) ?_); (refine su (ap_assign (by exact rq_p rfl rfl)) ?_); refine asemC_end ?_) | exact ret_eq (by rfl) (by rfl) rfl))
    all_goals ((exfalso; omega))
    all_goals done
  · have hP := parseP_fn s (by omega)
    have hsz : (s ++ (⟨#[32]⟩ : ByteArray) ++ more).size = s.size + 1 + more.size := by rw [ByteArray.size_append, ByteArray.size_append]; rfl
    have hQ := parseP_fn (s ++ (⟨#[32]⟩ : ByteArray) ++ more) (by omega)
    have hfin := @parseR_final s more
    have hvi := @parseR_viable s
    generalize parseR s = x at *
    obtain ⟨f, at_, e⟩ := x
    generalize parseR (s ++ (⟨#[32]⟩ : ByteArray) ++ more) = y at *
    obtain ⟨g, k, e2⟩ := y
    simp only [parseA] at hP hQ hfin hvi
    refine Fn.intro (by rfl) (by kernel_rfl) Try.func5 rfl rfl Try.ntmps5 (by exact Nat.le_of_ble_eq_true rfl) ?_; intro Γ hm
    (repeat' (first | refine WP.seq ?_ | refine go_n ?_ | refine WP.skip ?_ | refine WP.ret ?_ | refine go_r ?_ | refine bo_r ?_ | (refine wp_cond (by rfl) (fun hc => ?_) (fun hc => ?_) <;> (try simp only [sB, ne_eq, reduceCtorEq] at hc) <;> (try (exfalso; omega))) | (refine WP.regionC (id := 0) ?_; (refine su (ap_assign (by exact rq_p rfl rfl)) ?_); refine asemC_end ?_) | (refine WP.regionC (id := 1) ?_; (refine su (ap_move (by exact rq_p rfl rfl)) ?_); (refine su (ap_len_str (by rfl) (by exact rq_p rfl rfl)) ?_); (refine su (ap_gtr (by exact rq_p rfl rfl) (by exact rq_p rfl rfl)) ?_); (refine su (ap_move (by exact rq_p rfl rfl)) ?_); (refine sg (by exact gq_vf rfl rfl) (fun he => ap_move (by exact rq_p rfl rfl)) ?_); (refine sg (by exact gq_vf rfl rfl) (fun he => ap_len_str (by rfl) (by exact rq_c rfl rfl)) ?_); (refine sg (by exact gq_vf rfl rfl) (fun he => ap_gtr (by exact rq_c rfl rfl) (by exact rq_p rfl rfl)) ?_); (refine su (ap_or (by exact rq_p rfl rfl) (by exact rq_c rfl rfl)) ?_); refine asemC_end ?_) | (refine WP.regionC (id := 3) ?_; (refine su (ap_move (by exact rq_p rfl rfl)) ?_); (refine sc_p rfl rfl (by first | ((repeat' first | exact SubL.nil | refine SubL.cons ?_ ?_ | exact Sub.refl); done) | fail) (by first | (simp [bdL, bdL_append, AV.bd]; done) | fail) (hP) ?_); (refine su (ap_move (by exact rq_p rfl rfl)) ?_); (refine su (ap_extract (by exact rq_p rfl rfl) (by rfl)) ?_); (refine su (ap_extract (by exact rq_p rfl rfl) (by rfl)) ?_); (refine su (ap_extract (by exact rq_p rfl rfl) (by rfl)) ?_); (refine se_alloc (by rfl) ?_); (refine se_store_b (by rfl) (by rfl) (by rfl) (by rfl) ?_); (refine su (ap_assign (by exact rq_p rfl rfl)) ?_); (refine su (ap_assign (by exact rq_p rfl rfl)) ?_); refine asemC_end ?_) | (refine WP.regionC (id := 4) ?_; (refine su (ap_move (by exact rq_p rfl rfl)) ?_); (refine su (ap_neq (by exact rq_p rfl rfl) (by exact rq_p rfl rfl)) ?_); (refine su (ap_move (by exact rq_p rfl rfl)) ?_); (refine sg (by exact gq_vf rfl rfl) (fun he => ap_move (by exact rq_p rfl rfl)) ?_); (refine sg (by exact gq_vf rfl rfl) (fun he => ap_move (by exact rq_p rfl rfl)) ?_); (refine sg (by exact gq_vf rfl rfl) (fun he => ap_len_str (by rfl) (by exact rq_c rfl rfl)) ?_); (refine sg (by exact gq_vf rfl rfl) (fun he => ap_geq (by exact rq_c rfl rfl) (by exact rq_c rfl rfl)) ?_); (refine su (ap_or (by exact rq_p rfl rfl) (by exact rq_c rfl rfl)) ?_); refine asemC_end ?_) | (refine WP.regionC (id := 5) ?_; (refine sc_p rfl rfl (by first | ((repeat' (exact SubL.nil)); done) | fail) (by first | (simp [bdL, bdL_append, AV.bd]; done) | fail) (awake17_fn) ?_); (refine su (ap_assign (by exact rq_p rfl rfl)) ?_); refine asemC_end ?_) | (refine WP.regionC (id := 6) ?_; (refine su (ap_move (by exact rq_p rfl rfl)) ?_); (refine su (ap_lss (by exact rq_p rfl rfl) (by exact rq_p rfl rfl)) ?_); refine asemC_end ?_) | (refine WP.regionC (id := 8) ?_; (refine su (ap_move (by exact rq_p rfl rfl)) ?_); (refine su (ap_cat (by exact rq_p rfl rfl) (by exact rq_p rfl rfl) (by (simp only [bsz, sZ] <;> omega))) ?_); (refine su (ap_move (by exact rq_p rfl rfl)) ?_); (refine su (ap_cat (by exact rq_p rfl rfl) (by exact rq_p rfl rfl) (by (simp only [bsz, sZ] <;> omega))) ?_); (refine sc_p rfl rfl (by first | ((repeat' first | exact SubL.nil | refine SubL.cons ?_ ?_ | exact Sub.refl); done) | fail) (by first | (simp [bdL, bdL_append, AV.bd]; done) | fail) (hQ) ?_); (refine su (ap_move (by exact rq_p rfl rfl)) ?_); (refine su (ap_extract (by exact rq_p rfl rfl) (by rfl)) ?_); (refine su (ap_extract (by exact rq_p rfl rfl) (by rfl)) ?_); (refine su (ap_extract (by exact rq_p rfl rfl) (by rfl)) ?_); (refine se_alloc (by rfl) ?_); (refine se_store_b (by rfl) (by rfl) (by rfl) (by rfl) ?_); (refine su (ap_assign (by exact rq_p rfl rfl)) ?_); (refine su (ap_assign (by exact rq_p rfl rfl)) ?_); refine asemC_end ?_) | (refine WP.regionC (id := 9) ?_; (refine sc_p rfl rfl (by first | ((repeat' (exact SubL.nil)); done) | fail) (by first | (simp [bdL, bdL_append, AV.bd]; done) | fail) (awake17_fn) ?_); (refine su (ap_move (by exact rq_p rfl rfl)) ?_); (refine sg (by exact gq_vt rfl rfl) (fun he => ap_move (by exact rq_p rfl rfl)) ?_); (refine sg (by exact gq_vt rfl rfl) (fun he => ap_eql (by exact rq_c rfl rfl) (by exact rq_p rfl rfl)) ?_); (refine su (ap_and (by exact rq_p rfl rfl) (by exact rq_c rfl rfl)) ?_); (refine su (ap_move (by exact rq_p rfl rfl)) ?_); (refine sg (by exact gq_vt rfl rfl) (fun he => ap_move (by exact rq_p rfl rfl)) ?_); (refine sg (by exact gq_vt rfl rfl) (fun he => ap_move (by exact rq_p rfl rfl)) ?_); (refine sg (by exact gq_vt rfl rfl) (fun he => ap_eql (by exact rq_c rfl rfl) (by exact rq_c rfl rfl)) ?_); (refine su (ap_and (by exact rq_p rfl rfl) (by exact rq_c rfl rfl)) ?_); (refine su (ap_assign (by exact rq_p rfl rfl)) ?_); refine asemC_end ?_) | exact ret_eq (by rfl) (by rfl) rfl | refine ret_b (by rfl) ?_))
    all_goals ((have h9 := hfin (by omega) (by omega); simp only [Prod.mk.injEq] at h9; rw [h9.1, h9.2]; simp))
    all_goals done
theorem law_viable (s : ByteArray) : Fn Try.prog 6 [strA s] (boolA true) := by
  by_cases hl : (s.size : Int) > 300
  · refine Fn.intro (by rfl) (by kernel_rfl) Try.func6 rfl rfl Try.ntmps6 (by exact Nat.le_of_ble_eq_true rfl) ?_; intro Γ hm
    (repeat' (first | refine WP.seq ?_ | refine go_n ?_ | refine WP.ret ?_ | refine go_r ?_ | refine bo_r ?_ | (refine wp_cond (by rfl) (fun hc => ?_) (fun hc => ?_) <;> (try simp only [sB, ne_eq, reduceCtorEq] at hc) <;> (try (exfalso; omega))) | (refine WP.regionC (id := 0) ?_; (refine su (ap_assign (by exact rq_p rfl rfl)) ?_); refine asemC_end ?_) | (refine WP.regionC (id := 1) ?_; (refine su (ap_move (by exact rq_p rfl rfl)) ?_); (refine su (ap_len_str (by rfl) (by exact rq_p rfl rfl)) ?_); (refine su (ap_gtr (by exact rq_p rfl rfl) (by exact rq_p rfl rfl)) ?_); refine asemC_end ?_) | (refine WP.regionC (id := 2) ?_; (refine sc_p rfl rfl (by first | ((repeat' (exact SubL.nil)); done) | fail) (by first | (simp [bdL, bdL_append, AV.bd]; done) | fail) (awake17_fn) ?_); (refine su (ap_assign (by exact rq_p rfl rfl)) ?_); refine asemC_end ?_) | exact ret_eq (by rfl) (by rfl) rfl))
    all_goals done
  · have hP := parseP_fn s (by omega)
    have hvi := @parseR_viable s
    cases hx : parseR s with
    | mk f z =>
      obtain ⟨at_, e⟩ := z
      rw [hx] at hP hvi
      simp only [parseA] at hP hvi
      by_cases he : e = 3
      · subst he
        obtain ⟨v1, v2, v3⟩ := hvi rfl
        have hQ := parseP_fn (s.extract 0 at_.toNat) (by rw [extract_tx, tx_size, List.length_take]; omega)
        generalize parseR (s.extract 0 at_.toNat) = y at *
        obtain ⟨g, k, e2⟩ := y
        simp only [parseA] at hQ v3
        refine Fn.intro (by rfl) (by kernel_rfl) Try.func6 rfl rfl Try.ntmps6 (by exact Nat.le_of_ble_eq_true rfl) ?_; intro Γ hm
        (repeat' (first | refine WP.seq ?_ | refine go_n ?_ | refine WP.skip ?_ | refine WP.ret ?_ | refine bo_r ?_ | (refine wp_cond (by rfl) (fun hc => ?_) (fun hc => ?_) <;> (try simp only [sB, ne_eq, reduceCtorEq] at hc) <;> (try (exfalso; omega))) | (refine WP.regionC (id := 0) ?_; (refine su (ap_assign (by exact rq_p rfl rfl)) ?_); refine asemC_end ?_) | (refine WP.regionC (id := 1) ?_; (refine su (ap_move (by exact rq_p rfl rfl)) ?_); (refine su (ap_len_str (by rfl) (by exact rq_p rfl rfl)) ?_); (refine su (ap_gtr (by exact rq_p rfl rfl) (by exact rq_p rfl rfl)) ?_); refine asemC_end ?_) | (refine WP.regionC (id := 3) ?_; (refine su (ap_move (by exact rq_p rfl rfl)) ?_); (refine sc_p rfl rfl (by first | ((repeat' first | exact SubL.nil | refine SubL.cons ?_ ?_ | exact Sub.refl); done) | fail) (by first | (simp [bdL, bdL_append, AV.bd]; done) | fail) (hP) ?_); (refine su (ap_move (by exact rq_p rfl rfl)) ?_); (refine su (ap_extract (by exact rq_p rfl rfl) (by rfl)) ?_); (refine su (ap_extract (by exact rq_p rfl rfl) (by rfl)) ?_); (refine su (ap_extract (by exact rq_p rfl rfl) (by rfl)) ?_); (refine se_alloc (by rfl) ?_); (refine se_store_b (by rfl) (by rfl) (by rfl) (by rfl) ?_); (refine su (ap_assign (by exact rq_p rfl rfl)) ?_); (refine su (ap_assign (by exact rq_p rfl rfl)) ?_); refine asemC_end ?_) | (refine WP.regionC (id := 4) ?_; (refine su (ap_move (by exact rq_p rfl rfl)) ?_); (refine su (ap_neq (by exact rq_p rfl rfl) (by exact rq_p rfl rfl)) ?_); refine asemC_end ?_) | (refine WP.regionC (id := 6) ?_; (refine su (ap_move (by exact rq_p rfl rfl)) ?_); (refine su (ap_lss (by exact rq_p rfl rfl) (by exact rq_p rfl rfl)) ?_); (refine su (ap_move (by exact rq_p rfl rfl)) ?_); (refine sg (by exact gq_vf rfl rfl) (fun he => ap_move (by exact rq_p rfl rfl)) ?_); (refine sg (by exact gq_vf rfl rfl) (fun he => ap_move (by exact rq_p rfl rfl)) ?_); (refine sg (by exact gq_vf rfl rfl) (fun he => ap_len_str (by rfl) (by exact rq_c rfl rfl)) ?_); (refine sg (by exact gq_vf rfl rfl) (fun he => ap_gtr (by exact rq_c rfl rfl) (by exact rq_c rfl rfl)) ?_); (refine su (ap_or (by exact rq_p rfl rfl) (by exact rq_c rfl rfl)) ?_); refine asemC_end ?_) | (refine WP.regionC (id := 8) ?_; (refine su (ap_move (by exact rq_p rfl rfl)) ?_); (refine su (ap_move (by exact rq_p rfl rfl)) ?_); (refine su (ap_slice_s (by rfl) (by exact rq_p rfl rfl) (by exact bq_none) (by exact bq_some (by exact rq_p rfl rfl)) (by omega)) ?_); (refine sc_p rfl rfl (by first | ((repeat' first | exact SubL.nil | refine SubL.cons ?_ ?_ | exact Sub.refl); done) | fail) (by first | (simp [bdL, bdL_append, AV.bd]; done) | fail) (hQ) ?_); (refine su (ap_move (by exact rq_p rfl rfl)) ?_); (refine su (ap_extract (by exact rq_p rfl rfl) (by rfl)) ?_); (refine su (ap_extract (by exact rq_p rfl rfl) (by rfl)) ?_); (refine su (ap_extract (by exact rq_p rfl rfl) (by rfl)) ?_); (refine se_alloc (by rfl) ?_); (refine se_store_b (by rfl) (by rfl) (by rfl) (by rfl) ?_); (refine su (ap_assign (by exact rq_p rfl rfl)) ?_); (refine su (ap_assign (by exact rq_p rfl rfl)) ?_); refine asemC_end ?_) | (refine WP.regionC (id := 9) ?_; (refine sc_p rfl rfl (by first | ((repeat' (exact SubL.nil)); done) | fail) (by first | (simp [bdL, bdL_append, AV.bd]; done) | fail) (awake17_fn) ?_); (refine su (ap_move (by exact rq_p rfl rfl)) ?_); (refine sg (by exact gq_vt rfl rfl) (fun he => ap_move (by exact rq_p rfl rfl)) ?_); (refine sg (by exact gq_vt rfl rfl) (fun he => ap_eql (by exact rq_c rfl rfl) (by exact rq_p rfl rfl)) ?_); (refine sg (by exact gq_vt rfl rfl) (fun he => ap_move (by exact rq_c rfl rfl)) ?_); (refine sg (by exact gq_cf rfl rfl) (fun he => ap_move (by exact rq_p rfl rfl)) ?_); (refine sg (by exact gq_cf rfl rfl) (fun he => ap_eql (by exact rq_c rfl rfl) (by exact rq_p rfl rfl)) ?_); (refine sg (by exact gq_vt rfl rfl) (fun he => ap_or (by exact rq_c rfl rfl) (by exact rq_c rfl rfl)) ?_); (refine sg (by exact gq_vt rfl rfl) (fun he => ap_move (by exact rq_c rfl rfl)) ?_); (refine sg (by exact gq_cf rfl rfl) (fun he => ap_move (by exact rq_p rfl rfl)) ?_); (refine sg (by exact gq_cf rfl rfl) (fun he => ap_move (by exact rq_p rfl rfl)) ?_); (refine sg (by exact gq_cf rfl rfl) (fun he => ap_eql (by exact rq_c rfl rfl) (by exact rq_c rfl rfl)) ?_); (refine sg (by exact gq_vt rfl rfl) (fun he => ap_or (by exact rq_c rfl rfl) (by exact rq_c rfl rfl)) ?_); (refine su (ap_and (by exact rq_p rfl rfl) (by exact rq_c rfl rfl)) ?_); (refine su (ap_assign (by exact rq_p rfl rfl)) ?_); refine asemC_end ?_) | refine ret_b (by rfl) ?_))
        all_goals (first | (exfalso; simp_all; done) | (simp; omega))
        all_goals done
      · refine Fn.intro (by rfl) (by kernel_rfl) Try.func6 rfl rfl Try.ntmps6 (by exact Nat.le_of_ble_eq_true rfl) ?_; intro Γ hm
        (repeat' (first | refine WP.seq ?_ | refine go_n ?_ | refine WP.skip ?_ | refine WP.ret ?_ | refine go_r ?_ | refine bo_r ?_ | (refine wp_cond (by rfl) (fun hc => ?_) (fun hc => ?_) <;> (try simp only [sB, ne_eq, reduceCtorEq] at hc) <;> (try (exfalso; omega))) | (refine WP.regionC (id := 0) ?_; (refine su (ap_assign (by exact rq_p rfl rfl)) ?_); refine asemC_end ?_) | (refine WP.regionC (id := 1) ?_; (refine su (ap_move (by exact rq_p rfl rfl)) ?_); (refine su (ap_len_str (by rfl) (by exact rq_p rfl rfl)) ?_); (refine su (ap_gtr (by exact rq_p rfl rfl) (by exact rq_p rfl rfl)) ?_); refine asemC_end ?_) | (refine WP.regionC (id := 3) ?_; (refine su (ap_move (by exact rq_p rfl rfl)) ?_); (refine sc_p rfl rfl (by first | ((repeat' first | exact SubL.nil | refine SubL.cons ?_ ?_ | exact Sub.refl); done) | fail) (by first | (simp [bdL, bdL_append, AV.bd]; done) | fail) (hP) ?_); (refine su (ap_move (by exact rq_p rfl rfl)) ?_); (refine su (ap_extract (by exact rq_p rfl rfl) (by rfl)) ?_); (refine su (ap_extract (by exact rq_p rfl rfl) (by rfl)) ?_); (refine su (ap_extract (by exact rq_p rfl rfl) (by rfl)) ?_); (refine se_alloc (by rfl) ?_); (refine se_store_b (by rfl) (by rfl) (by rfl) (by rfl) ?_); (refine su (ap_assign (by exact rq_p rfl rfl)) ?_); (refine su (ap_assign (by exact rq_p rfl rfl)) ?_); refine asemC_end ?_) | (refine WP.regionC (id := 4) ?_; (refine su (ap_move (by exact rq_p rfl rfl)) ?_); (refine su (ap_neq (by exact rq_p rfl rfl) (by exact rq_p rfl rfl)) ?_); refine asemC_end ?_) | (refine WP.regionC (id := 5) ?_; (refine sc_p rfl rfl (by first | ((repeat' (exact SubL.nil)); done) | fail) (by first | (simp [bdL, bdL_append, AV.bd]; done) | fail) (awake17_fn) ?_); (refine su (ap_assign (by exact rq_p rfl rfl)) ?_); refine asemC_end ?_) | exact ret_eq (by rfl) (by rfl) rfl))
        all_goals done
end Go.Lg
