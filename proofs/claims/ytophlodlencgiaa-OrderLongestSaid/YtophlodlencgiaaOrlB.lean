/-
  Walks: entries that are struck off.
-/
import Derived.Test.YtophlodlencgiaaOrdS
import Derived.Test.YtophlodlencgiaaVchE
namespace Go.Proofs.Ytophlodlencgiaa
open Go.V
set_option linter.unusedVariables false
set_option linter.unusedSimpArgs false
set_option maxRecDepth 100000

/-- The numbers below one of which something is true. -/
def pick (p : Nat → Bool) : Nat → List Nat
  | 0 => []
  | i + 1 => if p i then pick p i ++ [i] else pick p i

theorem pick_len (p : Nat → Bool) : ∀ i, (pick p i).length ≤ i
  | 0 => Nat.le_refl 0
  | i + 1 => by
    have := pick_len p i
    simp only [pick]
    split
    · simp; omega
    · omega

theorem pick_lt (p : Nat → Bool) : ∀ i j, j ∈ pick p i → j < i
  | 0, _, h => by simp [pick] at h
  | i + 1, j, h => by
    simp only [pick] at h
    split at h
    · rcases List.mem_append.1 h with h | h
      · have := pick_lt p i j h; omega
      · simp at h; omega
    · have := pick_lt p i j h; omega

theorem pick_pre (p : Nat → Bool) (i : Nat) : ∀ d, ∃ l, pick p (i + d) = pick p i ++ l
  | 0 => ⟨[], by simp⟩
  | d + 1 => by
    obtain ⟨l, hl⟩ := pick_pre p i d
    rw [← Nat.add_assoc, pick, hl]
    split
    · exact ⟨l ++ [i + d], by simp⟩
    · exact ⟨l, rfl⟩

theorem pick_at (p : Nat → Bool) {i i' j : Nat} (h : i ≤ i') (hj : j < (pick p i).length) : (pick p i').getD j 0 = (pick p i).getD j 0 := by
  obtain ⟨l, hl⟩ := pick_pre p i (i' - i)
  rw [Nat.add_sub_cancel' h] at hl
  rw [hl, List.getD_eq_getElem?_getD, List.getElem?_append_left hj, ← List.getD_eq_getElem?_getD]

theorem pick_next (p : Nat → Bool) {i i' : Nat} (h : i < i') (hp : p i = true) : (pick p i').getD (pick p i).length 0 = i := by
  have e : pick p (i + 1) = pick p i ++ [i] := by rw [pick, if_pos hp]
  rw [pick_at p (i := i + 1) h (by rw [e]; simp), e]
  simp

theorem pick_all (p : Nat → Bool) : ∀ i, (∀ j, j < i → p j = true) → (pick p i).length = i
  | 0, _ => rfl
  | i + 1, h => by rw [pick, if_pos (h i (by omega))]; simp [pick_all p i fun j hj => h j (by omega)]

theorem pick_all_at (p : Nat → Bool) {i i' j : Nat} (hi : i ≤ i') (h : ∀ j, j < i → p j = true) (hj : j < i) : (pick p i').getD j 0 = j := by
  have e := pick_all p j fun x hx => h x (by omega)
  have := pick_next p (i := j) (i' := i') (by omega) (h j hj)
  rwa [e] at this

theorem ok_Longest_c1 (a0 a1 a2 a3 a4 a5 : Int) (m : Nat) (g : Nat → Nat → DV) (a7 at' : Int) :
    CallOK (O := Ob) PR n_order_Longest_c1 [.agg [.dv (.int .i64 a0), .dv (.int .i64 a1), .dv (.int .i64 a2), .dv (.int .i64 a3), .dv (.int .i64 a4), .dv (.int .i64 a5), .dv (.seq m 1 g), .dv (.int .i64 a7)], .ptr 0 0] [.blk [.one (.dv (.int .i64 at'))]]
      fun r k => r = .dv (.bool (decide (at' < a3))) ∧ k = [.blk [.one (.dv (.int .i64 at'))]] := by
  refine fn_walkv mixed fn_order_Longest_c1 (Ent.refl _ _) fun bin cmp un conv bnot beq band sel isel ofN toN inb nz nneg lt le room' slb add sub sbin scmp slen sget ssub addk pc pb pi pf ps mkok min_ ig aeq P hP hA hF Q hQ => ?_
  cbv
  repeat' first
    | (refine Chk.mk trivial ?_; cbv)
    | (refine bc_true (by first | assumption | (simp (disch := omega) only [hF, natc, w64_in, decide_eq_true_eq, decide_eq_false_iff_not, Int.toNat_natCast, Bool.not_eq_true', Bool.not_eq_false', not_true_eq_false, not_false_eq_true, Int.not_lt, Int.not_le, Bool.and_eq_true, Bool.or_eq_true, Int.ofNat_lt, Int.ofNat_le, Int.natCast_nonneg, Int.toNat_zero, Int.toNat_one, Classical.not_not, beq_self_eq_true, true_and, and_true]; first | done | assumption | omega | (simp only [natc] at *; omega))) ?_; cbv)
    | (refine bc_false (by first | assumption | (simp (disch := omega) only [hF, natc, w64_in, decide_eq_true_eq, decide_eq_false_iff_not, Int.toNat_natCast, Bool.not_eq_true', Bool.not_eq_false', not_true_eq_false, not_false_eq_true, Int.not_lt, Int.not_le, Bool.and_eq_true, Bool.or_eq_true, Int.ofNat_lt, Int.ofNat_le, Int.natCast_nonneg, Int.toNat_zero, Int.toNat_one, Classical.not_not, beq_self_eq_true, true_and, and_true]; first | done | assumption | omega | (simp only [natc] at *; omega))) ?_; cbv)
    | (refine bc_split (fun h => ?_) (fun h => ?_) <;> (try simp (disch := omega) only [hF, natc, w64_in, decide_eq_true_eq, decide_eq_false_iff_not, Int.toNat_natCast, Bool.not_eq_true', Bool.not_eq_false', not_true_eq_false, not_false_eq_true, Int.not_lt, Int.not_le, Bool.and_eq_true, Bool.or_eq_true, Int.ofNat_lt, Int.ofNat_le, Int.natCast_nonneg, Int.toNat_zero, Int.toNat_one, Classical.not_not, beq_self_eq_true, true_and, and_true] at h) <;> cbv)
    | (refine IdxVC.mk (by simp (disch := omega) only [hF, natc, w64_in, decide_eq_true_eq, decide_eq_false_iff_not, Int.toNat_natCast, Bool.not_eq_true', Bool.not_eq_false', not_true_eq_false, not_false_eq_true, Int.not_lt, Int.not_le, Bool.and_eq_true, Bool.or_eq_true, Int.ofNat_lt, Int.ofNat_le, Int.natCast_nonneg, Int.toNat_zero, Int.toNat_one, Classical.not_not, beq_self_eq_true, true_and, and_true]; first | done | omega | (simp only [natc] at *; omega)) (fun kx hk hk2 => ?_); simp (disch := omega) only [hF, natc, w64_in, decide_eq_true_eq, decide_eq_false_iff_not, Int.toNat_natCast, Bool.not_eq_true', Bool.not_eq_false', not_true_eq_false, not_false_eq_true, Int.not_lt, Int.not_le, Bool.and_eq_true, Bool.or_eq_true, Int.ofNat_lt, Int.ofNat_le, Int.natCast_nonneg, Int.toNat_zero, Int.toNat_one, Classical.not_not, beq_self_eq_true, true_and, and_true] at hk; (try obtain rfl : kx = 0 := hk); cbv)
    | (refine Chk.mk (by simp (disch := omega) only [maxN, hF, natc, w64_in, decide_eq_true_eq, decide_eq_false_iff_not, Int.toNat_natCast, Bool.not_eq_true', Bool.not_eq_false', not_true_eq_false, not_false_eq_true, Int.not_lt, Int.not_le, Bool.and_eq_true, Bool.or_eq_true, Int.ofNat_lt, Int.ofNat_le, Int.natCast_nonneg, Int.toNat_zero, Int.toNat_one, Classical.not_not, beq_self_eq_true, true_and, and_true]; first | done | assumption | omega | (simp only [natc] at *; omega)) ?_; cbv)
    | (intro (hmx : _ ≤ maxN); replace hmx : _ ≤ 17592186044416 := hmx; cbv)
    | (intro _; cbv)
  subst hQ
  refine ⟨_, _, Ent.ren (s' := ⟨[.dv (.bool (cmp .gtr a3 at'))], [.blk [.one (.dv (.int .i64 at'))]]⟩) [0] rfl rfl ⟨⟨rfl, trivial⟩, trivial⟩ ⟨rfl, trivial⟩, ?_, rfl⟩
  simp only [hF]

theorem ok_IndexV {k : Nat} {GT : Nat → Nat → DV} (T : Ents k GT) (at' : Int) :
    CallOK (O := Ob) PR n_slices_IndexFunc_Sdiary_Entry_diary_Entry [.vec 0, .fn n_order_Longest_c1 [.ptr 1 0]] [.vec k 8 (fun x f => .dv (GT x f)), .blk [.one (.dv (.int .i64 at'))]]
      fun r m => (∃ z, firstI k (fun y => at' < T.be y) z ∧ r = .dv (.int .i64 z)) ∧ m = [.vec k 8 (fun x f => .dv (GT x f)), .blk [.one (.dv (.int .i64 at'))]] := by
  obtain ⟨D, hD⟩ : ∃ D : Nat → Bool, ∀ i, D i = decide (at' < T.be i) := ⟨_, fun _ => rfl⟩
  have hc : ∀ i, CallOK (O := Ob) PR n_order_Longest_c1 [.agg (T.row i), .ptr 0 0] [.blk [.one (.dv (.int .i64 at'))]] fun r m => r = .dv (.bool (D i)) ∧ m = [.blk [.one (.dv (.int .i64 at'))]] := fun i => hD i ▸ ok_Longest_c1 _ _ _ _ _ _ _ _ _ _
  have hD' : ∀ i, D i = true ↔ at' < T.be i := fun i => by rw [hD]; simp
  clear hD
  refine fn_walkv mixed fn_slices_IndexFunc_Sdiary_Entry_diary_Entry (Ent.refl _ _) fun bin cmp un conv bnot beq band sel isel ofN toN inb nz nneg lt le room' slb add sub sbin scmp slen sget ssub addk pc pb pi pf ps mkok min_ ig aeq P hP hA hF Q hQ => ?_
  cbv
  repeat' first
    | (refine Chk.mk trivial ?_; cbv)
    | (refine bc_true (by first | assumption | (simp (disch := omega) only [hF, natc, w64_in, decide_eq_true_eq, decide_eq_false_iff_not, Int.toNat_natCast, Bool.not_eq_true', Bool.not_eq_false', not_true_eq_false, not_false_eq_true, Int.not_lt, Int.not_le, Bool.and_eq_true, Bool.or_eq_true, Int.ofNat_lt, Int.ofNat_le, Int.natCast_nonneg, Int.toNat_zero, Int.toNat_one, Classical.not_not, beq_self_eq_true, true_and, and_true]; first | done | assumption | omega | (simp only [natc] at *; omega))) ?_; cbv)
    | (refine bc_false (by first | assumption | (simp (disch := omega) only [hF, natc, w64_in, decide_eq_true_eq, decide_eq_false_iff_not, Int.toNat_natCast, Bool.not_eq_true', Bool.not_eq_false', not_true_eq_false, not_false_eq_true, Int.not_lt, Int.not_le, Bool.and_eq_true, Bool.or_eq_true, Int.ofNat_lt, Int.ofNat_le, Int.natCast_nonneg, Int.toNat_zero, Int.toNat_one, Classical.not_not, beq_self_eq_true, true_and, and_true]; first | done | assumption | omega | (simp only [natc] at *; omega))) ?_; cbv)
    | (refine bc_split (fun h => ?_) (fun h => ?_) <;> (try simp (disch := omega) only [hF, natc, w64_in, decide_eq_true_eq, decide_eq_false_iff_not, Int.toNat_natCast, Bool.not_eq_true', Bool.not_eq_false', not_true_eq_false, not_false_eq_true, Int.not_lt, Int.not_le, Bool.and_eq_true, Bool.or_eq_true, Int.ofNat_lt, Int.ofNat_le, Int.natCast_nonneg, Int.toNat_zero, Int.toNat_one, Classical.not_not, beq_self_eq_true, true_and, and_true] at h) <;> cbv)
    | (refine IdxVC.mk (by simp (disch := omega) only [hF, natc, w64_in, decide_eq_true_eq, decide_eq_false_iff_not, Int.toNat_natCast, Bool.not_eq_true', Bool.not_eq_false', not_true_eq_false, not_false_eq_true, Int.not_lt, Int.not_le, Bool.and_eq_true, Bool.or_eq_true, Int.ofNat_lt, Int.ofNat_le, Int.natCast_nonneg, Int.toNat_zero, Int.toNat_one, Classical.not_not, beq_self_eq_true, true_and, and_true]; first | done | omega | (simp only [natc] at *; omega)) (fun kx hk hk2 => ?_); simp (disch := omega) only [hF, natc, w64_in, decide_eq_true_eq, decide_eq_false_iff_not, Int.toNat_natCast, Bool.not_eq_true', Bool.not_eq_false', not_true_eq_false, not_false_eq_true, Int.not_lt, Int.not_le, Bool.and_eq_true, Bool.or_eq_true, Int.ofNat_lt, Int.ofNat_le, Int.natCast_nonneg, Int.toNat_zero, Int.toNat_one, Classical.not_not, beq_self_eq_true, true_and, and_true] at hk; (try obtain rfl : kx = 0 := hk); cbv)
    | (refine Chk.mk (by simp (disch := omega) only [maxN, hF, natc, w64_in, decide_eq_true_eq, decide_eq_false_iff_not, Int.toNat_natCast, Bool.not_eq_true', Bool.not_eq_false', not_true_eq_false, not_false_eq_true, Int.not_lt, Int.not_le, Bool.and_eq_true, Bool.or_eq_true, Int.ofNat_lt, Int.ofNat_le, Int.natCast_nonneg, Int.toNat_zero, Int.toNat_one, Classical.not_not, beq_self_eq_true, true_and, and_true]; first | done | assumption | omega | (simp only [natc] at *; omega)) ?_; cbv)
    | (intro (hmx : _ ≤ maxN); replace hmx : _ ≤ 17592186044416 := hmx; cbv)
    | (intro _; cbv)
  refine loop_up mixed hP hA (k) (fun i => ∀ j, j < i → ¬ at' < T.be j) [4, 5, 8, 9, 10, 11, 12, 13, 14, 15, 16, 17, 18] (fun i => [(8, .dv (.int .i64 (ofN i)))]) (fun _ => [.vec k 8 (fun x f => .dv (GT x f)), .blk [.one (.dv (.int .i64 at'))]]) (fun j hj => absurd hj (Nat.not_lt_zero j)) ?_ fun Nx i hN hi hp => ?_
  · exact Ent.env (by cbv; simp [hF])
  cbv
  repeat' first
    | (refine Chk.mk trivial ?_; cbv)
    | (refine bc_true (by first | assumption | (simp (disch := omega) only [hF, natc, w64_in, decide_eq_true_eq, decide_eq_false_iff_not, Int.toNat_natCast, Bool.not_eq_true', Bool.not_eq_false', not_true_eq_false, not_false_eq_true, Int.not_lt, Int.not_le, Bool.and_eq_true, Bool.or_eq_true, Int.ofNat_lt, Int.ofNat_le, Int.natCast_nonneg, Int.toNat_zero, Int.toNat_one, Classical.not_not, beq_self_eq_true, true_and, and_true]; first | done | assumption | omega | (simp only [natc] at *; omega))) ?_; cbv)
    | (refine bc_false (by first | assumption | (simp (disch := omega) only [hF, natc, w64_in, decide_eq_true_eq, decide_eq_false_iff_not, Int.toNat_natCast, Bool.not_eq_true', Bool.not_eq_false', not_true_eq_false, not_false_eq_true, Int.not_lt, Int.not_le, Bool.and_eq_true, Bool.or_eq_true, Int.ofNat_lt, Int.ofNat_le, Int.natCast_nonneg, Int.toNat_zero, Int.toNat_one, Classical.not_not, beq_self_eq_true, true_and, and_true]; first | done | assumption | omega | (simp only [natc] at *; omega))) ?_; cbv)
    | (refine bc_split (fun h => ?_) (fun h => ?_) <;> (try simp (disch := omega) only [hF, natc, w64_in, decide_eq_true_eq, decide_eq_false_iff_not, Int.toNat_natCast, Bool.not_eq_true', Bool.not_eq_false', not_true_eq_false, not_false_eq_true, Int.not_lt, Int.not_le, Bool.and_eq_true, Bool.or_eq_true, Int.ofNat_lt, Int.ofNat_le, Int.natCast_nonneg, Int.toNat_zero, Int.toNat_one, Classical.not_not, beq_self_eq_true, true_and, and_true] at h) <;> cbv)
    | (refine IdxVC.mk (by simp (disch := omega) only [hF, natc, w64_in, decide_eq_true_eq, decide_eq_false_iff_not, Int.toNat_natCast, Bool.not_eq_true', Bool.not_eq_false', not_true_eq_false, not_false_eq_true, Int.not_lt, Int.not_le, Bool.and_eq_true, Bool.or_eq_true, Int.ofNat_lt, Int.ofNat_le, Int.natCast_nonneg, Int.toNat_zero, Int.toNat_one, Classical.not_not, beq_self_eq_true, true_and, and_true]; first | done | omega | (simp only [natc] at *; omega)) (fun kx hk hk2 => ?_); simp (disch := omega) only [hF, natc, w64_in, decide_eq_true_eq, decide_eq_false_iff_not, Int.toNat_natCast, Bool.not_eq_true', Bool.not_eq_false', not_true_eq_false, not_false_eq_true, Int.not_lt, Int.not_le, Bool.and_eq_true, Bool.or_eq_true, Int.ofNat_lt, Int.ofNat_le, Int.natCast_nonneg, Int.toNat_zero, Int.toNat_one, Classical.not_not, beq_self_eq_true, true_and, and_true] at hk; (try obtain rfl : kx = 0 := hk); (try obtain rfl : i = kx := hk.symm); cbv)
    | (simp (maxSteps := 3000000) (disch := assumption) only [T.h0, T.h1, T.h2, T.h3, T.h4, T.h5, T.h6, T.h7]; cbv)
    | (refine Chk.mk (by simp (disch := omega) only [maxN, hF, natc, w64_in, decide_eq_true_eq, decide_eq_false_iff_not, Int.toNat_natCast, Bool.not_eq_true', Bool.not_eq_false', not_true_eq_false, not_false_eq_true, Int.not_lt, Int.not_le, Bool.and_eq_true, Bool.or_eq_true, Int.ofNat_lt, Int.ofNat_le, Int.natCast_nonneg, Int.toNat_zero, Int.toNat_one, Classical.not_not, beq_self_eq_true, true_and, and_true]; first | done | assumption | omega | (simp only [natc] at *; omega)) ?_; cbv)
    | (intro (hmx : _ ≤ maxN); replace hmx : _ ≤ 17592186044416 := hmx; cbv)
    | (intro _; cbv)
    | (refine call_at hP [1] code_order_Longest_c1 (hc i) rfl ?_ ?_ ?_; (focus ((repeat' (first | exact trivial | exact rfl | (intro _ _ _ _; exact rfl) | refine And.intro ?_ ?_)); done)); (focus (cbv; (try simp); done)); rintro _ _ ⟨rfl, rfl⟩ _; cbv)
  · subst hQ
    exact ⟨_, _, Ent.refl _ _, ⟨_, .inr ⟨i, by assumption, by simp only [hF], (hD' i).1 (by assumption), hp⟩, rfl⟩, rfl⟩
  · refine hN _ (by assumption) (below_succ hp (fun h' => by have := (hD' i).2 h'; simp_all)) (Ent.env (by cbv; simp (disch := omega) [hF, natc, w64_in]))
  · subst hQ
    exact ⟨_, _, Ent.refl _ _, ⟨_, .inl ⟨rfl, fun j hj => hp j (by omega)⟩, rfl⟩, rfl⟩

end Go.Proofs.Ytophlodlencgiaa

namespace Go.Proofs.Ytophlodlencgiaa
open Go.V
set_option linter.unusedVariables false
set_option linter.unusedSimpArgs false
set_option maxRecDepth 100000
set_option maxHeartbeats 8000000

theorem ok_DeleteFunc {k : Nat} {GT : Nat → Nat → DV} (T : Ents k GT) (at' : Int) (hk1000 : k ≤ 1000) :
    CallOK (O := Ob) PR n_slices_DeleteFunc_Sdiary_Entry_diary_Entry [.vec 0, .fn n_order_Longest_c1 [.ptr 1 0]] [.vec k 8 (fun x f => .dv (GT x f)), .blk [.one (.dv (.int .i64 at'))]]
      fun r m => r = .dv (.seq (pick (fun y => decide (T.be y ≤ at')) k).length 8 (fun x f => GT ((pick (fun y => decide (T.be y ≤ at')) k).getD x 0) f)) ∧ m = [.gone, .blk [.one (.dv (.int .i64 at'))]] := by
  have hi := ok_IndexV T at'
  obtain ⟨D, hD⟩ : ∃ D : Nat → Bool, ∀ i, D i = decide (at' < T.be i) := ⟨_, fun _ => rfl⟩
  have hc : ∀ i, CallOK (O := Ob) PR n_order_Longest_c1 [.agg (T.row i), .ptr 0 0] [.blk [.one (.dv (.int .i64 at'))]] fun r m => r = .dv (.bool (D i)) ∧ m = [.blk [.one (.dv (.int .i64 at'))]] := fun i => hD i ▸ ok_Longest_c1 _ _ _ _ _ _ _ _ _ _
  generalize hp : (fun y => decide (T.be y ≤ at')) = p
  have hpD : ∀ i, p i = !D i := fun i => by rw [hD, ← hp]; simp only [← decide_not, Int.not_lt]
  have hDp : ∀ i, D i = true ↔ p i = false := fun i => by rw [hpD]; simp
  have hfi : ∀ z, firstI k (fun y => at' < T.be y) z → (z = -1 ∧ ∀ i, i < k → p i = true) ∨ ∃ i : Nat, i < k ∧ z = i ∧ p i = false ∧ ∀ j, j < i → p j = true := by
    intro z hz
    rcases hz with ⟨h1, h2⟩ | ⟨i, h1, h2, h3, h4⟩
    · exact .inl ⟨h1, fun i hi => by have := h2 i hi; rw [← hp]; simp; omega⟩
    · exact .inr ⟨i, h1, h2, by rw [← hp]; simp; exact h3, fun j hj => by have := h4 j hj; rw [← hp]; simp; omega⟩
  clear hD hp
  obtain ⟨cn, hcn⟩ : ∃ c : Nat → Nat, ∀ i, c i = (pick p i).length := ⟨_, fun _ => rfl⟩
  obtain ⟨sl, hsl⟩ : ∃ s : Nat → Nat, ∀ i, s i = (pick p k).getD i 0 := ⟨_, fun _ => rfl⟩
  have hcl : ∀ i, cn i ≤ i := fun i => by rw [hcn]; exact pick_len p i
  have hcs : ∀ i, cn (i + 1) = if p i then cn i + 1 else cn i := fun i => by rw [hcn, hcn, pick]; split <;> simp
  have hnx : ∀ i, i < k → p i = true → sl (cn i) = i := fun i hi h => by rw [hsl, hcn]; exact pick_next p hi h
  have hal : ∀ i, i ≤ k → (∀ j, j < i → p j = true) → cn i = i ∧ ∀ j, j < i → sl j = j := fun i hi h => ⟨by rw [hcn]; exact pick_all p i h, fun j hj => by rw [hsl]; exact pick_all_at p hi h hj⟩
  have eG : (fun (x f : Nat) => GT ((pick p k).getD x 0) f) = fun x f => GT (sl x) f := by funext x f; rw [hsl]
  rw [eG, ← hcn]
  clear eG hsl hcn
  refine fn_walkv mixed fn_slices_DeleteFunc_Sdiary_Entry_diary_Entry (Ent.refl _ _) fun bin cmp un conv bnot beq band sel isel ofN toN inb nz nneg lt le room' slb add sub sbin scmp slen sget ssub addk pc pb pi pf ps mkok min_ ig aeq P hP hA hF Q hQ => ?_
  have hend : ∀ (W : Nat → Nat → SV) (c : Option Nat) (lo r : Nat) (M : List (Chunk Ob)), lo = 0 → r = cn k → (∀ x f, x < cn k → f < 8 → W x f = .dv (GT (sl x) f)) → Q (.win 0 lo r c 8) (.vec k 8 W :: .blk [.one (.dv (.int .i64 at'))] :: M) := by
    intro W c lo r M hlo hr hW
    subst hQ hlo hr
    exact leaf_win (m' := [.gone, .blk [.one (.dv (.int .i64 at'))]]) 0 (fun x f => GT (sl x) f) rfl (by have := hcl k; omega) (fun x f hx hf => by rw [Nat.zero_add]; exact hW x f hx hf) [0, 1] rfl rfl ⟨trivial, ⟨rfl, trivial⟩, trivial⟩ ⟨rfl, rfl⟩
  have hall : (∀ j, j < k → p j = true) → ∀ M, Q (.vec 0) (.vec k 8 (fun x f => .dv (GT x f)) :: .blk [.one (.dv (.int .i64 at'))] :: M) := by
    intro h M
    obtain ⟨h1, h2⟩ := hal k (Nat.le_refl _) h
    subst hQ
    refine ⟨.dv (.seq (cn k) 8 (fun x f => GT (sl x) f)), [.gone, .blk [.one (.dv (.int .i64 at'))]], ?_, rfl, rfl⟩
    refine (Ent.frz 0 (fun x f => GT (sl x) f) rfl fun i f hi hf => by rw [h2 i hi]).trans (Ent.ren (s' := ⟨[.dv (.seq (cn k) 8 (fun x f => GT (sl x) f))], _⟩) [0, 1] rfl rfl ⟨trivial, ⟨rfl, trivial⟩, trivial⟩ ⟨?_, trivial⟩)
    rw [h1]; rfl
  clear hQ
  cbv
  refine call_at hP [0, 1] code_slices_IndexFunc_Sdiary_Entry_diary_Entry hi rfl ⟨⟨rfl, rfl, fun _ _ _ _ => rfl⟩, ⟨rfl, trivial⟩, trivial⟩ ⟨rfl, rfl, trivial⟩ ?_
  rintro _ _ ⟨⟨z, hz, rfl⟩, rfl⟩ _
  cbv
  rcases hfi z hz with ⟨rfl, hz1⟩ | ⟨i0, hi0, hz1, hz2, hz3⟩
  · cbv
    repeat' first
      | (refine Chk.mk trivial ?_; cbv)
      | (refine bc_true (by first | assumption | (simp (disch := omega) only [hF, natc, w64_in, decide_eq_true_eq, decide_eq_false_iff_not, Int.toNat_natCast, Bool.not_eq_true', Bool.not_eq_false', not_true_eq_false, not_false_eq_true, Int.not_lt, Int.not_le, Bool.and_eq_true, Bool.or_eq_true, Int.ofNat_lt, Int.ofNat_le, Int.natCast_nonneg, Int.toNat_zero, Int.toNat_one, Classical.not_not, beq_self_eq_true, true_and, and_true]; first | done | assumption | omega | (simp only [natc] at *; omega))) ?_; cbv)
      | (refine bc_false (by first | assumption | (simp (disch := omega) only [hF, natc, w64_in, decide_eq_true_eq, decide_eq_false_iff_not, Int.toNat_natCast, Bool.not_eq_true', Bool.not_eq_false', not_true_eq_false, not_false_eq_true, Int.not_lt, Int.not_le, Bool.and_eq_true, Bool.or_eq_true, Int.ofNat_lt, Int.ofNat_le, Int.natCast_nonneg, Int.toNat_zero, Int.toNat_one, Classical.not_not, beq_self_eq_true, true_and, and_true]; first | done | assumption | omega | (simp only [natc] at *; omega))) ?_; cbv)
      | (refine bc_split (fun h => ?_) (fun h => ?_) <;> (try simp (disch := omega) only [hF, natc, w64_in, decide_eq_true_eq, decide_eq_false_iff_not, Int.toNat_natCast, Bool.not_eq_true', Bool.not_eq_false', not_true_eq_false, not_false_eq_true, Int.not_lt, Int.not_le, Bool.and_eq_true, Bool.or_eq_true, Int.ofNat_lt, Int.ofNat_le, Int.natCast_nonneg, Int.toNat_zero, Int.toNat_one, Classical.not_not, beq_self_eq_true, true_and, and_true] at h) <;> cbv)
      | (refine IdxVC.mk (by simp (disch := omega) only [hF, natc, w64_in, decide_eq_true_eq, decide_eq_false_iff_not, Int.toNat_natCast, Bool.not_eq_true', Bool.not_eq_false', not_true_eq_false, not_false_eq_true, Int.not_lt, Int.not_le, Bool.and_eq_true, Bool.or_eq_true, Int.ofNat_lt, Int.ofNat_le, Int.natCast_nonneg, Int.toNat_zero, Int.toNat_one, Classical.not_not, beq_self_eq_true, true_and, and_true]; first | done | omega | (simp only [natc] at *; omega)) (fun kx hk hk2 => ?_); simp (disch := omega) only [hF, natc, w64_in, decide_eq_true_eq, decide_eq_false_iff_not, Int.toNat_natCast, Bool.not_eq_true', Bool.not_eq_false', not_true_eq_false, not_false_eq_true, Int.not_lt, Int.not_le, Bool.and_eq_true, Bool.or_eq_true, Int.ofNat_lt, Int.ofNat_le, Int.natCast_nonneg, Int.toNat_zero, Int.toNat_one, Classical.not_not, beq_self_eq_true, true_and, and_true] at hk; (try obtain rfl : kx = 0 := hk); cbv)
      | (refine Chk.mk (by simp (disch := omega) only [maxN, hF, natc, w64_in, decide_eq_true_eq, decide_eq_false_iff_not, Int.toNat_natCast, Bool.not_eq_true', Bool.not_eq_false', not_true_eq_false, not_false_eq_true, Int.not_lt, Int.not_le, Bool.and_eq_true, Bool.or_eq_true, Int.ofNat_lt, Int.ofNat_le, Int.natCast_nonneg, Int.toNat_zero, Int.toNat_one, Classical.not_not, beq_self_eq_true, true_and, and_true]; first | done | assumption | omega | (simp only [natc] at *; omega)) ?_; cbv)
      | (intro (hmx : _ ≤ maxN); replace hmx : _ ≤ 17592186044416 := hmx; cbv)
      | (intro _; cbv)
    exact hall hz1 _
  have hz0 : z = ofN i0 := by simp only [hF]; exact hz1
  subst hz0
  cbv
  repeat' first
    | (refine Chk.mk trivial ?_; cbv)
    | (refine bc_true (by first | assumption | (simp (disch := omega) only [hF, natc, w64_in, decide_eq_true_eq, decide_eq_false_iff_not, Int.toNat_natCast, Bool.not_eq_true', Bool.not_eq_false', not_true_eq_false, not_false_eq_true, Int.not_lt, Int.not_le, Bool.and_eq_true, Bool.or_eq_true, Int.ofNat_lt, Int.ofNat_le, Int.natCast_nonneg, Int.toNat_zero, Int.toNat_one, Classical.not_not, beq_self_eq_true, true_and, and_true]; first | done | assumption | omega | (simp only [natc] at *; omega))) ?_; cbv)
    | (refine bc_false (by first | assumption | (simp (disch := omega) only [hF, natc, w64_in, decide_eq_true_eq, decide_eq_false_iff_not, Int.toNat_natCast, Bool.not_eq_true', Bool.not_eq_false', not_true_eq_false, not_false_eq_true, Int.not_lt, Int.not_le, Bool.and_eq_true, Bool.or_eq_true, Int.ofNat_lt, Int.ofNat_le, Int.natCast_nonneg, Int.toNat_zero, Int.toNat_one, Classical.not_not, beq_self_eq_true, true_and, and_true]; first | done | assumption | omega | (simp only [natc] at *; omega))) ?_; cbv)
    | (refine bc_split (fun h => ?_) (fun h => ?_) <;> (try simp (disch := omega) only [hF, natc, w64_in, decide_eq_true_eq, decide_eq_false_iff_not, Int.toNat_natCast, Bool.not_eq_true', Bool.not_eq_false', not_true_eq_false, not_false_eq_true, Int.not_lt, Int.not_le, Bool.and_eq_true, Bool.or_eq_true, Int.ofNat_lt, Int.ofNat_le, Int.natCast_nonneg, Int.toNat_zero, Int.toNat_one, Classical.not_not, beq_self_eq_true, true_and, and_true] at h) <;> cbv)
    | (refine IdxVC.mk (by simp (disch := omega) only [hF, natc, w64_in, decide_eq_true_eq, decide_eq_false_iff_not, Int.toNat_natCast, Bool.not_eq_true', Bool.not_eq_false', not_true_eq_false, not_false_eq_true, Int.not_lt, Int.not_le, Bool.and_eq_true, Bool.or_eq_true, Int.ofNat_lt, Int.ofNat_le, Int.natCast_nonneg, Int.toNat_zero, Int.toNat_one, Classical.not_not, beq_self_eq_true, true_and, and_true]; first | done | omega | (simp only [natc] at *; omega)) (fun kx hk hk2 => ?_); simp (disch := omega) only [hF, natc, w64_in, decide_eq_true_eq, decide_eq_false_iff_not, Int.toNat_natCast, Bool.not_eq_true', Bool.not_eq_false', not_true_eq_false, not_false_eq_true, Int.not_lt, Int.not_le, Bool.and_eq_true, Bool.or_eq_true, Int.ofNat_lt, Int.ofNat_le, Int.natCast_nonneg, Int.toNat_zero, Int.toNat_one, Classical.not_not, beq_self_eq_true, true_and, and_true] at hk; (try obtain rfl : kx = 0 := hk); cbv)
    | (refine Chk.mk (by simp (disch := omega) only [maxN, hF, natc, w64_in, decide_eq_true_eq, decide_eq_false_iff_not, Int.toNat_natCast, Bool.not_eq_true', Bool.not_eq_false', not_true_eq_false, not_false_eq_true, Int.not_lt, Int.not_le, Bool.and_eq_true, Bool.or_eq_true, Int.ofNat_lt, Int.ofNat_le, Int.natCast_nonneg, Int.toNat_zero, Int.toNat_one, Classical.not_not, beq_self_eq_true, true_and, and_true]; first | done | assumption | omega | (simp only [natc] at *; omega)) ?_; cbv)
    | (intro (hmx : _ ≤ maxN); replace hmx : _ ≤ 17592186044416 := hmx; cbv)
    | (intro _; cbv)
  refine loop_ix mixed hP hA (ι := Nat × Nat × (Nat → Nat → DV)) (fun x => k - x.1) (fun x => x.1 ≤ k ∧ x.2.1 = cn x.1 ∧ (∀ y f, y < x.2.1 → f < 8 → x.2.2 y f = GT (sl y) f) ∧ ∀ y f, x.1 ≤ y → y < k → f < 8 → x.2.2 y f = GT y f) [5, 6, 7, 16, 17, 18, 19, 20, 21, 22, 23, 24, 25, 26, 27, 28, 29, 30, 31, 32, 33, 34, 35]
    (fun x => [(5, .dv (.int .i64 (ofN x.2.1))), (6, .dv (.int .i64 (ofN x.1)))]) (fun x => [.vec k 8 (fun y f => .dv (x.2.2 y f)), .blk [.one (.dv (.int .i64 at'))]]) (i0 + 1, i0, GT) ?_ ?_ fun Nx => ?_
  · obtain ⟨h1, h2⟩ := hal i0 (by omega) hz3
    exact ⟨by show i0 + 1 ≤ k; omega, by show i0 = cn (i0 + 1); rw [hcs, hz2, h1]; rfl, fun y f hy _ => by rw [h2 y hy], fun _ _ _ _ _ => rfl⟩
  · exact Ent.env (by cbv; simp (disch := omega) [hF, natc, w64_in])
  rintro ⟨j, a, W⟩
  intro hN hp'
  cbv
  obtain ⟨hj, ha, hW1, hW2⟩ := hp'
  have hj : j ≤ k := hj
  have ha : a = cn j := ha
  have hW1 : ∀ y f, y < a → f < 8 → W y f = GT (sl y) f := hW1
  have hW2 : ∀ y f, j ≤ y → y < k → f < 8 → W y f = GT y f := hW2
  have haj : a ≤ j := ha ▸ hcl j
  by_cases hlt : j < k
  · have w0 : W j 0 = .int .i64 (T.co j) := by rw [hW2 j 0 (Nat.le_refl _) hlt (by omega), T.h0 j hlt]
    have w1 : W j 1 = .int .i64 (T.pe j) := by rw [hW2 j 1 (Nat.le_refl _) hlt (by omega), T.h1 j hlt]
    have w2 : W j 2 = .int .i64 (T.kd j) := by rw [hW2 j 2 (Nat.le_refl _) hlt (by omega), T.h2 j hlt]
    have w3 : W j 3 = .int .i64 (T.be j) := by rw [hW2 j 3 (Nat.le_refl _) hlt (by omega), T.h3 j hlt]
    have w4 : W j 4 = .int .i64 (T.en j) := by rw [hW2 j 4 (Nat.le_refl _) hlt (by omega), T.h4 j hlt]
    have w5 : W j 5 = .int .i64 (T.er j) := by rw [hW2 j 5 (Nat.le_refl _) hlt (by omega), T.h5 j hlt]
    have w6 : W j 6 = .seq (T.m j) 1 (T.g j) := by rw [hW2 j 6 (Nat.le_refl _) hlt (by omega), T.h6 j hlt]
    have w7 : W j 7 = .int .i64 (T.ha j) := by rw [hW2 j 7 (Nat.le_refl _) hlt (by omega), T.h7 j hlt]
    cbv
    repeat' first
      | (refine Chk.mk trivial ?_; cbv)
      | (refine bc_true (by first | assumption | (simp (disch := omega) only [hF, natc, w64_in, decide_eq_true_eq, decide_eq_false_iff_not, Int.toNat_natCast, Bool.not_eq_true', Bool.not_eq_false', not_true_eq_false, not_false_eq_true, Int.not_lt, Int.not_le, Bool.and_eq_true, Bool.or_eq_true, Int.ofNat_lt, Int.ofNat_le, Int.natCast_nonneg, Int.toNat_zero, Int.toNat_one, Classical.not_not, beq_self_eq_true, true_and, and_true]; first | done | assumption | omega | (simp only [natc] at *; omega))) ?_; cbv)
      | (refine bc_false (by first | assumption | (simp (disch := omega) only [hF, natc, w64_in, decide_eq_true_eq, decide_eq_false_iff_not, Int.toNat_natCast, Bool.not_eq_true', Bool.not_eq_false', not_true_eq_false, not_false_eq_true, Int.not_lt, Int.not_le, Bool.and_eq_true, Bool.or_eq_true, Int.ofNat_lt, Int.ofNat_le, Int.natCast_nonneg, Int.toNat_zero, Int.toNat_one, Classical.not_not, beq_self_eq_true, true_and, and_true]; first | done | assumption | omega | (simp only [natc] at *; omega))) ?_; cbv)
      | (refine bc_split (fun h => ?_) (fun h => ?_) <;> (try simp (disch := omega) only [hF, natc, w64_in, decide_eq_true_eq, decide_eq_false_iff_not, Int.toNat_natCast, Bool.not_eq_true', Bool.not_eq_false', not_true_eq_false, not_false_eq_true, Int.not_lt, Int.not_le, Bool.and_eq_true, Bool.or_eq_true, Int.ofNat_lt, Int.ofNat_le, Int.natCast_nonneg, Int.toNat_zero, Int.toNat_one, Classical.not_not, beq_self_eq_true, true_and, and_true] at h) <;> cbv)
      | (refine IdxVC.mk (by simp (disch := omega) only [hF, natc, w64_in, decide_eq_true_eq, decide_eq_false_iff_not, Int.toNat_natCast, Bool.not_eq_true', Bool.not_eq_false', not_true_eq_false, not_false_eq_true, Int.not_lt, Int.not_le, Bool.and_eq_true, Bool.or_eq_true, Int.ofNat_lt, Int.ofNat_le, Int.natCast_nonneg, Int.toNat_zero, Int.toNat_one, Classical.not_not, beq_self_eq_true, true_and, and_true]; first | done | omega | (simp only [natc] at *; omega)) (fun kx hk hk2 => ?_); simp (disch := omega) only [hF, natc, w64_in, decide_eq_true_eq, decide_eq_false_iff_not, Int.toNat_natCast, Bool.not_eq_true', Bool.not_eq_false', not_true_eq_false, not_false_eq_true, Int.not_lt, Int.not_le, Bool.and_eq_true, Bool.or_eq_true, Int.ofNat_lt, Int.ofNat_le, Int.natCast_nonneg, Int.toNat_zero, Int.toNat_one, Classical.not_not, beq_self_eq_true, true_and, and_true] at hk; (try obtain rfl : kx = 0 := hk); (try obtain rfl : j = kx := hk.symm); (try obtain rfl : a = kx := hk.symm); cbv)
      | (rw [w0] <;> first | assumption | cbv)
      | (rw [w1] <;> first | assumption | cbv)
      | (rw [w2] <;> first | assumption | cbv)
      | (rw [w3] <;> first | assumption | cbv)
      | (rw [w4] <;> first | assumption | cbv)
      | (rw [w5] <;> first | assumption | cbv)
      | (rw [w6] <;> first | assumption | cbv)
      | (rw [w7] <;> first | assumption | cbv)
      | (refine Chk.mk (by simp (disch := omega) only [maxN, hF, natc, w64_in, decide_eq_true_eq, decide_eq_false_iff_not, Int.toNat_natCast, Bool.not_eq_true', Bool.not_eq_false', not_true_eq_false, not_false_eq_true, Int.not_lt, Int.not_le, Bool.and_eq_true, Bool.or_eq_true, Int.ofNat_lt, Int.ofNat_le, Int.natCast_nonneg, Int.toNat_zero, Int.toNat_one, Classical.not_not, beq_self_eq_true, true_and, and_true]; first | done | assumption | omega | (simp only [natc] at *; omega)) ?_; cbv)
      | (intro (hmx : _ ≤ maxN); replace hmx : _ ≤ 17592186044416 := hmx; cbv)
      | (intro _; cbv)
      | (refine call_at hP [1] code_order_Longest_c1 (hc j) rfl ?_ ?_ ?_; (focus ((repeat' (first | exact trivial | exact rfl | (intro _ _ _ _; exact rfl) | refine And.intro ?_ ?_)); done)); (focus (cbv; (try simp); done)); rintro _ _ ⟨rfl, rfl⟩ _; cbv)
    · have hpj : p j = true := by rw [hpD, h]; rfl
      have hnj := hnx j hlt hpj
      rw [← ha] at hnj
      have hup : ∀ y f, f < 8 → updRow (fun y f => .dv (W y f)) a 0 (T.row j) y f = .dv (if y = a then GT j f else W y f) := by
        intro y f hf
        simp only [updRow, Nat.not_lt_zero, if_false, Nat.sub_zero]
        split
        · rcases (by omega : f = 0 ∨ f = 1 ∨ f = 2 ∨ f = 3 ∨ f = 4 ∨ f = 5 ∨ f = 6 ∨ f = 7) with rfl | rfl | rfl | rfl | rfl | rfl | rfl | rfl
          all_goals simp only [Ents.row, lget, T.h0 j hlt, T.h1 j hlt, T.h2 j hlt, T.h3 j hlt, T.h4 j hlt, T.h5 j hlt, T.h6 j hlt, T.h7 j hlt]
        · rfl
      refine hN _ (j + 1, a + 1, fun y f => if y = a then GT j f else W y f) ⟨hlt, by show a + 1 = cn (j + 1); rw [hcs, hpj, ha]; rfl, fun y f hy hf => ?_, fun y f h1 h2 h3 => ?_⟩ (by show k - (j + 1) < k - j; omega)
        (Ent.ren [0, 1] rfl rfl ⟨⟨rfl, rfl, fun y f _ hf => hup y f hf⟩, ⟨rfl, trivial⟩, trivial⟩ (by cbv; simp (disch := omega) [hF, natc, w64_in]))
      · show (if y = a then GT j f else W y f) = _
        split
        · rename_i e
          subst e
          rw [hnj]
        · exact hW1 y f (by have : y < a + 1 := hy; omega) hf
      · show (if y = a then GT j f else W y f) = _
        have h1 : j + 1 ≤ y := h1
        rw [if_neg (by omega)]
        exact hW2 y f (by omega) h2 h3
    · have hpj : p j = false := (hDp j).1 h
      exact hN _ (j + 1, a, W) ⟨hlt, by show a = cn (j + 1); rw [hcs, hpj, ha]; rfl, hW1, fun y f h1 h2 h3 => hW2 y f (by have : j + 1 ≤ y := h1; omega) h2 h3⟩ (by show k - (j + 1) < k - j; omega)
        (Ent.ren [0, 1] rfl rfl (by repeat' (first | exact trivial | exact rfl | (intro _ _ _ _; exact rfl) | refine And.intro ?_ ?_)) (by cbv; simp (disch := omega) [hF, natc, w64_in]))
  · have hjk : j = k := by omega
    subst hjk
    cbv
    repeat' first
      | (refine Chk.mk trivial ?_; cbv)
      | (refine bc_true (by first | assumption | (simp (disch := omega) only [hF, natc, w64_in, decide_eq_true_eq, decide_eq_false_iff_not, Int.toNat_natCast, Bool.not_eq_true', Bool.not_eq_false', not_true_eq_false, not_false_eq_true, Int.not_lt, Int.not_le, Bool.and_eq_true, Bool.or_eq_true, Int.ofNat_lt, Int.ofNat_le, Int.natCast_nonneg, Int.toNat_zero, Int.toNat_one, Classical.not_not, beq_self_eq_true, true_and, and_true]; first | done | assumption | omega | (simp only [natc] at *; omega))) ?_; cbv)
      | (refine bc_false (by first | assumption | (simp (disch := omega) only [hF, natc, w64_in, decide_eq_true_eq, decide_eq_false_iff_not, Int.toNat_natCast, Bool.not_eq_true', Bool.not_eq_false', not_true_eq_false, not_false_eq_true, Int.not_lt, Int.not_le, Bool.and_eq_true, Bool.or_eq_true, Int.ofNat_lt, Int.ofNat_le, Int.natCast_nonneg, Int.toNat_zero, Int.toNat_one, Classical.not_not, beq_self_eq_true, true_and, and_true]; first | done | assumption | omega | (simp only [natc] at *; omega))) ?_; cbv)
      | (refine bc_split (fun h => ?_) (fun h => ?_) <;> (try simp (disch := omega) only [hF, natc, w64_in, decide_eq_true_eq, decide_eq_false_iff_not, Int.toNat_natCast, Bool.not_eq_true', Bool.not_eq_false', not_true_eq_false, not_false_eq_true, Int.not_lt, Int.not_le, Bool.and_eq_true, Bool.or_eq_true, Int.ofNat_lt, Int.ofNat_le, Int.natCast_nonneg, Int.toNat_zero, Int.toNat_one, Classical.not_not, beq_self_eq_true, true_and, and_true] at h) <;> cbv)
      | (refine IdxVC.mk (by simp (disch := omega) only [hF, natc, w64_in, decide_eq_true_eq, decide_eq_false_iff_not, Int.toNat_natCast, Bool.not_eq_true', Bool.not_eq_false', not_true_eq_false, not_false_eq_true, Int.not_lt, Int.not_le, Bool.and_eq_true, Bool.or_eq_true, Int.ofNat_lt, Int.ofNat_le, Int.natCast_nonneg, Int.toNat_zero, Int.toNat_one, Classical.not_not, beq_self_eq_true, true_and, and_true]; first | done | omega | (simp only [natc] at *; omega)) (fun kx hk hk2 => ?_); simp (disch := omega) only [hF, natc, w64_in, decide_eq_true_eq, decide_eq_false_iff_not, Int.toNat_natCast, Bool.not_eq_true', Bool.not_eq_false', not_true_eq_false, not_false_eq_true, Int.not_lt, Int.not_le, Bool.and_eq_true, Bool.or_eq_true, Int.ofNat_lt, Int.ofNat_le, Int.natCast_nonneg, Int.toNat_zero, Int.toNat_one, Classical.not_not, beq_self_eq_true, true_and, and_true] at hk; (try obtain rfl : kx = 0 := hk); cbv)
      | (refine Chk.mk (by simp (disch := omega) only [maxN, hF, natc, w64_in, decide_eq_true_eq, decide_eq_false_iff_not, Int.toNat_natCast, Bool.not_eq_true', Bool.not_eq_false', not_true_eq_false, not_false_eq_true, Int.not_lt, Int.not_le, Bool.and_eq_true, Bool.or_eq_true, Int.ofNat_lt, Int.ofNat_le, Int.natCast_nonneg, Int.toNat_zero, Int.toNat_one, Classical.not_not, beq_self_eq_true, true_and, and_true]; first | done | assumption | omega | (simp only [natc] at *; omega)) ?_; cbv)
      | (intro (hmx : _ ≤ maxN); replace hmx : _ ≤ 17592186044416 := hmx; cbv)
      | (intro _; cbv)
    refine hend _ _ _ _ _ (by simp [hF]) (by simp [hF, ha]) fun x f hx hf => ?_
    have hx' : x < a := by omega
    show cpyAt (toN (ofN a)) _ (fun y f => .dv (W y f)) _ x f = _
    simp only [cpyAt]
    rw [if_neg (by simp only [hF, natc, Int.toNat_natCast]; omega), hW1 x f hx' hf]

end Go.Proofs.Ytophlodlencgiaa

namespace Go.Proofs.Ytophlodlencgiaa
open Go.V
set_option linter.unusedVariables false
set_option linter.unusedSimpArgs false
set_option maxRecDepth 100000
set_option maxHeartbeats 8000000

theorem ok_CloneE {k : Nat} {GT : Nat → Nat → DV} (hk : k ≤ 1000) : CallOK (O := Ob) PR n_slices_Clone_Sdiary_Entry_diary_Entry [.dv (.seq k 8 GT)] [] fun r m => r = .vec 0 ∧ m = [.vec k 8 (fun x f => .dv (GT x f))] := by
  refine fn_walkv mixed fn_slices_Clone_Sdiary_Entry_diary_Entry (Ent.refl _ _) fun bin cmp un conv bnot beq band sel isel ofN toN inb nz nneg lt le room' slb add sub sbin scmp slen sget ssub addk pc pb pi pf ps mkok min_ ig aeq P hP hA hF Q hQ => ?_
  have hap : ∀ x f, x < k → f < 8 → appAt ⟨bin, cmp, un, conv, bnot, beq, band, sel, isel, ofN, toN, inb, nz, nneg, lt, le, room', slb, add, sub, sbin, scmp, slen, sget, ssub, addk, pc, pb, pi, pf, ps, mkok, min_, ig, aeq⟩ 0 (listAt 8 []) (dvAt GT) x f = .dv (GT x f) := by
    intro x f hx hf
    simp only [appAt, dvAt, hF, Nat.not_lt_zero, if_false, Nat.sub_zero]
  cbv
  intro b hb
  cbv
  repeat' first
    | (refine Chk.mk trivial ?_; cbv)
    | (refine bc_true (by first | assumption | (simp (disch := omega) only [hF, natc, w64_in, decide_eq_true_eq, decide_eq_false_iff_not, Int.toNat_natCast, Bool.not_eq_true', Bool.not_eq_false', not_true_eq_false, not_false_eq_true, Int.not_lt, Int.not_le, Bool.and_eq_true, Bool.or_eq_true, Int.ofNat_lt, Int.ofNat_le, Int.natCast_nonneg, Int.toNat_zero, Int.toNat_one, Classical.not_not, beq_self_eq_true, true_and, and_true]; first | done | assumption | omega | (simp only [natc] at *; omega))) ?_; cbv)
    | (refine bc_false (by first | assumption | (simp (disch := omega) only [hF, natc, w64_in, decide_eq_true_eq, decide_eq_false_iff_not, Int.toNat_natCast, Bool.not_eq_true', Bool.not_eq_false', not_true_eq_false, not_false_eq_true, Int.not_lt, Int.not_le, Bool.and_eq_true, Bool.or_eq_true, Int.ofNat_lt, Int.ofNat_le, Int.natCast_nonneg, Int.toNat_zero, Int.toNat_one, Classical.not_not, beq_self_eq_true, true_and, and_true]; first | done | assumption | omega | (simp only [natc] at *; omega))) ?_; cbv)
    | (refine bc_split (fun h => ?_) (fun h => ?_) <;> (try simp (disch := omega) only [hF, natc, w64_in, decide_eq_true_eq, decide_eq_false_iff_not, Int.toNat_natCast, Bool.not_eq_true', Bool.not_eq_false', not_true_eq_false, not_false_eq_true, Int.not_lt, Int.not_le, Bool.and_eq_true, Bool.or_eq_true, Int.ofNat_lt, Int.ofNat_le, Int.natCast_nonneg, Int.toNat_zero, Int.toNat_one, Classical.not_not, beq_self_eq_true, true_and, and_true] at h) <;> cbv)
    | (refine IdxVC.mk (by simp (disch := omega) only [hF, natc, w64_in, decide_eq_true_eq, decide_eq_false_iff_not, Int.toNat_natCast, Bool.not_eq_true', Bool.not_eq_false', not_true_eq_false, not_false_eq_true, Int.not_lt, Int.not_le, Bool.and_eq_true, Bool.or_eq_true, Int.ofNat_lt, Int.ofNat_le, Int.natCast_nonneg, Int.toNat_zero, Int.toNat_one, Classical.not_not, beq_self_eq_true, true_and, and_true]; first | done | omega | (simp only [natc] at *; omega)) (fun kx hk hk2 => ?_); simp (disch := omega) only [hF, natc, w64_in, decide_eq_true_eq, decide_eq_false_iff_not, Int.toNat_natCast, Bool.not_eq_true', Bool.not_eq_false', not_true_eq_false, not_false_eq_true, Int.not_lt, Int.not_le, Bool.and_eq_true, Bool.or_eq_true, Int.ofNat_lt, Int.ofNat_le, Int.natCast_nonneg, Int.toNat_zero, Int.toNat_one, Classical.not_not, beq_self_eq_true, true_and, and_true] at hk; (try obtain rfl : kx = 0 := hk); cbv)
    | (refine Chk.mk (by simp (disch := omega) only [maxN, hF, natc, w64_in, decide_eq_true_eq, decide_eq_false_iff_not, Int.toNat_natCast, Bool.not_eq_true', Bool.not_eq_false', not_true_eq_false, not_false_eq_true, Int.not_lt, Int.not_le, Bool.and_eq_true, Bool.or_eq_true, Int.ofNat_lt, Int.ofNat_le, Int.natCast_nonneg, Int.toNat_zero, Int.toNat_one, Classical.not_not, beq_self_eq_true, true_and, and_true]; first | done | assumption | omega | (simp only [natc] at *; omega)) ?_; cbv)
    | (intro (hmx : _ ≤ maxN); replace hmx : _ ≤ 17592186044416 := hmx; cbv)
    | (intro _; cbv)
  · subst hQ
    obtain rfl : k = 0 := by
      rcases Nat.eq_zero_or_pos k with h0 | h0
      · exact h0
      · have := hb h0; simp_all
    exact ⟨_, _, Ent.nilv 0 8 (fun x f => .dv (GT x f)) rfl, rfl, rfl⟩
  · subst hQ
    refine ⟨_, _, Ent.ren (s' := ⟨[.vec 0], [.vec k 8 (fun x f => .dv (GT x f))]⟩) [1] rfl rfl ⟨⟨by simp only [hF]; omega, rfl, fun x f hx hf => hap x f (by simp only [hF] at hx; omega) hf⟩, trivial⟩ ⟨rfl, trivial⟩, rfl, rfl⟩

/-- The first entries. -/
def Ents.tk {n : Nat} {G : Nat → Nat → DV} (S : Ents n G) (m : Nat) (h : m ≤ n) : Ents m G where
  co := S.co
  pe := S.pe
  kd := S.kd
  be := S.be
  en := S.en
  er := S.er
  m := S.m
  g := S.g
  x := S.x
  ha := S.ha
  h0 i hi := S.h0 i (by omega)
  h1 i hi := S.h1 i (by omega)
  h2 i hi := S.h2 i (by omega)
  h3 i hi := S.h3 i (by omega)
  h4 i hi := S.h4 i (by omega)
  h5 i hi := S.h5 i (by omega)
  h6 i hi := S.h6 i (by omega)
  h7 i hi := S.h7 i (by omega)
  hx i hi := S.hx i (by omega)

/-- Entries by their places. -/
def Ents.sel {n : Nat} {G : Nat → Nat → DV} (S : Ents n G) (c : Nat) (s : Nat → Nat) (h : ∀ i, i < c → s i < n) : Ents c (fun x f => G (s x) f) where
  co i := S.co (s i)
  pe i := S.pe (s i)
  kd i := S.kd (s i)
  be i := S.be (s i)
  en i := S.en (s i)
  er i := S.er (s i)
  m i := S.m (s i)
  g i := S.g (s i)
  x i := S.x (s i)
  ha i := S.ha (s i)
  h0 i hi := S.h0 _ (h i hi)
  h1 i hi := S.h1 _ (h i hi)
  h2 i hi := S.h2 _ (h i hi)
  h3 i hi := S.h3 _ (h i hi)
  h4 i hi := S.h4 _ (h i hi)
  h5 i hi := S.h5 _ (h i hi)
  h6 i hi := S.h6 _ (h i hi)
  h7 i hi := S.h7 _ (h i hi)
  hx i hi := S.hx _ (h i hi)

/-- How many of those that began in time; which. -/
def inTime {k : Nat} {GT : Nat → Nat → DV} (T : Ents k GT) (at' : Int) : List Nat := pick (fun y => decide (T.be y ≤ at')) k

theorem inTime_lt {k : Nat} {GT : Nat → Nat → DV} (T : Ents k GT) (at' : Int) (i : Nat) (h : i < (inTime T at').length) : (inTime T at').getD i 0 < k := by
  refine pick_lt (fun y => decide (T.be y ≤ at')) k _ ?_
  show (inTime T at').getD i 0 ∈ inTime T at'
  rw [List.getD_eq_getElem?_getD, List.getElem?_eq_getElem h]
  exact List.getElem_mem h

/-- Have the first ones an order with what began in time? -/
def fit {n : Nat} {GS : Nat → Nat → DV} (S : Ents n GS) {k : Nat} {GT : Nat → Nat → DV} (T : Ents k GT) (room : Int) (i : Nat) (at' : Int) : Bool :=
  if h : i < n then (witO (S.tk (i + 1) h) (T.sel (inTime T at').length (fun x => (inTime T at').getD x 0) (inTime_lt T at')) room).isSome else false

/-- The greatest number of sent ones that have an order with what began in time. -/
def longest (n : Nat) (fb : Nat → Bool) : Nat → Int
  | 0 => 0
  | i + 1 => if fb i then (i : Int) + 1 else longest n fb i

theorem longest_range (n : Nat) (fb : Nat → Bool) : ∀ i, 0 ≤ longest n fb i ∧ longest n fb i ≤ i
  | 0 => ⟨Int.le_refl 0, Int.le_refl 0⟩
  | i + 1 => by
    have := longest_range n fb i
    simp only [longest]
    split <;> omega

theorem ok_fit {n : Nat} {GS : Nat → Nat → DV} (S : Ents n GS) {k : Nat} {GT : Nat → Nat → DV} (T : Ents k GT) (room : Int) (hN : n + k < 1000) (i : Nat) (hi : i < n) (at' : Int) :
    CallOK (O := Ob) PR n_order_Fits [.dv (.seq (i + 1) 8 GS), .dv (.seq (inTime T at').length 8 (fun x f => GT ((inTime T at').getD x 0) f)), .dv (.int .i64 room)] [] fun r m => r = .dv (.bool (fit S T room i at')) ∧ m = [] := by
  have hl : (inTime T at').length ≤ k := pick_len _ _
  refine CallOK.ent (ok_Fits (S.tk (i + 1) hi) (T.sel (inTime T at').length (fun x => (inTime T at').getD x 0) (inTime_lt T at')) room (by omega)) ?_
  rintro r m ⟨⟨v, rfl, rfl⟩, hm⟩
  exact ⟨_, m, Ent.refl _ _, by rw [fit, dif_pos hi], hm⟩

theorem ok_Longest {n : Nat} {GS : Nat → Nat → DV} (S : Ents n GS) {k : Nat} {GT : Nat → Nat → DV} (T : Ents k GT) (room : Int) (hN : n + k < 1000) :
    CallOK (O := Ob) PR n_order_Longest [.dv (.seq n 8 GS), .dv (.seq k 8 GT), .dv (.int .i64 room)] [] fun r m => (∃ v, v = longest n (fun i => fit S T room i (if S.en i = 0 then S.be i else S.en i)) n ∧ r = .dv (.int .i64 v)) ∧ m = [] := by
  have hcl := ok_CloneE (k := k) (GT := GT) (by omega)
  obtain ⟨C, hC⟩ : ∃ C : Int → Nat, ∀ a, C a = (inTime T a).length := ⟨_, fun _ => rfl⟩
  obtain ⟨GG, hGG⟩ : ∃ G : Int → Nat → Nat → DV, ∀ a, G a = fun x f => GT ((inTime T a).getD x 0) f := ⟨_, fun _ => rfl⟩
  obtain ⟨FB, hFB⟩ : ∃ F : Nat → Int → Bool, ∀ i a, F i a = fit S T room i a := ⟨_, fun _ _ => rfl⟩
  obtain ⟨lo, hlo⟩ : ∃ L : Nat → Int, ∀ i, L i = longest n (fun i => fit S T room i (if S.en i = 0 then S.be i else S.en i)) i := ⟨_, fun _ => rfl⟩
  have hdel : ∀ at', CallOK (O := Ob) PR n_slices_DeleteFunc_Sdiary_Entry_diary_Entry [.vec 0, .fn n_order_Longest_c1 [.ptr 1 0]] [.vec k 8 (fun x f => .dv (GT x f)), .blk [.one (.dv (.int .i64 at'))]] fun r m => r = .dv (.seq (C at') 8 (GG at')) ∧ m = [.gone, .blk [.one (.dv (.int .i64 at'))]] := by
    intro at'
    rw [hC, hGG]
    exact ok_DeleteFunc T at' (by omega)
  have hfit : ∀ i, i < n → ∀ at', CallOK (O := Ob) PR n_order_Fits [.dv (.seq (i + 1) 8 GS), .dv (.seq (C at') 8 (GG at')), .dv (.int .i64 room)] [] fun r m => r = .dv (.bool (FB i at')) ∧ m = [] := by
    intro i hi at'
    rw [hC, hGG, hFB]
    exact ok_fit S T room hN i hi at'
  have hlo0 : lo 0 = 0 := hlo 0
  have hlo1 : ∀ i, lo (i + 1) = if FB i (if S.en i = 0 then S.be i else S.en i) = true then (i : Int) + 1 else lo i := fun i => by rw [hlo, hlo, hFB]; rfl
  rw [← hlo n]
  clear hC hGG hFB hlo
  refine fn_walkv mixed fn_order_Longest (Ent.refl _ _) fun bin cmp un conv bnot beq band sel isel ofN toN inb nz nneg lt le room' slb add sub sbin scmp slen sget ssub addk pc pb pi pf ps mkok min_ ig aeq P hP hA hF Q hQ => ?_
  cbv
  repeat' first
    | (refine Chk.mk trivial ?_; cbv)
    | (refine bc_true (by first | assumption | (simp (disch := omega) only [hF, natc, w64_in, decide_eq_true_eq, decide_eq_false_iff_not, Int.toNat_natCast, Bool.not_eq_true', Bool.not_eq_false', not_true_eq_false, not_false_eq_true, Int.not_lt, Int.not_le, Bool.and_eq_true, Bool.or_eq_true, Int.ofNat_lt, Int.ofNat_le, Int.natCast_nonneg, Int.toNat_zero, Int.toNat_one, Classical.not_not, beq_self_eq_true, true_and, and_true]; first | done | assumption | omega | (simp only [natc] at *; omega))) ?_; cbv)
    | (refine bc_false (by first | assumption | (simp (disch := omega) only [hF, natc, w64_in, decide_eq_true_eq, decide_eq_false_iff_not, Int.toNat_natCast, Bool.not_eq_true', Bool.not_eq_false', not_true_eq_false, not_false_eq_true, Int.not_lt, Int.not_le, Bool.and_eq_true, Bool.or_eq_true, Int.ofNat_lt, Int.ofNat_le, Int.natCast_nonneg, Int.toNat_zero, Int.toNat_one, Classical.not_not, beq_self_eq_true, true_and, and_true]; first | done | assumption | omega | (simp only [natc] at *; omega))) ?_; cbv)
    | (refine bc_split (fun h => ?_) (fun h => ?_) <;> (try simp (disch := omega) only [hF, natc, w64_in, decide_eq_true_eq, decide_eq_false_iff_not, Int.toNat_natCast, Bool.not_eq_true', Bool.not_eq_false', not_true_eq_false, not_false_eq_true, Int.not_lt, Int.not_le, Bool.and_eq_true, Bool.or_eq_true, Int.ofNat_lt, Int.ofNat_le, Int.natCast_nonneg, Int.toNat_zero, Int.toNat_one, Classical.not_not, beq_self_eq_true, true_and, and_true] at h) <;> cbv)
    | (refine IdxVC.mk (by simp (disch := omega) only [hF, natc, w64_in, decide_eq_true_eq, decide_eq_false_iff_not, Int.toNat_natCast, Bool.not_eq_true', Bool.not_eq_false', not_true_eq_false, not_false_eq_true, Int.not_lt, Int.not_le, Bool.and_eq_true, Bool.or_eq_true, Int.ofNat_lt, Int.ofNat_le, Int.natCast_nonneg, Int.toNat_zero, Int.toNat_one, Classical.not_not, beq_self_eq_true, true_and, and_true]; first | done | omega | (simp only [natc] at *; omega)) (fun kx hk hk2 => ?_); simp (disch := omega) only [hF, natc, w64_in, decide_eq_true_eq, decide_eq_false_iff_not, Int.toNat_natCast, Bool.not_eq_true', Bool.not_eq_false', not_true_eq_false, not_false_eq_true, Int.not_lt, Int.not_le, Bool.and_eq_true, Bool.or_eq_true, Int.ofNat_lt, Int.ofNat_le, Int.natCast_nonneg, Int.toNat_zero, Int.toNat_one, Classical.not_not, beq_self_eq_true, true_and, and_true] at hk; (try obtain rfl : kx = 0 := hk); cbv)
    | (refine Chk.mk (by simp (disch := omega) only [maxN, hF, natc, w64_in, decide_eq_true_eq, decide_eq_false_iff_not, Int.toNat_natCast, Bool.not_eq_true', Bool.not_eq_false', not_true_eq_false, not_false_eq_true, Int.not_lt, Int.not_le, Bool.and_eq_true, Bool.or_eq_true, Int.ofNat_lt, Int.ofNat_le, Int.natCast_nonneg, Int.toNat_zero, Int.toNat_one, Classical.not_not, beq_self_eq_true, true_and, and_true]; first | done | assumption | omega | (simp only [natc] at *; omega)) ?_; cbv)
    | (intro (hmx : _ ≤ maxN); replace hmx : _ ≤ 17592186044416 := hmx; cbv)
    | (intro _; cbv)
  refine loop_up mixed hP hA (n) (fun _ => True) [7, 8, 9, 10, 11, 14, 15, 16, 17, 18, 19, 20, 21, 22, 23, 24, 25, 26, 27, 28, 29, 30, 31, 32, 33, 34, 35, 36, 37, 38] (fun i => [(7, .dv (.int .i64 (lo i))), (14, .dv (.int .i64 (ofN i)))]) (fun _ => []) (trivial) ?_ fun Nx i hN hi hp => ?_
  · exact Ent.env (by cbv; simp [hF, hlo0])
  have hfit' : i < n → ∀ at', CallOK (O := Ob) PR n_order_Fits [.dv (.seq (sub (toN (bin .add .i64 (ofN i) 1)) (toN 0)) 8 fun x => GS (add (toN 0) x)), .dv (.seq (C at') 8 (GG at')), .dv (.int .i64 room)] [] fun r m => r = .dv (.bool (FB i at')) ∧ m = [] := by
    intro h at'
    have e : DV.seq (sub (toN (bin .add .i64 (ofN i) 1)) (toN 0)) 8 (fun x => GS (add (toN 0) x)) = .seq (i + 1) 8 GS := by
      simp only [hF, natc]
      rw [w64_in (by omega)]
      congr 1
      funext x; simp
    rw [e]
    exact hfit i h at'
  replace hlo1 := hlo1 i
  cbv
  repeat' first
    | (refine Chk.mk trivial ?_; cbv)
    | (refine bc_true (by first | assumption | (simp (disch := omega) only [hF, natc, w64_in, decide_eq_true_eq, decide_eq_false_iff_not, Int.toNat_natCast, Bool.not_eq_true', Bool.not_eq_false', not_true_eq_false, not_false_eq_true, Int.not_lt, Int.not_le, Bool.and_eq_true, Bool.or_eq_true, Int.ofNat_lt, Int.ofNat_le, Int.natCast_nonneg, Int.toNat_zero, Int.toNat_one, Classical.not_not, beq_self_eq_true, true_and, and_true]; first | done | assumption | omega | (simp only [natc] at *; omega))) ?_; cbv)
    | (refine bc_false (by first | assumption | (simp (disch := omega) only [hF, natc, w64_in, decide_eq_true_eq, decide_eq_false_iff_not, Int.toNat_natCast, Bool.not_eq_true', Bool.not_eq_false', not_true_eq_false, not_false_eq_true, Int.not_lt, Int.not_le, Bool.and_eq_true, Bool.or_eq_true, Int.ofNat_lt, Int.ofNat_le, Int.natCast_nonneg, Int.toNat_zero, Int.toNat_one, Classical.not_not, beq_self_eq_true, true_and, and_true]; first | done | assumption | omega | (simp only [natc] at *; omega))) ?_; cbv)
    | (refine bc_split (fun h => ?_) (fun h => ?_) <;> (try simp (disch := omega) only [hF, natc, w64_in, decide_eq_true_eq, decide_eq_false_iff_not, Int.toNat_natCast, Bool.not_eq_true', Bool.not_eq_false', not_true_eq_false, not_false_eq_true, Int.not_lt, Int.not_le, Bool.and_eq_true, Bool.or_eq_true, Int.ofNat_lt, Int.ofNat_le, Int.natCast_nonneg, Int.toNat_zero, Int.toNat_one, Classical.not_not, beq_self_eq_true, true_and, and_true] at h) <;> cbv)
    | (refine IdxVC.mk (by simp (disch := omega) only [hF, natc, w64_in, decide_eq_true_eq, decide_eq_false_iff_not, Int.toNat_natCast, Bool.not_eq_true', Bool.not_eq_false', not_true_eq_false, not_false_eq_true, Int.not_lt, Int.not_le, Bool.and_eq_true, Bool.or_eq_true, Int.ofNat_lt, Int.ofNat_le, Int.natCast_nonneg, Int.toNat_zero, Int.toNat_one, Classical.not_not, beq_self_eq_true, true_and, and_true]; first | done | omega | (simp only [natc] at *; omega)) (fun kx hk hk2 => ?_); simp (disch := omega) only [hF, natc, w64_in, decide_eq_true_eq, decide_eq_false_iff_not, Int.toNat_natCast, Bool.not_eq_true', Bool.not_eq_false', not_true_eq_false, not_false_eq_true, Int.not_lt, Int.not_le, Bool.and_eq_true, Bool.or_eq_true, Int.ofNat_lt, Int.ofNat_le, Int.natCast_nonneg, Int.toNat_zero, Int.toNat_one, Classical.not_not, beq_self_eq_true, true_and, and_true] at hk; (try obtain rfl : kx = 0 := hk); (try obtain rfl : i = kx := hk.symm); cbv)
    | (simp (maxSteps := 3000000) (disch := assumption) only [S.h0, S.h1, S.h2, S.h3, S.h4, S.h5, S.h6, S.h7]; cbv)
    | (refine Chk.mk (by simp (disch := omega) only [maxN, hF, natc, w64_in, decide_eq_true_eq, decide_eq_false_iff_not, Int.toNat_natCast, Bool.not_eq_true', Bool.not_eq_false', not_true_eq_false, not_false_eq_true, Int.not_lt, Int.not_le, Bool.and_eq_true, Bool.or_eq_true, Int.ofNat_lt, Int.ofNat_le, Int.natCast_nonneg, Int.toNat_zero, Int.toNat_one, Classical.not_not, beq_self_eq_true, true_and, and_true]; first | done | assumption | omega | (simp only [natc] at *; omega)) ?_; cbv)
    | (intro (hmx : _ ≤ maxN); replace hmx : _ ≤ 17592186044416 := hmx; cbv)
    | (intro _; cbv)
    | (refine call_at hP [] code_slices_Clone_Sdiary_Entry_diary_Entry (hcl) rfl ?_ ?_ ?_; (focus ((repeat' (first | exact trivial | exact rfl | (intro _ _ _ _; exact rfl) | refine And.intro ?_ ?_)); done)); (focus (cbv; (try simp); done)); rintro _ _ ⟨rfl, rfl⟩ _; cbv)
    | (refine call_at hP [2, 1] code_slices_DeleteFunc_Sdiary_Entry_diary_Entry (hdel (S.en i)) rfl ?_ ?_ ?_; (focus ((repeat' (first | exact trivial | exact rfl | (intro _ _ _ _; exact rfl) | refine And.intro ?_ ?_)); done)); (focus (cbv; (try simp); done)); rintro _ _ ⟨rfl, rfl⟩ _; cbv)
    | (refine call_at hP [2, 1] code_slices_DeleteFunc_Sdiary_Entry_diary_Entry (hdel (S.be i)) rfl ?_ ?_ ?_; (focus ((repeat' (first | exact trivial | exact rfl | (intro _ _ _ _; exact rfl) | refine And.intro ?_ ?_)); done)); (focus (cbv; (try simp); done)); rintro _ _ ⟨rfl, rfl⟩ _; cbv)
    | (refine call_pure hP code_order_Fits ((hfit' (by assumption) (S.be i))) ?_ ?_; (focus (cbv; (try simp); done)); rintro _ rfl; cbv)
    | (refine call_pure hP code_order_Fits ((hfit' (by assumption) (S.en i))) ?_ ?_; (focus (cbv; (try simp); done)); rintro _ rfl; cbv)
  all_goals first
    | (refine hN _ (by assumption) trivial (Ent.ren [] rfl rfl trivial (by cbv; simp (disch := omega) [hF, natc, w64_in, hlo1, *])); done)
    | (subst hQ; refine leaf_data rfl rfl ⟨⟨_, ?_, rfl⟩, rfl⟩; congr 1; omega; done)
    | skip
  all_goals trace_state

end Go.Proofs.Ytophlodlencgiaa

namespace Go.Proofs.Ytophlodlencgiaa
open Go.V
set_option linter.unusedVariables false
set_option linter.unusedSimpArgs false
set_option maxRecDepth 100000
set_option maxHeartbeats 8000000

theorem ok_OrderLongest_few {n : Nat} {GS : Nat → Nat → DV} (S : Ents n GS) {k : Nat} {GT : Nat → Nat → DV} (T : Ents k GT) (room : Int) (hn : n ≤ 12) (hk : k ≤ 12) :
    CallOK (O := Ob) PR n_law21_OrderLongest [.dv (.seq n 8 GS), .dv (.seq k 8 GT), .dv (.int .i64 room)] [] fun r m => r = .dv (.bool true) ∧ m = [] := by
  have hlong := ok_Longest S T room (by omega)
  obtain ⟨C, hC⟩ : ∃ C : Int → Nat, ∀ a, C a = (inTime T a).length := ⟨_, fun _ => rfl⟩
  obtain ⟨cn, hcn⟩ : ∃ c : Int → Nat → Nat, ∀ a j, c a j = (pick (fun y => decide (T.be y ≤ a)) j).length := ⟨_, fun _ _ => rfl⟩
  obtain ⟨GG, hGG⟩ : ∃ G : Int → Nat → Nat → DV, ∀ a, G a = fun x f => GT ((inTime T a).getD x 0) f := ⟨_, fun _ => rfl⟩
  obtain ⟨FB, hFB⟩ : ∃ F : Nat → Int → Bool, ∀ i a, F i a = fit S T room i a := ⟨_, fun _ _ => rfl⟩
  obtain ⟨lo, hlo⟩ : ∃ L : Nat → Int, ∀ i, L i = longest n (fun i => fit S T room i (if S.en i = 0 then S.be i else S.en i)) i := ⟨_, fun _ => rfl⟩
  obtain ⟨nx, hnx⟩ : ∃ L : Nat → Int, ∀ i, L i = (i : Int) + 1 := ⟨_, fun _ => rfl⟩
  have hfit : ∀ i, i < n → ∀ at', CallOK (O := Ob) PR n_order_Fits [.dv (.seq (i + 1) 8 GS), .dv (.seq (C at') 8 (GG at')), .dv (.int .i64 room)] [] fun r m => r = .dv (.bool (FB i at')) ∧ m = [] := by
    intro i hi at'
    rw [hC, hGG, hFB]
    exact ok_fit S T room (by omega) i hi at'
  have hcn0 : ∀ a, cn a 0 = 0 := fun a => hcn a 0
  have hcn1 : ∀ a j, cn a (j + 1) = if T.be j ≤ a then cn a j + 1 else cn a j := fun a j => by rw [hcn, hcn, pick]; simp only [decide_eq_true_eq]; split <;> simp
  have hcnk : ∀ a, cn a k = C a := fun a => by rw [hcn, hC]; rfl
  have hcnl : ∀ a j, cn a j ≤ j := fun a j => by rw [hcn]; exact pick_len _ j
  have hGn : ∀ a j, j < k → T.be j ≤ a → ∀ f, GG a (cn a j) f = GT j f := fun a j hj hb f => by
    rw [hGG, hcn]
    show GT ((pick (fun y => decide (T.be y ≤ a)) k).getD _ 0) f = _
    rw [pick_next (fun y => decide (T.be y ≤ a)) hj (decide_eq_true hb)]
  have hlo0 : lo 0 = 0 := hlo 0
  have hlo1 : ∀ i, lo (i + 1) = if FB i (if S.en i = 0 then S.be i else S.en i) = true then nx i else lo i := fun i => by rw [hlo, hlo, hFB, hnx]; rfl
  have hnx0 : nx 0 = 1 := hnx 0
  have hnx1 : ∀ i, nx (i + 1) = nx i + 1 := fun i => by rw [hnx, hnx]; omega
  have hnxt : ∀ i, (nx i).toNat = i + 1 ∧ 0 ≤ nx i := fun i => by rw [hnx]; omega
  have hlong' : CallOK (O := Ob) PR n_order_Longest [.dv (.seq n 8 GS), .dv (.seq k 8 GT), .dv (.int .i64 room)] [] fun r m => r = .dv (.int .i64 (lo n)) ∧ m = [] := by
    refine CallOK.ent hlong ?_
    rintro r m ⟨⟨v, rfl, rfl⟩, hm⟩
    exact ⟨_, m, Ent.refl _ _, by rw [hlo], hm⟩
  clear hlong hC hGG hFB hlo hcn hnx
  refine fn_walkv mixed fn_law21_OrderLongest (Ent.refl _ _) fun bin cmp un conv bnot beq band sel isel ofN toN inb nz nneg lt le room' slb add sub sbin scmp slen sget ssub addk pc pb pi pf ps mkok min_ ig aeq P hP hA hF Q hQ => ?_
  have hap : ∀ a j, j < k → T.be j ≤ a → ∀ y f, y < cn a j + 1 → f < 8 → appAt ⟨bin, cmp, un, conv, bnot, beq, band, sel, isel, ofN, toN, inb, nz, nneg, lt, le, room', slb, add, sub, sbin, scmp, slen, sget, ssub, addk, pc, pb, pi, pf, ps, mkok, min_, ig, aeq⟩ (cn a j) (fun y f => .dv (GG a y f)) (listAt 8 (T.row j)) y f = .dv (GG a y f) := by
    intro a j hj hb y f hy hf
    simp only [appAt]
    split
    · rfl
    · obtain rfl : y = cn a j := by omega
      rw [hGn a j hj hb]
      simp only [hF, Nat.sub_self, listAt, Nat.zero_mul, Nat.zero_add]
      rcases (by omega : f = 0 ∨ f = 1 ∨ f = 2 ∨ f = 3 ∨ f = 4 ∨ f = 5 ∨ f = 6 ∨ f = 7) with rfl | rfl | rfl | rfl | rfl | rfl | rfl | rfl
      all_goals simp only [Ents.row, lget, T.h0 j hj, T.h1 j hj, T.h2 j hj, T.h3 j hj, T.h4 j hj, T.h5 j hj, T.h6 j hj, T.h7 j hj]
  cbv
  repeat' first
    | (refine Chk.mk trivial ?_; cbv)
    | (refine bc_true (by first | assumption | (simp (disch := omega) only [hF, natc, w64_in, decide_eq_true_eq, decide_eq_false_iff_not, Int.toNat_natCast, Bool.not_eq_true', Bool.not_eq_false', not_true_eq_false, not_false_eq_true, Int.not_lt, Int.not_le, Bool.and_eq_true, Bool.or_eq_true, Int.ofNat_lt, Int.ofNat_le, Int.natCast_nonneg, Int.toNat_zero, Int.toNat_one, Classical.not_not, beq_self_eq_true, true_and, and_true]; first | done | assumption | omega | (simp only [natc] at *; omega))) ?_; cbv)
    | (refine bc_false (by first | assumption | (simp (disch := omega) only [hF, natc, w64_in, decide_eq_true_eq, decide_eq_false_iff_not, Int.toNat_natCast, Bool.not_eq_true', Bool.not_eq_false', not_true_eq_false, not_false_eq_true, Int.not_lt, Int.not_le, Bool.and_eq_true, Bool.or_eq_true, Int.ofNat_lt, Int.ofNat_le, Int.natCast_nonneg, Int.toNat_zero, Int.toNat_one, Classical.not_not, beq_self_eq_true, true_and, and_true]; first | done | assumption | omega | (simp only [natc] at *; omega))) ?_; cbv)
    | (refine bc_split (fun h => ?_) (fun h => ?_) <;> (try simp (disch := omega) only [hF, natc, w64_in, decide_eq_true_eq, decide_eq_false_iff_not, Int.toNat_natCast, Bool.not_eq_true', Bool.not_eq_false', not_true_eq_false, not_false_eq_true, Int.not_lt, Int.not_le, Bool.and_eq_true, Bool.or_eq_true, Int.ofNat_lt, Int.ofNat_le, Int.natCast_nonneg, Int.toNat_zero, Int.toNat_one, Classical.not_not, beq_self_eq_true, true_and, and_true] at h) <;> cbv)
    | (refine IdxVC.mk (by simp (disch := omega) only [hF, natc, w64_in, decide_eq_true_eq, decide_eq_false_iff_not, Int.toNat_natCast, Bool.not_eq_true', Bool.not_eq_false', not_true_eq_false, not_false_eq_true, Int.not_lt, Int.not_le, Bool.and_eq_true, Bool.or_eq_true, Int.ofNat_lt, Int.ofNat_le, Int.natCast_nonneg, Int.toNat_zero, Int.toNat_one, Classical.not_not, beq_self_eq_true, true_and, and_true]; first | done | omega | (simp only [natc] at *; omega)) (fun kx hk hk2 => ?_); simp (disch := omega) only [hF, natc, w64_in, decide_eq_true_eq, decide_eq_false_iff_not, Int.toNat_natCast, Bool.not_eq_true', Bool.not_eq_false', not_true_eq_false, not_false_eq_true, Int.not_lt, Int.not_le, Bool.and_eq_true, Bool.or_eq_true, Int.ofNat_lt, Int.ofNat_le, Int.natCast_nonneg, Int.toNat_zero, Int.toNat_one, Classical.not_not, beq_self_eq_true, true_and, and_true] at hk; (try obtain rfl : kx = 0 := hk); cbv)
    | (refine Chk.mk (by simp (disch := omega) only [maxN, hF, natc, w64_in, decide_eq_true_eq, decide_eq_false_iff_not, Int.toNat_natCast, Bool.not_eq_true', Bool.not_eq_false', not_true_eq_false, not_false_eq_true, Int.not_lt, Int.not_le, Bool.and_eq_true, Bool.or_eq_true, Int.ofNat_lt, Int.ofNat_le, Int.natCast_nonneg, Int.toNat_zero, Int.toNat_one, Classical.not_not, beq_self_eq_true, true_and, and_true]; first | done | assumption | omega | (simp only [natc] at *; omega)) ?_; cbv)
    | (intro (hmx : _ ≤ maxN); replace hmx : _ ≤ 17592186044416 := hmx; cbv)
    | (intro _; cbv)
    | (refine call_pure hP code_law19_Few ((few_le S 12 12 rfl)) ?_ ?_; (focus (cbv; (try simp); done)); rintro _ ⟨f1, hf1, rfl⟩; cbv)
    | (refine call_pure hP code_law19_Few ((few_le T 12 12 rfl)) ?_ ?_; (focus (cbv; (try simp); done)); rintro _ ⟨f2, hf2, rfl⟩; cbv)
    | (refine call_pure hP code_law21_alive (ok_alive) ?_ ?_; (focus (cbv; (try simp); done)); rintro _ rfl; cbv)
  · subst hQ; exact leaf_data rfl rfl ⟨rfl, rfl⟩
  · subst hQ; exact leaf_data rfl rfl ⟨rfl, rfl⟩
  refine loop_up mixed hP hA (n) (fun _ => True) [7, 8, 9, 10, 11, 13, 23, 24, 25, 26, 27, 28, 29, 30, 31, 32, 33, 34, 35, 36, 37, 38, 39, 40, 41, 42, 43, 44, 45, 46, 47, 48, 49, 50, 51, 52, 53, 54, 55, 56, 57, 58, 59, 60, 61] (fun i => [(7, .dv (.int .i64 (lo i))), (8, .dv (.int .i64 (nx i)))]) (fun _ => []) (trivial) ?_ fun Nx i hN hi hp => ?_
  · exact Ent.env (by cbv; simp [hF, hlo0, hnx0])
  cbv
  have hi1 := hnxt i
  have hlo1 := hlo1 i
  have hnx1 := hnx1 i
  have hfit' : i < n → ∀ at', CallOK (O := Ob) PR n_order_Fits [.dv (.seq (sub (toN (nx i)) (toN 0)) 8 fun x => GS (add (toN 0) x)), .dv (.seq (C at') 8 (GG at')), .dv (.int .i64 room)] [] fun r m => r = .dv (.bool (FB i at')) ∧ m = [] := by
    intro h at'
    have e : DV.seq (sub (toN (nx i)) (toN 0)) 8 (fun x => GS (add (toN 0) x)) = .seq (i + 1) 8 GS := by
      simp only [hF, hi1.1]
      congr 1
      funext x; simp
    rw [e]
    exact hfit i h at'
  by_cases hlt : i < n
  · cbv
    repeat' first
      | (refine Chk.mk trivial ?_; cbv)
      | (refine bc_true (by first | assumption | (simp (disch := omega) only [hF, natc, w64_in, decide_eq_true_eq, decide_eq_false_iff_not, Int.toNat_natCast, Bool.not_eq_true', Bool.not_eq_false', not_true_eq_false, not_false_eq_true, Int.not_lt, Int.not_le, Bool.and_eq_true, Bool.or_eq_true, Int.ofNat_lt, Int.ofNat_le, Int.natCast_nonneg, Int.toNat_zero, Int.toNat_one, Classical.not_not, beq_self_eq_true, true_and, and_true]; first | done | assumption | omega | (simp only [natc] at *; omega))) ?_; cbv)
      | (refine bc_false (by first | assumption | (simp (disch := omega) only [hF, natc, w64_in, decide_eq_true_eq, decide_eq_false_iff_not, Int.toNat_natCast, Bool.not_eq_true', Bool.not_eq_false', not_true_eq_false, not_false_eq_true, Int.not_lt, Int.not_le, Bool.and_eq_true, Bool.or_eq_true, Int.ofNat_lt, Int.ofNat_le, Int.natCast_nonneg, Int.toNat_zero, Int.toNat_one, Classical.not_not, beq_self_eq_true, true_and, and_true]; first | done | assumption | omega | (simp only [natc] at *; omega))) ?_; cbv)
      | (refine bc_split (fun h => ?_) (fun h => ?_) <;> (try simp (disch := omega) only [hF, natc, w64_in, decide_eq_true_eq, decide_eq_false_iff_not, Int.toNat_natCast, Bool.not_eq_true', Bool.not_eq_false', not_true_eq_false, not_false_eq_true, Int.not_lt, Int.not_le, Bool.and_eq_true, Bool.or_eq_true, Int.ofNat_lt, Int.ofNat_le, Int.natCast_nonneg, Int.toNat_zero, Int.toNat_one, Classical.not_not, beq_self_eq_true, true_and, and_true] at h) <;> cbv)
      | (refine IdxVC.mk (by simp (disch := omega) only [hF, natc, w64_in, decide_eq_true_eq, decide_eq_false_iff_not, Int.toNat_natCast, Bool.not_eq_true', Bool.not_eq_false', not_true_eq_false, not_false_eq_true, Int.not_lt, Int.not_le, Bool.and_eq_true, Bool.or_eq_true, Int.ofNat_lt, Int.ofNat_le, Int.natCast_nonneg, Int.toNat_zero, Int.toNat_one, Classical.not_not, beq_self_eq_true, true_and, and_true]; first | done | omega | (simp only [natc] at *; omega)) (fun kx hk hk2 => ?_); simp (disch := omega) only [hF, natc, w64_in, decide_eq_true_eq, decide_eq_false_iff_not, Int.toNat_natCast, Bool.not_eq_true', Bool.not_eq_false', not_true_eq_false, not_false_eq_true, Int.not_lt, Int.not_le, Bool.and_eq_true, Bool.or_eq_true, Int.ofNat_lt, Int.ofNat_le, Int.natCast_nonneg, Int.toNat_zero, Int.toNat_one, Classical.not_not, beq_self_eq_true, true_and, and_true] at hk; (try obtain rfl : kx = 0 := hk); (try obtain rfl : i = kx := hk.symm); cbv)
      | (simp (maxSteps := 3000000) (disch := assumption) only [S.h0, S.h1, S.h2, S.h3, S.h4, S.h5, S.h6, S.h7]; cbv)
      | (refine Chk.mk (by simp (disch := omega) only [maxN, hF, natc, w64_in, decide_eq_true_eq, decide_eq_false_iff_not, Int.toNat_natCast, Bool.not_eq_true', Bool.not_eq_false', not_true_eq_false, not_false_eq_true, Int.not_lt, Int.not_le, Bool.and_eq_true, Bool.or_eq_true, Int.ofNat_lt, Int.ofNat_le, Int.natCast_nonneg, Int.toNat_zero, Int.toNat_one, Classical.not_not, beq_self_eq_true, true_and, and_true]; first | done | assumption | omega | (simp only [natc] at *; omega)) ?_; cbv)
      | (intro (hmx : _ ≤ maxN); replace hmx : _ ≤ 17592186044416 := hmx; cbv)
      | (intro _; cbv)
    · obtain rfl : i = kx := by omega
      have h0 : S.en i = 0 := by assumption
      rw [if_pos h0] at hlo1
      refine loop_up mixed hP hA (k) (fun _ => True) [11, 13, 42, 43, 44, 45, 46, 47, 48, 49, 50, 51, 52, 53, 54] (fun j => [(11, .vec 1), (42, .dv (.int .i64 (ofN j)))]) (fun j => [.blk (ebox (S.co i) (S.pe i) (S.kd i) (S.be i) (S.en i) (S.er i) (S.m i) (S.g i) (S.ha i)), .vec (cn (S.be i) j) 8 (fun y f => .dv (GG (S.be i) y f))]) (trivial) ?_ fun Nx2 j hNj hj hp2 => ?_
      · exact (Ent.nilv 11 8 (fun y f => .dv (GG (S.be i) y f)) rfl).trans (Ent.ren [0, 1] rfl rfl ⟨⟨rfl, rfl, rfl, rfl, rfl, rfl, rfl, rfl, trivial⟩, ⟨(hcn0 (S.be i)).symm, rfl, fun _ _ _ _ => rfl⟩, trivial⟩ (by cbv; simp [hF]))
      cbv
      by_cases hjk : j < k
      · have hcs := hcn1 (S.be i) j
        have hcl := hcnl (S.be i) j
        cbv
        repeat' first
          | (refine Chk.mk trivial ?_; cbv)
          | (refine bc_true (by first | assumption | (simp (disch := omega) only [hF, natc, w64_in, decide_eq_true_eq, decide_eq_false_iff_not, Int.toNat_natCast, Bool.not_eq_true', Bool.not_eq_false', not_true_eq_false, not_false_eq_true, Int.not_lt, Int.not_le, Bool.and_eq_true, Bool.or_eq_true, Int.ofNat_lt, Int.ofNat_le, Int.natCast_nonneg, Int.toNat_zero, Int.toNat_one, Classical.not_not, beq_self_eq_true, true_and, and_true]; first | done | assumption | omega | (simp only [natc] at *; omega))) ?_; cbv)
          | (refine bc_false (by first | assumption | (simp (disch := omega) only [hF, natc, w64_in, decide_eq_true_eq, decide_eq_false_iff_not, Int.toNat_natCast, Bool.not_eq_true', Bool.not_eq_false', not_true_eq_false, not_false_eq_true, Int.not_lt, Int.not_le, Bool.and_eq_true, Bool.or_eq_true, Int.ofNat_lt, Int.ofNat_le, Int.natCast_nonneg, Int.toNat_zero, Int.toNat_one, Classical.not_not, beq_self_eq_true, true_and, and_true]; first | done | assumption | omega | (simp only [natc] at *; omega))) ?_; cbv)
          | (refine bc_split (fun h => ?_) (fun h => ?_) <;> (try simp (disch := omega) only [hF, natc, w64_in, decide_eq_true_eq, decide_eq_false_iff_not, Int.toNat_natCast, Bool.not_eq_true', Bool.not_eq_false', not_true_eq_false, not_false_eq_true, Int.not_lt, Int.not_le, Bool.and_eq_true, Bool.or_eq_true, Int.ofNat_lt, Int.ofNat_le, Int.natCast_nonneg, Int.toNat_zero, Int.toNat_one, Classical.not_not, beq_self_eq_true, true_and, and_true] at h) <;> cbv)
          | (refine IdxVC.mk (by simp (disch := omega) only [hF, natc, w64_in, decide_eq_true_eq, decide_eq_false_iff_not, Int.toNat_natCast, Bool.not_eq_true', Bool.not_eq_false', not_true_eq_false, not_false_eq_true, Int.not_lt, Int.not_le, Bool.and_eq_true, Bool.or_eq_true, Int.ofNat_lt, Int.ofNat_le, Int.natCast_nonneg, Int.toNat_zero, Int.toNat_one, Classical.not_not, beq_self_eq_true, true_and, and_true]; first | done | omega | (simp only [natc] at *; omega)) (fun kx hk hk2 => ?_); simp (disch := omega) only [hF, natc, w64_in, decide_eq_true_eq, decide_eq_false_iff_not, Int.toNat_natCast, Bool.not_eq_true', Bool.not_eq_false', not_true_eq_false, not_false_eq_true, Int.not_lt, Int.not_le, Bool.and_eq_true, Bool.or_eq_true, Int.ofNat_lt, Int.ofNat_le, Int.natCast_nonneg, Int.toNat_zero, Int.toNat_one, Classical.not_not, beq_self_eq_true, true_and, and_true] at hk; (try obtain rfl : kx = 0 := hk); (try obtain rfl : j = kx := hk.symm); cbv)
          | (simp (maxSteps := 3000000) (disch := assumption) only [T.h0, T.h1, T.h2, T.h3, T.h4, T.h5, T.h6, T.h7]; cbv)
          | (refine Chk.mk (by simp (disch := omega) only [maxN, hF, natc, w64_in, decide_eq_true_eq, decide_eq_false_iff_not, Int.toNat_natCast, Bool.not_eq_true', Bool.not_eq_false', not_true_eq_false, not_false_eq_true, Int.not_lt, Int.not_le, Bool.and_eq_true, Bool.or_eq_true, Int.ofNat_lt, Int.ofNat_le, Int.natCast_nonneg, Int.toNat_zero, Int.toNat_one, Classical.not_not, beq_self_eq_true, true_and, and_true]; first | done | assumption | omega | (simp only [natc] at *; omega)) ?_; cbv)
          | (intro (hmx : _ ≤ maxN); replace hmx : _ ≤ 17592186044416 := hmx; cbv)
          | (intro _; cbv)
        · have hb : T.be j ≤ S.be i := by assumption
          rw [if_pos hb] at hcs
          refine hNj _ hjk trivial (Ent.ren [0, 4] rfl rfl ⟨⟨rfl, rfl, rfl, rfl, rfl, rfl, rfl, rfl, trivial⟩, ⟨by rw [hcs]; simp only [hF], rfl, fun y f hy hf => hap (S.be i) j hjk hb y f (by simpa only [hF] using hy) hf⟩, trivial⟩ (by cbv; simp (disch := omega) [hF, natc, w64_in]))
        · have hb : ¬ T.be j ≤ S.be i := by first | assumption | omega
          rw [if_neg hb] at hcs
          refine hNj _ hjk trivial (Ent.ren [0, 1] rfl rfl ⟨⟨rfl, rfl, rfl, rfl, rfl, rfl, rfl, rfl, trivial⟩, ⟨hcs.symm, rfl, fun _ _ _ _ => rfl⟩, trivial⟩ (by cbv; simp (disch := omega) [hF, natc, w64_in]))
      · obtain rfl : j = k := by omega
        cbv
        repeat' first
          | (refine Chk.mk trivial ?_; cbv)
          | (refine bc_true (by first | assumption | (simp (disch := omega) only [hF, natc, w64_in, decide_eq_true_eq, decide_eq_false_iff_not, Int.toNat_natCast, Bool.not_eq_true', Bool.not_eq_false', not_true_eq_false, not_false_eq_true, Int.not_lt, Int.not_le, Bool.and_eq_true, Bool.or_eq_true, Int.ofNat_lt, Int.ofNat_le, Int.natCast_nonneg, Int.toNat_zero, Int.toNat_one, Classical.not_not, beq_self_eq_true, true_and, and_true]; first | done | assumption | omega | (simp only [natc] at *; omega))) ?_; cbv)
          | (refine bc_false (by first | assumption | (simp (disch := omega) only [hF, natc, w64_in, decide_eq_true_eq, decide_eq_false_iff_not, Int.toNat_natCast, Bool.not_eq_true', Bool.not_eq_false', not_true_eq_false, not_false_eq_true, Int.not_lt, Int.not_le, Bool.and_eq_true, Bool.or_eq_true, Int.ofNat_lt, Int.ofNat_le, Int.natCast_nonneg, Int.toNat_zero, Int.toNat_one, Classical.not_not, beq_self_eq_true, true_and, and_true]; first | done | assumption | omega | (simp only [natc] at *; omega))) ?_; cbv)
          | (refine bc_split (fun h => ?_) (fun h => ?_) <;> (try simp (disch := omega) only [hF, natc, w64_in, decide_eq_true_eq, decide_eq_false_iff_not, Int.toNat_natCast, Bool.not_eq_true', Bool.not_eq_false', not_true_eq_false, not_false_eq_true, Int.not_lt, Int.not_le, Bool.and_eq_true, Bool.or_eq_true, Int.ofNat_lt, Int.ofNat_le, Int.natCast_nonneg, Int.toNat_zero, Int.toNat_one, Classical.not_not, beq_self_eq_true, true_and, and_true] at h) <;> cbv)
          | (refine IdxVC.mk (by simp (disch := omega) only [hF, natc, w64_in, decide_eq_true_eq, decide_eq_false_iff_not, Int.toNat_natCast, Bool.not_eq_true', Bool.not_eq_false', not_true_eq_false, not_false_eq_true, Int.not_lt, Int.not_le, Bool.and_eq_true, Bool.or_eq_true, Int.ofNat_lt, Int.ofNat_le, Int.natCast_nonneg, Int.toNat_zero, Int.toNat_one, Classical.not_not, beq_self_eq_true, true_and, and_true]; first | done | omega | (simp only [natc] at *; omega)) (fun kx hk hk2 => ?_); simp (disch := omega) only [hF, natc, w64_in, decide_eq_true_eq, decide_eq_false_iff_not, Int.toNat_natCast, Bool.not_eq_true', Bool.not_eq_false', not_true_eq_false, not_false_eq_true, Int.not_lt, Int.not_le, Bool.and_eq_true, Bool.or_eq_true, Int.ofNat_lt, Int.ofNat_le, Int.natCast_nonneg, Int.toNat_zero, Int.toNat_one, Classical.not_not, beq_self_eq_true, true_and, and_true] at hk; (try obtain rfl : kx = 0 := hk); cbv)
          | (refine Chk.mk (by simp (disch := omega) only [maxN, hF, natc, w64_in, decide_eq_true_eq, decide_eq_false_iff_not, Int.toNat_natCast, Bool.not_eq_true', Bool.not_eq_false', not_true_eq_false, not_false_eq_true, Int.not_lt, Int.not_le, Bool.and_eq_true, Bool.or_eq_true, Int.ofNat_lt, Int.ofNat_le, Int.natCast_nonneg, Int.toNat_zero, Int.toNat_one, Classical.not_not, beq_self_eq_true, true_and, and_true]; first | done | assumption | omega | (simp only [natc] at *; omega)) ?_; cbv)
          | (intro (hmx : _ ≤ maxN); replace hmx : _ ≤ 17592186044416 := hmx; cbv)
          | (intro _; cbv)
          | ((refine call_frzs [(1, C (S.be i), 8, GG (S.be i))] ⟨⟨(hcnk (S.be i)), rfl, fun _ _ _ _ => rfl⟩, trivial⟩ ?_; refine call_pure hP code_order_Fits (hfit' hlt (S.be i)) ⟨rfl, rfl, rfl, trivial⟩ ?_; rintro _ rfl); cbv)
        all_goals first
          | (rw [if_pos (by assumption)] at hlo1; refine hN _ hlt trivial (Ent.ren [] rfl rfl trivial (by cbv; simp (disch := omega) [hF, natc, w64_in, hlo1, hnx1])); done)
          | (rw [if_neg (by rw [‹FB i _ = false›]; exact Bool.false_ne_true)] at hlo1; refine hN _ hlt trivial (Ent.ren [] rfl rfl trivial (by cbv; simp (disch := omega) [hF, natc, w64_in, hlo1, hnx1])); done)
    · obtain rfl : i = kx := by omega
      have h0 : ¬ S.en i = 0 := by assumption
      rw [if_neg h0] at hlo1
      refine loop_up mixed hP hA (k) (fun _ => True) [11, 13, 42, 43, 44, 45, 46, 47, 48, 49, 50, 51, 52, 53, 54] (fun j => [(11, .vec 1), (42, .dv (.int .i64 (ofN j)))]) (fun j => [.blk (ebox (S.co i) (S.pe i) (S.kd i) (S.be i) (S.en i) (S.er i) (S.m i) (S.g i) (S.ha i)), .vec (cn (S.en i) j) 8 (fun y f => .dv (GG (S.en i) y f))]) (trivial) ?_ fun Nx2 j hNj hj hp2 => ?_
      · exact (Ent.nilv 11 8 (fun y f => .dv (GG (S.en i) y f)) rfl).trans (Ent.ren [0, 1] rfl rfl ⟨⟨rfl, rfl, rfl, rfl, rfl, rfl, rfl, rfl, trivial⟩, ⟨(hcn0 (S.en i)).symm, rfl, fun _ _ _ _ => rfl⟩, trivial⟩ (by cbv; simp [hF]))
      cbv
      by_cases hjk : j < k
      · have hcs := hcn1 (S.en i) j
        have hcl := hcnl (S.en i) j
        cbv
        repeat' first
          | (refine Chk.mk trivial ?_; cbv)
          | (refine bc_true (by first | assumption | (simp (disch := omega) only [hF, natc, w64_in, decide_eq_true_eq, decide_eq_false_iff_not, Int.toNat_natCast, Bool.not_eq_true', Bool.not_eq_false', not_true_eq_false, not_false_eq_true, Int.not_lt, Int.not_le, Bool.and_eq_true, Bool.or_eq_true, Int.ofNat_lt, Int.ofNat_le, Int.natCast_nonneg, Int.toNat_zero, Int.toNat_one, Classical.not_not, beq_self_eq_true, true_and, and_true]; first | done | assumption | omega | (simp only [natc] at *; omega))) ?_; cbv)
          | (refine bc_false (by first | assumption | (simp (disch := omega) only [hF, natc, w64_in, decide_eq_true_eq, decide_eq_false_iff_not, Int.toNat_natCast, Bool.not_eq_true', Bool.not_eq_false', not_true_eq_false, not_false_eq_true, Int.not_lt, Int.not_le, Bool.and_eq_true, Bool.or_eq_true, Int.ofNat_lt, Int.ofNat_le, Int.natCast_nonneg, Int.toNat_zero, Int.toNat_one, Classical.not_not, beq_self_eq_true, true_and, and_true]; first | done | assumption | omega | (simp only [natc] at *; omega))) ?_; cbv)
          | (refine bc_split (fun h => ?_) (fun h => ?_) <;> (try simp (disch := omega) only [hF, natc, w64_in, decide_eq_true_eq, decide_eq_false_iff_not, Int.toNat_natCast, Bool.not_eq_true', Bool.not_eq_false', not_true_eq_false, not_false_eq_true, Int.not_lt, Int.not_le, Bool.and_eq_true, Bool.or_eq_true, Int.ofNat_lt, Int.ofNat_le, Int.natCast_nonneg, Int.toNat_zero, Int.toNat_one, Classical.not_not, beq_self_eq_true, true_and, and_true] at h) <;> cbv)
          | (refine IdxVC.mk (by simp (disch := omega) only [hF, natc, w64_in, decide_eq_true_eq, decide_eq_false_iff_not, Int.toNat_natCast, Bool.not_eq_true', Bool.not_eq_false', not_true_eq_false, not_false_eq_true, Int.not_lt, Int.not_le, Bool.and_eq_true, Bool.or_eq_true, Int.ofNat_lt, Int.ofNat_le, Int.natCast_nonneg, Int.toNat_zero, Int.toNat_one, Classical.not_not, beq_self_eq_true, true_and, and_true]; first | done | omega | (simp only [natc] at *; omega)) (fun kx hk hk2 => ?_); simp (disch := omega) only [hF, natc, w64_in, decide_eq_true_eq, decide_eq_false_iff_not, Int.toNat_natCast, Bool.not_eq_true', Bool.not_eq_false', not_true_eq_false, not_false_eq_true, Int.not_lt, Int.not_le, Bool.and_eq_true, Bool.or_eq_true, Int.ofNat_lt, Int.ofNat_le, Int.natCast_nonneg, Int.toNat_zero, Int.toNat_one, Classical.not_not, beq_self_eq_true, true_and, and_true] at hk; (try obtain rfl : kx = 0 := hk); (try obtain rfl : j = kx := hk.symm); cbv)
          | (simp (maxSteps := 3000000) (disch := assumption) only [T.h0, T.h1, T.h2, T.h3, T.h4, T.h5, T.h6, T.h7]; cbv)
          | (refine Chk.mk (by simp (disch := omega) only [maxN, hF, natc, w64_in, decide_eq_true_eq, decide_eq_false_iff_not, Int.toNat_natCast, Bool.not_eq_true', Bool.not_eq_false', not_true_eq_false, not_false_eq_true, Int.not_lt, Int.not_le, Bool.and_eq_true, Bool.or_eq_true, Int.ofNat_lt, Int.ofNat_le, Int.natCast_nonneg, Int.toNat_zero, Int.toNat_one, Classical.not_not, beq_self_eq_true, true_and, and_true]; first | done | assumption | omega | (simp only [natc] at *; omega)) ?_; cbv)
          | (intro (hmx : _ ≤ maxN); replace hmx : _ ≤ 17592186044416 := hmx; cbv)
          | (intro _; cbv)
        · have hb : T.be j ≤ S.en i := by assumption
          rw [if_pos hb] at hcs
          refine hNj _ hjk trivial (Ent.ren [0, 4] rfl rfl ⟨⟨rfl, rfl, rfl, rfl, rfl, rfl, rfl, rfl, trivial⟩, ⟨by rw [hcs]; simp only [hF], rfl, fun y f hy hf => hap (S.en i) j hjk hb y f (by simpa only [hF] using hy) hf⟩, trivial⟩ (by cbv; simp (disch := omega) [hF, natc, w64_in]))
        · have hb : ¬ T.be j ≤ S.en i := by first | assumption | omega
          rw [if_neg hb] at hcs
          refine hNj _ hjk trivial (Ent.ren [0, 1] rfl rfl ⟨⟨rfl, rfl, rfl, rfl, rfl, rfl, rfl, rfl, trivial⟩, ⟨hcs.symm, rfl, fun _ _ _ _ => rfl⟩, trivial⟩ (by cbv; simp (disch := omega) [hF, natc, w64_in]))
      · obtain rfl : j = k := by omega
        cbv
        repeat' first
          | (refine Chk.mk trivial ?_; cbv)
          | (refine bc_true (by first | assumption | (simp (disch := omega) only [hF, natc, w64_in, decide_eq_true_eq, decide_eq_false_iff_not, Int.toNat_natCast, Bool.not_eq_true', Bool.not_eq_false', not_true_eq_false, not_false_eq_true, Int.not_lt, Int.not_le, Bool.and_eq_true, Bool.or_eq_true, Int.ofNat_lt, Int.ofNat_le, Int.natCast_nonneg, Int.toNat_zero, Int.toNat_one, Classical.not_not, beq_self_eq_true, true_and, and_true]; first | done | assumption | omega | (simp only [natc] at *; omega))) ?_; cbv)
          | (refine bc_false (by first | assumption | (simp (disch := omega) only [hF, natc, w64_in, decide_eq_true_eq, decide_eq_false_iff_not, Int.toNat_natCast, Bool.not_eq_true', Bool.not_eq_false', not_true_eq_false, not_false_eq_true, Int.not_lt, Int.not_le, Bool.and_eq_true, Bool.or_eq_true, Int.ofNat_lt, Int.ofNat_le, Int.natCast_nonneg, Int.toNat_zero, Int.toNat_one, Classical.not_not, beq_self_eq_true, true_and, and_true]; first | done | assumption | omega | (simp only [natc] at *; omega))) ?_; cbv)
          | (refine bc_split (fun h => ?_) (fun h => ?_) <;> (try simp (disch := omega) only [hF, natc, w64_in, decide_eq_true_eq, decide_eq_false_iff_not, Int.toNat_natCast, Bool.not_eq_true', Bool.not_eq_false', not_true_eq_false, not_false_eq_true, Int.not_lt, Int.not_le, Bool.and_eq_true, Bool.or_eq_true, Int.ofNat_lt, Int.ofNat_le, Int.natCast_nonneg, Int.toNat_zero, Int.toNat_one, Classical.not_not, beq_self_eq_true, true_and, and_true] at h) <;> cbv)
          | (refine IdxVC.mk (by simp (disch := omega) only [hF, natc, w64_in, decide_eq_true_eq, decide_eq_false_iff_not, Int.toNat_natCast, Bool.not_eq_true', Bool.not_eq_false', not_true_eq_false, not_false_eq_true, Int.not_lt, Int.not_le, Bool.and_eq_true, Bool.or_eq_true, Int.ofNat_lt, Int.ofNat_le, Int.natCast_nonneg, Int.toNat_zero, Int.toNat_one, Classical.not_not, beq_self_eq_true, true_and, and_true]; first | done | omega | (simp only [natc] at *; omega)) (fun kx hk hk2 => ?_); simp (disch := omega) only [hF, natc, w64_in, decide_eq_true_eq, decide_eq_false_iff_not, Int.toNat_natCast, Bool.not_eq_true', Bool.not_eq_false', not_true_eq_false, not_false_eq_true, Int.not_lt, Int.not_le, Bool.and_eq_true, Bool.or_eq_true, Int.ofNat_lt, Int.ofNat_le, Int.natCast_nonneg, Int.toNat_zero, Int.toNat_one, Classical.not_not, beq_self_eq_true, true_and, and_true] at hk; (try obtain rfl : kx = 0 := hk); cbv)
          | (refine Chk.mk (by simp (disch := omega) only [maxN, hF, natc, w64_in, decide_eq_true_eq, decide_eq_false_iff_not, Int.toNat_natCast, Bool.not_eq_true', Bool.not_eq_false', not_true_eq_false, not_false_eq_true, Int.not_lt, Int.not_le, Bool.and_eq_true, Bool.or_eq_true, Int.ofNat_lt, Int.ofNat_le, Int.natCast_nonneg, Int.toNat_zero, Int.toNat_one, Classical.not_not, beq_self_eq_true, true_and, and_true]; first | done | assumption | omega | (simp only [natc] at *; omega)) ?_; cbv)
          | (intro (hmx : _ ≤ maxN); replace hmx : _ ≤ 17592186044416 := hmx; cbv)
          | (intro _; cbv)
          | ((refine call_frzs [(1, C (S.en i), 8, GG (S.en i))] ⟨⟨(hcnk (S.en i)), rfl, fun _ _ _ _ => rfl⟩, trivial⟩ ?_; refine call_pure hP code_order_Fits (hfit' hlt (S.en i)) ⟨rfl, rfl, rfl, trivial⟩ ?_; rintro _ rfl); cbv)
        all_goals first
          | (rw [if_pos (by assumption)] at hlo1; refine hN _ hlt trivial (Ent.ren [] rfl rfl trivial (by cbv; simp (disch := omega) [hF, natc, w64_in, hlo1, hnx1])); done)
          | (rw [if_neg (by rw [‹FB i _ = false›]; exact Bool.false_ne_true)] at hlo1; refine hN _ hlt trivial (Ent.ren [] rfl rfl trivial (by cbv; simp (disch := omega) [hF, natc, w64_in, hlo1, hnx1])); done)
  · obtain rfl : i = n := by omega
    cbv
    repeat' first
      | (refine Chk.mk trivial ?_; cbv)
      | (refine bc_true (by first | assumption | (simp (disch := omega) only [hF, natc, w64_in, decide_eq_true_eq, decide_eq_false_iff_not, Int.toNat_natCast, Bool.not_eq_true', Bool.not_eq_false', not_true_eq_false, not_false_eq_true, Int.not_lt, Int.not_le, Bool.and_eq_true, Bool.or_eq_true, Int.ofNat_lt, Int.ofNat_le, Int.natCast_nonneg, Int.toNat_zero, Int.toNat_one, Classical.not_not, beq_self_eq_true, true_and, and_true]; first | done | assumption | omega | (simp only [natc] at *; omega))) ?_; cbv)
      | (refine bc_false (by first | assumption | (simp (disch := omega) only [hF, natc, w64_in, decide_eq_true_eq, decide_eq_false_iff_not, Int.toNat_natCast, Bool.not_eq_true', Bool.not_eq_false', not_true_eq_false, not_false_eq_true, Int.not_lt, Int.not_le, Bool.and_eq_true, Bool.or_eq_true, Int.ofNat_lt, Int.ofNat_le, Int.natCast_nonneg, Int.toNat_zero, Int.toNat_one, Classical.not_not, beq_self_eq_true, true_and, and_true]; first | done | assumption | omega | (simp only [natc] at *; omega))) ?_; cbv)
      | (refine bc_split (fun h => ?_) (fun h => ?_) <;> (try simp (disch := omega) only [hF, natc, w64_in, decide_eq_true_eq, decide_eq_false_iff_not, Int.toNat_natCast, Bool.not_eq_true', Bool.not_eq_false', not_true_eq_false, not_false_eq_true, Int.not_lt, Int.not_le, Bool.and_eq_true, Bool.or_eq_true, Int.ofNat_lt, Int.ofNat_le, Int.natCast_nonneg, Int.toNat_zero, Int.toNat_one, Classical.not_not, beq_self_eq_true, true_and, and_true] at h) <;> cbv)
      | (refine IdxVC.mk (by simp (disch := omega) only [hF, natc, w64_in, decide_eq_true_eq, decide_eq_false_iff_not, Int.toNat_natCast, Bool.not_eq_true', Bool.not_eq_false', not_true_eq_false, not_false_eq_true, Int.not_lt, Int.not_le, Bool.and_eq_true, Bool.or_eq_true, Int.ofNat_lt, Int.ofNat_le, Int.natCast_nonneg, Int.toNat_zero, Int.toNat_one, Classical.not_not, beq_self_eq_true, true_and, and_true]; first | done | omega | (simp only [natc] at *; omega)) (fun kx hk hk2 => ?_); simp (disch := omega) only [hF, natc, w64_in, decide_eq_true_eq, decide_eq_false_iff_not, Int.toNat_natCast, Bool.not_eq_true', Bool.not_eq_false', not_true_eq_false, not_false_eq_true, Int.not_lt, Int.not_le, Bool.and_eq_true, Bool.or_eq_true, Int.ofNat_lt, Int.ofNat_le, Int.natCast_nonneg, Int.toNat_zero, Int.toNat_one, Classical.not_not, beq_self_eq_true, true_and, and_true] at hk; (try obtain rfl : kx = 0 := hk); cbv)
      | (refine Chk.mk (by simp (disch := omega) only [maxN, hF, natc, w64_in, decide_eq_true_eq, decide_eq_false_iff_not, Int.toNat_natCast, Bool.not_eq_true', Bool.not_eq_false', not_true_eq_false, not_false_eq_true, Int.not_lt, Int.not_le, Bool.and_eq_true, Bool.or_eq_true, Int.ofNat_lt, Int.ofNat_le, Int.natCast_nonneg, Int.toNat_zero, Int.toNat_one, Classical.not_not, beq_self_eq_true, true_and, and_true]; first | done | assumption | omega | (simp only [natc] at *; omega)) ?_; cbv)
      | (intro (hmx : _ ≤ maxN); replace hmx : _ ≤ 17592186044416 := hmx; cbv)
      | (intro _; cbv)
      | (refine call_pure hP code_order_Longest (hlong') ?_ ?_; (focus (cbv; (try simp); done)); rintro _ rfl; cbv)
      | (refine call_pure hP code_law21_alive (ok_alive) ?_ ?_; (focus (cbv; (try simp); done)); rintro _ rfl; cbv)
    subst hQ; exact leaf_data rfl rfl ⟨rfl, rfl⟩

theorem ok_OrderLongest {n : Nat} {GS : Nat → Nat → DV} (S : Ents n GS) {k : Nat} {GT : Nat → Nat → DV} (T : Ents k GT) (room : Int) :
    CallOK (O := Ob) PR n_law21_OrderLongest [.dv (.seq n 8 GS), .dv (.seq k 8 GT), .dv (.int .i64 room)] [] fun r m => r = .dv (.bool true) ∧ m = [] := by
  by_cases hn : n ≤ 12 ∧ k ≤ 12
  · exact ok_OrderLongest_few S T room hn.1 hn.2
  · refine fn_walkv mixed fn_law21_OrderLongest (Ent.refl _ _) fun bin cmp un conv bnot beq band sel isel ofN toN inb nz nneg lt le room' slb add sub sbin scmp slen sget ssub addk pc pb pi pf ps mkok min_ ig aeq P hP hA hF Q hQ => ?_
    cbv
    repeat' first
      | (refine Chk.mk trivial ?_; cbv)
      | (refine bc_true (by first | assumption | (simp (disch := omega) only [hF, natc, w64_in, decide_eq_true_eq, decide_eq_false_iff_not, Int.toNat_natCast, Bool.not_eq_true', Bool.not_eq_false', not_true_eq_false, not_false_eq_true, Int.not_lt, Int.not_le, Bool.and_eq_true, Bool.or_eq_true, Int.ofNat_lt, Int.ofNat_le, Int.natCast_nonneg, Int.toNat_zero, Int.toNat_one, Classical.not_not, beq_self_eq_true, true_and, and_true]; first | done | assumption | omega | (simp only [natc] at *; omega))) ?_; cbv)
      | (refine bc_false (by first | assumption | (simp (disch := omega) only [hF, natc, w64_in, decide_eq_true_eq, decide_eq_false_iff_not, Int.toNat_natCast, Bool.not_eq_true', Bool.not_eq_false', not_true_eq_false, not_false_eq_true, Int.not_lt, Int.not_le, Bool.and_eq_true, Bool.or_eq_true, Int.ofNat_lt, Int.ofNat_le, Int.natCast_nonneg, Int.toNat_zero, Int.toNat_one, Classical.not_not, beq_self_eq_true, true_and, and_true]; first | done | assumption | omega | (simp only [natc] at *; omega))) ?_; cbv)
      | (refine bc_split (fun h => ?_) (fun h => ?_) <;> (try simp (disch := omega) only [hF, natc, w64_in, decide_eq_true_eq, decide_eq_false_iff_not, Int.toNat_natCast, Bool.not_eq_true', Bool.not_eq_false', not_true_eq_false, not_false_eq_true, Int.not_lt, Int.not_le, Bool.and_eq_true, Bool.or_eq_true, Int.ofNat_lt, Int.ofNat_le, Int.natCast_nonneg, Int.toNat_zero, Int.toNat_one, Classical.not_not, beq_self_eq_true, true_and, and_true] at h) <;> cbv)
      | (refine IdxVC.mk (by simp (disch := omega) only [hF, natc, w64_in, decide_eq_true_eq, decide_eq_false_iff_not, Int.toNat_natCast, Bool.not_eq_true', Bool.not_eq_false', not_true_eq_false, not_false_eq_true, Int.not_lt, Int.not_le, Bool.and_eq_true, Bool.or_eq_true, Int.ofNat_lt, Int.ofNat_le, Int.natCast_nonneg, Int.toNat_zero, Int.toNat_one, Classical.not_not, beq_self_eq_true, true_and, and_true]; first | done | omega | (simp only [natc] at *; omega)) (fun kx hk hk2 => ?_); simp (disch := omega) only [hF, natc, w64_in, decide_eq_true_eq, decide_eq_false_iff_not, Int.toNat_natCast, Bool.not_eq_true', Bool.not_eq_false', not_true_eq_false, not_false_eq_true, Int.not_lt, Int.not_le, Bool.and_eq_true, Bool.or_eq_true, Int.ofNat_lt, Int.ofNat_le, Int.natCast_nonneg, Int.toNat_zero, Int.toNat_one, Classical.not_not, beq_self_eq_true, true_and, and_true] at hk; (try obtain rfl : kx = 0 := hk); cbv)
      | (refine Chk.mk (by simp (disch := omega) only [maxN, hF, natc, w64_in, decide_eq_true_eq, decide_eq_false_iff_not, Int.toNat_natCast, Bool.not_eq_true', Bool.not_eq_false', not_true_eq_false, not_false_eq_true, Int.not_lt, Int.not_le, Bool.and_eq_true, Bool.or_eq_true, Int.ofNat_lt, Int.ofNat_le, Int.natCast_nonneg, Int.toNat_zero, Int.toNat_one, Classical.not_not, beq_self_eq_true, true_and, and_true]; first | done | assumption | omega | (simp only [natc] at *; omega)) ?_; cbv)
      | (intro (hmx : _ ≤ maxN); replace hmx : _ ≤ 17592186044416 := hmx; cbv)
      | (intro _; cbv)
      | (refine call_pure hP code_law19_Few ((few_le S 12 12 rfl)) ?_ ?_; (focus (cbv; (try simp); done)); rintro _ ⟨f1, hf1, rfl⟩; cbv)
      | (refine call_pure hP code_law19_Few ((few_le T 12 12 rfl)) ?_ ?_; (focus (cbv; (try simp); done)); rintro _ ⟨f2, hf2, rfl⟩; cbv)
      | (refine call_pure hP code_law21_alive (ok_alive) ?_ ?_; (focus (cbv; (try simp); done)); rintro _ rfl; cbv)
    all_goals first
      | (exfalso; simp_all; done)
      | (subst hQ; exact leaf_data rfl rfl ⟨rfl, rfl⟩)

end Go.Proofs.Ytophlodlencgiaa
