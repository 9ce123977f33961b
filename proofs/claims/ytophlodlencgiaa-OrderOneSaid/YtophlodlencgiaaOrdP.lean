/-
  Walks: the order that is found by trying all, by the document.
-/
import Derived.Test.YtophlodlencgiaaOrdK
section
namespace Go.Proofs.Ytophlodlencgiaa
open Go.V
set_option linter.unusedVariables false
set_option linter.unusedSimpArgs false
set_option maxRecDepth 100000
set_option maxHeartbeats 8000000

theorem okR_May {n : Nat} {GS : Nat → Nat → DV} (S : Ents n GS) {k : Nat} {GT : Nat → Nat → DV} (T : Ents k GT) (room : Int) :
    CallOK (O := Ob) PR n_ref21_May [.dv (.seq n 8 GS), .dv (.seq k 8 GT), .dv (.int .i64 room)] [] fun r m => (∃ v, (v = true ↔ (S.shaped fun z => z = 1) ∧ (T.shaped fun z => z = 2 ∨ z = 3) ∧ 0 ≤ room) ∧ r = .dv (.bool v)) ∧ m = [] := by
  refine fn_walkv mixed fn_ref21_May (Ent.refl _ _) fun bin cmp un conv bnot beq band sel isel ofN toN inb nz nneg lt le room' slb add sub sbin scmp slen sget ssub addk pc pb pi pf ps mkok min_ ig aeq P hP hA hF Q hQ => ?_
  cbv
  repeat' first
    | (refine Chk.mk trivial ?_; cbv)
    | (refine bc_true (by first | assumption | (simp (disch := omega) only [hF, natc, Int.ofNat_eq_natCast, w64_in, decide_eq_true_eq, decide_eq_false_iff_not, Int.toNat_natCast, Bool.not_eq_true', Bool.not_eq_false', not_true_eq_false, not_false_eq_true, Int.not_lt, Int.not_le, Bool.and_eq_true, Bool.or_eq_true, Int.ofNat_lt, Int.ofNat_le, Int.natCast_nonneg, Int.toNat_zero, Int.toNat_one, Classical.not_not, beq_self_eq_true, true_and, and_true]; first | done | assumption | omega | (simp only [natc] at *; omega))) ?_; cbv)
    | (refine bc_false (by first | assumption | (simp (disch := omega) only [hF, natc, Int.ofNat_eq_natCast, w64_in, decide_eq_true_eq, decide_eq_false_iff_not, Int.toNat_natCast, Bool.not_eq_true', Bool.not_eq_false', not_true_eq_false, not_false_eq_true, Int.not_lt, Int.not_le, Bool.and_eq_true, Bool.or_eq_true, Int.ofNat_lt, Int.ofNat_le, Int.natCast_nonneg, Int.toNat_zero, Int.toNat_one, Classical.not_not, beq_self_eq_true, true_and, and_true]; first | done | assumption | omega | (simp only [natc] at *; omega))) ?_; cbv)
    | (refine bc_split (fun h => ?_) (fun h => ?_) <;> (try simp (disch := omega) only [hF, natc, Int.ofNat_eq_natCast, w64_in, decide_eq_true_eq, decide_eq_false_iff_not, Int.toNat_natCast, Bool.not_eq_true', Bool.not_eq_false', not_true_eq_false, not_false_eq_true, Int.not_lt, Int.not_le, Bool.and_eq_true, Bool.or_eq_true, Int.ofNat_lt, Int.ofNat_le, Int.natCast_nonneg, Int.toNat_zero, Int.toNat_one, Classical.not_not, beq_self_eq_true, true_and, and_true] at h) <;> cbv)
    | (refine IdxVC.mk (by simp (disch := omega) only [hF, natc, Int.ofNat_eq_natCast, w64_in, decide_eq_true_eq, decide_eq_false_iff_not, Int.toNat_natCast, Bool.not_eq_true', Bool.not_eq_false', not_true_eq_false, not_false_eq_true, Int.not_lt, Int.not_le, Bool.and_eq_true, Bool.or_eq_true, Int.ofNat_lt, Int.ofNat_le, Int.natCast_nonneg, Int.toNat_zero, Int.toNat_one, Classical.not_not, beq_self_eq_true, true_and, and_true]; first | done | omega | (simp only [natc] at *; omega)) (fun kx hk hk2 => ?_); simp (disch := omega) only [hF, natc, Int.ofNat_eq_natCast, w64_in, decide_eq_true_eq, decide_eq_false_iff_not, Int.toNat_natCast, Bool.not_eq_true', Bool.not_eq_false', not_true_eq_false, not_false_eq_true, Int.not_lt, Int.not_le, Bool.and_eq_true, Bool.or_eq_true, Int.ofNat_lt, Int.ofNat_le, Int.natCast_nonneg, Int.toNat_zero, Int.toNat_one, Classical.not_not, beq_self_eq_true, true_and, and_true] at hk; (try obtain rfl : kx = 0 := hk); cbv)
    | (refine Chk.mk (by simp (disch := omega) only [maxN, hF, natc, Int.ofNat_eq_natCast, w64_in, decide_eq_true_eq, decide_eq_false_iff_not, Int.toNat_natCast, Bool.not_eq_true', Bool.not_eq_false', not_true_eq_false, not_false_eq_true, Int.not_lt, Int.not_le, Bool.and_eq_true, Bool.or_eq_true, Int.ofNat_lt, Int.ofNat_le, Int.natCast_nonneg, Int.toNat_zero, Int.toNat_one, Classical.not_not, beq_self_eq_true, true_and, and_true]; first | done | assumption | omega | (simp only [natc] at *; omega)) ?_; cbv)
    | (intro (hmx : _ ≤ maxN); replace hmx : _ ≤ 17592186044416 := hmx; cbv)
    | (intro _; cbv)
  refine loop_up mixed hP hA (n) (fun i => ∀ j, j < i → S.kd j = 1 ∧ (S.en j = 0 → j + 1 = n)) [6, 7, 9, 10, 11, 12, 13, 14, 15, 16, 17, 18, 19, 20, 21, 22, 23, 24, 25, 26, 27, 28, 29, 30, 31, 32, 33, 34, 35] (fun i => [(7, .dv (.int .i64 (ofN i)))]) (fun _ => []) (fun j hj => absurd hj (Nat.not_lt_zero j)) ?_ fun Nx i hN hi hp => ?_
  · exact Ent.env (by cbv; simp [hF])
  cbv
  repeat' first
    | (refine Chk.mk trivial ?_; cbv)
    | (refine bc_true (by first | assumption | (simp (disch := omega) only [hF, natc, Int.ofNat_eq_natCast, w64_in, decide_eq_true_eq, decide_eq_false_iff_not, Int.toNat_natCast, Bool.not_eq_true', Bool.not_eq_false', not_true_eq_false, not_false_eq_true, Int.not_lt, Int.not_le, Bool.and_eq_true, Bool.or_eq_true, Int.ofNat_lt, Int.ofNat_le, Int.natCast_nonneg, Int.toNat_zero, Int.toNat_one, Classical.not_not, beq_self_eq_true, true_and, and_true]; first | done | assumption | omega | (simp only [natc] at *; omega))) ?_; cbv)
    | (refine bc_false (by first | assumption | (simp (disch := omega) only [hF, natc, Int.ofNat_eq_natCast, w64_in, decide_eq_true_eq, decide_eq_false_iff_not, Int.toNat_natCast, Bool.not_eq_true', Bool.not_eq_false', not_true_eq_false, not_false_eq_true, Int.not_lt, Int.not_le, Bool.and_eq_true, Bool.or_eq_true, Int.ofNat_lt, Int.ofNat_le, Int.natCast_nonneg, Int.toNat_zero, Int.toNat_one, Classical.not_not, beq_self_eq_true, true_and, and_true]; first | done | assumption | omega | (simp only [natc] at *; omega))) ?_; cbv)
    | (refine bc_split (fun h => ?_) (fun h => ?_) <;> (try simp (disch := omega) only [hF, natc, Int.ofNat_eq_natCast, w64_in, decide_eq_true_eq, decide_eq_false_iff_not, Int.toNat_natCast, Bool.not_eq_true', Bool.not_eq_false', not_true_eq_false, not_false_eq_true, Int.not_lt, Int.not_le, Bool.and_eq_true, Bool.or_eq_true, Int.ofNat_lt, Int.ofNat_le, Int.natCast_nonneg, Int.toNat_zero, Int.toNat_one, Classical.not_not, beq_self_eq_true, true_and, and_true] at h) <;> cbv)
    | (refine IdxVC.mk (by simp (disch := omega) only [hF, natc, Int.ofNat_eq_natCast, w64_in, decide_eq_true_eq, decide_eq_false_iff_not, Int.toNat_natCast, Bool.not_eq_true', Bool.not_eq_false', not_true_eq_false, not_false_eq_true, Int.not_lt, Int.not_le, Bool.and_eq_true, Bool.or_eq_true, Int.ofNat_lt, Int.ofNat_le, Int.natCast_nonneg, Int.toNat_zero, Int.toNat_one, Classical.not_not, beq_self_eq_true, true_and, and_true]; first | done | omega | (simp only [natc] at *; omega)) (fun kx hk hk2 => ?_); simp (disch := omega) only [hF, natc, Int.ofNat_eq_natCast, w64_in, decide_eq_true_eq, decide_eq_false_iff_not, Int.toNat_natCast, Bool.not_eq_true', Bool.not_eq_false', not_true_eq_false, not_false_eq_true, Int.not_lt, Int.not_le, Bool.and_eq_true, Bool.or_eq_true, Int.ofNat_lt, Int.ofNat_le, Int.natCast_nonneg, Int.toNat_zero, Int.toNat_one, Classical.not_not, beq_self_eq_true, true_and, and_true] at hk; (try obtain rfl : kx = 0 := hk); cbv)
    | (simp (maxSteps := 3000000) (disch := assumption) only [S.h0, S.h1, S.h2, S.h3, S.h4, S.h5, S.h6, S.h7]; cbv)
    | (refine Chk.mk (by simp (disch := omega) only [maxN, hF, natc, Int.ofNat_eq_natCast, w64_in, decide_eq_true_eq, decide_eq_false_iff_not, Int.toNat_natCast, Bool.not_eq_true', Bool.not_eq_false', not_true_eq_false, not_false_eq_true, Int.not_lt, Int.not_le, Bool.and_eq_true, Bool.or_eq_true, Int.ofNat_lt, Int.ofNat_le, Int.natCast_nonneg, Int.toNat_zero, Int.toNat_one, Classical.not_not, beq_self_eq_true, true_and, and_true]; first | done | assumption | omega | (simp only [natc] at *; omega)) ?_; cbv)
    | (intro (hmx : _ ≤ maxN); replace hmx : _ ≤ 17592186044416 := hmx; cbv)
    | (intro _; cbv)
  all_goals first
    | (subst hQ; refine leaf_data rfl rfl ⟨⟨_, ?_, rfl⟩, rfl⟩; (try clear hN); (try simp only [hF]); (try simp only [natc] at *); clear hF hA hP; (try simp only [Ents.shaped]); grind; done)
    | (refine hN _ (by first | omega | (simp only [natc] at *; omega)) ?_ (by first | exact Ent.env (by cbv; simp (disch := omega) [hF, natc, w64_in]) | exact Ent.ren [] rfl rfl trivial (by cbv; simp (disch := omega) [hF, natc, w64_in]) | exact Ent.ren [0] rfl rfl (by repeat' (first | exact trivial | exact rfl | (intro _ _ _ _; exact rfl) | refine And.intro ?_ ?_)) (by cbv; simp (disch := omega) [hF, natc, w64_in]) | exact Ent.ren [0, 1] rfl rfl (by repeat' (first | exact trivial | exact rfl | (intro _ _ _ _; exact rfl) | refine And.intro ?_ ?_)) (by cbv; simp (disch := omega) [hF, natc, w64_in])); clear hN; (try simp only [natc] at *); clear hF hA hP; (try simp only [Ents.shaped]); grind; done)
    | skip
  refine loop_up mixed hP hA (k) (fun i => ∀ j, j < i → (T.kd j = 2 ∨ T.kd j = 3) ∧ (T.en j = 0 → j + 1 = k)) [6, 8, 36, 37, 38, 39, 40, 41, 42, 43, 44, 45, 46, 47, 48, 49, 50, 51, 52, 53, 54, 55, 56, 57, 58, 59, 60, 61, 62, 63, 64, 65, 66, 67, 68, 69, 70] (fun i => [(8, .dv (.int .i64 (ofN i)))]) (fun _ => []) (fun j hj => absurd hj (Nat.not_lt_zero j)) ?_ fun Nx i hN hi hp => ?_
  · exact Ent.env (by cbv; simp [hF])
  cbv
  repeat' first
    | (refine Chk.mk trivial ?_; cbv)
    | (refine bc_true (by first | assumption | (simp (disch := omega) only [hF, natc, Int.ofNat_eq_natCast, w64_in, decide_eq_true_eq, decide_eq_false_iff_not, Int.toNat_natCast, Bool.not_eq_true', Bool.not_eq_false', not_true_eq_false, not_false_eq_true, Int.not_lt, Int.not_le, Bool.and_eq_true, Bool.or_eq_true, Int.ofNat_lt, Int.ofNat_le, Int.natCast_nonneg, Int.toNat_zero, Int.toNat_one, Classical.not_not, beq_self_eq_true, true_and, and_true]; first | done | assumption | omega | (simp only [natc] at *; omega))) ?_; cbv)
    | (refine bc_false (by first | assumption | (simp (disch := omega) only [hF, natc, Int.ofNat_eq_natCast, w64_in, decide_eq_true_eq, decide_eq_false_iff_not, Int.toNat_natCast, Bool.not_eq_true', Bool.not_eq_false', not_true_eq_false, not_false_eq_true, Int.not_lt, Int.not_le, Bool.and_eq_true, Bool.or_eq_true, Int.ofNat_lt, Int.ofNat_le, Int.natCast_nonneg, Int.toNat_zero, Int.toNat_one, Classical.not_not, beq_self_eq_true, true_and, and_true]; first | done | assumption | omega | (simp only [natc] at *; omega))) ?_; cbv)
    | (refine bc_split (fun h => ?_) (fun h => ?_) <;> (try simp (disch := omega) only [hF, natc, Int.ofNat_eq_natCast, w64_in, decide_eq_true_eq, decide_eq_false_iff_not, Int.toNat_natCast, Bool.not_eq_true', Bool.not_eq_false', not_true_eq_false, not_false_eq_true, Int.not_lt, Int.not_le, Bool.and_eq_true, Bool.or_eq_true, Int.ofNat_lt, Int.ofNat_le, Int.natCast_nonneg, Int.toNat_zero, Int.toNat_one, Classical.not_not, beq_self_eq_true, true_and, and_true] at h) <;> cbv)
    | (refine IdxVC.mk (by simp (disch := omega) only [hF, natc, Int.ofNat_eq_natCast, w64_in, decide_eq_true_eq, decide_eq_false_iff_not, Int.toNat_natCast, Bool.not_eq_true', Bool.not_eq_false', not_true_eq_false, not_false_eq_true, Int.not_lt, Int.not_le, Bool.and_eq_true, Bool.or_eq_true, Int.ofNat_lt, Int.ofNat_le, Int.natCast_nonneg, Int.toNat_zero, Int.toNat_one, Classical.not_not, beq_self_eq_true, true_and, and_true]; first | done | omega | (simp only [natc] at *; omega)) (fun kx hk hk2 => ?_); simp (disch := omega) only [hF, natc, Int.ofNat_eq_natCast, w64_in, decide_eq_true_eq, decide_eq_false_iff_not, Int.toNat_natCast, Bool.not_eq_true', Bool.not_eq_false', not_true_eq_false, not_false_eq_true, Int.not_lt, Int.not_le, Bool.and_eq_true, Bool.or_eq_true, Int.ofNat_lt, Int.ofNat_le, Int.natCast_nonneg, Int.toNat_zero, Int.toNat_one, Classical.not_not, beq_self_eq_true, true_and, and_true] at hk; (try obtain rfl : kx = 0 := hk); cbv)
    | (simp (maxSteps := 3000000) (disch := assumption) only [T.h0, T.h1, T.h2, T.h3, T.h4, T.h5, T.h6, T.h7]; cbv)
    | (refine Chk.mk (by simp (disch := omega) only [maxN, hF, natc, Int.ofNat_eq_natCast, w64_in, decide_eq_true_eq, decide_eq_false_iff_not, Int.toNat_natCast, Bool.not_eq_true', Bool.not_eq_false', not_true_eq_false, not_false_eq_true, Int.not_lt, Int.not_le, Bool.and_eq_true, Bool.or_eq_true, Int.ofNat_lt, Int.ofNat_le, Int.natCast_nonneg, Int.toNat_zero, Int.toNat_one, Classical.not_not, beq_self_eq_true, true_and, and_true]; first | done | assumption | omega | (simp only [natc] at *; omega)) ?_; cbv)
    | (intro (hmx : _ ≤ maxN); replace hmx : _ ≤ 17592186044416 := hmx; cbv)
    | (intro _; cbv)
  all_goals first
    | (subst hQ; refine leaf_data rfl rfl ⟨⟨_, ?_, rfl⟩, rfl⟩; (try clear hN); (try simp only [hF]); (try simp only [natc] at *); clear hF hA hP; (try simp only [Ents.shaped]); grind; done)
    | (refine hN _ (by first | omega | (simp only [natc] at *; omega)) ?_ (by first | exact Ent.env (by cbv; simp (disch := omega) [hF, natc, w64_in]) | exact Ent.ren [] rfl rfl trivial (by cbv; simp (disch := omega) [hF, natc, w64_in]) | exact Ent.ren [0] rfl rfl (by repeat' (first | exact trivial | exact rfl | (intro _ _ _ _; exact rfl) | refine And.intro ?_ ?_)) (by cbv; simp (disch := omega) [hF, natc, w64_in]) | exact Ent.ren [0, 1] rfl rfl (by repeat' (first | exact trivial | exact rfl | (intro _ _ _ _; exact rfl) | refine And.intro ?_ ?_)) (by cbv; simp (disch := omega) [hF, natc, w64_in])); clear hN; (try simp only [natc] at *); clear hF hA hP; (try simp only [Ents.shaped]); grind; done)
    | skip

end Go.Proofs.Ytophlodlencgiaa

end

section
namespace Go.Proofs.Ytophlodlencgiaa
open Go.V
set_option linter.unusedVariables false
set_option linter.unusedSimpArgs false
set_option maxRecDepth 100000
set_option maxHeartbeats 8000000

/-- What is told of an order that is looked for. -/
def goesQ (o : Option (List Nat)) (r : SV) : Prop := ∃ (q : Nat) (lg : Nat → Nat → DV) (b : Bool), r = .tup [.dv (.seq q 1 lg), .dv (.bool b)] ∧
  (b = true → ∃ l : List Nat, o = some l ∧ l.length = q ∧ ∀ y, y < q → lg y 0 = .int .i64 ((l.getD y 0 : Nat) : Int)) ∧ (b = false → o = none ∧ q = 0)

theorem goesQ_nil {o : Option (List Nat)} {b : Bool} (h : (b = true ∧ o = some []) ∨ (b = false ∧ o = none)) : goesQ o (.tup [.dv (.seq 0 1 fun _ _ => .nilp), .dv (.bool b)]) := by
  refine ⟨0, _, b, rfl, fun hb => ?_, fun hb => ?_⟩
  · rcases h with ⟨_, h⟩ | ⟨h, _⟩
    · exact ⟨[], h, rfl, fun y hy => absurd hy (Nat.not_lt_zero y)⟩
    · rw [h] at hb; cases hb
  · rcases h with ⟨h, _⟩ | ⟨_, h⟩
    · rw [h] at hb; cases hb
    · exact ⟨h, rfl⟩

theorem goesQ_app {n : Nat} {m : List (Chunk Ob)} {o : Option (List Nat)} (h : Nat) (z : Int) (q : Nat) (lg : Nat → Nat → DV) {N : Nat} {at_ : Nat → Nat → SV} (hget : lget m h = some (.vec N 1 at_)) (hN : N = q + 1)
    (hat : ∀ y, y < q + 1 → at_ y 0 = if y < 1 then .dv (.int .i64 z) else .dv (lg (y - 1) 0)) (c : Nat) (hz : z = c) (l : List Nat) (hl : l.length = q) (hlg : ∀ y, y < q → lg y 0 = .int .i64 ((l.getD y 0 : Nat) : Int)) (ho : o = some (c :: l)) (hn : n = 0) :
    ∃ r' m', Ent n ⟨[.tup [.vec h, .dv (.bool true)]], m⟩ ⟨[r'], m'⟩ ∧ (goesQ o r' ∧ m' = []) := by
  subst hN hz ho
  refine leaf_frz (Q := fun r' m' => goesQ (some (c :: l)) r' ∧ m' = []) h (fun y _ => .int .i64 (((c :: l).getD y 0 : Nat) : Int)) hget (fun y f hy hf => ?_) (u := .tup [.dv (.seq (q + 1) 1 fun y _ => .int .i64 (((c :: l).getD y 0 : Nat) : Int)), .dv (.bool true)]) ?_ rfl hn ⟨⟨_, _, true, rfl, fun _ => ⟨c :: l, rfl, by simp [hl], fun y _ => rfl⟩, nofun⟩, rfl⟩
  · obtain rfl : f = 0 := by omega
    rw [hat y hy]
    cases y with
    | zero => rfl
    | succ y => rw [if_neg (by omega), Nat.add_sub_cancel, hlg y (by omega)]; rfl
  · have : Nat.beq h h = true := Nat.beq_refl h
    simp only [frzV, frzL, this]

/-- A list's entries from a place on. -/
structure Suf {n : Nat} {G : Nat → Nat → DV} (S : Ents n G) (i : Nat) {n' : Nat} {G' : Nat → Nat → DV} (S' : Ents n' G') : Prop where
  len : n' + i = n
  kd : ∀ x, x < n' → S'.kd x = S.kd (i + x)
  be : ∀ x, x < n' → S'.be x = S.be (i + x)
  en : ∀ x, x < n' → S'.en x = S.en (i + x)
  er : ∀ x, x < n' → S'.er x = S.er (i + x)
  m : ∀ x, x < n' → S'.m x = S.m (i + x)
  x : ∀ x, x < n' → ∀ y, y < S'.m x → S'.x x y = S.x (i + x) y

variable {n : Nat} {G : Nat → Nat → DV} {S : Ents n G} {i n' : Nat} {G' : Nat → Nat → DV} {S' : Ents n' G'}

theorem Suf.late (h : Suf S i S') (b : Int) : S'.late 0 b ↔ S.late i b := by
  have := h.len
  constructor
  · rintro ⟨x, _, h2, h3, h4⟩
    rw [h.en x h2] at h3 h4
    exact ⟨i + x, by omega, by omega, h3, h4⟩
  · rintro ⟨x, h1, h2, h3, h4⟩
    refine ⟨x - i, Nat.zero_le _, by omega, ?_⟩
    rw [h.en _ (by omega), show i + (x - i) = x by omega]
    exact ⟨h3, h4⟩

theorem Suf.one (h : Suf S i S') (h0 : 0 < n') {G1 : Nat → Nat → DV} (hG : ∀ x f, G1 x f = G' (1 + x) f) : ∃ S1 : Ents (n' - 1) G1, Suf S (i + 1) S1 := by
  have hl := h.len
  have e : G1 = fun x f => G' (1 + x) f := by funext x f; exact hG x f
  subst e
  refine ⟨S'.drop 1 (n' - 1) (by omega), ?_⟩
  constructor
  · omega
  · intro x hx; have := h.kd (1 + x) (by omega); simp only [Ents.drop]; rw [this]; congr 1; omega
  · intro x hx; have := h.be (1 + x) (by omega); simp only [Ents.drop]; rw [this]; congr 1; omega
  · intro x hx; have := h.en (1 + x) (by omega); simp only [Ents.drop]; rw [this]; congr 1; omega
  · intro x hx; have := h.er (1 + x) (by omega); simp only [Ents.drop]; rw [this]; congr 1; omega
  · intro x hx; have := h.m (1 + x) (by omega); simp only [Ents.drop]; rw [this]; congr 1; omega
  · intro x hx y hy
    have := h.x (1 + x) (by omega) y hy
    simp only [Ents.drop]
    rw [this]; congr 1; omega

theorem Suf.done (h : Suf S i S') (hsh : ∀ x, x < n → S.en x = 0 → x + 1 = n) : (∃ x, x < n' ∧ S'.en x ≠ 0) ↔ ¬ S.done i := by
  have hl := h.len
  constructor
  · rintro ⟨x, hx, he⟩ hd
    rw [h.en x hx] at he
    rcases hd with hd | ⟨hd, h0⟩
    · omega
    · have : x = 0 := by omega
      subst this
      exact he h0
  · intro hd
    have h0 : 0 < n' := by
      rcases Nat.eq_zero_or_pos n' with h1 | h1
      · exact (hd (.inl (by omega))).elim
      · exact h1
    refine ⟨0, h0, fun he => ?_⟩
    rw [h.en 0 h0] at he
    exact hd (.inr ⟨by have := hsh (i + 0) (by omega) he; omega, he⟩)

end Go.Proofs.Ytophlodlencgiaa

end

section
namespace Go.Proofs.Ytophlodlencgiaa
open Go.V
set_option linter.unusedVariables false
set_option linter.unusedSimpArgs false
set_option maxRecDepth 100000
set_option maxHeartbeats 8000000

/-- The messages put, as the document has them. -/
structure Lds {n : Nat} {G : Nat → Nat → DV} (S : Ents n G) (p : Nat) (L : Nat → Nat → DV) (lm : Nat → Nat) (lg : Nat → Nat → Nat → DV) : Prop where
  at_ : ∀ j, j < p → L j 0 = .seq (lm j) 1 (lg j)
  m : ∀ j, j < p → lm j = S.m (S.msg j)
  x : ∀ j, j < p → ∀ y, y < lm j → lg j y 0 = .int .i64 (S.x (S.msg j) y)

set_option maxRecDepth 100000 in
set_option maxHeartbeats 4000000 in
theorem okR_goes_walk {n : Nat} {GS : Nat → Nat → DV} (S : Ents n GS) {k : Nat} {GT : Nat → Nat → DV} (T : Ents k GT) (room : Int) (i j : Nat) {n' : Nat} {GS' : Nat → Nat → DV} (S' : Ents n' GS') {k' : Nat} {GT' : Nat → Nat → DV} (T' : Ents k' GT')
    (hl1 : n' + i = n) (hl2 : k' + j = k) (hN : n + k < 1000) (L : Nat → Nat → DV) (pu go ba : Int) (p : Nat) {GS1 GT1 : Nat → Nat → DV} (hGS1 : ∀ x f, GS1 x f = GS' (1 + x) f) (hGT1 : ∀ x f, GT1 x f = GT' (1 + x) f) (n1 k1 : Nat) (hn1 : n1 = n' - 1) (hk1 : k1 = k' - 1)
    (at' at1 many : Int) (hat : at'.toNat = j ∧ 0 ≤ at') (hat1 : at1 = at' + 1) (hmany : many.toNat = n ∧ 0 ≤ many) (ds : Bool) (hds : ds = true ↔ S.done i) (dt : Bool) (hdt : dt = true ↔ T.done j) (o : Option (List Nat))
    (l1 l2 l3 l4 s1 s2 : Bool) (hl1' : l1 = true ↔ T.late j (S.be i)) (hl2' : l2 = true ↔ S.late (i + 1) (S.be i)) (hl3' : l3 = true ↔ S.late i (T.be j)) (hl4' : l4 = true ↔ T.late (j + 1) (T.be j))
    (hle1 : CallOK (O := Ob) PR n_ref21_left [.dv (.seq n' 8 GS')] [] fun r m => r = .dv (.bool (!ds)) ∧ m = []) (hle2 : CallOK (O := Ob) PR n_ref21_left [.dv (.seq k' 8 GT')] [] fun r m => r = .dv (.bool (!dt)) ∧ m = [])
    (hla1 : 0 < n' → CallOK (O := Ob) PR n_ref21_late [.dv (.seq k' 8 GT'), .agg (S'.row 0)] [] fun r m => r = .dv (.bool l1) ∧ m = []) (hla2 : 0 < n' → CallOK (O := Ob) PR n_ref21_late [.dv (.seq n1 8 GS1), .agg (S'.row 0)] [] fun r m => r = .dv (.bool l2) ∧ m = [])
    (hla3 : 0 < k' → CallOK (O := Ob) PR n_ref21_late [.dv (.seq n' 8 GS'), .agg (T'.row 0)] [] fun r m => r = .dv (.bool l3) ∧ m = []) (hla4 : 0 < k' → CallOK (O := Ob) PR n_ref21_late [.dv (.seq k1 8 GT1), .agg (T'.row 0)] [] fun r m => r = .dv (.bool l4) ∧ m = [])
    (o1 o2 : Option (List Nat))
    (hd1 : 0 < n' → CallOK (O := Ob) PR n_ref21_Does [.agg [.dv (.int .i64 room), .dv (.seq p 1 L), .dv (.int .i64 pu), .dv (.int .i64 go), .dv (.int .i64 ba)], .agg (S'.row 0)] [] fun r m => (∃ room' pu' go' ba' p' L', r = .tup [.agg [.dv (.int .i64 room'), .dv (.seq p' 1 L'), .dv (.int .i64 pu'), .dv (.int .i64 go'), .dv (.int .i64 ba')], .dv (.bool s1)] ∧
      (s1 = true → CallOK (O := Ob) PR n_ref21_goes [.agg [.dv (.int .i64 room'), .dv (.seq p' 1 L'), .dv (.int .i64 pu'), .dv (.int .i64 go'), .dv (.int .i64 ba')], .dv (.seq n1 8 GS1), .dv (.seq k' 8 GT'), .dv (.int .i64 at'), .dv (.int .i64 many)] [] fun r m => goesQ o1 r ∧ m = [])) ∧ m = [])
    (hd2 : 0 < k' → CallOK (O := Ob) PR n_ref21_Does [.agg [.dv (.int .i64 room), .dv (.seq p 1 L), .dv (.int .i64 pu), .dv (.int .i64 go), .dv (.int .i64 ba)], .agg (T'.row 0)] [] fun r m => (∃ room' pu' go' ba' p' L', r = .tup [.agg [.dv (.int .i64 room'), .dv (.seq p' 1 L'), .dv (.int .i64 pu'), .dv (.int .i64 go'), .dv (.int .i64 ba')], .dv (.bool s2)] ∧
      (s2 = true → CallOK (O := Ob) PR n_ref21_goes [.agg [.dv (.int .i64 room'), .dv (.seq p' 1 L'), .dv (.int .i64 pu'), .dv (.int .i64 go'), .dv (.int .i64 ba')], .dv (.seq n' 8 GS'), .dv (.seq k1 8 GT1), .dv (.int .i64 at1), .dv (.int .i64 many)] [] fun r m => goesQ o2 r ∧ m = [])) ∧ m = [])
    (ho1 : ∀ l, o1 = some l → l.length < 1000) (ho2 : ∀ l, o2 = some l → l.length < 1000)
    (hdone : ds = true → dt = true → o = some [])
    (h1 : ¬ (ds = true ∧ dt = true) → 0 < n' → l1 = false → l2 = false → s1 = true → ∀ l, o1 = some l → o = some (i :: l))
    (h2 : ¬ (ds = true ∧ dt = true) → (0 < n' → l1 = false → l2 = false → s1 = true → o1 = none) → 0 < k' → l3 = false → l4 = false → s2 = true → ∀ l, o2 = some l → o = some ((n + j) :: l))
    (h3 : ¬ (ds = true ∧ dt = true) → (0 < n' → l1 = false → l2 = false → s1 = true → o1 = none) → (0 < k' → l3 = false → l4 = false → s2 = true → o2 = none) → o = none) :
    CallOK (O := Ob) PR n_ref21_goes [.agg [.dv (.int .i64 room), .dv (.seq p 1 L), .dv (.int .i64 pu), .dv (.int .i64 go), .dv (.int .i64 ba)], .dv (.seq n' 8 GS'), .dv (.seq k' 8 GT'), .dv (.int .i64 at'), .dv (.int .i64 many)] []
      fun r m => goesQ o r ∧ m = [] := by
  refine fn_walkv mixed fn_ref21_goes (Ent.refl _ _) fun bin cmp un conv bnot beq band sel isel ofN toN inb nz nneg lt le room' slb add sub sbin scmp slen sget ssub addk pc pb pi pf ps mkok min_ ig aeq P hP hA hF Q hQ => ?_
  have e1 : DV.seq (sub (toN (ofN n')) (toN 1)) 8 (fun x => GS' (add (toN 1) x)) = .seq n1 8 GS1 := by
    simp only [hF, hn1]; congr 1; funext x f; rw [hGS1]; rfl
  have e2 : DV.seq (sub (toN (ofN k')) (toN 1)) 8 (fun x => GT' (add (toN 1) x)) = .seq k1 8 GT1 := by
    simp only [hF, hk1]; congr 1; funext x f; rw [hGT1]; rfl
  have e3 : bin .add .i64 at' 1 = at1 := by simp only [hF, hat1]; rw [w64_in (by omega)]
  have fA : ∀ (q : Nat) (lg : Nat → Nat → DV) (m : List (Chunk Ob)) (h N : Nat) (at_ : Nat → Nat → SV) (l : List Nat), lget m h = some (.vec N 1 at_) → N = add 1 q → at_ = appAt ⟨bin, cmp, un, conv, bnot, beq, band, sel, isel, ofN, toN, inb, nz, nneg, lt, le, room', slb, add, sub, sbin, scmp, slen, sget, ssub, addk, pc, pb, pi, pf, ps, mkok, min_, ig, aeq⟩ 1 (listAt 1 [.dv (.int .i64 (bin .sub .i64 many (ofN n')))]) (dvAt lg) → l.length = q →
      (∀ y, y < q → lg y 0 = .int .i64 ((l.getD y 0 : Nat) : Int)) → o = some (i :: l) → Q (.tup [.vec h, .dv (.bool true)]) m := by
    intro q lg m h N at_ l hm hN' hat' hl hlg ho
    subst hQ
    refine goesQ_app h (bin .sub .i64 many (ofN n')) q lg hm (by rw [hN']; simp only [hF]; omega) (fun y hy => ?_) i (by simp only [hF]; rw [w64_in (by omega)]; omega) l hl hlg ho rfl
    rw [hat']
    simp only [appAt, dvAt, hF]
    split
    · obtain rfl : y = 0 := by omega
      rfl
    · rfl
  have fB : ∀ (q : Nat) (lg : Nat → Nat → DV) (m : List (Chunk Ob)) (h N : Nat) (at_ : Nat → Nat → SV) (l : List Nat), lget m h = some (.vec N 1 at_) → N = add 1 q → at_ = appAt ⟨bin, cmp, un, conv, bnot, beq, band, sel, isel, ofN, toN, inb, nz, nneg, lt, le, room', slb, add, sub, sbin, scmp, slen, sget, ssub, addk, pc, pb, pi, pf, ps, mkok, min_, ig, aeq⟩ 1 (listAt 1 [.dv (.int .i64 (bin .add .i64 many at'))]) (dvAt lg) → l.length = q →
      (∀ y, y < q → lg y 0 = .int .i64 ((l.getD y 0 : Nat) : Int)) → o = some ((n + j) :: l) → Q (.tup [.vec h, .dv (.bool true)]) m := by
    intro q lg m h N at_ l hm hN' hat' hl hlg ho
    subst hQ
    refine goesQ_app h (bin .add .i64 many at') q lg hm (by rw [hN']; simp only [hF]; omega) (fun y hy => ?_) (n + j) (by simp only [hF]; rw [w64_in (by omega)]; omega) l hl hlg ho rfl
    rw [hat']
    simp only [appAt, dvAt, hF]
    split
    · obtain rfl : y = 0 := by omega
      rfl
    · rfl
  clear hGS1 hGT1 hn1 hk1 hds hdt hl1' hl2' hl3' hl4'
  cbv
  repeat' first
    | (refine Chk.mk trivial ?_; cbv)
    | (refine bc_true (by first | assumption | (simp (disch := omega) only [hF, natc, Int.ofNat_eq_natCast, w64_in, decide_eq_true_eq, decide_eq_false_iff_not, Int.toNat_natCast, Bool.not_eq_true', Bool.not_eq_false', not_true_eq_false, not_false_eq_true, Int.not_lt, Int.not_le, Bool.and_eq_true, Bool.or_eq_true, Int.ofNat_lt, Int.ofNat_le, Int.natCast_nonneg, Int.toNat_zero, Int.toNat_one, Classical.not_not, beq_self_eq_true, true_and, and_true]; first | done | assumption | omega | (simp only [natc] at *; omega))) ?_; cbv)
    | (refine bc_false (by first | assumption | (simp (disch := omega) only [hF, natc, Int.ofNat_eq_natCast, w64_in, decide_eq_true_eq, decide_eq_false_iff_not, Int.toNat_natCast, Bool.not_eq_true', Bool.not_eq_false', not_true_eq_false, not_false_eq_true, Int.not_lt, Int.not_le, Bool.and_eq_true, Bool.or_eq_true, Int.ofNat_lt, Int.ofNat_le, Int.natCast_nonneg, Int.toNat_zero, Int.toNat_one, Classical.not_not, beq_self_eq_true, true_and, and_true]; first | done | assumption | omega | (simp only [natc] at *; omega))) ?_; cbv)
    | (refine bc_split (fun h => ?_) (fun h => ?_) <;> (try simp (disch := omega) only [hF, natc, Int.ofNat_eq_natCast, w64_in, decide_eq_true_eq, decide_eq_false_iff_not, Int.toNat_natCast, Bool.not_eq_true', Bool.not_eq_false', not_true_eq_false, not_false_eq_true, Int.not_lt, Int.not_le, Bool.and_eq_true, Bool.or_eq_true, Int.ofNat_lt, Int.ofNat_le, Int.natCast_nonneg, Int.toNat_zero, Int.toNat_one, Classical.not_not, beq_self_eq_true, true_and, and_true] at h) <;> cbv)
    | (refine IdxVC.mk (by simp (disch := omega) only [hF, natc, Int.ofNat_eq_natCast, w64_in, decide_eq_true_eq, decide_eq_false_iff_not, Int.toNat_natCast, Bool.not_eq_true', Bool.not_eq_false', not_true_eq_false, not_false_eq_true, Int.not_lt, Int.not_le, Bool.and_eq_true, Bool.or_eq_true, Int.ofNat_lt, Int.ofNat_le, Int.natCast_nonneg, Int.toNat_zero, Int.toNat_one, Classical.not_not, beq_self_eq_true, true_and, and_true]; first | done | omega | (simp only [natc] at *; omega)) (fun kx hk hk2 => ?_); simp (disch := omega) only [hF, natc, Int.ofNat_eq_natCast, w64_in, decide_eq_true_eq, decide_eq_false_iff_not, Int.toNat_natCast, Bool.not_eq_true', Bool.not_eq_false', not_true_eq_false, not_false_eq_true, Int.not_lt, Int.not_le, Bool.and_eq_true, Bool.or_eq_true, Int.ofNat_lt, Int.ofNat_le, Int.natCast_nonneg, Int.toNat_zero, Int.toNat_one, Classical.not_not, beq_self_eq_true, true_and, and_true] at hk; (try obtain rfl : kx = 0 := hk); cbv)
    | (simp (maxSteps := 3000000) (disch := assumption) only [S'.h0, S'.h1, S'.h2, S'.h3, S'.h4, S'.h5, S'.h6, S'.h7, T'.h0, T'.h1, T'.h2, T'.h3, T'.h4, T'.h5, T'.h6, T'.h7]; cbv)
    | (refine Chk.mk (by simp (disch := omega) only [maxN, hF, natc, Int.ofNat_eq_natCast, w64_in, decide_eq_true_eq, decide_eq_false_iff_not, Int.toNat_natCast, Bool.not_eq_true', Bool.not_eq_false', not_true_eq_false, not_false_eq_true, Int.not_lt, Int.not_le, Bool.and_eq_true, Bool.or_eq_true, Int.ofNat_lt, Int.ofNat_le, Int.natCast_nonneg, Int.toNat_zero, Int.toNat_one, Classical.not_not, beq_self_eq_true, true_and, and_true]; first | done | assumption | omega | (simp only [natc] at *; omega)) ?_; cbv)
    | (intro (hmx : _ ≤ maxN); replace hmx : _ ≤ 17592186044416 := hmx; cbv)
    | (intro _; cbv)
    | (refine call_pure hP code_ref21_left (hle1) ?_ ?_; (focus (cbv; (try simp); done)); rintro _ rfl; cbv)
    | (refine call_pure hP code_ref21_left (hle2) ?_ ?_; (focus (cbv; (try simp); done)); rintro _ rfl; cbv)
    | ((refine Chk.mk (by first | (obtain ⟨l, e4, e5, _⟩ := hb1 (by assumption); have := ho1 l e4; simp [hF, maxN]; omega) | (obtain ⟨l, e4, e5, _⟩ := hb2 (by assumption); have := ho2 l e4; simp [hF, maxN]; omega)) ?_); cbv)
    | ((simp only [e1]); cbv)
    | ((simp only [e2]); cbv)
    | ((simp only [e3]); cbv)
    | (refine And.intro ?_ ?_ <;> cbv)
    | (refine call_pure hP code_ref21_late ((hla1 (by assumption))) ?_ ?_; (focus (cbv; (try simp); done)); rintro _ rfl; cbv)
    | (refine call_pure hP code_ref21_late ((hla2 (by assumption))) ?_ ?_; (focus (cbv; (try simp); done)); rintro _ rfl; cbv)
    | (refine call_pure hP code_ref21_late ((hla3 (by assumption))) ?_ ?_; (focus (cbv; (try simp); done)); rintro _ rfl; cbv)
    | (refine call_pure hP code_ref21_late ((hla4 (by assumption))) ?_ ?_; (focus (cbv; (try simp); done)); rintro _ rfl; cbv)
    | (refine call_pure hP code_ref21_Does ((hd1 (by assumption))) ?_ ?_; (focus (cbv; (try simp); done)); rintro _ ⟨room1, pu1, go1, ba1, p1, L1, rfl, hr1⟩; cbv)
    | (refine call_pure hP code_ref21_Does ((hd2 (by assumption))) ?_ ?_; (focus (cbv; (try simp); done)); rintro _ ⟨room2, pu2, go2, ba2, p2, L2, rfl, hr2⟩; cbv)
    | (refine call_pure hP code_ref21_goes ((hr1 (by first | rfl | assumption))) ?_ ?_; (focus (cbv; (try simp); done)); rintro _ ⟨q1, lg1, b1, rfl, hb1, hb1'⟩; cbv)
    | (refine call_pure hP code_ref21_goes ((hr2 (by first | rfl | assumption))) ?_ ?_; (focus (cbv; (try simp); done)); rintro _ ⟨q2, lg2, b2, rfl, hb2, hb2'⟩; cbv)
  all_goals first
    | (subst hQ; refine leaf_weak (.tup (.cons (.dv (.nil 1 fun _ _ => .nilp)) (.cons (.same _) .nil))) rfl rfl ⟨goesQ_nil ?_, rfl⟩; clear hF hA hP hla1 hla2 hla3 hla4 hd1 hd2 hle1 hle2 e1 e2 e3; (try clear hr1); (try clear hr2); simp only [natc] at *; grind; done)
    | (obtain ⟨l, e4, e5, e6⟩ := hb1 (by assumption); refine fA _ _ _ 3 _ _ l rfl rfl rfl e5 e6 (h1 ?_ (by assumption) (by first | rfl | assumption) (by first | rfl | assumption) (by first | rfl | assumption) l e4); clear hF hA hP hQ fA fB hla1 hla2 hla3 hla4 hd1 hd2 hle1 hle2 e1 e2 e3 hr1; (try clear hr2); grind; done)
    | (obtain ⟨l, e4, e5, e6⟩ := hb2 (by assumption); first
        | refine fB _ _ _ 3 _ _ l rfl rfl rfl e5 e6 (h2 ?_ ?_ (by assumption) (by assumption) (by assumption) (by assumption) l e4)
        | refine fB _ _ _ 4 _ _ l rfl rfl rfl e5 e6 (h2 ?_ ?_ (by assumption) (by assumption) (by assumption) (by assumption) l e4)
       all_goals (clear hF hA hP hQ fA fB hla1 hla2 hla3 hla4 hd1 hd2 hle1 hle2 e1 e2 e3 hr2; (try clear hr1); (try simp only [natc] at *); grind)
       done)
    | skip


end Go.Proofs.Ytophlodlencgiaa

end
