/-
  Walks: the entries of which something is true, of their own; those of a channel.
-/
import Derived.Test.YtophlodlencgiaaDoorDiaL
namespace Go.Proofs.YtophlodlencgiaaDoor
open Go.V
set_option linter.unusedVariables false
set_option linter.unusedSimpArgs false
set_option maxRecDepth 100000
set_option maxHeartbeats 8000000

theorem gp_next {n : Nat} {G : Nat → Nat → DV} (p : Nat → Bool) {i : Nat} (x f : Nat) (hx : x < (pick p i).length) : Gp G p (i + 1) x f = Gp G p i x f := by
  unfold Gp
  rw [pick_at p (Nat.le_succ i) hx]

theorem ok_some {n : Nat} {G : Nat → Nat → DV} (S : Ents n G) (hn : n ≤ 1000) (hm : ∀ i, i < n → S.m i ≤ 1000) (c : FuncId) (hcode : codeFn PR c = true) (u v : Int) (p : Nat → Bool)
    (hc : ∀ i, i < n → CallOK (O := Ob) PR c [.agg (S.row i), .ptr 0 0, .ptr 1 0] [.blk [.one (.dv (.int .i64 u))], .blk [.one (.dv (.int .i64 v))]] fun r m => r = .dv (.bool (p i)) ∧ m = [.blk [.one (.dv (.int .i64 u))], .blk [.one (.dv (.int .i64 v))]]) :
    CallOK (O := Ob) PR n_diary_some [.dv (.seq n 8 G), .fn c [.ptr 0 0, .ptr 1 0]] [.blk [.one (.dv (.int .i64 u))], .blk [.one (.dv (.int .i64 v))]]
      fun r m => r = .dv (.seq (pick p n).length 8 (Gp G p n)) ∧ m = [.blk [.one (.dv (.int .i64 u))], .blk [.one (.dv (.int .i64 v))]] := by
  obtain ⟨W, hW⟩ : ∃ W : Nat → Nat → Nat → DV, ∀ i, W i = Gp G p i := ⟨_, fun _ => rfl⟩
  obtain ⟨L, hL⟩ : ∃ L : Nat → Nat, ∀ i, L i = (pick p i).length := ⟨_, fun _ => rfl⟩
  have hL0 : L 0 = 0 := hL 0
  have hLn : ∀ i, L i ≤ i := fun i => hL i ▸ pick_len p i
  have hLy : ∀ i, p i = true → L (i + 1) = L i + 1 := fun i h => by rw [hL, hL, pick, if_pos h]; simp
  have hLno : ∀ i, p i = false → L (i + 1) = L i := fun i h => by rw [hL, hL, pick, if_neg (by simp [h])]
  have hWo : ∀ i x f, x < L i → W (i + 1) x f = W i x f := fun i x f h => by rw [hW, hW]; rw [hL] at h; exact gp_next (n := n) p x f h
  have hWn : ∀ i f, p i = true → W (i + 1) (L i) f = G i f := fun i f h => by rw [hW, hL]; unfold Gp; rw [pick_next p (Nat.lt_succ_self i) h]
  rw [← hL, ← hW]
  clear hL hW
  refine fn_walkv mixed fn_diary_some (Ent.refl _ _) fun bin cmp un conv bnot beq band sel isel ofN toN inb nz nneg lt le room' slb add sub sbin scmp slen sget ssub addk pc pb pi pf ps mkok min_ ig aeq P hP hA hF Q hQ => ?_
  have hat : ∀ i, i < n → p i = true → ∀ x f, x < L i + 1 → f < 8 → appAt ⟨bin, cmp, un, conv, bnot, beq, band, sel, isel, ofN, toN, inb, nz, nneg, lt, le, room', slb, add, sub, sbin, scmp, slen, sget, ssub, addk, pc, pb, pi, pf, ps, mkok, min_, ig, aeq⟩ (L i) (fun x f => .dv (W i x f)) (listAt 8 [.dv (.int .i64 (S.co i)), .dv (.int .i64 (S.pe i)), .dv (.int .i64 (S.kd i)), .dv (.int .i64 (S.be i)), .dv (.int .i64 (S.en i)), .dv (.int .i64 (S.er i)), .dv (.seq (S.m i) 1 (S.g i)), .dv (.int .i64 (S.ha i))]) x f = .dv (W (i + 1) x f) := by
    intro i hi hp x f hx hf
    simp only [appAt]
    split
    · rw [hWo i x f (by assumption)]
    · obtain rfl : x = L i := by omega
      rw [hWn i f hp]
      simp only [hF, Nat.sub_self, listAt, Nat.zero_mul, Nat.zero_add]
      refine S.cell hi hf (fun f => match lget [SV.dv (.int .i64 (S.co i)), .dv (.int .i64 (S.pe i)), .dv (.int .i64 (S.kd i)), .dv (.int .i64 (S.be i)), .dv (.int .i64 (S.en i)), .dv (.int .i64 (S.er i)), .dv (.seq (S.m i) 1 (S.g i)), .dv (.int .i64 (S.ha i))] f with | some v => v | none => .junk) rfl rfl rfl rfl rfl rfl rfl rfl
  cbv
  repeat' first
    | (refine Chk.mk trivial ?_; cbv)
    | (refine bc_true (by first | assumption | (simp (disch := omega) only [hF, natc, Int.ofNat_eq_natCast, w64_in, decide_eq_true_eq, decide_eq_false_iff_not, Int.toNat_natCast, Bool.not_eq_true', Bool.not_eq_false', not_true_eq_false, not_false_eq_true, Int.not_lt, Int.not_le, Bool.and_eq_true, Bool.or_eq_true, Int.ofNat_lt, Int.ofNat_le, Int.natCast_nonneg, Int.toNat_zero, Int.toNat_one, Classical.not_not, beq_self_eq_true, true_and, and_true]; first | done | assumption | omega | (simp only [natc] at *; omega))) ?_; cbv)
    | (refine bc_false (by first | assumption | (simp (disch := omega) only [hF, natc, Int.ofNat_eq_natCast, w64_in, decide_eq_true_eq, decide_eq_false_iff_not, Int.toNat_natCast, Bool.not_eq_true', Bool.not_eq_false', not_true_eq_false, not_false_eq_true, Int.not_lt, Int.not_le, Bool.and_eq_true, Bool.or_eq_true, Int.ofNat_lt, Int.ofNat_le, Int.natCast_nonneg, Int.toNat_zero, Int.toNat_one, Classical.not_not, beq_self_eq_true, true_and, and_true]; first | done | assumption | omega | (simp only [natc] at *; omega))) ?_; cbv)
    | (refine bc_split (fun h => ?_) (fun h => ?_) <;> (try simp (disch := omega) only [hF, natc, Int.ofNat_eq_natCast, w64_in, decide_eq_true_eq, decide_eq_false_iff_not, Int.toNat_natCast, Bool.not_eq_true', Bool.not_eq_false', not_true_eq_false, not_false_eq_true, Int.not_lt, Int.not_le, Bool.and_eq_true, Bool.or_eq_true, Int.ofNat_lt, Int.ofNat_le, Int.natCast_nonneg, Int.toNat_zero, Int.toNat_one, Classical.not_not, beq_self_eq_true, true_and, and_true] at h) <;> cbv)
    | (refine IdxVC.mk (by simp (disch := omega) only [hF, natc, Int.ofNat_eq_natCast, w64_in, decide_eq_true_eq, decide_eq_false_iff_not, Int.toNat_natCast, Bool.not_eq_true', Bool.not_eq_false', not_true_eq_false, not_false_eq_true, Int.not_lt, Int.not_le, Bool.and_eq_true, Bool.or_eq_true, Int.ofNat_lt, Int.ofNat_le, Int.natCast_nonneg, Int.toNat_zero, Int.toNat_one, Classical.not_not, beq_self_eq_true, true_and, and_true]; first | done | omega | (simp only [natc] at *; omega)) (fun kx hk hk2 => ?_); simp (disch := omega) only [hF, natc, Int.ofNat_eq_natCast, w64_in, decide_eq_true_eq, decide_eq_false_iff_not, Int.toNat_natCast, Bool.not_eq_true', Bool.not_eq_false', not_true_eq_false, not_false_eq_true, Int.not_lt, Int.not_le, Bool.and_eq_true, Bool.or_eq_true, Int.ofNat_lt, Int.ofNat_le, Int.natCast_nonneg, Int.toNat_zero, Int.toNat_one, Classical.not_not, beq_self_eq_true, true_and, and_true] at hk; (try obtain rfl : kx = 0 := hk); cbv)
    | (refine Chk.mk (by simp (disch := omega) only [maxN, hF, natc, Int.ofNat_eq_natCast, w64_in, decide_eq_true_eq, decide_eq_false_iff_not, Int.toNat_natCast, Bool.not_eq_true', Bool.not_eq_false', not_true_eq_false, not_false_eq_true, Int.not_lt, Int.not_le, Bool.and_eq_true, Bool.or_eq_true, Int.ofNat_lt, Int.ofNat_le, Int.natCast_nonneg, Int.toNat_zero, Int.toNat_one, Classical.not_not, beq_self_eq_true, true_and, and_true]; first | done | assumption | omega | (simp only [natc] at *; omega)) ?_; cbv)
    | (intro (hmx : _ ≤ maxN); replace hmx : _ ≤ 17592186044416 := hmx; cbv)
    | (intro _; cbv)
  refine loop_up mixed hP hA (n) (fun i => True) [5, 7, 10, 11, 12, 13, 14, 15, 16, 17, 18, 19, 20, 21, 22, 23, 24, 25] (fun i => [(5, .vec 2), (10, .dv (.int .i64 (ofN i)))]) (fun i => [.blk [.one (.dv (.int .i64 u))], .blk [.one (.dv (.int .i64 v))], .vec (L i) 8 (fun x f => .dv (W i x f))]) (trivial) ?_ fun Nx i hN hi hp => ?_
  · refine (Ent.nilv 5 8 (fun x f => .dv (W 0 x f)) rfl).trans (Ent.ren [0, 1, 2] rfl rfl ⟨⟨rfl, trivial⟩, ⟨rfl, trivial⟩, ⟨hL0.symm, rfl, fun _ _ _ _ => rfl⟩, trivial⟩ (by cbv; simp [hF]))
  cbv
  by_cases hlt : i < n
  · have hc := hc i hlt
    have hcl := ok_Clone_ints (S.m i) (S.g i) (by have := hm i hlt; omega)
    have hrm : room' (add (L i) 1) 80 := by have := hLn i; simp [hF, maxN]; omega
    cbv
    repeat' first
      | (refine Chk.mk trivial ?_; cbv)
      | (refine bc_true (by first | assumption | (simp (disch := omega) only [hF, natc, Int.ofNat_eq_natCast, w64_in, decide_eq_true_eq, decide_eq_false_iff_not, Int.toNat_natCast, Bool.not_eq_true', Bool.not_eq_false', not_true_eq_false, not_false_eq_true, Int.not_lt, Int.not_le, Bool.and_eq_true, Bool.or_eq_true, Int.ofNat_lt, Int.ofNat_le, Int.natCast_nonneg, Int.toNat_zero, Int.toNat_one, Classical.not_not, beq_self_eq_true, true_and, and_true]; first | done | assumption | omega | (simp only [natc] at *; omega))) ?_; cbv)
      | (refine bc_false (by first | assumption | (simp (disch := omega) only [hF, natc, Int.ofNat_eq_natCast, w64_in, decide_eq_true_eq, decide_eq_false_iff_not, Int.toNat_natCast, Bool.not_eq_true', Bool.not_eq_false', not_true_eq_false, not_false_eq_true, Int.not_lt, Int.not_le, Bool.and_eq_true, Bool.or_eq_true, Int.ofNat_lt, Int.ofNat_le, Int.natCast_nonneg, Int.toNat_zero, Int.toNat_one, Classical.not_not, beq_self_eq_true, true_and, and_true]; first | done | assumption | omega | (simp only [natc] at *; omega))) ?_; cbv)
      | (refine bc_split (fun h => ?_) (fun h => ?_) <;> (try simp (disch := omega) only [hF, natc, Int.ofNat_eq_natCast, w64_in, decide_eq_true_eq, decide_eq_false_iff_not, Int.toNat_natCast, Bool.not_eq_true', Bool.not_eq_false', not_true_eq_false, not_false_eq_true, Int.not_lt, Int.not_le, Bool.and_eq_true, Bool.or_eq_true, Int.ofNat_lt, Int.ofNat_le, Int.natCast_nonneg, Int.toNat_zero, Int.toNat_one, Classical.not_not, beq_self_eq_true, true_and, and_true] at h) <;> cbv)
      | (refine IdxVC.mk (by simp (disch := omega) only [hF, natc, Int.ofNat_eq_natCast, w64_in, decide_eq_true_eq, decide_eq_false_iff_not, Int.toNat_natCast, Bool.not_eq_true', Bool.not_eq_false', not_true_eq_false, not_false_eq_true, Int.not_lt, Int.not_le, Bool.and_eq_true, Bool.or_eq_true, Int.ofNat_lt, Int.ofNat_le, Int.natCast_nonneg, Int.toNat_zero, Int.toNat_one, Classical.not_not, beq_self_eq_true, true_and, and_true]; first | done | omega | (simp only [natc] at *; omega)) (fun kx hk hk2 => ?_); simp (disch := omega) only [hF, natc, Int.ofNat_eq_natCast, w64_in, decide_eq_true_eq, decide_eq_false_iff_not, Int.toNat_natCast, Bool.not_eq_true', Bool.not_eq_false', not_true_eq_false, not_false_eq_true, Int.not_lt, Int.not_le, Bool.and_eq_true, Bool.or_eq_true, Int.ofNat_lt, Int.ofNat_le, Int.natCast_nonneg, Int.toNat_zero, Int.toNat_one, Classical.not_not, beq_self_eq_true, true_and, and_true] at hk; (try obtain rfl : kx = 0 := hk); (try obtain rfl : i = kx := hk.symm); cbv)
      | (simp (maxSteps := 3000000) (disch := assumption) only [S.h0, S.h1, S.h2, S.h3, S.h4, S.h5, S.h6, S.h7]; cbv)
      | (refine Chk.mk (by simp (disch := omega) only [maxN, hF, natc, Int.ofNat_eq_natCast, w64_in, decide_eq_true_eq, decide_eq_false_iff_not, Int.toNat_natCast, Bool.not_eq_true', Bool.not_eq_false', not_true_eq_false, not_false_eq_true, Int.not_lt, Int.not_le, Bool.and_eq_true, Bool.or_eq_true, Int.ofNat_lt, Int.ofNat_le, Int.natCast_nonneg, Int.toNat_zero, Int.toNat_one, Classical.not_not, beq_self_eq_true, true_and, and_true]; first | done | assumption | omega | (simp only [natc] at *; omega)) ?_; cbv)
      | (intro (hmx : _ ≤ maxN); replace hmx : _ ≤ 17592186044416 := hmx; cbv)
      | (intro _; cbv)
      | ((refine call_at hP [0, 1] hcode hc rfl ⟨⟨rfl, trivial⟩, ⟨rfl, trivial⟩, trivial⟩ ⟨rfl, rfl, rfl, trivial⟩ ?_; rintro _ _ ⟨rfl, rfl⟩ _); cbv)
      | (refine call_pure hP code_slices_Clone_Sint_int (hcl) ?_ ?_; (focus (cbv; (try simp); done)); rintro _ rfl; cbv)
      | ((refine Chk.mk hrm ?_); cbv)
    · refine hN _ hlt trivial (Ent.ren [0, 1, 5] rfl rfl ⟨⟨rfl, trivial⟩, ⟨rfl, trivial⟩, ⟨by rw [hLy i (by assumption)]; simp only [hF], rfl, fun x f hx hf => ?_⟩, trivial⟩ (by cbv; simp (disch := omega) [hF, natc, w64_in]))
      exact hat i hlt (by assumption) x f (by simpa only [hF] using hx) hf
    · refine hN _ hlt trivial (Ent.ren [0, 1, 2] rfl rfl ⟨⟨rfl, trivial⟩, ⟨rfl, trivial⟩, ⟨(hLno i (by assumption)).symm, rfl, fun x f hx hf => ?_⟩, trivial⟩ (by cbv; simp (disch := omega) [hF, natc, w64_in]))
      show VLe _ _ (.dv (W (i + 1) x f))
      rw [hWo i x f hx]; rfl
  · obtain rfl : i = n := by omega
    cbv
    repeat' first
      | (refine Chk.mk trivial ?_; cbv)
      | (refine bc_true (by first | assumption | (simp (disch := omega) only [hF, natc, Int.ofNat_eq_natCast, w64_in, decide_eq_true_eq, decide_eq_false_iff_not, Int.toNat_natCast, Bool.not_eq_true', Bool.not_eq_false', not_true_eq_false, not_false_eq_true, Int.not_lt, Int.not_le, Bool.and_eq_true, Bool.or_eq_true, Int.ofNat_lt, Int.ofNat_le, Int.natCast_nonneg, Int.toNat_zero, Int.toNat_one, Classical.not_not, beq_self_eq_true, true_and, and_true]; first | done | assumption | omega | (simp only [natc] at *; omega))) ?_; cbv)
      | (refine bc_false (by first | assumption | (simp (disch := omega) only [hF, natc, Int.ofNat_eq_natCast, w64_in, decide_eq_true_eq, decide_eq_false_iff_not, Int.toNat_natCast, Bool.not_eq_true', Bool.not_eq_false', not_true_eq_false, not_false_eq_true, Int.not_lt, Int.not_le, Bool.and_eq_true, Bool.or_eq_true, Int.ofNat_lt, Int.ofNat_le, Int.natCast_nonneg, Int.toNat_zero, Int.toNat_one, Classical.not_not, beq_self_eq_true, true_and, and_true]; first | done | assumption | omega | (simp only [natc] at *; omega))) ?_; cbv)
      | (refine bc_split (fun h => ?_) (fun h => ?_) <;> (try simp (disch := omega) only [hF, natc, Int.ofNat_eq_natCast, w64_in, decide_eq_true_eq, decide_eq_false_iff_not, Int.toNat_natCast, Bool.not_eq_true', Bool.not_eq_false', not_true_eq_false, not_false_eq_true, Int.not_lt, Int.not_le, Bool.and_eq_true, Bool.or_eq_true, Int.ofNat_lt, Int.ofNat_le, Int.natCast_nonneg, Int.toNat_zero, Int.toNat_one, Classical.not_not, beq_self_eq_true, true_and, and_true] at h) <;> cbv)
      | (refine IdxVC.mk (by simp (disch := omega) only [hF, natc, Int.ofNat_eq_natCast, w64_in, decide_eq_true_eq, decide_eq_false_iff_not, Int.toNat_natCast, Bool.not_eq_true', Bool.not_eq_false', not_true_eq_false, not_false_eq_true, Int.not_lt, Int.not_le, Bool.and_eq_true, Bool.or_eq_true, Int.ofNat_lt, Int.ofNat_le, Int.natCast_nonneg, Int.toNat_zero, Int.toNat_one, Classical.not_not, beq_self_eq_true, true_and, and_true]; first | done | omega | (simp only [natc] at *; omega)) (fun kx hk hk2 => ?_); simp (disch := omega) only [hF, natc, Int.ofNat_eq_natCast, w64_in, decide_eq_true_eq, decide_eq_false_iff_not, Int.toNat_natCast, Bool.not_eq_true', Bool.not_eq_false', not_true_eq_false, not_false_eq_true, Int.not_lt, Int.not_le, Bool.and_eq_true, Bool.or_eq_true, Int.ofNat_lt, Int.ofNat_le, Int.natCast_nonneg, Int.toNat_zero, Int.toNat_one, Classical.not_not, beq_self_eq_true, true_and, and_true] at hk; (try obtain rfl : kx = 0 := hk); cbv)
      | (refine Chk.mk (by simp (disch := omega) only [maxN, hF, natc, Int.ofNat_eq_natCast, w64_in, decide_eq_true_eq, decide_eq_false_iff_not, Int.toNat_natCast, Bool.not_eq_true', Bool.not_eq_false', not_true_eq_false, not_false_eq_true, Int.not_lt, Int.not_le, Bool.and_eq_true, Bool.or_eq_true, Int.ofNat_lt, Int.ofNat_le, Int.natCast_nonneg, Int.toNat_zero, Int.toNat_one, Classical.not_not, beq_self_eq_true, true_and, and_true]; first | done | assumption | omega | (simp only [natc] at *; omega)) ?_; cbv)
      | (intro (hmx : _ ≤ maxN); replace hmx : _ ≤ 17592186044416 := hmx; cbv)
      | (intro _; cbv)
    subst hQ
    refine ⟨_, _, (Ent.frz 2 (W i) rfl fun _ _ _ _ => rfl).trans (Ent.ren (s' := ⟨[.dv (.seq (L i) 8 (W i))], [.blk [.one (.dv (.int .i64 u))], .blk [.one (.dv (.int .i64 v))]]⟩) [0, 1] rfl rfl ⟨⟨rfl, trivial⟩, ⟨rfl, trivial⟩, trivial⟩ ⟨rfl, trivial⟩), rfl, rfl⟩

/-- Whether an entry is a channel's. -/
def Ents.isS {n : Nat} {G : Nat → Nat → DV} (S : Ents n G) (a b : Int) (i : Nat) : Bool := decide (S.kd i = 1 ∧ S.co i = a ∧ S.pe i = b)
def Ents.isT {n : Nat} {G : Nat → Nat → DV} (S : Ents n G) (a b : Int) (i : Nat) : Bool := decide ((S.kd i = 2 ∨ S.kd i = 3) ∧ S.co i = b ∧ S.pe i = a)

theorem ok_Of_c1 (a b a0 a1 a2 a3 a4 a5 : Int) (m : Nat) (g : Nat → Nat → DV) (a7 : Int) :
    CallOK (O := Ob) PR n_diary_Of_c1 [.agg [.dv (.int .i64 a0), .dv (.int .i64 a1), .dv (.int .i64 a2), .dv (.int .i64 a3), .dv (.int .i64 a4), .dv (.int .i64 a5), .dv (.seq m 1 g), .dv (.int .i64 a7)], .ptr 0 0, .ptr 1 0] [.blk [.one (.dv (.int .i64 a))], .blk [.one (.dv (.int .i64 b))]]
      fun r k => r = .dv (.bool (decide (a2 = 1 ∧ a0 = a ∧ a1 = b))) ∧ k = [.blk [.one (.dv (.int .i64 a))], .blk [.one (.dv (.int .i64 b))]] := by
  refine fn_walkv mixed fn_diary_Of_c1 (Ent.refl _ _) fun bin cmp un conv bnot beq band sel isel ofN toN inb nz nneg lt le room' slb add sub sbin scmp slen sget ssub addk pc pb pi pf ps mkok min_ ig aeq P hP hA hF Q hQ => ?_
  cbv
  repeat' first
    | (refine Chk.mk trivial ?_; cbv)
    | (refine bc_true (by first | assumption | (simp (disch := omega) only [hF, natc, Int.ofNat_eq_natCast, w64_in, decide_eq_true_eq, decide_eq_false_iff_not, Int.toNat_natCast, Bool.not_eq_true', Bool.not_eq_false', not_true_eq_false, not_false_eq_true, Int.not_lt, Int.not_le, Bool.and_eq_true, Bool.or_eq_true, Int.ofNat_lt, Int.ofNat_le, Int.natCast_nonneg, Int.toNat_zero, Int.toNat_one, Classical.not_not, beq_self_eq_true, true_and, and_true]; first | done | assumption | omega | (simp only [natc] at *; omega))) ?_; cbv)
    | (refine bc_false (by first | assumption | (simp (disch := omega) only [hF, natc, Int.ofNat_eq_natCast, w64_in, decide_eq_true_eq, decide_eq_false_iff_not, Int.toNat_natCast, Bool.not_eq_true', Bool.not_eq_false', not_true_eq_false, not_false_eq_true, Int.not_lt, Int.not_le, Bool.and_eq_true, Bool.or_eq_true, Int.ofNat_lt, Int.ofNat_le, Int.natCast_nonneg, Int.toNat_zero, Int.toNat_one, Classical.not_not, beq_self_eq_true, true_and, and_true]; first | done | assumption | omega | (simp only [natc] at *; omega))) ?_; cbv)
    | (refine bc_split (fun h => ?_) (fun h => ?_) <;> (try simp (disch := omega) only [hF, natc, Int.ofNat_eq_natCast, w64_in, decide_eq_true_eq, decide_eq_false_iff_not, Int.toNat_natCast, Bool.not_eq_true', Bool.not_eq_false', not_true_eq_false, not_false_eq_true, Int.not_lt, Int.not_le, Bool.and_eq_true, Bool.or_eq_true, Int.ofNat_lt, Int.ofNat_le, Int.natCast_nonneg, Int.toNat_zero, Int.toNat_one, Classical.not_not, beq_self_eq_true, true_and, and_true] at h) <;> cbv)
    | (refine IdxVC.mk (by simp (disch := omega) only [hF, natc, Int.ofNat_eq_natCast, w64_in, decide_eq_true_eq, decide_eq_false_iff_not, Int.toNat_natCast, Bool.not_eq_true', Bool.not_eq_false', not_true_eq_false, not_false_eq_true, Int.not_lt, Int.not_le, Bool.and_eq_true, Bool.or_eq_true, Int.ofNat_lt, Int.ofNat_le, Int.natCast_nonneg, Int.toNat_zero, Int.toNat_one, Classical.not_not, beq_self_eq_true, true_and, and_true]; first | done | omega | (simp only [natc] at *; omega)) (fun kx hk hk2 => ?_); simp (disch := omega) only [hF, natc, Int.ofNat_eq_natCast, w64_in, decide_eq_true_eq, decide_eq_false_iff_not, Int.toNat_natCast, Bool.not_eq_true', Bool.not_eq_false', not_true_eq_false, not_false_eq_true, Int.not_lt, Int.not_le, Bool.and_eq_true, Bool.or_eq_true, Int.ofNat_lt, Int.ofNat_le, Int.natCast_nonneg, Int.toNat_zero, Int.toNat_one, Classical.not_not, beq_self_eq_true, true_and, and_true] at hk; (try obtain rfl : kx = 0 := hk); cbv)
    | (refine Chk.mk (by simp (disch := omega) only [maxN, hF, natc, Int.ofNat_eq_natCast, w64_in, decide_eq_true_eq, decide_eq_false_iff_not, Int.toNat_natCast, Bool.not_eq_true', Bool.not_eq_false', not_true_eq_false, not_false_eq_true, Int.not_lt, Int.not_le, Bool.and_eq_true, Bool.or_eq_true, Int.ofNat_lt, Int.ofNat_le, Int.natCast_nonneg, Int.toNat_zero, Int.toNat_one, Classical.not_not, beq_self_eq_true, true_and, and_true]; first | done | assumption | omega | (simp only [natc] at *; omega)) ?_; cbv)
    | (intro (hmx : _ ≤ maxN); replace hmx : _ ≤ 17592186044416 := hmx; cbv)
    | (intro _; cbv)
  all_goals (subst hQ; refine ⟨_, _, Ent.ren (s' := ⟨[.dv (.bool (decide (a2 = 1 ∧ a0 = a ∧ a1 = b)))], [.blk [.one (.dv (.int .i64 a))], .blk [.one (.dv (.int .i64 b))]]⟩) [0, 1] rfl rfl ⟨⟨rfl, trivial⟩, ⟨rfl, trivial⟩, trivial⟩ ⟨?_, trivial⟩, rfl, rfl⟩; show SV.dv (.bool _) = SV.dv (.bool _); refine congrArg (fun b => SV.dv (.bool b)) ?_; (try simp only [hF]); clear hF hA hP; grind)

theorem ok_Of_c2 (a b a0 a1 a2 a3 a4 a5 : Int) (m : Nat) (g : Nat → Nat → DV) (a7 : Int) :
    CallOK (O := Ob) PR n_diary_Of_c2 [.agg [.dv (.int .i64 a0), .dv (.int .i64 a1), .dv (.int .i64 a2), .dv (.int .i64 a3), .dv (.int .i64 a4), .dv (.int .i64 a5), .dv (.seq m 1 g), .dv (.int .i64 a7)], .ptr 0 0, .ptr 1 0] [.blk [.one (.dv (.int .i64 b))], .blk [.one (.dv (.int .i64 a))]]
      fun r k => r = .dv (.bool (decide ((a2 = 2 ∨ a2 = 3) ∧ a0 = b ∧ a1 = a))) ∧ k = [.blk [.one (.dv (.int .i64 b))], .blk [.one (.dv (.int .i64 a))]] := by
  refine fn_walkv mixed fn_diary_Of_c2 (Ent.refl _ _) fun bin cmp un conv bnot beq band sel isel ofN toN inb nz nneg lt le room' slb add sub sbin scmp slen sget ssub addk pc pb pi pf ps mkok min_ ig aeq P hP hA hF Q hQ => ?_
  cbv
  repeat' first
    | (refine Chk.mk trivial ?_; cbv)
    | (refine bc_true (by first | assumption | (simp (disch := omega) only [hF, natc, Int.ofNat_eq_natCast, w64_in, decide_eq_true_eq, decide_eq_false_iff_not, Int.toNat_natCast, Bool.not_eq_true', Bool.not_eq_false', not_true_eq_false, not_false_eq_true, Int.not_lt, Int.not_le, Bool.and_eq_true, Bool.or_eq_true, Int.ofNat_lt, Int.ofNat_le, Int.natCast_nonneg, Int.toNat_zero, Int.toNat_one, Classical.not_not, beq_self_eq_true, true_and, and_true]; first | done | assumption | omega | (simp only [natc] at *; omega))) ?_; cbv)
    | (refine bc_false (by first | assumption | (simp (disch := omega) only [hF, natc, Int.ofNat_eq_natCast, w64_in, decide_eq_true_eq, decide_eq_false_iff_not, Int.toNat_natCast, Bool.not_eq_true', Bool.not_eq_false', not_true_eq_false, not_false_eq_true, Int.not_lt, Int.not_le, Bool.and_eq_true, Bool.or_eq_true, Int.ofNat_lt, Int.ofNat_le, Int.natCast_nonneg, Int.toNat_zero, Int.toNat_one, Classical.not_not, beq_self_eq_true, true_and, and_true]; first | done | assumption | omega | (simp only [natc] at *; omega))) ?_; cbv)
    | (refine bc_split (fun h => ?_) (fun h => ?_) <;> (try simp (disch := omega) only [hF, natc, Int.ofNat_eq_natCast, w64_in, decide_eq_true_eq, decide_eq_false_iff_not, Int.toNat_natCast, Bool.not_eq_true', Bool.not_eq_false', not_true_eq_false, not_false_eq_true, Int.not_lt, Int.not_le, Bool.and_eq_true, Bool.or_eq_true, Int.ofNat_lt, Int.ofNat_le, Int.natCast_nonneg, Int.toNat_zero, Int.toNat_one, Classical.not_not, beq_self_eq_true, true_and, and_true] at h) <;> cbv)
    | (refine IdxVC.mk (by simp (disch := omega) only [hF, natc, Int.ofNat_eq_natCast, w64_in, decide_eq_true_eq, decide_eq_false_iff_not, Int.toNat_natCast, Bool.not_eq_true', Bool.not_eq_false', not_true_eq_false, not_false_eq_true, Int.not_lt, Int.not_le, Bool.and_eq_true, Bool.or_eq_true, Int.ofNat_lt, Int.ofNat_le, Int.natCast_nonneg, Int.toNat_zero, Int.toNat_one, Classical.not_not, beq_self_eq_true, true_and, and_true]; first | done | omega | (simp only [natc] at *; omega)) (fun kx hk hk2 => ?_); simp (disch := omega) only [hF, natc, Int.ofNat_eq_natCast, w64_in, decide_eq_true_eq, decide_eq_false_iff_not, Int.toNat_natCast, Bool.not_eq_true', Bool.not_eq_false', not_true_eq_false, not_false_eq_true, Int.not_lt, Int.not_le, Bool.and_eq_true, Bool.or_eq_true, Int.ofNat_lt, Int.ofNat_le, Int.natCast_nonneg, Int.toNat_zero, Int.toNat_one, Classical.not_not, beq_self_eq_true, true_and, and_true] at hk; (try obtain rfl : kx = 0 := hk); cbv)
    | (refine Chk.mk (by simp (disch := omega) only [maxN, hF, natc, Int.ofNat_eq_natCast, w64_in, decide_eq_true_eq, decide_eq_false_iff_not, Int.toNat_natCast, Bool.not_eq_true', Bool.not_eq_false', not_true_eq_false, not_false_eq_true, Int.not_lt, Int.not_le, Bool.and_eq_true, Bool.or_eq_true, Int.ofNat_lt, Int.ofNat_le, Int.natCast_nonneg, Int.toNat_zero, Int.toNat_one, Classical.not_not, beq_self_eq_true, true_and, and_true]; first | done | assumption | omega | (simp only [natc] at *; omega)) ?_; cbv)
    | (intro (hmx : _ ≤ maxN); replace hmx : _ ≤ 17592186044416 := hmx; cbv)
    | (intro _; cbv)
  all_goals (subst hQ; refine ⟨_, _, Ent.ren (s' := ⟨[.dv (.bool (decide ((a2 = 2 ∨ a2 = 3) ∧ a0 = b ∧ a1 = a)))], [.blk [.one (.dv (.int .i64 b))], .blk [.one (.dv (.int .i64 a))]]⟩) [0, 1] rfl rfl ⟨⟨rfl, trivial⟩, ⟨rfl, trivial⟩, trivial⟩ ⟨?_, trivial⟩, rfl, rfl⟩; show SV.dv (.bool _) = SV.dv (.bool _); refine congrArg (fun b => SV.dv (.bool b)) ?_; (try simp only [hF]); clear hF hA hP; grind)

theorem ok_Of {n : Nat} {G : Nat → Nat → DV} (S : Ents n G) (hn : n ≤ 1000) (hm : ∀ i, i < n → S.m i ≤ 1000) (a b : Int) :
    CallOK (O := Ob) PR n_diary_Of [.dv (.seq n 8 G), .dv (.int .i64 a), .dv (.int .i64 b)] []
      fun r m => r = .tup [.dv (.seq (pick (S.isS a b) n).length 8 (Gp G (S.isS a b) n)), .dv (.seq (pick (S.isT a b) n).length 8 (Gp G (S.isT a b) n))] ∧ m = [] := by
  have h1 := ok_some S hn hm n_diary_Of_c1 code_diary_Of_c1 a b (S.isS a b) (fun i _ => ok_Of_c1 a b _ _ _ _ _ _ _ _ _)
  have h2 := ok_some S hn hm n_diary_Of_c2 code_diary_Of_c2 b a (S.isT a b) (fun i _ => ok_Of_c2 a b _ _ _ _ _ _ _ _ _)
  generalize (pick (S.isS a b) n).length = L1 at *
  generalize (pick (S.isT a b) n).length = L2 at *
  generalize Gp G (S.isS a b) n = G1 at *
  generalize Gp G (S.isT a b) n = G2 at *
  refine fn_walkv mixed fn_diary_Of (Ent.refl _ _) fun bin cmp un conv bnot beq band sel isel ofN toN inb nz nneg lt le room' slb add sub sbin scmp slen sget ssub addk pc pb pi pf ps mkok min_ ig aeq P hP hA hF Q hQ => ?_
  cbv
  repeat' first
    | (refine Chk.mk trivial ?_; cbv)
    | (refine bc_true (by first | assumption | (simp (disch := omega) only [hF, natc, Int.ofNat_eq_natCast, w64_in, decide_eq_true_eq, decide_eq_false_iff_not, Int.toNat_natCast, Bool.not_eq_true', Bool.not_eq_false', not_true_eq_false, not_false_eq_true, Int.not_lt, Int.not_le, Bool.and_eq_true, Bool.or_eq_true, Int.ofNat_lt, Int.ofNat_le, Int.natCast_nonneg, Int.toNat_zero, Int.toNat_one, Classical.not_not, beq_self_eq_true, true_and, and_true]; first | done | assumption | omega | (simp only [natc] at *; omega))) ?_; cbv)
    | (refine bc_false (by first | assumption | (simp (disch := omega) only [hF, natc, Int.ofNat_eq_natCast, w64_in, decide_eq_true_eq, decide_eq_false_iff_not, Int.toNat_natCast, Bool.not_eq_true', Bool.not_eq_false', not_true_eq_false, not_false_eq_true, Int.not_lt, Int.not_le, Bool.and_eq_true, Bool.or_eq_true, Int.ofNat_lt, Int.ofNat_le, Int.natCast_nonneg, Int.toNat_zero, Int.toNat_one, Classical.not_not, beq_self_eq_true, true_and, and_true]; first | done | assumption | omega | (simp only [natc] at *; omega))) ?_; cbv)
    | (refine bc_split (fun h => ?_) (fun h => ?_) <;> (try simp (disch := omega) only [hF, natc, Int.ofNat_eq_natCast, w64_in, decide_eq_true_eq, decide_eq_false_iff_not, Int.toNat_natCast, Bool.not_eq_true', Bool.not_eq_false', not_true_eq_false, not_false_eq_true, Int.not_lt, Int.not_le, Bool.and_eq_true, Bool.or_eq_true, Int.ofNat_lt, Int.ofNat_le, Int.natCast_nonneg, Int.toNat_zero, Int.toNat_one, Classical.not_not, beq_self_eq_true, true_and, and_true] at h) <;> cbv)
    | (refine IdxVC.mk (by simp (disch := omega) only [hF, natc, Int.ofNat_eq_natCast, w64_in, decide_eq_true_eq, decide_eq_false_iff_not, Int.toNat_natCast, Bool.not_eq_true', Bool.not_eq_false', not_true_eq_false, not_false_eq_true, Int.not_lt, Int.not_le, Bool.and_eq_true, Bool.or_eq_true, Int.ofNat_lt, Int.ofNat_le, Int.natCast_nonneg, Int.toNat_zero, Int.toNat_one, Classical.not_not, beq_self_eq_true, true_and, and_true]; first | done | omega | (simp only [natc] at *; omega)) (fun kx hk hk2 => ?_); simp (disch := omega) only [hF, natc, Int.ofNat_eq_natCast, w64_in, decide_eq_true_eq, decide_eq_false_iff_not, Int.toNat_natCast, Bool.not_eq_true', Bool.not_eq_false', not_true_eq_false, not_false_eq_true, Int.not_lt, Int.not_le, Bool.and_eq_true, Bool.or_eq_true, Int.ofNat_lt, Int.ofNat_le, Int.natCast_nonneg, Int.toNat_zero, Int.toNat_one, Classical.not_not, beq_self_eq_true, true_and, and_true] at hk; (try obtain rfl : kx = 0 := hk); cbv)
    | (refine Chk.mk (by simp (disch := omega) only [maxN, hF, natc, Int.ofNat_eq_natCast, w64_in, decide_eq_true_eq, decide_eq_false_iff_not, Int.toNat_natCast, Bool.not_eq_true', Bool.not_eq_false', not_true_eq_false, not_false_eq_true, Int.not_lt, Int.not_le, Bool.and_eq_true, Bool.or_eq_true, Int.ofNat_lt, Int.ofNat_le, Int.natCast_nonneg, Int.toNat_zero, Int.toNat_one, Classical.not_not, beq_self_eq_true, true_and, and_true]; first | done | assumption | omega | (simp only [natc] at *; omega)) ?_; cbv)
    | (intro (hmx : _ ≤ maxN); replace hmx : _ ≤ 17592186044416 := hmx; cbv)
    | (intro _; cbv)
    | (refine call_at hP [0, 1] code_diary_some (h1) rfl ?_ ?_ ?_; (focus ((repeat' (first | exact trivial | exact rfl | (intro _ _ _ _; exact rfl) | refine And.intro ?_ ?_)); done)); (focus (cbv; (try simp); done)); rintro _ _ ⟨rfl, rfl⟩ _; cbv)
    | (refine call_at hP [1, 0] code_diary_some (h2) rfl ?_ ?_ ?_; (focus ((repeat' (first | exact trivial | exact rfl | (intro _ _ _ _; exact rfl) | refine And.intro ?_ ?_)); done)); (focus (cbv; (try simp); done)); rintro _ _ ⟨rfl, rfl⟩ _; cbv)
  subst hQ; exact leaf_data rfl rfl ⟨rfl, rfl⟩

end Go.Proofs.YtophlodlencgiaaDoor
