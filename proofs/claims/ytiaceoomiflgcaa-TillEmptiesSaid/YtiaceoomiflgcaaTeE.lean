/-
  TillEmpties: the law.
-/
import Derived.Test.YtiaceoomiflgcaaTeC
section
namespace Go.Proofs.Ytiaceoomiflgcaa
open Go.V
set_option linter.unusedVariables false
set_option linter.unusedSimpArgs false
set_option maxRecDepth 100000
set_option maxHeartbeats 8000000

theorem emp_w (n M : Nat) (G : Nat → Nat → DV) (hG : ∀ t, t < M → ∃ g : Int, 0 ≤ g ∧ g ≤ 255 ∧ G t 0 = .int .u8 g) (hn : 1 ≤ n ∧ n ≤ 32) (X0 : Ob → Prop) (o0 : Ob) (I1 : Nat → Ob → Ob → Prop) (I2 : Nat → Ob → Ob → (Nat → Int) → Prop) (I3 : (Nat → Int) → Nat → Ob → Ob → Prop) (L0 : Nat → Int) (hL0 : ∀ i, i < n → L0 i = (i : Nat))
    (hal : CallOK (O := Ob) PR n_law18_alive [] [] fun v m => v = .dv (.bool true) ∧ m = [])
    (hNew : CallOK (O := Ob) PR n_soc_New [.agg [.dv (.int .i64 1), .dv (.int .i64 100), .dv (.int .i64 1)], .dv (.int .i64 3)] [] fun v m => v = .tup [.ptr 0 0, .dv (.int .i64 0)] ∧ ∃ x, X0 x ∧ m = [.obj x])
    (hT : CallOK (O := Ob) PR n_till_New [.dv (.int .i64 7), .dv (.int .i64 n), .dv (.int .i64 0), .dv (.int .i64 0)] [] fun v m => v = .ptr 0 0 ∧ m = [.obj o0])
    (hLay : ∀ x, X0 x → ∃ x', (CallOK (O := Ob) PR n_till_Lay [.ptr 0 0, .dv (.int .i64 0), .dv (.int .i64 7), .dv (.int .i64 n)] [.obj x] fun v m => v = .dv (.int .i64 0) ∧ m = [.obj x']) ∧ I1 0 o0 x')
    (h1 : ∀ i o x, i < n → I1 i o x → ∃ o1 o2 x2, PopW o o1 ∧ RunW o1 x 0 o2 x2 ∧ I1 (i + 1) o2 x2)
    (h2 : ∀ o x, I1 n o x → ∃ o1 o2 x2, PopW o o1 ∧ RunW o1 x 6 o2 x2 ∧ I1 (n + 1) o2 x2)
    (h2' : ∀ o x, I1 (n + 1) o x → MineW o n L0 ∧ ∀ Pd, I2 0 o x Pd)
    (h3 : ∀ i o x Pd, i < n → I2 i o x Pd → ∃ m L, m + i = n ∧ MineW o m L ∧ ∀ k, k < m → ∃ o1 o2 x2, PushW o (L k) 0 o1 ∧ RunW o1 x 0 o2 x2 ∧ PushW o2 (L k) 7 o2 ∧ ∀ Pd', (∀ t, t < i → Pd' t = Pd t) → Pd' i = L k → I2 (i + 1) o2 x2 Pd')
    (h4 : ∀ o x Pd, I2 n o x Pd → I3 Pd 0 o x)
    (h5 : ∀ i o x Pd, i < n → I3 Pd i o x → ∃ o1 o2 x2 m L r, PopW o o1 ∧ RunW o1 x 0 o2 x2 ∧ m = i + 1 ∧ MineW o2 m L ∧ r + i + 1 = n ∧ L i = Pd r ∧ I3 Pd (i + 1) o2 x2) :
    CallOK (O := Ob) PR n_law18_TillEmpties [.dv (.int .i64 n), .dv (.seq M 1 G)] [] fun v m => v = .dv (.bool true) ∧ m = [] := by
  unfold PopW at *; unfold RunW at *; unfold MineW at *; unfold PushW at *
  obtain ⟨hn1, hn2⟩ := hn
  refine fn_walkv mixed fn_law18_TillEmpties (Ent.refl _ _) fun bin cmp un conv bnot beq band sel isel ofN toN inb nz nneg lt le room' slb add sub sbin scmp slen sget ssub addk pc pb pi pf ps mkok min_ ig aeq P hP hA hF Q hQ => ?_
  cbv
  repeat' first
    | (refine call_at hP [] code_soc_New (hNew) rfl ?_ ?_ ?_; (focus ((repeat' (first | exact trivial | exact rfl | (intro _ _ _ _; exact rfl) | refine And.intro ?_ ?_)); done)); (focus (cbv; (try simp); done)); rintro _ _ ⟨rfl, x, hx, rfl⟩ _; cbv)
    | (refine call_at hP [] code_till_New (hT) rfl ?_ ?_ ?_; (focus ((repeat' (first | exact trivial | exact rfl | (intro _ _ _ _; exact rfl) | refine And.intro ?_ ?_)); done)); (focus (cbv; (try simp); done)); rintro _ _ ⟨rfl, rfl⟩ _; cbv)
    | (refine Chk.mk trivial ?_; cbv)
    | (refine bc_true (by first | assumption | (simp (disch := omega) only [hF, natc, w64_in, shs]; first | done | assumption | omega | (simp only [natc] at *; omega))) ?_; cbv)
    | (refine bc_false (by first | assumption | (simp (disch := omega) only [hF, natc, w64_in, shs]; first | done | assumption | omega | (simp only [natc] at *; omega))) ?_; cbv)
    | (refine bc_split (fun h => ?_) (fun h => ?_) <;> (try simp (disch := omega) only [hF, natc, w64_in, shs] at h) <;> cbv)
    | (refine IdxVC.mk (by simp (disch := omega) only [hF, natc, w64_in, shs]; first | done | omega | (simp only [natc] at *; omega)) (fun kx hk hk2 => ?_); simp (disch := omega) only [hF, natc, w64_in, shs] at hk; (try obtain rfl : kx = 0 := hk); cbv)
    | (refine Chk.mk (by simp (disch := omega) only [maxN, hF, natc, w64_in, shs]; first | done | assumption | omega | (simp only [natc] at *; omega)) ?_; cbv)
    | (intro (hmx : _ ≤ maxN); replace hmx : _ ≤ 140737488355328 := hmx; cbv)
    | (intro _; cbv)
  obtain ⟨x', hLa, hI1⟩ := hLay x hx
  cbv
  repeat' first
    | (refine call_at hP [0] code_till_Lay (hLa) rfl ?_ ?_ ?_; (focus ((repeat' (first | exact trivial | exact rfl | (intro _ _ _ _; exact rfl) | refine And.intro ?_ ?_)); done)); (focus (cbv; (try simp); done)); rintro _ _ ⟨rfl, rfl⟩ _; cbv)
    | (refine Chk.mk trivial ?_; cbv)
    | (refine bc_true (by first | assumption | (simp (disch := omega) only [hF, natc, w64_in, shs]; first | done | assumption | omega | (simp only [natc] at *; omega))) ?_; cbv)
    | (refine bc_false (by first | assumption | (simp (disch := omega) only [hF, natc, w64_in, shs]; first | done | assumption | omega | (simp only [natc] at *; omega))) ?_; cbv)
    | (refine bc_split (fun h => ?_) (fun h => ?_) <;> (try simp (disch := omega) only [hF, natc, w64_in, shs] at h) <;> cbv)
    | (refine IdxVC.mk (by simp (disch := omega) only [hF, natc, w64_in, shs]; first | done | omega | (simp only [natc] at *; omega)) (fun kx hk hk2 => ?_); simp (disch := omega) only [hF, natc, w64_in, shs] at hk; (try obtain rfl : kx = 0 := hk); cbv)
    | (refine Chk.mk (by simp (disch := omega) only [maxN, hF, natc, w64_in, shs]; first | done | assumption | omega | (simp only [natc] at *; omega)) ?_; cbv)
    | (intro (hmx : _ ≤ maxN); replace hmx : _ ≤ 140737488355328 := hmx; cbv)
    | (intro _; cbv)
  refine loop_ix mixed hP hA (ι := Nat × Ob × Ob) (fun q => n + 2 - q.1) (fun q => q.1 ≤ n + 1 ∧ I1 q.1 q.2.1 q.2.2) [4, 8, 9, 48, 49, 50, 51, 52, 53, 54, 55, 56, 57, 58, 59, 60, 61, 62, 63, 64, 65, 66, 67, 68, 69, 70, 71, 72] (fun q => [(8, .dv (.int .i64 (ofN q.1)))])
    (fun q => [.obj q.2.2, .obj q.2.1]) (0, o0, x') ⟨Nat.zero_le _, hI1⟩ (Ent.env (by cbv; try simp [hF])) fun Nx q hNx hq => ?_
  obtain ⟨i, o, y⟩ := q
  dsimp only at hq hNx ⊢
  cbv
  obtain ⟨hi, hI⟩ := hq
  have ee : cmp .eql 0 0 = true := by simp only [hF]; rfl
  have b1 : beq true true = true := by simp only [hF]; rfl
  have b2 : beq false false = true := by simp only [hF]; rfl
  have b3 : bnot true = false := by simp only [hF]; rfl
  by_cases hlt : i < n
  · obtain ⟨o1, o2, x2, d1, d2, d3⟩ := h1 i o y hlt hI
    have hc1 : cmp .leq (ofN i) (Int.ofNat n) = true := by simp only [hF, natc, Int.ofNat_eq_natCast, decide_eq_true_eq]; omega
    have hc2 : cmp .lss (ofN i) (Int.ofNat n) = true := by simp only [hF, natc, Int.ofNat_eq_natCast, decide_eq_true_eq]; omega
    have hc3 : cmp .eql (ofN i) (Int.ofNat n) = false := by simp only [hF, natc, Int.ofNat_eq_natCast, decide_eq_false_iff_not]; omega
    cbv
    repeat' first
      | ((rw [hc1]); cbv)
      | (refine call_at hP [1] code_till_Till_Pop (d1) rfl ?_ ?_ ?_; (focus ((repeat' (first | exact trivial | exact rfl | (intro _ _ _ _; exact rfl) | refine And.intro ?_ ?_)); done)); (focus (cbv; (try simp); done)); rintro _ _ ⟨rfl, rfl⟩ _; cbv)
      | (refine call_at hP [1, 0] code_law18_run (d2) rfl ?_ ?_ ?_; (focus ((repeat' (first | exact trivial | exact rfl | (intro _ _ _ _; exact rfl) | refine And.intro ?_ ?_)); done)); (focus (cbv; (try simp); done)); rintro _ _ ⟨rfl, rfl⟩ _; cbv)
      | ((rw [hc2]); cbv)
      | ((rw [hc3]); cbv)
      | ((rw [ee]); cbv)
      | ((rw [b1]); cbv)
      | ((rw [b3]); cbv)
      | (refine Chk.mk trivial ?_; cbv)
      | (refine bc_true (by first | assumption | (simp (disch := omega) only [hF, natc, w64_in, shs]; first | done | assumption | omega | (simp only [natc] at *; omega))) ?_; cbv)
      | (refine bc_false (by first | assumption | (simp (disch := omega) only [hF, natc, w64_in, shs]; first | done | assumption | omega | (simp only [natc] at *; omega))) ?_; cbv)
      | (refine bc_split (fun h => ?_) (fun h => ?_) <;> (try simp (disch := omega) only [hF, natc, w64_in, shs] at h) <;> cbv)
      | (refine IdxVC.mk (by simp (disch := omega) only [hF, natc, w64_in, shs]; first | done | omega | (simp only [natc] at *; omega)) (fun kx hk hk2 => ?_); simp (disch := omega) only [hF, natc, w64_in, shs] at hk; (try obtain rfl : kx = 0 := hk); cbv)
      | (refine Chk.mk (by simp (disch := omega) only [maxN, hF, natc, w64_in, shs]; first | done | assumption | omega | (simp only [natc] at *; omega)) ?_; cbv)
      | (intro (hmx : _ ≤ maxN); replace hmx : _ ≤ 140737488355328 := hmx; cbv)
      | (intro _; cbv)
    exact hNx _ (i + 1, o2, x2) ⟨by omega, d3⟩ (by show n + 2 - (i + 1) < n + 2 - i; omega) (Ent.env (by cbv; try simp (disch := omega) [hF, natc, w64_in]))
  by_cases hlt2 : i = n
  · subst hlt2
    obtain ⟨o1, o2, x2, d1, d2, d3⟩ := h2 o y hI
    have hc1 : cmp .leq (ofN i) (Int.ofNat i) = true := by simp only [hF, natc, Int.ofNat_eq_natCast, decide_eq_true_eq]; omega
    have hc2 : cmp .lss (ofN i) (Int.ofNat i) = false := by simp only [hF, natc, Int.ofNat_eq_natCast, decide_eq_false_iff_not]; omega
    have hc3 : cmp .eql (ofN i) (Int.ofNat i) = true := by simp only [hF, natc, Int.ofNat_eq_natCast, decide_eq_true_eq]
    have e6 : cmp .eql 6 0 = false := by simp only [hF]; rfl
    have n6 : cmp .neq 6 6 = false := by simp only [hF]; rfl
    cbv
    repeat' first
      | ((rw [hc1]); cbv)
      | (refine call_at hP [1] code_till_Till_Pop (d1) rfl ?_ ?_ ?_; (focus ((repeat' (first | exact trivial | exact rfl | (intro _ _ _ _; exact rfl) | refine And.intro ?_ ?_)); done)); (focus (cbv; (try simp); done)); rintro _ _ ⟨rfl, rfl⟩ _; cbv)
      | (refine call_at hP [1, 0] code_law18_run (d2) rfl ?_ ?_ ?_; (focus ((repeat' (first | exact trivial | exact rfl | (intro _ _ _ _; exact rfl) | refine And.intro ?_ ?_)); done)); (focus (cbv; (try simp); done)); rintro _ _ ⟨rfl, rfl⟩ _; cbv)
      | ((rw [hc2]); cbv)
      | ((rw [hc3]); cbv)
      | ((rw [e6]); cbv)
      | ((rw [n6]); cbv)
      | ((rw [b2]); cbv)
      | ((rw [b3]); cbv)
      | (refine Chk.mk trivial ?_; cbv)
      | (refine bc_true (by first | assumption | (simp (disch := omega) only [hF, natc, w64_in, shs]; first | done | assumption | omega | (simp only [natc] at *; omega))) ?_; cbv)
      | (refine bc_false (by first | assumption | (simp (disch := omega) only [hF, natc, w64_in, shs]; first | done | assumption | omega | (simp only [natc] at *; omega))) ?_; cbv)
      | (refine bc_split (fun h => ?_) (fun h => ?_) <;> (try simp (disch := omega) only [hF, natc, w64_in, shs] at h) <;> cbv)
      | (refine IdxVC.mk (by simp (disch := omega) only [hF, natc, w64_in, shs]; first | done | omega | (simp only [natc] at *; omega)) (fun kx hk hk2 => ?_); simp (disch := omega) only [hF, natc, w64_in, shs] at hk; (try obtain rfl : kx = 0 := hk); cbv)
      | (refine Chk.mk (by simp (disch := omega) only [maxN, hF, natc, w64_in, shs]; first | done | assumption | omega | (simp only [natc] at *; omega)) ?_; cbv)
      | (intro (hmx : _ ≤ maxN); replace hmx : _ ≤ 140737488355328 := hmx; cbv)
      | (intro _; cbv)
    exact hNx _ (i + 1, o2, x2) ⟨Nat.le_refl _, d3⟩ (by show i + 2 - (i + 1) < i + 2 - i; omega) (Ent.env (by cbv; try simp (disch := omega) [hF, natc, w64_in]))
  obtain rfl : i = n + 1 := by omega
  obtain ⟨hMi, hI2⟩ := h2' o y hI
  have hc1 : cmp .leq (ofN (n + 1)) (Int.ofNat n) = false := by simp only [hF, natc, Int.ofNat_eq_natCast, decide_eq_false_iff_not]; omega
  have hc5 : cmp .neq (ofN n) (Int.ofNat n) = false := by simp only [hF, natc, Int.ofNat_eq_natCast, decide_eq_false_iff_not]; simp
  cbv
  repeat' first
    | ((rw [hc1]); cbv)
    | (refine call_at hP [1] code_till_Till_Mine (hMi) rfl ?_ ?_ ?_; (focus ((repeat' (first | exact trivial | exact rfl | (intro _ _ _ _; exact rfl) | refine And.intro ?_ ?_)); done)); (focus (cbv; (try simp); done)); rintro _ _ ⟨rfl, rfl⟩ _; cbv)
    | ((rw [hc5]); cbv)
    | (refine Chk.mk trivial ?_; cbv)
    | (refine bc_true (by first | assumption | (simp (disch := omega) only [hF, natc, w64_in, shs]; first | done | assumption | omega | (simp only [natc] at *; omega))) ?_; cbv)
    | (refine bc_false (by first | assumption | (simp (disch := omega) only [hF, natc, w64_in, shs]; first | done | assumption | omega | (simp only [natc] at *; omega))) ?_; cbv)
    | (refine bc_split (fun h => ?_) (fun h => ?_) <;> (try simp (disch := omega) only [hF, natc, w64_in, shs] at h) <;> cbv)
    | (refine IdxVC.mk (by simp (disch := omega) only [hF, natc, w64_in, shs]; first | done | omega | (simp only [natc] at *; omega)) (fun kx hk hk2 => ?_); simp (disch := omega) only [hF, natc, w64_in, shs] at hk; (try obtain rfl : kx = 0 := hk); cbv)
    | (refine Chk.mk (by simp (disch := omega) only [maxN, hF, natc, w64_in, shs]; first | done | assumption | omega | (simp only [natc] at *; omega)) ?_; cbv)
    | (intro (hmx : _ ≤ maxN); replace hmx : _ ≤ 140737488355328 := hmx; cbv)
    | (intro _; cbv)
  refine loop_ix mixed hP hA (ι := Nat × Ob × Ob × (Nat → Int)) (fun q => n - q.1) (fun q => q.1 ≤ n ∧ I2 q.1 q.2.1 q.2.2.1 q.2.2.2) [4, 11, 12, 13, 14, 15, 81, 82, 83, 84, 85, 86, 87, 88, 89, 90, 91, 92, 93, 94, 95, 96, 97, 98, 99, 100, 101, 102, 103, 104, 105, 106, 107, 108, 109, 110, 111, 112, 113, 114, 115, 116, 117, 118, 119, 120, 121, 122, 123, 124, 125, 126, 127, 128, 129] (fun q => [(11, .vec 3), (81, .dv (.int .i64 (ofN q.1)))])
    (fun q => [.obj q.2.2.1, .obj q.2.1, .vec n 1 (fun t _ => .dv (.int .i64 (L0 t))), .vec q.1 1 (fun t _ => .dv (.int .i64 (q.2.2.2 t)))]) (0, o, y, fun _ => 0) ⟨Nat.zero_le _, hI2 _⟩ ?_ fun Nx2 q hNx2 hq => ?_
  · exact (Ent.nilv 11 1 (fun t _ => .dv (.int .i64 0)) rfl).trans (Ent.ren [0, 1, 2, 3] rfl rfl ⟨rfl, rfl, ⟨rfl, rfl, fun _ _ _ _ => rfl⟩, ⟨rfl, rfl, fun _ _ _ _ => rfl⟩, trivial⟩ (by cbv; try simp [hF]))
  obtain ⟨i2, o2, y2, Pd⟩ := q
  dsimp only at hq hNx2 ⊢
  cbv
  obtain ⟨hi2, hI3⟩ := hq
  have n0 : cmp .neq 0 0 = false := by simp only [hF]; rfl
  have n7 : cmp .neq 7 7 = false := by simp only [hF]; rfl
  by_cases hlt3 : i2 < n
  · obtain ⟨m, L, hm, d1, d2⟩ := h3 i2 o2 y2 Pd hlt3 hI3
    have hc6 : cmp .neq (L0 i2) (ofN i2) = false := by simp only [hF, hL0 i2 hlt3]; simp
    have hrm : room' (add i2 1) 8 := by simp [hF, maxN]; omega
    by_cases hM : i2 < M
    · obtain ⟨g, g0, g1, eg⟩ := hG i2 hM
      have hcm : cmp .lss (ofN i2) (ofN M) = true := by simp only [hF, natc, decide_eq_true_eq]; omega
      have hnz : nz (ofN m) := by simp only [hF, natc]; omega
      have hk : g.toNat % m < m := Nat.mod_lt _ (by omega)
      have hr : bin .rem .i64 (conv .i64 g) (ofN m) = Int.ofNat (g.toNat % m) := by
        simp only [hF, natc, Int.ofNat_eq_natCast]
        rw [w64_in (n := g) (by omega), Int.tmod_eq_emod_of_nonneg (by omega), Int.natCast_emod]
        congr 1
        omega
      generalize g.toNat % m = k at hk hr
      obtain ⟨o3, o4, y4, d3, d4, d5, d6⟩ := d2 k hk
      cbv
      repeat' first
        | ((rw [hc6]); cbv)
        | (refine call_at hP [1] code_till_Till_Mine (d1) rfl ?_ ?_ ?_; (focus ((repeat' (first | exact trivial | exact rfl | (intro _ _ _ _; exact rfl) | refine And.intro ?_ ?_)); done)); (focus (cbv; (try simp); done)); rintro _ _ ⟨rfl, rfl⟩ _; cbv)
        | ((rw [hcm]); cbv)
        | ((rw [eg]); cbv)
        | ((refine Chk.mk hnz ?_); cbv)
        | ((rw [hr]); cbv)
        | (refine call_at hP [1] code_till_Till_Push (d3) rfl ?_ ?_ ?_; (focus ((repeat' (first | exact trivial | exact rfl | (intro _ _ _ _; exact rfl) | refine And.intro ?_ ?_)); done)); (focus (cbv; (try simp); done)); rintro _ _ ⟨rfl, rfl⟩ _; cbv)
        | (refine call_at hP [1, 0] code_law18_run (d4) rfl ?_ ?_ ?_; (focus ((repeat' (first | exact trivial | exact rfl | (intro _ _ _ _; exact rfl) | refine And.intro ?_ ?_)); done)); (focus (cbv; (try simp); done)); rintro _ _ ⟨rfl, rfl⟩ _; cbv)
        | (refine call_at hP [1] code_till_Till_Push (d5) rfl ?_ ?_ ?_; (focus ((repeat' (first | exact trivial | exact rfl | (intro _ _ _ _; exact rfl) | refine And.intro ?_ ?_)); done)); (focus (cbv; (try simp); done)); rintro _ _ ⟨rfl, rfl⟩ _; cbv)
        | ((rw [n0]); cbv)
        | ((rw [n7]); cbv)
        | ((refine Chk.mk hrm ?_); cbv)
        | (refine Chk.mk trivial ?_; cbv)
        | (refine bc_true (by first | assumption | (simp (disch := omega) only [hF, natc, w64_in, shs]; first | done | assumption | omega | (simp only [natc] at *; omega))) ?_; cbv)
        | (refine bc_false (by first | assumption | (simp (disch := omega) only [hF, natc, w64_in, shs]; first | done | assumption | omega | (simp only [natc] at *; omega))) ?_; cbv)
        | (refine bc_split (fun h => ?_) (fun h => ?_) <;> (try simp (disch := omega) only [hF, natc, w64_in, shs] at h) <;> cbv)
        | (refine IdxVC.mk (by simp (disch := omega) only [hF, natc, w64_in, shs]; first | done | omega | (simp only [natc] at *; omega)) (fun kx hk hk2 => ?_); simp (disch := omega) only [hF, natc, w64_in, shs] at hk; (try obtain rfl : kx = 0 := hk); (try obtain rfl : i2 = kx := hk.symm); (try obtain rfl : k = kx := hk.symm); cbv)
        | (refine Chk.mk (by simp (disch := omega) only [maxN, hF, natc, w64_in, shs]; first | done | assumption | omega | (simp only [natc] at *; omega)) ?_; cbv)
        | (intro (hmx : _ ≤ maxN); replace hmx : _ ≤ 140737488355328 := hmx; cbv)
        | (intro _; cbv)
      refine hNx2 _ (i2 + 1, o4, y4, fun t => if t < i2 then Pd t else L k) ⟨hlt3, d6 _ (fun t ht => if_pos ht) (if_neg (Nat.lt_irrefl _))⟩ (by show n - (i2 + 1) < n - i2; omega) (Ent.ren [0, 1, 2, 6] rfl rfl ⟨rfl, rfl, ⟨rfl, rfl, fun _ _ _ _ => rfl⟩, ⟨by simp only [hF], rfl, fun t f ht hf => ?_⟩, trivial⟩ (by cbv; try simp (disch := omega) [hF, natc, w64_in]))
      have ht : t < add i2 1 := ht
      simp only [hF] at ht
      obtain rfl : f = 0 := by omega
      unfold appAt
      show VLe _ _ (.dv (.int .i64 (if t < i2 then Pd t else L k)))
      by_cases h : t < i2
      · rw [if_pos h, if_pos h]; rfl
      · obtain rfl : t = i2 := by omega
        rw [if_neg h, if_neg h]
        simp only [hF, Nat.sub_self]
        rfl
    · obtain ⟨o3, o4, y4, d3, d4, d5, d6⟩ := d2 0 (by omega)
      have hcm : cmp .lss (ofN i2) (ofN M) = false := by simp only [hF, natc, decide_eq_false_iff_not]; omega
      cbv
      repeat' first
        | ((rw [hc6]); cbv)
        | (refine call_at hP [1] code_till_Till_Mine (d1) rfl ?_ ?_ ?_; (focus ((repeat' (first | exact trivial | exact rfl | (intro _ _ _ _; exact rfl) | refine And.intro ?_ ?_)); done)); (focus (cbv; (try simp); done)); rintro _ _ ⟨rfl, rfl⟩ _; cbv)
        | ((rw [hcm]); cbv)
        | (refine call_at hP [1] code_till_Till_Push (d3) rfl ?_ ?_ ?_; (focus ((repeat' (first | exact trivial | exact rfl | (intro _ _ _ _; exact rfl) | refine And.intro ?_ ?_)); done)); (focus (cbv; (try simp); done)); rintro _ _ ⟨rfl, rfl⟩ _; cbv)
        | (refine call_at hP [1, 0] code_law18_run (d4) rfl ?_ ?_ ?_; (focus ((repeat' (first | exact trivial | exact rfl | (intro _ _ _ _; exact rfl) | refine And.intro ?_ ?_)); done)); (focus (cbv; (try simp); done)); rintro _ _ ⟨rfl, rfl⟩ _; cbv)
        | (refine call_at hP [1] code_till_Till_Push (d5) rfl ?_ ?_ ?_; (focus ((repeat' (first | exact trivial | exact rfl | (intro _ _ _ _; exact rfl) | refine And.intro ?_ ?_)); done)); (focus (cbv; (try simp); done)); rintro _ _ ⟨rfl, rfl⟩ _; cbv)
        | ((rw [n0]); cbv)
        | ((rw [n7]); cbv)
        | ((refine Chk.mk hrm ?_); cbv)
        | (refine Chk.mk trivial ?_; cbv)
        | (refine bc_true (by first | assumption | (simp (disch := omega) only [hF, natc, w64_in, shs]; first | done | assumption | omega | (simp only [natc] at *; omega))) ?_; cbv)
        | (refine bc_false (by first | assumption | (simp (disch := omega) only [hF, natc, w64_in, shs]; first | done | assumption | omega | (simp only [natc] at *; omega))) ?_; cbv)
        | (refine bc_split (fun h => ?_) (fun h => ?_) <;> (try simp (disch := omega) only [hF, natc, w64_in, shs] at h) <;> cbv)
        | (refine IdxVC.mk (by simp (disch := omega) only [hF, natc, w64_in, shs]; first | done | omega | (simp only [natc] at *; omega)) (fun kx hk hk2 => ?_); simp (disch := omega) only [hF, natc, w64_in, shs] at hk; (try obtain rfl : kx = 0 := hk); (try obtain rfl : i2 = kx := hk.symm); cbv)
        | (refine Chk.mk (by simp (disch := omega) only [maxN, hF, natc, w64_in, shs]; first | done | assumption | omega | (simp only [natc] at *; omega)) ?_; cbv)
        | (intro (hmx : _ ≤ maxN); replace hmx : _ ≤ 140737488355328 := hmx; cbv)
        | (intro _; cbv)
      refine hNx2 _ (i2 + 1, o4, y4, fun t => if t < i2 then Pd t else L 0) ⟨hlt3, d6 _ (fun t ht => if_pos ht) (if_neg (Nat.lt_irrefl _))⟩ (by show n - (i2 + 1) < n - i2; omega) (Ent.ren [0, 1, 2, 6] rfl rfl ⟨rfl, rfl, ⟨rfl, rfl, fun _ _ _ _ => rfl⟩, ⟨by simp only [hF], rfl, fun t f ht hf => ?_⟩, trivial⟩ (by cbv; try simp (disch := omega) [hF, natc, w64_in]))
      have ht : t < add i2 1 := ht
      simp only [hF] at ht
      obtain rfl : f = 0 := by omega
      unfold appAt
      show VLe _ _ (.dv (.int .i64 (if t < i2 then Pd t else L 0)))
      by_cases h : t < i2
      · rw [if_pos h, if_pos h]; rfl
      · obtain rfl : t = i2 := by omega
        rw [if_neg h, if_neg h]
        simp only [hF, Nat.sub_self]
        rfl
  obtain rfl : i2 = n := by omega
  have hJ := h4 o2 y2 Pd hI3
  cbv
  repeat' first
    | (refine Chk.mk trivial ?_; cbv)
    | (refine bc_true (by first | assumption | (simp (disch := omega) only [hF, natc, w64_in, shs]; first | done | assumption | omega | (simp only [natc] at *; omega))) ?_; cbv)
    | (refine bc_false (by first | assumption | (simp (disch := omega) only [hF, natc, w64_in, shs]; first | done | assumption | omega | (simp only [natc] at *; omega))) ?_; cbv)
    | (refine bc_split (fun h => ?_) (fun h => ?_) <;> (try simp (disch := omega) only [hF, natc, w64_in, shs] at h) <;> cbv)
    | (refine IdxVC.mk (by simp (disch := omega) only [hF, natc, w64_in, shs]; first | done | omega | (simp only [natc] at *; omega)) (fun kx hk hk2 => ?_); simp (disch := omega) only [hF, natc, w64_in, shs] at hk; (try obtain rfl : kx = 0 := hk); cbv)
    | (refine Chk.mk (by simp (disch := omega) only [maxN, hF, natc, w64_in, shs]; first | done | assumption | omega | (simp only [natc] at *; omega)) ?_; cbv)
    | (intro (hmx : _ ≤ maxN); replace hmx : _ ≤ 140737488355328 := hmx; cbv)
    | (intro _; cbv)
  refine loop_ix mixed hP hA (ι := Nat × Ob × Ob) (fun q => i2 - q.1) (fun q => q.1 ≤ i2 ∧ I3 Pd q.1 q.2.1 q.2.2) [4, 16, 17, 132, 133, 134, 135, 136, 137, 138, 139, 140, 141, 142, 143, 144, 145, 146, 147, 148, 149, 150, 151, 152, 153, 154, 155, 156, 157, 158, 159, 160, 161, 162, 163] (fun q => [(132, .dv (.int .i64 (ofN q.1)))])
    (fun q => [.obj q.2.2, .obj q.2.1, .vec i2 1 (fun t _ => .dv (.int .i64 (L0 t))), .vec i2 1 (fun t _ => .dv (.int .i64 (Pd t)))]) (0, o2, y2) ⟨Nat.zero_le _, hJ⟩ (Ent.env (by cbv; try simp [hF])) fun Nx3 q hNx3 hq => ?_
  obtain ⟨i3, o3, y3⟩ := q
  dsimp only at hq hNx3 ⊢
  cbv
  obtain ⟨hi3, hI4⟩ := hq
  by_cases hlt4 : i3 < i2
  · obtain ⟨o4, o5, y5, m, L, r, d1, d2, hm, d3, hr, hLr, d4⟩ := h5 i3 o3 y3 Pd hlt4 hI4
    have hc7 : cmp .neq (ofN m) (bin .add .i64 (ofN i3) 1) = false := by
      simp only [hF, decide_eq_false_iff_not, natc]
      rw [w64_in (by omega)]; omega
    have hc8 : bin .sub .i64 (bin .sub .i64 (ofN i2) 1) (ofN i3) = Int.ofNat r := by
      simp only [hF, natc, Int.ofNat_eq_natCast]
      rw [w64_in (n := (i2 : Int) - 1) (by omega), w64_in (by omega)]; omega
    have hc9 : cmp .neq (L i3) (Pd r) = false := by simp only [hF, hLr]; simp
    have hm3 : i3 < m := by omega
    have hr2 : r < i2 := by omega
    cbv
    repeat' first
      | (refine call_at hP [1] code_till_Till_Pop (d1) rfl ?_ ?_ ?_; (focus ((repeat' (first | exact trivial | exact rfl | (intro _ _ _ _; exact rfl) | refine And.intro ?_ ?_)); done)); (focus (cbv; (try simp); done)); rintro _ _ ⟨rfl, rfl⟩ _; cbv)
      | (refine call_at hP [1, 0] code_law18_run (d2) rfl ?_ ?_ ?_; (focus ((repeat' (first | exact trivial | exact rfl | (intro _ _ _ _; exact rfl) | refine And.intro ?_ ?_)); done)); (focus (cbv; (try simp); done)); rintro _ _ ⟨rfl, rfl⟩ _; cbv)
      | (refine call_at hP [1] code_till_Till_Mine (d3) rfl ?_ ?_ ?_; (focus ((repeat' (first | exact trivial | exact rfl | (intro _ _ _ _; exact rfl) | refine And.intro ?_ ?_)); done)); (focus (cbv; (try simp); done)); rintro _ _ ⟨rfl, rfl⟩ _; cbv)
      | ((rw [n0]); cbv)
      | ((rw [hc7]); cbv)
      | ((rw [hc8]); cbv)
      | ((rw [hc9]); cbv)
      | (refine Chk.mk trivial ?_; cbv)
      | (refine bc_true (by first | assumption | (simp (disch := omega) only [hF, natc, w64_in, shs]; first | done | assumption | omega | (simp only [natc] at *; omega))) ?_; cbv)
      | (refine bc_false (by first | assumption | (simp (disch := omega) only [hF, natc, w64_in, shs]; first | done | assumption | omega | (simp only [natc] at *; omega))) ?_; cbv)
      | (refine bc_split (fun h => ?_) (fun h => ?_) <;> (try simp (disch := omega) only [hF, natc, w64_in, shs] at h) <;> cbv)
      | (refine IdxVC.mk (by simp (disch := omega) only [hF, natc, w64_in, shs]; first | done | omega | (simp only [natc] at *; omega)) (fun kx hk hk2 => ?_); simp (disch := omega) only [hF, natc, w64_in, shs] at hk; (try obtain rfl : kx = 0 := hk); (try obtain rfl : i3 = kx := hk.symm); (try obtain rfl : r = kx := hk.symm); cbv)
      | (refine Chk.mk (by simp (disch := omega) only [maxN, hF, natc, w64_in, shs]; first | done | assumption | omega | (simp only [natc] at *; omega)) ?_; cbv)
      | (intro (hmx : _ ≤ maxN); replace hmx : _ ≤ 140737488355328 := hmx; cbv)
      | (intro _; cbv)
    all_goals exact hNx3 _ (i3 + 1, o5, y5) ⟨hlt4, d4⟩ (by show i2 - (i3 + 1) < i2 - i3; omega) (Ent.ren [0, 1, 2, 3] rfl rfl ⟨rfl, rfl, ⟨rfl, rfl, fun _ _ _ _ => rfl⟩, ⟨rfl, rfl, fun _ _ _ _ => rfl⟩, trivial⟩ (by cbv; try simp (disch := omega) [hF, natc, w64_in]))
  obtain rfl : i3 = i2 := by omega
  cbv
  repeat' first
    | (refine call_pure hP code_law18_alive (hal) ?_ ?_; (focus (cbv; (try simp); done)); rintro _ rfl; cbv)
    | (refine Chk.mk trivial ?_; cbv)
    | (refine bc_true (by first | assumption | (simp (disch := omega) only [hF, natc, w64_in, shs]; first | done | assumption | omega | (simp only [natc] at *; omega))) ?_; cbv)
    | (refine bc_false (by first | assumption | (simp (disch := omega) only [hF, natc, w64_in, shs]; first | done | assumption | omega | (simp only [natc] at *; omega))) ?_; cbv)
    | (refine bc_split (fun h => ?_) (fun h => ?_) <;> (try simp (disch := omega) only [hF, natc, w64_in, shs] at h) <;> cbv)
    | (refine IdxVC.mk (by simp (disch := omega) only [hF, natc, w64_in, shs]; first | done | omega | (simp only [natc] at *; omega)) (fun kx hk hk2 => ?_); simp (disch := omega) only [hF, natc, w64_in, shs] at hk; (try obtain rfl : kx = 0 := hk); cbv)
    | (refine Chk.mk (by simp (disch := omega) only [maxN, hF, natc, w64_in, shs]; first | done | assumption | omega | (simp only [natc] at *; omega)) ?_; cbv)
    | (intro (hmx : _ ≤ maxN); replace hmx : _ ≤ 140737488355328 := hmx; cbv)
    | (intro _; cbv)
  subst hQ; exact leaf_data rfl rfl ⟨rfl, rfl⟩

theorem emp_no (n : Int) (M : Nat) (G : Nat → Nat → DV) (hn : ¬ (1 ≤ n ∧ n ≤ 32)) (hal : CallOK (O := Ob) PR n_law18_alive [] [] fun v m => v = .dv (.bool true) ∧ m = [])
    (hNew : CallOK (O := Ob) PR n_soc_New [.agg [.dv (.int .i64 1), .dv (.int .i64 100), .dv (.int .i64 1)], .dv (.int .i64 3)] [] fun v m => v = .tup [.ptr 0 0, .dv (.int .i64 0)] ∧ ∃ x, (∃ V, Sees x 1 100 1 0 0 0 V) ∧ m = [.obj x])
    (hT : CallOK (O := Ob) PR n_till_New [.dv (.int .i64 7), .dv (.int .i64 n), .dv (.int .i64 0), .dv (.int .i64 0)] [] fun v m => v = .dv .nilp ∧ m = []) :
    CallOK (O := Ob) PR n_law18_TillEmpties [.dv (.int .i64 n), .dv (.seq M 1 G)] [] fun v m => v = .dv (.bool true) ∧ m = [] := by
  by_cases h1 : n < 1
  · refine fn_walkv mixed fn_law18_TillEmpties (Ent.refl _ _) fun bin cmp un conv bnot beq band sel isel ofN toN inb nz nneg lt le room' slb add sub sbin scmp slen sget ssub addk pc pb pi pf ps mkok min_ ig aeq P hP hA hF Q hQ => ?_
    have hc : cmp .lss n 1 = true := by simp only [hF, decide_eq_true_eq]; exact h1
    cbv
    repeat' first
      | (refine call_at hP [] code_soc_New (hNew) rfl ?_ ?_ ?_; (focus ((repeat' (first | exact trivial | exact rfl | (intro _ _ _ _; exact rfl) | refine And.intro ?_ ?_)); done)); (focus (cbv; (try simp); done)); rintro _ _ ⟨rfl, x, hx, rfl⟩ _; cbv)
      | (refine call_pure hP code_till_New (hT) ?_ ?_; (focus (cbv; (try simp); done)); rintro _ rfl; cbv)
      | ((rw [hc]); cbv)
      | (refine call_pure hP code_law18_alive (hal) ?_ ?_; (focus (cbv; (try simp); done)); rintro _ rfl; cbv)
      | (refine Chk.mk trivial ?_; cbv)
      | (refine bc_true (by first | assumption | (simp (disch := omega) only [hF, natc, w64_in, shs]; first | done | assumption | omega | (simp only [natc] at *; omega))) ?_; cbv)
      | (refine bc_false (by first | assumption | (simp (disch := omega) only [hF, natc, w64_in, shs]; first | done | assumption | omega | (simp only [natc] at *; omega))) ?_; cbv)
      | (refine bc_split (fun h => ?_) (fun h => ?_) <;> (try simp (disch := omega) only [hF, natc, w64_in, shs] at h) <;> cbv)
      | (refine IdxVC.mk (by simp (disch := omega) only [hF, natc, w64_in, shs]; first | done | omega | (simp only [natc] at *; omega)) (fun kx hk hk2 => ?_); simp (disch := omega) only [hF, natc, w64_in, shs] at hk; (try obtain rfl : kx = 0 := hk); cbv)
      | (refine Chk.mk (by simp (disch := omega) only [maxN, hF, natc, w64_in, shs]; first | done | assumption | omega | (simp only [natc] at *; omega)) ?_; cbv)
      | (intro (hmx : _ ≤ maxN); replace hmx : _ ≤ 140737488355328 := hmx; cbv)
      | (intro _; cbv)
    subst hQ; exact leaf_data rfl rfl ⟨rfl, rfl⟩
  · refine fn_walkv mixed fn_law18_TillEmpties (Ent.refl _ _) fun bin cmp un conv bnot beq band sel isel ofN toN inb nz nneg lt le room' slb add sub sbin scmp slen sget ssub addk pc pb pi pf ps mkok min_ ig aeq P hP hA hF Q hQ => ?_
    have hc : cmp .lss n 1 = false := by simp only [hF, decide_eq_false_iff_not]; exact h1
    have hc2 : cmp .gtr n 32 = true := by simp only [hF, decide_eq_true_eq]; omega
    cbv
    repeat' first
      | (refine call_at hP [] code_soc_New (hNew) rfl ?_ ?_ ?_; (focus ((repeat' (first | exact trivial | exact rfl | (intro _ _ _ _; exact rfl) | refine And.intro ?_ ?_)); done)); (focus (cbv; (try simp); done)); rintro _ _ ⟨rfl, x, hx, rfl⟩ _; cbv)
      | (refine call_pure hP code_till_New (hT) ?_ ?_; (focus (cbv; (try simp); done)); rintro _ rfl; cbv)
      | ((rw [hc]); cbv)
      | ((rw [hc2]); cbv)
      | (refine call_pure hP code_law18_alive (hal) ?_ ?_; (focus (cbv; (try simp); done)); rintro _ rfl; cbv)
      | (refine Chk.mk trivial ?_; cbv)
      | (refine bc_true (by first | assumption | (simp (disch := omega) only [hF, natc, w64_in, shs]; first | done | assumption | omega | (simp only [natc] at *; omega))) ?_; cbv)
      | (refine bc_false (by first | assumption | (simp (disch := omega) only [hF, natc, w64_in, shs]; first | done | assumption | omega | (simp only [natc] at *; omega))) ?_; cbv)
      | (refine bc_split (fun h => ?_) (fun h => ?_) <;> (try simp (disch := omega) only [hF, natc, w64_in, shs] at h) <;> cbv)
      | (refine IdxVC.mk (by simp (disch := omega) only [hF, natc, w64_in, shs]; first | done | omega | (simp only [natc] at *; omega)) (fun kx hk hk2 => ?_); simp (disch := omega) only [hF, natc, w64_in, shs] at hk; (try obtain rfl : kx = 0 := hk); cbv)
      | (refine Chk.mk (by simp (disch := omega) only [maxN, hF, natc, w64_in, shs]; first | done | assumption | omega | (simp only [natc] at *; omega)) ?_; cbv)
      | (intro (hmx : _ ≤ maxN); replace hmx : _ ≤ 140737488355328 := hmx; cbv)
      | (intro _; cbv)
    subst hQ; exact leaf_data rfl rfl ⟨rfl, rfl⟩

end Go.Proofs.Ytiaceoomiflgcaa

end

section
namespace Go.Proofs.Ytiaceoomiflgcaa
open Go.V
set_option linter.unusedVariables false
set_option linter.unusedSimpArgs false
set_option maxRecDepth 100000
set_option maxHeartbeats 8000000

/-- A list is laid, so many of its words. -/
theorem lay_some (N n b y : Nat) (hbN : b + n < N) (hN : N ≤ 65536) (hn : n ≤ 32) (x : Ob) (V : Nat → Int) (hx : Sees x 1 N 1 0 y 0 V) (A W : Nat → Int) (hA' : ∀ i, A i = (b + i : Nat)) (hW' : ∀ i, W i = ((i + 1) % (n + 1) : Nat)) :
    ∀ m, m ≤ n + 1 → ∃ X : Nat → Ob, X 0 = x ∧ (∀ i, i < m → CallOK (O := Ob) PR n_soc_Soc_Write [.ptr 0 0, .dv (.int .i64 (0 : Nat)), .dv (.int .i64 (A i)), .dv (.int .i64 (W i))] [.obj (X i)] fun v m => v = .dv (.int .i64 0) ∧ m = [.obj (X (i + 1))]) ∧ ∃ V', Sees (X m) 1 N 1 0 y 0 V' ∧ ∀ i, i < m → V' (b + i) = W i
  | 0, _ => ⟨fun _ => x, rfl, fun i h => absurd h (Nat.not_lt_zero i), V, hx, fun i h => absurd h (Nat.not_lt_zero i)⟩
  | m + 1, hm => by
    obtain ⟨X, h0, h1, V', h2, h3⟩ := lay_some N n b y hbN hN hn x V hx A W hA' hW' m (by omega)
    have hw : (m + 1) % (n + 1) ≤ 65535 := by have := Nat.mod_lt (m + 1) (show 0 < n + 1 by omega); omega
    obtain ⟨x', s, r⟩ := sees_write h2 (by omega) (b + m) ((m + 1) % (n + 1)) (by omega) hw
    refine ⟨fun i => if i = m + 1 then x' else X i, ?_, fun i hi => ?_, fun c => if c = b + m then (((m + 1) % (n + 1) : Nat) : Int) else V' c, ?_, fun i hi => ?_⟩
    · show (if 0 = m + 1 then x' else X 0) = x
      rw [if_neg (by omega)]; exact h0
    · show CallOK (O := Ob) PR n_soc_Soc_Write _ [.obj (if i = m + 1 then x' else X i)] fun v q => v = .dv (.int .i64 0) ∧ q = [.obj (if i + 1 = m + 1 then x' else X (i + 1))]
      rw [if_neg (by omega)]
      by_cases h : i = m
      · subst h
        rw [if_pos rfl, hA', hW']
        exact r
      · rw [if_neg (by omega)]
        exact h1 i (by omega)
    · show Sees (if m + 1 = m + 1 then x' else X (m + 1)) _ _ _ _ _ _ _
      rw [if_pos rfl]
      exact s
    · show (if b + i = b + m then (((m + 1) % (n + 1) : Nat) : Int) else V' (b + i)) = W i
      by_cases h : i = m
      · subst h
        rw [if_pos rfl, hW']
      · rw [if_neg (by omega)]
        exact h3 i (by omega)

theorem links_range (V : Nat → Int) (b n : Nat) (h : ∀ x, x < n → V (b + 1 + x) = ((x + 2) % (n + 1) : Nat)) : ∀ m k, k + m = n → Links V b (List.range' k m)
  | 0, _, _ => trivial
  | m + 1, k, e => by
    refine ⟨?_, links_range V b n h m (k + 1) (by omega)⟩
    rw [h k (by omega)]
    cases m with
    | zero =>
      obtain rfl : n = k + 1 := by omega
      show (((k + 2) % (k + 2) : Nat) : Int) = ((0 : Nat) : Int)
      rw [Nat.mod_self]
    | succ m =>
      show (((k + 2) % (n + 1) : Nat) : Int) = ((k + 1 + 1 : Nat) : Int)
      rw [Nat.mod_eq_of_lt (by omega)]

/-- A list is laid. -/
theorem lay_ok (N n b y : Nat) (hbN : b + n < N) (hN : N ≤ 65536) (hn : 1 ≤ n ∧ n ≤ 32) (x : Ob) (hx : ∃ V, Sees x 1 N 1 0 y 0 V) :
    ∃ x' V, (CallOK (O := Ob) PR n_till_Lay [.ptr 0 0, .dv (.int .i64 (0 : Nat)), .dv (.int .i64 b), .dv (.int .i64 n)] [.obj x] fun v m => v = .dv (.int .i64 0) ∧ m = [.obj x']) ∧ Sees x' 1 N 1 0 y 0 V ∧ Chain V b (List.range' 0 n) := by
  obtain ⟨V, hx⟩ := hx
  obtain ⟨X, h0, h1, V', h2, h3⟩ := lay_some N n b y hbN hN hn.2 x V hx (fun i => ((b + i : Nat) : Int)) (fun i => (((i + 1) % (n + 1) : Nat) : Int)) (fun _ => rfl) (fun _ => rfl) (n + 1) (Nat.le_refl _)
  obtain ⟨x', z, s, r⟩ := sees_fence h2 (by omega)
  have hl := lay_w b n 0 X x' z _ _ (fun _ => rfl) (fun _ => rfl) (by omega) hn h1 r
  rw [h0] at hl
  refine ⟨x', V', hl, s, ?_, links_range V' b n (fun t ht => ?_) n 0 (by omega)⟩
  · have := h3 0 (by omega)
    rw [Nat.add_zero] at this
    rw [this]
    obtain ⟨n, rfl⟩ : ∃ k, n = k + 1 := ⟨n - 1, by omega⟩
    show (((0 + 1) % (n + 1 + 1) : Nat) : Int) = ((0 + 1 : Nat) : Int)
    rw [Nat.mod_eq_of_lt (by omega)]
  · have := h3 (1 + t) (by omega)
    rw [← Nat.add_assoc] at this
    rw [this, show 1 + t + 1 = t + 2 by omega]

theorem items_range (n k m : Nat) (h : k + m ≤ n) : Items n (List.range' k m) := by
  intro x hx
  rw [List.mem_range'_1] at hx
  omega

theorem mineL (b n y j : Nat) (l : List Nat) (st it w an : Int) (p : Bool) (h : l.length ≤ 65536) : MineW (tL b n y j l st it w p an) l.length fun i => ((l.getD i 0 : Nat) : Int) := tMine_w b n y j l.length _ st it w an p h

/-- The chapter's example. -/
theorem ok_alive18 : CallOK (O := Ob) PR n_law18_alive [] [] fun v m => v = .dv (.bool true) ∧ m = [] := by
  refine alive18_w (fun x => ∃ V, Sees x 1 4 1 0 0 0 V) (tO ⟨0, 3, 0, 0, [], 0, 0, 0, false, 0⟩) (sees_new 1 4 1 2 (by omega) (by omega) (by omega) (by omega) 0 0 (by omega)) (tNew 0 3 0 0 (by omega) (by omega) (by omega)) fun x hx => ?_
  obtain ⟨x', V, h1, h2, h3⟩ := lay_ok 4 3 0 0 (by omega) (by omega) (by omega) x hx
  obtain ⟨x9, V', it', w', ⟨o1, x1, o2, x2, o3, x3, o4, x4, r0, r1, r2, r3, r4⟩, s, _⟩ := pop_run 1 4 1 0 0 0 3 x' V [] [1, 2] 0 0 0 0 (by omega) (by omega) (by omega) (by omega) (by omega) (by omega) (by simp) h2 (items_range 3 0 3 (by omega)) h3
  refine ⟨x', fun i => match i with | 0 => tL 0 3 0 0 [] 1 0 0 false 0 | 1 => o1 | 2 => o2 | 3 => o3 | _ => o4, fun i => match i with | 0 => x' | 1 => x1 | 2 => x2 | 3 => x3 | _ => x4, _, x9, h1, ?_, rfl, fun i hi => ?_, r4, ?_⟩
  · exact tPop_w 0 3 0 0 0 _ 0 0 0 false
  · rcases (by omega : i = 0 ∨ i = 1 ∨ i = 2 ∨ i = 3) with rfl | rfl | rfl | rfl
    · exact r0
    · exact r1
    · exact r2
    · exact r3
  · have hm := mineL 0 3 0 0 ([] ++ [0]) 0 it' w' 0 false (by simp)
    unfold MineW at *
    refine hm.ent ?_
    rintro r m ⟨rfl, rfl⟩
    refine ⟨.vec 1, [.obj (tL 0 3 0 0 ([] ++ [0]) 0 it' w' false 0), .vec 1 1 fun i _ => .dv (.int .i64 0)], Ent.ren [0, 1] rfl rfl ⟨rfl, ⟨rfl, rfl, fun i f hi hf => ?_⟩, trivial⟩ ⟨rfl, trivial⟩, rfl, rfl⟩
    have hi : i < 1 := hi
    obtain rfl : i = 0 := by omega
    rfl

/-- The three stretches of the law. -/
def J1 (n i : Nat) (o x : Ob) : Prop := (i ≤ n ∧ ∃ it w p an V, o = tL 7 n 0 0 (List.range i) 0 it w p an ∧ Sees x 1 100 1 0 0 0 V ∧ Chain V 7 (List.range' i (n - i))) ∨ (i = n + 1 ∧ ∃ it w p an V, o = tL 7 n 0 0 (List.range n) 0 it w p an ∧ Sees x 1 100 1 0 0 0 V ∧ Chain V 7 [])
def J2 (n i : Nat) (o x : Ob) (Pd : Nat → Int) : Prop := ∃ l q it w p an V, o = tL 7 n 0 0 l 0 it w p an ∧ l.length + i = n ∧ q.length = i ∧ (l ++ q).Nodup ∧ Items n l ∧ Items n q ∧ Sees x 1 100 1 0 0 0 V ∧ Chain V 7 q ∧ ∀ t, t < i → Pd t = (q.getD (i - 1 - t) 0 : Nat)
def J3 (n : Nat) (Pd : Nat → Int) (i : Nat) (o x : Ob) : Prop := ∃ l q it w p an V, o = tL 7 n 0 0 l 0 it w p an ∧ l.length = i ∧ q.length + i = n ∧ Items n q ∧ Sees x 1 100 1 0 0 0 V ∧ Chain V 7 q ∧ ∀ t, t < n - i → Pd t = (q.getD (n - i - 1 - t) 0 : Nat)

theorem getD_lt {l : List Nat} {i : Nat} (h : i < l.length) : l.getD i 0 = l[i] := by rw [List.getD_eq_getElem?_getD, List.getElem?_eq_getElem h]; rfl

theorem mineW (n : Nat) (l : List Nat) (st it w an : Int) (p : Bool) (h : l.length ≤ 65536) : MineW (tL 7 n 0 0 l st it w p an) l.length fun i => ((l.getD i 0 : Nat) : Int) := mineL 7 n 0 0 l st it w an p h
theorem popW (n : Nat) (l : List Nat) (it w an : Int) (p : Bool) : PopW (tL 7 n 0 0 l 0 it w p an) (tL 7 n 0 0 l 1 it w false an) := tPop_w 7 n 0 0 l.length _ it w an p

theorem J2_step (n : Nat) (hn : 1 ≤ n ∧ n ≤ 32) (i : Nat) (o x : Ob) (Pd : Nat → Int) (hi : i < n) (h : J2 n i o x Pd) :
    ∃ m L, m + i = n ∧ MineW o m L ∧ ∀ k, k < m → ∃ o1 o2 x2, PushW o (L k) 0 o1 ∧ RunW o1 x 0 o2 x2 ∧ PushW o2 (L k) 7 o2 ∧ ∀ Pd', (∀ t, t < i → Pd' t = Pd t) → Pd' i = L k → J2 n (i + 1) o2 x2 Pd' := by
  obtain ⟨l, q, it, w, p, an, V, rfl, hl, hq, hnd, hil, hiq, hs, hc, hP⟩ := h
  refine ⟨l.length, _, hl, mineW n l 0 it w an p (by omega), fun k hk => ?_⟩
  have hndl : l.Nodup := (List.nodup_append.1 hnd).1
  have hndq : q.Nodup := (List.nodup_append.1 hnd).2.1
  have hdj := (List.nodup_append.1 hnd).2.2
  have hg := getD_lt hk
  have hmem : l.getD k 0 ∈ l := by rw [hg]; exact List.getElem_mem hk
  have hnq : l.getD k 0 ∉ q := fun hh => hdj _ hmem _ hh rfl
  have hfirst : ∀ t, t < k → ((l.getD t 0 : Nat) : Int) ≠ ((l.getD k 0 : Nat) : Int) := by
    intro t ht e
    have e : l.getD t 0 = l.getD k 0 := by omega
    rw [hg, getD_lt (by omega)] at e
    have := (List.getElem_inj hndl).1 e
    omega
  have hne : ∀ t, t < (l.eraseIdx k).length → (((l.eraseIdx k).getD t 0 : Nat) : Int) ≠ ((l.getD k 0 : Nat) : Int) := by
    intro t ht e
    have e : (l.eraseIdx k).getD t 0 = l.getD k 0 := by omega
    rw [List.length_eraseIdx, if_pos hk] at ht
    rw [erase_getD, hg] at e
    split at e
    · rw [getD_lt (by omega)] at e
      have := (List.getElem_inj hndl).1 e
      omega
    · rw [getD_lt (by omega)] at e
      have := (List.getElem_inj hndl).1 e
      omega
  obtain ⟨x', V', it', w', hr, hs', hc'⟩ := push_run 1 100 1 0 0 7 n x V l q k w an hk (by omega) (by omega) (by omega) hn.2 (by omega) (by omega) (by omega) hs hiq hil hc hndl hnq
  have hle : (l.eraseIdx k).length = l.length - 1 := by rw [List.length_eraseIdx, if_pos hk]
  refine ⟨_, _, x', tPush_w 7 n 0 0 l.length _ it w an _ p k (index_in _ _ _ k (by omega) hk rfl hfirst), run5 hr, tPush_no 7 n 0 0 (l.eraseIdx k).length _ it' w' 0 _ true (index_no _ _ _ (by omega) hne), fun Pd' h1 h2 => ?_⟩
  have hsub : ∀ z ∈ l.eraseIdx k, z ∈ l := fun z hz => List.mem_of_mem_eraseIdx hz
  refine ⟨l.eraseIdx k, l.getD k 0 :: q, it', w', true, 0, V', rfl, by omega, by simp [hq], ?_, fun z hz => hil z (hsub z hz), ?_, hs', hc', ?_⟩
  · rw [List.nodup_append]
    refine ⟨hndl.sublist (List.eraseIdx_sublist _ _), List.nodup_cons.2 ⟨hnq, hndq⟩, ?_⟩
    intro a ha b hb e
    subst e
    rcases List.mem_cons.1 hb with rfl | hb
    · obtain ⟨t, ht, e⟩ := List.getElem_of_mem ha
      refine hne t ht ?_
      rw [getD_lt ht, e]
    · exact hdj a (hsub a ha) a hb rfl
  · intro z hz
    rcases List.mem_cons.1 hz with rfl | hz
    · exact hil _ hmem
    · exact hiq z hz
  · intro t ht
    by_cases e : t = i
    · subst e
      rw [h2, show t + 1 - 1 - t = 0 by omega]
      rfl
    · rw [h1 t (by omega), hP t (by omega), show i + 1 - 1 - t = (i - 1 - t) + 1 by omega]
      rfl

theorem J3_step (n : Nat) (hn : 1 ≤ n ∧ n ≤ 32) (i : Nat) (o x : Ob) (Pd : Nat → Int) (hi : i < n) (h : J3 n Pd i o x) :
    ∃ o1 o2 x2 m L r, PopW o o1 ∧ RunW o1 x 0 o2 x2 ∧ m = i + 1 ∧ MineW o2 m L ∧ r + i + 1 = n ∧ L i = Pd r ∧ J3 n Pd (i + 1) o2 x2 := by
  obtain ⟨l, q, it, w, p, an, V, rfl, hl, hq, hiq, hs, hc, hP⟩ := h
  cases q with
  | nil => simp at hq; omega
  | cons e q =>
    obtain ⟨x', V', it', w', hr, hs', hc'⟩ := pop_run 1 100 1 0 0 7 n x V l q e it w an (by omega) (by omega) (by omega) hn.2 (by omega) (by omega) (by omega) hs hiq hc
    have hle : (l ++ [e]).length = i + 1 := by simp [hl]
    have hq1 : q.length + 1 + i = n := by simpa using hq
    refine ⟨_, _, x', (l ++ [e]).length, _, n - i - 1, popW n l it w an p, run5 hr, hle, mineW n (l ++ [e]) 0 it' w' 0 false (by omega), by omega, ?_, l ++ [e], q, it', w', false, 0, V', rfl, hle, by omega, fun z hz => hiq z (by simp [hz]), hs', hc', fun t ht => ?_⟩
    · rw [hP _ (by omega), show n - i - 1 - (n - i - 1) = 0 by omega]
      simp only [List.getD_eq_getElem?_getD]
      rw [List.getElem?_append_right (by omega), show i - l.length = 0 by omega]
      rfl
    · rw [hP t (by omega), show n - i - 1 - t = (n - (i + 1) - 1 - t) + 1 by omega]
      rfl

theorem ok_Empties (n : Int) (M : Nat) (G : Nat → Nat → DV) (hG : ∀ t, t < M → ∃ g : Int, 0 ≤ g ∧ g ≤ 255 ∧ G t 0 = .int .u8 g) :
    CallOK (O := Ob) PR n_law18_TillEmpties [.dv (.int .i64 n), .dv (.seq M 1 G)] [] fun v m => v = .dv (.bool true) ∧ m = [] := by
  by_cases hn : 1 ≤ n ∧ n ≤ 32
  · obtain ⟨n, rfl⟩ : ∃ k : Nat, n = k := ⟨n.toNat, by omega⟩
    have hn : 1 ≤ n ∧ n ≤ 32 := by omega
    refine emp_w n M G hG hn (fun x => ∃ V, Sees x 1 100 1 0 0 0 V) (tO ⟨7, n, 0, 0, [], 0, 0, 0, false, 0⟩) (J1 n) (J2 n) (J3 n) (fun i => (((List.range n).getD i 0 : Nat) : Int)) ?_ ok_alive18 (sees_new 1 100 1 3 (by omega) (by omega) (by omega) (by omega) 0 0 (by omega)) (tNew 7 n 0 0 (by omega) (by omega) (by omega)) ?_ ?_ ?_ ?_ (J2_step n hn) ?_ (J3_step n hn)
    · intro i hi
      rw [getD_lt (by simpa using hi)]
      simp
    · intro x hx
      obtain ⟨x', V, h1, h2, h3⟩ := lay_ok 100 n 7 0 (by omega) (by omega) hn x hx
      exact ⟨x', h1, .inl ⟨Nat.zero_le _, 0, 0, false, 0, V, rfl, h2, h3⟩⟩
    · rintro i o x hi (⟨_, it, w, p, an, V, rfl, hs, hc⟩ | ⟨h, _⟩)
      · obtain ⟨m, hm⟩ : ∃ m, n - i = m + 1 := ⟨n - i - 1, by omega⟩
        rw [hm] at hc
        obtain ⟨x', V', it', w', hr, hs', hc'⟩ := pop_run 1 100 1 0 0 7 n x V (List.range i) (List.range' (i + 1) m) i it w an (by omega) (by omega) (by omega) hn.2 (by omega) (by omega) (by simp; omega) hs (items_range n i (m + 1) (by omega)) hc
        rw [← List.range_succ] at hr
        refine ⟨_, _, x', popW n _ it w an p, run5 hr, .inl ⟨by omega, it', w', false, 0, V', rfl, hs', ?_⟩⟩
        rw [show n - (i + 1) = m by omega]
        exact hc'
      · omega
    · rintro o x (⟨_, it, w, p, an, V, rfl, hs, hc⟩ | ⟨h, _⟩)
      · rw [Nat.sub_self] at hc
        obtain ⟨x', hr, hs'⟩ := pop_none 1 100 1 0 0 7 n x V (List.range n) it w an (by omega) (by omega) (by omega) (by omega) hs hc
        exact ⟨_, _, x', popW n _ it w an p, run3 hr, .inr ⟨rfl, it, 0, false, 6, V, rfl, hs', hc⟩⟩
      · omega
    · rintro o x (⟨h, _⟩ | ⟨_, it, w, p, an, V, rfl, hs, hc⟩)
      · omega
      · have hm := mineW n (List.range n) 0 it w an p (by simp; omega)
        rw [List.length_range] at hm
        refine ⟨hm, fun Pd => ⟨List.range n, [], it, w, p, an, V, rfl, by simp, rfl, by simpa using List.nodup_range, fun z hz => by simpa using hz, fun z hz => absurd hz (by simp), hs, hc, fun t ht => absurd ht (Nat.not_lt_zero t)⟩⟩
    · rintro o x Pd ⟨l, q, it, w, p, an, V, rfl, hl, hq, hnd, hil, hiq, hs, hc, hP⟩
      exact ⟨l, q, it, w, p, an, V, rfl, by omega, by omega, hiq, hs, hc, fun t ht => by rw [Nat.sub_zero]; exact hP t (by omega)⟩
  · exact emp_no n M G hn ok_alive18 (sees_new 1 100 1 3 (by omega) (by omega) (by omega) (by omega) 0 0 (by omega)) (tNew_no 7 n 0 0 (by omega))

end Go.Proofs.Ytiaceoomiflgcaa

end
