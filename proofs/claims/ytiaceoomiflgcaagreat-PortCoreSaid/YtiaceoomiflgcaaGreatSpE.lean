/-
  PortCore, joined.
-/
import Derived.Test.YtiaceoomiflgcaaGreatSpC
section
namespace Go.Proofs.YtiaceoomiflgcaaGreat
open Go.V
set_option linter.unusedVariables false
set_option linter.unusedSimpArgs false
set_option maxRecDepth 100000
set_option maxHeartbeats 8000000

set_option maxHeartbeats 40000000

theorem port_no (c n k mo id : Int) (N M : Nat) (G T : Nat → Nat → DV) (hal : CallOK (O := Ob) PR n_law14_alive [] [] fun v m => v = .dv (.bool true) ∧ m = [])
    (h0 : CallOK (O := Ob) PR n_soc_New [plV c n k, .dv (.int .i64 mo)] [] fun v m => v = .tup [.dv .nilp, .dv (.int .i64 2)] ∧ m = []) :
    CallOK (O := Ob) PR n_law14_PortCore [plV c n k, .dv (.int .i64 mo), .dv (.seq N 4 G), .agg [.dv (.int .i64 id), .dv (.seq M 3 T)]] [] fun v m => v = .dv (.bool true) ∧ m = [] := by
  unfold plV at *
  refine fn_walkv mixed fn_law14_PortCore (Ent.refl _ _) fun bin cmp un conv bnot beq band sel isel ofN toN inb nz nneg lt le room' slb add sub sbin scmp slen sget ssub addk pc pb pi pf ps mkok min_ ig aeq P hP hA hF Q hQ => ?_
  cbv
  repeat' first
    | (refine call_pure hP code_soc_New (h0) ?_ ?_; (focus (cbv; (try simp); done)); rintro _ rfl; cbv)
    | (refine call_pure hP code_law14_alive (hal) ?_ ?_; (focus (cbv; (try simp); done)); rintro _ rfl; cbv)
    | (refine Chk.mk trivial ?_; cbv)
    | (refine bc_true (by first | assumption | (simp (disch := omega) only [hF, natc, w64_in, shs]; first | done | assumption | omega | (simp only [natc] at *; omega))) ?_; cbv)
    | (refine bc_false (by first | assumption | (simp (disch := omega) only [hF, natc, w64_in, shs]; first | done | assumption | omega | (simp only [natc] at *; omega))) ?_; cbv)
    | (refine bc_split (fun h => ?_) (fun h => ?_) <;> (try simp (disch := omega) only [hF, natc, w64_in, shs] at h) <;> cbv)
    | (refine IdxVC.mk (by simp (disch := omega) only [hF, natc, w64_in, shs]; first | done | omega | (simp only [natc] at *; omega)) (fun kx hk hk2 => ?_); simp (disch := omega) only [hF, natc, w64_in, shs] at hk; (try obtain rfl : kx = 0 := hk); cbv)
    | (refine Chk.mk (by simp (disch := omega) only [maxN, hF, natc, w64_in, shs]; first | done | assumption | omega | (simp only [natc] at *; omega)) ?_; cbv)
    | (intro (hmx : _ ≤ maxN); replace hmx : _ ≤ 17592186044416 := hmx; cbv)
    | (intro _; cbv)
  subst hQ; exact leaf_data rfl rfl ⟨rfl, rfl⟩

theorem port_few (c n k mo id : Int) (N M : Nat) (G T : Nat → Nat → DV) (PO : Ob → Prop) (hfew : ¬ (n ≤ 100 ∧ N ≤ 40 ∧ M ≤ 40)) (hal : CallOK (O := Ob) PR n_law14_alive [] [] fun v m => v = .dv (.bool true) ∧ m = [])
    (h0 : CallOK (O := Ob) PR n_soc_New [plV c n k, .dv (.int .i64 mo)] [] fun v m => v = .tup [.ptr 0 0, .dv (.int .i64 0)] ∧ ∃ x, PO x ∧ m = [.obj x]) :
    CallOK (O := Ob) PR n_law14_PortCore [plV c n k, .dv (.int .i64 mo), .dv (.seq N 4 G), .agg [.dv (.int .i64 id), .dv (.seq M 3 T)]] [] fun v m => v = .dv (.bool true) ∧ m = [] := by
  unfold plV at *
  by_cases hn : n ≤ 100
  · by_cases hN : N ≤ 40
    · have hM : 40 < M := by omega
      clear hfew
      refine fn_walkv mixed fn_law14_PortCore (Ent.refl _ _) fun bin cmp un conv bnot beq band sel isel ofN toN inb nz nneg lt le room' slb add sub sbin scmp slen sget ssub addk pc pb pi pf ps mkok min_ ig aeq P hP hA hF Q hQ => ?_
      have hc : cmp .gtr n 100 = false := by simp only [hF, decide_eq_false_iff_not]; omega
      cbv
      repeat' first
        | (refine call_at hP [] code_soc_New (h0) rfl ?_ ?_ ?_; (focus ((repeat' (first | exact trivial | exact rfl | (intro _ _ _ _; exact rfl) | refine And.intro ?_ ?_)); done)); (focus (cbv; (try simp); done)); rintro _ _ ⟨rfl, x, hx, rfl⟩ _; cbv)
        | ((rw [hc]); cbv)
        | (refine call_pure hP code_law14_alive (hal) ?_ ?_; (focus (cbv; (try simp); done)); rintro _ rfl; cbv)
        | (refine Chk.mk trivial ?_; cbv)
        | (refine bc_true (by first | assumption | (simp (disch := omega) only [hF, natc, w64_in, shs]; first | done | assumption | omega | (simp only [natc] at *; omega))) ?_; cbv)
        | (refine bc_false (by first | assumption | (simp (disch := omega) only [hF, natc, w64_in, shs]; first | done | assumption | omega | (simp only [natc] at *; omega))) ?_; cbv)
        | (refine bc_split (fun h => ?_) (fun h => ?_) <;> (try simp (disch := omega) only [hF, natc, w64_in, shs] at h) <;> cbv)
        | (refine IdxVC.mk (by simp (disch := omega) only [hF, natc, w64_in, shs]; first | done | omega | (simp only [natc] at *; omega)) (fun kx hk hk2 => ?_); simp (disch := omega) only [hF, natc, w64_in, shs] at hk; (try obtain rfl : kx = 0 := hk); cbv)
        | (refine Chk.mk (by simp (disch := omega) only [maxN, hF, natc, w64_in, shs]; first | done | assumption | omega | (simp only [natc] at *; omega)) ?_; cbv)
        | (intro (hmx : _ ≤ maxN); replace hmx : _ ≤ 17592186044416 := hmx; cbv)
        | (intro _; cbv)
      subst hQ; exact leaf_data rfl rfl ⟨rfl, rfl⟩
    · clear hfew
      refine fn_walkv mixed fn_law14_PortCore (Ent.refl _ _) fun bin cmp un conv bnot beq band sel isel ofN toN inb nz nneg lt le room' slb add sub sbin scmp slen sget ssub addk pc pb pi pf ps mkok min_ ig aeq P hP hA hF Q hQ => ?_
      have hc : cmp .gtr n 100 = false := by simp only [hF, decide_eq_false_iff_not]; omega
      cbv
      repeat' first
        | (refine call_at hP [] code_soc_New (h0) rfl ?_ ?_ ?_; (focus ((repeat' (first | exact trivial | exact rfl | (intro _ _ _ _; exact rfl) | refine And.intro ?_ ?_)); done)); (focus (cbv; (try simp); done)); rintro _ _ ⟨rfl, x, hx, rfl⟩ _; cbv)
        | ((rw [hc]); cbv)
        | (refine call_pure hP code_law14_alive (hal) ?_ ?_; (focus (cbv; (try simp); done)); rintro _ rfl; cbv)
        | (refine Chk.mk trivial ?_; cbv)
        | (refine bc_true (by first | assumption | (simp (disch := omega) only [hF, natc, w64_in, shs]; first | done | assumption | omega | (simp only [natc] at *; omega))) ?_; cbv)
        | (refine bc_false (by first | assumption | (simp (disch := omega) only [hF, natc, w64_in, shs]; first | done | assumption | omega | (simp only [natc] at *; omega))) ?_; cbv)
        | (refine bc_split (fun h => ?_) (fun h => ?_) <;> (try simp (disch := omega) only [hF, natc, w64_in, shs] at h) <;> cbv)
        | (refine IdxVC.mk (by simp (disch := omega) only [hF, natc, w64_in, shs]; first | done | omega | (simp only [natc] at *; omega)) (fun kx hk hk2 => ?_); simp (disch := omega) only [hF, natc, w64_in, shs] at hk; (try obtain rfl : kx = 0 := hk); cbv)
        | (refine Chk.mk (by simp (disch := omega) only [maxN, hF, natc, w64_in, shs]; first | done | assumption | omega | (simp only [natc] at *; omega)) ?_; cbv)
        | (intro (hmx : _ ≤ maxN); replace hmx : _ ≤ 17592186044416 := hmx; cbv)
        | (intro _; cbv)
      subst hQ; exact leaf_data rfl rfl ⟨rfl, rfl⟩
  · clear hfew
    refine fn_walkv mixed fn_law14_PortCore (Ent.refl _ _) fun bin cmp un conv bnot beq band sel isel ofN toN inb nz nneg lt le room' slb add sub sbin scmp slen sget ssub addk pc pb pi pf ps mkok min_ ig aeq P hP hA hF Q hQ => ?_
    have hc : cmp .gtr n 100 = true := by simp only [hF, decide_eq_true_eq]; omega
    cbv
    repeat' first
      | (refine call_at hP [] code_soc_New (h0) rfl ?_ ?_ ?_; (focus ((repeat' (first | exact trivial | exact rfl | (intro _ _ _ _; exact rfl) | refine And.intro ?_ ?_)); done)); (focus (cbv; (try simp); done)); rintro _ _ ⟨rfl, x, hx, rfl⟩ _; cbv)
      | ((rw [hc]); cbv)
      | (refine call_pure hP code_law14_alive (hal) ?_ ?_; (focus (cbv; (try simp); done)); rintro _ rfl; cbv)
      | (refine Chk.mk trivial ?_; cbv)
      | (refine bc_true (by first | assumption | (simp (disch := omega) only [hF, natc, w64_in, shs]; first | done | assumption | omega | (simp only [natc] at *; omega))) ?_; cbv)
      | (refine bc_false (by first | assumption | (simp (disch := omega) only [hF, natc, w64_in, shs]; first | done | assumption | omega | (simp only [natc] at *; omega))) ?_; cbv)
      | (refine bc_split (fun h => ?_) (fun h => ?_) <;> (try simp (disch := omega) only [hF, natc, w64_in, shs] at h) <;> cbv)
      | (refine IdxVC.mk (by simp (disch := omega) only [hF, natc, w64_in, shs]; first | done | omega | (simp only [natc] at *; omega)) (fun kx hk hk2 => ?_); simp (disch := omega) only [hF, natc, w64_in, shs] at hk; (try obtain rfl : kx = 0 := hk); cbv)
      | (refine Chk.mk (by simp (disch := omega) only [maxN, hF, natc, w64_in, shs]; first | done | assumption | omega | (simp only [natc] at *; omega)) ?_; cbv)
      | (intro (hmx : _ ≤ maxN); replace hmx : _ ≤ 17592186044416 := hmx; cbv)
      | (intro _; cbv)
    subst hQ; exact leaf_data rfl rfl ⟨rfl, rfl⟩

def SameW (x y : Ob) : Prop := CallOK (O := Ob) PR n_soc_Same [.ptr 0 0, .ptr 1 0] [.obj x, .obj y] (fun v m => v = .dv (.bool true) ∧ m = [.obj x, .obj y])

/-- What a soc, touched by a port, and its copy, read and written, answer. -/
structure PortP (id c n : Int) (P2 : Ob → Ob → Prop) : Prop where
  hA : ∀ x y, P2 x y → ∀ a w, 0 ≤ a → a < n → ∃ x' y' r e, P2 x' y' ∧ SameW x' y' ∧ RdW y id a r e y' ∧ TouW id x 1 a w r x'
  hC : ∀ x y, P2 x y → ∀ a w, 0 ≤ a → a < n → ∃ x' y' e, P2 x' y' ∧ SameW x' y' ∧ WtW y id a w e y' ∧ TouW id x 2 a w 0 x'
  hE : ∀ x y, P2 x y → ∀ a w, ∃ x' y' r e, P2 x' y' ∧ SameW x' y' ∧ FnW y id r e y' ∧ TouW id x 3 a w 0 x'
  hG : ∀ x y, P2 x y → ∀ a w, 0 ≤ a → a < c → ∃ x' y' r e, P2 x' y' ∧ SameW x' y' ∧ RdW y id (66048 + a) r e y' ∧ TouW id x 4 a w r x'
  hK : ∀ x y, P2 x y → ∀ a w, 0 ≤ a → a < c → ∃ x' y' e, P2 x' y' ∧ SameW x' y' ∧ WtW y id (65536 + 16 * a + 2) id e y' ∧ TouW id x 5 a w 0 x'
  hN : ∀ x y, P2 x y → ∀ k a w, (k = 1 ∨ k = 2 → ¬ (0 ≤ a ∧ a < n)) → (k = 4 ∨ k = 5 → ¬ (0 ≤ a ∧ a < c)) → k ≠ 3 → SameW x y ∧ TouW id x k a w 0 x

/-- Touches of whole numbers. -/
def okTou (M : Nat) (T : Nat → Nat → DV) : Prop := ∀ t, t < M → ∃ k a w, -9223372036854775808 ≤ a ∧ a ≤ 9223372036854775807 ∧ T t 0 = .int .i64 k ∧ T t 1 = .int .i64 a ∧ T t 2 = .int .i64 w

theorem port_w (c n k mo id : Int) (N M : Nat) (G T : Nat → Nat → DV) (PO : Ob → Prop) (P2 : Ob → Ob → Prop) (hc : 1 ≤ c ∧ c ≤ 8) (hn100 : n ≤ 100) (hN40 : N ≤ 40) (hM40 : M ≤ 40) (hal : CallOK (O := Ob) PR n_law14_alive [] [] fun v m => v = .dv (.bool true) ∧ m = [])
    (h0 : CallOK (O := Ob) PR n_soc_New [plV c n k, .dv (.int .i64 mo)] [] fun v m => v = .tup [.ptr 0 0, .dv (.int .i64 0)] ∧ ∃ x, PO x ∧ m = [.obj x])
    (hdo : ∀ t, t < N → ∀ x, PO x → CallOK (O := Ob) PR n_law12_Do [.ptr 0 0, .agg [.dv (G t 0), .dv (G t 1), .dv (G t 2), .dv (G t 3)]] [.obj x] fun v m => Two v ∧ ∃ x, PO x ∧ m = [.obj x])
    (hcl : ∀ x, PO x → ∃ y, P2 x y ∧ CallOK (O := Ob) PR n_soc_Soc_Clone [.ptr 0 0] [.obj x] (fun v m => v = .ptr 1 0 ∧ m = [.obj x, .obj y])) (hT : okTou M T) (hPP : PortP id c n P2) :
    CallOK (O := Ob) PR n_law14_PortCore [plV c n k, .dv (.int .i64 mo), .dv (.seq N 4 G), .agg [.dv (.int .i64 id), .dv (.seq M 3 T)]] [] fun v m => v = .dv (.bool true) ∧ m = [] := by
  unfold plV at *; unfold Two at hdo
  obtain ⟨hc1, hc8⟩ := hc
  refine fn_walkv mixed fn_law14_PortCore (Ent.refl _ _) fun bin cmp un conv bnot beq band sel isel ofN toN inb nz nneg lt le room' slb add sub sbin scmp slen sget ssub addk pc pb pi pf ps mkok min_ ig aeq P hP hA hF Q hQ => ?_
  have hn1 : cmp .gtr n 100 = false := by simp only [hF, decide_eq_false_iff_not]; omega
  cbv
  repeat' first
    | (refine call_at hP [] code_soc_New (h0) rfl ?_ ?_ ?_; (focus ((repeat' (first | exact trivial | exact rfl | (intro _ _ _ _; exact rfl) | refine And.intro ?_ ?_)); done)); (focus (cbv; (try simp); done)); rintro _ _ ⟨rfl, x, hx, rfl⟩ _; cbv)
    | ((rw [hn1]); cbv)
    | (refine Chk.mk trivial ?_; cbv)
    | (refine bc_true (by first | assumption | (simp (disch := omega) only [hF, natc, w64_in, shs]; first | done | assumption | omega | (simp only [natc] at *; omega))) ?_; cbv)
    | (refine bc_false (by first | assumption | (simp (disch := omega) only [hF, natc, w64_in, shs]; first | done | assumption | omega | (simp only [natc] at *; omega))) ?_; cbv)
    | (refine bc_split (fun h => ?_) (fun h => ?_) <;> (try simp (disch := omega) only [hF, natc, w64_in, shs] at h) <;> cbv)
    | (refine IdxVC.mk (by simp (disch := omega) only [hF, natc, w64_in, shs]; first | done | omega | (simp only [natc] at *; omega)) (fun kx hk hk2 => ?_); simp (disch := omega) only [hF, natc, w64_in, shs] at hk; (try obtain rfl : kx = 0 := hk); cbv)
    | (refine Chk.mk (by simp (disch := omega) only [maxN, hF, natc, w64_in, shs]; first | done | assumption | omega | (simp only [natc] at *; omega)) ?_; cbv)
    | (intro (hmx : _ ≤ maxN); replace hmx : _ ≤ 17592186044416 := hmx; cbv)
    | (intro _; cbv)
  refine loop_ix mixed hP hA (ι := Nat × Ob) (fun q => N - q.1) (fun q => q.1 ≤ N ∧ PO q.2) [12, 50, 51, 52, 53, 54, 55, 56, 57] (fun q => [(50, .dv (.int .i64 (ofN q.1)))])
    (fun q => [.blk [.one (.dv (.int .i64 c)), .one (.dv (.int .i64 n)), .one (.dv (.int .i64 k))], .blk [.one (.dv (.int .i64 id)), .one (.dv (.seq M 3 T))], .obj q.2]) (0, x) ⟨Nat.zero_le _, hx⟩ (Ent.env (by cbv; simp [hF])) fun Nx q hNx hy => ?_
  obtain ⟨q, z⟩ := q
  simp only at hy hNx
  cbv
  obtain ⟨hyN, hz⟩ := hy
  by_cases hlt : q < N
  · have hd := hdo q hlt z hz
    cbv
    repeat' first
      | (refine call_at hP [2] code_law12_Do (hd) rfl ?_ ?_ ?_; (focus ((repeat' (first | exact trivial | exact rfl | (intro _ _ _ _; exact rfl) | refine And.intro ?_ ?_)); done)); (focus (cbv; (try simp); done)); rintro _ _ ⟨⟨u, e, rfl⟩, z', hz', rfl⟩ _; cbv)
      | (refine Chk.mk trivial ?_; cbv)
      | (refine bc_true (by first | assumption | (simp (disch := omega) only [hF, natc, w64_in, shs]; first | done | assumption | omega | (simp only [natc] at *; omega))) ?_; cbv)
      | (refine bc_false (by first | assumption | (simp (disch := omega) only [hF, natc, w64_in, shs]; first | done | assumption | omega | (simp only [natc] at *; omega))) ?_; cbv)
      | (refine bc_split (fun h => ?_) (fun h => ?_) <;> (try simp (disch := omega) only [hF, natc, w64_in, shs] at h) <;> cbv)
      | (refine IdxVC.mk (by simp (disch := omega) only [hF, natc, w64_in, shs]; first | done | omega | (simp only [natc] at *; omega)) (fun kx hk hk2 => ?_); simp (disch := omega) only [hF, natc, w64_in, shs] at hk; (try obtain rfl : kx = 0 := hk); (try obtain rfl : q = kx := hk.symm); cbv)
      | (refine Chk.mk (by simp (disch := omega) only [maxN, hF, natc, w64_in, shs]; first | done | assumption | omega | (simp only [natc] at *; omega)) ?_; cbv)
      | (intro (hmx : _ ≤ maxN); replace hmx : _ ≤ 17592186044416 := hmx; cbv)
      | (intro _; cbv)
    refine hNx _ (q + 1, z') ⟨hlt, hz'⟩ (by show N - (q + 1) < N - q; omega) (Ent.ren [0, 1, 2] rfl rfl ⟨⟨rfl, rfl, rfl, trivial⟩, ⟨rfl, rfl, trivial⟩, rfl, trivial⟩ (by cbv; simp (disch := omega) [hF, natc, w64_in]))
  · obtain rfl : q = N := by omega
    obtain ⟨y0, hy0, hk0⟩ := hcl z hz
    clear hNx
    cbv
    repeat' first
      | (refine call_at hP [2] code_soc_Soc_Clone (hk0) rfl ?_ ?_ ?_; (focus ((repeat' (first | exact trivial | exact rfl | (intro _ _ _ _; exact rfl) | refine And.intro ?_ ?_)); done)); (focus (cbv; (try simp); done)); rintro _ _ ⟨rfl, rfl⟩ _; cbv)
      | ((refine call_inl hP mixed hA code_port_OfCore fn_port_OfCore ?_); cbv)
      | (refine Chk.mk trivial ?_; cbv)
      | (refine bc_true (by first | assumption | (simp (disch := omega) only [hF, natc, w64_in, shs]; first | done | assumption | omega | (simp only [natc] at *; omega))) ?_; cbv)
      | (refine bc_false (by first | assumption | (simp (disch := omega) only [hF, natc, w64_in, shs]; first | done | assumption | omega | (simp only [natc] at *; omega))) ?_; cbv)
      | (refine bc_split (fun h => ?_) (fun h => ?_) <;> (try simp (disch := omega) only [hF, natc, w64_in, shs] at h) <;> cbv)
      | (refine IdxVC.mk (by simp (disch := omega) only [hF, natc, w64_in, shs]; first | done | omega | (simp only [natc] at *; omega)) (fun kx hk hk2 => ?_); simp (disch := omega) only [hF, natc, w64_in, shs] at hk; (try obtain rfl : kx = 0 := hk); cbv)
      | (refine Chk.mk (by simp (disch := omega) only [maxN, hF, natc, w64_in, shs]; first | done | assumption | omega | (simp only [natc] at *; omega)) ?_; cbv)
      | (intro (hmx : _ ≤ maxN); replace hmx : _ ≤ 17592186044416 := hmx; cbv)
      | (intro _; cbv)
    refine loop_ix mixed hP hA (ι := Nat × Ob × Ob) (fun q => M - q.1) (fun q => q.1 ≤ M ∧ P2 q.2.1 q.2.2) [8, 16, 17, 18, 67, 68, 69, 70, 71, 72, 73, 74, 75, 76, 77, 78, 79, 80, 81, 82, 83, 84, 85, 86, 87, 88, 89, 90, 91, 92, 93, 94, 95, 96, 97, 98, 99, 100, 101, 102, 103, 104, 105, 106, 107, 108, 109, 110, 111, 112, 113, 114, 115, 116, 117, 118, 119, 120, 121, 122, 123, 124, 125, 126, 127, 128, 129, 130, 131, 132, 133, 134, 135, 136, 137, 138, 139, 140, 141, 142, 143, 144, 145, 146, 147, 148, 149, 150, 151, 152, 153, 154, 155, 156, 157, 158, 159, 160, 161, 162, 163, 164, 165, 166, 167, 168, 169, 170, 171, 172, 173, 174, 175, 176, 177, 178, 179, 180, 181, 182, 183, 184, 185] (fun q => [(67, .dv (.int .i64 (ofN q.1)))])
      (fun q => [.blk [.one (.dv (.int .i64 c)), .one (.dv (.int .i64 n)), .one (.dv (.int .i64 k))], .blk [.one (.dv (.int .i64 id)), .one (.dv (.seq M 3 T))], .obj q.2.1, .obj q.2.2, .blk [.one (.ptr 2 0), .one (.dv (.int .i64 id))]]) (0, z, y0) ⟨Nat.zero_le _, hy0⟩ (Ent.env (by cbv; simp [hF])) fun Nx q hNx hy => ?_
    obtain ⟨t, x1, y1⟩ := q
    simp only at hy hNx
    cbv
    obtain ⟨htM, hxy⟩ := hy
    by_cases hlt2 : t < M
    · obtain ⟨kk, a, w, ha1, ha2, e0, e1, e2⟩ := hT t hlt2
      have hb0 : bnot true = false := by simp only [hF]; rfl
      by_cases k1 : kk = 1
      · subst k1
        by_cases hr : 0 ≤ a ∧ a < n
        · obtain ⟨h0a, h0b⟩ := hr
          obtain ⟨x', y', r, e, hp, hs, hd, ht⟩ := hPP.hA x1 y1 hxy a w h0a h0b
          unfold SameW at hs; unfold TouW PoM at ht; unfold RdW at hd
          have hrr : cmp .neq r r = false := by simp only [hF]; simp
          cbv
          repeat' first
            | ((rw [e0]); cbv)
            | ((rw [e1]); cbv)
            | ((rw [e2]); cbv)
            | (refine call_at hP [3] code_soc_Soc_Read (hd) rfl ?_ ?_ ?_; (focus ((repeat' (first | exact trivial | exact rfl | (intro _ _ _ _; exact rfl) | refine And.intro ?_ ?_)); done)); (focus (cbv; (try simp); done)); rintro _ _ ⟨rfl, rfl⟩ _; cbv)
            | (refine call_at hP [4, 2] code_law14_do (ht) rfl ?_ ?_ ?_; (focus ((repeat' (first | exact trivial | exact rfl | (intro _ _ _ _; exact rfl) | refine And.intro ?_ ?_)); done)); (focus (cbv; (try simp); done)); rintro _ _ ⟨rfl, rfl⟩ _; cbv)
            | (refine call_at hP [2, 3] code_soc_Same (hs) rfl ?_ ?_ ?_; (focus ((repeat' (first | exact trivial | exact rfl | (intro _ _ _ _; exact rfl) | refine And.intro ?_ ?_)); done)); (focus (cbv; (try simp); done)); rintro _ _ ⟨rfl, rfl⟩ _; cbv)
            | ((rw [hb0]); cbv)
            | ((rw [hrr]); cbv)
            | (refine Chk.mk trivial ?_; cbv)
            | (refine bc_true (by first | assumption | (simp (disch := omega) only [hF, natc, w64_in, shs]; first | done | assumption | omega | (simp only [natc] at *; omega))) ?_; cbv)
            | (refine bc_false (by first | assumption | (simp (disch := omega) only [hF, natc, w64_in, shs]; first | done | assumption | omega | (simp only [natc] at *; omega))) ?_; cbv)
            | (refine bc_split (fun h => ?_) (fun h => ?_) <;> (try simp (disch := omega) only [hF, natc, w64_in, shs] at h) <;> cbv)
            | (refine IdxVC.mk (by simp (disch := omega) only [hF, natc, w64_in, shs]; first | done | omega | (simp only [natc] at *; omega)) (fun kx hk hk2 => ?_); simp (disch := omega) only [hF, natc, w64_in, shs] at hk; (try obtain rfl : kx = 0 := hk); (try obtain rfl : t = kx := hk.symm); cbv)
            | (refine Chk.mk (by simp (disch := omega) only [maxN, hF, natc, w64_in, shs]; first | done | assumption | omega | (simp only [natc] at *; omega)) ?_; cbv)
            | (intro (hmx : _ ≤ maxN); replace hmx : _ ≤ 17592186044416 := hmx; cbv)
            | (intro _; cbv)
          all_goals exact hNx _ (t + 1, x', y') ⟨hlt2, hp⟩ (by show M - (t + 1) < M - t; omega) (Ent.ren [0, 1, 2, 3, 4] rfl rfl ⟨⟨rfl, rfl, rfl, trivial⟩, ⟨rfl, rfl, trivial⟩, rfl, rfl, ⟨rfl, rfl, trivial⟩, trivial⟩ (by cbv; simp (disch := omega) [hF, natc, w64_in]))
        · obtain ⟨hs, ht⟩ := hPP.hN x1 y1 hxy 1 a w (fun _ => hr) (fun h => by omega) (by omega)
          unfold SameW at hs; unfold TouW PoM at ht
          have hrr : cmp .neq 0 0 = false := by simp only [hF]; rfl
          cbv
          repeat' first
            | ((rw [e0]); cbv)
            | ((rw [e1]); cbv)
            | ((rw [e2]); cbv)
            | (refine call_at hP [4, 2] code_law14_do (ht) rfl ?_ ?_ ?_; (focus ((repeat' (first | exact trivial | exact rfl | (intro _ _ _ _; exact rfl) | refine And.intro ?_ ?_)); done)); (focus (cbv; (try simp); done)); rintro _ _ ⟨rfl, rfl⟩ _; cbv)
            | (refine call_at hP [2, 3] code_soc_Same (hs) rfl ?_ ?_ ?_; (focus ((repeat' (first | exact trivial | exact rfl | (intro _ _ _ _; exact rfl) | refine And.intro ?_ ?_)); done)); (focus (cbv; (try simp); done)); rintro _ _ ⟨rfl, rfl⟩ _; cbv)
            | ((rw [hb0]); cbv)
            | ((rw [hrr]); cbv)
            | (refine Chk.mk trivial ?_; cbv)
            | (refine bc_true (by first | assumption | (simp (disch := omega) only [hF, natc, w64_in, shs]; first | done | assumption | omega | (simp only [natc] at *; omega))) ?_; cbv)
            | (refine bc_false (by first | assumption | (simp (disch := omega) only [hF, natc, w64_in, shs]; first | done | assumption | omega | (simp only [natc] at *; omega))) ?_; cbv)
            | (refine bc_split (fun h => ?_) (fun h => ?_) <;> (try simp (disch := omega) only [hF, natc, w64_in, shs] at h) <;> cbv)
            | (refine IdxVC.mk (by simp (disch := omega) only [hF, natc, w64_in, shs]; first | done | omega | (simp only [natc] at *; omega)) (fun kx hk hk2 => ?_); simp (disch := omega) only [hF, natc, w64_in, shs] at hk; (try obtain rfl : kx = 0 := hk); (try obtain rfl : t = kx := hk.symm); cbv)
            | (refine Chk.mk (by simp (disch := omega) only [maxN, hF, natc, w64_in, shs]; first | done | assumption | omega | (simp only [natc] at *; omega)) ?_; cbv)
            | (intro (hmx : _ ≤ maxN); replace hmx : _ ≤ 17592186044416 := hmx; cbv)
            | (intro _; cbv)
          all_goals exact hNx _ (t + 1, x1, y1) ⟨hlt2, hxy⟩ (by show M - (t + 1) < M - t; omega) (Ent.ren [0, 1, 2, 3, 4] rfl rfl ⟨⟨rfl, rfl, rfl, trivial⟩, ⟨rfl, rfl, trivial⟩, rfl, rfl, ⟨rfl, rfl, trivial⟩, trivial⟩ (by cbv; simp (disch := omega) [hF, natc, w64_in]))
      by_cases k2 : kk = 2
      · subst k2
        by_cases hr : 0 ≤ a ∧ a < n
        · obtain ⟨h0a, h0b⟩ := hr
          obtain ⟨x', y', e, hp, hs, hd, ht⟩ := hPP.hC x1 y1 hxy a w h0a h0b
          unfold SameW at hs; unfold TouW PoM at ht; unfold WtW at hd
          have hrr : cmp .neq 0 0 = false := by simp only [hF]; rfl
          cbv
          repeat' first
            | ((rw [e0]); cbv)
            | ((rw [e1]); cbv)
            | ((rw [e2]); cbv)
            | (refine call_at hP [3] code_soc_Soc_Write (hd) rfl ?_ ?_ ?_; (focus ((repeat' (first | exact trivial | exact rfl | (intro _ _ _ _; exact rfl) | refine And.intro ?_ ?_)); done)); (focus (cbv; (try simp); done)); rintro _ _ ⟨rfl, rfl⟩ _; cbv)
            | (refine call_at hP [4, 2] code_law14_do (ht) rfl ?_ ?_ ?_; (focus ((repeat' (first | exact trivial | exact rfl | (intro _ _ _ _; exact rfl) | refine And.intro ?_ ?_)); done)); (focus (cbv; (try simp); done)); rintro _ _ ⟨rfl, rfl⟩ _; cbv)
            | (refine call_at hP [2, 3] code_soc_Same (hs) rfl ?_ ?_ ?_; (focus ((repeat' (first | exact trivial | exact rfl | (intro _ _ _ _; exact rfl) | refine And.intro ?_ ?_)); done)); (focus (cbv; (try simp); done)); rintro _ _ ⟨rfl, rfl⟩ _; cbv)
            | ((rw [hb0]); cbv)
            | ((rw [hrr]); cbv)
            | (refine Chk.mk trivial ?_; cbv)
            | (refine bc_true (by first | assumption | (simp (disch := omega) only [hF, natc, w64_in, shs]; first | done | assumption | omega | (simp only [natc] at *; omega))) ?_; cbv)
            | (refine bc_false (by first | assumption | (simp (disch := omega) only [hF, natc, w64_in, shs]; first | done | assumption | omega | (simp only [natc] at *; omega))) ?_; cbv)
            | (refine bc_split (fun h => ?_) (fun h => ?_) <;> (try simp (disch := omega) only [hF, natc, w64_in, shs] at h) <;> cbv)
            | (refine IdxVC.mk (by simp (disch := omega) only [hF, natc, w64_in, shs]; first | done | omega | (simp only [natc] at *; omega)) (fun kx hk hk2 => ?_); simp (disch := omega) only [hF, natc, w64_in, shs] at hk; (try obtain rfl : kx = 0 := hk); (try obtain rfl : t = kx := hk.symm); cbv)
            | (refine Chk.mk (by simp (disch := omega) only [maxN, hF, natc, w64_in, shs]; first | done | assumption | omega | (simp only [natc] at *; omega)) ?_; cbv)
            | (intro (hmx : _ ≤ maxN); replace hmx : _ ≤ 17592186044416 := hmx; cbv)
            | (intro _; cbv)
          all_goals exact hNx _ (t + 1, x', y') ⟨hlt2, hp⟩ (by show M - (t + 1) < M - t; omega) (Ent.ren [0, 1, 2, 3, 4] rfl rfl ⟨⟨rfl, rfl, rfl, trivial⟩, ⟨rfl, rfl, trivial⟩, rfl, rfl, ⟨rfl, rfl, trivial⟩, trivial⟩ (by cbv; simp (disch := omega) [hF, natc, w64_in]))
        · obtain ⟨hs, ht⟩ := hPP.hN x1 y1 hxy 2 a w (fun _ => hr) (fun h => by omega) (by omega)
          unfold SameW at hs; unfold TouW PoM at ht
          have hrr : cmp .neq 0 0 = false := by simp only [hF]; rfl
          cbv
          repeat' first
            | ((rw [e0]); cbv)
            | ((rw [e1]); cbv)
            | ((rw [e2]); cbv)
            | (refine call_at hP [4, 2] code_law14_do (ht) rfl ?_ ?_ ?_; (focus ((repeat' (first | exact trivial | exact rfl | (intro _ _ _ _; exact rfl) | refine And.intro ?_ ?_)); done)); (focus (cbv; (try simp); done)); rintro _ _ ⟨rfl, rfl⟩ _; cbv)
            | (refine call_at hP [2, 3] code_soc_Same (hs) rfl ?_ ?_ ?_; (focus ((repeat' (first | exact trivial | exact rfl | (intro _ _ _ _; exact rfl) | refine And.intro ?_ ?_)); done)); (focus (cbv; (try simp); done)); rintro _ _ ⟨rfl, rfl⟩ _; cbv)
            | ((rw [hb0]); cbv)
            | ((rw [hrr]); cbv)
            | (refine Chk.mk trivial ?_; cbv)
            | (refine bc_true (by first | assumption | (simp (disch := omega) only [hF, natc, w64_in, shs]; first | done | assumption | omega | (simp only [natc] at *; omega))) ?_; cbv)
            | (refine bc_false (by first | assumption | (simp (disch := omega) only [hF, natc, w64_in, shs]; first | done | assumption | omega | (simp only [natc] at *; omega))) ?_; cbv)
            | (refine bc_split (fun h => ?_) (fun h => ?_) <;> (try simp (disch := omega) only [hF, natc, w64_in, shs] at h) <;> cbv)
            | (refine IdxVC.mk (by simp (disch := omega) only [hF, natc, w64_in, shs]; first | done | omega | (simp only [natc] at *; omega)) (fun kx hk hk2 => ?_); simp (disch := omega) only [hF, natc, w64_in, shs] at hk; (try obtain rfl : kx = 0 := hk); (try obtain rfl : t = kx := hk.symm); cbv)
            | (refine Chk.mk (by simp (disch := omega) only [maxN, hF, natc, w64_in, shs]; first | done | assumption | omega | (simp only [natc] at *; omega)) ?_; cbv)
            | (intro (hmx : _ ≤ maxN); replace hmx : _ ≤ 17592186044416 := hmx; cbv)
            | (intro _; cbv)
          all_goals exact hNx _ (t + 1, x1, y1) ⟨hlt2, hxy⟩ (by show M - (t + 1) < M - t; omega) (Ent.ren [0, 1, 2, 3, 4] rfl rfl ⟨⟨rfl, rfl, rfl, trivial⟩, ⟨rfl, rfl, trivial⟩, rfl, rfl, ⟨rfl, rfl, trivial⟩, trivial⟩ (by cbv; simp (disch := omega) [hF, natc, w64_in]))
      by_cases k3 : kk = 3
      · subst k3
        obtain ⟨x', y', r, e, hp, hs, hd, ht⟩ := hPP.hE x1 y1 hxy a w
        unfold SameW at hs; unfold TouW PoM at ht; unfold FnW at hd
        have hrr : cmp .neq 0 0 = false := by simp only [hF]; rfl
        cbv
        repeat' first
          | ((rw [e0]); cbv)
          | ((rw [e1]); cbv)
          | ((rw [e2]); cbv)
          | (refine call_at hP [3] code_soc_Soc_Fence (hd) rfl ?_ ?_ ?_; (focus ((repeat' (first | exact trivial | exact rfl | (intro _ _ _ _; exact rfl) | refine And.intro ?_ ?_)); done)); (focus (cbv; (try simp); done)); rintro _ _ ⟨rfl, rfl⟩ _; cbv)
          | (refine call_at hP [4, 2] code_law14_do (ht) rfl ?_ ?_ ?_; (focus ((repeat' (first | exact trivial | exact rfl | (intro _ _ _ _; exact rfl) | refine And.intro ?_ ?_)); done)); (focus (cbv; (try simp); done)); rintro _ _ ⟨rfl, rfl⟩ _; cbv)
          | (refine call_at hP [2, 3] code_soc_Same (hs) rfl ?_ ?_ ?_; (focus ((repeat' (first | exact trivial | exact rfl | (intro _ _ _ _; exact rfl) | refine And.intro ?_ ?_)); done)); (focus (cbv; (try simp); done)); rintro _ _ ⟨rfl, rfl⟩ _; cbv)
          | ((rw [hb0]); cbv)
          | ((rw [hrr]); cbv)
          | (refine Chk.mk trivial ?_; cbv)
          | (refine bc_true (by first | assumption | (simp (disch := omega) only [hF, natc, w64_in, shs]; first | done | assumption | omega | (simp only [natc] at *; omega))) ?_; cbv)
          | (refine bc_false (by first | assumption | (simp (disch := omega) only [hF, natc, w64_in, shs]; first | done | assumption | omega | (simp only [natc] at *; omega))) ?_; cbv)
          | (refine bc_split (fun h => ?_) (fun h => ?_) <;> (try simp (disch := omega) only [hF, natc, w64_in, shs] at h) <;> cbv)
          | (refine IdxVC.mk (by simp (disch := omega) only [hF, natc, w64_in, shs]; first | done | omega | (simp only [natc] at *; omega)) (fun kx hk hk2 => ?_); simp (disch := omega) only [hF, natc, w64_in, shs] at hk; (try obtain rfl : kx = 0 := hk); (try obtain rfl : t = kx := hk.symm); cbv)
          | (refine Chk.mk (by simp (disch := omega) only [maxN, hF, natc, w64_in, shs]; first | done | assumption | omega | (simp only [natc] at *; omega)) ?_; cbv)
          | (intro (hmx : _ ≤ maxN); replace hmx : _ ≤ 17592186044416 := hmx; cbv)
          | (intro _; cbv)
        all_goals exact hNx _ (t + 1, x', y') ⟨hlt2, hp⟩ (by show M - (t + 1) < M - t; omega) (Ent.ren [0, 1, 2, 3, 4] rfl rfl ⟨⟨rfl, rfl, rfl, trivial⟩, ⟨rfl, rfl, trivial⟩, rfl, rfl, ⟨rfl, rfl, trivial⟩, trivial⟩ (by cbv; simp (disch := omega) [hF, natc, w64_in]))
      by_cases k4 : kk = 4
      · subst k4
        by_cases hr : 0 ≤ a ∧ a < c
        · obtain ⟨h0a, h0b⟩ := hr
          have hA4 : bin .add .i64 66048 a = 66048 + a := by simp only [hF]; rw [w64_in (by omega)]
          obtain ⟨x', y', r, e, hp, hs, hd, ht⟩ := hPP.hG x1 y1 hxy a w h0a h0b
          unfold SameW at hs; unfold TouW PoM at ht; unfold RdW at hd
          have hrr : cmp .neq r r = false := by simp only [hF]; simp
          cbv
          repeat' first
            | ((rw [e0]); cbv)
            | ((rw [e1]); cbv)
            | ((rw [e2]); cbv)
            | ((rw [hA4]); cbv)
            | (refine call_at hP [3] code_soc_Soc_Read (hd) rfl ?_ ?_ ?_; (focus ((repeat' (first | exact trivial | exact rfl | (intro _ _ _ _; exact rfl) | refine And.intro ?_ ?_)); done)); (focus (cbv; (try simp); done)); rintro _ _ ⟨rfl, rfl⟩ _; cbv)
            | (refine call_at hP [4, 2] code_law14_do (ht) rfl ?_ ?_ ?_; (focus ((repeat' (first | exact trivial | exact rfl | (intro _ _ _ _; exact rfl) | refine And.intro ?_ ?_)); done)); (focus (cbv; (try simp); done)); rintro _ _ ⟨rfl, rfl⟩ _; cbv)
            | (refine call_at hP [2, 3] code_soc_Same (hs) rfl ?_ ?_ ?_; (focus ((repeat' (first | exact trivial | exact rfl | (intro _ _ _ _; exact rfl) | refine And.intro ?_ ?_)); done)); (focus (cbv; (try simp); done)); rintro _ _ ⟨rfl, rfl⟩ _; cbv)
            | ((rw [hb0]); cbv)
            | ((rw [hrr]); cbv)
            | (refine Chk.mk trivial ?_; cbv)
            | (refine bc_true (by first | assumption | (simp (disch := omega) only [hF, natc, w64_in, shs]; first | done | assumption | omega | (simp only [natc] at *; omega))) ?_; cbv)
            | (refine bc_false (by first | assumption | (simp (disch := omega) only [hF, natc, w64_in, shs]; first | done | assumption | omega | (simp only [natc] at *; omega))) ?_; cbv)
            | (refine bc_split (fun h => ?_) (fun h => ?_) <;> (try simp (disch := omega) only [hF, natc, w64_in, shs] at h) <;> cbv)
            | (refine IdxVC.mk (by simp (disch := omega) only [hF, natc, w64_in, shs]; first | done | omega | (simp only [natc] at *; omega)) (fun kx hk hk2 => ?_); simp (disch := omega) only [hF, natc, w64_in, shs] at hk; (try obtain rfl : kx = 0 := hk); (try obtain rfl : t = kx := hk.symm); cbv)
            | (refine Chk.mk (by simp (disch := omega) only [maxN, hF, natc, w64_in, shs]; first | done | assumption | omega | (simp only [natc] at *; omega)) ?_; cbv)
            | (intro (hmx : _ ≤ maxN); replace hmx : _ ≤ 17592186044416 := hmx; cbv)
            | (intro _; cbv)
          all_goals exact hNx _ (t + 1, x', y') ⟨hlt2, hp⟩ (by show M - (t + 1) < M - t; omega) (Ent.ren [0, 1, 2, 3, 4] rfl rfl ⟨⟨rfl, rfl, rfl, trivial⟩, ⟨rfl, rfl, trivial⟩, rfl, rfl, ⟨rfl, rfl, trivial⟩, trivial⟩ (by cbv; simp (disch := omega) [hF, natc, w64_in]))
        · obtain ⟨hs, ht⟩ := hPP.hN x1 y1 hxy 4 a w (fun h => by omega) (fun _ => hr) (by omega)
          unfold SameW at hs; unfold TouW PoM at ht
          have hrr : cmp .neq 0 0 = false := by simp only [hF]; rfl
          cbv
          repeat' first
            | ((rw [e0]); cbv)
            | ((rw [e1]); cbv)
            | ((rw [e2]); cbv)
            | (refine call_at hP [4, 2] code_law14_do (ht) rfl ?_ ?_ ?_; (focus ((repeat' (first | exact trivial | exact rfl | (intro _ _ _ _; exact rfl) | refine And.intro ?_ ?_)); done)); (focus (cbv; (try simp); done)); rintro _ _ ⟨rfl, rfl⟩ _; cbv)
            | (refine call_at hP [2, 3] code_soc_Same (hs) rfl ?_ ?_ ?_; (focus ((repeat' (first | exact trivial | exact rfl | (intro _ _ _ _; exact rfl) | refine And.intro ?_ ?_)); done)); (focus (cbv; (try simp); done)); rintro _ _ ⟨rfl, rfl⟩ _; cbv)
            | ((rw [hb0]); cbv)
            | ((rw [hrr]); cbv)
            | (refine Chk.mk trivial ?_; cbv)
            | (refine bc_true (by first | assumption | (simp (disch := omega) only [hF, natc, w64_in, shs]; first | done | assumption | omega | (simp only [natc] at *; omega))) ?_; cbv)
            | (refine bc_false (by first | assumption | (simp (disch := omega) only [hF, natc, w64_in, shs]; first | done | assumption | omega | (simp only [natc] at *; omega))) ?_; cbv)
            | (refine bc_split (fun h => ?_) (fun h => ?_) <;> (try simp (disch := omega) only [hF, natc, w64_in, shs] at h) <;> cbv)
            | (refine IdxVC.mk (by simp (disch := omega) only [hF, natc, w64_in, shs]; first | done | omega | (simp only [natc] at *; omega)) (fun kx hk hk2 => ?_); simp (disch := omega) only [hF, natc, w64_in, shs] at hk; (try obtain rfl : kx = 0 := hk); (try obtain rfl : t = kx := hk.symm); cbv)
            | (refine Chk.mk (by simp (disch := omega) only [maxN, hF, natc, w64_in, shs]; first | done | assumption | omega | (simp only [natc] at *; omega)) ?_; cbv)
            | (intro (hmx : _ ≤ maxN); replace hmx : _ ≤ 17592186044416 := hmx; cbv)
            | (intro _; cbv)
          all_goals exact hNx _ (t + 1, x1, y1) ⟨hlt2, hxy⟩ (by show M - (t + 1) < M - t; omega) (Ent.ren [0, 1, 2, 3, 4] rfl rfl ⟨⟨rfl, rfl, rfl, trivial⟩, ⟨rfl, rfl, trivial⟩, rfl, rfl, ⟨rfl, rfl, trivial⟩, trivial⟩ (by cbv; simp (disch := omega) [hF, natc, w64_in]))
      by_cases k5 : kk = 5
      · subst k5
        by_cases hr : 0 ≤ a ∧ a < c
        · obtain ⟨h0a, h0b⟩ := hr
          have hA5 : bin .add .i64 (bin .add .i64 65536 (bin .mul .i64 16 a)) 2 = 65536 + 16 * a + 2 := by simp only [hF]; rw [w64_in (n := 16 * a) (by omega), w64_in (n := 65536 + 16 * a) (by omega), w64_in (by omega)]
          obtain ⟨x', y', e, hp, hs, hd, ht⟩ := hPP.hK x1 y1 hxy a w h0a h0b
          unfold SameW at hs; unfold TouW PoM at ht; unfold WtW at hd
          have hrr : cmp .neq 0 0 = false := by simp only [hF]; rfl
          cbv
          repeat' first
            | ((rw [e0]); cbv)
            | ((rw [e1]); cbv)
            | ((rw [e2]); cbv)
            | ((rw [hA5]); cbv)
            | (refine call_at hP [3] code_soc_Soc_Write (hd) rfl ?_ ?_ ?_; (focus ((repeat' (first | exact trivial | exact rfl | (intro _ _ _ _; exact rfl) | refine And.intro ?_ ?_)); done)); (focus (cbv; (try simp); done)); rintro _ _ ⟨rfl, rfl⟩ _; cbv)
            | (refine call_at hP [4, 2] code_law14_do (ht) rfl ?_ ?_ ?_; (focus ((repeat' (first | exact trivial | exact rfl | (intro _ _ _ _; exact rfl) | refine And.intro ?_ ?_)); done)); (focus (cbv; (try simp); done)); rintro _ _ ⟨rfl, rfl⟩ _; cbv)
            | (refine call_at hP [2, 3] code_soc_Same (hs) rfl ?_ ?_ ?_; (focus ((repeat' (first | exact trivial | exact rfl | (intro _ _ _ _; exact rfl) | refine And.intro ?_ ?_)); done)); (focus (cbv; (try simp); done)); rintro _ _ ⟨rfl, rfl⟩ _; cbv)
            | ((rw [hb0]); cbv)
            | ((rw [hrr]); cbv)
            | (refine Chk.mk trivial ?_; cbv)
            | (refine bc_true (by first | assumption | (simp (disch := omega) only [hF, natc, w64_in, shs]; first | done | assumption | omega | (simp only [natc] at *; omega))) ?_; cbv)
            | (refine bc_false (by first | assumption | (simp (disch := omega) only [hF, natc, w64_in, shs]; first | done | assumption | omega | (simp only [natc] at *; omega))) ?_; cbv)
            | (refine bc_split (fun h => ?_) (fun h => ?_) <;> (try simp (disch := omega) only [hF, natc, w64_in, shs] at h) <;> cbv)
            | (refine IdxVC.mk (by simp (disch := omega) only [hF, natc, w64_in, shs]; first | done | omega | (simp only [natc] at *; omega)) (fun kx hk hk2 => ?_); simp (disch := omega) only [hF, natc, w64_in, shs] at hk; (try obtain rfl : kx = 0 := hk); (try obtain rfl : t = kx := hk.symm); cbv)
            | (refine Chk.mk (by simp (disch := omega) only [maxN, hF, natc, w64_in, shs]; first | done | assumption | omega | (simp only [natc] at *; omega)) ?_; cbv)
            | (intro (hmx : _ ≤ maxN); replace hmx : _ ≤ 17592186044416 := hmx; cbv)
            | (intro _; cbv)
          all_goals exact hNx _ (t + 1, x', y') ⟨hlt2, hp⟩ (by show M - (t + 1) < M - t; omega) (Ent.ren [0, 1, 2, 3, 4] rfl rfl ⟨⟨rfl, rfl, rfl, trivial⟩, ⟨rfl, rfl, trivial⟩, rfl, rfl, ⟨rfl, rfl, trivial⟩, trivial⟩ (by cbv; simp (disch := omega) [hF, natc, w64_in]))
        · obtain ⟨hs, ht⟩ := hPP.hN x1 y1 hxy 5 a w (fun h => by omega) (fun _ => hr) (by omega)
          unfold SameW at hs; unfold TouW PoM at ht
          have hrr : cmp .neq 0 0 = false := by simp only [hF]; rfl
          cbv
          repeat' first
            | ((rw [e0]); cbv)
            | ((rw [e1]); cbv)
            | ((rw [e2]); cbv)
            | (refine call_at hP [4, 2] code_law14_do (ht) rfl ?_ ?_ ?_; (focus ((repeat' (first | exact trivial | exact rfl | (intro _ _ _ _; exact rfl) | refine And.intro ?_ ?_)); done)); (focus (cbv; (try simp); done)); rintro _ _ ⟨rfl, rfl⟩ _; cbv)
            | (refine call_at hP [2, 3] code_soc_Same (hs) rfl ?_ ?_ ?_; (focus ((repeat' (first | exact trivial | exact rfl | (intro _ _ _ _; exact rfl) | refine And.intro ?_ ?_)); done)); (focus (cbv; (try simp); done)); rintro _ _ ⟨rfl, rfl⟩ _; cbv)
            | ((rw [hb0]); cbv)
            | ((rw [hrr]); cbv)
            | (refine Chk.mk trivial ?_; cbv)
            | (refine bc_true (by first | assumption | (simp (disch := omega) only [hF, natc, w64_in, shs]; first | done | assumption | omega | (simp only [natc] at *; omega))) ?_; cbv)
            | (refine bc_false (by first | assumption | (simp (disch := omega) only [hF, natc, w64_in, shs]; first | done | assumption | omega | (simp only [natc] at *; omega))) ?_; cbv)
            | (refine bc_split (fun h => ?_) (fun h => ?_) <;> (try simp (disch := omega) only [hF, natc, w64_in, shs] at h) <;> cbv)
            | (refine IdxVC.mk (by simp (disch := omega) only [hF, natc, w64_in, shs]; first | done | omega | (simp only [natc] at *; omega)) (fun kx hk hk2 => ?_); simp (disch := omega) only [hF, natc, w64_in, shs] at hk; (try obtain rfl : kx = 0 := hk); (try obtain rfl : t = kx := hk.symm); cbv)
            | (refine Chk.mk (by simp (disch := omega) only [maxN, hF, natc, w64_in, shs]; first | done | assumption | omega | (simp only [natc] at *; omega)) ?_; cbv)
            | (intro (hmx : _ ≤ maxN); replace hmx : _ ≤ 17592186044416 := hmx; cbv)
            | (intro _; cbv)
          all_goals exact hNx _ (t + 1, x1, y1) ⟨hlt2, hxy⟩ (by show M - (t + 1) < M - t; omega) (Ent.ren [0, 1, 2, 3, 4] rfl rfl ⟨⟨rfl, rfl, rfl, trivial⟩, ⟨rfl, rfl, trivial⟩, rfl, rfl, ⟨rfl, rfl, trivial⟩, trivial⟩ (by cbv; simp (disch := omega) [hF, natc, w64_in]))
      have q1 : cmp .eql kk 1 = false := by simp only [hF, decide_eq_false_iff_not]; exact k1
      have q2 : cmp .eql kk 2 = false := by simp only [hF, decide_eq_false_iff_not]; exact k2
      have q3 : cmp .eql kk 3 = false := by simp only [hF, decide_eq_false_iff_not]; exact k3
      have q4 : cmp .eql kk 4 = false := by simp only [hF, decide_eq_false_iff_not]; exact k4
      have q5 : cmp .eql kk 5 = false := by simp only [hF, decide_eq_false_iff_not]; exact k5
      obtain ⟨hs, ht⟩ := hPP.hN x1 y1 hxy kk a w (fun h => by omega) (fun h => by omega) k3
      unfold SameW at hs; unfold TouW PoM at ht
      have hrr : cmp .neq 0 0 = false := by simp only [hF]; rfl
      cbv
      repeat' first
        | ((rw [e0]); cbv)
        | ((rw [e1]); cbv)
        | ((rw [e2]); cbv)
        | ((rw [q1]); cbv)
        | ((rw [q2]); cbv)
        | ((rw [q3]); cbv)
        | ((rw [q4]); cbv)
        | ((rw [q5]); cbv)
        | (refine call_at hP [4, 2] code_law14_do (ht) rfl ?_ ?_ ?_; (focus ((repeat' (first | exact trivial | exact rfl | (intro _ _ _ _; exact rfl) | refine And.intro ?_ ?_)); done)); (focus (cbv; (try simp); done)); rintro _ _ ⟨rfl, rfl⟩ _; cbv)
        | (refine call_at hP [2, 3] code_soc_Same (hs) rfl ?_ ?_ ?_; (focus ((repeat' (first | exact trivial | exact rfl | (intro _ _ _ _; exact rfl) | refine And.intro ?_ ?_)); done)); (focus (cbv; (try simp); done)); rintro _ _ ⟨rfl, rfl⟩ _; cbv)
        | ((rw [hb0]); cbv)
        | ((rw [hrr]); cbv)
        | (refine Chk.mk trivial ?_; cbv)
        | (refine bc_true (by first | assumption | (simp (disch := omega) only [hF, natc, w64_in, shs]; first | done | assumption | omega | (simp only [natc] at *; omega))) ?_; cbv)
        | (refine bc_false (by first | assumption | (simp (disch := omega) only [hF, natc, w64_in, shs]; first | done | assumption | omega | (simp only [natc] at *; omega))) ?_; cbv)
        | (refine bc_split (fun h => ?_) (fun h => ?_) <;> (try simp (disch := omega) only [hF, natc, w64_in, shs] at h) <;> cbv)
        | (refine IdxVC.mk (by simp (disch := omega) only [hF, natc, w64_in, shs]; first | done | omega | (simp only [natc] at *; omega)) (fun kx hk hk2 => ?_); simp (disch := omega) only [hF, natc, w64_in, shs] at hk; (try obtain rfl : kx = 0 := hk); (try obtain rfl : t = kx := hk.symm); cbv)
        | (refine Chk.mk (by simp (disch := omega) only [maxN, hF, natc, w64_in, shs]; first | done | assumption | omega | (simp only [natc] at *; omega)) ?_; cbv)
        | (intro (hmx : _ ≤ maxN); replace hmx : _ ≤ 17592186044416 := hmx; cbv)
        | (intro _; cbv)
      all_goals exact hNx _ (t + 1, x1, y1) ⟨hlt2, hxy⟩ (by show M - (t + 1) < M - t; omega) (Ent.ren [0, 1, 2, 3, 4] rfl rfl ⟨⟨rfl, rfl, rfl, trivial⟩, ⟨rfl, rfl, trivial⟩, rfl, rfl, ⟨rfl, rfl, trivial⟩, trivial⟩ (by cbv; simp (disch := omega) [hF, natc, w64_in]))
    · obtain rfl : t = M := by omega
      cbv
      repeat' first
        | (refine call_pure hP code_law14_alive (hal) ?_ ?_; (focus (cbv; (try simp); done)); rintro _ rfl; cbv)
        | (refine Chk.mk trivial ?_; cbv)
        | (refine bc_true (by first | assumption | (simp (disch := omega) only [hF, natc, w64_in, shs]; first | done | assumption | omega | (simp only [natc] at *; omega))) ?_; cbv)
        | (refine bc_false (by first | assumption | (simp (disch := omega) only [hF, natc, w64_in, shs]; first | done | assumption | omega | (simp only [natc] at *; omega))) ?_; cbv)
        | (refine bc_split (fun h => ?_) (fun h => ?_) <;> (try simp (disch := omega) only [hF, natc, w64_in, shs] at h) <;> cbv)
        | (refine IdxVC.mk (by simp (disch := omega) only [hF, natc, w64_in, shs]; first | done | omega | (simp only [natc] at *; omega)) (fun kx hk hk2 => ?_); simp (disch := omega) only [hF, natc, w64_in, shs] at hk; (try obtain rfl : kx = 0 := hk); cbv)
        | (refine Chk.mk (by simp (disch := omega) only [maxN, hF, natc, w64_in, shs]; first | done | assumption | omega | (simp only [natc] at *; omega)) ?_; cbv)
        | (intro (hmx : _ ≤ maxN); replace hmx : _ ≤ 17592186044416 := hmx; cbv)
        | (intro _; cbv)
      subst hQ; exact leaf_data rfl rfl ⟨rfl, rfl⟩

end Go.Proofs.YtiaceoomiflgcaaGreat

end

section
namespace Go.Proofs.YtiaceoomiflgcaaGreat
open Go.V
set_option linter.unusedVariables false
set_option linter.unusedSimpArgs false
set_option maxRecDepth 100000
set_option maxHeartbeats 8000000

/-- A soc, and another that holds the same. -/
def Twin (c n : Int) (k : Nat) (x y : Ob) : Prop := ∃ (S : SocS) (Y : BoxS), S.ok ∧ XE S.X Y ∧ (S.c : Int) = c ∧ (S.n : Int) = n ∧ S.k = k ∧ x = socO S ∧ y = socO (S.wX Y)

theorem twin_of {S S' : SocS} {Y' : BoxS} {c n : Int} {k : Nat} (hN : Nxt S S') (hE : XE S'.X Y') (hc : (S.c : Int) = c) (hn : (S.n : Int) = n) (hk : S.k = k) : Twin c n k (socO S') (socO (S'.wX Y')) :=
  ⟨S', Y', hN.1, hE, by rw [hN.2.1]; exact hc, by rw [hN.2.2.1]; exact hn, hN.2.2.2.trans hk, rfl, rfl⟩

theorem plan_in (S : SocS) : PlanW (socO S) S.c S.n S.k := sPlan_w _ _ _ _ _ _ _

theorem spot_in (S : SocS) (id x y z A : Int) (b : Bool) (he : EncW S.c S.n S.k x y z A b) :
    CallOK (O := Ob) PR n_port_Core_spot [.ptr 0 0, .dv (.int .i64 x), .dv (.int .i64 y), .dv (.int .i64 z)] (PoM id (socO S)) fun v m => v = .tup [.dv (.int .i64 A), .dv (.bool b)] ∧ m = PoM id (socO S) :=
  pSpot _ _ _ id x y z A b _ (plan_in S) he

theorem portP (id c n : Int) (k : Nat) : PortP id c n (Twin c n k) where
  hA := by
    rintro x y ⟨S, Y, hS, E, hc, hn, hk, rfl, rfl⟩ a w h0 h1
    obtain ⟨v, e, S', Y', ⟨r, rfl⟩, hN, hE, d1, d2, _⟩ := read_pair S hS Y E id a (by have := hS.hn; omega)
    have he := encR S.c S.n S.k a (by have := hS.hc; omega) (by have := hS.hn; omega) (by have := hS.hk; omega)
    have hb : 0 ≤ a ∧ a < (S.n : Int) := by omega
    rw [if_pos hb, decide_eq_true hb] at he
    exact ⟨_, _, r, e, twin_of hN hE hc hn hk, sSame_in S' hN.1 Y' hE, d2, tou1 id a w r _ _ (pRead id 1 0 a a r e _ _ (spot_in S id 1 0 a a true he) d1)⟩
  hC := by
    rintro x y ⟨S, Y, hS, E, hc, hn, hk, rfl, rfl⟩ a w h0 h1
    obtain ⟨v, e, S', Y', rfl, hN, hE, d1, d2, _⟩ := write_pair S hS Y E id a w (by have := hS.hn; omega)
    have he := encR S.c S.n S.k a (by have := hS.hc; omega) (by have := hS.hn; omega) (by have := hS.hk; omega)
    have hb : 0 ≤ a ∧ a < (S.n : Int) := by omega
    rw [if_pos hb, decide_eq_true hb] at he
    exact ⟨_, _, e, twin_of hN hE hc hn hk, sSame_in S' hN.1 Y' hE, d2, tou2 id a w a e _ _ (spot_in S id 1 0 a a true he) d1⟩
  hE := by
    rintro x y ⟨S, Y, hS, E, hc, hn, hk, rfl, rfl⟩ a w
    obtain ⟨v, e, S', Y', ⟨r, rfl⟩, hN, hE, d1, d2, _⟩ := fence_pair S hS Y E id
    exact ⟨_, _, r, e, twin_of hN hE hc hn hk, sSame_in S' hN.1 Y' hE, d2, tou3 id a w r e _ _ d1⟩
  hG := by
    rintro x y ⟨S, Y, hS, E, hc, hn, hk, rfl, rfl⟩ a w h0 h1
    obtain ⟨v, e, S', Y', ⟨r, rfl⟩, hN, hE, d1, d2, _⟩ := read_pair S hS Y E id (66048 + a) (by have := hS.hc; omega)
    have he := encG S.c S.n S.k a (by have := hS.hc; omega) (by have := hS.hn; omega) (by have := hS.hk; omega)
    have hb : 0 ≤ a ∧ a < (S.c : Int) := by omega
    rw [if_pos hb, decide_eq_true hb] at he
    exact ⟨_, _, r, e, twin_of hN hE hc hn hk, sSame_in S' hN.1 Y' hE, d2, tou4 id a w r _ _ (pRead id 4 a 0 _ r e _ _ (spot_in S id 4 a 0 _ true he) d1)⟩
  hK := by
    rintro x y ⟨S, Y, hS, E, hc, hn, hk, rfl, rfl⟩ a w h0 h1
    obtain ⟨v, e, S', Y', rfl, hN, hE, d1, d2, _⟩ := write_pair S hS Y E id (65536 + 16 * a + 2) id (by have := hS.hc; omega)
    have he := encM S.c S.n S.k a (by have := hS.hc; omega) (by have := hS.hn; omega) (by have := hS.hk; omega)
    have hb : 0 ≤ a ∧ a < (S.c : Int) := by omega
    rw [if_pos hb, decide_eq_true hb] at he
    exact ⟨_, _, e, twin_of hN hE hc hn hk, sSame_in S' hN.1 Y' hE, d2, tou5 id a w _ e _ _ (spot_in S id 2 a 2 _ true he) d1⟩
  hN := by
    rintro x y ⟨S, Y, hS, E, hc, hn, hk, rfl, rfl⟩ kk a w h1 h2 h3
    refine ⟨sSame_in S hS Y E, ?_⟩
    have hcc : 1 ≤ (S.c : Int) ∧ (S.c : Int) ≤ 8 := by have := hS.hc; omega
    have hnn : 1 ≤ (S.n : Int) ∧ (S.n : Int) ≤ 65536 := by have := hS.hn; omega
    have hkk : 1 ≤ (S.k : Int) ∧ (S.k : Int) ≤ 16 := by have := hS.hk; omega
    by_cases k1 : kk = 1
    · subst k1
      have hb : ¬ (0 ≤ a ∧ a < (S.n : Int)) := by rw [hn]; exact h1 (.inl rfl)
      have he := encR S.c S.n S.k a hcc hnn hkk
      rw [if_neg hb, decide_eq_false hb] at he
      exact tou1 id a w 0 _ _ (pRead_no id 1 0 a 0 _ (spot_in S id 1 0 a 0 false he))
    by_cases k2 : kk = 2
    · subst k2
      have hb : ¬ (0 ≤ a ∧ a < (S.n : Int)) := by rw [hn]; exact h1 (.inr rfl)
      have he := encR S.c S.n S.k a hcc hnn hkk
      rw [if_neg hb, decide_eq_false hb] at he
      exact tou2_no id a w 0 _ (spot_in S id 1 0 a 0 false he)
    by_cases k4 : kk = 4
    · subst k4
      have hb : ¬ (0 ≤ a ∧ a < (S.c : Int)) := by rw [hc]; exact h2 (.inl rfl)
      have he := encG S.c S.n S.k a hcc hnn hkk
      rw [if_neg hb, decide_eq_false hb] at he
      exact tou4 id a w 0 _ _ (pRead_no id 4 a 0 0 _ (spot_in S id 4 a 0 0 false he))
    by_cases k5 : kk = 5
    · subst k5
      have hb : ¬ (0 ≤ a ∧ a < (S.c : Int)) := by rw [hc]; exact h2 (.inr rfl)
      have he := encM S.c S.n S.k a hcc hnn hkk
      rw [if_neg hb, decide_eq_false hb] at he
      exact tou5_no id a w 0 _ (spot_in S id 2 a 2 0 false he)
    exact tou0 id kk a w _ ⟨k1, k2, h3, k4, k5⟩

theorem ok_PortCore (c n k mo id : Int) (N M : Nat) (G T : Nat → Nat → DV) (hc : i64 c) (hn : i64 n) (hk : i64 k) (hG : okOps N G) (hT : okTou M T) :
    CallOK (O := Ob) PR n_law14_PortCore [plV c n k, .dv (.int .i64 mo), .dv (.seq N 4 G), .agg [.dv (.int .i64 id), .dv (.seq M 3 T)]] [] fun v m => v = .dv (.bool true) ∧ m = [] := by
  by_cases hv : (1 ≤ c ∧ c ≤ 8) ∧ (1 ≤ n ∧ n ≤ 65536) ∧ (1 ≤ k ∧ k ≤ 16) ∧ 1 ≤ mo ∧ mo ≤ 16
  · obtain ⟨h1, h2, h3, h4⟩ := hv
    obtain ⟨k, rfl⟩ : ∃ j : Nat, k = j := ⟨k.toNat, by omega⟩
    have h0 : CallOK (O := Ob) PR n_soc_New [plV c n k, .dv (.int .i64 mo)] [] fun v m => v = .tup [.ptr 0 0, .dv (.int .i64 0)] ∧ ∃ x, (∃ S : SocS, S.ok ∧ (S.c : Int) = c ∧ (S.n : Int) = n ∧ S.k = k ∧ x = socO S) ∧ m = [.obj x] :=
      (sNew_ok c n k mo h1 h2 h3 h4).mono fun v m ⟨hv, S, g1, g2, g3, g4, _, _, _, hm⟩ => ⟨hv, _, ⟨S, g1, g2, g3, by omega, rfl⟩, hm⟩
    by_cases hfew : n ≤ 100 ∧ N ≤ 40 ∧ M ≤ 40
    · refine port_w c n k mo id N M G T _ (Twin c n k) h1 hfew.1 hfew.2.1 hfew.2.2 alive14 h0 (fun t ht x hx => ok_ops c n k N G hG t ht x hx) ?_ hT (portP id c n k)
      rintro x ⟨S, hS, g1, g2, g3, rfl⟩
      exact ⟨_, ⟨S, cloneX S.X, hS, cloneX_e S.X hS.hX, g1, g2, g3, rfl, rfl⟩, sClone_in S hS⟩
    · exact port_few c n k mo id N M G T _ hfew alive14 h0
  · exact port_no c n k mo id N M G T alive14 (sNew_no c n k mo ⟨hc, hn, hk⟩ hv)

theorem ops_of {g : Nat → DV} (h : Ty.hasL [.slice [.int .i64, .int .i64, .int .i64, .int .i64]] g) : ∃ N G, okOps N G ∧ g 0 = .seq N 4 G := by
  obtain ⟨⟨N, G, e0, _, hG⟩, _⟩ := h
  refine ⟨N, G, fun t ht => ?_, e0⟩
  obtain ⟨⟨a0, _, h0⟩, ⟨a1, _, h1⟩, ⟨a2, r2, h2⟩, ⟨a3, _, h3⟩, _⟩ := hG t ht
  exact ⟨a0, a1, a2, a3, (in64' r2).2, h0, h1, h2, h3⟩

theorem tou_of {g : Nat → DV} (h : Ty.hasL [.int .i64, .slice [.int .i64, .int .i64, .int .i64]] g) : ∃ id M T, okTou M T ∧ (SV.agg [.dv (g 0), .dv (g 1)]) = .agg [.dv (.int .i64 id), .dv (.seq M 3 T)] := by
  obtain ⟨⟨id, _, e1⟩, ⟨M, T, e0, _, hG⟩, _⟩ := h
  have e1 : g 0 = _ := e1
  have e0 : g 1 = .seq M 3 T := e0
  refine ⟨id, M, T, fun t ht => ?_, by rw [e0, e1]⟩
  obtain ⟨⟨a0, _, h0⟩, ⟨a1, r1, h1⟩, ⟨a2, _, h2⟩, _⟩ := hG t ht
  exact ⟨a0, a1, a2, (in64' r1).1, (in64' r1).2, h0, h1, h2⟩

theorem hasArgs_four {x y z u : Bool × List Ty} : ∀ {gs : List (Nat → DV)}, hasArgs [x, y, z, u] gs → ∃ g h k l, gs = [g, h, k, l] ∧ Ty.hasL x.2 g ∧ Ty.hasL y.2 h ∧ Ty.hasL z.2 k ∧ Ty.hasL u.2 l
  | [g, h, k, l], hh => ⟨g, h, k, l, rfl, hh.1, hh.2.1, hh.2.2.1, hh.2.2.2.1⟩
  | [], hh => hh.elim
  | [_], hh => hh.2.elim
  | [_, _], hh => hh.2.2.elim
  | [_, _, _], hh => hh.2.2.2.elim
  | _ :: _ :: _ :: _ :: _ :: _, hh => hh.2.2.2.2.elim

end Go.Proofs.YtiaceoomiflgcaaGreat

end
