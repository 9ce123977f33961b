/-
  SocLocked, joined.
-/
import Derived.Test.YtiaceoomiflgcaaGreatSdU
section
namespace Go.Proofs.YtiaceoomiflgcaaGreat
open Go.V
set_option linter.unusedVariables false
set_option linter.unusedSimpArgs false
set_option maxRecDepth 100000
set_option maxHeartbeats 8000000

theorem locked_no (c n k mo i y : Int) (N : Nat) (G : Nat → Nat → DV) (hal : CallOK (O := Ob) PR n_law12_alive [] [] fun v m => v = .dv (.bool true) ∧ m = [])
    (h0 : CallOK (O := Ob) PR n_soc_New [plV c n k, .dv (.int .i64 mo)] [] fun v m => v = .tup [.dv .nilp, .dv (.int .i64 2)] ∧ m = []) :
    CallOK (O := Ob) PR n_law12_SocLocked [plV c n k, .dv (.int .i64 mo), xV N G i y] [] fun v m => v = .dv (.bool true) ∧ m = [] := by
  unfold plV at *; unfold xV
  refine fn_walkv mixed fn_law12_SocLocked (Ent.refl _ _) fun bin cmp un conv bnot beq band sel isel ofN toN inb nz nneg lt le room' slb add sub sbin scmp slen sget ssub addk pc pb pi pf ps mkok min_ ig aeq P hP hA hF Q hQ => ?_
  cbv
  repeat' first
    | (refine call_pure hP code_soc_New (h0) ?_ ?_; (focus (cbv; (try simp); done)); rintro _ rfl; cbv)
    | (refine call_pure hP code_law12_alive (hal) ?_ ?_; (focus (cbv; (try simp); done)); rintro _ rfl; cbv)
    | (refine Chk.mk trivial ?_; cbv)
    | (refine bc_true (by first | assumption | (simp (disch := omega) only [hF, natc, w64_in, shs]; first | done | assumption | omega | (simp only [natc] at *; omega))) ?_; cbv)
    | (refine bc_false (by first | assumption | (simp (disch := omega) only [hF, natc, w64_in, shs]; first | done | assumption | omega | (simp only [natc] at *; omega))) ?_; cbv)
    | (refine bc_split (fun h => ?_) (fun h => ?_) <;> (try simp (disch := omega) only [hF, natc, w64_in, shs] at h) <;> cbv)
    | (refine IdxVC.mk (by simp (disch := omega) only [hF, natc, w64_in, shs]; first | done | omega | (simp only [natc] at *; omega)) (fun kx hk hk2 => ?_); simp (disch := omega) only [hF, natc, w64_in, shs] at hk; (try obtain rfl : kx = 0 := hk); cbv)
    | (refine Chk.mk (by simp (disch := omega) only [maxN, hF, natc, w64_in, shs]; first | done | assumption | omega | (simp only [natc] at *; omega)) ?_; cbv)
    | (intro (hmx : _ ≤ maxN); replace hmx : _ ≤ 17592186044416 := hmx; cbv)
    | (intro _; cbv)
  subst hQ; exact leaf_data rfl rfl ⟨rfl, rfl⟩

theorem locked_few (c n k mo i y : Int) (N : Nat) (G : Nat → Nat → DV) (PO : Ob → Prop) (hal : CallOK (O := Ob) PR n_law12_alive [] [] fun v m => v = .dv (.bool true) ∧ m = [])
    (h0 : CallOK (O := Ob) PR n_soc_New [plV c n k, .dv (.int .i64 mo)] [] fun v m => v = .tup [.ptr 0 0, .dv (.int .i64 0)] ∧ ∃ x, PO x ∧ m = [.obj x])
    (hf : CallOK (O := Ob) PR n_law12_few [plV c n k, .dv (.seq N 4 G)] [] fun v m => v = .dv (.bool false) ∧ m = []) :
    CallOK (O := Ob) PR n_law12_SocLocked [plV c n k, .dv (.int .i64 mo), xV N G i y] [] fun v m => v = .dv (.bool true) ∧ m = [] := by
  unfold plV at *; unfold xV
  refine fn_walkv mixed fn_law12_SocLocked (Ent.refl _ _) fun bin cmp un conv bnot beq band sel isel ofN toN inb nz nneg lt le room' slb add sub sbin scmp slen sget ssub addk pc pb pi pf ps mkok min_ ig aeq P hP hA hF Q hQ => ?_
  have hb : bnot false = true := by simp only [hF]; rfl
  cbv
  repeat' first
    | (refine call_at hP [] code_soc_New (h0) rfl ?_ ?_ ?_; (focus ((repeat' (first | exact trivial | exact rfl | (intro _ _ _ _; exact rfl) | refine And.intro ?_ ?_)); done)); (focus (cbv; (try simp); done)); rintro _ _ ⟨rfl, x, hx, rfl⟩ _; cbv)
    | (refine call_pure hP code_law12_few (hf) ?_ ?_; (focus (cbv; (try simp); done)); rintro _ rfl; cbv)
    | ((rw [hb]); cbv)
    | (refine call_pure hP code_law12_alive (hal) ?_ ?_; (focus (cbv; (try simp); done)); rintro _ rfl; cbv)
    | (refine Chk.mk trivial ?_; cbv)
    | (refine bc_true (by first | assumption | (simp (disch := omega) only [hF, natc, w64_in, shs]; first | done | assumption | omega | (simp only [natc] at *; omega))) ?_; cbv)
    | (refine bc_false (by first | assumption | (simp (disch := omega) only [hF, natc, w64_in, shs]; first | done | assumption | omega | (simp only [natc] at *; omega))) ?_; cbv)
    | (refine bc_split (fun h => ?_) (fun h => ?_) <;> (try simp (disch := omega) only [hF, natc, w64_in, shs] at h) <;> cbv)
    | (refine IdxVC.mk (by simp (disch := omega) only [hF, natc, w64_in, shs]; first | done | omega | (simp only [natc] at *; omega)) (fun kx hk hk2 => ?_); simp (disch := omega) only [hF, natc, w64_in, shs] at hk; (try obtain rfl : kx = 0 := hk); cbv)
    | (refine Chk.mk (by simp (disch := omega) only [maxN, hF, natc, w64_in, shs]; first | done | assumption | omega | (simp only [natc] at *; omega)) ?_; cbv)
    | (intro (hmx : _ ≤ maxN); replace hmx : _ ≤ 17592186044416 := hmx; cbv)
    | (intro _; cbv)
  subst hQ; exact leaf_data rfl rfl ⟨rfl, rfl⟩

/-- Writes, a memory's words, a lock's owner, what waits. -/
def WrO (i a w : Int) (x : Ob) (e : Int) (x' : Ob) : Prop := CallOK (O := Ob) PR n_soc_Soc_Write [.ptr 0 0, .dv (.int .i64 i), .dv (.int .i64 a), .dv (.int .i64 w)] [.obj x] (fun v m => v = .dv (.int .i64 e) ∧ m = [.obj x'])
def RdO (i a : Int) (x : Ob) (u e : Int) (x' : Ob) : Prop := CallOK (O := Ob) PR n_soc_Soc_Read [.ptr 0 0, .dv (.int .i64 i), .dv (.int .i64 a)] [.obj x] (fun v m => v = .tup [.dv (.int .i64 u), .dv (.int .i64 e)] ∧ m = [.obj x'])
def RamO (x R : Ob) : Prop := CallOK (O := Ob) PR n_soc_Soc_Ram [.ptr 0 0] [.obj x] (fun v m => v = .ptr 1 0 ∧ m = [.obj x, .obj R])
def WdO (R : Ob) (N : Nat) (r : Nat → Int) : Prop := CallOK (O := Ob) PR n_law03_Words [.ptr 0 0] [.obj R] (fun v m => v = .vec 1 ∧ m = [.obj R, .vec N 1 fun i _ => .dv (.int .i64 (r i))])
def OwO (y : Int) (x : Ob) (who : Int) : Prop := CallOK (O := Ob) PR n_soc_Soc_Owner [.ptr 0 0, .dv (.int .i64 y)] [.obj x] (fun v m => v = .tup [.dv (.int .i64 who), .dv (.int .i64 0)] ∧ m = [.obj x])
def WtO (i : Int) (x : Ob) (g : Nat → DV) : Prop := CallOK (O := Ob) PR n_soc_Soc_Waits [.ptr 0 0, .dv (.int .i64 i)] [.obj x] (fun v m => v = .vec 1 ∧ m = [.obj x, .vec 0 1 fun i _ => .dv (g i)])

/-- What a soc that was played with answers at the end. -/
def LockP (i y : Int) (PO : Ob → Prop) : Prop := ∀ x, PO x →
  (∃ e, e ≠ 0 ∧ WrO i 0 7 x e x ∧ RdO i (65792 + y) x 0 e x) ∨
  ∃ (x1 x2 R : Ob) (b : Bool) (N : Nat) (r : Nat → Int) (who : Int) (g : Nat → DV), WrO i 0 7 x 0 x1 ∧ RdO i (65792 + y) x1 (if b = true then 1 else 0) 0 x2 ∧ RamO x2 R ∧ WdO R N r ∧ 0 < N ∧ N ≤ 65536 ∧ r 0 = 7 ∧ OwO y x2 who ∧ WtO i x2 g ∧
    (b = false → 0 ≤ who) ∧ (b = true → who = i ∧ ∃ (x3 x4 R' : Ob) (r' : Nat → Int) (g' : Nat → DV), WrO i 0 8 x2 0 x3 ∧ WrO i (65792 + y) 0 x3 0 x4 ∧ RamO x4 R' ∧ WdO R' N r' ∧ r' 0 = 8 ∧ OwO y x4 (-1) ∧ WtO i x4 g')

theorem locked_out (c n k mo i y : Int) (N : Nat) (hN60 : N ≤ 60) (G : Nat → Nat → DV) (PO : Ob → Prop) (hy : y < 0 ∨ k ≤ y) (hal : CallOK (O := Ob) PR n_law12_alive [] [] fun v m => v = .dv (.bool true) ∧ m = [])
    (h0 : CallOK (O := Ob) PR n_soc_New [plV c n k, .dv (.int .i64 mo)] [] fun v m => v = .tup [.ptr 0 0, .dv (.int .i64 0)] ∧ ∃ x, PO x ∧ m = [.obj x])
    (hf : CallOK (O := Ob) PR n_law12_few [plV c n k, .dv (.seq N 4 G)] [] fun v m => v = .dv (.bool true) ∧ m = [])
    (hdo : ∀ t, t < N → ∀ x, PO x → CallOK (O := Ob) PR n_law12_Do [.ptr 0 0, .agg [.dv (G t 0), .dv (G t 1), .dv (G t 2), .dv (G t 3)]] [.obj x] fun v m => Two v ∧ ∃ x, PO x ∧ m = [.obj x]) :
    CallOK (O := Ob) PR n_law12_SocLocked [plV c n k, .dv (.int .i64 mo), xV N G i y] [] fun v m => v = .dv (.bool true) ∧ m = [] := by
  unfold plV at *; unfold xV; unfold Two at hdo
  rcases (by omega : y < 0 ∨ (0 ≤ y ∧ k ≤ y)) with hy | ⟨hy, hy2⟩
  all_goals
    refine fn_walkv mixed fn_law12_SocLocked (Ent.refl _ _) fun bin cmp un conv bnot beq band sel isel ofN toN inb nz nneg lt le room' slb add sub sbin scmp slen sget ssub addk pc pb pi pf ps mkok min_ ig aeq P hP hA hF Q hQ => ?_
    have hb : bnot true = false := by simp only [hF]; rfl
    cbv
    repeat' first
      | (refine call_at hP [] code_soc_New (h0) rfl ?_ ?_ ?_; (focus ((repeat' (first | exact trivial | exact rfl | (intro _ _ _ _; exact rfl) | refine And.intro ?_ ?_)); done)); (focus (cbv; (try simp); done)); rintro _ _ ⟨rfl, x, hx, rfl⟩ _; cbv)
      | (refine call_pure hP code_law12_few (hf) ?_ ?_; (focus (cbv; (try simp); done)); rintro _ rfl; cbv)
      | ((rw [hb]); cbv)
      | (refine Chk.mk trivial ?_; cbv)
      | (refine bc_true (by first | assumption | (simp (disch := omega) only [hF, natc, w64_in, shs]; first | done | assumption | omega | (simp only [natc] at *; omega))) ?_; cbv)
      | (refine bc_false (by first | assumption | (simp (disch := omega) only [hF, natc, w64_in, shs]; first | done | assumption | omega | (simp only [natc] at *; omega))) ?_; cbv)
      | (refine bc_split (fun h => ?_) (fun h => ?_) <;> (try simp (disch := omega) only [hF, natc, w64_in, shs] at h) <;> cbv)
      | (refine IdxVC.mk (by simp (disch := omega) only [hF, natc, w64_in, shs]; first | done | omega | (simp only [natc] at *; omega)) (fun kx hk hk2 => ?_); simp (disch := omega) only [hF, natc, w64_in, shs] at hk; (try obtain rfl : kx = 0 := hk); cbv)
      | (refine Chk.mk (by simp (disch := omega) only [maxN, hF, natc, w64_in, shs]; first | done | assumption | omega | (simp only [natc] at *; omega)) ?_; cbv)
      | (intro (hmx : _ ≤ maxN); replace hmx : _ ≤ 17592186044416 := hmx; cbv)
      | (intro _; cbv)
    refine loop_ix mixed hP hA (ι := Nat × Ob) (fun q => N - q.1) (fun q => q.1 ≤ N ∧ PO q.2) [10, 42, 43, 44, 45, 46, 47, 48, 49] (fun q => [(42, .dv (.int .i64 (ofN q.1)))])
      (fun q => [.blk [.one (.dv (.int .i64 c)), .one (.dv (.int .i64 n)), .one (.dv (.int .i64 k))], .blk [.one (.dv (.seq N 4 G)), .one (.dv (.int .i64 i)), .one (.dv (.int .i64 y))], .obj q.2]) (0, x) ⟨Nat.zero_le _, hx⟩ (Ent.env (by cbv; simp [hF])) fun Nx q hNx hy => ?_
    obtain ⟨q, z⟩ := q
    simp only at hy hNx
    cbv
    obtain ⟨hyN, hz⟩ := hy
    by_cases hlt : q < N
    · have hd := hdo q hlt z hz
      cbv
      repeat' first
        | (refine call_at hP [2] code_law12_Do (hd) rfl ?_ ?_ ?_; (focus ((repeat' (first | exact trivial | exact rfl | (intro _ _ _ _; exact rfl) | refine And.intro ?_ ?_)); done)); (focus (cbv; (try simp); done)); rintro _ _ ⟨⟨u, e, rfl⟩, z', hz', rfl⟩ _; cbv)
        | (refine Chk.mk trivial ?_; cbv)
        | (refine bc_true (by first | assumption | (simp (disch := omega) only [hF, natc, w64_in, shs]; first | done | assumption | omega | (simp only [natc] at *; omega))) ?_; cbv)
        | (refine bc_false (by first | assumption | (simp (disch := omega) only [hF, natc, w64_in, shs]; first | done | assumption | omega | (simp only [natc] at *; omega))) ?_; cbv)
        | (refine bc_split (fun h => ?_) (fun h => ?_) <;> (try simp (disch := omega) only [hF, natc, w64_in, shs] at h) <;> cbv)
        | (refine IdxVC.mk (by simp (disch := omega) only [hF, natc, w64_in, shs]; first | done | omega | (simp only [natc] at *; omega)) (fun kx hk hk2 => ?_); simp (disch := omega) only [hF, natc, w64_in, shs] at hk; (try obtain rfl : kx = 0 := hk); (try obtain rfl : q = kx := hk.symm); cbv)
        | (refine Chk.mk (by simp (disch := omega) only [maxN, hF, natc, w64_in, shs]; first | done | assumption | omega | (simp only [natc] at *; omega)) ?_; cbv)
        | (intro (hmx : _ ≤ maxN); replace hmx : _ ≤ 17592186044416 := hmx; cbv)
        | (intro _; cbv)
      refine hNx _ (q + 1, z') ⟨hlt, hz'⟩ (by show N - (q + 1) < N - q; omega) (Ent.ren [0, 1, 2] rfl rfl ⟨⟨rfl, rfl, rfl, trivial⟩, ⟨rfl, rfl, rfl, trivial⟩, rfl, trivial⟩ (by cbv; simp (disch := omega) [hF, natc, w64_in]))
    · obtain rfl : q = N := by omega
      cbv
      repeat' first
        | (refine call_pure hP code_law12_alive (hal) ?_ ?_; (focus (cbv; (try simp); done)); rintro _ rfl; cbv)
        | (refine Chk.mk trivial ?_; cbv)
        | (refine bc_true (by first | assumption | (simp (disch := omega) only [hF, natc, w64_in, shs]; first | done | assumption | omega | (simp only [natc] at *; omega))) ?_; cbv)
        | (refine bc_false (by first | assumption | (simp (disch := omega) only [hF, natc, w64_in, shs]; first | done | assumption | omega | (simp only [natc] at *; omega))) ?_; cbv)
        | (refine bc_split (fun h => ?_) (fun h => ?_) <;> (try simp (disch := omega) only [hF, natc, w64_in, shs] at h) <;> cbv)
        | (refine IdxVC.mk (by simp (disch := omega) only [hF, natc, w64_in, shs]; first | done | omega | (simp only [natc] at *; omega)) (fun kx hk hk2 => ?_); simp (disch := omega) only [hF, natc, w64_in, shs] at hk; (try obtain rfl : kx = 0 := hk); cbv)
        | (refine Chk.mk (by simp (disch := omega) only [maxN, hF, natc, w64_in, shs]; first | done | assumption | omega | (simp only [natc] at *; omega)) ?_; cbv)
        | (intro (hmx : _ ≤ maxN); replace hmx : _ ≤ 17592186044416 := hmx; cbv)
        | (intro _; cbv)
      subst hQ; exact leaf_data rfl rfl ⟨rfl, rfl⟩

theorem locked_w (c n k mo i y : Int) (N : Nat) (hN60 : N ≤ 60) (G : Nat → Nat → DV) (PO : Ob → Prop) (hy : 0 ≤ y ∧ y < k) (hk : k ≤ 16) (hal : CallOK (O := Ob) PR n_law12_alive [] [] fun v m => v = .dv (.bool true) ∧ m = [])
    (h0 : CallOK (O := Ob) PR n_soc_New [plV c n k, .dv (.int .i64 mo)] [] fun v m => v = .tup [.ptr 0 0, .dv (.int .i64 0)] ∧ ∃ x, PO x ∧ m = [.obj x])
    (hf : CallOK (O := Ob) PR n_law12_few [plV c n k, .dv (.seq N 4 G)] [] fun v m => v = .dv (.bool true) ∧ m = [])
    (hdo : ∀ t, t < N → ∀ x, PO x → CallOK (O := Ob) PR n_law12_Do [.ptr 0 0, .agg [.dv (G t 0), .dv (G t 1), .dv (G t 2), .dv (G t 3)]] [.obj x] fun v m => Two v ∧ ∃ x, PO x ∧ m = [.obj x]) (hL : LockP i y PO) :
    CallOK (O := Ob) PR n_law12_SocLocked [plV c n k, .dv (.int .i64 mo), xV N G i y] [] fun v m => v = .dv (.bool true) ∧ m = [] := by
  unfold plV at *; unfold xV; unfold Two at hdo
  obtain ⟨hy0, hy1⟩ := hy
  unfold LockP WrO RdO RamO WdO OwO WtO at hL
  refine fn_walkv mixed fn_law12_SocLocked (Ent.refl _ _) fun bin cmp un conv bnot beq band sel isel ofN toN inb nz nneg lt le room' slb add sub sbin scmp slen sget ssub addk pc pb pi pf ps mkok min_ ig aeq P hP hA hF Q hQ => ?_
  have hb : bnot true = false := by simp only [hF]; rfl
  cbv
  repeat' first
    | (refine call_at hP [] code_soc_New (h0) rfl ?_ ?_ ?_; (focus ((repeat' (first | exact trivial | exact rfl | (intro _ _ _ _; exact rfl) | refine And.intro ?_ ?_)); done)); (focus (cbv; (try simp); done)); rintro _ _ ⟨rfl, x, hx, rfl⟩ _; cbv)
    | (refine call_pure hP code_law12_few (hf) ?_ ?_; (focus (cbv; (try simp); done)); rintro _ rfl; cbv)
    | ((rw [hb]); cbv)
    | (refine Chk.mk trivial ?_; cbv)
    | (refine bc_true (by first | assumption | (simp (disch := omega) only [hF, natc, w64_in, shs]; first | done | assumption | omega | (simp only [natc] at *; omega))) ?_; cbv)
    | (refine bc_false (by first | assumption | (simp (disch := omega) only [hF, natc, w64_in, shs]; first | done | assumption | omega | (simp only [natc] at *; omega))) ?_; cbv)
    | (refine bc_split (fun h => ?_) (fun h => ?_) <;> (try simp (disch := omega) only [hF, natc, w64_in, shs] at h) <;> cbv)
    | (refine IdxVC.mk (by simp (disch := omega) only [hF, natc, w64_in, shs]; first | done | omega | (simp only [natc] at *; omega)) (fun kx hk hk2 => ?_); simp (disch := omega) only [hF, natc, w64_in, shs] at hk; (try obtain rfl : kx = 0 := hk); cbv)
    | (refine Chk.mk (by simp (disch := omega) only [maxN, hF, natc, w64_in, shs]; first | done | assumption | omega | (simp only [natc] at *; omega)) ?_; cbv)
    | (intro (hmx : _ ≤ maxN); replace hmx : _ ≤ 17592186044416 := hmx; cbv)
    | (intro _; cbv)
  refine loop_ix mixed hP hA (ι := Nat × Ob) (fun q => N - q.1) (fun q => q.1 ≤ N ∧ PO q.2) [10, 42, 43, 44, 45, 46, 47, 48, 49] (fun q => [(42, .dv (.int .i64 (ofN q.1)))])
    (fun q => [.blk [.one (.dv (.int .i64 c)), .one (.dv (.int .i64 n)), .one (.dv (.int .i64 k))], .blk [.one (.dv (.seq N 4 G)), .one (.dv (.int .i64 i)), .one (.dv (.int .i64 y))], .obj q.2]) (0, x) ⟨Nat.zero_le _, hx⟩ (Ent.env (by cbv; simp [hF])) fun Nx q hNx hy => ?_
  obtain ⟨q, z⟩ := q
  simp only at hy hNx
  cbv
  obtain ⟨hyN, hz⟩ := hy
  by_cases hlt : q < N
  · have hd := hdo q hlt z hz
    cbv
    repeat' first
      | (refine call_at hP [2] code_law12_Do (hd) rfl ?_ ?_ ?_; (focus ((repeat' (first | exact trivial | exact rfl | (intro _ _ _ _; exact rfl) | refine And.intro ?_ ?_)); done)); (focus (cbv; (try simp); done)); rintro _ _ ⟨⟨u, e, rfl⟩, z', hz', rfl⟩ _; cbv)
      | (refine Chk.mk trivial ?_; cbv)
      | (refine bc_true (by first | assumption | (simp (disch := omega) only [hF, natc, w64_in, shs]; first | done | assumption | omega | (simp only [natc] at *; omega))) ?_; cbv)
      | (refine bc_false (by first | assumption | (simp (disch := omega) only [hF, natc, w64_in, shs]; first | done | assumption | omega | (simp only [natc] at *; omega))) ?_; cbv)
      | (refine bc_split (fun h => ?_) (fun h => ?_) <;> (try simp (disch := omega) only [hF, natc, w64_in, shs] at h) <;> cbv)
      | (refine IdxVC.mk (by simp (disch := omega) only [hF, natc, w64_in, shs]; first | done | omega | (simp only [natc] at *; omega)) (fun kx hk hk2 => ?_); simp (disch := omega) only [hF, natc, w64_in, shs] at hk; (try obtain rfl : kx = 0 := hk); (try obtain rfl : q = kx := hk.symm); cbv)
      | (refine Chk.mk (by simp (disch := omega) only [maxN, hF, natc, w64_in, shs]; first | done | assumption | omega | (simp only [natc] at *; omega)) ?_; cbv)
      | (intro (hmx : _ ≤ maxN); replace hmx : _ ≤ 17592186044416 := hmx; cbv)
      | (intro _; cbv)
    refine hNx _ (q + 1, z') ⟨hlt, hz'⟩ (by show N - (q + 1) < N - q; omega) (Ent.ren [0, 1, 2] rfl rfl ⟨⟨rfl, rfl, rfl, trivial⟩, ⟨rfl, rfl, rfl, trivial⟩, rfl, trivial⟩ (by cbv; simp (disch := omega) [hF, natc, w64_in]))
  · obtain rfl : q = N := by omega
    have ha : bin .add .i64 65792 y = 65792 + y := by simp only [hF]; rw [w64_in (by omega)]
    rcases hL z hz with ⟨e, he, k1, k2⟩ | ⟨x1, x2, R, b, M, r, who, g, k1, k2, k3, k4, hM, hM2, h7, k5, k6, h8, h9⟩
    · have hg : cmp .neq e 0 = true := by simp only [hF, decide_eq_true_eq]; exact he
      have hg2 : cmp .eql e e = true := by simp only [hF]; simp
      cbv
      repeat' first
        | (refine call_at hP [2] code_soc_Soc_Write (k1) rfl ?_ ?_ ?_; (focus ((repeat' (first | exact trivial | exact rfl | (intro _ _ _ _; exact rfl) | refine And.intro ?_ ?_)); done)); (focus (cbv; (try simp); done)); rintro _ _ ⟨rfl, rfl⟩ _; cbv)
        | ((rw [ha]); cbv)
        | (refine call_at hP [2] code_soc_Soc_Read (k2) rfl ?_ ?_ ?_; (focus ((repeat' (first | exact trivial | exact rfl | (intro _ _ _ _; exact rfl) | refine And.intro ?_ ?_)); done)); (focus (cbv; (try simp); done)); rintro _ _ ⟨rfl, rfl⟩ _; cbv)
        | ((rw [hg]); cbv)
        | ((rw [hg2]); cbv)
        | (refine call_pure hP code_law12_alive (hal) ?_ ?_; (focus (cbv; (try simp); done)); rintro _ rfl; cbv)
        | (refine Chk.mk trivial ?_; cbv)
        | (refine bc_true (by first | assumption | (simp (disch := omega) only [hF, natc, w64_in, shs]; first | done | assumption | omega | (simp only [natc] at *; omega))) ?_; cbv)
        | (refine bc_false (by first | assumption | (simp (disch := omega) only [hF, natc, w64_in, shs]; first | done | assumption | omega | (simp only [natc] at *; omega))) ?_; cbv)
        | (refine bc_split (fun h => ?_) (fun h => ?_) <;> (try simp (disch := omega) only [hF, natc, w64_in, shs] at h) <;> cbv)
        | (refine IdxVC.mk (by simp (disch := omega) only [hF, natc, w64_in, shs]; first | done | omega | (simp only [natc] at *; omega)) (fun kx hk hk2 => ?_); simp (disch := omega) only [hF, natc, w64_in, shs] at hk; (try obtain rfl : kx = 0 := hk); cbv)
        | (refine Chk.mk (by simp (disch := omega) only [maxN, hF, natc, w64_in, shs]; first | done | assumption | omega | (simp only [natc] at *; omega)) ?_; cbv)
        | (intro (hmx : _ ≤ maxN); replace hmx : _ ≤ 17592186044416 := hmx; cbv)
        | (intro _; cbv)
      subst hQ; exact leaf_data rfl rfl ⟨rfl, rfl⟩
    · have hg7 : cmp .neq (r 0) 7 = false := by simp only [hF, h7]; rfl
      cases b
      · have hw := h8 rfl
        have hgw : cmp .geq who 0 = true := by simp only [hF, decide_eq_true_eq]; exact hw
        clear h9
        simp only [Bool.false_eq_true, if_false] at k2
        cbv
        repeat' first
          | (refine call_at hP [2] code_soc_Soc_Write (k1) rfl ?_ ?_ ?_; (focus ((repeat' (first | exact trivial | exact rfl | (intro _ _ _ _; exact rfl) | refine And.intro ?_ ?_)); done)); (focus (cbv; (try simp); done)); rintro _ _ ⟨rfl, rfl⟩ _; cbv)
          | ((rw [ha]); cbv)
          | (refine call_at hP [2] code_soc_Soc_Read (k2) rfl ?_ ?_ ?_; (focus ((repeat' (first | exact trivial | exact rfl | (intro _ _ _ _; exact rfl) | refine And.intro ?_ ?_)); done)); (focus (cbv; (try simp); done)); rintro _ _ ⟨rfl, rfl⟩ _; cbv)
          | (refine call_at hP [2] code_soc_Soc_Ram (k3) rfl ?_ ?_ ?_; (focus ((repeat' (first | exact trivial | exact rfl | (intro _ _ _ _; exact rfl) | refine And.intro ?_ ?_)); done)); (focus (cbv; (try simp); done)); rintro _ _ ⟨rfl, rfl⟩ _; cbv)
          | (refine call_at hP [3] code_law03_Words (k4) rfl ?_ ?_ ?_; (focus ((repeat' (first | exact trivial | exact rfl | (intro _ _ _ _; exact rfl) | refine And.intro ?_ ?_)); done)); (focus (cbv; (try simp); done)); rintro _ _ ⟨rfl, rfl⟩ _; cbv)
          | (refine call_at hP [2] code_soc_Soc_Owner (k5) rfl ?_ ?_ ?_; (focus ((repeat' (first | exact trivial | exact rfl | (intro _ _ _ _; exact rfl) | refine And.intro ?_ ?_)); done)); (focus (cbv; (try simp); done)); rintro _ _ ⟨rfl, rfl⟩ _; cbv)
          | ((rw [hg7]); cbv)
          | ((rw [hgw]); cbv)
          | (refine call_at hP [2] code_soc_Soc_Waits (k6) rfl ?_ ?_ ?_; (focus ((repeat' (first | exact trivial | exact rfl | (intro _ _ _ _; exact rfl) | refine And.intro ?_ ?_)); done)); (focus (cbv; (try simp); done)); rintro _ _ ⟨rfl, rfl⟩ _; cbv)
          | (refine call_pure hP code_law12_alive (hal) ?_ ?_; (focus (cbv; (try simp); done)); rintro _ rfl; cbv)
          | (refine Chk.mk trivial ?_; cbv)
          | (refine bc_true (by first | assumption | (simp (disch := omega) only [hF, natc, w64_in, shs]; first | done | assumption | omega | (simp only [natc] at *; omega))) ?_; cbv)
          | (refine bc_false (by first | assumption | (simp (disch := omega) only [hF, natc, w64_in, shs]; first | done | assumption | omega | (simp only [natc] at *; omega))) ?_; cbv)
          | (refine bc_split (fun h => ?_) (fun h => ?_) <;> (try simp (disch := omega) only [hF, natc, w64_in, shs] at h) <;> cbv)
          | (refine IdxVC.mk (by simp (disch := omega) only [hF, natc, w64_in, shs]; first | done | omega | (simp only [natc] at *; omega)) (fun kx hk hk2 => ?_); simp (disch := omega) only [hF, natc, w64_in, shs] at hk; (try obtain rfl : kx = 0 := hk); cbv)
          | (refine Chk.mk (by simp (disch := omega) only [maxN, hF, natc, w64_in, shs]; first | done | assumption | omega | (simp only [natc] at *; omega)) ?_; cbv)
          | (intro (hmx : _ ≤ maxN); replace hmx : _ ≤ 17592186044416 := hmx; cbv)
          | (intro _; cbv)
        subst hQ; exact leaf_data rfl rfl ⟨rfl, rfl⟩
      · obtain ⟨hwi, x3, x4, R', r', g', j1, j2, j3, j4, h8', j5, j6⟩ := h9 rfl
        clear h8
        simp only [if_true] at k2
        have hgi : cmp .neq who i = false := by simp only [hF, hwi]; simp
        have hg8 : cmp .eql (r' 0) 8 = true := by simp only [hF, h8']; rfl
        cbv
        repeat' first
          | (refine call_at hP [2] code_soc_Soc_Write (k1) rfl ?_ ?_ ?_; (focus ((repeat' (first | exact trivial | exact rfl | (intro _ _ _ _; exact rfl) | refine And.intro ?_ ?_)); done)); (focus (cbv; (try simp); done)); rintro _ _ ⟨rfl, rfl⟩ _; cbv)
          | ((rw [ha]); cbv)
          | (refine call_at hP [2] code_soc_Soc_Read (k2) rfl ?_ ?_ ?_; (focus ((repeat' (first | exact trivial | exact rfl | (intro _ _ _ _; exact rfl) | refine And.intro ?_ ?_)); done)); (focus (cbv; (try simp); done)); rintro _ _ ⟨rfl, rfl⟩ _; cbv)
          | (refine call_at hP [2] code_soc_Soc_Ram (k3) rfl ?_ ?_ ?_; (focus ((repeat' (first | exact trivial | exact rfl | (intro _ _ _ _; exact rfl) | refine And.intro ?_ ?_)); done)); (focus (cbv; (try simp); done)); rintro _ _ ⟨rfl, rfl⟩ _; cbv)
          | (refine call_at hP [3] code_law03_Words (k4) rfl ?_ ?_ ?_; (focus ((repeat' (first | exact trivial | exact rfl | (intro _ _ _ _; exact rfl) | refine And.intro ?_ ?_)); done)); (focus (cbv; (try simp); done)); rintro _ _ ⟨rfl, rfl⟩ _; cbv)
          | (refine call_at hP [2] code_soc_Soc_Owner (k5) rfl ?_ ?_ ?_; (focus ((repeat' (first | exact trivial | exact rfl | (intro _ _ _ _; exact rfl) | refine And.intro ?_ ?_)); done)); (focus (cbv; (try simp); done)); rintro _ _ ⟨rfl, rfl⟩ _; cbv)
          | ((rw [hg7]); cbv)
          | ((rw [hgi]); cbv)
          | (refine call_at hP [2] code_soc_Soc_Waits (k6) rfl ?_ ?_ ?_; (focus ((repeat' (first | exact trivial | exact rfl | (intro _ _ _ _; exact rfl) | refine And.intro ?_ ?_)); done)); (focus (cbv; (try simp); done)); rintro _ _ ⟨rfl, rfl⟩ _; cbv)
          | (refine call_at hP [2] code_soc_Soc_Write (j1) rfl ?_ ?_ ?_; (focus ((repeat' (first | exact trivial | exact rfl | (intro _ _ _ _; exact rfl) | refine And.intro ?_ ?_)); done)); (focus (cbv; (try simp); done)); rintro _ _ ⟨rfl, rfl⟩ _; cbv)
          | (refine call_at hP [2] code_soc_Soc_Write (j2) rfl ?_ ?_ ?_; (focus ((repeat' (first | exact trivial | exact rfl | (intro _ _ _ _; exact rfl) | refine And.intro ?_ ?_)); done)); (focus (cbv; (try simp); done)); rintro _ _ ⟨rfl, rfl⟩ _; cbv)
          | (refine call_at hP [2] code_soc_Soc_Ram (j3) rfl ?_ ?_ ?_; (focus ((repeat' (first | exact trivial | exact rfl | (intro _ _ _ _; exact rfl) | refine And.intro ?_ ?_)); done)); (focus (cbv; (try simp); done)); rintro _ _ ⟨rfl, rfl⟩ _; cbv)
          | (refine call_at hP [6] code_law03_Words (j4) rfl ?_ ?_ ?_; (focus ((repeat' (first | exact trivial | exact rfl | (intro _ _ _ _; exact rfl) | refine And.intro ?_ ?_)); done)); (focus (cbv; (try simp); done)); rintro _ _ ⟨rfl, rfl⟩ _; cbv)
          | (refine call_at hP [2] code_soc_Soc_Owner (j5) rfl ?_ ?_ ?_; (focus ((repeat' (first | exact trivial | exact rfl | (intro _ _ _ _; exact rfl) | refine And.intro ?_ ?_)); done)); (focus (cbv; (try simp); done)); rintro _ _ ⟨rfl, rfl⟩ _; cbv)
          | ((rw [hg8]); cbv)
          | (refine call_at hP [2] code_soc_Soc_Waits (j6) rfl ?_ ?_ ?_; (focus ((repeat' (first | exact trivial | exact rfl | (intro _ _ _ _; exact rfl) | refine And.intro ?_ ?_)); done)); (focus (cbv; (try simp); done)); rintro _ _ ⟨rfl, rfl⟩ _; cbv)
          | (refine call_pure hP code_law12_alive (hal) ?_ ?_; (focus (cbv; (try simp); done)); rintro _ rfl; cbv)
          | (refine Chk.mk trivial ?_; cbv)
          | (refine bc_true (by first | assumption | (simp (disch := omega) only [hF, natc, w64_in, shs]; first | done | assumption | omega | (simp only [natc] at *; omega))) ?_; cbv)
          | (refine bc_false (by first | assumption | (simp (disch := omega) only [hF, natc, w64_in, shs]; first | done | assumption | omega | (simp only [natc] at *; omega))) ?_; cbv)
          | (refine bc_split (fun h => ?_) (fun h => ?_) <;> (try simp (disch := omega) only [hF, natc, w64_in, shs] at h) <;> cbv)
          | (refine IdxVC.mk (by simp (disch := omega) only [hF, natc, w64_in, shs]; first | done | omega | (simp only [natc] at *; omega)) (fun kx hk hk2 => ?_); simp (disch := omega) only [hF, natc, w64_in, shs] at hk; (try obtain rfl : kx = 0 := hk); cbv)
          | (refine Chk.mk (by simp (disch := omega) only [maxN, hF, natc, w64_in, shs]; first | done | assumption | omega | (simp only [natc] at *; omega)) ?_; cbv)
          | (intro (hmx : _ ≤ maxN); replace hmx : _ ≤ 17592186044416 := hmx; cbv)
          | (intro _; cbv)
        subst hQ; exact leaf_data rfl rfl ⟨rfl, rfl⟩

end Go.Proofs.YtiaceoomiflgcaaGreat

end

section
namespace Go.Proofs.YtiaceoomiflgcaaGreat
open Go.V
set_option linter.unusedVariables false
set_option linter.unusedSimpArgs false
set_option maxRecDepth 100000
set_option maxHeartbeats 8000000

theorem rputs_last : ∀ (l : List (Nat × Nat)) (r : Nat → Int) (x : Nat × Nat), rputs r (l ++ [x]) = rput (rputs r l) x.1 x.2
  | [], _, _ => rfl
  | _ :: l, _, x => rputs_last l _ x

theorem BusS.store_bufs (B : BusS) (j a w : Nat) : ∃ l, (B.store j a w).bufs j = l ++ [(a, w)] := by
  unfold BusS.store; split
  · exact ⟨_, if_pos rfl⟩
  · exact ⟨_, if_pos rfl⟩

/-- Behind a fence the last store stands in the memory. -/
theorem BusS.fen_last (B : BusS) (j a w : Nat) : ((B.store j a w).fen j).r a = (w : Int) := by
  obtain ⟨l, e⟩ := B.store_bufs j a w
  show rputs (B.store j a w).r ((B.store j a w).bufs j) a = (w : Int)
  rw [e, rputs_last]
  exact if_pos rfl

theorem lockP (c n : Int) (i y : Int) (k : Nat) (hy : 0 ≤ y ∧ y < k) : LockP i y (fun x => ∃ S : SocS, S.ok ∧ (S.c : Int) = c ∧ (S.n : Int) = n ∧ S.k = k ∧ x = socO S) := by
  obtain ⟨t, rfl⟩ : ∃ t : Nat, y = t := ⟨y.toNat, by omega⟩
  rintro x ⟨S, hS, hc, hn, hk, rfl⟩
  by_cases hj : 0 ≤ i ∧ i < S.c
  · obtain ⟨j, rfl⟩ : ∃ j : Nat, i = j := ⟨i.toNat, by omega⟩
    have hj : j < S.c := by omega
    have ht : t < S.k := by omega
    cases hh : S.hd j with
    | true => exact .inl ⟨19, by omega, sWrite_no _ _ _ _ _ _ _ j 0 7 19 (by omega) (atS_off S hS j 0 hj hh), sRead_no _ _ _ _ _ _ _ j _ 19 (by omega) (atS_off S hS j _ hj hh)⟩
    | false =>
      right
      have h0 : 0 < S.n := hS.hn.1
      have w1 := sWrite_ram_in S hS j 0 7 hj hh h0 (by omega)
      have n1 := hS.store j 0 7 hj hh h0 (by omega)
      obtain ⟨b, ow, hb, n2, r1⟩ := sRead_lock_in _ n1.1 j t hj hh ht
      have hS2 := n2.1
      have e2 : ({ S with ow := ow, B := (S.B.store j 0 7).fen j } : SocS) = { ({ S with B := S.B.store j 0 7 } : SocS) with ow := ow, B := (S.B.store j 0 7).fen j } := rfl
      have m2 := sRam_in _ hS2
      have wd2 := ok_Words S.n ((S.B.store j 0 7).fen j).r hS.hn.2
      have o2 := sOwner_in _ hS2 t ht
      have t2 := sWaits_in _ hS2 j hj (if_pos rfl)
      refine ⟨_, _, _, b, S.n, _, ow t - 1, noC, w1, r1, m2, wd2, h0, hS.hn.2, S.B.fen_last j 0 7, o2, t2, fun hbf => ?_, fun hbt => ?_⟩
      · rcases hb with ⟨h, _⟩ | ⟨_, hne, he⟩
        · rw [hbf] at h; cases h
        · have hne : S.ow t ≠ 0 := hne
          have he : ow = S.ow := he
          rw [he]
          have := (hS.how t).1
          omega
      · obtain ⟨_, _, he⟩ : b = true ∧ S.ow t = 0 ∧ ow = fun u => if u = t then (j : Int) + 1 else S.ow u := by
          rcases hb with h | ⟨h, _⟩
          · exact h
          · rw [hbt] at h; cases h
        have hot : ow t = (j : Int) + 1 := by rw [he]; exact if_pos rfl
        refine ⟨by omega, ?_⟩
        have w3 := sWrite_ram_in _ hS2 j 0 8 hj hh h0 (by omega)
        have n3 := hS2.store j 0 8 hj hh h0 (by omega)
        have w4 := sWrite_lock_in _ n3.1 j t hj hh ht hot
        have n4 := (n3.1.free t).1.fen j hj
        have m4 := sRam_in _ n4.1
        have wd4 := ok_Words S.n ((((S.B.store j 0 7).fen j).store j 0 8).fen j).r hS.hn.2
        have o4 := sOwner_in _ n4.1 t ht
        have t4 := sWaits_in _ n4.1 j hj (if_pos rfl)
        have e4 : (if t = t then (0 : Int) else ow t) - 1 = -1 := by rw [if_pos rfl]; rfl
        refine ⟨_, _, _, _, noC, w3, w4, m4, wd4, BusS.fen_last _ j 0 8, ?_, t4⟩
        unfold OwO
        rw [← e4]
        exact o4
  · exact .inl ⟨3, by omega, sWrite_no _ _ _ _ _ _ _ i 0 7 3 (by omega) (atS_core S hS i 0 hj), sRead_no _ _ _ _ _ _ _ i _ 3 (by omega) (atS_core S hS i _ hj)⟩

theorem ok_SocLocked (c n k mo i y : Int) (N : Nat) (G : Nat → Nat → DV) (hc : i64 c) (hn : i64 n) (hk : i64 k) (hG : okOps N G) :
    CallOK (O := Ob) PR n_law12_SocLocked [plV c n k, .dv (.int .i64 mo), xV N G i y] [] fun v m => v = .dv (.bool true) ∧ m = [] := by
  by_cases hv : (1 ≤ c ∧ c ≤ 8) ∧ (1 ≤ n ∧ n ≤ 65536) ∧ (1 ≤ k ∧ k ≤ 16) ∧ 1 ≤ mo ∧ mo ≤ 16
  · obtain ⟨h1, h2, h3, h4⟩ := hv
    obtain ⟨k, rfl⟩ : ∃ j : Nat, k = j := ⟨k.toNat, by omega⟩
    have h0 : CallOK (O := Ob) PR n_soc_New [plV c n k, .dv (.int .i64 mo)] [] fun v m => v = .tup [.ptr 0 0, .dv (.int .i64 0)] ∧ ∃ x, (∃ S : SocS, S.ok ∧ (S.c : Int) = c ∧ (S.n : Int) = n ∧ S.k = k ∧ x = socO S) ∧ m = [.obj x] :=
      (sNew_ok c n k mo h1 h2 h3 h4).mono fun v m ⟨hv, S, g1, g2, g3, g4, _, _, _, hm⟩ => ⟨hv, _, ⟨S, g1, g2, g3, by omega, rfl⟩, hm⟩
    have hf := ok_few c n k N G
    by_cases hfew : N ≤ 60 ∧ n ≤ 100
    · rw [decide_eq_true hfew] at hf
      by_cases hy : 0 ≤ y ∧ y < k
      · exact locked_w c n k mo i y N hfew.1 G _ hy (by omega) ok_alive h0 hf (fun t ht x hx => ok_ops c n k N G hG t ht x hx) (lockP c n i y k hy)
      · exact locked_out c n k mo i y N hfew.1 G _ (by omega) ok_alive h0 hf (fun t ht x hx => ok_ops c n k N G hG t ht x hx)
    · rw [decide_eq_false hfew] at hf
      exact locked_few c n k mo i y N G _ ok_alive h0 hf
  · exact locked_no c n k mo i y N G ok_alive (sNew_no c n k mo ⟨hc, hn, hk⟩ hv)

end Go.Proofs.YtiaceoomiflgcaaGreat

end
