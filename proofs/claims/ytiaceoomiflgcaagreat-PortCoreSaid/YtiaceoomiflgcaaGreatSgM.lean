/-
  Walks: socs: copies, and the same.
-/
import Derived.Test.YtiaceoomiflgcaaGreatSdU
import Derived.Test.YtiaceoomiflgcaaGreatVceE
import Derived.ChangeKeysEq
import Derived.Laws.StructEq
section
namespace Go.Proofs.YtiaceoomiflgcaaGreat
open Go.V
set_option linter.unusedVariables false
set_option linter.unusedSimpArgs false
set_option maxRecDepth 100000
set_option maxHeartbeats 8000000

theorem equal_i (n : Nat) (r r' : Nat → Int) (h : ∀ i, i < n → r i = r' i) : CallOK (O := Ob) PR n_slices_Equal_Sint_int [.vec 0, .vec 1] [.vec n 1 fun i _ => .dv (.int .i64 (r i)), .vec n 1 fun i _ => .dv (.int .i64 (r' i))]
    fun v m => v = .dv (.bool true) ∧ m = [.vec n 1 fun i _ => .dv (.int .i64 (r i)), .vec n 1 fun i _ => .dv (.int .i64 (r' i))] := by
  refine fn_walkv mixed fn_slices_Equal_Sint_int (Ent.refl _ _) fun bin cmp un conv bnot beq band sel isel ofN toN inb nz nneg lt le room' slb add sub sbin scmp slen sget ssub addk pc pb pi pf ps mkok min_ ig aeq P hP hA hF Q hQ => ?_
  cbv
  repeat' first
    | (refine Chk.mk trivial ?_; cbv)
    | (refine bc_true (by first | assumption | (simp (disch := omega) only [hF, natc, w64_in, shs]; first | done | assumption | omega | (simp only [natc] at *; omega))) ?_; cbv)
    | (refine bc_false (by first | assumption | (simp (disch := omega) only [hF, natc, w64_in, shs]; first | done | assumption | omega | (simp only [natc] at *; omega))) ?_; cbv)
    | (refine bc_split (fun h => ?_) (fun h => ?_) <;> (try simp (disch := omega) only [hF, natc, w64_in, shs] at h) <;> cbv)
    | (refine IdxVC.mk (by simp (disch := omega) only [hF, natc, w64_in, shs]; first | done | omega | (simp only [natc] at *; omega)) (fun kx hk hk2 => ?_); simp (disch := omega) only [hF, natc, w64_in, shs] at hk; (try obtain rfl : kx = 0 := hk); cbv)
    | (refine Chk.mk (by simp (disch := omega) only [maxN, hF, natc, w64_in, shs]; first | done | assumption | omega | (simp only [natc] at *; omega)) ?_; cbv)
    | (intro (hmx : _ ≤ maxN); replace hmx : _ ≤ 17592186044416 := hmx; cbv)
    | (intro _; cbv)
  refine loop_up mixed hP hA (n) (fun i => True) [4, 5, 13, 14, 15, 16, 17, 18, 19, 20, 21, 22, 23, 24, 25] (fun i => [(13, .dv (.int .i64 (ofN i)))]) (fun _ => [.vec n 1 fun i _ => .dv (.int .i64 (r i)), .vec n 1 fun i _ => .dv (.int .i64 (r' i))]) (trivial) ?_ fun Nx i hN hi hp => ?_
  · exact Ent.env (by cbv; simp [hF])
  cbv
  by_cases hlt : i < n
  · have hq : cmp .neq (r i) (r' i) = false := by simp only [hF, h i hlt]; simp
    cbv
    repeat' first
      | ((rw [hq]); cbv)
      | (refine Chk.mk trivial ?_; cbv)
      | (refine bc_true (by first | assumption | (simp (disch := omega) only [hF, natc, w64_in, shs]; first | done | assumption | omega | (simp only [natc] at *; omega))) ?_; cbv)
      | (refine bc_false (by first | assumption | (simp (disch := omega) only [hF, natc, w64_in, shs]; first | done | assumption | omega | (simp only [natc] at *; omega))) ?_; cbv)
      | (refine bc_split (fun h => ?_) (fun h => ?_) <;> (try simp (disch := omega) only [hF, natc, w64_in, shs] at h) <;> cbv)
      | (refine IdxVC.mk (by simp (disch := omega) only [hF, natc, w64_in, shs]; first | done | omega | (simp only [natc] at *; omega)) (fun kx hk hk2 => ?_); simp (disch := omega) only [hF, natc, w64_in, shs] at hk; (try obtain rfl : kx = 0 := hk); (try obtain rfl : i = kx := hk.symm); cbv)
      | (refine Chk.mk (by simp (disch := omega) only [maxN, hF, natc, w64_in, shs]; first | done | assumption | omega | (simp only [natc] at *; omega)) ?_; cbv)
      | (intro (hmx : _ ≤ maxN); replace hmx : _ ≤ 17592186044416 := hmx; cbv)
      | (intro _; cbv)
    exact hN _ hlt trivial (Ent.env (by cbv; simp (disch := omega) [hF, natc, w64_in]))
  · obtain rfl : i = n := by omega
    cbv
    repeat' first
      | (refine Chk.mk trivial ?_; cbv)
      | (refine bc_true (by first | assumption | (simp (disch := omega) only [hF, natc, w64_in, shs]; first | done | assumption | omega | (simp only [natc] at *; omega))) ?_; cbv)
      | (refine bc_false (by first | assumption | (simp (disch := omega) only [hF, natc, w64_in, shs]; first | done | assumption | omega | (simp only [natc] at *; omega))) ?_; cbv)
      | (refine bc_split (fun h => ?_) (fun h => ?_) <;> (try simp (disch := omega) only [hF, natc, w64_in, shs] at h) <;> cbv)
      | (refine IdxVC.mk (by simp (disch := omega) only [hF, natc, w64_in, shs]; first | done | omega | (simp only [natc] at *; omega)) (fun kx hk hk2 => ?_); simp (disch := omega) only [hF, natc, w64_in, shs] at hk; (try obtain rfl : kx = 0 := hk); cbv)
      | (refine Chk.mk (by simp (disch := omega) only [maxN, hF, natc, w64_in, shs]; first | done | assumption | omega | (simp only [natc] at *; omega)) ?_; cbv)
      | (intro (hmx : _ ≤ maxN); replace hmx : _ ≤ 17592186044416 := hmx; cbv)
      | (intro _; cbv)
    subst hQ
    exact ⟨_, _, Ent.refl _ _, rfl, rfl⟩

theorem equal_c (n : Nat) (re im : Nat → Nat) (h : ∀ i, i < n → ceqF .f64 (re i) (im i) (re i) (im i) = true) : CallOK (O := Ob) PR n_slices_Equal_Scomplex128_complex128 [.vec 0, .vec 1] [.vec n 1 fun i _ => .dv (.cpx .f64 (re i) (im i)), .vec n 1 fun i _ => .dv (.cpx .f64 (re i) (im i))]
    fun v m => v = .dv (.bool true) ∧ m = [.vec n 1 fun i _ => .dv (.cpx .f64 (re i) (im i)), .vec n 1 fun i _ => .dv (.cpx .f64 (re i) (im i))] := by
  refine fn_walkv mixed fn_slices_Equal_Scomplex128_complex128 (Ent.refl _ _) fun bin cmp un conv bnot beq band sel isel ofN toN inb nz nneg lt le room' slb add sub sbin scmp slen sget ssub addk pc pb pi pf ps mkok min_ ig aeq P hP hA hF Q hQ => ?_
  have hpb : ∀ i, i < n → pb (.ceq true) [.cpx .f64 (re i) (im i), .cpx .f64 (re i) (im i)] = false := by
    intro i hi
    have e : pb = std.pb := congrArg Ar.pb hA
    rw [e]
    show (!(ceqF .f64 (re i) (im i) (re i) (im i))) = false
    rw [h i hi]; rfl
  have hpc : ∀ l, pc (.ceq true) l := by
    intro l
    have e : pc = std.pc := congrArg Ar.pc hA
    rw [e]
    exact trivial
  clear h
  cbv
  repeat' first
    | (refine Chk.mk trivial ?_; cbv)
    | (refine bc_true (by first | assumption | (simp (disch := omega) only [hF, natc, w64_in, shs]; first | done | assumption | omega | (simp only [natc] at *; omega))) ?_; cbv)
    | (refine bc_false (by first | assumption | (simp (disch := omega) only [hF, natc, w64_in, shs]; first | done | assumption | omega | (simp only [natc] at *; omega))) ?_; cbv)
    | (refine bc_split (fun h => ?_) (fun h => ?_) <;> (try simp (disch := omega) only [hF, natc, w64_in, shs] at h) <;> cbv)
    | (refine IdxVC.mk (by simp (disch := omega) only [hF, natc, w64_in, shs]; first | done | omega | (simp only [natc] at *; omega)) (fun kx hk hk2 => ?_); simp (disch := omega) only [hF, natc, w64_in, shs] at hk; (try obtain rfl : kx = 0 := hk); cbv)
    | (refine Chk.mk (by simp (disch := omega) only [maxN, hF, natc, w64_in, shs]; first | done | assumption | omega | (simp only [natc] at *; omega)) ?_; cbv)
    | (intro (hmx : _ ≤ maxN); replace hmx : _ ≤ 17592186044416 := hmx; cbv)
    | (intro _; cbv)
  refine loop_up mixed hP hA (n) (fun i => True) [4, 5, 13, 14, 15, 16, 17, 18, 19, 20, 21, 22, 23, 24, 25] (fun i => [(13, .dv (.int .i64 (ofN i)))]) (fun _ => [.vec n 1 fun i _ => .dv (.cpx .f64 (re i) (im i)), .vec n 1 fun i _ => .dv (.cpx .f64 (re i) (im i))]) (trivial) ?_ fun Nx i hN hi hp => ?_
  · exact Ent.env (by cbv; simp [hF])
  cbv
  by_cases hlt : i < n
  · have hq := hpb i hlt
    cbv
    repeat' first
      | ((refine Chk.mk (hpc _) ?_); cbv)
      | ((rw [hq]); cbv)
      | (refine Chk.mk trivial ?_; cbv)
      | (refine bc_true (by first | assumption | (simp (disch := omega) only [hF, natc, w64_in, shs]; first | done | assumption | omega | (simp only [natc] at *; omega))) ?_; cbv)
      | (refine bc_false (by first | assumption | (simp (disch := omega) only [hF, natc, w64_in, shs]; first | done | assumption | omega | (simp only [natc] at *; omega))) ?_; cbv)
      | (refine bc_split (fun h => ?_) (fun h => ?_) <;> (try simp (disch := omega) only [hF, natc, w64_in, shs] at h) <;> cbv)
      | (refine IdxVC.mk (by simp (disch := omega) only [hF, natc, w64_in, shs]; first | done | omega | (simp only [natc] at *; omega)) (fun kx hk hk2 => ?_); simp (disch := omega) only [hF, natc, w64_in, shs] at hk; (try obtain rfl : kx = 0 := hk); (try obtain rfl : i = kx := hk.symm); cbv)
      | (refine Chk.mk (by simp (disch := omega) only [maxN, hF, natc, w64_in, shs]; first | done | assumption | omega | (simp only [natc] at *; omega)) ?_; cbv)
      | (intro (hmx : _ ≤ maxN); replace hmx : _ ≤ 17592186044416 := hmx; cbv)
      | (intro _; cbv)
    exact hN _ hlt trivial (Ent.env (by cbv; simp (disch := omega) [hF, natc, w64_in]))
  · obtain rfl : i = n := by omega
    cbv
    repeat' first
      | (refine Chk.mk trivial ?_; cbv)
      | (refine bc_true (by first | assumption | (simp (disch := omega) only [hF, natc, w64_in, shs]; first | done | assumption | omega | (simp only [natc] at *; omega))) ?_; cbv)
      | (refine bc_false (by first | assumption | (simp (disch := omega) only [hF, natc, w64_in, shs]; first | done | assumption | omega | (simp only [natc] at *; omega))) ?_; cbv)
      | (refine bc_split (fun h => ?_) (fun h => ?_) <;> (try simp (disch := omega) only [hF, natc, w64_in, shs] at h) <;> cbv)
      | (refine IdxVC.mk (by simp (disch := omega) only [hF, natc, w64_in, shs]; first | done | omega | (simp only [natc] at *; omega)) (fun kx hk hk2 => ?_); simp (disch := omega) only [hF, natc, w64_in, shs] at hk; (try obtain rfl : kx = 0 := hk); cbv)
      | (refine Chk.mk (by simp (disch := omega) only [maxN, hF, natc, w64_in, shs]; first | done | assumption | omega | (simp only [natc] at *; omega)) ?_; cbv)
      | (intro (hmx : _ ≤ maxN); replace hmx : _ ≤ 17592186044416 := hmx; cbv)
      | (intro _; cbv)
    subst hQ
    exact ⟨_, _, Ent.refl _ _, rfl, rfl⟩

theorem cell_same (n : Nat) (re im : Nat → Nat) (h : ∀ i, i < n → ceqF .f64 (re i) (im i) (re i) (im i) = true) : CallOK (O := Ob) PR n_cell_Same [.vec 0, .vec 1] [.vec n 1 fun i _ => .dv (.cpx .f64 (re i) (im i)), .vec n 1 fun i _ => .dv (.cpx .f64 (re i) (im i))]
    fun v m => v = .dv (.bool true) ∧ m = [.vec n 1 fun i _ => .dv (.cpx .f64 (re i) (im i)), .vec n 1 fun i _ => .dv (.cpx .f64 (re i) (im i))] := by
  have hq := equal_c n re im h
  clear h
  refine fn_walkv mixed fn_cell_Same (Ent.refl _ _) fun bin cmp un conv bnot beq band sel isel ofN toN inb nz nneg lt le room' slb add sub sbin scmp slen sget ssub addk pc pb pi pf ps mkok min_ ig aeq P hP hA hF Q hQ => ?_
  cbv
  repeat' first
    | (refine call_at hP [0, 1] code_slices_Equal_Scomplex128_complex128 (hq) rfl ?_ ?_ ?_; (focus ((repeat' (first | exact trivial | exact rfl | (intro _ _ _ _; exact rfl) | refine And.intro ?_ ?_)); done)); (focus (cbv; (try simp); done)); rintro _ _ ⟨rfl, rfl⟩ _; cbv)
    | (refine Chk.mk trivial ?_; cbv)
    | (refine bc_true (by first | assumption | (simp (disch := omega) only [hF, natc, w64_in, shs]; first | done | assumption | omega | (simp only [natc] at *; omega))) ?_; cbv)
    | (refine bc_false (by first | assumption | (simp (disch := omega) only [hF, natc, w64_in, shs]; first | done | assumption | omega | (simp only [natc] at *; omega))) ?_; cbv)
    | (refine bc_split (fun h => ?_) (fun h => ?_) <;> (try simp (disch := omega) only [hF, natc, w64_in, shs] at h) <;> cbv)
    | (refine IdxVC.mk (by simp (disch := omega) only [hF, natc, w64_in, shs]; first | done | omega | (simp only [natc] at *; omega)) (fun kx hk hk2 => ?_); simp (disch := omega) only [hF, natc, w64_in, shs] at hk; (try obtain rfl : kx = 0 := hk); cbv)
    | (refine Chk.mk (by simp (disch := omega) only [maxN, hF, natc, w64_in, shs]; first | done | assumption | omega | (simp only [natc] at *; omega)) ?_; cbv)
    | (intro (hmx : _ ≤ maxN); replace hmx : _ ≤ 17592186044416 := hmx; cbv)
    | (intro _; cbv)
  subst hQ
  exact ⟨_, _, Ent.refl _ _, rfl, rfl⟩

/-- Memories of the same words. -/
theorem ram_same (n : Nat) (r : Nat → Int) : CallOK (O := Ob) PR n_sram_Same [.ptr 0 0, .ptr 1 0] [.obj (rOb n r), .obj (rOb n r)] fun v m => v = .dv (.bool true) ∧ m = [.obj (rOb n r), .obj (rOb n r)] := by
  have hq := equal_i n r r fun _ _ => rfl
  refine fn_walkv mixed fn_sram_Same (mem1 := [.blk [.one (.vec 2)], .blk [.one (.vec 3)], .vec n 1 fun i _ => .dv (.int .i64 (r i)), .vec n 1 fun i _ => .dv (.int .i64 (r i))]) ?_ fun bin cmp un conv bnot beq band sel isel ofN toN inb nz nneg lt le room' slb add sub sbin scmp slen sget ssub addk pc pb pi pf ps mkok min_ ig aeq P hP hA hF Q hQ => ?_
  · refine ((Ent.opn (lmem := rmem n r) 0 rfl).trans (Ent.opn (lmem := rmem n r) 1 rfl)).trans (Ent.ren [0, 1, 2, 3] rfl rfl ?_ ⟨rfl, rfl, trivial⟩)
    exact ⟨⟨rfl, trivial⟩, ⟨rfl, trivial⟩, ⟨rfl, rfl, fun _ _ _ _ => rfl⟩, ⟨rfl, rfl, fun _ _ _ _ => rfl⟩, trivial⟩
  cbv
  repeat' first
    | (refine call_at hP [2, 3] code_slices_Equal_Sint_int (hq) rfl ?_ ?_ ?_; (focus ((repeat' (first | exact trivial | exact rfl | (intro _ _ _ _; exact rfl) | refine And.intro ?_ ?_)); done)); (focus (cbv; (try simp); done)); rintro _ _ ⟨rfl, rfl⟩ _; cbv)
    | (refine Chk.mk trivial ?_; cbv)
    | (refine bc_true (by first | assumption | (simp (disch := omega) only [hF, natc, w64_in, shs]; first | done | assumption | omega | (simp only [natc] at *; omega))) ?_; cbv)
    | (refine bc_false (by first | assumption | (simp (disch := omega) only [hF, natc, w64_in, shs]; first | done | assumption | omega | (simp only [natc] at *; omega))) ?_; cbv)
    | (refine bc_split (fun h => ?_) (fun h => ?_) <;> (try simp (disch := omega) only [hF, natc, w64_in, shs] at h) <;> cbv)
    | (refine IdxVC.mk (by simp (disch := omega) only [hF, natc, w64_in, shs]; first | done | omega | (simp only [natc] at *; omega)) (fun kx hk hk2 => ?_); simp (disch := omega) only [hF, natc, w64_in, shs] at hk; (try obtain rfl : kx = 0 := hk); cbv)
    | (refine Chk.mk (by simp (disch := omega) only [maxN, hF, natc, w64_in, shs]; first | done | assumption | omega | (simp only [natc] at *; omega)) ?_; cbv)
    | (intro (hmx : _ ≤ maxN); replace hmx : _ ≤ 17592186044416 := hmx; cbv)
    | (intro _; cbv)
  subst hQ
  refine ⟨.dv (.bool true), [.obj (.mk (rmem n r)), .obj (.mk (rmem n r))], ?_, rfl, rfl⟩
  refine (Ent.cls 0 [2] (rmem n r) rfl rfl ?_).trans ((Ent.cls 1 [3] (rmem n r) rfl rfl ?_).trans (Ent.ren [0, 1] rfl rfl ?_ ⟨rfl, trivial⟩))
  · exact ⟨⟨rfl, trivial⟩, ⟨rfl, rfl, fun _ _ _ _ => rfl⟩, trivial⟩
  · exact ⟨⟨rfl, trivial⟩, ⟨rfl, rfl, fun _ _ _ _ => rfl⟩, trivial⟩
  · exact ⟨rfl, rfl, trivial⟩

end Go.Proofs.YtiaceoomiflgcaaGreat

end

section
namespace Go.Proofs.YtiaceoomiflgcaaGreat
open Go.V
set_option linter.unusedVariables false
set_option linter.unusedSimpArgs false
set_option maxRecDepth 100000
set_option maxHeartbeats 8000000

theorem clone_cn (n : Nat) (re im : Nat → Nat) (hn : n ≤ 65536) : CallOK (O := Ob) PR n_slices_Clone_Scomplex128_complex128 [.vec 0] [.vec n 1 fun i _ => .dv (.cpx .f64 (re i) (im i))]
    fun v m => v = .vec 1 ∧ m = [.vec n 1 fun i _ => .dv (.cpx .f64 (re i) (im i)), .vec n 1 fun i _ => .dv (.cpx .f64 (re i) (im i))] := by
  refine fn_walkv mixed fn_slices_Clone_Scomplex128_complex128 (Ent.refl _ _) fun bin cmp un conv bnot beq band sel isel ofN toN inb nz nneg lt le room' slb add sub sbin scmp slen sget ssub addk pc pb pi pf ps mkok min_ ig aeq P hP hA hF Q hQ => ?_
  have hrm : room' (add 0 n) 16 := by simp [hF, maxN]; omega
  cbv
  repeat' first
    | ((refine Chk.mk hrm ?_); cbv)
    | (refine Chk.mk trivial ?_; cbv)
    | (refine bc_true (by first | assumption | (simp (disch := omega) only [hF, natc, w64_in, shs]; first | done | assumption | omega | (simp only [natc] at *; omega))) ?_; cbv)
    | (refine bc_false (by first | assumption | (simp (disch := omega) only [hF, natc, w64_in, shs]; first | done | assumption | omega | (simp only [natc] at *; omega))) ?_; cbv)
    | (refine bc_split (fun h => ?_) (fun h => ?_) <;> (try simp (disch := omega) only [hF, natc, w64_in, shs] at h) <;> cbv)
    | (refine IdxVC.mk (by simp (disch := omega) only [hF, natc, w64_in, shs]; first | done | omega | (simp only [natc] at *; omega)) (fun kx hk hk2 => ?_); simp (disch := omega) only [hF, natc, w64_in, shs] at hk; (try obtain rfl : kx = 0 := hk); cbv)
    | (refine Chk.mk (by simp (disch := omega) only [maxN, hF, natc, w64_in, shs]; first | done | assumption | omega | (simp only [natc] at *; omega)) ?_; cbv)
    | (intro (hmx : _ ≤ maxN); replace hmx : _ ≤ 17592186044416 := hmx; cbv)
    | (intro _; cbv)
  · have hn0 : n = 0 := by
      rcases Nat.eq_zero_or_pos n with h0 | h0
      · exact h0
      · simp_all
    subst hQ
    refine ⟨.vec 1, [.vec n 1 fun i _ => .dv (.cpx .f64 (re i) (im i)), .vec n 1 fun i _ => .dv (.cpx .f64 (re i) (im i))], ?_, rfl, rfl⟩
    exact (Ent.nilv 0 1 (fun i _ => .dv (.cpx .f64 (re i) (im i))) rfl).trans (Ent.ren [0, 1] rfl rfl ⟨⟨rfl, rfl, fun _ _ _ _ => rfl⟩, ⟨hn0.symm, rfl, fun _ _ _ _ => rfl⟩, trivial⟩ ⟨rfl, trivial⟩)
  · subst hQ
    refine ⟨.vec 1, [.vec n 1 fun i _ => .dv (.cpx .f64 (re i) (im i)), .vec n 1 fun i _ => .dv (.cpx .f64 (re i) (im i))], ?_, rfl, rfl⟩
    refine Ent.ren [0, 2] rfl rfl ⟨⟨rfl, rfl, fun _ _ _ _ => rfl⟩, ⟨by simp only [hF]; omega, rfl, fun i f hi hf => ?_⟩, trivial⟩ ⟨rfl, trivial⟩
    obtain rfl : f = 0 := by omega
    unfold appAt
    rw [if_neg (Nat.not_lt_zero _)]
    simp only [hF, Nat.sub_zero]
    rfl

theorem bAlln (mo : Int) (k : Nat) (re im : Nat → Nat) (hk : k ≤ 16) : CallOK (O := Ob) PR n_sbuf_Buffer_All [.ptr 0 0] [.obj (bOb mo k re im)]
    fun v m => v = .vec 1 ∧ m = [.obj (bOb mo k re im), .vec k 1 fun i _ => .dv (.cpx .f64 (re i) (im i))] := by
  have hc := clone_cn k re im (by omega)
  unfold bOb bmem
  refine fn_walkv mixed fn_sbuf_Buffer_All Ent.opn1 fun bin cmp un conv bnot beq band sel isel ofN toN inb nz nneg lt le room' slb add sub sbin scmp slen sget ssub addk pc pb pi pf ps mkok min_ ig aeq P hP hA hF Q hQ => ?_
  cbv
  repeat' first
    | (refine call_at hP [1] code_slices_Clone_Scomplex128_complex128 (hc) rfl ?_ ?_ ?_; (focus ((repeat' (first | exact trivial | exact rfl | (intro _ _ _ _; exact rfl) | refine And.intro ?_ ?_)); done)); (focus (cbv; (try simp); done)); rintro _ _ ⟨rfl, rfl⟩ _; cbv)
    | (refine Chk.mk trivial ?_; cbv)
    | (refine bc_true (by first | assumption | (simp (disch := omega) only [hF, natc, w64_in, shs]; first | done | assumption | omega | (simp only [natc] at *; omega))) ?_; cbv)
    | (refine bc_false (by first | assumption | (simp (disch := omega) only [hF, natc, w64_in, shs]; first | done | assumption | omega | (simp only [natc] at *; omega))) ?_; cbv)
    | (refine bc_split (fun h => ?_) (fun h => ?_) <;> (try simp (disch := omega) only [hF, natc, w64_in, shs] at h) <;> cbv)
    | (refine IdxVC.mk (by simp (disch := omega) only [hF, natc, w64_in, shs]; first | done | omega | (simp only [natc] at *; omega)) (fun kx hk hk2 => ?_); simp (disch := omega) only [hF, natc, w64_in, shs] at hk; (try obtain rfl : kx = 0 := hk); cbv)
    | (refine Chk.mk (by simp (disch := omega) only [maxN, hF, natc, w64_in, shs]; first | done | assumption | omega | (simp only [natc] at *; omega)) ?_; cbv)
    | (intro (hmx : _ ≤ maxN); replace hmx : _ ≤ 17592186044416 := hmx; cbv)
    | (intro _; cbv)
  subst hQ
  refine ⟨.vec 1, [.obj (.mk (bmem mo k re im)), .vec k 1 fun i _ => .dv (.cpx .f64 (re i) (im i))], ?_, rfl, rfl⟩
  refine (Ent.cls 0 [1] (bmem mo k re im) rfl rfl ?_).trans (Ent.ren [0, 2] rfl rfl ?_ ⟨rfl, trivial⟩)
  · exact ⟨⟨rfl, rfl, trivial⟩, ⟨rfl, rfl, fun _ _ _ _ => rfl⟩, trivial⟩
  · exact ⟨rfl, ⟨rfl, rfl, fun _ _ _ _ => rfl⟩, trivial⟩

theorem bClone (mo : Int) (k : Nat) (re im : Nat → Nat) (hk : k ≤ 16) : CallOK (O := Ob) PR n_sbuf_Buffer_Clone [.ptr 0 0] [.obj (bOb mo k re im)]
    fun v m => v = .ptr 1 0 ∧ m = [.obj (bOb mo k re im), .obj (bOb mo k re im)] := by
  have hc := clone_cn k re im (by omega)
  unfold bOb bmem
  refine fn_walkv mixed fn_sbuf_Buffer_Clone Ent.opn1 fun bin cmp un conv bnot beq band sel isel ofN toN inb nz nneg lt le room' slb add sub sbin scmp slen sget ssub addk pc pb pi pf ps mkok min_ ig aeq P hP hA hF Q hQ => ?_
  cbv
  repeat' first
    | ((refine call_inl hP mixed hA code_sbuf_Buffer_All fn_sbuf_Buffer_All ?_); cbv)
    | (refine call_at hP [1] code_slices_Clone_Scomplex128_complex128 (hc) rfl ?_ ?_ ?_; (focus ((repeat' (first | exact trivial | exact rfl | (intro _ _ _ _; exact rfl) | refine And.intro ?_ ?_)); done)); (focus (cbv; (try simp); done)); rintro _ _ ⟨rfl, rfl⟩ _; cbv)
    | ((refine And.intro ?_ ?_); cbv)
    | (refine Chk.mk trivial ?_; cbv)
    | (refine bc_true (by first | assumption | (simp (disch := omega) only [hF, natc, w64_in, shs]; first | done | assumption | omega | (simp only [natc] at *; omega))) ?_; cbv)
    | (refine bc_false (by first | assumption | (simp (disch := omega) only [hF, natc, w64_in, shs]; first | done | assumption | omega | (simp only [natc] at *; omega))) ?_; cbv)
    | (refine bc_split (fun h => ?_) (fun h => ?_) <;> (try simp (disch := omega) only [hF, natc, w64_in, shs] at h) <;> cbv)
    | (refine IdxVC.mk (by simp (disch := omega) only [hF, natc, w64_in, shs]; first | done | omega | (simp only [natc] at *; omega)) (fun kx hk hk2 => ?_); simp (disch := omega) only [hF, natc, w64_in, shs] at hk; (try obtain rfl : kx = 0 := hk); cbv)
    | (refine Chk.mk (by simp (disch := omega) only [maxN, hF, natc, w64_in, shs]; first | done | assumption | omega | (simp only [natc] at *; omega)) ?_; cbv)
    | (intro (hmx : _ ≤ maxN); replace hmx : _ ≤ 17592186044416 := hmx; cbv)
    | (intro _; cbv)
  subst hQ
  refine ⟨.ptr 1 0, [.obj (.mk (bmem mo k re im)), .obj (.mk (bmem mo k re im))], ?_, rfl, rfl⟩
  refine (Ent.cls 0 [1] (bmem mo k re im) rfl rfl ?_).trans ((Ent.cls 3 [2] (bmem mo k re im) rfl rfl ?_).trans (Ent.ren [0, 3] rfl rfl ?_ ⟨rfl, trivial⟩))
  · exact ⟨⟨rfl, rfl, trivial⟩, ⟨rfl, rfl, fun _ _ _ _ => rfl⟩, trivial⟩
  · exact ⟨⟨rfl, rfl, trivial⟩, ⟨rfl, rfl, fun _ _ _ _ => rfl⟩, trivial⟩
  · exact ⟨rfl, rfl, trivial⟩

theorem busClone_w (O1 : Ob) (bo : Nat → Ob) (cores : Nat) (bs : Nat → Nat) (h8 : cores ≤ 8)
    (hr : CallOK (O := Ob) PR n_sram_Ram_Clone [.ptr 0 0] [.obj O1] fun v m => v = .ptr 1 0 ∧ m = [.obj O1, .obj O1])
    (hb : ∀ j, j < cores → CallOK (O := Ob) PR n_sbuf_Buffer_Clone [.ptr 0 0] [.obj (.at_ (bs j) (bo j))] fun v m => v = .ptr 1 0 ∧ m = [.obj (.at_ (bs j) (bo j)), .obj (bo j)]) :
    CallOK (O := Ob) PR n_bus_Bus_Clone [.ptr 0 0] [.obj (.mk (busR O1 cores bs bo))] fun v m => v = .ptr 1 0 ∧ m = [.obj (busX O1 cores bo), .obj (busX O1 cores bo)] := by
  unfold busR
  refine fn_walkv mixed fn_bus_Bus_Clone Ent.opn1 fun bin cmp un conv bnot beq band sel isel ofN toN inb nz nneg lt le room' slb add sub sbin scmp slen sget ssub addk pc pb pi pf ps mkok min_ ig aeq P hP hA hF Q hQ => ?_
  cbv
  repeat' first
    | (refine call_at hP [1] code_sram_Ram_Clone (hr) rfl ?_ ?_ ?_; (focus ((repeat' (first | exact trivial | exact rfl | (intro _ _ _ _; exact rfl) | refine And.intro ?_ ?_)); done)); (focus (cbv; (try simp); done)); rintro _ _ ⟨rfl, rfl⟩ _; cbv)
    | (refine Chk.mk trivial ?_; cbv)
    | (refine bc_true (by first | assumption | (simp (disch := omega) only [hF, natc, w64_in, shs]; first | done | assumption | omega | (simp only [natc] at *; omega))) ?_; cbv)
    | (refine bc_false (by first | assumption | (simp (disch := omega) only [hF, natc, w64_in, shs]; first | done | assumption | omega | (simp only [natc] at *; omega))) ?_; cbv)
    | (refine bc_split (fun h => ?_) (fun h => ?_) <;> (try simp (disch := omega) only [hF, natc, w64_in, shs] at h) <;> cbv)
    | (refine IdxVC.mk (by simp (disch := omega) only [hF, natc, w64_in, shs]; first | done | omega | (simp only [natc] at *; omega)) (fun kx hk hk2 => ?_); simp (disch := omega) only [hF, natc, w64_in, shs] at hk; (try obtain rfl : kx = 0 := hk); cbv)
    | (refine Chk.mk (by simp (disch := omega) only [maxN, hF, natc, w64_in, shs]; first | done | assumption | omega | (simp only [natc] at *; omega)) ?_; cbv)
    | (intro (hmx : _ ≤ maxN); replace hmx : _ ≤ 17592186044416 := hmx; cbv)
    | (intro _; cbv)
  refine loop_ex mixed hP hA (ι := Nat × (Nat → Nat)) (fun x => cores - x.1) (fun x => x.1 ≤ cores) [5, 20, 21, 22, 23, 24, 25, 26, 27, 28, 29, 30, 31, 32, 33, 34, 35] (fun x => [(20, .dv (.int .i64 (ofN x.1)))]) (fun x => [.blk [.one (.ptr 1 0), .one (.vec 2)], .obj O1, .vec cores 1 (fun j _ => .gp (bs j)), .obj (.fam cores bs (fun _ => false) bo), .obj O1, .blk [.one (.ptr 4 0), .one (.vec 6)], .vec x.1 1 (fun j _ => .gp (x.2 j)), .obj (.fam x.1 x.2 (fun _ => false) bo)]) ?_ fun Nx i hN hi => ?_
  · refine EntE.of (((Ent.env ?_).trans (Ent.nilvec (ss := [.one (.ptr 4 0), .one (.dv .nils)]) (ss' := [.one (.ptr 4 0), .one (.vec 6)]) 5 1 1 (fun j _ => .gp 0) rfl rfl rfl)).trans (Ent.fam0 (fun _ => 0) bo)) ⟨(0, fun _ => 0), Nat.zero_le _, rfl⟩
    cbv; simp [hF]
  obtain ⟨i, bs'⟩ := i
  simp only at hi hN
  cbv
  by_cases hlt : i < cores
  · have hrm : room' (add i 1) 8 := by simp [hF, maxN]; omega
    have hb := hb i hlt
    cbv
    repeat' first
      | (refine Chk.mk trivial ?_; cbv)
      | (refine bc_true (by first | assumption | (simp (disch := omega) only [hF, natc, w64_in, shs]; first | done | assumption | omega | (simp only [natc] at *; omega))) ?_; cbv)
      | (refine bc_false (by first | assumption | (simp (disch := omega) only [hF, natc, w64_in, shs]; first | done | assumption | omega | (simp only [natc] at *; omega))) ?_; cbv)
      | (refine bc_split (fun h => ?_) (fun h => ?_) <;> (try simp (disch := omega) only [hF, natc, w64_in, shs] at h) <;> cbv)
      | (refine IdxVC.mk (by simp (disch := omega) only [hF, natc, w64_in, shs]; first | done | omega | (simp only [natc] at *; omega)) (fun kx hk hk2 => ?_); simp (disch := omega) only [hF, natc, w64_in, shs] at hk; (try obtain rfl : kx = 0 := hk); (try obtain rfl : i = kx := hk.symm); cbv)
      | (refine Chk.mk (by simp (disch := omega) only [maxN, hF, natc, w64_in, shs]; first | done | assumption | omega | (simp only [natc] at *; omega)) ?_; cbv)
      | (intro (hmx : _ ≤ maxN); replace hmx : _ ≤ 17592186044416 := hmx; cbv)
      | (intro _; cbv)
    refine call_fam 3 i [0] rfl hlt rfl ⟨rfl, trivial⟩ ?_
    cbv
    repeat' first
      | (refine call_at hP [8] code_sbuf_Buffer_Clone (hb) rfl ?_ ?_ ?_; (focus ((repeat' (first | exact trivial | exact rfl | (intro _ _ _ _; exact rfl) | refine And.intro ?_ ?_)); done)); (focus (cbv; (try simp); done)); rintro _ _ ⟨rfl, rfl⟩ _; cbv)
      | ((refine Chk.mk hrm ?_); cbv)
      | ((refine And.intro ?_ ?_); cbv)
      | (refine Chk.mk trivial ?_; cbv)
      | (refine bc_true (by first | assumption | (simp (disch := omega) only [hF, natc, w64_in, shs]; first | done | assumption | omega | (simp only [natc] at *; omega))) ?_; cbv)
      | (refine bc_false (by first | assumption | (simp (disch := omega) only [hF, natc, w64_in, shs]; first | done | assumption | omega | (simp only [natc] at *; omega))) ?_; cbv)
      | (refine bc_split (fun h => ?_) (fun h => ?_) <;> (try simp (disch := omega) only [hF, natc, w64_in, shs] at h) <;> cbv)
      | (refine IdxVC.mk (by simp (disch := omega) only [hF, natc, w64_in, shs]; first | done | omega | (simp only [natc] at *; omega)) (fun kx hk hk2 => ?_); simp (disch := omega) only [hF, natc, w64_in, shs] at hk; (try obtain rfl : kx = 0 := hk); cbv)
      | (refine Chk.mk (by simp (disch := omega) only [maxN, hF, natc, w64_in, shs]; first | done | assumption | omega | (simp only [natc] at *; omega)) ?_; cbv)
      | (intro (hmx : _ ≤ maxN); replace hmx : _ ≤ 17592186044416 := hmx; cbv)
      | (intro _; cbv)
    have e : add i 1 = i + 1 := by simp only [hF]
    rw [e]
    refine hN _ (EntE.pre (Ent.famC 3 8 i (sk' := fun _ => false) (o' := bo) (x := bo i) rfl rfl (by decide) hlt (by simp) (fun j _ => ?_) (fun j _ => ?_)) ((famA (o' := bo) 11 7 9 0 rfl rfl rfl (by decide) (fun j hj => ?_) ?_ (fun _ _ => rfl) rfl).bind fun t ⟨b2, ht⟩ => ?_))
    · by_cases h : j = i <;> simp [h]
    · by_cases h : j = i <;> simp [h]
    · unfold appAt; rw [if_pos hj]
    · unfold appAt; rw [if_neg (Nat.lt_irrefl _)]; simp only [hF, Nat.sub_self]; rfl
    · subst ht
      refine EntE.of (Ent.ren [0, 1, 2, 3, 4, 5, 11, 7] rfl rfl ?_ ?_) ⟨(i + 1, b2), hlt, by show cores - (i + 1) < cores - i; omega, rfl⟩
      · refine ⟨⟨rfl, rfl, trivial⟩, rfl, ⟨rfl, rfl, fun _ _ _ _ => rfl⟩, rfl, rfl, ⟨rfl, rfl, trivial⟩, ⟨rfl, rfl, fun j f hj hf => ?_⟩, rfl, trivial⟩
        obtain rfl : f = 0 := by omega
        rfl
      · cbv; simp (disch := omega) [hF, natc, w64_in]
  · obtain rfl : i = cores := by omega
    cbv
    repeat' first
      | (refine Chk.mk trivial ?_; cbv)
      | (refine bc_true (by first | assumption | (simp (disch := omega) only [hF, natc, w64_in, shs]; first | done | assumption | omega | (simp only [natc] at *; omega))) ?_; cbv)
      | (refine bc_false (by first | assumption | (simp (disch := omega) only [hF, natc, w64_in, shs]; first | done | assumption | omega | (simp only [natc] at *; omega))) ?_; cbv)
      | (refine bc_split (fun h => ?_) (fun h => ?_) <;> (try simp (disch := omega) only [hF, natc, w64_in, shs] at h) <;> cbv)
      | (refine IdxVC.mk (by simp (disch := omega) only [hF, natc, w64_in, shs]; first | done | omega | (simp only [natc] at *; omega)) (fun kx hk hk2 => ?_); simp (disch := omega) only [hF, natc, w64_in, shs] at hk; (try obtain rfl : kx = 0 := hk); cbv)
      | (refine Chk.mk (by simp (disch := omega) only [maxN, hF, natc, w64_in, shs]; first | done | assumption | omega | (simp only [natc] at *; omega)) ?_; cbv)
      | (intro (hmx : _ ≤ maxN); replace hmx : _ ≤ 17592186044416 := hmx; cbv)
      | (intro _; cbv)
    subst hQ
    refine ⟨.ptr 1 0, [.obj (busX O1 i bo), .obj (busX O1 i bo)], ?_, rfl, rfl⟩
    refine (Ent.cls 0 [1, 2, 3] (busR O1 i bs bo) rfl rfl ?_).trans ((Ent.exI (o := fun bs => .mk (busR O1 i bs bo)) 0 bs rfl).trans ((Ent.cls 5 [4, 6, 7] (busR O1 i bs' bo) rfl rfl ?_).trans ((Ent.exI (o := fun bs => .mk (busR O1 i bs bo)) 5 bs' rfl).trans (Ent.ren [0, 5] rfl rfl ?_ ⟨rfl, trivial⟩))))
    · exact ⟨⟨rfl, rfl, trivial⟩, rfl, ⟨rfl, rfl, fun _ _ _ _ => rfl⟩, rfl, trivial⟩
    · exact ⟨⟨rfl, rfl, trivial⟩, rfl, ⟨rfl, rfl, fun _ _ _ _ => rfl⟩, rfl, trivial⟩
    · exact ⟨rfl, rfl, trivial⟩

end Go.Proofs.YtiaceoomiflgcaaGreat

end

section
namespace Go.Proofs.YtiaceoomiflgcaaGreat
open Go.V
set_option linter.unusedVariables false
set_option linter.unusedSimpArgs false
set_option maxRecDepth 100000
set_option maxHeartbeats 8000000

theorem nAll_o (f h : Nat) (rm : Nat → Int) (hf : f < 16) (hh : h ≤ 16) (L : Nat → Int) (hL : ∀ i, L i = rm ((f + i) % 16)) :
    CallOK (O := Ob) PR n_lane_Lane_All [.ptr 0 0] (nM f h rm) fun v m => v = .vec 2 ∧ m = [.blk [.one (.vec 1), .one (.dv (.int .i64 (f : Int))), .one (.dv (.int .i64 (h : Int)))], .vec 16 1 (fun i _ => .dv (.int .i64 (rm i))), .vec h 1 fun i _ => .dv (.int .i64 (L i))] := by
  unfold nM
  refine fn_walkv mixed fn_lane_Lane_All (Ent.refl _ _) fun bin cmp un conv bnot beq band sel isel ofN toN inb nz nneg lt le room' slb add sub sbin scmp slen sget ssub addk pc pb pi pf ps mkok min_ ig aeq P hP hA hF Q hQ => ?_
  cbv
  repeat' first
    | ((refine call_inl hP mixed hA code_lane_Lane_Len fn_lane_Lane_Len ?_); cbv)
    | (refine Chk.mk trivial ?_; cbv)
    | (refine bc_true (by first | assumption | (simp (disch := omega) only [hF, natc, w64_in, shs]; first | done | assumption | omega | (simp only [natc] at *; omega))) ?_; cbv)
    | (refine bc_false (by first | assumption | (simp (disch := omega) only [hF, natc, w64_in, shs]; first | done | assumption | omega | (simp only [natc] at *; omega))) ?_; cbv)
    | (refine bc_split (fun h => ?_) (fun h => ?_) <;> (try simp (disch := omega) only [hF, natc, w64_in, shs] at h) <;> cbv)
    | (refine IdxVC.mk (by simp (disch := omega) only [hF, natc, w64_in, shs]; first | done | omega | (simp only [natc] at *; omega)) (fun kx hk hk2 => ?_); simp (disch := omega) only [hF, natc, w64_in, shs] at hk; (try obtain rfl : kx = 0 := hk); cbv)
    | (refine Chk.mk (by simp (disch := omega) only [maxN, hF, natc, w64_in, shs]; first | done | assumption | omega | (simp only [natc] at *; omega)) ?_; cbv)
    | (intro (hmx : _ ≤ maxN); replace hmx : _ ≤ 17592186044416 := hmx; cbv)
    | (intro _; cbv)
  refine loop_up mixed hP hA (h) (fun i => True) [3, 4, 7, 8, 9, 10, 11, 12, 13, 14, 15, 16, 17, 18, 19, 20, 21, 22] (fun i => [(3, .vec 2), (7, .dv (.int .i64 (ofN i)))]) (fun i => [.blk [.one (.vec 1), .one (.dv (.int .i64 (f : Int))), .one (.dv (.int .i64 (h : Int)))], .vec 16 1 (fun i _ => .dv (.int .i64 (rm i))), .vec i 1 fun i _ => .dv (.int .i64 (L i))]) (trivial) ?_ fun Nx i hN hi hp => ?_
  · refine (Ent.nilv 3 1 (fun t _ => .dv (.int .i64 (L t))) rfl).trans (Ent.ren [0, 1, 2] rfl rfl ⟨⟨rfl, rfl, rfl, trivial⟩, ⟨rfl, rfl, fun _ _ _ _ => rfl⟩, ⟨rfl, rfl, fun _ _ _ _ => rfl⟩, trivial⟩ (by cbv; simp [hF]))
  cbv
  by_cases hlt : i < h
  · have hrm : room' (add i 1) 8 := by simp [hF, maxN]; omega
    have hat : bin .rem .i64 (bin .add .i64 (Int.ofNat f) (ofN i)) (ofN 16) = Int.ofNat ((f + i) % 16) := by
      simp only [hF, natc, Int.ofNat_eq_natCast]
      rw [w64_in (by omega), Int.tmod_eq_emod_of_nonneg (by omega)]
      omega
    have hp : (f + i) % 16 < 16 := Nat.mod_lt _ (by omega)
    have hLi := hL i
    generalize (f + i) % 16 = p at *
    cbv
    repeat' first
      | ((refine call_inl hP mixed hA code_lane_Lane_at fn_lane_Lane_at ?_); cbv)
      | ((rw [hat]); cbv)
      | ((refine Chk.mk hrm ?_); cbv)
      | ((refine And.intro ?_ ?_); cbv)
      | (refine Chk.mk trivial ?_; cbv)
      | (refine bc_true (by first | assumption | (simp (disch := omega) only [hF, natc, w64_in, shs]; first | done | assumption | omega | (simp only [natc] at *; omega))) ?_; cbv)
      | (refine bc_false (by first | assumption | (simp (disch := omega) only [hF, natc, w64_in, shs]; first | done | assumption | omega | (simp only [natc] at *; omega))) ?_; cbv)
      | (refine bc_split (fun h => ?_) (fun h => ?_) <;> (try simp (disch := omega) only [hF, natc, w64_in, shs] at h) <;> cbv)
      | (refine IdxVC.mk (by simp (disch := omega) only [hF, natc, w64_in, shs]; first | done | omega | (simp only [natc] at *; omega)) (fun kx hk hk2 => ?_); simp (disch := omega) only [hF, natc, w64_in, shs] at hk; (try obtain rfl : kx = 0 := hk); (try obtain rfl : p = kx := hk.symm); cbv)
      | (refine Chk.mk (by simp (disch := omega) only [maxN, hF, natc, w64_in, shs]; first | done | assumption | omega | (simp only [natc] at *; omega)) ?_; cbv)
      | (intro (hmx : _ ≤ maxN); replace hmx : _ ≤ 17592186044416 := hmx; cbv)
      | (intro _; cbv)
    refine hN _ hlt trivial (Ent.ren [0, 1, 4] rfl rfl ⟨⟨rfl, rfl, rfl, trivial⟩, ⟨rfl, rfl, fun _ _ _ _ => rfl⟩, ⟨by simp only [hF], rfl, fun x g hx hg => ?_⟩, trivial⟩ (by cbv; simp (disch := omega) [hF, natc, w64_in]))
    simp only [hF] at hx
    obtain rfl : g = 0 := by omega
    unfold appAt
    show VLe _ _ (.dv (.int .i64 (L x)))
    by_cases hxi : x < i
    · rw [if_pos hxi]; rfl
    · obtain rfl : x = i := by omega
      rw [if_neg hxi, hLi]
      simp only [hF, Nat.sub_self]
      rfl
  · obtain rfl : i = h := by omega
    cbv
    repeat' first
      | (refine Chk.mk trivial ?_; cbv)
      | (refine bc_true (by first | assumption | (simp (disch := omega) only [hF, natc, w64_in, shs]; first | done | assumption | omega | (simp only [natc] at *; omega))) ?_; cbv)
      | (refine bc_false (by first | assumption | (simp (disch := omega) only [hF, natc, w64_in, shs]; first | done | assumption | omega | (simp only [natc] at *; omega))) ?_; cbv)
      | (refine bc_split (fun h => ?_) (fun h => ?_) <;> (try simp (disch := omega) only [hF, natc, w64_in, shs] at h) <;> cbv)
      | (refine IdxVC.mk (by simp (disch := omega) only [hF, natc, w64_in, shs]; first | done | omega | (simp only [natc] at *; omega)) (fun kx hk hk2 => ?_); simp (disch := omega) only [hF, natc, w64_in, shs] at hk; (try obtain rfl : kx = 0 := hk); cbv)
      | (refine Chk.mk (by simp (disch := omega) only [maxN, hF, natc, w64_in, shs]; first | done | assumption | omega | (simp only [natc] at *; omega)) ?_; cbv)
      | (intro (hmx : _ ≤ maxN); replace hmx : _ ≤ 17592186044416 := hmx; cbv)
      | (intro _; cbv)
    subst hQ
    exact ⟨_, _, Ent.refl _ _, rfl, rfl⟩

theorem nAll (f h : Nat) (rm : Nat → Int) (hf : f < 16) (hh : h ≤ 16) (L : Nat → Int) (hL : ∀ i, L i = rm ((f + i) % 16)) :
    CallOK (O := Ob) PR n_lane_Lane_All [.ptr 0 0] [.obj (nO f h rm)] fun v m => v = .vec 1 ∧ m = [.obj (nO f h rm), .vec h 1 fun i _ => .dv (.int .i64 (L i))] := by
  refine CallOK.ent (CallOK.pre (args' := [.ptr 0 0]) (mem' := nM f h rm) Ent.opn1 (nAll_o f h rm hf hh L hL)) ?_
  rintro r m ⟨rfl, rfl⟩
  refine ⟨.vec 1, _, ?_, rfl, rfl⟩
  refine (Ent.cls 0 [1] (nM f h rm) rfl rfl ?_).trans (Ent.ren [0, 2] rfl rfl ?_ ⟨rfl, trivial⟩)
  · exact ⟨⟨rfl, rfl, rfl, trivial⟩, ⟨rfl, rfl, fun _ _ _ _ => rfl⟩, trivial⟩
  · exact ⟨rfl, ⟨rfl, rfl, fun _ _ _ _ => rfl⟩, trivial⟩

/-- A copy's room. -/
def clR (f h : Nat) (rm : Nat → Int) (i : Nat) : Int := if i < h then rm ((f + i) % 16) else 0

theorem nClone (f h : Nat) (rm : Nat → Int) (hf : f < 16) (hh : h ≤ 16) :
    CallOK (O := Ob) PR n_lane_Lane_Clone [.ptr 0 0] [.obj (nO f h rm)] fun v m => v = .ptr 1 0 ∧ m = [.obj (nO f h rm), .obj (nO 0 h (clR f h rm))] := by
  have ha := nAll_o f h rm hf hh (fun i => rm ((f + i) % 16)) fun _ => rfl
  have hcl : ∀ i, clR f h rm i = if i < h then rm ((f + i) % 16) else 0 := fun _ => rfl
  generalize clR f h rm = R at hcl ⊢
  unfold nM at ha
  refine fn_walkv mixed fn_lane_Lane_Clone Ent.opn1 fun bin cmp un conv bnot beq band sel isel ofN toN inb nz nneg lt le room' slb add sub sbin scmp slen sget ssub addk pc pb pi pf ps mkok min_ ig aeq P hP hA hF Q hQ => ?_
  have hmk : mkok (ofN 16) (ofN 16) 8 := by
    have e : mkok = std.mkok := congrArg Ar.mkok hA
    simp only [hF]
    rw [e]
    show _ ∧ _ ∧ _ ≤ ((17592186044416 : Nat) : Int) ∧ _
    refine ⟨rfl, ?_, ?_, ?_⟩ <;> decide
  cbv
  repeat' first
    | ((refine Chk.mk hmk ?_); cbv)
    | (refine call_at hP [0, 1] code_lane_Lane_All (ha) rfl ?_ ?_ ?_; (focus ((repeat' (first | exact trivial | exact rfl | (intro _ _ _ _; exact rfl) | refine And.intro ?_ ?_)); done)); (focus (cbv; (try simp); done)); rintro _ _ ⟨rfl, rfl⟩ _; cbv)
    | ((refine And.intro ?_ ?_); cbv)
    | (refine Chk.mk trivial ?_; cbv)
    | (refine bc_true (by first | assumption | (simp (disch := omega) only [hF, natc, w64_in, shs]; first | done | assumption | omega | (simp only [natc] at *; omega))) ?_; cbv)
    | (refine bc_false (by first | assumption | (simp (disch := omega) only [hF, natc, w64_in, shs]; first | done | assumption | omega | (simp only [natc] at *; omega))) ?_; cbv)
    | (refine bc_split (fun h => ?_) (fun h => ?_) <;> (try simp (disch := omega) only [hF, natc, w64_in, shs] at h) <;> cbv)
    | (refine IdxVC.mk (by simp (disch := omega) only [hF, natc, w64_in, shs]; first | done | omega | (simp only [natc] at *; omega)) (fun kx hk hk2 => ?_); simp (disch := omega) only [hF, natc, w64_in, shs] at hk; (try obtain rfl : kx = 0 := hk); cbv)
    | (refine Chk.mk (by simp (disch := omega) only [maxN, hF, natc, w64_in, shs]; first | done | assumption | omega | (simp only [natc] at *; omega)) ?_; cbv)
    | (intro (hmx : _ ≤ maxN); replace hmx : _ ≤ 17592186044416 := hmx; cbv)
    | (intro _; cbv)
  subst hQ
  refine ⟨.ptr 1 0, [.obj (.mk (nM f h rm)), .obj (.mk (nM 0 h R))], ?_, rfl, rfl⟩
  refine (Ent.cls 0 [1] (nM f h rm) rfl rfl ?_).trans ((Ent.cls 3 [2] (nM 0 h R) rfl rfl ?_).trans (Ent.ren [0, 3] rfl rfl ?_ ⟨rfl, trivial⟩))
  · exact ⟨⟨rfl, rfl, rfl, trivial⟩, ⟨rfl, rfl, fun _ _ _ _ => rfl⟩, trivial⟩
  · refine ⟨⟨rfl, rfl, rfl, trivial⟩, ⟨by simp only [hF]; rfl, rfl, fun i g hi hg => ?_⟩, trivial⟩
    have hi : i < toN (ofN 16) := hi
    have e16 : toN (ofN 16) = 16 := by simp only [hF]; rfl
    rw [e16] at hi
    obtain rfl : g = 0 := by omega
    show VLe _ (cpyAt _ _ _ _ i 0) (.dv (.int .i64 (R i)))
    unfold cpyAt
    by_cases hih : i < h
    · rw [if_pos ⟨Nat.zero_le _, by rw [e16]; simp only [hF]; omega⟩, hcl, if_pos hih]
      rfl
    · rw [if_neg (by rw [e16]; simp only [hF]; omega), hcl, if_neg hih]
      rfl
  · exact ⟨rfl, rfl, trivial⟩

end Go.Proofs.YtiaceoomiflgcaaGreat

end

section
namespace Go.Proofs.YtiaceoomiflgcaaGreat
open Go.V
set_option linter.unusedVariables false
set_option linter.unusedSimpArgs false
set_option maxRecDepth 100000
set_option maxHeartbeats 8000000

theorem xClone_w (bo bo' : Nat → Ob) (bits : Nat → Int) (cores : Nat) (bs : Nat → Nat) (h8 : cores ≤ 8)
    (hb : ∀ j, j < cores → CallOK (O := Ob) PR n_lane_Lane_Clone [.ptr 0 0] [.obj (.at_ (bs j) (bo j))] fun v m => v = .ptr 1 0 ∧ m = [.obj (.at_ (bs j) (bo j)), .obj (bo' j)]) :
    CallOK (O := Ob) PR n_mbox_Box_Clone [.ptr 0 0] [.obj (.mk (xR cores bs bits bo))] fun v m => v = .ptr 1 0 ∧ m = [.obj (xO cores bits bo), .obj (xO cores bits bo')] := by
  unfold xR
  refine fn_walkv mixed fn_mbox_Box_Clone Ent.opn1 fun bin cmp un conv bnot beq band sel isel ofN toN inb nz nneg lt le room' slb add sub sbin scmp slen sget ssub addk pc pb pi pf ps mkok min_ ig aeq P hP hA hF Q hQ => ?_
  cbv
  repeat' first
    | (refine Chk.mk trivial ?_; cbv)
    | (refine bc_true (by first | assumption | (simp (disch := omega) only [hF, natc, w64_in, shs]; first | done | assumption | omega | (simp only [natc] at *; omega))) ?_; cbv)
    | (refine bc_false (by first | assumption | (simp (disch := omega) only [hF, natc, w64_in, shs]; first | done | assumption | omega | (simp only [natc] at *; omega))) ?_; cbv)
    | (refine bc_split (fun h => ?_) (fun h => ?_) <;> (try simp (disch := omega) only [hF, natc, w64_in, shs] at h) <;> cbv)
    | (refine IdxVC.mk (by simp (disch := omega) only [hF, natc, w64_in, shs]; first | done | omega | (simp only [natc] at *; omega)) (fun kx hk hk2 => ?_); simp (disch := omega) only [hF, natc, w64_in, shs] at hk; (try obtain rfl : kx = 0 := hk); cbv)
    | (refine Chk.mk (by simp (disch := omega) only [maxN, hF, natc, w64_in, shs]; first | done | assumption | omega | (simp only [natc] at *; omega)) ?_; cbv)
    | (intro (hmx : _ ≤ maxN); replace hmx : _ ≤ 17592186044416 := hmx; cbv)
    | (intro _; cbv)
  refine loop_ex mixed hP hA (ι := Nat × (Nat → Nat)) (fun x => cores - x.1) (fun x => x.1 ≤ cores) [5, 15, 16, 17, 18, 19, 20, 21, 22, 23, 24, 25, 26, 27, 28, 29, 30, 31, 32, 33, 34] (fun x => [(15, .dv (.int .i64 (ofN x.1)))]) (fun x => [.blk [.one (.vec 1)], .vec cores 2 (fun j f => if f = 0 then .dv (.int .i64 (bits j)) else .gp (bs j)), .obj (.fam cores bs (fun _ => false) bo), .blk [.one (.vec 4)], .vec x.1 2 (fun j f => if f = 0 then .dv (.int .i64 (bits j)) else .gp (x.2 j)), .obj (.fam x.1 x.2 (fun _ => false) bo')]) ?_ fun Nx i hN hi => ?_
  · refine EntE.of (((Ent.env ?_).trans (Ent.nilvec (ss := [.one (.dv .nils)]) (ss' := [.one (.vec 4)]) 3 0 2 (fun j f => if f = 0 then .dv (.int .i64 (bits j)) else .gp 0) rfl rfl rfl)).trans (Ent.fam0 (fun _ => 0) bo')) ⟨(0, fun _ => 0), Nat.zero_le _, rfl⟩
    cbv; simp [hF]
  obtain ⟨i, bs'⟩ := i
  simp only at hi hN
  cbv
  by_cases hlt : i < cores
  · have hrm : room' (add i 1) 16 := by simp [hF, maxN]; omega
    have hb := hb i hlt
    cbv
    repeat' first
      | (refine Chk.mk trivial ?_; cbv)
      | (refine bc_true (by first | assumption | (simp (disch := omega) only [hF, natc, w64_in, shs]; first | done | assumption | omega | (simp only [natc] at *; omega))) ?_; cbv)
      | (refine bc_false (by first | assumption | (simp (disch := omega) only [hF, natc, w64_in, shs]; first | done | assumption | omega | (simp only [natc] at *; omega))) ?_; cbv)
      | (refine bc_split (fun h => ?_) (fun h => ?_) <;> (try simp (disch := omega) only [hF, natc, w64_in, shs] at h) <;> cbv)
      | (refine IdxVC.mk (by simp (disch := omega) only [hF, natc, w64_in, shs]; first | done | omega | (simp only [natc] at *; omega)) (fun kx hk hk2 => ?_); simp (disch := omega) only [hF, natc, w64_in, shs] at hk; (try obtain rfl : kx = 0 := hk); (try obtain rfl : i = kx := hk.symm); cbv)
      | (refine Chk.mk (by simp (disch := omega) only [maxN, hF, natc, w64_in, shs]; first | done | assumption | omega | (simp only [natc] at *; omega)) ?_; cbv)
      | (intro (hmx : _ ≤ maxN); replace hmx : _ ≤ 17592186044416 := hmx; cbv)
      | (intro _; cbv)
    refine call_fam 2 i [0] rfl hlt rfl ⟨rfl, trivial⟩ ?_
    cbv
    repeat' first
      | (refine call_at hP [7] code_lane_Lane_Clone (hb) rfl ?_ ?_ ?_; (focus ((repeat' (first | exact trivial | exact rfl | (intro _ _ _ _; exact rfl) | refine And.intro ?_ ?_)); done)); (focus (cbv; (try simp); done)); rintro _ _ ⟨rfl, rfl⟩ _; cbv)
      | ((refine Chk.mk hrm ?_); cbv)
      | ((refine And.intro ?_ ?_); cbv)
      | (refine Chk.mk trivial ?_; cbv)
      | (refine bc_true (by first | assumption | (simp (disch := omega) only [hF, natc, w64_in, shs]; first | done | assumption | omega | (simp only [natc] at *; omega))) ?_; cbv)
      | (refine bc_false (by first | assumption | (simp (disch := omega) only [hF, natc, w64_in, shs]; first | done | assumption | omega | (simp only [natc] at *; omega))) ?_; cbv)
      | (refine bc_split (fun h => ?_) (fun h => ?_) <;> (try simp (disch := omega) only [hF, natc, w64_in, shs] at h) <;> cbv)
      | (refine IdxVC.mk (by simp (disch := omega) only [hF, natc, w64_in, shs]; first | done | omega | (simp only [natc] at *; omega)) (fun kx hk hk2 => ?_); simp (disch := omega) only [hF, natc, w64_in, shs] at hk; (try obtain rfl : kx = 0 := hk); cbv)
      | (refine Chk.mk (by simp (disch := omega) only [maxN, hF, natc, w64_in, shs]; first | done | assumption | omega | (simp only [natc] at *; omega)) ?_; cbv)
      | (intro (hmx : _ ≤ maxN); replace hmx : _ ≤ 17592186044416 := hmx; cbv)
      | (intro _; cbv)
    have e : add i 1 = i + 1 := by simp only [hF]
    rw [e]
    refine hN _ (EntE.pre (Ent.famC 2 7 i (sk' := fun _ => false) (o' := bo) (x := bo i) rfl rfl (by decide) hlt (by simp) (fun j _ => ?_) (fun j _ => ?_)) ((famA (o' := bo') 10 5 8 1 rfl rfl rfl (by decide) (fun j hj => ?_) ?_ (fun _ _ => rfl) rfl).bind fun t ⟨b2, ht⟩ => ?_))
    · by_cases h : j = i <;> simp [h]
    · by_cases h : j = i <;> simp [h]
    · unfold appAt; rw [if_pos hj]; rfl
    · unfold appAt; rw [if_neg (Nat.lt_irrefl _)]; simp only [hF, Nat.sub_self]; rfl
    · subst ht
      refine EntE.of (Ent.ren [0, 1, 2, 3, 10, 5] rfl rfl ?_ ?_) ⟨(i + 1, b2), hlt, by show cores - (i + 1) < cores - i; omega, rfl⟩
      · refine ⟨⟨rfl, trivial⟩, ⟨rfl, rfl, fun j f hj hf => ?_⟩, rfl, ⟨rfl, trivial⟩, ⟨rfl, rfl, fun j f hj hf => ?_⟩, rfl, trivial⟩
        · rcases (by omega : f = 0 ∨ f = 1) with rfl | rfl <;> rfl
        · rcases (by omega : f = 0 ∨ f = 1) with rfl | rfl
          · dsimp only
            rw [if_neg (by decide : ¬ (0 : Nat) = 1)]
            unfold appAt
            by_cases h : j < i
            · rw [if_pos h]; rfl
            · obtain rfl : j = i := by omega
              rw [if_neg h]; simp only [hF, Nat.sub_self]; rfl
          · rfl
      · cbv; simp (disch := omega) [hF, natc, w64_in]
  · obtain rfl : i = cores := by omega
    cbv
    repeat' first
      | (refine Chk.mk trivial ?_; cbv)
      | (refine bc_true (by first | assumption | (simp (disch := omega) only [hF, natc, w64_in, shs]; first | done | assumption | omega | (simp only [natc] at *; omega))) ?_; cbv)
      | (refine bc_false (by first | assumption | (simp (disch := omega) only [hF, natc, w64_in, shs]; first | done | assumption | omega | (simp only [natc] at *; omega))) ?_; cbv)
      | (refine bc_split (fun h => ?_) (fun h => ?_) <;> (try simp (disch := omega) only [hF, natc, w64_in, shs] at h) <;> cbv)
      | (refine IdxVC.mk (by simp (disch := omega) only [hF, natc, w64_in, shs]; first | done | omega | (simp only [natc] at *; omega)) (fun kx hk hk2 => ?_); simp (disch := omega) only [hF, natc, w64_in, shs] at hk; (try obtain rfl : kx = 0 := hk); cbv)
      | (refine Chk.mk (by simp (disch := omega) only [maxN, hF, natc, w64_in, shs]; first | done | assumption | omega | (simp only [natc] at *; omega)) ?_; cbv)
      | (intro (hmx : _ ≤ maxN); replace hmx : _ ≤ 17592186044416 := hmx; cbv)
      | (intro _; cbv)
    subst hQ
    refine ⟨.ptr 1 0, [.obj (xO i bits bo), .obj (xO i bits bo')], ?_, rfl, rfl⟩
    refine (Ent.cls 0 [1, 2] (xR i bs bits bo) rfl rfl ?_).trans ((Ent.exI (o := fun bs => .mk (xR i bs bits bo)) 0 bs rfl).trans ((Ent.cls 3 [4, 5] (xR i bs' bits bo') rfl rfl ?_).trans ((Ent.exI (o := fun bs => .mk (xR i bs bits bo')) 3 bs' rfl).trans (Ent.ren [0, 3] rfl rfl ?_ ⟨rfl, trivial⟩))))
    · refine ⟨⟨rfl, trivial⟩, ⟨rfl, rfl, fun j f hj hf => ?_⟩, rfl, trivial⟩
      rcases (by omega : f = 0 ∨ f = 1) with rfl | rfl <;> rfl
    · refine ⟨⟨rfl, trivial⟩, ⟨rfl, rfl, fun j f hj hf => ?_⟩, rfl, trivial⟩
      rcases (by omega : f = 0 ∨ f = 1) with rfl | rfl <;> rfl
    · exact ⟨rfl, rfl, trivial⟩

end Go.Proofs.YtiaceoomiflgcaaGreat

end

namespace Go.V

theorem eqItems_ints {P : Program} {d : Nat} {e : TypeId} {k : IntKind} (he : P.underlying e = some (.int k)) {xs ys : List Value} {w : World} : ∀ (m off : Nat), off + m = xs.length → off + m = ys.length →
    all2 valSame (xs.drop off) (ys.drop off) = true → (Op.eqItems (d + 1) e 1 xs.toArray ys.toArray (List.range' off m)).run P w = .ok (all2 valEq (xs.drop off) (ys.drop off)) w
  | 0, off, hx, hy, _ => by
    rw [List.drop_of_length_le (by omega), List.drop_of_length_le (by omega)]
    simp [Op.eqItems, all2]
  | m + 1, off, hx, hy, hs => by
    have lx : off < xs.length := by omega
    have ly : off < ys.length := by omega
    rw [List.drop_eq_getElem_cons lx, List.drop_eq_getElem_cons ly] at hs ⊢
    simp only [all2, Bool.and_eq_true] at hs
    have hp : P.plainKey e = true := by unfold Program.plainKey; rw [he]
    have ih := eqItems_ints (d := d) (w := w) he m (off + 1) (by omega) (by omega) hs.2
    have h0 := hs.1
    have p1 : (part e xs.toArray (off * 1)).run P w = .ok xs[off] w := run_part_plain w hp (by simp [lx])
    have p2 : (part e ys.toArray (off * 1)).run P w = .ok ys[off] w := run_part_plain w hp (by simp [ly])
    generalize xs[off] = a at *
    generalize ys[off] = b at *
    unfold valSame at h0
    split at h0
    · rename_i k1 x k2 y
      have hk : k1 = k2 := ikEq_eq h0
      subst hk
      have q := run_equalIn_int (P := P) w d e k1 k x y he
      simp only [List.range'_succ, Op.eqItems, Sem.run_bind, p1, p2, q, Result.andThen_ok, all2, valEq]
      cases hb : (x == y)
      · simp
      · simpa using ih
    · cases h0

theorem eqAg_arr {P : Program} {t e : TypeId} {n : Nat} {k : IntKind} {i : TypeInfo} (hu : P.underlying t = some (.array n e)) (hi : P.info? e = some i) (he : P.underlying e = some (.int k)) (hc : P.cellsOf e = 1)
    (hg : P.eqGuardType P.depth t = false) : EqAg P t n where
  eq xs ys w hx hy h := by
    show (Op.equalIn (9998 + 1 + 1) t _ _).run P w = _
    rw [run_equalIn_array w _ _ _ hu hi, hc, List.range_eq_range']
    exact eqItems_ints (d := 9998) he n 0 (by omega) (by omega) h
  gd := hg

def leafB (P : Program) (e : TypeId) : Option Bool := match P.underlying e with
  | some (.int _) => some false
  | some .bool => some true
  | _ => none

theorem leaf_eq {P : Program} {d : Nat} {e : TypeId} {b : Bool} {x : Value} {w : World} (he : leafB P e = some b) (hf : vfit b x = true) : P.plainKey e = true ∧ (Op.equalIn (d + 1) e x x).run P w = .ok true w := by
  unfold leafB at he
  split at he
  · rename_i k hu
    simp only [Option.some.injEq] at he
    subst he
    refine ⟨by unfold Program.plainKey; rw [hu], ?_⟩
    cases x <;> simp [vfit] at hf
    rename_i k1 n
    have := run_equalIn_int (P := P) w d e k1 k n n hu
    simpa using this
  · rename_i hu
    simp only [Option.some.injEq] at he
    subst he
    refine ⟨by unfold Program.plainKey; rw [hu], ?_⟩
    cases x <;> simp [vfit] at hf
    rename_i c
    have := run_equalIn_bool (P := P) w d e c c hu
    simpa using this
  · cases he

theorem eqItems_self {P : Program} {d : Nat} {e : TypeId} {b : Bool} (he : leafB P e = some b) {xs : List Value} {w : World} : ∀ (m off : Nat), off + m = xs.length → (∀ x ∈ xs, vfit b x = true) →
    (Op.eqItems (d + 1) e 1 xs.toArray xs.toArray (List.range' off m)).run P w = .ok true w
  | 0, off, hx, _ => by simp [Op.eqItems]
  | m + 1, off, hx, hs => by
    have lx : off < xs.length := by omega
    obtain ⟨hp, q⟩ := leaf_eq (d := d) (w := w) he (hs xs[off] (List.getElem_mem lx))
    have ih := eqItems_self (d := d) (w := w) he m (off + 1) (by omega) hs
    have p1 : (part e xs.toArray (off * 1)).run P w = .ok xs[off] w := run_part_plain w hp (by simp [lx])
    simp only [List.range'_succ, Op.eqItems, Sem.run_bind, p1, q, Result.andThen_ok]
    simpa using ih

def fieldsSh (P : Program) : Nat → List Field → Option (List Bool)
  | _, [] => some []
  | off, f :: r => if f.name ≠ "_" ∧ f.offset = off then (match leafB P f.type with
      | some b => (match fieldsSh P (off + 1) r with | some l => some (b :: l) | none => none)
      | none => (match P.underlying f.type with
        | some (.array n e) => if P.cellsOf e = 1 ∧ P.cellsOf f.type = n then (match leafB P e, fieldsSh P (off + n) r with | some b, some l => some (List.replicate n b ++ l) | _, _ => none) else none
        | _ => none)) else none

theorem fits_len : ∀ {sh : List Bool} {xs : List Value}, fits sh xs = true → sh.length = xs.length
  | [], [], _ => rfl
  | b :: l, x :: r, h => by simp only [fits, Bool.and_eq_true] at h; simp [fits_len h.2]
  | [], _ :: _, h => by simp [fits] at h
  | _ :: _, [], h => by simp [fits] at h

theorem fits_rep {b : Bool} : ∀ {n : Nat} {l : List Bool} {xs : List Value}, fits (List.replicate n b ++ l) xs = true → (∀ x ∈ xs.take n, vfit b x = true) ∧ fits l (xs.drop n) = true
  | 0, l, xs, h => ⟨fun x hx => by simp at hx, by simpa using h⟩
  | n + 1, l, [], h => by simp [List.replicate_succ, fits] at h
  | n + 1, l, y :: xs, h => by
    simp only [List.replicate_succ, List.cons_append, fits, Bool.and_eq_true] at h
    obtain ⟨i1, i2⟩ := fits_rep h.2
    refine ⟨fun x hx => ?_, by simpa using i2⟩
    rw [List.take_succ_cons, List.mem_cons] at hx
    rcases hx with rfl | hx
    · exact h.1
    · exact i1 x hx

theorem eqFields_self {P : Program} {d : Nat} {w : World} {xs : List Value} : ∀ (fs : List Field) (off : Nat) (sh : List Bool), fieldsSh P off fs = some sh → fits sh (xs.drop off) = true → off ≤ xs.length →
    (Op.eqFields (d + 2) xs.toArray xs.toArray fs).run P w = .ok true w
  | [], off, sh, _, _, _ => by simp [Op.eqFields]
  | f :: r, off, sh, h, hf, ho => by
    simp only [fieldsSh] at h
    split at h
    · rename_i hno
      obtain ⟨hn, hoff⟩ := hno
      split at h
      · rename_i b hb
        split at h
        · rename_i l hl
          simp only [Option.some.injEq] at h
          subst h
          have hlen := fits_len hf
          simp only [List.length_cons, List.length_drop] at hlen
          have lx : off < xs.length := by omega
          rw [List.drop_eq_getElem_cons lx] at hf
          simp only [fits, Bool.and_eq_true] at hf
          obtain ⟨hp, q⟩ := leaf_eq (d := d + 1) (w := w) hb hf.1
          have ih := eqFields_self (d := d) (w := w) r (off + 1) l hl hf.2 (by omega)
          have p1 : (part f.type xs.toArray f.offset).run P w = .ok xs[off] w := run_part_plain w hp (by rw [hoff]; simp [lx])
          simp only [Op.eqFields, hn, ne_eq, not_false_eq_true, if_true, Sem.run_bind, p1, q, Result.andThen_ok]
          simpa using ih
        · cases h
      · split at h
        · rename_i n e hu
          split at h
          · rename_i hce
            obtain ⟨hc1, hc2⟩ := hce
            split at h
            · rename_i b l hb hl
              simp only [Option.some.injEq] at h
              subst h
              have hlen := fits_len hf
              simp only [List.length_append, List.length_replicate, List.length_drop] at hlen
              obtain ⟨j1, j2⟩ := fits_rep hf
              rw [List.drop_drop] at j2
              have ih := eqFields_self (d := d) (w := w) r (off + n) l hl j2 (by omega)
              obtain ⟨i, hi⟩ := info_of_underlying hu
              obtain ⟨ie, hie⟩ : ∃ i, P.info? e = some i := by
                unfold leafB at hb
                split at hb
                · rename_i k hue; exact info_of_underlying hue
                · rename_i hue; exact info_of_underlying hue
                · cases hb
              have p1 : (part f.type xs.toArray f.offset).run P w = .ok (.agg ((xs.drop off).take n).toArray) w := by
                simp [part, isAgg, run_underlying hu, Go.run_sizeOf w hi, hc2, hoff]
              have q : (Op.equalIn (d + 2) f.type (.agg ((xs.drop off).take n).toArray) (.agg ((xs.drop off).take n).toArray)).run P w = .ok true w := by
                rw [run_equalIn_array w _ _ _ hu hie, hc1, List.range_eq_range']
                exact eqItems_self (d := d) hb n 0 (by rw [List.length_take, List.length_drop]; omega) j1
              simp only [Op.eqFields, hn, ne_eq, not_false_eq_true, if_true, Sem.run_bind, p1, q, Result.andThen_ok]
              simpa using ih
            · cases h
          · cases h
        · cases h
    · cases h

theorem eqAgS_struct {P : Program} {t : TypeId} {sh : List Bool} (hu : P.underlying t = some (.struct (P.fieldsOf t))) (hf : fieldsSh P 0 (P.fieldsOf t).toList = some sh) (hs : P.stoodInHeld t = false)
    (hg : P.eqGuardType P.depth t = false) : EqAgS P t sh where
  eq xs w h := by
    show (Op.equalIn (9997 + 2 + 1) t _ _).run P w = _
    rw [run_equalIn_struct w _ t _ _ hu hs]
    exact eqFields_self (d := 9997) _ 0 sh hf h (Nat.zero_le _)
  gd := hg

/-- Whether a type is an array of so many whole numbers. -/
def arrOK (P : Program) (t : TypeId) (n : Nat) : Bool := match P.underlying t with
  | some (.array m e) => Nat.beq m n && Nat.beq (P.cellsOf e) 1 && (match P.underlying e with | some (.int _) => true | _ => false) && !P.eqGuardType P.depth t
  | _ => false

theorem eqAg_of {P : Program} {t : TypeId} {n : Nat} (h : arrOK P t n = true) : EqAg P t n := by
  unfold arrOK at h
  split at h
  · rename_i m e hu
    simp only [Bool.and_eq_true] at h
    obtain ⟨⟨⟨h1, h2⟩, h3⟩, h4⟩ := h
    obtain rfl := Nat.eq_of_beq_eq_true h1
    split at h3
    · rename_i k he
      obtain ⟨i, hi⟩ := info_of_underlying he
      exact eqAg_arr hu hi he (Nat.eq_of_beq_eq_true h2) (by simpa using h4)
    · cases h3
  · cases h

end Go.V

section
namespace Go.Proofs.YtiaceoomiflgcaaGreat
open Go.V
set_option linter.unusedVariables false
set_option linter.unusedSimpArgs false
set_option maxRecDepth 100000
set_option maxHeartbeats 8000000

theorem kClone (c n : Nat) (ow : Nat → Int) : CallOK (O := Ob) PR n_locks_Bank_Clone [.ptr 0 0] [.obj (kO c n ow)] fun v m => v = .ptr 1 0 ∧ m = [.obj (kO c n ow), .obj (kO c n ow)] := by
  unfold kO kM
  refine fn_walkv mixed fn_locks_Bank_Clone Ent.opn1 fun bin cmp un conv bnot beq band sel isel ofN toN inb nz nneg lt le room' slb add sub sbin scmp slen sget ssub addk pc pb pi pf ps mkok min_ ig aeq P hP hA hF Q hQ => ?_
  cbv
  repeat' first
    | (refine Chk.mk trivial ?_; cbv)
    | (refine bc_true (by first | assumption | (simp (disch := omega) only [hF, natc, w64_in, shs]; first | done | assumption | omega | (simp only [natc] at *; omega))) ?_; cbv)
    | (refine bc_false (by first | assumption | (simp (disch := omega) only [hF, natc, w64_in, shs]; first | done | assumption | omega | (simp only [natc] at *; omega))) ?_; cbv)
    | (refine bc_split (fun h => ?_) (fun h => ?_) <;> (try simp (disch := omega) only [hF, natc, w64_in, shs] at h) <;> cbv)
    | (refine IdxVC.mk (by simp (disch := omega) only [hF, natc, w64_in, shs]; first | done | omega | (simp only [natc] at *; omega)) (fun kx hk hk2 => ?_); simp (disch := omega) only [hF, natc, w64_in, shs] at hk; (try obtain rfl : kx = 0 := hk); cbv)
    | (refine Chk.mk (by simp (disch := omega) only [maxN, hF, natc, w64_in, shs]; first | done | assumption | omega | (simp only [natc] at *; omega)) ?_; cbv)
    | (intro (hmx : _ ≤ maxN); replace hmx : _ ≤ 17592186044416 := hmx; cbv)
    | (intro _; cbv)
  subst hQ
  refine ⟨.ptr 1 0, [.obj (.mk (kM c n ow)), .obj (.mk (kM c n ow))], ?_, rfl, rfl⟩
  refine (Ent.cls 0 [] (kM c n ow) rfl rfl ?_).trans ((Ent.cls 1 [] (kM c n ow) rfl rfl ?_).trans (Ent.ren [0, 1] rfl rfl ?_ ⟨rfl, trivial⟩))
  · exact ⟨⟨rfl, rfl, ⟨rfl, rfl, fun _ _ _ _ => rfl⟩, trivial⟩, trivial⟩
  · refine ⟨⟨rfl, rfl, ⟨rfl, rfl, fun i f hi hf => ?_⟩, trivial⟩, trivial⟩
    obtain rfl : f = 0 := by omega
    rcases (by omega : i = 0 ∨ i = 1 ∨ i = 2 ∨ i = 3 ∨ i = 4 ∨ i = 5 ∨ i = 6 ∨ i = 7 ∨ i = 8 ∨ i = 9 ∨ i = 10 ∨ i = 11 ∨ i = 12 ∨ i = 13 ∨ i = 14 ∨ i = 15) with rfl | rfl | rfl | rfl | rfl | rfl | rfl | rfl | rfl | rfl | rfl | rfl | rfl | rfl | rfl | rfl <;> rfl
  · exact ⟨rfl, rfl, trivial⟩

theorem gClone (c : Nat) (ep : Nat → Int) (hd : Nat → Bool) : CallOK (O := Ob) PR n_gate_Gate_Clone [.ptr 0 0] [.obj (gO c ep hd)] fun v m => v = .ptr 1 0 ∧ m = [.obj (gO c ep hd), .obj (gO c ep hd)] := by
  unfold gO gM
  refine fn_walkv mixed fn_gate_Gate_Clone Ent.opn1 fun bin cmp un conv bnot beq band sel isel ofN toN inb nz nneg lt le room' slb add sub sbin scmp slen sget ssub addk pc pb pi pf ps mkok min_ ig aeq P hP hA hF Q hQ => ?_
  cbv
  repeat' first
    | (refine Chk.mk trivial ?_; cbv)
    | (refine bc_true (by first | assumption | (simp (disch := omega) only [hF, natc, w64_in, shs]; first | done | assumption | omega | (simp only [natc] at *; omega))) ?_; cbv)
    | (refine bc_false (by first | assumption | (simp (disch := omega) only [hF, natc, w64_in, shs]; first | done | assumption | omega | (simp only [natc] at *; omega))) ?_; cbv)
    | (refine bc_split (fun h => ?_) (fun h => ?_) <;> (try simp (disch := omega) only [hF, natc, w64_in, shs] at h) <;> cbv)
    | (refine IdxVC.mk (by simp (disch := omega) only [hF, natc, w64_in, shs]; first | done | omega | (simp only [natc] at *; omega)) (fun kx hk hk2 => ?_); simp (disch := omega) only [hF, natc, w64_in, shs] at hk; (try obtain rfl : kx = 0 := hk); cbv)
    | (refine Chk.mk (by simp (disch := omega) only [maxN, hF, natc, w64_in, shs]; first | done | assumption | omega | (simp only [natc] at *; omega)) ?_; cbv)
    | (intro (hmx : _ ≤ maxN); replace hmx : _ ≤ 17592186044416 := hmx; cbv)
    | (intro _; cbv)
  subst hQ
  refine ⟨.ptr 1 0, [.obj (.mk (gM c ep hd)), .obj (.mk (gM c ep hd))], ?_, rfl, rfl⟩
  refine (Ent.cls 0 [] (gM c ep hd) rfl rfl ?_).trans ((Ent.cls 1 [] (gM c ep hd) rfl rfl ?_).trans (Ent.ren [0, 1] rfl rfl ?_ ⟨rfl, trivial⟩))
  · exact ⟨⟨rfl, ⟨rfl, rfl, fun _ _ _ _ => rfl⟩, ⟨rfl, rfl, fun _ _ _ _ => rfl⟩, trivial⟩, trivial⟩
  · refine ⟨⟨rfl, ⟨rfl, rfl, fun i f hi hf => ?_⟩, ⟨rfl, rfl, fun i f hi hf => ?_⟩, trivial⟩, trivial⟩
    · obtain rfl : f = 0 := by omega
      rcases (by omega : i = 0 ∨ i = 1 ∨ i = 2 ∨ i = 3 ∨ i = 4 ∨ i = 5 ∨ i = 6 ∨ i = 7) with rfl | rfl | rfl | rfl | rfl | rfl | rfl | rfl <;> rfl
    · obtain rfl : f = 0 := by omega
      rcases (by omega : i = 0 ∨ i = 1 ∨ i = 2 ∨ i = 3 ∨ i = 4 ∨ i = 5 ∨ i = 6 ∨ i = 7) with rfl | rfl | rfl | rfl | rfl | rfl | rfl | rfl <;> rfl
  · exact ⟨rfl, rfl, trivial⟩

theorem gSame (c : Nat) (ep : Nat → Int) (hd : Nat → Bool) : CallOK (O := Ob) PR n_gate_Same [.ptr 0 0, .ptr 1 0] [.obj (gO c ep hd), .obj (gO c ep hd)] fun v m => v = .dv (.bool true) ∧ m = [.obj (gO c ep hd), .obj (gO c ep hd)] := by
  refine fn_walkv mixed fn_gate_Same (mem1 := [.blk [.one (.dv (.int .i64 (c : Int))), .arr 8 1 (fun i _ => .dv (.int .i64 (ep i))), .arr 8 1 (fun i _ => .dv (.bool (hd i)))], .blk [.one (.dv (.int .i64 (c : Int))), .arr 8 1 (fun i _ => .dv (.int .i64 (ep i))), .arr 8 1 (fun i _ => .dv (.bool (hd i)))]]) ?_ fun bin cmp un conv bnot beq band sel isel ofN toN inb nz nneg lt le room' slb add sub sbin scmp slen sget ssub addk pc pb pi pf ps mkok min_ ig aeq P hP hA hF Q hQ => ?_
  · refine ((Ent.opn (lmem := gM c ep hd) 0 rfl).trans (Ent.opn (lmem := gM c ep hd) 1 rfl)).trans (Ent.ren [0, 1] rfl rfl ?_ ⟨rfl, rfl, trivial⟩)
    exact ⟨⟨rfl, ⟨rfl, rfl, fun _ _ _ _ => rfl⟩, ⟨rfl, rfl, fun _ _ _ _ => rfl⟩, trivial⟩, ⟨rfl, ⟨rfl, rfl, fun _ _ _ _ => rfl⟩, ⟨rfl, rfl, fun _ _ _ _ => rfl⟩, trivial⟩, trivial⟩
  have hE : EqAgS P 201 [false, false, false, false, false, false, false, false, false, true, true, true, true, true, true, true, true] := by rw [hP]; exact eqAgS_struct (by kernel_rfl) (by kernel_rfl) (by kernel_rfl) (by kernel_rfl)
  cbv
  repeat' first
    | ((refine Chk.mk hE ?_); cbv)
    | (refine Chk.mk trivial ?_; cbv)
    | (refine bc_true (by first | assumption | (simp (disch := omega) only [hF, natc, w64_in, shs]; first | done | assumption | omega | (simp only [natc] at *; omega))) ?_; cbv)
    | (refine bc_false (by first | assumption | (simp (disch := omega) only [hF, natc, w64_in, shs]; first | done | assumption | omega | (simp only [natc] at *; omega))) ?_; cbv)
    | (refine bc_split (fun h => ?_) (fun h => ?_) <;> (try simp (disch := omega) only [hF, natc, w64_in, shs] at h) <;> cbv)
    | (refine IdxVC.mk (by simp (disch := omega) only [hF, natc, w64_in, shs]; first | done | omega | (simp only [natc] at *; omega)) (fun kx hk hk2 => ?_); simp (disch := omega) only [hF, natc, w64_in, shs] at hk; (try obtain rfl : kx = 0 := hk); cbv)
    | (refine Chk.mk (by simp (disch := omega) only [maxN, hF, natc, w64_in, shs]; first | done | assumption | omega | (simp only [natc] at *; omega)) ?_; cbv)
    | (intro (hmx : _ ≤ maxN); replace hmx : _ ≤ 17592186044416 := hmx; cbv)
    | (intro _; cbv)
  subst hQ
  refine ⟨.dv (.bool true), [.obj (.mk (gM c ep hd)), .obj (.mk (gM c ep hd))], ?_, rfl, rfl⟩
  refine (Ent.cls 0 [] (gM c ep hd) rfl rfl ?_).trans ((Ent.cls 1 [] (gM c ep hd) rfl rfl ?_).trans (Ent.ren [0, 1] rfl rfl ?_ ⟨rfl, trivial⟩))
  · exact ⟨⟨rfl, ⟨rfl, rfl, fun _ _ _ _ => rfl⟩, ⟨rfl, rfl, fun _ _ _ _ => rfl⟩, trivial⟩, trivial⟩
  · exact ⟨⟨rfl, ⟨rfl, rfl, fun _ _ _ _ => rfl⟩, ⟨rfl, rfl, fun _ _ _ _ => rfl⟩, trivial⟩, trivial⟩
  · exact ⟨rfl, rfl, trivial⟩

theorem kSame (c n : Nat) (ow : Nat → Int) : CallOK (O := Ob) PR n_locks_Same [.ptr 0 0, .ptr 1 0] [.obj (kO c n ow), .obj (kO c n ow)] fun v m => v = .dv (.bool true) ∧ m = [.obj (kO c n ow), .obj (kO c n ow)] := by
  refine fn_walkv mixed fn_locks_Same (mem1 := [.blk [.one (.dv (.int .i64 (c : Int))), .one (.dv (.int .i64 (n : Int))), .arr 16 1 (fun i _ => .dv (.int .i64 (ow i)))], .blk [.one (.dv (.int .i64 (c : Int))), .one (.dv (.int .i64 (n : Int))), .arr 16 1 (fun i _ => .dv (.int .i64 (ow i)))]]) ?_ fun bin cmp un conv bnot beq band sel isel ofN toN inb nz nneg lt le room' slb add sub sbin scmp slen sget ssub addk pc pb pi pf ps mkok min_ ig aeq P hP hA hF Q hQ => ?_
  · refine ((Ent.opn (lmem := kM c n ow) 0 rfl).trans (Ent.opn (lmem := kM c n ow) 1 rfl)).trans (Ent.ren [0, 1] rfl rfl ?_ ⟨rfl, rfl, trivial⟩)
    exact ⟨⟨rfl, rfl, ⟨rfl, rfl, fun _ _ _ _ => rfl⟩, trivial⟩, ⟨rfl, rfl, ⟨rfl, rfl, fun _ _ _ _ => rfl⟩, trivial⟩, trivial⟩
  have hae : aeq [.dv (.int .i64 (ow (0 / 1))), .dv (.int .i64 (ow (1 / 1))), .dv (.int .i64 (ow (2 / 1))), .dv (.int .i64 (ow (3 / 1))), .dv (.int .i64 (ow (4 / 1))), .dv (.int .i64 (ow (5 / 1))), .dv (.int .i64 (ow (6 / 1))), .dv (.int .i64 (ow (7 / 1))), .dv (.int .i64 (ow (8 / 1))), .dv (.int .i64 (ow (9 / 1))), .dv (.int .i64 (ow (10 / 1))), .dv (.int .i64 (ow (11 / 1))), .dv (.int .i64 (ow (12 / 1))), .dv (.int .i64 (ow (13 / 1))), .dv (.int .i64 (ow (14 / 1))), .dv (.int .i64 (ow (15 / 1)))] [.dv (.int .i64 (ow (0 / 1))), .dv (.int .i64 (ow (1 / 1))), .dv (.int .i64 (ow (2 / 1))), .dv (.int .i64 (ow (3 / 1))), .dv (.int .i64 (ow (4 / 1))), .dv (.int .i64 (ow (5 / 1))), .dv (.int .i64 (ow (6 / 1))), .dv (.int .i64 (ow (7 / 1))), .dv (.int .i64 (ow (8 / 1))), .dv (.int .i64 (ow (9 / 1))), .dv (.int .i64 (ow (10 / 1))), .dv (.int .i64 (ow (11 / 1))), .dv (.int .i64 (ow (12 / 1))), .dv (.int .i64 (ow (13 / 1))), .dv (.int .i64 (ow (14 / 1))), .dv (.int .i64 (ow (15 / 1)))] = true := by
    have e : aeq = std.aeq := congrArg Ar.aeq hA
    rw [e]
    show dvEqs _ _ = true
    simp only [dvEqs, dvEq, beq_self_eq_true, Bool.and_self]
  have hcc : cmp .eql (Int.ofNat c) (Int.ofNat c) = true := by simp only [hF]; simp
  have hnn : cmp .eql (Int.ofNat n) (Int.ofNat n) = true := by simp only [hF]; simp
  cbv
  repeat' first
    | ((rw [hcc]); cbv)
    | ((rw [hnn]); cbv)
    | ((refine Chk.mk (by rw [hP]; exact eqAg_of (by kernel_rfl)) ?_); cbv)
    | ((rw [hae]); cbv)
    | (refine Chk.mk trivial ?_; cbv)
    | (refine bc_true (by first | assumption | (simp (disch := omega) only [hF, natc, w64_in, shs]; first | done | assumption | omega | (simp only [natc] at *; omega))) ?_; cbv)
    | (refine bc_false (by first | assumption | (simp (disch := omega) only [hF, natc, w64_in, shs]; first | done | assumption | omega | (simp only [natc] at *; omega))) ?_; cbv)
    | (refine bc_split (fun h => ?_) (fun h => ?_) <;> (try simp (disch := omega) only [hF, natc, w64_in, shs] at h) <;> cbv)
    | (refine IdxVC.mk (by simp (disch := omega) only [hF, natc, w64_in, shs]; first | done | omega | (simp only [natc] at *; omega)) (fun kx hk hk2 => ?_); simp (disch := omega) only [hF, natc, w64_in, shs] at hk; (try obtain rfl : kx = 0 := hk); cbv)
    | (refine Chk.mk (by simp (disch := omega) only [maxN, hF, natc, w64_in, shs]; first | done | assumption | omega | (simp only [natc] at *; omega)) ?_; cbv)
    | (intro (hmx : _ ≤ maxN); replace hmx : _ ≤ 17592186044416 := hmx; cbv)
    | (intro _; cbv)
  subst hQ
  refine ⟨.dv (.bool true), [.obj (.mk (kM c n ow)), .obj (.mk (kM c n ow))], ?_, rfl, rfl⟩
  refine (Ent.cls 0 [] (kM c n ow) rfl rfl ?_).trans ((Ent.cls 1 [] (kM c n ow) rfl rfl ?_).trans (Ent.ren [0, 1] rfl rfl ?_ ⟨rfl, trivial⟩))
  · exact ⟨⟨rfl, rfl, ⟨rfl, rfl, fun _ _ _ _ => rfl⟩, trivial⟩, trivial⟩
  · exact ⟨⟨rfl, rfl, ⟨rfl, rfl, fun _ _ _ _ => rfl⟩, trivial⟩, trivial⟩
  · exact ⟨rfl, rfl, trivial⟩

end Go.Proofs.YtiaceoomiflgcaaGreat

end

section
namespace Go.Proofs.YtiaceoomiflgcaaGreat
open Go.V
set_option linter.unusedVariables false
set_option linter.unusedSimpArgs false
set_option maxRecDepth 100000
set_option maxHeartbeats 8000000

theorem bufs_same (cores : Nat) (h8 : cores ≤ 8) (bs bs' : Nat → Nat) (bo : Nat → Ob) (mo : Int) (k : Nat → Nat) (C : Nat → Nat → DV)
    (hcap : ∀ j, j < cores → ∀ g, CallOK (O := Ob) PR n_sbuf_Buffer_Cap [.ptr 0 0] [.obj (.at_ g (bo j))] fun v m => v = .dv (.int .i64 mo) ∧ m = [.obj (.at_ g (bo j))])
    (hall : ∀ j, j < cores → ∀ g, CallOK (O := Ob) PR n_sbuf_Buffer_All [.ptr 0 0] [.obj (.at_ g (bo j))] fun v m => v = .vec 1 ∧ m = [.obj (.at_ g (bo j)), .vec (k j) 1 fun i _ => .dv (C j i)])
    (hs : ∀ j, j < cores → CallOK (O := Ob) PR n_cell_Same [.vec 0, .vec 1] [.vec (k j) 1 fun i _ => .dv (C j i), .vec (k j) 1 fun i _ => .dv (C j i)] fun v m => v = .dv (.bool true) ∧ m = [.vec (k j) 1 fun i _ => .dv (C j i), .vec (k j) 1 fun i _ => .dv (C j i)]) :
    CallOK (O := Ob) PR n_slices_EqualFunc_S_sbuf_Buffer_S_sbuf_Buffer_sbuf_Buffer_sbuf_Buffer [.vec 0, .vec 2, .fn n_bus_Same_c1 []] [.vec cores 1 (fun j _ => .gp (bs j)), .obj (.fam cores bs (fun _ => false) bo), .vec cores 1 (fun j _ => .gp (bs' j)), .obj (.fam cores bs' (fun _ => false) bo)]
      fun v m => v = .dv (.bool true) ∧ m = [.vec cores 1 (fun j _ => .gp (bs j)), .obj (.fam cores bs (fun _ => false) bo), .vec cores 1 (fun j _ => .gp (bs' j)), .obj (.fam cores bs' (fun _ => false) bo)] := by
  refine fn_walkv mixed fn_slices_EqualFunc_S_sbuf_Buffer_S_sbuf_Buffer_sbuf_Buffer_sbuf_Buffer (Ent.refl _ _) fun bin cmp un conv bnot beq band sel isel ofN toN inb nz nneg lt le room' slb add sub sbin scmp slen sget ssub addk pc pb pi pf ps mkok min_ ig aeq P hP hA hF Q hQ => ?_
  cbv
  repeat' first
    | (refine Chk.mk trivial ?_; cbv)
    | (refine bc_true (by first | assumption | (simp (disch := omega) only [hF, natc, w64_in, shs]; first | done | assumption | omega | (simp only [natc] at *; omega))) ?_; cbv)
    | (refine bc_false (by first | assumption | (simp (disch := omega) only [hF, natc, w64_in, shs]; first | done | assumption | omega | (simp only [natc] at *; omega))) ?_; cbv)
    | (refine bc_split (fun h => ?_) (fun h => ?_) <;> (try simp (disch := omega) only [hF, natc, w64_in, shs] at h) <;> cbv)
    | (refine IdxVC.mk (by simp (disch := omega) only [hF, natc, w64_in, shs]; first | done | omega | (simp only [natc] at *; omega)) (fun kx hk hk2 => ?_); simp (disch := omega) only [hF, natc, w64_in, shs] at hk; (try obtain rfl : kx = 0 := hk); cbv)
    | (refine Chk.mk (by simp (disch := omega) only [maxN, hF, natc, w64_in, shs]; first | done | assumption | omega | (simp only [natc] at *; omega)) ?_; cbv)
    | (intro (hmx : _ ≤ maxN); replace hmx : _ ≤ 17592186044416 := hmx; cbv)
    | (intro _; cbv)
  refine loop_ix mixed hP hA (ι := Nat) (fun i => cores - i) (fun i => i ≤ cores) [6, 7, 8, 9, 17, 18, 19, 20, 21, 22, 23, 24, 25, 26, 27, 28, 29, 30, 31] (fun i => [(17, .dv (.int .i64 (ofN i)))])
    (fun _ => [.vec cores 1 (fun j _ => .gp (bs j)), .obj (.fam cores bs (fun _ => false) bo), .vec cores 1 (fun j _ => .gp (bs' j)), .obj (.fam cores bs' (fun _ => false) bo)]) 0 (Nat.zero_le _) (Ent.env (by cbv; simp [hF])) fun Nx i hN hi => ?_
  cbv
  by_cases hlt : i < cores
  · have c1 := hcap i hlt (bs i)
    have c2 := hcap i hlt (bs' i)
    have a1 := hall i hlt (bs i)
    have a2 := hall i hlt (bs' i)
    have s1 := hs i hlt
    have hb0 : bnot true = false := by simp only [hF]; rfl
    have hmm : cmp .eql mo mo = true := by simp only [hF]; simp
    cbv
    repeat' first
      | (refine Chk.mk trivial ?_; cbv)
      | (refine bc_true (by first | assumption | (simp (disch := omega) only [hF, natc, w64_in, shs]; first | done | assumption | omega | (simp only [natc] at *; omega))) ?_; cbv)
      | (refine bc_false (by first | assumption | (simp (disch := omega) only [hF, natc, w64_in, shs]; first | done | assumption | omega | (simp only [natc] at *; omega))) ?_; cbv)
      | (refine bc_split (fun h => ?_) (fun h => ?_) <;> (try simp (disch := omega) only [hF, natc, w64_in, shs] at h) <;> cbv)
      | (refine IdxVC.mk (by simp (disch := omega) only [hF, natc, w64_in, shs]; first | done | omega | (simp only [natc] at *; omega)) (fun kx hk hk2 => ?_); simp (disch := omega) only [hF, natc, w64_in, shs] at hk; (try obtain rfl : kx = 0 := hk); (try obtain rfl : i = kx := hk.symm); cbv)
      | (refine Chk.mk (by simp (disch := omega) only [maxN, hF, natc, w64_in, shs]; first | done | assumption | omega | (simp only [natc] at *; omega)) ?_; cbv)
      | (intro (hmx : _ ≤ maxN); replace hmx : _ ≤ 17592186044416 := hmx; cbv)
      | (intro _; cbv)
    refine call_fam 1 i [0] rfl hlt rfl ⟨rfl, trivial⟩ ?_
    cbv
    refine call_fam 3 i [1] rfl hlt rfl ⟨rfl, trivial⟩ ?_
    cbv
    cbv
    repeat' first
      | ((refine call_inl hP mixed hA code_bus_Same_c1 fn_bus_Same_c1 ?_); cbv)
      | (refine call_at hP [4] code_sbuf_Buffer_Cap (c1) rfl ?_ ?_ ?_; (focus ((repeat' (first | exact trivial | exact rfl | (intro _ _ _ _; exact rfl) | refine And.intro ?_ ?_)); done)); (focus (cbv; (try simp); done)); rintro _ _ ⟨rfl, rfl⟩ _; cbv)
      | (refine call_at hP [5] code_sbuf_Buffer_Cap (c2) rfl ?_ ?_ ?_; (focus ((repeat' (first | exact trivial | exact rfl | (intro _ _ _ _; exact rfl) | refine And.intro ?_ ?_)); done)); (focus (cbv; (try simp); done)); rintro _ _ ⟨rfl, rfl⟩ _; cbv)
      | ((rw [hmm]); cbv)
      | (refine call_at hP [4] code_sbuf_Buffer_All (a1) rfl ?_ ?_ ?_; (focus ((repeat' (first | exact trivial | exact rfl | (intro _ _ _ _; exact rfl) | refine And.intro ?_ ?_)); done)); (focus (cbv; (try simp); done)); rintro _ _ ⟨rfl, rfl⟩ _; cbv)
      | (refine call_at hP [5] code_sbuf_Buffer_All (a2) rfl ?_ ?_ ?_; (focus ((repeat' (first | exact trivial | exact rfl | (intro _ _ _ _; exact rfl) | refine And.intro ?_ ?_)); done)); (focus (cbv; (try simp); done)); rintro _ _ ⟨rfl, rfl⟩ _; cbv)
      | (refine Chk.mk trivial ?_; cbv)
      | (refine bc_true (by first | assumption | (simp (disch := omega) only [hF, natc, w64_in, shs]; first | done | assumption | omega | (simp only [natc] at *; omega))) ?_; cbv)
      | (refine bc_false (by first | assumption | (simp (disch := omega) only [hF, natc, w64_in, shs]; first | done | assumption | omega | (simp only [natc] at *; omega))) ?_; cbv)
      | (refine bc_split (fun h => ?_) (fun h => ?_) <;> (try simp (disch := omega) only [hF, natc, w64_in, shs] at h) <;> cbv)
      | (refine IdxVC.mk (by simp (disch := omega) only [hF, natc, w64_in, shs]; first | done | omega | (simp only [natc] at *; omega)) (fun kx hk hk2 => ?_); simp (disch := omega) only [hF, natc, w64_in, shs] at hk; (try obtain rfl : kx = 0 := hk); cbv)
      | (refine Chk.mk (by simp (disch := omega) only [maxN, hF, natc, w64_in, shs]; first | done | assumption | omega | (simp only [natc] at *; omega)) ?_; cbv)
      | (intro (hmx : _ ≤ maxN); replace hmx : _ ≤ 17592186044416 := hmx; cbv)
      | (intro _; cbv)
    refine call_at hP [6, 7] code_cell_Same (s1) rfl ?_ ?_ ?_
    · exact ⟨⟨rfl, rfl, fun _ _ _ _ => rfl⟩, ⟨rfl, rfl, fun _ _ _ _ => rfl⟩, trivial⟩
    · cbv
    rintro _ _ ⟨rfl, rfl⟩ _
    cbv
    cbv
    repeat' first
      | ((rw [hb0]); cbv)
      | (refine Chk.mk trivial ?_; cbv)
      | (refine bc_true (by first | assumption | (simp (disch := omega) only [hF, natc, w64_in, shs]; first | done | assumption | omega | (simp only [natc] at *; omega))) ?_; cbv)
      | (refine bc_false (by first | assumption | (simp (disch := omega) only [hF, natc, w64_in, shs]; first | done | assumption | omega | (simp only [natc] at *; omega))) ?_; cbv)
      | (refine bc_split (fun h => ?_) (fun h => ?_) <;> (try simp (disch := omega) only [hF, natc, w64_in, shs] at h) <;> cbv)
      | (refine IdxVC.mk (by simp (disch := omega) only [hF, natc, w64_in, shs]; first | done | omega | (simp only [natc] at *; omega)) (fun kx hk hk2 => ?_); simp (disch := omega) only [hF, natc, w64_in, shs] at hk; (try obtain rfl : kx = 0 := hk); cbv)
      | (refine Chk.mk (by simp (disch := omega) only [maxN, hF, natc, w64_in, shs]; first | done | assumption | omega | (simp only [natc] at *; omega)) ?_; cbv)
      | (intro (hmx : _ ≤ maxN); replace hmx : _ ≤ 17592186044416 := hmx; cbv)
      | (intro _; cbv)
    refine hN _ (i + 1) hlt (by show cores - (i + 1) < cores - i; omega) ((Ent.famC 1 4 i (sk' := fun _ => false) (o' := bo) (x := bo i) rfl rfl (by decide) hlt (by simp) (fun j _ => ?_) (fun j _ => ?_)).trans ((Ent.famC 3 5 i (sk' := fun _ => false) (o' := bo) (x := bo i) rfl rfl (by decide) hlt (by simp) (fun j _ => ?_) (fun j _ => ?_)).trans (Ent.ren [0, 1, 2, 3] rfl rfl ?_ ?_)))
    · by_cases h : j = i <;> simp [h]
    · by_cases h : j = i <;> simp [h]
    · by_cases h : j = i <;> simp [h]
    · by_cases h : j = i <;> simp [h]
    · exact ⟨⟨rfl, rfl, fun _ _ _ _ => rfl⟩, rfl, ⟨rfl, rfl, fun _ _ _ _ => rfl⟩, rfl, trivial⟩
    · cbv; simp (disch := omega) [hF, natc, w64_in]
  · obtain rfl : i = cores := by omega
    cbv
    repeat' first
      | (refine Chk.mk trivial ?_; cbv)
      | (refine bc_true (by first | assumption | (simp (disch := omega) only [hF, natc, w64_in, shs]; first | done | assumption | omega | (simp only [natc] at *; omega))) ?_; cbv)
      | (refine bc_false (by first | assumption | (simp (disch := omega) only [hF, natc, w64_in, shs]; first | done | assumption | omega | (simp only [natc] at *; omega))) ?_; cbv)
      | (refine bc_split (fun h => ?_) (fun h => ?_) <;> (try simp (disch := omega) only [hF, natc, w64_in, shs] at h) <;> cbv)
      | (refine IdxVC.mk (by simp (disch := omega) only [hF, natc, w64_in, shs]; first | done | omega | (simp only [natc] at *; omega)) (fun kx hk hk2 => ?_); simp (disch := omega) only [hF, natc, w64_in, shs] at hk; (try obtain rfl : kx = 0 := hk); cbv)
      | (refine Chk.mk (by simp (disch := omega) only [maxN, hF, natc, w64_in, shs]; first | done | assumption | omega | (simp only [natc] at *; omega)) ?_; cbv)
      | (intro (hmx : _ ≤ maxN); replace hmx : _ ≤ 17592186044416 := hmx; cbv)
      | (intro _; cbv)
    subst hQ
    exact ⟨_, _, Ent.refl _ _, rfl, rfl⟩

theorem busSame_w (O1 : Ob) (cores : Nat) (h8 : cores ≤ 8) (bs bs' : Nat → Nat) (bo : Nat → Ob) (hr : CallOK (O := Ob) PR n_sram_Same [.ptr 0 0, .ptr 1 0] [.obj O1, .obj O1] fun v m => v = .dv (.bool true) ∧ m = [.obj O1, .obj O1])
    (hs : CallOK (O := Ob) PR n_slices_EqualFunc_S_sbuf_Buffer_S_sbuf_Buffer_sbuf_Buffer_sbuf_Buffer [.vec 0, .vec 2, .fn n_bus_Same_c1 []] [.vec cores 1 (fun j _ => .gp (bs j)), .obj (.fam cores bs (fun _ => false) bo), .vec cores 1 (fun j _ => .gp (bs' j)), .obj (.fam cores bs' (fun _ => false) bo)]
      fun v m => v = .dv (.bool true) ∧ m = [.vec cores 1 (fun j _ => .gp (bs j)), .obj (.fam cores bs (fun _ => false) bo), .vec cores 1 (fun j _ => .gp (bs' j)), .obj (.fam cores bs' (fun _ => false) bo)]) :
    CallOK (O := Ob) PR n_bus_Same [.ptr 0 0, .ptr 1 0] [.obj (.mk (busR O1 cores bs bo)), .obj (.mk (busR O1 cores bs' bo))] fun v m => v = .dv (.bool true) ∧ m = [.obj (busX O1 cores bo), .obj (busX O1 cores bo)] := by
  refine fn_walkv mixed fn_bus_Same (mem1 := [.blk [.one (.ptr 2 0), .one (.vec 3)], .blk [.one (.ptr 5 0), .one (.vec 6)], .obj O1, .vec cores 1 (fun j _ => .gp (bs j)), .obj (.fam cores bs (fun _ => false) bo), .obj O1, .vec cores 1 (fun j _ => .gp (bs' j)), .obj (.fam cores bs' (fun _ => false) bo)]) ?_ fun bin cmp un conv bnot beq band sel isel ofN toN inb nz nneg lt le room' slb add sub sbin scmp slen sget ssub addk pc pb pi pf ps mkok min_ ig aeq P hP hA hF Q hQ => ?_
  · refine ((Ent.opn (lmem := busR O1 cores bs bo) 0 rfl).trans (Ent.opn (lmem := busR O1 cores bs' bo) 1 rfl)).trans (Ent.ren [0, 1, 2, 3, 4, 5, 6, 7] rfl rfl ?_ ⟨rfl, rfl, trivial⟩)
    exact ⟨⟨rfl, rfl, trivial⟩, ⟨rfl, rfl, trivial⟩, rfl, ⟨rfl, rfl, fun _ _ _ _ => rfl⟩, rfl, rfl, ⟨rfl, rfl, fun _ _ _ _ => rfl⟩, rfl, trivial⟩
  cbv
  repeat' first
    | (refine call_at hP [2, 5] code_sram_Same (hr) rfl ?_ ?_ ?_; (focus ((repeat' (first | exact trivial | exact rfl | (intro _ _ _ _; exact rfl) | refine And.intro ?_ ?_)); done)); (focus (cbv; (try simp); done)); rintro _ _ ⟨rfl, rfl⟩ _; cbv)
    | ((refine And.intro ?_ ?_); cbv)
    | (refine call_at hP [3, 4, 6, 7] code_slices_EqualFunc_S_sbuf_Buffer_S_sbuf_Buffer_sbuf_Buffer_sbuf_Buffer (hs) rfl ?_ ?_ ?_; (focus ((repeat' (first | exact trivial | exact rfl | (intro _ _ _ _; exact rfl) | refine And.intro ?_ ?_)); done)); (focus (cbv; (try simp); done)); rintro _ _ ⟨rfl, rfl⟩ _; cbv)
    | (refine Chk.mk trivial ?_; cbv)
    | (refine bc_true (by first | assumption | (simp (disch := omega) only [hF, natc, w64_in, shs]; first | done | assumption | omega | (simp only [natc] at *; omega))) ?_; cbv)
    | (refine bc_false (by first | assumption | (simp (disch := omega) only [hF, natc, w64_in, shs]; first | done | assumption | omega | (simp only [natc] at *; omega))) ?_; cbv)
    | (refine bc_split (fun h => ?_) (fun h => ?_) <;> (try simp (disch := omega) only [hF, natc, w64_in, shs] at h) <;> cbv)
    | (refine IdxVC.mk (by simp (disch := omega) only [hF, natc, w64_in, shs]; first | done | omega | (simp only [natc] at *; omega)) (fun kx hk hk2 => ?_); simp (disch := omega) only [hF, natc, w64_in, shs] at hk; (try obtain rfl : kx = 0 := hk); cbv)
    | (refine Chk.mk (by simp (disch := omega) only [maxN, hF, natc, w64_in, shs]; first | done | assumption | omega | (simp only [natc] at *; omega)) ?_; cbv)
    | (intro (hmx : _ ≤ maxN); replace hmx : _ ≤ 17592186044416 := hmx; cbv)
    | (intro _; cbv)
  subst hQ
  refine ⟨.dv (.bool true), [.obj (busX O1 cores bo), .obj (busX O1 cores bo)], ?_, rfl, rfl⟩
  refine (Ent.cls 0 [2, 3, 4] (busR O1 cores bs bo) rfl rfl ?_).trans ((Ent.exI (o := fun bs => .mk (busR O1 cores bs bo)) 0 bs rfl).trans ((Ent.cls 1 [5, 6, 7] (busR O1 cores bs' bo) rfl rfl ?_).trans ((Ent.exI (o := fun bs => .mk (busR O1 cores bs bo)) 1 bs' rfl).trans (Ent.ren [0, 1] rfl rfl ?_ ⟨rfl, trivial⟩))))
  · exact ⟨⟨rfl, rfl, trivial⟩, rfl, ⟨rfl, rfl, fun _ _ _ _ => rfl⟩, rfl, trivial⟩
  · exact ⟨⟨rfl, rfl, trivial⟩, rfl, ⟨rfl, rfl, fun _ _ _ _ => rfl⟩, rfl, trivial⟩
  · exact ⟨rfl, rfl, trivial⟩

end Go.Proofs.YtiaceoomiflgcaaGreat

end

section
namespace Go.Proofs.YtiaceoomiflgcaaGreat
open Go.V
set_option linter.unusedVariables false
set_option linter.unusedSimpArgs false
set_option maxRecDepth 100000
set_option maxHeartbeats 8000000

theorem lanes_same (cores : Nat) (h8 : cores ≤ 8) (bits : Nat → Int) (bs bs' : Nat → Nat) (bo bo' : Nat → Ob) (k : Nat → Nat) (L L' : Nat → Nat → Int)
    (hall : ∀ j, j < cores → ∀ g, CallOK (O := Ob) PR n_lane_Lane_All [.ptr 0 0] [.obj (.at_ g (bo j))] fun v m => v = .vec 1 ∧ m = [.obj (.at_ g (bo j)), .vec (k j) 1 fun i _ => .dv (.int .i64 (L j i))])
    (hall' : ∀ j, j < cores → ∀ g, CallOK (O := Ob) PR n_lane_Lane_All [.ptr 0 0] [.obj (.at_ g (bo' j))] fun v m => v = .vec 1 ∧ m = [.obj (.at_ g (bo' j)), .vec (k j) 1 fun i _ => .dv (.int .i64 (L' j i))])
    (hs : ∀ j, j < cores → CallOK (O := Ob) PR n_slices_Equal_Sint_int [.vec 0, .vec 1] [.vec (k j) 1 fun i _ => .dv (.int .i64 (L j i)), .vec (k j) 1 fun i _ => .dv (.int .i64 (L' j i))] fun v m => v = .dv (.bool true) ∧ m = [.vec (k j) 1 fun i _ => .dv (.int .i64 (L j i)), .vec (k j) 1 fun i _ => .dv (.int .i64 (L' j i))]) :
    CallOK (O := Ob) PR n_slices_EqualFunc_Smbox_one_Smbox_one_mbox_one_mbox_one [.vec 0, .vec 2, .fn n_mbox_Same_c1 []] [.vec cores 2 (fun j f => if f = 0 then .dv (.int .i64 (bits j)) else .gp (bs j)), .obj (.fam cores bs (fun _ => false) bo), .vec cores 2 (fun j f => if f = 0 then .dv (.int .i64 (bits j)) else .gp (bs' j)), .obj (.fam cores bs' (fun _ => false) bo')]
      fun v m => v = .dv (.bool true) ∧ m = [.vec cores 2 (fun j f => if f = 0 then .dv (.int .i64 (bits j)) else .gp (bs j)), .obj (.fam cores bs (fun _ => false) bo), .vec cores 2 (fun j f => if f = 0 then .dv (.int .i64 (bits j)) else .gp (bs' j)), .obj (.fam cores bs' (fun _ => false) bo')] := by
  refine fn_walkv mixed fn_slices_EqualFunc_Smbox_one_Smbox_one_mbox_one_mbox_one (Ent.refl _ _) fun bin cmp un conv bnot beq band sel isel ofN toN inb nz nneg lt le room' slb add sub sbin scmp slen sget ssub addk pc pb pi pf ps mkok min_ ig aeq P hP hA hF Q hQ => ?_
  cbv
  repeat' first
    | (refine Chk.mk trivial ?_; cbv)
    | (refine bc_true (by first | assumption | (simp (disch := omega) only [hF, natc, w64_in, shs]; first | done | assumption | omega | (simp only [natc] at *; omega))) ?_; cbv)
    | (refine bc_false (by first | assumption | (simp (disch := omega) only [hF, natc, w64_in, shs]; first | done | assumption | omega | (simp only [natc] at *; omega))) ?_; cbv)
    | (refine bc_split (fun h => ?_) (fun h => ?_) <;> (try simp (disch := omega) only [hF, natc, w64_in, shs] at h) <;> cbv)
    | (refine IdxVC.mk (by simp (disch := omega) only [hF, natc, w64_in, shs]; first | done | omega | (simp only [natc] at *; omega)) (fun kx hk hk2 => ?_); simp (disch := omega) only [hF, natc, w64_in, shs] at hk; (try obtain rfl : kx = 0 := hk); cbv)
    | (refine Chk.mk (by simp (disch := omega) only [maxN, hF, natc, w64_in, shs]; first | done | assumption | omega | (simp only [natc] at *; omega)) ?_; cbv)
    | (intro (hmx : _ ≤ maxN); replace hmx : _ ≤ 17592186044416 := hmx; cbv)
    | (intro _; cbv)
  refine loop_ix mixed hP hA (ι := Nat) (fun i => cores - i) (fun i => i ≤ cores) [6, 7, 8, 9, 17, 18, 19, 20, 21, 22, 23, 24, 25, 26, 27, 28, 29, 30, 31] (fun i => [(17, .dv (.int .i64 (ofN i)))])
    (fun _ => [.vec cores 2 (fun j f => if f = 0 then .dv (.int .i64 (bits j)) else .gp (bs j)), .obj (.fam cores bs (fun _ => false) bo), .vec cores 2 (fun j f => if f = 0 then .dv (.int .i64 (bits j)) else .gp (bs' j)), .obj (.fam cores bs' (fun _ => false) bo')]) 0 (Nat.zero_le _) (Ent.env (by cbv; simp [hF])) fun Nx i hN hi => ?_
  cbv
  by_cases hlt : i < cores
  · have a1 := hall i hlt (bs i)
    have a2 := hall' i hlt (bs' i)
    have s1 := hs i hlt
    have hb0 : bnot true = false := by simp only [hF]; rfl
    have hmm : cmp .eql (bits i) (bits i) = true := by simp only [hF]; simp
    cbv
    repeat' first
      | ((refine call_inl hP mixed hA code_mbox_Same_c1 fn_mbox_Same_c1 ?_); cbv)
      | ((rw [hmm]); cbv)
      | (refine Chk.mk trivial ?_; cbv)
      | (refine bc_true (by first | assumption | (simp (disch := omega) only [hF, natc, w64_in, shs]; first | done | assumption | omega | (simp only [natc] at *; omega))) ?_; cbv)
      | (refine bc_false (by first | assumption | (simp (disch := omega) only [hF, natc, w64_in, shs]; first | done | assumption | omega | (simp only [natc] at *; omega))) ?_; cbv)
      | (refine bc_split (fun h => ?_) (fun h => ?_) <;> (try simp (disch := omega) only [hF, natc, w64_in, shs] at h) <;> cbv)
      | (refine IdxVC.mk (by simp (disch := omega) only [hF, natc, w64_in, shs]; first | done | omega | (simp only [natc] at *; omega)) (fun kx hk hk2 => ?_); simp (disch := omega) only [hF, natc, w64_in, shs] at hk; (try obtain rfl : kx = 0 := hk); (try obtain rfl : i = kx := hk.symm); cbv)
      | (refine Chk.mk (by simp (disch := omega) only [maxN, hF, natc, w64_in, shs]; first | done | assumption | omega | (simp only [natc] at *; omega)) ?_; cbv)
      | (intro (hmx : _ ≤ maxN); replace hmx : _ ≤ 17592186044416 := hmx; cbv)
      | (intro _; cbv)
    refine call_fam 1 i [0] rfl hlt rfl ⟨rfl, trivial⟩ ?_
    cbv
    repeat' first
      | (refine call_at hP [8] code_lane_Lane_All (a1) rfl ?_ ?_ ?_; (focus ((repeat' (first | exact trivial | exact rfl | (intro _ _ _ _; exact rfl) | refine And.intro ?_ ?_)); done)); (focus (cbv; (try simp); done)); rintro _ _ ⟨rfl, rfl⟩ _; cbv)
      | (refine Chk.mk trivial ?_; cbv)
      | (refine bc_true (by first | assumption | (simp (disch := omega) only [hF, natc, w64_in, shs]; first | done | assumption | omega | (simp only [natc] at *; omega))) ?_; cbv)
      | (refine bc_false (by first | assumption | (simp (disch := omega) only [hF, natc, w64_in, shs]; first | done | assumption | omega | (simp only [natc] at *; omega))) ?_; cbv)
      | (refine bc_split (fun h => ?_) (fun h => ?_) <;> (try simp (disch := omega) only [hF, natc, w64_in, shs] at h) <;> cbv)
      | (refine IdxVC.mk (by simp (disch := omega) only [hF, natc, w64_in, shs]; first | done | omega | (simp only [natc] at *; omega)) (fun kx hk hk2 => ?_); simp (disch := omega) only [hF, natc, w64_in, shs] at hk; (try obtain rfl : kx = 0 := hk); cbv)
      | (refine Chk.mk (by simp (disch := omega) only [maxN, hF, natc, w64_in, shs]; first | done | assumption | omega | (simp only [natc] at *; omega)) ?_; cbv)
      | (intro (hmx : _ ≤ maxN); replace hmx : _ ≤ 17592186044416 := hmx; cbv)
      | (intro _; cbv)
    refine call_fam 3 i [0] rfl hlt rfl ⟨rfl, trivial⟩ ?_
    cbv
    repeat' first
      | (refine call_at hP [10] code_lane_Lane_All (a2) rfl ?_ ?_ ?_; (focus ((repeat' (first | exact trivial | exact rfl | (intro _ _ _ _; exact rfl) | refine And.intro ?_ ?_)); done)); (focus (cbv; (try simp); done)); rintro _ _ ⟨rfl, rfl⟩ _; cbv)
      | (refine Chk.mk trivial ?_; cbv)
      | (refine bc_true (by first | assumption | (simp (disch := omega) only [hF, natc, w64_in, shs]; first | done | assumption | omega | (simp only [natc] at *; omega))) ?_; cbv)
      | (refine bc_false (by first | assumption | (simp (disch := omega) only [hF, natc, w64_in, shs]; first | done | assumption | omega | (simp only [natc] at *; omega))) ?_; cbv)
      | (refine bc_split (fun h => ?_) (fun h => ?_) <;> (try simp (disch := omega) only [hF, natc, w64_in, shs] at h) <;> cbv)
      | (refine IdxVC.mk (by simp (disch := omega) only [hF, natc, w64_in, shs]; first | done | omega | (simp only [natc] at *; omega)) (fun kx hk hk2 => ?_); simp (disch := omega) only [hF, natc, w64_in, shs] at hk; (try obtain rfl : kx = 0 := hk); cbv)
      | (refine Chk.mk (by simp (disch := omega) only [maxN, hF, natc, w64_in, shs]; first | done | assumption | omega | (simp only [natc] at *; omega)) ?_; cbv)
      | (intro (hmx : _ ≤ maxN); replace hmx : _ ≤ 17592186044416 := hmx; cbv)
      | (intro _; cbv)
    refine call_at hP [9, 11] code_slices_Equal_Sint_int (s1) rfl ?_ ?_ ?_
    · exact ⟨⟨rfl, rfl, fun _ _ _ _ => rfl⟩, ⟨rfl, rfl, fun _ _ _ _ => rfl⟩, trivial⟩
    · cbv
    rintro _ _ ⟨rfl, rfl⟩ _
    cbv
    cbv
    repeat' first
      | ((rw [hb0]); cbv)
      | (refine Chk.mk trivial ?_; cbv)
      | (refine bc_true (by first | assumption | (simp (disch := omega) only [hF, natc, w64_in, shs]; first | done | assumption | omega | (simp only [natc] at *; omega))) ?_; cbv)
      | (refine bc_false (by first | assumption | (simp (disch := omega) only [hF, natc, w64_in, shs]; first | done | assumption | omega | (simp only [natc] at *; omega))) ?_; cbv)
      | (refine bc_split (fun h => ?_) (fun h => ?_) <;> (try simp (disch := omega) only [hF, natc, w64_in, shs] at h) <;> cbv)
      | (refine IdxVC.mk (by simp (disch := omega) only [hF, natc, w64_in, shs]; first | done | omega | (simp only [natc] at *; omega)) (fun kx hk hk2 => ?_); simp (disch := omega) only [hF, natc, w64_in, shs] at hk; (try obtain rfl : kx = 0 := hk); cbv)
      | (refine Chk.mk (by simp (disch := omega) only [maxN, hF, natc, w64_in, shs]; first | done | assumption | omega | (simp only [natc] at *; omega)) ?_; cbv)
      | (intro (hmx : _ ≤ maxN); replace hmx : _ ≤ 17592186044416 := hmx; cbv)
      | (intro _; cbv)
    refine hN _ (i + 1) hlt (by show cores - (i + 1) < cores - i; omega) ((Ent.famC 1 8 i (sk' := fun _ => false) (o' := bo) (x := bo i) rfl rfl (by decide) hlt (by simp) (fun j _ => ?_) (fun j _ => ?_)).trans ((Ent.famC 3 10 i (sk' := fun _ => false) (o' := bo') (x := bo' i) rfl rfl (by decide) hlt (by simp) (fun j _ => ?_) (fun j _ => ?_)).trans (Ent.ren [0, 1, 2, 3] rfl rfl ?_ ?_)))
    · by_cases h : j = i <;> simp [h]
    · by_cases h : j = i <;> simp [h]
    · by_cases h : j = i <;> simp [h]
    · by_cases h : j = i <;> simp [h]
    · refine ⟨⟨rfl, rfl, fun j f hj hf => ?_⟩, rfl, ⟨rfl, rfl, fun j f hj hf => ?_⟩, rfl, trivial⟩
      · rcases (by omega : f = 0 ∨ f = 1) with rfl | rfl <;> rfl
      · rcases (by omega : f = 0 ∨ f = 1) with rfl | rfl <;> rfl
    · cbv; simp (disch := omega) [hF, natc, w64_in]
  · obtain rfl : i = cores := by omega
    cbv
    repeat' first
      | (refine Chk.mk trivial ?_; cbv)
      | (refine bc_true (by first | assumption | (simp (disch := omega) only [hF, natc, w64_in, shs]; first | done | assumption | omega | (simp only [natc] at *; omega))) ?_; cbv)
      | (refine bc_false (by first | assumption | (simp (disch := omega) only [hF, natc, w64_in, shs]; first | done | assumption | omega | (simp only [natc] at *; omega))) ?_; cbv)
      | (refine bc_split (fun h => ?_) (fun h => ?_) <;> (try simp (disch := omega) only [hF, natc, w64_in, shs] at h) <;> cbv)
      | (refine IdxVC.mk (by simp (disch := omega) only [hF, natc, w64_in, shs]; first | done | omega | (simp only [natc] at *; omega)) (fun kx hk hk2 => ?_); simp (disch := omega) only [hF, natc, w64_in, shs] at hk; (try obtain rfl : kx = 0 := hk); cbv)
      | (refine Chk.mk (by simp (disch := omega) only [maxN, hF, natc, w64_in, shs]; first | done | assumption | omega | (simp only [natc] at *; omega)) ?_; cbv)
      | (intro (hmx : _ ≤ maxN); replace hmx : _ ≤ 17592186044416 := hmx; cbv)
      | (intro _; cbv)
    subst hQ
    exact ⟨_, _, Ent.refl _ _, rfl, rfl⟩

theorem boxSame_w (cores : Nat) (h8 : cores ≤ 8) (bits : Nat → Int) (bs bs' : Nat → Nat) (bo bo' : Nat → Ob)
    (hs : CallOK (O := Ob) PR n_slices_EqualFunc_Smbox_one_Smbox_one_mbox_one_mbox_one [.vec 0, .vec 2, .fn n_mbox_Same_c1 []] [.vec cores 2 (fun j f => if f = 0 then .dv (.int .i64 (bits j)) else .gp (bs j)), .obj (.fam cores bs (fun _ => false) bo), .vec cores 2 (fun j f => if f = 0 then .dv (.int .i64 (bits j)) else .gp (bs' j)), .obj (.fam cores bs' (fun _ => false) bo')]
      fun v m => v = .dv (.bool true) ∧ m = [.vec cores 2 (fun j f => if f = 0 then .dv (.int .i64 (bits j)) else .gp (bs j)), .obj (.fam cores bs (fun _ => false) bo), .vec cores 2 (fun j f => if f = 0 then .dv (.int .i64 (bits j)) else .gp (bs' j)), .obj (.fam cores bs' (fun _ => false) bo')]) :
    CallOK (O := Ob) PR n_mbox_Same [.ptr 0 0, .ptr 1 0] [.obj (.mk (xR cores bs bits bo)), .obj (.mk (xR cores bs' bits bo'))] fun v m => v = .dv (.bool true) ∧ m = [.obj (xO cores bits bo), .obj (xO cores bits bo')] := by
  refine fn_walkv mixed fn_mbox_Same (mem1 := [.blk [.one (.vec 2)], .blk [.one (.vec 4)], .vec cores 2 (fun j f => if f = 0 then .dv (.int .i64 (bits j)) else .gp (bs j)), .obj (.fam cores bs (fun _ => false) bo), .vec cores 2 (fun j f => if f = 0 then .dv (.int .i64 (bits j)) else .gp (bs' j)), .obj (.fam cores bs' (fun _ => false) bo')]) ?_ fun bin cmp un conv bnot beq band sel isel ofN toN inb nz nneg lt le room' slb add sub sbin scmp slen sget ssub addk pc pb pi pf ps mkok min_ ig aeq P hP hA hF Q hQ => ?_
  · refine ((Ent.opn (lmem := xR cores bs bits bo) 0 rfl).trans (Ent.opn (lmem := xR cores bs' bits bo') 1 rfl)).trans (Ent.ren [0, 1, 2, 3, 4, 5] rfl rfl ?_ ⟨rfl, rfl, trivial⟩)
    refine ⟨⟨rfl, trivial⟩, ⟨rfl, trivial⟩, ⟨rfl, rfl, fun j f hj hf => ?_⟩, rfl, ⟨rfl, rfl, fun j f hj hf => ?_⟩, rfl, trivial⟩
    · rcases (by omega : f = 0 ∨ f = 1) with rfl | rfl <;> rfl
    · rcases (by omega : f = 0 ∨ f = 1) with rfl | rfl <;> rfl
  cbv
  repeat' first
    | ((refine And.intro ?_ ?_); cbv)
    | (refine Chk.mk trivial ?_; cbv)
    | (refine bc_true (by first | assumption | (simp (disch := omega) only [hF, natc, w64_in, shs]; first | done | assumption | omega | (simp only [natc] at *; omega))) ?_; cbv)
    | (refine bc_false (by first | assumption | (simp (disch := omega) only [hF, natc, w64_in, shs]; first | done | assumption | omega | (simp only [natc] at *; omega))) ?_; cbv)
    | (refine bc_split (fun h => ?_) (fun h => ?_) <;> (try simp (disch := omega) only [hF, natc, w64_in, shs] at h) <;> cbv)
    | (refine IdxVC.mk (by simp (disch := omega) only [hF, natc, w64_in, shs]; first | done | omega | (simp only [natc] at *; omega)) (fun kx hk hk2 => ?_); simp (disch := omega) only [hF, natc, w64_in, shs] at hk; (try obtain rfl : kx = 0 := hk); cbv)
    | (refine Chk.mk (by simp (disch := omega) only [maxN, hF, natc, w64_in, shs]; first | done | assumption | omega | (simp only [natc] at *; omega)) ?_; cbv)
    | (intro (hmx : _ ≤ maxN); replace hmx : _ ≤ 17592186044416 := hmx; cbv)
    | (intro _; cbv)
  refine call_at hP [2, 3, 4, 5] code_slices_EqualFunc_Smbox_one_Smbox_one_mbox_one_mbox_one hs rfl ?_ ?_ ?_
  · refine ⟨⟨rfl, rfl, fun j f hj hf => ?_⟩, rfl, ⟨rfl, rfl, fun j f hj hf => ?_⟩, rfl, trivial⟩
    · rcases (by omega : f = 0 ∨ f = 1) with rfl | rfl <;> rfl
    · rcases (by omega : f = 0 ∨ f = 1) with rfl | rfl <;> rfl
  · cbv
  rintro _ _ ⟨rfl, rfl⟩ _
  cbv
  subst hQ
  refine ⟨.dv (.bool true), [.obj (xO cores bits bo), .obj (xO cores bits bo')], ?_, rfl, rfl⟩
  refine (Ent.cls 0 [2, 3] (xR cores bs bits bo) rfl rfl ?_).trans ((Ent.exI (o := fun bs => .mk (xR cores bs bits bo)) 0 bs rfl).trans ((Ent.cls 1 [4, 5] (xR cores bs' bits bo') rfl rfl ?_).trans ((Ent.exI (o := fun bs => .mk (xR cores bs bits bo')) 1 bs' rfl).trans (Ent.ren [0, 1] rfl rfl ?_ ⟨rfl, trivial⟩))))
  · refine ⟨⟨rfl, trivial⟩, ⟨rfl, rfl, fun j f hj hf => ?_⟩, rfl, trivial⟩
    rcases (by omega : f = 0 ∨ f = 1) with rfl | rfl <;> rfl
  · refine ⟨⟨rfl, trivial⟩, ⟨rfl, rfl, fun j f hj hf => ?_⟩, rfl, trivial⟩
    rcases (by omega : f = 0 ∨ f = 1) with rfl | rfl <;> rfl
  · exact ⟨rfl, rfl, trivial⟩

end Go.Proofs.YtiaceoomiflgcaaGreat

end

section
namespace Go.Proofs.YtiaceoomiflgcaaGreat
open Go.V
set_option linter.unusedVariables false
set_option linter.unusedSimpArgs false
set_option maxRecDepth 100000
set_option maxHeartbeats 8000000

theorem sClone_w (c n k : Int) (B X X' K G : Ob)
    (hb : CallOK (O := Ob) PR n_bus_Bus_Clone [.ptr 0 0] [.obj B] fun v m => v = .ptr 1 0 ∧ m = [.obj B, .obj B])
    (hx : CallOK (O := Ob) PR n_mbox_Box_Clone [.ptr 0 0] [.obj X] fun v m => v = .ptr 1 0 ∧ m = [.obj X, .obj X'])
    (hk : CallOK (O := Ob) PR n_locks_Bank_Clone [.ptr 0 0] [.obj K] fun v m => v = .ptr 1 0 ∧ m = [.obj K, .obj K])
    (hg : CallOK (O := Ob) PR n_gate_Gate_Clone [.ptr 0 0] [.obj G] fun v m => v = .ptr 1 0 ∧ m = [.obj G, .obj G]) :
    CallOK (O := Ob) PR n_soc_Soc_Clone [.ptr 0 0] [.obj (sO c n k B X K G)] fun v m => v = .ptr 1 0 ∧ m = [.obj (sO c n k B X K G), .obj (sO c n k B X' K G)] := by
  refine fn_walkv mixed fn_soc_Soc_Clone Ent.opn1 fun bin cmp un conv bnot beq band sel isel ofN toN inb nz nneg lt le room' slb add sub sbin scmp slen sget ssub addk pc pb pi pf ps mkok min_ ig aeq P hP hA hF Q hQ => ?_
  cbv
  repeat' first
    | (refine call_at hP [1] code_bus_Bus_Clone (hb) rfl ?_ ?_ ?_; (focus ((repeat' (first | exact trivial | exact rfl | (intro _ _ _ _; exact rfl) | refine And.intro ?_ ?_)); done)); (focus (cbv; (try simp); done)); rintro _ _ ⟨rfl, rfl⟩ _; cbv)
    | (refine call_at hP [2] code_mbox_Box_Clone (hx) rfl ?_ ?_ ?_; (focus ((repeat' (first | exact trivial | exact rfl | (intro _ _ _ _; exact rfl) | refine And.intro ?_ ?_)); done)); (focus (cbv; (try simp); done)); rintro _ _ ⟨rfl, rfl⟩ _; cbv)
    | (refine call_at hP [3] code_locks_Bank_Clone (hk) rfl ?_ ?_ ?_; (focus ((repeat' (first | exact trivial | exact rfl | (intro _ _ _ _; exact rfl) | refine And.intro ?_ ?_)); done)); (focus (cbv; (try simp); done)); rintro _ _ ⟨rfl, rfl⟩ _; cbv)
    | (refine call_at hP [4] code_gate_Gate_Clone (hg) rfl ?_ ?_ ?_; (focus ((repeat' (first | exact trivial | exact rfl | (intro _ _ _ _; exact rfl) | refine And.intro ?_ ?_)); done)); (focus (cbv; (try simp); done)); rintro _ _ ⟨rfl, rfl⟩ _; cbv)
    | ((refine And.intro ?_ ?_); cbv)
    | (refine Chk.mk trivial ?_; cbv)
    | (refine bc_true (by first | assumption | (simp (disch := omega) only [hF, natc, w64_in, shs]; first | done | assumption | omega | (simp only [natc] at *; omega))) ?_; cbv)
    | (refine bc_false (by first | assumption | (simp (disch := omega) only [hF, natc, w64_in, shs]; first | done | assumption | omega | (simp only [natc] at *; omega))) ?_; cbv)
    | (refine bc_split (fun h => ?_) (fun h => ?_) <;> (try simp (disch := omega) only [hF, natc, w64_in, shs] at h) <;> cbv)
    | (refine IdxVC.mk (by simp (disch := omega) only [hF, natc, w64_in, shs]; first | done | omega | (simp only [natc] at *; omega)) (fun kx hk hk2 => ?_); simp (disch := omega) only [hF, natc, w64_in, shs] at hk; (try obtain rfl : kx = 0 := hk); cbv)
    | (refine Chk.mk (by simp (disch := omega) only [maxN, hF, natc, w64_in, shs]; first | done | assumption | omega | (simp only [natc] at *; omega)) ?_; cbv)
    | (intro (hmx : _ ≤ maxN); replace hmx : _ ≤ 17592186044416 := hmx; cbv)
    | (intro _; cbv)
  subst hQ
  refine ⟨.ptr 1 0, [.obj (sO c n k B X K G), .obj (sO c n k B X' K G)], ?_, rfl, rfl⟩
  refine (Ent.cls 0 [1, 2, 3, 4] (sM c n k B X K G) rfl rfl ?_).trans ((Ent.cls 9 [5, 6, 7, 8] (sM c n k B X' K G) rfl rfl ?_).trans (Ent.ren [0, 9] rfl rfl ?_ ⟨rfl, trivial⟩))
  · exact ⟨⟨rfl, rfl, rfl, rfl, rfl, rfl, rfl, trivial⟩, rfl, rfl, rfl, rfl, trivial⟩
  · exact ⟨⟨rfl, rfl, rfl, rfl, rfl, rfl, rfl, trivial⟩, rfl, rfl, rfl, rfl, trivial⟩
  · exact ⟨rfl, rfl, trivial⟩

theorem sSame_w (c n k : Int) (B X X' K G : Ob)
    (hb : CallOK (O := Ob) PR n_bus_Same [.ptr 0 0, .ptr 1 0] [.obj B, .obj B] fun v m => v = .dv (.bool true) ∧ m = [.obj B, .obj B])
    (hx : CallOK (O := Ob) PR n_mbox_Same [.ptr 0 0, .ptr 1 0] [.obj X, .obj X'] fun v m => v = .dv (.bool true) ∧ m = [.obj X, .obj X'])
    (hk : CallOK (O := Ob) PR n_locks_Same [.ptr 0 0, .ptr 1 0] [.obj K, .obj K] fun v m => v = .dv (.bool true) ∧ m = [.obj K, .obj K])
    (hg : CallOK (O := Ob) PR n_gate_Same [.ptr 0 0, .ptr 1 0] [.obj G, .obj G] fun v m => v = .dv (.bool true) ∧ m = [.obj G, .obj G]) :
    CallOK (O := Ob) PR n_soc_Same [.ptr 0 0, .ptr 1 0] [.obj (sO c n k B X K G), .obj (sO c n k B X' K G)] fun v m => v = .dv (.bool true) ∧ m = [.obj (sO c n k B X K G), .obj (sO c n k B X' K G)] := by
  refine fn_walkv mixed fn_soc_Same (mem1 := [.blk [.one (.dv (.int .i64 c)), .one (.dv (.int .i64 n)), .one (.dv (.int .i64 k)), .one (.ptr 2 0), .one (.ptr 3 0), .one (.ptr 4 0), .one (.ptr 5 0)], .blk [.one (.dv (.int .i64 c)), .one (.dv (.int .i64 n)), .one (.dv (.int .i64 k)), .one (.ptr 6 0), .one (.ptr 7 0), .one (.ptr 8 0), .one (.ptr 9 0)], .obj B, .obj X, .obj K, .obj G, .obj B, .obj X', .obj K, .obj G]) ?_ fun bin cmp un conv bnot beq band sel isel ofN toN inb nz nneg lt le room' slb add sub sbin scmp slen sget ssub addk pc pb pi pf ps mkok min_ ig aeq P hP hA hF Q hQ => ?_
  · refine ((Ent.opn (lmem := sM c n k B X K G) 0 rfl).trans (Ent.opn (lmem := sM c n k B X' K G) 1 rfl)).trans (Ent.ren [0, 1, 2, 3, 4, 5, 6, 7, 8, 9] rfl rfl ?_ ⟨rfl, rfl, trivial⟩)
    exact ⟨⟨rfl, rfl, rfl, rfl, rfl, rfl, rfl, trivial⟩, ⟨rfl, rfl, rfl, rfl, rfl, rfl, rfl, trivial⟩, rfl, rfl, rfl, rfl, rfl, rfl, rfl, rfl, trivial⟩
  have hE : EqAg P 23 3 := by rw [hP]; exact eqAg_ints (by kernel_rfl) (by kernel_rfl) (by kernel_rfl) (by kernel_rfl)
  have hae : aeq [.dv (.int .i64 c), .dv (.int .i64 n), .dv (.int .i64 k)] [.dv (.int .i64 c), .dv (.int .i64 n), .dv (.int .i64 k)] = true := by
    have e : aeq = std.aeq := congrArg Ar.aeq hA
    rw [e]
    show dvEqs _ _ = true
    simp only [dvEqs, dvEq, beq_self_eq_true, Bool.and_self]
  cbv
  repeat' first
    | ((refine Chk.mk hE ?_); cbv)
    | ((rw [hae]); cbv)
    | (refine call_at hP [2, 6] code_bus_Same (hb) rfl ?_ ?_ ?_; (focus ((repeat' (first | exact trivial | exact rfl | (intro _ _ _ _; exact rfl) | refine And.intro ?_ ?_)); done)); (focus (cbv; (try simp); done)); rintro _ _ ⟨rfl, rfl⟩ _; cbv)
    | (refine call_at hP [3, 7] code_mbox_Same (hx) rfl ?_ ?_ ?_; (focus ((repeat' (first | exact trivial | exact rfl | (intro _ _ _ _; exact rfl) | refine And.intro ?_ ?_)); done)); (focus (cbv; (try simp); done)); rintro _ _ ⟨rfl, rfl⟩ _; cbv)
    | (refine call_at hP [4, 8] code_locks_Same (hk) rfl ?_ ?_ ?_; (focus ((repeat' (first | exact trivial | exact rfl | (intro _ _ _ _; exact rfl) | refine And.intro ?_ ?_)); done)); (focus (cbv; (try simp); done)); rintro _ _ ⟨rfl, rfl⟩ _; cbv)
    | (refine call_at hP [5, 9] code_gate_Same (hg) rfl ?_ ?_ ?_; (focus ((repeat' (first | exact trivial | exact rfl | (intro _ _ _ _; exact rfl) | refine And.intro ?_ ?_)); done)); (focus (cbv; (try simp); done)); rintro _ _ ⟨rfl, rfl⟩ _; cbv)
    | ((refine And.intro ?_ ?_); cbv)
    | (refine Chk.mk trivial ?_; cbv)
    | (refine bc_true (by first | assumption | (simp (disch := omega) only [hF, natc, w64_in, shs]; first | done | assumption | omega | (simp only [natc] at *; omega))) ?_; cbv)
    | (refine bc_false (by first | assumption | (simp (disch := omega) only [hF, natc, w64_in, shs]; first | done | assumption | omega | (simp only [natc] at *; omega))) ?_; cbv)
    | (refine bc_split (fun h => ?_) (fun h => ?_) <;> (try simp (disch := omega) only [hF, natc, w64_in, shs] at h) <;> cbv)
    | (refine IdxVC.mk (by simp (disch := omega) only [hF, natc, w64_in, shs]; first | done | omega | (simp only [natc] at *; omega)) (fun kx hk hk2 => ?_); simp (disch := omega) only [hF, natc, w64_in, shs] at hk; (try obtain rfl : kx = 0 := hk); cbv)
    | (refine Chk.mk (by simp (disch := omega) only [maxN, hF, natc, w64_in, shs]; first | done | assumption | omega | (simp only [natc] at *; omega)) ?_; cbv)
    | (intro (hmx : _ ≤ maxN); replace hmx : _ ≤ 17592186044416 := hmx; cbv)
    | (intro _; cbv)
  subst hQ
  refine ⟨.dv (.bool true), [.obj (sO c n k B X K G), .obj (sO c n k B X' K G)], ?_, rfl, rfl⟩
  refine (Ent.cls 0 [2, 3, 4, 5] (sM c n k B X K G) rfl rfl ?_).trans ((Ent.cls 1 [6, 7, 8, 9] (sM c n k B X' K G) rfl rfl ?_).trans (Ent.ren [0, 1] rfl rfl ?_ ⟨rfl, trivial⟩))
  · exact ⟨⟨rfl, rfl, rfl, rfl, rfl, rfl, rfl, trivial⟩, rfl, rfl, rfl, rfl, trivial⟩
  · exact ⟨⟨rfl, rfl, rfl, rfl, rfl, rfl, rfl, trivial⟩, rfl, rfl, rfl, rfl, trivial⟩
  · exact ⟨rfl, rfl, trivial⟩

end Go.Proofs.YtiaceoomiflgcaaGreat

end
