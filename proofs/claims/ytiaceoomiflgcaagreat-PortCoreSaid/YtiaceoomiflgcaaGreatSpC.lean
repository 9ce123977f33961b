/-
  Walks: the chapter's example of ports.
-/
import Derived.Test.YtiaceoomiflgcaaGreatSdU
import Derived.Test.YtiaceoomiflgcaaGreatSgM
section
namespace Go.Proofs.YtiaceoomiflgcaaGreat
open Go.V
set_option linter.unusedVariables false
set_option linter.unusedSimpArgs false
set_option maxRecDepth 100000
set_option maxHeartbeats 8000000

theorem xAck_x (cores : Nat) (bs : Nat → Nat) (bits : Nat → Int) (bo : Nat → Ob) (w z : Int) (j : Nat) (hj : j < cores) (h8 : cores ≤ 8) (hz : std.bin .andNot .i64 (bits j) w = z) :
    CallOK (O := Ob) PR n_mbox_Box_Ack [.ptr 0 0, .dv (.int .i64 j), .dv (.int .i64 w)] [.obj (.mk (xR cores bs bits bo))] fun v m => v = .dv (.int .i64 0) ∧ m = [.obj (xO cores (fun i => if i = j then z else bits i) bo)] := by
  unfold xR
  refine fn_walkv mixed fn_mbox_Box_Ack Ent.opn1 fun bin cmp un conv bnot beq band sel isel ofN toN inb nz nneg lt le room' slb add sub sbin scmp slen sget ssub addk pc pb pi pf ps mkok min_ ig aeq P hP hA hF Q hQ => ?_
  have hz' : bin .andNot .i64 (bits j) w = z := by
    have e : bin = std.bin := congrArg Ar.bin hA
    rw [e]; exact hz
  clear hz
  cbv
  repeat' first
    | ((refine call_inl hP mixed hA code_mbox_Box_ask fn_mbox_Box_ask ?_); cbv)
    | ((refine call_inl hP mixed hA code_mbox_Box_Ack_c1 fn_mbox_Box_Ack_c1 ?_); cbv)
    | (refine Chk.mk trivial ?_; cbv)
    | (refine bc_true (by first | assumption | (simp (disch := omega) only [hF, natc, w64_in, shs]; first | done | assumption | omega | (simp only [natc] at *; omega))) ?_; cbv)
    | (refine bc_false (by first | assumption | (simp (disch := omega) only [hF, natc, w64_in, shs]; first | done | assumption | omega | (simp only [natc] at *; omega))) ?_; cbv)
    | (refine bc_split (fun h => ?_) (fun h => ?_) <;> (try simp (disch := omega) only [hF, natc, w64_in, shs] at h) <;> cbv)
    | (refine IdxVC.mk (by simp (disch := omega) only [hF, natc, w64_in, shs]; first | done | omega | (simp only [natc] at *; omega)) (fun kx hk hk2 => ?_); simp (disch := omega) only [hF, natc, w64_in, shs] at hk; (try obtain rfl : kx = 0 := hk); cbv)
    | (refine Chk.mk (by simp (disch := omega) only [maxN, hF, natc, w64_in, shs]; first | done | assumption | omega | (simp only [natc] at *; omega)) ?_; cbv)
    | (intro (hmx : _ ≤ maxN); replace hmx : _ ≤ 17592186044416 := hmx; cbv)
    | (intro _; cbv)
  subst hk
  rw [hz']
  subst hQ
  refine ⟨.dv (.int .i64 0), [.obj (xO cores (fun i => if i = kx then z else bits i) bo)], ?_, rfl, rfl⟩
  refine (Ent.cls1 (env' := [.dv (.int .i64 0)]) [1, 2] (xR cores bs (fun i => if i = kx then z else bits i) bo) rfl rfl ?_ ?_).trans (Ent.exI (o := fun bs => .mk (xR cores bs (fun i => if i = kx then z else bits i) bo)) 0 bs rfl)
  · refine ⟨⟨rfl, trivial⟩, ⟨rfl, rfl, fun i f hi hf => ?_⟩, rfl, trivial⟩
    rcases (by omega : f = 0 ∨ f = 1) with rfl | rfl
    · rw [updRow_20]; rfl
    · rw [updRow_21]; rfl
  · exact ⟨rfl, trivial⟩

theorem sRead_m0 (c n k : Int) (B B' X X' K G : Ob) (j a x e : Int) (ha : AtW c n k B X K G j a 2 j 0 0) (hf : BFen B B' j)
    (hx : CallOK (O := Ob) PR n_mbox_Box_Pending [.ptr 0 0, .dv (.int .i64 j)] [.obj X] fun v m => v = .tup [.dv (.int .i64 x), .dv (.int .i64 e)] ∧ m = [.obj X']) :
    CallOK (O := Ob) PR n_soc_Soc_Read [.ptr 0 0, .dv (.int .i64 j), .dv (.int .i64 a)] [.obj (sO c n k B X K G)] fun v m => v = .tup [.dv (.int .i64 x), .dv (.int .i64 0)] ∧ m = [.obj (sO c n k B' X' K G)] := by
  unfold AtW sM at ha; unfold BFen at hf
  refine fn_walkv mixed fn_soc_Soc_Read Ent.opn1 fun bin cmp un conv bnot beq band sel isel ofN toN inb nz nneg lt le room' slb add sub sbin scmp slen sget ssub addk pc pb pi pf ps mkok min_ ig aeq P hP hA hF Q hQ => ?_
  have hg : cmp .neq j j = false := by simp only [hF]; simp
  cbv
  repeat' first
    | (refine call_at hP [0, 1, 2, 3, 4] code_soc_Soc_at (ha) rfl ?_ ?_ ?_; (focus ((repeat' (first | exact trivial | exact rfl | (intro _ _ _ _; exact rfl) | refine And.intro ?_ ?_)); done)); (focus (cbv; (try simp); done)); rintro _ _ ⟨rfl, rfl⟩ _; cbv)
    | ((rw [hg]); cbv)
    | (refine call_at hP [1] code_bus_Bus_Fence (hf) rfl ?_ ?_ ?_; (focus ((repeat' (first | exact trivial | exact rfl | (intro _ _ _ _; exact rfl) | refine And.intro ?_ ?_)); done)); (focus (cbv; (try simp); done)); rintro _ _ ⟨⟨z, rfl⟩, rfl⟩ _; cbv)
    | ((refine call_inl hP mixed hA code_soc_Soc_register fn_soc_Soc_register ?_); cbv)
    | (refine call_at hP [2] code_mbox_Box_Pending (hx) rfl ?_ ?_ ?_; (focus ((repeat' (first | exact trivial | exact rfl | (intro _ _ _ _; exact rfl) | refine And.intro ?_ ?_)); done)); (focus (cbv; (try simp); done)); rintro _ _ ⟨rfl, rfl⟩ _; cbv)
    | (refine Chk.mk trivial ?_; cbv)
    | (refine bc_true (by first | assumption | (simp (disch := omega) only [hF, natc, w64_in, shs]; first | done | assumption | omega | (simp only [natc] at *; omega))) ?_; cbv)
    | (refine bc_false (by first | assumption | (simp (disch := omega) only [hF, natc, w64_in, shs]; first | done | assumption | omega | (simp only [natc] at *; omega))) ?_; cbv)
    | (refine bc_split (fun h => ?_) (fun h => ?_) <;> (try simp (disch := omega) only [hF, natc, w64_in, shs] at h) <;> cbv)
    | (refine IdxVC.mk (by simp (disch := omega) only [hF, natc, w64_in, shs]; first | done | omega | (simp only [natc] at *; omega)) (fun kx hk hk2 => ?_); simp (disch := omega) only [hF, natc, w64_in, shs] at hk; (try obtain rfl : kx = 0 := hk); cbv)
    | (refine Chk.mk (by simp (disch := omega) only [maxN, hF, natc, w64_in, shs]; first | done | assumption | omega | (simp only [natc] at *; omega)) ?_; cbv)
    | (intro (hmx : _ ≤ maxN); replace hmx : _ ≤ 17592186044416 := hmx; cbv)
    | (intro _; cbv)
  subst hQ
  exact leaf_sr rfl rfl ⟨rfl, rfl⟩

theorem sRead_m1 (c n k : Int) (B B' X X' K G : Ob) (j a u x e : Int) (ha : AtW c n k B X K G j a 2 j 1 0) (hf : BFen B B' j)
    (hx : CallOK (O := Ob) PR n_mbox_Box_Take [.ptr 0 0, .dv (.int .i64 j)] [.obj X] fun v m => v = .tup [.dv (.int .i64 u), .dv (.int .i64 x), .dv (.int .i64 e)] ∧ m = [.obj X']) :
    CallOK (O := Ob) PR n_soc_Soc_Read [.ptr 0 0, .dv (.int .i64 j), .dv (.int .i64 a)] [.obj (sO c n k B X K G)] fun v m => v = .tup [.dv (.int .i64 x), .dv (.int .i64 0)] ∧ m = [.obj (sO c n k B' X' K G)] := by
  unfold AtW sM at ha; unfold BFen at hf
  refine fn_walkv mixed fn_soc_Soc_Read Ent.opn1 fun bin cmp un conv bnot beq band sel isel ofN toN inb nz nneg lt le room' slb add sub sbin scmp slen sget ssub addk pc pb pi pf ps mkok min_ ig aeq P hP hA hF Q hQ => ?_
  have hg : cmp .neq j j = false := by simp only [hF]; simp
  cbv
  repeat' first
    | (refine call_at hP [0, 1, 2, 3, 4] code_soc_Soc_at (ha) rfl ?_ ?_ ?_; (focus ((repeat' (first | exact trivial | exact rfl | (intro _ _ _ _; exact rfl) | refine And.intro ?_ ?_)); done)); (focus (cbv; (try simp); done)); rintro _ _ ⟨rfl, rfl⟩ _; cbv)
    | ((rw [hg]); cbv)
    | (refine call_at hP [1] code_bus_Bus_Fence (hf) rfl ?_ ?_ ?_; (focus ((repeat' (first | exact trivial | exact rfl | (intro _ _ _ _; exact rfl) | refine And.intro ?_ ?_)); done)); (focus (cbv; (try simp); done)); rintro _ _ ⟨⟨z, rfl⟩, rfl⟩ _; cbv)
    | ((refine call_inl hP mixed hA code_soc_Soc_register fn_soc_Soc_register ?_); cbv)
    | (refine call_at hP [2] code_mbox_Box_Take (hx) rfl ?_ ?_ ?_; (focus ((repeat' (first | exact trivial | exact rfl | (intro _ _ _ _; exact rfl) | refine And.intro ?_ ?_)); done)); (focus (cbv; (try simp); done)); rintro _ _ ⟨rfl, rfl⟩ _; cbv)
    | (refine Chk.mk trivial ?_; cbv)
    | (refine bc_true (by first | assumption | (simp (disch := omega) only [hF, natc, w64_in, shs]; first | done | assumption | omega | (simp only [natc] at *; omega))) ?_; cbv)
    | (refine bc_false (by first | assumption | (simp (disch := omega) only [hF, natc, w64_in, shs]; first | done | assumption | omega | (simp only [natc] at *; omega))) ?_; cbv)
    | (refine bc_split (fun h => ?_) (fun h => ?_) <;> (try simp (disch := omega) only [hF, natc, w64_in, shs] at h) <;> cbv)
    | (refine IdxVC.mk (by simp (disch := omega) only [hF, natc, w64_in, shs]; first | done | omega | (simp only [natc] at *; omega)) (fun kx hk hk2 => ?_); simp (disch := omega) only [hF, natc, w64_in, shs] at hk; (try obtain rfl : kx = 0 := hk); cbv)
    | (refine Chk.mk (by simp (disch := omega) only [maxN, hF, natc, w64_in, shs]; first | done | assumption | omega | (simp only [natc] at *; omega)) ?_; cbv)
    | (intro (hmx : _ ≤ maxN); replace hmx : _ ≤ 17592186044416 := hmx; cbv)
    | (intro _; cbv)
  subst hQ
  exact leaf_sr rfl rfl ⟨rfl, rfl⟩

theorem sRead_m2 (c n k : Int) (B B' X X' K G : Ob) (j a x : Int) (ha : AtW c n k B X K G j a 2 j 2 0) (hf : BFen B B' j)
    (hx : CallOK (O := Ob) PR n_mbox_Box_Waits [.ptr 0 0, .dv (.int .i64 j)] [.obj X] fun v m => v = .dv (.int .i64 x) ∧ m = [.obj X']) :
    CallOK (O := Ob) PR n_soc_Soc_Read [.ptr 0 0, .dv (.int .i64 j), .dv (.int .i64 a)] [.obj (sO c n k B X K G)] fun v m => v = .tup [.dv (.int .i64 x), .dv (.int .i64 0)] ∧ m = [.obj (sO c n k B' X' K G)] := by
  unfold AtW sM at ha; unfold BFen at hf
  refine fn_walkv mixed fn_soc_Soc_Read Ent.opn1 fun bin cmp un conv bnot beq band sel isel ofN toN inb nz nneg lt le room' slb add sub sbin scmp slen sget ssub addk pc pb pi pf ps mkok min_ ig aeq P hP hA hF Q hQ => ?_
  have hg : cmp .neq j j = false := by simp only [hF]; simp
  cbv
  repeat' first
    | (refine call_at hP [0, 1, 2, 3, 4] code_soc_Soc_at (ha) rfl ?_ ?_ ?_; (focus ((repeat' (first | exact trivial | exact rfl | (intro _ _ _ _; exact rfl) | refine And.intro ?_ ?_)); done)); (focus (cbv; (try simp); done)); rintro _ _ ⟨rfl, rfl⟩ _; cbv)
    | ((rw [hg]); cbv)
    | (refine call_at hP [1] code_bus_Bus_Fence (hf) rfl ?_ ?_ ?_; (focus ((repeat' (first | exact trivial | exact rfl | (intro _ _ _ _; exact rfl) | refine And.intro ?_ ?_)); done)); (focus (cbv; (try simp); done)); rintro _ _ ⟨⟨z, rfl⟩, rfl⟩ _; cbv)
    | ((refine call_inl hP mixed hA code_soc_Soc_register fn_soc_Soc_register ?_); cbv)
    | (refine call_at hP [2] code_mbox_Box_Waits (hx) rfl ?_ ?_ ?_; (focus ((repeat' (first | exact trivial | exact rfl | (intro _ _ _ _; exact rfl) | refine And.intro ?_ ?_)); done)); (focus (cbv; (try simp); done)); rintro _ _ ⟨rfl, rfl⟩ _; cbv)
    | (refine Chk.mk trivial ?_; cbv)
    | (refine bc_true (by first | assumption | (simp (disch := omega) only [hF, natc, w64_in, shs]; first | done | assumption | omega | (simp only [natc] at *; omega))) ?_; cbv)
    | (refine bc_false (by first | assumption | (simp (disch := omega) only [hF, natc, w64_in, shs]; first | done | assumption | omega | (simp only [natc] at *; omega))) ?_; cbv)
    | (refine bc_split (fun h => ?_) (fun h => ?_) <;> (try simp (disch := omega) only [hF, natc, w64_in, shs] at h) <;> cbv)
    | (refine IdxVC.mk (by simp (disch := omega) only [hF, natc, w64_in, shs]; first | done | omega | (simp only [natc] at *; omega)) (fun kx hk hk2 => ?_); simp (disch := omega) only [hF, natc, w64_in, shs] at hk; (try obtain rfl : kx = 0 := hk); cbv)
    | (refine Chk.mk (by simp (disch := omega) only [maxN, hF, natc, w64_in, shs]; first | done | assumption | omega | (simp only [natc] at *; omega)) ?_; cbv)
    | (intro (hmx : _ ≤ maxN); replace hmx : _ ≤ 17592186044416 := hmx; cbv)
    | (intro _; cbv)
  subst hQ
  exact leaf_sr rfl rfl ⟨rfl, rfl⟩

theorem sWrite_a (c n k : Int) (B B' X X' K G : Ob) (j a w e : Int) (hw : WordW w w) (ha : AtW c n k B X K G j a 2 j 0 0)
    (hf : CallOK (O := Ob) PR n_bus_Bus_Fence [.ptr 0 0, .dv (.int .i64 j)] [.obj B] fun v m => (∃ z, v = .tup [.dv (.int .i64 z), .dv (.int .i64 0)]) ∧ m = [.obj B'])
    (hr : CallOK (O := Ob) PR n_mbox_Box_Ack [.ptr 0 0, .dv (.int .i64 j), .dv (.int .i64 w)] [.obj X] fun v m => v = .dv (.int .i64 e) ∧ m = [.obj X']) :
    SWr c n k B X K G j a w fun v m => v = .dv (.int .i64 e) ∧ m = [.obj (sO c n k B' X' K G)] := by
  unfold AtW sM at ha; unfold SWr; unfold WordW at hw
  refine fn_walkv mixed fn_soc_Soc_Write Ent.opn1 fun bin cmp un conv bnot beq band sel isel ofN toN inb nz nneg lt le room' slb add sub sbin scmp slen sget ssub addk pc pb pi pf ps mkok min_ ig aeq P hP hA hF Q hQ => ?_
  have hb0 : bnot true = false := by simp only [hF]; rfl
  have hg : cmp .neq w w = false := by simp only [hF]; simp
  have hg2 : cmp .eql j j = true := by simp only [hF]; simp
  cbv
  repeat' first
    | (refine call_at hP [0, 1, 2, 3, 4] code_soc_Soc_at (ha) rfl ?_ ?_ ?_; (focus ((repeat' (first | exact trivial | exact rfl | (intro _ _ _ _; exact rfl) | refine And.intro ?_ ?_)); done)); (focus (cbv; (try simp); done)); rintro _ _ ⟨rfl, rfl⟩ _; cbv)
    | ((refine call_inl hP mixed hA code_soc_may fn_soc_may ?_); cbv)
    | ((rw [hb0]); cbv)
    | ((rw [hg]); cbv)
    | ((rw [hg2]); cbv)
    | (refine call_pure hP code_wrap_Word (hw) ?_ ?_; (focus (cbv; (try simp); done)); rintro _ rfl; cbv)
    | (refine call_at hP [1] code_bus_Bus_Fence (hf) rfl ?_ ?_ ?_; (focus ((repeat' (first | exact trivial | exact rfl | (intro _ _ _ _; exact rfl) | refine And.intro ?_ ?_)); done)); (focus (cbv; (try simp); done)); rintro _ _ ⟨⟨z, rfl⟩, rfl⟩ _; cbv)
    | (refine call_at hP [2] code_mbox_Box_Ack (hr) rfl ?_ ?_ ?_; (focus ((repeat' (first | exact trivial | exact rfl | (intro _ _ _ _; exact rfl) | refine And.intro ?_ ?_)); done)); (focus (cbv; (try simp); done)); rintro _ _ ⟨rfl, rfl⟩ _; cbv)
    | (refine Chk.mk trivial ?_; cbv)
    | (refine bc_true (by first | assumption | (simp (disch := omega) only [hF, natc, w64_in, shs]; first | done | assumption | omega | (simp only [natc] at *; omega))) ?_; cbv)
    | (refine bc_false (by first | assumption | (simp (disch := omega) only [hF, natc, w64_in, shs]; first | done | assumption | omega | (simp only [natc] at *; omega))) ?_; cbv)
    | (refine bc_split (fun h => ?_) (fun h => ?_) <;> (try simp (disch := omega) only [hF, natc, w64_in, shs] at h) <;> cbv)
    | (refine IdxVC.mk (by simp (disch := omega) only [hF, natc, w64_in, shs]; first | done | omega | (simp only [natc] at *; omega)) (fun kx hk hk2 => ?_); simp (disch := omega) only [hF, natc, w64_in, shs] at hk; (try obtain rfl : kx = 0 := hk); cbv)
    | (refine Chk.mk (by simp (disch := omega) only [maxN, hF, natc, w64_in, shs]; first | done | assumption | omega | (simp only [natc] at *; omega)) ?_; cbv)
    | (intro (hmx : _ ≤ maxN); replace hmx : _ ≤ 17592186044416 := hmx; cbv)
    | (intro _; cbv)
  subst hQ
  exact leaf_sr rfl rfl ⟨rfl, rfl⟩

theorem sWrite_r (c n k : Int) (B B' X X' K G : Ob) (j a w y e : Int) (hw : WordW w w) (ha : AtW c n k B X K G j a 2 y 2 0)
    (hf : CallOK (O := Ob) PR n_bus_Bus_Fence [.ptr 0 0, .dv (.int .i64 j)] [.obj B] fun v m => (∃ z, v = .tup [.dv (.int .i64 z), .dv (.int .i64 0)]) ∧ m = [.obj B'])
    (hr : CallOK (O := Ob) PR n_mbox_Box_Ring [.ptr 0 0, .dv (.int .i64 j), .dv (.int .i64 y), .dv (.int .i64 w)] [.obj X] fun v m => v = .dv (.int .i64 e) ∧ m = [.obj X']) :
    SWr c n k B X K G j a w fun v m => v = .dv (.int .i64 e) ∧ m = [.obj (sO c n k B' X' K G)] := by
  unfold AtW sM at ha; unfold SWr; unfold WordW at hw
  refine fn_walkv mixed fn_soc_Soc_Write Ent.opn1 fun bin cmp un conv bnot beq band sel isel ofN toN inb nz nneg lt le room' slb add sub sbin scmp slen sget ssub addk pc pb pi pf ps mkok min_ ig aeq P hP hA hF Q hQ => ?_
  have hb0 : bnot true = false := by simp only [hF]; rfl
  have hg : cmp .neq w w = false := by simp only [hF]; simp
  cbv
  repeat' first
    | (refine call_at hP [0, 1, 2, 3, 4] code_soc_Soc_at (ha) rfl ?_ ?_ ?_; (focus ((repeat' (first | exact trivial | exact rfl | (intro _ _ _ _; exact rfl) | refine And.intro ?_ ?_)); done)); (focus (cbv; (try simp); done)); rintro _ _ ⟨rfl, rfl⟩ _; cbv)
    | ((refine call_inl hP mixed hA code_soc_may fn_soc_may ?_); cbv)
    | ((rw [hb0]); cbv)
    | ((rw [hg]); cbv)
    | (refine call_pure hP code_wrap_Word (hw) ?_ ?_; (focus (cbv; (try simp); done)); rintro _ rfl; cbv)
    | (refine call_at hP [1] code_bus_Bus_Fence (hf) rfl ?_ ?_ ?_; (focus ((repeat' (first | exact trivial | exact rfl | (intro _ _ _ _; exact rfl) | refine And.intro ?_ ?_)); done)); (focus (cbv; (try simp); done)); rintro _ _ ⟨⟨z, rfl⟩, rfl⟩ _; cbv)
    | (refine call_at hP [2] code_mbox_Box_Ring (hr) rfl ?_ ?_ ?_; (focus ((repeat' (first | exact trivial | exact rfl | (intro _ _ _ _; exact rfl) | refine And.intro ?_ ?_)); done)); (focus (cbv; (try simp); done)); rintro _ _ ⟨rfl, rfl⟩ _; cbv)
    | (refine Chk.mk trivial ?_; cbv)
    | (refine bc_true (by first | assumption | (simp (disch := omega) only [hF, natc, w64_in, shs]; first | done | assumption | omega | (simp only [natc] at *; omega))) ?_; cbv)
    | (refine bc_false (by first | assumption | (simp (disch := omega) only [hF, natc, w64_in, shs]; first | done | assumption | omega | (simp only [natc] at *; omega))) ?_; cbv)
    | (refine bc_split (fun h => ?_) (fun h => ?_) <;> (try simp (disch := omega) only [hF, natc, w64_in, shs] at h) <;> cbv)
    | (refine IdxVC.mk (by simp (disch := omega) only [hF, natc, w64_in, shs]; first | done | omega | (simp only [natc] at *; omega)) (fun kx hk hk2 => ?_); simp (disch := omega) only [hF, natc, w64_in, shs] at hk; (try obtain rfl : kx = 0 := hk); cbv)
    | (refine Chk.mk (by simp (disch := omega) only [maxN, hF, natc, w64_in, shs]; first | done | assumption | omega | (simp only [natc] at *; omega)) ?_; cbv)
    | (intro (hmx : _ ≤ maxN); replace hmx : _ ≤ 17592186044416 := hmx; cbv)
    | (intro _; cbv)
  subst hQ
  exact leaf_sr rfl rfl ⟨rfl, rfl⟩

end Go.Proofs.YtiaceoomiflgcaaGreat

end

section
namespace Go.Proofs.YtiaceoomiflgcaaGreat
open Go.V
set_option linter.unusedVariables false
set_option linter.unusedSimpArgs false
set_option maxRecDepth 100000
set_option maxHeartbeats 8000000

/-- Mailboxes that hold the same. -/
structure XE (X Y : BoxS) : Prop where
  x : X.ok
  y : Y.ok
  c : Y.cores = X.cores
  b : Y.bits = X.bits
  h : ∀ j, j < X.cores → Y.h j = X.h j
  r : ∀ j, j < X.cores → ∀ i, i < X.h j → Y.rm j ((Y.f j + i) % 16) = X.rm j ((X.f j + i) % 16)

theorem XE.refl {X : BoxS} (h : X.ok) : XE X X := ⟨h, h, rfl, rfl, fun _ _ => rfl, fun _ _ _ _ => rfl⟩
theorem XE.trans {X Y Z : BoxS} (h : XE X Y) (k : XE Y Z) : XE X Z :=
  ⟨h.x, k.y, k.c.trans h.c, k.b.trans h.b, fun j hj => (k.h j (by rw [h.c]; exact hj)).trans (h.h j hj), fun j hj i hi => (k.r j (by rw [h.c]; exact hj) i (by rw [h.h j hj]; exact hi)).trans (h.r j hj i hi)⟩
theorem XE.symm {X Y : BoxS} (h : XE X Y) : XE Y X :=
  ⟨h.y, h.x, h.c.symm, h.b.symm, fun j hj => (h.h j (by rw [← h.c]; exact hj)).symm, fun j hj i hi => (h.r j (by rw [← h.c]; exact hj) i (by rw [← h.h j (by rw [← h.c]; exact hj)]; exact hi)).symm⟩

theorem XE.upd {X Y : BoxS} (E : XE X Y) (bits : Nat → Int) (j f f' h : Nat) (rm rm' : Nat → Int) (hf : f < 16) (hf' : f' < 16) (hh : h ≤ 16) (hr : ∀ i, i < h → rm' ((f' + i) % 16) = rm ((f + i) % 16)) :
    XE (X.upd bits j f h rm) (Y.upd bits j f' h rm') := by
  refine ⟨X.upd_ok E.x _ _ _ _ _ hf hh, Y.upd_ok E.y _ _ _ _ _ hf' hh, E.c, rfl, fun k hk => ?_, fun k hk i hi => ?_⟩
  · show (if k = j then h else Y.h k) = if k = j then h else X.h k
    split
    · rfl
    · exact E.h k hk
  · have hi : i < if k = j then h else X.h k := hi
    show (if k = j then rm' else Y.rm k) (((if k = j then f' else Y.f k) + i) % 16) = (if k = j then rm else X.rm k) (((if k = j then f else X.f k) + i) % 16)
    by_cases hkj : k = j
    · rw [if_pos hkj] at hi
      simp only [if_pos hkj]
      exact hr i hi
    · rw [if_neg hkj] at hi
      simp only [if_neg hkj]
      exact E.r k hk i hi

theorem BoxS.upd_same (X : BoxS) (j : Nat) : X.upd X.bits j (X.f j) (X.h j) (X.rm j) = X := by
  have e1 : (fun i => if i = j then X.f j else X.f i) = X.f := by funext i; split <;> simp_all
  have e2 : (fun i => if i = j then X.h j else X.h i) = X.h := by funext i; split <;> simp_all
  have e3 : (fun i => if i = j then X.rm j else X.rm i) = X.rm := by funext i; split <;> simp_all
  unfold BoxS.upd
  rw [e1, e2, e3]

def DX (X : BoxS) (f : FuncId) (args : List SV) (v : SV) (X' : BoxS) : Prop := CallOK (O := Ob) PR f args [.obj (boxO X)] fun u m => u = v ∧ m = [.obj (boxO X')]

theorem dx_waits (X : BoxS) (hX : X.ok) (j : Nat) (hj : j < X.cores) : DX X n_mbox_Box_Waits [.ptr 0 0, .dv (.int .i64 j)] (.dv (.int .i64 (X.h j : Int))) X := by
  have h : CallOK (O := Ob) PR n_mbox_Box_Waits [.ptr 0 0, .dv (.int .i64 j)] [.obj (boxO X)] fun v m => v = .dv (.int .i64 (X.h j : Int)) ∧ m = [.obj (boxO (X.upd X.bits j (X.f j) (X.h j) (X.rm j)))] := by
    rw [boxO_upd]
    exact CallOK.exE 0 rfl fun bs => xWaits_w X.cores bs X.bits _ _ _ j hj hX.2.1 rfl (nLen (X.f j) (X.h j) (X.rm j))
  rw [X.upd_same] at h
  exact h

theorem dx_ack (X : BoxS) (hX : X.ok) (j : Nat) (hj : j < X.cores) (w : Int) : DX X n_mbox_Box_Ack [.ptr 0 0, .dv (.int .i64 j), .dv (.int .i64 w)] (.dv (.int .i64 0)) { X with bits := fun i => if i = j then std.bin .andNot .i64 (X.bits j) w else X.bits i } :=
  CallOK.exE 0 rfl fun bs => xAck_x X.cores bs X.bits _ w _ j hj hX.2.1 rfl

theorem dx_take0 (X : BoxS) (hX : X.ok) (j : Nat) (hj : j < X.cores) (h0 : X.h j = 0) : DX X n_mbox_Box_Take [.ptr 0 0, .dv (.int .i64 j)] (.tup [.dv (.int .i64 (std.bin .quo .i64 0 65536)), .dv (.int .i64 (std.bin .rem .i64 0 65536)), .dv (.int .i64 6)]) X := by
  have ht := nTake_no (X.f j) (X.rm j)
  have h : CallOK (O := Ob) PR n_mbox_Box_Take [.ptr 0 0, .dv (.int .i64 j)] [.obj (boxO X)] fun v m => v = .tup [.dv (.int .i64 (std.bin .quo .i64 0 65536)), .dv (.int .i64 (std.bin .rem .i64 0 65536)), .dv (.int .i64 6)] ∧ m = [.obj (boxO (X.upd X.bits j (X.f j) 0 (X.rm j)))] := by
    rw [boxO_upd]
    exact CallOK.exE 0 rfl fun bs => xTake_w X.cores bs X.bits _ (nO (X.f j) 0 (X.rm j)) _ _ _ _ _ rfl rfl j hj hX.2.1 (by show nO (X.f j) (X.h j) (X.rm j) = _; rw [h0]) ht
  have e := X.upd_same j
  rw [h0] at e
  rw [e] at h
  exact h

theorem dx_take1 (X : BoxS) (hX : X.ok) (j : Nat) (hj : j < X.cores) (h0 : X.h j ≠ 0) : DX X n_mbox_Box_Take [.ptr 0 0, .dv (.int .i64 j)] (.tup [.dv (.int .i64 (std.bin .quo .i64 (X.rm j (X.f j)) 65536)), .dv (.int .i64 (std.bin .rem .i64 (X.rm j (X.f j)) 65536)), .dv (.int .i64 0)])
    (X.upd X.bits j ((X.f j + 1) % 16) (X.h j - 1) (X.rm j)) := by
  obtain ⟨k1, k2⟩ := hX.2.2 j hj
  have ht := nTake (X.f j) (X.h j) (X.rm j) k1 (by omega) k2
  unfold DX
  rw [boxO_upd]
  exact CallOK.exE 0 rfl fun bs => xTake_w X.cores bs X.bits _ _ _ _ _ _ _ rfl rfl j hj hX.2.1 rfl ht

theorem dx_ring5 (X : BoxS) (hX : X.ok) (j i : Nat) (hj : j < X.cores) (hi : i < X.cores) (w : Int) (hw : 0 ≤ w ∧ w ≤ 65535) (h0 : X.h i = 16) :
    DX X n_mbox_Box_Ring [.ptr 0 0, .dv (.int .i64 j), .dv (.int .i64 i), .dv (.int .i64 w)] (.dv (.int .i64 5)) (X.upd (fun k => if k = i then std.bin .or .i64 (X.bits i) (std.bin .shl .i64 1 j) else X.bits k) i (X.f i) 16 (X.rm i)) := by
  obtain ⟨k1, k2⟩ := hX.2.2 i hi
  have hp := nPut_no (X.f i) (X.rm i) ((j : Int) * 65536 + w) k1
  unfold DX
  rw [boxO_upd]
  exact CallOK.exE 0 rfl fun bs => xRing_w X.cores bs X.bits _ (nO (X.f i) 16 (X.rm i)) _ w 5 _ _ j i hj hi hX.2.1 (by show nO (X.f i) (X.h i) (X.rm i) = _; rw [h0]) hw rfl rfl (word_in w hw) hp

theorem dx_ring0 (X : BoxS) (hX : X.ok) (j i : Nat) (hj : j < X.cores) (hi : i < X.cores) (w : Int) (hw : 0 ≤ w ∧ w ≤ 65535) (h0 : X.h i ≠ 16) :
    DX X n_mbox_Box_Ring [.ptr 0 0, .dv (.int .i64 j), .dv (.int .i64 i), .dv (.int .i64 w)] (.dv (.int .i64 0)) (X.upd (fun k => if k = i then std.bin .or .i64 (X.bits i) (std.bin .shl .i64 1 j) else X.bits k) i (X.f i) (X.h i + 1) (fun k => if k = (X.f i + X.h i) % 16 then (j : Int) * 65536 + w else X.rm i k)) := by
  obtain ⟨k1, k2⟩ := hX.2.2 i hi
  have hp := nPut (X.f i) (X.h i) (X.rm i) ((j : Int) * 65536 + w) k1 (by omega)
  unfold DX
  rw [boxO_upd]
  exact CallOK.exE 0 rfl fun bs => xRing_w X.cores bs X.bits _ _ _ w 0 _ _ j i hj hi hX.2.1 rfl hw rfl rfl (word_in w hw) hp

theorem xp_take {X Y : BoxS} (E : XE X Y) (j : Nat) (hj : j < X.cores) : ∃ u x e X' Y', XE X' Y' ∧ X'.cores = X.cores ∧ DX X n_mbox_Box_Take [.ptr 0 0, .dv (.int .i64 j)] (.tup [.dv (.int .i64 u), .dv (.int .i64 x), .dv (.int .i64 e)]) X' ∧
    DX Y n_mbox_Box_Take [.ptr 0 0, .dv (.int .i64 j)] (.tup [.dv (.int .i64 u), .dv (.int .i64 x), .dv (.int .i64 e)]) Y' := by
  have hjY : j < Y.cores := by rw [E.c]; exact hj
  obtain ⟨k1, k2⟩ := E.x.2.2 j hj
  obtain ⟨l1, l2⟩ := E.y.2.2 j hjY
  have hh := E.h j hj
  by_cases h0 : X.h j = 0
  · exact ⟨_, _, _, X, Y, E, rfl, dx_take0 X E.x j hj h0, dx_take0 Y E.y j hjY (hh.trans h0)⟩
  · have h2 := dx_take1 Y E.y j hjY (by omega)
    have e0 := E.r j hj 0 (by omega)
    simp only [Nat.add_zero, Nat.mod_eq_of_lt k1, Nat.mod_eq_of_lt l1] at e0
    rw [e0, hh, E.b] at h2
    refine ⟨_, _, _, _, _, E.upd X.bits j _ _ (X.h j - 1) _ _ (Nat.mod_lt _ (by omega)) (Nat.mod_lt _ (by omega)) (by omega) fun i hi => ?_, rfl, dx_take1 X E.x j hj h0, h2⟩
    have e1 := E.r j hj (i + 1) (by omega)
    have a1 : ((Y.f j + 1) % 16 + i) % 16 = (Y.f j + (i + 1)) % 16 := by omega
    have a2 : ((X.f j + 1) % 16 + i) % 16 = (X.f j + (i + 1)) % 16 := by omega
    rw [a1, a2]
    exact e1

theorem XE.bits {X Y : BoxS} (E : XE X Y) (bits : Nat → Int) : XE { X with bits := bits } { Y with bits := bits } := ⟨E.x, E.y, E.c, rfl, E.h, E.r⟩

theorem xp_ack {X Y : BoxS} (E : XE X Y) (j : Nat) (hj : j < X.cores) (w : Int) : ∃ X' Y', XE X' Y' ∧ X'.cores = X.cores ∧ DX X n_mbox_Box_Ack [.ptr 0 0, .dv (.int .i64 j), .dv (.int .i64 w)] (.dv (.int .i64 0)) X' ∧
    DX Y n_mbox_Box_Ack [.ptr 0 0, .dv (.int .i64 j), .dv (.int .i64 w)] (.dv (.int .i64 0)) Y' := by
  have h2 := dx_ack Y E.y j (by rw [E.c]; exact hj) w
  rw [E.b] at h2
  exact ⟨_, _, E.bits (fun i => if i = j then std.bin .andNot .i64 (X.bits j) w else X.bits i), rfl, dx_ack X E.x j hj w, h2⟩

theorem xp_ring {X Y : BoxS} (E : XE X Y) (j i : Nat) (hj : j < X.cores) (hi : i < X.cores) (w : Int) (hw : 0 ≤ w ∧ w ≤ 65535) : ∃ e X' Y', (e = 0 ∨ e = 5) ∧ XE X' Y' ∧ X'.cores = X.cores ∧
    DX X n_mbox_Box_Ring [.ptr 0 0, .dv (.int .i64 j), .dv (.int .i64 i), .dv (.int .i64 w)] (.dv (.int .i64 e)) X' ∧ DX Y n_mbox_Box_Ring [.ptr 0 0, .dv (.int .i64 j), .dv (.int .i64 i), .dv (.int .i64 w)] (.dv (.int .i64 e)) Y' := by
  have hiY : i < Y.cores := by rw [E.c]; exact hi
  have hjY : j < Y.cores := by rw [E.c]; exact hj
  obtain ⟨k1, k2⟩ := E.x.2.2 i hi
  obtain ⟨l1, l2⟩ := E.y.2.2 i hiY
  have hh := E.h i hi
  by_cases h0 : X.h i = 16
  · have h2 := dx_ring5 Y E.y j i hjY hiY w hw (hh.trans h0)
    rw [E.b] at h2
    refine ⟨5, _, _, .inr rfl, E.upd _ i _ _ 16 _ _ k1 l1 (Nat.le_refl _) (fun t ht => E.r i hi t (by omega)), rfl, dx_ring5 X E.x j i hj hi w hw h0, h2⟩
  · have h2 := dx_ring0 Y E.y j i hjY hiY w hw (by omega)
    rw [E.b, hh] at h2
    refine ⟨0, _, _, .inl rfl, E.upd _ i _ _ (X.h i + 1) _ _ k1 l1 (by omega) (fun t ht => ?_), rfl, dx_ring0 X E.x j i hj hi w hw h0, h2⟩
    by_cases hth : t = X.h i
    · subst hth
      rw [if_pos rfl, if_pos rfl]
    · rw [if_neg (by omega), if_neg (by omega)]
      exact E.r i hi t (by omega)

end Go.Proofs.YtiaceoomiflgcaaGreat

end

section
namespace Go.Proofs.YtiaceoomiflgcaaGreat
open Go.V
set_option linter.unusedVariables false
set_option linter.unusedSimpArgs false
set_option maxRecDepth 100000
set_option maxHeartbeats 8000000

/-- With other mailboxes. -/
def SocS.wX (S : SocS) (Y : BoxS) : SocS := { S with X := Y }
def DS (S : SocS) (f : FuncId) (args : List SV) (v : SV) (S' : SocS) : Prop := CallOK (O := Ob) PR f args [.obj (socO S)] fun u m => u = v ∧ m = [.obj (socO S')]

/-- Both answer the same, and hold the same then; what is refused changes nothing. -/
def PairR (S : SocS) (Y : BoxS) (f : FuncId) (args : List SV) (R : SV → Int → Prop) : Prop :=
  ∃ v e S' Y', R v e ∧ Nxt S S' ∧ XE S'.X Y' ∧ DS S f args v S' ∧ DS (S.wX Y) f args v (S'.wX Y') ∧ (e ≠ 0 → e ≠ 5 → S' = S ∧ Y' = Y)
def R2 (v : SV) (e : Int) : Prop := ∃ n, v = .tup [.dv (.int .i64 n), .dv (.int .i64 e)]
def R1 (v : SV) (e : Int) : Prop := v = .dv (.int .i64 e)
theorem at_cases2 (S : SocS) (hS : S.ok) (j a : Int) (ha : a ≤ 9223372036854775807) :
    (∃ e, e ≠ 0 ∧ ∀ B X K, AtW S.c S.n S.k B X K (gO S.c S.ep S.hd) j a 0 0 0 e) ∨ ∃ i : Nat, j = i ∧ i < S.c ∧ S.hd i = false ∧ ∃ x y z : Nat, (∀ B X K, AtW S.c S.n S.k B X K (gO S.c S.ep S.hd) j a x y z 0) ∧
      ((x = 1 ∧ y = 0 ∧ a = z ∧ z < S.n) ∨ (x = 2 ∧ y < S.c ∧ z < 3) ∨ (x = 3 ∧ y < S.k ∧ z = 0 ∧ a = 65792 + y) ∨ (x = 4 ∧ y < S.c ∧ z = 0 ∧ a = 66048 + y)) := by
  by_cases hj : 0 ≤ j ∧ j < S.c
  · obtain ⟨i, rfl⟩ : ∃ i : Nat, j = i := ⟨j.toNat, by omega⟩
    have hi : i < S.c := by omega
    have h1 := gEpoch_in S.c S.ep S.hd hS.hc.2 i hi
    have h2 := gUp_in S.c S.ep S.hd hS.hc.2 i hi
    cases hh : S.hd i with
    | true =>
      rw [hh] at h2
      exact .inl ⟨19, by omega, fun B X K => at_off _ _ _ B X K _ i a _ h1 h2⟩
    | false =>
      rw [hh] at h2
      rcases dec_cases S.c S.n S.k a hS.hc hS.hn hS.hk ha with h | ⟨x, y, z, h, hx⟩
      · exact .inl ⟨4, by omega, fun B X K => at_no _ _ _ B X K _ i a _ h1 h2 h⟩
      · exact .inr ⟨i, rfl, hi, hh, x, y, z, fun B X K => at_ok _ _ _ B X K _ i a _ x y z h1 h2 h, hx⟩
  · exact .inl ⟨3, by omega, fun B X K => at_core _ _ _ B X K _ j a 0 (gEpoch_out S.c S.ep S.hd hS.hc.2 j hj)⟩

theorem Nxt.wX {S S' : SocS} (h : Nxt S S') (X : BoxS) (h1 : X.ok) (h2 : X.cores = S.X.cores) (hS : S.ok) : Nxt S (S'.wX X) :=
  h.trans (h.1.setX X h1 (by rw [h2, hS.hXc, h.2.1]))

theorem read_pair (S : SocS) (hS : S.ok) (Y : BoxS) (hY : XE S.X Y) (j a : Int) (ha : a ≤ 9223372036854775807) : PairR S Y n_soc_Soc_Read [.ptr 0 0, .dv (.int .i64 j), .dv (.int .i64 a)] R2 := by
  rcases at_cases2 S hS j a ha with ⟨e, he, h⟩ | ⟨i, rfl, hi, hh, x, y, z, h, hx⟩
  · exact ⟨_, e, S, Y, ⟨_, rfl⟩, Nxt.refl hS, hY, sRead_no _ _ _ _ _ _ _ j a e he (h _ _ _), sRead_no _ _ _ _ _ _ _ j a e he (h _ _ _), fun _ _ => ⟨rfl, rfl⟩⟩
  · have hiB : i < S.B.cores := by rw [hS.hBc]; exact hi
    have hiX : i < S.X.cores := by rw [hS.hXc]; exact hi
    have hiY : i < Y.cores := by rw [hY.c]; exact hiX
    have hf := bfen S hS i hi
    have hN := hS.fen i hi
    rcases hx with ⟨rfl, rfl, rfl, hz⟩ | ⟨rfl, hy, hz⟩ | ⟨rfl, hy, rfl, rfl⟩ | ⟨rfl, hy, rfl, rfl⟩
    · have hb := busLoad S.B hS.hB i z hiB (by rw [hS.hBn]; exact hz)
      exact ⟨_, 0, S, Y, ⟨_, rfl⟩, Nxt.refl hS, hY, sRead_ram _ _ _ _ _ _ _ i z 0 z _ _ (h _ _ _) hb, sRead_ram _ _ _ _ _ _ _ i z 0 z _ _ (h _ _ _) hb, fun h => absurd rfl h⟩
    · by_cases hyi : y = i
      · subst hyi
        rcases (by omega : z = 0 ∨ z = 1 ∨ z = 2) with rfl | rfl | rfl
        · have p1 := boxPending S.X hY.x y hiX
          have p2 := boxPending Y hY.y y hiY
          rw [hY.b] at p2
          exact ⟨_, 0, S.fen y, Y, ⟨_, rfl⟩, hN, hY, sRead_m0 _ _ _ _ _ _ _ _ _ y a _ _ (h _ _ _) hf p1, sRead_m0 _ _ _ _ _ _ _ _ _ y a _ _ (h _ _ _) hf p2, fun h => absurd rfl h⟩
        · obtain ⟨u, x, e, X', Y', E', hc', p1, p2⟩ := xp_take hY y hiX
          exact ⟨_, 0, (S.fen y).wX X', Y', ⟨_, rfl⟩, hN.wX X' E'.x hc' hS, E', sRead_m1 _ _ _ _ _ _ _ _ _ y a _ _ _ (h _ _ _) hf p1, sRead_m1 _ _ _ _ _ _ _ _ _ y a _ _ _ (h _ _ _) hf p2, fun h => absurd rfl h⟩
        · have p1 := dx_waits S.X hY.x y hiX
          have p2 := dx_waits Y hY.y y hiY
          rw [hY.h y hiX] at p2
          exact ⟨_, 0, S.fen y, Y, ⟨_, rfl⟩, hN, hY, sRead_m2 _ _ _ _ _ _ _ _ _ y a _ (h _ _ _) hf p1, sRead_m2 _ _ _ _ _ _ _ _ _ y a _ (h _ _ _) hf p2, fun h => absurd rfl h⟩
      · exact ⟨_, 4, S, Y, ⟨_, rfl⟩, Nxt.refl hS, hY, sRead_mail_no _ _ _ _ _ _ _ i a y z (by omega) (h _ _ _), sRead_mail_no _ _ _ _ _ _ _ i a y z (by omega) (h _ _ _), fun _ _ => ⟨rfl, rfl⟩⟩
    · obtain ⟨b, ow, hn, _, hc⟩ := lock_try S hS i y hi hh hy
      exact ⟨_, 0, { S with ow := ow, B := S.B.fen i }, Y, ⟨_, rfl⟩, hn.trans (hn.1.fen i hi), hY, sRead_lock _ _ _ _ _ _ _ _ _ i _ y 0 b (h _ _ _) hf hc, sRead_lock _ _ _ _ _ _ _ _ _ i _ y 0 b (h _ _ _) hf hc, fun h => absurd rfl h⟩
    · have hg := gEpoch_in S.c S.ep S.hd hS.hc.2 y hy
      exact ⟨_, 0, S.fen i, Y, ⟨_, rfl⟩, hN, hY, sRead_gate _ _ _ _ _ _ _ _ i _ y 0 _ (h _ _ _) hf hg, sRead_gate _ _ _ _ _ _ _ _ i _ y 0 _ (h _ _ _) hf hg, fun h => absurd rfl h⟩

theorem write_pair (S : SocS) (hS : S.ok) (Y : BoxS) (hY : XE S.X Y) (j a w : Int) (ha : a ≤ 9223372036854775807) : PairR S Y n_soc_Soc_Write [.ptr 0 0, .dv (.int .i64 j), .dv (.int .i64 a), .dv (.int .i64 w)] R1 := by
  rcases at_cases2 S hS j a ha with ⟨e, he, h⟩ | ⟨i, rfl, hi, hh, x, y, z, h, hx⟩
  · exact ⟨_, e, S, Y, rfl, Nxt.refl hS, hY, sWrite_no _ _ _ _ _ _ _ j a w e he (h _ _ _), sWrite_no _ _ _ _ _ _ _ j a w e he (h _ _ _), fun _ _ => ⟨rfl, rfl⟩⟩
  · have hiB : i < S.B.cores := by rw [hS.hBc]; exact hi
    have hiX : i < S.X.cores := by rw [hS.hXc]; exact hi
    have hiY : i < Y.cores := by rw [hY.c]; exact hiX
    have hf := bfen S hS i hi
    have hN := hS.fen i hi
    by_cases hw : 0 ≤ w ∧ w ≤ 65535
    · have hww := wordW_in w hw
      rcases hx with ⟨rfl, rfl, rfl, hz⟩ | ⟨rfl, hy, hz⟩ | ⟨rfl, hy, rfl, rfl⟩ | ⟨rfl, hy, rfl, rfl⟩
      · obtain ⟨u, rfl⟩ : ∃ u : Nat, w = u := ⟨w.toNat, by omega⟩
        have hb := busStore S.B hS.hB i z u hiB (by rw [hS.hBn]; exact hz) (by omega)
        exact ⟨_, 0, { S with B := S.B.store i z u }, Y, rfl, hS.store i z u hi hh hz (by omega), hY, sWrite_ram _ _ _ _ _ _ _ _ i z u 0 z _ hww (h _ _ _) hb, sWrite_ram _ _ _ _ _ _ _ _ i z u 0 z _ hww (h _ _ _) hb, fun h => absurd rfl h⟩
      · by_cases hz2 : z = 2
        · subst hz2
          obtain ⟨e, X', Y', he, E', hc', p1, p2⟩ := xp_ring hY i y hiX (by rw [hS.hXc]; exact hy) w hw
          exact ⟨_, e, (S.fen i).wX X', Y', rfl, hN.wX X' E'.x hc' hS, E', sWrite_r _ _ _ _ _ _ _ _ _ i a w y e hww (h _ _ _) hf p1, sWrite_r _ _ _ _ _ _ _ _ _ i a w y e hww (h _ _ _) hf p2, fun h1 h2 => by rcases he with h | h; exact absurd h h1; exact absurd h h2⟩
        · by_cases hz0 : z = 0 ∧ y = i
          · obtain ⟨rfl, rfl⟩ := hz0
            obtain ⟨X', Y', E', hc', p1, p2⟩ := xp_ack hY y hiX w
            exact ⟨_, 0, (S.fen y).wX X', Y', rfl, hN.wX X' E'.x hc' hS, E', sWrite_a _ _ _ _ _ _ _ _ _ y a w 0 hww (h _ _ _) hf p1, sWrite_a _ _ _ _ _ _ _ _ _ y a w 0 hww (h _ _ _) hf p2, fun h => absurd rfl h⟩
          · exact ⟨_, 4, S, Y, rfl, Nxt.refl hS, hY, sWrite_mail_no _ _ _ _ _ _ _ i a w y z (by omega) (by omega) (h _ _ _), sWrite_mail_no _ _ _ _ _ _ _ i a w y z (by omega) (by omega) (h _ _ _), fun _ _ => ⟨rfl, rfl⟩⟩
      · have ho := kOwner S.c S.k S.ow hS.hk.2 y hy (by have := hS.how y; have := hS.hc; omega)
        by_cases hoi : S.ow y = (i : Int) + 1
        · have e : S.ow y - 1 = (i : Int) := by omega
          rw [e] at ho
          have hr := kFree S.c S.k S.ow hS.hc.2 hS.hk.2 i y hi hy hoi
          exact ⟨_, 0, { S with ow := fun t => if t = y then 0 else S.ow t, B := S.B.fen i }, Y, rfl, (hS.free y).trans ((hS.free y).1.fen i hi), hY, sWrite_lock _ _ _ _ _ _ _ _ _ i _ w y 0 hww (h _ _ _) ho hf hr, sWrite_lock _ _ _ _ _ _ _ _ _ i _ w y 0 hww (h _ _ _) ho hf hr, fun h => absurd rfl h⟩
        · exact ⟨_, 12, S, Y, rfl, Nxt.refl hS, hY, sWrite_lock_no _ _ _ _ _ _ _ i _ w y 0 _ hww (h _ _ _) (by omega) ho, sWrite_lock_no _ _ _ _ _ _ _ i _ w y 0 _ hww (h _ _ _) (by omega) ho, fun _ _ => ⟨rfl, rfl⟩⟩
      · exact ⟨_, 4, S, Y, rfl, Nxt.refl hS, hY, sWrite_gate _ _ _ _ _ _ _ i _ w y 0 (h _ _ _), sWrite_gate _ _ _ _ _ _ _ i _ w y 0 (h _ _ _), fun _ _ => ⟨rfl, rfl⟩⟩
    · have hww := wordW w
      have hne : w ≠ w % 65536 := by omega
      rcases hx with ⟨rfl, rfl, rfl, hz⟩ | ⟨rfl, hy, hz⟩ | ⟨rfl, hy, rfl, rfl⟩ | ⟨rfl, hy, rfl, rfl⟩
      · exact ⟨_, 2, S, Y, rfl, Nxt.refl hS, hY, sWrite_arg1 _ _ _ _ _ _ _ i _ w _ _ _ _ (by omega) hww hne (h _ _ _), sWrite_arg1 _ _ _ _ _ _ _ i _ w _ _ _ _ (by omega) hww hne (h _ _ _), fun _ _ => ⟨rfl, rfl⟩⟩
      · by_cases hz2 : z = 2 ∨ (z = 0 ∧ y = i)
        · exact ⟨_, 2, S, Y, rfl, Nxt.refl hS, hY, sWrite_arg2 _ _ _ _ _ _ _ i a w _ y z (by omega) hww hne (h _ _ _), sWrite_arg2 _ _ _ _ _ _ _ i a w _ y z (by omega) hww hne (h _ _ _), fun _ _ => ⟨rfl, rfl⟩⟩
        · exact ⟨_, 4, S, Y, rfl, Nxt.refl hS, hY, sWrite_mail_no _ _ _ _ _ _ _ i a w y z (by omega) (by omega) (h _ _ _), sWrite_mail_no _ _ _ _ _ _ _ i a w y z (by omega) (by omega) (h _ _ _), fun _ _ => ⟨rfl, rfl⟩⟩
      · exact ⟨_, 2, S, Y, rfl, Nxt.refl hS, hY, sWrite_arg1 _ _ _ _ _ _ _ i _ w _ _ _ _ (by omega) hww hne (h _ _ _), sWrite_arg1 _ _ _ _ _ _ _ i _ w _ _ _ _ (by omega) hww hne (h _ _ _), fun _ _ => ⟨rfl, rfl⟩⟩
      · exact ⟨_, 4, S, Y, rfl, Nxt.refl hS, hY, sWrite_gate _ _ _ _ _ _ _ i _ w y 0 (h _ _ _), sWrite_gate _ _ _ _ _ _ _ i _ w y 0 (h _ _ _), fun _ _ => ⟨rfl, rfl⟩⟩

end Go.Proofs.YtiaceoomiflgcaaGreat

end

section
namespace Go.Proofs.YtiaceoomiflgcaaGreat
open Go.V
set_option linter.unusedVariables false
set_option linter.unusedSimpArgs false
set_option maxRecDepth 100000
set_option maxHeartbeats 8000000

theorem fence_pair (S : SocS) (hS : S.ok) (Y : BoxS) (hY : XE S.X Y) (j : Int) : PairR S Y n_soc_Soc_Fence [.ptr 0 0, .dv (.int .i64 j)] R2 := by
  by_cases hj : 0 ≤ j ∧ j < S.c
  · obtain ⟨i, rfl⟩ : ∃ i : Nat, j = i := ⟨j.toNat, by omega⟩
    have hi : i < S.c := by omega
    have h1 := gEpoch_in S.c S.ep S.hd hS.hc.2 i hi
    have h2 := gUp_in S.c S.ep S.hd hS.hc.2 i hi
    cases hh : S.hd i with
    | true => rw [hh] at h2; exact ⟨_, 19, S, Y, ⟨_, rfl⟩, Nxt.refl hS, hY, sFence_off _ _ _ _ _ _ _ i _ h1 h2, sFence_off _ _ _ _ _ _ _ i _ h1 h2, fun _ _ => ⟨rfl, rfl⟩⟩
    | false =>
      rw [hh] at h2
      have hb := busFence S.B hS.hB i (by rw [hS.hBc]; exact hi)
      exact ⟨_, 0, S.fen i, Y, ⟨_, rfl⟩, hS.fen i hi, hY, sFence_w _ _ _ _ _ _ _ _ i _ _ hb h1 h2, sFence_w _ _ _ _ _ _ _ _ i _ _ hb h1 h2, fun h => absurd rfl h⟩
  · have hg := gEpoch_out S.c S.ep S.hd hS.hc.2 j hj
    exact ⟨_, 3, S, Y, ⟨_, rfl⟩, Nxt.refl hS, hY, sFence_core _ _ _ _ _ _ _ j _ hg, sFence_core _ _ _ _ _ _ _ j _ hg, fun _ _ => ⟨rfl, rfl⟩⟩

end Go.Proofs.YtiaceoomiflgcaaGreat

end

section
namespace Go.Proofs.YtiaceoomiflgcaaGreat
open Go.V
set_option linter.unusedVariables false
set_option linter.unusedSimpArgs false
set_option maxRecDepth 100000
set_option maxHeartbeats 8000000

theorem at_two {f : FuncId} {v : SV} {x y : Ob} (g : Nat) (h : CallOK (O := Ob) PR f [.ptr 0 0] [.obj x] fun u m => u = v ∧ m = [.obj x, .obj y]) :
    CallOK (O := Ob) PR f [.ptr 0 0] [.obj (.at_ g x)] fun u m => u = v ∧ m = [.obj (.at_ g x), .obj y] := by
  refine (h.at_ g fun r m hq => ⟨_, _, hq.2⟩).mono ?_
  rintro r m ⟨y', l, rfl, hr, hm⟩
  cases hm
  exact ⟨hr, rfl⟩

theorem at_vec {f : FuncId} {v : SV} {x : Ob} {c : Chunk Ob} (g : Nat) (h : CallOK (O := Ob) PR f [.ptr 0 0] [.obj x] fun u m => u = v ∧ m = [.obj x, c]) :
    CallOK (O := Ob) PR f [.ptr 0 0] [.obj (.at_ g x)] fun u m => u = v ∧ m = [.obj (.at_ g x), c] := by
  refine (h.at_ g fun r m hq => ⟨_, _, hq.2⟩).mono ?_
  rintro r m ⟨y', l, rfl, hr, hm⟩
  cases hm
  exact ⟨hr, rfl⟩

theorem busClone (B : BusS) (hB : B.ok) : CallOK (O := Ob) PR n_bus_Bus_Clone [.ptr 0 0] [.obj (busO B)] fun v m => v = .ptr 1 0 ∧ m = [.obj (busO B), .obj (busO B)] :=
  CallOK.exE 0 rfl fun bs => busClone_w (rOb B.n B.r) (fun j => lO B.mo (B.bufs j)) B.cores bs hB.2.1 (ok_rRam B.n B.r hB.1) fun j hj =>
    at_two (bs j) (bClone B.mo (B.bufs j).length (lre (B.bufs j)) (lim (B.bufs j)) (by have := (hB.2.2.2.2.1 j hj).2.1; have := hB.2.2.2.1; omega))

theorem lcell_ok (l : List (Nat × Nat)) (hl : okL l) (i : Nat) (hi : i < l.length) : ceqF .f64 (lre l i) (lim l i) (lre l i) (lim l i) = true := by
  have hx := hl l[i] (List.getElem_mem hi)
  have e : l.getD i (0, 0) = l[i] := by rw [List.getD_eq_getElem?_getD, List.getElem?_eq_getElem hi]; rfl
  unfold ceqF lre lim
  rw [e, (fcmp_flt (by omega) (by omega)).1, (fcmp_flt (by omega) (by omega)).1]
  simp

theorem busSame (B : BusS) (hB : B.ok) : CallOK (O := Ob) PR n_bus_Same [.ptr 0 0, .ptr 1 0] [.obj (busO B), .obj (busO B)] fun v m => v = .dv (.bool true) ∧ m = [.obj (busO B), .obj (busO B)] :=
  CallOK.exE 0 rfl fun bs => CallOK.exE 1 rfl fun bs' => busSame_w (rOb B.n B.r) B.cores hB.2.1 bs bs' (fun j => lO B.mo (B.bufs j)) (ram_same B.n B.r)
    (bufs_same B.cores hB.2.1 bs bs' (fun j => lO B.mo (B.bufs j)) B.mo (fun j => (B.bufs j).length) (fun j i => .cpx .f64 (lre (B.bufs j) i) (lim (B.bufs j) i))
      (fun j hj g => (lCap B.mo (B.bufs j)).atx g)
      (fun j hj g => at_vec g (bAlln B.mo (B.bufs j).length (lre (B.bufs j)) (lim (B.bufs j)) (by have := (hB.2.2.2.2.1 j hj).2.1; have := hB.2.2.2.1; omega)))
      (fun j hj => cell_same (B.bufs j).length _ _ fun i hi => lcell_ok (B.bufs j) (hB.2.2.2.2.1 j hj).1 i hi))

/-- A copy of mailboxes. -/
def cloneX (X : BoxS) : BoxS := ⟨X.cores, X.bits, fun _ => 0, X.h, fun j => clR (X.f j) (X.h j) (X.rm j)⟩

theorem cloneX_e (X : BoxS) (hX : X.ok) : XE X (cloneX X) := by
  refine ⟨hX, ⟨hX.1, hX.2.1, fun j hj => ⟨by show (0 : Nat) < 16; omega, (hX.2.2 j hj).2⟩⟩, rfl, rfl, fun _ _ => rfl, fun j hj i hi => ?_⟩
  have h16 := (hX.2.2 j hj).2
  show clR (X.f j) (X.h j) (X.rm j) ((0 + i) % 16) = X.rm j ((X.f j + i) % 16)
  have e : (0 + i) % 16 = i := by omega
  rw [e]
  exact if_pos hi

theorem boxClone (X : BoxS) (hX : X.ok) : CallOK (O := Ob) PR n_mbox_Box_Clone [.ptr 0 0] [.obj (boxO X)] fun v m => v = .ptr 1 0 ∧ m = [.obj (boxO X), .obj (boxO (cloneX X))] :=
  CallOK.exE 0 rfl fun bs => xClone_w (fun j => nO (X.f j) (X.h j) (X.rm j)) (fun j => nO 0 (X.h j) (clR (X.f j) (X.h j) (X.rm j))) X.bits X.cores bs hX.2.1 fun j hj =>
    at_two (bs j) (nClone (X.f j) (X.h j) (X.rm j) (hX.2.2 j hj).1 (hX.2.2 j hj).2)

theorem boxSame (X Y : BoxS) (E : XE X Y) : CallOK (O := Ob) PR n_mbox_Same [.ptr 0 0, .ptr 1 0] [.obj (boxO X), .obj (boxO Y)] fun v m => v = .dv (.bool true) ∧ m = [.obj (boxO X), .obj (boxO Y)] := by
  have eY : boxO Y = xO X.cores X.bits fun j => nO (Y.f j) (Y.h j) (Y.rm j) := by unfold boxO; rw [E.c, E.b]
  rw [eY]
  refine CallOK.exE 0 rfl fun bs => CallOK.exE 1 rfl fun bs' => boxSame_w X.cores E.x.2.1 X.bits bs bs' (fun j => nO (X.f j) (X.h j) (X.rm j)) (fun j => nO (Y.f j) (Y.h j) (Y.rm j))
    (lanes_same X.cores E.x.2.1 X.bits bs bs' _ _ X.h (fun j i => X.rm j ((X.f j + i) % 16)) (fun j i => Y.rm j ((Y.f j + i) % 16)) (fun j hj g => at_vec g (nAll _ _ _ (E.x.2.2 j hj).1 (E.x.2.2 j hj).2 _ fun _ => rfl)) (fun j hj g => ?_) fun j hj => equal_i _ _ _ fun i hi => (E.r j hj i hi).symm)
  have hjY : j < Y.cores := by rw [E.c]; exact hj
  have h := at_vec g (nAll _ _ _ (E.y.2.2 j hjY).1 (E.y.2.2 j hjY).2 (fun i => Y.rm j ((Y.f j + i) % 16)) fun _ => rfl)
  have e := E.h j hj
  rw [e] at h
  show CallOK (O := Ob) PR n_lane_Lane_All [.ptr 0 0] [.obj (.at_ g (nO (Y.f j) (Y.h j) (Y.rm j)))] _
  rw [e]
  exact h

theorem sClone_in (S : SocS) (hS : S.ok) : CallOK (O := Ob) PR n_soc_Soc_Clone [.ptr 0 0] [.obj (socO S)] fun v m => v = .ptr 1 0 ∧ m = [.obj (socO S), .obj (socO (S.wX (cloneX S.X)))] :=
  sClone_w _ _ _ _ _ _ _ _ (busClone S.B hS.hB) (boxClone S.X hS.hX) (kClone S.c S.k S.ow) (gClone S.c S.ep S.hd)

theorem sSame_in (S : SocS) (hS : S.ok) (Y : BoxS) (E : XE S.X Y) : CallOK (O := Ob) PR n_soc_Same [.ptr 0 0, .ptr 1 0] [.obj (socO S), .obj (socO (S.wX Y))] fun v m => v = .dv (.bool true) ∧ m = [.obj (socO S), .obj (socO (S.wX Y))] :=
  sSame_w _ _ _ _ _ _ _ _ (busSame S.B hS.hB) (boxSame S.X Y E) (kSame S.c S.k S.ow) (gSame S.c S.ep S.hd)

end Go.Proofs.YtiaceoomiflgcaaGreat

end

section
namespace Go.Proofs.YtiaceoomiflgcaaGreat
open Go.V
set_option linter.unusedVariables false
set_option linter.unusedSimpArgs false
set_option maxRecDepth 100000
set_option maxHeartbeats 8000000

theorem sPlan_w (c n k : Int) (B X K G : Ob) : CallOK (O := Ob) PR n_soc_Soc_Plan [.ptr 0 0] [.obj (sO c n k B X K G)] fun v m => v = .agg [.dv (.int .i64 c), .dv (.int .i64 n), .dv (.int .i64 k)] ∧ m = [.obj (sO c n k B X K G)] := by
  refine fn_walkv mixed fn_soc_Soc_Plan Ent.opn1 fun bin cmp un conv bnot beq band sel isel ofN toN inb nz nneg lt le room' slb add sub sbin scmp slen sget ssub addk pc pb pi pf ps mkok min_ ig aeq P hP hA hF Q hQ => ?_
  cbv
  repeat' first
    | (refine Chk.mk trivial ?_; cbv)
    | (refine bc_true (by first | assumption | (simp (disch := omega) only [hF, natc, w64_in, shs]; first | done | assumption | omega | (simp only [natc] at *; omega))) ?_; cbv)
    | (refine bc_false (by first | assumption | (simp (disch := omega) only [hF, natc, w64_in, shs]; first | done | assumption | omega | (simp only [natc] at *; omega))) ?_; cbv)
    | (refine bc_split (fun h => ?_) (fun h => ?_) <;> (try simp (disch := omega) only [hF, natc, w64_in, shs] at h) <;> cbv)
  subst hQ
  exact leaf_sr rfl rfl ⟨rfl, rfl⟩

/-- An address that is made. -/
def EncW (c n k x y z A : Int) (b : Bool) : Prop := CallOK (O := Ob) PR n_site_Encode [.agg [.dv (.int .i64 c), .dv (.int .i64 n), .dv (.int .i64 k)], .agg [.dv (.int .i64 x), .dv (.int .i64 y), .dv (.int .i64 z)]] [] fun v m => v = .tup [.dv (.int .i64 A), .dv (.bool b)] ∧ m = []

theorem encR (c n k z : Int) (hc : 1 ≤ c ∧ c ≤ 8) (hn : 1 ≤ n ∧ n ≤ 65536) (hk : 1 ≤ k ∧ k ≤ 16) : EncW c n k 1 0 z (if 0 ≤ z ∧ z < n then z else 0) (decide (0 ≤ z ∧ z < n)) := by
  unfold EncW
  have hr := right_in c n k hc hn hk
  have hb := ok_below z n
  clear hc hn hk
  by_cases h : 0 ≤ z ∧ z < n
  · rw [if_pos h]
    rw [decide_eq_true h] at hb ⊢
    clear h
    refine fn_walkv mixed fn_site_Encode (Ent.refl _ _) fun bin cmp un conv bnot beq band sel isel ofN toN inb nz nneg lt le room' slb add sub sbin scmp slen sget ssub addk pc pb pi pf ps mkok min_ ig aeq P hP hA hF Q hQ => ?_
    cbv
    repeat' first
      | (refine call_pure hP code_site_below (hb) ?_ ?_; (focus (cbv; (try simp); done)); rintro _ rfl; cbv)
      | (refine call_pure hP code_site_Right (hr) ?_ ?_; (focus (cbv; (try simp); done)); rintro _ rfl; cbv)
      | ((refine And.intro ?_ ?_); cbv)
      | (refine Chk.mk trivial ?_; cbv)
      | (refine bc_true (by first | assumption | (simp (disch := omega) only [hF, natc, w64_in, shs]; first | done | assumption | omega | (simp only [natc] at *; omega))) ?_; cbv)
      | (refine bc_false (by first | assumption | (simp (disch := omega) only [hF, natc, w64_in, shs]; first | done | assumption | omega | (simp only [natc] at *; omega))) ?_; cbv)
      | (refine bc_split (fun h => ?_) (fun h => ?_) <;> (try simp (disch := omega) only [hF, natc, w64_in, shs] at h) <;> cbv)
    subst hQ; exact leaf_data rfl rfl ⟨rfl, rfl⟩
  · rw [if_neg h]
    rw [decide_eq_false h] at hb ⊢
    clear h
    refine fn_walkv mixed fn_site_Encode (Ent.refl _ _) fun bin cmp un conv bnot beq band sel isel ofN toN inb nz nneg lt le room' slb add sub sbin scmp slen sget ssub addk pc pb pi pf ps mkok min_ ig aeq P hP hA hF Q hQ => ?_
    cbv
    repeat' first
      | (refine call_pure hP code_site_below (hb) ?_ ?_; (focus (cbv; (try simp); done)); rintro _ rfl; cbv)
      | (refine call_pure hP code_site_Right (hr) ?_ ?_; (focus (cbv; (try simp); done)); rintro _ rfl; cbv)
      | ((refine And.intro ?_ ?_); cbv)
      | (refine Chk.mk trivial ?_; cbv)
      | (refine bc_true (by first | assumption | (simp (disch := omega) only [hF, natc, w64_in, shs]; first | done | assumption | omega | (simp only [natc] at *; omega))) ?_; cbv)
      | (refine bc_false (by first | assumption | (simp (disch := omega) only [hF, natc, w64_in, shs]; first | done | assumption | omega | (simp only [natc] at *; omega))) ?_; cbv)
      | (refine bc_split (fun h => ?_) (fun h => ?_) <;> (try simp (disch := omega) only [hF, natc, w64_in, shs] at h) <;> cbv)
    subst hQ; exact leaf_data rfl rfl ⟨rfl, rfl⟩

theorem encG (c n k y : Int) (hc : 1 ≤ c ∧ c ≤ 8) (hn : 1 ≤ n ∧ n ≤ 65536) (hk : 1 ≤ k ∧ k ≤ 16) : EncW c n k 4 y 0 (if 0 ≤ y ∧ y < c then 66048 + y else 0) (decide (0 ≤ y ∧ y < c)) := by
  unfold EncW
  have hr := right_in c n k hc hn hk
  have hb := ok_below y c
  by_cases h : 0 ≤ y ∧ y < c
  · rw [if_pos h]
    rw [decide_eq_true h] at hb ⊢
    obtain ⟨A, eA⟩ : ∃ A, A = 66048 + y := ⟨_, rfl⟩
    rw [← eA]
    have ew : IntKind.i64.wrap (66048 + y) = A := by rw [w64_in (by omega), eA]
    clear eA h hc hn hk
    refine fn_walkv mixed fn_site_Encode (Ent.refl _ _) fun bin cmp un conv bnot beq band sel isel ofN toN inb nz nneg lt le room' slb add sub sbin scmp slen sget ssub addk pc pb pi pf ps mkok min_ ig aeq P hP hA hF Q hQ => ?_
    have hA2 : bin .add .i64 66048 y = A := by simp only [hF]; exact ew
    cbv
    repeat' first
      | (refine call_pure hP code_site_below (hb) ?_ ?_; (focus (cbv; (try simp); done)); rintro _ rfl; cbv)
      | (refine call_pure hP code_site_Right (hr) ?_ ?_; (focus (cbv; (try simp); done)); rintro _ rfl; cbv)
      | ((rw [hA2]); cbv)
      | ((refine And.intro ?_ ?_); cbv)
      | (refine Chk.mk trivial ?_; cbv)
      | (refine bc_true (by first | assumption | (simp (disch := omega) only [hF, natc, w64_in, shs]; first | done | assumption | omega | (simp only [natc] at *; omega))) ?_; cbv)
      | (refine bc_false (by first | assumption | (simp (disch := omega) only [hF, natc, w64_in, shs]; first | done | assumption | omega | (simp only [natc] at *; omega))) ?_; cbv)
      | (refine bc_split (fun h => ?_) (fun h => ?_) <;> (try simp (disch := omega) only [hF, natc, w64_in, shs] at h) <;> cbv)
    subst hQ; exact leaf_data rfl rfl ⟨rfl, rfl⟩
  · rw [if_neg h]
    rw [decide_eq_false h] at hb ⊢
    clear h hc hn hk
    refine fn_walkv mixed fn_site_Encode (Ent.refl _ _) fun bin cmp un conv bnot beq band sel isel ofN toN inb nz nneg lt le room' slb add sub sbin scmp slen sget ssub addk pc pb pi pf ps mkok min_ ig aeq P hP hA hF Q hQ => ?_
    cbv
    repeat' first
      | (refine call_pure hP code_site_below (hb) ?_ ?_; (focus (cbv; (try simp); done)); rintro _ rfl; cbv)
      | (refine call_pure hP code_site_Right (hr) ?_ ?_; (focus (cbv; (try simp); done)); rintro _ rfl; cbv)
      | ((refine And.intro ?_ ?_); cbv)
      | (refine Chk.mk trivial ?_; cbv)
      | (refine bc_true (by first | assumption | (simp (disch := omega) only [hF, natc, w64_in, shs]; first | done | assumption | omega | (simp only [natc] at *; omega))) ?_; cbv)
      | (refine bc_false (by first | assumption | (simp (disch := omega) only [hF, natc, w64_in, shs]; first | done | assumption | omega | (simp only [natc] at *; omega))) ?_; cbv)
      | (refine bc_split (fun h => ?_) (fun h => ?_) <;> (try simp (disch := omega) only [hF, natc, w64_in, shs] at h) <;> cbv)
    subst hQ; exact leaf_data rfl rfl ⟨rfl, rfl⟩

theorem encM (c n k y : Int) (hc : 1 ≤ c ∧ c ≤ 8) (hn : 1 ≤ n ∧ n ≤ 65536) (hk : 1 ≤ k ∧ k ≤ 16) : EncW c n k 2 y 2 (if 0 ≤ y ∧ y < c then 65536 + 16 * y + 2 else 0) (decide (0 ≤ y ∧ y < c)) := by
  unfold EncW
  have hr := right_in c n k hc hn hk
  have hb := ok_below y c
  have hb2 := ok_below 2 3
  rw [decide_eq_true (by omega : (0 : Int) ≤ 2 ∧ (2 : Int) < 3)] at hb2
  by_cases h : 0 ≤ y ∧ y < c
  · rw [if_pos h]
    rw [decide_eq_true h] at hb ⊢
    obtain ⟨A, eA⟩ : ∃ A, A = 65536 + 16 * y + 2 := ⟨_, rfl⟩
    rw [← eA]
    have ew : IntKind.i64.wrap (IntKind.i64.wrap (65536 + IntKind.i64.wrap (16 * y)) + 2) = A := by
      rw [w64_in (n := 16 * y) (by omega), w64_in (n := 65536 + 16 * y) (by omega), w64_in (by omega), eA]
    clear eA h hc hn hk
    refine fn_walkv mixed fn_site_Encode (Ent.refl _ _) fun bin cmp un conv bnot beq band sel isel ofN toN inb nz nneg lt le room' slb add sub sbin scmp slen sget ssub addk pc pb pi pf ps mkok min_ ig aeq P hP hA hF Q hQ => ?_
    have hA2 : bin .add .i64 (bin .add .i64 65536 (bin .mul .i64 16 y)) 2 = A := by simp only [hF]; exact ew
    cbv
    repeat' first
      | (refine call_pure hP code_site_below (hb) ?_ ?_; (focus (cbv; (try simp); done)); rintro _ rfl; cbv)
      | (refine call_pure hP code_site_below (hb2) ?_ ?_; (focus (cbv; (try simp); done)); rintro _ rfl; cbv)
      | (refine call_pure hP code_site_Right (hr) ?_ ?_; (focus (cbv; (try simp); done)); rintro _ rfl; cbv)
      | ((rw [hA2]); cbv)
      | ((refine And.intro ?_ ?_); cbv)
      | (refine Chk.mk trivial ?_; cbv)
      | (refine bc_true (by first | assumption | (simp (disch := omega) only [hF, natc, w64_in, shs]; first | done | assumption | omega | (simp only [natc] at *; omega))) ?_; cbv)
      | (refine bc_false (by first | assumption | (simp (disch := omega) only [hF, natc, w64_in, shs]; first | done | assumption | omega | (simp only [natc] at *; omega))) ?_; cbv)
      | (refine bc_split (fun h => ?_) (fun h => ?_) <;> (try simp (disch := omega) only [hF, natc, w64_in, shs] at h) <;> cbv)
    all_goals (subst hQ; exact leaf_data rfl rfl ⟨rfl, rfl⟩)
  · rw [if_neg h]
    rw [decide_eq_false h] at hb ⊢
    clear h hc hn hk
    refine fn_walkv mixed fn_site_Encode (Ent.refl _ _) fun bin cmp un conv bnot beq band sel isel ofN toN inb nz nneg lt le room' slb add sub sbin scmp slen sget ssub addk pc pb pi pf ps mkok min_ ig aeq P hP hA hF Q hQ => ?_
    cbv
    repeat' first
      | (refine call_pure hP code_site_below (hb) ?_ ?_; (focus (cbv; (try simp); done)); rintro _ rfl; cbv)
      | (refine call_pure hP code_site_below (hb2) ?_ ?_; (focus (cbv; (try simp); done)); rintro _ rfl; cbv)
      | (refine call_pure hP code_site_Right (hr) ?_ ?_; (focus (cbv; (try simp); done)); rintro _ rfl; cbv)
      | ((refine And.intro ?_ ?_); cbv)
      | (refine Chk.mk trivial ?_; cbv)
      | (refine bc_true (by first | assumption | (simp (disch := omega) only [hF, natc, w64_in, shs]; first | done | assumption | omega | (simp only [natc] at *; omega))) ?_; cbv)
      | (refine bc_false (by first | assumption | (simp (disch := omega) only [hF, natc, w64_in, shs]; first | done | assumption | omega | (simp only [natc] at *; omega))) ?_; cbv)
      | (refine bc_split (fun h => ?_) (fun h => ?_) <;> (try simp (disch := omega) only [hF, natc, w64_in, shs] at h) <;> cbv)
    all_goals (subst hQ; exact leaf_data rfl rfl ⟨rfl, rfl⟩)

end Go.Proofs.YtiaceoomiflgcaaGreat

end

section
namespace Go.Proofs.YtiaceoomiflgcaaGreat
open Go.V
set_option linter.unusedVariables false
set_option linter.unusedSimpArgs false
set_option maxRecDepth 100000
set_option maxHeartbeats 8000000

/-- A port of a core, and its soc. -/
def PoM (id : Int) (x : Ob) : List (Chunk Ob) := [.blk [.one (.ptr 1 0), .one (.dv (.int .i64 id))], .obj x]

theorem leaf_p {id : Int} {x : Ob} {v : SV} {mem : List (Chunk Ob)} {Q : SV → List (Chunk Ob) → Prop} (hm : mem.take 2 = PoM id x) (hu : VLe [0, 1] v v) (hq : Q v (PoM id x)) : ∃ r' m', Ent 2 ⟨[v], mem⟩ ⟨[r'], m'⟩ ∧ Q r' m' := by
  have e : mem = PoM id x ++ mem.drop 2 := by rw [← hm, List.take_append_drop]
  rw [e]
  refine ⟨v, PoM id x, Ent.ren [0, 1] rfl rfl ?_ ⟨hu, trivial⟩, hq⟩
  generalize mem.drop 2 = r
  show MLe [0, 1] (.blk [.one (.ptr 1 0), .one (.dv (.int .i64 id))] :: .obj x :: r) [0, 1] [.blk [.one (.ptr 1 0), .one (.dv (.int .i64 id))], .obj x]
  exact ⟨⟨rfl, rfl, trivial⟩, rfl, trivial⟩

def PlanW (x : Ob) (c n k : Int) : Prop := CallOK (O := Ob) PR n_soc_Soc_Plan [.ptr 0 0] [.obj x] fun v m => v = .agg [.dv (.int .i64 c), .dv (.int .i64 n), .dv (.int .i64 k)] ∧ m = [.obj x]
def RdW (x : Ob) (id A w e : Int) (x' : Ob) : Prop := CallOK (O := Ob) PR n_soc_Soc_Read [.ptr 0 0, .dv (.int .i64 id), .dv (.int .i64 A)] [.obj x] fun v m => v = .tup [.dv (.int .i64 w), .dv (.int .i64 e)] ∧ m = [.obj x']
def WtW (x : Ob) (id A w e : Int) (x' : Ob) : Prop := CallOK (O := Ob) PR n_soc_Soc_Write [.ptr 0 0, .dv (.int .i64 id), .dv (.int .i64 A), .dv (.int .i64 w)] [.obj x] fun v m => v = .dv (.int .i64 e) ∧ m = [.obj x']
def FnW (x : Ob) (id n e : Int) (x' : Ob) : Prop := CallOK (O := Ob) PR n_soc_Soc_Fence [.ptr 0 0, .dv (.int .i64 id)] [.obj x] fun v m => v = .tup [.dv (.int .i64 n), .dv (.int .i64 e)] ∧ m = [.obj x']

theorem pSpot (c n k id x y z A : Int) (b : Bool) (o : Ob) (hp : PlanW o c n k) (he : EncW c n k x y z A b) :
    CallOK (O := Ob) PR n_port_Core_spot [.ptr 0 0, .dv (.int .i64 x), .dv (.int .i64 y), .dv (.int .i64 z)] (PoM id o) fun v m => v = .tup [.dv (.int .i64 A), .dv (.bool b)] ∧ m = PoM id o := by
  unfold PlanW at hp; unfold EncW at he; unfold PoM
  refine fn_walkv mixed fn_port_Core_spot (Ent.refl _ _) fun bin cmp un conv bnot beq band sel isel ofN toN inb nz nneg lt le room' slb add sub sbin scmp slen sget ssub addk pc pb pi pf ps mkok min_ ig aeq P hP hA hF Q hQ => ?_
  cbv
  repeat' first
    | (refine call_at hP [1] code_soc_Soc_Plan (hp) rfl ?_ ?_ ?_; (focus ((repeat' (first | exact trivial | exact rfl | (intro _ _ _ _; exact rfl) | refine And.intro ?_ ?_)); done)); (focus (cbv; (try simp); done)); rintro _ _ ⟨rfl, rfl⟩ _; cbv)
    | (refine call_pure hP code_site_Encode (he) ?_ ?_; (focus (cbv; (try simp); done)); rintro _ rfl; cbv)
    | (refine Chk.mk trivial ?_; cbv)
    | (refine bc_true (by first | assumption | (simp (disch := omega) only [hF, natc, w64_in, shs]; first | done | assumption | omega | (simp only [natc] at *; omega))) ?_; cbv)
    | (refine bc_false (by first | assumption | (simp (disch := omega) only [hF, natc, w64_in, shs]; first | done | assumption | omega | (simp only [natc] at *; omega))) ?_; cbv)
    | (refine bc_split (fun h => ?_) (fun h => ?_) <;> (try simp (disch := omega) only [hF, natc, w64_in, shs] at h) <;> cbv)
  subst hQ
  exact leaf_p rfl rfl ⟨rfl, rfl⟩

theorem pRead (id x y z A w e : Int) (o o' : Ob)
    (hs : CallOK (O := Ob) PR n_port_Core_spot [.ptr 0 0, .dv (.int .i64 x), .dv (.int .i64 y), .dv (.int .i64 z)] (PoM id o) fun v m => v = .tup [.dv (.int .i64 A), .dv (.bool true)] ∧ m = PoM id o) (hr : RdW o id A w e o') :
    CallOK (O := Ob) PR n_port_Core_read [.ptr 0 0, .dv (.int .i64 x), .dv (.int .i64 y), .dv (.int .i64 z)] (PoM id o) fun v m => v = .dv (.int .i64 w) ∧ m = PoM id o' := by
  unfold RdW at hr; unfold PoM at *
  refine fn_walkv mixed fn_port_Core_read (Ent.refl _ _) fun bin cmp un conv bnot beq band sel isel ofN toN inb nz nneg lt le room' slb add sub sbin scmp slen sget ssub addk pc pb pi pf ps mkok min_ ig aeq P hP hA hF Q hQ => ?_
  have hb : bnot true = false := by simp only [hF]; rfl
  cbv
  repeat' first
    | (refine call_at hP [0, 1] code_port_Core_spot (hs) rfl ?_ ?_ ?_; (focus ((repeat' (first | exact trivial | exact rfl | (intro _ _ _ _; exact rfl) | refine And.intro ?_ ?_)); done)); (focus (cbv; (try simp); done)); rintro _ _ ⟨rfl, rfl⟩ _; cbv)
    | ((rw [hb]); cbv)
    | (refine call_at hP [1] code_soc_Soc_Read (hr) rfl ?_ ?_ ?_; (focus ((repeat' (first | exact trivial | exact rfl | (intro _ _ _ _; exact rfl) | refine And.intro ?_ ?_)); done)); (focus (cbv; (try simp); done)); rintro _ _ ⟨rfl, rfl⟩ _; cbv)
    | ((refine And.intro ?_ ?_); cbv)
    | (refine Chk.mk trivial ?_; cbv)
    | (refine bc_true (by first | assumption | (simp (disch := omega) only [hF, natc, w64_in, shs]; first | done | assumption | omega | (simp only [natc] at *; omega))) ?_; cbv)
    | (refine bc_false (by first | assumption | (simp (disch := omega) only [hF, natc, w64_in, shs]; first | done | assumption | omega | (simp only [natc] at *; omega))) ?_; cbv)
    | (refine bc_split (fun h => ?_) (fun h => ?_) <;> (try simp (disch := omega) only [hF, natc, w64_in, shs] at h) <;> cbv)
  all_goals (subst hQ; exact leaf_p rfl rfl ⟨rfl, rfl⟩)

theorem pRead_no (id x y z A : Int) (o : Ob)
    (hs : CallOK (O := Ob) PR n_port_Core_spot [.ptr 0 0, .dv (.int .i64 x), .dv (.int .i64 y), .dv (.int .i64 z)] (PoM id o) fun v m => v = .tup [.dv (.int .i64 A), .dv (.bool false)] ∧ m = PoM id o) :
    CallOK (O := Ob) PR n_port_Core_read [.ptr 0 0, .dv (.int .i64 x), .dv (.int .i64 y), .dv (.int .i64 z)] (PoM id o) fun v m => v = .dv (.int .i64 0) ∧ m = PoM id o := by
  unfold PoM at *
  refine fn_walkv mixed fn_port_Core_read (Ent.refl _ _) fun bin cmp un conv bnot beq band sel isel ofN toN inb nz nneg lt le room' slb add sub sbin scmp slen sget ssub addk pc pb pi pf ps mkok min_ ig aeq P hP hA hF Q hQ => ?_
  have hb : bnot false = true := by simp only [hF]; rfl
  cbv
  repeat' first
    | (refine call_at hP [0, 1] code_port_Core_spot (hs) rfl ?_ ?_ ?_; (focus ((repeat' (first | exact trivial | exact rfl | (intro _ _ _ _; exact rfl) | refine And.intro ?_ ?_)); done)); (focus (cbv; (try simp); done)); rintro _ _ ⟨rfl, rfl⟩ _; cbv)
    | ((rw [hb]); cbv)
    | (refine Chk.mk trivial ?_; cbv)
    | (refine bc_true (by first | assumption | (simp (disch := omega) only [hF, natc, w64_in, shs]; first | done | assumption | omega | (simp only [natc] at *; omega))) ?_; cbv)
    | (refine bc_false (by first | assumption | (simp (disch := omega) only [hF, natc, w64_in, shs]; first | done | assumption | omega | (simp only [natc] at *; omega))) ?_; cbv)
    | (refine bc_split (fun h => ?_) (fun h => ?_) <;> (try simp (disch := omega) only [hF, natc, w64_in, shs] at h) <;> cbv)
  subst hQ; exact leaf_p rfl rfl ⟨rfl, rfl⟩

/-- A port's touch. -/
def TouW (id : Int) (o : Ob) (k a w r : Int) (o' : Ob) : Prop :=
  CallOK (O := Ob) PR n_law14_do [.ifc 97 (.ptr 0 0), .agg [.dv (.int .i64 k), .dv (.int .i64 a), .dv (.int .i64 w)]] (PoM id o) fun v m => v = .dv (.int .i64 r) ∧ m = PoM id o'

theorem tou1 (id a w r : Int) (o o' : Ob) (h : CallOK (O := Ob) PR n_port_Core_read [.ptr 0 0, .dv (.int .i64 1), .dv (.int .i64 0), .dv (.int .i64 a)] (PoM id o) fun v m => v = .dv (.int .i64 r) ∧ m = PoM id o') : TouW id o 1 a w r o' := by
  unfold TouW; unfold PoM at *
  refine fn_walkv mixed fn_law14_do (Ent.refl _ _) fun bin cmp un conv bnot beq band sel isel ofN toN inb nz nneg lt le room' slb add sub sbin scmp slen sget ssub addk pc pb pi pf ps mkok min_ ig aeq P hP hA hF Q hQ => ?_
  have hmt : methOf P 97 "Load" = some n_port_Core_Load := by rw [hP]; kernel_rfl
  cbv
  repeat' first
    | ((refine InvVC.mk ⟨_, hmt, ?_⟩); cbv)
    | ((refine call_inl hP mixed hA code_port_Core_Load fn_port_Core_Load ?_); cbv)
    | (refine call_at hP [0, 1] code_port_Core_read (h) rfl ?_ ?_ ?_; (focus ((repeat' (first | exact trivial | exact rfl | (intro _ _ _ _; exact rfl) | refine And.intro ?_ ?_)); done)); (focus (cbv; (try simp); done)); rintro _ _ ⟨rfl, rfl⟩ _; cbv)
    | (refine Chk.mk trivial ?_; cbv)
    | (refine bc_true (by first | assumption | (simp (disch := omega) only [hF, natc, w64_in, shs]; first | done | assumption | omega | (simp only [natc] at *; omega))) ?_; cbv)
    | (refine bc_false (by first | assumption | (simp (disch := omega) only [hF, natc, w64_in, shs]; first | done | assumption | omega | (simp only [natc] at *; omega))) ?_; cbv)
    | (refine bc_split (fun h => ?_) (fun h => ?_) <;> (try simp (disch := omega) only [hF, natc, w64_in, shs] at h) <;> cbv)
  subst hQ; exact leaf_p rfl rfl ⟨rfl, rfl⟩

theorem tou4 (id a w r : Int) (o o' : Ob) (h : CallOK (O := Ob) PR n_port_Core_read [.ptr 0 0, .dv (.int .i64 4), .dv (.int .i64 a), .dv (.int .i64 0)] (PoM id o) fun v m => v = .dv (.int .i64 r) ∧ m = PoM id o') : TouW id o 4 a w r o' := by
  unfold TouW; unfold PoM at *
  refine fn_walkv mixed fn_law14_do (Ent.refl _ _) fun bin cmp un conv bnot beq band sel isel ofN toN inb nz nneg lt le room' slb add sub sbin scmp slen sget ssub addk pc pb pi pf ps mkok min_ ig aeq P hP hA hF Q hQ => ?_
  have hmt : methOf P 97 "Epoch" = some n_port_Core_Epoch := by rw [hP]; kernel_rfl
  cbv
  repeat' first
    | ((refine InvVC.mk ⟨_, hmt, ?_⟩); cbv)
    | ((refine call_inl hP mixed hA code_port_Core_Epoch fn_port_Core_Epoch ?_); cbv)
    | (refine call_at hP [0, 1] code_port_Core_read (h) rfl ?_ ?_ ?_; (focus ((repeat' (first | exact trivial | exact rfl | (intro _ _ _ _; exact rfl) | refine And.intro ?_ ?_)); done)); (focus (cbv; (try simp); done)); rintro _ _ ⟨rfl, rfl⟩ _; cbv)
    | (refine Chk.mk trivial ?_; cbv)
    | (refine bc_true (by first | assumption | (simp (disch := omega) only [hF, natc, w64_in, shs]; first | done | assumption | omega | (simp only [natc] at *; omega))) ?_; cbv)
    | (refine bc_false (by first | assumption | (simp (disch := omega) only [hF, natc, w64_in, shs]; first | done | assumption | omega | (simp only [natc] at *; omega))) ?_; cbv)
    | (refine bc_split (fun h => ?_) (fun h => ?_) <;> (try simp (disch := omega) only [hF, natc, w64_in, shs] at h) <;> cbv)
  subst hQ; exact leaf_p rfl rfl ⟨rfl, rfl⟩

theorem tou2 (id a w A e : Int) (o o' : Ob)
    (hs : CallOK (O := Ob) PR n_port_Core_spot [.ptr 0 0, .dv (.int .i64 1), .dv (.int .i64 0), .dv (.int .i64 a)] (PoM id o) fun v m => v = .tup [.dv (.int .i64 A), .dv (.bool true)] ∧ m = PoM id o) (hr : WtW o id a w e o') : TouW id o 2 a w 0 o' := by
  unfold WtW at hr; unfold TouW; unfold PoM at *
  refine fn_walkv mixed fn_law14_do (Ent.refl _ _) fun bin cmp un conv bnot beq band sel isel ofN toN inb nz nneg lt le room' slb add sub sbin scmp slen sget ssub addk pc pb pi pf ps mkok min_ ig aeq P hP hA hF Q hQ => ?_
  have hmt : methOf P 97 "Store" = some n_port_Core_Store := by rw [hP]; kernel_rfl
  cbv
  repeat' first
    | ((refine InvVC.mk ⟨_, hmt, ?_⟩); cbv)
    | ((refine call_inl hP mixed hA code_port_Core_Store fn_port_Core_Store ?_); cbv)
    | (refine call_at hP [0, 1] code_port_Core_spot (hs) rfl ?_ ?_ ?_; (focus ((repeat' (first | exact trivial | exact rfl | (intro _ _ _ _; exact rfl) | refine And.intro ?_ ?_)); done)); (focus (cbv; (try simp); done)); rintro _ _ ⟨rfl, rfl⟩ _; cbv)
    | (refine call_at hP [1] code_soc_Soc_Write (hr) rfl ?_ ?_ ?_; (focus ((repeat' (first | exact trivial | exact rfl | (intro _ _ _ _; exact rfl) | refine And.intro ?_ ?_)); done)); (focus (cbv; (try simp); done)); rintro _ _ ⟨rfl, rfl⟩ _; cbv)
    | ((refine And.intro ?_ ?_); cbv)
    | (refine Chk.mk trivial ?_; cbv)
    | (refine bc_true (by first | assumption | (simp (disch := omega) only [hF, natc, w64_in, shs]; first | done | assumption | omega | (simp only [natc] at *; omega))) ?_; cbv)
    | (refine bc_false (by first | assumption | (simp (disch := omega) only [hF, natc, w64_in, shs]; first | done | assumption | omega | (simp only [natc] at *; omega))) ?_; cbv)
    | (refine bc_split (fun h => ?_) (fun h => ?_) <;> (try simp (disch := omega) only [hF, natc, w64_in, shs] at h) <;> cbv)
  all_goals (subst hQ; exact leaf_p rfl rfl ⟨rfl, rfl⟩)

theorem tou2_no (id a w A : Int) (o : Ob)
    (hs : CallOK (O := Ob) PR n_port_Core_spot [.ptr 0 0, .dv (.int .i64 1), .dv (.int .i64 0), .dv (.int .i64 a)] (PoM id o) fun v m => v = .tup [.dv (.int .i64 A), .dv (.bool false)] ∧ m = PoM id o) : TouW id o 2 a w 0 o := by
  unfold TouW; unfold PoM at *
  refine fn_walkv mixed fn_law14_do (Ent.refl _ _) fun bin cmp un conv bnot beq band sel isel ofN toN inb nz nneg lt le room' slb add sub sbin scmp slen sget ssub addk pc pb pi pf ps mkok min_ ig aeq P hP hA hF Q hQ => ?_
  have hmt : methOf P 97 "Store" = some n_port_Core_Store := by rw [hP]; kernel_rfl
  cbv
  repeat' first
    | ((refine InvVC.mk ⟨_, hmt, ?_⟩); cbv)
    | ((refine call_inl hP mixed hA code_port_Core_Store fn_port_Core_Store ?_); cbv)
    | (refine call_at hP [0, 1] code_port_Core_spot (hs) rfl ?_ ?_ ?_; (focus ((repeat' (first | exact trivial | exact rfl | (intro _ _ _ _; exact rfl) | refine And.intro ?_ ?_)); done)); (focus (cbv; (try simp); done)); rintro _ _ ⟨rfl, rfl⟩ _; cbv)
    | (refine Chk.mk trivial ?_; cbv)
    | (refine bc_true (by first | assumption | (simp (disch := omega) only [hF, natc, w64_in, shs]; first | done | assumption | omega | (simp only [natc] at *; omega))) ?_; cbv)
    | (refine bc_false (by first | assumption | (simp (disch := omega) only [hF, natc, w64_in, shs]; first | done | assumption | omega | (simp only [natc] at *; omega))) ?_; cbv)
    | (refine bc_split (fun h => ?_) (fun h => ?_) <;> (try simp (disch := omega) only [hF, natc, w64_in, shs] at h) <;> cbv)
  subst hQ; exact leaf_p rfl rfl ⟨rfl, rfl⟩

theorem tou3 (id a w n e : Int) (o o' : Ob) (hr : FnW o id n e o') : TouW id o 3 a w 0 o' := by
  unfold FnW at hr; unfold TouW; unfold PoM at *
  refine fn_walkv mixed fn_law14_do (Ent.refl _ _) fun bin cmp un conv bnot beq band sel isel ofN toN inb nz nneg lt le room' slb add sub sbin scmp slen sget ssub addk pc pb pi pf ps mkok min_ ig aeq P hP hA hF Q hQ => ?_
  have hmt : methOf P 97 "Fence" = some n_port_Core_Fence := by rw [hP]; kernel_rfl
  cbv
  repeat' first
    | ((refine InvVC.mk ⟨_, hmt, ?_⟩); cbv)
    | ((refine call_inl hP mixed hA code_port_Core_Fence fn_port_Core_Fence ?_); cbv)
    | (refine call_at hP [1] code_soc_Soc_Fence (hr) rfl ?_ ?_ ?_; (focus ((repeat' (first | exact trivial | exact rfl | (intro _ _ _ _; exact rfl) | refine And.intro ?_ ?_)); done)); (focus (cbv; (try simp); done)); rintro _ _ ⟨rfl, rfl⟩ _; cbv)
    | ((refine And.intro ?_ ?_); cbv)
    | (refine Chk.mk trivial ?_; cbv)
    | (refine bc_true (by first | assumption | (simp (disch := omega) only [hF, natc, w64_in, shs]; first | done | assumption | omega | (simp only [natc] at *; omega))) ?_; cbv)
    | (refine bc_false (by first | assumption | (simp (disch := omega) only [hF, natc, w64_in, shs]; first | done | assumption | omega | (simp only [natc] at *; omega))) ?_; cbv)
    | (refine bc_split (fun h => ?_) (fun h => ?_) <;> (try simp (disch := omega) only [hF, natc, w64_in, shs] at h) <;> cbv)
  all_goals (subst hQ; exact leaf_p rfl rfl ⟨rfl, rfl⟩)

theorem tou5 (id a w A e : Int) (o o' : Ob)
    (hs : CallOK (O := Ob) PR n_port_Core_spot [.ptr 0 0, .dv (.int .i64 2), .dv (.int .i64 a), .dv (.int .i64 2)] (PoM id o) fun v m => v = .tup [.dv (.int .i64 A), .dv (.bool true)] ∧ m = PoM id o) (hr : WtW o id A id e o') : TouW id o 5 a w 0 o' := by
  unfold WtW at hr; unfold TouW; unfold PoM at *
  refine fn_walkv mixed fn_law14_do (Ent.refl _ _) fun bin cmp un conv bnot beq band sel isel ofN toN inb nz nneg lt le room' slb add sub sbin scmp slen sget ssub addk pc pb pi pf ps mkok min_ ig aeq P hP hA hF Q hQ => ?_
  have hmt : methOf P 97 "Kick" = some n_port_Core_Kick := by rw [hP]; kernel_rfl
  cbv
  repeat' first
    | ((refine InvVC.mk ⟨_, hmt, ?_⟩); cbv)
    | ((refine call_inl hP mixed hA code_port_Core_Kick fn_port_Core_Kick ?_); cbv)
    | (refine call_at hP [0, 1] code_port_Core_spot (hs) rfl ?_ ?_ ?_; (focus ((repeat' (first | exact trivial | exact rfl | (intro _ _ _ _; exact rfl) | refine And.intro ?_ ?_)); done)); (focus (cbv; (try simp); done)); rintro _ _ ⟨rfl, rfl⟩ _; cbv)
    | (refine call_at hP [1] code_soc_Soc_Write (hr) rfl ?_ ?_ ?_; (focus ((repeat' (first | exact trivial | exact rfl | (intro _ _ _ _; exact rfl) | refine And.intro ?_ ?_)); done)); (focus (cbv; (try simp); done)); rintro _ _ ⟨rfl, rfl⟩ _; cbv)
    | ((refine And.intro ?_ ?_); cbv)
    | (refine Chk.mk trivial ?_; cbv)
    | (refine bc_true (by first | assumption | (simp (disch := omega) only [hF, natc, w64_in, shs]; first | done | assumption | omega | (simp only [natc] at *; omega))) ?_; cbv)
    | (refine bc_false (by first | assumption | (simp (disch := omega) only [hF, natc, w64_in, shs]; first | done | assumption | omega | (simp only [natc] at *; omega))) ?_; cbv)
    | (refine bc_split (fun h => ?_) (fun h => ?_) <;> (try simp (disch := omega) only [hF, natc, w64_in, shs] at h) <;> cbv)
  all_goals (subst hQ; exact leaf_p rfl rfl ⟨rfl, rfl⟩)

theorem tou5_no (id a w A : Int) (o : Ob)
    (hs : CallOK (O := Ob) PR n_port_Core_spot [.ptr 0 0, .dv (.int .i64 2), .dv (.int .i64 a), .dv (.int .i64 2)] (PoM id o) fun v m => v = .tup [.dv (.int .i64 A), .dv (.bool false)] ∧ m = PoM id o) : TouW id o 5 a w 0 o := by
  unfold TouW; unfold PoM at *
  refine fn_walkv mixed fn_law14_do (Ent.refl _ _) fun bin cmp un conv bnot beq band sel isel ofN toN inb nz nneg lt le room' slb add sub sbin scmp slen sget ssub addk pc pb pi pf ps mkok min_ ig aeq P hP hA hF Q hQ => ?_
  have hmt : methOf P 97 "Kick" = some n_port_Core_Kick := by rw [hP]; kernel_rfl
  cbv
  repeat' first
    | ((refine InvVC.mk ⟨_, hmt, ?_⟩); cbv)
    | ((refine call_inl hP mixed hA code_port_Core_Kick fn_port_Core_Kick ?_); cbv)
    | (refine call_at hP [0, 1] code_port_Core_spot (hs) rfl ?_ ?_ ?_; (focus ((repeat' (first | exact trivial | exact rfl | (intro _ _ _ _; exact rfl) | refine And.intro ?_ ?_)); done)); (focus (cbv; (try simp); done)); rintro _ _ ⟨rfl, rfl⟩ _; cbv)
    | (refine Chk.mk trivial ?_; cbv)
    | (refine bc_true (by first | assumption | (simp (disch := omega) only [hF, natc, w64_in, shs]; first | done | assumption | omega | (simp only [natc] at *; omega))) ?_; cbv)
    | (refine bc_false (by first | assumption | (simp (disch := omega) only [hF, natc, w64_in, shs]; first | done | assumption | omega | (simp only [natc] at *; omega))) ?_; cbv)
    | (refine bc_split (fun h => ?_) (fun h => ?_) <;> (try simp (disch := omega) only [hF, natc, w64_in, shs] at h) <;> cbv)
  subst hQ; exact leaf_p rfl rfl ⟨rfl, rfl⟩

theorem tou0 (id k a w : Int) (o : Ob) (hk : k ≠ 1 ∧ k ≠ 2 ∧ k ≠ 3 ∧ k ≠ 4 ∧ k ≠ 5) : TouW id o k a w 0 o := by
  obtain ⟨k1, k2, k3, k4, k5⟩ := hk
  unfold TouW; unfold PoM at *
  refine fn_walkv mixed fn_law14_do (Ent.refl _ _) fun bin cmp un conv bnot beq band sel isel ofN toN inb nz nneg lt le room' slb add sub sbin scmp slen sget ssub addk pc pb pi pf ps mkok min_ ig aeq P hP hA hF Q hQ => ?_
  have q1 : cmp .eql k 1 = false := by simp only [hF, decide_eq_false_iff_not]; exact k1
  have q2 : cmp .eql k 2 = false := by simp only [hF, decide_eq_false_iff_not]; exact k2
  have q3 : cmp .eql k 3 = false := by simp only [hF, decide_eq_false_iff_not]; exact k3
  have q4 : cmp .eql k 4 = false := by simp only [hF, decide_eq_false_iff_not]; exact k4
  have q5 : cmp .eql k 5 = false := by simp only [hF, decide_eq_false_iff_not]; exact k5
  cbv
  repeat' first
    | ((rw [q1]); cbv)
    | ((rw [q2]); cbv)
    | ((rw [q3]); cbv)
    | ((rw [q4]); cbv)
    | ((rw [q5]); cbv)
    | (refine Chk.mk trivial ?_; cbv)
    | (refine bc_true (by first | assumption | (simp (disch := omega) only [hF, natc, w64_in, shs]; first | done | assumption | omega | (simp only [natc] at *; omega))) ?_; cbv)
    | (refine bc_false (by first | assumption | (simp (disch := omega) only [hF, natc, w64_in, shs]; first | done | assumption | omega | (simp only [natc] at *; omega))) ?_; cbv)
    | (refine bc_split (fun h => ?_) (fun h => ?_) <;> (try simp (disch := omega) only [hF, natc, w64_in, shs] at h) <;> cbv)
  subst hQ; exact leaf_p rfl rfl ⟨rfl, rfl⟩

end Go.Proofs.YtiaceoomiflgcaaGreat

end

section
namespace Go.Proofs.YtiaceoomiflgcaaGreat
open Go.V
set_option linter.unusedVariables false
set_option linter.unusedSimpArgs false
set_option maxRecDepth 100000
set_option maxHeartbeats 8000000

theorem words_w (n : Nat) (r : Nat → Int) (hn : n ≤ 65536) : CallOK (O := Ob) PR n_port_words [.vec 0] [.vec n 1 fun i _ => .dv (.int .i64 (r i))]
    fun v m => v = .vec 1 ∧ m = [.vec n 1 fun i _ => .dv (.int .i64 (r i)), .vec n 1 fun i _ => .dv (.int .i64 (r i % 65536))] := by
  have hc := clone_i n r hn
  have hw := fun z => wordW z
  unfold WordW at hw
  obtain ⟨M, hM⟩ : ∃ M : Nat → Nat → Int, ∀ i k, M i k = if k < i then r k % 65536 else r k := ⟨_, fun _ _ => rfl⟩
  refine fn_walkv mixed fn_port_words (Ent.refl _ _) fun bin cmp un conv bnot beq band sel isel ofN toN inb nz nneg lt le room' slb add sub sbin scmp slen sget ssub addk pc pb pi pf ps mkok min_ ig aeq P hP hA hF Q hQ => ?_
  cbv
  repeat' first
    | (refine call_at hP [0] code_slices_Clone_Sint_int (hc) rfl ?_ ?_ ?_; (focus ((repeat' (first | exact trivial | exact rfl | (intro _ _ _ _; exact rfl) | refine And.intro ?_ ?_)); done)); (focus (cbv; (try simp); done)); rintro _ _ ⟨rfl, rfl⟩ _; cbv)
    | (refine Chk.mk trivial ?_; cbv)
    | (refine bc_true (by first | assumption | (simp (disch := omega) only [hF, natc, w64_in, shs]; first | done | assumption | omega | (simp only [natc] at *; omega))) ?_; cbv)
    | (refine bc_false (by first | assumption | (simp (disch := omega) only [hF, natc, w64_in, shs]; first | done | assumption | omega | (simp only [natc] at *; omega))) ?_; cbv)
    | (refine bc_split (fun h => ?_) (fun h => ?_) <;> (try simp (disch := omega) only [hF, natc, w64_in, shs] at h) <;> cbv)
    | (refine IdxVC.mk (by simp (disch := omega) only [hF, natc, w64_in, shs]; first | done | omega | (simp only [natc] at *; omega)) (fun kx hk hk2 => ?_); simp (disch := omega) only [hF, natc, w64_in, shs] at hk; (try obtain rfl : kx = 0 := hk); cbv)
    | (refine Chk.mk (by simp (disch := omega) only [maxN, hF, natc, w64_in, shs]; first | done | assumption | omega | (simp only [natc] at *; omega)) ?_; cbv)
    | (intro (hmx : _ ≤ maxN); replace hmx : _ ≤ 17592186044416 := hmx; cbv)
    | (intro _; cbv)
  refine loop_up mixed hP hA (n) (fun i => True) [4, 5, 10, 11, 12, 13, 14, 15, 16, 17, 18, 19, 20] (fun i => [(10, .dv (.int .i64 (ofN i)))]) (fun i => [.vec n 1 fun k _ => .dv (.int .i64 (r k)), .vec n 1 fun k _ => .dv (.int .i64 (M i k))]) (trivial) ?_ fun Nx i hN hi hp => ?_
  · refine Ent.ren [0, 1] rfl rfl ⟨⟨rfl, rfl, fun _ _ _ _ => rfl⟩, ⟨rfl, rfl, fun k f hk hf => ?_⟩, trivial⟩ (by cbv; simp [hF])
    show VLe _ (.dv (.int .i64 (r k))) (.dv (.int .i64 (M 0 k)))
    rw [hM, if_neg (Nat.not_lt_zero _)]; rfl
  cbv
  by_cases hlt : i < n
  · have hwi := hw (M i i)
    have hMi : M i i % 65536 = r i % 65536 := by rw [hM, if_neg (Nat.lt_irrefl _)]
    generalize M i i % 65536 = u at hwi hMi
    cbv
    repeat' first
      | (refine call_pure hP code_wrap_Word (hwi) ?_ ?_; (focus (cbv; (try simp); done)); rintro _ rfl; cbv)
      | (refine Chk.mk trivial ?_; cbv)
      | (refine bc_true (by first | assumption | (simp (disch := omega) only [hF, natc, w64_in, shs]; first | done | assumption | omega | (simp only [natc] at *; omega))) ?_; cbv)
      | (refine bc_false (by first | assumption | (simp (disch := omega) only [hF, natc, w64_in, shs]; first | done | assumption | omega | (simp only [natc] at *; omega))) ?_; cbv)
      | (refine bc_split (fun h => ?_) (fun h => ?_) <;> (try simp (disch := omega) only [hF, natc, w64_in, shs] at h) <;> cbv)
      | (refine IdxVC.mk (by simp (disch := omega) only [hF, natc, w64_in, shs]; first | done | omega | (simp only [natc] at *; omega)) (fun kx hk hk2 => ?_); simp (disch := omega) only [hF, natc, w64_in, shs] at hk; (try obtain rfl : kx = 0 := hk); (try obtain rfl : i = kx := hk.symm); cbv)
      | (refine Chk.mk (by simp (disch := omega) only [maxN, hF, natc, w64_in, shs]; first | done | assumption | omega | (simp only [natc] at *; omega)) ?_; cbv)
      | (intro (hmx : _ ≤ maxN); replace hmx : _ ≤ 17592186044416 := hmx; cbv)
      | (intro _; cbv)
    refine hN _ hlt trivial (Ent.ren [0, 1] rfl rfl ⟨⟨rfl, rfl, fun _ _ _ _ => rfl⟩, ⟨rfl, rfl, fun k f hk hf => ?_⟩, trivial⟩ (by cbv; simp (disch := omega) [hF, natc, w64_in]))
    obtain rfl : f = 0 := by omega
    rw [updRow_one (fun k => .int .i64 (M i k))]
    show VLe _ _ (.dv (.int .i64 (M (i + 1) k)))
    by_cases hki : k = i
    · rw [if_pos hki, hM, if_pos (by omega), hki, hMi]; rfl
    · rw [if_neg hki, hM, hM]
      by_cases hk2 : k < i
      · rw [if_pos hk2, if_pos (by omega)]; rfl
      · rw [if_neg hk2, if_neg (by omega)]; rfl
  · obtain rfl : i = n := by omega
    cbv
    repeat' first
      | (refine Chk.mk trivial ?_; cbv)
      | (refine bc_true (by first | assumption | (simp (disch := omega) only [hF, natc, w64_in, shs]; first | done | assumption | omega | (simp only [natc] at *; omega))) ?_; cbv)
      | (refine bc_false (by first | assumption | (simp (disch := omega) only [hF, natc, w64_in, shs]; first | done | assumption | omega | (simp only [natc] at *; omega))) ?_; cbv)
      | (refine bc_split (fun h => ?_) (fun h => ?_) <;> (try simp (disch := omega) only [hF, natc, w64_in, shs] at h) <;> cbv)
      | (refine IdxVC.mk (by simp (disch := omega) only [hF, natc, w64_in, shs]; first | done | omega | (simp only [natc] at *; omega)) (fun kx hk hk2 => ?_); simp (disch := omega) only [hF, natc, w64_in, shs] at hk; (try obtain rfl : kx = 0 := hk); cbv)
      | (refine Chk.mk (by simp (disch := omega) only [maxN, hF, natc, w64_in, shs]; first | done | assumption | omega | (simp only [natc] at *; omega)) ?_; cbv)
      | (intro (hmx : _ ≤ maxN); replace hmx : _ ≤ 17592186044416 := hmx; cbv)
      | (intro _; cbv)
    subst hQ
    refine ⟨.vec 1, [.vec i 1 fun k _ => .dv (.int .i64 (r k)), .vec i 1 fun k _ => .dv (.int .i64 (r k % 65536))], ?_, rfl, rfl⟩
    refine Ent.ren [0, 1] rfl rfl ⟨⟨rfl, rfl, fun _ _ _ _ => rfl⟩, ⟨rfl, rfl, fun k f hk hf => ?_⟩, trivial⟩ ⟨rfl, trivial⟩
    show VLe _ (.dv (.int .i64 (M i k))) _
    rw [hM, if_pos hk]; rfl

theorem words_nil : CallOK (O := Ob) PR n_port_words [.dv .nils] [] fun v m => v = .dv .nils ∧ m = [] := by
  refine fn_walkv mixed fn_port_words (Ent.refl _ _) fun bin cmp un conv bnot beq band sel isel ofN toN inb nz nneg lt le room' slb add sub sbin scmp slen sget ssub addk pc pb pi pf ps mkok min_ ig aeq P hP hA hF Q hQ => ?_
  cbv
  repeat' first
    | ((refine call_inl hP mixed hA code_slices_Clone_Sint_int fn_slices_Clone_Sint_int ?_); cbv)
    | (refine Chk.mk trivial ?_; cbv)
    | (refine bc_true (by first | assumption | (simp (disch := omega) only [hF, natc, w64_in, shs]; first | done | assumption | omega | (simp only [natc] at *; omega))) ?_; cbv)
    | (refine bc_false (by first | assumption | (simp (disch := omega) only [hF, natc, w64_in, shs]; first | done | assumption | omega | (simp only [natc] at *; omega))) ?_; cbv)
    | (refine bc_split (fun h => ?_) (fun h => ?_) <;> (try simp (disch := omega) only [hF, natc, w64_in, shs] at h) <;> cbv)
    | (refine IdxVC.mk (by simp (disch := omega) only [hF, natc, w64_in, shs]; first | done | omega | (simp only [natc] at *; omega)) (fun kx hk hk2 => ?_); simp (disch := omega) only [hF, natc, w64_in, shs] at hk; (try obtain rfl : kx = 0 := hk); cbv)
    | (refine Chk.mk (by simp (disch := omega) only [maxN, hF, natc, w64_in, shs]; first | done | assumption | omega | (simp only [natc] at *; omega)) ?_; cbv)
    | (intro (hmx : _ ≤ maxN); replace hmx : _ ≤ 17592186044416 := hmx; cbv)
    | (intro _; cbv)
  refine loop_up mixed hP hA (0) (fun i => True) [4, 5, 10, 11, 12, 13, 14, 15, 16, 17, 18, 19, 20] (fun i => [(10, .dv (.int .i64 (ofN i)))]) (fun _ => []) (trivial) ?_ fun Nx i hN hi hp => ?_
  · exact Ent.env (by cbv; simp [hF])
  cbv
  obtain rfl : i = 0 := by omega
  cbv
  repeat' first
    | (refine Chk.mk trivial ?_; cbv)
    | (refine bc_true (by first | assumption | (simp (disch := omega) only [hF, natc, w64_in, shs]; first | done | assumption | omega | (simp only [natc] at *; omega))) ?_; cbv)
    | (refine bc_false (by first | assumption | (simp (disch := omega) only [hF, natc, w64_in, shs]; first | done | assumption | omega | (simp only [natc] at *; omega))) ?_; cbv)
    | (refine bc_split (fun h => ?_) (fun h => ?_) <;> (try simp (disch := omega) only [hF, natc, w64_in, shs] at h) <;> cbv)
    | (refine IdxVC.mk (by simp (disch := omega) only [hF, natc, w64_in, shs]; first | done | omega | (simp only [natc] at *; omega)) (fun kx hk hk2 => ?_); simp (disch := omega) only [hF, natc, w64_in, shs] at hk; (try obtain rfl : kx = 0 := hk); cbv)
    | (refine Chk.mk (by simp (disch := omega) only [maxN, hF, natc, w64_in, shs]; first | done | assumption | omega | (simp only [natc] at *; omega)) ?_; cbv)
    | (intro (hmx : _ ≤ maxN); replace hmx : _ ≤ 17592186044416 := hmx; cbv)
    | (intro _; cbv)
  subst hQ
  exact ⟨_, [], Ent.refl _ _, rfl, rfl⟩

theorem alive14 : CallOK (O := Ob) PR n_law14_alive [] [] fun v m => v = .dv (.bool true) ∧ m = [] := by
  obtain ⟨r, hr⟩ : ∃ r : Nat → Int, ∀ i, r i = if i = 0 then 5 else 6 := ⟨_, fun _ => rfl⟩
  have h1 := words_w 2 r (by omega)
  have h2 := words_nil
  have r0 : r 0 % 65536 = 5 := by rw [hr]; rfl
  obtain ⟨q, hq⟩ : ∃ q : Nat → Int, ∀ i, q i = r i % 65536 := ⟨_, fun _ => rfl⟩
  have e1 : (fun (i : Nat) (_ : Nat) => SV.dv (.int .i64 (r i % 65536))) = fun i _ => .dv (.int .i64 (q i)) := by funext i _; rw [hq]
  rw [e1] at h1
  have q0 : q 0 = 5 := by rw [hq]; exact r0
  have hw := wordW 65537
  unfold WordW at hw
  clear e1 hq r0
  refine fn_walkv mixed fn_law14_alive (Ent.refl _ _) fun bin cmp un conv bnot beq band sel isel ofN toN inb nz nneg lt le room' slb add sub sbin scmp slen sget ssub addk pc pb pi pf ps mkok min_ ig aeq P hP hA hF Q hQ => ?_
  have hq0 : cmp .eql (q 0) 5 = true := by simp only [hF, q0]; rfl
  cbv
  repeat' first
    | ((refine call_inl hP mixed hA code_port_OfWords fn_port_OfWords ?_); cbv)
    | (refine Chk.mk trivial ?_; cbv)
    | (refine bc_true (by first | assumption | (simp (disch := omega) only [hF, natc, w64_in, shs]; first | done | assumption | omega | (simp only [natc] at *; omega))) ?_; cbv)
    | (refine bc_false (by first | assumption | (simp (disch := omega) only [hF, natc, w64_in, shs]; first | done | assumption | omega | (simp only [natc] at *; omega))) ?_; cbv)
    | (refine bc_split (fun h => ?_) (fun h => ?_) <;> (try simp (disch := omega) only [hF, natc, w64_in, shs] at h) <;> cbv)
    | (refine IdxVC.mk (by simp (disch := omega) only [hF, natc, w64_in, shs]; first | done | omega | (simp only [natc] at *; omega)) (fun kx hk hk2 => ?_); simp (disch := omega) only [hF, natc, w64_in, shs] at hk; (try obtain rfl : kx = 0 := hk); cbv)
    | (refine Chk.mk (by simp (disch := omega) only [maxN, hF, natc, w64_in, shs]; first | done | assumption | omega | (simp only [natc] at *; omega)) ?_; cbv)
    | (intro (hmx : _ ≤ maxN); replace hmx : _ ≤ 17592186044416 := hmx; cbv)
    | (intro _; cbv)
  refine call_at hP [0] code_port_words (h1) rfl ?_ ?_ ?_
  · refine ⟨⟨rfl, rfl, fun i f hi hf => ?_⟩, trivial⟩
    show VLe _ _ (.dv (.int .i64 (r i)))
    rw [hr]
    rcases (by omega : i = 0 ∨ i = 1) with rfl | rfl
    · obtain rfl : f = 0 := by omega
      rfl
    · obtain rfl : f = 0 := by omega
      rfl
  · cbv
  rintro _ _ ⟨rfl, rfl⟩ _
  cbv
  cbv
  repeat' first
    | (refine call_pure hP code_port_words (h2) ?_ ?_; (focus (cbv; (try simp); done)); rintro _ rfl; cbv)
    | ((refine call_inl hP mixed hA code_port_Plain_Store fn_port_Plain_Store ?_); cbv)
    | ((refine call_inl hP mixed hA code_port_Plain_Load fn_port_Plain_Load ?_); cbv)
    | ((refine call_inl hP mixed hA code_port_has fn_port_has ?_); cbv)
    | (refine call_pure hP code_wrap_Word (hw) ?_ ?_; (focus (cbv; (try simp); done)); rintro _ rfl; cbv)
    | ((rw [hq0]); cbv)
    | ((refine And.intro ?_ ?_); cbv)
    | (refine Chk.mk trivial ?_; cbv)
    | (refine bc_true (by first | assumption | (simp (disch := omega) only [hF, natc, w64_in, shs]; first | done | assumption | omega | (simp only [natc] at *; omega))) ?_; cbv)
    | (refine bc_false (by first | assumption | (simp (disch := omega) only [hF, natc, w64_in, shs]; first | done | assumption | omega | (simp only [natc] at *; omega))) ?_; cbv)
    | (refine bc_split (fun h => ?_) (fun h => ?_) <;> (try simp (disch := omega) only [hF, natc, w64_in, shs] at h) <;> cbv)
    | (refine IdxVC.mk (by simp (disch := omega) only [hF, natc, w64_in, shs]; first | done | omega | (simp only [natc] at *; omega)) (fun kx hk hk2 => ?_); simp (disch := omega) only [hF, natc, w64_in, shs] at hk; (try obtain rfl : kx = 0 := hk); (try obtain rfl : 1 = kx := hk.symm); cbv)
    | (refine Chk.mk (by simp (disch := omega) only [maxN, hF, natc, w64_in, shs]; first | done | assumption | omega | (simp only [natc] at *; omega)) ?_; cbv)
    | (intro (hmx : _ ≤ maxN); replace hmx : _ ≤ 17592186044416 := hmx; cbv)
    | (intro _; cbv)
  subst hQ; exact leaf_data rfl rfl ⟨rfl, rfl⟩

end Go.Proofs.YtiaceoomiflgcaaGreat

end
