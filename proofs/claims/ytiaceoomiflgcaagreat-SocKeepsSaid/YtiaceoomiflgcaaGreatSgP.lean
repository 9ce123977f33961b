/-
  SocKeeps, joined.
-/
import Derived.Test.YtiaceoomiflgcaaGreatSdU
import Derived.Test.YtiaceoomiflgcaaGreatSgM
section
namespace Go.Proofs.YtiaceoomiflgcaaGreat
open Go.V
set_option linter.unusedVariables false
set_option linter.unusedSimpArgs false
set_option maxRecDepth 100000
set_option maxHeartbeats 8000000

theorem xAck_x (cores : Nat) (bs : Nat → Nat) (bits : Nat → Int) (bo : Nat → Ob) (w z : Int) (j : Nat) (hj : j < cores) (h8 : cores ≤ 8) (hz : std.bin .andNot .i64 (bits j) w = z) :
    CallOK (O := Ob) PR n_mbox_Box_Ack [.ptr 0 0, .dv (.int .i64 j), .dv (.int .i64 w)] [.obj (.mk (xR cores bs bits bo))] fun v m => v = .dv (.int .i64 0) ∧ m = [.obj (xO cores (fun i => if i = j then z else bits i) bo)] := by
  unfold xR
  refine fn_walkv mixed fn_mbox_Box_Ack Ent.opn1 fun bin cmp un conv bnot beq band sel isel ofN toN inb nz nneg lt le room' slb add sub sbin scmp slen sget ssub addk pc pb pi pf ps mkok min_ ig aeq P hP hA hF Q hQ => ?_
  have hz' : bin .andNot .i64 (bits j) w = z := by
    have e : bin = std.bin := congrArg Ar.bin hA
    rw [e]; exact hz
  clear hz
  cbv
  repeat' first
    | ((refine call_inl hP mixed hA code_mbox_Box_ask fn_mbox_Box_ask ?_); cbv)
    | ((refine call_inl hP mixed hA code_mbox_Box_Ack_c1 fn_mbox_Box_Ack_c1 ?_); cbv)
    | (refine Chk.mk trivial ?_; cbv)
    | (refine bc_true (by first | assumption | (simp (disch := omega) only [hF, natc, w64_in, shs]; first | done | assumption | omega | (simp only [natc] at *; omega))) ?_; cbv)
    | (refine bc_false (by first | assumption | (simp (disch := omega) only [hF, natc, w64_in, shs]; first | done | assumption | omega | (simp only [natc] at *; omega))) ?_; cbv)
    | (refine bc_split (fun h => ?_) (fun h => ?_) <;> (try simp (disch := omega) only [hF, natc, w64_in, shs] at h) <;> cbv)
    | (refine IdxVC.mk (by simp (disch := omega) only [hF, natc, w64_in, shs]; first | done | omega | (simp only [natc] at *; omega)) (fun kx hk hk2 => ?_); simp (disch := omega) only [hF, natc, w64_in, shs] at hk; (try obtain rfl : kx = 0 := hk); cbv)
    | (refine Chk.mk (by simp (disch := omega) only [maxN, hF, natc, w64_in, shs]; first | done | assumption | omega | (simp only [natc] at *; omega)) ?_; cbv)
    | (intro (hmx : _ ≤ maxN); replace hmx : _ ≤ 17592186044416 := hmx; cbv)
    | (intro _; cbv)
  subst hk
  rw [hz']
  subst hQ
  refine ⟨.dv (.int .i64 0), [.obj (xO cores (fun i => if i = kx then z else bits i) bo)], ?_, rfl, rfl⟩
  refine (Ent.cls1 (env' := [.dv (.int .i64 0)]) [1, 2] (xR cores bs (fun i => if i = kx then z else bits i) bo) rfl rfl ?_ ?_).trans (Ent.exI (o := fun bs => .mk (xR cores bs (fun i => if i = kx then z else bits i) bo)) 0 bs rfl)
  · refine ⟨⟨rfl, trivial⟩, ⟨rfl, rfl, fun i f hi hf => ?_⟩, rfl, trivial⟩
    rcases (by omega : f = 0 ∨ f = 1) with rfl | rfl
    · rw [updRow_20]; rfl
    · rw [updRow_21]; rfl
  · exact ⟨rfl, trivial⟩

theorem sRead_m0 (c n k : Int) (B B' X X' K G : Ob) (j a x e : Int) (ha : AtW c n k B X K G j a 2 j 0 0) (hf : BFen B B' j)
    (hx : CallOK (O := Ob) PR n_mbox_Box_Pending [.ptr 0 0, .dv (.int .i64 j)] [.obj X] fun v m => v = .tup [.dv (.int .i64 x), .dv (.int .i64 e)] ∧ m = [.obj X']) :
    CallOK (O := Ob) PR n_soc_Soc_Read [.ptr 0 0, .dv (.int .i64 j), .dv (.int .i64 a)] [.obj (sO c n k B X K G)] fun v m => v = .tup [.dv (.int .i64 x), .dv (.int .i64 0)] ∧ m = [.obj (sO c n k B' X' K G)] := by
  unfold AtW sM at ha; unfold BFen at hf
  refine fn_walkv mixed fn_soc_Soc_Read Ent.opn1 fun bin cmp un conv bnot beq band sel isel ofN toN inb nz nneg lt le room' slb add sub sbin scmp slen sget ssub addk pc pb pi pf ps mkok min_ ig aeq P hP hA hF Q hQ => ?_
  have hg : cmp .neq j j = false := by simp only [hF]; simp
  cbv
  repeat' first
    | (refine call_at hP [0, 1, 2, 3, 4] code_soc_Soc_at (ha) rfl ?_ ?_ ?_; (focus ((repeat' (first | exact trivial | exact rfl | (intro _ _ _ _; exact rfl) | refine And.intro ?_ ?_)); done)); (focus (cbv; (try simp); done)); rintro _ _ ⟨rfl, rfl⟩ _; cbv)
    | ((rw [hg]); cbv)
    | (refine call_at hP [1] code_bus_Bus_Fence (hf) rfl ?_ ?_ ?_; (focus ((repeat' (first | exact trivial | exact rfl | (intro _ _ _ _; exact rfl) | refine And.intro ?_ ?_)); done)); (focus (cbv; (try simp); done)); rintro _ _ ⟨⟨z, rfl⟩, rfl⟩ _; cbv)
    | ((refine call_inl hP mixed hA code_soc_Soc_register fn_soc_Soc_register ?_); cbv)
    | (refine call_at hP [2] code_mbox_Box_Pending (hx) rfl ?_ ?_ ?_; (focus ((repeat' (first | exact trivial | exact rfl | (intro _ _ _ _; exact rfl) | refine And.intro ?_ ?_)); done)); (focus (cbv; (try simp); done)); rintro _ _ ⟨rfl, rfl⟩ _; cbv)
    | (refine Chk.mk trivial ?_; cbv)
    | (refine bc_true (by first | assumption | (simp (disch := omega) only [hF, natc, w64_in, shs]; first | done | assumption | omega | (simp only [natc] at *; omega))) ?_; cbv)
    | (refine bc_false (by first | assumption | (simp (disch := omega) only [hF, natc, w64_in, shs]; first | done | assumption | omega | (simp only [natc] at *; omega))) ?_; cbv)
    | (refine bc_split (fun h => ?_) (fun h => ?_) <;> (try simp (disch := omega) only [hF, natc, w64_in, shs] at h) <;> cbv)
    | (refine IdxVC.mk (by simp (disch := omega) only [hF, natc, w64_in, shs]; first | done | omega | (simp only [natc] at *; omega)) (fun kx hk hk2 => ?_); simp (disch := omega) only [hF, natc, w64_in, shs] at hk; (try obtain rfl : kx = 0 := hk); cbv)
    | (refine Chk.mk (by simp (disch := omega) only [maxN, hF, natc, w64_in, shs]; first | done | assumption | omega | (simp only [natc] at *; omega)) ?_; cbv)
    | (intro (hmx : _ ≤ maxN); replace hmx : _ ≤ 17592186044416 := hmx; cbv)
    | (intro _; cbv)
  subst hQ
  exact leaf_sr rfl rfl ⟨rfl, rfl⟩

theorem sRead_m1 (c n k : Int) (B B' X X' K G : Ob) (j a u x e : Int) (ha : AtW c n k B X K G j a 2 j 1 0) (hf : BFen B B' j)
    (hx : CallOK (O := Ob) PR n_mbox_Box_Take [.ptr 0 0, .dv (.int .i64 j)] [.obj X] fun v m => v = .tup [.dv (.int .i64 u), .dv (.int .i64 x), .dv (.int .i64 e)] ∧ m = [.obj X']) :
    CallOK (O := Ob) PR n_soc_Soc_Read [.ptr 0 0, .dv (.int .i64 j), .dv (.int .i64 a)] [.obj (sO c n k B X K G)] fun v m => v = .tup [.dv (.int .i64 x), .dv (.int .i64 0)] ∧ m = [.obj (sO c n k B' X' K G)] := by
  unfold AtW sM at ha; unfold BFen at hf
  refine fn_walkv mixed fn_soc_Soc_Read Ent.opn1 fun bin cmp un conv bnot beq band sel isel ofN toN inb nz nneg lt le room' slb add sub sbin scmp slen sget ssub addk pc pb pi pf ps mkok min_ ig aeq P hP hA hF Q hQ => ?_
  have hg : cmp .neq j j = false := by simp only [hF]; simp
  cbv
  repeat' first
    | (refine call_at hP [0, 1, 2, 3, 4] code_soc_Soc_at (ha) rfl ?_ ?_ ?_; (focus ((repeat' (first | exact trivial | exact rfl | (intro _ _ _ _; exact rfl) | refine And.intro ?_ ?_)); done)); (focus (cbv; (try simp); done)); rintro _ _ ⟨rfl, rfl⟩ _; cbv)
    | ((rw [hg]); cbv)
    | (refine call_at hP [1] code_bus_Bus_Fence (hf) rfl ?_ ?_ ?_; (focus ((repeat' (first | exact trivial | exact rfl | (intro _ _ _ _; exact rfl) | refine And.intro ?_ ?_)); done)); (focus (cbv; (try simp); done)); rintro _ _ ⟨⟨z, rfl⟩, rfl⟩ _; cbv)
    | ((refine call_inl hP mixed hA code_soc_Soc_register fn_soc_Soc_register ?_); cbv)
    | (refine call_at hP [2] code_mbox_Box_Take (hx) rfl ?_ ?_ ?_; (focus ((repeat' (first | exact trivial | exact rfl | (intro _ _ _ _; exact rfl) | refine And.intro ?_ ?_)); done)); (focus (cbv; (try simp); done)); rintro _ _ ⟨rfl, rfl⟩ _; cbv)
    | (refine Chk.mk trivial ?_; cbv)
    | (refine bc_true (by first | assumption | (simp (disch := omega) only [hF, natc, w64_in, shs]; first | done | assumption | omega | (simp only [natc] at *; omega))) ?_; cbv)
    | (refine bc_false (by first | assumption | (simp (disch := omega) only [hF, natc, w64_in, shs]; first | done | assumption | omega | (simp only [natc] at *; omega))) ?_; cbv)
    | (refine bc_split (fun h => ?_) (fun h => ?_) <;> (try simp (disch := omega) only [hF, natc, w64_in, shs] at h) <;> cbv)
    | (refine IdxVC.mk (by simp (disch := omega) only [hF, natc, w64_in, shs]; first | done | omega | (simp only [natc] at *; omega)) (fun kx hk hk2 => ?_); simp (disch := omega) only [hF, natc, w64_in, shs] at hk; (try obtain rfl : kx = 0 := hk); cbv)
    | (refine Chk.mk (by simp (disch := omega) only [maxN, hF, natc, w64_in, shs]; first | done | assumption | omega | (simp only [natc] at *; omega)) ?_; cbv)
    | (intro (hmx : _ ≤ maxN); replace hmx : _ ≤ 17592186044416 := hmx; cbv)
    | (intro _; cbv)
  subst hQ
  exact leaf_sr rfl rfl ⟨rfl, rfl⟩

theorem sRead_m2 (c n k : Int) (B B' X X' K G : Ob) (j a x : Int) (ha : AtW c n k B X K G j a 2 j 2 0) (hf : BFen B B' j)
    (hx : CallOK (O := Ob) PR n_mbox_Box_Waits [.ptr 0 0, .dv (.int .i64 j)] [.obj X] fun v m => v = .dv (.int .i64 x) ∧ m = [.obj X']) :
    CallOK (O := Ob) PR n_soc_Soc_Read [.ptr 0 0, .dv (.int .i64 j), .dv (.int .i64 a)] [.obj (sO c n k B X K G)] fun v m => v = .tup [.dv (.int .i64 x), .dv (.int .i64 0)] ∧ m = [.obj (sO c n k B' X' K G)] := by
  unfold AtW sM at ha; unfold BFen at hf
  refine fn_walkv mixed fn_soc_Soc_Read Ent.opn1 fun bin cmp un conv bnot beq band sel isel ofN toN inb nz nneg lt le room' slb add sub sbin scmp slen sget ssub addk pc pb pi pf ps mkok min_ ig aeq P hP hA hF Q hQ => ?_
  have hg : cmp .neq j j = false := by simp only [hF]; simp
  cbv
  repeat' first
    | (refine call_at hP [0, 1, 2, 3, 4] code_soc_Soc_at (ha) rfl ?_ ?_ ?_; (focus ((repeat' (first | exact trivial | exact rfl | (intro _ _ _ _; exact rfl) | refine And.intro ?_ ?_)); done)); (focus (cbv; (try simp); done)); rintro _ _ ⟨rfl, rfl⟩ _; cbv)
    | ((rw [hg]); cbv)
    | (refine call_at hP [1] code_bus_Bus_Fence (hf) rfl ?_ ?_ ?_; (focus ((repeat' (first | exact trivial | exact rfl | (intro _ _ _ _; exact rfl) | refine And.intro ?_ ?_)); done)); (focus (cbv; (try simp); done)); rintro _ _ ⟨⟨z, rfl⟩, rfl⟩ _; cbv)
    | ((refine call_inl hP mixed hA code_soc_Soc_register fn_soc_Soc_register ?_); cbv)
    | (refine call_at hP [2] code_mbox_Box_Waits (hx) rfl ?_ ?_ ?_; (focus ((repeat' (first | exact trivial | exact rfl | (intro _ _ _ _; exact rfl) | refine And.intro ?_ ?_)); done)); (focus (cbv; (try simp); done)); rintro _ _ ⟨rfl, rfl⟩ _; cbv)
    | (refine Chk.mk trivial ?_; cbv)
    | (refine bc_true (by first | assumption | (simp (disch := omega) only [hF, natc, w64_in, shs]; first | done | assumption | omega | (simp only [natc] at *; omega))) ?_; cbv)
    | (refine bc_false (by first | assumption | (simp (disch := omega) only [hF, natc, w64_in, shs]; first | done | assumption | omega | (simp only [natc] at *; omega))) ?_; cbv)
    | (refine bc_split (fun h => ?_) (fun h => ?_) <;> (try simp (disch := omega) only [hF, natc, w64_in, shs] at h) <;> cbv)
    | (refine IdxVC.mk (by simp (disch := omega) only [hF, natc, w64_in, shs]; first | done | omega | (simp only [natc] at *; omega)) (fun kx hk hk2 => ?_); simp (disch := omega) only [hF, natc, w64_in, shs] at hk; (try obtain rfl : kx = 0 := hk); cbv)
    | (refine Chk.mk (by simp (disch := omega) only [maxN, hF, natc, w64_in, shs]; first | done | assumption | omega | (simp only [natc] at *; omega)) ?_; cbv)
    | (intro (hmx : _ ≤ maxN); replace hmx : _ ≤ 17592186044416 := hmx; cbv)
    | (intro _; cbv)
  subst hQ
  exact leaf_sr rfl rfl ⟨rfl, rfl⟩

theorem sWrite_a (c n k : Int) (B B' X X' K G : Ob) (j a w e : Int) (hw : WordW w w) (ha : AtW c n k B X K G j a 2 j 0 0)
    (hf : CallOK (O := Ob) PR n_bus_Bus_Fence [.ptr 0 0, .dv (.int .i64 j)] [.obj B] fun v m => (∃ z, v = .tup [.dv (.int .i64 z), .dv (.int .i64 0)]) ∧ m = [.obj B'])
    (hr : CallOK (O := Ob) PR n_mbox_Box_Ack [.ptr 0 0, .dv (.int .i64 j), .dv (.int .i64 w)] [.obj X] fun v m => v = .dv (.int .i64 e) ∧ m = [.obj X']) :
    SWr c n k B X K G j a w fun v m => v = .dv (.int .i64 e) ∧ m = [.obj (sO c n k B' X' K G)] := by
  unfold AtW sM at ha; unfold SWr; unfold WordW at hw
  refine fn_walkv mixed fn_soc_Soc_Write Ent.opn1 fun bin cmp un conv bnot beq band sel isel ofN toN inb nz nneg lt le room' slb add sub sbin scmp slen sget ssub addk pc pb pi pf ps mkok min_ ig aeq P hP hA hF Q hQ => ?_
  have hb0 : bnot true = false := by simp only [hF]; rfl
  have hg : cmp .neq w w = false := by simp only [hF]; simp
  have hg2 : cmp .eql j j = true := by simp only [hF]; simp
  cbv
  repeat' first
    | (refine call_at hP [0, 1, 2, 3, 4] code_soc_Soc_at (ha) rfl ?_ ?_ ?_; (focus ((repeat' (first | exact trivial | exact rfl | (intro _ _ _ _; exact rfl) | refine And.intro ?_ ?_)); done)); (focus (cbv; (try simp); done)); rintro _ _ ⟨rfl, rfl⟩ _; cbv)
    | ((refine call_inl hP mixed hA code_soc_may fn_soc_may ?_); cbv)
    | ((rw [hb0]); cbv)
    | ((rw [hg]); cbv)
    | ((rw [hg2]); cbv)
    | (refine call_pure hP code_wrap_Word (hw) ?_ ?_; (focus (cbv; (try simp); done)); rintro _ rfl; cbv)
    | (refine call_at hP [1] code_bus_Bus_Fence (hf) rfl ?_ ?_ ?_; (focus ((repeat' (first | exact trivial | exact rfl | (intro _ _ _ _; exact rfl) | refine And.intro ?_ ?_)); done)); (focus (cbv; (try simp); done)); rintro _ _ ⟨⟨z, rfl⟩, rfl⟩ _; cbv)
    | (refine call_at hP [2] code_mbox_Box_Ack (hr) rfl ?_ ?_ ?_; (focus ((repeat' (first | exact trivial | exact rfl | (intro _ _ _ _; exact rfl) | refine And.intro ?_ ?_)); done)); (focus (cbv; (try simp); done)); rintro _ _ ⟨rfl, rfl⟩ _; cbv)
    | (refine Chk.mk trivial ?_; cbv)
    | (refine bc_true (by first | assumption | (simp (disch := omega) only [hF, natc, w64_in, shs]; first | done | assumption | omega | (simp only [natc] at *; omega))) ?_; cbv)
    | (refine bc_false (by first | assumption | (simp (disch := omega) only [hF, natc, w64_in, shs]; first | done | assumption | omega | (simp only [natc] at *; omega))) ?_; cbv)
    | (refine bc_split (fun h => ?_) (fun h => ?_) <;> (try simp (disch := omega) only [hF, natc, w64_in, shs] at h) <;> cbv)
    | (refine IdxVC.mk (by simp (disch := omega) only [hF, natc, w64_in, shs]; first | done | omega | (simp only [natc] at *; omega)) (fun kx hk hk2 => ?_); simp (disch := omega) only [hF, natc, w64_in, shs] at hk; (try obtain rfl : kx = 0 := hk); cbv)
    | (refine Chk.mk (by simp (disch := omega) only [maxN, hF, natc, w64_in, shs]; first | done | assumption | omega | (simp only [natc] at *; omega)) ?_; cbv)
    | (intro (hmx : _ ≤ maxN); replace hmx : _ ≤ 17592186044416 := hmx; cbv)
    | (intro _; cbv)
  subst hQ
  exact leaf_sr rfl rfl ⟨rfl, rfl⟩

theorem sWrite_r (c n k : Int) (B B' X X' K G : Ob) (j a w y e : Int) (hw : WordW w w) (ha : AtW c n k B X K G j a 2 y 2 0)
    (hf : CallOK (O := Ob) PR n_bus_Bus_Fence [.ptr 0 0, .dv (.int .i64 j)] [.obj B] fun v m => (∃ z, v = .tup [.dv (.int .i64 z), .dv (.int .i64 0)]) ∧ m = [.obj B'])
    (hr : CallOK (O := Ob) PR n_mbox_Box_Ring [.ptr 0 0, .dv (.int .i64 j), .dv (.int .i64 y), .dv (.int .i64 w)] [.obj X] fun v m => v = .dv (.int .i64 e) ∧ m = [.obj X']) :
    SWr c n k B X K G j a w fun v m => v = .dv (.int .i64 e) ∧ m = [.obj (sO c n k B' X' K G)] := by
  unfold AtW sM at ha; unfold SWr; unfold WordW at hw
  refine fn_walkv mixed fn_soc_Soc_Write Ent.opn1 fun bin cmp un conv bnot beq band sel isel ofN toN inb nz nneg lt le room' slb add sub sbin scmp slen sget ssub addk pc pb pi pf ps mkok min_ ig aeq P hP hA hF Q hQ => ?_
  have hb0 : bnot true = false := by simp only [hF]; rfl
  have hg : cmp .neq w w = false := by simp only [hF]; simp
  cbv
  repeat' first
    | (refine call_at hP [0, 1, 2, 3, 4] code_soc_Soc_at (ha) rfl ?_ ?_ ?_; (focus ((repeat' (first | exact trivial | exact rfl | (intro _ _ _ _; exact rfl) | refine And.intro ?_ ?_)); done)); (focus (cbv; (try simp); done)); rintro _ _ ⟨rfl, rfl⟩ _; cbv)
    | ((refine call_inl hP mixed hA code_soc_may fn_soc_may ?_); cbv)
    | ((rw [hb0]); cbv)
    | ((rw [hg]); cbv)
    | (refine call_pure hP code_wrap_Word (hw) ?_ ?_; (focus (cbv; (try simp); done)); rintro _ rfl; cbv)
    | (refine call_at hP [1] code_bus_Bus_Fence (hf) rfl ?_ ?_ ?_; (focus ((repeat' (first | exact trivial | exact rfl | (intro _ _ _ _; exact rfl) | refine And.intro ?_ ?_)); done)); (focus (cbv; (try simp); done)); rintro _ _ ⟨⟨z, rfl⟩, rfl⟩ _; cbv)
    | (refine call_at hP [2] code_mbox_Box_Ring (hr) rfl ?_ ?_ ?_; (focus ((repeat' (first | exact trivial | exact rfl | (intro _ _ _ _; exact rfl) | refine And.intro ?_ ?_)); done)); (focus (cbv; (try simp); done)); rintro _ _ ⟨rfl, rfl⟩ _; cbv)
    | (refine Chk.mk trivial ?_; cbv)
    | (refine bc_true (by first | assumption | (simp (disch := omega) only [hF, natc, w64_in, shs]; first | done | assumption | omega | (simp only [natc] at *; omega))) ?_; cbv)
    | (refine bc_false (by first | assumption | (simp (disch := omega) only [hF, natc, w64_in, shs]; first | done | assumption | omega | (simp only [natc] at *; omega))) ?_; cbv)
    | (refine bc_split (fun h => ?_) (fun h => ?_) <;> (try simp (disch := omega) only [hF, natc, w64_in, shs] at h) <;> cbv)
    | (refine IdxVC.mk (by simp (disch := omega) only [hF, natc, w64_in, shs]; first | done | omega | (simp only [natc] at *; omega)) (fun kx hk hk2 => ?_); simp (disch := omega) only [hF, natc, w64_in, shs] at hk; (try obtain rfl : kx = 0 := hk); cbv)
    | (refine Chk.mk (by simp (disch := omega) only [maxN, hF, natc, w64_in, shs]; first | done | assumption | omega | (simp only [natc] at *; omega)) ?_; cbv)
    | (intro (hmx : _ ≤ maxN); replace hmx : _ ≤ 17592186044416 := hmx; cbv)
    | (intro _; cbv)
  subst hQ
  exact leaf_sr rfl rfl ⟨rfl, rfl⟩

/-- The laws' call, of each kind. -/
def DoW (x y : Ob) (k c a w n e : Int) : Prop := CallOK (O := Ob) PR n_law12_Do [.ptr 0 0, .agg [.dv (.int .i64 k), .dv (.int .i64 c), .dv (.int .i64 a), .dv (.int .i64 w)]] [.obj x] fun v m => v = .tup [.dv (.int .i64 n), .dv (.int .i64 e)] ∧ m = [.obj y]

theorem do0 (x y : Ob) (k c a w n e : Int) (hk : k ≠ 1 ∧ k ≠ 2 ∧ k ≠ 3 ∧ k ≠ 4 ∧ k ≠ 5 ∧ k ≠ 6) (h : CallOK (O := Ob) PR n_soc_Soc_Read [.ptr 0 0, .dv (.int .i64 c), .dv (.int .i64 a)] [.obj x] fun v m => v = .tup [.dv (.int .i64 n), .dv (.int .i64 e)] ∧ m = [.obj y]) : DoW x y k c a w n e := by
  obtain ⟨k1, k2, k3, k4, k5, k6⟩ := hk
  unfold DoW
  refine fn_walkv mixed fn_law12_Do (Ent.refl _ _) fun bin cmp un conv bnot beq band sel isel ofN toN inb nz nneg lt le room' slb add sub sbin scmp slen sget ssub addk pc pb pi pf ps mkok min_ ig aeq P hP hA hF Q hQ => ?_
  have q1 : cmp .eql k 1 = false := by simp only [hF, decide_eq_false_iff_not]; exact k1
  have q2 : cmp .eql k 2 = false := by simp only [hF, decide_eq_false_iff_not]; exact k2
  have q3 : cmp .eql k 3 = false := by simp only [hF, decide_eq_false_iff_not]; exact k3
  have q4 : cmp .eql k 4 = false := by simp only [hF, decide_eq_false_iff_not]; exact k4
  have q5 : cmp .eql k 5 = false := by simp only [hF, decide_eq_false_iff_not]; exact k5
  have q6 : cmp .eql k 6 = false := by simp only [hF, decide_eq_false_iff_not]; exact k6
  cbv
  repeat' first
    | ((rw [q1]); cbv)
    | ((rw [q2]); cbv)
    | ((rw [q3]); cbv)
    | ((rw [q4]); cbv)
    | ((rw [q5]); cbv)
    | ((rw [q6]); cbv)
    | (refine call_at hP [0] code_soc_Soc_Read (h) rfl ?_ ?_ ?_; (focus ((repeat' (first | exact trivial | exact rfl | (intro _ _ _ _; exact rfl) | refine And.intro ?_ ?_)); done)); (focus (cbv; (try simp); done)); rintro _ _ ⟨rfl, rfl⟩ _; cbv)
    | (refine Chk.mk trivial ?_; cbv)
    | (refine bc_true (by first | assumption | (simp (disch := omega) only [hF, natc, w64_in, shs]; first | done | assumption | omega | (simp only [natc] at *; omega))) ?_; cbv)
    | (refine bc_false (by first | assumption | (simp (disch := omega) only [hF, natc, w64_in, shs]; first | done | assumption | omega | (simp only [natc] at *; omega))) ?_; cbv)
    | (refine bc_split (fun h => ?_) (fun h => ?_) <;> (try simp (disch := omega) only [hF, natc, w64_in, shs] at h) <;> cbv)
    | (refine IdxVC.mk (by simp (disch := omega) only [hF, natc, w64_in, shs]; first | done | omega | (simp only [natc] at *; omega)) (fun kx hk hk2 => ?_); simp (disch := omega) only [hF, natc, w64_in, shs] at hk; (try obtain rfl : kx = 0 := hk); cbv)
    | (refine Chk.mk (by simp (disch := omega) only [maxN, hF, natc, w64_in, shs]; first | done | assumption | omega | (simp only [natc] at *; omega)) ?_; cbv)
    | (intro (hmx : _ ≤ maxN); replace hmx : _ ≤ 17592186044416 := hmx; cbv)
    | (intro _; cbv)
  subst hQ
  exact leaf_o rfl ⟨rfl, rfl⟩

theorem do1 (x y : Ob) (c a w e : Int) (h : CallOK (O := Ob) PR n_soc_Soc_Write [.ptr 0 0, .dv (.int .i64 c), .dv (.int .i64 a), .dv (.int .i64 w)] [.obj x] fun v m => v = .dv (.int .i64 e) ∧ m = [.obj y]) : DoW x y 1 c a w 0 e := by
  unfold DoW
  refine fn_walkv mixed fn_law12_Do (Ent.refl _ _) fun bin cmp un conv bnot beq band sel isel ofN toN inb nz nneg lt le room' slb add sub sbin scmp slen sget ssub addk pc pb pi pf ps mkok min_ ig aeq P hP hA hF Q hQ => ?_
  cbv
  repeat' first
    | (refine call_at hP [0] code_soc_Soc_Write (h) rfl ?_ ?_ ?_; (focus ((repeat' (first | exact trivial | exact rfl | (intro _ _ _ _; exact rfl) | refine And.intro ?_ ?_)); done)); (focus (cbv; (try simp); done)); rintro _ _ ⟨rfl, rfl⟩ _; cbv)
    | (refine Chk.mk trivial ?_; cbv)
    | (refine bc_true (by first | assumption | (simp (disch := omega) only [hF, natc, w64_in, shs]; first | done | assumption | omega | (simp only [natc] at *; omega))) ?_; cbv)
    | (refine bc_false (by first | assumption | (simp (disch := omega) only [hF, natc, w64_in, shs]; first | done | assumption | omega | (simp only [natc] at *; omega))) ?_; cbv)
    | (refine bc_split (fun h => ?_) (fun h => ?_) <;> (try simp (disch := omega) only [hF, natc, w64_in, shs] at h) <;> cbv)
    | (refine IdxVC.mk (by simp (disch := omega) only [hF, natc, w64_in, shs]; first | done | omega | (simp only [natc] at *; omega)) (fun kx hk hk2 => ?_); simp (disch := omega) only [hF, natc, w64_in, shs] at hk; (try obtain rfl : kx = 0 := hk); cbv)
    | (refine Chk.mk (by simp (disch := omega) only [maxN, hF, natc, w64_in, shs]; first | done | assumption | omega | (simp only [natc] at *; omega)) ?_; cbv)
    | (intro (hmx : _ ≤ maxN); replace hmx : _ ≤ 17592186044416 := hmx; cbv)
    | (intro _; cbv)
  subst hQ
  exact leaf_o rfl ⟨rfl, rfl⟩

theorem do2 (x y : Ob) (c a w n e : Int) (h : CallOK (O := Ob) PR n_soc_Soc_Fence [.ptr 0 0, .dv (.int .i64 c)] [.obj x] fun v m => v = .tup [.dv (.int .i64 n), .dv (.int .i64 e)] ∧ m = [.obj y]) : DoW x y 2 c a w n e := by
  unfold DoW
  refine fn_walkv mixed fn_law12_Do (Ent.refl _ _) fun bin cmp un conv bnot beq band sel isel ofN toN inb nz nneg lt le room' slb add sub sbin scmp slen sget ssub addk pc pb pi pf ps mkok min_ ig aeq P hP hA hF Q hQ => ?_
  cbv
  repeat' first
    | (refine call_at hP [0] code_soc_Soc_Fence (h) rfl ?_ ?_ ?_; (focus ((repeat' (first | exact trivial | exact rfl | (intro _ _ _ _; exact rfl) | refine And.intro ?_ ?_)); done)); (focus (cbv; (try simp); done)); rintro _ _ ⟨rfl, rfl⟩ _; cbv)
    | (refine Chk.mk trivial ?_; cbv)
    | (refine bc_true (by first | assumption | (simp (disch := omega) only [hF, natc, w64_in, shs]; first | done | assumption | omega | (simp only [natc] at *; omega))) ?_; cbv)
    | (refine bc_false (by first | assumption | (simp (disch := omega) only [hF, natc, w64_in, shs]; first | done | assumption | omega | (simp only [natc] at *; omega))) ?_; cbv)
    | (refine bc_split (fun h => ?_) (fun h => ?_) <;> (try simp (disch := omega) only [hF, natc, w64_in, shs] at h) <;> cbv)
    | (refine IdxVC.mk (by simp (disch := omega) only [hF, natc, w64_in, shs]; first | done | omega | (simp only [natc] at *; omega)) (fun kx hk hk2 => ?_); simp (disch := omega) only [hF, natc, w64_in, shs] at hk; (try obtain rfl : kx = 0 := hk); cbv)
    | (refine Chk.mk (by simp (disch := omega) only [maxN, hF, natc, w64_in, shs]; first | done | assumption | omega | (simp only [natc] at *; omega)) ?_; cbv)
    | (intro (hmx : _ ≤ maxN); replace hmx : _ ≤ 17592186044416 := hmx; cbv)
    | (intro _; cbv)
  subst hQ
  exact leaf_o rfl ⟨rfl, rfl⟩

theorem do3 (x y : Ob) (c a w e : Int) (b : Bool) (h : CallOK (O := Ob) PR n_soc_Soc_Drain [.ptr 0 0, .dv (.int .i64 c)] [.obj x] fun v m => v = .tup [.dv (.bool b), .dv (.int .i64 e)] ∧ m = [.obj y]) : DoW x y 3 c a w (if b = true then 1 else 0) e := by
  unfold DoW
  cases b
  · refine fn_walkv mixed fn_law12_Do (Ent.refl _ _) fun bin cmp un conv bnot beq band sel isel ofN toN inb nz nneg lt le room' slb add sub sbin scmp slen sget ssub addk pc pb pi pf ps mkok min_ ig aeq P hP hA hF Q hQ => ?_
    cbv
    repeat' first
      | (refine call_at hP [0] code_soc_Soc_Drain (h) rfl ?_ ?_ ?_; (focus ((repeat' (first | exact trivial | exact rfl | (intro _ _ _ _; exact rfl) | refine And.intro ?_ ?_)); done)); (focus (cbv; (try simp); done)); rintro _ _ ⟨rfl, rfl⟩ _; cbv)
      | (refine Chk.mk trivial ?_; cbv)
      | (refine bc_true (by first | assumption | (simp (disch := omega) only [hF, natc, w64_in, shs]; first | done | assumption | omega | (simp only [natc] at *; omega))) ?_; cbv)
      | (refine bc_false (by first | assumption | (simp (disch := omega) only [hF, natc, w64_in, shs]; first | done | assumption | omega | (simp only [natc] at *; omega))) ?_; cbv)
      | (refine bc_split (fun h => ?_) (fun h => ?_) <;> (try simp (disch := omega) only [hF, natc, w64_in, shs] at h) <;> cbv)
      | (refine IdxVC.mk (by simp (disch := omega) only [hF, natc, w64_in, shs]; first | done | omega | (simp only [natc] at *; omega)) (fun kx hk hk2 => ?_); simp (disch := omega) only [hF, natc, w64_in, shs] at hk; (try obtain rfl : kx = 0 := hk); cbv)
      | (refine Chk.mk (by simp (disch := omega) only [maxN, hF, natc, w64_in, shs]; first | done | assumption | omega | (simp only [natc] at *; omega)) ?_; cbv)
      | (intro (hmx : _ ≤ maxN); replace hmx : _ ≤ 17592186044416 := hmx; cbv)
      | (intro _; cbv)
    subst hQ
    exact leaf_o rfl ⟨rfl, rfl⟩
  · refine fn_walkv mixed fn_law12_Do (Ent.refl _ _) fun bin cmp un conv bnot beq band sel isel ofN toN inb nz nneg lt le room' slb add sub sbin scmp slen sget ssub addk pc pb pi pf ps mkok min_ ig aeq P hP hA hF Q hQ => ?_
    cbv
    repeat' first
      | (refine call_at hP [0] code_soc_Soc_Drain (h) rfl ?_ ?_ ?_; (focus ((repeat' (first | exact trivial | exact rfl | (intro _ _ _ _; exact rfl) | refine And.intro ?_ ?_)); done)); (focus (cbv; (try simp); done)); rintro _ _ ⟨rfl, rfl⟩ _; cbv)
      | (refine Chk.mk trivial ?_; cbv)
      | (refine bc_true (by first | assumption | (simp (disch := omega) only [hF, natc, w64_in, shs]; first | done | assumption | omega | (simp only [natc] at *; omega))) ?_; cbv)
      | (refine bc_false (by first | assumption | (simp (disch := omega) only [hF, natc, w64_in, shs]; first | done | assumption | omega | (simp only [natc] at *; omega))) ?_; cbv)
      | (refine bc_split (fun h => ?_) (fun h => ?_) <;> (try simp (disch := omega) only [hF, natc, w64_in, shs] at h) <;> cbv)
      | (refine IdxVC.mk (by simp (disch := omega) only [hF, natc, w64_in, shs]; first | done | omega | (simp only [natc] at *; omega)) (fun kx hk hk2 => ?_); simp (disch := omega) only [hF, natc, w64_in, shs] at hk; (try obtain rfl : kx = 0 := hk); cbv)
      | (refine Chk.mk (by simp (disch := omega) only [maxN, hF, natc, w64_in, shs]; first | done | assumption | omega | (simp only [natc] at *; omega)) ?_; cbv)
      | (intro (hmx : _ ≤ maxN); replace hmx : _ ≤ 17592186044416 := hmx; cbv)
      | (intro _; cbv)
    subst hQ
    exact leaf_o rfl ⟨rfl, rfl⟩

theorem do4 (x y : Ob) (c a w n e : Int) (h : CallOK (O := Ob) PR n_soc_Soc_Swap [.ptr 0 0, .dv (.int .i64 c), .dv (.int .i64 a), .dv (.int .i64 w)] [.obj x] fun v m => v = .tup [.dv (.int .i64 n), .dv (.int .i64 e)] ∧ m = [.obj y]) : DoW x y 4 c a w n e := by
  unfold DoW
  refine fn_walkv mixed fn_law12_Do (Ent.refl _ _) fun bin cmp un conv bnot beq band sel isel ofN toN inb nz nneg lt le room' slb add sub sbin scmp slen sget ssub addk pc pb pi pf ps mkok min_ ig aeq P hP hA hF Q hQ => ?_
  cbv
  repeat' first
    | (refine call_at hP [0] code_soc_Soc_Swap (h) rfl ?_ ?_ ?_; (focus ((repeat' (first | exact trivial | exact rfl | (intro _ _ _ _; exact rfl) | refine And.intro ?_ ?_)); done)); (focus (cbv; (try simp); done)); rintro _ _ ⟨rfl, rfl⟩ _; cbv)
    | (refine Chk.mk trivial ?_; cbv)
    | (refine bc_true (by first | assumption | (simp (disch := omega) only [hF, natc, w64_in, shs]; first | done | assumption | omega | (simp only [natc] at *; omega))) ?_; cbv)
    | (refine bc_false (by first | assumption | (simp (disch := omega) only [hF, natc, w64_in, shs]; first | done | assumption | omega | (simp only [natc] at *; omega))) ?_; cbv)
    | (refine bc_split (fun h => ?_) (fun h => ?_) <;> (try simp (disch := omega) only [hF, natc, w64_in, shs] at h) <;> cbv)
    | (refine IdxVC.mk (by simp (disch := omega) only [hF, natc, w64_in, shs]; first | done | omega | (simp only [natc] at *; omega)) (fun kx hk hk2 => ?_); simp (disch := omega) only [hF, natc, w64_in, shs] at hk; (try obtain rfl : kx = 0 := hk); cbv)
    | (refine Chk.mk (by simp (disch := omega) only [maxN, hF, natc, w64_in, shs]; first | done | assumption | omega | (simp only [natc] at *; omega)) ?_; cbv)
    | (intro (hmx : _ ≤ maxN); replace hmx : _ ≤ 17592186044416 := hmx; cbv)
    | (intro _; cbv)
  subst hQ
  exact leaf_o rfl ⟨rfl, rfl⟩

theorem do5 (x y : Ob) (c a w e : Int) (h : CallOK (O := Ob) PR n_soc_Soc_Hold [.ptr 0 0, .dv (.int .i64 c)] [.obj x] fun v m => v = .dv (.int .i64 e) ∧ m = [.obj y]) : DoW x y 5 c a w 0 e := by
  unfold DoW
  refine fn_walkv mixed fn_law12_Do (Ent.refl _ _) fun bin cmp un conv bnot beq band sel isel ofN toN inb nz nneg lt le room' slb add sub sbin scmp slen sget ssub addk pc pb pi pf ps mkok min_ ig aeq P hP hA hF Q hQ => ?_
  cbv
  repeat' first
    | (refine call_at hP [0] code_soc_Soc_Hold (h) rfl ?_ ?_ ?_; (focus ((repeat' (first | exact trivial | exact rfl | (intro _ _ _ _; exact rfl) | refine And.intro ?_ ?_)); done)); (focus (cbv; (try simp); done)); rintro _ _ ⟨rfl, rfl⟩ _; cbv)
    | (refine Chk.mk trivial ?_; cbv)
    | (refine bc_true (by first | assumption | (simp (disch := omega) only [hF, natc, w64_in, shs]; first | done | assumption | omega | (simp only [natc] at *; omega))) ?_; cbv)
    | (refine bc_false (by first | assumption | (simp (disch := omega) only [hF, natc, w64_in, shs]; first | done | assumption | omega | (simp only [natc] at *; omega))) ?_; cbv)
    | (refine bc_split (fun h => ?_) (fun h => ?_) <;> (try simp (disch := omega) only [hF, natc, w64_in, shs] at h) <;> cbv)
    | (refine IdxVC.mk (by simp (disch := omega) only [hF, natc, w64_in, shs]; first | done | omega | (simp only [natc] at *; omega)) (fun kx hk hk2 => ?_); simp (disch := omega) only [hF, natc, w64_in, shs] at hk; (try obtain rfl : kx = 0 := hk); cbv)
    | (refine Chk.mk (by simp (disch := omega) only [maxN, hF, natc, w64_in, shs]; first | done | assumption | omega | (simp only [natc] at *; omega)) ?_; cbv)
    | (intro (hmx : _ ≤ maxN); replace hmx : _ ≤ 17592186044416 := hmx; cbv)
    | (intro _; cbv)
  subst hQ
  exact leaf_o rfl ⟨rfl, rfl⟩

theorem do6 (x y : Ob) (c a w e : Int) (h : CallOK (O := Ob) PR n_soc_Soc_Start [.ptr 0 0, .dv (.int .i64 c)] [.obj x] fun v m => v = .dv (.int .i64 e) ∧ m = [.obj y]) : DoW x y 6 c a w 0 e := by
  unfold DoW
  refine fn_walkv mixed fn_law12_Do (Ent.refl _ _) fun bin cmp un conv bnot beq band sel isel ofN toN inb nz nneg lt le room' slb add sub sbin scmp slen sget ssub addk pc pb pi pf ps mkok min_ ig aeq P hP hA hF Q hQ => ?_
  cbv
  repeat' first
    | (refine call_at hP [0] code_soc_Soc_Start (h) rfl ?_ ?_ ?_; (focus ((repeat' (first | exact trivial | exact rfl | (intro _ _ _ _; exact rfl) | refine And.intro ?_ ?_)); done)); (focus (cbv; (try simp); done)); rintro _ _ ⟨rfl, rfl⟩ _; cbv)
    | (refine Chk.mk trivial ?_; cbv)
    | (refine bc_true (by first | assumption | (simp (disch := omega) only [hF, natc, w64_in, shs]; first | done | assumption | omega | (simp only [natc] at *; omega))) ?_; cbv)
    | (refine bc_false (by first | assumption | (simp (disch := omega) only [hF, natc, w64_in, shs]; first | done | assumption | omega | (simp only [natc] at *; omega))) ?_; cbv)
    | (refine bc_split (fun h => ?_) (fun h => ?_) <;> (try simp (disch := omega) only [hF, natc, w64_in, shs] at h) <;> cbv)
    | (refine IdxVC.mk (by simp (disch := omega) only [hF, natc, w64_in, shs]; first | done | omega | (simp only [natc] at *; omega)) (fun kx hk hk2 => ?_); simp (disch := omega) only [hF, natc, w64_in, shs] at hk; (try obtain rfl : kx = 0 := hk); cbv)
    | (refine Chk.mk (by simp (disch := omega) only [maxN, hF, natc, w64_in, shs]; first | done | assumption | omega | (simp only [natc] at *; omega)) ?_; cbv)
    | (intro (hmx : _ ≤ maxN); replace hmx : _ ≤ 17592186044416 := hmx; cbv)
    | (intro _; cbv)
  subst hQ
  exact leaf_o rfl ⟨rfl, rfl⟩

end Go.Proofs.YtiaceoomiflgcaaGreat

end

section
namespace Go.Proofs.YtiaceoomiflgcaaGreat
open Go.V
set_option linter.unusedVariables false
set_option linter.unusedSimpArgs false
set_option maxRecDepth 100000
set_option maxHeartbeats 8000000

/-- Mailboxes that hold the same. -/
structure XE (X Y : BoxS) : Prop where
  x : X.ok
  y : Y.ok
  c : Y.cores = X.cores
  b : Y.bits = X.bits
  h : ∀ j, j < X.cores → Y.h j = X.h j
  r : ∀ j, j < X.cores → ∀ i, i < X.h j → Y.rm j ((Y.f j + i) % 16) = X.rm j ((X.f j + i) % 16)

theorem XE.refl {X : BoxS} (h : X.ok) : XE X X := ⟨h, h, rfl, rfl, fun _ _ => rfl, fun _ _ _ _ => rfl⟩
theorem XE.trans {X Y Z : BoxS} (h : XE X Y) (k : XE Y Z) : XE X Z :=
  ⟨h.x, k.y, k.c.trans h.c, k.b.trans h.b, fun j hj => (k.h j (by rw [h.c]; exact hj)).trans (h.h j hj), fun j hj i hi => (k.r j (by rw [h.c]; exact hj) i (by rw [h.h j hj]; exact hi)).trans (h.r j hj i hi)⟩
theorem XE.symm {X Y : BoxS} (h : XE X Y) : XE Y X :=
  ⟨h.y, h.x, h.c.symm, h.b.symm, fun j hj => (h.h j (by rw [← h.c]; exact hj)).symm, fun j hj i hi => (h.r j (by rw [← h.c]; exact hj) i (by rw [← h.h j (by rw [← h.c]; exact hj)]; exact hi)).symm⟩

theorem XE.upd {X Y : BoxS} (E : XE X Y) (bits : Nat → Int) (j f f' h : Nat) (rm rm' : Nat → Int) (hf : f < 16) (hf' : f' < 16) (hh : h ≤ 16) (hr : ∀ i, i < h → rm' ((f' + i) % 16) = rm ((f + i) % 16)) :
    XE (X.upd bits j f h rm) (Y.upd bits j f' h rm') := by
  refine ⟨X.upd_ok E.x _ _ _ _ _ hf hh, Y.upd_ok E.y _ _ _ _ _ hf' hh, E.c, rfl, fun k hk => ?_, fun k hk i hi => ?_⟩
  · show (if k = j then h else Y.h k) = if k = j then h else X.h k
    split
    · rfl
    · exact E.h k hk
  · have hi : i < if k = j then h else X.h k := hi
    show (if k = j then rm' else Y.rm k) (((if k = j then f' else Y.f k) + i) % 16) = (if k = j then rm else X.rm k) (((if k = j then f else X.f k) + i) % 16)
    by_cases hkj : k = j
    · rw [if_pos hkj] at hi
      simp only [if_pos hkj]
      exact hr i hi
    · rw [if_neg hkj] at hi
      simp only [if_neg hkj]
      exact E.r k hk i hi

theorem BoxS.upd_same (X : BoxS) (j : Nat) : X.upd X.bits j (X.f j) (X.h j) (X.rm j) = X := by
  have e1 : (fun i => if i = j then X.f j else X.f i) = X.f := by funext i; split <;> simp_all
  have e2 : (fun i => if i = j then X.h j else X.h i) = X.h := by funext i; split <;> simp_all
  have e3 : (fun i => if i = j then X.rm j else X.rm i) = X.rm := by funext i; split <;> simp_all
  unfold BoxS.upd
  rw [e1, e2, e3]

def DX (X : BoxS) (f : FuncId) (args : List SV) (v : SV) (X' : BoxS) : Prop := CallOK (O := Ob) PR f args [.obj (boxO X)] fun u m => u = v ∧ m = [.obj (boxO X')]

theorem dx_waits (X : BoxS) (hX : X.ok) (j : Nat) (hj : j < X.cores) : DX X n_mbox_Box_Waits [.ptr 0 0, .dv (.int .i64 j)] (.dv (.int .i64 (X.h j : Int))) X := by
  have h : CallOK (O := Ob) PR n_mbox_Box_Waits [.ptr 0 0, .dv (.int .i64 j)] [.obj (boxO X)] fun v m => v = .dv (.int .i64 (X.h j : Int)) ∧ m = [.obj (boxO (X.upd X.bits j (X.f j) (X.h j) (X.rm j)))] := by
    rw [boxO_upd]
    exact CallOK.exE 0 rfl fun bs => xWaits_w X.cores bs X.bits _ _ _ j hj hX.2.1 rfl (nLen (X.f j) (X.h j) (X.rm j))
  rw [X.upd_same] at h
  exact h

theorem dx_reset (X : BoxS) (hX : X.ok) (j : Nat) (hj : j < X.cores) : DX X n_mbox_Box_Reset [.ptr 0 0, .dv (.int .i64 j)] (.tup [.dv (.int .i64 (X.h j : Int)), .dv (.int .i64 0)]) (X.upd (fun i => if i = j then 0 else X.bits i) j (X.f j) 0 (X.rm j)) := by
  unfold DX
  rw [boxO_upd]
  exact CallOK.exE 0 rfl fun bs => xReset_w X.cores bs X.bits _ _ _ _ j hj hX.2.1 rfl (nClear (X.f j) (X.h j) (X.rm j))

theorem dx_ack (X : BoxS) (hX : X.ok) (j : Nat) (hj : j < X.cores) (w : Int) : DX X n_mbox_Box_Ack [.ptr 0 0, .dv (.int .i64 j), .dv (.int .i64 w)] (.dv (.int .i64 0)) { X with bits := fun i => if i = j then std.bin .andNot .i64 (X.bits j) w else X.bits i } :=
  CallOK.exE 0 rfl fun bs => xAck_x X.cores bs X.bits _ w _ j hj hX.2.1 rfl

theorem dx_take0 (X : BoxS) (hX : X.ok) (j : Nat) (hj : j < X.cores) (h0 : X.h j = 0) : DX X n_mbox_Box_Take [.ptr 0 0, .dv (.int .i64 j)] (.tup [.dv (.int .i64 (std.bin .quo .i64 0 65536)), .dv (.int .i64 (std.bin .rem .i64 0 65536)), .dv (.int .i64 6)]) X := by
  have ht := nTake_no (X.f j) (X.rm j)
  have h : CallOK (O := Ob) PR n_mbox_Box_Take [.ptr 0 0, .dv (.int .i64 j)] [.obj (boxO X)] fun v m => v = .tup [.dv (.int .i64 (std.bin .quo .i64 0 65536)), .dv (.int .i64 (std.bin .rem .i64 0 65536)), .dv (.int .i64 6)] ∧ m = [.obj (boxO (X.upd X.bits j (X.f j) 0 (X.rm j)))] := by
    rw [boxO_upd]
    exact CallOK.exE 0 rfl fun bs => xTake_w X.cores bs X.bits _ (nO (X.f j) 0 (X.rm j)) _ _ _ _ _ rfl rfl j hj hX.2.1 (by show nO (X.f j) (X.h j) (X.rm j) = _; rw [h0]) ht
  have e := X.upd_same j
  rw [h0] at e
  rw [e] at h
  exact h

theorem dx_take1 (X : BoxS) (hX : X.ok) (j : Nat) (hj : j < X.cores) (h0 : X.h j ≠ 0) : DX X n_mbox_Box_Take [.ptr 0 0, .dv (.int .i64 j)] (.tup [.dv (.int .i64 (std.bin .quo .i64 (X.rm j (X.f j)) 65536)), .dv (.int .i64 (std.bin .rem .i64 (X.rm j (X.f j)) 65536)), .dv (.int .i64 0)])
    (X.upd X.bits j ((X.f j + 1) % 16) (X.h j - 1) (X.rm j)) := by
  obtain ⟨k1, k2⟩ := hX.2.2 j hj
  have ht := nTake (X.f j) (X.h j) (X.rm j) k1 (by omega) k2
  unfold DX
  rw [boxO_upd]
  exact CallOK.exE 0 rfl fun bs => xTake_w X.cores bs X.bits _ _ _ _ _ _ _ rfl rfl j hj hX.2.1 rfl ht

theorem dx_ring5 (X : BoxS) (hX : X.ok) (j i : Nat) (hj : j < X.cores) (hi : i < X.cores) (w : Int) (hw : 0 ≤ w ∧ w ≤ 65535) (h0 : X.h i = 16) :
    DX X n_mbox_Box_Ring [.ptr 0 0, .dv (.int .i64 j), .dv (.int .i64 i), .dv (.int .i64 w)] (.dv (.int .i64 5)) (X.upd (fun k => if k = i then std.bin .or .i64 (X.bits i) (std.bin .shl .i64 1 j) else X.bits k) i (X.f i) 16 (X.rm i)) := by
  obtain ⟨k1, k2⟩ := hX.2.2 i hi
  have hp := nPut_no (X.f i) (X.rm i) ((j : Int) * 65536 + w) k1
  unfold DX
  rw [boxO_upd]
  exact CallOK.exE 0 rfl fun bs => xRing_w X.cores bs X.bits _ (nO (X.f i) 16 (X.rm i)) _ w 5 _ _ j i hj hi hX.2.1 (by show nO (X.f i) (X.h i) (X.rm i) = _; rw [h0]) hw rfl rfl (word_in w hw) hp

theorem dx_ring0 (X : BoxS) (hX : X.ok) (j i : Nat) (hj : j < X.cores) (hi : i < X.cores) (w : Int) (hw : 0 ≤ w ∧ w ≤ 65535) (h0 : X.h i ≠ 16) :
    DX X n_mbox_Box_Ring [.ptr 0 0, .dv (.int .i64 j), .dv (.int .i64 i), .dv (.int .i64 w)] (.dv (.int .i64 0)) (X.upd (fun k => if k = i then std.bin .or .i64 (X.bits i) (std.bin .shl .i64 1 j) else X.bits k) i (X.f i) (X.h i + 1) (fun k => if k = (X.f i + X.h i) % 16 then (j : Int) * 65536 + w else X.rm i k)) := by
  obtain ⟨k1, k2⟩ := hX.2.2 i hi
  have hp := nPut (X.f i) (X.h i) (X.rm i) ((j : Int) * 65536 + w) k1 (by omega)
  unfold DX
  rw [boxO_upd]
  exact CallOK.exE 0 rfl fun bs => xRing_w X.cores bs X.bits _ _ _ w 0 _ _ j i hj hi hX.2.1 rfl hw rfl rfl (word_in w hw) hp

theorem xp_take {X Y : BoxS} (E : XE X Y) (j : Nat) (hj : j < X.cores) : ∃ u x e X' Y', XE X' Y' ∧ X'.cores = X.cores ∧ DX X n_mbox_Box_Take [.ptr 0 0, .dv (.int .i64 j)] (.tup [.dv (.int .i64 u), .dv (.int .i64 x), .dv (.int .i64 e)]) X' ∧
    DX Y n_mbox_Box_Take [.ptr 0 0, .dv (.int .i64 j)] (.tup [.dv (.int .i64 u), .dv (.int .i64 x), .dv (.int .i64 e)]) Y' := by
  have hjY : j < Y.cores := by rw [E.c]; exact hj
  obtain ⟨k1, k2⟩ := E.x.2.2 j hj
  obtain ⟨l1, l2⟩ := E.y.2.2 j hjY
  have hh := E.h j hj
  by_cases h0 : X.h j = 0
  · exact ⟨_, _, _, X, Y, E, rfl, dx_take0 X E.x j hj h0, dx_take0 Y E.y j hjY (hh.trans h0)⟩
  · have h2 := dx_take1 Y E.y j hjY (by omega)
    have e0 := E.r j hj 0 (by omega)
    simp only [Nat.add_zero, Nat.mod_eq_of_lt k1, Nat.mod_eq_of_lt l1] at e0
    rw [e0, hh, E.b] at h2
    refine ⟨_, _, _, _, _, E.upd X.bits j _ _ (X.h j - 1) _ _ (Nat.mod_lt _ (by omega)) (Nat.mod_lt _ (by omega)) (by omega) fun i hi => ?_, rfl, dx_take1 X E.x j hj h0, h2⟩
    have e1 := E.r j hj (i + 1) (by omega)
    have a1 : ((Y.f j + 1) % 16 + i) % 16 = (Y.f j + (i + 1)) % 16 := by omega
    have a2 : ((X.f j + 1) % 16 + i) % 16 = (X.f j + (i + 1)) % 16 := by omega
    rw [a1, a2]
    exact e1

theorem XE.bits {X Y : BoxS} (E : XE X Y) (bits : Nat → Int) : XE { X with bits := bits } { Y with bits := bits } := ⟨E.x, E.y, E.c, rfl, E.h, E.r⟩

theorem xp_ack {X Y : BoxS} (E : XE X Y) (j : Nat) (hj : j < X.cores) (w : Int) : ∃ X' Y', XE X' Y' ∧ X'.cores = X.cores ∧ DX X n_mbox_Box_Ack [.ptr 0 0, .dv (.int .i64 j), .dv (.int .i64 w)] (.dv (.int .i64 0)) X' ∧
    DX Y n_mbox_Box_Ack [.ptr 0 0, .dv (.int .i64 j), .dv (.int .i64 w)] (.dv (.int .i64 0)) Y' := by
  have h2 := dx_ack Y E.y j (by rw [E.c]; exact hj) w
  rw [E.b] at h2
  exact ⟨_, _, E.bits (fun i => if i = j then std.bin .andNot .i64 (X.bits j) w else X.bits i), rfl, dx_ack X E.x j hj w, h2⟩

theorem xp_reset {X Y : BoxS} (E : XE X Y) (j : Nat) (hj : j < X.cores) : ∃ z X' Y', XE X' Y' ∧ X'.cores = X.cores ∧ DX X n_mbox_Box_Reset [.ptr 0 0, .dv (.int .i64 j)] (.tup [.dv (.int .i64 z), .dv (.int .i64 0)]) X' ∧
    DX Y n_mbox_Box_Reset [.ptr 0 0, .dv (.int .i64 j)] (.tup [.dv (.int .i64 z), .dv (.int .i64 0)]) Y' := by
  have hjY : j < Y.cores := by rw [E.c]; exact hj
  have h2 := dx_reset Y E.y j hjY
  rw [E.b, E.h j hj] at h2
  exact ⟨_, _, _, E.upd _ j _ _ 0 _ _ (E.x.2.2 j hj).1 (E.y.2.2 j hjY).1 (Nat.zero_le _) (fun i hi => absurd hi (Nat.not_lt_zero _)), rfl, dx_reset X E.x j hj, h2⟩

theorem xp_ring {X Y : BoxS} (E : XE X Y) (j i : Nat) (hj : j < X.cores) (hi : i < X.cores) (w : Int) (hw : 0 ≤ w ∧ w ≤ 65535) : ∃ e X' Y', (e = 0 ∨ e = 5) ∧ XE X' Y' ∧ X'.cores = X.cores ∧
    DX X n_mbox_Box_Ring [.ptr 0 0, .dv (.int .i64 j), .dv (.int .i64 i), .dv (.int .i64 w)] (.dv (.int .i64 e)) X' ∧ DX Y n_mbox_Box_Ring [.ptr 0 0, .dv (.int .i64 j), .dv (.int .i64 i), .dv (.int .i64 w)] (.dv (.int .i64 e)) Y' := by
  have hiY : i < Y.cores := by rw [E.c]; exact hi
  have hjY : j < Y.cores := by rw [E.c]; exact hj
  obtain ⟨k1, k2⟩ := E.x.2.2 i hi
  obtain ⟨l1, l2⟩ := E.y.2.2 i hiY
  have hh := E.h i hi
  by_cases h0 : X.h i = 16
  · have h2 := dx_ring5 Y E.y j i hjY hiY w hw (hh.trans h0)
    rw [E.b] at h2
    refine ⟨5, _, _, .inr rfl, E.upd _ i _ _ 16 _ _ k1 l1 (Nat.le_refl _) (fun t ht => E.r i hi t (by omega)), rfl, dx_ring5 X E.x j i hj hi w hw h0, h2⟩
  · have h2 := dx_ring0 Y E.y j i hjY hiY w hw (by omega)
    rw [E.b, hh] at h2
    refine ⟨0, _, _, .inl rfl, E.upd _ i _ _ (X.h i + 1) _ _ k1 l1 (by omega) (fun t ht => ?_), rfl, dx_ring0 X E.x j i hj hi w hw h0, h2⟩
    by_cases hth : t = X.h i
    · subst hth
      rw [if_pos rfl, if_pos rfl]
    · rw [if_neg (by omega), if_neg (by omega)]
      exact E.r i hi t (by omega)

end Go.Proofs.YtiaceoomiflgcaaGreat

end

section
namespace Go.Proofs.YtiaceoomiflgcaaGreat
open Go.V
set_option linter.unusedVariables false
set_option linter.unusedSimpArgs false
set_option maxRecDepth 100000
set_option maxHeartbeats 8000000

/-- With other mailboxes. -/
def SocS.wX (S : SocS) (Y : BoxS) : SocS := { S with X := Y }
def DS (S : SocS) (f : FuncId) (args : List SV) (v : SV) (S' : SocS) : Prop := CallOK (O := Ob) PR f args [.obj (socO S)] fun u m => u = v ∧ m = [.obj (socO S')]

/-- Both answer the same, and hold the same then; what is refused changes nothing. -/
def PairR (S : SocS) (Y : BoxS) (f : FuncId) (args : List SV) (R : SV → Int → Prop) : Prop :=
  ∃ v e S' Y', R v e ∧ Nxt S S' ∧ XE S'.X Y' ∧ DS S f args v S' ∧ DS (S.wX Y) f args v (S'.wX Y') ∧ (e ≠ 0 → e ≠ 5 → S' = S ∧ Y' = Y)
def R2 (v : SV) (e : Int) : Prop := ∃ n, v = .tup [.dv (.int .i64 n), .dv (.int .i64 e)]
def R1 (v : SV) (e : Int) : Prop := v = .dv (.int .i64 e)
def R3 (v : SV) (e : Int) : Prop := ∃ b, v = .tup [.dv (.bool b), .dv (.int .i64 e)]

theorem at_cases2 (S : SocS) (hS : S.ok) (j a : Int) (ha : a ≤ 9223372036854775807) :
    (∃ e, e ≠ 0 ∧ ∀ B X K, AtW S.c S.n S.k B X K (gO S.c S.ep S.hd) j a 0 0 0 e) ∨ ∃ i : Nat, j = i ∧ i < S.c ∧ S.hd i = false ∧ ∃ x y z : Nat, (∀ B X K, AtW S.c S.n S.k B X K (gO S.c S.ep S.hd) j a x y z 0) ∧
      ((x = 1 ∧ y = 0 ∧ a = z ∧ z < S.n) ∨ (x = 2 ∧ y < S.c ∧ z < 3) ∨ (x = 3 ∧ y < S.k ∧ z = 0 ∧ a = 65792 + y) ∨ (x = 4 ∧ y < S.c ∧ z = 0 ∧ a = 66048 + y)) := by
  by_cases hj : 0 ≤ j ∧ j < S.c
  · obtain ⟨i, rfl⟩ : ∃ i : Nat, j = i := ⟨j.toNat, by omega⟩
    have hi : i < S.c := by omega
    have h1 := gEpoch_in S.c S.ep S.hd hS.hc.2 i hi
    have h2 := gUp_in S.c S.ep S.hd hS.hc.2 i hi
    cases hh : S.hd i with
    | true =>
      rw [hh] at h2
      exact .inl ⟨19, by omega, fun B X K => at_off _ _ _ B X K _ i a _ h1 h2⟩
    | false =>
      rw [hh] at h2
      rcases dec_cases S.c S.n S.k a hS.hc hS.hn hS.hk ha with h | ⟨x, y, z, h, hx⟩
      · exact .inl ⟨4, by omega, fun B X K => at_no _ _ _ B X K _ i a _ h1 h2 h⟩
      · exact .inr ⟨i, rfl, hi, hh, x, y, z, fun B X K => at_ok _ _ _ B X K _ i a _ x y z h1 h2 h, hx⟩
  · exact .inl ⟨3, by omega, fun B X K => at_core _ _ _ B X K _ j a 0 (gEpoch_out S.c S.ep S.hd hS.hc.2 j hj)⟩

theorem Nxt.wX {S S' : SocS} (h : Nxt S S') (X : BoxS) (h1 : X.ok) (h2 : X.cores = S.X.cores) (hS : S.ok) : Nxt S (S'.wX X) :=
  h.trans (h.1.setX X h1 (by rw [h2, hS.hXc, h.2.1]))

theorem read_pair (S : SocS) (hS : S.ok) (Y : BoxS) (hY : XE S.X Y) (j a : Int) (ha : a ≤ 9223372036854775807) : PairR S Y n_soc_Soc_Read [.ptr 0 0, .dv (.int .i64 j), .dv (.int .i64 a)] R2 := by
  rcases at_cases2 S hS j a ha with ⟨e, he, h⟩ | ⟨i, rfl, hi, hh, x, y, z, h, hx⟩
  · exact ⟨_, e, S, Y, ⟨_, rfl⟩, Nxt.refl hS, hY, sRead_no _ _ _ _ _ _ _ j a e he (h _ _ _), sRead_no _ _ _ _ _ _ _ j a e he (h _ _ _), fun _ _ => ⟨rfl, rfl⟩⟩
  · have hiB : i < S.B.cores := by rw [hS.hBc]; exact hi
    have hiX : i < S.X.cores := by rw [hS.hXc]; exact hi
    have hiY : i < Y.cores := by rw [hY.c]; exact hiX
    have hf := bfen S hS i hi
    have hN := hS.fen i hi
    rcases hx with ⟨rfl, rfl, rfl, hz⟩ | ⟨rfl, hy, hz⟩ | ⟨rfl, hy, rfl, rfl⟩ | ⟨rfl, hy, rfl, rfl⟩
    · have hb := busLoad S.B hS.hB i z hiB (by rw [hS.hBn]; exact hz)
      exact ⟨_, 0, S, Y, ⟨_, rfl⟩, Nxt.refl hS, hY, sRead_ram _ _ _ _ _ _ _ i z 0 z _ _ (h _ _ _) hb, sRead_ram _ _ _ _ _ _ _ i z 0 z _ _ (h _ _ _) hb, fun h => absurd rfl h⟩
    · by_cases hyi : y = i
      · subst hyi
        rcases (by omega : z = 0 ∨ z = 1 ∨ z = 2) with rfl | rfl | rfl
        · have p1 := boxPending S.X hY.x y hiX
          have p2 := boxPending Y hY.y y hiY
          rw [hY.b] at p2
          exact ⟨_, 0, S.fen y, Y, ⟨_, rfl⟩, hN, hY, sRead_m0 _ _ _ _ _ _ _ _ _ y a _ _ (h _ _ _) hf p1, sRead_m0 _ _ _ _ _ _ _ _ _ y a _ _ (h _ _ _) hf p2, fun h => absurd rfl h⟩
        · obtain ⟨u, x, e, X', Y', E', hc', p1, p2⟩ := xp_take hY y hiX
          exact ⟨_, 0, (S.fen y).wX X', Y', ⟨_, rfl⟩, hN.wX X' E'.x hc' hS, E', sRead_m1 _ _ _ _ _ _ _ _ _ y a _ _ _ (h _ _ _) hf p1, sRead_m1 _ _ _ _ _ _ _ _ _ y a _ _ _ (h _ _ _) hf p2, fun h => absurd rfl h⟩
        · have p1 := dx_waits S.X hY.x y hiX
          have p2 := dx_waits Y hY.y y hiY
          rw [hY.h y hiX] at p2
          exact ⟨_, 0, S.fen y, Y, ⟨_, rfl⟩, hN, hY, sRead_m2 _ _ _ _ _ _ _ _ _ y a _ (h _ _ _) hf p1, sRead_m2 _ _ _ _ _ _ _ _ _ y a _ (h _ _ _) hf p2, fun h => absurd rfl h⟩
      · exact ⟨_, 4, S, Y, ⟨_, rfl⟩, Nxt.refl hS, hY, sRead_mail_no _ _ _ _ _ _ _ i a y z (by omega) (h _ _ _), sRead_mail_no _ _ _ _ _ _ _ i a y z (by omega) (h _ _ _), fun _ _ => ⟨rfl, rfl⟩⟩
    · obtain ⟨b, ow, hn, _, hc⟩ := lock_try S hS i y hi hh hy
      exact ⟨_, 0, { S with ow := ow, B := S.B.fen i }, Y, ⟨_, rfl⟩, hn.trans (hn.1.fen i hi), hY, sRead_lock _ _ _ _ _ _ _ _ _ i _ y 0 b (h _ _ _) hf hc, sRead_lock _ _ _ _ _ _ _ _ _ i _ y 0 b (h _ _ _) hf hc, fun h => absurd rfl h⟩
    · have hg := gEpoch_in S.c S.ep S.hd hS.hc.2 y hy
      exact ⟨_, 0, S.fen i, Y, ⟨_, rfl⟩, hN, hY, sRead_gate _ _ _ _ _ _ _ _ i _ y 0 _ (h _ _ _) hf hg, sRead_gate _ _ _ _ _ _ _ _ i _ y 0 _ (h _ _ _) hf hg, fun h => absurd rfl h⟩

theorem write_pair (S : SocS) (hS : S.ok) (Y : BoxS) (hY : XE S.X Y) (j a w : Int) (ha : a ≤ 9223372036854775807) : PairR S Y n_soc_Soc_Write [.ptr 0 0, .dv (.int .i64 j), .dv (.int .i64 a), .dv (.int .i64 w)] R1 := by
  rcases at_cases2 S hS j a ha with ⟨e, he, h⟩ | ⟨i, rfl, hi, hh, x, y, z, h, hx⟩
  · exact ⟨_, e, S, Y, rfl, Nxt.refl hS, hY, sWrite_no _ _ _ _ _ _ _ j a w e he (h _ _ _), sWrite_no _ _ _ _ _ _ _ j a w e he (h _ _ _), fun _ _ => ⟨rfl, rfl⟩⟩
  · have hiB : i < S.B.cores := by rw [hS.hBc]; exact hi
    have hiX : i < S.X.cores := by rw [hS.hXc]; exact hi
    have hiY : i < Y.cores := by rw [hY.c]; exact hiX
    have hf := bfen S hS i hi
    have hN := hS.fen i hi
    by_cases hw : 0 ≤ w ∧ w ≤ 65535
    · have hww := wordW_in w hw
      rcases hx with ⟨rfl, rfl, rfl, hz⟩ | ⟨rfl, hy, hz⟩ | ⟨rfl, hy, rfl, rfl⟩ | ⟨rfl, hy, rfl, rfl⟩
      · obtain ⟨u, rfl⟩ : ∃ u : Nat, w = u := ⟨w.toNat, by omega⟩
        have hb := busStore S.B hS.hB i z u hiB (by rw [hS.hBn]; exact hz) (by omega)
        exact ⟨_, 0, { S with B := S.B.store i z u }, Y, rfl, hS.store i z u hi hh hz (by omega), hY, sWrite_ram _ _ _ _ _ _ _ _ i z u 0 z _ hww (h _ _ _) hb, sWrite_ram _ _ _ _ _ _ _ _ i z u 0 z _ hww (h _ _ _) hb, fun h => absurd rfl h⟩
      · by_cases hz2 : z = 2
        · subst hz2
          obtain ⟨e, X', Y', he, E', hc', p1, p2⟩ := xp_ring hY i y hiX (by rw [hS.hXc]; exact hy) w hw
          exact ⟨_, e, (S.fen i).wX X', Y', rfl, hN.wX X' E'.x hc' hS, E', sWrite_r _ _ _ _ _ _ _ _ _ i a w y e hww (h _ _ _) hf p1, sWrite_r _ _ _ _ _ _ _ _ _ i a w y e hww (h _ _ _) hf p2, fun h1 h2 => by rcases he with h | h; exact absurd h h1; exact absurd h h2⟩
        · by_cases hz0 : z = 0 ∧ y = i
          · obtain ⟨rfl, rfl⟩ := hz0
            obtain ⟨X', Y', E', hc', p1, p2⟩ := xp_ack hY y hiX w
            exact ⟨_, 0, (S.fen y).wX X', Y', rfl, hN.wX X' E'.x hc' hS, E', sWrite_a _ _ _ _ _ _ _ _ _ y a w 0 hww (h _ _ _) hf p1, sWrite_a _ _ _ _ _ _ _ _ _ y a w 0 hww (h _ _ _) hf p2, fun h => absurd rfl h⟩
          · exact ⟨_, 4, S, Y, rfl, Nxt.refl hS, hY, sWrite_mail_no _ _ _ _ _ _ _ i a w y z (by omega) (by omega) (h _ _ _), sWrite_mail_no _ _ _ _ _ _ _ i a w y z (by omega) (by omega) (h _ _ _), fun _ _ => ⟨rfl, rfl⟩⟩
      · have ho := kOwner S.c S.k S.ow hS.hk.2 y hy (by have := hS.how y; have := hS.hc; omega)
        by_cases hoi : S.ow y = (i : Int) + 1
        · have e : S.ow y - 1 = (i : Int) := by omega
          rw [e] at ho
          have hr := kFree S.c S.k S.ow hS.hc.2 hS.hk.2 i y hi hy hoi
          exact ⟨_, 0, { S with ow := fun t => if t = y then 0 else S.ow t, B := S.B.fen i }, Y, rfl, (hS.free y).trans ((hS.free y).1.fen i hi), hY, sWrite_lock _ _ _ _ _ _ _ _ _ i _ w y 0 hww (h _ _ _) ho hf hr, sWrite_lock _ _ _ _ _ _ _ _ _ i _ w y 0 hww (h _ _ _) ho hf hr, fun h => absurd rfl h⟩
        · exact ⟨_, 12, S, Y, rfl, Nxt.refl hS, hY, sWrite_lock_no _ _ _ _ _ _ _ i _ w y 0 _ hww (h _ _ _) (by omega) ho, sWrite_lock_no _ _ _ _ _ _ _ i _ w y 0 _ hww (h _ _ _) (by omega) ho, fun _ _ => ⟨rfl, rfl⟩⟩
      · exact ⟨_, 4, S, Y, rfl, Nxt.refl hS, hY, sWrite_gate _ _ _ _ _ _ _ i _ w y 0 (h _ _ _), sWrite_gate _ _ _ _ _ _ _ i _ w y 0 (h _ _ _), fun _ _ => ⟨rfl, rfl⟩⟩
    · have hww := wordW w
      have hne : w ≠ w % 65536 := by omega
      rcases hx with ⟨rfl, rfl, rfl, hz⟩ | ⟨rfl, hy, hz⟩ | ⟨rfl, hy, rfl, rfl⟩ | ⟨rfl, hy, rfl, rfl⟩
      · exact ⟨_, 2, S, Y, rfl, Nxt.refl hS, hY, sWrite_arg1 _ _ _ _ _ _ _ i _ w _ _ _ _ (by omega) hww hne (h _ _ _), sWrite_arg1 _ _ _ _ _ _ _ i _ w _ _ _ _ (by omega) hww hne (h _ _ _), fun _ _ => ⟨rfl, rfl⟩⟩
      · by_cases hz2 : z = 2 ∨ (z = 0 ∧ y = i)
        · exact ⟨_, 2, S, Y, rfl, Nxt.refl hS, hY, sWrite_arg2 _ _ _ _ _ _ _ i a w _ y z (by omega) hww hne (h _ _ _), sWrite_arg2 _ _ _ _ _ _ _ i a w _ y z (by omega) hww hne (h _ _ _), fun _ _ => ⟨rfl, rfl⟩⟩
        · exact ⟨_, 4, S, Y, rfl, Nxt.refl hS, hY, sWrite_mail_no _ _ _ _ _ _ _ i a w y z (by omega) (by omega) (h _ _ _), sWrite_mail_no _ _ _ _ _ _ _ i a w y z (by omega) (by omega) (h _ _ _), fun _ _ => ⟨rfl, rfl⟩⟩
      · exact ⟨_, 2, S, Y, rfl, Nxt.refl hS, hY, sWrite_arg1 _ _ _ _ _ _ _ i _ w _ _ _ _ (by omega) hww hne (h _ _ _), sWrite_arg1 _ _ _ _ _ _ _ i _ w _ _ _ _ (by omega) hww hne (h _ _ _), fun _ _ => ⟨rfl, rfl⟩⟩
      · exact ⟨_, 4, S, Y, rfl, Nxt.refl hS, hY, sWrite_gate _ _ _ _ _ _ _ i _ w y 0 (h _ _ _), sWrite_gate _ _ _ _ _ _ _ i _ w y 0 (h _ _ _), fun _ _ => ⟨rfl, rfl⟩⟩

end Go.Proofs.YtiaceoomiflgcaaGreat

end

section
namespace Go.Proofs.YtiaceoomiflgcaaGreat
open Go.V
set_option linter.unusedVariables false
set_option linter.unusedSimpArgs false
set_option maxRecDepth 100000
set_option maxHeartbeats 8000000

theorem swap_pair (S : SocS) (hS : S.ok) (Y : BoxS) (hY : XE S.X Y) (j a w : Int) (ha : a ≤ 9223372036854775807) : PairR S Y n_soc_Soc_Swap [.ptr 0 0, .dv (.int .i64 j), .dv (.int .i64 a), .dv (.int .i64 w)] R2 := by
  rcases at_cases2 S hS j a ha with ⟨e, he, h⟩ | ⟨i, rfl, hi, hh, x, y, z, h, hx⟩
  · exact ⟨_, e, S, Y, ⟨_, rfl⟩, Nxt.refl hS, hY, sSwap_no _ _ _ _ _ _ _ j a w e he (h _ _ _), sSwap_no _ _ _ _ _ _ _ j a w e he (h _ _ _), fun _ _ => ⟨rfl, rfl⟩⟩
  · have hiB : i < S.B.cores := by rw [hS.hBc]; exact hi
    by_cases hx1 : x = 1
    · subst hx1
      obtain ⟨rfl, rfl, hz⟩ : y = 0 ∧ a = z ∧ z < S.n := by omega
      have hzB : z < S.B.n := by rw [hS.hBn]; exact hz
      by_cases hw : 0 ≤ w ∧ w ≤ 65535
      · obtain ⟨u, rfl⟩ : ∃ u : Nat, w = u := ⟨w.toNat, by omega⟩
        have hb := busSwap S.B hS.hB i z u hiB hzB (by omega)
        refine ⟨_, 0, { S with B := S.B.upd (rput (rputs S.B.r (S.B.bufs i)) z u) i [] }, Y, ⟨_, rfl⟩, ?_, hY, sSwap_ram _ _ _ _ _ _ _ _ i z u 0 z _ _ (h _ _ _) hb, sSwap_ram _ _ _ _ _ _ _ _ i z u 0 z _ _ (h _ _ _) hb, fun h => absurd rfl h⟩
        refine hS.setB _ (S.B.swap_ok hS.hB i z u hiB (by omega)) rfl rfl fun t ht hht => ?_
        show (if t = i then [] else S.B.bufs t) = []
        split
        · rfl
        · exact (hS.hhd t ht hht).1
      · have hb := busSwap_no S.B hS.hB i z w hiB hzB hw
        exact ⟨_, 2, S, Y, ⟨_, rfl⟩, Nxt.refl hS, hY, sSwap_ram _ _ _ _ _ _ _ _ i z w 0 z _ _ (h _ _ _) hb, sSwap_ram _ _ _ _ _ _ _ _ i z w 0 z _ _ (h _ _ _) hb, fun _ _ => ⟨rfl, rfl⟩⟩
    · exact ⟨_, 4, S, Y, ⟨_, rfl⟩, Nxt.refl hS, hY, sSwap_kind _ _ _ _ _ _ _ i a w x y z (by omega) (h _ _ _), sSwap_kind _ _ _ _ _ _ _ i a w x y z (by omega) (h _ _ _), fun _ _ => ⟨rfl, rfl⟩⟩

theorem fence_pair (S : SocS) (hS : S.ok) (Y : BoxS) (hY : XE S.X Y) (j : Int) : PairR S Y n_soc_Soc_Fence [.ptr 0 0, .dv (.int .i64 j)] R2 := by
  by_cases hj : 0 ≤ j ∧ j < S.c
  · obtain ⟨i, rfl⟩ : ∃ i : Nat, j = i := ⟨j.toNat, by omega⟩
    have hi : i < S.c := by omega
    have h1 := gEpoch_in S.c S.ep S.hd hS.hc.2 i hi
    have h2 := gUp_in S.c S.ep S.hd hS.hc.2 i hi
    cases hh : S.hd i with
    | true => rw [hh] at h2; exact ⟨_, 19, S, Y, ⟨_, rfl⟩, Nxt.refl hS, hY, sFence_off _ _ _ _ _ _ _ i _ h1 h2, sFence_off _ _ _ _ _ _ _ i _ h1 h2, fun _ _ => ⟨rfl, rfl⟩⟩
    | false =>
      rw [hh] at h2
      have hb := busFence S.B hS.hB i (by rw [hS.hBc]; exact hi)
      exact ⟨_, 0, S.fen i, Y, ⟨_, rfl⟩, hS.fen i hi, hY, sFence_w _ _ _ _ _ _ _ _ i _ _ hb h1 h2, sFence_w _ _ _ _ _ _ _ _ i _ _ hb h1 h2, fun h => absurd rfl h⟩
  · have hg := gEpoch_out S.c S.ep S.hd hS.hc.2 j hj
    exact ⟨_, 3, S, Y, ⟨_, rfl⟩, Nxt.refl hS, hY, sFence_core _ _ _ _ _ _ _ j _ hg, sFence_core _ _ _ _ _ _ _ j _ hg, fun _ _ => ⟨rfl, rfl⟩⟩

theorem drain_pair (S : SocS) (hS : S.ok) (Y : BoxS) (hY : XE S.X Y) (j : Int) : PairR S Y n_soc_Soc_Drain [.ptr 0 0, .dv (.int .i64 j)] R3 := by
  by_cases hj : 0 ≤ j ∧ j < S.c
  · obtain ⟨i, rfl⟩ : ∃ i : Nat, j = i := ⟨j.toNat, by omega⟩
    have hi : i < S.c := by omega
    have hiB : i < S.B.cores := by rw [hS.hBc]; exact hi
    have hb := busDrain S.B hS.hB i hiB
    refine ⟨_, 0, { S with B := S.B.upd (rput1 S.B.r (S.B.bufs i)) i (S.B.bufs i).tail }, Y, ⟨_, rfl⟩, ?_, hY, sDrain_w _ _ _ _ _ _ _ _ i _ _ hb, sDrain_w _ _ _ _ _ _ _ _ i _ _ hb, fun h => absurd rfl h⟩
    refine hS.setB _ (S.B.drain_ok hS.hB i hiB) rfl rfl fun t ht hht => ?_
    show (if t = i then (S.B.bufs i).tail else S.B.bufs t) = []
    split
    · rename_i e; subst e; rw [(hS.hhd t ht hht).1]; rfl
    · exact (hS.hhd t ht hht).1
  · have hb := busDrain_no S.B hS.hB j (by rw [hS.hBc]; exact hj)
    exact ⟨_, 3, S, Y, ⟨_, rfl⟩, Nxt.refl hS, hY, sDrain_w _ _ _ _ _ _ _ _ j _ _ hb, sDrain_w _ _ _ _ _ _ _ _ j _ _ hb, fun _ _ => ⟨rfl, rfl⟩⟩

theorem hold_pair (S : SocS) (hS : S.ok) (Y : BoxS) (hY : XE S.X Y) (j : Int) : PairR S Y n_soc_Soc_Hold [.ptr 0 0, .dv (.int .i64 j)] R1 := by
  by_cases hj : 0 ≤ j ∧ j < S.c
  · obtain ⟨i, rfl⟩ : ∃ i : Nat, j = i := ⟨j.toNat, by omega⟩
    have hi : i < S.c := by omega
    cases hh : S.hd i with
    | true =>
      have hg := gHold_no S.c S.ep S.hd hS.hc.2 i hi hh
      exact ⟨_, 11, S, Y, rfl, Nxt.refl hS, hY, sHold_no _ _ _ _ _ _ _ i 11 (by omega) hg, sHold_no _ _ _ _ _ _ _ i 11 (by omega) hg, fun _ _ => ⟨rfl, rfl⟩⟩
    | false =>
      have hiB : i < S.B.cores := by rw [hS.hBc]; exact hi
      have hiX : i < S.X.cores := by rw [hS.hXc]; exact hi
      have hg := gHold_in S.c S.ep S.hd hS.hc.2 i hi hh
      have hl := busLose S.B hS.hB i hiB
      have hr := kRelease S.c S.k S.ow (fun t => if S.ow t = (i : Int) + 1 then 0 else S.ow t) hS.hc.2 hS.hk.2 i hi fun _ _ => rfl
      obtain ⟨z, X', Y', E', hc', p1, p2⟩ := xp_reset hY i hiX
      obtain ⟨S1, hn1, e1, e2, e3, _⟩ : ∃ S1 : SocS, Nxt S S1 ∧ S1.c = S.c ∧ S1.n = S.n ∧ S1.k = S.k ∧ True := ⟨S, Nxt.refl hS, rfl, rfl, rfl, trivial⟩
      have hnx : Nxt S (⟨S.c, S.n, S.k, S.B.upd S.B.r i [], X', fun t => if S.ow t = (i : Int) + 1 then 0 else S.ow t, S.ep, fun t => if t = i then true else S.hd t⟩ : SocS) := by
        refine ⟨⟨hS.hc, hS.hn, hS.hk, S.B.lose_ok hS.hB i hiB, hS.hBc, hS.hBn, E'.x, hc'.trans hS.hXc, fun t => ?_, hS.hep, fun t ht hht => ?_⟩, rfl, rfl, rfl⟩
        · show 0 ≤ (if S.ow t = (i : Int) + 1 then 0 else S.ow t) ∧ (if S.ow t = (i : Int) + 1 then 0 else S.ow t) ≤ (S.c : Int)
          split
          · omega
          · exact hS.how t
        · have hht : (if t = i then true else S.hd t) = true := hht
          have ht : t < S.c := ht
          refine ⟨?_, fun u => ?_⟩
          · show (if t = i then [] else S.B.bufs t) = []
            split
            · rfl
            · rename_i hne; rw [if_neg hne] at hht; exact (hS.hhd t ht hht).1
          · show (if S.ow u = (i : Int) + 1 then 0 else S.ow u) ≠ (t : Int) + 1
            split
            · omega
            · rename_i hne
              by_cases hti : t = i
              · subst hti; exact hne
              · rw [if_neg hti] at hht; exact (hS.hhd t ht hht).2 u
      have q1 := sHold_x S.c S.n S.k (busO S.B) _ (boxO S.X) _ _ _ _ i (fun x => x = boxO X') hg (hl.mono fun v m ⟨hv, hm⟩ => ⟨⟨_, hv⟩, hm⟩) (p1.mono fun v m ⟨hv, hm⟩ => ⟨⟨_, hv⟩, _, rfl, hm⟩) hr
      have q2 := sHold_x S.c S.n S.k (busO S.B) _ (boxO Y) _ _ _ _ i (fun x => x = boxO Y') hg (hl.mono fun v m ⟨hv, hm⟩ => ⟨⟨_, hv⟩, hm⟩) (p2.mono fun v m ⟨hv, hm⟩ => ⟨⟨_, hv⟩, _, rfl, hm⟩) hr
      refine ⟨_, 0, _, Y', rfl, hnx, E', q1.mono fun v m ⟨hv, x, hx, hm⟩ => ⟨hv, ?_⟩, q2.mono fun v m ⟨hv, x, hx, hm⟩ => ⟨hv, ?_⟩, fun h => absurd rfl h⟩
      · rw [hm, hx]; rfl
      · rw [hm, hx]; rfl
  · have hg := gHold_out S.c S.ep S.hd hS.hc.2 j hj
    exact ⟨_, 3, S, Y, rfl, Nxt.refl hS, hY, sHold_no _ _ _ _ _ _ _ j 3 (by omega) hg, sHold_no _ _ _ _ _ _ _ j 3 (by omega) hg, fun _ _ => ⟨rfl, rfl⟩⟩

theorem start_pair (S : SocS) (hS : S.ok) (Y : BoxS) (hY : XE S.X Y) (j : Int) : PairR S Y n_soc_Soc_Start [.ptr 0 0, .dv (.int .i64 j)] R1 := by
  by_cases hj : 0 ≤ j ∧ j < S.c
  · obtain ⟨i, rfl⟩ : ∃ i : Nat, j = i := ⟨j.toNat, by omega⟩
    have hi : i < S.c := by omega
    cases hh : S.hd i with
    | true =>
      have hg := gStart_in S.c S.ep S.hd hS.hc.2 i hi hh _ (ok_Add1 (S.ep i) (hS.hep i))
      exact ⟨_, 0, S.started i, Y, rfl, hS.started i, hY, sStart_w _ _ _ _ _ _ _ _ i 0 hg, sStart_w _ _ _ _ _ _ _ _ i 0 hg, fun h => absurd rfl h⟩
    | false =>
      have hg := gStart_no S.c S.ep S.hd hS.hc.2 i hi hh
      exact ⟨_, 13, S, Y, rfl, Nxt.refl hS, hY, sStart_w _ _ _ _ _ _ _ _ i 13 hg, sStart_w _ _ _ _ _ _ _ _ i 13 hg, fun _ _ => ⟨rfl, rfl⟩⟩
  · have hg := gStart_out S.c S.ep S.hd hS.hc.2 j hj
    exact ⟨_, 3, S, Y, rfl, Nxt.refl hS, hY, sStart_w _ _ _ _ _ _ _ _ j 3 hg, sStart_w _ _ _ _ _ _ _ _ j 3 hg, fun _ _ => ⟨rfl, rfl⟩⟩

/-- The laws' call on two socs that hold the same. -/
theorem do_pair (S : SocS) (hS : S.ok) (Y : BoxS) (hY : XE S.X Y) (k c a w : Int) (ha : a ≤ 9223372036854775807) : ∃ n e S' Y', Nxt S S' ∧ XE S'.X Y' ∧ DoW (socO S) (socO S') k c a w n e ∧ DoW (socO (S.wX Y)) (socO (S'.wX Y')) k c a w n e ∧ (e ≠ 0 → e ≠ 5 → S' = S ∧ Y' = Y) := by
  by_cases h1 : k = 1
  · subst h1
    obtain ⟨v, e, S', Y', rfl, hn, hE, d1, d2, hr⟩ := write_pair S hS Y hY c a w ha
    exact ⟨_, e, S', Y', hn, hE, do1 _ _ c a w e d1, do1 _ _ c a w e d2, hr⟩
  by_cases h2 : k = 2
  · subst h2
    obtain ⟨v, e, S', Y', ⟨n, rfl⟩, hn, hE, d1, d2, hr⟩ := fence_pair S hS Y hY c
    exact ⟨_, e, S', Y', hn, hE, do2 _ _ c a w n e d1, do2 _ _ c a w n e d2, hr⟩
  by_cases h3 : k = 3
  · subst h3
    obtain ⟨v, e, S', Y', ⟨b, rfl⟩, hn, hE, d1, d2, hr⟩ := drain_pair S hS Y hY c
    exact ⟨_, e, S', Y', hn, hE, do3 _ _ c a w e b d1, do3 _ _ c a w e b d2, hr⟩
  by_cases h4 : k = 4
  · subst h4
    obtain ⟨v, e, S', Y', ⟨n, rfl⟩, hn, hE, d1, d2, hr⟩ := swap_pair S hS Y hY c a w ha
    exact ⟨_, e, S', Y', hn, hE, do4 _ _ c a w n e d1, do4 _ _ c a w n e d2, hr⟩
  by_cases h5 : k = 5
  · subst h5
    obtain ⟨v, e, S', Y', rfl, hn, hE, d1, d2, hr⟩ := hold_pair S hS Y hY c
    exact ⟨_, e, S', Y', hn, hE, do5 _ _ c a w e d1, do5 _ _ c a w e d2, hr⟩
  by_cases h6 : k = 6
  · subst h6
    obtain ⟨v, e, S', Y', rfl, hn, hE, d1, d2, hr⟩ := start_pair S hS Y hY c
    exact ⟨_, e, S', Y', hn, hE, do6 _ _ c a w e d1, do6 _ _ c a w e d2, hr⟩
  obtain ⟨v, e, S', Y', ⟨n, rfl⟩, hn, hE, d1, d2, hr⟩ := read_pair S hS Y hY c a ha
  exact ⟨_, e, S', Y', hn, hE, do0 _ _ k c a w n e ⟨h1, h2, h3, h4, h5, h6⟩ d1, do0 _ _ k c a w n e ⟨h1, h2, h3, h4, h5, h6⟩ d2, hr⟩

end Go.Proofs.YtiaceoomiflgcaaGreat

end

section
namespace Go.Proofs.YtiaceoomiflgcaaGreat
open Go.V
set_option linter.unusedVariables false
set_option linter.unusedSimpArgs false
set_option maxRecDepth 100000
set_option maxHeartbeats 8000000

theorem at_two {f : FuncId} {v : SV} {x y : Ob} (g : Nat) (h : CallOK (O := Ob) PR f [.ptr 0 0] [.obj x] fun u m => u = v ∧ m = [.obj x, .obj y]) :
    CallOK (O := Ob) PR f [.ptr 0 0] [.obj (.at_ g x)] fun u m => u = v ∧ m = [.obj (.at_ g x), .obj y] := by
  refine (h.at_ g fun r m hq => ⟨_, _, hq.2⟩).mono ?_
  rintro r m ⟨y', l, rfl, hr, hm⟩
  cases hm
  exact ⟨hr, rfl⟩

theorem at_vec {f : FuncId} {v : SV} {x : Ob} {c : Chunk Ob} (g : Nat) (h : CallOK (O := Ob) PR f [.ptr 0 0] [.obj x] fun u m => u = v ∧ m = [.obj x, c]) :
    CallOK (O := Ob) PR f [.ptr 0 0] [.obj (.at_ g x)] fun u m => u = v ∧ m = [.obj (.at_ g x), c] := by
  refine (h.at_ g fun r m hq => ⟨_, _, hq.2⟩).mono ?_
  rintro r m ⟨y', l, rfl, hr, hm⟩
  cases hm
  exact ⟨hr, rfl⟩

theorem busClone (B : BusS) (hB : B.ok) : CallOK (O := Ob) PR n_bus_Bus_Clone [.ptr 0 0] [.obj (busO B)] fun v m => v = .ptr 1 0 ∧ m = [.obj (busO B), .obj (busO B)] :=
  CallOK.exE 0 rfl fun bs => busClone_w (rOb B.n B.r) (fun j => lO B.mo (B.bufs j)) B.cores bs hB.2.1 (ok_rRam B.n B.r hB.1) fun j hj =>
    at_two (bs j) (bClone B.mo (B.bufs j).length (lre (B.bufs j)) (lim (B.bufs j)) (by have := (hB.2.2.2.2.1 j hj).2.1; have := hB.2.2.2.1; omega))

theorem lcell_ok (l : List (Nat × Nat)) (hl : okL l) (i : Nat) (hi : i < l.length) : ceqF .f64 (lre l i) (lim l i) (lre l i) (lim l i) = true := by
  have hx := hl l[i] (List.getElem_mem hi)
  have e : l.getD i (0, 0) = l[i] := by rw [List.getD_eq_getElem?_getD, List.getElem?_eq_getElem hi]; rfl
  unfold ceqF lre lim
  rw [e, (fcmp_flt (by omega) (by omega)).1, (fcmp_flt (by omega) (by omega)).1]
  simp

theorem busSame (B : BusS) (hB : B.ok) : CallOK (O := Ob) PR n_bus_Same [.ptr 0 0, .ptr 1 0] [.obj (busO B), .obj (busO B)] fun v m => v = .dv (.bool true) ∧ m = [.obj (busO B), .obj (busO B)] :=
  CallOK.exE 0 rfl fun bs => CallOK.exE 1 rfl fun bs' => busSame_w (rOb B.n B.r) B.cores hB.2.1 bs bs' (fun j => lO B.mo (B.bufs j)) (ram_same B.n B.r)
    (bufs_same B.cores hB.2.1 bs bs' (fun j => lO B.mo (B.bufs j)) B.mo (fun j => (B.bufs j).length) (fun j i => .cpx .f64 (lre (B.bufs j) i) (lim (B.bufs j) i))
      (fun j hj g => (lCap B.mo (B.bufs j)).atx g)
      (fun j hj g => at_vec g (bAlln B.mo (B.bufs j).length (lre (B.bufs j)) (lim (B.bufs j)) (by have := (hB.2.2.2.2.1 j hj).2.1; have := hB.2.2.2.1; omega)))
      (fun j hj => cell_same (B.bufs j).length _ _ fun i hi => lcell_ok (B.bufs j) (hB.2.2.2.2.1 j hj).1 i hi))

/-- A copy of mailboxes. -/
def cloneX (X : BoxS) : BoxS := ⟨X.cores, X.bits, fun _ => 0, X.h, fun j => clR (X.f j) (X.h j) (X.rm j)⟩

theorem cloneX_e (X : BoxS) (hX : X.ok) : XE X (cloneX X) := by
  refine ⟨hX, ⟨hX.1, hX.2.1, fun j hj => ⟨by show (0 : Nat) < 16; omega, (hX.2.2 j hj).2⟩⟩, rfl, rfl, fun _ _ => rfl, fun j hj i hi => ?_⟩
  have h16 := (hX.2.2 j hj).2
  show clR (X.f j) (X.h j) (X.rm j) ((0 + i) % 16) = X.rm j ((X.f j + i) % 16)
  have e : (0 + i) % 16 = i := by omega
  rw [e]
  exact if_pos hi

theorem boxClone (X : BoxS) (hX : X.ok) : CallOK (O := Ob) PR n_mbox_Box_Clone [.ptr 0 0] [.obj (boxO X)] fun v m => v = .ptr 1 0 ∧ m = [.obj (boxO X), .obj (boxO (cloneX X))] :=
  CallOK.exE 0 rfl fun bs => xClone_w (fun j => nO (X.f j) (X.h j) (X.rm j)) (fun j => nO 0 (X.h j) (clR (X.f j) (X.h j) (X.rm j))) X.bits X.cores bs hX.2.1 fun j hj =>
    at_two (bs j) (nClone (X.f j) (X.h j) (X.rm j) (hX.2.2 j hj).1 (hX.2.2 j hj).2)

theorem boxSame (X Y : BoxS) (E : XE X Y) : CallOK (O := Ob) PR n_mbox_Same [.ptr 0 0, .ptr 1 0] [.obj (boxO X), .obj (boxO Y)] fun v m => v = .dv (.bool true) ∧ m = [.obj (boxO X), .obj (boxO Y)] := by
  have eY : boxO Y = xO X.cores X.bits fun j => nO (Y.f j) (Y.h j) (Y.rm j) := by unfold boxO; rw [E.c, E.b]
  rw [eY]
  refine CallOK.exE 0 rfl fun bs => CallOK.exE 1 rfl fun bs' => boxSame_w X.cores E.x.2.1 X.bits bs bs' (fun j => nO (X.f j) (X.h j) (X.rm j)) (fun j => nO (Y.f j) (Y.h j) (Y.rm j))
    (lanes_same X.cores E.x.2.1 X.bits bs bs' _ _ X.h (fun j i => X.rm j ((X.f j + i) % 16)) (fun j i => Y.rm j ((Y.f j + i) % 16)) (fun j hj g => at_vec g (nAll _ _ _ (E.x.2.2 j hj).1 (E.x.2.2 j hj).2 _ fun _ => rfl)) (fun j hj g => ?_) fun j hj => equal_i _ _ _ fun i hi => (E.r j hj i hi).symm)
  have hjY : j < Y.cores := by rw [E.c]; exact hj
  have h := at_vec g (nAll _ _ _ (E.y.2.2 j hjY).1 (E.y.2.2 j hjY).2 (fun i => Y.rm j ((Y.f j + i) % 16)) fun _ => rfl)
  have e := E.h j hj
  rw [e] at h
  show CallOK (O := Ob) PR n_lane_Lane_All [.ptr 0 0] [.obj (.at_ g (nO (Y.f j) (Y.h j) (Y.rm j)))] _
  rw [e]
  exact h

theorem sClone_in (S : SocS) (hS : S.ok) : CallOK (O := Ob) PR n_soc_Soc_Clone [.ptr 0 0] [.obj (socO S)] fun v m => v = .ptr 1 0 ∧ m = [.obj (socO S), .obj (socO (S.wX (cloneX S.X)))] :=
  sClone_w _ _ _ _ _ _ _ _ (busClone S.B hS.hB) (boxClone S.X hS.hX) (kClone S.c S.k S.ow) (gClone S.c S.ep S.hd)

theorem sSame_in (S : SocS) (hS : S.ok) (Y : BoxS) (E : XE S.X Y) : CallOK (O := Ob) PR n_soc_Same [.ptr 0 0, .ptr 1 0] [.obj (socO S), .obj (socO (S.wX Y))] fun v m => v = .dv (.bool true) ∧ m = [.obj (socO S), .obj (socO (S.wX Y))] :=
  sSame_w _ _ _ _ _ _ _ _ (busSame S.B hS.hB) (boxSame S.X Y E) (kSame S.c S.k S.ow) (gSame S.c S.ep S.hd)

theorem sSame_rev (S : SocS) (hS : S.ok) (Y : BoxS) (E : XE S.X Y) : CallOK (O := Ob) PR n_soc_Same [.ptr 0 0, .ptr 1 0] [.obj (socO (S.wX Y)), .obj (socO S)] fun v m => v = .dv (.bool true) ∧ m = [.obj (socO (S.wX Y)), .obj (socO S)] :=
  sSame_w _ _ _ _ _ _ _ _ (busSame S.B hS.hB) (boxSame Y S.X E.symm) (kSame S.c S.k S.ow) (gSame S.c S.ep S.hd)

end Go.Proofs.YtiaceoomiflgcaaGreat

end

section
namespace Go.Proofs.YtiaceoomiflgcaaGreat
open Go.V
set_option linter.unusedVariables false
set_option linter.unusedSimpArgs false
set_option maxRecDepth 100000
set_option maxHeartbeats 8000000

theorem keeps_no (c n k mo : Int) (N : Nat) (G : Nat → Nat → DV) (hal : CallOK (O := Ob) PR n_law12_alive [] [] fun v m => v = .dv (.bool true) ∧ m = [])
    (h0 : CallOK (O := Ob) PR n_soc_New [plV c n k, .dv (.int .i64 mo)] [] fun v m => v = .tup [.dv .nilp, .dv (.int .i64 2)] ∧ m = []) :
    CallOK (O := Ob) PR n_law12_SocKeeps [plV c n k, .dv (.int .i64 mo), .dv (.seq N 4 G)] [] fun v m => v = .dv (.bool true) ∧ m = [] := by
  unfold plV at *
  refine fn_walkv mixed fn_law12_SocKeeps (Ent.refl _ _) fun bin cmp un conv bnot beq band sel isel ofN toN inb nz nneg lt le room' slb add sub sbin scmp slen sget ssub addk pc pb pi pf ps mkok min_ ig aeq P hP hA hF Q hQ => ?_
  cbv
  repeat' first
    | (refine call_pure hP code_soc_New (h0) ?_ ?_; (focus (cbv; (try simp); done)); rintro _ rfl; cbv)
    | (refine call_pure hP code_law12_alive (hal) ?_ ?_; (focus (cbv; (try simp); done)); rintro _ rfl; cbv)
    | (refine Chk.mk trivial ?_; cbv)
    | (refine bc_true (by first | assumption | (simp (disch := omega) only [hF, natc, w64_in, shs]; first | done | assumption | omega | (simp only [natc] at *; omega))) ?_; cbv)
    | (refine bc_false (by first | assumption | (simp (disch := omega) only [hF, natc, w64_in, shs]; first | done | assumption | omega | (simp only [natc] at *; omega))) ?_; cbv)
    | (refine bc_split (fun h => ?_) (fun h => ?_) <;> (try simp (disch := omega) only [hF, natc, w64_in, shs] at h) <;> cbv)
    | (refine IdxVC.mk (by simp (disch := omega) only [hF, natc, w64_in, shs]; first | done | omega | (simp only [natc] at *; omega)) (fun kx hk hk2 => ?_); simp (disch := omega) only [hF, natc, w64_in, shs] at hk; (try obtain rfl : kx = 0 := hk); cbv)
    | (refine Chk.mk (by simp (disch := omega) only [maxN, hF, natc, w64_in, shs]; first | done | assumption | omega | (simp only [natc] at *; omega)) ?_; cbv)
    | (intro (hmx : _ ≤ maxN); replace hmx : _ ≤ 17592186044416 := hmx; cbv)
    | (intro _; cbv)
  subst hQ; exact leaf_data rfl rfl ⟨rfl, rfl⟩

theorem keeps_few (c n k mo : Int) (N : Nat) (G : Nat → Nat → DV) (PO : Ob → Prop) (hal : CallOK (O := Ob) PR n_law12_alive [] [] fun v m => v = .dv (.bool true) ∧ m = [])
    (h0 : CallOK (O := Ob) PR n_soc_New [plV c n k, .dv (.int .i64 mo)] [] fun v m => v = .tup [.ptr 0 0, .dv (.int .i64 0)] ∧ ∃ x, PO x ∧ m = [.obj x])
    (hf : CallOK (O := Ob) PR n_law12_few [plV c n k, .dv (.seq N 4 G)] [] fun v m => v = .dv (.bool false) ∧ m = []) :
    CallOK (O := Ob) PR n_law12_SocKeeps [plV c n k, .dv (.int .i64 mo), .dv (.seq N 4 G)] [] fun v m => v = .dv (.bool true) ∧ m = [] := by
  unfold plV at *
  refine fn_walkv mixed fn_law12_SocKeeps (Ent.refl _ _) fun bin cmp un conv bnot beq band sel isel ofN toN inb nz nneg lt le room' slb add sub sbin scmp slen sget ssub addk pc pb pi pf ps mkok min_ ig aeq P hP hA hF Q hQ => ?_
  have hb : bnot false = true := by simp only [hF]; rfl
  cbv
  repeat' first
    | (refine call_at hP [] code_soc_New (h0) rfl ?_ ?_ ?_; (focus ((repeat' (first | exact trivial | exact rfl | (intro _ _ _ _; exact rfl) | refine And.intro ?_ ?_)); done)); (focus (cbv; (try simp); done)); rintro _ _ ⟨rfl, x, hx, rfl⟩ _; cbv)
    | (refine call_pure hP code_law12_few (hf) ?_ ?_; (focus (cbv; (try simp); done)); rintro _ rfl; cbv)
    | ((rw [hb]); cbv)
    | (refine call_pure hP code_law12_alive (hal) ?_ ?_; (focus (cbv; (try simp); done)); rintro _ rfl; cbv)
    | (refine Chk.mk trivial ?_; cbv)
    | (refine bc_true (by first | assumption | (simp (disch := omega) only [hF, natc, w64_in, shs]; first | done | assumption | omega | (simp only [natc] at *; omega))) ?_; cbv)
    | (refine bc_false (by first | assumption | (simp (disch := omega) only [hF, natc, w64_in, shs]; first | done | assumption | omega | (simp only [natc] at *; omega))) ?_; cbv)
    | (refine bc_split (fun h => ?_) (fun h => ?_) <;> (try simp (disch := omega) only [hF, natc, w64_in, shs] at h) <;> cbv)
    | (refine IdxVC.mk (by simp (disch := omega) only [hF, natc, w64_in, shs]; first | done | omega | (simp only [natc] at *; omega)) (fun kx hk hk2 => ?_); simp (disch := omega) only [hF, natc, w64_in, shs] at hk; (try obtain rfl : kx = 0 := hk); cbv)
    | (refine Chk.mk (by simp (disch := omega) only [maxN, hF, natc, w64_in, shs]; first | done | assumption | omega | (simp only [natc] at *; omega)) ?_; cbv)
    | (intro (hmx : _ ≤ maxN); replace hmx : _ ≤ 17592186044416 := hmx; cbv)
    | (intro _; cbv)
  subst hQ; exact leaf_data rfl rfl ⟨rfl, rfl⟩

/-- What is asked of a soc and its copy. -/
def KeepP (N : Nat) (G : Nat → Nat → DV) (PO : Ob → Prop) : Prop := ∀ x, PO x → ∀ t, t < N → ∃ (y x' y' : Ob) (u e : Int), PO x' ∧
  CallOK (O := Ob) PR n_soc_Soc_Clone [.ptr 0 0] [.obj x] (fun v m => v = .ptr 1 0 ∧ m = [.obj x, .obj y]) ∧ CallOK (O := Ob) PR n_soc_Same [.ptr 0 0, .ptr 1 0] [.obj x, .obj y] (fun v m => v = .dv (.bool true) ∧ m = [.obj x, .obj y]) ∧
  CallOK (O := Ob) PR n_law12_Do [.ptr 0 0, .agg [.dv (G t 0), .dv (G t 1), .dv (G t 2), .dv (G t 3)]] [.obj x] (fun v m => v = .tup [.dv (.int .i64 u), .dv (.int .i64 e)] ∧ m = [.obj x']) ∧ (e ≠ 0 → e ≠ 5 → CallOK (O := Ob) PR n_soc_Same [.ptr 0 0, .ptr 1 0] [.obj x', .obj y] (fun v m => v = .dv (.bool true) ∧ m = [.obj x', .obj y])) ∧
  CallOK (O := Ob) PR n_law12_Do [.ptr 0 0, .agg [.dv (G t 0), .dv (G t 1), .dv (G t 2), .dv (G t 3)]] [.obj y] (fun v m => v = .tup [.dv (.int .i64 u), .dv (.int .i64 e)] ∧ m = [.obj y']) ∧ CallOK (O := Ob) PR n_soc_Same [.ptr 0 0, .ptr 1 0] [.obj x', .obj y'] (fun v m => v = .dv (.bool true) ∧ m = [.obj x', .obj y']) ∧ CallOK (O := Ob) PR n_soc_Same [.ptr 0 0, .ptr 1 0] [.obj y', .obj x'] (fun v m => v = .dv (.bool true) ∧ m = [.obj y', .obj x'])

theorem keeps_w (c n k mo : Int) (N : Nat) (hN60 : N ≤ 60) (G : Nat → Nat → DV) (PO : Ob → Prop) (hal : CallOK (O := Ob) PR n_law12_alive [] [] fun v m => v = .dv (.bool true) ∧ m = [])
    (h0 : CallOK (O := Ob) PR n_soc_New [plV c n k, .dv (.int .i64 mo)] [] fun v m => v = .tup [.ptr 0 0, .dv (.int .i64 0)] ∧ ∃ x, PO x ∧ m = [.obj x])
    (hf : CallOK (O := Ob) PR n_law12_few [plV c n k, .dv (.seq N 4 G)] [] fun v m => v = .dv (.bool true) ∧ m = []) (hK : KeepP N G PO) :
    CallOK (O := Ob) PR n_law12_SocKeeps [plV c n k, .dv (.int .i64 mo), .dv (.seq N 4 G)] [] fun v m => v = .dv (.bool true) ∧ m = [] := by
  unfold plV at *; unfold KeepP at hK
  refine fn_walkv mixed fn_law12_SocKeeps (Ent.refl _ _) fun bin cmp un conv bnot beq band sel isel ofN toN inb nz nneg lt le room' slb add sub sbin scmp slen sget ssub addk pc pb pi pf ps mkok min_ ig aeq P hP hA hF Q hQ => ?_
  have hb : bnot true = false := by simp only [hF]; rfl
  cbv
  repeat' first
    | (refine call_at hP [] code_soc_New (h0) rfl ?_ ?_ ?_; (focus ((repeat' (first | exact trivial | exact rfl | (intro _ _ _ _; exact rfl) | refine And.intro ?_ ?_)); done)); (focus (cbv; (try simp); done)); rintro _ _ ⟨rfl, x, hx, rfl⟩ _; cbv)
    | (refine call_pure hP code_law12_few (hf) ?_ ?_; (focus (cbv; (try simp); done)); rintro _ rfl; cbv)
    | ((rw [hb]); cbv)
    | (refine Chk.mk trivial ?_; cbv)
    | (refine bc_true (by first | assumption | (simp (disch := omega) only [hF, natc, w64_in, shs]; first | done | assumption | omega | (simp only [natc] at *; omega))) ?_; cbv)
    | (refine bc_false (by first | assumption | (simp (disch := omega) only [hF, natc, w64_in, shs]; first | done | assumption | omega | (simp only [natc] at *; omega))) ?_; cbv)
    | (refine bc_split (fun h => ?_) (fun h => ?_) <;> (try simp (disch := omega) only [hF, natc, w64_in, shs] at h) <;> cbv)
    | (refine IdxVC.mk (by simp (disch := omega) only [hF, natc, w64_in, shs]; first | done | omega | (simp only [natc] at *; omega)) (fun kx hk hk2 => ?_); simp (disch := omega) only [hF, natc, w64_in, shs] at hk; (try obtain rfl : kx = 0 := hk); cbv)
    | (refine Chk.mk (by simp (disch := omega) only [maxN, hF, natc, w64_in, shs]; first | done | assumption | omega | (simp only [natc] at *; omega)) ?_; cbv)
    | (intro (hmx : _ ≤ maxN); replace hmx : _ ≤ 17592186044416 := hmx; cbv)
    | (intro _; cbv)
  refine loop_ix mixed hP hA (ι := Nat × Ob) (fun q => N - q.1) (fun q => q.1 ≤ N ∧ PO q.2) [6, 10, 11, 12, 13, 14, 15, 37, 38, 39, 40, 41, 42, 43, 44, 45, 46, 47, 48, 49, 50, 51, 52, 53, 54, 55, 56, 57, 58, 59, 60, 61, 62, 63, 64, 65, 66, 67, 68, 69, 70, 71, 72, 73, 74, 75, 76, 77, 78, 79, 80, 81, 82, 83, 84, 85, 86, 87, 88, 89, 90, 91, 92, 93, 94, 95] (fun q => [(37, .dv (.int .i64 (ofN q.1)))])
    (fun q => [.blk [.one (.dv (.int .i64 c)), .one (.dv (.int .i64 n)), .one (.dv (.int .i64 k))], .obj q.2]) (0, x) ⟨Nat.zero_le _, hx⟩ (Ent.env (by cbv; simp [hF])) fun Nx q hNx hy => ?_
  obtain ⟨q, z⟩ := q
  simp only at hy hNx
  cbv
  obtain ⟨hyN, hz⟩ := hy
  by_cases hlt : q < N
  · obtain ⟨y, x', y', u, e, hx', k1, k2, k3, k4, k5, k6, k7⟩ := hK z hz q hlt
    have hu : cmp .neq u u = false := by simp only [hF]; simp
    have hee : cmp .neq e e = false := by simp only [hF]; simp
    by_cases he0 : e = 0
    · subst he0
      clear k4
      cbv
      repeat' first
        | (refine call_at hP [1] code_soc_Soc_Clone (k1) rfl ?_ ?_ ?_; (focus ((repeat' (first | exact trivial | exact rfl | (intro _ _ _ _; exact rfl) | refine And.intro ?_ ?_)); done)); (focus (cbv; (try simp); done)); rintro _ _ ⟨rfl, rfl⟩ _; cbv)
        | (refine call_at hP [1, 3] code_soc_Same (k2) rfl ?_ ?_ ?_; (focus ((repeat' (first | exact trivial | exact rfl | (intro _ _ _ _; exact rfl) | refine And.intro ?_ ?_)); done)); (focus (cbv; (try simp); done)); rintro _ _ ⟨rfl, rfl⟩ _; cbv)
        | (refine call_at hP [1] code_law12_Do (k3) rfl ?_ ?_ ?_; (focus ((repeat' (first | exact trivial | exact rfl | (intro _ _ _ _; exact rfl) | refine And.intro ?_ ?_)); done)); (focus (cbv; (try simp); done)); rintro _ _ ⟨rfl, rfl⟩ _; cbv)
        | (refine call_at hP [3] code_law12_Do (k5) rfl ?_ ?_ ?_; (focus ((repeat' (first | exact trivial | exact rfl | (intro _ _ _ _; exact rfl) | refine And.intro ?_ ?_)); done)); (focus (cbv; (try simp); done)); rintro _ _ ⟨rfl, rfl⟩ _; cbv)
        | (refine call_at hP [1, 3] code_soc_Same (k6) rfl ?_ ?_ ?_; (focus ((repeat' (first | exact trivial | exact rfl | (intro _ _ _ _; exact rfl) | refine And.intro ?_ ?_)); done)); (focus (cbv; (try simp); done)); rintro _ _ ⟨rfl, rfl⟩ _; cbv)
        | (refine call_at hP [3, 1] code_soc_Same (k7) rfl ?_ ?_ ?_; (focus ((repeat' (first | exact trivial | exact rfl | (intro _ _ _ _; exact rfl) | refine And.intro ?_ ?_)); done)); (focus (cbv; (try simp); done)); rintro _ _ ⟨rfl, rfl⟩ _; cbv)
        | ((rw [hb]); cbv)
        | ((rw [hu]); cbv)
        | ((rw [hee]); cbv)
        | (refine Chk.mk trivial ?_; cbv)
        | (refine bc_true (by first | assumption | (simp (disch := omega) only [hF, natc, w64_in, shs]; first | done | assumption | omega | (simp only [natc] at *; omega))) ?_; cbv)
        | (refine bc_false (by first | assumption | (simp (disch := omega) only [hF, natc, w64_in, shs]; first | done | assumption | omega | (simp only [natc] at *; omega))) ?_; cbv)
        | (refine bc_split (fun h => ?_) (fun h => ?_) <;> (try simp (disch := omega) only [hF, natc, w64_in, shs] at h) <;> cbv)
        | (refine IdxVC.mk (by simp (disch := omega) only [hF, natc, w64_in, shs]; first | done | omega | (simp only [natc] at *; omega)) (fun kx hk hk2 => ?_); simp (disch := omega) only [hF, natc, w64_in, shs] at hk; (try obtain rfl : kx = 0 := hk); (try obtain rfl : q = kx := hk.symm); cbv)
        | (refine Chk.mk (by simp (disch := omega) only [maxN, hF, natc, w64_in, shs]; first | done | assumption | omega | (simp only [natc] at *; omega)) ?_; cbv)
        | (intro (hmx : _ ≤ maxN); replace hmx : _ ≤ 17592186044416 := hmx; cbv)
        | (intro _; cbv)
      exact hNx _ (q + 1, x') ⟨hlt, hx'⟩ (by show N - (q + 1) < N - q; omega) (Ent.ren [0, 1] rfl rfl ⟨⟨rfl, rfl, rfl, trivial⟩, rfl, trivial⟩ (by cbv; simp (disch := omega) [hF, natc, w64_in]))
    · have hg0 : cmp .neq e 0 = true := by simp only [hF, decide_eq_true_eq]; exact he0
      by_cases he5 : e = 5
      · subst he5
        clear k4
        cbv
        repeat' first
          | (refine call_at hP [1] code_soc_Soc_Clone (k1) rfl ?_ ?_ ?_; (focus ((repeat' (first | exact trivial | exact rfl | (intro _ _ _ _; exact rfl) | refine And.intro ?_ ?_)); done)); (focus (cbv; (try simp); done)); rintro _ _ ⟨rfl, rfl⟩ _; cbv)
          | (refine call_at hP [1, 3] code_soc_Same (k2) rfl ?_ ?_ ?_; (focus ((repeat' (first | exact trivial | exact rfl | (intro _ _ _ _; exact rfl) | refine And.intro ?_ ?_)); done)); (focus (cbv; (try simp); done)); rintro _ _ ⟨rfl, rfl⟩ _; cbv)
          | (refine call_at hP [1] code_law12_Do (k3) rfl ?_ ?_ ?_; (focus ((repeat' (first | exact trivial | exact rfl | (intro _ _ _ _; exact rfl) | refine And.intro ?_ ?_)); done)); (focus (cbv; (try simp); done)); rintro _ _ ⟨rfl, rfl⟩ _; cbv)
          | ((rw [hg0]); cbv)
          | (refine call_at hP [3] code_law12_Do (k5) rfl ?_ ?_ ?_; (focus ((repeat' (first | exact trivial | exact rfl | (intro _ _ _ _; exact rfl) | refine And.intro ?_ ?_)); done)); (focus (cbv; (try simp); done)); rintro _ _ ⟨rfl, rfl⟩ _; cbv)
          | (refine call_at hP [1, 3] code_soc_Same (k6) rfl ?_ ?_ ?_; (focus ((repeat' (first | exact trivial | exact rfl | (intro _ _ _ _; exact rfl) | refine And.intro ?_ ?_)); done)); (focus (cbv; (try simp); done)); rintro _ _ ⟨rfl, rfl⟩ _; cbv)
          | (refine call_at hP [3, 1] code_soc_Same (k7) rfl ?_ ?_ ?_; (focus ((repeat' (first | exact trivial | exact rfl | (intro _ _ _ _; exact rfl) | refine And.intro ?_ ?_)); done)); (focus (cbv; (try simp); done)); rintro _ _ ⟨rfl, rfl⟩ _; cbv)
          | ((rw [hb]); cbv)
          | ((rw [hu]); cbv)
          | ((rw [hee]); cbv)
          | (refine Chk.mk trivial ?_; cbv)
          | (refine bc_true (by first | assumption | (simp (disch := omega) only [hF, natc, w64_in, shs]; first | done | assumption | omega | (simp only [natc] at *; omega))) ?_; cbv)
          | (refine bc_false (by first | assumption | (simp (disch := omega) only [hF, natc, w64_in, shs]; first | done | assumption | omega | (simp only [natc] at *; omega))) ?_; cbv)
          | (refine bc_split (fun h => ?_) (fun h => ?_) <;> (try simp (disch := omega) only [hF, natc, w64_in, shs] at h) <;> cbv)
          | (refine IdxVC.mk (by simp (disch := omega) only [hF, natc, w64_in, shs]; first | done | omega | (simp only [natc] at *; omega)) (fun kx hk hk2 => ?_); simp (disch := omega) only [hF, natc, w64_in, shs] at hk; (try obtain rfl : kx = 0 := hk); (try obtain rfl : q = kx := hk.symm); cbv)
          | (refine Chk.mk (by simp (disch := omega) only [maxN, hF, natc, w64_in, shs]; first | done | assumption | omega | (simp only [natc] at *; omega)) ?_; cbv)
          | (intro (hmx : _ ≤ maxN); replace hmx : _ ≤ 17592186044416 := hmx; cbv)
          | (intro _; cbv)
        exact hNx _ (q + 1, x') ⟨hlt, hx'⟩ (by show N - (q + 1) < N - q; omega) (Ent.ren [0, 1] rfl rfl ⟨⟨rfl, rfl, rfl, trivial⟩, rfl, trivial⟩ (by cbv; simp (disch := omega) [hF, natc, w64_in]))
      · have k4 := k4 he0 he5
        have hg5 : cmp .neq e 5 = true := by simp only [hF, decide_eq_true_eq]; exact he5
        cbv
        repeat' first
          | (refine call_at hP [1] code_soc_Soc_Clone (k1) rfl ?_ ?_ ?_; (focus ((repeat' (first | exact trivial | exact rfl | (intro _ _ _ _; exact rfl) | refine And.intro ?_ ?_)); done)); (focus (cbv; (try simp); done)); rintro _ _ ⟨rfl, rfl⟩ _; cbv)
          | (refine call_at hP [1, 3] code_soc_Same (k2) rfl ?_ ?_ ?_; (focus ((repeat' (first | exact trivial | exact rfl | (intro _ _ _ _; exact rfl) | refine And.intro ?_ ?_)); done)); (focus (cbv; (try simp); done)); rintro _ _ ⟨rfl, rfl⟩ _; cbv)
          | (refine call_at hP [1] code_law12_Do (k3) rfl ?_ ?_ ?_; (focus ((repeat' (first | exact trivial | exact rfl | (intro _ _ _ _; exact rfl) | refine And.intro ?_ ?_)); done)); (focus (cbv; (try simp); done)); rintro _ _ ⟨rfl, rfl⟩ _; cbv)
          | ((rw [hg0]); cbv)
          | ((rw [hg5]); cbv)
          | (refine call_at hP [1, 3] code_soc_Same (k4) rfl ?_ ?_ ?_; (focus ((repeat' (first | exact trivial | exact rfl | (intro _ _ _ _; exact rfl) | refine And.intro ?_ ?_)); done)); (focus (cbv; (try simp); done)); rintro _ _ ⟨rfl, rfl⟩ _; cbv)
          | (refine call_at hP [3] code_law12_Do (k5) rfl ?_ ?_ ?_; (focus ((repeat' (first | exact trivial | exact rfl | (intro _ _ _ _; exact rfl) | refine And.intro ?_ ?_)); done)); (focus (cbv; (try simp); done)); rintro _ _ ⟨rfl, rfl⟩ _; cbv)
          | (refine call_at hP [1, 3] code_soc_Same (k6) rfl ?_ ?_ ?_; (focus ((repeat' (first | exact trivial | exact rfl | (intro _ _ _ _; exact rfl) | refine And.intro ?_ ?_)); done)); (focus (cbv; (try simp); done)); rintro _ _ ⟨rfl, rfl⟩ _; cbv)
          | (refine call_at hP [3, 1] code_soc_Same (k7) rfl ?_ ?_ ?_; (focus ((repeat' (first | exact trivial | exact rfl | (intro _ _ _ _; exact rfl) | refine And.intro ?_ ?_)); done)); (focus (cbv; (try simp); done)); rintro _ _ ⟨rfl, rfl⟩ _; cbv)
          | ((rw [hb]); cbv)
          | ((rw [hu]); cbv)
          | ((rw [hee]); cbv)
          | (refine Chk.mk trivial ?_; cbv)
          | (refine bc_true (by first | assumption | (simp (disch := omega) only [hF, natc, w64_in, shs]; first | done | assumption | omega | (simp only [natc] at *; omega))) ?_; cbv)
          | (refine bc_false (by first | assumption | (simp (disch := omega) only [hF, natc, w64_in, shs]; first | done | assumption | omega | (simp only [natc] at *; omega))) ?_; cbv)
          | (refine bc_split (fun h => ?_) (fun h => ?_) <;> (try simp (disch := omega) only [hF, natc, w64_in, shs] at h) <;> cbv)
          | (refine IdxVC.mk (by simp (disch := omega) only [hF, natc, w64_in, shs]; first | done | omega | (simp only [natc] at *; omega)) (fun kx hk hk2 => ?_); simp (disch := omega) only [hF, natc, w64_in, shs] at hk; (try obtain rfl : kx = 0 := hk); (try obtain rfl : q = kx := hk.symm); cbv)
          | (refine Chk.mk (by simp (disch := omega) only [maxN, hF, natc, w64_in, shs]; first | done | assumption | omega | (simp only [natc] at *; omega)) ?_; cbv)
          | (intro (hmx : _ ≤ maxN); replace hmx : _ ≤ 17592186044416 := hmx; cbv)
          | (intro _; cbv)
        exact hNx _ (q + 1, x') ⟨hlt, hx'⟩ (by show N - (q + 1) < N - q; omega) (Ent.ren [0, 1] rfl rfl ⟨⟨rfl, rfl, rfl, trivial⟩, rfl, trivial⟩ (by cbv; simp (disch := omega) [hF, natc, w64_in]))
  · obtain rfl : q = N := by omega
    cbv
    repeat' first
      | (refine call_pure hP code_law12_alive (hal) ?_ ?_; (focus (cbv; (try simp); done)); rintro _ rfl; cbv)
      | (refine Chk.mk trivial ?_; cbv)
      | (refine bc_true (by first | assumption | (simp (disch := omega) only [hF, natc, w64_in, shs]; first | done | assumption | omega | (simp only [natc] at *; omega))) ?_; cbv)
      | (refine bc_false (by first | assumption | (simp (disch := omega) only [hF, natc, w64_in, shs]; first | done | assumption | omega | (simp only [natc] at *; omega))) ?_; cbv)
      | (refine bc_split (fun h => ?_) (fun h => ?_) <;> (try simp (disch := omega) only [hF, natc, w64_in, shs] at h) <;> cbv)
      | (refine IdxVC.mk (by simp (disch := omega) only [hF, natc, w64_in, shs]; first | done | omega | (simp only [natc] at *; omega)) (fun kx hk hk2 => ?_); simp (disch := omega) only [hF, natc, w64_in, shs] at hk; (try obtain rfl : kx = 0 := hk); cbv)
      | (refine Chk.mk (by simp (disch := omega) only [maxN, hF, natc, w64_in, shs]; first | done | assumption | omega | (simp only [natc] at *; omega)) ?_; cbv)
      | (intro (hmx : _ ≤ maxN); replace hmx : _ ≤ 17592186044416 := hmx; cbv)
      | (intro _; cbv)
    subst hQ; exact leaf_data rfl rfl ⟨rfl, rfl⟩

end Go.Proofs.YtiaceoomiflgcaaGreat

end

section
namespace Go.Proofs.YtiaceoomiflgcaaGreat
open Go.V
set_option linter.unusedVariables false
set_option linter.unusedSimpArgs false
set_option maxRecDepth 100000
set_option maxHeartbeats 8000000

theorem keepP (c n : Int) (k N : Nat) (G : Nat → Nat → DV) (hG : okOps N G) : KeepP N G (fun x => ∃ S : SocS, S.ok ∧ (S.c : Int) = c ∧ (S.n : Int) = n ∧ S.k = k ∧ x = socO S) := by
  rintro x ⟨S, hS, hc, hn, hk, rfl⟩ t ht
  obtain ⟨kk, cc, aa, ww, ha, e0, e1, e2, e3⟩ := hG t ht
  have E := cloneX_e S.X hS.hX
  obtain ⟨u, e, S', Y', hN, E', d1, d2, hr⟩ := do_pair S hS (cloneX S.X) E kk cc aa ww ha
  refine ⟨socO (S.wX (cloneX S.X)), socO S', socO (S'.wX Y'), u, e, ⟨S', hN.1, by rw [hN.2.1]; exact hc, by rw [hN.2.2.1]; exact hn, hN.2.2.2.trans hk, rfl⟩, sClone_in S hS, sSame_in S hS _ E, ?_, fun h0 h5 => ?_, ?_, sSame_in S' hN.1 Y' E', sSame_rev S' hN.1 Y' E'⟩
  · rw [e0, e1, e2, e3]; exact d1
  · obtain ⟨rfl, rfl⟩ := hr h0 h5
    exact sSame_in _ hS _ E
  · rw [e0, e1, e2, e3]; exact d2

theorem ok_SocKeeps (c n k mo : Int) (N : Nat) (G : Nat → Nat → DV) (hc : i64 c) (hn : i64 n) (hk : i64 k) (hG : okOps N G) :
    CallOK (O := Ob) PR n_law12_SocKeeps [plV c n k, .dv (.int .i64 mo), .dv (.seq N 4 G)] [] fun v m => v = .dv (.bool true) ∧ m = [] := by
  by_cases hv : (1 ≤ c ∧ c ≤ 8) ∧ (1 ≤ n ∧ n ≤ 65536) ∧ (1 ≤ k ∧ k ≤ 16) ∧ 1 ≤ mo ∧ mo ≤ 16
  · obtain ⟨h1, h2, h3, h4⟩ := hv
    obtain ⟨k, rfl⟩ : ∃ j : Nat, k = j := ⟨k.toNat, by omega⟩
    have h0 : CallOK (O := Ob) PR n_soc_New [plV c n k, .dv (.int .i64 mo)] [] fun v m => v = .tup [.ptr 0 0, .dv (.int .i64 0)] ∧ ∃ x, (∃ S : SocS, S.ok ∧ (S.c : Int) = c ∧ (S.n : Int) = n ∧ S.k = k ∧ x = socO S) ∧ m = [.obj x] :=
      (sNew_ok c n k mo h1 h2 h3 h4).mono fun v m ⟨hv, S, g1, g2, g3, g4, _, _, _, hm⟩ => ⟨hv, _, ⟨S, g1, g2, g3, by omega, rfl⟩, hm⟩
    have hf := ok_few c n k N G
    by_cases hfew : N ≤ 60 ∧ n ≤ 100
    · rw [decide_eq_true hfew] at hf
      exact keeps_w c n k mo N hfew.1 G _ ok_alive h0 hf (keepP c n k N G hG)
    · rw [decide_eq_false hfew] at hf
      exact keeps_few c n k mo N G _ ok_alive h0 hf
  · exact keeps_no c n k mo N G ok_alive (sNew_no c n k mo ⟨hc, hn, hk⟩ hv)

theorem ops_of {g : Nat → DV} (h : Ty.hasL [.slice [.int .i64, .int .i64, .int .i64, .int .i64]] g) : ∃ N G, okOps N G ∧ g 0 = .seq N 4 G := by
  obtain ⟨⟨N, G, e0, _, hG⟩, _⟩ := h
  refine ⟨N, G, fun t ht => ?_, e0⟩
  obtain ⟨⟨a0, _, h0⟩, ⟨a1, _, h1⟩, ⟨a2, r2, h2⟩, ⟨a3, _, h3⟩, _⟩ := hG t ht
  exact ⟨a0, a1, a2, a3, (in64' r2).2, h0, h1, h2, h3⟩

end Go.Proofs.YtiaceoomiflgcaaGreat

end
