/-
  Walks: a soc: reads.
-/
import Derived.Test.YtiaceoomiflgcaaGreatSdF
namespace Go.Proofs.YtiaceoomiflgcaaGreat
open Go.V
set_option linter.unusedVariables false
set_option linter.unusedSimpArgs false
set_option maxRecDepth 100000
set_option maxHeartbeats 8000000

/-- A fence of a bus; some mailboxes' answers. -/
def BFen (B B' : Ob) (j : Int) : Prop := CallOK (O := Ob) PR n_bus_Bus_Fence [.ptr 0 0, .dv (.int .i64 j)] [.obj B] fun v m => (∃ z, v = .tup [.dv (.int .i64 z), .dv (.int .i64 0)]) ∧ m = [.obj B']

theorem sRead_no (c n k : Int) (B X K G : Ob) (j a e : Int) (he : e ≠ 0) (ha : AtW c n k B X K G j a 0 0 0 e) :
    CallOK (O := Ob) PR n_soc_Soc_Read [.ptr 0 0, .dv (.int .i64 j), .dv (.int .i64 a)] [.obj (sO c n k B X K G)] fun v m => v = .tup [.dv (.int .i64 0), .dv (.int .i64 e)] ∧ m = [.obj (sO c n k B X K G)] := by
  unfold AtW sM at ha
  refine fn_walkv mixed fn_soc_Soc_Read Ent.opn1 fun bin cmp un conv bnot beq band sel isel ofN toN inb nz nneg lt le room' slb add sub sbin scmp slen sget ssub addk pc pb pi pf ps mkok min_ ig aeq P hP hA hF Q hQ => ?_
  have hg : cmp .neq e 0 = true := by simp only [hF, decide_eq_true_eq]; exact he
  cbv
  repeat' first
    | (refine call_at hP [0, 1, 2, 3, 4] code_soc_Soc_at (ha) rfl ?_ ?_ ?_; (focus ((repeat' (first | exact trivial | exact rfl | (intro _ _ _ _; exact rfl) | refine And.intro ?_ ?_)); done)); (focus (cbv; (try simp); done)); rintro _ _ ⟨rfl, rfl⟩ _; cbv)
    | ((rw [hg]); cbv)
    | (refine Chk.mk trivial ?_; cbv)
    | (refine bc_true (by first | assumption | (simp (disch := omega) only [hF, natc, w64_in, shs]; first | done | assumption | omega | (simp only [natc] at *; omega))) ?_; cbv)
    | (refine bc_false (by first | assumption | (simp (disch := omega) only [hF, natc, w64_in, shs]; first | done | assumption | omega | (simp only [natc] at *; omega))) ?_; cbv)
    | (refine bc_split (fun h => ?_) (fun h => ?_) <;> (try simp (disch := omega) only [hF, natc, w64_in, shs] at h) <;> cbv)
    | (refine IdxVC.mk (by simp (disch := omega) only [hF, natc, w64_in, shs]; first | done | omega | (simp only [natc] at *; omega)) (fun kx hk hk2 => ?_); simp (disch := omega) only [hF, natc, w64_in, shs] at hk; (try obtain rfl : kx = 0 := hk); cbv)
    | (refine Chk.mk (by simp (disch := omega) only [maxN, hF, natc, w64_in, shs]; first | done | assumption | omega | (simp only [natc] at *; omega)) ?_; cbv)
    | (intro (hmx : _ ≤ maxN); replace hmx : _ ≤ 17592186044416 := hmx; cbv)
    | (intro _; cbv)
  subst hQ
  exact leaf_sr rfl rfl ⟨rfl, rfl⟩

theorem sRead_ram (c n k : Int) (B X K G : Ob) (j a y z w e : Int) (ha : AtW c n k B X K G j a 1 y z 0)
    (hb : CallOK (O := Ob) PR n_bus_Bus_Load [.ptr 0 0, .dv (.int .i64 j), .dv (.int .i64 a)] [.obj B] fun v m => v = .tup [.dv (.int .i64 w), .dv (.int .i64 e)] ∧ m = [.obj B]) :
    CallOK (O := Ob) PR n_soc_Soc_Read [.ptr 0 0, .dv (.int .i64 j), .dv (.int .i64 a)] [.obj (sO c n k B X K G)] fun v m => v = .tup [.dv (.int .i64 w), .dv (.int .i64 e)] ∧ m = [.obj (sO c n k B X K G)] := by
  unfold AtW sM at ha
  refine fn_walkv mixed fn_soc_Soc_Read Ent.opn1 fun bin cmp un conv bnot beq band sel isel ofN toN inb nz nneg lt le room' slb add sub sbin scmp slen sget ssub addk pc pb pi pf ps mkok min_ ig aeq P hP hA hF Q hQ => ?_
  cbv
  repeat' first
    | (refine call_at hP [0, 1, 2, 3, 4] code_soc_Soc_at (ha) rfl ?_ ?_ ?_; (focus ((repeat' (first | exact trivial | exact rfl | (intro _ _ _ _; exact rfl) | refine And.intro ?_ ?_)); done)); (focus (cbv; (try simp); done)); rintro _ _ ⟨rfl, rfl⟩ _; cbv)
    | (refine call_at hP [1] code_bus_Bus_Load (hb) rfl ?_ ?_ ?_; (focus ((repeat' (first | exact trivial | exact rfl | (intro _ _ _ _; exact rfl) | refine And.intro ?_ ?_)); done)); (focus (cbv; (try simp); done)); rintro _ _ ⟨rfl, rfl⟩ _; cbv)
    | (refine Chk.mk trivial ?_; cbv)
    | (refine bc_true (by first | assumption | (simp (disch := omega) only [hF, natc, w64_in, shs]; first | done | assumption | omega | (simp only [natc] at *; omega))) ?_; cbv)
    | (refine bc_false (by first | assumption | (simp (disch := omega) only [hF, natc, w64_in, shs]; first | done | assumption | omega | (simp only [natc] at *; omega))) ?_; cbv)
    | (refine bc_split (fun h => ?_) (fun h => ?_) <;> (try simp (disch := omega) only [hF, natc, w64_in, shs] at h) <;> cbv)
    | (refine IdxVC.mk (by simp (disch := omega) only [hF, natc, w64_in, shs]; first | done | omega | (simp only [natc] at *; omega)) (fun kx hk hk2 => ?_); simp (disch := omega) only [hF, natc, w64_in, shs] at hk; (try obtain rfl : kx = 0 := hk); cbv)
    | (refine Chk.mk (by simp (disch := omega) only [maxN, hF, natc, w64_in, shs]; first | done | assumption | omega | (simp only [natc] at *; omega)) ?_; cbv)
    | (intro (hmx : _ ≤ maxN); replace hmx : _ ≤ 17592186044416 := hmx; cbv)
    | (intro _; cbv)
  subst hQ
  exact leaf_sr rfl rfl ⟨rfl, rfl⟩

theorem sRead_mail_no (c n k : Int) (B X K G : Ob) (j a y z : Int) (hy : y ≠ j) (ha : AtW c n k B X K G j a 2 y z 0) :
    CallOK (O := Ob) PR n_soc_Soc_Read [.ptr 0 0, .dv (.int .i64 j), .dv (.int .i64 a)] [.obj (sO c n k B X K G)] fun v m => v = .tup [.dv (.int .i64 0), .dv (.int .i64 4)] ∧ m = [.obj (sO c n k B X K G)] := by
  unfold AtW sM at ha
  refine fn_walkv mixed fn_soc_Soc_Read Ent.opn1 fun bin cmp un conv bnot beq band sel isel ofN toN inb nz nneg lt le room' slb add sub sbin scmp slen sget ssub addk pc pb pi pf ps mkok min_ ig aeq P hP hA hF Q hQ => ?_
  have hg : cmp .neq y j = true := by simp only [hF, decide_eq_true_eq]; exact hy
  cbv
  repeat' first
    | (refine call_at hP [0, 1, 2, 3, 4] code_soc_Soc_at (ha) rfl ?_ ?_ ?_; (focus ((repeat' (first | exact trivial | exact rfl | (intro _ _ _ _; exact rfl) | refine And.intro ?_ ?_)); done)); (focus (cbv; (try simp); done)); rintro _ _ ⟨rfl, rfl⟩ _; cbv)
    | ((rw [hg]); cbv)
    | (refine Chk.mk trivial ?_; cbv)
    | (refine bc_true (by first | assumption | (simp (disch := omega) only [hF, natc, w64_in, shs]; first | done | assumption | omega | (simp only [natc] at *; omega))) ?_; cbv)
    | (refine bc_false (by first | assumption | (simp (disch := omega) only [hF, natc, w64_in, shs]; first | done | assumption | omega | (simp only [natc] at *; omega))) ?_; cbv)
    | (refine bc_split (fun h => ?_) (fun h => ?_) <;> (try simp (disch := omega) only [hF, natc, w64_in, shs] at h) <;> cbv)
    | (refine IdxVC.mk (by simp (disch := omega) only [hF, natc, w64_in, shs]; first | done | omega | (simp only [natc] at *; omega)) (fun kx hk hk2 => ?_); simp (disch := omega) only [hF, natc, w64_in, shs] at hk; (try obtain rfl : kx = 0 := hk); cbv)
    | (refine Chk.mk (by simp (disch := omega) only [maxN, hF, natc, w64_in, shs]; first | done | assumption | omega | (simp only [natc] at *; omega)) ?_; cbv)
    | (intro (hmx : _ ≤ maxN); replace hmx : _ ≤ 17592186044416 := hmx; cbv)
    | (intro _; cbv)
  subst hQ
  exact leaf_sr rfl rfl ⟨rfl, rfl⟩

theorem sRead_mail0 (c n k : Int) (B B' X K G : Ob) (j a : Int) (PX : Ob → Prop) (ha : AtW c n k B X K G j a 2 j 0 0) (hf : BFen B B' j)
    (hx : CallOK (O := Ob) PR n_mbox_Box_Pending [.ptr 0 0, .dv (.int .i64 j)] [.obj X] fun v m => (∃ x e, v = .tup [.dv (.int .i64 x), .dv (.int .i64 e)]) ∧ ∃ X, PX X ∧ m = [.obj X]) :
    CallOK (O := Ob) PR n_soc_Soc_Read [.ptr 0 0, .dv (.int .i64 j), .dv (.int .i64 a)] [.obj (sO c n k B X K G)] fun v m => (∃ x, v = .tup [.dv (.int .i64 x), .dv (.int .i64 0)]) ∧ ∃ X, PX X ∧ m = [.obj (sO c n k B' X K G)] := by
  unfold AtW sM at ha; unfold BFen at hf
  refine fn_walkv mixed fn_soc_Soc_Read Ent.opn1 fun bin cmp un conv bnot beq band sel isel ofN toN inb nz nneg lt le room' slb add sub sbin scmp slen sget ssub addk pc pb pi pf ps mkok min_ ig aeq P hP hA hF Q hQ => ?_
  have hg : cmp .neq j j = false := by simp only [hF]; simp
  cbv
  repeat' first
    | (refine call_at hP [0, 1, 2, 3, 4] code_soc_Soc_at (ha) rfl ?_ ?_ ?_; (focus ((repeat' (first | exact trivial | exact rfl | (intro _ _ _ _; exact rfl) | refine And.intro ?_ ?_)); done)); (focus (cbv; (try simp); done)); rintro _ _ ⟨rfl, rfl⟩ _; cbv)
    | ((rw [hg]); cbv)
    | (refine call_at hP [1] code_bus_Bus_Fence (hf) rfl ?_ ?_ ?_; (focus ((repeat' (first | exact trivial | exact rfl | (intro _ _ _ _; exact rfl) | refine And.intro ?_ ?_)); done)); (focus (cbv; (try simp); done)); rintro _ _ ⟨⟨z, rfl⟩, rfl⟩ _; cbv)
    | ((refine call_inl hP mixed hA code_soc_Soc_register fn_soc_Soc_register ?_); cbv)
    | (refine call_at hP [2] code_mbox_Box_Pending (hx) rfl ?_ ?_ ?_; (focus ((repeat' (first | exact trivial | exact rfl | (intro _ _ _ _; exact rfl) | refine And.intro ?_ ?_)); done)); (focus (cbv; (try simp); done)); rintro _ _ ⟨⟨x, e, rfl⟩, X', hX, rfl⟩ _; cbv)
    | (refine Chk.mk trivial ?_; cbv)
    | (refine bc_true (by first | assumption | (simp (disch := omega) only [hF, natc, w64_in, shs]; first | done | assumption | omega | (simp only [natc] at *; omega))) ?_; cbv)
    | (refine bc_false (by first | assumption | (simp (disch := omega) only [hF, natc, w64_in, shs]; first | done | assumption | omega | (simp only [natc] at *; omega))) ?_; cbv)
    | (refine bc_split (fun h => ?_) (fun h => ?_) <;> (try simp (disch := omega) only [hF, natc, w64_in, shs] at h) <;> cbv)
    | (refine IdxVC.mk (by simp (disch := omega) only [hF, natc, w64_in, shs]; first | done | omega | (simp only [natc] at *; omega)) (fun kx hk hk2 => ?_); simp (disch := omega) only [hF, natc, w64_in, shs] at hk; (try obtain rfl : kx = 0 := hk); cbv)
    | (refine Chk.mk (by simp (disch := omega) only [maxN, hF, natc, w64_in, shs]; first | done | assumption | omega | (simp only [natc] at *; omega)) ?_; cbv)
    | (intro (hmx : _ ≤ maxN); replace hmx : _ ≤ 17592186044416 := hmx; cbv)
    | (intro _; cbv)
  subst hQ
  exact leaf_sr rfl rfl ⟨⟨_, rfl⟩, _, hX, rfl⟩

theorem sRead_mail1 (c n k : Int) (B B' X K G : Ob) (j a : Int) (PX : Ob → Prop) (ha : AtW c n k B X K G j a 2 j 1 0) (hf : BFen B B' j)
    (hx : CallOK (O := Ob) PR n_mbox_Box_Take [.ptr 0 0, .dv (.int .i64 j)] [.obj X] fun v m => (∃ x y e, v = .tup [.dv (.int .i64 x), .dv (.int .i64 y), .dv (.int .i64 e)]) ∧ ∃ X, PX X ∧ m = [.obj X]) :
    CallOK (O := Ob) PR n_soc_Soc_Read [.ptr 0 0, .dv (.int .i64 j), .dv (.int .i64 a)] [.obj (sO c n k B X K G)] fun v m => (∃ x, v = .tup [.dv (.int .i64 x), .dv (.int .i64 0)]) ∧ ∃ X, PX X ∧ m = [.obj (sO c n k B' X K G)] := by
  unfold AtW sM at ha; unfold BFen at hf
  refine fn_walkv mixed fn_soc_Soc_Read Ent.opn1 fun bin cmp un conv bnot beq band sel isel ofN toN inb nz nneg lt le room' slb add sub sbin scmp slen sget ssub addk pc pb pi pf ps mkok min_ ig aeq P hP hA hF Q hQ => ?_
  have hg : cmp .neq j j = false := by simp only [hF]; simp
  cbv
  repeat' first
    | (refine call_at hP [0, 1, 2, 3, 4] code_soc_Soc_at (ha) rfl ?_ ?_ ?_; (focus ((repeat' (first | exact trivial | exact rfl | (intro _ _ _ _; exact rfl) | refine And.intro ?_ ?_)); done)); (focus (cbv; (try simp); done)); rintro _ _ ⟨rfl, rfl⟩ _; cbv)
    | ((rw [hg]); cbv)
    | (refine call_at hP [1] code_bus_Bus_Fence (hf) rfl ?_ ?_ ?_; (focus ((repeat' (first | exact trivial | exact rfl | (intro _ _ _ _; exact rfl) | refine And.intro ?_ ?_)); done)); (focus (cbv; (try simp); done)); rintro _ _ ⟨⟨z, rfl⟩, rfl⟩ _; cbv)
    | ((refine call_inl hP mixed hA code_soc_Soc_register fn_soc_Soc_register ?_); cbv)
    | (refine call_at hP [2] code_mbox_Box_Take (hx) rfl ?_ ?_ ?_; (focus ((repeat' (first | exact trivial | exact rfl | (intro _ _ _ _; exact rfl) | refine And.intro ?_ ?_)); done)); (focus (cbv; (try simp); done)); rintro _ _ ⟨⟨x, y, e, rfl⟩, X', hX, rfl⟩ _; cbv)
    | (refine Chk.mk trivial ?_; cbv)
    | (refine bc_true (by first | assumption | (simp (disch := omega) only [hF, natc, w64_in, shs]; first | done | assumption | omega | (simp only [natc] at *; omega))) ?_; cbv)
    | (refine bc_false (by first | assumption | (simp (disch := omega) only [hF, natc, w64_in, shs]; first | done | assumption | omega | (simp only [natc] at *; omega))) ?_; cbv)
    | (refine bc_split (fun h => ?_) (fun h => ?_) <;> (try simp (disch := omega) only [hF, natc, w64_in, shs] at h) <;> cbv)
    | (refine IdxVC.mk (by simp (disch := omega) only [hF, natc, w64_in, shs]; first | done | omega | (simp only [natc] at *; omega)) (fun kx hk hk2 => ?_); simp (disch := omega) only [hF, natc, w64_in, shs] at hk; (try obtain rfl : kx = 0 := hk); cbv)
    | (refine Chk.mk (by simp (disch := omega) only [maxN, hF, natc, w64_in, shs]; first | done | assumption | omega | (simp only [natc] at *; omega)) ?_; cbv)
    | (intro (hmx : _ ≤ maxN); replace hmx : _ ≤ 17592186044416 := hmx; cbv)
    | (intro _; cbv)
  subst hQ
  exact leaf_sr rfl rfl ⟨⟨_, rfl⟩, _, hX, rfl⟩

theorem sRead_mail2 (c n k : Int) (B B' X K G : Ob) (j a : Int) (PX : Ob → Prop) (ha : AtW c n k B X K G j a 2 j 2 0) (hf : BFen B B' j)
    (hx : CallOK (O := Ob) PR n_mbox_Box_Waits [.ptr 0 0, .dv (.int .i64 j)] [.obj X] fun v m => (∃ x, v = .dv (.int .i64 x)) ∧ ∃ X, PX X ∧ m = [.obj X]) :
    CallOK (O := Ob) PR n_soc_Soc_Read [.ptr 0 0, .dv (.int .i64 j), .dv (.int .i64 a)] [.obj (sO c n k B X K G)] fun v m => (∃ x, v = .tup [.dv (.int .i64 x), .dv (.int .i64 0)]) ∧ ∃ X, PX X ∧ m = [.obj (sO c n k B' X K G)] := by
  unfold AtW sM at ha; unfold BFen at hf
  refine fn_walkv mixed fn_soc_Soc_Read Ent.opn1 fun bin cmp un conv bnot beq band sel isel ofN toN inb nz nneg lt le room' slb add sub sbin scmp slen sget ssub addk pc pb pi pf ps mkok min_ ig aeq P hP hA hF Q hQ => ?_
  have hg : cmp .neq j j = false := by simp only [hF]; simp
  cbv
  repeat' first
    | (refine call_at hP [0, 1, 2, 3, 4] code_soc_Soc_at (ha) rfl ?_ ?_ ?_; (focus ((repeat' (first | exact trivial | exact rfl | (intro _ _ _ _; exact rfl) | refine And.intro ?_ ?_)); done)); (focus (cbv; (try simp); done)); rintro _ _ ⟨rfl, rfl⟩ _; cbv)
    | ((rw [hg]); cbv)
    | (refine call_at hP [1] code_bus_Bus_Fence (hf) rfl ?_ ?_ ?_; (focus ((repeat' (first | exact trivial | exact rfl | (intro _ _ _ _; exact rfl) | refine And.intro ?_ ?_)); done)); (focus (cbv; (try simp); done)); rintro _ _ ⟨⟨z, rfl⟩, rfl⟩ _; cbv)
    | ((refine call_inl hP mixed hA code_soc_Soc_register fn_soc_Soc_register ?_); cbv)
    | (refine call_at hP [2] code_mbox_Box_Waits (hx) rfl ?_ ?_ ?_; (focus ((repeat' (first | exact trivial | exact rfl | (intro _ _ _ _; exact rfl) | refine And.intro ?_ ?_)); done)); (focus (cbv; (try simp); done)); rintro _ _ ⟨⟨x, rfl⟩, X', hX, rfl⟩ _; cbv)
    | (refine Chk.mk trivial ?_; cbv)
    | (refine bc_true (by first | assumption | (simp (disch := omega) only [hF, natc, w64_in, shs]; first | done | assumption | omega | (simp only [natc] at *; omega))) ?_; cbv)
    | (refine bc_false (by first | assumption | (simp (disch := omega) only [hF, natc, w64_in, shs]; first | done | assumption | omega | (simp only [natc] at *; omega))) ?_; cbv)
    | (refine bc_split (fun h => ?_) (fun h => ?_) <;> (try simp (disch := omega) only [hF, natc, w64_in, shs] at h) <;> cbv)
    | (refine IdxVC.mk (by simp (disch := omega) only [hF, natc, w64_in, shs]; first | done | omega | (simp only [natc] at *; omega)) (fun kx hk hk2 => ?_); simp (disch := omega) only [hF, natc, w64_in, shs] at hk; (try obtain rfl : kx = 0 := hk); cbv)
    | (refine Chk.mk (by simp (disch := omega) only [maxN, hF, natc, w64_in, shs]; first | done | assumption | omega | (simp only [natc] at *; omega)) ?_; cbv)
    | (intro (hmx : _ ≤ maxN); replace hmx : _ ≤ 17592186044416 := hmx; cbv)
    | (intro _; cbv)
  subst hQ
  exact leaf_sr rfl rfl ⟨⟨_, rfl⟩, _, hX, rfl⟩

theorem sRead_lock (c n k : Int) (B B' X K K' G : Ob) (j a y z : Int) (b : Bool) (ha : AtW c n k B X K G j a 3 y z 0) (hf : BFen B B' j)
    (hx : CallOK (O := Ob) PR n_locks_Bank_Try [.ptr 0 0, .dv (.int .i64 j), .dv (.int .i64 y)] [.obj K] fun v m => v = .tup [.dv (.bool b), .dv (.int .i64 0)] ∧ m = [.obj K']) :
    CallOK (O := Ob) PR n_soc_Soc_Read [.ptr 0 0, .dv (.int .i64 j), .dv (.int .i64 a)] [.obj (sO c n k B X K G)] fun v m => v = .tup [.dv (.int .i64 (if b = true then 1 else 0)), .dv (.int .i64 0)] ∧ m = [.obj (sO c n k B' X K' G)] := by
  unfold AtW sM at ha; unfold BFen at hf
  cases b
  · refine fn_walkv mixed fn_soc_Soc_Read Ent.opn1 fun bin cmp un conv bnot beq band sel isel ofN toN inb nz nneg lt le room' slb add sub sbin scmp slen sget ssub addk pc pb pi pf ps mkok min_ ig aeq P hP hA hF Q hQ => ?_
    cbv
    repeat' first
      | (refine call_at hP [0, 1, 2, 3, 4] code_soc_Soc_at (ha) rfl ?_ ?_ ?_; (focus ((repeat' (first | exact trivial | exact rfl | (intro _ _ _ _; exact rfl) | refine And.intro ?_ ?_)); done)); (focus (cbv; (try simp); done)); rintro _ _ ⟨rfl, rfl⟩ _; cbv)
      | (refine call_at hP [1] code_bus_Bus_Fence (hf) rfl ?_ ?_ ?_; (focus ((repeat' (first | exact trivial | exact rfl | (intro _ _ _ _; exact rfl) | refine And.intro ?_ ?_)); done)); (focus (cbv; (try simp); done)); rintro _ _ ⟨⟨z, rfl⟩, rfl⟩ _; cbv)
      | ((refine call_inl hP mixed hA code_soc_Soc_register fn_soc_Soc_register ?_); cbv)
      | (refine call_at hP [3] code_locks_Bank_Try (hx) rfl ?_ ?_ ?_; (focus ((repeat' (first | exact trivial | exact rfl | (intro _ _ _ _; exact rfl) | refine And.intro ?_ ?_)); done)); (focus (cbv; (try simp); done)); rintro _ _ ⟨rfl, rfl⟩ _; cbv)
      | (refine Chk.mk trivial ?_; cbv)
      | (refine bc_true (by first | assumption | (simp (disch := omega) only [hF, natc, w64_in, shs]; first | done | assumption | omega | (simp only [natc] at *; omega))) ?_; cbv)
      | (refine bc_false (by first | assumption | (simp (disch := omega) only [hF, natc, w64_in, shs]; first | done | assumption | omega | (simp only [natc] at *; omega))) ?_; cbv)
      | (refine bc_split (fun h => ?_) (fun h => ?_) <;> (try simp (disch := omega) only [hF, natc, w64_in, shs] at h) <;> cbv)
      | (refine IdxVC.mk (by simp (disch := omega) only [hF, natc, w64_in, shs]; first | done | omega | (simp only [natc] at *; omega)) (fun kx hk hk2 => ?_); simp (disch := omega) only [hF, natc, w64_in, shs] at hk; (try obtain rfl : kx = 0 := hk); cbv)
      | (refine Chk.mk (by simp (disch := omega) only [maxN, hF, natc, w64_in, shs]; first | done | assumption | omega | (simp only [natc] at *; omega)) ?_; cbv)
      | (intro (hmx : _ ≤ maxN); replace hmx : _ ≤ 17592186044416 := hmx; cbv)
      | (intro _; cbv)
    subst hQ
    exact leaf_sr rfl rfl ⟨rfl, rfl⟩
  · refine fn_walkv mixed fn_soc_Soc_Read Ent.opn1 fun bin cmp un conv bnot beq band sel isel ofN toN inb nz nneg lt le room' slb add sub sbin scmp slen sget ssub addk pc pb pi pf ps mkok min_ ig aeq P hP hA hF Q hQ => ?_
    cbv
    repeat' first
      | (refine call_at hP [0, 1, 2, 3, 4] code_soc_Soc_at (ha) rfl ?_ ?_ ?_; (focus ((repeat' (first | exact trivial | exact rfl | (intro _ _ _ _; exact rfl) | refine And.intro ?_ ?_)); done)); (focus (cbv; (try simp); done)); rintro _ _ ⟨rfl, rfl⟩ _; cbv)
      | (refine call_at hP [1] code_bus_Bus_Fence (hf) rfl ?_ ?_ ?_; (focus ((repeat' (first | exact trivial | exact rfl | (intro _ _ _ _; exact rfl) | refine And.intro ?_ ?_)); done)); (focus (cbv; (try simp); done)); rintro _ _ ⟨⟨z, rfl⟩, rfl⟩ _; cbv)
      | ((refine call_inl hP mixed hA code_soc_Soc_register fn_soc_Soc_register ?_); cbv)
      | (refine call_at hP [3] code_locks_Bank_Try (hx) rfl ?_ ?_ ?_; (focus ((repeat' (first | exact trivial | exact rfl | (intro _ _ _ _; exact rfl) | refine And.intro ?_ ?_)); done)); (focus (cbv; (try simp); done)); rintro _ _ ⟨rfl, rfl⟩ _; cbv)
      | (refine Chk.mk trivial ?_; cbv)
      | (refine bc_true (by first | assumption | (simp (disch := omega) only [hF, natc, w64_in, shs]; first | done | assumption | omega | (simp only [natc] at *; omega))) ?_; cbv)
      | (refine bc_false (by first | assumption | (simp (disch := omega) only [hF, natc, w64_in, shs]; first | done | assumption | omega | (simp only [natc] at *; omega))) ?_; cbv)
      | (refine bc_split (fun h => ?_) (fun h => ?_) <;> (try simp (disch := omega) only [hF, natc, w64_in, shs] at h) <;> cbv)
      | (refine IdxVC.mk (by simp (disch := omega) only [hF, natc, w64_in, shs]; first | done | omega | (simp only [natc] at *; omega)) (fun kx hk hk2 => ?_); simp (disch := omega) only [hF, natc, w64_in, shs] at hk; (try obtain rfl : kx = 0 := hk); cbv)
      | (refine Chk.mk (by simp (disch := omega) only [maxN, hF, natc, w64_in, shs]; first | done | assumption | omega | (simp only [natc] at *; omega)) ?_; cbv)
      | (intro (hmx : _ ≤ maxN); replace hmx : _ ≤ 17592186044416 := hmx; cbv)
      | (intro _; cbv)
    subst hQ
    exact leaf_sr rfl rfl ⟨rfl, rfl⟩

theorem sRead_gate (c n k : Int) (B B' X K G : Ob) (j a y z u : Int) (ha : AtW c n k B X K G j a 4 y z 0) (hf : BFen B B' j) (hx : GEp G y u 0) :
    CallOK (O := Ob) PR n_soc_Soc_Read [.ptr 0 0, .dv (.int .i64 j), .dv (.int .i64 a)] [.obj (sO c n k B X K G)] fun v m => v = .tup [.dv (.int .i64 u), .dv (.int .i64 0)] ∧ m = [.obj (sO c n k B' X K G)] := by
  unfold AtW sM at ha; unfold BFen at hf; unfold GEp at hx
  refine fn_walkv mixed fn_soc_Soc_Read Ent.opn1 fun bin cmp un conv bnot beq band sel isel ofN toN inb nz nneg lt le room' slb add sub sbin scmp slen sget ssub addk pc pb pi pf ps mkok min_ ig aeq P hP hA hF Q hQ => ?_
  cbv
  repeat' first
    | (refine call_at hP [0, 1, 2, 3, 4] code_soc_Soc_at (ha) rfl ?_ ?_ ?_; (focus ((repeat' (first | exact trivial | exact rfl | (intro _ _ _ _; exact rfl) | refine And.intro ?_ ?_)); done)); (focus (cbv; (try simp); done)); rintro _ _ ⟨rfl, rfl⟩ _; cbv)
    | (refine call_at hP [1] code_bus_Bus_Fence (hf) rfl ?_ ?_ ?_; (focus ((repeat' (first | exact trivial | exact rfl | (intro _ _ _ _; exact rfl) | refine And.intro ?_ ?_)); done)); (focus (cbv; (try simp); done)); rintro _ _ ⟨⟨z, rfl⟩, rfl⟩ _; cbv)
    | ((refine call_inl hP mixed hA code_soc_Soc_register fn_soc_Soc_register ?_); cbv)
    | (refine call_at hP [4] code_gate_Gate_Epoch (hx) rfl ?_ ?_ ?_; (focus ((repeat' (first | exact trivial | exact rfl | (intro _ _ _ _; exact rfl) | refine And.intro ?_ ?_)); done)); (focus (cbv; (try simp); done)); rintro _ _ ⟨rfl, rfl⟩ _; cbv)
    | (refine Chk.mk trivial ?_; cbv)
    | (refine bc_true (by first | assumption | (simp (disch := omega) only [hF, natc, w64_in, shs]; first | done | assumption | omega | (simp only [natc] at *; omega))) ?_; cbv)
    | (refine bc_false (by first | assumption | (simp (disch := omega) only [hF, natc, w64_in, shs]; first | done | assumption | omega | (simp only [natc] at *; omega))) ?_; cbv)
    | (refine bc_split (fun h => ?_) (fun h => ?_) <;> (try simp (disch := omega) only [hF, natc, w64_in, shs] at h) <;> cbv)
    | (refine IdxVC.mk (by simp (disch := omega) only [hF, natc, w64_in, shs]; first | done | omega | (simp only [natc] at *; omega)) (fun kx hk hk2 => ?_); simp (disch := omega) only [hF, natc, w64_in, shs] at hk; (try obtain rfl : kx = 0 := hk); cbv)
    | (refine Chk.mk (by simp (disch := omega) only [maxN, hF, natc, w64_in, shs]; first | done | assumption | omega | (simp only [natc] at *; omega)) ?_; cbv)
    | (intro (hmx : _ ≤ maxN); replace hmx : _ ≤ 17592186044416 := hmx; cbv)
    | (intro _; cbv)
  subst hQ
  exact leaf_sr rfl rfl ⟨rfl, rfl⟩

end Go.Proofs.YtiaceoomiflgcaaGreat
