/-
  Walks: a soc: what an address means to it, the soc lying open; refusals.
-/
import Derived.Test.YtiaceoomiflgcaaGreatScJ
import Derived.Test.YtiaceoomiflgcaaGreatSbO
section
namespace Go.Proofs.YtiaceoomiflgcaaGreat
open Go.V
set_option linter.unusedVariables false
set_option linter.unusedSimpArgs false
set_option maxRecDepth 100000
set_option maxHeartbeats 8000000

/-- A soc's chunks: plan, bus, mailboxes, locks, gate. -/
def sM (c n k : Int) (B X K G : Ob) : List (Chunk Ob) :=
  [.blk [.one (.dv (.int .i64 c)), .one (.dv (.int .i64 n)), .one (.dv (.int .i64 k)), .one (.ptr 1 0), .one (.ptr 2 0), .one (.ptr 3 0), .one (.ptr 4 0)], .obj B, .obj X, .obj K, .obj G]
def sO (c n k : Int) (B X K G : Ob) : Ob := .mk (sM c n k B X K G)

theorem leaf_s {c n k : Int} {B X K G : Ob} {v : SV} {Q : SV → List (Chunk Ob) → Prop} (hu : VLe [0] v v) (hq : Q v [.obj (sO c n k B X K G)]) : ∃ r' m', Ent 1 ⟨[v], sM c n k B X K G⟩ ⟨[r'], m'⟩ ∧ Q r' m' :=
  leaf_obj (lmem := sM c n k B X K G) [1, 2, 3, 4] rfl rfl ⟨⟨rfl, rfl, rfl, rfl, rfl, rfl, rfl, trivial⟩, rfl, rfl, rfl, rfl, trivial⟩ hu rfl hq

theorem sStart_w (c n k : Int) (B X K G G' : Ob) (j e : Int) (hg : CallOK (O := Ob) PR n_gate_Gate_Start [.ptr 0 0, .dv (.int .i64 j)] [.obj G] fun v m => v = .dv (.int .i64 e) ∧ m = [.obj G']) :
    CallOK (O := Ob) PR n_soc_Soc_Start [.ptr 0 0, .dv (.int .i64 j)] [.obj (sO c n k B X K G)] fun v m => v = .dv (.int .i64 e) ∧ m = [.obj (sO c n k B X K G')] := by
  refine fn_walkv mixed fn_soc_Soc_Start Ent.opn1 fun bin cmp un conv bnot beq band sel isel ofN toN inb nz nneg lt le room' slb add sub sbin scmp slen sget ssub addk pc pb pi pf ps mkok min_ ig aeq P hP hA hF Q hQ => ?_
  cbv
  repeat' first
    | (refine call_at hP [4] code_gate_Gate_Start (hg) rfl ?_ ?_ ?_; (focus ((repeat' (first | exact trivial | exact rfl | (intro _ _ _ _; exact rfl) | refine And.intro ?_ ?_)); done)); (focus (cbv; (try simp); done)); rintro _ _ ⟨rfl, rfl⟩ _; cbv)
    | (refine Chk.mk trivial ?_; cbv)
    | (refine bc_true (by first | assumption | (simp (disch := omega) only [hF, natc, w64_in, shs]; first | done | assumption | omega | (simp only [natc] at *; omega))) ?_; cbv)
    | (refine bc_false (by first | assumption | (simp (disch := omega) only [hF, natc, w64_in, shs]; first | done | assumption | omega | (simp only [natc] at *; omega))) ?_; cbv)
    | (refine bc_split (fun h => ?_) (fun h => ?_) <;> (try simp (disch := omega) only [hF, natc, w64_in, shs] at h) <;> cbv)
    | (refine IdxVC.mk (by simp (disch := omega) only [hF, natc, w64_in, shs]; first | done | omega | (simp only [natc] at *; omega)) (fun kx hk hk2 => ?_); simp (disch := omega) only [hF, natc, w64_in, shs] at hk; (try obtain rfl : kx = 0 := hk); cbv)
    | (refine Chk.mk (by simp (disch := omega) only [maxN, hF, natc, w64_in, shs]; first | done | assumption | omega | (simp only [natc] at *; omega)) ?_; cbv)
    | (intro (hmx : _ ≤ maxN); replace hmx : _ ≤ 17592186044416 := hmx; cbv)
    | (intro _; cbv)
  subst hQ
  exact leaf_s rfl ⟨rfl, rfl⟩

theorem sUp_w (c n k : Int) (B X K G : Ob) (j : Int) (b : Bool) (hg : CallOK (O := Ob) PR n_gate_Gate_Up [.ptr 0 0, .dv (.int .i64 j)] [.obj G] fun v m => v = .dv (.bool b) ∧ m = [.obj G]) :
    CallOK (O := Ob) PR n_soc_Soc_Up [.ptr 0 0, .dv (.int .i64 j)] [.obj (sO c n k B X K G)] fun v m => v = .dv (.bool b) ∧ m = [.obj (sO c n k B X K G)] := by
  refine fn_walkv mixed fn_soc_Soc_Up Ent.opn1 fun bin cmp un conv bnot beq band sel isel ofN toN inb nz nneg lt le room' slb add sub sbin scmp slen sget ssub addk pc pb pi pf ps mkok min_ ig aeq P hP hA hF Q hQ => ?_
  cbv
  repeat' first
    | (refine call_at hP [4] code_gate_Gate_Up (hg) rfl ?_ ?_ ?_; (focus ((repeat' (first | exact trivial | exact rfl | (intro _ _ _ _; exact rfl) | refine And.intro ?_ ?_)); done)); (focus (cbv; (try simp); done)); rintro _ _ ⟨rfl, rfl⟩ _; cbv)
    | (refine Chk.mk trivial ?_; cbv)
    | (refine bc_true (by first | assumption | (simp (disch := omega) only [hF, natc, w64_in, shs]; first | done | assumption | omega | (simp only [natc] at *; omega))) ?_; cbv)
    | (refine bc_false (by first | assumption | (simp (disch := omega) only [hF, natc, w64_in, shs]; first | done | assumption | omega | (simp only [natc] at *; omega))) ?_; cbv)
    | (refine bc_split (fun h => ?_) (fun h => ?_) <;> (try simp (disch := omega) only [hF, natc, w64_in, shs] at h) <;> cbv)
    | (refine IdxVC.mk (by simp (disch := omega) only [hF, natc, w64_in, shs]; first | done | omega | (simp only [natc] at *; omega)) (fun kx hk hk2 => ?_); simp (disch := omega) only [hF, natc, w64_in, shs] at hk; (try obtain rfl : kx = 0 := hk); cbv)
    | (refine Chk.mk (by simp (disch := omega) only [maxN, hF, natc, w64_in, shs]; first | done | assumption | omega | (simp only [natc] at *; omega)) ?_; cbv)
    | (intro (hmx : _ ≤ maxN); replace hmx : _ ≤ 17592186044416 := hmx; cbv)
    | (intro _; cbv)
  subst hQ
  exact leaf_s rfl ⟨rfl, rfl⟩

theorem sEpoch_w (c n k : Int) (B X K G : Ob) (j x e : Int) (hg : CallOK (O := Ob) PR n_gate_Gate_Epoch [.ptr 0 0, .dv (.int .i64 j)] [.obj G] fun v m => v = .tup [.dv (.int .i64 x), .dv (.int .i64 e)] ∧ m = [.obj G]) :
    CallOK (O := Ob) PR n_soc_Soc_Epoch [.ptr 0 0, .dv (.int .i64 j)] [.obj (sO c n k B X K G)] fun v m => v = .tup [.dv (.int .i64 x), .dv (.int .i64 e)] ∧ m = [.obj (sO c n k B X K G)] := by
  refine fn_walkv mixed fn_soc_Soc_Epoch Ent.opn1 fun bin cmp un conv bnot beq band sel isel ofN toN inb nz nneg lt le room' slb add sub sbin scmp slen sget ssub addk pc pb pi pf ps mkok min_ ig aeq P hP hA hF Q hQ => ?_
  cbv
  repeat' first
    | (refine call_at hP [4] code_gate_Gate_Epoch (hg) rfl ?_ ?_ ?_; (focus ((repeat' (first | exact trivial | exact rfl | (intro _ _ _ _; exact rfl) | refine And.intro ?_ ?_)); done)); (focus (cbv; (try simp); done)); rintro _ _ ⟨rfl, rfl⟩ _; cbv)
    | (refine Chk.mk trivial ?_; cbv)
    | (refine bc_true (by first | assumption | (simp (disch := omega) only [hF, natc, w64_in, shs]; first | done | assumption | omega | (simp only [natc] at *; omega))) ?_; cbv)
    | (refine bc_false (by first | assumption | (simp (disch := omega) only [hF, natc, w64_in, shs]; first | done | assumption | omega | (simp only [natc] at *; omega))) ?_; cbv)
    | (refine bc_split (fun h => ?_) (fun h => ?_) <;> (try simp (disch := omega) only [hF, natc, w64_in, shs] at h) <;> cbv)
    | (refine IdxVC.mk (by simp (disch := omega) only [hF, natc, w64_in, shs]; first | done | omega | (simp only [natc] at *; omega)) (fun kx hk hk2 => ?_); simp (disch := omega) only [hF, natc, w64_in, shs] at hk; (try obtain rfl : kx = 0 := hk); cbv)
    | (refine Chk.mk (by simp (disch := omega) only [maxN, hF, natc, w64_in, shs]; first | done | assumption | omega | (simp only [natc] at *; omega)) ?_; cbv)
    | (intro (hmx : _ ≤ maxN); replace hmx : _ ≤ 17592186044416 := hmx; cbv)
    | (intro _; cbv)
  subst hQ
  exact leaf_s rfl ⟨rfl, rfl⟩

theorem sDrain_w (c n k : Int) (B B' X K G : Ob) (j e : Int) (b : Bool) (hg : CallOK (O := Ob) PR n_bus_Bus_Drain [.ptr 0 0, .dv (.int .i64 j)] [.obj B] fun v m => v = .tup [.dv (.bool b), .dv (.int .i64 e)] ∧ m = [.obj B']) :
    CallOK (O := Ob) PR n_soc_Soc_Drain [.ptr 0 0, .dv (.int .i64 j)] [.obj (sO c n k B X K G)] fun v m => v = .tup [.dv (.bool b), .dv (.int .i64 e)] ∧ m = [.obj (sO c n k B' X K G)] := by
  refine fn_walkv mixed fn_soc_Soc_Drain Ent.opn1 fun bin cmp un conv bnot beq band sel isel ofN toN inb nz nneg lt le room' slb add sub sbin scmp slen sget ssub addk pc pb pi pf ps mkok min_ ig aeq P hP hA hF Q hQ => ?_
  cbv
  repeat' first
    | (refine call_at hP [1] code_bus_Bus_Drain (hg) rfl ?_ ?_ ?_; (focus ((repeat' (first | exact trivial | exact rfl | (intro _ _ _ _; exact rfl) | refine And.intro ?_ ?_)); done)); (focus (cbv; (try simp); done)); rintro _ _ ⟨rfl, rfl⟩ _; cbv)
    | (refine Chk.mk trivial ?_; cbv)
    | (refine bc_true (by first | assumption | (simp (disch := omega) only [hF, natc, w64_in, shs]; first | done | assumption | omega | (simp only [natc] at *; omega))) ?_; cbv)
    | (refine bc_false (by first | assumption | (simp (disch := omega) only [hF, natc, w64_in, shs]; first | done | assumption | omega | (simp only [natc] at *; omega))) ?_; cbv)
    | (refine bc_split (fun h => ?_) (fun h => ?_) <;> (try simp (disch := omega) only [hF, natc, w64_in, shs] at h) <;> cbv)
    | (refine IdxVC.mk (by simp (disch := omega) only [hF, natc, w64_in, shs]; first | done | omega | (simp only [natc] at *; omega)) (fun kx hk hk2 => ?_); simp (disch := omega) only [hF, natc, w64_in, shs] at hk; (try obtain rfl : kx = 0 := hk); cbv)
    | (refine Chk.mk (by simp (disch := omega) only [maxN, hF, natc, w64_in, shs]; first | done | assumption | omega | (simp only [natc] at *; omega)) ?_; cbv)
    | (intro (hmx : _ ≤ maxN); replace hmx : _ ≤ 17592186044416 := hmx; cbv)
    | (intro _; cbv)
  subst hQ
  exact leaf_s rfl ⟨rfl, rfl⟩

end Go.Proofs.YtiaceoomiflgcaaGreat

end

section
namespace Go.Proofs.YtiaceoomiflgcaaGreat
open Go.V
set_option linter.unusedVariables false
set_option linter.unusedSimpArgs false
set_option maxRecDepth 100000
set_option maxHeartbeats 8000000

theorem sWrong_up (c n k : Int) (B X K G : Ob) (j x : Int) (h1 : CallOK (O := Ob) PR n_gate_Gate_Epoch [.ptr 0 0, .dv (.int .i64 j)] [.obj G] fun v m => v = .tup [.dv (.int .i64 x), .dv (.int .i64 0)] ∧ m = [.obj G])
    (h2 : CallOK (O := Ob) PR n_gate_Gate_Up [.ptr 0 0, .dv (.int .i64 j)] [.obj G] fun v m => v = .dv (.bool true) ∧ m = [.obj G]) :
    CallOK (O := Ob) PR n_soc_Soc_wrong [.ptr 0 0, .dv (.int .i64 j)] [.obj (sO c n k B X K G)] fun v m => v = .dv (.int .i64 0) ∧ m = [.obj (sO c n k B X K G)] := by
  refine fn_walkv mixed fn_soc_Soc_wrong Ent.opn1 fun bin cmp un conv bnot beq band sel isel ofN toN inb nz nneg lt le room' slb add sub sbin scmp slen sget ssub addk pc pb pi pf ps mkok min_ ig aeq P hP hA hF Q hQ => ?_
  have hb : bnot true = false := by simp only [hF]; rfl
  cbv
  repeat' first
    | (refine call_at hP [4] code_gate_Gate_Epoch (h1) rfl ?_ ?_ ?_; (focus ((repeat' (first | exact trivial | exact rfl | (intro _ _ _ _; exact rfl) | refine And.intro ?_ ?_)); done)); (focus (cbv; (try simp); done)); rintro _ _ ⟨rfl, rfl⟩ _; cbv)
    | (refine call_at hP [4] code_gate_Gate_Up (h2) rfl ?_ ?_ ?_; (focus ((repeat' (first | exact trivial | exact rfl | (intro _ _ _ _; exact rfl) | refine And.intro ?_ ?_)); done)); (focus (cbv; (try simp); done)); rintro _ _ ⟨rfl, rfl⟩ _; cbv)
    | ((rw [hb]); cbv)
    | (refine Chk.mk trivial ?_; cbv)
    | (refine bc_true (by first | assumption | (simp (disch := omega) only [hF, natc, w64_in, shs]; first | done | assumption | omega | (simp only [natc] at *; omega))) ?_; cbv)
    | (refine bc_false (by first | assumption | (simp (disch := omega) only [hF, natc, w64_in, shs]; first | done | assumption | omega | (simp only [natc] at *; omega))) ?_; cbv)
    | (refine bc_split (fun h => ?_) (fun h => ?_) <;> (try simp (disch := omega) only [hF, natc, w64_in, shs] at h) <;> cbv)
    | (refine IdxVC.mk (by simp (disch := omega) only [hF, natc, w64_in, shs]; first | done | omega | (simp only [natc] at *; omega)) (fun kx hk hk2 => ?_); simp (disch := omega) only [hF, natc, w64_in, shs] at hk; (try obtain rfl : kx = 0 := hk); cbv)
    | (refine Chk.mk (by simp (disch := omega) only [maxN, hF, natc, w64_in, shs]; first | done | assumption | omega | (simp only [natc] at *; omega)) ?_; cbv)
    | (intro (hmx : _ ≤ maxN); replace hmx : _ ≤ 17592186044416 := hmx; cbv)
    | (intro _; cbv)
  subst hQ
  exact leaf_s rfl ⟨rfl, rfl⟩

theorem sWrong_off (c n k : Int) (B X K G : Ob) (j x : Int) (h1 : CallOK (O := Ob) PR n_gate_Gate_Epoch [.ptr 0 0, .dv (.int .i64 j)] [.obj G] fun v m => v = .tup [.dv (.int .i64 x), .dv (.int .i64 0)] ∧ m = [.obj G])
    (h2 : CallOK (O := Ob) PR n_gate_Gate_Up [.ptr 0 0, .dv (.int .i64 j)] [.obj G] fun v m => v = .dv (.bool false) ∧ m = [.obj G]) :
    CallOK (O := Ob) PR n_soc_Soc_wrong [.ptr 0 0, .dv (.int .i64 j)] [.obj (sO c n k B X K G)] fun v m => v = .dv (.int .i64 19) ∧ m = [.obj (sO c n k B X K G)] := by
  refine fn_walkv mixed fn_soc_Soc_wrong Ent.opn1 fun bin cmp un conv bnot beq band sel isel ofN toN inb nz nneg lt le room' slb add sub sbin scmp slen sget ssub addk pc pb pi pf ps mkok min_ ig aeq P hP hA hF Q hQ => ?_
  have hb : bnot false = true := by simp only [hF]; rfl
  cbv
  repeat' first
    | (refine call_at hP [4] code_gate_Gate_Epoch (h1) rfl ?_ ?_ ?_; (focus ((repeat' (first | exact trivial | exact rfl | (intro _ _ _ _; exact rfl) | refine And.intro ?_ ?_)); done)); (focus (cbv; (try simp); done)); rintro _ _ ⟨rfl, rfl⟩ _; cbv)
    | (refine call_at hP [4] code_gate_Gate_Up (h2) rfl ?_ ?_ ?_; (focus ((repeat' (first | exact trivial | exact rfl | (intro _ _ _ _; exact rfl) | refine And.intro ?_ ?_)); done)); (focus (cbv; (try simp); done)); rintro _ _ ⟨rfl, rfl⟩ _; cbv)
    | ((rw [hb]); cbv)
    | (refine Chk.mk trivial ?_; cbv)
    | (refine bc_true (by first | assumption | (simp (disch := omega) only [hF, natc, w64_in, shs]; first | done | assumption | omega | (simp only [natc] at *; omega))) ?_; cbv)
    | (refine bc_false (by first | assumption | (simp (disch := omega) only [hF, natc, w64_in, shs]; first | done | assumption | omega | (simp only [natc] at *; omega))) ?_; cbv)
    | (refine bc_split (fun h => ?_) (fun h => ?_) <;> (try simp (disch := omega) only [hF, natc, w64_in, shs] at h) <;> cbv)
    | (refine IdxVC.mk (by simp (disch := omega) only [hF, natc, w64_in, shs]; first | done | omega | (simp only [natc] at *; omega)) (fun kx hk hk2 => ?_); simp (disch := omega) only [hF, natc, w64_in, shs] at hk; (try obtain rfl : kx = 0 := hk); cbv)
    | (refine Chk.mk (by simp (disch := omega) only [maxN, hF, natc, w64_in, shs]; first | done | assumption | omega | (simp only [natc] at *; omega)) ?_; cbv)
    | (intro (hmx : _ ≤ maxN); replace hmx : _ ≤ 17592186044416 := hmx; cbv)
    | (intro _; cbv)
  subst hQ
  exact leaf_s rfl ⟨rfl, rfl⟩

theorem sFence_w (c n k : Int) (B B' X K G : Ob) (j z x : Int)
    (hf : CallOK (O := Ob) PR n_bus_Bus_Fence [.ptr 0 0, .dv (.int .i64 j)] [.obj B] fun v m => v = .tup [.dv (.int .i64 z), .dv (.int .i64 0)] ∧ m = [.obj B'])
    (h1 : CallOK (O := Ob) PR n_gate_Gate_Epoch [.ptr 0 0, .dv (.int .i64 j)] [.obj G] fun v m => v = .tup [.dv (.int .i64 x), .dv (.int .i64 0)] ∧ m = [.obj G])
    (h2 : CallOK (O := Ob) PR n_gate_Gate_Up [.ptr 0 0, .dv (.int .i64 j)] [.obj G] fun v m => v = .dv (.bool true) ∧ m = [.obj G]) :
    CallOK (O := Ob) PR n_soc_Soc_Fence [.ptr 0 0, .dv (.int .i64 j)] [.obj (sO c n k B X K G)] fun v m => v = .tup [.dv (.int .i64 z), .dv (.int .i64 0)] ∧ m = [.obj (sO c n k B' X K G)] := by
  refine fn_walkv mixed fn_soc_Soc_Fence Ent.opn1 fun bin cmp un conv bnot beq band sel isel ofN toN inb nz nneg lt le room' slb add sub sbin scmp slen sget ssub addk pc pb pi pf ps mkok min_ ig aeq P hP hA hF Q hQ => ?_
  have hb : bnot true = false := by simp only [hF]; rfl
  cbv
  repeat' first
    | ((refine call_inl hP mixed hA code_soc_Soc_wrong fn_soc_Soc_wrong ?_); cbv)
    | (refine call_at hP [4] code_gate_Gate_Epoch (h1) rfl ?_ ?_ ?_; (focus ((repeat' (first | exact trivial | exact rfl | (intro _ _ _ _; exact rfl) | refine And.intro ?_ ?_)); done)); (focus (cbv; (try simp); done)); rintro _ _ ⟨rfl, rfl⟩ _; cbv)
    | (refine call_at hP [4] code_gate_Gate_Up (h2) rfl ?_ ?_ ?_; (focus ((repeat' (first | exact trivial | exact rfl | (intro _ _ _ _; exact rfl) | refine And.intro ?_ ?_)); done)); (focus (cbv; (try simp); done)); rintro _ _ ⟨rfl, rfl⟩ _; cbv)
    | ((rw [hb]); cbv)
    | (refine call_at hP [1] code_bus_Bus_Fence (hf) rfl ?_ ?_ ?_; (focus ((repeat' (first | exact trivial | exact rfl | (intro _ _ _ _; exact rfl) | refine And.intro ?_ ?_)); done)); (focus (cbv; (try simp); done)); rintro _ _ ⟨rfl, rfl⟩ _; cbv)
    | (refine Chk.mk trivial ?_; cbv)
    | (refine bc_true (by first | assumption | (simp (disch := omega) only [hF, natc, w64_in, shs]; first | done | assumption | omega | (simp only [natc] at *; omega))) ?_; cbv)
    | (refine bc_false (by first | assumption | (simp (disch := omega) only [hF, natc, w64_in, shs]; first | done | assumption | omega | (simp only [natc] at *; omega))) ?_; cbv)
    | (refine bc_split (fun h => ?_) (fun h => ?_) <;> (try simp (disch := omega) only [hF, natc, w64_in, shs] at h) <;> cbv)
    | (refine IdxVC.mk (by simp (disch := omega) only [hF, natc, w64_in, shs]; first | done | omega | (simp only [natc] at *; omega)) (fun kx hk hk2 => ?_); simp (disch := omega) only [hF, natc, w64_in, shs] at hk; (try obtain rfl : kx = 0 := hk); cbv)
    | (refine Chk.mk (by simp (disch := omega) only [maxN, hF, natc, w64_in, shs]; first | done | assumption | omega | (simp only [natc] at *; omega)) ?_; cbv)
    | (intro (hmx : _ ≤ maxN); replace hmx : _ ≤ 17592186044416 := hmx; cbv)
    | (intro _; cbv)
  subst hQ
  exact leaf_s rfl ⟨rfl, rfl⟩

theorem sHold_w (c n k : Int) (B B' X X' K K' G G' : Ob) (j : Int) (h1 : CallOK (O := Ob) PR n_gate_Gate_Hold [.ptr 0 0, .dv (.int .i64 j)] [.obj G] fun v m => v = .dv (.int .i64 0) ∧ m = [.obj G'])
    (h2 : CallOK (O := Ob) PR n_bus_Bus_Lose [.ptr 0 0, .dv (.int .i64 j)] [.obj B] fun v m => (∃ z, v = .tup [.dv (.int .i64 z), .dv (.int .i64 0)]) ∧ m = [.obj B'])
    (h3 : CallOK (O := Ob) PR n_mbox_Box_Reset [.ptr 0 0, .dv (.int .i64 j)] [.obj X] fun v m => (∃ z, v = .tup [.dv (.int .i64 z), .dv (.int .i64 0)]) ∧ m = [.obj X'])
    (h4 : CallOK (O := Ob) PR n_locks_Bank_Release [.ptr 0 0, .dv (.int .i64 j)] [.obj K] fun v m => (∃ z, v = .tup [.dv (.int .i64 z), .dv (.int .i64 0)]) ∧ m = [.obj K']) :
    CallOK (O := Ob) PR n_soc_Soc_Hold [.ptr 0 0, .dv (.int .i64 j)] [.obj (sO c n k B X K G)] fun v m => v = .dv (.int .i64 0) ∧ m = [.obj (sO c n k B' X' K' G')] := by
  refine fn_walkv mixed fn_soc_Soc_Hold Ent.opn1 fun bin cmp un conv bnot beq band sel isel ofN toN inb nz nneg lt le room' slb add sub sbin scmp slen sget ssub addk pc pb pi pf ps mkok min_ ig aeq P hP hA hF Q hQ => ?_
  cbv
  repeat' first
    | (refine call_at hP [4] code_gate_Gate_Hold (h1) rfl ?_ ?_ ?_; (focus ((repeat' (first | exact trivial | exact rfl | (intro _ _ _ _; exact rfl) | refine And.intro ?_ ?_)); done)); (focus (cbv; (try simp); done)); rintro _ _ ⟨rfl, rfl⟩ _; cbv)
    | (refine call_at hP [1] code_bus_Bus_Lose (h2) rfl ?_ ?_ ?_; (focus ((repeat' (first | exact trivial | exact rfl | (intro _ _ _ _; exact rfl) | refine And.intro ?_ ?_)); done)); (focus (cbv; (try simp); done)); rintro _ _ ⟨⟨z, rfl⟩, rfl⟩ _; cbv)
    | (refine call_at hP [2] code_mbox_Box_Reset (h3) rfl ?_ ?_ ?_; (focus ((repeat' (first | exact trivial | exact rfl | (intro _ _ _ _; exact rfl) | refine And.intro ?_ ?_)); done)); (focus (cbv; (try simp); done)); rintro _ _ ⟨⟨z, rfl⟩, rfl⟩ _; cbv)
    | (refine call_at hP [3] code_locks_Bank_Release (h4) rfl ?_ ?_ ?_; (focus ((repeat' (first | exact trivial | exact rfl | (intro _ _ _ _; exact rfl) | refine And.intro ?_ ?_)); done)); (focus (cbv; (try simp); done)); rintro _ _ ⟨⟨z, rfl⟩, rfl⟩ _; cbv)
    | (refine Chk.mk trivial ?_; cbv)
    | (refine bc_true (by first | assumption | (simp (disch := omega) only [hF, natc, w64_in, shs]; first | done | assumption | omega | (simp only [natc] at *; omega))) ?_; cbv)
    | (refine bc_false (by first | assumption | (simp (disch := omega) only [hF, natc, w64_in, shs]; first | done | assumption | omega | (simp only [natc] at *; omega))) ?_; cbv)
    | (refine bc_split (fun h => ?_) (fun h => ?_) <;> (try simp (disch := omega) only [hF, natc, w64_in, shs] at h) <;> cbv)
    | (refine IdxVC.mk (by simp (disch := omega) only [hF, natc, w64_in, shs]; first | done | omega | (simp only [natc] at *; omega)) (fun kx hk hk2 => ?_); simp (disch := omega) only [hF, natc, w64_in, shs] at hk; (try obtain rfl : kx = 0 := hk); cbv)
    | (refine Chk.mk (by simp (disch := omega) only [maxN, hF, natc, w64_in, shs]; first | done | assumption | omega | (simp only [natc] at *; omega)) ?_; cbv)
    | (intro (hmx : _ ≤ maxN); replace hmx : _ ≤ 17592186044416 := hmx; cbv)
    | (intro _; cbv)
  subst hQ
  exact leaf_s rfl ⟨rfl, rfl⟩

end Go.Proofs.YtiaceoomiflgcaaGreat

end

section
namespace Go.Proofs.YtiaceoomiflgcaaGreat
open Go.V
set_option linter.unusedVariables false
set_option linter.unusedSimpArgs false
set_option maxRecDepth 100000
set_option maxHeartbeats 8000000

theorem sAt_ok (c n k : Int) (B X K G : Ob) (j a u x y z : Int) (h1 : CallOK (O := Ob) PR n_gate_Gate_Epoch [.ptr 0 0, .dv (.int .i64 j)] [.obj G] fun v m => v = .tup [.dv (.int .i64 u), .dv (.int .i64 0)] ∧ m = [.obj G])
    (h2 : CallOK (O := Ob) PR n_gate_Gate_Up [.ptr 0 0, .dv (.int .i64 j)] [.obj G] fun v m => v = .dv (.bool true) ∧ m = [.obj G])
    (hd : CallOK (O := Ob) PR n_site_Decode [.agg [.dv (.int .i64 c), .dv (.int .i64 n), .dv (.int .i64 k)], .dv (.int .i64 a)] [] fun v m => v = .tup [.agg [.dv (.int .i64 x), .dv (.int .i64 y), .dv (.int .i64 z)], .dv (.bool true)] ∧ m = []) :
    CallOK (O := Ob) PR n_soc_Soc_at [.ptr 0 0, .dv (.int .i64 j), .dv (.int .i64 a)] [.obj (sO c n k B X K G)] fun v m => v = .tup [.agg [.dv (.int .i64 x), .dv (.int .i64 y), .dv (.int .i64 z)], .dv (.int .i64 0)] ∧ m = [.obj (sO c n k B X K G)] := by
  refine fn_walkv mixed fn_soc_Soc_at Ent.opn1 fun bin cmp un conv bnot beq band sel isel ofN toN inb nz nneg lt le room' slb add sub sbin scmp slen sget ssub addk pc pb pi pf ps mkok min_ ig aeq P hP hA hF Q hQ => ?_
  have hb : bnot true = false := by simp only [hF]; rfl
  cbv
  repeat' first
    | ((refine call_inl hP mixed hA code_soc_Soc_wrong fn_soc_Soc_wrong ?_); cbv)
    | (refine call_at hP [4] code_gate_Gate_Epoch (h1) rfl ?_ ?_ ?_; (focus ((repeat' (first | exact trivial | exact rfl | (intro _ _ _ _; exact rfl) | refine And.intro ?_ ?_)); done)); (focus (cbv; (try simp); done)); rintro _ _ ⟨rfl, rfl⟩ _; cbv)
    | (refine call_at hP [4] code_gate_Gate_Up (h2) rfl ?_ ?_ ?_; (focus ((repeat' (first | exact trivial | exact rfl | (intro _ _ _ _; exact rfl) | refine And.intro ?_ ?_)); done)); (focus (cbv; (try simp); done)); rintro _ _ ⟨rfl, rfl⟩ _; cbv)
    | ((rw [hb]); cbv)
    | (refine call_pure hP code_site_Decode (hd) ?_ ?_; (focus (cbv; (try simp); done)); rintro _ rfl; cbv)
    | (refine Chk.mk trivial ?_; cbv)
    | (refine bc_true (by first | assumption | (simp (disch := omega) only [hF, natc, w64_in, shs]; first | done | assumption | omega | (simp only [natc] at *; omega))) ?_; cbv)
    | (refine bc_false (by first | assumption | (simp (disch := omega) only [hF, natc, w64_in, shs]; first | done | assumption | omega | (simp only [natc] at *; omega))) ?_; cbv)
    | (refine bc_split (fun h => ?_) (fun h => ?_) <;> (try simp (disch := omega) only [hF, natc, w64_in, shs] at h) <;> cbv)
    | (refine IdxVC.mk (by simp (disch := omega) only [hF, natc, w64_in, shs]; first | done | omega | (simp only [natc] at *; omega)) (fun kx hk hk2 => ?_); simp (disch := omega) only [hF, natc, w64_in, shs] at hk; (try obtain rfl : kx = 0 := hk); cbv)
    | (refine Chk.mk (by simp (disch := omega) only [maxN, hF, natc, w64_in, shs]; first | done | assumption | omega | (simp only [natc] at *; omega)) ?_; cbv)
    | (intro (hmx : _ ≤ maxN); replace hmx : _ ≤ 17592186044416 := hmx; cbv)
    | (intro _; cbv)
  subst hQ
  exact leaf_obj (lmem := sM c n k B X K G) [1, 2, 3, 4] rfl rfl ⟨⟨rfl, rfl, rfl, rfl, rfl, rfl, rfl, trivial⟩, rfl, rfl, rfl, rfl, trivial⟩ rfl rfl ⟨rfl, rfl⟩

theorem sOwner_w (c n k : Int) (B X K G : Ob) (i x e : Int) (hg : CallOK (O := Ob) PR n_locks_Bank_Owner [.ptr 0 0, .dv (.int .i64 i)] [.obj K] fun v m => v = .tup [.dv (.int .i64 x), .dv (.int .i64 e)] ∧ m = [.obj K]) :
    CallOK (O := Ob) PR n_soc_Soc_Owner [.ptr 0 0, .dv (.int .i64 i)] [.obj (sO c n k B X K G)] fun v m => v = .tup [.dv (.int .i64 x), .dv (.int .i64 e)] ∧ m = [.obj (sO c n k B X K G)] := by
  refine fn_walkv mixed fn_soc_Soc_Owner Ent.opn1 fun bin cmp un conv bnot beq band sel isel ofN toN inb nz nneg lt le room' slb add sub sbin scmp slen sget ssub addk pc pb pi pf ps mkok min_ ig aeq P hP hA hF Q hQ => ?_
  cbv
  repeat' first
    | (refine call_at hP [3] code_locks_Bank_Owner (hg) rfl ?_ ?_ ?_; (focus ((repeat' (first | exact trivial | exact rfl | (intro _ _ _ _; exact rfl) | refine And.intro ?_ ?_)); done)); (focus (cbv; (try simp); done)); rintro _ _ ⟨rfl, rfl⟩ _; cbv)
    | (refine Chk.mk trivial ?_; cbv)
    | (refine bc_true (by first | assumption | (simp (disch := omega) only [hF, natc, w64_in, shs]; first | done | assumption | omega | (simp only [natc] at *; omega))) ?_; cbv)
    | (refine bc_false (by first | assumption | (simp (disch := omega) only [hF, natc, w64_in, shs]; first | done | assumption | omega | (simp only [natc] at *; omega))) ?_; cbv)
    | (refine bc_split (fun h => ?_) (fun h => ?_) <;> (try simp (disch := omega) only [hF, natc, w64_in, shs] at h) <;> cbv)
    | (refine IdxVC.mk (by simp (disch := omega) only [hF, natc, w64_in, shs]; first | done | omega | (simp only [natc] at *; omega)) (fun kx hk hk2 => ?_); simp (disch := omega) only [hF, natc, w64_in, shs] at hk; (try obtain rfl : kx = 0 := hk); cbv)
    | (refine Chk.mk (by simp (disch := omega) only [maxN, hF, natc, w64_in, shs]; first | done | assumption | omega | (simp only [natc] at *; omega)) ?_; cbv)
    | (intro (hmx : _ ≤ maxN); replace hmx : _ ≤ 17592186044416 := hmx; cbv)
    | (intro _; cbv)
  subst hQ
  exact leaf_s rfl ⟨rfl, rfl⟩

end Go.Proofs.YtiaceoomiflgcaaGreat

end

section
namespace Go.Proofs.YtiaceoomiflgcaaGreat
open Go.V
set_option linter.unusedVariables false
set_option linter.unusedSimpArgs false
set_option maxRecDepth 100000
set_option maxHeartbeats 8000000

theorem lNew_no (mo : Int) (h : ¬ (1 ≤ mo ∧ mo ≤ 16)) : CallOK (O := Ob) PR n_sbuf_New [.dv (.int .i64 mo)] [] fun v m => v = .dv .nilp ∧ m = [] := by
  rcases (by omega : mo < 1 ∨ (1 ≤ mo ∧ 16 < mo)) with h | ⟨h, h'⟩
  all_goals
    refine fn_walkv mixed fn_sbuf_New (Ent.refl _ _) fun bin cmp un conv bnot beq band sel isel ofN toN inb nz nneg lt le room' slb add sub sbin scmp slen sget ssub addk pc pb pi pf ps mkok min_ ig aeq P hP hA hF Q hQ => ?_
    cbv
    repeat' first
      | (refine Chk.mk trivial ?_; cbv)
      | (refine bc_true (by first | assumption | (simp (disch := omega) only [hF, natc, w64_in, shs]; first | done | assumption | omega | (simp only [natc] at *; omega))) ?_; cbv)
      | (refine bc_false (by first | assumption | (simp (disch := omega) only [hF, natc, w64_in, shs]; first | done | assumption | omega | (simp only [natc] at *; omega))) ?_; cbv)
      | (refine bc_split (fun h => ?_) (fun h => ?_) <;> (try simp (disch := omega) only [hF, natc, w64_in, shs] at h) <;> cbv)
      | (refine IdxVC.mk (by simp (disch := omega) only [hF, natc, w64_in, shs]; first | done | omega | (simp only [natc] at *; omega)) (fun kx hk hk2 => ?_); simp (disch := omega) only [hF, natc, w64_in, shs] at hk; (try obtain rfl : kx = 0 := hk); cbv)
      | (refine Chk.mk (by simp (disch := omega) only [maxN, hF, natc, w64_in, shs]; first | done | assumption | omega | (simp only [natc] at *; omega)) ?_; cbv)
      | (intro (hmx : _ ≤ maxN); replace hmx : _ ≤ 17592186044416 := hmx; cbv)
      | (intro _; cbv)
    subst hQ
    exact ⟨.dv .nilp, [], Ent.refl _ _, rfl, rfl⟩

theorem busNew_no1 (c n mo : Int) (hr : CallOK (O := Ob) PR n_sram_New [.dv (.int .i64 n)] [] fun v m => v = .tup [.dv .nilp, .dv (.int .i64 2)] ∧ m = []) :
    CallOK (O := Ob) PR n_bus_New [.dv (.int .i64 c), .dv (.int .i64 n), .dv (.int .i64 mo)] [] fun v m => v = .tup [.dv .nilp, .dv (.int .i64 2)] ∧ m = [] := by
  refine fn_walkv mixed fn_bus_New (Ent.refl _ _) fun bin cmp un conv bnot beq band sel isel ofN toN inb nz nneg lt le room' slb add sub sbin scmp slen sget ssub addk pc pb pi pf ps mkok min_ ig aeq P hP hA hF Q hQ => ?_
  cbv
  repeat' first
    | (refine call_pure hP code_sram_New (hr) ?_ ?_; (focus (cbv; (try simp); done)); rintro _ rfl; cbv)
    | (refine Chk.mk trivial ?_; cbv)
    | (refine bc_true (by first | assumption | (simp (disch := omega) only [hF, natc, w64_in, shs]; first | done | assumption | omega | (simp only [natc] at *; omega))) ?_; cbv)
    | (refine bc_false (by first | assumption | (simp (disch := omega) only [hF, natc, w64_in, shs]; first | done | assumption | omega | (simp only [natc] at *; omega))) ?_; cbv)
    | (refine bc_split (fun h => ?_) (fun h => ?_) <;> (try simp (disch := omega) only [hF, natc, w64_in, shs] at h) <;> cbv)
    | (refine IdxVC.mk (by simp (disch := omega) only [hF, natc, w64_in, shs]; first | done | omega | (simp only [natc] at *; omega)) (fun kx hk hk2 => ?_); simp (disch := omega) only [hF, natc, w64_in, shs] at hk; (try obtain rfl : kx = 0 := hk); cbv)
    | (refine Chk.mk (by simp (disch := omega) only [maxN, hF, natc, w64_in, shs]; first | done | assumption | omega | (simp only [natc] at *; omega)) ?_; cbv)
    | (intro (hmx : _ ≤ maxN); replace hmx : _ ≤ 17592186044416 := hmx; cbv)
    | (intro _; cbv)
  subst hQ
  exact leaf_data rfl rfl ⟨rfl, rfl⟩

theorem busNew_no2 (c n mo : Int) (OR : Ob) (hc : ¬ (1 ≤ c ∧ c ≤ 8)) (hr : CallOK (O := Ob) PR n_sram_New [.dv (.int .i64 n)] [] fun v m => v = .tup [.ptr 0 0, .dv (.int .i64 0)] ∧ m = [.obj OR]) :
    CallOK (O := Ob) PR n_bus_New [.dv (.int .i64 c), .dv (.int .i64 n), .dv (.int .i64 mo)] [] fun v m => v = .tup [.dv .nilp, .dv (.int .i64 2)] ∧ m = [] := by
  rcases (by omega : c < 1 ∨ (1 ≤ c ∧ 8 < c)) with h | ⟨h, h'⟩
  all_goals
    refine fn_walkv mixed fn_bus_New (Ent.refl _ _) fun bin cmp un conv bnot beq band sel isel ofN toN inb nz nneg lt le room' slb add sub sbin scmp slen sget ssub addk pc pb pi pf ps mkok min_ ig aeq P hP hA hF Q hQ => ?_
    cbv
    repeat' first
      | (refine call_at hP [] code_sram_New (hr) rfl ?_ ?_ ?_; (focus ((repeat' (first | exact trivial | exact rfl | (intro _ _ _ _; exact rfl) | refine And.intro ?_ ?_)); done)); (focus (cbv; (try simp); done)); rintro _ _ ⟨rfl, rfl⟩ _; cbv)
      | (refine Chk.mk trivial ?_; cbv)
      | (refine bc_true (by first | assumption | (simp (disch := omega) only [hF, natc, w64_in, shs]; first | done | assumption | omega | (simp only [natc] at *; omega))) ?_; cbv)
      | (refine bc_false (by first | assumption | (simp (disch := omega) only [hF, natc, w64_in, shs]; first | done | assumption | omega | (simp only [natc] at *; omega))) ?_; cbv)
      | (refine bc_split (fun h => ?_) (fun h => ?_) <;> (try simp (disch := omega) only [hF, natc, w64_in, shs] at h) <;> cbv)
      | (refine IdxVC.mk (by simp (disch := omega) only [hF, natc, w64_in, shs]; first | done | omega | (simp only [natc] at *; omega)) (fun kx hk hk2 => ?_); simp (disch := omega) only [hF, natc, w64_in, shs] at hk; (try obtain rfl : kx = 0 := hk); cbv)
      | (refine Chk.mk (by simp (disch := omega) only [maxN, hF, natc, w64_in, shs]; first | done | assumption | omega | (simp only [natc] at *; omega)) ?_; cbv)
      | (intro (hmx : _ ≤ maxN); replace hmx : _ ≤ 17592186044416 := hmx; cbv)
      | (intro _; cbv)
    subst hQ
    exact leaf_data rfl rfl ⟨rfl, rfl⟩

theorem busNew_no3 (c n mo : Int) (OR : Ob) (hc : 1 ≤ c ∧ c ≤ 8) (hr : CallOK (O := Ob) PR n_sram_New [.dv (.int .i64 n)] [] fun v m => v = .tup [.ptr 0 0, .dv (.int .i64 0)] ∧ m = [.obj OR])
    (hb : CallOK (O := Ob) PR n_sbuf_New [.dv (.int .i64 mo)] [] fun v m => v = .dv .nilp ∧ m = []) :
    CallOK (O := Ob) PR n_bus_New [.dv (.int .i64 c), .dv (.int .i64 n), .dv (.int .i64 mo)] [] fun v m => v = .tup [.dv .nilp, .dv (.int .i64 2)] ∧ m = [] := by
  obtain ⟨h1, h2⟩ := hc
  refine fn_walkv mixed fn_bus_New (Ent.refl _ _) fun bin cmp un conv bnot beq band sel isel ofN toN inb nz nneg lt le room' slb add sub sbin scmp slen sget ssub addk pc pb pi pf ps mkok min_ ig aeq P hP hA hF Q hQ => ?_
  cbv
  repeat' first
    | (refine call_at hP [] code_sram_New (hr) rfl ?_ ?_ ?_; (focus ((repeat' (first | exact trivial | exact rfl | (intro _ _ _ _; exact rfl) | refine And.intro ?_ ?_)); done)); (focus (cbv; (try simp); done)); rintro _ _ ⟨rfl, rfl⟩ _; cbv)
    | (refine call_pure hP code_sbuf_New (hb) ?_ ?_; (focus (cbv; (try simp); done)); rintro _ rfl; cbv)
    | (refine Chk.mk trivial ?_; cbv)
    | (refine bc_true (by first | assumption | (simp (disch := omega) only [hF, natc, w64_in, shs]; first | done | assumption | omega | (simp only [natc] at *; omega))) ?_; cbv)
    | (refine bc_false (by first | assumption | (simp (disch := omega) only [hF, natc, w64_in, shs]; first | done | assumption | omega | (simp only [natc] at *; omega))) ?_; cbv)
    | (refine bc_split (fun h => ?_) (fun h => ?_) <;> (try simp (disch := omega) only [hF, natc, w64_in, shs] at h) <;> cbv)
    | (refine IdxVC.mk (by simp (disch := omega) only [hF, natc, w64_in, shs]; first | done | omega | (simp only [natc] at *; omega)) (fun kx hk hk2 => ?_); simp (disch := omega) only [hF, natc, w64_in, shs] at hk; (try obtain rfl : kx = 0 := hk); cbv)
    | (refine Chk.mk (by simp (disch := omega) only [maxN, hF, natc, w64_in, shs]; first | done | assumption | omega | (simp only [natc] at *; omega)) ?_; cbv)
    | (intro (hmx : _ ≤ maxN); replace hmx : _ ≤ 17592186044416 := hmx; cbv)
    | (intro _; cbv)
  subst hQ
  exact leaf_data rfl rfl ⟨rfl, rfl⟩

theorem busNew_no (c n mo : Int) (h : ¬ ((1 ≤ c ∧ c ≤ 8) ∧ (1 ≤ n ∧ n ≤ 65536) ∧ 1 ≤ mo ∧ mo ≤ 16)) :
    CallOK (O := Ob) PR n_bus_New [.dv (.int .i64 c), .dv (.int .i64 n), .dv (.int .i64 mo)] [] fun v m => v = .tup [.dv .nilp, .dv (.int .i64 2)] ∧ m = [] := by
  by_cases hn : 1 ≤ n ∧ n ≤ 65536
  · have hr := ok_rNew n.toNat (by omega)
    have e : ((n.toNat : Nat) : Int) = n := by omega
    rw [e] at hr
    by_cases hc : 1 ≤ c ∧ c ≤ 8
    · exact busNew_no3 c n mo _ hc hr (lNew_no mo fun hm => h ⟨hc, hn, hm⟩)
    · exact busNew_no2 c n mo _ hc hr
  · exact busNew_no1 c n mo (rNew_no n hn)

end Go.Proofs.YtiaceoomiflgcaaGreat

end

section
namespace Go.Proofs.YtiaceoomiflgcaaGreat
open Go.V
set_option linter.unusedVariables false
set_option linter.unusedSimpArgs false
set_option maxRecDepth 100000
set_option maxHeartbeats 8000000

theorem sNew_no1 (c n k mo : Int) (hb : CallOK (O := Ob) PR n_bus_New [.dv (.int .i64 c), .dv (.int .i64 n), .dv (.int .i64 mo)] [] fun v m => v = .tup [.dv .nilp, .dv (.int .i64 2)] ∧ m = []) :
    CallOK (O := Ob) PR n_soc_New [.agg [.dv (.int .i64 c), .dv (.int .i64 n), .dv (.int .i64 k)], .dv (.int .i64 mo)] [] fun v m => v = .tup [.dv .nilp, .dv (.int .i64 2)] ∧ m = [] := by
  refine fn_walkv mixed fn_soc_New (Ent.refl _ _) fun bin cmp un conv bnot beq band sel isel ofN toN inb nz nneg lt le room' slb add sub sbin scmp slen sget ssub addk pc pb pi pf ps mkok min_ ig aeq P hP hA hF Q hQ => ?_
  cbv
  repeat' first
    | (refine call_pure hP code_bus_New (hb) ?_ ?_; (focus (cbv; (try simp); done)); rintro _ rfl; cbv)
    | (refine Chk.mk trivial ?_; cbv)
    | (refine bc_true (by first | assumption | (simp (disch := omega) only [hF, natc, w64_in, shs]; first | done | assumption | omega | (simp only [natc] at *; omega))) ?_; cbv)
    | (refine bc_false (by first | assumption | (simp (disch := omega) only [hF, natc, w64_in, shs]; first | done | assumption | omega | (simp only [natc] at *; omega))) ?_; cbv)
    | (refine bc_split (fun h => ?_) (fun h => ?_) <;> (try simp (disch := omega) only [hF, natc, w64_in, shs] at h) <;> cbv)
    | (refine IdxVC.mk (by simp (disch := omega) only [hF, natc, w64_in, shs]; first | done | omega | (simp only [natc] at *; omega)) (fun kx hk hk2 => ?_); simp (disch := omega) only [hF, natc, w64_in, shs] at hk; (try obtain rfl : kx = 0 := hk); cbv)
    | (refine Chk.mk (by simp (disch := omega) only [maxN, hF, natc, w64_in, shs]; first | done | assumption | omega | (simp only [natc] at *; omega)) ?_; cbv)
    | (intro (hmx : _ ≤ maxN); replace hmx : _ ≤ 17592186044416 := hmx; cbv)
    | (intro _; cbv)
  subst hQ
  exact leaf_data rfl rfl ⟨rfl, rfl⟩

theorem sNew_no2 (c n k mo : Int) (B : Ob) (hb : CallOK (O := Ob) PR n_bus_New [.dv (.int .i64 c), .dv (.int .i64 n), .dv (.int .i64 mo)] [] fun v m => v = .tup [.ptr 0 0, .dv (.int .i64 0)] ∧ m = [.obj B])
    (hr : CallOK (O := Ob) PR n_site_Right [.agg [.dv (.int .i64 c), .dv (.int .i64 n), .dv (.int .i64 k)]] [] fun v m => v = .dv (.bool false) ∧ m = []) :
    CallOK (O := Ob) PR n_soc_New [.agg [.dv (.int .i64 c), .dv (.int .i64 n), .dv (.int .i64 k)], .dv (.int .i64 mo)] [] fun v m => v = .tup [.dv .nilp, .dv (.int .i64 2)] ∧ m = [] := by
  refine fn_walkv mixed fn_soc_New (Ent.refl _ _) fun bin cmp un conv bnot beq band sel isel ofN toN inb nz nneg lt le room' slb add sub sbin scmp slen sget ssub addk pc pb pi pf ps mkok min_ ig aeq P hP hA hF Q hQ => ?_
  have hb0 : bnot false = true := by simp only [hF]; rfl
  cbv
  repeat' first
    | (refine call_at hP [] code_bus_New (hb) rfl ?_ ?_ ?_; (focus ((repeat' (first | exact trivial | exact rfl | (intro _ _ _ _; exact rfl) | refine And.intro ?_ ?_)); done)); (focus (cbv; (try simp); done)); rintro _ _ ⟨rfl, rfl⟩ _; cbv)
    | (refine call_pure hP code_site_Right (hr) ?_ ?_; (focus (cbv; (try simp); done)); rintro _ rfl; cbv)
    | ((rw [hb0]); cbv)
    | (refine Chk.mk trivial ?_; cbv)
    | (refine bc_true (by first | assumption | (simp (disch := omega) only [hF, natc, w64_in, shs]; first | done | assumption | omega | (simp only [natc] at *; omega))) ?_; cbv)
    | (refine bc_false (by first | assumption | (simp (disch := omega) only [hF, natc, w64_in, shs]; first | done | assumption | omega | (simp only [natc] at *; omega))) ?_; cbv)
    | (refine bc_split (fun h => ?_) (fun h => ?_) <;> (try simp (disch := omega) only [hF, natc, w64_in, shs] at h) <;> cbv)
    | (refine IdxVC.mk (by simp (disch := omega) only [hF, natc, w64_in, shs]; first | done | omega | (simp only [natc] at *; omega)) (fun kx hk hk2 => ?_); simp (disch := omega) only [hF, natc, w64_in, shs] at hk; (try obtain rfl : kx = 0 := hk); cbv)
    | (refine Chk.mk (by simp (disch := omega) only [maxN, hF, natc, w64_in, shs]; first | done | assumption | omega | (simp only [natc] at *; omega)) ?_; cbv)
    | (intro (hmx : _ ≤ maxN); replace hmx : _ ≤ 17592186044416 := hmx; cbv)
    | (intro _; cbv)
  subst hQ
  exact leaf_data rfl rfl ⟨rfl, rfl⟩

theorem sNew_w (c n k mo : Int) (B K G : Ob) (PX : Ob → Prop) (hb : CallOK (O := Ob) PR n_bus_New [.dv (.int .i64 c), .dv (.int .i64 n), .dv (.int .i64 mo)] [] fun v m => v = .tup [.ptr 0 0, .dv (.int .i64 0)] ∧ m = [.obj B])
    (hr : CallOK (O := Ob) PR n_site_Right [.agg [.dv (.int .i64 c), .dv (.int .i64 n), .dv (.int .i64 k)]] [] fun v m => v = .dv (.bool true) ∧ m = [])
    (hx : CallOK (O := Ob) PR n_mbox_New [.dv (.int .i64 c)] [] fun v m => v = .ptr 0 0 ∧ ∃ X, PX X ∧ m = [.obj X])
    (hk : CallOK (O := Ob) PR n_locks_New [.dv (.int .i64 c), .dv (.int .i64 k)] [] fun v m => v = .ptr 0 0 ∧ m = [.obj K])
    (hg : CallOK (O := Ob) PR n_gate_New [.dv (.int .i64 c)] [] fun v m => v = .ptr 0 0 ∧ m = [.obj G]) :
    CallOK (O := Ob) PR n_soc_New [.agg [.dv (.int .i64 c), .dv (.int .i64 n), .dv (.int .i64 k)], .dv (.int .i64 mo)] [] fun v m => v = .tup [.ptr 0 0, .dv (.int .i64 0)] ∧ ∃ X, PX X ∧ m = [.obj (sO c n k B X K G)] := by
  refine fn_walkv mixed fn_soc_New (Ent.refl _ _) fun bin cmp un conv bnot beq band sel isel ofN toN inb nz nneg lt le room' slb add sub sbin scmp slen sget ssub addk pc pb pi pf ps mkok min_ ig aeq P hP hA hF Q hQ => ?_
  have hb0 : bnot true = false := by simp only [hF]; rfl
  cbv
  repeat' first
    | (refine call_at hP [] code_bus_New (hb) rfl ?_ ?_ ?_; (focus ((repeat' (first | exact trivial | exact rfl | (intro _ _ _ _; exact rfl) | refine And.intro ?_ ?_)); done)); (focus (cbv; (try simp); done)); rintro _ _ ⟨rfl, rfl⟩ _; cbv)
    | (refine call_pure hP code_site_Right (hr) ?_ ?_; (focus (cbv; (try simp); done)); rintro _ rfl; cbv)
    | ((rw [hb0]); cbv)
    | (refine call_at hP [] code_mbox_New (hx) rfl ?_ ?_ ?_; (focus ((repeat' (first | exact trivial | exact rfl | (intro _ _ _ _; exact rfl) | refine And.intro ?_ ?_)); done)); (focus (cbv; (try simp); done)); rintro _ _ ⟨rfl, X, hX, rfl⟩ _; cbv)
    | (refine call_at hP [] code_locks_New (hk) rfl ?_ ?_ ?_; (focus ((repeat' (first | exact trivial | exact rfl | (intro _ _ _ _; exact rfl) | refine And.intro ?_ ?_)); done)); (focus (cbv; (try simp); done)); rintro _ _ ⟨rfl, rfl⟩ _; cbv)
    | (refine call_at hP [] code_gate_New (hg) rfl ?_ ?_ ?_; (focus ((repeat' (first | exact trivial | exact rfl | (intro _ _ _ _; exact rfl) | refine And.intro ?_ ?_)); done)); (focus (cbv; (try simp); done)); rintro _ _ ⟨rfl, rfl⟩ _; cbv)
    | (refine Chk.mk trivial ?_; cbv)
    | (refine bc_true (by first | assumption | (simp (disch := omega) only [hF, natc, w64_in, shs]; first | done | assumption | omega | (simp only [natc] at *; omega))) ?_; cbv)
    | (refine bc_false (by first | assumption | (simp (disch := omega) only [hF, natc, w64_in, shs]; first | done | assumption | omega | (simp only [natc] at *; omega))) ?_; cbv)
    | (refine bc_split (fun h => ?_) (fun h => ?_) <;> (try simp (disch := omega) only [hF, natc, w64_in, shs] at h) <;> cbv)
    | (refine IdxVC.mk (by simp (disch := omega) only [hF, natc, w64_in, shs]; first | done | omega | (simp only [natc] at *; omega)) (fun kx hk hk2 => ?_); simp (disch := omega) only [hF, natc, w64_in, shs] at hk; (try obtain rfl : kx = 0 := hk); cbv)
    | (refine Chk.mk (by simp (disch := omega) only [maxN, hF, natc, w64_in, shs]; first | done | assumption | omega | (simp only [natc] at *; omega)) ?_; cbv)
    | (intro (hmx : _ ≤ maxN); replace hmx : _ ≤ 17592186044416 := hmx; cbv)
    | (intro _; cbv)
  subst hQ
  refine ⟨.tup [.ptr 0 0, .dv (.int .i64 0)], [.obj (sO c n k B X K G)], ?_, rfl, X, hX, rfl⟩
  refine (Ent.ren (s' := ⟨[.tup [.ptr 0 0, .dv (.int .i64 0)]], sM c n k B X K G⟩) [5, 1, 2, 3, 4] rfl rfl ?_ ?_).trans (Ent.cls1 (env' := [.tup [.ptr 0 0, .dv (.int .i64 0)]]) [1, 2, 3, 4] (sM c n k B X K G) rfl rfl ?_ ⟨rfl, trivial⟩)
  · exact ⟨⟨rfl, rfl, rfl, rfl, rfl, rfl, rfl, trivial⟩, rfl, rfl, rfl, rfl, trivial⟩
  · exact ⟨rfl, trivial⟩
  · exact ⟨⟨rfl, rfl, rfl, rfl, rfl, rfl, rfl, trivial⟩, rfl, rfl, rfl, rfl, trivial⟩

end Go.Proofs.YtiaceoomiflgcaaGreat

end

section
namespace Go.Proofs.YtiaceoomiflgcaaGreat
open Go.V
set_option linter.unusedVariables false
set_option linter.unusedSimpArgs false
set_option maxRecDepth 100000
set_option maxHeartbeats 8000000

/-- What is asked of a gate. -/
def GEp (G : Ob) (j x e : Int) : Prop := CallOK (O := Ob) PR n_gate_Gate_Epoch [.ptr 0 0, .dv (.int .i64 j)] [.obj G] fun v m => v = .tup [.dv (.int .i64 x), .dv (.int .i64 e)] ∧ m = [.obj G]
def GUp (G : Ob) (j : Int) (b : Bool) : Prop := CallOK (O := Ob) PR n_gate_Gate_Up [.ptr 0 0, .dv (.int .i64 j)] [.obj G] fun v m => v = .dv (.bool b) ∧ m = [.obj G]
def DecW (c n k a : Int) (V : SV) : Prop := CallOK (O := Ob) PR n_site_Decode [.agg [.dv (.int .i64 c), .dv (.int .i64 n), .dv (.int .i64 k)], .dv (.int .i64 a)] [] fun v m => v = V ∧ m = []
/-- What the soc's own question answers, the soc lying open. -/
def AtW (c n k : Int) (B X K G : Ob) (j a x y z e : Int) : Prop :=
  CallOK (O := Ob) PR n_soc_Soc_at [.ptr 0 0, .dv (.int .i64 j), .dv (.int .i64 a)] (sM c n k B X K G) fun v m => v = .tup [.agg [.dv (.int .i64 x), .dv (.int .i64 y), .dv (.int .i64 z)], .dv (.int .i64 e)] ∧ m = sM c n k B X K G

theorem leaf_at {c n k : Int} {B X K G : Ob} {v : SV} {mem : List (Chunk Ob)} {Q : SV → List (Chunk Ob) → Prop} (hm : MLe [0, 1, 2, 3, 4] mem [0, 1, 2, 3, 4] (sM c n k B X K G)) (hu : VLe [0, 1, 2, 3, 4] v v) (hq : Q v (sM c n k B X K G)) : ∃ r' m', Ent 5 ⟨[v], mem⟩ ⟨[r'], m'⟩ ∧ Q r' m' :=
  ⟨v, _, Ent.ren [0, 1, 2, 3, 4] rfl rfl hm ⟨hu, trivial⟩, hq⟩

theorem leaf_sr {c n k : Int} {B X K G : Ob} {v : SV} {mem : List (Chunk Ob)} {Q : SV → List (Chunk Ob) → Prop} (hm : mem.take 5 = sM c n k B X K G) (hu : VLe [0] v v) (hq : Q v [.obj (sO c n k B X K G)]) : ∃ r' m', Ent 1 ⟨[v], mem⟩ ⟨[r'], m'⟩ ∧ Q r' m' := by
  have e : mem = sM c n k B X K G ++ mem.drop 5 := by rw [← hm, List.take_append_drop]
  rw [e]
  exact leaf_obj (lmem := sM c n k B X K G) [1, 2, 3, 4] rfl rfl ⟨⟨rfl, rfl, rfl, rfl, rfl, rfl, rfl, trivial⟩, rfl, rfl, rfl, rfl, trivial⟩ hu rfl hq

theorem at_core (c n k : Int) (B X K G : Ob) (j a x : Int) (h1 : GEp G j x 3) : AtW c n k B X K G j a 0 0 0 3 := by
  unfold GEp at h1; unfold AtW sM
  refine fn_walkv mixed fn_soc_Soc_at (Ent.refl _ _) fun bin cmp un conv bnot beq band sel isel ofN toN inb nz nneg lt le room' slb add sub sbin scmp slen sget ssub addk pc pb pi pf ps mkok min_ ig aeq P hP hA hF Q hQ => ?_
  cbv
  repeat' first
    | ((refine call_inl hP mixed hA code_soc_Soc_wrong fn_soc_Soc_wrong ?_); cbv)
    | (refine call_at hP [4] code_gate_Gate_Epoch (h1) rfl ?_ ?_ ?_; (focus ((repeat' (first | exact trivial | exact rfl | (intro _ _ _ _; exact rfl) | refine And.intro ?_ ?_)); done)); (focus (cbv; (try simp); done)); rintro _ _ ⟨rfl, rfl⟩ _; cbv)
    | (refine Chk.mk trivial ?_; cbv)
    | (refine bc_true (by first | assumption | (simp (disch := omega) only [hF, natc, w64_in, shs]; first | done | assumption | omega | (simp only [natc] at *; omega))) ?_; cbv)
    | (refine bc_false (by first | assumption | (simp (disch := omega) only [hF, natc, w64_in, shs]; first | done | assumption | omega | (simp only [natc] at *; omega))) ?_; cbv)
    | (refine bc_split (fun h => ?_) (fun h => ?_) <;> (try simp (disch := omega) only [hF, natc, w64_in, shs] at h) <;> cbv)
    | (refine IdxVC.mk (by simp (disch := omega) only [hF, natc, w64_in, shs]; first | done | omega | (simp only [natc] at *; omega)) (fun kx hk hk2 => ?_); simp (disch := omega) only [hF, natc, w64_in, shs] at hk; (try obtain rfl : kx = 0 := hk); cbv)
    | (refine Chk.mk (by simp (disch := omega) only [maxN, hF, natc, w64_in, shs]; first | done | assumption | omega | (simp only [natc] at *; omega)) ?_; cbv)
    | (intro (hmx : _ ≤ maxN); replace hmx : _ ≤ 17592186044416 := hmx; cbv)
    | (intro _; cbv)
  subst hQ
  exact leaf_at ⟨⟨rfl, rfl, rfl, rfl, rfl, rfl, rfl, trivial⟩, rfl, rfl, rfl, rfl, trivial⟩ rfl ⟨rfl, rfl⟩

theorem at_off (c n k : Int) (B X K G : Ob) (j a x : Int) (h1 : GEp G j x 0) (h2 : GUp G j false) : AtW c n k B X K G j a 0 0 0 19 := by
  unfold GEp at h1; unfold GUp at h2; unfold AtW sM
  refine fn_walkv mixed fn_soc_Soc_at (Ent.refl _ _) fun bin cmp un conv bnot beq band sel isel ofN toN inb nz nneg lt le room' slb add sub sbin scmp slen sget ssub addk pc pb pi pf ps mkok min_ ig aeq P hP hA hF Q hQ => ?_
  have hb : bnot false = true := by simp only [hF]; rfl
  cbv
  repeat' first
    | ((refine call_inl hP mixed hA code_soc_Soc_wrong fn_soc_Soc_wrong ?_); cbv)
    | (refine call_at hP [4] code_gate_Gate_Epoch (h1) rfl ?_ ?_ ?_; (focus ((repeat' (first | exact trivial | exact rfl | (intro _ _ _ _; exact rfl) | refine And.intro ?_ ?_)); done)); (focus (cbv; (try simp); done)); rintro _ _ ⟨rfl, rfl⟩ _; cbv)
    | (refine call_at hP [4] code_gate_Gate_Up (h2) rfl ?_ ?_ ?_; (focus ((repeat' (first | exact trivial | exact rfl | (intro _ _ _ _; exact rfl) | refine And.intro ?_ ?_)); done)); (focus (cbv; (try simp); done)); rintro _ _ ⟨rfl, rfl⟩ _; cbv)
    | ((rw [hb]); cbv)
    | (refine Chk.mk trivial ?_; cbv)
    | (refine bc_true (by first | assumption | (simp (disch := omega) only [hF, natc, w64_in, shs]; first | done | assumption | omega | (simp only [natc] at *; omega))) ?_; cbv)
    | (refine bc_false (by first | assumption | (simp (disch := omega) only [hF, natc, w64_in, shs]; first | done | assumption | omega | (simp only [natc] at *; omega))) ?_; cbv)
    | (refine bc_split (fun h => ?_) (fun h => ?_) <;> (try simp (disch := omega) only [hF, natc, w64_in, shs] at h) <;> cbv)
    | (refine IdxVC.mk (by simp (disch := omega) only [hF, natc, w64_in, shs]; first | done | omega | (simp only [natc] at *; omega)) (fun kx hk hk2 => ?_); simp (disch := omega) only [hF, natc, w64_in, shs] at hk; (try obtain rfl : kx = 0 := hk); cbv)
    | (refine Chk.mk (by simp (disch := omega) only [maxN, hF, natc, w64_in, shs]; first | done | assumption | omega | (simp only [natc] at *; omega)) ?_; cbv)
    | (intro (hmx : _ ≤ maxN); replace hmx : _ ≤ 17592186044416 := hmx; cbv)
    | (intro _; cbv)
  subst hQ
  exact leaf_at ⟨⟨rfl, rfl, rfl, rfl, rfl, rfl, rfl, trivial⟩, rfl, rfl, rfl, rfl, trivial⟩ rfl ⟨rfl, rfl⟩

theorem at_no (c n k : Int) (B X K G : Ob) (j a x : Int) (h1 : GEp G j x 0) (h2 : GUp G j true) (hd : DecW c n k a (.tup [.agg [.dv (.int .i64 0), .dv (.int .i64 0), .dv (.int .i64 0)], .dv (.bool false)])) : AtW c n k B X K G j a 0 0 0 4 := by
  unfold GEp at h1; unfold GUp at h2; unfold DecW at hd; unfold AtW sM
  refine fn_walkv mixed fn_soc_Soc_at (Ent.refl _ _) fun bin cmp un conv bnot beq band sel isel ofN toN inb nz nneg lt le room' slb add sub sbin scmp slen sget ssub addk pc pb pi pf ps mkok min_ ig aeq P hP hA hF Q hQ => ?_
  have hb : bnot true = false := by simp only [hF]; rfl
  have hb1 : bnot false = true := by simp only [hF]; rfl
  cbv
  repeat' first
    | ((refine call_inl hP mixed hA code_soc_Soc_wrong fn_soc_Soc_wrong ?_); cbv)
    | (refine call_at hP [4] code_gate_Gate_Epoch (h1) rfl ?_ ?_ ?_; (focus ((repeat' (first | exact trivial | exact rfl | (intro _ _ _ _; exact rfl) | refine And.intro ?_ ?_)); done)); (focus (cbv; (try simp); done)); rintro _ _ ⟨rfl, rfl⟩ _; cbv)
    | (refine call_at hP [4] code_gate_Gate_Up (h2) rfl ?_ ?_ ?_; (focus ((repeat' (first | exact trivial | exact rfl | (intro _ _ _ _; exact rfl) | refine And.intro ?_ ?_)); done)); (focus (cbv; (try simp); done)); rintro _ _ ⟨rfl, rfl⟩ _; cbv)
    | ((rw [hb]); cbv)
    | ((rw [hb1]); cbv)
    | (refine call_pure hP code_site_Decode (hd) ?_ ?_; (focus (cbv; (try simp); done)); rintro _ rfl; cbv)
    | (refine Chk.mk trivial ?_; cbv)
    | (refine bc_true (by first | assumption | (simp (disch := omega) only [hF, natc, w64_in, shs]; first | done | assumption | omega | (simp only [natc] at *; omega))) ?_; cbv)
    | (refine bc_false (by first | assumption | (simp (disch := omega) only [hF, natc, w64_in, shs]; first | done | assumption | omega | (simp only [natc] at *; omega))) ?_; cbv)
    | (refine bc_split (fun h => ?_) (fun h => ?_) <;> (try simp (disch := omega) only [hF, natc, w64_in, shs] at h) <;> cbv)
    | (refine IdxVC.mk (by simp (disch := omega) only [hF, natc, w64_in, shs]; first | done | omega | (simp only [natc] at *; omega)) (fun kx hk hk2 => ?_); simp (disch := omega) only [hF, natc, w64_in, shs] at hk; (try obtain rfl : kx = 0 := hk); cbv)
    | (refine Chk.mk (by simp (disch := omega) only [maxN, hF, natc, w64_in, shs]; first | done | assumption | omega | (simp only [natc] at *; omega)) ?_; cbv)
    | (intro (hmx : _ ≤ maxN); replace hmx : _ ≤ 17592186044416 := hmx; cbv)
    | (intro _; cbv)
  subst hQ
  exact leaf_at ⟨⟨rfl, rfl, rfl, rfl, rfl, rfl, rfl, trivial⟩, rfl, rfl, rfl, rfl, trivial⟩ rfl ⟨rfl, rfl⟩

theorem at_ok (c n k : Int) (B X K G : Ob) (j a u x y z : Int) (h1 : GEp G j u 0) (h2 : GUp G j true) (hd : DecW c n k a (.tup [.agg [.dv (.int .i64 x), .dv (.int .i64 y), .dv (.int .i64 z)], .dv (.bool true)])) : AtW c n k B X K G j a x y z 0 := by
  unfold GEp at h1; unfold GUp at h2; unfold DecW at hd; unfold AtW sM
  refine fn_walkv mixed fn_soc_Soc_at (Ent.refl _ _) fun bin cmp un conv bnot beq band sel isel ofN toN inb nz nneg lt le room' slb add sub sbin scmp slen sget ssub addk pc pb pi pf ps mkok min_ ig aeq P hP hA hF Q hQ => ?_
  have hb : bnot true = false := by simp only [hF]; rfl
  cbv
  repeat' first
    | ((refine call_inl hP mixed hA code_soc_Soc_wrong fn_soc_Soc_wrong ?_); cbv)
    | (refine call_at hP [4] code_gate_Gate_Epoch (h1) rfl ?_ ?_ ?_; (focus ((repeat' (first | exact trivial | exact rfl | (intro _ _ _ _; exact rfl) | refine And.intro ?_ ?_)); done)); (focus (cbv; (try simp); done)); rintro _ _ ⟨rfl, rfl⟩ _; cbv)
    | (refine call_at hP [4] code_gate_Gate_Up (h2) rfl ?_ ?_ ?_; (focus ((repeat' (first | exact trivial | exact rfl | (intro _ _ _ _; exact rfl) | refine And.intro ?_ ?_)); done)); (focus (cbv; (try simp); done)); rintro _ _ ⟨rfl, rfl⟩ _; cbv)
    | ((rw [hb]); cbv)
    | (refine call_pure hP code_site_Decode (hd) ?_ ?_; (focus (cbv; (try simp); done)); rintro _ rfl; cbv)
    | (refine Chk.mk trivial ?_; cbv)
    | (refine bc_true (by first | assumption | (simp (disch := omega) only [hF, natc, w64_in, shs]; first | done | assumption | omega | (simp only [natc] at *; omega))) ?_; cbv)
    | (refine bc_false (by first | assumption | (simp (disch := omega) only [hF, natc, w64_in, shs]; first | done | assumption | omega | (simp only [natc] at *; omega))) ?_; cbv)
    | (refine bc_split (fun h => ?_) (fun h => ?_) <;> (try simp (disch := omega) only [hF, natc, w64_in, shs] at h) <;> cbv)
    | (refine IdxVC.mk (by simp (disch := omega) only [hF, natc, w64_in, shs]; first | done | omega | (simp only [natc] at *; omega)) (fun kx hk hk2 => ?_); simp (disch := omega) only [hF, natc, w64_in, shs] at hk; (try obtain rfl : kx = 0 := hk); cbv)
    | (refine Chk.mk (by simp (disch := omega) only [maxN, hF, natc, w64_in, shs]; first | done | assumption | omega | (simp only [natc] at *; omega)) ?_; cbv)
    | (intro (hmx : _ ≤ maxN); replace hmx : _ ≤ 17592186044416 := hmx; cbv)
    | (intro _; cbv)
  subst hQ
  exact leaf_at ⟨⟨rfl, rfl, rfl, rfl, rfl, rfl, rfl, trivial⟩, rfl, rfl, rfl, rfl, trivial⟩ rfl ⟨rfl, rfl⟩

end Go.Proofs.YtiaceoomiflgcaaGreat

end
