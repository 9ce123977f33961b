/-
  The laws' own parts: few, alive.
-/
import Derived.Test.YtiaceoomiflgcaaScJ
import Derived.Test.YtiaceoomiflgcaaSbO
import Derived.Test.YtiaceoomiflgcaaSeIr
section
namespace Go.Proofs.Ytiaceoomiflgcaa
open Go.V
set_option linter.unusedVariables false
set_option linter.unusedSimpArgs false
set_option maxRecDepth 100000
set_option maxHeartbeats 8000000

/-- A soc's chunks: plan, bus, mailboxes, locks, gate. -/
def sM (c n k : Int) (B X K G : Ob) : List (Chunk Ob) :=
  [.blk [.one (.dv (.int .i64 c)), .one (.dv (.int .i64 n)), .one (.dv (.int .i64 k)), .one (.ptr 1 0), .one (.ptr 2 0), .one (.ptr 3 0), .one (.ptr 4 0)], .obj B, .obj X, .obj K, .obj G]
def sO (c n k : Int) (B X K G : Ob) : Ob := .mk (sM c n k B X K G)

theorem leaf_s {c n k : Int} {B X K G : Ob} {v : SV} {Q : SV → List (Chunk Ob) → Prop} (hu : VLe [0] v v) (hq : Q v [.obj (sO c n k B X K G)]) : ∃ r' m', Ent 1 ⟨[v], sM c n k B X K G⟩ ⟨[r'], m'⟩ ∧ Q r' m' :=
  leaf_obj (lmem := sM c n k B X K G) [1, 2, 3, 4] rfl rfl ⟨⟨rfl, rfl, rfl, rfl, rfl, rfl, rfl, trivial⟩, rfl, rfl, rfl, rfl, trivial⟩ hu rfl hq

end Go.Proofs.Ytiaceoomiflgcaa

end

section
namespace Go.Proofs.Ytiaceoomiflgcaa
open Go.V
set_option linter.unusedVariables false
set_option linter.unusedSimpArgs false
set_option maxRecDepth 100000
set_option maxHeartbeats 8000000

theorem sFence_w (c n k : Int) (B B' X K G : Ob) (j z x : Int)
    (hf : CallOK (O := Ob) PR n_bus_Bus_Fence [.ptr 0 0, .dv (.int .i64 j)] [.obj B] fun v m => v = .tup [.dv (.int .i64 z), .dv (.int .i64 0)] ∧ m = [.obj B'])
    (h1 : CallOK (O := Ob) PR n_gate_Gate_Epoch [.ptr 0 0, .dv (.int .i64 j)] [.obj G] fun v m => v = .tup [.dv (.int .i64 x), .dv (.int .i64 0)] ∧ m = [.obj G])
    (h2 : CallOK (O := Ob) PR n_gate_Gate_Up [.ptr 0 0, .dv (.int .i64 j)] [.obj G] fun v m => v = .dv (.bool true) ∧ m = [.obj G]) :
    CallOK (O := Ob) PR n_soc_Soc_Fence [.ptr 0 0, .dv (.int .i64 j)] [.obj (sO c n k B X K G)] fun v m => v = .tup [.dv (.int .i64 z), .dv (.int .i64 0)] ∧ m = [.obj (sO c n k B' X K G)] := by
  refine fn_walkv mixed fn_soc_Soc_Fence Ent.opn1 fun bin cmp un conv bnot beq band sel isel ofN toN inb nz nneg lt le room' slb add sub sbin scmp slen sget ssub addk pc pb pi pf ps mkok min_ ig aeq P hP hA hF Q hQ => ?_
  have hb : bnot true = false := by simp only [hF]; rfl
  cbv
  repeat' first
    | ((refine call_inl hP mixed hA code_soc_Soc_wrong fn_soc_Soc_wrong ?_); cbv)
    | (refine call_at hP [4] code_gate_Gate_Epoch (h1) rfl ?_ ?_ ?_; (focus ((repeat' (first | exact trivial | exact rfl | (intro _ _ _ _; exact rfl) | refine And.intro ?_ ?_)); done)); (focus (cbv; (try simp); done)); rintro _ _ ⟨rfl, rfl⟩ _; cbv)
    | (refine call_at hP [4] code_gate_Gate_Up (h2) rfl ?_ ?_ ?_; (focus ((repeat' (first | exact trivial | exact rfl | (intro _ _ _ _; exact rfl) | refine And.intro ?_ ?_)); done)); (focus (cbv; (try simp); done)); rintro _ _ ⟨rfl, rfl⟩ _; cbv)
    | ((rw [hb]); cbv)
    | (refine call_at hP [1] code_bus_Bus_Fence (hf) rfl ?_ ?_ ?_; (focus ((repeat' (first | exact trivial | exact rfl | (intro _ _ _ _; exact rfl) | refine And.intro ?_ ?_)); done)); (focus (cbv; (try simp); done)); rintro _ _ ⟨rfl, rfl⟩ _; cbv)
    | (refine Chk.mk trivial ?_; cbv)
    | (refine bc_true (by first | assumption | (simp (disch := omega) only [hF, natc, w64_in, shs]; first | done | assumption | omega | (simp only [natc] at *; omega))) ?_; cbv)
    | (refine bc_false (by first | assumption | (simp (disch := omega) only [hF, natc, w64_in, shs]; first | done | assumption | omega | (simp only [natc] at *; omega))) ?_; cbv)
    | (refine bc_split (fun h => ?_) (fun h => ?_) <;> (try simp (disch := omega) only [hF, natc, w64_in, shs] at h) <;> cbv)
  subst hQ
  exact leaf_s rfl ⟨rfl, rfl⟩

end Go.Proofs.Ytiaceoomiflgcaa

end

section
namespace Go.Proofs.Ytiaceoomiflgcaa
open Go.V
set_option linter.unusedVariables false
set_option linter.unusedSimpArgs false
set_option maxRecDepth 100000
set_option maxHeartbeats 8000000

end Go.Proofs.Ytiaceoomiflgcaa

end

section
namespace Go.Proofs.Ytiaceoomiflgcaa
open Go.V
set_option linter.unusedVariables false
set_option linter.unusedSimpArgs false
set_option maxRecDepth 100000
set_option maxHeartbeats 8000000

end Go.Proofs.Ytiaceoomiflgcaa

end

section
namespace Go.Proofs.Ytiaceoomiflgcaa
open Go.V
set_option linter.unusedVariables false
set_option linter.unusedSimpArgs false
set_option maxRecDepth 100000
set_option maxHeartbeats 8000000

theorem sNew_w (c n k mo : Int) (B K G : Ob) (PX : Ob → Prop) (hb : CallOK (O := Ob) PR n_bus_New [.dv (.int .i64 c), .dv (.int .i64 n), .dv (.int .i64 mo)] [] fun v m => v = .tup [.ptr 0 0, .dv (.int .i64 0)] ∧ m = [.obj B])
    (hr : CallOK (O := Ob) PR n_site_Right [.agg [.dv (.int .i64 c), .dv (.int .i64 n), .dv (.int .i64 k)]] [] fun v m => v = .dv (.bool true) ∧ m = [])
    (hx : CallOK (O := Ob) PR n_mbox_New [.dv (.int .i64 c)] [] fun v m => v = .ptr 0 0 ∧ ∃ X, PX X ∧ m = [.obj X])
    (hk : CallOK (O := Ob) PR n_locks_New [.dv (.int .i64 c), .dv (.int .i64 k)] [] fun v m => v = .ptr 0 0 ∧ m = [.obj K])
    (hg : CallOK (O := Ob) PR n_gate_New [.dv (.int .i64 c)] [] fun v m => v = .ptr 0 0 ∧ m = [.obj G]) :
    CallOK (O := Ob) PR n_soc_New [.agg [.dv (.int .i64 c), .dv (.int .i64 n), .dv (.int .i64 k)], .dv (.int .i64 mo)] [] fun v m => v = .tup [.ptr 0 0, .dv (.int .i64 0)] ∧ ∃ X, PX X ∧ m = [.obj (sO c n k B X K G)] := by
  refine fn_walkv mixed fn_soc_New (Ent.refl _ _) fun bin cmp un conv bnot beq band sel isel ofN toN inb nz nneg lt le room' slb add sub sbin scmp slen sget ssub addk pc pb pi pf ps mkok min_ ig aeq P hP hA hF Q hQ => ?_
  have hb0 : bnot true = false := by simp only [hF]; rfl
  cbv
  repeat' first
    | (refine call_at hP [] code_bus_New (hb) rfl ?_ ?_ ?_; (focus ((repeat' (first | exact trivial | exact rfl | (intro _ _ _ _; exact rfl) | refine And.intro ?_ ?_)); done)); (focus (cbv; (try simp); done)); rintro _ _ ⟨rfl, rfl⟩ _; cbv)
    | (refine call_pure hP code_site_Right (hr) ?_ ?_; (focus (cbv; (try simp); done)); rintro _ rfl; cbv)
    | ((rw [hb0]); cbv)
    | (refine call_at hP [] code_mbox_New (hx) rfl ?_ ?_ ?_; (focus ((repeat' (first | exact trivial | exact rfl | (intro _ _ _ _; exact rfl) | refine And.intro ?_ ?_)); done)); (focus (cbv; (try simp); done)); rintro _ _ ⟨rfl, X, hX, rfl⟩ _; cbv)
    | (refine call_at hP [] code_locks_New (hk) rfl ?_ ?_ ?_; (focus ((repeat' (first | exact trivial | exact rfl | (intro _ _ _ _; exact rfl) | refine And.intro ?_ ?_)); done)); (focus (cbv; (try simp); done)); rintro _ _ ⟨rfl, rfl⟩ _; cbv)
    | (refine call_at hP [] code_gate_New (hg) rfl ?_ ?_ ?_; (focus ((repeat' (first | exact trivial | exact rfl | (intro _ _ _ _; exact rfl) | refine And.intro ?_ ?_)); done)); (focus (cbv; (try simp); done)); rintro _ _ ⟨rfl, rfl⟩ _; cbv)
    | (refine Chk.mk trivial ?_; cbv)
    | (refine bc_true (by first | assumption | (simp (disch := omega) only [hF, natc, w64_in, shs]; first | done | assumption | omega | (simp only [natc] at *; omega))) ?_; cbv)
    | (refine bc_false (by first | assumption | (simp (disch := omega) only [hF, natc, w64_in, shs]; first | done | assumption | omega | (simp only [natc] at *; omega))) ?_; cbv)
    | (refine bc_split (fun h => ?_) (fun h => ?_) <;> (try simp (disch := omega) only [hF, natc, w64_in, shs] at h) <;> cbv)
  subst hQ
  refine ⟨.tup [.ptr 0 0, .dv (.int .i64 0)], [.obj (sO c n k B X K G)], ?_, rfl, X, hX, rfl⟩
  refine (Ent.ren (s' := ⟨[.tup [.ptr 0 0, .dv (.int .i64 0)]], sM c n k B X K G⟩) [5, 1, 2, 3, 4] rfl rfl ?_ ?_).trans (Ent.cls1 (env' := [.tup [.ptr 0 0, .dv (.int .i64 0)]]) [1, 2, 3, 4] (sM c n k B X K G) rfl rfl ?_ ⟨rfl, trivial⟩)
  · exact ⟨⟨rfl, rfl, rfl, rfl, rfl, rfl, rfl, trivial⟩, rfl, rfl, rfl, rfl, trivial⟩
  · exact ⟨rfl, trivial⟩
  · exact ⟨⟨rfl, rfl, rfl, rfl, rfl, rfl, rfl, trivial⟩, rfl, rfl, rfl, rfl, trivial⟩

end Go.Proofs.Ytiaceoomiflgcaa

end

section
namespace Go.Proofs.Ytiaceoomiflgcaa
open Go.V
set_option linter.unusedVariables false
set_option linter.unusedSimpArgs false
set_option maxRecDepth 100000
set_option maxHeartbeats 8000000

theorem clone_i (n : Nat) (r : Nat → Int) (hn : n ≤ 65536) : CallOK (O := Ob) PR n_slices_Clone_Sint_int [.vec 0] [.vec n 1 fun i _ => .dv (.int .i64 (r i))]
    fun v m => v = .vec 1 ∧ m = [.vec n 1 fun i _ => .dv (.int .i64 (r i)), .vec n 1 fun i _ => .dv (.int .i64 (r i))] := by
  refine fn_walkv mixed fn_slices_Clone_Sint_int (Ent.refl _ _) fun bin cmp un conv bnot beq band sel isel ofN toN inb nz nneg lt le room' slb add sub sbin scmp slen sget ssub addk pc pb pi pf ps mkok min_ ig aeq P hP hA hF Q hQ => ?_
  have hrm : room' (add 0 n) 8 := by simp [hF, maxN]; omega
  cbv
  repeat' first
    | ((refine Chk.mk hrm ?_); cbv)
    | (refine Chk.mk trivial ?_; cbv)
    | (refine bc_true (by first | assumption | (simp (disch := omega) only [hF, natc, w64_in, shs]; first | done | assumption | omega | (simp only [natc] at *; omega))) ?_; cbv)
    | (refine bc_false (by first | assumption | (simp (disch := omega) only [hF, natc, w64_in, shs]; first | done | assumption | omega | (simp only [natc] at *; omega))) ?_; cbv)
    | (refine bc_split (fun h => ?_) (fun h => ?_) <;> (try simp (disch := omega) only [hF, natc, w64_in, shs] at h) <;> cbv)
    | (refine IdxVC.mk (by simp (disch := omega) only [hF, natc, w64_in, shs]; first | done | omega | (simp only [natc] at *; omega)) (fun kx hk hk2 => ?_); simp (disch := omega) only [hF, natc, w64_in, shs] at hk; (try obtain rfl : kx = 0 := hk); cbv)
    | (refine Chk.mk (by simp (disch := omega) only [maxN, hF, natc, w64_in, shs]; first | done | assumption | omega | (simp only [natc] at *; omega)) ?_; cbv)
    | (intro (hmx : _ ≤ maxN); replace hmx : _ ≤ 140737488355328 := hmx; cbv)
    | (intro _; cbv)
  · have hn0 : n = 0 := by
      rcases Nat.eq_zero_or_pos n with h0 | h0
      · exact h0
      · simp_all
    subst hQ
    refine ⟨.vec 1, [.vec n 1 fun i _ => .dv (.int .i64 (r i)), .vec n 1 fun i _ => .dv (.int .i64 (r i))], ?_, rfl, rfl⟩
    exact (Ent.nilv 0 1 (fun i _ => .dv (.int .i64 (r i))) rfl).trans (Ent.ren [0, 1] rfl rfl ⟨⟨rfl, rfl, fun _ _ _ _ => rfl⟩, ⟨hn0.symm, rfl, fun _ _ _ _ => rfl⟩, trivial⟩ ⟨rfl, trivial⟩)
  · subst hQ
    refine ⟨.vec 1, [.vec n 1 fun i _ => .dv (.int .i64 (r i)), .vec n 1 fun i _ => .dv (.int .i64 (r i))], ?_, rfl, rfl⟩
    refine Ent.ren [0, 2] rfl rfl ⟨⟨rfl, rfl, fun _ _ _ _ => rfl⟩, ⟨by simp only [hF]; omega, rfl, fun i f hi hf => ?_⟩, trivial⟩ ⟨rfl, trivial⟩
    obtain rfl : f = 0 := by omega
    unfold appAt
    rw [if_neg (Nat.not_lt_zero _)]
    simp only [hF, Nat.sub_zero]
    rfl

end Go.Proofs.Ytiaceoomiflgcaa

end

section
namespace Go.Proofs.Ytiaceoomiflgcaa
open Go.V
set_option linter.unusedVariables false
set_option linter.unusedSimpArgs false
set_option maxRecDepth 100000
set_option maxHeartbeats 8000000

/-- What is asked of a gate. -/
def GEp (G : Ob) (j x e : Int) : Prop := CallOK (O := Ob) PR n_gate_Gate_Epoch [.ptr 0 0, .dv (.int .i64 j)] [.obj G] fun v m => v = .tup [.dv (.int .i64 x), .dv (.int .i64 e)] ∧ m = [.obj G]
def GUp (G : Ob) (j : Int) (b : Bool) : Prop := CallOK (O := Ob) PR n_gate_Gate_Up [.ptr 0 0, .dv (.int .i64 j)] [.obj G] fun v m => v = .dv (.bool b) ∧ m = [.obj G]
def DecW (c n k a : Int) (V : SV) : Prop := CallOK (O := Ob) PR n_site_Decode [.agg [.dv (.int .i64 c), .dv (.int .i64 n), .dv (.int .i64 k)], .dv (.int .i64 a)] [] fun v m => v = V ∧ m = []
/-- What the soc's own question answers, the soc lying open. -/
def AtW (c n k : Int) (B X K G : Ob) (j a x y z e : Int) : Prop :=
  CallOK (O := Ob) PR n_soc_Soc_at [.ptr 0 0, .dv (.int .i64 j), .dv (.int .i64 a)] (sM c n k B X K G) fun v m => v = .tup [.agg [.dv (.int .i64 x), .dv (.int .i64 y), .dv (.int .i64 z)], .dv (.int .i64 e)] ∧ m = sM c n k B X K G

theorem leaf_at {c n k : Int} {B X K G : Ob} {v : SV} {mem : List (Chunk Ob)} {Q : SV → List (Chunk Ob) → Prop} (hm : MLe [0, 1, 2, 3, 4] mem [0, 1, 2, 3, 4] (sM c n k B X K G)) (hu : VLe [0, 1, 2, 3, 4] v v) (hq : Q v (sM c n k B X K G)) : ∃ r' m', Ent 5 ⟨[v], mem⟩ ⟨[r'], m'⟩ ∧ Q r' m' :=
  ⟨v, _, Ent.ren [0, 1, 2, 3, 4] rfl rfl hm ⟨hu, trivial⟩, hq⟩

theorem leaf_sr {c n k : Int} {B X K G : Ob} {v : SV} {mem : List (Chunk Ob)} {Q : SV → List (Chunk Ob) → Prop} (hm : mem.take 5 = sM c n k B X K G) (hu : VLe [0] v v) (hq : Q v [.obj (sO c n k B X K G)]) : ∃ r' m', Ent 1 ⟨[v], mem⟩ ⟨[r'], m'⟩ ∧ Q r' m' := by
  have e : mem = sM c n k B X K G ++ mem.drop 5 := by rw [← hm, List.take_append_drop]
  rw [e]
  exact leaf_obj (lmem := sM c n k B X K G) [1, 2, 3, 4] rfl rfl ⟨⟨rfl, rfl, rfl, rfl, rfl, rfl, rfl, trivial⟩, rfl, rfl, rfl, rfl, trivial⟩ hu rfl hq

theorem at_ok (c n k : Int) (B X K G : Ob) (j a u x y z : Int) (h1 : GEp G j u 0) (h2 : GUp G j true) (hd : DecW c n k a (.tup [.agg [.dv (.int .i64 x), .dv (.int .i64 y), .dv (.int .i64 z)], .dv (.bool true)])) : AtW c n k B X K G j a x y z 0 := by
  unfold GEp at h1; unfold GUp at h2; unfold DecW at hd; unfold AtW sM
  refine fn_walkv mixed fn_soc_Soc_at (Ent.refl _ _) fun bin cmp un conv bnot beq band sel isel ofN toN inb nz nneg lt le room' slb add sub sbin scmp slen sget ssub addk pc pb pi pf ps mkok min_ ig aeq P hP hA hF Q hQ => ?_
  have hb : bnot true = false := by simp only [hF]; rfl
  cbv
  repeat' first
    | ((refine call_inl hP mixed hA code_soc_Soc_wrong fn_soc_Soc_wrong ?_); cbv)
    | (refine call_at hP [4] code_gate_Gate_Epoch (h1) rfl ?_ ?_ ?_; (focus ((repeat' (first | exact trivial | exact rfl | (intro _ _ _ _; exact rfl) | refine And.intro ?_ ?_)); done)); (focus (cbv; (try simp); done)); rintro _ _ ⟨rfl, rfl⟩ _; cbv)
    | (refine call_at hP [4] code_gate_Gate_Up (h2) rfl ?_ ?_ ?_; (focus ((repeat' (first | exact trivial | exact rfl | (intro _ _ _ _; exact rfl) | refine And.intro ?_ ?_)); done)); (focus (cbv; (try simp); done)); rintro _ _ ⟨rfl, rfl⟩ _; cbv)
    | ((rw [hb]); cbv)
    | (refine call_pure hP code_site_Decode (hd) ?_ ?_; (focus (cbv; (try simp); done)); rintro _ rfl; cbv)
    | (refine Chk.mk trivial ?_; cbv)
    | (refine bc_true (by first | assumption | (simp (disch := omega) only [hF, natc, w64_in, shs]; first | done | assumption | omega | (simp only [natc] at *; omega))) ?_; cbv)
    | (refine bc_false (by first | assumption | (simp (disch := omega) only [hF, natc, w64_in, shs]; first | done | assumption | omega | (simp only [natc] at *; omega))) ?_; cbv)
    | (refine bc_split (fun h => ?_) (fun h => ?_) <;> (try simp (disch := omega) only [hF, natc, w64_in, shs] at h) <;> cbv)
  subst hQ
  exact leaf_at ⟨⟨rfl, rfl, rfl, rfl, rfl, rfl, rfl, trivial⟩, rfl, rfl, rfl, rfl, trivial⟩ rfl ⟨rfl, rfl⟩

end Go.Proofs.Ytiaceoomiflgcaa

end

section
namespace Go.Proofs.Ytiaceoomiflgcaa
open Go.V
set_option linter.unusedVariables false
set_option linter.unusedSimpArgs false
set_option maxRecDepth 100000
set_option maxHeartbeats 8000000

/-- A fence of a bus; some mailboxes' answers. -/
def BFen (B B' : Ob) (j : Int) : Prop := CallOK (O := Ob) PR n_bus_Bus_Fence [.ptr 0 0, .dv (.int .i64 j)] [.obj B] fun v m => (∃ z, v = .tup [.dv (.int .i64 z), .dv (.int .i64 0)]) ∧ m = [.obj B']

theorem sRead_ram (c n k : Int) (B X K G : Ob) (j a y z w e : Int) (ha : AtW c n k B X K G j a 1 y z 0)
    (hb : CallOK (O := Ob) PR n_bus_Bus_Load [.ptr 0 0, .dv (.int .i64 j), .dv (.int .i64 a)] [.obj B] fun v m => v = .tup [.dv (.int .i64 w), .dv (.int .i64 e)] ∧ m = [.obj B]) :
    CallOK (O := Ob) PR n_soc_Soc_Read [.ptr 0 0, .dv (.int .i64 j), .dv (.int .i64 a)] [.obj (sO c n k B X K G)] fun v m => v = .tup [.dv (.int .i64 w), .dv (.int .i64 e)] ∧ m = [.obj (sO c n k B X K G)] := by
  unfold AtW sM at ha
  refine fn_walkv mixed fn_soc_Soc_Read Ent.opn1 fun bin cmp un conv bnot beq band sel isel ofN toN inb nz nneg lt le room' slb add sub sbin scmp slen sget ssub addk pc pb pi pf ps mkok min_ ig aeq P hP hA hF Q hQ => ?_
  cbv
  repeat' first
    | (refine call_at hP [0, 1, 2, 3, 4] code_soc_Soc_at (ha) rfl ?_ ?_ ?_; (focus ((repeat' (first | exact trivial | exact rfl | (intro _ _ _ _; exact rfl) | refine And.intro ?_ ?_)); done)); (focus (cbv; (try simp); done)); rintro _ _ ⟨rfl, rfl⟩ _; cbv)
    | (refine call_at hP [1] code_bus_Bus_Load (hb) rfl ?_ ?_ ?_; (focus ((repeat' (first | exact trivial | exact rfl | (intro _ _ _ _; exact rfl) | refine And.intro ?_ ?_)); done)); (focus (cbv; (try simp); done)); rintro _ _ ⟨rfl, rfl⟩ _; cbv)
    | (refine Chk.mk trivial ?_; cbv)
    | (refine bc_true (by first | assumption | (simp (disch := omega) only [hF, natc, w64_in, shs]; first | done | assumption | omega | (simp only [natc] at *; omega))) ?_; cbv)
    | (refine bc_false (by first | assumption | (simp (disch := omega) only [hF, natc, w64_in, shs]; first | done | assumption | omega | (simp only [natc] at *; omega))) ?_; cbv)
    | (refine bc_split (fun h => ?_) (fun h => ?_) <;> (try simp (disch := omega) only [hF, natc, w64_in, shs] at h) <;> cbv)
  subst hQ
  exact leaf_sr rfl rfl ⟨rfl, rfl⟩

theorem sRead_lock (c n k : Int) (B B' X K K' G : Ob) (j a y z : Int) (b : Bool) (ha : AtW c n k B X K G j a 3 y z 0) (hf : BFen B B' j)
    (hx : CallOK (O := Ob) PR n_locks_Bank_Try [.ptr 0 0, .dv (.int .i64 j), .dv (.int .i64 y)] [.obj K] fun v m => v = .tup [.dv (.bool b), .dv (.int .i64 0)] ∧ m = [.obj K']) :
    CallOK (O := Ob) PR n_soc_Soc_Read [.ptr 0 0, .dv (.int .i64 j), .dv (.int .i64 a)] [.obj (sO c n k B X K G)] fun v m => v = .tup [.dv (.int .i64 (if b = true then 1 else 0)), .dv (.int .i64 0)] ∧ m = [.obj (sO c n k B' X K' G)] := by
  unfold AtW sM at ha; unfold BFen at hf
  cases b
  · refine fn_walkv mixed fn_soc_Soc_Read Ent.opn1 fun bin cmp un conv bnot beq band sel isel ofN toN inb nz nneg lt le room' slb add sub sbin scmp slen sget ssub addk pc pb pi pf ps mkok min_ ig aeq P hP hA hF Q hQ => ?_
    cbv
    repeat' first
      | (refine call_at hP [0, 1, 2, 3, 4] code_soc_Soc_at (ha) rfl ?_ ?_ ?_; (focus ((repeat' (first | exact trivial | exact rfl | (intro _ _ _ _; exact rfl) | refine And.intro ?_ ?_)); done)); (focus (cbv; (try simp); done)); rintro _ _ ⟨rfl, rfl⟩ _; cbv)
      | (refine call_at hP [1] code_bus_Bus_Fence (hf) rfl ?_ ?_ ?_; (focus ((repeat' (first | exact trivial | exact rfl | (intro _ _ _ _; exact rfl) | refine And.intro ?_ ?_)); done)); (focus (cbv; (try simp); done)); rintro _ _ ⟨⟨z, rfl⟩, rfl⟩ _; cbv)
      | ((refine call_inl hP mixed hA code_soc_Soc_register fn_soc_Soc_register ?_); cbv)
      | (refine call_at hP [3] code_locks_Bank_Try (hx) rfl ?_ ?_ ?_; (focus ((repeat' (first | exact trivial | exact rfl | (intro _ _ _ _; exact rfl) | refine And.intro ?_ ?_)); done)); (focus (cbv; (try simp); done)); rintro _ _ ⟨rfl, rfl⟩ _; cbv)
      | (refine Chk.mk trivial ?_; cbv)
      | (refine bc_true (by first | assumption | (simp (disch := omega) only [hF, natc, w64_in, shs]; first | done | assumption | omega | (simp only [natc] at *; omega))) ?_; cbv)
      | (refine bc_false (by first | assumption | (simp (disch := omega) only [hF, natc, w64_in, shs]; first | done | assumption | omega | (simp only [natc] at *; omega))) ?_; cbv)
      | (refine bc_split (fun h => ?_) (fun h => ?_) <;> (try simp (disch := omega) only [hF, natc, w64_in, shs] at h) <;> cbv)
    subst hQ
    exact leaf_sr rfl rfl ⟨rfl, rfl⟩
  · refine fn_walkv mixed fn_soc_Soc_Read Ent.opn1 fun bin cmp un conv bnot beq band sel isel ofN toN inb nz nneg lt le room' slb add sub sbin scmp slen sget ssub addk pc pb pi pf ps mkok min_ ig aeq P hP hA hF Q hQ => ?_
    cbv
    repeat' first
      | (refine call_at hP [0, 1, 2, 3, 4] code_soc_Soc_at (ha) rfl ?_ ?_ ?_; (focus ((repeat' (first | exact trivial | exact rfl | (intro _ _ _ _; exact rfl) | refine And.intro ?_ ?_)); done)); (focus (cbv; (try simp); done)); rintro _ _ ⟨rfl, rfl⟩ _; cbv)
      | (refine call_at hP [1] code_bus_Bus_Fence (hf) rfl ?_ ?_ ?_; (focus ((repeat' (first | exact trivial | exact rfl | (intro _ _ _ _; exact rfl) | refine And.intro ?_ ?_)); done)); (focus (cbv; (try simp); done)); rintro _ _ ⟨⟨z, rfl⟩, rfl⟩ _; cbv)
      | ((refine call_inl hP mixed hA code_soc_Soc_register fn_soc_Soc_register ?_); cbv)
      | (refine call_at hP [3] code_locks_Bank_Try (hx) rfl ?_ ?_ ?_; (focus ((repeat' (first | exact trivial | exact rfl | (intro _ _ _ _; exact rfl) | refine And.intro ?_ ?_)); done)); (focus (cbv; (try simp); done)); rintro _ _ ⟨rfl, rfl⟩ _; cbv)
      | (refine Chk.mk trivial ?_; cbv)
      | (refine bc_true (by first | assumption | (simp (disch := omega) only [hF, natc, w64_in, shs]; first | done | assumption | omega | (simp only [natc] at *; omega))) ?_; cbv)
      | (refine bc_false (by first | assumption | (simp (disch := omega) only [hF, natc, w64_in, shs]; first | done | assumption | omega | (simp only [natc] at *; omega))) ?_; cbv)
      | (refine bc_split (fun h => ?_) (fun h => ?_) <;> (try simp (disch := omega) only [hF, natc, w64_in, shs] at h) <;> cbv)
    subst hQ
    exact leaf_sr rfl rfl ⟨rfl, rfl⟩

end Go.Proofs.Ytiaceoomiflgcaa

end

section
namespace Go.Proofs.Ytiaceoomiflgcaa
open Go.V
set_option linter.unusedVariables false
set_option linter.unusedSimpArgs false
set_option maxRecDepth 100000
set_option maxHeartbeats 8000000

def WordW (w x : Int) : Prop := CallOK (O := Ob) PR n_wrap_Word [.dv (.int .i64 w)] [] fun v m => v = .dv (.int .i64 x) ∧ m = []
def SWr (c n k : Int) (B X K G : Ob) (j a w : Int) (Q : SV → List (Chunk Ob) → Prop) : Prop := CallOK (O := Ob) PR n_soc_Soc_Write [.ptr 0 0, .dv (.int .i64 j), .dv (.int .i64 a), .dv (.int .i64 w)] [.obj (sO c n k B X K G)] Q

theorem sWrite_ram (c n k : Int) (B B' X K G : Ob) (j a w y z e : Int) (hw : WordW w w) (ha : AtW c n k B X K G j a 1 y z 0)
    (hb : CallOK (O := Ob) PR n_bus_Bus_Store [.ptr 0 0, .dv (.int .i64 j), .dv (.int .i64 a), .dv (.int .i64 w)] [.obj B] fun v m => v = .dv (.int .i64 e) ∧ m = [.obj B']) :
    SWr c n k B X K G j a w fun v m => v = .dv (.int .i64 e) ∧ m = [.obj (sO c n k B' X K G)] := by
  unfold AtW sM at ha; unfold SWr; unfold WordW at hw
  refine fn_walkv mixed fn_soc_Soc_Write Ent.opn1 fun bin cmp un conv bnot beq band sel isel ofN toN inb nz nneg lt le room' slb add sub sbin scmp slen sget ssub addk pc pb pi pf ps mkok min_ ig aeq P hP hA hF Q hQ => ?_
  have hb0 : bnot true = false := by simp only [hF]; rfl
  have hg : cmp .neq w w = false := by simp only [hF]; simp
  cbv
  repeat' first
    | (refine call_at hP [0, 1, 2, 3, 4] code_soc_Soc_at (ha) rfl ?_ ?_ ?_; (focus ((repeat' (first | exact trivial | exact rfl | (intro _ _ _ _; exact rfl) | refine And.intro ?_ ?_)); done)); (focus (cbv; (try simp); done)); rintro _ _ ⟨rfl, rfl⟩ _; cbv)
    | ((refine call_inl hP mixed hA code_soc_may fn_soc_may ?_); cbv)
    | ((rw [hb0]); cbv)
    | ((rw [hg]); cbv)
    | (refine call_pure hP code_wrap_Word (hw) ?_ ?_; (focus (cbv; (try simp); done)); rintro _ rfl; cbv)
    | (refine call_at hP [1] code_bus_Bus_Store (hb) rfl ?_ ?_ ?_; (focus ((repeat' (first | exact trivial | exact rfl | (intro _ _ _ _; exact rfl) | refine And.intro ?_ ?_)); done)); (focus (cbv; (try simp); done)); rintro _ _ ⟨rfl, rfl⟩ _; cbv)
    | (refine Chk.mk trivial ?_; cbv)
    | (refine bc_true (by first | assumption | (simp (disch := omega) only [hF, natc, w64_in, shs]; first | done | assumption | omega | (simp only [natc] at *; omega))) ?_; cbv)
    | (refine bc_false (by first | assumption | (simp (disch := omega) only [hF, natc, w64_in, shs]; first | done | assumption | omega | (simp only [natc] at *; omega))) ?_; cbv)
    | (refine bc_split (fun h => ?_) (fun h => ?_) <;> (try simp (disch := omega) only [hF, natc, w64_in, shs] at h) <;> cbv)
  subst hQ
  exact leaf_sr rfl rfl ⟨rfl, rfl⟩

theorem sWrite_lock (c n k : Int) (B B' X K K' G : Ob) (j a w y z : Int) (hw : WordW w w) (ha : AtW c n k B X K G j a 3 y z 0)
    (hb : CallOK (O := Ob) PR n_locks_Bank_Owner [.ptr 0 0, .dv (.int .i64 y)] [.obj K] fun v m => v = .tup [.dv (.int .i64 j), .dv (.int .i64 0)] ∧ m = [.obj K])
    (hf : CallOK (O := Ob) PR n_bus_Bus_Fence [.ptr 0 0, .dv (.int .i64 j)] [.obj B] fun v m => (∃ z, v = .tup [.dv (.int .i64 z), .dv (.int .i64 0)]) ∧ m = [.obj B'])
    (hr : CallOK (O := Ob) PR n_locks_Bank_Free [.ptr 0 0, .dv (.int .i64 j), .dv (.int .i64 y)] [.obj K] fun v m => v = .dv (.int .i64 0) ∧ m = [.obj K']) :
    SWr c n k B X K G j a w fun v m => v = .dv (.int .i64 0) ∧ m = [.obj (sO c n k B' X K' G)] := by
  unfold AtW sM at ha; unfold SWr; unfold WordW at hw
  refine fn_walkv mixed fn_soc_Soc_Write Ent.opn1 fun bin cmp un conv bnot beq band sel isel ofN toN inb nz nneg lt le room' slb add sub sbin scmp slen sget ssub addk pc pb pi pf ps mkok min_ ig aeq P hP hA hF Q hQ => ?_
  have hb0 : bnot true = false := by simp only [hF]; rfl
  have hg : cmp .neq w w = false := by simp only [hF]; simp
  have hg2 : cmp .neq j j = false := by simp only [hF]; simp
  cbv
  repeat' first
    | (refine call_at hP [0, 1, 2, 3, 4] code_soc_Soc_at (ha) rfl ?_ ?_ ?_; (focus ((repeat' (first | exact trivial | exact rfl | (intro _ _ _ _; exact rfl) | refine And.intro ?_ ?_)); done)); (focus (cbv; (try simp); done)); rintro _ _ ⟨rfl, rfl⟩ _; cbv)
    | ((refine call_inl hP mixed hA code_soc_may fn_soc_may ?_); cbv)
    | ((rw [hb0]); cbv)
    | ((rw [hg]); cbv)
    | ((rw [hg2]); cbv)
    | (refine call_pure hP code_wrap_Word (hw) ?_ ?_; (focus (cbv; (try simp); done)); rintro _ rfl; cbv)
    | (refine call_at hP [3] code_locks_Bank_Owner (hb) rfl ?_ ?_ ?_; (focus ((repeat' (first | exact trivial | exact rfl | (intro _ _ _ _; exact rfl) | refine And.intro ?_ ?_)); done)); (focus (cbv; (try simp); done)); rintro _ _ ⟨rfl, rfl⟩ _; cbv)
    | (refine call_at hP [1] code_bus_Bus_Fence (hf) rfl ?_ ?_ ?_; (focus ((repeat' (first | exact trivial | exact rfl | (intro _ _ _ _; exact rfl) | refine And.intro ?_ ?_)); done)); (focus (cbv; (try simp); done)); rintro _ _ ⟨⟨z, rfl⟩, rfl⟩ _; cbv)
    | (refine call_at hP [3] code_locks_Bank_Free (hr) rfl ?_ ?_ ?_; (focus ((repeat' (first | exact trivial | exact rfl | (intro _ _ _ _; exact rfl) | refine And.intro ?_ ?_)); done)); (focus (cbv; (try simp); done)); rintro _ _ ⟨rfl, rfl⟩ _; cbv)
    | (refine Chk.mk trivial ?_; cbv)
    | (refine bc_true (by first | assumption | (simp (disch := omega) only [hF, natc, w64_in, shs]; first | done | assumption | omega | (simp only [natc] at *; omega))) ?_; cbv)
    | (refine bc_false (by first | assumption | (simp (disch := omega) only [hF, natc, w64_in, shs]; first | done | assumption | omega | (simp only [natc] at *; omega))) ?_; cbv)
    | (refine bc_split (fun h => ?_) (fun h => ?_) <;> (try simp (disch := omega) only [hF, natc, w64_in, shs] at h) <;> cbv)
  subst hQ
  exact leaf_sr rfl rfl ⟨rfl, rfl⟩

end Go.Proofs.Ytiaceoomiflgcaa

end

section
namespace Go.Proofs.Ytiaceoomiflgcaa
open Go.V
set_option linter.unusedVariables false
set_option linter.unusedSimpArgs false
set_option maxRecDepth 100000
set_option maxHeartbeats 8000000

end Go.Proofs.Ytiaceoomiflgcaa

end

section
namespace Go.Proofs.Ytiaceoomiflgcaa
open Go.V
set_option linter.unusedVariables false
set_option linter.unusedSimpArgs false
set_option maxRecDepth 100000
set_option maxHeartbeats 8000000

/-- A soc: cores, words, locks; its bus, its mailboxes, the locks' owners, the epochs, which cores are held. -/
structure SocS where
  c : Nat
  n : Nat
  k : Nat
  B : BusS
  X : BoxS
  ow : Nat → Int
  ep : Nat → Int
  hd : Nat → Bool

noncomputable def socO (S : SocS) : Ob := sO S.c S.n S.k (busO S.B) (boxO S.X) (kO S.c S.k S.ow) (gO S.c S.ep S.hd)

structure SocS.ok (S : SocS) : Prop where
  hc : 1 ≤ S.c ∧ S.c ≤ 8
  hn : 1 ≤ S.n ∧ S.n ≤ 65536
  hk : 1 ≤ S.k ∧ S.k ≤ 16
  hB : S.B.ok
  hBc : S.B.cores = S.c
  hBn : S.B.n = S.n
  hX : S.X.ok
  hXc : S.X.cores = S.c
  how : ∀ i, 0 ≤ S.ow i ∧ S.ow i ≤ S.c
  hep : ∀ j, 0 ≤ S.ep j ∧ S.ep j ≤ 65535
  hhd : ∀ j, j < S.c → S.hd j = true → S.B.bufs j = [] ∧ ∀ i, S.ow i ≠ (j : Int) + 1

/-- A later state of the same soc. -/
def Nxt (S S' : SocS) : Prop := S'.ok ∧ S'.c = S.c ∧ S'.n = S.n ∧ S'.k = S.k
theorem Nxt.refl {S : SocS} (h : S.ok) : Nxt S S := ⟨h, rfl, rfl, rfl⟩

/-- Some mailboxes, as many. -/
def isBox (c : Nat) (X : Ob) : Prop := ∃ S : BoxS, S.ok ∧ S.cores = c ∧ X = boxO S
theorem someBox.is {c : Nat} {m : List (Chunk Ob)} (h : someBox c m) : ∃ X, isBox c X ∧ m = [.obj X] := by
  obtain ⟨S, h1, h2, h3⟩ := h
  exact ⟨_, ⟨S, h1, h2, rfl⟩, h3⟩

/-- What an address means, surely. -/
theorem dec_ram (c n k : Nat) (a : Nat) (hc : 1 ≤ c ∧ c ≤ 8) (hn : 1 ≤ n ∧ n ≤ 65536) (hk : 1 ≤ k ∧ k ≤ 16) (ha : a < n) :
    DecW c n k a (.tup [.agg [.dv (.int .i64 1), .dv (.int .i64 0), .dv (.int .i64 a)], .dv (.bool true)]) := by
  have h := ok_Decode c n k a (by omega) (by omega) (by omega) (by omega)
  have hb : decB c n k a = true := by unfold decB; rw [if_pos (by omega)]; exact decide_eq_true (by omega)
  have e1 : decX a = 1 := if_pos (by omega)
  have e2 : decY a = 0 := if_pos (by omega)
  have e3 : decZ a = (a : Int) := if_pos (by omega)
  rw [hb, e1, e2, e3] at h
  exact h

theorem dec_lock (c n k : Nat) (y : Nat) (hc : 1 ≤ c ∧ c ≤ 8) (hn : 1 ≤ n ∧ n ≤ 65536) (hk : 1 ≤ k ∧ k ≤ 16) (hy : y < k) :
    DecW c n k (65792 + y) (.tup [.agg [.dv (.int .i64 3), .dv (.int .i64 y), .dv (.int .i64 0)], .dv (.bool true)]) := by
  have h := ok_Decode c n k (65792 + y) (by omega) (by omega) (by omega) (by omega)
  have hb : decB c n k (65792 + y) = true := by unfold decB; rw [if_neg (by omega), if_neg (by omega), if_pos (by omega)]; exact decide_eq_true (by omega)
  have e1 : decX (65792 + y) = 3 := by unfold decX; rw [if_neg (by omega), if_neg (by omega), if_pos (by omega)]
  have e2 : decY (65792 + y) = (y : Int) := by unfold decY; rw [if_neg (by omega), if_neg (by omega), if_pos (by omega)]; omega
  have e3 : decZ (65792 + y) = 0 := by unfold decZ; rw [if_neg (by omega), if_neg (by omega)]
  rw [hb, e1, e2, e3] at h
  exact h

def AtS (S : SocS) (j a x y z e : Int) : Prop := AtW S.c S.n S.k (busO S.B) (boxO S.X) (kO S.c S.k S.ow) (gO S.c S.ep S.hd) j a x y z e

theorem atS_ok (S : SocS) (hS : S.ok) (j : Nat) (a x y z : Int) (hj : j < S.c) (hh : S.hd j = false)
    (hd : DecW S.c S.n S.k a (.tup [.agg [.dv (.int .i64 x), .dv (.int .i64 y), .dv (.int .i64 z)], .dv (.bool true)])) : AtS S j a x y z 0 := by
  have h2 := gUp_in S.c S.ep S.hd hS.hc.2 j hj
  rw [hh] at h2
  exact at_ok _ _ _ _ _ _ _ j a _ x y z (gEpoch_in S.c S.ep S.hd hS.hc.2 j hj) h2 hd

end Go.Proofs.Ytiaceoomiflgcaa

end

section
namespace Go.Proofs.Ytiaceoomiflgcaa
open Go.V
set_option linter.unusedVariables false
set_option linter.unusedSimpArgs false
set_option maxRecDepth 100000
set_option maxHeartbeats 8000000

def Tot (S : SocS) (f : FuncId) (args : List SV) (R : SV → Prop) : Prop := CallOK (O := Ob) PR f args [.obj (socO S)] fun v m => R v ∧ ∃ S', Nxt S S' ∧ m = [.obj (socO S')]

theorem Nxt.trans {S T U : SocS} (h : Nxt S T) (k : Nxt T U) : Nxt S U := ⟨k.1, k.2.1.trans h.2.1, k.2.2.1.trans h.2.2.1, k.2.2.2.trans h.2.2.2⟩

theorem SocS.ok.setB {S : SocS} (hS : S.ok) (B : BusS) (h1 : B.ok) (h2 : B.cores = S.B.cores) (h3 : B.n = S.B.n) (h4 : ∀ i, i < S.c → S.hd i = true → B.bufs i = []) : Nxt S { S with B := B } :=
  ⟨⟨hS.hc, hS.hn, hS.hk, h1, h2.trans hS.hBc, h3.trans hS.hBn, hS.hX, hS.hXc, hS.how, hS.hep, fun j hj hh => ⟨h4 j hj hh, (hS.hhd j hj hh).2⟩⟩, rfl, rfl, rfl⟩
theorem SocS.ok.setX {S : SocS} (hS : S.ok) (X : BoxS) (h1 : X.ok) (h2 : X.cores = S.c) : Nxt S { S with X := X } :=
  ⟨⟨hS.hc, hS.hn, hS.hk, hS.hB, hS.hBc, hS.hBn, h1, h2, hS.how, hS.hep, hS.hhd⟩, rfl, rfl, rfl⟩
theorem SocS.ok.setK {S : SocS} (hS : S.ok) (ow : Nat → Int) (h1 : ∀ i, 0 ≤ ow i ∧ ow i ≤ S.c) (h2 : ∀ j, j < S.c → S.hd j = true → ∀ i, ow i ≠ (j : Int) + 1) : Nxt S { S with ow := ow } :=
  ⟨⟨hS.hc, hS.hn, hS.hk, hS.hB, hS.hBc, hS.hBn, hS.hX, hS.hXc, h1, hS.hep, fun j hj hh => ⟨(hS.hhd j hj hh).1, h2 j hj hh⟩⟩, rfl, rfl, rfl⟩

/-- The stores of a core go out. -/
def BusS.fen (B : BusS) (j : Nat) : BusS := B.upd (rputs B.r (B.bufs j)) j []
def SocS.fen (S : SocS) (j : Nat) : SocS := { S with B := S.B.fen j }

theorem SocS.ok.fen {S : SocS} (hS : S.ok) (j : Nat) (hj : j < S.c) : Nxt S (S.fen j) := by
  refine hS.setB _ (S.B.fence_ok hS.hB j (by rw [hS.hBc]; exact hj)) rfl rfl fun i hi hh => ?_
  show (if i = j then [] else S.B.bufs i) = []
  split
  · rfl
  · exact (hS.hhd i hi hh).1

theorem bfen (S : SocS) (hS : S.ok) (j : Nat) (hj : j < S.c) : BFen (busO S.B) (busO (S.fen j).B) j :=
  (busFence S.B hS.hB j (by rw [hS.hBc]; exact hj)).mono fun v m ⟨hv, hm⟩ => ⟨⟨_, hv⟩, hm⟩

/-- Behind a call that changed the mailboxes too. -/
theorem Nxt.box {S T : SocS} (h : Nxt S T) {X : Ob} (hX : isBox S.c X) : ∃ S', Nxt S S' ∧ S'.B = T.B ∧ S'.ow = T.ow ∧ S'.ep = T.ep ∧ S'.hd = T.hd ∧ socO S' = sO T.c T.n T.k (busO T.B) X (kO T.c T.k T.ow) (gO T.c T.ep T.hd) := by
  obtain ⟨Z, h1, h2, rfl⟩ := hX
  exact ⟨_, h.trans (h.1.setX Z h1 (h2.trans h.2.1.symm)), rfl, rfl, rfl, rfl, rfl⟩

/-- A core gets a lock, if it is free. -/
theorem lock_try (S : SocS) (hS : S.ok) (j y : Nat) (hj : j < S.c) (hh : S.hd j = false) (hy : y < S.k) : ∃ (b : Bool) (ow : Nat → Int), Nxt S { S with ow := ow } ∧
    ((b = true ∧ S.ow y = 0 ∧ ow = fun i => if i = y then (j : Int) + 1 else S.ow i) ∨ (b = false ∧ S.ow y ≠ 0 ∧ ow = S.ow)) ∧
    CallOK (O := Ob) PR n_locks_Bank_Try [.ptr 0 0, .dv (.int .i64 j), .dv (.int .i64 y)] [.obj (kO S.c S.k S.ow)] fun v m => v = .tup [.dv (.bool b), .dv (.int .i64 0)] ∧ m = [.obj (kO S.c S.k ow)] := by
  by_cases h0 : S.ow y = 0
  · refine ⟨true, _, ?_, .inl ⟨rfl, h0, rfl⟩, kTry0 S.c S.k S.ow hS.hc.2 hS.hk.2 j y hj hy h0⟩
    refine hS.setK _ (fun i => ?_) fun i hi hhi t => ?_
    · show 0 ≤ (if i = y then (j : Int) + 1 else S.ow i) ∧ (if i = y then (j : Int) + 1 else S.ow i) ≤ S.c
      split
      · omega
      · exact hS.how i
    · show (if t = y then (j : Int) + 1 else S.ow t) ≠ (i : Int) + 1
      split
      · intro e
        obtain rfl : j = i := by omega
        rw [hh] at hhi; cases hhi
      · exact (hS.hhd i hi hhi).2 t
  · exact ⟨false, S.ow, Nxt.refl hS, .inr ⟨rfl, h0, rfl⟩, kTry1 S.c S.k S.ow hS.hc.2 hS.hk.2 j y hj hy h0⟩

def One (v : SV) : Prop := ∃ e, v = .dv (.int .i64 e)

end Go.Proofs.Ytiaceoomiflgcaa

end

section
namespace Go.Proofs.Ytiaceoomiflgcaa
open Go.V
set_option linter.unusedVariables false
set_option linter.unusedSimpArgs false
set_option maxRecDepth 100000
set_option maxHeartbeats 8000000

theorem wordW_in (w : Int) (hw : 0 ≤ w ∧ w ≤ 65535) : WordW w w := word_in w hw

theorem BusS.store_buf (S : BusS) (j a w i : Nat) (hi : i ≠ j) : (S.store j a w).bufs i = S.bufs i := by
  unfold BusS.store; split <;> exact if_neg hi

theorem SocS.ok.store {S : SocS} (hS : S.ok) (j a w : Nat) (hj : j < S.c) (hh : S.hd j = false) (ha : a < S.n) (hw : w ≤ 65535) : Nxt S { S with B := S.B.store j a w } := by
  refine hS.setB _ (S.B.store_ok hS.hB j a w (by rw [hS.hBc]; exact hj) (by rw [hS.hBn]; exact ha) hw) ?_ ?_ fun i hi hhi => ?_
  · unfold BusS.store; split <;> rfl
  · unfold BusS.store; split <;> rfl
  · rw [S.B.store_buf j a w i fun e => by subst e; rw [hh] at hhi; cases hhi]
    exact (hS.hhd i hi hhi).1

theorem SocS.ok.free {S : SocS} (hS : S.ok) (y : Nat) : Nxt S { S with ow := fun t => if t = y then 0 else S.ow t } := by
  refine hS.setK _ (fun t => ?_) fun i hi hhi t => ?_
  · show 0 ≤ (if t = y then (0 : Int) else S.ow t) ∧ (if t = y then (0 : Int) else S.ow t) ≤ S.c
    split
    · omega
    · exact hS.how t
  · show (if t = y then (0 : Int) else S.ow t) ≠ (i : Int) + 1
    split
    · omega
    · exact (hS.hhd i hi hhi).2 t

end Go.Proofs.Ytiaceoomiflgcaa

end

section
namespace Go.Proofs.Ytiaceoomiflgcaa
open Go.V
set_option linter.unusedVariables false
set_option linter.unusedSimpArgs false
set_option maxRecDepth 100000
set_option maxHeartbeats 8000000

end Go.Proofs.Ytiaceoomiflgcaa

end

section
namespace Go.Proofs.Ytiaceoomiflgcaa
open Go.V
set_option linter.unusedVariables false
set_option linter.unusedSimpArgs false
set_option maxRecDepth 100000
set_option maxHeartbeats 8000000

/-- A core is started: its epoch is one more. -/
def SocS.started (S : SocS) (j : Nat) : SocS := { S with ep := fun i => if i = j then (S.ep j + 1) % 65536 else S.ep i, hd := fun i => if i = j then false else S.hd i }

theorem SocS.ok.started {S : SocS} (hS : S.ok) (j : Nat) : Nxt S (S.started j) := by
  refine ⟨⟨hS.hc, hS.hn, hS.hk, hS.hB, hS.hBc, hS.hBn, hS.hX, hS.hXc, hS.how, fun i => ?_, fun i hi hh => ?_⟩, rfl, rfl, rfl⟩
  · show 0 ≤ (if i = j then (S.ep j + 1) % 65536 else S.ep i) ∧ (if i = j then (S.ep j + 1) % 65536 else S.ep i) ≤ 65535
    split
    · omega
    · exact hS.hep i
  · have hh : (if i = j then false else S.hd i) = true := hh
    by_cases hij : i = j
    · rw [if_pos hij] at hh; cases hh
    · rw [if_neg hij] at hh; exact hS.hhd i hi hh

/-- A new soc, or none. -/
theorem sNew_ok (c n k mo : Int) (hc : 1 ≤ c ∧ c ≤ 8) (hn : 1 ≤ n ∧ n ≤ 65536) (hk : 1 ≤ k ∧ k ≤ 16) (hm : 1 ≤ mo ∧ mo ≤ 16) :
    CallOK (O := Ob) PR n_soc_New [.agg [.dv (.int .i64 c), .dv (.int .i64 n), .dv (.int .i64 k)], .dv (.int .i64 mo)] []
      fun v m => v = .tup [.ptr 0 0, .dv (.int .i64 0)] ∧ ∃ S : SocS, S.ok ∧ (S.c : Int) = c ∧ (S.n : Int) = n ∧ (S.k : Int) = k ∧ S.ow = (fun _ => 0) ∧ S.hd = (fun _ => false) ∧ S.ep = (fun _ => 0) ∧ m = [.obj (socO S)] := by
  obtain ⟨c, rfl⟩ : ∃ i : Nat, c = i := ⟨c.toNat, by omega⟩
  obtain ⟨n, rfl⟩ : ∃ i : Nat, n = i := ⟨n.toNat, by omega⟩
  obtain ⟨k, rfl⟩ : ∃ i : Nat, k = i := ⟨k.toNat, by omega⟩
  have hc' : 1 ≤ c ∧ c ≤ 8 := by omega
  have hn' : 1 ≤ n ∧ n ≤ 65536 := by omega
  have hk' : 1 ≤ k ∧ k ≤ 16 := by omega
  refine (sNew_w c n k mo _ _ _ (isBox c) (busNew n c mo (by omega) (by omega) hm) (right_in c n k hc hn hk) ((boxNew c (by omega)).mono fun v m ⟨hv, hm⟩ => ⟨hv, hm.is⟩) (kNew c k (by omega) (by omega)) (gNew c (by omega))).mono
    fun v m ⟨hv, X, ⟨Z, h1, h2, e⟩, hmm⟩ => ⟨hv, ⟨c, n, k, BusS.new n c mo, Z, fun _ => 0, fun _ => 0, fun _ => false⟩, ⟨hc', hn', hk', BusS.new_ok n c mo hn' hc' hm, rfl, rfl, h1, h2, fun i => ?_, fun i => ?_, fun j _ hh => ?_⟩, rfl, rfl, rfl, rfl, rfl, rfl, by subst e; exact hmm⟩
  · show (0 : Int) ≤ 0 ∧ (0 : Int) ≤ (c : Int); omega
  · show (0 : Int) ≤ 0 ∧ (0 : Int) ≤ 65535; omega
  · cases hh

end Go.Proofs.Ytiaceoomiflgcaa

end

section
namespace Go.Proofs.Ytiaceoomiflgcaa
open Go.V
set_option linter.unusedVariables false
set_option linter.unusedSimpArgs false
set_option maxRecDepth 100000
set_option maxHeartbeats 8000000

def Nx (S : SocS) (x : Ob) : Prop := ∃ S', Nxt S S' ∧ x = socO S'
def TotO (P : Ob → Prop) (x : Ob) (f : FuncId) (args : List SV) (R : SV → Prop) : Prop := CallOK (O := Ob) PR f args [.obj x] fun v m => R v ∧ ∃ y, P y ∧ m = [.obj y]
theorem Tot.o {S : SocS} {f : FuncId} {args : List SV} {R : SV → Prop} (h : Tot S f args R) : TotO (Nx S) (socO S) f args R :=
  h.mono fun v m ⟨hv, S', h1, h2⟩ => ⟨hv, _, ⟨S', h1, rfl⟩, h2⟩

end Go.Proofs.Ytiaceoomiflgcaa

end

section
namespace Go.Proofs.Ytiaceoomiflgcaa
open Go.V
set_option linter.unusedVariables false
set_option linter.unusedSimpArgs false
set_option maxRecDepth 100000
set_option maxHeartbeats 8000000

/-- A core's read of a lock. -/
theorem sRead_lock_in (S : SocS) (hS : S.ok) (i y : Nat) (hi : i < S.c) (hh : S.hd i = false) (hy : y < S.k) : ∃ (b : Bool) (ow : Nat → Int),
    ((b = true ∧ S.ow y = 0 ∧ ow = fun t => if t = y then (i : Int) + 1 else S.ow t) ∨ (b = false ∧ S.ow y ≠ 0 ∧ ow = S.ow)) ∧ Nxt S { S with ow := ow, B := S.B.fen i } ∧
    CallOK (O := Ob) PR n_soc_Soc_Read [.ptr 0 0, .dv (.int .i64 i), .dv (.int .i64 (65792 + y))] [.obj (socO S)] fun v m => v = .tup [.dv (.int .i64 (if b = true then 1 else 0)), .dv (.int .i64 0)] ∧ m = [.obj (socO { S with ow := ow, B := S.B.fen i })] := by
  obtain ⟨b, ow, hn, ho, hc⟩ := lock_try S hS i y hi hh hy
  exact ⟨b, ow, ho, hn.trans (hn.1.fen i hi), sRead_lock _ _ _ _ _ _ _ _ _ i _ y 0 b (atS_ok S hS i _ 3 y 0 hi hh (dec_lock S.c S.n S.k y hS.hc hS.hn hS.hk hy)) (bfen S hS i hi) hc⟩

/-- A core's store. -/
theorem sWrite_ram_in (S : SocS) (hS : S.ok) (i a w : Nat) (hi : i < S.c) (hh : S.hd i = false) (ha : a < S.n) (hw : w ≤ 65535) :
    CallOK (O := Ob) PR n_soc_Soc_Write [.ptr 0 0, .dv (.int .i64 i), .dv (.int .i64 a), .dv (.int .i64 w)] [.obj (socO S)] fun v m => v = .dv (.int .i64 0) ∧ m = [.obj (socO { S with B := S.B.store i a w })] :=
  sWrite_ram _ _ _ _ _ _ _ _ i a w 0 a _ (wordW_in w (by omega)) (atS_ok S hS i _ 1 0 a hi hh (dec_ram S.c S.n S.k a hS.hc hS.hn hS.hk ha)) (busStore S.B hS.hB i a w (by rw [hS.hBc]; exact hi) (by rw [hS.hBn]; exact ha) hw)

/-- A core frees its lock. -/
theorem sWrite_lock_in (S : SocS) (hS : S.ok) (i y : Nat) (hi : i < S.c) (hh : S.hd i = false) (hy : y < S.k) (ho : S.ow y = (i : Int) + 1) :
    CallOK (O := Ob) PR n_soc_Soc_Write [.ptr 0 0, .dv (.int .i64 i), .dv (.int .i64 (65792 + y)), .dv (.int .i64 0)] [.obj (socO S)] fun v m => v = .dv (.int .i64 0) ∧ m = [.obj (socO { S with ow := fun t => if t = y then 0 else S.ow t, B := S.B.fen i })] := by
  have hO := kOwner S.c S.k S.ow hS.hk.2 y hy (by have := hS.how y; have := hS.hc; omega)
  have e : S.ow y - 1 = (i : Int) := by omega
  rw [e] at hO
  exact sWrite_lock _ _ _ _ _ _ _ _ _ i _ 0 y 0 (wordW_in 0 (by omega)) (atS_ok S hS i _ 3 y 0 hi hh (dec_lock S.c S.n S.k y hS.hc hS.hn hS.hk hy)) hO (bfen S hS i hi) (kFree S.c S.k S.ow hS.hc.2 hS.hk.2 i y hi hy ho)

end Go.Proofs.Ytiaceoomiflgcaa

end

section
namespace Go.Proofs.Ytiaceoomiflgcaa
open Go.V
set_option linter.unusedVariables false
set_option linter.unusedSimpArgs false
set_option maxRecDepth 100000
set_option maxHeartbeats 8000000

end Go.Proofs.Ytiaceoomiflgcaa

end
