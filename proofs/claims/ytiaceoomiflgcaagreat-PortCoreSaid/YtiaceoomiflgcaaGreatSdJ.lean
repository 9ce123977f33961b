/-
  A soc by what it holds; what an address may mean to it.
-/
import Derived.Test.YtiaceoomiflgcaaGreatScJ
import Derived.Test.YtiaceoomiflgcaaGreatSbO
section
namespace Go.Proofs.YtiaceoomiflgcaaGreat
open Go.V
set_option linter.unusedVariables false
set_option linter.unusedSimpArgs false
set_option maxRecDepth 100000
set_option maxHeartbeats 8000000

/-- A soc's chunks: plan, bus, mailboxes, locks, gate. -/
def sM (c n k : Int) (B X K G : Ob) : List (Chunk Ob) :=
  [.blk [.one (.dv (.int .i64 c)), .one (.dv (.int .i64 n)), .one (.dv (.int .i64 k)), .one (.ptr 1 0), .one (.ptr 2 0), .one (.ptr 3 0), .one (.ptr 4 0)], .obj B, .obj X, .obj K, .obj G]
def sO (c n k : Int) (B X K G : Ob) : Ob := .mk (sM c n k B X K G)

theorem leaf_s {c n k : Int} {B X K G : Ob} {v : SV} {Q : SV → List (Chunk Ob) → Prop} (hu : VLe [0] v v) (hq : Q v [.obj (sO c n k B X K G)]) : ∃ r' m', Ent 1 ⟨[v], sM c n k B X K G⟩ ⟨[r'], m'⟩ ∧ Q r' m' :=
  leaf_obj (lmem := sM c n k B X K G) [1, 2, 3, 4] rfl rfl ⟨⟨rfl, rfl, rfl, rfl, rfl, rfl, rfl, trivial⟩, rfl, rfl, rfl, rfl, trivial⟩ hu rfl hq

theorem sStart_w (c n k : Int) (B X K G G' : Ob) (j e : Int) (hg : CallOK (O := Ob) PR n_gate_Gate_Start [.ptr 0 0, .dv (.int .i64 j)] [.obj G] fun v m => v = .dv (.int .i64 e) ∧ m = [.obj G']) :
    CallOK (O := Ob) PR n_soc_Soc_Start [.ptr 0 0, .dv (.int .i64 j)] [.obj (sO c n k B X K G)] fun v m => v = .dv (.int .i64 e) ∧ m = [.obj (sO c n k B X K G')] := by
  refine fn_walkv mixed fn_soc_Soc_Start Ent.opn1 fun bin cmp un conv bnot beq band sel isel ofN toN inb nz nneg lt le room' slb add sub sbin scmp slen sget ssub addk pc pb pi pf ps mkok min_ ig aeq P hP hA hF Q hQ => ?_
  cbv
  repeat' first
    | (refine call_at hP [4] code_gate_Gate_Start (hg) rfl ?_ ?_ ?_; (focus ((repeat' (first | exact trivial | exact rfl | (intro _ _ _ _; exact rfl) | refine And.intro ?_ ?_)); done)); (focus (cbv; (try simp); done)); rintro _ _ ⟨rfl, rfl⟩ _; cbv)
    | (refine Chk.mk trivial ?_; cbv)
    | (refine bc_true (by first | assumption | (simp (disch := omega) only [hF, natc, w64_in, shs]; first | done | assumption | omega | (simp only [natc] at *; omega))) ?_; cbv)
    | (refine bc_false (by first | assumption | (simp (disch := omega) only [hF, natc, w64_in, shs]; first | done | assumption | omega | (simp only [natc] at *; omega))) ?_; cbv)
    | (refine bc_split (fun h => ?_) (fun h => ?_) <;> (try simp (disch := omega) only [hF, natc, w64_in, shs] at h) <;> cbv)
  subst hQ
  exact leaf_s rfl ⟨rfl, rfl⟩

theorem sDrain_w (c n k : Int) (B B' X K G : Ob) (j e : Int) (b : Bool) (hg : CallOK (O := Ob) PR n_bus_Bus_Drain [.ptr 0 0, .dv (.int .i64 j)] [.obj B] fun v m => v = .tup [.dv (.bool b), .dv (.int .i64 e)] ∧ m = [.obj B']) :
    CallOK (O := Ob) PR n_soc_Soc_Drain [.ptr 0 0, .dv (.int .i64 j)] [.obj (sO c n k B X K G)] fun v m => v = .tup [.dv (.bool b), .dv (.int .i64 e)] ∧ m = [.obj (sO c n k B' X K G)] := by
  refine fn_walkv mixed fn_soc_Soc_Drain Ent.opn1 fun bin cmp un conv bnot beq band sel isel ofN toN inb nz nneg lt le room' slb add sub sbin scmp slen sget ssub addk pc pb pi pf ps mkok min_ ig aeq P hP hA hF Q hQ => ?_
  cbv
  repeat' first
    | (refine call_at hP [1] code_bus_Bus_Drain (hg) rfl ?_ ?_ ?_; (focus ((repeat' (first | exact trivial | exact rfl | (intro _ _ _ _; exact rfl) | refine And.intro ?_ ?_)); done)); (focus (cbv; (try simp); done)); rintro _ _ ⟨rfl, rfl⟩ _; cbv)
    | (refine Chk.mk trivial ?_; cbv)
    | (refine bc_true (by first | assumption | (simp (disch := omega) only [hF, natc, w64_in, shs]; first | done | assumption | omega | (simp only [natc] at *; omega))) ?_; cbv)
    | (refine bc_false (by first | assumption | (simp (disch := omega) only [hF, natc, w64_in, shs]; first | done | assumption | omega | (simp only [natc] at *; omega))) ?_; cbv)
    | (refine bc_split (fun h => ?_) (fun h => ?_) <;> (try simp (disch := omega) only [hF, natc, w64_in, shs] at h) <;> cbv)
  subst hQ
  exact leaf_s rfl ⟨rfl, rfl⟩

end Go.Proofs.YtiaceoomiflgcaaGreat

end

section
namespace Go.Proofs.YtiaceoomiflgcaaGreat
open Go.V
set_option linter.unusedVariables false
set_option linter.unusedSimpArgs false
set_option maxRecDepth 100000
set_option maxHeartbeats 8000000

theorem sFence_w (c n k : Int) (B B' X K G : Ob) (j z x : Int)
    (hf : CallOK (O := Ob) PR n_bus_Bus_Fence [.ptr 0 0, .dv (.int .i64 j)] [.obj B] fun v m => v = .tup [.dv (.int .i64 z), .dv (.int .i64 0)] ∧ m = [.obj B'])
    (h1 : CallOK (O := Ob) PR n_gate_Gate_Epoch [.ptr 0 0, .dv (.int .i64 j)] [.obj G] fun v m => v = .tup [.dv (.int .i64 x), .dv (.int .i64 0)] ∧ m = [.obj G])
    (h2 : CallOK (O := Ob) PR n_gate_Gate_Up [.ptr 0 0, .dv (.int .i64 j)] [.obj G] fun v m => v = .dv (.bool true) ∧ m = [.obj G]) :
    CallOK (O := Ob) PR n_soc_Soc_Fence [.ptr 0 0, .dv (.int .i64 j)] [.obj (sO c n k B X K G)] fun v m => v = .tup [.dv (.int .i64 z), .dv (.int .i64 0)] ∧ m = [.obj (sO c n k B' X K G)] := by
  refine fn_walkv mixed fn_soc_Soc_Fence Ent.opn1 fun bin cmp un conv bnot beq band sel isel ofN toN inb nz nneg lt le room' slb add sub sbin scmp slen sget ssub addk pc pb pi pf ps mkok min_ ig aeq P hP hA hF Q hQ => ?_
  have hb : bnot true = false := by simp only [hF]; rfl
  cbv
  repeat' first
    | ((refine call_inl hP mixed hA code_soc_Soc_wrong fn_soc_Soc_wrong ?_); cbv)
    | (refine call_at hP [4] code_gate_Gate_Epoch (h1) rfl ?_ ?_ ?_; (focus ((repeat' (first | exact trivial | exact rfl | (intro _ _ _ _; exact rfl) | refine And.intro ?_ ?_)); done)); (focus (cbv; (try simp); done)); rintro _ _ ⟨rfl, rfl⟩ _; cbv)
    | (refine call_at hP [4] code_gate_Gate_Up (h2) rfl ?_ ?_ ?_; (focus ((repeat' (first | exact trivial | exact rfl | (intro _ _ _ _; exact rfl) | refine And.intro ?_ ?_)); done)); (focus (cbv; (try simp); done)); rintro _ _ ⟨rfl, rfl⟩ _; cbv)
    | ((rw [hb]); cbv)
    | (refine call_at hP [1] code_bus_Bus_Fence (hf) rfl ?_ ?_ ?_; (focus ((repeat' (first | exact trivial | exact rfl | (intro _ _ _ _; exact rfl) | refine And.intro ?_ ?_)); done)); (focus (cbv; (try simp); done)); rintro _ _ ⟨rfl, rfl⟩ _; cbv)
    | (refine Chk.mk trivial ?_; cbv)
    | (refine bc_true (by first | assumption | (simp (disch := omega) only [hF, natc, w64_in, shs]; first | done | assumption | omega | (simp only [natc] at *; omega))) ?_; cbv)
    | (refine bc_false (by first | assumption | (simp (disch := omega) only [hF, natc, w64_in, shs]; first | done | assumption | omega | (simp only [natc] at *; omega))) ?_; cbv)
    | (refine bc_split (fun h => ?_) (fun h => ?_) <;> (try simp (disch := omega) only [hF, natc, w64_in, shs] at h) <;> cbv)
  subst hQ
  exact leaf_s rfl ⟨rfl, rfl⟩

end Go.Proofs.YtiaceoomiflgcaaGreat

end

section
namespace Go.Proofs.YtiaceoomiflgcaaGreat
open Go.V
set_option linter.unusedVariables false
set_option linter.unusedSimpArgs false
set_option maxRecDepth 100000
set_option maxHeartbeats 8000000

end Go.Proofs.YtiaceoomiflgcaaGreat

end

section
namespace Go.Proofs.YtiaceoomiflgcaaGreat
open Go.V
set_option linter.unusedVariables false
set_option linter.unusedSimpArgs false
set_option maxRecDepth 100000
set_option maxHeartbeats 8000000

theorem lNew_no (mo : Int) (h : ¬ (1 ≤ mo ∧ mo ≤ 16)) : CallOK (O := Ob) PR n_sbuf_New [.dv (.int .i64 mo)] [] fun v m => v = .dv .nilp ∧ m = [] := by
  rcases (by omega : mo < 1 ∨ (1 ≤ mo ∧ 16 < mo)) with h | ⟨h, h'⟩
  all_goals
    refine fn_walkv mixed fn_sbuf_New (Ent.refl _ _) fun bin cmp un conv bnot beq band sel isel ofN toN inb nz nneg lt le room' slb add sub sbin scmp slen sget ssub addk pc pb pi pf ps mkok min_ ig aeq P hP hA hF Q hQ => ?_
    cbv
    repeat' first
      | (refine Chk.mk trivial ?_; cbv)
      | (refine bc_true (by first | assumption | (simp (disch := omega) only [hF, natc, w64_in, shs]; first | done | assumption | omega | (simp only [natc] at *; omega))) ?_; cbv)
      | (refine bc_false (by first | assumption | (simp (disch := omega) only [hF, natc, w64_in, shs]; first | done | assumption | omega | (simp only [natc] at *; omega))) ?_; cbv)
      | (refine bc_split (fun h => ?_) (fun h => ?_) <;> (try simp (disch := omega) only [hF, natc, w64_in, shs] at h) <;> cbv)
    subst hQ
    exact ⟨.dv .nilp, [], Ent.refl _ _, rfl, rfl⟩

theorem busNew_no1 (c n mo : Int) (hr : CallOK (O := Ob) PR n_sram_New [.dv (.int .i64 n)] [] fun v m => v = .tup [.dv .nilp, .dv (.int .i64 2)] ∧ m = []) :
    CallOK (O := Ob) PR n_bus_New [.dv (.int .i64 c), .dv (.int .i64 n), .dv (.int .i64 mo)] [] fun v m => v = .tup [.dv .nilp, .dv (.int .i64 2)] ∧ m = [] := by
  refine fn_walkv mixed fn_bus_New (Ent.refl _ _) fun bin cmp un conv bnot beq band sel isel ofN toN inb nz nneg lt le room' slb add sub sbin scmp slen sget ssub addk pc pb pi pf ps mkok min_ ig aeq P hP hA hF Q hQ => ?_
  cbv
  repeat' first
    | (refine call_pure hP code_sram_New (hr) ?_ ?_; (focus (cbv; (try simp); done)); rintro _ rfl; cbv)
    | (refine Chk.mk trivial ?_; cbv)
    | (refine bc_true (by first | assumption | (simp (disch := omega) only [hF, natc, w64_in, shs]; first | done | assumption | omega | (simp only [natc] at *; omega))) ?_; cbv)
    | (refine bc_false (by first | assumption | (simp (disch := omega) only [hF, natc, w64_in, shs]; first | done | assumption | omega | (simp only [natc] at *; omega))) ?_; cbv)
    | (refine bc_split (fun h => ?_) (fun h => ?_) <;> (try simp (disch := omega) only [hF, natc, w64_in, shs] at h) <;> cbv)
  subst hQ
  exact leaf_data rfl rfl ⟨rfl, rfl⟩

theorem busNew_no2 (c n mo : Int) (OR : Ob) (hc : ¬ (1 ≤ c ∧ c ≤ 8)) (hr : CallOK (O := Ob) PR n_sram_New [.dv (.int .i64 n)] [] fun v m => v = .tup [.ptr 0 0, .dv (.int .i64 0)] ∧ m = [.obj OR]) :
    CallOK (O := Ob) PR n_bus_New [.dv (.int .i64 c), .dv (.int .i64 n), .dv (.int .i64 mo)] [] fun v m => v = .tup [.dv .nilp, .dv (.int .i64 2)] ∧ m = [] := by
  rcases (by omega : c < 1 ∨ (1 ≤ c ∧ 8 < c)) with h | ⟨h, h'⟩
  all_goals
    refine fn_walkv mixed fn_bus_New (Ent.refl _ _) fun bin cmp un conv bnot beq band sel isel ofN toN inb nz nneg lt le room' slb add sub sbin scmp slen sget ssub addk pc pb pi pf ps mkok min_ ig aeq P hP hA hF Q hQ => ?_
    cbv
    repeat' first
      | (refine call_at hP [] code_sram_New (hr) rfl ?_ ?_ ?_; (focus ((repeat' (first | exact trivial | exact rfl | (intro _ _ _ _; exact rfl) | refine And.intro ?_ ?_)); done)); (focus (cbv; (try simp); done)); rintro _ _ ⟨rfl, rfl⟩ _; cbv)
      | (refine Chk.mk trivial ?_; cbv)
      | (refine bc_true (by first | assumption | (simp (disch := omega) only [hF, natc, w64_in, shs]; first | done | assumption | omega | (simp only [natc] at *; omega))) ?_; cbv)
      | (refine bc_false (by first | assumption | (simp (disch := omega) only [hF, natc, w64_in, shs]; first | done | assumption | omega | (simp only [natc] at *; omega))) ?_; cbv)
      | (refine bc_split (fun h => ?_) (fun h => ?_) <;> (try simp (disch := omega) only [hF, natc, w64_in, shs] at h) <;> cbv)
    subst hQ
    exact leaf_data rfl rfl ⟨rfl, rfl⟩

theorem busNew_no3 (c n mo : Int) (OR : Ob) (hc : 1 ≤ c ∧ c ≤ 8) (hr : CallOK (O := Ob) PR n_sram_New [.dv (.int .i64 n)] [] fun v m => v = .tup [.ptr 0 0, .dv (.int .i64 0)] ∧ m = [.obj OR])
    (hb : CallOK (O := Ob) PR n_sbuf_New [.dv (.int .i64 mo)] [] fun v m => v = .dv .nilp ∧ m = []) :
    CallOK (O := Ob) PR n_bus_New [.dv (.int .i64 c), .dv (.int .i64 n), .dv (.int .i64 mo)] [] fun v m => v = .tup [.dv .nilp, .dv (.int .i64 2)] ∧ m = [] := by
  obtain ⟨h1, h2⟩ := hc
  refine fn_walkv mixed fn_bus_New (Ent.refl _ _) fun bin cmp un conv bnot beq band sel isel ofN toN inb nz nneg lt le room' slb add sub sbin scmp slen sget ssub addk pc pb pi pf ps mkok min_ ig aeq P hP hA hF Q hQ => ?_
  cbv
  repeat' first
    | (refine call_at hP [] code_sram_New (hr) rfl ?_ ?_ ?_; (focus ((repeat' (first | exact trivial | exact rfl | (intro _ _ _ _; exact rfl) | refine And.intro ?_ ?_)); done)); (focus (cbv; (try simp); done)); rintro _ _ ⟨rfl, rfl⟩ _; cbv)
    | (refine call_pure hP code_sbuf_New (hb) ?_ ?_; (focus (cbv; (try simp); done)); rintro _ rfl; cbv)
    | (refine Chk.mk trivial ?_; cbv)
    | (refine bc_true (by first | assumption | (simp (disch := omega) only [hF, natc, w64_in, shs]; first | done | assumption | omega | (simp only [natc] at *; omega))) ?_; cbv)
    | (refine bc_false (by first | assumption | (simp (disch := omega) only [hF, natc, w64_in, shs]; first | done | assumption | omega | (simp only [natc] at *; omega))) ?_; cbv)
    | (refine bc_split (fun h => ?_) (fun h => ?_) <;> (try simp (disch := omega) only [hF, natc, w64_in, shs] at h) <;> cbv)
  subst hQ
  exact leaf_data rfl rfl ⟨rfl, rfl⟩

theorem busNew_no (c n mo : Int) (h : ¬ ((1 ≤ c ∧ c ≤ 8) ∧ (1 ≤ n ∧ n ≤ 65536) ∧ 1 ≤ mo ∧ mo ≤ 16)) :
    CallOK (O := Ob) PR n_bus_New [.dv (.int .i64 c), .dv (.int .i64 n), .dv (.int .i64 mo)] [] fun v m => v = .tup [.dv .nilp, .dv (.int .i64 2)] ∧ m = [] := by
  by_cases hn : 1 ≤ n ∧ n ≤ 65536
  · have hr := ok_rNew n.toNat (by omega)
    have e : ((n.toNat : Nat) : Int) = n := by omega
    rw [e] at hr
    by_cases hc : 1 ≤ c ∧ c ≤ 8
    · exact busNew_no3 c n mo _ hc hr (lNew_no mo fun hm => h ⟨hc, hn, hm⟩)
    · exact busNew_no2 c n mo _ hc hr
  · exact busNew_no1 c n mo (rNew_no n hn)

end Go.Proofs.YtiaceoomiflgcaaGreat

end

section
namespace Go.Proofs.YtiaceoomiflgcaaGreat
open Go.V
set_option linter.unusedVariables false
set_option linter.unusedSimpArgs false
set_option maxRecDepth 100000
set_option maxHeartbeats 8000000

theorem sNew_no1 (c n k mo : Int) (hb : CallOK (O := Ob) PR n_bus_New [.dv (.int .i64 c), .dv (.int .i64 n), .dv (.int .i64 mo)] [] fun v m => v = .tup [.dv .nilp, .dv (.int .i64 2)] ∧ m = []) :
    CallOK (O := Ob) PR n_soc_New [.agg [.dv (.int .i64 c), .dv (.int .i64 n), .dv (.int .i64 k)], .dv (.int .i64 mo)] [] fun v m => v = .tup [.dv .nilp, .dv (.int .i64 2)] ∧ m = [] := by
  refine fn_walkv mixed fn_soc_New (Ent.refl _ _) fun bin cmp un conv bnot beq band sel isel ofN toN inb nz nneg lt le room' slb add sub sbin scmp slen sget ssub addk pc pb pi pf ps mkok min_ ig aeq P hP hA hF Q hQ => ?_
  cbv
  repeat' first
    | (refine call_pure hP code_bus_New (hb) ?_ ?_; (focus (cbv; (try simp); done)); rintro _ rfl; cbv)
    | (refine Chk.mk trivial ?_; cbv)
    | (refine bc_true (by first | assumption | (simp (disch := omega) only [hF, natc, w64_in, shs]; first | done | assumption | omega | (simp only [natc] at *; omega))) ?_; cbv)
    | (refine bc_false (by first | assumption | (simp (disch := omega) only [hF, natc, w64_in, shs]; first | done | assumption | omega | (simp only [natc] at *; omega))) ?_; cbv)
    | (refine bc_split (fun h => ?_) (fun h => ?_) <;> (try simp (disch := omega) only [hF, natc, w64_in, shs] at h) <;> cbv)
  subst hQ
  exact leaf_data rfl rfl ⟨rfl, rfl⟩

theorem sNew_no2 (c n k mo : Int) (B : Ob) (hb : CallOK (O := Ob) PR n_bus_New [.dv (.int .i64 c), .dv (.int .i64 n), .dv (.int .i64 mo)] [] fun v m => v = .tup [.ptr 0 0, .dv (.int .i64 0)] ∧ m = [.obj B])
    (hr : CallOK (O := Ob) PR n_site_Right [.agg [.dv (.int .i64 c), .dv (.int .i64 n), .dv (.int .i64 k)]] [] fun v m => v = .dv (.bool false) ∧ m = []) :
    CallOK (O := Ob) PR n_soc_New [.agg [.dv (.int .i64 c), .dv (.int .i64 n), .dv (.int .i64 k)], .dv (.int .i64 mo)] [] fun v m => v = .tup [.dv .nilp, .dv (.int .i64 2)] ∧ m = [] := by
  refine fn_walkv mixed fn_soc_New (Ent.refl _ _) fun bin cmp un conv bnot beq band sel isel ofN toN inb nz nneg lt le room' slb add sub sbin scmp slen sget ssub addk pc pb pi pf ps mkok min_ ig aeq P hP hA hF Q hQ => ?_
  have hb0 : bnot false = true := by simp only [hF]; rfl
  cbv
  repeat' first
    | (refine call_at hP [] code_bus_New (hb) rfl ?_ ?_ ?_; (focus ((repeat' (first | exact trivial | exact rfl | (intro _ _ _ _; exact rfl) | refine And.intro ?_ ?_)); done)); (focus (cbv; (try simp); done)); rintro _ _ ⟨rfl, rfl⟩ _; cbv)
    | (refine call_pure hP code_site_Right (hr) ?_ ?_; (focus (cbv; (try simp); done)); rintro _ rfl; cbv)
    | ((rw [hb0]); cbv)
    | (refine Chk.mk trivial ?_; cbv)
    | (refine bc_true (by first | assumption | (simp (disch := omega) only [hF, natc, w64_in, shs]; first | done | assumption | omega | (simp only [natc] at *; omega))) ?_; cbv)
    | (refine bc_false (by first | assumption | (simp (disch := omega) only [hF, natc, w64_in, shs]; first | done | assumption | omega | (simp only [natc] at *; omega))) ?_; cbv)
    | (refine bc_split (fun h => ?_) (fun h => ?_) <;> (try simp (disch := omega) only [hF, natc, w64_in, shs] at h) <;> cbv)
  subst hQ
  exact leaf_data rfl rfl ⟨rfl, rfl⟩

theorem sNew_w (c n k mo : Int) (B K G : Ob) (PX : Ob → Prop) (hb : CallOK (O := Ob) PR n_bus_New [.dv (.int .i64 c), .dv (.int .i64 n), .dv (.int .i64 mo)] [] fun v m => v = .tup [.ptr 0 0, .dv (.int .i64 0)] ∧ m = [.obj B])
    (hr : CallOK (O := Ob) PR n_site_Right [.agg [.dv (.int .i64 c), .dv (.int .i64 n), .dv (.int .i64 k)]] [] fun v m => v = .dv (.bool true) ∧ m = [])
    (hx : CallOK (O := Ob) PR n_mbox_New [.dv (.int .i64 c)] [] fun v m => v = .ptr 0 0 ∧ ∃ X, PX X ∧ m = [.obj X])
    (hk : CallOK (O := Ob) PR n_locks_New [.dv (.int .i64 c), .dv (.int .i64 k)] [] fun v m => v = .ptr 0 0 ∧ m = [.obj K])
    (hg : CallOK (O := Ob) PR n_gate_New [.dv (.int .i64 c)] [] fun v m => v = .ptr 0 0 ∧ m = [.obj G]) :
    CallOK (O := Ob) PR n_soc_New [.agg [.dv (.int .i64 c), .dv (.int .i64 n), .dv (.int .i64 k)], .dv (.int .i64 mo)] [] fun v m => v = .tup [.ptr 0 0, .dv (.int .i64 0)] ∧ ∃ X, PX X ∧ m = [.obj (sO c n k B X K G)] := by
  refine fn_walkv mixed fn_soc_New (Ent.refl _ _) fun bin cmp un conv bnot beq band sel isel ofN toN inb nz nneg lt le room' slb add sub sbin scmp slen sget ssub addk pc pb pi pf ps mkok min_ ig aeq P hP hA hF Q hQ => ?_
  have hb0 : bnot true = false := by simp only [hF]; rfl
  cbv
  repeat' first
    | (refine call_at hP [] code_bus_New (hb) rfl ?_ ?_ ?_; (focus ((repeat' (first | exact trivial | exact rfl | (intro _ _ _ _; exact rfl) | refine And.intro ?_ ?_)); done)); (focus (cbv; (try simp); done)); rintro _ _ ⟨rfl, rfl⟩ _; cbv)
    | (refine call_pure hP code_site_Right (hr) ?_ ?_; (focus (cbv; (try simp); done)); rintro _ rfl; cbv)
    | ((rw [hb0]); cbv)
    | (refine call_at hP [] code_mbox_New (hx) rfl ?_ ?_ ?_; (focus ((repeat' (first | exact trivial | exact rfl | (intro _ _ _ _; exact rfl) | refine And.intro ?_ ?_)); done)); (focus (cbv; (try simp); done)); rintro _ _ ⟨rfl, X, hX, rfl⟩ _; cbv)
    | (refine call_at hP [] code_locks_New (hk) rfl ?_ ?_ ?_; (focus ((repeat' (first | exact trivial | exact rfl | (intro _ _ _ _; exact rfl) | refine And.intro ?_ ?_)); done)); (focus (cbv; (try simp); done)); rintro _ _ ⟨rfl, rfl⟩ _; cbv)
    | (refine call_at hP [] code_gate_New (hg) rfl ?_ ?_ ?_; (focus ((repeat' (first | exact trivial | exact rfl | (intro _ _ _ _; exact rfl) | refine And.intro ?_ ?_)); done)); (focus (cbv; (try simp); done)); rintro _ _ ⟨rfl, rfl⟩ _; cbv)
    | (refine Chk.mk trivial ?_; cbv)
    | (refine bc_true (by first | assumption | (simp (disch := omega) only [hF, natc, w64_in, shs]; first | done | assumption | omega | (simp only [natc] at *; omega))) ?_; cbv)
    | (refine bc_false (by first | assumption | (simp (disch := omega) only [hF, natc, w64_in, shs]; first | done | assumption | omega | (simp only [natc] at *; omega))) ?_; cbv)
    | (refine bc_split (fun h => ?_) (fun h => ?_) <;> (try simp (disch := omega) only [hF, natc, w64_in, shs] at h) <;> cbv)
  subst hQ
  refine ⟨.tup [.ptr 0 0, .dv (.int .i64 0)], [.obj (sO c n k B X K G)], ?_, rfl, X, hX, rfl⟩
  refine (Ent.ren (s' := ⟨[.tup [.ptr 0 0, .dv (.int .i64 0)]], sM c n k B X K G⟩) [5, 1, 2, 3, 4] rfl rfl ?_ ?_).trans (Ent.cls1 (env' := [.tup [.ptr 0 0, .dv (.int .i64 0)]]) [1, 2, 3, 4] (sM c n k B X K G) rfl rfl ?_ ⟨rfl, trivial⟩)
  · exact ⟨⟨rfl, rfl, rfl, rfl, rfl, rfl, rfl, trivial⟩, rfl, rfl, rfl, rfl, trivial⟩
  · exact ⟨rfl, trivial⟩
  · exact ⟨⟨rfl, rfl, rfl, rfl, rfl, rfl, rfl, trivial⟩, rfl, rfl, rfl, rfl, trivial⟩

end Go.Proofs.YtiaceoomiflgcaaGreat

end

section
namespace Go.Proofs.YtiaceoomiflgcaaGreat
open Go.V
set_option linter.unusedVariables false
set_option linter.unusedSimpArgs false
set_option maxRecDepth 100000
set_option maxHeartbeats 8000000

/-- What is asked of a gate. -/
def GEp (G : Ob) (j x e : Int) : Prop := CallOK (O := Ob) PR n_gate_Gate_Epoch [.ptr 0 0, .dv (.int .i64 j)] [.obj G] fun v m => v = .tup [.dv (.int .i64 x), .dv (.int .i64 e)] ∧ m = [.obj G]
def GUp (G : Ob) (j : Int) (b : Bool) : Prop := CallOK (O := Ob) PR n_gate_Gate_Up [.ptr 0 0, .dv (.int .i64 j)] [.obj G] fun v m => v = .dv (.bool b) ∧ m = [.obj G]
def DecW (c n k a : Int) (V : SV) : Prop := CallOK (O := Ob) PR n_site_Decode [.agg [.dv (.int .i64 c), .dv (.int .i64 n), .dv (.int .i64 k)], .dv (.int .i64 a)] [] fun v m => v = V ∧ m = []
/-- What the soc's own question answers, the soc lying open. -/
def AtW (c n k : Int) (B X K G : Ob) (j a x y z e : Int) : Prop :=
  CallOK (O := Ob) PR n_soc_Soc_at [.ptr 0 0, .dv (.int .i64 j), .dv (.int .i64 a)] (sM c n k B X K G) fun v m => v = .tup [.agg [.dv (.int .i64 x), .dv (.int .i64 y), .dv (.int .i64 z)], .dv (.int .i64 e)] ∧ m = sM c n k B X K G

theorem leaf_at {c n k : Int} {B X K G : Ob} {v : SV} {mem : List (Chunk Ob)} {Q : SV → List (Chunk Ob) → Prop} (hm : MLe [0, 1, 2, 3, 4] mem [0, 1, 2, 3, 4] (sM c n k B X K G)) (hu : VLe [0, 1, 2, 3, 4] v v) (hq : Q v (sM c n k B X K G)) : ∃ r' m', Ent 5 ⟨[v], mem⟩ ⟨[r'], m'⟩ ∧ Q r' m' :=
  ⟨v, _, Ent.ren [0, 1, 2, 3, 4] rfl rfl hm ⟨hu, trivial⟩, hq⟩

theorem leaf_sr {c n k : Int} {B X K G : Ob} {v : SV} {mem : List (Chunk Ob)} {Q : SV → List (Chunk Ob) → Prop} (hm : mem.take 5 = sM c n k B X K G) (hu : VLe [0] v v) (hq : Q v [.obj (sO c n k B X K G)]) : ∃ r' m', Ent 1 ⟨[v], mem⟩ ⟨[r'], m'⟩ ∧ Q r' m' := by
  have e : mem = sM c n k B X K G ++ mem.drop 5 := by rw [← hm, List.take_append_drop]
  rw [e]
  exact leaf_obj (lmem := sM c n k B X K G) [1, 2, 3, 4] rfl rfl ⟨⟨rfl, rfl, rfl, rfl, rfl, rfl, rfl, trivial⟩, rfl, rfl, rfl, rfl, trivial⟩ hu rfl hq

theorem at_core (c n k : Int) (B X K G : Ob) (j a x : Int) (h1 : GEp G j x 3) : AtW c n k B X K G j a 0 0 0 3 := by
  unfold GEp at h1; unfold AtW sM
  refine fn_walkv mixed fn_soc_Soc_at (Ent.refl _ _) fun bin cmp un conv bnot beq band sel isel ofN toN inb nz nneg lt le room' slb add sub sbin scmp slen sget ssub addk pc pb pi pf ps mkok min_ ig aeq P hP hA hF Q hQ => ?_
  cbv
  repeat' first
    | ((refine call_inl hP mixed hA code_soc_Soc_wrong fn_soc_Soc_wrong ?_); cbv)
    | (refine call_at hP [4] code_gate_Gate_Epoch (h1) rfl ?_ ?_ ?_; (focus ((repeat' (first | exact trivial | exact rfl | (intro _ _ _ _; exact rfl) | refine And.intro ?_ ?_)); done)); (focus (cbv; (try simp); done)); rintro _ _ ⟨rfl, rfl⟩ _; cbv)
    | (refine Chk.mk trivial ?_; cbv)
    | (refine bc_true (by first | assumption | (simp (disch := omega) only [hF, natc, w64_in, shs]; first | done | assumption | omega | (simp only [natc] at *; omega))) ?_; cbv)
    | (refine bc_false (by first | assumption | (simp (disch := omega) only [hF, natc, w64_in, shs]; first | done | assumption | omega | (simp only [natc] at *; omega))) ?_; cbv)
    | (refine bc_split (fun h => ?_) (fun h => ?_) <;> (try simp (disch := omega) only [hF, natc, w64_in, shs] at h) <;> cbv)
  subst hQ
  exact leaf_at ⟨⟨rfl, rfl, rfl, rfl, rfl, rfl, rfl, trivial⟩, rfl, rfl, rfl, rfl, trivial⟩ rfl ⟨rfl, rfl⟩

theorem at_off (c n k : Int) (B X K G : Ob) (j a x : Int) (h1 : GEp G j x 0) (h2 : GUp G j false) : AtW c n k B X K G j a 0 0 0 19 := by
  unfold GEp at h1; unfold GUp at h2; unfold AtW sM
  refine fn_walkv mixed fn_soc_Soc_at (Ent.refl _ _) fun bin cmp un conv bnot beq band sel isel ofN toN inb nz nneg lt le room' slb add sub sbin scmp slen sget ssub addk pc pb pi pf ps mkok min_ ig aeq P hP hA hF Q hQ => ?_
  have hb : bnot false = true := by simp only [hF]; rfl
  cbv
  repeat' first
    | ((refine call_inl hP mixed hA code_soc_Soc_wrong fn_soc_Soc_wrong ?_); cbv)
    | (refine call_at hP [4] code_gate_Gate_Epoch (h1) rfl ?_ ?_ ?_; (focus ((repeat' (first | exact trivial | exact rfl | (intro _ _ _ _; exact rfl) | refine And.intro ?_ ?_)); done)); (focus (cbv; (try simp); done)); rintro _ _ ⟨rfl, rfl⟩ _; cbv)
    | (refine call_at hP [4] code_gate_Gate_Up (h2) rfl ?_ ?_ ?_; (focus ((repeat' (first | exact trivial | exact rfl | (intro _ _ _ _; exact rfl) | refine And.intro ?_ ?_)); done)); (focus (cbv; (try simp); done)); rintro _ _ ⟨rfl, rfl⟩ _; cbv)
    | ((rw [hb]); cbv)
    | (refine Chk.mk trivial ?_; cbv)
    | (refine bc_true (by first | assumption | (simp (disch := omega) only [hF, natc, w64_in, shs]; first | done | assumption | omega | (simp only [natc] at *; omega))) ?_; cbv)
    | (refine bc_false (by first | assumption | (simp (disch := omega) only [hF, natc, w64_in, shs]; first | done | assumption | omega | (simp only [natc] at *; omega))) ?_; cbv)
    | (refine bc_split (fun h => ?_) (fun h => ?_) <;> (try simp (disch := omega) only [hF, natc, w64_in, shs] at h) <;> cbv)
  subst hQ
  exact leaf_at ⟨⟨rfl, rfl, rfl, rfl, rfl, rfl, rfl, trivial⟩, rfl, rfl, rfl, rfl, trivial⟩ rfl ⟨rfl, rfl⟩

theorem at_no (c n k : Int) (B X K G : Ob) (j a x : Int) (h1 : GEp G j x 0) (h2 : GUp G j true) (hd : DecW c n k a (.tup [.agg [.dv (.int .i64 0), .dv (.int .i64 0), .dv (.int .i64 0)], .dv (.bool false)])) : AtW c n k B X K G j a 0 0 0 4 := by
  unfold GEp at h1; unfold GUp at h2; unfold DecW at hd; unfold AtW sM
  refine fn_walkv mixed fn_soc_Soc_at (Ent.refl _ _) fun bin cmp un conv bnot beq band sel isel ofN toN inb nz nneg lt le room' slb add sub sbin scmp slen sget ssub addk pc pb pi pf ps mkok min_ ig aeq P hP hA hF Q hQ => ?_
  have hb : bnot true = false := by simp only [hF]; rfl
  have hb1 : bnot false = true := by simp only [hF]; rfl
  cbv
  repeat' first
    | ((refine call_inl hP mixed hA code_soc_Soc_wrong fn_soc_Soc_wrong ?_); cbv)
    | (refine call_at hP [4] code_gate_Gate_Epoch (h1) rfl ?_ ?_ ?_; (focus ((repeat' (first | exact trivial | exact rfl | (intro _ _ _ _; exact rfl) | refine And.intro ?_ ?_)); done)); (focus (cbv; (try simp); done)); rintro _ _ ⟨rfl, rfl⟩ _; cbv)
    | (refine call_at hP [4] code_gate_Gate_Up (h2) rfl ?_ ?_ ?_; (focus ((repeat' (first | exact trivial | exact rfl | (intro _ _ _ _; exact rfl) | refine And.intro ?_ ?_)); done)); (focus (cbv; (try simp); done)); rintro _ _ ⟨rfl, rfl⟩ _; cbv)
    | ((rw [hb]); cbv)
    | ((rw [hb1]); cbv)
    | (refine call_pure hP code_site_Decode (hd) ?_ ?_; (focus (cbv; (try simp); done)); rintro _ rfl; cbv)
    | (refine Chk.mk trivial ?_; cbv)
    | (refine bc_true (by first | assumption | (simp (disch := omega) only [hF, natc, w64_in, shs]; first | done | assumption | omega | (simp only [natc] at *; omega))) ?_; cbv)
    | (refine bc_false (by first | assumption | (simp (disch := omega) only [hF, natc, w64_in, shs]; first | done | assumption | omega | (simp only [natc] at *; omega))) ?_; cbv)
    | (refine bc_split (fun h => ?_) (fun h => ?_) <;> (try simp (disch := omega) only [hF, natc, w64_in, shs] at h) <;> cbv)
  subst hQ
  exact leaf_at ⟨⟨rfl, rfl, rfl, rfl, rfl, rfl, rfl, trivial⟩, rfl, rfl, rfl, rfl, trivial⟩ rfl ⟨rfl, rfl⟩

theorem at_ok (c n k : Int) (B X K G : Ob) (j a u x y z : Int) (h1 : GEp G j u 0) (h2 : GUp G j true) (hd : DecW c n k a (.tup [.agg [.dv (.int .i64 x), .dv (.int .i64 y), .dv (.int .i64 z)], .dv (.bool true)])) : AtW c n k B X K G j a x y z 0 := by
  unfold GEp at h1; unfold GUp at h2; unfold DecW at hd; unfold AtW sM
  refine fn_walkv mixed fn_soc_Soc_at (Ent.refl _ _) fun bin cmp un conv bnot beq band sel isel ofN toN inb nz nneg lt le room' slb add sub sbin scmp slen sget ssub addk pc pb pi pf ps mkok min_ ig aeq P hP hA hF Q hQ => ?_
  have hb : bnot true = false := by simp only [hF]; rfl
  cbv
  repeat' first
    | ((refine call_inl hP mixed hA code_soc_Soc_wrong fn_soc_Soc_wrong ?_); cbv)
    | (refine call_at hP [4] code_gate_Gate_Epoch (h1) rfl ?_ ?_ ?_; (focus ((repeat' (first | exact trivial | exact rfl | (intro _ _ _ _; exact rfl) | refine And.intro ?_ ?_)); done)); (focus (cbv; (try simp); done)); rintro _ _ ⟨rfl, rfl⟩ _; cbv)
    | (refine call_at hP [4] code_gate_Gate_Up (h2) rfl ?_ ?_ ?_; (focus ((repeat' (first | exact trivial | exact rfl | (intro _ _ _ _; exact rfl) | refine And.intro ?_ ?_)); done)); (focus (cbv; (try simp); done)); rintro _ _ ⟨rfl, rfl⟩ _; cbv)
    | ((rw [hb]); cbv)
    | (refine call_pure hP code_site_Decode (hd) ?_ ?_; (focus (cbv; (try simp); done)); rintro _ rfl; cbv)
    | (refine Chk.mk trivial ?_; cbv)
    | (refine bc_true (by first | assumption | (simp (disch := omega) only [hF, natc, w64_in, shs]; first | done | assumption | omega | (simp only [natc] at *; omega))) ?_; cbv)
    | (refine bc_false (by first | assumption | (simp (disch := omega) only [hF, natc, w64_in, shs]; first | done | assumption | omega | (simp only [natc] at *; omega))) ?_; cbv)
    | (refine bc_split (fun h => ?_) (fun h => ?_) <;> (try simp (disch := omega) only [hF, natc, w64_in, shs] at h) <;> cbv)
  subst hQ
  exact leaf_at ⟨⟨rfl, rfl, rfl, rfl, rfl, rfl, rfl, trivial⟩, rfl, rfl, rfl, rfl, trivial⟩ rfl ⟨rfl, rfl⟩

end Go.Proofs.YtiaceoomiflgcaaGreat

end

section
namespace Go.Proofs.YtiaceoomiflgcaaGreat
open Go.V
set_option linter.unusedVariables false
set_option linter.unusedSimpArgs false
set_option maxRecDepth 100000
set_option maxHeartbeats 8000000

/-- A fence of a bus; some mailboxes' answers. -/
def BFen (B B' : Ob) (j : Int) : Prop := CallOK (O := Ob) PR n_bus_Bus_Fence [.ptr 0 0, .dv (.int .i64 j)] [.obj B] fun v m => (∃ z, v = .tup [.dv (.int .i64 z), .dv (.int .i64 0)]) ∧ m = [.obj B']

theorem sRead_no (c n k : Int) (B X K G : Ob) (j a e : Int) (he : e ≠ 0) (ha : AtW c n k B X K G j a 0 0 0 e) :
    CallOK (O := Ob) PR n_soc_Soc_Read [.ptr 0 0, .dv (.int .i64 j), .dv (.int .i64 a)] [.obj (sO c n k B X K G)] fun v m => v = .tup [.dv (.int .i64 0), .dv (.int .i64 e)] ∧ m = [.obj (sO c n k B X K G)] := by
  unfold AtW sM at ha
  refine fn_walkv mixed fn_soc_Soc_Read Ent.opn1 fun bin cmp un conv bnot beq band sel isel ofN toN inb nz nneg lt le room' slb add sub sbin scmp slen sget ssub addk pc pb pi pf ps mkok min_ ig aeq P hP hA hF Q hQ => ?_
  have hg : cmp .neq e 0 = true := by simp only [hF, decide_eq_true_eq]; exact he
  cbv
  repeat' first
    | (refine call_at hP [0, 1, 2, 3, 4] code_soc_Soc_at (ha) rfl ?_ ?_ ?_; (focus ((repeat' (first | exact trivial | exact rfl | (intro _ _ _ _; exact rfl) | refine And.intro ?_ ?_)); done)); (focus (cbv; (try simp); done)); rintro _ _ ⟨rfl, rfl⟩ _; cbv)
    | ((rw [hg]); cbv)
    | (refine Chk.mk trivial ?_; cbv)
    | (refine bc_true (by first | assumption | (simp (disch := omega) only [hF, natc, w64_in, shs]; first | done | assumption | omega | (simp only [natc] at *; omega))) ?_; cbv)
    | (refine bc_false (by first | assumption | (simp (disch := omega) only [hF, natc, w64_in, shs]; first | done | assumption | omega | (simp only [natc] at *; omega))) ?_; cbv)
    | (refine bc_split (fun h => ?_) (fun h => ?_) <;> (try simp (disch := omega) only [hF, natc, w64_in, shs] at h) <;> cbv)
  subst hQ
  exact leaf_sr rfl rfl ⟨rfl, rfl⟩

theorem sRead_ram (c n k : Int) (B X K G : Ob) (j a y z w e : Int) (ha : AtW c n k B X K G j a 1 y z 0)
    (hb : CallOK (O := Ob) PR n_bus_Bus_Load [.ptr 0 0, .dv (.int .i64 j), .dv (.int .i64 a)] [.obj B] fun v m => v = .tup [.dv (.int .i64 w), .dv (.int .i64 e)] ∧ m = [.obj B]) :
    CallOK (O := Ob) PR n_soc_Soc_Read [.ptr 0 0, .dv (.int .i64 j), .dv (.int .i64 a)] [.obj (sO c n k B X K G)] fun v m => v = .tup [.dv (.int .i64 w), .dv (.int .i64 e)] ∧ m = [.obj (sO c n k B X K G)] := by
  unfold AtW sM at ha
  refine fn_walkv mixed fn_soc_Soc_Read Ent.opn1 fun bin cmp un conv bnot beq band sel isel ofN toN inb nz nneg lt le room' slb add sub sbin scmp slen sget ssub addk pc pb pi pf ps mkok min_ ig aeq P hP hA hF Q hQ => ?_
  cbv
  repeat' first
    | (refine call_at hP [0, 1, 2, 3, 4] code_soc_Soc_at (ha) rfl ?_ ?_ ?_; (focus ((repeat' (first | exact trivial | exact rfl | (intro _ _ _ _; exact rfl) | refine And.intro ?_ ?_)); done)); (focus (cbv; (try simp); done)); rintro _ _ ⟨rfl, rfl⟩ _; cbv)
    | (refine call_at hP [1] code_bus_Bus_Load (hb) rfl ?_ ?_ ?_; (focus ((repeat' (first | exact trivial | exact rfl | (intro _ _ _ _; exact rfl) | refine And.intro ?_ ?_)); done)); (focus (cbv; (try simp); done)); rintro _ _ ⟨rfl, rfl⟩ _; cbv)
    | (refine Chk.mk trivial ?_; cbv)
    | (refine bc_true (by first | assumption | (simp (disch := omega) only [hF, natc, w64_in, shs]; first | done | assumption | omega | (simp only [natc] at *; omega))) ?_; cbv)
    | (refine bc_false (by first | assumption | (simp (disch := omega) only [hF, natc, w64_in, shs]; first | done | assumption | omega | (simp only [natc] at *; omega))) ?_; cbv)
    | (refine bc_split (fun h => ?_) (fun h => ?_) <;> (try simp (disch := omega) only [hF, natc, w64_in, shs] at h) <;> cbv)
  subst hQ
  exact leaf_sr rfl rfl ⟨rfl, rfl⟩

theorem sRead_mail_no (c n k : Int) (B X K G : Ob) (j a y z : Int) (hy : y ≠ j) (ha : AtW c n k B X K G j a 2 y z 0) :
    CallOK (O := Ob) PR n_soc_Soc_Read [.ptr 0 0, .dv (.int .i64 j), .dv (.int .i64 a)] [.obj (sO c n k B X K G)] fun v m => v = .tup [.dv (.int .i64 0), .dv (.int .i64 4)] ∧ m = [.obj (sO c n k B X K G)] := by
  unfold AtW sM at ha
  refine fn_walkv mixed fn_soc_Soc_Read Ent.opn1 fun bin cmp un conv bnot beq band sel isel ofN toN inb nz nneg lt le room' slb add sub sbin scmp slen sget ssub addk pc pb pi pf ps mkok min_ ig aeq P hP hA hF Q hQ => ?_
  have hg : cmp .neq y j = true := by simp only [hF, decide_eq_true_eq]; exact hy
  cbv
  repeat' first
    | (refine call_at hP [0, 1, 2, 3, 4] code_soc_Soc_at (ha) rfl ?_ ?_ ?_; (focus ((repeat' (first | exact trivial | exact rfl | (intro _ _ _ _; exact rfl) | refine And.intro ?_ ?_)); done)); (focus (cbv; (try simp); done)); rintro _ _ ⟨rfl, rfl⟩ _; cbv)
    | ((rw [hg]); cbv)
    | (refine Chk.mk trivial ?_; cbv)
    | (refine bc_true (by first | assumption | (simp (disch := omega) only [hF, natc, w64_in, shs]; first | done | assumption | omega | (simp only [natc] at *; omega))) ?_; cbv)
    | (refine bc_false (by first | assumption | (simp (disch := omega) only [hF, natc, w64_in, shs]; first | done | assumption | omega | (simp only [natc] at *; omega))) ?_; cbv)
    | (refine bc_split (fun h => ?_) (fun h => ?_) <;> (try simp (disch := omega) only [hF, natc, w64_in, shs] at h) <;> cbv)
  subst hQ
  exact leaf_sr rfl rfl ⟨rfl, rfl⟩

theorem sRead_mail0 (c n k : Int) (B B' X K G : Ob) (j a : Int) (PX : Ob → Prop) (ha : AtW c n k B X K G j a 2 j 0 0) (hf : BFen B B' j)
    (hx : CallOK (O := Ob) PR n_mbox_Box_Pending [.ptr 0 0, .dv (.int .i64 j)] [.obj X] fun v m => (∃ x e, v = .tup [.dv (.int .i64 x), .dv (.int .i64 e)]) ∧ ∃ X, PX X ∧ m = [.obj X]) :
    CallOK (O := Ob) PR n_soc_Soc_Read [.ptr 0 0, .dv (.int .i64 j), .dv (.int .i64 a)] [.obj (sO c n k B X K G)] fun v m => (∃ x, v = .tup [.dv (.int .i64 x), .dv (.int .i64 0)]) ∧ ∃ X, PX X ∧ m = [.obj (sO c n k B' X K G)] := by
  unfold AtW sM at ha; unfold BFen at hf
  refine fn_walkv mixed fn_soc_Soc_Read Ent.opn1 fun bin cmp un conv bnot beq band sel isel ofN toN inb nz nneg lt le room' slb add sub sbin scmp slen sget ssub addk pc pb pi pf ps mkok min_ ig aeq P hP hA hF Q hQ => ?_
  have hg : cmp .neq j j = false := by simp only [hF]; simp
  cbv
  repeat' first
    | (refine call_at hP [0, 1, 2, 3, 4] code_soc_Soc_at (ha) rfl ?_ ?_ ?_; (focus ((repeat' (first | exact trivial | exact rfl | (intro _ _ _ _; exact rfl) | refine And.intro ?_ ?_)); done)); (focus (cbv; (try simp); done)); rintro _ _ ⟨rfl, rfl⟩ _; cbv)
    | ((rw [hg]); cbv)
    | (refine call_at hP [1] code_bus_Bus_Fence (hf) rfl ?_ ?_ ?_; (focus ((repeat' (first | exact trivial | exact rfl | (intro _ _ _ _; exact rfl) | refine And.intro ?_ ?_)); done)); (focus (cbv; (try simp); done)); rintro _ _ ⟨⟨z, rfl⟩, rfl⟩ _; cbv)
    | ((refine call_inl hP mixed hA code_soc_Soc_register fn_soc_Soc_register ?_); cbv)
    | (refine call_at hP [2] code_mbox_Box_Pending (hx) rfl ?_ ?_ ?_; (focus ((repeat' (first | exact trivial | exact rfl | (intro _ _ _ _; exact rfl) | refine And.intro ?_ ?_)); done)); (focus (cbv; (try simp); done)); rintro _ _ ⟨⟨x, e, rfl⟩, X', hX, rfl⟩ _; cbv)
    | (refine Chk.mk trivial ?_; cbv)
    | (refine bc_true (by first | assumption | (simp (disch := omega) only [hF, natc, w64_in, shs]; first | done | assumption | omega | (simp only [natc] at *; omega))) ?_; cbv)
    | (refine bc_false (by first | assumption | (simp (disch := omega) only [hF, natc, w64_in, shs]; first | done | assumption | omega | (simp only [natc] at *; omega))) ?_; cbv)
    | (refine bc_split (fun h => ?_) (fun h => ?_) <;> (try simp (disch := omega) only [hF, natc, w64_in, shs] at h) <;> cbv)
  subst hQ
  exact leaf_sr rfl rfl ⟨⟨_, rfl⟩, _, hX, rfl⟩

theorem sRead_mail1 (c n k : Int) (B B' X K G : Ob) (j a : Int) (PX : Ob → Prop) (ha : AtW c n k B X K G j a 2 j 1 0) (hf : BFen B B' j)
    (hx : CallOK (O := Ob) PR n_mbox_Box_Take [.ptr 0 0, .dv (.int .i64 j)] [.obj X] fun v m => (∃ x y e, v = .tup [.dv (.int .i64 x), .dv (.int .i64 y), .dv (.int .i64 e)]) ∧ ∃ X, PX X ∧ m = [.obj X]) :
    CallOK (O := Ob) PR n_soc_Soc_Read [.ptr 0 0, .dv (.int .i64 j), .dv (.int .i64 a)] [.obj (sO c n k B X K G)] fun v m => (∃ x, v = .tup [.dv (.int .i64 x), .dv (.int .i64 0)]) ∧ ∃ X, PX X ∧ m = [.obj (sO c n k B' X K G)] := by
  unfold AtW sM at ha; unfold BFen at hf
  refine fn_walkv mixed fn_soc_Soc_Read Ent.opn1 fun bin cmp un conv bnot beq band sel isel ofN toN inb nz nneg lt le room' slb add sub sbin scmp slen sget ssub addk pc pb pi pf ps mkok min_ ig aeq P hP hA hF Q hQ => ?_
  have hg : cmp .neq j j = false := by simp only [hF]; simp
  cbv
  repeat' first
    | (refine call_at hP [0, 1, 2, 3, 4] code_soc_Soc_at (ha) rfl ?_ ?_ ?_; (focus ((repeat' (first | exact trivial | exact rfl | (intro _ _ _ _; exact rfl) | refine And.intro ?_ ?_)); done)); (focus (cbv; (try simp); done)); rintro _ _ ⟨rfl, rfl⟩ _; cbv)
    | ((rw [hg]); cbv)
    | (refine call_at hP [1] code_bus_Bus_Fence (hf) rfl ?_ ?_ ?_; (focus ((repeat' (first | exact trivial | exact rfl | (intro _ _ _ _; exact rfl) | refine And.intro ?_ ?_)); done)); (focus (cbv; (try simp); done)); rintro _ _ ⟨⟨z, rfl⟩, rfl⟩ _; cbv)
    | ((refine call_inl hP mixed hA code_soc_Soc_register fn_soc_Soc_register ?_); cbv)
    | (refine call_at hP [2] code_mbox_Box_Take (hx) rfl ?_ ?_ ?_; (focus ((repeat' (first | exact trivial | exact rfl | (intro _ _ _ _; exact rfl) | refine And.intro ?_ ?_)); done)); (focus (cbv; (try simp); done)); rintro _ _ ⟨⟨x, y, e, rfl⟩, X', hX, rfl⟩ _; cbv)
    | (refine Chk.mk trivial ?_; cbv)
    | (refine bc_true (by first | assumption | (simp (disch := omega) only [hF, natc, w64_in, shs]; first | done | assumption | omega | (simp only [natc] at *; omega))) ?_; cbv)
    | (refine bc_false (by first | assumption | (simp (disch := omega) only [hF, natc, w64_in, shs]; first | done | assumption | omega | (simp only [natc] at *; omega))) ?_; cbv)
    | (refine bc_split (fun h => ?_) (fun h => ?_) <;> (try simp (disch := omega) only [hF, natc, w64_in, shs] at h) <;> cbv)
  subst hQ
  exact leaf_sr rfl rfl ⟨⟨_, rfl⟩, _, hX, rfl⟩

theorem sRead_mail2 (c n k : Int) (B B' X K G : Ob) (j a : Int) (PX : Ob → Prop) (ha : AtW c n k B X K G j a 2 j 2 0) (hf : BFen B B' j)
    (hx : CallOK (O := Ob) PR n_mbox_Box_Waits [.ptr 0 0, .dv (.int .i64 j)] [.obj X] fun v m => (∃ x, v = .dv (.int .i64 x)) ∧ ∃ X, PX X ∧ m = [.obj X]) :
    CallOK (O := Ob) PR n_soc_Soc_Read [.ptr 0 0, .dv (.int .i64 j), .dv (.int .i64 a)] [.obj (sO c n k B X K G)] fun v m => (∃ x, v = .tup [.dv (.int .i64 x), .dv (.int .i64 0)]) ∧ ∃ X, PX X ∧ m = [.obj (sO c n k B' X K G)] := by
  unfold AtW sM at ha; unfold BFen at hf
  refine fn_walkv mixed fn_soc_Soc_Read Ent.opn1 fun bin cmp un conv bnot beq band sel isel ofN toN inb nz nneg lt le room' slb add sub sbin scmp slen sget ssub addk pc pb pi pf ps mkok min_ ig aeq P hP hA hF Q hQ => ?_
  have hg : cmp .neq j j = false := by simp only [hF]; simp
  cbv
  repeat' first
    | (refine call_at hP [0, 1, 2, 3, 4] code_soc_Soc_at (ha) rfl ?_ ?_ ?_; (focus ((repeat' (first | exact trivial | exact rfl | (intro _ _ _ _; exact rfl) | refine And.intro ?_ ?_)); done)); (focus (cbv; (try simp); done)); rintro _ _ ⟨rfl, rfl⟩ _; cbv)
    | ((rw [hg]); cbv)
    | (refine call_at hP [1] code_bus_Bus_Fence (hf) rfl ?_ ?_ ?_; (focus ((repeat' (first | exact trivial | exact rfl | (intro _ _ _ _; exact rfl) | refine And.intro ?_ ?_)); done)); (focus (cbv; (try simp); done)); rintro _ _ ⟨⟨z, rfl⟩, rfl⟩ _; cbv)
    | ((refine call_inl hP mixed hA code_soc_Soc_register fn_soc_Soc_register ?_); cbv)
    | (refine call_at hP [2] code_mbox_Box_Waits (hx) rfl ?_ ?_ ?_; (focus ((repeat' (first | exact trivial | exact rfl | (intro _ _ _ _; exact rfl) | refine And.intro ?_ ?_)); done)); (focus (cbv; (try simp); done)); rintro _ _ ⟨⟨x, rfl⟩, X', hX, rfl⟩ _; cbv)
    | (refine Chk.mk trivial ?_; cbv)
    | (refine bc_true (by first | assumption | (simp (disch := omega) only [hF, natc, w64_in, shs]; first | done | assumption | omega | (simp only [natc] at *; omega))) ?_; cbv)
    | (refine bc_false (by first | assumption | (simp (disch := omega) only [hF, natc, w64_in, shs]; first | done | assumption | omega | (simp only [natc] at *; omega))) ?_; cbv)
    | (refine bc_split (fun h => ?_) (fun h => ?_) <;> (try simp (disch := omega) only [hF, natc, w64_in, shs] at h) <;> cbv)
  subst hQ
  exact leaf_sr rfl rfl ⟨⟨_, rfl⟩, _, hX, rfl⟩

theorem sRead_lock (c n k : Int) (B B' X K K' G : Ob) (j a y z : Int) (b : Bool) (ha : AtW c n k B X K G j a 3 y z 0) (hf : BFen B B' j)
    (hx : CallOK (O := Ob) PR n_locks_Bank_Try [.ptr 0 0, .dv (.int .i64 j), .dv (.int .i64 y)] [.obj K] fun v m => v = .tup [.dv (.bool b), .dv (.int .i64 0)] ∧ m = [.obj K']) :
    CallOK (O := Ob) PR n_soc_Soc_Read [.ptr 0 0, .dv (.int .i64 j), .dv (.int .i64 a)] [.obj (sO c n k B X K G)] fun v m => v = .tup [.dv (.int .i64 (if b = true then 1 else 0)), .dv (.int .i64 0)] ∧ m = [.obj (sO c n k B' X K' G)] := by
  unfold AtW sM at ha; unfold BFen at hf
  cases b
  · refine fn_walkv mixed fn_soc_Soc_Read Ent.opn1 fun bin cmp un conv bnot beq band sel isel ofN toN inb nz nneg lt le room' slb add sub sbin scmp slen sget ssub addk pc pb pi pf ps mkok min_ ig aeq P hP hA hF Q hQ => ?_
    cbv
    repeat' first
      | (refine call_at hP [0, 1, 2, 3, 4] code_soc_Soc_at (ha) rfl ?_ ?_ ?_; (focus ((repeat' (first | exact trivial | exact rfl | (intro _ _ _ _; exact rfl) | refine And.intro ?_ ?_)); done)); (focus (cbv; (try simp); done)); rintro _ _ ⟨rfl, rfl⟩ _; cbv)
      | (refine call_at hP [1] code_bus_Bus_Fence (hf) rfl ?_ ?_ ?_; (focus ((repeat' (first | exact trivial | exact rfl | (intro _ _ _ _; exact rfl) | refine And.intro ?_ ?_)); done)); (focus (cbv; (try simp); done)); rintro _ _ ⟨⟨z, rfl⟩, rfl⟩ _; cbv)
      | ((refine call_inl hP mixed hA code_soc_Soc_register fn_soc_Soc_register ?_); cbv)
      | (refine call_at hP [3] code_locks_Bank_Try (hx) rfl ?_ ?_ ?_; (focus ((repeat' (first | exact trivial | exact rfl | (intro _ _ _ _; exact rfl) | refine And.intro ?_ ?_)); done)); (focus (cbv; (try simp); done)); rintro _ _ ⟨rfl, rfl⟩ _; cbv)
      | (refine Chk.mk trivial ?_; cbv)
      | (refine bc_true (by first | assumption | (simp (disch := omega) only [hF, natc, w64_in, shs]; first | done | assumption | omega | (simp only [natc] at *; omega))) ?_; cbv)
      | (refine bc_false (by first | assumption | (simp (disch := omega) only [hF, natc, w64_in, shs]; first | done | assumption | omega | (simp only [natc] at *; omega))) ?_; cbv)
      | (refine bc_split (fun h => ?_) (fun h => ?_) <;> (try simp (disch := omega) only [hF, natc, w64_in, shs] at h) <;> cbv)
    subst hQ
    exact leaf_sr rfl rfl ⟨rfl, rfl⟩
  · refine fn_walkv mixed fn_soc_Soc_Read Ent.opn1 fun bin cmp un conv bnot beq band sel isel ofN toN inb nz nneg lt le room' slb add sub sbin scmp slen sget ssub addk pc pb pi pf ps mkok min_ ig aeq P hP hA hF Q hQ => ?_
    cbv
    repeat' first
      | (refine call_at hP [0, 1, 2, 3, 4] code_soc_Soc_at (ha) rfl ?_ ?_ ?_; (focus ((repeat' (first | exact trivial | exact rfl | (intro _ _ _ _; exact rfl) | refine And.intro ?_ ?_)); done)); (focus (cbv; (try simp); done)); rintro _ _ ⟨rfl, rfl⟩ _; cbv)
      | (refine call_at hP [1] code_bus_Bus_Fence (hf) rfl ?_ ?_ ?_; (focus ((repeat' (first | exact trivial | exact rfl | (intro _ _ _ _; exact rfl) | refine And.intro ?_ ?_)); done)); (focus (cbv; (try simp); done)); rintro _ _ ⟨⟨z, rfl⟩, rfl⟩ _; cbv)
      | ((refine call_inl hP mixed hA code_soc_Soc_register fn_soc_Soc_register ?_); cbv)
      | (refine call_at hP [3] code_locks_Bank_Try (hx) rfl ?_ ?_ ?_; (focus ((repeat' (first | exact trivial | exact rfl | (intro _ _ _ _; exact rfl) | refine And.intro ?_ ?_)); done)); (focus (cbv; (try simp); done)); rintro _ _ ⟨rfl, rfl⟩ _; cbv)
      | (refine Chk.mk trivial ?_; cbv)
      | (refine bc_true (by first | assumption | (simp (disch := omega) only [hF, natc, w64_in, shs]; first | done | assumption | omega | (simp only [natc] at *; omega))) ?_; cbv)
      | (refine bc_false (by first | assumption | (simp (disch := omega) only [hF, natc, w64_in, shs]; first | done | assumption | omega | (simp only [natc] at *; omega))) ?_; cbv)
      | (refine bc_split (fun h => ?_) (fun h => ?_) <;> (try simp (disch := omega) only [hF, natc, w64_in, shs] at h) <;> cbv)
    subst hQ
    exact leaf_sr rfl rfl ⟨rfl, rfl⟩

theorem sRead_gate (c n k : Int) (B B' X K G : Ob) (j a y z u : Int) (ha : AtW c n k B X K G j a 4 y z 0) (hf : BFen B B' j) (hx : GEp G y u 0) :
    CallOK (O := Ob) PR n_soc_Soc_Read [.ptr 0 0, .dv (.int .i64 j), .dv (.int .i64 a)] [.obj (sO c n k B X K G)] fun v m => v = .tup [.dv (.int .i64 u), .dv (.int .i64 0)] ∧ m = [.obj (sO c n k B' X K G)] := by
  unfold AtW sM at ha; unfold BFen at hf; unfold GEp at hx
  refine fn_walkv mixed fn_soc_Soc_Read Ent.opn1 fun bin cmp un conv bnot beq band sel isel ofN toN inb nz nneg lt le room' slb add sub sbin scmp slen sget ssub addk pc pb pi pf ps mkok min_ ig aeq P hP hA hF Q hQ => ?_
  cbv
  repeat' first
    | (refine call_at hP [0, 1, 2, 3, 4] code_soc_Soc_at (ha) rfl ?_ ?_ ?_; (focus ((repeat' (first | exact trivial | exact rfl | (intro _ _ _ _; exact rfl) | refine And.intro ?_ ?_)); done)); (focus (cbv; (try simp); done)); rintro _ _ ⟨rfl, rfl⟩ _; cbv)
    | (refine call_at hP [1] code_bus_Bus_Fence (hf) rfl ?_ ?_ ?_; (focus ((repeat' (first | exact trivial | exact rfl | (intro _ _ _ _; exact rfl) | refine And.intro ?_ ?_)); done)); (focus (cbv; (try simp); done)); rintro _ _ ⟨⟨z, rfl⟩, rfl⟩ _; cbv)
    | ((refine call_inl hP mixed hA code_soc_Soc_register fn_soc_Soc_register ?_); cbv)
    | (refine call_at hP [4] code_gate_Gate_Epoch (hx) rfl ?_ ?_ ?_; (focus ((repeat' (first | exact trivial | exact rfl | (intro _ _ _ _; exact rfl) | refine And.intro ?_ ?_)); done)); (focus (cbv; (try simp); done)); rintro _ _ ⟨rfl, rfl⟩ _; cbv)
    | (refine Chk.mk trivial ?_; cbv)
    | (refine bc_true (by first | assumption | (simp (disch := omega) only [hF, natc, w64_in, shs]; first | done | assumption | omega | (simp only [natc] at *; omega))) ?_; cbv)
    | (refine bc_false (by first | assumption | (simp (disch := omega) only [hF, natc, w64_in, shs]; first | done | assumption | omega | (simp only [natc] at *; omega))) ?_; cbv)
    | (refine bc_split (fun h => ?_) (fun h => ?_) <;> (try simp (disch := omega) only [hF, natc, w64_in, shs] at h) <;> cbv)
  subst hQ
  exact leaf_sr rfl rfl ⟨rfl, rfl⟩

end Go.Proofs.YtiaceoomiflgcaaGreat

end

section
namespace Go.Proofs.YtiaceoomiflgcaaGreat
open Go.V
set_option linter.unusedVariables false
set_option linter.unusedSimpArgs false
set_option maxRecDepth 100000
set_option maxHeartbeats 8000000

def WordW (w x : Int) : Prop := CallOK (O := Ob) PR n_wrap_Word [.dv (.int .i64 w)] [] fun v m => v = .dv (.int .i64 x) ∧ m = []
def SWr (c n k : Int) (B X K G : Ob) (j a w : Int) (Q : SV → List (Chunk Ob) → Prop) : Prop := CallOK (O := Ob) PR n_soc_Soc_Write [.ptr 0 0, .dv (.int .i64 j), .dv (.int .i64 a), .dv (.int .i64 w)] [.obj (sO c n k B X K G)] Q

theorem sWrite_no (c n k : Int) (B X K G : Ob) (j a w e : Int) (he : e ≠ 0) (ha : AtW c n k B X K G j a 0 0 0 e) :
    SWr c n k B X K G j a w fun v m => v = .dv (.int .i64 e) ∧ m = [.obj (sO c n k B X K G)] := by
  unfold AtW sM at ha; unfold SWr
  refine fn_walkv mixed fn_soc_Soc_Write Ent.opn1 fun bin cmp un conv bnot beq band sel isel ofN toN inb nz nneg lt le room' slb add sub sbin scmp slen sget ssub addk pc pb pi pf ps mkok min_ ig aeq P hP hA hF Q hQ => ?_
  have hg : cmp .neq e 0 = true := by simp only [hF, decide_eq_true_eq]; exact he
  cbv
  repeat' first
    | (refine call_at hP [0, 1, 2, 3, 4] code_soc_Soc_at (ha) rfl ?_ ?_ ?_; (focus ((repeat' (first | exact trivial | exact rfl | (intro _ _ _ _; exact rfl) | refine And.intro ?_ ?_)); done)); (focus (cbv; (try simp); done)); rintro _ _ ⟨rfl, rfl⟩ _; cbv)
    | ((rw [hg]); cbv)
    | (refine Chk.mk trivial ?_; cbv)
    | (refine bc_true (by first | assumption | (simp (disch := omega) only [hF, natc, w64_in, shs]; first | done | assumption | omega | (simp only [natc] at *; omega))) ?_; cbv)
    | (refine bc_false (by first | assumption | (simp (disch := omega) only [hF, natc, w64_in, shs]; first | done | assumption | omega | (simp only [natc] at *; omega))) ?_; cbv)
    | (refine bc_split (fun h => ?_) (fun h => ?_) <;> (try simp (disch := omega) only [hF, natc, w64_in, shs] at h) <;> cbv)
  subst hQ
  exact leaf_sr rfl rfl ⟨rfl, rfl⟩

theorem sWrite_gate (c n k : Int) (B X K G : Ob) (j a w y z : Int) (ha : AtW c n k B X K G j a 4 y z 0) :
    SWr c n k B X K G j a w fun v m => v = .dv (.int .i64 4) ∧ m = [.obj (sO c n k B X K G)] := by
  unfold AtW sM at ha; unfold SWr
  refine fn_walkv mixed fn_soc_Soc_Write Ent.opn1 fun bin cmp un conv bnot beq band sel isel ofN toN inb nz nneg lt le room' slb add sub sbin scmp slen sget ssub addk pc pb pi pf ps mkok min_ ig aeq P hP hA hF Q hQ => ?_
  have hb : bnot false = true := by simp only [hF]; rfl
  cbv
  repeat' first
    | (refine call_at hP [0, 1, 2, 3, 4] code_soc_Soc_at (ha) rfl ?_ ?_ ?_; (focus ((repeat' (first | exact trivial | exact rfl | (intro _ _ _ _; exact rfl) | refine And.intro ?_ ?_)); done)); (focus (cbv; (try simp); done)); rintro _ _ ⟨rfl, rfl⟩ _; cbv)
    | ((refine call_inl hP mixed hA code_soc_may fn_soc_may ?_); cbv)
    | ((rw [hb]); cbv)
    | (refine Chk.mk trivial ?_; cbv)
    | (refine bc_true (by first | assumption | (simp (disch := omega) only [hF, natc, w64_in, shs]; first | done | assumption | omega | (simp only [natc] at *; omega))) ?_; cbv)
    | (refine bc_false (by first | assumption | (simp (disch := omega) only [hF, natc, w64_in, shs]; first | done | assumption | omega | (simp only [natc] at *; omega))) ?_; cbv)
    | (refine bc_split (fun h => ?_) (fun h => ?_) <;> (try simp (disch := omega) only [hF, natc, w64_in, shs] at h) <;> cbv)
  subst hQ
  exact leaf_sr rfl rfl ⟨rfl, rfl⟩

theorem sWrite_mail_no (c n k : Int) (B X K G : Ob) (j a w y z : Int) (hz : z ≠ 2) (hy : z ≠ 0 ∨ y ≠ j) (ha : AtW c n k B X K G j a 2 y z 0) :
    SWr c n k B X K G j a w fun v m => v = .dv (.int .i64 4) ∧ m = [.obj (sO c n k B X K G)] := by
  unfold AtW sM at ha; unfold SWr
  by_cases h0 : z = 0
  · subst h0
    have hy : y ≠ j := by omega
    refine fn_walkv mixed fn_soc_Soc_Write Ent.opn1 fun bin cmp un conv bnot beq band sel isel ofN toN inb nz nneg lt le room' slb add sub sbin scmp slen sget ssub addk pc pb pi pf ps mkok min_ ig aeq P hP hA hF Q hQ => ?_
    have hb : bnot false = true := by simp only [hF]; rfl
    have hg : cmp .eql y j = false := by simp only [hF, decide_eq_false_iff_not]; exact hy
    cbv
    repeat' first
      | (refine call_at hP [0, 1, 2, 3, 4] code_soc_Soc_at (ha) rfl ?_ ?_ ?_; (focus ((repeat' (first | exact trivial | exact rfl | (intro _ _ _ _; exact rfl) | refine And.intro ?_ ?_)); done)); (focus (cbv; (try simp); done)); rintro _ _ ⟨rfl, rfl⟩ _; cbv)
      | ((refine call_inl hP mixed hA code_soc_may fn_soc_may ?_); cbv)
      | ((rw [hb]); cbv)
      | ((rw [hg]); cbv)
      | (refine Chk.mk trivial ?_; cbv)
      | (refine bc_true (by first | assumption | (simp (disch := omega) only [hF, natc, w64_in, shs]; first | done | assumption | omega | (simp only [natc] at *; omega))) ?_; cbv)
      | (refine bc_false (by first | assumption | (simp (disch := omega) only [hF, natc, w64_in, shs]; first | done | assumption | omega | (simp only [natc] at *; omega))) ?_; cbv)
      | (refine bc_split (fun h => ?_) (fun h => ?_) <;> (try simp (disch := omega) only [hF, natc, w64_in, shs] at h) <;> cbv)
    subst hQ
    exact leaf_sr rfl rfl ⟨rfl, rfl⟩
  · refine fn_walkv mixed fn_soc_Soc_Write Ent.opn1 fun bin cmp un conv bnot beq band sel isel ofN toN inb nz nneg lt le room' slb add sub sbin scmp slen sget ssub addk pc pb pi pf ps mkok min_ ig aeq P hP hA hF Q hQ => ?_
    have hb : bnot false = true := by simp only [hF]; rfl
    have hg : cmp .eql z 0 = false := by simp only [hF, decide_eq_false_iff_not]; exact h0
    have hg2 : cmp .eql z 2 = false := by simp only [hF, decide_eq_false_iff_not]; exact hz
    cbv
    repeat' first
      | (refine call_at hP [0, 1, 2, 3, 4] code_soc_Soc_at (ha) rfl ?_ ?_ ?_; (focus ((repeat' (first | exact trivial | exact rfl | (intro _ _ _ _; exact rfl) | refine And.intro ?_ ?_)); done)); (focus (cbv; (try simp); done)); rintro _ _ ⟨rfl, rfl⟩ _; cbv)
      | ((refine call_inl hP mixed hA code_soc_may fn_soc_may ?_); cbv)
      | ((rw [hb]); cbv)
      | ((rw [hg2]); cbv)
      | ((rw [hg]); cbv)
      | (refine Chk.mk trivial ?_; cbv)
      | (refine bc_true (by first | assumption | (simp (disch := omega) only [hF, natc, w64_in, shs]; first | done | assumption | omega | (simp only [natc] at *; omega))) ?_; cbv)
      | (refine bc_false (by first | assumption | (simp (disch := omega) only [hF, natc, w64_in, shs]; first | done | assumption | omega | (simp only [natc] at *; omega))) ?_; cbv)
      | (refine bc_split (fun h => ?_) (fun h => ?_) <;> (try simp (disch := omega) only [hF, natc, w64_in, shs] at h) <;> cbv)
    subst hQ
    exact leaf_sr rfl rfl ⟨rfl, rfl⟩

theorem sWrite_arg1 (c n k : Int) (B X K G : Ob) (j a w u x y z : Int) (hx : x ≠ 4 ∧ x ≠ 2) (hw : WordW w u) (hu : w ≠ u) (ha : AtW c n k B X K G j a x y z 0) :
    SWr c n k B X K G j a w fun v m => v = .dv (.int .i64 2) ∧ m = [.obj (sO c n k B X K G)] := by
  obtain ⟨x4, x2⟩ := hx
  unfold AtW sM at ha; unfold SWr; unfold WordW at hw
  refine fn_walkv mixed fn_soc_Soc_Write Ent.opn1 fun bin cmp un conv bnot beq band sel isel ofN toN inb nz nneg lt le room' slb add sub sbin scmp slen sget ssub addk pc pb pi pf ps mkok min_ ig aeq P hP hA hF Q hQ => ?_
  have hb : bnot true = false := by simp only [hF]; rfl
  have hg : cmp .neq w u = true := by simp only [hF, decide_eq_true_eq]; exact hu
  have g4 : cmp .eql x 4 = false := by simp only [hF, decide_eq_false_iff_not]; exact x4
  have g2 : cmp .eql x 2 = false := by simp only [hF, decide_eq_false_iff_not]; exact x2
  cbv
  repeat' first
    | (refine call_at hP [0, 1, 2, 3, 4] code_soc_Soc_at (ha) rfl ?_ ?_ ?_; (focus ((repeat' (first | exact trivial | exact rfl | (intro _ _ _ _; exact rfl) | refine And.intro ?_ ?_)); done)); (focus (cbv; (try simp); done)); rintro _ _ ⟨rfl, rfl⟩ _; cbv)
    | ((refine call_inl hP mixed hA code_soc_may fn_soc_may ?_); cbv)
    | ((rw [hb]); cbv)
    | ((rw [g4]); cbv)
    | ((rw [g2]); cbv)
    | ((rw [hg]); cbv)
    | (refine call_pure hP code_wrap_Word (hw) ?_ ?_; (focus (cbv; (try simp); done)); rintro _ rfl; cbv)
    | (refine Chk.mk trivial ?_; cbv)
    | (refine bc_true (by first | assumption | (simp (disch := omega) only [hF, natc, w64_in, shs]; first | done | assumption | omega | (simp only [natc] at *; omega))) ?_; cbv)
    | (refine bc_false (by first | assumption | (simp (disch := omega) only [hF, natc, w64_in, shs]; first | done | assumption | omega | (simp only [natc] at *; omega))) ?_; cbv)
    | (refine bc_split (fun h => ?_) (fun h => ?_) <;> (try simp (disch := omega) only [hF, natc, w64_in, shs] at h) <;> cbv)
  subst hQ
  exact leaf_sr rfl rfl ⟨rfl, rfl⟩

theorem sWrite_arg2 (c n k : Int) (B X K G : Ob) (j a w u y z : Int) (hz : z = 2 ∨ (z = 0 ∧ y = j)) (hw : WordW w u) (hu : w ≠ u) (ha : AtW c n k B X K G j a 2 y z 0) :
    SWr c n k B X K G j a w fun v m => v = .dv (.int .i64 2) ∧ m = [.obj (sO c n k B X K G)] := by
  unfold AtW sM at ha; unfold SWr; unfold WordW at hw
  rcases hz with rfl | ⟨rfl, rfl⟩
  · refine fn_walkv mixed fn_soc_Soc_Write Ent.opn1 fun bin cmp un conv bnot beq band sel isel ofN toN inb nz nneg lt le room' slb add sub sbin scmp slen sget ssub addk pc pb pi pf ps mkok min_ ig aeq P hP hA hF Q hQ => ?_
    have hb : bnot true = false := by simp only [hF]; rfl
    have hg : cmp .neq w u = true := by simp only [hF, decide_eq_true_eq]; exact hu
    cbv
    repeat' first
      | (refine call_at hP [0, 1, 2, 3, 4] code_soc_Soc_at (ha) rfl ?_ ?_ ?_; (focus ((repeat' (first | exact trivial | exact rfl | (intro _ _ _ _; exact rfl) | refine And.intro ?_ ?_)); done)); (focus (cbv; (try simp); done)); rintro _ _ ⟨rfl, rfl⟩ _; cbv)
      | ((refine call_inl hP mixed hA code_soc_may fn_soc_may ?_); cbv)
      | ((rw [hb]); cbv)
      | ((rw [hg]); cbv)
      | (refine call_pure hP code_wrap_Word (hw) ?_ ?_; (focus (cbv; (try simp); done)); rintro _ rfl; cbv)
      | (refine Chk.mk trivial ?_; cbv)
      | (refine bc_true (by first | assumption | (simp (disch := omega) only [hF, natc, w64_in, shs]; first | done | assumption | omega | (simp only [natc] at *; omega))) ?_; cbv)
      | (refine bc_false (by first | assumption | (simp (disch := omega) only [hF, natc, w64_in, shs]; first | done | assumption | omega | (simp only [natc] at *; omega))) ?_; cbv)
      | (refine bc_split (fun h => ?_) (fun h => ?_) <;> (try simp (disch := omega) only [hF, natc, w64_in, shs] at h) <;> cbv)
    subst hQ
    exact leaf_sr rfl rfl ⟨rfl, rfl⟩
  · refine fn_walkv mixed fn_soc_Soc_Write Ent.opn1 fun bin cmp un conv bnot beq band sel isel ofN toN inb nz nneg lt le room' slb add sub sbin scmp slen sget ssub addk pc pb pi pf ps mkok min_ ig aeq P hP hA hF Q hQ => ?_
    have hb : bnot true = false := by simp only [hF]; rfl
    have hg : cmp .neq w u = true := by simp only [hF, decide_eq_true_eq]; exact hu
    have hg2 : cmp .eql y y = true := by simp only [hF]; simp
    cbv
    repeat' first
      | (refine call_at hP [0, 1, 2, 3, 4] code_soc_Soc_at (ha) rfl ?_ ?_ ?_; (focus ((repeat' (first | exact trivial | exact rfl | (intro _ _ _ _; exact rfl) | refine And.intro ?_ ?_)); done)); (focus (cbv; (try simp); done)); rintro _ _ ⟨rfl, rfl⟩ _; cbv)
      | ((refine call_inl hP mixed hA code_soc_may fn_soc_may ?_); cbv)
      | ((rw [hb]); cbv)
      | ((rw [hg2]); cbv)
      | ((rw [hg]); cbv)
      | (refine call_pure hP code_wrap_Word (hw) ?_ ?_; (focus (cbv; (try simp); done)); rintro _ rfl; cbv)
      | (refine Chk.mk trivial ?_; cbv)
      | (refine bc_true (by first | assumption | (simp (disch := omega) only [hF, natc, w64_in, shs]; first | done | assumption | omega | (simp only [natc] at *; omega))) ?_; cbv)
      | (refine bc_false (by first | assumption | (simp (disch := omega) only [hF, natc, w64_in, shs]; first | done | assumption | omega | (simp only [natc] at *; omega))) ?_; cbv)
      | (refine bc_split (fun h => ?_) (fun h => ?_) <;> (try simp (disch := omega) only [hF, natc, w64_in, shs] at h) <;> cbv)
    subst hQ
    exact leaf_sr rfl rfl ⟨rfl, rfl⟩

theorem sWrite_ram (c n k : Int) (B B' X K G : Ob) (j a w y z e : Int) (hw : WordW w w) (ha : AtW c n k B X K G j a 1 y z 0)
    (hb : CallOK (O := Ob) PR n_bus_Bus_Store [.ptr 0 0, .dv (.int .i64 j), .dv (.int .i64 a), .dv (.int .i64 w)] [.obj B] fun v m => v = .dv (.int .i64 e) ∧ m = [.obj B']) :
    SWr c n k B X K G j a w fun v m => v = .dv (.int .i64 e) ∧ m = [.obj (sO c n k B' X K G)] := by
  unfold AtW sM at ha; unfold SWr; unfold WordW at hw
  refine fn_walkv mixed fn_soc_Soc_Write Ent.opn1 fun bin cmp un conv bnot beq band sel isel ofN toN inb nz nneg lt le room' slb add sub sbin scmp slen sget ssub addk pc pb pi pf ps mkok min_ ig aeq P hP hA hF Q hQ => ?_
  have hb0 : bnot true = false := by simp only [hF]; rfl
  have hg : cmp .neq w w = false := by simp only [hF]; simp
  cbv
  repeat' first
    | (refine call_at hP [0, 1, 2, 3, 4] code_soc_Soc_at (ha) rfl ?_ ?_ ?_; (focus ((repeat' (first | exact trivial | exact rfl | (intro _ _ _ _; exact rfl) | refine And.intro ?_ ?_)); done)); (focus (cbv; (try simp); done)); rintro _ _ ⟨rfl, rfl⟩ _; cbv)
    | ((refine call_inl hP mixed hA code_soc_may fn_soc_may ?_); cbv)
    | ((rw [hb0]); cbv)
    | ((rw [hg]); cbv)
    | (refine call_pure hP code_wrap_Word (hw) ?_ ?_; (focus (cbv; (try simp); done)); rintro _ rfl; cbv)
    | (refine call_at hP [1] code_bus_Bus_Store (hb) rfl ?_ ?_ ?_; (focus ((repeat' (first | exact trivial | exact rfl | (intro _ _ _ _; exact rfl) | refine And.intro ?_ ?_)); done)); (focus (cbv; (try simp); done)); rintro _ _ ⟨rfl, rfl⟩ _; cbv)
    | (refine Chk.mk trivial ?_; cbv)
    | (refine bc_true (by first | assumption | (simp (disch := omega) only [hF, natc, w64_in, shs]; first | done | assumption | omega | (simp only [natc] at *; omega))) ?_; cbv)
    | (refine bc_false (by first | assumption | (simp (disch := omega) only [hF, natc, w64_in, shs]; first | done | assumption | omega | (simp only [natc] at *; omega))) ?_; cbv)
    | (refine bc_split (fun h => ?_) (fun h => ?_) <;> (try simp (disch := omega) only [hF, natc, w64_in, shs] at h) <;> cbv)
  subst hQ
  exact leaf_sr rfl rfl ⟨rfl, rfl⟩

theorem sWrite_lock_no (c n k : Int) (B X K G : Ob) (j a w y z o : Int) (hw : WordW w w) (ha : AtW c n k B X K G j a 3 y z 0) (ho : o ≠ j)
    (hb : CallOK (O := Ob) PR n_locks_Bank_Owner [.ptr 0 0, .dv (.int .i64 y)] [.obj K] fun v m => v = .tup [.dv (.int .i64 o), .dv (.int .i64 0)] ∧ m = [.obj K]) :
    SWr c n k B X K G j a w fun v m => v = .dv (.int .i64 12) ∧ m = [.obj (sO c n k B X K G)] := by
  unfold AtW sM at ha; unfold SWr; unfold WordW at hw
  refine fn_walkv mixed fn_soc_Soc_Write Ent.opn1 fun bin cmp un conv bnot beq band sel isel ofN toN inb nz nneg lt le room' slb add sub sbin scmp slen sget ssub addk pc pb pi pf ps mkok min_ ig aeq P hP hA hF Q hQ => ?_
  have hb0 : bnot true = false := by simp only [hF]; rfl
  have hg : cmp .neq w w = false := by simp only [hF]; simp
  have hg2 : cmp .neq o j = true := by simp only [hF, decide_eq_true_eq]; exact ho
  cbv
  repeat' first
    | (refine call_at hP [0, 1, 2, 3, 4] code_soc_Soc_at (ha) rfl ?_ ?_ ?_; (focus ((repeat' (first | exact trivial | exact rfl | (intro _ _ _ _; exact rfl) | refine And.intro ?_ ?_)); done)); (focus (cbv; (try simp); done)); rintro _ _ ⟨rfl, rfl⟩ _; cbv)
    | ((refine call_inl hP mixed hA code_soc_may fn_soc_may ?_); cbv)
    | ((rw [hb0]); cbv)
    | ((rw [hg]); cbv)
    | ((rw [hg2]); cbv)
    | (refine call_pure hP code_wrap_Word (hw) ?_ ?_; (focus (cbv; (try simp); done)); rintro _ rfl; cbv)
    | (refine call_at hP [3] code_locks_Bank_Owner (hb) rfl ?_ ?_ ?_; (focus ((repeat' (first | exact trivial | exact rfl | (intro _ _ _ _; exact rfl) | refine And.intro ?_ ?_)); done)); (focus (cbv; (try simp); done)); rintro _ _ ⟨rfl, rfl⟩ _; cbv)
    | (refine Chk.mk trivial ?_; cbv)
    | (refine bc_true (by first | assumption | (simp (disch := omega) only [hF, natc, w64_in, shs]; first | done | assumption | omega | (simp only [natc] at *; omega))) ?_; cbv)
    | (refine bc_false (by first | assumption | (simp (disch := omega) only [hF, natc, w64_in, shs]; first | done | assumption | omega | (simp only [natc] at *; omega))) ?_; cbv)
    | (refine bc_split (fun h => ?_) (fun h => ?_) <;> (try simp (disch := omega) only [hF, natc, w64_in, shs] at h) <;> cbv)
  subst hQ
  exact leaf_sr rfl rfl ⟨rfl, rfl⟩

theorem sWrite_lock (c n k : Int) (B B' X K K' G : Ob) (j a w y z : Int) (hw : WordW w w) (ha : AtW c n k B X K G j a 3 y z 0)
    (hb : CallOK (O := Ob) PR n_locks_Bank_Owner [.ptr 0 0, .dv (.int .i64 y)] [.obj K] fun v m => v = .tup [.dv (.int .i64 j), .dv (.int .i64 0)] ∧ m = [.obj K])
    (hf : CallOK (O := Ob) PR n_bus_Bus_Fence [.ptr 0 0, .dv (.int .i64 j)] [.obj B] fun v m => (∃ z, v = .tup [.dv (.int .i64 z), .dv (.int .i64 0)]) ∧ m = [.obj B'])
    (hr : CallOK (O := Ob) PR n_locks_Bank_Free [.ptr 0 0, .dv (.int .i64 j), .dv (.int .i64 y)] [.obj K] fun v m => v = .dv (.int .i64 0) ∧ m = [.obj K']) :
    SWr c n k B X K G j a w fun v m => v = .dv (.int .i64 0) ∧ m = [.obj (sO c n k B' X K' G)] := by
  unfold AtW sM at ha; unfold SWr; unfold WordW at hw
  refine fn_walkv mixed fn_soc_Soc_Write Ent.opn1 fun bin cmp un conv bnot beq band sel isel ofN toN inb nz nneg lt le room' slb add sub sbin scmp slen sget ssub addk pc pb pi pf ps mkok min_ ig aeq P hP hA hF Q hQ => ?_
  have hb0 : bnot true = false := by simp only [hF]; rfl
  have hg : cmp .neq w w = false := by simp only [hF]; simp
  have hg2 : cmp .neq j j = false := by simp only [hF]; simp
  cbv
  repeat' first
    | (refine call_at hP [0, 1, 2, 3, 4] code_soc_Soc_at (ha) rfl ?_ ?_ ?_; (focus ((repeat' (first | exact trivial | exact rfl | (intro _ _ _ _; exact rfl) | refine And.intro ?_ ?_)); done)); (focus (cbv; (try simp); done)); rintro _ _ ⟨rfl, rfl⟩ _; cbv)
    | ((refine call_inl hP mixed hA code_soc_may fn_soc_may ?_); cbv)
    | ((rw [hb0]); cbv)
    | ((rw [hg]); cbv)
    | ((rw [hg2]); cbv)
    | (refine call_pure hP code_wrap_Word (hw) ?_ ?_; (focus (cbv; (try simp); done)); rintro _ rfl; cbv)
    | (refine call_at hP [3] code_locks_Bank_Owner (hb) rfl ?_ ?_ ?_; (focus ((repeat' (first | exact trivial | exact rfl | (intro _ _ _ _; exact rfl) | refine And.intro ?_ ?_)); done)); (focus (cbv; (try simp); done)); rintro _ _ ⟨rfl, rfl⟩ _; cbv)
    | (refine call_at hP [1] code_bus_Bus_Fence (hf) rfl ?_ ?_ ?_; (focus ((repeat' (first | exact trivial | exact rfl | (intro _ _ _ _; exact rfl) | refine And.intro ?_ ?_)); done)); (focus (cbv; (try simp); done)); rintro _ _ ⟨⟨z, rfl⟩, rfl⟩ _; cbv)
    | (refine call_at hP [3] code_locks_Bank_Free (hr) rfl ?_ ?_ ?_; (focus ((repeat' (first | exact trivial | exact rfl | (intro _ _ _ _; exact rfl) | refine And.intro ?_ ?_)); done)); (focus (cbv; (try simp); done)); rintro _ _ ⟨rfl, rfl⟩ _; cbv)
    | (refine Chk.mk trivial ?_; cbv)
    | (refine bc_true (by first | assumption | (simp (disch := omega) only [hF, natc, w64_in, shs]; first | done | assumption | omega | (simp only [natc] at *; omega))) ?_; cbv)
    | (refine bc_false (by first | assumption | (simp (disch := omega) only [hF, natc, w64_in, shs]; first | done | assumption | omega | (simp only [natc] at *; omega))) ?_; cbv)
    | (refine bc_split (fun h => ?_) (fun h => ?_) <;> (try simp (disch := omega) only [hF, natc, w64_in, shs] at h) <;> cbv)
  subst hQ
  exact leaf_sr rfl rfl ⟨rfl, rfl⟩

theorem sWrite_ack (c n k : Int) (B B' X K G : Ob) (j a w : Int) (PX : Ob → Prop) (hw : WordW w w) (ha : AtW c n k B X K G j a 2 j 0 0)
    (hf : CallOK (O := Ob) PR n_bus_Bus_Fence [.ptr 0 0, .dv (.int .i64 j)] [.obj B] fun v m => (∃ z, v = .tup [.dv (.int .i64 z), .dv (.int .i64 0)]) ∧ m = [.obj B'])
    (hr : CallOK (O := Ob) PR n_mbox_Box_Ack [.ptr 0 0, .dv (.int .i64 j), .dv (.int .i64 w)] [.obj X] fun v m => (∃ e, v = .dv (.int .i64 e)) ∧ ∃ X, PX X ∧ m = [.obj X]) :
    SWr c n k B X K G j a w fun v m => (∃ e, v = .dv (.int .i64 e)) ∧ ∃ X, PX X ∧ m = [.obj (sO c n k B' X K G)] := by
  unfold AtW sM at ha; unfold SWr; unfold WordW at hw
  refine fn_walkv mixed fn_soc_Soc_Write Ent.opn1 fun bin cmp un conv bnot beq band sel isel ofN toN inb nz nneg lt le room' slb add sub sbin scmp slen sget ssub addk pc pb pi pf ps mkok min_ ig aeq P hP hA hF Q hQ => ?_
  have hb0 : bnot true = false := by simp only [hF]; rfl
  have hg : cmp .neq w w = false := by simp only [hF]; simp
  have hg2 : cmp .eql j j = true := by simp only [hF]; simp
  cbv
  repeat' first
    | (refine call_at hP [0, 1, 2, 3, 4] code_soc_Soc_at (ha) rfl ?_ ?_ ?_; (focus ((repeat' (first | exact trivial | exact rfl | (intro _ _ _ _; exact rfl) | refine And.intro ?_ ?_)); done)); (focus (cbv; (try simp); done)); rintro _ _ ⟨rfl, rfl⟩ _; cbv)
    | ((refine call_inl hP mixed hA code_soc_may fn_soc_may ?_); cbv)
    | ((rw [hb0]); cbv)
    | ((rw [hg]); cbv)
    | ((rw [hg2]); cbv)
    | (refine call_pure hP code_wrap_Word (hw) ?_ ?_; (focus (cbv; (try simp); done)); rintro _ rfl; cbv)
    | (refine call_at hP [1] code_bus_Bus_Fence (hf) rfl ?_ ?_ ?_; (focus ((repeat' (first | exact trivial | exact rfl | (intro _ _ _ _; exact rfl) | refine And.intro ?_ ?_)); done)); (focus (cbv; (try simp); done)); rintro _ _ ⟨⟨z, rfl⟩, rfl⟩ _; cbv)
    | (refine call_at hP [2] code_mbox_Box_Ack (hr) rfl ?_ ?_ ?_; (focus ((repeat' (first | exact trivial | exact rfl | (intro _ _ _ _; exact rfl) | refine And.intro ?_ ?_)); done)); (focus (cbv; (try simp); done)); rintro _ _ ⟨⟨e, rfl⟩, X', hX, rfl⟩ _; cbv)
    | (refine Chk.mk trivial ?_; cbv)
    | (refine bc_true (by first | assumption | (simp (disch := omega) only [hF, natc, w64_in, shs]; first | done | assumption | omega | (simp only [natc] at *; omega))) ?_; cbv)
    | (refine bc_false (by first | assumption | (simp (disch := omega) only [hF, natc, w64_in, shs]; first | done | assumption | omega | (simp only [natc] at *; omega))) ?_; cbv)
    | (refine bc_split (fun h => ?_) (fun h => ?_) <;> (try simp (disch := omega) only [hF, natc, w64_in, shs] at h) <;> cbv)
  subst hQ
  exact leaf_sr rfl rfl ⟨⟨_, rfl⟩, _, hX, rfl⟩

theorem sWrite_ring (c n k : Int) (B B' X K G : Ob) (j a w y : Int) (PX : Ob → Prop) (hw : WordW w w) (ha : AtW c n k B X K G j a 2 y 2 0)
    (hf : CallOK (O := Ob) PR n_bus_Bus_Fence [.ptr 0 0, .dv (.int .i64 j)] [.obj B] fun v m => (∃ z, v = .tup [.dv (.int .i64 z), .dv (.int .i64 0)]) ∧ m = [.obj B'])
    (hr : CallOK (O := Ob) PR n_mbox_Box_Ring [.ptr 0 0, .dv (.int .i64 j), .dv (.int .i64 y), .dv (.int .i64 w)] [.obj X] fun v m => (∃ e, v = .dv (.int .i64 e)) ∧ ∃ X, PX X ∧ m = [.obj X]) :
    SWr c n k B X K G j a w fun v m => (∃ e, v = .dv (.int .i64 e)) ∧ ∃ X, PX X ∧ m = [.obj (sO c n k B' X K G)] := by
  unfold AtW sM at ha; unfold SWr; unfold WordW at hw
  refine fn_walkv mixed fn_soc_Soc_Write Ent.opn1 fun bin cmp un conv bnot beq band sel isel ofN toN inb nz nneg lt le room' slb add sub sbin scmp slen sget ssub addk pc pb pi pf ps mkok min_ ig aeq P hP hA hF Q hQ => ?_
  have hb0 : bnot true = false := by simp only [hF]; rfl
  have hg : cmp .neq w w = false := by simp only [hF]; simp
  cbv
  repeat' first
    | (refine call_at hP [0, 1, 2, 3, 4] code_soc_Soc_at (ha) rfl ?_ ?_ ?_; (focus ((repeat' (first | exact trivial | exact rfl | (intro _ _ _ _; exact rfl) | refine And.intro ?_ ?_)); done)); (focus (cbv; (try simp); done)); rintro _ _ ⟨rfl, rfl⟩ _; cbv)
    | ((refine call_inl hP mixed hA code_soc_may fn_soc_may ?_); cbv)
    | ((rw [hb0]); cbv)
    | ((rw [hg]); cbv)
    | (refine call_pure hP code_wrap_Word (hw) ?_ ?_; (focus (cbv; (try simp); done)); rintro _ rfl; cbv)
    | (refine call_at hP [1] code_bus_Bus_Fence (hf) rfl ?_ ?_ ?_; (focus ((repeat' (first | exact trivial | exact rfl | (intro _ _ _ _; exact rfl) | refine And.intro ?_ ?_)); done)); (focus (cbv; (try simp); done)); rintro _ _ ⟨⟨z, rfl⟩, rfl⟩ _; cbv)
    | (refine call_at hP [2] code_mbox_Box_Ring (hr) rfl ?_ ?_ ?_; (focus ((repeat' (first | exact trivial | exact rfl | (intro _ _ _ _; exact rfl) | refine And.intro ?_ ?_)); done)); (focus (cbv; (try simp); done)); rintro _ _ ⟨⟨e, rfl⟩, X', hX, rfl⟩ _; cbv)
    | (refine Chk.mk trivial ?_; cbv)
    | (refine bc_true (by first | assumption | (simp (disch := omega) only [hF, natc, w64_in, shs]; first | done | assumption | omega | (simp only [natc] at *; omega))) ?_; cbv)
    | (refine bc_false (by first | assumption | (simp (disch := omega) only [hF, natc, w64_in, shs]; first | done | assumption | omega | (simp only [natc] at *; omega))) ?_; cbv)
    | (refine bc_split (fun h => ?_) (fun h => ?_) <;> (try simp (disch := omega) only [hF, natc, w64_in, shs] at h) <;> cbv)
  subst hQ
  exact leaf_sr rfl rfl ⟨⟨_, rfl⟩, _, hX, rfl⟩

end Go.Proofs.YtiaceoomiflgcaaGreat

end

section
namespace Go.Proofs.YtiaceoomiflgcaaGreat
open Go.V
set_option linter.unusedVariables false
set_option linter.unusedSimpArgs false
set_option maxRecDepth 100000
set_option maxHeartbeats 8000000

theorem sSwap_no (c n k : Int) (B X K G : Ob) (j a w e : Int) (he : e ≠ 0) (ha : AtW c n k B X K G j a 0 0 0 e) :
    CallOK (O := Ob) PR n_soc_Soc_Swap [.ptr 0 0, .dv (.int .i64 j), .dv (.int .i64 a), .dv (.int .i64 w)] [.obj (sO c n k B X K G)] fun v m => v = .tup [.dv (.int .i64 0), .dv (.int .i64 e)] ∧ m = [.obj (sO c n k B X K G)] := by
  unfold AtW sM at ha
  refine fn_walkv mixed fn_soc_Soc_Swap Ent.opn1 fun bin cmp un conv bnot beq band sel isel ofN toN inb nz nneg lt le room' slb add sub sbin scmp slen sget ssub addk pc pb pi pf ps mkok min_ ig aeq P hP hA hF Q hQ => ?_
  have hg : cmp .neq e 0 = true := by simp only [hF, decide_eq_true_eq]; exact he
  have hg2 : cmp .eql e 0 = false := by simp only [hF, decide_eq_false_iff_not]; exact he
  cbv
  repeat' first
    | (refine call_at hP [0, 1, 2, 3, 4] code_soc_Soc_at (ha) rfl ?_ ?_ ?_; (focus ((repeat' (first | exact trivial | exact rfl | (intro _ _ _ _; exact rfl) | refine And.intro ?_ ?_)); done)); (focus (cbv; (try simp); done)); rintro _ _ ⟨rfl, rfl⟩ _; cbv)
    | ((rw [hg]); cbv)
    | ((rw [hg2]); cbv)
    | (refine Chk.mk trivial ?_; cbv)
    | (refine bc_true (by first | assumption | (simp (disch := omega) only [hF, natc, w64_in, shs]; first | done | assumption | omega | (simp only [natc] at *; omega))) ?_; cbv)
    | (refine bc_false (by first | assumption | (simp (disch := omega) only [hF, natc, w64_in, shs]; first | done | assumption | omega | (simp only [natc] at *; omega))) ?_; cbv)
    | (refine bc_split (fun h => ?_) (fun h => ?_) <;> (try simp (disch := omega) only [hF, natc, w64_in, shs] at h) <;> cbv)
  subst hQ
  exact leaf_sr rfl rfl ⟨rfl, rfl⟩

theorem sSwap_kind (c n k : Int) (B X K G : Ob) (j a w x y z : Int) (hx : x ≠ 1) (ha : AtW c n k B X K G j a x y z 0) :
    CallOK (O := Ob) PR n_soc_Soc_Swap [.ptr 0 0, .dv (.int .i64 j), .dv (.int .i64 a), .dv (.int .i64 w)] [.obj (sO c n k B X K G)] fun v m => v = .tup [.dv (.int .i64 0), .dv (.int .i64 4)] ∧ m = [.obj (sO c n k B X K G)] := by
  unfold AtW sM at ha
  refine fn_walkv mixed fn_soc_Soc_Swap Ent.opn1 fun bin cmp un conv bnot beq band sel isel ofN toN inb nz nneg lt le room' slb add sub sbin scmp slen sget ssub addk pc pb pi pf ps mkok min_ ig aeq P hP hA hF Q hQ => ?_
  have hg : cmp .neq x 1 = true := by simp only [hF, decide_eq_true_eq]; exact hx
  cbv
  repeat' first
    | (refine call_at hP [0, 1, 2, 3, 4] code_soc_Soc_at (ha) rfl ?_ ?_ ?_; (focus ((repeat' (first | exact trivial | exact rfl | (intro _ _ _ _; exact rfl) | refine And.intro ?_ ?_)); done)); (focus (cbv; (try simp); done)); rintro _ _ ⟨rfl, rfl⟩ _; cbv)
    | ((rw [hg]); cbv)
    | (refine Chk.mk trivial ?_; cbv)
    | (refine bc_true (by first | assumption | (simp (disch := omega) only [hF, natc, w64_in, shs]; first | done | assumption | omega | (simp only [natc] at *; omega))) ?_; cbv)
    | (refine bc_false (by first | assumption | (simp (disch := omega) only [hF, natc, w64_in, shs]; first | done | assumption | omega | (simp only [natc] at *; omega))) ?_; cbv)
    | (refine bc_split (fun h => ?_) (fun h => ?_) <;> (try simp (disch := omega) only [hF, natc, w64_in, shs] at h) <;> cbv)
  subst hQ
  exact leaf_sr rfl rfl ⟨rfl, rfl⟩

theorem sSwap_ram (c n k : Int) (B B' X K G : Ob) (j a w y z u e : Int) (ha : AtW c n k B X K G j a 1 y z 0)
    (hb : CallOK (O := Ob) PR n_bus_Bus_Swap [.ptr 0 0, .dv (.int .i64 j), .dv (.int .i64 a), .dv (.int .i64 w)] [.obj B] fun v m => v = .tup [.dv (.int .i64 u), .dv (.int .i64 e)] ∧ m = [.obj B']) :
    CallOK (O := Ob) PR n_soc_Soc_Swap [.ptr 0 0, .dv (.int .i64 j), .dv (.int .i64 a), .dv (.int .i64 w)] [.obj (sO c n k B X K G)] fun v m => v = .tup [.dv (.int .i64 u), .dv (.int .i64 e)] ∧ m = [.obj (sO c n k B' X K G)] := by
  unfold AtW sM at ha
  refine fn_walkv mixed fn_soc_Soc_Swap Ent.opn1 fun bin cmp un conv bnot beq band sel isel ofN toN inb nz nneg lt le room' slb add sub sbin scmp slen sget ssub addk pc pb pi pf ps mkok min_ ig aeq P hP hA hF Q hQ => ?_
  cbv
  repeat' first
    | (refine call_at hP [0, 1, 2, 3, 4] code_soc_Soc_at (ha) rfl ?_ ?_ ?_; (focus ((repeat' (first | exact trivial | exact rfl | (intro _ _ _ _; exact rfl) | refine And.intro ?_ ?_)); done)); (focus (cbv; (try simp); done)); rintro _ _ ⟨rfl, rfl⟩ _; cbv)
    | (refine call_at hP [1] code_bus_Bus_Swap (hb) rfl ?_ ?_ ?_; (focus ((repeat' (first | exact trivial | exact rfl | (intro _ _ _ _; exact rfl) | refine And.intro ?_ ?_)); done)); (focus (cbv; (try simp); done)); rintro _ _ ⟨rfl, rfl⟩ _; cbv)
    | (refine Chk.mk trivial ?_; cbv)
    | (refine bc_true (by first | assumption | (simp (disch := omega) only [hF, natc, w64_in, shs]; first | done | assumption | omega | (simp only [natc] at *; omega))) ?_; cbv)
    | (refine bc_false (by first | assumption | (simp (disch := omega) only [hF, natc, w64_in, shs]; first | done | assumption | omega | (simp only [natc] at *; omega))) ?_; cbv)
    | (refine bc_split (fun h => ?_) (fun h => ?_) <;> (try simp (disch := omega) only [hF, natc, w64_in, shs] at h) <;> cbv)
  subst hQ
  exact leaf_sr rfl rfl ⟨rfl, rfl⟩

theorem sHold_no (c n k : Int) (B X K G : Ob) (j e : Int) (he : e ≠ 0) (h1 : CallOK (O := Ob) PR n_gate_Gate_Hold [.ptr 0 0, .dv (.int .i64 j)] [.obj G] fun v m => v = .dv (.int .i64 e) ∧ m = [.obj G]) :
    CallOK (O := Ob) PR n_soc_Soc_Hold [.ptr 0 0, .dv (.int .i64 j)] [.obj (sO c n k B X K G)] fun v m => v = .dv (.int .i64 e) ∧ m = [.obj (sO c n k B X K G)] := by
  refine fn_walkv mixed fn_soc_Soc_Hold Ent.opn1 fun bin cmp un conv bnot beq band sel isel ofN toN inb nz nneg lt le room' slb add sub sbin scmp slen sget ssub addk pc pb pi pf ps mkok min_ ig aeq P hP hA hF Q hQ => ?_
  have hg : cmp .neq e 0 = true := by simp only [hF, decide_eq_true_eq]; exact he
  cbv
  repeat' first
    | (refine call_at hP [4] code_gate_Gate_Hold (h1) rfl ?_ ?_ ?_; (focus ((repeat' (first | exact trivial | exact rfl | (intro _ _ _ _; exact rfl) | refine And.intro ?_ ?_)); done)); (focus (cbv; (try simp); done)); rintro _ _ ⟨rfl, rfl⟩ _; cbv)
    | ((rw [hg]); cbv)
    | (refine Chk.mk trivial ?_; cbv)
    | (refine bc_true (by first | assumption | (simp (disch := omega) only [hF, natc, w64_in, shs]; first | done | assumption | omega | (simp only [natc] at *; omega))) ?_; cbv)
    | (refine bc_false (by first | assumption | (simp (disch := omega) only [hF, natc, w64_in, shs]; first | done | assumption | omega | (simp only [natc] at *; omega))) ?_; cbv)
    | (refine bc_split (fun h => ?_) (fun h => ?_) <;> (try simp (disch := omega) only [hF, natc, w64_in, shs] at h) <;> cbv)
  subst hQ
  exact leaf_sr rfl rfl ⟨rfl, rfl⟩

theorem sFence_core (c n k : Int) (B X K G : Ob) (j x : Int) (h1 : GEp G j x 3) :
    CallOK (O := Ob) PR n_soc_Soc_Fence [.ptr 0 0, .dv (.int .i64 j)] [.obj (sO c n k B X K G)] fun v m => v = .tup [.dv (.int .i64 0), .dv (.int .i64 3)] ∧ m = [.obj (sO c n k B X K G)] := by
  unfold GEp at h1
  refine fn_walkv mixed fn_soc_Soc_Fence Ent.opn1 fun bin cmp un conv bnot beq band sel isel ofN toN inb nz nneg lt le room' slb add sub sbin scmp slen sget ssub addk pc pb pi pf ps mkok min_ ig aeq P hP hA hF Q hQ => ?_
  cbv
  repeat' first
    | ((refine call_inl hP mixed hA code_soc_Soc_wrong fn_soc_Soc_wrong ?_); cbv)
    | (refine call_at hP [4] code_gate_Gate_Epoch (h1) rfl ?_ ?_ ?_; (focus ((repeat' (first | exact trivial | exact rfl | (intro _ _ _ _; exact rfl) | refine And.intro ?_ ?_)); done)); (focus (cbv; (try simp); done)); rintro _ _ ⟨rfl, rfl⟩ _; cbv)
    | (refine Chk.mk trivial ?_; cbv)
    | (refine bc_true (by first | assumption | (simp (disch := omega) only [hF, natc, w64_in, shs]; first | done | assumption | omega | (simp only [natc] at *; omega))) ?_; cbv)
    | (refine bc_false (by first | assumption | (simp (disch := omega) only [hF, natc, w64_in, shs]; first | done | assumption | omega | (simp only [natc] at *; omega))) ?_; cbv)
    | (refine bc_split (fun h => ?_) (fun h => ?_) <;> (try simp (disch := omega) only [hF, natc, w64_in, shs] at h) <;> cbv)
  subst hQ
  exact leaf_sr rfl rfl ⟨rfl, rfl⟩

theorem sFence_off (c n k : Int) (B X K G : Ob) (j x : Int) (h1 : GEp G j x 0) (h2 : GUp G j false) :
    CallOK (O := Ob) PR n_soc_Soc_Fence [.ptr 0 0, .dv (.int .i64 j)] [.obj (sO c n k B X K G)] fun v m => v = .tup [.dv (.int .i64 0), .dv (.int .i64 19)] ∧ m = [.obj (sO c n k B X K G)] := by
  unfold GEp at h1; unfold GUp at h2
  refine fn_walkv mixed fn_soc_Soc_Fence Ent.opn1 fun bin cmp un conv bnot beq band sel isel ofN toN inb nz nneg lt le room' slb add sub sbin scmp slen sget ssub addk pc pb pi pf ps mkok min_ ig aeq P hP hA hF Q hQ => ?_
  have hb : bnot false = true := by simp only [hF]; rfl
  cbv
  repeat' first
    | ((refine call_inl hP mixed hA code_soc_Soc_wrong fn_soc_Soc_wrong ?_); cbv)
    | (refine call_at hP [4] code_gate_Gate_Epoch (h1) rfl ?_ ?_ ?_; (focus ((repeat' (first | exact trivial | exact rfl | (intro _ _ _ _; exact rfl) | refine And.intro ?_ ?_)); done)); (focus (cbv; (try simp); done)); rintro _ _ ⟨rfl, rfl⟩ _; cbv)
    | (refine call_at hP [4] code_gate_Gate_Up (h2) rfl ?_ ?_ ?_; (focus ((repeat' (first | exact trivial | exact rfl | (intro _ _ _ _; exact rfl) | refine And.intro ?_ ?_)); done)); (focus (cbv; (try simp); done)); rintro _ _ ⟨rfl, rfl⟩ _; cbv)
    | ((rw [hb]); cbv)
    | (refine Chk.mk trivial ?_; cbv)
    | (refine bc_true (by first | assumption | (simp (disch := omega) only [hF, natc, w64_in, shs]; first | done | assumption | omega | (simp only [natc] at *; omega))) ?_; cbv)
    | (refine bc_false (by first | assumption | (simp (disch := omega) only [hF, natc, w64_in, shs]; first | done | assumption | omega | (simp only [natc] at *; omega))) ?_; cbv)
    | (refine bc_split (fun h => ?_) (fun h => ?_) <;> (try simp (disch := omega) only [hF, natc, w64_in, shs] at h) <;> cbv)
  subst hQ
  exact leaf_sr rfl rfl ⟨rfl, rfl⟩

theorem sHold_x (c n k : Int) (B B' X K K' G G' : Ob) (j : Int) (PX : Ob → Prop) (h1 : CallOK (O := Ob) PR n_gate_Gate_Hold [.ptr 0 0, .dv (.int .i64 j)] [.obj G] fun v m => v = .dv (.int .i64 0) ∧ m = [.obj G'])
    (h2 : CallOK (O := Ob) PR n_bus_Bus_Lose [.ptr 0 0, .dv (.int .i64 j)] [.obj B] fun v m => (∃ z, v = .tup [.dv (.int .i64 z), .dv (.int .i64 0)]) ∧ m = [.obj B'])
    (h3 : CallOK (O := Ob) PR n_mbox_Box_Reset [.ptr 0 0, .dv (.int .i64 j)] [.obj X] fun v m => (∃ z, v = .tup [.dv (.int .i64 z), .dv (.int .i64 0)]) ∧ ∃ X, PX X ∧ m = [.obj X])
    (h4 : CallOK (O := Ob) PR n_locks_Bank_Release [.ptr 0 0, .dv (.int .i64 j)] [.obj K] fun v m => (∃ z, v = .tup [.dv (.int .i64 z), .dv (.int .i64 0)]) ∧ m = [.obj K']) :
    CallOK (O := Ob) PR n_soc_Soc_Hold [.ptr 0 0, .dv (.int .i64 j)] [.obj (sO c n k B X K G)] fun v m => v = .dv (.int .i64 0) ∧ ∃ X, PX X ∧ m = [.obj (sO c n k B' X K' G')] := by
  refine fn_walkv mixed fn_soc_Soc_Hold Ent.opn1 fun bin cmp un conv bnot beq band sel isel ofN toN inb nz nneg lt le room' slb add sub sbin scmp slen sget ssub addk pc pb pi pf ps mkok min_ ig aeq P hP hA hF Q hQ => ?_
  cbv
  repeat' first
    | (refine call_at hP [4] code_gate_Gate_Hold (h1) rfl ?_ ?_ ?_; (focus ((repeat' (first | exact trivial | exact rfl | (intro _ _ _ _; exact rfl) | refine And.intro ?_ ?_)); done)); (focus (cbv; (try simp); done)); rintro _ _ ⟨rfl, rfl⟩ _; cbv)
    | (refine call_at hP [1] code_bus_Bus_Lose (h2) rfl ?_ ?_ ?_; (focus ((repeat' (first | exact trivial | exact rfl | (intro _ _ _ _; exact rfl) | refine And.intro ?_ ?_)); done)); (focus (cbv; (try simp); done)); rintro _ _ ⟨⟨z, rfl⟩, rfl⟩ _; cbv)
    | (refine call_at hP [2] code_mbox_Box_Reset (h3) rfl ?_ ?_ ?_; (focus ((repeat' (first | exact trivial | exact rfl | (intro _ _ _ _; exact rfl) | refine And.intro ?_ ?_)); done)); (focus (cbv; (try simp); done)); rintro _ _ ⟨⟨z, rfl⟩, X', hX, rfl⟩ _; cbv)
    | (refine call_at hP [3] code_locks_Bank_Release (h4) rfl ?_ ?_ ?_; (focus ((repeat' (first | exact trivial | exact rfl | (intro _ _ _ _; exact rfl) | refine And.intro ?_ ?_)); done)); (focus (cbv; (try simp); done)); rintro _ _ ⟨⟨z, rfl⟩, rfl⟩ _; cbv)
    | (refine Chk.mk trivial ?_; cbv)
    | (refine bc_true (by first | assumption | (simp (disch := omega) only [hF, natc, w64_in, shs]; first | done | assumption | omega | (simp only [natc] at *; omega))) ?_; cbv)
    | (refine bc_false (by first | assumption | (simp (disch := omega) only [hF, natc, w64_in, shs]; first | done | assumption | omega | (simp only [natc] at *; omega))) ?_; cbv)
    | (refine bc_split (fun h => ?_) (fun h => ?_) <;> (try simp (disch := omega) only [hF, natc, w64_in, shs] at h) <;> cbv)
  subst hQ
  exact leaf_sr rfl rfl ⟨rfl, _, hX, rfl⟩

end Go.Proofs.YtiaceoomiflgcaaGreat

end

section
namespace Go.Proofs.YtiaceoomiflgcaaGreat
open Go.V
set_option linter.unusedVariables false
set_option linter.unusedSimpArgs false
set_option maxRecDepth 100000
set_option maxHeartbeats 8000000

/-- A soc: cores, words, locks; its bus, its mailboxes, the locks' owners, the epochs, which cores are held. -/
structure SocS where
  c : Nat
  n : Nat
  k : Nat
  B : BusS
  X : BoxS
  ow : Nat → Int
  ep : Nat → Int
  hd : Nat → Bool

noncomputable def socO (S : SocS) : Ob := sO S.c S.n S.k (busO S.B) (boxO S.X) (kO S.c S.k S.ow) (gO S.c S.ep S.hd)

structure SocS.ok (S : SocS) : Prop where
  hc : 1 ≤ S.c ∧ S.c ≤ 8
  hn : 1 ≤ S.n ∧ S.n ≤ 65536
  hk : 1 ≤ S.k ∧ S.k ≤ 16
  hB : S.B.ok
  hBc : S.B.cores = S.c
  hBn : S.B.n = S.n
  hX : S.X.ok
  hXc : S.X.cores = S.c
  how : ∀ i, 0 ≤ S.ow i ∧ S.ow i ≤ S.c
  hep : ∀ j, 0 ≤ S.ep j ∧ S.ep j ≤ 65535
  hhd : ∀ j, j < S.c → S.hd j = true → S.B.bufs j = [] ∧ ∀ i, S.ow i ≠ (j : Int) + 1

/-- A later state of the same soc. -/
def Nxt (S S' : SocS) : Prop := S'.ok ∧ S'.c = S.c ∧ S'.n = S.n ∧ S'.k = S.k
theorem Nxt.refl {S : SocS} (h : S.ok) : Nxt S S := ⟨h, rfl, rfl, rfl⟩

/-- Some mailboxes, as many. -/
def isBox (c : Nat) (X : Ob) : Prop := ∃ S : BoxS, S.ok ∧ S.cores = c ∧ X = boxO S
theorem someBox.is {c : Nat} {m : List (Chunk Ob)} (h : someBox c m) : ∃ X, isBox c X ∧ m = [.obj X] := by
  obtain ⟨S, h1, h2, h3⟩ := h
  exact ⟨_, ⟨S, h1, h2, rfl⟩, h3⟩

theorem dec_cases (c n k : Nat) (a : Int) (hc : 1 ≤ c ∧ c ≤ 8) (hn : 1 ≤ n ∧ n ≤ 65536) (hk : 1 ≤ k ∧ k ≤ 16) (ha : a ≤ 9223372036854775807) :
    DecW c n k a (.tup [.agg [.dv (.int .i64 0), .dv (.int .i64 0), .dv (.int .i64 0)], .dv (.bool false)]) ∨
    ∃ x y z : Nat, DecW c n k a (.tup [.agg [.dv (.int .i64 x), .dv (.int .i64 y), .dv (.int .i64 z)], .dv (.bool true)]) ∧
      ((x = 1 ∧ y = 0 ∧ a = z ∧ z < n) ∨ (x = 2 ∧ y < c ∧ z < 3) ∨ (x = 3 ∧ y < k ∧ z = 0 ∧ a = 65792 + y) ∨ (x = 4 ∧ y < c ∧ z = 0 ∧ a = 66048 + y)) := by
  have h := ok_Decode c n k a (by omega) (by omega) (by omega) ha
  by_cases hb : decB c n k a = true
  · right
    rw [hb] at h
    have hb' := hb
    unfold decB at hb'
    by_cases h1 : a < 65536
    · rw [if_pos h1] at hb'
      have h2 := of_decide_eq_true hb'
      refine ⟨1, 0, a.toNat, ?_, .inl ⟨rfl, rfl, by omega, by omega⟩⟩
      have e1 : decX a = 1 := if_pos h1
      have e2 : decY a = 0 := if_pos h1
      have e3 : decZ a = ((a.toNat : Nat) : Int) := by unfold decZ; rw [if_pos h1]; omega
      rw [e1, e2, e3] at h
      exact h
    · rw [if_neg h1] at hb'
      by_cases h2 : a < 65792
      · rw [if_pos h2] at hb'
        have h3 := of_decide_eq_true (Bool.and_eq_true_iff.1 hb').1
        have h4 := of_decide_eq_true (Bool.and_eq_true_iff.1 hb').2
        refine ⟨2, ((a - 65536) / 16).toNat, (a % 16).toNat, ?_, .inr (.inl ⟨rfl, by omega, by omega⟩)⟩
        have e1 : decX a = 2 := by unfold decX; rw [if_neg h1, if_pos h2]
        have e2 : decY a = ((((a - 65536) / 16).toNat : Nat) : Int) := by unfold decY; rw [if_neg h1, if_pos h2]; omega
        have e3 : decZ a = (((a % 16).toNat : Nat) : Int) := by unfold decZ; rw [if_neg h1, if_pos h2]; omega
        rw [e1, e2, e3] at h
        exact h
      · rw [if_neg h2] at hb'
        by_cases h3 : a < 66048
        · rw [if_pos h3] at hb'
          have h4 := of_decide_eq_true hb'
          refine ⟨3, (a - 65792).toNat, 0, ?_, .inr (.inr (.inl ⟨rfl, by omega, rfl, by omega⟩))⟩
          have e1 : decX a = 3 := by unfold decX; rw [if_neg h1, if_neg h2, if_pos h3]
          have e2 : decY a = (((a - 65792).toNat : Nat) : Int) := by unfold decY; rw [if_neg h1, if_neg h2, if_pos h3]; omega
          have e3 : decZ a = 0 := by unfold decZ; rw [if_neg h1, if_neg h2]
          rw [e1, e2, e3] at h
          exact h
        · rw [if_neg h3] at hb'
          have h4 := of_decide_eq_true hb'
          refine ⟨4, (a - 66048).toNat, 0, ?_, .inr (.inr (.inr ⟨rfl, by omega, rfl, by omega⟩))⟩
          have e1 : decX a = 4 := by unfold decX; rw [if_neg h1, if_neg h2, if_neg h3]
          have e2 : decY a = (((a - 66048).toNat : Nat) : Int) := by unfold decY; rw [if_neg h1, if_neg h2, if_neg h3]; omega
          have e3 : decZ a = 0 := by unfold decZ; rw [if_neg h1, if_neg h2]
          rw [e1, e2, e3] at h
          exact h
  · left
    have hb : decB c n k a = false := by simpa using hb
    rw [hb] at h
    exact h

def AtS (S : SocS) (j a x y z e : Int) : Prop := AtW S.c S.n S.k (busO S.B) (boxO S.X) (kO S.c S.k S.ow) (gO S.c S.ep S.hd) j a x y z e

theorem atS_core (S : SocS) (hS : S.ok) (j a : Int) (hj : ¬ (0 ≤ j ∧ j < S.c)) : AtS S j a 0 0 0 3 :=
  at_core _ _ _ _ _ _ _ j a 0 (gEpoch_out S.c S.ep S.hd hS.hc.2 j hj)
theorem atS_off (S : SocS) (hS : S.ok) (j : Nat) (a : Int) (hj : j < S.c) (hh : S.hd j = true) : AtS S j a 0 0 0 19 := by
  have h2 := gUp_in S.c S.ep S.hd hS.hc.2 j hj
  rw [hh] at h2
  exact at_off _ _ _ _ _ _ _ j a _ (gEpoch_in S.c S.ep S.hd hS.hc.2 j hj) h2
theorem atS_no (S : SocS) (hS : S.ok) (j : Nat) (a : Int) (hj : j < S.c) (hh : S.hd j = false)
    (hd : DecW S.c S.n S.k a (.tup [.agg [.dv (.int .i64 0), .dv (.int .i64 0), .dv (.int .i64 0)], .dv (.bool false)])) : AtS S j a 0 0 0 4 := by
  have h2 := gUp_in S.c S.ep S.hd hS.hc.2 j hj
  rw [hh] at h2
  exact at_no _ _ _ _ _ _ _ j a _ (gEpoch_in S.c S.ep S.hd hS.hc.2 j hj) h2 hd
theorem atS_ok (S : SocS) (hS : S.ok) (j : Nat) (a x y z : Int) (hj : j < S.c) (hh : S.hd j = false)
    (hd : DecW S.c S.n S.k a (.tup [.agg [.dv (.int .i64 x), .dv (.int .i64 y), .dv (.int .i64 z)], .dv (.bool true)])) : AtS S j a x y z 0 := by
  have h2 := gUp_in S.c S.ep S.hd hS.hc.2 j hj
  rw [hh] at h2
  exact at_ok _ _ _ _ _ _ _ j a _ x y z (gEpoch_in S.c S.ep S.hd hS.hc.2 j hj) h2 hd

theorem at_cases (S : SocS) (hS : S.ok) (j a : Int) (ha : a ≤ 9223372036854775807) :
    (∃ e, e ≠ 0 ∧ AtS S j a 0 0 0 e) ∨ ∃ i : Nat, j = i ∧ i < S.c ∧ S.hd i = false ∧ ∃ x y z : Nat, AtS S j a x y z 0 ∧
      ((x = 1 ∧ y = 0 ∧ a = z ∧ z < S.n) ∨ (x = 2 ∧ y < S.c ∧ z < 3) ∨ (x = 3 ∧ y < S.k ∧ z = 0 ∧ a = 65792 + y) ∨ (x = 4 ∧ y < S.c ∧ z = 0 ∧ a = 66048 + y)) := by
  by_cases hj : 0 ≤ j ∧ j < S.c
  · obtain ⟨i, rfl⟩ : ∃ i : Nat, j = i := ⟨j.toNat, by omega⟩
    have hi : i < S.c := by omega
    cases hh : S.hd i with
    | true => exact .inl ⟨19, by omega, atS_off S hS i a hi hh⟩
    | false =>
      rcases dec_cases S.c S.n S.k a hS.hc hS.hn hS.hk ha with h | ⟨x, y, z, h, hx⟩
      · exact .inl ⟨4, by omega, atS_no S hS i a hi hh h⟩
      · exact .inr ⟨i, rfl, hi, hh, x, y, z, atS_ok S hS i a x y z hi hh h, hx⟩
  · exact .inl ⟨3, by omega, atS_core S hS j a hj⟩

end Go.Proofs.YtiaceoomiflgcaaGreat

end
