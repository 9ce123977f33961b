/-
  Walks: mailboxes, by what they hold.
-/
import Derived.Test.YtiaceoomiflgcaaGreatSeIr
import Derived.Test.YtiaceoomiflgcaaGreatSbO
section
namespace Go.Proofs.YtiaceoomiflgcaaGreat
open Go.V
set_option linter.unusedVariables false
set_option linter.unusedSimpArgs false
set_option maxRecDepth 100000
set_option maxHeartbeats 8000000

/-- A gate: so many cores; their epochs; which are held. -/
def gM (c : Nat) (ep : Nat → Int) (hd : Nat → Bool) : List (Chunk Ob) := [.blk [.one (.dv (.int .i64 (c : Int))), .arr 8 1 (fun i _ => .dv (.int .i64 (ep i))), .arr 8 1 (fun i _ => .dv (.bool (hd i)))]]
def gO (c : Nat) (ep : Nat → Int) (hd : Nat → Bool) : Ob := .mk (gM c ep hd)

theorem gEpoch_in (c : Nat) (ep : Nat → Int) (hd : Nat → Bool) (h8 : c ≤ 8) (j : Nat) (hj : j < c) : CallOK (O := Ob) PR n_gate_Gate_Epoch [.ptr 0 0, .dv (.int .i64 j)] [.obj (gO c ep hd)] fun v m => v = .tup [.dv (.int .i64 (ep j)), .dv (.int .i64 0)] ∧ m = [.obj (gO c ep hd)] := by
  refine fn_walkv mixed fn_gate_Gate_Epoch Ent.opn1 fun bin cmp un conv bnot beq band sel isel ofN toN inb nz nneg lt le room' slb add sub sbin scmp slen sget ssub addk pc pb pi pf ps mkok min_ ig aeq P hP hA hF Q hQ => ?_
  cbv
  repeat' first
    | ((refine call_inl hP mixed hA code_gate_Gate_wrong fn_gate_Gate_wrong ?_); cbv)
    | (refine Chk.mk trivial ?_; cbv)
    | (refine bc_true (by first | assumption | (simp (disch := omega) only [hF, natc, w64_in, shs]; first | done | assumption | omega | (simp only [natc] at *; omega))) ?_; cbv)
    | (refine bc_false (by first | assumption | (simp (disch := omega) only [hF, natc, w64_in, shs]; first | done | assumption | omega | (simp only [natc] at *; omega))) ?_; cbv)
    | (refine bc_split (fun h => ?_) (fun h => ?_) <;> (try simp (disch := omega) only [hF, natc, w64_in, shs] at h) <;> cbv)
    | (refine IdxVC.mk (by simp (disch := omega) only [hF, natc, w64_in, shs]; first | done | omega | (simp only [natc] at *; omega)) (fun kx hk hk2 => ?_); simp (disch := omega) only [hF, natc, w64_in, shs] at hk; (try obtain rfl : kx = 0 := hk); cbv)
    | (refine Chk.mk (by simp (disch := omega) only [maxN, hF, natc, w64_in, shs]; first | done | assumption | omega | (simp only [natc] at *; omega)) ?_; cbv)
    | (intro (hmx : _ ≤ maxN); replace hmx : _ ≤ 17592186044416 := hmx; cbv)
    | (intro _; cbv)
  subst hk; subst hQ
  exact leaf_obj (lmem := gM c ep hd) [] rfl rfl ⟨⟨rfl, ⟨rfl, rfl, fun _ _ _ _ => rfl⟩, ⟨rfl, rfl, fun _ _ _ _ => rfl⟩, trivial⟩, trivial⟩ rfl rfl ⟨rfl, rfl⟩

theorem gEpoch_out (c : Nat) (ep : Nat → Int) (hd : Nat → Bool) (h8 : c ≤ 8) (j : Int) (hj : ¬ (0 ≤ j ∧ j < c)) : CallOK (O := Ob) PR n_gate_Gate_Epoch [.ptr 0 0, .dv (.int .i64 j)] [.obj (gO c ep hd)] fun v m => v = .tup [.dv (.int .i64 0), .dv (.int .i64 3)] ∧ m = [.obj (gO c ep hd)] := by
  rcases (by omega : j < 0 ∨ (0 ≤ j ∧ (c : Int) ≤ j)) with hw | ⟨hw, hw'⟩
  all_goals
    refine fn_walkv mixed fn_gate_Gate_Epoch Ent.opn1 fun bin cmp un conv bnot beq band sel isel ofN toN inb nz nneg lt le room' slb add sub sbin scmp slen sget ssub addk pc pb pi pf ps mkok min_ ig aeq P hP hA hF Q hQ => ?_
    cbv
    repeat' first
      | ((refine call_inl hP mixed hA code_gate_Gate_wrong fn_gate_Gate_wrong ?_); cbv)
      | (refine Chk.mk trivial ?_; cbv)
      | (refine bc_true (by first | assumption | (simp (disch := omega) only [hF, natc, w64_in, shs]; first | done | assumption | omega | (simp only [natc] at *; omega))) ?_; cbv)
      | (refine bc_false (by first | assumption | (simp (disch := omega) only [hF, natc, w64_in, shs]; first | done | assumption | omega | (simp only [natc] at *; omega))) ?_; cbv)
      | (refine bc_split (fun h => ?_) (fun h => ?_) <;> (try simp (disch := omega) only [hF, natc, w64_in, shs] at h) <;> cbv)
      | (refine IdxVC.mk (by simp (disch := omega) only [hF, natc, w64_in, shs]; first | done | omega | (simp only [natc] at *; omega)) (fun kx hk hk2 => ?_); simp (disch := omega) only [hF, natc, w64_in, shs] at hk; (try obtain rfl : kx = 0 := hk); cbv)
      | (refine Chk.mk (by simp (disch := omega) only [maxN, hF, natc, w64_in, shs]; first | done | assumption | omega | (simp only [natc] at *; omega)) ?_; cbv)
      | (intro (hmx : _ ≤ maxN); replace hmx : _ ≤ 17592186044416 := hmx; cbv)
      | (intro _; cbv)
    subst hQ
    exact leaf_obj (lmem := gM c ep hd) [] rfl rfl ⟨⟨rfl, ⟨rfl, rfl, fun _ _ _ _ => rfl⟩, ⟨rfl, rfl, fun _ _ _ _ => rfl⟩, trivial⟩, trivial⟩ rfl rfl ⟨rfl, rfl⟩

theorem gUp_in (c : Nat) (ep : Nat → Int) (hd : Nat → Bool) (h8 : c ≤ 8) (j : Nat) (hj : j < c) : CallOK (O := Ob) PR n_gate_Gate_Up [.ptr 0 0, .dv (.int .i64 j)] [.obj (gO c ep hd)] fun v m => v = .dv (.bool (!hd j)) ∧ m = [.obj (gO c ep hd)] := by
  refine fn_walkv mixed fn_gate_Gate_Up Ent.opn1 fun bin cmp un conv bnot beq band sel isel ofN toN inb nz nneg lt le room' slb add sub sbin scmp slen sget ssub addk pc pb pi pf ps mkok min_ ig aeq P hP hA hF Q hQ => ?_
  cbv
  repeat' first
    | ((refine call_inl hP mixed hA code_gate_Gate_wrong fn_gate_Gate_wrong ?_); cbv)
    | (refine Chk.mk trivial ?_; cbv)
    | (refine bc_true (by first | assumption | (simp (disch := omega) only [hF, natc, w64_in, shs]; first | done | assumption | omega | (simp only [natc] at *; omega))) ?_; cbv)
    | (refine bc_false (by first | assumption | (simp (disch := omega) only [hF, natc, w64_in, shs]; first | done | assumption | omega | (simp only [natc] at *; omega))) ?_; cbv)
    | (refine bc_split (fun h => ?_) (fun h => ?_) <;> (try simp (disch := omega) only [hF, natc, w64_in, shs] at h) <;> cbv)
    | (refine IdxVC.mk (by simp (disch := omega) only [hF, natc, w64_in, shs]; first | done | omega | (simp only [natc] at *; omega)) (fun kx hk hk2 => ?_); simp (disch := omega) only [hF, natc, w64_in, shs] at hk; (try obtain rfl : kx = 0 := hk); cbv)
    | (refine Chk.mk (by simp (disch := omega) only [maxN, hF, natc, w64_in, shs]; first | done | assumption | omega | (simp only [natc] at *; omega)) ?_; cbv)
    | (intro (hmx : _ ≤ maxN); replace hmx : _ ≤ 17592186044416 := hmx; cbv)
    | (intro _; cbv)
  have e : bnot (hd kx) = !hd kx := by simp only [hF]
  rw [e]
  subst hk; subst hQ
  exact leaf_obj (lmem := gM c ep hd) [] rfl rfl ⟨⟨rfl, ⟨rfl, rfl, fun _ _ _ _ => rfl⟩, ⟨rfl, rfl, fun _ _ _ _ => rfl⟩, trivial⟩, trivial⟩ rfl rfl ⟨rfl, rfl⟩

theorem updRow_one (g : Nat → DV) (k : Nat) (v : DV) (i : Nat) : updRow (fun i _ => .dv (g i)) k 0 [.dv v] i 0 = .dv (if i = k then v else g i) := by
  unfold updRow
  by_cases h : i = k <;> simp [h, lget]

theorem gHold_in (c : Nat) (ep : Nat → Int) (hd : Nat → Bool) (h8 : c ≤ 8) (j : Nat) (hj : j < c) (hh : hd j = false) : CallOK (O := Ob) PR n_gate_Gate_Hold [.ptr 0 0, .dv (.int .i64 j)] [.obj (gO c ep hd)]
    fun v m => v = .dv (.int .i64 0) ∧ m = [.obj (gO c ep fun i => if i = j then true else hd i)] := by
  refine fn_walkv mixed fn_gate_Gate_Hold Ent.opn1 fun bin cmp un conv bnot beq band sel isel ofN toN inb nz nneg lt le room' slb add sub sbin scmp slen sget ssub addk pc pb pi pf ps mkok min_ ig aeq P hP hA hF Q hQ => ?_
  cbv
  repeat' first
    | ((refine call_inl hP mixed hA code_gate_Gate_wrong fn_gate_Gate_wrong ?_); cbv)
    | ((rw [hk, hh]); cbv)
    | (refine Chk.mk trivial ?_; cbv)
    | (refine bc_true (by first | assumption | (simp (disch := omega) only [hF, natc, w64_in, shs]; first | done | assumption | omega | (simp only [natc] at *; omega))) ?_; cbv)
    | (refine bc_false (by first | assumption | (simp (disch := omega) only [hF, natc, w64_in, shs]; first | done | assumption | omega | (simp only [natc] at *; omega))) ?_; cbv)
    | (refine bc_split (fun h => ?_) (fun h => ?_) <;> (try simp (disch := omega) only [hF, natc, w64_in, shs] at h) <;> cbv)
    | (refine IdxVC.mk (by simp (disch := omega) only [hF, natc, w64_in, shs]; first | done | omega | (simp only [natc] at *; omega)) (fun kx hk hk2 => ?_); simp (disch := omega) only [hF, natc, w64_in, shs] at hk; (try obtain rfl : kx = 0 := hk); cbv)
    | (refine Chk.mk (by simp (disch := omega) only [maxN, hF, natc, w64_in, shs]; first | done | assumption | omega | (simp only [natc] at *; omega)) ?_; cbv)
    | (intro (hmx : _ ≤ maxN); replace hmx : _ ≤ 17592186044416 := hmx; cbv)
    | (intro _; cbv)
  subst hk; subst hQ
  refine leaf_obj (lmem := gM c ep fun i => if i = kx then true else hd i) [] rfl rfl ⟨⟨rfl, ⟨rfl, rfl, fun _ _ _ _ => rfl⟩, ⟨rfl, rfl, fun i f hi hf => ?_⟩, trivial⟩, trivial⟩ rfl rfl ⟨rfl, rfl⟩
  obtain rfl : f = 0 := by omega
  rw [updRow_one (fun i => .bool (hd i))]
  split
  · subst_vars; simp only [if_true]; rfl
  · rename_i h; simp only [if_neg h]; rfl

theorem gHold_no (c : Nat) (ep : Nat → Int) (hd : Nat → Bool) (h8 : c ≤ 8) (j : Nat) (hj : j < c) (hh : hd j = true) : CallOK (O := Ob) PR n_gate_Gate_Hold [.ptr 0 0, .dv (.int .i64 j)] [.obj (gO c ep hd)]
    fun v m => v = .dv (.int .i64 11) ∧ m = [.obj (gO c ep hd)] := by
  refine fn_walkv mixed fn_gate_Gate_Hold Ent.opn1 fun bin cmp un conv bnot beq band sel isel ofN toN inb nz nneg lt le room' slb add sub sbin scmp slen sget ssub addk pc pb pi pf ps mkok min_ ig aeq P hP hA hF Q hQ => ?_
  cbv
  repeat' first
    | ((refine call_inl hP mixed hA code_gate_Gate_wrong fn_gate_Gate_wrong ?_); cbv)
    | ((rw [hk, hh]); cbv)
    | (refine Chk.mk trivial ?_; cbv)
    | (refine bc_true (by first | assumption | (simp (disch := omega) only [hF, natc, w64_in, shs]; first | done | assumption | omega | (simp only [natc] at *; omega))) ?_; cbv)
    | (refine bc_false (by first | assumption | (simp (disch := omega) only [hF, natc, w64_in, shs]; first | done | assumption | omega | (simp only [natc] at *; omega))) ?_; cbv)
    | (refine bc_split (fun h => ?_) (fun h => ?_) <;> (try simp (disch := omega) only [hF, natc, w64_in, shs] at h) <;> cbv)
    | (refine IdxVC.mk (by simp (disch := omega) only [hF, natc, w64_in, shs]; first | done | omega | (simp only [natc] at *; omega)) (fun kx hk hk2 => ?_); simp (disch := omega) only [hF, natc, w64_in, shs] at hk; (try obtain rfl : kx = 0 := hk); cbv)
    | (refine Chk.mk (by simp (disch := omega) only [maxN, hF, natc, w64_in, shs]; first | done | assumption | omega | (simp only [natc] at *; omega)) ?_; cbv)
    | (intro (hmx : _ ≤ maxN); replace hmx : _ ≤ 17592186044416 := hmx; cbv)
    | (intro _; cbv)
  subst hQ
  exact leaf_obj (lmem := gM c ep hd) [] rfl rfl ⟨⟨rfl, ⟨rfl, rfl, fun _ _ _ _ => rfl⟩, ⟨rfl, rfl, fun _ _ _ _ => rfl⟩, trivial⟩, trivial⟩ rfl rfl ⟨rfl, rfl⟩

theorem gHold_out (c : Nat) (ep : Nat → Int) (hd : Nat → Bool) (h8 : c ≤ 8) (j : Int) (hj : ¬ (0 ≤ j ∧ j < c)) : CallOK (O := Ob) PR n_gate_Gate_Hold [.ptr 0 0, .dv (.int .i64 j)] [.obj (gO c ep hd)] fun v m => v = .dv (.int .i64 3) ∧ m = [.obj (gO c ep hd)] := by
  rcases (by omega : j < 0 ∨ (0 ≤ j ∧ (c : Int) ≤ j)) with hw | ⟨hw, hw'⟩
  all_goals
    refine fn_walkv mixed fn_gate_Gate_Hold Ent.opn1 fun bin cmp un conv bnot beq band sel isel ofN toN inb nz nneg lt le room' slb add sub sbin scmp slen sget ssub addk pc pb pi pf ps mkok min_ ig aeq P hP hA hF Q hQ => ?_
    cbv
    repeat' first
      | ((refine call_inl hP mixed hA code_gate_Gate_wrong fn_gate_Gate_wrong ?_); cbv)
      | (refine Chk.mk trivial ?_; cbv)
      | (refine bc_true (by first | assumption | (simp (disch := omega) only [hF, natc, w64_in, shs]; first | done | assumption | omega | (simp only [natc] at *; omega))) ?_; cbv)
      | (refine bc_false (by first | assumption | (simp (disch := omega) only [hF, natc, w64_in, shs]; first | done | assumption | omega | (simp only [natc] at *; omega))) ?_; cbv)
      | (refine bc_split (fun h => ?_) (fun h => ?_) <;> (try simp (disch := omega) only [hF, natc, w64_in, shs] at h) <;> cbv)
      | (refine IdxVC.mk (by simp (disch := omega) only [hF, natc, w64_in, shs]; first | done | omega | (simp only [natc] at *; omega)) (fun kx hk hk2 => ?_); simp (disch := omega) only [hF, natc, w64_in, shs] at hk; (try obtain rfl : kx = 0 := hk); cbv)
      | (refine Chk.mk (by simp (disch := omega) only [maxN, hF, natc, w64_in, shs]; first | done | assumption | omega | (simp only [natc] at *; omega)) ?_; cbv)
      | (intro (hmx : _ ≤ maxN); replace hmx : _ ≤ 17592186044416 := hmx; cbv)
      | (intro _; cbv)
    subst hQ
    exact leaf_obj (lmem := gM c ep hd) [] rfl rfl ⟨⟨rfl, ⟨rfl, rfl, fun _ _ _ _ => rfl⟩, ⟨rfl, rfl, fun _ _ _ _ => rfl⟩, trivial⟩, trivial⟩ rfl rfl ⟨rfl, rfl⟩

theorem gStart_out (c : Nat) (ep : Nat → Int) (hd : Nat → Bool) (h8 : c ≤ 8) (j : Int) (hj : ¬ (0 ≤ j ∧ j < c)) : CallOK (O := Ob) PR n_gate_Gate_Start [.ptr 0 0, .dv (.int .i64 j)] [.obj (gO c ep hd)] fun v m => v = .dv (.int .i64 3) ∧ m = [.obj (gO c ep hd)] := by
  rcases (by omega : j < 0 ∨ (0 ≤ j ∧ (c : Int) ≤ j)) with hw | ⟨hw, hw'⟩
  all_goals
    refine fn_walkv mixed fn_gate_Gate_Start Ent.opn1 fun bin cmp un conv bnot beq band sel isel ofN toN inb nz nneg lt le room' slb add sub sbin scmp slen sget ssub addk pc pb pi pf ps mkok min_ ig aeq P hP hA hF Q hQ => ?_
    cbv
    repeat' first
      | ((refine call_inl hP mixed hA code_gate_Gate_wrong fn_gate_Gate_wrong ?_); cbv)
      | (refine Chk.mk trivial ?_; cbv)
      | (refine bc_true (by first | assumption | (simp (disch := omega) only [hF, natc, w64_in, shs]; first | done | assumption | omega | (simp only [natc] at *; omega))) ?_; cbv)
      | (refine bc_false (by first | assumption | (simp (disch := omega) only [hF, natc, w64_in, shs]; first | done | assumption | omega | (simp only [natc] at *; omega))) ?_; cbv)
      | (refine bc_split (fun h => ?_) (fun h => ?_) <;> (try simp (disch := omega) only [hF, natc, w64_in, shs] at h) <;> cbv)
      | (refine IdxVC.mk (by simp (disch := omega) only [hF, natc, w64_in, shs]; first | done | omega | (simp only [natc] at *; omega)) (fun kx hk hk2 => ?_); simp (disch := omega) only [hF, natc, w64_in, shs] at hk; (try obtain rfl : kx = 0 := hk); cbv)
      | (refine Chk.mk (by simp (disch := omega) only [maxN, hF, natc, w64_in, shs]; first | done | assumption | omega | (simp only [natc] at *; omega)) ?_; cbv)
      | (intro (hmx : _ ≤ maxN); replace hmx : _ ≤ 17592186044416 := hmx; cbv)
      | (intro _; cbv)
    subst hQ
    exact leaf_obj (lmem := gM c ep hd) [] rfl rfl ⟨⟨rfl, ⟨rfl, rfl, fun _ _ _ _ => rfl⟩, ⟨rfl, rfl, fun _ _ _ _ => rfl⟩, trivial⟩, trivial⟩ rfl rfl ⟨rfl, rfl⟩

theorem gStart_in (c : Nat) (ep : Nat → Int) (hd : Nat → Bool) (h8 : c ≤ 8) (j : Nat) (hj : j < c) (hh : hd j = true) (e1 : Int) (hadd : CallOK (O := Ob) PR n_wrap_Add [.dv (.int .i64 (ep j)), .dv (.int .i64 1)] [] fun v m => v = .dv (.int .i64 e1) ∧ m = []) :
    CallOK (O := Ob) PR n_gate_Gate_Start [.ptr 0 0, .dv (.int .i64 j)] [.obj (gO c ep hd)]
    fun v m => v = .dv (.int .i64 0) ∧ m = [.obj (gO c (fun i => if i = j then e1 else ep i) fun i => if i = j then false else hd i)] := by
  refine fn_walkv mixed fn_gate_Gate_Start Ent.opn1 fun bin cmp un conv bnot beq band sel isel ofN toN inb nz nneg lt le room' slb add sub sbin scmp slen sget ssub addk pc pb pi pf ps mkok min_ ig aeq P hP hA hF Q hQ => ?_
  have hb : bnot (hd j) = false := by simp only [hF, hh]; rfl
  cbv
  repeat' first
    | ((refine call_inl hP mixed hA code_gate_Gate_wrong fn_gate_Gate_wrong ?_); cbv)
    | ((rw [hb]); cbv)
    | ((refine And.intro ?_ ?_); cbv)
    | (refine call_pure hP code_wrap_Add (hadd) ?_ ?_; (focus (cbv; (try simp); done)); rintro _ rfl; cbv)
    | (refine Chk.mk trivial ?_; cbv)
    | (refine bc_true (by first | assumption | (simp (disch := omega) only [hF, natc, w64_in, shs]; first | done | assumption | omega | (simp only [natc] at *; omega))) ?_; cbv)
    | (refine bc_false (by first | assumption | (simp (disch := omega) only [hF, natc, w64_in, shs]; first | done | assumption | omega | (simp only [natc] at *; omega))) ?_; cbv)
    | (refine bc_split (fun h => ?_) (fun h => ?_) <;> (try simp (disch := omega) only [hF, natc, w64_in, shs] at h) <;> cbv)
    | (refine IdxVC.mk (by simp (disch := omega) only [hF, natc, w64_in, shs]; first | done | omega | (simp only [natc] at *; omega)) (fun kx hk hk2 => ?_); simp (disch := omega) only [hF, natc, w64_in, shs] at hk; (try obtain rfl : kx = 0 := hk); (try obtain rfl : j = kx := hk.symm); cbv)
    | (refine Chk.mk (by simp (disch := omega) only [maxN, hF, natc, w64_in, shs]; first | done | assumption | omega | (simp only [natc] at *; omega)) ?_; cbv)
    | (intro (hmx : _ ≤ maxN); replace hmx : _ ≤ 17592186044416 := hmx; cbv)
    | (intro _; cbv)
  subst hQ
  refine leaf_obj (lmem := gM c (fun i => if i = j then e1 else ep i) fun i => if i = j then false else hd i) [] rfl rfl ⟨⟨rfl, ⟨rfl, rfl, fun i f hi hf => ?_⟩, ⟨rfl, rfl, fun i f hi hf => ?_⟩, trivial⟩, trivial⟩ rfl rfl ⟨rfl, rfl⟩
  · obtain rfl : f = 0 := by omega
    rw [updRow_one (fun i => .int .i64 (ep i))]
    split
    · subst_vars; simp only [if_true]; rfl
    · rename_i h; simp only [if_neg h]; rfl
  · obtain rfl : f = 0 := by omega
    rw [updRow_one (fun i => .bool (hd i))]
    split
    · subst_vars; simp only [if_true]; rfl
    · rename_i h; simp only [if_neg h]; rfl

theorem gStart_no (c : Nat) (ep : Nat → Int) (hd : Nat → Bool) (h8 : c ≤ 8) (j : Nat) (hj : j < c) (hh : hd j = false) : CallOK (O := Ob) PR n_gate_Gate_Start [.ptr 0 0, .dv (.int .i64 j)] [.obj (gO c ep hd)]
    fun v m => v = .dv (.int .i64 13) ∧ m = [.obj (gO c ep hd)] := by
  refine fn_walkv mixed fn_gate_Gate_Start Ent.opn1 fun bin cmp un conv bnot beq band sel isel ofN toN inb nz nneg lt le room' slb add sub sbin scmp slen sget ssub addk pc pb pi pf ps mkok min_ ig aeq P hP hA hF Q hQ => ?_
  have hb : bnot (hd j) = true := by simp only [hF, hh]; rfl
  cbv
  repeat' first
    | ((refine call_inl hP mixed hA code_gate_Gate_wrong fn_gate_Gate_wrong ?_); cbv)
    | ((rw [hb]); cbv)
    | (refine Chk.mk trivial ?_; cbv)
    | (refine bc_true (by first | assumption | (simp (disch := omega) only [hF, natc, w64_in, shs]; first | done | assumption | omega | (simp only [natc] at *; omega))) ?_; cbv)
    | (refine bc_false (by first | assumption | (simp (disch := omega) only [hF, natc, w64_in, shs]; first | done | assumption | omega | (simp only [natc] at *; omega))) ?_; cbv)
    | (refine bc_split (fun h => ?_) (fun h => ?_) <;> (try simp (disch := omega) only [hF, natc, w64_in, shs] at h) <;> cbv)
    | (refine IdxVC.mk (by simp (disch := omega) only [hF, natc, w64_in, shs]; first | done | omega | (simp only [natc] at *; omega)) (fun kx hk hk2 => ?_); simp (disch := omega) only [hF, natc, w64_in, shs] at hk; (try obtain rfl : kx = 0 := hk); (try obtain rfl : j = kx := hk.symm); cbv)
    | (refine Chk.mk (by simp (disch := omega) only [maxN, hF, natc, w64_in, shs]; first | done | assumption | omega | (simp only [natc] at *; omega)) ?_; cbv)
    | (intro (hmx : _ ≤ maxN); replace hmx : _ ≤ 17592186044416 := hmx; cbv)
    | (intro _; cbv)
  subst hQ
  exact leaf_obj (lmem := gM c ep hd) [] rfl rfl ⟨⟨rfl, ⟨rfl, rfl, fun _ _ _ _ => rfl⟩, ⟨rfl, rfl, fun _ _ _ _ => rfl⟩, trivial⟩, trivial⟩ rfl rfl ⟨rfl, rfl⟩

theorem gNew (c : Nat) (h : 1 ≤ c ∧ c ≤ 8) : CallOK (O := Ob) PR n_gate_New [.dv (.int .i64 c)] [] fun v m => v = .ptr 0 0 ∧ m = [.obj (gO c (fun _ => 0) fun _ => false)] := by
  obtain ⟨h1, h8⟩ := h
  refine fn_walkv mixed fn_gate_New (Ent.refl _ _) fun bin cmp un conv bnot beq band sel isel ofN toN inb nz nneg lt le room' slb add sub sbin scmp slen sget ssub addk pc pb pi pf ps mkok min_ ig aeq P hP hA hF Q hQ => ?_
  cbv
  repeat' first
    | (refine Chk.mk trivial ?_; cbv)
    | (refine bc_true (by first | assumption | (simp (disch := omega) only [hF, natc, w64_in, shs]; first | done | assumption | omega | (simp only [natc] at *; omega))) ?_; cbv)
    | (refine bc_false (by first | assumption | (simp (disch := omega) only [hF, natc, w64_in, shs]; first | done | assumption | omega | (simp only [natc] at *; omega))) ?_; cbv)
    | (refine bc_split (fun h => ?_) (fun h => ?_) <;> (try simp (disch := omega) only [hF, natc, w64_in, shs] at h) <;> cbv)
    | (refine IdxVC.mk (by simp (disch := omega) only [hF, natc, w64_in, shs]; first | done | omega | (simp only [natc] at *; omega)) (fun kx hk hk2 => ?_); simp (disch := omega) only [hF, natc, w64_in, shs] at hk; (try obtain rfl : kx = 0 := hk); cbv)
    | (refine Chk.mk (by simp (disch := omega) only [maxN, hF, natc, w64_in, shs]; first | done | assumption | omega | (simp only [natc] at *; omega)) ?_; cbv)
    | (intro (hmx : _ ≤ maxN); replace hmx : _ ≤ 17592186044416 := hmx; cbv)
    | (intro _; cbv)
  subst hQ
  refine leaf_obj (lmem := gM c (fun _ => 0) fun _ => false) [] rfl rfl ⟨⟨rfl, ⟨rfl, rfl, fun i f hi hf => ?_⟩, ⟨rfl, rfl, fun i f hi hf => ?_⟩, trivial⟩, trivial⟩ rfl rfl ⟨rfl, rfl⟩
  all_goals
    obtain rfl : f = 0 := by omega
    rcases (by omega : i = 0 ∨ i = 1 ∨ i = 2 ∨ i = 3 ∨ i = 4 ∨ i = 5 ∨ i = 6 ∨ i = 7) with rfl | rfl | rfl | rfl | rfl | rfl | rfl | rfl <;> rfl

end Go.Proofs.YtiaceoomiflgcaaGreat

end

section
namespace Go.Proofs.YtiaceoomiflgcaaGreat
open Go.V
set_option linter.unusedVariables false
set_option linter.unusedSimpArgs false
set_option maxRecDepth 100000
set_option maxHeartbeats 8000000

/-- A bank of locks: so many cores, so many locks; the owners, one more than their numbers. -/
def kM (c n : Nat) (ow : Nat → Int) : List (Chunk Ob) := [.blk [.one (.dv (.int .i64 (c : Int))), .one (.dv (.int .i64 (n : Int))), .arr 16 1 (fun i _ => .dv (.int .i64 (ow i)))]]
def kO (c n : Nat) (ow : Nat → Int) : Ob := .mk (kM c n ow)

theorem leaf_k {c n : Nat} {ow : Nat → Int} {v : SV} {Q : SV → List (Chunk Ob) → Prop} (hu : VLe [0] v v) (hq : Q v [.obj (kO c n ow)]) : ∃ r' m', Ent 1 ⟨[v], kM c n ow⟩ ⟨[r'], m'⟩ ∧ Q r' m' :=
  leaf_obj (lmem := kM c n ow) [] rfl rfl ⟨⟨rfl, rfl, ⟨rfl, rfl, fun _ _ _ _ => rfl⟩, trivial⟩, trivial⟩ hu rfl hq

theorem kNew (c n : Nat) (h : 1 ≤ c ∧ c ≤ 8) (hn : 1 ≤ n ∧ n ≤ 16) : CallOK (O := Ob) PR n_locks_New [.dv (.int .i64 c), .dv (.int .i64 n)] [] fun v m => v = .ptr 0 0 ∧ m = [.obj (kO c n fun _ => 0)] := by
  obtain ⟨h1, h8⟩ := h
  obtain ⟨h2, h3⟩ := hn
  refine fn_walkv mixed fn_locks_New (Ent.refl _ _) fun bin cmp un conv bnot beq band sel isel ofN toN inb nz nneg lt le room' slb add sub sbin scmp slen sget ssub addk pc pb pi pf ps mkok min_ ig aeq P hP hA hF Q hQ => ?_
  cbv
  repeat' first
    | (refine Chk.mk trivial ?_; cbv)
    | (refine bc_true (by first | assumption | (simp (disch := omega) only [hF, natc, w64_in, shs]; first | done | assumption | omega | (simp only [natc] at *; omega))) ?_; cbv)
    | (refine bc_false (by first | assumption | (simp (disch := omega) only [hF, natc, w64_in, shs]; first | done | assumption | omega | (simp only [natc] at *; omega))) ?_; cbv)
    | (refine bc_split (fun h => ?_) (fun h => ?_) <;> (try simp (disch := omega) only [hF, natc, w64_in, shs] at h) <;> cbv)
    | (refine IdxVC.mk (by simp (disch := omega) only [hF, natc, w64_in, shs]; first | done | omega | (simp only [natc] at *; omega)) (fun kx hk hk2 => ?_); simp (disch := omega) only [hF, natc, w64_in, shs] at hk; (try obtain rfl : kx = 0 := hk); cbv)
    | (refine Chk.mk (by simp (disch := omega) only [maxN, hF, natc, w64_in, shs]; first | done | assumption | omega | (simp only [natc] at *; omega)) ?_; cbv)
    | (intro (hmx : _ ≤ maxN); replace hmx : _ ≤ 17592186044416 := hmx; cbv)
    | (intro _; cbv)
  subst hQ
  refine leaf_obj (lmem := kM c n fun _ => 0) [] rfl rfl ⟨⟨rfl, rfl, ⟨rfl, rfl, fun i f hi hf => ?_⟩, trivial⟩, trivial⟩ rfl rfl ⟨rfl, rfl⟩
  obtain rfl : f = 0 := by omega
  rcases (by omega : i = 0 ∨ i = 1 ∨ i = 2 ∨ i = 3 ∨ i = 4 ∨ i = 5 ∨ i = 6 ∨ i = 7 ∨ i = 8 ∨ i = 9 ∨ i = 10 ∨ i = 11 ∨ i = 12 ∨ i = 13 ∨ i = 14 ∨ i = 15) with rfl | rfl | rfl | rfl | rfl | rfl | rfl | rfl | rfl | rfl | rfl | rfl | rfl | rfl | rfl | rfl <;> rfl

theorem kOwner (c n : Nat) (ow : Nat → Int) (hn : n ≤ 16) (i : Nat) (hi : i < n) (hz : 0 ≤ ow i ∧ ow i ≤ 100) : CallOK (O := Ob) PR n_locks_Bank_Owner [.ptr 0 0, .dv (.int .i64 i)] [.obj (kO c n ow)] fun v m => v = .tup [.dv (.int .i64 (ow i - 1)), .dv (.int .i64 0)] ∧ m = [.obj (kO c n ow)] := by
  obtain ⟨z0, z1⟩ := hz
  refine fn_walkv mixed fn_locks_Bank_Owner Ent.opn1 fun bin cmp un conv bnot beq band sel isel ofN toN inb nz nneg lt le room' slb add sub sbin scmp slen sget ssub addk pc pb pi pf ps mkok min_ ig aeq P hP hA hF Q hQ => ?_
  have hs : bin .sub .i64 (ow i) 1 = ow i - 1 := by simp (disch := omega) only [hF, natc, w64_in]
  cbv
  repeat' first
    | ((refine call_inl hP mixed hA code_locks_Bank_lock fn_locks_Bank_lock ?_); cbv)
    | ((rw [hs]); cbv)
    | (refine Chk.mk trivial ?_; cbv)
    | (refine bc_true (by first | assumption | (simp (disch := omega) only [hF, natc, w64_in, shs]; first | done | assumption | omega | (simp only [natc] at *; omega))) ?_; cbv)
    | (refine bc_false (by first | assumption | (simp (disch := omega) only [hF, natc, w64_in, shs]; first | done | assumption | omega | (simp only [natc] at *; omega))) ?_; cbv)
    | (refine bc_split (fun h => ?_) (fun h => ?_) <;> (try simp (disch := omega) only [hF, natc, w64_in, shs] at h) <;> cbv)
    | (refine IdxVC.mk (by simp (disch := omega) only [hF, natc, w64_in, shs]; first | done | omega | (simp only [natc] at *; omega)) (fun kx hk hk2 => ?_); simp (disch := omega) only [hF, natc, w64_in, shs] at hk; (try obtain rfl : kx = 0 := hk); (try obtain rfl : i = kx := hk.symm); cbv)
    | (refine Chk.mk (by simp (disch := omega) only [maxN, hF, natc, w64_in, shs]; first | done | assumption | omega | (simp only [natc] at *; omega)) ?_; cbv)
    | (intro (hmx : _ ≤ maxN); replace hmx : _ ≤ 17592186044416 := hmx; cbv)
    | (intro _; cbv)
  subst hQ
  exact leaf_k rfl ⟨rfl, rfl⟩

theorem kTry0 (c n : Nat) (ow : Nat → Int) (h8 : c ≤ 8) (hn : n ≤ 16) (j i : Nat) (hj : j < c) (hi : i < n) (hz : ow i = 0) : CallOK (O := Ob) PR n_locks_Bank_Try [.ptr 0 0, .dv (.int .i64 j), .dv (.int .i64 i)] [.obj (kO c n ow)]
    fun v m => v = .tup [.dv (.bool true), .dv (.int .i64 0)] ∧ m = [.obj (kO c n fun k => if k = i then (j : Int) + 1 else ow k)] := by
  refine fn_walkv mixed fn_locks_Bank_Try Ent.opn1 fun bin cmp un conv bnot beq band sel isel ofN toN inb nz nneg lt le room' slb add sub sbin scmp slen sget ssub addk pc pb pi pf ps mkok min_ ig aeq P hP hA hF Q hQ => ?_
  have hg : cmp .neq (ow i) 0 = false := by simp only [hF, hz]; rfl
  have hs : bin .add .i64 (Int.ofNat j) 1 = (j : Int) + 1 := by
    simp only [hF]
    rw [w64_in (by simp only [Int.ofNat_eq_natCast]; omega)]
    rfl
  cbv
  repeat' first
    | ((refine call_inl hP mixed hA code_locks_Bank_both fn_locks_Bank_both ?_); cbv)
    | ((refine call_inl hP mixed hA code_locks_Bank_core fn_locks_Bank_core ?_); cbv)
    | ((refine call_inl hP mixed hA code_locks_Bank_lock fn_locks_Bank_lock ?_); cbv)
    | ((rw [hg]); cbv)
    | ((rw [hs]); cbv)
    | (refine Chk.mk trivial ?_; cbv)
    | (refine bc_true (by first | assumption | (simp (disch := omega) only [hF, natc, w64_in, shs]; first | done | assumption | omega | (simp only [natc] at *; omega))) ?_; cbv)
    | (refine bc_false (by first | assumption | (simp (disch := omega) only [hF, natc, w64_in, shs]; first | done | assumption | omega | (simp only [natc] at *; omega))) ?_; cbv)
    | (refine bc_split (fun h => ?_) (fun h => ?_) <;> (try simp (disch := omega) only [hF, natc, w64_in, shs] at h) <;> cbv)
    | (refine IdxVC.mk (by simp (disch := omega) only [hF, natc, w64_in, shs]; first | done | omega | (simp only [natc] at *; omega)) (fun kx hk hk2 => ?_); simp (disch := omega) only [hF, natc, w64_in, shs] at hk; (try obtain rfl : kx = 0 := hk); (try obtain rfl : i = kx := hk.symm); cbv)
    | (refine Chk.mk (by simp (disch := omega) only [maxN, hF, natc, w64_in, shs]; first | done | assumption | omega | (simp only [natc] at *; omega)) ?_; cbv)
    | (intro (hmx : _ ≤ maxN); replace hmx : _ ≤ 17592186044416 := hmx; cbv)
    | (intro _; cbv)
  subst hQ
  refine leaf_obj (lmem := kM c n fun k => if k = i then (j : Int) + 1 else ow k) [] rfl rfl ⟨⟨rfl, rfl, ⟨rfl, rfl, fun k f hk hf => ?_⟩, trivial⟩, trivial⟩ rfl rfl ⟨rfl, rfl⟩
  obtain rfl : f = 0 := by omega
  rw [updRow_one (fun i => .int .i64 (ow i))]
  split
  · subst_vars; simp only [if_true]; rfl
  · rename_i h; simp only [if_neg h]; rfl

theorem kTry1 (c n : Nat) (ow : Nat → Int) (h8 : c ≤ 8) (hn : n ≤ 16) (j i : Nat) (hj : j < c) (hi : i < n) (hz : ow i ≠ 0) : CallOK (O := Ob) PR n_locks_Bank_Try [.ptr 0 0, .dv (.int .i64 j), .dv (.int .i64 i)] [.obj (kO c n ow)]
    fun v m => v = .tup [.dv (.bool false), .dv (.int .i64 0)] ∧ m = [.obj (kO c n ow)] := by
  refine fn_walkv mixed fn_locks_Bank_Try Ent.opn1 fun bin cmp un conv bnot beq band sel isel ofN toN inb nz nneg lt le room' slb add sub sbin scmp slen sget ssub addk pc pb pi pf ps mkok min_ ig aeq P hP hA hF Q hQ => ?_
  have hg : cmp .neq (ow i) 0 = true := by simp only [hF, decide_eq_true_eq]; exact hz
  cbv
  repeat' first
    | ((refine call_inl hP mixed hA code_locks_Bank_both fn_locks_Bank_both ?_); cbv)
    | ((refine call_inl hP mixed hA code_locks_Bank_core fn_locks_Bank_core ?_); cbv)
    | ((refine call_inl hP mixed hA code_locks_Bank_lock fn_locks_Bank_lock ?_); cbv)
    | ((rw [hg]); cbv)
    | (refine Chk.mk trivial ?_; cbv)
    | (refine bc_true (by first | assumption | (simp (disch := omega) only [hF, natc, w64_in, shs]; first | done | assumption | omega | (simp only [natc] at *; omega))) ?_; cbv)
    | (refine bc_false (by first | assumption | (simp (disch := omega) only [hF, natc, w64_in, shs]; first | done | assumption | omega | (simp only [natc] at *; omega))) ?_; cbv)
    | (refine bc_split (fun h => ?_) (fun h => ?_) <;> (try simp (disch := omega) only [hF, natc, w64_in, shs] at h) <;> cbv)
    | (refine IdxVC.mk (by simp (disch := omega) only [hF, natc, w64_in, shs]; first | done | omega | (simp only [natc] at *; omega)) (fun kx hk hk2 => ?_); simp (disch := omega) only [hF, natc, w64_in, shs] at hk; (try obtain rfl : kx = 0 := hk); (try obtain rfl : i = kx := hk.symm); cbv)
    | (refine Chk.mk (by simp (disch := omega) only [maxN, hF, natc, w64_in, shs]; first | done | assumption | omega | (simp only [natc] at *; omega)) ?_; cbv)
    | (intro (hmx : _ ≤ maxN); replace hmx : _ ≤ 17592186044416 := hmx; cbv)
    | (intro _; cbv)
  subst hQ
  exact leaf_k rfl ⟨rfl, rfl⟩

theorem kFree (c n : Nat) (ow : Nat → Int) (h8 : c ≤ 8) (hn : n ≤ 16) (j i : Nat) (hj : j < c) (hi : i < n) (hz : ow i = (j : Int) + 1) : CallOK (O := Ob) PR n_locks_Bank_Free [.ptr 0 0, .dv (.int .i64 j), .dv (.int .i64 i)] [.obj (kO c n ow)]
    fun v m => v = .dv (.int .i64 0) ∧ m = [.obj (kO c n fun k => if k = i then 0 else ow k)] := by
  refine fn_walkv mixed fn_locks_Bank_Free Ent.opn1 fun bin cmp un conv bnot beq band sel isel ofN toN inb nz nneg lt le room' slb add sub sbin scmp slen sget ssub addk pc pb pi pf ps mkok min_ ig aeq P hP hA hF Q hQ => ?_
  have hs : bin .add .i64 (Int.ofNat j) 1 = (j : Int) + 1 := by
    simp only [hF]
    rw [w64_in (by simp only [Int.ofNat_eq_natCast]; omega)]
    rfl
  have hg : cmp .neq (ow i) (bin .add .i64 (Int.ofNat j) 1) = false := by rw [hs, hz]; simp only [hF]; simp
  cbv
  repeat' first
    | ((refine call_inl hP mixed hA code_locks_Bank_both fn_locks_Bank_both ?_); cbv)
    | ((refine call_inl hP mixed hA code_locks_Bank_core fn_locks_Bank_core ?_); cbv)
    | ((refine call_inl hP mixed hA code_locks_Bank_lock fn_locks_Bank_lock ?_); cbv)
    | ((rw [hg]); cbv)
    | (refine Chk.mk trivial ?_; cbv)
    | (refine bc_true (by first | assumption | (simp (disch := omega) only [hF, natc, w64_in, shs]; first | done | assumption | omega | (simp only [natc] at *; omega))) ?_; cbv)
    | (refine bc_false (by first | assumption | (simp (disch := omega) only [hF, natc, w64_in, shs]; first | done | assumption | omega | (simp only [natc] at *; omega))) ?_; cbv)
    | (refine bc_split (fun h => ?_) (fun h => ?_) <;> (try simp (disch := omega) only [hF, natc, w64_in, shs] at h) <;> cbv)
    | (refine IdxVC.mk (by simp (disch := omega) only [hF, natc, w64_in, shs]; first | done | omega | (simp only [natc] at *; omega)) (fun kx hk hk2 => ?_); simp (disch := omega) only [hF, natc, w64_in, shs] at hk; (try obtain rfl : kx = 0 := hk); (try obtain rfl : i = kx := hk.symm); cbv)
    | (refine Chk.mk (by simp (disch := omega) only [maxN, hF, natc, w64_in, shs]; first | done | assumption | omega | (simp only [natc] at *; omega)) ?_; cbv)
    | (intro (hmx : _ ≤ maxN); replace hmx : _ ≤ 17592186044416 := hmx; cbv)
    | (intro _; cbv)
  subst hQ
  refine leaf_obj (lmem := kM c n fun k => if k = i then 0 else ow k) [] rfl rfl ⟨⟨rfl, rfl, ⟨rfl, rfl, fun k f hk hf => ?_⟩, trivial⟩, trivial⟩ rfl rfl ⟨rfl, rfl⟩
  obtain rfl : f = 0 := by omega
  rw [updRow_one (fun i => .int .i64 (ow i))]
  split
  · subst_vars; simp only [if_true]; rfl
  · rename_i h; simp only [if_neg h]; rfl

/-- How many of the locks ahead of such a one are a core's, and which. -/
def heldL (ow : Nat → Int) (x : Int) : Nat → Nat
  | 0 => 0
  | i + 1 => if ow i = x then heldL ow x i + 1 else heldL ow x i
def heldW (ow : Nat → Int) (x : Int) : Nat → Nat → Int
  | 0 => fun _ => 0
  | i + 1 => if ow i = x then fun t => if t < heldL ow x i then heldW ow x i t else (i : Int) else heldW ow x i

theorem heldL_le (ow : Nat → Int) (x : Int) : ∀ i, heldL ow x i ≤ i
  | 0 => Nat.le_refl _
  | i + 1 => by have := heldL_le ow x i; simp only [heldL]; split <;> omega

/-- The whole list is the core's locks. -/
theorem heldW_mem (ow : Nat → Int) (x : Int) : ∀ i (k : Nat), (∃ t, t < heldL ow x i ∧ heldW ow x i t = (k : Int)) ↔ (k < i ∧ ow k = x)
  | 0, k => by simp [heldL]
  | i + 1, k => by
    have ih := heldW_mem ow x i k
    simp only [heldL, heldW]
    split
    · rename_i h
      constructor
      · rintro ⟨t, ht, e⟩
        by_cases hlt : t < heldL ow x i
        · dsimp only at e; rw [if_pos hlt] at e
          have := ih.1 ⟨t, hlt, e⟩
          exact ⟨by omega, this.2⟩
        · dsimp only at e; rw [if_neg hlt] at e
          obtain rfl : i = k := by omega
          exact ⟨by omega, h⟩
      · rintro ⟨h1, h2⟩
        by_cases hk : k = i
        · subst hk
          exact ⟨heldL ow x k, by omega, by dsimp only; rw [if_neg (Nat.lt_irrefl _)]⟩
        · obtain ⟨t, ht, e⟩ := ih.2 ⟨by omega, h2⟩
          exact ⟨t, by omega, by dsimp only; rw [if_pos ht]; exact e⟩
    · rename_i h
      rw [ih]
      constructor
      · rintro ⟨h1, h2⟩; exact ⟨by omega, h2⟩
      · rintro ⟨h1, h2⟩
        refine ⟨?_, h2⟩
        by_cases hk : k = i
        · subst hk; exact absurd h2 h
        · omega

theorem kHeld (c n : Nat) (ow : Nat → Int) (h8 : c ≤ 8) (hn : n ≤ 16) (j : Nat) (hj : j < c) : CallOK (O := Ob) PR n_locks_Bank_Held [.ptr 0 0, .dv (.int .i64 j)] [.obj (kO c n ow)]
    fun v m => v = .vec 1 ∧ m = [.obj (kO c n ow), .vec (heldL ow (j + 1) 16) 1 fun t _ => .dv (.int .i64 (heldW ow (j + 1) 16 t))] := by
  have hle := heldL_le ow (j + 1)
  have hL0 : heldL ow (j + 1) 0 = 0 := rfl
  have hLy : ∀ i, ow i = (j : Int) + 1 → heldL ow (j + 1) (i + 1) = heldL ow (j + 1) i + 1 := fun i h => by simp only [heldL]; rw [if_pos h]
  have hLn : ∀ i, ow i ≠ (j : Int) + 1 → heldL ow (j + 1) (i + 1) = heldL ow (j + 1) i := fun i h => by simp only [heldL]; rw [if_neg h]
  have hWy : ∀ i, ow i = (j : Int) + 1 → ∀ t, heldW ow (j + 1) (i + 1) t = if t < heldL ow (j + 1) i then heldW ow (j + 1) i t else (i : Int) := fun i h t => by simp only [heldW]; rw [if_pos h]
  have hWn : ∀ i, ow i ≠ (j : Int) + 1 → ∀ t, heldW ow (j + 1) (i + 1) t = heldW ow (j + 1) i t := fun i h t => by simp only [heldW]; rw [if_neg h]
  generalize heldL ow (j + 1) = L at *
  generalize heldW ow (j + 1) = W at *
  refine fn_walkv mixed fn_locks_Bank_Held Ent.opn1 fun bin cmp un conv bnot beq band sel isel ofN toN inb nz nneg lt le room' slb add sub sbin scmp slen sget ssub addk pc pb pi pf ps mkok min_ ig aeq P hP hA hF Q hQ => ?_
  have hs : bin .add .i64 (Int.ofNat j) 1 = (j : Int) + 1 := by
    simp only [hF]
    rw [w64_in (by simp only [Int.ofNat_eq_natCast]; omega)]
    rfl
  have hig : ∀ i, i < 16 → ig [ow (0 / 1), ow (1 / 1), ow (2 / 1), ow (3 / 1), ow (4 / 1), ow (5 / 1), ow (6 / 1), ow (7 / 1), ow (8 / 1), ow (9 / 1), ow (10 / 1), ow (11 / 1), ow (12 / 1), ow (13 / 1), ow (14 / 1), ow (15 / 1)] i = ow i := by
    intro i hi
    have e : ig = std.ig := congrArg Ar.ig hA
    rw [e]
    rcases (by omega : i = 0 ∨ i = 1 ∨ i = 2 ∨ i = 3 ∨ i = 4 ∨ i = 5 ∨ i = 6 ∨ i = 7 ∨ i = 8 ∨ i = 9 ∨ i = 10 ∨ i = 11 ∨ i = 12 ∨ i = 13 ∨ i = 14 ∨ i = 15) with rfl | rfl | rfl | rfl | rfl | rfl | rfl | rfl | rfl | rfl | rfl | rfl | rfl | rfl | rfl | rfl <;> rfl
  cbv
  repeat' first
    | ((refine call_inl hP mixed hA code_locks_Bank_core fn_locks_Bank_core ?_); cbv)
    | (refine Chk.mk trivial ?_; cbv)
    | (refine bc_true (by first | assumption | (simp (disch := omega) only [hF, natc, w64_in, shs]; first | done | assumption | omega | (simp only [natc] at *; omega))) ?_; cbv)
    | (refine bc_false (by first | assumption | (simp (disch := omega) only [hF, natc, w64_in, shs]; first | done | assumption | omega | (simp only [natc] at *; omega))) ?_; cbv)
    | (refine bc_split (fun h => ?_) (fun h => ?_) <;> (try simp (disch := omega) only [hF, natc, w64_in, shs] at h) <;> cbv)
    | (refine IdxVC.mk (by simp (disch := omega) only [hF, natc, w64_in, shs]; first | done | omega | (simp only [natc] at *; omega)) (fun kx hk hk2 => ?_); simp (disch := omega) only [hF, natc, w64_in, shs] at hk; (try obtain rfl : kx = 0 := hk); cbv)
    | (refine Chk.mk (by simp (disch := omega) only [maxN, hF, natc, w64_in, shs]; first | done | assumption | omega | (simp only [natc] at *; omega)) ?_; cbv)
    | (intro (hmx : _ ≤ maxN); replace hmx : _ ≤ 17592186044416 := hmx; cbv)
    | (intro _; cbv)
  refine loop_up mixed hP hA (16) (fun i => True) [5, 6, 7, 16, 17, 18, 19, 20, 21, 22, 23, 24, 25, 26, 27, 28] (fun i => [(5, .vec 1), (16, .dv (.int .i64 (ofN i)))]) (fun i => [.blk [.one (.dv (.int .i64 (c : Int))), .one (.dv (.int .i64 (n : Int))), .arr 16 1 (fun i _ => .dv (.int .i64 (ow i)))], .vec (L i) 1 (fun t _ => .dv (.int .i64 (W i t)))]) (trivial) ?_ fun Nx i hN hi hp => ?_
  · refine (Ent.nilv 5 1 (fun t _ => .dv (.int .i64 0)) rfl).trans (Ent.ren [0, 1] rfl rfl ⟨⟨rfl, rfl, ⟨rfl, rfl, fun _ _ _ _ => rfl⟩, trivial⟩, ⟨hL0.symm, rfl, fun _ _ h _ => absurd h (Nat.not_lt_zero _)⟩, trivial⟩ (by cbv; simp [hF]))
  cbv
  by_cases hlt : i < 16
  · have hrm : room' (add (L i) 1) 8 := by have := hle i; simp [hF, maxN]; omega
    by_cases hyn : ow i = (j : Int) + 1
    · have hg : cmp .eql (ow i) (bin .add .i64 (Int.ofNat j) 1) = true := by rw [hs, hyn]; simp only [hF]; simp
      have hc : cmp .eql (ig [ow (0 / 1), ow (1 / 1), ow (2 / 1), ow (3 / 1), ow (4 / 1), ow (5 / 1), ow (6 / 1), ow (7 / 1), ow (8 / 1), ow (9 / 1), ow (10 / 1), ow (11 / 1), ow (12 / 1), ow (13 / 1), ow (14 / 1), ow (15 / 1)] i) (bin .add .i64 (Int.ofNat j) 1) = true := by rw [hig i hlt]; exact hg
      cbv
      repeat' first
        | ((refine Chk.mk hrm ?_); cbv)
        | ((refine bc_true hc ?_); cbv)
        | (refine Chk.mk trivial ?_; cbv)
        | (refine bc_true (by first | assumption | (simp (disch := omega) only [hF, natc, w64_in, shs]; first | done | assumption | omega | (simp only [natc] at *; omega))) ?_; cbv)
        | (refine bc_false (by first | assumption | (simp (disch := omega) only [hF, natc, w64_in, shs]; first | done | assumption | omega | (simp only [natc] at *; omega))) ?_; cbv)
        | (refine bc_split (fun h => ?_) (fun h => ?_) <;> (try simp (disch := omega) only [hF, natc, w64_in, shs] at h) <;> cbv)
        | (refine IdxVC.mk (by simp (disch := omega) only [hF, natc, w64_in, shs]; first | done | omega | (simp only [natc] at *; omega)) (fun kx hk hk2 => ?_); simp (disch := omega) only [hF, natc, w64_in, shs] at hk; (try obtain rfl : kx = 0 := hk); (try obtain rfl : i = kx := hk.symm); cbv)
        | (refine Chk.mk (by simp (disch := omega) only [maxN, hF, natc, w64_in, shs]; first | done | assumption | omega | (simp only [natc] at *; omega)) ?_; cbv)
        | (intro (hmx : _ ≤ maxN); replace hmx : _ ≤ 17592186044416 := hmx; cbv)
        | (intro _; cbv)
      refine hN _ hlt trivial (Ent.ren [0, 3] rfl rfl ⟨⟨rfl, rfl, ⟨rfl, rfl, fun _ _ _ _ => rfl⟩, trivial⟩, ⟨by rw [hLy i hyn]; simp only [hF], rfl, fun x f hx hf => ?_⟩, trivial⟩ (by cbv; simp (disch := omega) [hF, natc, w64_in]))
      simp only [hF] at hx
      obtain rfl : f = 0 := by omega
      show VLe _ _ (.dv (.int .i64 (W (i + 1) x)))
      rw [hWy i hyn x]
      unfold appAt
      by_cases hxl : x < L i
      · rw [if_pos hxl, if_pos hxl]; rfl
      · obtain rfl : x = L i := by omega
        rw [if_neg hxl, if_neg hxl]
        simp only [hF, Nat.sub_self]
        rfl
    · have hg : cmp .eql (ow i) (bin .add .i64 (Int.ofNat j) 1) = false := by rw [hs]; simp only [hF, decide_eq_false_iff_not]; exact hyn
      have hc : cmp .eql (ig [ow (0 / 1), ow (1 / 1), ow (2 / 1), ow (3 / 1), ow (4 / 1), ow (5 / 1), ow (6 / 1), ow (7 / 1), ow (8 / 1), ow (9 / 1), ow (10 / 1), ow (11 / 1), ow (12 / 1), ow (13 / 1), ow (14 / 1), ow (15 / 1)] i) (bin .add .i64 (Int.ofNat j) 1) = false := by rw [hig i hlt]; exact hg
      cbv
      repeat' first
        | ((refine bc_false hc ?_); cbv)
        | (refine Chk.mk trivial ?_; cbv)
        | (refine bc_true (by first | assumption | (simp (disch := omega) only [hF, natc, w64_in, shs]; first | done | assumption | omega | (simp only [natc] at *; omega))) ?_; cbv)
        | (refine bc_false (by first | assumption | (simp (disch := omega) only [hF, natc, w64_in, shs]; first | done | assumption | omega | (simp only [natc] at *; omega))) ?_; cbv)
        | (refine bc_split (fun h => ?_) (fun h => ?_) <;> (try simp (disch := omega) only [hF, natc, w64_in, shs] at h) <;> cbv)
        | (refine IdxVC.mk (by simp (disch := omega) only [hF, natc, w64_in, shs]; first | done | omega | (simp only [natc] at *; omega)) (fun kx hk hk2 => ?_); simp (disch := omega) only [hF, natc, w64_in, shs] at hk; (try obtain rfl : kx = 0 := hk); (try obtain rfl : i = kx := hk.symm); cbv)
        | (refine Chk.mk (by simp (disch := omega) only [maxN, hF, natc, w64_in, shs]; first | done | assumption | omega | (simp only [natc] at *; omega)) ?_; cbv)
        | (intro (hmx : _ ≤ maxN); replace hmx : _ ≤ 17592186044416 := hmx; cbv)
        | (intro _; cbv)
      refine hN _ hlt trivial (Ent.ren [0, 1] rfl rfl ⟨⟨rfl, rfl, ⟨rfl, rfl, fun _ _ _ _ => rfl⟩, trivial⟩, ⟨(hLn i hyn).symm, rfl, fun x f hx hf => ?_⟩, trivial⟩ (by cbv; simp (disch := omega) [hF, natc, w64_in]))
      show VLe _ _ (.dv (.int .i64 (W (i + 1) x)))
      rw [hWn i hyn]; rfl
  · obtain rfl : i = 16 := by omega
    cbv
    repeat' first
      | (refine Chk.mk trivial ?_; cbv)
      | (refine bc_true (by first | assumption | (simp (disch := omega) only [hF, natc, w64_in, shs]; first | done | assumption | omega | (simp only [natc] at *; omega))) ?_; cbv)
      | (refine bc_false (by first | assumption | (simp (disch := omega) only [hF, natc, w64_in, shs]; first | done | assumption | omega | (simp only [natc] at *; omega))) ?_; cbv)
      | (refine bc_split (fun h => ?_) (fun h => ?_) <;> (try simp (disch := omega) only [hF, natc, w64_in, shs] at h) <;> cbv)
      | (refine IdxVC.mk (by simp (disch := omega) only [hF, natc, w64_in, shs]; first | done | omega | (simp only [natc] at *; omega)) (fun kx hk hk2 => ?_); simp (disch := omega) only [hF, natc, w64_in, shs] at hk; (try obtain rfl : kx = 0 := hk); cbv)
      | (refine Chk.mk (by simp (disch := omega) only [maxN, hF, natc, w64_in, shs]; first | done | assumption | omega | (simp only [natc] at *; omega)) ?_; cbv)
      | (intro (hmx : _ ≤ maxN); replace hmx : _ ≤ 17592186044416 := hmx; cbv)
      | (intro _; cbv)
    subst hQ
    refine ⟨.vec 1, [.obj (kO c n ow), .vec (L 16) 1 fun t _ => .dv (.int .i64 (W 16 t))], Ent.cls 0 [] (kM c n ow) rfl rfl ⟨⟨rfl, rfl, ⟨rfl, rfl, fun _ _ _ _ => rfl⟩, trivial⟩, trivial⟩, rfl, rfl⟩

end Go.Proofs.YtiaceoomiflgcaaGreat

end

section
namespace Go.Proofs.YtiaceoomiflgcaaGreat
open Go.V
set_option linter.unusedVariables false
set_option linter.unusedSimpArgs false
set_option maxRecDepth 100000
set_option maxHeartbeats 8000000

theorem kCore (c n : Nat) (ow : Nat → Int) (h8 : c ≤ 8) (j : Nat) (hj : j < c) : CallOK (O := Ob) PR n_locks_Bank_core [.ptr 0 0, .dv (.int .i64 j)] [.obj (kO c n ow)] fun v m => v = .dv (.int .i64 0) ∧ m = [.obj (kO c n ow)] := by
  refine fn_walkv mixed fn_locks_Bank_core Ent.opn1 fun bin cmp un conv bnot beq band sel isel ofN toN inb nz nneg lt le room' slb add sub sbin scmp slen sget ssub addk pc pb pi pf ps mkok min_ ig aeq P hP hA hF Q hQ => ?_
  cbv
  repeat' first
    | (refine Chk.mk trivial ?_; cbv)
    | (refine bc_true (by first | assumption | (simp (disch := omega) only [hF, natc, w64_in, shs]; first | done | assumption | omega | (simp only [natc] at *; omega))) ?_; cbv)
    | (refine bc_false (by first | assumption | (simp (disch := omega) only [hF, natc, w64_in, shs]; first | done | assumption | omega | (simp only [natc] at *; omega))) ?_; cbv)
    | (refine bc_split (fun h => ?_) (fun h => ?_) <;> (try simp (disch := omega) only [hF, natc, w64_in, shs] at h) <;> cbv)
    | (refine IdxVC.mk (by simp (disch := omega) only [hF, natc, w64_in, shs]; first | done | omega | (simp only [natc] at *; omega)) (fun kx hk hk2 => ?_); simp (disch := omega) only [hF, natc, w64_in, shs] at hk; (try obtain rfl : kx = 0 := hk); cbv)
    | (refine Chk.mk (by simp (disch := omega) only [maxN, hF, natc, w64_in, shs]; first | done | assumption | omega | (simp only [natc] at *; omega)) ?_; cbv)
    | (intro (hmx : _ ≤ maxN); replace hmx : _ ≤ 17592186044416 := hmx; cbv)
    | (intro _; cbv)
  subst hQ
  exact leaf_k rfl ⟨rfl, rfl⟩

/-- The owners after so many of a list are freed. -/
def freed (ow W : Nat → Int) : Nat → Nat → Int
  | 0 => ow
  | t + 1 => fun i => if (i : Int) = W t then 0 else freed ow W t i

theorem freed_eq (ow W : Nat → Int) : ∀ t i, freed ow W t i = 0 ∧ (∃ s, s < t ∧ W s = (i : Int)) ∨ freed ow W t i = ow i ∧ ¬ ∃ s, s < t ∧ W s = (i : Int)
  | 0, i => .inr ⟨rfl, fun ⟨s, h, _⟩ => absurd h (Nat.not_lt_zero _)⟩
  | t + 1, i => by
    have e : freed ow W (t + 1) i = if (i : Int) = W t then 0 else freed ow W t i := rfl
    rw [e]
    by_cases h : (i : Int) = W t
    · rw [if_pos h]; exact .inl ⟨rfl, t, Nat.lt_succ_self t, h.symm⟩
    · rw [if_neg h]
      rcases freed_eq ow W t i with ⟨h1, s, h2, h3⟩ | ⟨h1, h2⟩
      · exact .inl ⟨h1, s, by omega, h3⟩
      · refine .inr ⟨h1, fun ⟨s, h3, h4⟩ => ?_⟩
        by_cases hs : s = t
        · subst hs; exact h h4.symm
        · exact h2 ⟨s, by omega, h4⟩

theorem kRelease_w (c n : Nat) (ow W ow' : Nat → Int) (N : Nat) (h8 : c ≤ 8) (hN : N ≤ 16) (j : Nat) (hj : j < c) (hW : ∀ t, t < N → 0 ≤ W t ∧ W t < 16) (ho : ∀ i, i < 16 → ow' i = freed ow W N i)
    (hheld : CallOK (O := Ob) PR n_locks_Bank_Held [.ptr 0 0, .dv (.int .i64 j)] [.obj (kO c n ow)] fun v m => v = .vec 1 ∧ m = [.obj (kO c n ow), .vec N 1 fun t _ => .dv (.int .i64 (W t))]) :
    CallOK (O := Ob) PR n_locks_Bank_Release [.ptr 0 0, .dv (.int .i64 j)] [.obj (kO c n ow)] fun v m => v = .tup [.dv (.int .i64 (N : Int)), .dv (.int .i64 0)] ∧ m = [.obj (kO c n ow')] := by
  have hcore := kCore c n ow h8 j hj
  generalize hO0 : kO c n ow = O0 at hcore hheld ⊢
  refine fn_walkv mixed fn_locks_Bank_Release (Ent.refl _ _) fun bin cmp un conv bnot beq band sel isel ofN toN inb nz nneg lt le room' slb add sub sbin scmp slen sget ssub addk pc pb pi pf ps mkok min_ ig aeq P hP hA hF Q hQ => ?_
  cbv
  repeat' first
    | (refine call_at hP [0] code_locks_Bank_core (hcore) rfl ?_ ?_ ?_; (focus ((repeat' (first | exact trivial | exact rfl | (intro _ _ _ _; exact rfl) | refine And.intro ?_ ?_)); done)); (focus (cbv; (try simp); done)); rintro _ _ ⟨rfl, rfl⟩ _; cbv)
    | (refine call_at hP [0] code_locks_Bank_Held (hheld) rfl ?_ ?_ ?_; (focus ((repeat' (first | exact trivial | exact rfl | (intro _ _ _ _; exact rfl) | refine And.intro ?_ ?_)); done)); (focus (cbv; (try simp); done)); rintro _ _ ⟨rfl, rfl⟩ _; cbv)
    | (refine Chk.mk trivial ?_; cbv)
    | (refine bc_true (by first | assumption | (simp (disch := omega) only [hF, natc, w64_in, shs]; first | done | assumption | omega | (simp only [natc] at *; omega))) ?_; cbv)
    | (refine bc_false (by first | assumption | (simp (disch := omega) only [hF, natc, w64_in, shs]; first | done | assumption | omega | (simp only [natc] at *; omega))) ?_; cbv)
    | (refine bc_split (fun h => ?_) (fun h => ?_) <;> (try simp (disch := omega) only [hF, natc, w64_in, shs] at h) <;> cbv)
    | (refine IdxVC.mk (by simp (disch := omega) only [hF, natc, w64_in, shs]; first | done | omega | (simp only [natc] at *; omega)) (fun kx hk hk2 => ?_); simp (disch := omega) only [hF, natc, w64_in, shs] at hk; (try obtain rfl : kx = 0 := hk); cbv)
    | (refine Chk.mk (by simp (disch := omega) only [maxN, hF, natc, w64_in, shs]; first | done | assumption | omega | (simp only [natc] at *; omega)) ?_; cbv)
    | (intro (hmx : _ ≤ maxN); replace hmx : _ ≤ 17592186044416 := hmx; cbv)
    | (intro _; cbv)
  subst hO0
  refine loop_up mixed hP hA (N) (fun i => True) [9, 21, 22, 23, 24, 25, 26, 27, 28, 29, 30] (fun i => [(21, .dv (.int .i64 (ofN i)))]) (fun i => [.blk [.one (.dv (.int .i64 (c : Int))), .one (.dv (.int .i64 (n : Int))), .arr 16 1 (fun k _ => .dv (.int .i64 (freed ow W i k)))], .vec N 1 (fun t _ => .dv (.int .i64 (W t)))]) (trivial) ?_ fun Nx i hN hi hp => ?_
  · refine (Ent.opn (lmem := kM c n ow) 0 rfl).trans (Ent.ren [0, 1] rfl rfl ⟨⟨rfl, rfl, ⟨rfl, rfl, fun _ _ _ _ => rfl⟩, trivial⟩, ⟨rfl, rfl, fun _ _ _ _ => rfl⟩, trivial⟩ (by cbv; simp [hF]))
  cbv
  by_cases hlt : i < N
  · obtain ⟨hw0, hw1⟩ := hW i hlt
    cbv
    repeat' first
      | (refine Chk.mk trivial ?_; cbv)
      | (refine bc_true (by first | assumption | (simp (disch := omega) only [hF, natc, w64_in, shs]; first | done | assumption | omega | (simp only [natc] at *; omega))) ?_; cbv)
      | (refine bc_false (by first | assumption | (simp (disch := omega) only [hF, natc, w64_in, shs]; first | done | assumption | omega | (simp only [natc] at *; omega))) ?_; cbv)
      | (refine bc_split (fun h => ?_) (fun h => ?_) <;> (try simp (disch := omega) only [hF, natc, w64_in, shs] at h) <;> cbv)
      | (refine IdxVC.mk (by simp (disch := omega) only [hF, natc, w64_in, shs]; first | done | omega | (simp only [natc] at *; omega)) (fun kx hk hk2 => ?_); simp (disch := omega) only [hF, natc, w64_in, shs] at hk; (try obtain rfl : kx = 0 := hk); (try obtain rfl : i = kx := hk.symm); cbv)
      | (refine Chk.mk (by simp (disch := omega) only [maxN, hF, natc, w64_in, shs]; first | done | assumption | omega | (simp only [natc] at *; omega)) ?_; cbv)
      | (intro (hmx : _ ≤ maxN); replace hmx : _ ≤ 17592186044416 := hmx; cbv)
      | (intro _; cbv)
    refine hN _ hlt trivial (Ent.ren [0, 1] rfl rfl ⟨⟨rfl, rfl, ⟨rfl, rfl, fun x f hx hf => ?_⟩, trivial⟩, ⟨rfl, rfl, fun _ _ _ _ => rfl⟩, trivial⟩ (by cbv; simp (disch := omega) [hF, natc, w64_in]))
    obtain rfl : f = 0 := by omega
    rw [updRow_one (fun k => .int .i64 (freed ow W i k))]
    show VLe _ _ (.dv (.int .i64 (if (x : Int) = W i then 0 else freed ow W i x)))
    by_cases h : x = kx
    · rw [if_pos h, if_pos (by omega)]; rfl
    · rw [if_neg h, if_neg (by omega)]; rfl
  · obtain rfl : i = N := by omega
    cbv
    repeat' first
      | (refine Chk.mk trivial ?_; cbv)
      | (refine bc_true (by first | assumption | (simp (disch := omega) only [hF, natc, w64_in, shs]; first | done | assumption | omega | (simp only [natc] at *; omega))) ?_; cbv)
      | (refine bc_false (by first | assumption | (simp (disch := omega) only [hF, natc, w64_in, shs]; first | done | assumption | omega | (simp only [natc] at *; omega))) ?_; cbv)
      | (refine bc_split (fun h => ?_) (fun h => ?_) <;> (try simp (disch := omega) only [hF, natc, w64_in, shs] at h) <;> cbv)
      | (refine IdxVC.mk (by simp (disch := omega) only [hF, natc, w64_in, shs]; first | done | omega | (simp only [natc] at *; omega)) (fun kx hk hk2 => ?_); simp (disch := omega) only [hF, natc, w64_in, shs] at hk; (try obtain rfl : kx = 0 := hk); cbv)
      | (refine Chk.mk (by simp (disch := omega) only [maxN, hF, natc, w64_in, shs]; first | done | assumption | omega | (simp only [natc] at *; omega)) ?_; cbv)
      | (intro (hmx : _ ≤ maxN); replace hmx : _ ≤ 17592186044416 := hmx; cbv)
      | (intro _; cbv)
    have e : ofN i = (i : Int) := by simp only [hF]
    rw [e]
    subst hQ
    refine leaf_obj (lmem := kM c n ow') [] rfl rfl ⟨⟨rfl, rfl, ⟨rfl, rfl, fun x f hx hf => ?_⟩, trivial⟩, trivial⟩ rfl rfl ⟨rfl, rfl⟩
    show VLe _ _ (.dv (.int .i64 (ow' x)))
    rw [ho x hx]; rfl

/-- All locks of a core are freed. -/
theorem kRelease (c n : Nat) (ow ow' : Nat → Int) (h8 : c ≤ 8) (hn : n ≤ 16) (j : Nat) (hj : j < c) (ho : ∀ i, i < 16 → ow' i = if ow i = (j : Int) + 1 then 0 else ow i) :
    CallOK (O := Ob) PR n_locks_Bank_Release [.ptr 0 0, .dv (.int .i64 j)] [.obj (kO c n ow)] fun v m => (∃ z, v = .tup [.dv (.int .i64 z), .dv (.int .i64 0)]) ∧ m = [.obj (kO c n ow')] := by
  have hN := heldL_le ow (j + 1) 16
  have key := heldW_mem ow ((j : Int) + 1) 16
  have hW : ∀ t, t < heldL ow (j + 1) 16 → 0 ≤ heldW ow (j + 1) 16 t ∧ heldW ow (j + 1) 16 t < 16 := by
    have gen : ∀ i t, t < heldL ow ((j : Int) + 1) i → 0 ≤ heldW ow (j + 1) i t ∧ heldW ow (j + 1) i t < i := by
      intro i
      induction i with
      | zero => intro t h; exact absurd h (Nat.not_lt_zero _)
      | succ i ih =>
        intro t h
        simp only [heldL] at h
        simp only [heldW]
        split at h
        · rename_i hy
          rw [if_pos hy]
          by_cases hlt : t < heldL ow ((j : Int) + 1) i
          · rw [if_pos hlt]; have := ih t hlt; omega
          · rw [if_neg hlt]; omega
        · rename_i hy
          rw [if_neg hy]
          have := ih t h; omega
    intro t h
    have := gen 16 t h
    omega
  refine (kRelease_w c n ow (heldW ow (j + 1) 16) ow' (heldL ow (j + 1) 16) h8 hN j hj hW (fun i hi => ?_) (kHeld c n ow h8 hn j hj)).mono fun v m ⟨hv, hm⟩ => ⟨⟨_, hv⟩, hm⟩
  rw [ho i hi]
  have k := key i
  rcases freed_eq ow (heldW ow (j + 1) 16) (heldL ow (j + 1) 16) i with ⟨h1, h2⟩ | ⟨h1, h2⟩
  · rw [h1, if_pos (k.1 h2).2]
  · rw [h1, if_neg fun h => h2 (k.2 ⟨hi, h⟩)]

end Go.Proofs.YtiaceoomiflgcaaGreat

end

section
namespace Go.Proofs.YtiaceoomiflgcaaGreat
open Go.V
set_option linter.unusedVariables false
set_option linter.unusedSimpArgs false
set_option maxRecDepth 100000
set_option maxHeartbeats 8000000

/-- A lane of sixteen: where it begins, how many it has; its room. -/
def nM (f h : Nat) (rm : Nat → Int) : List (Chunk Ob) := [.blk [.one (.vec 1), .one (.dv (.int .i64 (f : Int))), .one (.dv (.int .i64 (h : Int)))], .vec 16 1 (fun i _ => .dv (.int .i64 (rm i)))]
def nO (f h : Nat) (rm : Nat → Int) : Ob := .mk (nM f h rm)

theorem leaf_n {f h : Nat} {rm : Nat → Int} {v : SV} {Q : SV → List (Chunk Ob) → Prop} (hu : VLe [0] v v) (hq : Q v [.obj (nO f h rm)]) : ∃ r' m', Ent 1 ⟨[v], nM f h rm⟩ ⟨[r'], m'⟩ ∧ Q r' m' :=
  leaf_obj (lmem := nM f h rm) [1] rfl rfl ⟨⟨rfl, rfl, rfl, trivial⟩, ⟨rfl, rfl, fun _ _ _ _ => rfl⟩, trivial⟩ hu rfl hq

theorem nLen (f h : Nat) (rm : Nat → Int) : CallOK (O := Ob) PR n_lane_Lane_Len [.ptr 0 0] [.obj (nO f h rm)] fun v m => v = .dv (.int .i64 (h : Int)) ∧ m = [.obj (nO f h rm)] := by
  refine fn_walkv mixed fn_lane_Lane_Len Ent.opn1 fun bin cmp un conv bnot beq band sel isel ofN toN inb nz nneg lt le room' slb add sub sbin scmp slen sget ssub addk pc pb pi pf ps mkok min_ ig aeq P hP hA hF Q hQ => ?_
  cbv
  repeat' first
    | (refine Chk.mk trivial ?_; cbv)
    | (refine bc_true (by first | assumption | (simp (disch := omega) only [hF, natc, w64_in, shs]; first | done | assumption | omega | (simp only [natc] at *; omega))) ?_; cbv)
    | (refine bc_false (by first | assumption | (simp (disch := omega) only [hF, natc, w64_in, shs]; first | done | assumption | omega | (simp only [natc] at *; omega))) ?_; cbv)
    | (refine bc_split (fun h => ?_) (fun h => ?_) <;> (try simp (disch := omega) only [hF, natc, w64_in, shs] at h) <;> cbv)
    | (refine IdxVC.mk (by simp (disch := omega) only [hF, natc, w64_in, shs]; first | done | omega | (simp only [natc] at *; omega)) (fun kx hk hk2 => ?_); simp (disch := omega) only [hF, natc, w64_in, shs] at hk; (try obtain rfl : kx = 0 := hk); cbv)
    | (refine Chk.mk (by simp (disch := omega) only [maxN, hF, natc, w64_in, shs]; first | done | assumption | omega | (simp only [natc] at *; omega)) ?_; cbv)
    | (intro (hmx : _ ≤ maxN); replace hmx : _ ≤ 17592186044416 := hmx; cbv)
    | (intro _; cbv)
  subst hQ
  exact leaf_n rfl ⟨rfl, rfl⟩

theorem nClear (f k : Nat) (rm : Nat → Int) : CallOK (O := Ob) PR n_lane_Lane_Clear [.ptr 0 0] [.obj (nO f k rm)] fun v m => v = .dv (.int .i64 (k : Int)) ∧ m = [.obj (nO f 0 rm)] := by
  refine fn_walkv mixed fn_lane_Lane_Clear Ent.opn1 fun bin cmp un conv bnot beq band sel isel ofN toN inb nz nneg lt le room' slb add sub sbin scmp slen sget ssub addk pc pb pi pf ps mkok min_ ig aeq P hP hA hF Q hQ => ?_
  cbv
  repeat' first
    | ((refine call_inl hP mixed hA code_lane_Lane_Len fn_lane_Lane_Len ?_); cbv)
    | (refine Chk.mk trivial ?_; cbv)
    | (refine bc_true (by first | assumption | (simp (disch := omega) only [hF, natc, w64_in, shs]; first | done | assumption | omega | (simp only [natc] at *; omega))) ?_; cbv)
    | (refine bc_false (by first | assumption | (simp (disch := omega) only [hF, natc, w64_in, shs]; first | done | assumption | omega | (simp only [natc] at *; omega))) ?_; cbv)
    | (refine bc_split (fun h => ?_) (fun h => ?_) <;> (try simp (disch := omega) only [hF, natc, w64_in, shs] at h) <;> cbv)
    | (refine IdxVC.mk (by simp (disch := omega) only [hF, natc, w64_in, shs]; first | done | omega | (simp only [natc] at *; omega)) (fun kx hk hk2 => ?_); simp (disch := omega) only [hF, natc, w64_in, shs] at hk; (try obtain rfl : kx = 0 := hk); cbv)
    | (refine Chk.mk (by simp (disch := omega) only [maxN, hF, natc, w64_in, shs]; first | done | assumption | omega | (simp only [natc] at *; omega)) ?_; cbv)
    | (intro (hmx : _ ≤ maxN); replace hmx : _ ≤ 17592186044416 := hmx; cbv)
    | (intro _; cbv)
  · have e : (Int.ofNat 0) = (0 : Int) := rfl
    subst hQ
    exact leaf_n (f := f) (h := 0) (rm := rm) rfl ⟨rfl, rfl⟩
  · obtain rfl : k = 0 := by simp only [natc] at *; omega
    subst hQ
    exact leaf_n (f := f) (h := 0) (rm := rm) rfl ⟨rfl, rfl⟩

theorem nPut (f h : Nat) (rm : Nat → Int) (x : Int) (hf : f < 16) (hh : h < 16) : CallOK (O := Ob) PR n_lane_Lane_Put [.ptr 0 0, .dv (.int .i64 x)] [.obj (nO f h rm)]
    fun v m => v = .dv (.int .i64 0) ∧ m = [.obj (nO f (h + 1) fun i => if i = (f + h) % 16 then x else rm i)] := by
  refine fn_walkv mixed fn_lane_Lane_Put Ent.opn1 fun bin cmp un conv bnot beq band sel isel ofN toN inb nz nneg lt le room' slb add sub sbin scmp slen sget ssub addk pc pb pi pf ps mkok min_ ig aeq P hP hA hF Q hQ => ?_
  have hat : bin .rem .i64 (bin .add .i64 (Int.ofNat f) (Int.ofNat h)) (ofN 16) = Int.ofNat ((f + h) % 16) := by
    simp only [hF]
    rw [w64_in (by simp only [Int.ofNat_eq_natCast]; omega)]
    rfl
  have hlt : (f + h) % 16 < 16 := Nat.mod_lt _ (by omega)
  generalize (f + h) % 16 = p at *
  have hs : bin .add .i64 (Int.ofNat h) 1 = Int.ofNat (h + 1) := by
    simp only [hF]
    rw [w64_in (by simp only [Int.ofNat_eq_natCast]; omega)]
    rfl
  cbv
  repeat' first
    | ((refine call_inl hP mixed hA code_lane_Lane_at fn_lane_Lane_at ?_); cbv)
    | ((refine And.intro ?_ ?_); cbv)
    | ((rw [hat]); cbv)
    | ((rw [hs]); cbv)
    | (refine Chk.mk trivial ?_; cbv)
    | (refine bc_true (by first | assumption | (simp (disch := omega) only [hF, natc, w64_in, shs]; first | done | assumption | omega | (simp only [natc] at *; omega))) ?_; cbv)
    | (refine bc_false (by first | assumption | (simp (disch := omega) only [hF, natc, w64_in, shs]; first | done | assumption | omega | (simp only [natc] at *; omega))) ?_; cbv)
    | (refine bc_split (fun h => ?_) (fun h => ?_) <;> (try simp (disch := omega) only [hF, natc, w64_in, shs] at h) <;> cbv)
    | (refine IdxVC.mk (by simp (disch := omega) only [hF, natc, w64_in, shs]; first | done | omega | (simp only [natc] at *; omega)) (fun kx hk hk2 => ?_); simp (disch := omega) only [hF, natc, w64_in, shs] at hk; (try obtain rfl : kx = 0 := hk); (try obtain rfl : p = kx := hk.symm); cbv)
    | (refine Chk.mk (by simp (disch := omega) only [maxN, hF, natc, w64_in, shs]; first | done | assumption | omega | (simp only [natc] at *; omega)) ?_; cbv)
    | (intro (hmx : _ ≤ maxN); replace hmx : _ ≤ 17592186044416 := hmx; cbv)
    | (intro _; cbv)
  subst hQ
  refine leaf_obj (lmem := nM f (h + 1) fun i => if i = p then x else rm i) [1] rfl rfl ⟨⟨rfl, rfl, rfl, trivial⟩, ⟨rfl, rfl, fun i f hi hf => ?_⟩, trivial⟩ rfl rfl ⟨rfl, rfl⟩
  obtain rfl : f = 0 := by omega
  rw [updRow_one (fun i => .int .i64 (rm i))]
  split
  · subst_vars; simp only [if_true]; rfl
  · rename_i h; simp only [if_neg h]; rfl

theorem nPut_no (f : Nat) (rm : Nat → Int) (x : Int) (hf : f < 16) : CallOK (O := Ob) PR n_lane_Lane_Put [.ptr 0 0, .dv (.int .i64 x)] [.obj (nO f 16 rm)]
    fun v m => v = .dv (.int .i64 5) ∧ m = [.obj (nO f 16 rm)] := by
  refine fn_walkv mixed fn_lane_Lane_Put Ent.opn1 fun bin cmp un conv bnot beq band sel isel ofN toN inb nz nneg lt le room' slb add sub sbin scmp slen sget ssub addk pc pb pi pf ps mkok min_ ig aeq P hP hA hF Q hQ => ?_
  cbv
  repeat' first
    | ((refine call_inl hP mixed hA code_lane_Lane_at fn_lane_Lane_at ?_); cbv)
    | ((refine And.intro ?_ ?_); cbv)
    | ((rw [hat]); cbv)
    | ((rw [hs]); cbv)
    | (refine Chk.mk trivial ?_; cbv)
    | (refine bc_true (by first | assumption | (simp (disch := omega) only [hF, natc, w64_in, shs]; first | done | assumption | omega | (simp only [natc] at *; omega))) ?_; cbv)
    | (refine bc_false (by first | assumption | (simp (disch := omega) only [hF, natc, w64_in, shs]; first | done | assumption | omega | (simp only [natc] at *; omega))) ?_; cbv)
    | (refine bc_split (fun h => ?_) (fun h => ?_) <;> (try simp (disch := omega) only [hF, natc, w64_in, shs] at h) <;> cbv)
    | (refine IdxVC.mk (by simp (disch := omega) only [hF, natc, w64_in, shs]; first | done | omega | (simp only [natc] at *; omega)) (fun kx hk hk2 => ?_); simp (disch := omega) only [hF, natc, w64_in, shs] at hk; (try obtain rfl : kx = 0 := hk); cbv)
    | (refine Chk.mk (by simp (disch := omega) only [maxN, hF, natc, w64_in, shs]; first | done | assumption | omega | (simp only [natc] at *; omega)) ?_; cbv)
    | (intro (hmx : _ ≤ maxN); replace hmx : _ ≤ 17592186044416 := hmx; cbv)
    | (intro _; cbv)
  subst hQ
  exact leaf_n rfl ⟨rfl, rfl⟩

theorem nTake (f h : Nat) (rm : Nat → Int) (hf : f < 16) (hh : 0 < h) (h16 : h ≤ 16) : CallOK (O := Ob) PR n_lane_Lane_Take [.ptr 0 0] [.obj (nO f h rm)]
    fun v m => v = .tup [.dv (.int .i64 (rm f)), .dv (.int .i64 0)] ∧ m = [.obj (nO ((f + 1) % 16) (h - 1) rm)] := by
  refine fn_walkv mixed fn_lane_Lane_Take Ent.opn1 fun bin cmp un conv bnot beq band sel isel ofN toN inb nz nneg lt le room' slb add sub sbin scmp slen sget ssub addk pc pb pi pf ps mkok min_ ig aeq P hP hA hF Q hQ => ?_
  have hat : bin .rem .i64 (bin .add .i64 (Int.ofNat f) 1) (ofN 16) = Int.ofNat ((f + 1) % 16) := by
    simp only [hF]
    rw [w64_in (by simp only [Int.ofNat_eq_natCast]; omega)]
    rfl
  have hs : bin .sub .i64 (Int.ofNat h) 1 = Int.ofNat (h - 1) := by
    simp only [hF]
    rw [w64_in (by simp only [Int.ofNat_eq_natCast]; omega)]
    simp only [Int.ofNat_eq_natCast]; omega
  cbv
  repeat' first
    | ((refine call_inl hP mixed hA code_lane_Lane_at fn_lane_Lane_at ?_); cbv)
    | ((refine And.intro ?_ ?_); cbv)
    | ((rw [hat]); cbv)
    | ((rw [hs]); cbv)
    | (refine Chk.mk trivial ?_; cbv)
    | (refine bc_true (by first | assumption | (simp (disch := omega) only [hF, natc, w64_in, shs]; first | done | assumption | omega | (simp only [natc] at *; omega))) ?_; cbv)
    | (refine bc_false (by first | assumption | (simp (disch := omega) only [hF, natc, w64_in, shs]; first | done | assumption | omega | (simp only [natc] at *; omega))) ?_; cbv)
    | (refine bc_split (fun h => ?_) (fun h => ?_) <;> (try simp (disch := omega) only [hF, natc, w64_in, shs] at h) <;> cbv)
    | (refine IdxVC.mk (by simp (disch := omega) only [hF, natc, w64_in, shs]; first | done | omega | (simp only [natc] at *; omega)) (fun kx hk hk2 => ?_); simp (disch := omega) only [hF, natc, w64_in, shs] at hk; (try obtain rfl : kx = 0 := hk); (try obtain rfl : f = kx := hk.symm); cbv)
    | (refine Chk.mk (by simp (disch := omega) only [maxN, hF, natc, w64_in, shs]; first | done | assumption | omega | (simp only [natc] at *; omega)) ?_; cbv)
    | (intro (hmx : _ ≤ maxN); replace hmx : _ ≤ 17592186044416 := hmx; cbv)
    | (intro _; cbv)
  subst hQ
  exact leaf_n (f := (f + 1) % 16) (h := h - 1) rfl ⟨rfl, rfl⟩

theorem nTake_no (f : Nat) (rm : Nat → Int) : CallOK (O := Ob) PR n_lane_Lane_Take [.ptr 0 0] [.obj (nO f 0 rm)]
    fun v m => v = .tup [.dv (.int .i64 0), .dv (.int .i64 6)] ∧ m = [.obj (nO f 0 rm)] := by
  refine fn_walkv mixed fn_lane_Lane_Take Ent.opn1 fun bin cmp un conv bnot beq band sel isel ofN toN inb nz nneg lt le room' slb add sub sbin scmp slen sget ssub addk pc pb pi pf ps mkok min_ ig aeq P hP hA hF Q hQ => ?_
  cbv
  repeat' first
    | (refine Chk.mk trivial ?_; cbv)
    | (refine bc_true (by first | assumption | (simp (disch := omega) only [hF, natc, w64_in, shs]; first | done | assumption | omega | (simp only [natc] at *; omega))) ?_; cbv)
    | (refine bc_false (by first | assumption | (simp (disch := omega) only [hF, natc, w64_in, shs]; first | done | assumption | omega | (simp only [natc] at *; omega))) ?_; cbv)
    | (refine bc_split (fun h => ?_) (fun h => ?_) <;> (try simp (disch := omega) only [hF, natc, w64_in, shs] at h) <;> cbv)
    | (refine IdxVC.mk (by simp (disch := omega) only [hF, natc, w64_in, shs]; first | done | omega | (simp only [natc] at *; omega)) (fun kx hk hk2 => ?_); simp (disch := omega) only [hF, natc, w64_in, shs] at hk; (try obtain rfl : kx = 0 := hk); cbv)
    | (refine Chk.mk (by simp (disch := omega) only [maxN, hF, natc, w64_in, shs]; first | done | assumption | omega | (simp only [natc] at *; omega)) ?_; cbv)
    | (intro (hmx : _ ≤ maxN); replace hmx : _ ≤ 17592186044416 := hmx; cbv)
    | (intro _; cbv)
  subst hQ
  exact leaf_n rfl ⟨rfl, rfl⟩

theorem nNew : CallOK (O := Ob) PR n_lane_New [.dv (.int .i64 16)] [] fun v m => v = .ptr 0 0 ∧ m = [.obj (nO 0 0 fun _ => 0)] := by
  refine fn_walkv mixed fn_lane_New (Ent.refl _ _) fun bin cmp un conv bnot beq band sel isel ofN toN inb nz nneg lt le room' slb add sub sbin scmp slen sget ssub addk pc pb pi pf ps mkok min_ ig aeq P hP hA hF Q hQ => ?_
  have hmk : mkok 16 16 8 := by
    have e : mkok = std.mkok := congrArg Ar.mkok hA
    rw [e]
    show _ ∧ _ ∧ _ ≤ ((17592186044416 : Nat) : Int) ∧ _
    refine ⟨rfl, ?_, ?_, ?_⟩ <;> omega
  cbv
  repeat' first
    | ((refine Chk.mk hmk ?_); cbv)
    | (refine Chk.mk trivial ?_; cbv)
    | (refine bc_true (by first | assumption | (simp (disch := omega) only [hF, natc, w64_in, shs]; first | done | assumption | omega | (simp only [natc] at *; omega))) ?_; cbv)
    | (refine bc_false (by first | assumption | (simp (disch := omega) only [hF, natc, w64_in, shs]; first | done | assumption | omega | (simp only [natc] at *; omega))) ?_; cbv)
    | (refine bc_split (fun h => ?_) (fun h => ?_) <;> (try simp (disch := omega) only [hF, natc, w64_in, shs] at h) <;> cbv)
    | (refine IdxVC.mk (by simp (disch := omega) only [hF, natc, w64_in, shs]; first | done | omega | (simp only [natc] at *; omega)) (fun kx hk hk2 => ?_); simp (disch := omega) only [hF, natc, w64_in, shs] at hk; (try obtain rfl : kx = 0 := hk); cbv)
    | (refine Chk.mk (by simp (disch := omega) only [maxN, hF, natc, w64_in, shs]; first | done | assumption | omega | (simp only [natc] at *; omega)) ?_; cbv)
    | (intro (hmx : _ ≤ maxN); replace hmx : _ ≤ 17592186044416 := hmx; cbv)
    | (intro _; cbv)
  subst hQ
  refine ⟨.ptr 0 0, [.obj (nO 0 0 fun _ => 0)], ?_, rfl, rfl⟩
  refine (Ent.ren (s' := ⟨[.ptr 0 0], nM 0 0 fun _ => 0⟩) [1, 0] rfl rfl ?_ ?_).trans (Ent.cls1 (env' := [.ptr 0 0]) [1] (nM 0 0 fun _ => 0) rfl rfl ⟨⟨rfl, rfl, rfl, trivial⟩, ⟨rfl, rfl, fun _ _ _ _ => rfl⟩, trivial⟩ ⟨rfl, trivial⟩)
  · refine ⟨⟨rfl, rfl, rfl, trivial⟩, ⟨by simp only [hF]; rfl, rfl, fun i f hi hf => ?_⟩, trivial⟩
    obtain rfl : f = 0 := by omega
    rfl
  · exact ⟨rfl, trivial⟩

end Go.Proofs.YtiaceoomiflgcaaGreat

end

section
namespace Go.Proofs.YtiaceoomiflgcaaGreat
open Go.V
set_option linter.unusedVariables false
set_option linter.unusedSimpArgs false
set_option maxRecDepth 100000
set_option maxHeartbeats 8000000

theorem ok_below (x y : Int) : CallOK (O := Ob) PR n_site_below [.dv (.int .i64 x), .dv (.int .i64 y)] [] fun v m => v = .dv (.bool (decide (0 ≤ x ∧ x < y))) ∧ m = [] := by
  by_cases h : 0 ≤ x ∧ x < y
  · rw [decide_eq_true h]
    obtain ⟨h0, h1⟩ := h
    refine fn_walkv mixed fn_site_below (Ent.refl _ _) fun bin cmp un conv bnot beq band sel isel ofN toN inb nz nneg lt le room' slb add sub sbin scmp slen sget ssub addk pc pb pi pf ps mkok min_ ig aeq P hP hA hF Q hQ => ?_
    have hc : cmp .lss x y = true := by simp only [hF, decide_eq_true_eq]; exact h1
    cbv
    repeat' first
      | ((rw [hc]); cbv)
      | (refine Chk.mk trivial ?_; cbv)
      | (refine bc_true (by first | assumption | (simp (disch := omega) only [hF, natc, w64_in, shs]; first | done | assumption | omega | (simp only [natc] at *; omega))) ?_; cbv)
      | (refine bc_false (by first | assumption | (simp (disch := omega) only [hF, natc, w64_in, shs]; first | done | assumption | omega | (simp only [natc] at *; omega))) ?_; cbv)
      | (refine bc_split (fun h => ?_) (fun h => ?_) <;> (try simp (disch := omega) only [hF, natc, w64_in, shs] at h) <;> cbv)
    subst hQ; exact leaf_data rfl rfl ⟨rfl, rfl⟩
  · rw [decide_eq_false h]
    by_cases h0 : 0 ≤ x
    · refine fn_walkv mixed fn_site_below (Ent.refl _ _) fun bin cmp un conv bnot beq band sel isel ofN toN inb nz nneg lt le room' slb add sub sbin scmp slen sget ssub addk pc pb pi pf ps mkok min_ ig aeq P hP hA hF Q hQ => ?_
      have hc : cmp .lss x y = false := by simp only [hF, decide_eq_false_iff_not]; omega
      cbv
      repeat' first
        | ((rw [hc]); cbv)
        | (refine Chk.mk trivial ?_; cbv)
        | (refine bc_true (by first | assumption | (simp (disch := omega) only [hF, natc, w64_in, shs]; first | done | assumption | omega | (simp only [natc] at *; omega))) ?_; cbv)
        | (refine bc_false (by first | assumption | (simp (disch := omega) only [hF, natc, w64_in, shs]; first | done | assumption | omega | (simp only [natc] at *; omega))) ?_; cbv)
        | (refine bc_split (fun h => ?_) (fun h => ?_) <;> (try simp (disch := omega) only [hF, natc, w64_in, shs] at h) <;> cbv)
      subst hQ; exact leaf_data rfl rfl ⟨rfl, rfl⟩
    · refine fn_walkv mixed fn_site_below (Ent.refl _ _) fun bin cmp un conv bnot beq band sel isel ofN toN inb nz nneg lt le room' slb add sub sbin scmp slen sget ssub addk pc pb pi pf ps mkok min_ ig aeq P hP hA hF Q hQ => ?_
      cbv
      repeat' first
        | (refine Chk.mk trivial ?_; cbv)
        | (refine bc_true (by first | assumption | (simp (disch := omega) only [hF, natc, w64_in, shs]; first | done | assumption | omega | (simp only [natc] at *; omega))) ?_; cbv)
        | (refine bc_false (by first | assumption | (simp (disch := omega) only [hF, natc, w64_in, shs]; first | done | assumption | omega | (simp only [natc] at *; omega))) ?_; cbv)
        | (refine bc_split (fun h => ?_) (fun h => ?_) <;> (try simp (disch := omega) only [hF, natc, w64_in, shs] at h) <;> cbv)
      subst hQ; exact leaf_data rfl rfl ⟨rfl, rfl⟩

/-- A plan that may be. -/
theorem ok_Right (c n k : Int) : CallOK (O := Ob) PR n_site_Right [.agg [.dv (.int .i64 c), .dv (.int .i64 n), .dv (.int .i64 k)]] []
    fun v m => v = .dv (.bool (decide ((0 ≤ IntKind.i64.wrap (c - 1) ∧ IntKind.i64.wrap (c - 1) < 8) ∧ (0 ≤ IntKind.i64.wrap (n - 1) ∧ IntKind.i64.wrap (n - 1) < 65536) ∧ 0 ≤ IntKind.i64.wrap (k - 1) ∧ IntKind.i64.wrap (k - 1) < 16))) ∧ m = [] := by
  have h1 := ok_below (IntKind.i64.wrap (c - 1)) 8
  have h2 := ok_below (IntKind.i64.wrap (n - 1)) 65536
  have h3 := ok_below (IntKind.i64.wrap (k - 1)) 16
  obtain ⟨x1, e1⟩ : ∃ x, x = IntKind.i64.wrap (c - 1) := ⟨_, rfl⟩
  obtain ⟨x2, e2⟩ : ∃ x, x = IntKind.i64.wrap (n - 1) := ⟨_, rfl⟩
  obtain ⟨x3, e3⟩ : ∃ x, x = IntKind.i64.wrap (k - 1) := ⟨_, rfl⟩
  rw [← e1] at h1 ⊢; rw [← e2] at h2 ⊢; rw [← e3] at h3 ⊢
  obtain ⟨b1, d1⟩ : ∃ b, b = decide (0 ≤ x1 ∧ x1 < 8) := ⟨_, rfl⟩
  obtain ⟨b2, d2⟩ : ∃ b, b = decide (0 ≤ x2 ∧ x2 < 65536) := ⟨_, rfl⟩
  obtain ⟨b3, d3⟩ : ∃ b, b = decide (0 ≤ x3 ∧ x3 < 16) := ⟨_, rfl⟩
  rw [← d1] at h1; rw [← d2] at h2; rw [← d3] at h3
  have e : decide ((0 ≤ x1 ∧ x1 < 8) ∧ (0 ≤ x2 ∧ x2 < 65536) ∧ 0 ≤ x3 ∧ x3 < 16) = (b1 && (b2 && b3)) := by rw [d1, d2, d3, ← Bool.decide_and, ← Bool.decide_and]
  rw [e]
  clear e d1 d2 d3
  cases b1 <;> cases b2 <;> cases b3
  all_goals
    refine fn_walkv mixed fn_site_Right (Ent.refl _ _) fun bin cmp un conv bnot beq band sel isel ofN toN inb nz nneg lt le room' slb add sub sbin scmp slen sget ssub addk pc pb pi pf ps mkok min_ ig aeq P hP hA hF Q hQ => ?_
    have s1 : bin .sub .i64 c 1 = x1 := by rw [e1]; simp only [hF]
    have s2 : bin .sub .i64 n 1 = x2 := by rw [e2]; simp only [hF]
    have s3 : bin .sub .i64 k 1 = x3 := by rw [e3]; simp only [hF]
    clear e1 e2 e3
    cbv
    repeat' first
      | ((rw [s1]); cbv)
      | ((rw [s2]); cbv)
      | ((rw [s3]); cbv)
      | (refine call_pure hP code_site_below (h1) ?_ ?_; (focus (cbv; (try simp); done)); rintro _ rfl; cbv)
      | (refine call_pure hP code_site_below (h2) ?_ ?_; (focus (cbv; (try simp); done)); rintro _ rfl; cbv)
      | (refine call_pure hP code_site_below (h3) ?_ ?_; (focus (cbv; (try simp); done)); rintro _ rfl; cbv)
      | (refine Chk.mk trivial ?_; cbv)
      | (refine bc_true (by first | assumption | (simp (disch := omega) only [hF, natc, w64_in, shs]; first | done | assumption | omega | (simp only [natc] at *; omega))) ?_; cbv)
      | (refine bc_false (by first | assumption | (simp (disch := omega) only [hF, natc, w64_in, shs]; first | done | assumption | omega | (simp only [natc] at *; omega))) ?_; cbv)
      | (refine bc_split (fun h => ?_) (fun h => ?_) <;> (try simp (disch := omega) only [hF, natc, w64_in, shs] at h) <;> cbv)
    subst hQ; exact leaf_data rfl rfl ⟨rfl, rfl⟩

theorem right_in (c n k : Int) (hc : 1 ≤ c ∧ c ≤ 8) (hn : 1 ≤ n ∧ n ≤ 65536) (hk : 1 ≤ k ∧ k ≤ 16) : CallOK (O := Ob) PR n_site_Right [.agg [.dv (.int .i64 c), .dv (.int .i64 n), .dv (.int .i64 k)]] [] fun v m => v = .dv (.bool true) ∧ m = [] := by
  have h := ok_Right c n k
  rw [w64_in (n := c - 1) (by omega), w64_in (n := n - 1) (by omega), w64_in (n := k - 1) (by omega), decide_eq_true (by omega)] at h
  exact h

theorem enc1 (c n k z : Int) (hc : 1 ≤ c ∧ c ≤ 8) (hn : 1 ≤ n ∧ n ≤ 65536) (hk : 1 ≤ k ∧ k ≤ 16) :
    CallOK (O := Ob) PR n_site_Encode [.agg [.dv (.int .i64 c), .dv (.int .i64 n), .dv (.int .i64 k)], .agg [.dv (.int .i64 1), .dv (.int .i64 0), .dv (.int .i64 z)]] []
      fun v m => (∃ w, v = .tup [.dv (.int .i64 w), .dv (.bool (decide (0 ≤ z ∧ z < n)))]) ∧ m = [] := by
  have hr := right_in c n k hc hn hk
  have hb := ok_below z n
  clear hc hn hk
  generalize decide (0 ≤ z ∧ z < n) = b at hb ⊢
  cases b
  all_goals
    refine fn_walkv mixed fn_site_Encode (Ent.refl _ _) fun bin cmp un conv bnot beq band sel isel ofN toN inb nz nneg lt le room' slb add sub sbin scmp slen sget ssub addk pc pb pi pf ps mkok min_ ig aeq P hP hA hF Q hQ => ?_
    cbv
    repeat' first
      | (refine call_pure hP code_site_below (hb) ?_ ?_; (focus (cbv; (try simp); done)); rintro _ rfl; cbv)
      | (refine call_pure hP code_site_Right (hr) ?_ ?_; (focus (cbv; (try simp); done)); rintro _ rfl; cbv)
      | ((refine And.intro ?_ ?_); cbv)
      | (refine Chk.mk trivial ?_; cbv)
      | (refine bc_true (by first | assumption | (simp (disch := omega) only [hF, natc, w64_in, shs]; first | done | assumption | omega | (simp only [natc] at *; omega))) ?_; cbv)
      | (refine bc_false (by first | assumption | (simp (disch := omega) only [hF, natc, w64_in, shs]; first | done | assumption | omega | (simp only [natc] at *; omega))) ?_; cbv)
      | (refine bc_split (fun h => ?_) (fun h => ?_) <;> (try simp (disch := omega) only [hF, natc, w64_in, shs] at h) <;> cbv)
    subst hQ; exact leaf_data rfl rfl ⟨⟨_, rfl⟩, rfl⟩

theorem enc2 (c n k y z : Int) (hc : 1 ≤ c ∧ c ≤ 8) (hn : 1 ≤ n ∧ n ≤ 65536) (hk : 1 ≤ k ∧ k ≤ 16) :
    CallOK (O := Ob) PR n_site_Encode [.agg [.dv (.int .i64 c), .dv (.int .i64 n), .dv (.int .i64 k)], .agg [.dv (.int .i64 2), .dv (.int .i64 y), .dv (.int .i64 z)]] []
      fun v m => (∃ w, v = .tup [.dv (.int .i64 w), .dv (.bool (decide (0 ≤ y ∧ y < c) && decide (0 ≤ z ∧ z < 3)))]) ∧ m = [] := by
  have hr := right_in c n k hc hn hk
  have hb := ok_below y c
  have hb2 := ok_below z 3
  clear hc hn hk
  generalize decide (0 ≤ y ∧ y < c) = b at hb ⊢
  generalize decide (0 ≤ z ∧ z < 3) = b2 at hb2 ⊢
  cases b <;> cases b2
  all_goals
    refine fn_walkv mixed fn_site_Encode (Ent.refl _ _) fun bin cmp un conv bnot beq band sel isel ofN toN inb nz nneg lt le room' slb add sub sbin scmp slen sget ssub addk pc pb pi pf ps mkok min_ ig aeq P hP hA hF Q hQ => ?_
    cbv
    repeat' first
      | (refine call_pure hP code_site_below (hb) ?_ ?_; (focus (cbv; (try simp); done)); rintro _ rfl; cbv)
      | (refine call_pure hP code_site_below (hb2) ?_ ?_; (focus (cbv; (try simp); done)); rintro _ rfl; cbv)
      | (refine call_pure hP code_site_Right (hr) ?_ ?_; (focus (cbv; (try simp); done)); rintro _ rfl; cbv)
      | ((refine And.intro ?_ ?_); cbv)
      | (refine Chk.mk trivial ?_; cbv)
      | (refine bc_true (by first | assumption | (simp (disch := omega) only [hF, natc, w64_in, shs]; first | done | assumption | omega | (simp only [natc] at *; omega))) ?_; cbv)
      | (refine bc_false (by first | assumption | (simp (disch := omega) only [hF, natc, w64_in, shs]; first | done | assumption | omega | (simp only [natc] at *; omega))) ?_; cbv)
      | (refine bc_split (fun h => ?_) (fun h => ?_) <;> (try simp (disch := omega) only [hF, natc, w64_in, shs] at h) <;> cbv)
    all_goals (subst hQ; exact leaf_data rfl rfl ⟨⟨_, rfl⟩, rfl⟩)

theorem enc3 (c n k y : Int) (hc : 1 ≤ c ∧ c ≤ 8) (hn : 1 ≤ n ∧ n ≤ 65536) (hk : 1 ≤ k ∧ k ≤ 16) :
    CallOK (O := Ob) PR n_site_Encode [.agg [.dv (.int .i64 c), .dv (.int .i64 n), .dv (.int .i64 k)], .agg [.dv (.int .i64 3), .dv (.int .i64 y), .dv (.int .i64 0)]] []
      fun v m => (∃ w, v = .tup [.dv (.int .i64 w), .dv (.bool (decide (0 ≤ y ∧ y < k)))]) ∧ m = [] := by
  have hr := right_in c n k hc hn hk
  have hb := ok_below y k
  clear hc hn hk
  generalize decide (0 ≤ y ∧ y < k) = b at hb ⊢
  cases b
  all_goals
    refine fn_walkv mixed fn_site_Encode (Ent.refl _ _) fun bin cmp un conv bnot beq band sel isel ofN toN inb nz nneg lt le room' slb add sub sbin scmp slen sget ssub addk pc pb pi pf ps mkok min_ ig aeq P hP hA hF Q hQ => ?_
    cbv
    repeat' first
      | (refine call_pure hP code_site_below (hb) ?_ ?_; (focus (cbv; (try simp); done)); rintro _ rfl; cbv)
      | (refine call_pure hP code_site_Right (hr) ?_ ?_; (focus (cbv; (try simp); done)); rintro _ rfl; cbv)
      | ((refine And.intro ?_ ?_); cbv)
      | (refine Chk.mk trivial ?_; cbv)
      | (refine bc_true (by first | assumption | (simp (disch := omega) only [hF, natc, w64_in, shs]; first | done | assumption | omega | (simp only [natc] at *; omega))) ?_; cbv)
      | (refine bc_false (by first | assumption | (simp (disch := omega) only [hF, natc, w64_in, shs]; first | done | assumption | omega | (simp only [natc] at *; omega))) ?_; cbv)
      | (refine bc_split (fun h => ?_) (fun h => ?_) <;> (try simp (disch := omega) only [hF, natc, w64_in, shs] at h) <;> cbv)
    all_goals (subst hQ; exact leaf_data rfl rfl ⟨⟨_, rfl⟩, rfl⟩)

theorem enc4 (c n k y : Int) (hc : 1 ≤ c ∧ c ≤ 8) (hn : 1 ≤ n ∧ n ≤ 65536) (hk : 1 ≤ k ∧ k ≤ 16) :
    CallOK (O := Ob) PR n_site_Encode [.agg [.dv (.int .i64 c), .dv (.int .i64 n), .dv (.int .i64 k)], .agg [.dv (.int .i64 4), .dv (.int .i64 y), .dv (.int .i64 0)]] []
      fun v m => (∃ w, v = .tup [.dv (.int .i64 w), .dv (.bool (decide (0 ≤ y ∧ y < c)))]) ∧ m = [] := by
  have hr := right_in c n k hc hn hk
  have hb := ok_below y c
  clear hc hn hk
  generalize decide (0 ≤ y ∧ y < c) = b at hb ⊢
  cases b
  all_goals
    refine fn_walkv mixed fn_site_Encode (Ent.refl _ _) fun bin cmp un conv bnot beq band sel isel ofN toN inb nz nneg lt le room' slb add sub sbin scmp slen sget ssub addk pc pb pi pf ps mkok min_ ig aeq P hP hA hF Q hQ => ?_
    cbv
    repeat' first
      | (refine call_pure hP code_site_below (hb) ?_ ?_; (focus (cbv; (try simp); done)); rintro _ rfl; cbv)
      | (refine call_pure hP code_site_Right (hr) ?_ ?_; (focus (cbv; (try simp); done)); rintro _ rfl; cbv)
      | ((refine And.intro ?_ ?_); cbv)
      | (refine Chk.mk trivial ?_; cbv)
      | (refine bc_true (by first | assumption | (simp (disch := omega) only [hF, natc, w64_in, shs]; first | done | assumption | omega | (simp only [natc] at *; omega))) ?_; cbv)
      | (refine bc_false (by first | assumption | (simp (disch := omega) only [hF, natc, w64_in, shs]; first | done | assumption | omega | (simp only [natc] at *; omega))) ?_; cbv)
      | (refine bc_split (fun h => ?_) (fun h => ?_) <;> (try simp (disch := omega) only [hF, natc, w64_in, shs] at h) <;> cbv)
    all_goals (subst hQ; exact leaf_data rfl rfl ⟨⟨_, rfl⟩, rfl⟩)

end Go.Proofs.YtiaceoomiflgcaaGreat

end

section
namespace Go.Proofs.YtiaceoomiflgcaaGreat
open Go.V
set_option linter.unusedVariables false
set_option linter.unusedSimpArgs false
set_option maxRecDepth 100000
set_option maxHeartbeats 8000000

/-- What was decoded. -/
def spotV (b : Bool) (x y z : Int) : SV := .tup [.agg [.dv (.int .i64 (if b = true then x else 0)), .dv (.int .i64 (if b = true then y else 0)), .dv (.int .i64 (if b = true then z else 0))], .dv (.bool b)]

theorem decode_w (c n k a x y z : Int) (b : Bool) (hg : CallOK (O := Ob) PR n_site_guess [.dv (.int .i64 a)] [] fun v m => v = .agg [.dv (.int .i64 x), .dv (.int .i64 y), .dv (.int .i64 z)] ∧ m = [])
    (he : CallOK (O := Ob) PR n_site_Encode [.agg [.dv (.int .i64 c), .dv (.int .i64 n), .dv (.int .i64 k)], .agg [.dv (.int .i64 x), .dv (.int .i64 y), .dv (.int .i64 z)]] [] fun v m => (∃ w, v = .tup [.dv (.int .i64 w), .dv (.bool b)]) ∧ m = []) :
    CallOK (O := Ob) PR n_site_Decode [.agg [.dv (.int .i64 c), .dv (.int .i64 n), .dv (.int .i64 k)], .dv (.int .i64 a)] [] fun v m => v = spotV b x y z ∧ m = [] := by
  cases b
  · show CallOK (O := Ob) PR n_site_Decode [.agg [.dv (.int .i64 c), .dv (.int .i64 n), .dv (.int .i64 k)], .dv (.int .i64 a)] [] fun v m => v = .tup [.agg [.dv (.int .i64 0), .dv (.int .i64 0), .dv (.int .i64 0)], .dv (.bool false)] ∧ m = []
    refine fn_walkv mixed fn_site_Decode (Ent.refl _ _) fun bin cmp un conv bnot beq band sel isel ofN toN inb nz nneg lt le room' slb add sub sbin scmp slen sget ssub addk pc pb pi pf ps mkok min_ ig aeq P hP hA hF Q hQ => ?_
    cbv
    repeat' first
      | (refine call_pure hP code_site_guess (hg) ?_ ?_; (focus (cbv; (try simp); done)); rintro _ rfl; cbv)
      | (refine call_pure hP code_site_Encode (he) ?_ ?_; (focus (cbv; (try simp); done)); rintro _ ⟨w, rfl⟩; cbv)
      | (refine Chk.mk trivial ?_; cbv)
      | (refine bc_true (by first | assumption | (simp (disch := omega) only [hF, natc, w64_in, shs]; first | done | assumption | omega | (simp only [natc] at *; omega))) ?_; cbv)
      | (refine bc_false (by first | assumption | (simp (disch := omega) only [hF, natc, w64_in, shs]; first | done | assumption | omega | (simp only [natc] at *; omega))) ?_; cbv)
      | (refine bc_split (fun h => ?_) (fun h => ?_) <;> (try simp (disch := omega) only [hF, natc, w64_in, shs] at h) <;> cbv)
      | (refine IdxVC.mk (by simp (disch := omega) only [hF, natc, w64_in, shs]; first | done | omega | (simp only [natc] at *; omega)) (fun kx hk hk2 => ?_); simp (disch := omega) only [hF, natc, w64_in, shs] at hk; (try obtain rfl : kx = 0 := hk); cbv)
      | (refine Chk.mk (by simp (disch := omega) only [maxN, hF, natc, w64_in, shs]; first | done | assumption | omega | (simp only [natc] at *; omega)) ?_; cbv)
      | (intro (hmx : _ ≤ maxN); replace hmx : _ ≤ 17592186044416 := hmx; cbv)
      | (intro _; cbv)
    subst hQ; exact leaf_data rfl rfl ⟨rfl, rfl⟩
  · show CallOK (O := Ob) PR n_site_Decode [.agg [.dv (.int .i64 c), .dv (.int .i64 n), .dv (.int .i64 k)], .dv (.int .i64 a)] [] fun v m => v = .tup [.agg [.dv (.int .i64 x), .dv (.int .i64 y), .dv (.int .i64 z)], .dv (.bool true)] ∧ m = []
    refine fn_walkv mixed fn_site_Decode (Ent.refl _ _) fun bin cmp un conv bnot beq band sel isel ofN toN inb nz nneg lt le room' slb add sub sbin scmp slen sget ssub addk pc pb pi pf ps mkok min_ ig aeq P hP hA hF Q hQ => ?_
    cbv
    repeat' first
      | (refine call_pure hP code_site_guess (hg) ?_ ?_; (focus (cbv; (try simp); done)); rintro _ rfl; cbv)
      | (refine call_pure hP code_site_Encode (he) ?_ ?_; (focus (cbv; (try simp); done)); rintro _ ⟨w, rfl⟩; cbv)
      | (refine Chk.mk trivial ?_; cbv)
      | (refine bc_true (by first | assumption | (simp (disch := omega) only [hF, natc, w64_in, shs]; first | done | assumption | omega | (simp only [natc] at *; omega))) ?_; cbv)
      | (refine bc_false (by first | assumption | (simp (disch := omega) only [hF, natc, w64_in, shs]; first | done | assumption | omega | (simp only [natc] at *; omega))) ?_; cbv)
      | (refine bc_split (fun h => ?_) (fun h => ?_) <;> (try simp (disch := omega) only [hF, natc, w64_in, shs] at h) <;> cbv)
      | (refine IdxVC.mk (by simp (disch := omega) only [hF, natc, w64_in, shs]; first | done | omega | (simp only [natc] at *; omega)) (fun kx hk hk2 => ?_); simp (disch := omega) only [hF, natc, w64_in, shs] at hk; (try obtain rfl : kx = 0 := hk); cbv)
      | (refine Chk.mk (by simp (disch := omega) only [maxN, hF, natc, w64_in, shs]; first | done | assumption | omega | (simp only [natc] at *; omega)) ?_; cbv)
      | (intro (hmx : _ ≤ maxN); replace hmx : _ ≤ 17592186044416 := hmx; cbv)
      | (intro _; cbv)
    subst hQ; exact leaf_data rfl rfl ⟨rfl, rfl⟩

theorem guess1 (a : Int) (h : a < 65536) : CallOK (O := Ob) PR n_site_guess [.dv (.int .i64 a)] [] fun v m => v = .agg [.dv (.int .i64 1), .dv (.int .i64 0), .dv (.int .i64 a)] ∧ m = [] := by
  refine fn_walkv mixed fn_site_guess (Ent.refl _ _) fun bin cmp un conv bnot beq band sel isel ofN toN inb nz nneg lt le room' slb add sub sbin scmp slen sget ssub addk pc pb pi pf ps mkok min_ ig aeq P hP hA hF Q hQ => ?_
  cbv
  repeat' first
    | (refine Chk.mk trivial ?_; cbv)
    | (refine bc_true (by first | assumption | (simp (disch := omega) only [hF, natc, w64_in, shs]; first | done | assumption | omega | (simp only [natc] at *; omega))) ?_; cbv)
    | (refine bc_false (by first | assumption | (simp (disch := omega) only [hF, natc, w64_in, shs]; first | done | assumption | omega | (simp only [natc] at *; omega))) ?_; cbv)
    | (refine bc_split (fun h => ?_) (fun h => ?_) <;> (try simp (disch := omega) only [hF, natc, w64_in, shs] at h) <;> cbv)
    | (refine IdxVC.mk (by simp (disch := omega) only [hF, natc, w64_in, shs]; first | done | omega | (simp only [natc] at *; omega)) (fun kx hk hk2 => ?_); simp (disch := omega) only [hF, natc, w64_in, shs] at hk; (try obtain rfl : kx = 0 := hk); cbv)
    | (refine Chk.mk (by simp (disch := omega) only [maxN, hF, natc, w64_in, shs]; first | done | assumption | omega | (simp only [natc] at *; omega)) ?_; cbv)
    | (intro (hmx : _ ≤ maxN); replace hmx : _ ≤ 17592186044416 := hmx; cbv)
    | (intro _; cbv)
  subst hQ; exact leaf_data rfl rfl ⟨rfl, rfl⟩

theorem guess2 (a y z : Int) (h : 65536 ≤ a ∧ a < 65792) (hy : y = (a - 65536) / 16) (hz : z = a % 16) : CallOK (O := Ob) PR n_site_guess [.dv (.int .i64 a)] [] fun v m => v = .agg [.dv (.int .i64 2), .dv (.int .i64 y), .dv (.int .i64 z)] ∧ m = [] := by
  obtain ⟨h0, h1⟩ := h
  refine fn_walkv mixed fn_site_guess (Ent.refl _ _) fun bin cmp un conv bnot beq band sel isel ofN toN inb nz nneg lt le room' slb add sub sbin scmp slen sget ssub addk pc pb pi pf ps mkok min_ ig aeq P hP hA hF Q hQ => ?_
  have e1 : bin .quo .i64 (bin .sub .i64 a 65536) 16 = y := by
    simp only [hF]
    rw [w64_in (n := a - 65536) (by omega), Int.tdiv_eq_ediv_of_nonneg (by omega), w64_in (by omega), hy]
  have e2 : bin .rem .i64 a 16 = z := by
    simp only [hF]
    rw [Int.tmod_eq_emod_of_nonneg (by omega), hz]
  clear hy hz
  cbv
  repeat' first
    | ((rw [e1]); cbv)
    | ((rw [e2]); cbv)
    | (refine Chk.mk trivial ?_; cbv)
    | (refine bc_true (by first | assumption | (simp (disch := omega) only [hF, natc, w64_in, shs]; first | done | assumption | omega | (simp only [natc] at *; omega))) ?_; cbv)
    | (refine bc_false (by first | assumption | (simp (disch := omega) only [hF, natc, w64_in, shs]; first | done | assumption | omega | (simp only [natc] at *; omega))) ?_; cbv)
    | (refine bc_split (fun h => ?_) (fun h => ?_) <;> (try simp (disch := omega) only [hF, natc, w64_in, shs] at h) <;> cbv)
    | (refine IdxVC.mk (by simp (disch := omega) only [hF, natc, w64_in, shs]; first | done | omega | (simp only [natc] at *; omega)) (fun kx hk hk2 => ?_); simp (disch := omega) only [hF, natc, w64_in, shs] at hk; (try obtain rfl : kx = 0 := hk); cbv)
    | (refine Chk.mk (by simp (disch := omega) only [maxN, hF, natc, w64_in, shs]; first | done | assumption | omega | (simp only [natc] at *; omega)) ?_; cbv)
    | (intro (hmx : _ ≤ maxN); replace hmx : _ ≤ 17592186044416 := hmx; cbv)
    | (intro _; cbv)
  subst hQ; exact leaf_data rfl rfl ⟨by rw [← e1, ← e2]; rfl, rfl⟩

theorem guess3 (a y : Int) (h : 65792 ≤ a ∧ a < 66048) (hy : y = a - 65792) : CallOK (O := Ob) PR n_site_guess [.dv (.int .i64 a)] [] fun v m => v = .agg [.dv (.int .i64 3), .dv (.int .i64 y), .dv (.int .i64 0)] ∧ m = [] := by
  obtain ⟨h0, h1⟩ := h
  refine fn_walkv mixed fn_site_guess (Ent.refl _ _) fun bin cmp un conv bnot beq band sel isel ofN toN inb nz nneg lt le room' slb add sub sbin scmp slen sget ssub addk pc pb pi pf ps mkok min_ ig aeq P hP hA hF Q hQ => ?_
  have e1 : bin .sub .i64 a 65792 = y := by
    simp only [hF]
    rw [w64_in (n := a - 65792) (by omega), hy]
  clear hy
  cbv
  repeat' first
    | ((rw [e1]); cbv)
    | (refine Chk.mk trivial ?_; cbv)
    | (refine bc_true (by first | assumption | (simp (disch := omega) only [hF, natc, w64_in, shs]; first | done | assumption | omega | (simp only [natc] at *; omega))) ?_; cbv)
    | (refine bc_false (by first | assumption | (simp (disch := omega) only [hF, natc, w64_in, shs]; first | done | assumption | omega | (simp only [natc] at *; omega))) ?_; cbv)
    | (refine bc_split (fun h => ?_) (fun h => ?_) <;> (try simp (disch := omega) only [hF, natc, w64_in, shs] at h) <;> cbv)
    | (refine IdxVC.mk (by simp (disch := omega) only [hF, natc, w64_in, shs]; first | done | omega | (simp only [natc] at *; omega)) (fun kx hk hk2 => ?_); simp (disch := omega) only [hF, natc, w64_in, shs] at hk; (try obtain rfl : kx = 0 := hk); cbv)
    | (refine Chk.mk (by simp (disch := omega) only [maxN, hF, natc, w64_in, shs]; first | done | assumption | omega | (simp only [natc] at *; omega)) ?_; cbv)
    | (intro (hmx : _ ≤ maxN); replace hmx : _ ≤ 17592186044416 := hmx; cbv)
    | (intro _; cbv)
  subst hQ; exact leaf_data rfl rfl ⟨by rw [← e1]; rfl, rfl⟩

theorem guess4 (a y : Int) (h : 66048 ≤ a ∧ a ≤ 9223372036854775807) (hy : y = a - 66048) : CallOK (O := Ob) PR n_site_guess [.dv (.int .i64 a)] [] fun v m => v = .agg [.dv (.int .i64 4), .dv (.int .i64 y), .dv (.int .i64 0)] ∧ m = [] := by
  obtain ⟨h0, h1⟩ := h
  refine fn_walkv mixed fn_site_guess (Ent.refl _ _) fun bin cmp un conv bnot beq band sel isel ofN toN inb nz nneg lt le room' slb add sub sbin scmp slen sget ssub addk pc pb pi pf ps mkok min_ ig aeq P hP hA hF Q hQ => ?_
  have e1 : bin .sub .i64 a 66048 = y := by
    simp only [hF]
    rw [w64_in (n := a - 66048) (by omega), hy]
  clear hy
  cbv
  repeat' first
    | ((rw [e1]); cbv)
    | (refine Chk.mk trivial ?_; cbv)
    | (refine bc_true (by first | assumption | (simp (disch := omega) only [hF, natc, w64_in, shs]; first | done | assumption | omega | (simp only [natc] at *; omega))) ?_; cbv)
    | (refine bc_false (by first | assumption | (simp (disch := omega) only [hF, natc, w64_in, shs]; first | done | assumption | omega | (simp only [natc] at *; omega))) ?_; cbv)
    | (refine bc_split (fun h => ?_) (fun h => ?_) <;> (try simp (disch := omega) only [hF, natc, w64_in, shs] at h) <;> cbv)
    | (refine IdxVC.mk (by simp (disch := omega) only [hF, natc, w64_in, shs]; first | done | omega | (simp only [natc] at *; omega)) (fun kx hk hk2 => ?_); simp (disch := omega) only [hF, natc, w64_in, shs] at hk; (try obtain rfl : kx = 0 := hk); cbv)
    | (refine Chk.mk (by simp (disch := omega) only [maxN, hF, natc, w64_in, shs]; first | done | assumption | omega | (simp only [natc] at *; omega)) ?_; cbv)
    | (intro (hmx : _ ≤ maxN); replace hmx : _ ≤ 17592186044416 := hmx; cbv)
    | (intro _; cbv)
  subst hQ; exact leaf_data rfl rfl ⟨by rw [← e1]; rfl, rfl⟩

/-- What an address means: whether it is one; kind, number, register. -/
def decB (c n k a : Int) : Bool :=
  if a < 65536 then decide (0 ≤ a ∧ a < n) else if a < 65792 then decide (0 ≤ (a - 65536) / 16 ∧ (a - 65536) / 16 < c) && decide (0 ≤ a % 16 ∧ a % 16 < 3)
  else if a < 66048 then decide (0 ≤ a - 65792 ∧ a - 65792 < k) else decide (0 ≤ a - 66048 ∧ a - 66048 < c)
def decX (a : Int) : Int := if a < 65536 then 1 else if a < 65792 then 2 else if a < 66048 then 3 else 4
def decY (a : Int) : Int := if a < 65536 then 0 else if a < 65792 then (a - 65536) / 16 else if a < 66048 then a - 65792 else a - 66048
def decZ (a : Int) : Int := if a < 65536 then a else if a < 65792 then a % 16 else 0

theorem ok_Decode (c n k a : Int) (hc : 1 ≤ c ∧ c ≤ 8) (hn : 1 ≤ n ∧ n ≤ 65536) (hk : 1 ≤ k ∧ k ≤ 16) (ha : a ≤ 9223372036854775807) :
    CallOK (O := Ob) PR n_site_Decode [.agg [.dv (.int .i64 c), .dv (.int .i64 n), .dv (.int .i64 k)], .dv (.int .i64 a)] [] fun v m => v = spotV (decB c n k a) (decX a) (decY a) (decZ a) ∧ m = [] := by
  unfold decB decX decY decZ
  by_cases h1 : a < 65536
  · simp only [if_pos h1]
    exact decode_w c n k a _ _ _ _ (guess1 a h1) (enc1 c n k a hc hn hk)
  · by_cases h2 : a < 65792
    · simp only [if_neg h1, if_pos h2]
      exact decode_w c n k a _ _ _ _ (guess2 a _ _ (by omega) rfl rfl) (enc2 c n k _ _ hc hn hk)
    · by_cases h3 : a < 66048
      · simp only [if_neg h1, if_neg h2, if_pos h3]
        exact decode_w c n k a _ _ _ _ (guess3 a _ (by omega) rfl) (enc3 c n k _ hc hn hk)
      · simp only [if_neg h1, if_neg h2, if_neg h3]
        exact decode_w c n k a _ _ _ _ (guess4 a _ (by omega) rfl) (enc4 c n k _ hc hn hk)

end Go.Proofs.YtiaceoomiflgcaaGreat

end

section
namespace Go.Proofs.YtiaceoomiflgcaaGreat
open Go.V
set_option linter.unusedVariables false
set_option linter.unusedSimpArgs false
set_option maxRecDepth 100000
set_option maxHeartbeats 8000000

/-- Mailboxes: so many; their bits; their lanes. -/
def xR (cores : Nat) (bs : Nat → Nat) (bits : Nat → Int) (bo : Nat → Ob) : List (Chunk Ob) :=
  [.blk [.one (.vec 1)], .vec cores 2 (fun j f => if f = 0 then .dv (.int .i64 (bits j)) else .gp (bs j)), .obj (.fam cores bs (fun _ => false) bo)]
def xO (cores : Nat) (bits : Nat → Int) (bo : Nat → Ob) : Ob := .ex fun bs => .mk (xR cores bs bits bo)

theorem updRow_20 (bits : Nat → Int) (bs : Nat → Nat) (k : Nat) (v : Int) (i : Nat) : updRow (fun j f => if f = 0 then .dv (.int .i64 (bits j)) else .gp (bs j)) k 0 [.dv (.int .i64 v)] i 0 = .dv (.int .i64 (if i = k then v else bits i)) := by
  unfold updRow
  by_cases h : i = k <;> simp [h, lget]
theorem updRow_21 (bits : Nat → Int) (bs : Nat → Nat) (k : Nat) (v : Int) (i : Nat) : updRow (fun j f => if f = 0 then .dv (.int .i64 (bits j)) else .gp (bs j)) k 0 [.dv (.int .i64 v)] i 1 = .gp (bs i) := by
  unfold updRow
  by_cases h : i = k <;> simp [h, lget]

theorem xPending_w (cores : Nat) (bs : Nat → Nat) (bits : Nat → Int) (bo : Nat → Ob) (j : Nat) (hj : j < cores) (h8 : cores ≤ 8) :
    CallOK (O := Ob) PR n_mbox_Box_Pending [.ptr 0 0, .dv (.int .i64 j)] [.obj (.mk (xR cores bs bits bo))] fun v m => v = .tup [.dv (.int .i64 (bits j)), .dv (.int .i64 0)] ∧ m = [.obj (xO cores bits bo)] := by
  unfold xR
  refine fn_walkv mixed fn_mbox_Box_Pending Ent.opn1 fun bin cmp un conv bnot beq band sel isel ofN toN inb nz nneg lt le room' slb add sub sbin scmp slen sget ssub addk pc pb pi pf ps mkok min_ ig aeq P hP hA hF Q hQ => ?_
  cbv
  repeat' first
    | ((refine call_inl hP mixed hA code_mbox_Box_ask fn_mbox_Box_ask ?_); cbv)
    | ((refine call_inl hP mixed hA code_mbox_Box_Pending_c1 fn_mbox_Box_Pending_c1 ?_); cbv)
    | (refine Chk.mk trivial ?_; cbv)
    | (refine bc_true (by first | assumption | (simp (disch := omega) only [hF, natc, w64_in, shs]; first | done | assumption | omega | (simp only [natc] at *; omega))) ?_; cbv)
    | (refine bc_false (by first | assumption | (simp (disch := omega) only [hF, natc, w64_in, shs]; first | done | assumption | omega | (simp only [natc] at *; omega))) ?_; cbv)
    | (refine bc_split (fun h => ?_) (fun h => ?_) <;> (try simp (disch := omega) only [hF, natc, w64_in, shs] at h) <;> cbv)
    | (refine IdxVC.mk (by simp (disch := omega) only [hF, natc, w64_in, shs]; first | done | omega | (simp only [natc] at *; omega)) (fun kx hk hk2 => ?_); simp (disch := omega) only [hF, natc, w64_in, shs] at hk; (try obtain rfl : kx = 0 := hk); cbv)
    | (refine Chk.mk (by simp (disch := omega) only [maxN, hF, natc, w64_in, shs]; first | done | assumption | omega | (simp only [natc] at *; omega)) ?_; cbv)
    | (intro (hmx : _ ≤ maxN); replace hmx : _ ≤ 17592186044416 := hmx; cbv)
    | (intro _; cbv)
  subst hk; subst hQ
  refine ⟨.tup [.dv (.int .i64 (bits kx)), .dv (.int .i64 0)], [.obj (xO cores bits bo)], ?_, rfl, rfl⟩
  refine (Ent.cls1 (env' := [.tup [.dv (.int .i64 (bits kx)), .dv (.int .i64 0)]]) [1, 2] (xR cores bs bits bo) rfl rfl ?_ ?_).trans (Ent.exI (o := fun bs => .mk (xR cores bs bits bo)) 0 bs rfl)
  · refine ⟨⟨rfl, trivial⟩, ⟨rfl, rfl, fun i f hi hf => ?_⟩, rfl, trivial⟩
    rcases (by omega : f = 0 ∨ f = 1) with rfl | rfl <;> rfl
  · exact ⟨rfl, trivial⟩

theorem xWaits_w (cores : Nat) (bs : Nat → Nat) (bits : Nat → Int) (bo : Nat → Ob) (L : Ob) (z : Int) (j : Nat) (hj : j < cores) (h8 : cores ≤ 8) (hb : bo j = L)
    (hl : CallOK (O := Ob) PR n_lane_Lane_Len [.ptr 0 0] [.obj L] fun v m => v = .dv (.int .i64 z) ∧ m = [.obj L]) :
    CallOK (O := Ob) PR n_mbox_Box_Waits [.ptr 0 0, .dv (.int .i64 j)] [.obj (.mk (xR cores bs bits bo))] fun v m => v = .dv (.int .i64 z) ∧ m = [.obj (xO cores bits (updO bo j L))] := by
  have hl := hl.atx (bs j)
  unfold xR
  refine fn_walkv mixed fn_mbox_Box_Waits Ent.opn1 fun bin cmp un conv bnot beq band sel isel ofN toN inb nz nneg lt le room' slb add sub sbin scmp slen sget ssub addk pc pb pi pf ps mkok min_ ig aeq P hP hA hF Q hQ => ?_
  cbv
  repeat' first
    | ((refine call_inl hP mixed hA code_mbox_Box_ask fn_mbox_Box_ask ?_); cbv)
    | ((refine call_inl hP mixed hA code_mbox_Box_Waits_c1 fn_mbox_Box_Waits_c1 ?_); cbv)
    | (refine Chk.mk trivial ?_; cbv)
    | (refine bc_true (by first | assumption | (simp (disch := omega) only [hF, natc, w64_in, shs]; first | done | assumption | omega | (simp only [natc] at *; omega))) ?_; cbv)
    | (refine bc_false (by first | assumption | (simp (disch := omega) only [hF, natc, w64_in, shs]; first | done | assumption | omega | (simp only [natc] at *; omega))) ?_; cbv)
    | (refine bc_split (fun h => ?_) (fun h => ?_) <;> (try simp (disch := omega) only [hF, natc, w64_in, shs] at h) <;> cbv)
    | (refine IdxVC.mk (by simp (disch := omega) only [hF, natc, w64_in, shs]; first | done | omega | (simp only [natc] at *; omega)) (fun kx hk hk2 => ?_); simp (disch := omega) only [hF, natc, w64_in, shs] at hk; (try obtain rfl : kx = 0 := hk); cbv)
    | (refine Chk.mk (by simp (disch := omega) only [maxN, hF, natc, w64_in, shs]; first | done | assumption | omega | (simp only [natc] at *; omega)) ?_; cbv)
    | (intro (hmx : _ ≤ maxN); replace hmx : _ ≤ 17592186044416 := hmx; cbv)
    | (intro _; cbv)
  subst hk
  refine call_fam 2 kx [0] rfl hk2 rfl ⟨rfl, trivial⟩ ?_
  rw [hb]
  cbv
  repeat' first
    | (refine call_at hP [4] code_lane_Lane_Len (hl) rfl ?_ ?_ ?_; (focus ((repeat' (first | exact trivial | exact rfl | (intro _ _ _ _; exact rfl) | refine And.intro ?_ ?_)); done)); (focus (cbv; (try simp); done)); rintro _ _ ⟨rfl, rfl⟩ _; cbv)
    | (refine Chk.mk trivial ?_; cbv)
    | (refine bc_true (by first | assumption | (simp (disch := omega) only [hF, natc, w64_in, shs]; first | done | assumption | omega | (simp only [natc] at *; omega))) ?_; cbv)
    | (refine bc_false (by first | assumption | (simp (disch := omega) only [hF, natc, w64_in, shs]; first | done | assumption | omega | (simp only [natc] at *; omega))) ?_; cbv)
    | (refine bc_split (fun h => ?_) (fun h => ?_) <;> (try simp (disch := omega) only [hF, natc, w64_in, shs] at h) <;> cbv)
    | (refine IdxVC.mk (by simp (disch := omega) only [hF, natc, w64_in, shs]; first | done | omega | (simp only [natc] at *; omega)) (fun kx hk hk2 => ?_); simp (disch := omega) only [hF, natc, w64_in, shs] at hk; (try obtain rfl : kx = 0 := hk); cbv)
    | (refine Chk.mk (by simp (disch := omega) only [maxN, hF, natc, w64_in, shs]; first | done | assumption | omega | (simp only [natc] at *; omega)) ?_; cbv)
    | (intro (hmx : _ ≤ maxN); replace hmx : _ ≤ 17592186044416 := hmx; cbv)
    | (intro _; cbv)
  subst hQ
  refine ⟨.dv (.int .i64 z), [.obj (xO cores (bits) (updO bo kx (L)))], ?_, rfl, rfl⟩
  refine (Ent.famC 2 4 kx (sk' := fun _ => false) (o' := updO bo kx (L)) (x := L) rfl rfl (by decide) hk2 (by simp) (fun i _ => ?_) (fun i _ => rfl)).trans ?_
  · by_cases h : i = kx <;> simp [h]
  refine (Ent.cls1 (env' := [.dv (.int .i64 z)]) [1, 2] (xR cores bs (bits) (updO bo kx (L))) rfl rfl ?_ ?_).trans (Ent.exI (o := fun bs => .mk (xR cores bs (bits) (updO bo kx (L)))) 0 bs rfl)
  · refine ⟨⟨rfl, trivial⟩, ⟨rfl, rfl, fun i f hi hf => ?_⟩, rfl, trivial⟩
    rcases (by omega : f = 0 ∨ f = 1) with rfl | rfl
    · rfl
    · rfl
  · exact ⟨rfl, trivial⟩

theorem xReset_w (cores : Nat) (bs : Nat → Nat) (bits : Nat → Int) (bo : Nat → Ob) (L L' : Ob) (z : Int) (j : Nat) (hj : j < cores) (h8 : cores ≤ 8) (hb : bo j = L)
    (hl : CallOK (O := Ob) PR n_lane_Lane_Clear [.ptr 0 0] [.obj L] fun v m => v = .dv (.int .i64 z) ∧ m = [.obj L']) :
    CallOK (O := Ob) PR n_mbox_Box_Reset [.ptr 0 0, .dv (.int .i64 j)] [.obj (.mk (xR cores bs bits bo))] fun v m => v = .tup [.dv (.int .i64 z), .dv (.int .i64 0)] ∧ m = [.obj (xO cores (fun i => if i = j then 0 else bits i) (updO bo j L'))] := by
  have hl := hl.atx (bs j)
  unfold xR
  refine fn_walkv mixed fn_mbox_Box_Reset Ent.opn1 fun bin cmp un conv bnot beq band sel isel ofN toN inb nz nneg lt le room' slb add sub sbin scmp slen sget ssub addk pc pb pi pf ps mkok min_ ig aeq P hP hA hF Q hQ => ?_
  cbv
  repeat' first
    | ((refine call_inl hP mixed hA code_mbox_Box_ask fn_mbox_Box_ask ?_); cbv)
    | ((refine call_inl hP mixed hA code_mbox_Box_Reset_c1 fn_mbox_Box_Reset_c1 ?_); cbv)
    | (refine Chk.mk trivial ?_; cbv)
    | (refine bc_true (by first | assumption | (simp (disch := omega) only [hF, natc, w64_in, shs]; first | done | assumption | omega | (simp only [natc] at *; omega))) ?_; cbv)
    | (refine bc_false (by first | assumption | (simp (disch := omega) only [hF, natc, w64_in, shs]; first | done | assumption | omega | (simp only [natc] at *; omega))) ?_; cbv)
    | (refine bc_split (fun h => ?_) (fun h => ?_) <;> (try simp (disch := omega) only [hF, natc, w64_in, shs] at h) <;> cbv)
    | (refine IdxVC.mk (by simp (disch := omega) only [hF, natc, w64_in, shs]; first | done | omega | (simp only [natc] at *; omega)) (fun kx hk hk2 => ?_); simp (disch := omega) only [hF, natc, w64_in, shs] at hk; (try obtain rfl : kx = 0 := hk); cbv)
    | (refine Chk.mk (by simp (disch := omega) only [maxN, hF, natc, w64_in, shs]; first | done | assumption | omega | (simp only [natc] at *; omega)) ?_; cbv)
    | (intro (hmx : _ ≤ maxN); replace hmx : _ ≤ 17592186044416 := hmx; cbv)
    | (intro _; cbv)
  subst hk
  refine call_fam 2 kx [0] rfl hk2 rfl ⟨rfl, trivial⟩ ?_
  rw [hb]
  cbv
  repeat' first
    | (refine call_at hP [4] code_lane_Lane_Clear (hl) rfl ?_ ?_ ?_; (focus ((repeat' (first | exact trivial | exact rfl | (intro _ _ _ _; exact rfl) | refine And.intro ?_ ?_)); done)); (focus (cbv; (try simp); done)); rintro _ _ ⟨rfl, rfl⟩ _; cbv)
    | (refine Chk.mk trivial ?_; cbv)
    | (refine bc_true (by first | assumption | (simp (disch := omega) only [hF, natc, w64_in, shs]; first | done | assumption | omega | (simp only [natc] at *; omega))) ?_; cbv)
    | (refine bc_false (by first | assumption | (simp (disch := omega) only [hF, natc, w64_in, shs]; first | done | assumption | omega | (simp only [natc] at *; omega))) ?_; cbv)
    | (refine bc_split (fun h => ?_) (fun h => ?_) <;> (try simp (disch := omega) only [hF, natc, w64_in, shs] at h) <;> cbv)
    | (refine IdxVC.mk (by simp (disch := omega) only [hF, natc, w64_in, shs]; first | done | omega | (simp only [natc] at *; omega)) (fun kx hk hk2 => ?_); simp (disch := omega) only [hF, natc, w64_in, shs] at hk; (try obtain rfl : kx = 0 := hk); cbv)
    | (refine Chk.mk (by simp (disch := omega) only [maxN, hF, natc, w64_in, shs]; first | done | assumption | omega | (simp only [natc] at *; omega)) ?_; cbv)
    | (intro (hmx : _ ≤ maxN); replace hmx : _ ≤ 17592186044416 := hmx; cbv)
    | (intro _; cbv)
  subst hQ
  refine ⟨.tup [.dv (.int .i64 z), .dv (.int .i64 0)], [.obj (xO cores (fun i => if i = kx then 0 else bits i) (updO bo kx (L')))], ?_, rfl, rfl⟩
  refine (Ent.famC 2 4 kx (sk' := fun _ => false) (o' := updO bo kx (L')) (x := L') rfl rfl (by decide) hk2 (by simp) (fun i _ => ?_) (fun i _ => rfl)).trans ?_
  · by_cases h : i = kx <;> simp [h]
  refine (Ent.cls1 (env' := [.tup [.dv (.int .i64 z), .dv (.int .i64 0)]]) [1, 2] (xR cores bs (fun i => if i = kx then 0 else bits i) (updO bo kx (L'))) rfl rfl ?_ ?_).trans (Ent.exI (o := fun bs => .mk (xR cores bs (fun i => if i = kx then 0 else bits i) (updO bo kx (L')))) 0 bs rfl)
  · refine ⟨⟨rfl, trivial⟩, ⟨rfl, rfl, fun i f hi hf => ?_⟩, rfl, trivial⟩
    rcases (by omega : f = 0 ∨ f = 1) with rfl | rfl
    · rw [updRow_20]; rfl
    · rw [updRow_21]; rfl
  · exact ⟨rfl, trivial⟩

theorem xAck_w (cores : Nat) (bs : Nat → Nat) (bits : Nat → Int) (bo : Nat → Ob) (w : Int) (j : Nat) (hj : j < cores) (h8 : cores ≤ 8) :
    CallOK (O := Ob) PR n_mbox_Box_Ack [.ptr 0 0, .dv (.int .i64 j), .dv (.int .i64 w)] [.obj (.mk (xR cores bs bits bo))] fun v m => v = .dv (.int .i64 0) ∧ ∃ z, m = [.obj (xO cores (fun i => if i = j then z else bits i) bo)] := by
  unfold xR
  refine fn_walkv mixed fn_mbox_Box_Ack Ent.opn1 fun bin cmp un conv bnot beq band sel isel ofN toN inb nz nneg lt le room' slb add sub sbin scmp slen sget ssub addk pc pb pi pf ps mkok min_ ig aeq P hP hA hF Q hQ => ?_
  cbv
  repeat' first
    | ((refine call_inl hP mixed hA code_mbox_Box_ask fn_mbox_Box_ask ?_); cbv)
    | ((refine call_inl hP mixed hA code_mbox_Box_Ack_c1 fn_mbox_Box_Ack_c1 ?_); cbv)
    | (refine Chk.mk trivial ?_; cbv)
    | (refine bc_true (by first | assumption | (simp (disch := omega) only [hF, natc, w64_in, shs]; first | done | assumption | omega | (simp only [natc] at *; omega))) ?_; cbv)
    | (refine bc_false (by first | assumption | (simp (disch := omega) only [hF, natc, w64_in, shs]; first | done | assumption | omega | (simp only [natc] at *; omega))) ?_; cbv)
    | (refine bc_split (fun h => ?_) (fun h => ?_) <;> (try simp (disch := omega) only [hF, natc, w64_in, shs] at h) <;> cbv)
    | (refine IdxVC.mk (by simp (disch := omega) only [hF, natc, w64_in, shs]; first | done | omega | (simp only [natc] at *; omega)) (fun kx hk hk2 => ?_); simp (disch := omega) only [hF, natc, w64_in, shs] at hk; (try obtain rfl : kx = 0 := hk); cbv)
    | (refine Chk.mk (by simp (disch := omega) only [maxN, hF, natc, w64_in, shs]; first | done | assumption | omega | (simp only [natc] at *; omega)) ?_; cbv)
    | (intro (hmx : _ ≤ maxN); replace hmx : _ ≤ 17592186044416 := hmx; cbv)
    | (intro _; cbv)
  subst hk
  generalize bin .andNot .i64 (bits kx) w = z
  subst hQ
  refine ⟨.dv (.int .i64 0), [.obj (xO cores (fun i => if i = kx then z else bits i) bo)], ?_, rfl, z, rfl⟩
  refine (Ent.cls1 (env' := [.dv (.int .i64 0)]) [1, 2] (xR cores bs (fun i => if i = kx then z else bits i) bo) rfl rfl ?_ ?_).trans (Ent.exI (o := fun bs => .mk (xR cores bs (fun i => if i = kx then z else bits i) bo)) 0 bs rfl)
  · refine ⟨⟨rfl, trivial⟩, ⟨rfl, rfl, fun i f hi hf => ?_⟩, rfl, trivial⟩
    rcases (by omega : f = 0 ∨ f = 1) with rfl | rfl
    · rw [updRow_20]; rfl
    · rw [updRow_21]; rfl
  · exact ⟨rfl, trivial⟩

theorem xTake_w (cores : Nat) (bs : Nat → Nat) (bits : Nat → Int) (bo : Nat → Ob) (L L' : Ob) (z e x y : Int) (hx : std.bin .quo .i64 z 65536 = x) (hy : std.bin .rem .i64 z 65536 = y) (j : Nat) (hj : j < cores) (h8 : cores ≤ 8) (hb : bo j = L)
    (hl : CallOK (O := Ob) PR n_lane_Lane_Take [.ptr 0 0] [.obj L] fun v m => v = .tup [.dv (.int .i64 z), .dv (.int .i64 e)] ∧ m = [.obj L']) :
    CallOK (O := Ob) PR n_mbox_Box_Take [.ptr 0 0, .dv (.int .i64 j)] [.obj (.mk (xR cores bs bits bo))] fun v m => v = .tup [.dv (.int .i64 x), .dv (.int .i64 y), .dv (.int .i64 e)] ∧ m = [.obj (xO cores bits (updO bo j L'))] := by
  have hl := hl.atx (bs j)
  unfold xR
  refine fn_walkv mixed fn_mbox_Box_Take Ent.opn1 fun bin cmp un conv bnot beq band sel isel ofN toN inb nz nneg lt le room' slb add sub sbin scmp slen sget ssub addk pc pb pi pf ps mkok min_ ig aeq P hP hA hF Q hQ => ?_
  cbv
  repeat' first
    | ((refine call_inl hP mixed hA code_mbox_Box_ask fn_mbox_Box_ask ?_); cbv)
    | ((refine call_inl hP mixed hA code_mbox_Box_Take_c1 fn_mbox_Box_Take_c1 ?_); cbv)
    | (refine Chk.mk trivial ?_; cbv)
    | (refine bc_true (by first | assumption | (simp (disch := omega) only [hF, natc, w64_in, shs]; first | done | assumption | omega | (simp only [natc] at *; omega))) ?_; cbv)
    | (refine bc_false (by first | assumption | (simp (disch := omega) only [hF, natc, w64_in, shs]; first | done | assumption | omega | (simp only [natc] at *; omega))) ?_; cbv)
    | (refine bc_split (fun h => ?_) (fun h => ?_) <;> (try simp (disch := omega) only [hF, natc, w64_in, shs] at h) <;> cbv)
    | (refine IdxVC.mk (by simp (disch := omega) only [hF, natc, w64_in, shs]; first | done | omega | (simp only [natc] at *; omega)) (fun kx hk hk2 => ?_); simp (disch := omega) only [hF, natc, w64_in, shs] at hk; (try obtain rfl : kx = 0 := hk); cbv)
    | (refine Chk.mk (by simp (disch := omega) only [maxN, hF, natc, w64_in, shs]; first | done | assumption | omega | (simp only [natc] at *; omega)) ?_; cbv)
    | (intro (hmx : _ ≤ maxN); replace hmx : _ ≤ 17592186044416 := hmx; cbv)
    | (intro _; cbv)
  subst hk
  refine call_fam 2 kx [0] rfl hk2 rfl ⟨rfl, trivial⟩ ?_
  rw [hb]
  have eb : bin = std.bin := congrArg Ar.bin hA
  have e1 : bin .quo .i64 z 65536 = x := by rw [eb]; exact hx
  have e2 : bin .rem .i64 z 65536 = y := by rw [eb]; exact hy
  clear hx hy eb
  cbv
  repeat' first
    | (refine call_at hP [5] code_lane_Lane_Take (hl) rfl ?_ ?_ ?_; (focus ((repeat' (first | exact trivial | exact rfl | (intro _ _ _ _; exact rfl) | refine And.intro ?_ ?_)); done)); (focus (cbv; (try simp); done)); rintro _ _ ⟨rfl, rfl⟩ _; cbv)
    | ((rw [e1]); cbv)
    | ((rw [e2]); cbv)
    | (refine Chk.mk trivial ?_; cbv)
    | (refine bc_true (by first | assumption | (simp (disch := omega) only [hF, natc, w64_in, shs]; first | done | assumption | omega | (simp only [natc] at *; omega))) ?_; cbv)
    | (refine bc_false (by first | assumption | (simp (disch := omega) only [hF, natc, w64_in, shs]; first | done | assumption | omega | (simp only [natc] at *; omega))) ?_; cbv)
    | (refine bc_split (fun h => ?_) (fun h => ?_) <;> (try simp (disch := omega) only [hF, natc, w64_in, shs] at h) <;> cbv)
    | (refine IdxVC.mk (by simp (disch := omega) only [hF, natc, w64_in, shs]; first | done | omega | (simp only [natc] at *; omega)) (fun kx hk hk2 => ?_); simp (disch := omega) only [hF, natc, w64_in, shs] at hk; (try obtain rfl : kx = 0 := hk); cbv)
    | (refine Chk.mk (by simp (disch := omega) only [maxN, hF, natc, w64_in, shs]; first | done | assumption | omega | (simp only [natc] at *; omega)) ?_; cbv)
    | (intro (hmx : _ ≤ maxN); replace hmx : _ ≤ 17592186044416 := hmx; cbv)
    | (intro _; cbv)
  subst hQ
  refine ⟨.tup [.dv (.int .i64 x), .dv (.int .i64 y), .dv (.int .i64 e)], [.obj (xO cores (bits) (updO bo kx (L')))], ?_, rfl, rfl⟩
  refine (Ent.famC 2 5 kx (sk' := fun _ => false) (o' := updO bo kx (L')) (x := L') rfl rfl (by decide) hk2 (by simp) (fun i _ => ?_) (fun i _ => rfl)).trans ?_
  · by_cases h : i = kx <;> simp [h]
  refine (Ent.cls1 (env' := [.tup [.dv (.int .i64 x), .dv (.int .i64 y), .dv (.int .i64 e)]]) [1, 2] (xR cores bs (bits) (updO bo kx (L'))) rfl rfl ?_ ?_).trans (Ent.exI (o := fun bs => .mk (xR cores bs (bits) (updO bo kx (L')))) 0 bs rfl)
  · refine ⟨⟨rfl, trivial⟩, ⟨rfl, rfl, fun i f hi hf => ?_⟩, rfl, trivial⟩
    rcases (by omega : f = 0 ∨ f = 1) with rfl | rfl
    · rfl
    · rfl
  · exact ⟨rfl, trivial⟩

end Go.Proofs.YtiaceoomiflgcaaGreat

end

section
namespace Go.Proofs.YtiaceoomiflgcaaGreat
open Go.V
set_option linter.unusedVariables false
set_option linter.unusedSimpArgs false
set_option maxRecDepth 100000
set_option maxHeartbeats 8000000

theorem xNew (cores : Nat) (LN : Ob) (h8 : 1 ≤ cores ∧ cores ≤ 8) (hb : CallOK (O := Ob) PR n_lane_New [.dv (.int .i64 16)] [] fun v m => v = .ptr 0 0 ∧ m = [.obj LN]) :
    CallOK (O := Ob) PR n_mbox_New [.dv (.int .i64 cores)] [] fun v m => v = .ptr 0 0 ∧ m = [.obj (xO cores (fun _ => 0) fun _ => LN)] := by
  obtain ⟨h1, h8⟩ := h8
  refine fn_walkv mixed fn_mbox_New (Ent.refl _ _) fun bin cmp un conv bnot beq band sel isel ofN toN inb nz nneg lt le room' slb add sub sbin scmp slen sget ssub addk pc pb pi pf ps mkok min_ ig aeq P hP hA hF Q hQ => ?_
  cbv
  repeat' first
    | (refine Chk.mk trivial ?_; cbv)
    | (refine bc_true (by first | assumption | (simp (disch := omega) only [hF, natc, w64_in, shs]; first | done | assumption | omega | (simp only [natc] at *; omega))) ?_; cbv)
    | (refine bc_false (by first | assumption | (simp (disch := omega) only [hF, natc, w64_in, shs]; first | done | assumption | omega | (simp only [natc] at *; omega))) ?_; cbv)
    | (refine bc_split (fun h => ?_) (fun h => ?_) <;> (try simp (disch := omega) only [hF, natc, w64_in, shs] at h) <;> cbv)
    | (refine IdxVC.mk (by simp (disch := omega) only [hF, natc, w64_in, shs]; first | done | omega | (simp only [natc] at *; omega)) (fun kx hk hk2 => ?_); simp (disch := omega) only [hF, natc, w64_in, shs] at hk; (try obtain rfl : kx = 0 := hk); cbv)
    | (refine Chk.mk (by simp (disch := omega) only [maxN, hF, natc, w64_in, shs]; first | done | assumption | omega | (simp only [natc] at *; omega)) ?_; cbv)
    | (intro (hmx : _ ≤ maxN); replace hmx : _ ≤ 17592186044416 := hmx; cbv)
    | (intro _; cbv)
  refine loop_ex mixed hP hA (ι := Nat × (Nat → Nat)) (fun x => cores - x.1) (fun x => x.1 ≤ cores) [13, 14, 15, 16, 17, 18, 19, 20, 21, 22, 23, 24, 25, 26] (fun x => [(13, .dv (.int .i64 (ofN x.1)))]) (fun x => [.blk [.one (.vec 1)], .vec x.1 2 (fun j f => if f = 0 then .dv (.int .i64 0) else .gp (x.2 j)), .obj (.fam x.1 x.2 (fun _ => false) fun _ => LN)]) ?_ fun Nx i hN hi => ?_
  · refine EntE.of (((Ent.env ?_).trans (Ent.nilvec (ss := [.one (.dv .nils)]) (ss' := [.one (.vec 1)]) 0 0 2 (fun j f => if f = 0 then .dv (.int .i64 0) else .gp 0) rfl rfl rfl)).trans (Ent.fam0 (fun _ => 0) fun _ => LN)) ⟨(0, fun _ => 0), Nat.zero_le _, rfl⟩
    cbv; simp [hF]
  obtain ⟨i, bs⟩ := i
  simp only at hi hN
  cbv
  by_cases hlt : i < cores
  · have hrm : room' (add i 1) 16 := by simp [hF, maxN]; omega
    cbv
    repeat' first
      | (refine call_at hP [] code_lane_New (hb) rfl ?_ ?_ ?_; (focus ((repeat' (first | exact trivial | exact rfl | (intro _ _ _ _; exact rfl) | refine And.intro ?_ ?_)); done)); (focus (cbv; (try simp); done)); rintro _ _ ⟨rfl, rfl⟩ _; cbv)
      | ((refine Chk.mk hrm ?_); cbv)
      | ((refine And.intro ?_ ?_); cbv)
      | (refine Chk.mk trivial ?_; cbv)
      | (refine bc_true (by first | assumption | (simp (disch := omega) only [hF, natc, w64_in, shs]; first | done | assumption | omega | (simp only [natc] at *; omega))) ?_; cbv)
      | (refine bc_false (by first | assumption | (simp (disch := omega) only [hF, natc, w64_in, shs]; first | done | assumption | omega | (simp only [natc] at *; omega))) ?_; cbv)
      | (refine bc_split (fun h => ?_) (fun h => ?_) <;> (try simp (disch := omega) only [hF, natc, w64_in, shs] at h) <;> cbv)
      | (refine IdxVC.mk (by simp (disch := omega) only [hF, natc, w64_in, shs]; first | done | omega | (simp only [natc] at *; omega)) (fun kx hk hk2 => ?_); simp (disch := omega) only [hF, natc, w64_in, shs] at hk; (try obtain rfl : kx = 0 := hk); cbv)
      | (refine Chk.mk (by simp (disch := omega) only [maxN, hF, natc, w64_in, shs]; first | done | assumption | omega | (simp only [natc] at *; omega)) ?_; cbv)
      | (intro (hmx : _ ≤ maxN); replace hmx : _ ≤ 17592186044416 := hmx; cbv)
      | (intro _; cbv)
    have e : add i 1 = i + 1 := by simp only [hF]
    rw [e]
    refine hN _ ((famA (o' := fun _ => LN) 5 2 3 1 rfl rfl rfl (by decide) (fun j hj => ?_) ?_ (fun _ _ => rfl) rfl).bind fun t ⟨bs', ht⟩ => ?_)
    · unfold appAt; rw [if_pos hj]; rfl
    · unfold appAt; rw [if_neg (Nat.lt_irrefl _)]; simp only [hF, Nat.sub_self]; rfl
    · subst ht
      refine EntE.of (Ent.ren [0, 5, 2] rfl rfl ?_ ?_) ⟨(i + 1, bs'), hlt, by show cores - (i + 1) < cores - i; omega, rfl⟩
      · refine ⟨⟨rfl, trivial⟩, ⟨rfl, rfl, fun j f hj hf => ?_⟩, rfl, trivial⟩
        rcases (by omega : f = 0 ∨ f = 1) with rfl | rfl
        · dsimp only
          rw [if_neg (by decide : ¬ (0 : Nat) = 1)]
          unfold appAt
          by_cases h : j < i
          · rw [if_pos h]; rfl
          · obtain rfl : j = i := by omega
            rw [if_neg h]; simp only [hF, Nat.sub_self]; rfl
        · rfl
      · cbv; simp (disch := omega) [hF, natc, w64_in]
  · obtain rfl : i = cores := by omega
    cbv
    repeat' first
      | (refine Chk.mk trivial ?_; cbv)
      | (refine bc_true (by first | assumption | (simp (disch := omega) only [hF, natc, w64_in, shs]; first | done | assumption | omega | (simp only [natc] at *; omega))) ?_; cbv)
      | (refine bc_false (by first | assumption | (simp (disch := omega) only [hF, natc, w64_in, shs]; first | done | assumption | omega | (simp only [natc] at *; omega))) ?_; cbv)
      | (refine bc_split (fun h => ?_) (fun h => ?_) <;> (try simp (disch := omega) only [hF, natc, w64_in, shs] at h) <;> cbv)
      | (refine IdxVC.mk (by simp (disch := omega) only [hF, natc, w64_in, shs]; first | done | omega | (simp only [natc] at *; omega)) (fun kx hk hk2 => ?_); simp (disch := omega) only [hF, natc, w64_in, shs] at hk; (try obtain rfl : kx = 0 := hk); cbv)
      | (refine Chk.mk (by simp (disch := omega) only [maxN, hF, natc, w64_in, shs]; first | done | assumption | omega | (simp only [natc] at *; omega)) ?_; cbv)
      | (intro (hmx : _ ≤ maxN); replace hmx : _ ≤ 17592186044416 := hmx; cbv)
      | (intro _; cbv)
    subst hQ
    refine ⟨.ptr 0 0, [.obj (xO i (fun _ => 0) fun _ => LN)], ?_, rfl, rfl⟩
    refine (Ent.cls1 (env' := [.ptr 0 0]) [1, 2] (xR i bs (fun _ => 0) fun _ => LN) rfl rfl ?_ ?_).trans (Ent.exI (o := fun bs => .mk (xR i bs (fun _ => 0) fun _ => LN)) 0 bs rfl)
    · refine ⟨⟨rfl, trivial⟩, ⟨rfl, rfl, fun j f hj hf => ?_⟩, rfl, trivial⟩
      rcases (by omega : f = 0 ∨ f = 1) with rfl | rfl <;> rfl
    · exact ⟨rfl, trivial⟩

end Go.Proofs.YtiaceoomiflgcaaGreat

end

section
namespace Go.Proofs.YtiaceoomiflgcaaGreat
open Go.V
set_option linter.unusedVariables false
set_option linter.unusedSimpArgs false
set_option maxRecDepth 100000
set_option maxHeartbeats 8000000

theorem xRing_w (cores : Nat) (bs : Nat → Nat) (bits : Nat → Int) (bo : Nat → Ob) (L L' : Ob) (w e b1 x : Int) (j i : Nat) (hj : j < cores) (hi : i < cores) (h8 : cores ≤ 8) (hb : bo i = L) (hw : 0 ≤ w ∧ w ≤ 65535)
    (hx : x = (j : Int) * 65536 + w) (hb1 : std.bin .or .i64 (bits i) (std.bin .shl .i64 1 j) = b1) (hword : CallOK (O := Ob) PR n_wrap_Word [.dv (.int .i64 w)] [] fun v m => v = .dv (.int .i64 w) ∧ m = [])
    (hl : CallOK (O := Ob) PR n_lane_Lane_Put [.ptr 0 0, .dv (.int .i64 x)] [.obj L] fun v m => v = .dv (.int .i64 e) ∧ m = [.obj L']) :
    CallOK (O := Ob) PR n_mbox_Box_Ring [.ptr 0 0, .dv (.int .i64 j), .dv (.int .i64 i), .dv (.int .i64 w)] [.obj (.mk (xR cores bs bits bo))] fun v m => v = .dv (.int .i64 e) ∧ m = [.obj (xO cores (fun k => if k = i then b1 else bits k) (updO bo i L'))] := by
  have hl := hl.atx (bs i)
  obtain ⟨w0, w1⟩ := hw
  unfold xR
  refine fn_walkv mixed fn_mbox_Box_Ring Ent.opn1 fun bin cmp un conv bnot beq band sel isel ofN toN inb nz nneg lt le room' slb add sub sbin scmp slen sget ssub addk pc pb pi pf ps mkok min_ ig aeq P hP hA hF Q hQ => ?_
  have eb : bin = std.bin := congrArg Ar.bin hA
  have e1 : bin .or .i64 (bits i) (bin .shl .i64 1 (Int.ofNat j)) = b1 := by rw [eb]; exact hb1
  have e2 : bin .add .i64 (bin .mul .i64 (Int.ofNat j) 65536) w = x := by
    simp only [hF]
    rw [w64_in (n := Int.ofNat j * 65536) (by simp only [Int.ofNat_eq_natCast]; omega), w64_in (by simp only [Int.ofNat_eq_natCast]; omega), hx]
    rfl
  clear hx hb1 eb
  cbv
  repeat' first
    | ((refine call_inl hP mixed hA code_mbox_Box_ask fn_mbox_Box_ask ?_); cbv)
    | ((refine call_inl hP mixed hA code_mbox_Box_Ring_c1 fn_mbox_Box_Ring_c1 ?_); cbv)
    | ((refine call_inl hP mixed hA code_mbox_Box_Ring_c1_c1 fn_mbox_Box_Ring_c1_c1 ?_); cbv)
    | (refine call_pure hP code_wrap_Word (hword) ?_ ?_; (focus (cbv; (try simp); done)); rintro _ rfl; cbv)
    | ((refine And.intro ?_ ?_); cbv)
    | ((rw [e1]); cbv)
    | ((rw [e2]); cbv)
    | (refine Chk.mk trivial ?_; cbv)
    | (refine bc_true (by first | assumption | (simp (disch := omega) only [hF, natc, w64_in, shs]; first | done | assumption | omega | (simp only [natc] at *; omega))) ?_; cbv)
    | (refine bc_false (by first | assumption | (simp (disch := omega) only [hF, natc, w64_in, shs]; first | done | assumption | omega | (simp only [natc] at *; omega))) ?_; cbv)
    | (refine bc_split (fun h => ?_) (fun h => ?_) <;> (try simp (disch := omega) only [hF, natc, w64_in, shs] at h) <;> cbv)
    | (refine IdxVC.mk (by simp (disch := omega) only [hF, natc, w64_in, shs]; first | done | omega | (simp only [natc] at *; omega)) (fun kx hk hk2 => ?_); simp (disch := omega) only [hF, natc, w64_in, shs] at hk; (try obtain rfl : kx = 0 := hk); (try obtain rfl : i = kx := hk.symm); cbv)
    | (refine Chk.mk (by simp (disch := omega) only [maxN, hF, natc, w64_in, shs]; first | done | assumption | omega | (simp only [natc] at *; omega)) ?_; cbv)
    | (intro (hmx : _ ≤ maxN); replace hmx : _ ≤ 17592186044416 := hmx; cbv)
    | (intro _; cbv)
  have hk2 : i < cores := hi
  refine call_fam 2 i [0] rfl hk2 rfl ⟨rfl, trivial⟩ ?_
  rw [hb]
  cbv
  repeat' first
    | (refine call_at hP [7] code_lane_Lane_Put (hl) rfl ?_ ?_ ?_; (focus ((repeat' (first | exact trivial | exact rfl | (intro _ _ _ _; exact rfl) | refine And.intro ?_ ?_)); done)); (focus (cbv; (try simp); done)); rintro _ _ ⟨rfl, rfl⟩ _; cbv)
    | ((refine And.intro ?_ ?_); cbv)
    | (refine Chk.mk trivial ?_; cbv)
    | (refine bc_true (by first | assumption | (simp (disch := omega) only [hF, natc, w64_in, shs]; first | done | assumption | omega | (simp only [natc] at *; omega))) ?_; cbv)
    | (refine bc_false (by first | assumption | (simp (disch := omega) only [hF, natc, w64_in, shs]; first | done | assumption | omega | (simp only [natc] at *; omega))) ?_; cbv)
    | (refine bc_split (fun h => ?_) (fun h => ?_) <;> (try simp (disch := omega) only [hF, natc, w64_in, shs] at h) <;> cbv)
    | (refine IdxVC.mk (by simp (disch := omega) only [hF, natc, w64_in, shs]; first | done | omega | (simp only [natc] at *; omega)) (fun kx hk hk2 => ?_); simp (disch := omega) only [hF, natc, w64_in, shs] at hk; (try obtain rfl : kx = 0 := hk); cbv)
    | (refine Chk.mk (by simp (disch := omega) only [maxN, hF, natc, w64_in, shs]; first | done | assumption | omega | (simp only [natc] at *; omega)) ?_; cbv)
    | (intro (hmx : _ ≤ maxN); replace hmx : _ ≤ 17592186044416 := hmx; cbv)
    | (intro _; cbv)
  subst hQ
  refine ⟨.dv (.int .i64 e), [.obj (xO cores (fun k => if k = i then b1 else bits k) (updO bo i (L')))], ?_, rfl, rfl⟩
  refine (Ent.famC 2 7 i (sk' := fun _ => false) (o' := updO bo i (L')) (x := L') rfl rfl (by decide) hk2 (by simp) (fun i _ => ?_) (fun i _ => rfl)).trans ?_
  · by_cases h : i = i <;> simp [h]
  refine (Ent.cls1 (env' := [.dv (.int .i64 e)]) [1, 2] (xR cores bs (fun k => if k = i then b1 else bits k) (updO bo i (L'))) rfl rfl ?_ ?_).trans (Ent.exI (o := fun bs => .mk (xR cores bs (fun k => if k = i then b1 else bits k) (updO bo i (L')))) 0 bs rfl)
  · refine ⟨⟨rfl, trivial⟩, ⟨rfl, rfl, fun i f hi hf => ?_⟩, rfl, trivial⟩
    rcases (by omega : f = 0 ∨ f = 1) with rfl | rfl
    · rw [updRow_20]; rfl
    · rw [updRow_21]; rfl
  · exact ⟨rfl, trivial⟩

end Go.Proofs.YtiaceoomiflgcaaGreat

end

section
namespace Go.Proofs.YtiaceoomiflgcaaGreat
open Go.V
set_option linter.unusedVariables false
set_option linter.unusedSimpArgs false
set_option maxRecDepth 100000
set_option maxHeartbeats 8000000

/-- Mailboxes: their bits; of each lane where it begins, how many it has, its room. -/
structure BoxS where
  cores : Nat
  bits : Nat → Int
  f : Nat → Nat
  h : Nat → Nat
  rm : Nat → Nat → Int

def BoxS.ok (S : BoxS) : Prop := 1 ≤ S.cores ∧ S.cores ≤ 8 ∧ ∀ j, j < S.cores → S.f j < 16 ∧ S.h j ≤ 16
def boxO (S : BoxS) : Ob := xO S.cores S.bits fun j => nO (S.f j) (S.h j) (S.rm j)

def BoxS.upd (S : BoxS) (bits : Nat → Int) (j f h : Nat) (rm : Nat → Int) : BoxS := { S with bits := bits, f := fun i => if i = j then f else S.f i, h := fun i => if i = j then h else S.h i, rm := fun i => if i = j then rm else S.rm i }

theorem boxO_upd (S : BoxS) (bits : Nat → Int) (j f h : Nat) (rm : Nat → Int) : boxO (S.upd bits j f h rm) = xO S.cores bits (updO (fun j => nO (S.f j) (S.h j) (S.rm j)) j (nO f h rm)) := by
  have e : updO (fun j => nO (S.f j) (S.h j) (S.rm j)) j (nO f h rm) = fun i => nO (if i = j then f else S.f i) (if i = j then h else S.h i) (if i = j then rm else S.rm i) := by
    funext i; unfold updO; split <;> rfl
  rw [e]; rfl

theorem BoxS.upd_ok (S : BoxS) (hS : S.ok) (bits : Nat → Int) (j f h : Nat) (rm : Nat → Int) (hf : f < 16) (hh : h ≤ 16) : (S.upd bits j f h rm).ok := by
  refine ⟨hS.1, hS.2.1, fun i hi => ?_⟩
  show (if i = j then f else S.f i) < 16 ∧ (if i = j then h else S.h i) ≤ 16
  split
  · exact ⟨hf, hh⟩
  · exact hS.2.2 i hi

/-- Some mailboxes, as many. -/
def someBox (c : Nat) (m : List (Chunk Ob)) : Prop := ∃ S : BoxS, S.ok ∧ S.cores = c ∧ m = [.obj (boxO S)]

theorem boxNew (c : Nat) (h : 1 ≤ c ∧ c ≤ 8) : CallOK (O := Ob) PR n_mbox_New [.dv (.int .i64 c)] [] fun v m => v = .ptr 0 0 ∧ someBox c m :=
  (xNew c _ h nNew).mono fun v m ⟨hv, hm⟩ => ⟨hv, ⟨c, fun _ => 0, fun _ => 0, fun _ => 0, fun _ _ => 0⟩, ⟨h.1, h.2, fun _ _ => ⟨by show (0 : Nat) < 16; omega, by show (0 : Nat) ≤ 16; omega⟩⟩, rfl, hm⟩

theorem boxPending (S : BoxS) (hS : S.ok) (j : Nat) (hj : j < S.cores) : CallOK (O := Ob) PR n_mbox_Box_Pending [.ptr 0 0, .dv (.int .i64 j)] [.obj (boxO S)] fun v m => v = .tup [.dv (.int .i64 (S.bits j)), .dv (.int .i64 0)] ∧ m = [.obj (boxO S)] :=
  CallOK.exE 0 rfl fun bs => xPending_w S.cores bs S.bits _ j hj hS.2.1

theorem boxWaits (S : BoxS) (hS : S.ok) (j : Nat) (hj : j < S.cores) : CallOK (O := Ob) PR n_mbox_Box_Waits [.ptr 0 0, .dv (.int .i64 j)] [.obj (boxO S)] fun v m => v = .dv (.int .i64 (S.h j : Int)) ∧ someBox S.cores m := by
  have h : CallOK (O := Ob) PR n_mbox_Box_Waits [.ptr 0 0, .dv (.int .i64 j)] [.obj (boxO S)] fun v m => v = .dv (.int .i64 (S.h j : Int)) ∧ m = [.obj (boxO (S.upd S.bits j (S.f j) (S.h j) (S.rm j)))] := by
    rw [boxO_upd]
    exact CallOK.exE 0 rfl fun bs => xWaits_w S.cores bs S.bits _ _ _ j hj hS.2.1 rfl (nLen (S.f j) (S.h j) (S.rm j))
  exact h.mono fun v m ⟨hv, hm⟩ => ⟨hv, _, S.upd_ok hS _ _ _ _ _ (hS.2.2 j hj).1 (hS.2.2 j hj).2, rfl, hm⟩

theorem boxReset (S : BoxS) (hS : S.ok) (j : Nat) (hj : j < S.cores) : CallOK (O := Ob) PR n_mbox_Box_Reset [.ptr 0 0, .dv (.int .i64 j)] [.obj (boxO S)] fun v m => v = .tup [.dv (.int .i64 (S.h j : Int)), .dv (.int .i64 0)] ∧ someBox S.cores m := by
  have h : CallOK (O := Ob) PR n_mbox_Box_Reset [.ptr 0 0, .dv (.int .i64 j)] [.obj (boxO S)] fun v m => v = .tup [.dv (.int .i64 (S.h j : Int)), .dv (.int .i64 0)] ∧ m = [.obj (boxO (S.upd (fun i => if i = j then 0 else S.bits i) j (S.f j) 0 (S.rm j)))] := by
    rw [boxO_upd]
    exact CallOK.exE 0 rfl fun bs => xReset_w S.cores bs S.bits _ _ _ _ j hj hS.2.1 rfl (nClear (S.f j) (S.h j) (S.rm j))
  exact h.mono fun v m ⟨hv, hm⟩ => ⟨hv, _, S.upd_ok hS _ _ _ _ _ (hS.2.2 j hj).1 (Nat.zero_le _), rfl, hm⟩

theorem boxAck (S : BoxS) (hS : S.ok) (j : Nat) (hj : j < S.cores) (w : Int) : CallOK (O := Ob) PR n_mbox_Box_Ack [.ptr 0 0, .dv (.int .i64 j), .dv (.int .i64 w)] [.obj (boxO S)] fun v m => v = .dv (.int .i64 0) ∧ someBox S.cores m := by
  refine CallOK.exE 0 rfl fun bs => (xAck_w S.cores bs S.bits _ w j hj hS.2.1).mono fun v m ⟨hv, z, hm⟩ => ⟨hv, { S with bits := fun i => if i = j then z else S.bits i }, hS, rfl, hm⟩

theorem boxTake (S : BoxS) (hS : S.ok) (j : Nat) (hj : j < S.cores) : CallOK (O := Ob) PR n_mbox_Box_Take [.ptr 0 0, .dv (.int .i64 j)] [.obj (boxO S)] fun v m => (∃ x y e, v = .tup [.dv (.int .i64 x), .dv (.int .i64 y), .dv (.int .i64 e)]) ∧ someBox S.cores m := by
  obtain ⟨k1, k2⟩ := hS.2.2 j hj
  by_cases h0 : S.h j = 0
  · have ht := nTake_no (S.f j) (S.rm j)
    have h : CallOK (O := Ob) PR n_mbox_Box_Take [.ptr 0 0, .dv (.int .i64 j)] [.obj (boxO S)] fun v m => v = .tup [.dv (.int .i64 (std.bin .quo .i64 0 65536)), .dv (.int .i64 (std.bin .rem .i64 0 65536)), .dv (.int .i64 6)] ∧ m = [.obj (boxO (S.upd S.bits j (S.f j) 0 (S.rm j)))] := by
      rw [boxO_upd]
      exact CallOK.exE 0 rfl fun bs => xTake_w S.cores bs S.bits _ (nO (S.f j) 0 (S.rm j)) _ _ _ _ _ rfl rfl j hj hS.2.1 (by show nO (S.f j) (S.h j) (S.rm j) = _; rw [h0]) ht
    exact h.mono fun v m ⟨hv, hm⟩ => ⟨⟨_, _, _, hv⟩, _, S.upd_ok hS _ _ _ _ _ k1 (Nat.zero_le _), rfl, hm⟩
  · have ht := nTake (S.f j) (S.h j) (S.rm j) k1 (by omega) k2
    have h : CallOK (O := Ob) PR n_mbox_Box_Take [.ptr 0 0, .dv (.int .i64 j)] [.obj (boxO S)] fun v m => v = .tup [.dv (.int .i64 (std.bin .quo .i64 (S.rm j (S.f j)) 65536)), .dv (.int .i64 (std.bin .rem .i64 (S.rm j (S.f j)) 65536)), .dv (.int .i64 0)] ∧ m = [.obj (boxO (S.upd S.bits j ((S.f j + 1) % 16) (S.h j - 1) (S.rm j)))] := by
      rw [boxO_upd]
      exact CallOK.exE 0 rfl fun bs => xTake_w S.cores bs S.bits _ _ _ _ _ _ _ rfl rfl j hj hS.2.1 rfl ht
    exact h.mono fun v m ⟨hv, hm⟩ => ⟨⟨_, _, _, hv⟩, _, S.upd_ok hS _ _ _ _ _ (Nat.mod_lt _ (by omega)) (by omega), rfl, hm⟩

theorem word_in (w : Int) (hw : 0 ≤ w ∧ w ≤ 65535) : CallOK (O := Ob) PR n_wrap_Word [.dv (.int .i64 w)] [] fun v m => v = .dv (.int .i64 w) ∧ m = [] :=
  (ok_Word w).mono fun v m ⟨⟨x, hx, hv⟩, hm⟩ => ⟨by rw [hv, hx, Int.emod_eq_of_lt (by omega) (by omega)], hm⟩

theorem boxRing (S : BoxS) (hS : S.ok) (j i : Nat) (hj : j < S.cores) (hi : i < S.cores) (w : Int) (hw : 0 ≤ w ∧ w ≤ 65535) :
    CallOK (O := Ob) PR n_mbox_Box_Ring [.ptr 0 0, .dv (.int .i64 j), .dv (.int .i64 i), .dv (.int .i64 w)] [.obj (boxO S)] fun v m => (∃ e, v = .dv (.int .i64 e)) ∧ someBox S.cores m := by
  obtain ⟨k1, k2⟩ := hS.2.2 i hi
  by_cases h0 : S.h i = 16
  · have hp := nPut_no (S.f i) (S.rm i) ((j : Int) * 65536 + w) k1
    have h : CallOK (O := Ob) PR n_mbox_Box_Ring [.ptr 0 0, .dv (.int .i64 j), .dv (.int .i64 i), .dv (.int .i64 w)] [.obj (boxO S)] fun v m => v = .dv (.int .i64 5) ∧ m = [.obj (boxO (S.upd (fun k => if k = i then std.bin .or .i64 (S.bits i) (std.bin .shl .i64 1 j) else S.bits k) i (S.f i) 16 (S.rm i)))] := by
      rw [boxO_upd]
      exact CallOK.exE 0 rfl fun bs => xRing_w S.cores bs S.bits _ (nO (S.f i) 16 (S.rm i)) _ w 5 _ _ j i hj hi hS.2.1 (by show nO (S.f i) (S.h i) (S.rm i) = _; rw [h0]) hw rfl rfl (word_in w hw) hp
    exact h.mono fun v m ⟨hv, hm⟩ => ⟨⟨_, hv⟩, _, S.upd_ok hS _ _ _ _ _ k1 (Nat.le_refl _), rfl, hm⟩
  · have hp := nPut (S.f i) (S.h i) (S.rm i) ((j : Int) * 65536 + w) k1 (by omega)
    have h : CallOK (O := Ob) PR n_mbox_Box_Ring [.ptr 0 0, .dv (.int .i64 j), .dv (.int .i64 i), .dv (.int .i64 w)] [.obj (boxO S)] fun v m => v = .dv (.int .i64 0) ∧ m = [.obj (boxO (S.upd (fun k => if k = i then std.bin .or .i64 (S.bits i) (std.bin .shl .i64 1 j) else S.bits k) i (S.f i) (S.h i + 1) (fun k => if k = (S.f i + S.h i) % 16 then (j : Int) * 65536 + w else S.rm i k)))] := by
      rw [boxO_upd]
      exact CallOK.exE 0 rfl fun bs => xRing_w S.cores bs S.bits _ _ _ w 0 _ _ j i hj hi hS.2.1 rfl hw rfl rfl (word_in w hw) hp
    exact h.mono fun v m ⟨hv, hm⟩ => ⟨⟨_, hv⟩, _, S.upd_ok hS _ _ _ _ _ k1 (by omega), rfl, hm⟩

end Go.Proofs.YtiaceoomiflgcaaGreat

end
