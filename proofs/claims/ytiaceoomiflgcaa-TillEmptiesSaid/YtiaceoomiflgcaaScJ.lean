/-
  Walks: mailboxes, by what they hold.
-/
import Derived.Test.YtiaceoomiflgcaaSeIr
import Derived.Test.YtiaceoomiflgcaaSbO
section
namespace Go.Proofs.Ytiaceoomiflgcaa
open Go.V
set_option linter.unusedVariables false
set_option linter.unusedSimpArgs false
set_option maxRecDepth 100000
set_option maxHeartbeats 8000000

/-- A gate: so many cores; their epochs; which are held. -/
def gM (c : Nat) (ep : Nat → Int) (hd : Nat → Bool) : List (Chunk Ob) := [.blk [.one (.dv (.int .i64 (c : Int))), .arr 8 1 (fun i _ => .dv (.int .i64 (ep i))), .arr 8 1 (fun i _ => .dv (.bool (hd i)))]]
def gO (c : Nat) (ep : Nat → Int) (hd : Nat → Bool) : Ob := .mk (gM c ep hd)

theorem gEpoch_in (c : Nat) (ep : Nat → Int) (hd : Nat → Bool) (h8 : c ≤ 8) (j : Nat) (hj : j < c) : CallOK (O := Ob) PR n_gate_Gate_Epoch [.ptr 0 0, .dv (.int .i64 j)] [.obj (gO c ep hd)] fun v m => v = .tup [.dv (.int .i64 (ep j)), .dv (.int .i64 0)] ∧ m = [.obj (gO c ep hd)] := by
  refine fn_walkv mixed fn_gate_Gate_Epoch Ent.opn1 fun bin cmp un conv bnot beq band sel isel ofN toN inb nz nneg lt le room' slb add sub sbin scmp slen sget ssub addk pc pb pi pf ps mkok min_ ig aeq P hP hA hF Q hQ => ?_
  cbv
  repeat' first
    | ((refine call_inl hP mixed hA code_gate_Gate_wrong fn_gate_Gate_wrong ?_); cbv)
    | (refine Chk.mk trivial ?_; cbv)
    | (refine bc_true (by first | assumption | (simp (disch := omega) only [hF, natc, w64_in, shs]; first | done | assumption | omega | (simp only [natc] at *; omega))) ?_; cbv)
    | (refine bc_false (by first | assumption | (simp (disch := omega) only [hF, natc, w64_in, shs]; first | done | assumption | omega | (simp only [natc] at *; omega))) ?_; cbv)
    | (refine bc_split (fun h => ?_) (fun h => ?_) <;> (try simp (disch := omega) only [hF, natc, w64_in, shs] at h) <;> cbv)
    | (refine IdxVC.mk (by simp (disch := omega) only [hF, natc, w64_in, shs]; first | done | omega | (simp only [natc] at *; omega)) (fun kx hk hk2 => ?_); simp (disch := omega) only [hF, natc, w64_in, shs] at hk; (try obtain rfl : kx = 0 := hk); cbv)
    | (refine Chk.mk (by simp (disch := omega) only [maxN, hF, natc, w64_in, shs]; first | done | assumption | omega | (simp only [natc] at *; omega)) ?_; cbv)
    | (intro (hmx : _ ≤ maxN); replace hmx : _ ≤ 140737488355328 := hmx; cbv)
    | (intro _; cbv)
  subst hk; subst hQ
  exact leaf_obj (lmem := gM c ep hd) [] rfl rfl ⟨⟨rfl, ⟨rfl, rfl, fun _ _ _ _ => rfl⟩, ⟨rfl, rfl, fun _ _ _ _ => rfl⟩, trivial⟩, trivial⟩ rfl rfl ⟨rfl, rfl⟩

theorem gUp_in (c : Nat) (ep : Nat → Int) (hd : Nat → Bool) (h8 : c ≤ 8) (j : Nat) (hj : j < c) : CallOK (O := Ob) PR n_gate_Gate_Up [.ptr 0 0, .dv (.int .i64 j)] [.obj (gO c ep hd)] fun v m => v = .dv (.bool (!hd j)) ∧ m = [.obj (gO c ep hd)] := by
  refine fn_walkv mixed fn_gate_Gate_Up Ent.opn1 fun bin cmp un conv bnot beq band sel isel ofN toN inb nz nneg lt le room' slb add sub sbin scmp slen sget ssub addk pc pb pi pf ps mkok min_ ig aeq P hP hA hF Q hQ => ?_
  cbv
  repeat' first
    | ((refine call_inl hP mixed hA code_gate_Gate_wrong fn_gate_Gate_wrong ?_); cbv)
    | (refine Chk.mk trivial ?_; cbv)
    | (refine bc_true (by first | assumption | (simp (disch := omega) only [hF, natc, w64_in, shs]; first | done | assumption | omega | (simp only [natc] at *; omega))) ?_; cbv)
    | (refine bc_false (by first | assumption | (simp (disch := omega) only [hF, natc, w64_in, shs]; first | done | assumption | omega | (simp only [natc] at *; omega))) ?_; cbv)
    | (refine bc_split (fun h => ?_) (fun h => ?_) <;> (try simp (disch := omega) only [hF, natc, w64_in, shs] at h) <;> cbv)
    | (refine IdxVC.mk (by simp (disch := omega) only [hF, natc, w64_in, shs]; first | done | omega | (simp only [natc] at *; omega)) (fun kx hk hk2 => ?_); simp (disch := omega) only [hF, natc, w64_in, shs] at hk; (try obtain rfl : kx = 0 := hk); cbv)
    | (refine Chk.mk (by simp (disch := omega) only [maxN, hF, natc, w64_in, shs]; first | done | assumption | omega | (simp only [natc] at *; omega)) ?_; cbv)
    | (intro (hmx : _ ≤ maxN); replace hmx : _ ≤ 140737488355328 := hmx; cbv)
    | (intro _; cbv)
  have e : bnot (hd kx) = !hd kx := by simp only [hF]
  rw [e]
  subst hk; subst hQ
  exact leaf_obj (lmem := gM c ep hd) [] rfl rfl ⟨⟨rfl, ⟨rfl, rfl, fun _ _ _ _ => rfl⟩, ⟨rfl, rfl, fun _ _ _ _ => rfl⟩, trivial⟩, trivial⟩ rfl rfl ⟨rfl, rfl⟩

theorem updRow_one (g : Nat → DV) (k : Nat) (v : DV) (i : Nat) : updRow (fun i _ => .dv (g i)) k 0 [.dv v] i 0 = .dv (if i = k then v else g i) := by
  unfold updRow
  by_cases h : i = k <;> simp [h, lget]

theorem gNew (c : Nat) (h : 1 ≤ c ∧ c ≤ 8) : CallOK (O := Ob) PR n_gate_New [.dv (.int .i64 c)] [] fun v m => v = .ptr 0 0 ∧ m = [.obj (gO c (fun _ => 0) fun _ => false)] := by
  obtain ⟨h1, h8⟩ := h
  refine fn_walkv mixed fn_gate_New (Ent.refl _ _) fun bin cmp un conv bnot beq band sel isel ofN toN inb nz nneg lt le room' slb add sub sbin scmp slen sget ssub addk pc pb pi pf ps mkok min_ ig aeq P hP hA hF Q hQ => ?_
  cbv
  repeat' first
    | (refine Chk.mk trivial ?_; cbv)
    | (refine bc_true (by first | assumption | (simp (disch := omega) only [hF, natc, w64_in, shs]; first | done | assumption | omega | (simp only [natc] at *; omega))) ?_; cbv)
    | (refine bc_false (by first | assumption | (simp (disch := omega) only [hF, natc, w64_in, shs]; first | done | assumption | omega | (simp only [natc] at *; omega))) ?_; cbv)
    | (refine bc_split (fun h => ?_) (fun h => ?_) <;> (try simp (disch := omega) only [hF, natc, w64_in, shs] at h) <;> cbv)
    | (refine IdxVC.mk (by simp (disch := omega) only [hF, natc, w64_in, shs]; first | done | omega | (simp only [natc] at *; omega)) (fun kx hk hk2 => ?_); simp (disch := omega) only [hF, natc, w64_in, shs] at hk; (try obtain rfl : kx = 0 := hk); cbv)
    | (refine Chk.mk (by simp (disch := omega) only [maxN, hF, natc, w64_in, shs]; first | done | assumption | omega | (simp only [natc] at *; omega)) ?_; cbv)
    | (intro (hmx : _ ≤ maxN); replace hmx : _ ≤ 140737488355328 := hmx; cbv)
    | (intro _; cbv)
  subst hQ
  refine leaf_obj (lmem := gM c (fun _ => 0) fun _ => false) [] rfl rfl ⟨⟨rfl, ⟨rfl, rfl, fun i f hi hf => ?_⟩, ⟨rfl, rfl, fun i f hi hf => ?_⟩, trivial⟩, trivial⟩ rfl rfl ⟨rfl, rfl⟩
  all_goals
    obtain rfl : f = 0 := by omega
    rcases (by omega : i = 0 ∨ i = 1 ∨ i = 2 ∨ i = 3 ∨ i = 4 ∨ i = 5 ∨ i = 6 ∨ i = 7) with rfl | rfl | rfl | rfl | rfl | rfl | rfl | rfl <;> rfl

end Go.Proofs.Ytiaceoomiflgcaa

end

section
namespace Go.Proofs.Ytiaceoomiflgcaa
open Go.V
set_option linter.unusedVariables false
set_option linter.unusedSimpArgs false
set_option maxRecDepth 100000
set_option maxHeartbeats 8000000

/-- A bank of locks: so many cores, so many locks; the owners, one more than their numbers. -/
def kM (c n : Nat) (ow : Nat → Int) : List (Chunk Ob) := [.blk [.one (.dv (.int .i64 (c : Int))), .one (.dv (.int .i64 (n : Int))), .arr 16 1 (fun i _ => .dv (.int .i64 (ow i)))]]
def kO (c n : Nat) (ow : Nat → Int) : Ob := .mk (kM c n ow)

theorem leaf_k {c n : Nat} {ow : Nat → Int} {v : SV} {Q : SV → List (Chunk Ob) → Prop} (hu : VLe [0] v v) (hq : Q v [.obj (kO c n ow)]) : ∃ r' m', Ent 1 ⟨[v], kM c n ow⟩ ⟨[r'], m'⟩ ∧ Q r' m' :=
  leaf_obj (lmem := kM c n ow) [] rfl rfl ⟨⟨rfl, rfl, ⟨rfl, rfl, fun _ _ _ _ => rfl⟩, trivial⟩, trivial⟩ hu rfl hq

theorem kNew (c n : Nat) (h : 1 ≤ c ∧ c ≤ 8) (hn : 1 ≤ n ∧ n ≤ 16) : CallOK (O := Ob) PR n_locks_New [.dv (.int .i64 c), .dv (.int .i64 n)] [] fun v m => v = .ptr 0 0 ∧ m = [.obj (kO c n fun _ => 0)] := by
  obtain ⟨h1, h8⟩ := h
  obtain ⟨h2, h3⟩ := hn
  refine fn_walkv mixed fn_locks_New (Ent.refl _ _) fun bin cmp un conv bnot beq band sel isel ofN toN inb nz nneg lt le room' slb add sub sbin scmp slen sget ssub addk pc pb pi pf ps mkok min_ ig aeq P hP hA hF Q hQ => ?_
  cbv
  repeat' first
    | (refine Chk.mk trivial ?_; cbv)
    | (refine bc_true (by first | assumption | (simp (disch := omega) only [hF, natc, w64_in, shs]; first | done | assumption | omega | (simp only [natc] at *; omega))) ?_; cbv)
    | (refine bc_false (by first | assumption | (simp (disch := omega) only [hF, natc, w64_in, shs]; first | done | assumption | omega | (simp only [natc] at *; omega))) ?_; cbv)
    | (refine bc_split (fun h => ?_) (fun h => ?_) <;> (try simp (disch := omega) only [hF, natc, w64_in, shs] at h) <;> cbv)
    | (refine IdxVC.mk (by simp (disch := omega) only [hF, natc, w64_in, shs]; first | done | omega | (simp only [natc] at *; omega)) (fun kx hk hk2 => ?_); simp (disch := omega) only [hF, natc, w64_in, shs] at hk; (try obtain rfl : kx = 0 := hk); cbv)
    | (refine Chk.mk (by simp (disch := omega) only [maxN, hF, natc, w64_in, shs]; first | done | assumption | omega | (simp only [natc] at *; omega)) ?_; cbv)
    | (intro (hmx : _ ≤ maxN); replace hmx : _ ≤ 140737488355328 := hmx; cbv)
    | (intro _; cbv)
  subst hQ
  refine leaf_obj (lmem := kM c n fun _ => 0) [] rfl rfl ⟨⟨rfl, rfl, ⟨rfl, rfl, fun i f hi hf => ?_⟩, trivial⟩, trivial⟩ rfl rfl ⟨rfl, rfl⟩
  obtain rfl : f = 0 := by omega
  rcases (by omega : i = 0 ∨ i = 1 ∨ i = 2 ∨ i = 3 ∨ i = 4 ∨ i = 5 ∨ i = 6 ∨ i = 7 ∨ i = 8 ∨ i = 9 ∨ i = 10 ∨ i = 11 ∨ i = 12 ∨ i = 13 ∨ i = 14 ∨ i = 15) with rfl | rfl | rfl | rfl | rfl | rfl | rfl | rfl | rfl | rfl | rfl | rfl | rfl | rfl | rfl | rfl <;> rfl

theorem kOwner (c n : Nat) (ow : Nat → Int) (hn : n ≤ 16) (i : Nat) (hi : i < n) (hz : 0 ≤ ow i ∧ ow i ≤ 100) : CallOK (O := Ob) PR n_locks_Bank_Owner [.ptr 0 0, .dv (.int .i64 i)] [.obj (kO c n ow)] fun v m => v = .tup [.dv (.int .i64 (ow i - 1)), .dv (.int .i64 0)] ∧ m = [.obj (kO c n ow)] := by
  obtain ⟨z0, z1⟩ := hz
  refine fn_walkv mixed fn_locks_Bank_Owner Ent.opn1 fun bin cmp un conv bnot beq band sel isel ofN toN inb nz nneg lt le room' slb add sub sbin scmp slen sget ssub addk pc pb pi pf ps mkok min_ ig aeq P hP hA hF Q hQ => ?_
  have hs : bin .sub .i64 (ow i) 1 = ow i - 1 := by simp (disch := omega) only [hF, natc, w64_in]
  cbv
  repeat' first
    | ((refine call_inl hP mixed hA code_locks_Bank_lock fn_locks_Bank_lock ?_); cbv)
    | ((rw [hs]); cbv)
    | (refine Chk.mk trivial ?_; cbv)
    | (refine bc_true (by first | assumption | (simp (disch := omega) only [hF, natc, w64_in, shs]; first | done | assumption | omega | (simp only [natc] at *; omega))) ?_; cbv)
    | (refine bc_false (by first | assumption | (simp (disch := omega) only [hF, natc, w64_in, shs]; first | done | assumption | omega | (simp only [natc] at *; omega))) ?_; cbv)
    | (refine bc_split (fun h => ?_) (fun h => ?_) <;> (try simp (disch := omega) only [hF, natc, w64_in, shs] at h) <;> cbv)
    | (refine IdxVC.mk (by simp (disch := omega) only [hF, natc, w64_in, shs]; first | done | omega | (simp only [natc] at *; omega)) (fun kx hk hk2 => ?_); simp (disch := omega) only [hF, natc, w64_in, shs] at hk; (try obtain rfl : kx = 0 := hk); (try obtain rfl : i = kx := hk.symm); cbv)
    | (refine Chk.mk (by simp (disch := omega) only [maxN, hF, natc, w64_in, shs]; first | done | assumption | omega | (simp only [natc] at *; omega)) ?_; cbv)
    | (intro (hmx : _ ≤ maxN); replace hmx : _ ≤ 140737488355328 := hmx; cbv)
    | (intro _; cbv)
  subst hQ
  exact leaf_k rfl ⟨rfl, rfl⟩

theorem kTry0 (c n : Nat) (ow : Nat → Int) (h8 : c ≤ 8) (hn : n ≤ 16) (j i : Nat) (hj : j < c) (hi : i < n) (hz : ow i = 0) : CallOK (O := Ob) PR n_locks_Bank_Try [.ptr 0 0, .dv (.int .i64 j), .dv (.int .i64 i)] [.obj (kO c n ow)]
    fun v m => v = .tup [.dv (.bool true), .dv (.int .i64 0)] ∧ m = [.obj (kO c n fun k => if k = i then (j : Int) + 1 else ow k)] := by
  refine fn_walkv mixed fn_locks_Bank_Try Ent.opn1 fun bin cmp un conv bnot beq band sel isel ofN toN inb nz nneg lt le room' slb add sub sbin scmp slen sget ssub addk pc pb pi pf ps mkok min_ ig aeq P hP hA hF Q hQ => ?_
  have hg : cmp .neq (ow i) 0 = false := by simp only [hF, hz]; rfl
  have hs : bin .add .i64 (Int.ofNat j) 1 = (j : Int) + 1 := by
    simp only [hF]
    rw [w64_in (by simp only [Int.ofNat_eq_natCast]; omega)]
    rfl
  cbv
  repeat' first
    | ((refine call_inl hP mixed hA code_locks_Bank_both fn_locks_Bank_both ?_); cbv)
    | ((refine call_inl hP mixed hA code_locks_Bank_core fn_locks_Bank_core ?_); cbv)
    | ((refine call_inl hP mixed hA code_locks_Bank_lock fn_locks_Bank_lock ?_); cbv)
    | ((rw [hg]); cbv)
    | ((rw [hs]); cbv)
    | (refine Chk.mk trivial ?_; cbv)
    | (refine bc_true (by first | assumption | (simp (disch := omega) only [hF, natc, w64_in, shs]; first | done | assumption | omega | (simp only [natc] at *; omega))) ?_; cbv)
    | (refine bc_false (by first | assumption | (simp (disch := omega) only [hF, natc, w64_in, shs]; first | done | assumption | omega | (simp only [natc] at *; omega))) ?_; cbv)
    | (refine bc_split (fun h => ?_) (fun h => ?_) <;> (try simp (disch := omega) only [hF, natc, w64_in, shs] at h) <;> cbv)
    | (refine IdxVC.mk (by simp (disch := omega) only [hF, natc, w64_in, shs]; first | done | omega | (simp only [natc] at *; omega)) (fun kx hk hk2 => ?_); simp (disch := omega) only [hF, natc, w64_in, shs] at hk; (try obtain rfl : kx = 0 := hk); (try obtain rfl : i = kx := hk.symm); cbv)
    | (refine Chk.mk (by simp (disch := omega) only [maxN, hF, natc, w64_in, shs]; first | done | assumption | omega | (simp only [natc] at *; omega)) ?_; cbv)
    | (intro (hmx : _ ≤ maxN); replace hmx : _ ≤ 140737488355328 := hmx; cbv)
    | (intro _; cbv)
  subst hQ
  refine leaf_obj (lmem := kM c n fun k => if k = i then (j : Int) + 1 else ow k) [] rfl rfl ⟨⟨rfl, rfl, ⟨rfl, rfl, fun k f hk hf => ?_⟩, trivial⟩, trivial⟩ rfl rfl ⟨rfl, rfl⟩
  obtain rfl : f = 0 := by omega
  rw [updRow_one (fun i => .int .i64 (ow i))]
  split
  · subst_vars; simp only [if_true]; rfl
  · rename_i h; simp only [if_neg h]; rfl

theorem kTry1 (c n : Nat) (ow : Nat → Int) (h8 : c ≤ 8) (hn : n ≤ 16) (j i : Nat) (hj : j < c) (hi : i < n) (hz : ow i ≠ 0) : CallOK (O := Ob) PR n_locks_Bank_Try [.ptr 0 0, .dv (.int .i64 j), .dv (.int .i64 i)] [.obj (kO c n ow)]
    fun v m => v = .tup [.dv (.bool false), .dv (.int .i64 0)] ∧ m = [.obj (kO c n ow)] := by
  refine fn_walkv mixed fn_locks_Bank_Try Ent.opn1 fun bin cmp un conv bnot beq band sel isel ofN toN inb nz nneg lt le room' slb add sub sbin scmp slen sget ssub addk pc pb pi pf ps mkok min_ ig aeq P hP hA hF Q hQ => ?_
  have hg : cmp .neq (ow i) 0 = true := by simp only [hF, decide_eq_true_eq]; exact hz
  cbv
  repeat' first
    | ((refine call_inl hP mixed hA code_locks_Bank_both fn_locks_Bank_both ?_); cbv)
    | ((refine call_inl hP mixed hA code_locks_Bank_core fn_locks_Bank_core ?_); cbv)
    | ((refine call_inl hP mixed hA code_locks_Bank_lock fn_locks_Bank_lock ?_); cbv)
    | ((rw [hg]); cbv)
    | (refine Chk.mk trivial ?_; cbv)
    | (refine bc_true (by first | assumption | (simp (disch := omega) only [hF, natc, w64_in, shs]; first | done | assumption | omega | (simp only [natc] at *; omega))) ?_; cbv)
    | (refine bc_false (by first | assumption | (simp (disch := omega) only [hF, natc, w64_in, shs]; first | done | assumption | omega | (simp only [natc] at *; omega))) ?_; cbv)
    | (refine bc_split (fun h => ?_) (fun h => ?_) <;> (try simp (disch := omega) only [hF, natc, w64_in, shs] at h) <;> cbv)
    | (refine IdxVC.mk (by simp (disch := omega) only [hF, natc, w64_in, shs]; first | done | omega | (simp only [natc] at *; omega)) (fun kx hk hk2 => ?_); simp (disch := omega) only [hF, natc, w64_in, shs] at hk; (try obtain rfl : kx = 0 := hk); (try obtain rfl : i = kx := hk.symm); cbv)
    | (refine Chk.mk (by simp (disch := omega) only [maxN, hF, natc, w64_in, shs]; first | done | assumption | omega | (simp only [natc] at *; omega)) ?_; cbv)
    | (intro (hmx : _ ≤ maxN); replace hmx : _ ≤ 140737488355328 := hmx; cbv)
    | (intro _; cbv)
  subst hQ
  exact leaf_k rfl ⟨rfl, rfl⟩

theorem kFree (c n : Nat) (ow : Nat → Int) (h8 : c ≤ 8) (hn : n ≤ 16) (j i : Nat) (hj : j < c) (hi : i < n) (hz : ow i = (j : Int) + 1) : CallOK (O := Ob) PR n_locks_Bank_Free [.ptr 0 0, .dv (.int .i64 j), .dv (.int .i64 i)] [.obj (kO c n ow)]
    fun v m => v = .dv (.int .i64 0) ∧ m = [.obj (kO c n fun k => if k = i then 0 else ow k)] := by
  refine fn_walkv mixed fn_locks_Bank_Free Ent.opn1 fun bin cmp un conv bnot beq band sel isel ofN toN inb nz nneg lt le room' slb add sub sbin scmp slen sget ssub addk pc pb pi pf ps mkok min_ ig aeq P hP hA hF Q hQ => ?_
  have hs : bin .add .i64 (Int.ofNat j) 1 = (j : Int) + 1 := by
    simp only [hF]
    rw [w64_in (by simp only [Int.ofNat_eq_natCast]; omega)]
    rfl
  have hg : cmp .neq (ow i) (bin .add .i64 (Int.ofNat j) 1) = false := by rw [hs, hz]; simp only [hF]; simp
  cbv
  repeat' first
    | ((refine call_inl hP mixed hA code_locks_Bank_both fn_locks_Bank_both ?_); cbv)
    | ((refine call_inl hP mixed hA code_locks_Bank_core fn_locks_Bank_core ?_); cbv)
    | ((refine call_inl hP mixed hA code_locks_Bank_lock fn_locks_Bank_lock ?_); cbv)
    | ((rw [hg]); cbv)
    | (refine Chk.mk trivial ?_; cbv)
    | (refine bc_true (by first | assumption | (simp (disch := omega) only [hF, natc, w64_in, shs]; first | done | assumption | omega | (simp only [natc] at *; omega))) ?_; cbv)
    | (refine bc_false (by first | assumption | (simp (disch := omega) only [hF, natc, w64_in, shs]; first | done | assumption | omega | (simp only [natc] at *; omega))) ?_; cbv)
    | (refine bc_split (fun h => ?_) (fun h => ?_) <;> (try simp (disch := omega) only [hF, natc, w64_in, shs] at h) <;> cbv)
    | (refine IdxVC.mk (by simp (disch := omega) only [hF, natc, w64_in, shs]; first | done | omega | (simp only [natc] at *; omega)) (fun kx hk hk2 => ?_); simp (disch := omega) only [hF, natc, w64_in, shs] at hk; (try obtain rfl : kx = 0 := hk); (try obtain rfl : i = kx := hk.symm); cbv)
    | (refine Chk.mk (by simp (disch := omega) only [maxN, hF, natc, w64_in, shs]; first | done | assumption | omega | (simp only [natc] at *; omega)) ?_; cbv)
    | (intro (hmx : _ ≤ maxN); replace hmx : _ ≤ 140737488355328 := hmx; cbv)
    | (intro _; cbv)
  subst hQ
  refine leaf_obj (lmem := kM c n fun k => if k = i then 0 else ow k) [] rfl rfl ⟨⟨rfl, rfl, ⟨rfl, rfl, fun k f hk hf => ?_⟩, trivial⟩, trivial⟩ rfl rfl ⟨rfl, rfl⟩
  obtain rfl : f = 0 := by omega
  rw [updRow_one (fun i => .int .i64 (ow i))]
  split
  · subst_vars; simp only [if_true]; rfl
  · rename_i h; simp only [if_neg h]; rfl

end Go.Proofs.Ytiaceoomiflgcaa

end

section
namespace Go.Proofs.Ytiaceoomiflgcaa
open Go.V
set_option linter.unusedVariables false
set_option linter.unusedSimpArgs false
set_option maxRecDepth 100000
set_option maxHeartbeats 8000000

end Go.Proofs.Ytiaceoomiflgcaa

end

section
namespace Go.Proofs.Ytiaceoomiflgcaa
open Go.V
set_option linter.unusedVariables false
set_option linter.unusedSimpArgs false
set_option maxRecDepth 100000
set_option maxHeartbeats 8000000

/-- A lane of sixteen: where it begins, how many it has; its room. -/
def nM (f h : Nat) (rm : Nat → Int) : List (Chunk Ob) := [.blk [.one (.vec 1), .one (.dv (.int .i64 (f : Int))), .one (.dv (.int .i64 (h : Int)))], .vec 16 1 (fun i _ => .dv (.int .i64 (rm i)))]
def nO (f h : Nat) (rm : Nat → Int) : Ob := .mk (nM f h rm)

theorem nNew : CallOK (O := Ob) PR n_lane_New [.dv (.int .i64 16)] [] fun v m => v = .ptr 0 0 ∧ m = [.obj (nO 0 0 fun _ => 0)] := by
  refine fn_walkv mixed fn_lane_New (Ent.refl _ _) fun bin cmp un conv bnot beq band sel isel ofN toN inb nz nneg lt le room' slb add sub sbin scmp slen sget ssub addk pc pb pi pf ps mkok min_ ig aeq P hP hA hF Q hQ => ?_
  have hmk : mkok 16 16 8 := by
    have e : mkok = std.mkok := congrArg Ar.mkok hA
    rw [e]
    show _ ∧ _ ∧ _ ≤ ((140737488355328 : Nat) : Int) ∧ _
    refine ⟨rfl, ?_, ?_, ?_⟩ <;> omega
  cbv
  repeat' first
    | ((refine Chk.mk hmk ?_); cbv)
    | (refine Chk.mk trivial ?_; cbv)
    | (refine bc_true (by first | assumption | (simp (disch := omega) only [hF, natc, w64_in, shs]; first | done | assumption | omega | (simp only [natc] at *; omega))) ?_; cbv)
    | (refine bc_false (by first | assumption | (simp (disch := omega) only [hF, natc, w64_in, shs]; first | done | assumption | omega | (simp only [natc] at *; omega))) ?_; cbv)
    | (refine bc_split (fun h => ?_) (fun h => ?_) <;> (try simp (disch := omega) only [hF, natc, w64_in, shs] at h) <;> cbv)
    | (refine IdxVC.mk (by simp (disch := omega) only [hF, natc, w64_in, shs]; first | done | omega | (simp only [natc] at *; omega)) (fun kx hk hk2 => ?_); simp (disch := omega) only [hF, natc, w64_in, shs] at hk; (try obtain rfl : kx = 0 := hk); cbv)
    | (refine Chk.mk (by simp (disch := omega) only [maxN, hF, natc, w64_in, shs]; first | done | assumption | omega | (simp only [natc] at *; omega)) ?_; cbv)
    | (intro (hmx : _ ≤ maxN); replace hmx : _ ≤ 140737488355328 := hmx; cbv)
    | (intro _; cbv)
  subst hQ
  refine ⟨.ptr 0 0, [.obj (nO 0 0 fun _ => 0)], ?_, rfl, rfl⟩
  refine (Ent.ren (s' := ⟨[.ptr 0 0], nM 0 0 fun _ => 0⟩) [1, 0] rfl rfl ?_ ?_).trans (Ent.cls1 (env' := [.ptr 0 0]) [1] (nM 0 0 fun _ => 0) rfl rfl ⟨⟨rfl, rfl, rfl, trivial⟩, ⟨rfl, rfl, fun _ _ _ _ => rfl⟩, trivial⟩ ⟨rfl, trivial⟩)
  · refine ⟨⟨rfl, rfl, rfl, trivial⟩, ⟨by simp only [hF]; rfl, rfl, fun i f hi hf => ?_⟩, trivial⟩
    obtain rfl : f = 0 := by omega
    rfl
  · exact ⟨rfl, trivial⟩

end Go.Proofs.Ytiaceoomiflgcaa

end

section
namespace Go.Proofs.Ytiaceoomiflgcaa
open Go.V
set_option linter.unusedVariables false
set_option linter.unusedSimpArgs false
set_option maxRecDepth 100000
set_option maxHeartbeats 8000000

theorem ok_below (x y : Int) : CallOK (O := Ob) PR n_site_below [.dv (.int .i64 x), .dv (.int .i64 y)] [] fun v m => v = .dv (.bool (decide (0 ≤ x ∧ x < y))) ∧ m = [] := by
  by_cases h : 0 ≤ x ∧ x < y
  · rw [decide_eq_true h]
    obtain ⟨h0, h1⟩ := h
    refine fn_walkv mixed fn_site_below (Ent.refl _ _) fun bin cmp un conv bnot beq band sel isel ofN toN inb nz nneg lt le room' slb add sub sbin scmp slen sget ssub addk pc pb pi pf ps mkok min_ ig aeq P hP hA hF Q hQ => ?_
    have hc : cmp .lss x y = true := by simp only [hF, decide_eq_true_eq]; exact h1
    cbv
    repeat' first
      | ((rw [hc]); cbv)
      | (refine Chk.mk trivial ?_; cbv)
      | (refine bc_true (by first | assumption | (simp (disch := omega) only [hF, natc, w64_in, shs]; first | done | assumption | omega | (simp only [natc] at *; omega))) ?_; cbv)
      | (refine bc_false (by first | assumption | (simp (disch := omega) only [hF, natc, w64_in, shs]; first | done | assumption | omega | (simp only [natc] at *; omega))) ?_; cbv)
      | (refine bc_split (fun h => ?_) (fun h => ?_) <;> (try simp (disch := omega) only [hF, natc, w64_in, shs] at h) <;> cbv)
    subst hQ; exact leaf_data rfl rfl ⟨rfl, rfl⟩
  · rw [decide_eq_false h]
    by_cases h0 : 0 ≤ x
    · refine fn_walkv mixed fn_site_below (Ent.refl _ _) fun bin cmp un conv bnot beq band sel isel ofN toN inb nz nneg lt le room' slb add sub sbin scmp slen sget ssub addk pc pb pi pf ps mkok min_ ig aeq P hP hA hF Q hQ => ?_
      have hc : cmp .lss x y = false := by simp only [hF, decide_eq_false_iff_not]; omega
      cbv
      repeat' first
        | ((rw [hc]); cbv)
        | (refine Chk.mk trivial ?_; cbv)
        | (refine bc_true (by first | assumption | (simp (disch := omega) only [hF, natc, w64_in, shs]; first | done | assumption | omega | (simp only [natc] at *; omega))) ?_; cbv)
        | (refine bc_false (by first | assumption | (simp (disch := omega) only [hF, natc, w64_in, shs]; first | done | assumption | omega | (simp only [natc] at *; omega))) ?_; cbv)
        | (refine bc_split (fun h => ?_) (fun h => ?_) <;> (try simp (disch := omega) only [hF, natc, w64_in, shs] at h) <;> cbv)
      subst hQ; exact leaf_data rfl rfl ⟨rfl, rfl⟩
    · refine fn_walkv mixed fn_site_below (Ent.refl _ _) fun bin cmp un conv bnot beq band sel isel ofN toN inb nz nneg lt le room' slb add sub sbin scmp slen sget ssub addk pc pb pi pf ps mkok min_ ig aeq P hP hA hF Q hQ => ?_
      cbv
      repeat' first
        | (refine Chk.mk trivial ?_; cbv)
        | (refine bc_true (by first | assumption | (simp (disch := omega) only [hF, natc, w64_in, shs]; first | done | assumption | omega | (simp only [natc] at *; omega))) ?_; cbv)
        | (refine bc_false (by first | assumption | (simp (disch := omega) only [hF, natc, w64_in, shs]; first | done | assumption | omega | (simp only [natc] at *; omega))) ?_; cbv)
        | (refine bc_split (fun h => ?_) (fun h => ?_) <;> (try simp (disch := omega) only [hF, natc, w64_in, shs] at h) <;> cbv)
      subst hQ; exact leaf_data rfl rfl ⟨rfl, rfl⟩

/-- A plan that may be. -/
theorem ok_Right (c n k : Int) : CallOK (O := Ob) PR n_site_Right [.agg [.dv (.int .i64 c), .dv (.int .i64 n), .dv (.int .i64 k)]] []
    fun v m => v = .dv (.bool (decide ((0 ≤ IntKind.i64.wrap (c - 1) ∧ IntKind.i64.wrap (c - 1) < 8) ∧ (0 ≤ IntKind.i64.wrap (n - 1) ∧ IntKind.i64.wrap (n - 1) < 65536) ∧ 0 ≤ IntKind.i64.wrap (k - 1) ∧ IntKind.i64.wrap (k - 1) < 16))) ∧ m = [] := by
  have h1 := ok_below (IntKind.i64.wrap (c - 1)) 8
  have h2 := ok_below (IntKind.i64.wrap (n - 1)) 65536
  have h3 := ok_below (IntKind.i64.wrap (k - 1)) 16
  obtain ⟨x1, e1⟩ : ∃ x, x = IntKind.i64.wrap (c - 1) := ⟨_, rfl⟩
  obtain ⟨x2, e2⟩ : ∃ x, x = IntKind.i64.wrap (n - 1) := ⟨_, rfl⟩
  obtain ⟨x3, e3⟩ : ∃ x, x = IntKind.i64.wrap (k - 1) := ⟨_, rfl⟩
  rw [← e1] at h1 ⊢; rw [← e2] at h2 ⊢; rw [← e3] at h3 ⊢
  obtain ⟨b1, d1⟩ : ∃ b, b = decide (0 ≤ x1 ∧ x1 < 8) := ⟨_, rfl⟩
  obtain ⟨b2, d2⟩ : ∃ b, b = decide (0 ≤ x2 ∧ x2 < 65536) := ⟨_, rfl⟩
  obtain ⟨b3, d3⟩ : ∃ b, b = decide (0 ≤ x3 ∧ x3 < 16) := ⟨_, rfl⟩
  rw [← d1] at h1; rw [← d2] at h2; rw [← d3] at h3
  have e : decide ((0 ≤ x1 ∧ x1 < 8) ∧ (0 ≤ x2 ∧ x2 < 65536) ∧ 0 ≤ x3 ∧ x3 < 16) = (b1 && (b2 && b3)) := by rw [d1, d2, d3, ← Bool.decide_and, ← Bool.decide_and]
  rw [e]
  clear e d1 d2 d3
  cases b1 <;> cases b2 <;> cases b3
  all_goals
    refine fn_walkv mixed fn_site_Right (Ent.refl _ _) fun bin cmp un conv bnot beq band sel isel ofN toN inb nz nneg lt le room' slb add sub sbin scmp slen sget ssub addk pc pb pi pf ps mkok min_ ig aeq P hP hA hF Q hQ => ?_
    have s1 : bin .sub .i64 c 1 = x1 := by rw [e1]; simp only [hF]
    have s2 : bin .sub .i64 n 1 = x2 := by rw [e2]; simp only [hF]
    have s3 : bin .sub .i64 k 1 = x3 := by rw [e3]; simp only [hF]
    clear e1 e2 e3
    cbv
    repeat' first
      | ((rw [s1]); cbv)
      | ((rw [s2]); cbv)
      | ((rw [s3]); cbv)
      | (refine call_pure hP code_site_below (h1) ?_ ?_; (focus (cbv; (try simp); done)); rintro _ rfl; cbv)
      | (refine call_pure hP code_site_below (h2) ?_ ?_; (focus (cbv; (try simp); done)); rintro _ rfl; cbv)
      | (refine call_pure hP code_site_below (h3) ?_ ?_; (focus (cbv; (try simp); done)); rintro _ rfl; cbv)
      | (refine Chk.mk trivial ?_; cbv)
      | (refine bc_true (by first | assumption | (simp (disch := omega) only [hF, natc, w64_in, shs]; first | done | assumption | omega | (simp only [natc] at *; omega))) ?_; cbv)
      | (refine bc_false (by first | assumption | (simp (disch := omega) only [hF, natc, w64_in, shs]; first | done | assumption | omega | (simp only [natc] at *; omega))) ?_; cbv)
      | (refine bc_split (fun h => ?_) (fun h => ?_) <;> (try simp (disch := omega) only [hF, natc, w64_in, shs] at h) <;> cbv)
    subst hQ; exact leaf_data rfl rfl ⟨rfl, rfl⟩

theorem right_in (c n k : Int) (hc : 1 ≤ c ∧ c ≤ 8) (hn : 1 ≤ n ∧ n ≤ 65536) (hk : 1 ≤ k ∧ k ≤ 16) : CallOK (O := Ob) PR n_site_Right [.agg [.dv (.int .i64 c), .dv (.int .i64 n), .dv (.int .i64 k)]] [] fun v m => v = .dv (.bool true) ∧ m = [] := by
  have h := ok_Right c n k
  rw [w64_in (n := c - 1) (by omega), w64_in (n := n - 1) (by omega), w64_in (n := k - 1) (by omega), decide_eq_true (by omega)] at h
  exact h

theorem enc1 (c n k z : Int) (hc : 1 ≤ c ∧ c ≤ 8) (hn : 1 ≤ n ∧ n ≤ 65536) (hk : 1 ≤ k ∧ k ≤ 16) :
    CallOK (O := Ob) PR n_site_Encode [.agg [.dv (.int .i64 c), .dv (.int .i64 n), .dv (.int .i64 k)], .agg [.dv (.int .i64 1), .dv (.int .i64 0), .dv (.int .i64 z)]] []
      fun v m => (∃ w, v = .tup [.dv (.int .i64 w), .dv (.bool (decide (0 ≤ z ∧ z < n)))]) ∧ m = [] := by
  have hr := right_in c n k hc hn hk
  have hb := ok_below z n
  clear hc hn hk
  generalize decide (0 ≤ z ∧ z < n) = b at hb ⊢
  cases b
  all_goals
    refine fn_walkv mixed fn_site_Encode (Ent.refl _ _) fun bin cmp un conv bnot beq band sel isel ofN toN inb nz nneg lt le room' slb add sub sbin scmp slen sget ssub addk pc pb pi pf ps mkok min_ ig aeq P hP hA hF Q hQ => ?_
    cbv
    repeat' first
      | (refine call_pure hP code_site_below (hb) ?_ ?_; (focus (cbv; (try simp); done)); rintro _ rfl; cbv)
      | (refine call_pure hP code_site_Right (hr) ?_ ?_; (focus (cbv; (try simp); done)); rintro _ rfl; cbv)
      | ((refine And.intro ?_ ?_); cbv)
      | (refine Chk.mk trivial ?_; cbv)
      | (refine bc_true (by first | assumption | (simp (disch := omega) only [hF, natc, w64_in, shs]; first | done | assumption | omega | (simp only [natc] at *; omega))) ?_; cbv)
      | (refine bc_false (by first | assumption | (simp (disch := omega) only [hF, natc, w64_in, shs]; first | done | assumption | omega | (simp only [natc] at *; omega))) ?_; cbv)
      | (refine bc_split (fun h => ?_) (fun h => ?_) <;> (try simp (disch := omega) only [hF, natc, w64_in, shs] at h) <;> cbv)
    subst hQ; exact leaf_data rfl rfl ⟨⟨_, rfl⟩, rfl⟩

theorem enc2 (c n k y z : Int) (hc : 1 ≤ c ∧ c ≤ 8) (hn : 1 ≤ n ∧ n ≤ 65536) (hk : 1 ≤ k ∧ k ≤ 16) :
    CallOK (O := Ob) PR n_site_Encode [.agg [.dv (.int .i64 c), .dv (.int .i64 n), .dv (.int .i64 k)], .agg [.dv (.int .i64 2), .dv (.int .i64 y), .dv (.int .i64 z)]] []
      fun v m => (∃ w, v = .tup [.dv (.int .i64 w), .dv (.bool (decide (0 ≤ y ∧ y < c) && decide (0 ≤ z ∧ z < 3)))]) ∧ m = [] := by
  have hr := right_in c n k hc hn hk
  have hb := ok_below y c
  have hb2 := ok_below z 3
  clear hc hn hk
  generalize decide (0 ≤ y ∧ y < c) = b at hb ⊢
  generalize decide (0 ≤ z ∧ z < 3) = b2 at hb2 ⊢
  cases b <;> cases b2
  all_goals
    refine fn_walkv mixed fn_site_Encode (Ent.refl _ _) fun bin cmp un conv bnot beq band sel isel ofN toN inb nz nneg lt le room' slb add sub sbin scmp slen sget ssub addk pc pb pi pf ps mkok min_ ig aeq P hP hA hF Q hQ => ?_
    cbv
    repeat' first
      | (refine call_pure hP code_site_below (hb) ?_ ?_; (focus (cbv; (try simp); done)); rintro _ rfl; cbv)
      | (refine call_pure hP code_site_below (hb2) ?_ ?_; (focus (cbv; (try simp); done)); rintro _ rfl; cbv)
      | (refine call_pure hP code_site_Right (hr) ?_ ?_; (focus (cbv; (try simp); done)); rintro _ rfl; cbv)
      | ((refine And.intro ?_ ?_); cbv)
      | (refine Chk.mk trivial ?_; cbv)
      | (refine bc_true (by first | assumption | (simp (disch := omega) only [hF, natc, w64_in, shs]; first | done | assumption | omega | (simp only [natc] at *; omega))) ?_; cbv)
      | (refine bc_false (by first | assumption | (simp (disch := omega) only [hF, natc, w64_in, shs]; first | done | assumption | omega | (simp only [natc] at *; omega))) ?_; cbv)
      | (refine bc_split (fun h => ?_) (fun h => ?_) <;> (try simp (disch := omega) only [hF, natc, w64_in, shs] at h) <;> cbv)
    all_goals (subst hQ; exact leaf_data rfl rfl ⟨⟨_, rfl⟩, rfl⟩)

theorem enc3 (c n k y : Int) (hc : 1 ≤ c ∧ c ≤ 8) (hn : 1 ≤ n ∧ n ≤ 65536) (hk : 1 ≤ k ∧ k ≤ 16) :
    CallOK (O := Ob) PR n_site_Encode [.agg [.dv (.int .i64 c), .dv (.int .i64 n), .dv (.int .i64 k)], .agg [.dv (.int .i64 3), .dv (.int .i64 y), .dv (.int .i64 0)]] []
      fun v m => (∃ w, v = .tup [.dv (.int .i64 w), .dv (.bool (decide (0 ≤ y ∧ y < k)))]) ∧ m = [] := by
  have hr := right_in c n k hc hn hk
  have hb := ok_below y k
  clear hc hn hk
  generalize decide (0 ≤ y ∧ y < k) = b at hb ⊢
  cases b
  all_goals
    refine fn_walkv mixed fn_site_Encode (Ent.refl _ _) fun bin cmp un conv bnot beq band sel isel ofN toN inb nz nneg lt le room' slb add sub sbin scmp slen sget ssub addk pc pb pi pf ps mkok min_ ig aeq P hP hA hF Q hQ => ?_
    cbv
    repeat' first
      | (refine call_pure hP code_site_below (hb) ?_ ?_; (focus (cbv; (try simp); done)); rintro _ rfl; cbv)
      | (refine call_pure hP code_site_Right (hr) ?_ ?_; (focus (cbv; (try simp); done)); rintro _ rfl; cbv)
      | ((refine And.intro ?_ ?_); cbv)
      | (refine Chk.mk trivial ?_; cbv)
      | (refine bc_true (by first | assumption | (simp (disch := omega) only [hF, natc, w64_in, shs]; first | done | assumption | omega | (simp only [natc] at *; omega))) ?_; cbv)
      | (refine bc_false (by first | assumption | (simp (disch := omega) only [hF, natc, w64_in, shs]; first | done | assumption | omega | (simp only [natc] at *; omega))) ?_; cbv)
      | (refine bc_split (fun h => ?_) (fun h => ?_) <;> (try simp (disch := omega) only [hF, natc, w64_in, shs] at h) <;> cbv)
    all_goals (subst hQ; exact leaf_data rfl rfl ⟨⟨_, rfl⟩, rfl⟩)

theorem enc4 (c n k y : Int) (hc : 1 ≤ c ∧ c ≤ 8) (hn : 1 ≤ n ∧ n ≤ 65536) (hk : 1 ≤ k ∧ k ≤ 16) :
    CallOK (O := Ob) PR n_site_Encode [.agg [.dv (.int .i64 c), .dv (.int .i64 n), .dv (.int .i64 k)], .agg [.dv (.int .i64 4), .dv (.int .i64 y), .dv (.int .i64 0)]] []
      fun v m => (∃ w, v = .tup [.dv (.int .i64 w), .dv (.bool (decide (0 ≤ y ∧ y < c)))]) ∧ m = [] := by
  have hr := right_in c n k hc hn hk
  have hb := ok_below y c
  clear hc hn hk
  generalize decide (0 ≤ y ∧ y < c) = b at hb ⊢
  cases b
  all_goals
    refine fn_walkv mixed fn_site_Encode (Ent.refl _ _) fun bin cmp un conv bnot beq band sel isel ofN toN inb nz nneg lt le room' slb add sub sbin scmp slen sget ssub addk pc pb pi pf ps mkok min_ ig aeq P hP hA hF Q hQ => ?_
    cbv
    repeat' first
      | (refine call_pure hP code_site_below (hb) ?_ ?_; (focus (cbv; (try simp); done)); rintro _ rfl; cbv)
      | (refine call_pure hP code_site_Right (hr) ?_ ?_; (focus (cbv; (try simp); done)); rintro _ rfl; cbv)
      | ((refine And.intro ?_ ?_); cbv)
      | (refine Chk.mk trivial ?_; cbv)
      | (refine bc_true (by first | assumption | (simp (disch := omega) only [hF, natc, w64_in, shs]; first | done | assumption | omega | (simp only [natc] at *; omega))) ?_; cbv)
      | (refine bc_false (by first | assumption | (simp (disch := omega) only [hF, natc, w64_in, shs]; first | done | assumption | omega | (simp only [natc] at *; omega))) ?_; cbv)
      | (refine bc_split (fun h => ?_) (fun h => ?_) <;> (try simp (disch := omega) only [hF, natc, w64_in, shs] at h) <;> cbv)
    all_goals (subst hQ; exact leaf_data rfl rfl ⟨⟨_, rfl⟩, rfl⟩)

end Go.Proofs.Ytiaceoomiflgcaa

end

section
namespace Go.Proofs.Ytiaceoomiflgcaa
open Go.V
set_option linter.unusedVariables false
set_option linter.unusedSimpArgs false
set_option maxRecDepth 100000
set_option maxHeartbeats 8000000

/-- What was decoded. -/
def spotV (b : Bool) (x y z : Int) : SV := .tup [.agg [.dv (.int .i64 (if b = true then x else 0)), .dv (.int .i64 (if b = true then y else 0)), .dv (.int .i64 (if b = true then z else 0))], .dv (.bool b)]

theorem decode_w (c n k a x y z : Int) (b : Bool) (hg : CallOK (O := Ob) PR n_site_guess [.dv (.int .i64 a)] [] fun v m => v = .agg [.dv (.int .i64 x), .dv (.int .i64 y), .dv (.int .i64 z)] ∧ m = [])
    (he : CallOK (O := Ob) PR n_site_Encode [.agg [.dv (.int .i64 c), .dv (.int .i64 n), .dv (.int .i64 k)], .agg [.dv (.int .i64 x), .dv (.int .i64 y), .dv (.int .i64 z)]] [] fun v m => (∃ w, v = .tup [.dv (.int .i64 w), .dv (.bool b)]) ∧ m = []) :
    CallOK (O := Ob) PR n_site_Decode [.agg [.dv (.int .i64 c), .dv (.int .i64 n), .dv (.int .i64 k)], .dv (.int .i64 a)] [] fun v m => v = spotV b x y z ∧ m = [] := by
  cases b
  · show CallOK (O := Ob) PR n_site_Decode [.agg [.dv (.int .i64 c), .dv (.int .i64 n), .dv (.int .i64 k)], .dv (.int .i64 a)] [] fun v m => v = .tup [.agg [.dv (.int .i64 0), .dv (.int .i64 0), .dv (.int .i64 0)], .dv (.bool false)] ∧ m = []
    refine fn_walkv mixed fn_site_Decode (Ent.refl _ _) fun bin cmp un conv bnot beq band sel isel ofN toN inb nz nneg lt le room' slb add sub sbin scmp slen sget ssub addk pc pb pi pf ps mkok min_ ig aeq P hP hA hF Q hQ => ?_
    cbv
    repeat' first
      | (refine call_pure hP code_site_guess (hg) ?_ ?_; (focus (cbv; (try simp); done)); rintro _ rfl; cbv)
      | (refine call_pure hP code_site_Encode (he) ?_ ?_; (focus (cbv; (try simp); done)); rintro _ ⟨w, rfl⟩; cbv)
      | (refine Chk.mk trivial ?_; cbv)
      | (refine bc_true (by first | assumption | (simp (disch := omega) only [hF, natc, w64_in, shs]; first | done | assumption | omega | (simp only [natc] at *; omega))) ?_; cbv)
      | (refine bc_false (by first | assumption | (simp (disch := omega) only [hF, natc, w64_in, shs]; first | done | assumption | omega | (simp only [natc] at *; omega))) ?_; cbv)
      | (refine bc_split (fun h => ?_) (fun h => ?_) <;> (try simp (disch := omega) only [hF, natc, w64_in, shs] at h) <;> cbv)
      | (refine IdxVC.mk (by simp (disch := omega) only [hF, natc, w64_in, shs]; first | done | omega | (simp only [natc] at *; omega)) (fun kx hk hk2 => ?_); simp (disch := omega) only [hF, natc, w64_in, shs] at hk; (try obtain rfl : kx = 0 := hk); cbv)
      | (refine Chk.mk (by simp (disch := omega) only [maxN, hF, natc, w64_in, shs]; first | done | assumption | omega | (simp only [natc] at *; omega)) ?_; cbv)
      | (intro (hmx : _ ≤ maxN); replace hmx : _ ≤ 140737488355328 := hmx; cbv)
      | (intro _; cbv)
    subst hQ; exact leaf_data rfl rfl ⟨rfl, rfl⟩
  · show CallOK (O := Ob) PR n_site_Decode [.agg [.dv (.int .i64 c), .dv (.int .i64 n), .dv (.int .i64 k)], .dv (.int .i64 a)] [] fun v m => v = .tup [.agg [.dv (.int .i64 x), .dv (.int .i64 y), .dv (.int .i64 z)], .dv (.bool true)] ∧ m = []
    refine fn_walkv mixed fn_site_Decode (Ent.refl _ _) fun bin cmp un conv bnot beq band sel isel ofN toN inb nz nneg lt le room' slb add sub sbin scmp slen sget ssub addk pc pb pi pf ps mkok min_ ig aeq P hP hA hF Q hQ => ?_
    cbv
    repeat' first
      | (refine call_pure hP code_site_guess (hg) ?_ ?_; (focus (cbv; (try simp); done)); rintro _ rfl; cbv)
      | (refine call_pure hP code_site_Encode (he) ?_ ?_; (focus (cbv; (try simp); done)); rintro _ ⟨w, rfl⟩; cbv)
      | (refine Chk.mk trivial ?_; cbv)
      | (refine bc_true (by first | assumption | (simp (disch := omega) only [hF, natc, w64_in, shs]; first | done | assumption | omega | (simp only [natc] at *; omega))) ?_; cbv)
      | (refine bc_false (by first | assumption | (simp (disch := omega) only [hF, natc, w64_in, shs]; first | done | assumption | omega | (simp only [natc] at *; omega))) ?_; cbv)
      | (refine bc_split (fun h => ?_) (fun h => ?_) <;> (try simp (disch := omega) only [hF, natc, w64_in, shs] at h) <;> cbv)
      | (refine IdxVC.mk (by simp (disch := omega) only [hF, natc, w64_in, shs]; first | done | omega | (simp only [natc] at *; omega)) (fun kx hk hk2 => ?_); simp (disch := omega) only [hF, natc, w64_in, shs] at hk; (try obtain rfl : kx = 0 := hk); cbv)
      | (refine Chk.mk (by simp (disch := omega) only [maxN, hF, natc, w64_in, shs]; first | done | assumption | omega | (simp only [natc] at *; omega)) ?_; cbv)
      | (intro (hmx : _ ≤ maxN); replace hmx : _ ≤ 140737488355328 := hmx; cbv)
      | (intro _; cbv)
    subst hQ; exact leaf_data rfl rfl ⟨rfl, rfl⟩

theorem guess1 (a : Int) (h : a < 65536) : CallOK (O := Ob) PR n_site_guess [.dv (.int .i64 a)] [] fun v m => v = .agg [.dv (.int .i64 1), .dv (.int .i64 0), .dv (.int .i64 a)] ∧ m = [] := by
  refine fn_walkv mixed fn_site_guess (Ent.refl _ _) fun bin cmp un conv bnot beq band sel isel ofN toN inb nz nneg lt le room' slb add sub sbin scmp slen sget ssub addk pc pb pi pf ps mkok min_ ig aeq P hP hA hF Q hQ => ?_
  cbv
  repeat' first
    | (refine Chk.mk trivial ?_; cbv)
    | (refine bc_true (by first | assumption | (simp (disch := omega) only [hF, natc, w64_in, shs]; first | done | assumption | omega | (simp only [natc] at *; omega))) ?_; cbv)
    | (refine bc_false (by first | assumption | (simp (disch := omega) only [hF, natc, w64_in, shs]; first | done | assumption | omega | (simp only [natc] at *; omega))) ?_; cbv)
    | (refine bc_split (fun h => ?_) (fun h => ?_) <;> (try simp (disch := omega) only [hF, natc, w64_in, shs] at h) <;> cbv)
    | (refine IdxVC.mk (by simp (disch := omega) only [hF, natc, w64_in, shs]; first | done | omega | (simp only [natc] at *; omega)) (fun kx hk hk2 => ?_); simp (disch := omega) only [hF, natc, w64_in, shs] at hk; (try obtain rfl : kx = 0 := hk); cbv)
    | (refine Chk.mk (by simp (disch := omega) only [maxN, hF, natc, w64_in, shs]; first | done | assumption | omega | (simp only [natc] at *; omega)) ?_; cbv)
    | (intro (hmx : _ ≤ maxN); replace hmx : _ ≤ 140737488355328 := hmx; cbv)
    | (intro _; cbv)
  subst hQ; exact leaf_data rfl rfl ⟨rfl, rfl⟩

theorem guess2 (a y z : Int) (h : 65536 ≤ a ∧ a < 65792) (hy : y = (a - 65536) / 16) (hz : z = a % 16) : CallOK (O := Ob) PR n_site_guess [.dv (.int .i64 a)] [] fun v m => v = .agg [.dv (.int .i64 2), .dv (.int .i64 y), .dv (.int .i64 z)] ∧ m = [] := by
  obtain ⟨h0, h1⟩ := h
  refine fn_walkv mixed fn_site_guess (Ent.refl _ _) fun bin cmp un conv bnot beq band sel isel ofN toN inb nz nneg lt le room' slb add sub sbin scmp slen sget ssub addk pc pb pi pf ps mkok min_ ig aeq P hP hA hF Q hQ => ?_
  have e1 : bin .quo .i64 (bin .sub .i64 a 65536) 16 = y := by
    simp only [hF]
    rw [w64_in (n := a - 65536) (by omega), Int.tdiv_eq_ediv_of_nonneg (by omega), w64_in (by omega), hy]
  have e2 : bin .rem .i64 a 16 = z := by
    simp only [hF]
    rw [Int.tmod_eq_emod_of_nonneg (by omega), hz]
  clear hy hz
  cbv
  repeat' first
    | ((rw [e1]); cbv)
    | ((rw [e2]); cbv)
    | (refine Chk.mk trivial ?_; cbv)
    | (refine bc_true (by first | assumption | (simp (disch := omega) only [hF, natc, w64_in, shs]; first | done | assumption | omega | (simp only [natc] at *; omega))) ?_; cbv)
    | (refine bc_false (by first | assumption | (simp (disch := omega) only [hF, natc, w64_in, shs]; first | done | assumption | omega | (simp only [natc] at *; omega))) ?_; cbv)
    | (refine bc_split (fun h => ?_) (fun h => ?_) <;> (try simp (disch := omega) only [hF, natc, w64_in, shs] at h) <;> cbv)
    | (refine IdxVC.mk (by simp (disch := omega) only [hF, natc, w64_in, shs]; first | done | omega | (simp only [natc] at *; omega)) (fun kx hk hk2 => ?_); simp (disch := omega) only [hF, natc, w64_in, shs] at hk; (try obtain rfl : kx = 0 := hk); cbv)
    | (refine Chk.mk (by simp (disch := omega) only [maxN, hF, natc, w64_in, shs]; first | done | assumption | omega | (simp only [natc] at *; omega)) ?_; cbv)
    | (intro (hmx : _ ≤ maxN); replace hmx : _ ≤ 140737488355328 := hmx; cbv)
    | (intro _; cbv)
  subst hQ; exact leaf_data rfl rfl ⟨by rw [← e1, ← e2]; rfl, rfl⟩

theorem guess3 (a y : Int) (h : 65792 ≤ a ∧ a < 66048) (hy : y = a - 65792) : CallOK (O := Ob) PR n_site_guess [.dv (.int .i64 a)] [] fun v m => v = .agg [.dv (.int .i64 3), .dv (.int .i64 y), .dv (.int .i64 0)] ∧ m = [] := by
  obtain ⟨h0, h1⟩ := h
  refine fn_walkv mixed fn_site_guess (Ent.refl _ _) fun bin cmp un conv bnot beq band sel isel ofN toN inb nz nneg lt le room' slb add sub sbin scmp slen sget ssub addk pc pb pi pf ps mkok min_ ig aeq P hP hA hF Q hQ => ?_
  have e1 : bin .sub .i64 a 65792 = y := by
    simp only [hF]
    rw [w64_in (n := a - 65792) (by omega), hy]
  clear hy
  cbv
  repeat' first
    | ((rw [e1]); cbv)
    | (refine Chk.mk trivial ?_; cbv)
    | (refine bc_true (by first | assumption | (simp (disch := omega) only [hF, natc, w64_in, shs]; first | done | assumption | omega | (simp only [natc] at *; omega))) ?_; cbv)
    | (refine bc_false (by first | assumption | (simp (disch := omega) only [hF, natc, w64_in, shs]; first | done | assumption | omega | (simp only [natc] at *; omega))) ?_; cbv)
    | (refine bc_split (fun h => ?_) (fun h => ?_) <;> (try simp (disch := omega) only [hF, natc, w64_in, shs] at h) <;> cbv)
    | (refine IdxVC.mk (by simp (disch := omega) only [hF, natc, w64_in, shs]; first | done | omega | (simp only [natc] at *; omega)) (fun kx hk hk2 => ?_); simp (disch := omega) only [hF, natc, w64_in, shs] at hk; (try obtain rfl : kx = 0 := hk); cbv)
    | (refine Chk.mk (by simp (disch := omega) only [maxN, hF, natc, w64_in, shs]; first | done | assumption | omega | (simp only [natc] at *; omega)) ?_; cbv)
    | (intro (hmx : _ ≤ maxN); replace hmx : _ ≤ 140737488355328 := hmx; cbv)
    | (intro _; cbv)
  subst hQ; exact leaf_data rfl rfl ⟨by rw [← e1]; rfl, rfl⟩

theorem guess4 (a y : Int) (h : 66048 ≤ a ∧ a ≤ 9223372036854775807) (hy : y = a - 66048) : CallOK (O := Ob) PR n_site_guess [.dv (.int .i64 a)] [] fun v m => v = .agg [.dv (.int .i64 4), .dv (.int .i64 y), .dv (.int .i64 0)] ∧ m = [] := by
  obtain ⟨h0, h1⟩ := h
  refine fn_walkv mixed fn_site_guess (Ent.refl _ _) fun bin cmp un conv bnot beq band sel isel ofN toN inb nz nneg lt le room' slb add sub sbin scmp slen sget ssub addk pc pb pi pf ps mkok min_ ig aeq P hP hA hF Q hQ => ?_
  have e1 : bin .sub .i64 a 66048 = y := by
    simp only [hF]
    rw [w64_in (n := a - 66048) (by omega), hy]
  clear hy
  cbv
  repeat' first
    | ((rw [e1]); cbv)
    | (refine Chk.mk trivial ?_; cbv)
    | (refine bc_true (by first | assumption | (simp (disch := omega) only [hF, natc, w64_in, shs]; first | done | assumption | omega | (simp only [natc] at *; omega))) ?_; cbv)
    | (refine bc_false (by first | assumption | (simp (disch := omega) only [hF, natc, w64_in, shs]; first | done | assumption | omega | (simp only [natc] at *; omega))) ?_; cbv)
    | (refine bc_split (fun h => ?_) (fun h => ?_) <;> (try simp (disch := omega) only [hF, natc, w64_in, shs] at h) <;> cbv)
    | (refine IdxVC.mk (by simp (disch := omega) only [hF, natc, w64_in, shs]; first | done | omega | (simp only [natc] at *; omega)) (fun kx hk hk2 => ?_); simp (disch := omega) only [hF, natc, w64_in, shs] at hk; (try obtain rfl : kx = 0 := hk); cbv)
    | (refine Chk.mk (by simp (disch := omega) only [maxN, hF, natc, w64_in, shs]; first | done | assumption | omega | (simp only [natc] at *; omega)) ?_; cbv)
    | (intro (hmx : _ ≤ maxN); replace hmx : _ ≤ 140737488355328 := hmx; cbv)
    | (intro _; cbv)
  subst hQ; exact leaf_data rfl rfl ⟨by rw [← e1]; rfl, rfl⟩

/-- What an address means: whether it is one; kind, number, register. -/
def decB (c n k a : Int) : Bool :=
  if a < 65536 then decide (0 ≤ a ∧ a < n) else if a < 65792 then decide (0 ≤ (a - 65536) / 16 ∧ (a - 65536) / 16 < c) && decide (0 ≤ a % 16 ∧ a % 16 < 3)
  else if a < 66048 then decide (0 ≤ a - 65792 ∧ a - 65792 < k) else decide (0 ≤ a - 66048 ∧ a - 66048 < c)
def decX (a : Int) : Int := if a < 65536 then 1 else if a < 65792 then 2 else if a < 66048 then 3 else 4
def decY (a : Int) : Int := if a < 65536 then 0 else if a < 65792 then (a - 65536) / 16 else if a < 66048 then a - 65792 else a - 66048
def decZ (a : Int) : Int := if a < 65536 then a else if a < 65792 then a % 16 else 0

theorem ok_Decode (c n k a : Int) (hc : 1 ≤ c ∧ c ≤ 8) (hn : 1 ≤ n ∧ n ≤ 65536) (hk : 1 ≤ k ∧ k ≤ 16) (ha : a ≤ 9223372036854775807) :
    CallOK (O := Ob) PR n_site_Decode [.agg [.dv (.int .i64 c), .dv (.int .i64 n), .dv (.int .i64 k)], .dv (.int .i64 a)] [] fun v m => v = spotV (decB c n k a) (decX a) (decY a) (decZ a) ∧ m = [] := by
  unfold decB decX decY decZ
  by_cases h1 : a < 65536
  · simp only [if_pos h1]
    exact decode_w c n k a _ _ _ _ (guess1 a h1) (enc1 c n k a hc hn hk)
  · by_cases h2 : a < 65792
    · simp only [if_neg h1, if_pos h2]
      exact decode_w c n k a _ _ _ _ (guess2 a _ _ (by omega) rfl rfl) (enc2 c n k _ _ hc hn hk)
    · by_cases h3 : a < 66048
      · simp only [if_neg h1, if_neg h2, if_pos h3]
        exact decode_w c n k a _ _ _ _ (guess3 a _ (by omega) rfl) (enc3 c n k _ hc hn hk)
      · simp only [if_neg h1, if_neg h2, if_neg h3]
        exact decode_w c n k a _ _ _ _ (guess4 a _ (by omega) rfl) (enc4 c n k _ hc hn hk)

end Go.Proofs.Ytiaceoomiflgcaa

end

section
namespace Go.Proofs.Ytiaceoomiflgcaa
open Go.V
set_option linter.unusedVariables false
set_option linter.unusedSimpArgs false
set_option maxRecDepth 100000
set_option maxHeartbeats 8000000

/-- Mailboxes: so many; their bits; their lanes. -/
def xR (cores : Nat) (bs : Nat → Nat) (bits : Nat → Int) (bo : Nat → Ob) : List (Chunk Ob) :=
  [.blk [.one (.vec 1)], .vec cores 2 (fun j f => if f = 0 then .dv (.int .i64 (bits j)) else .gp (bs j)), .obj (.fam cores bs (fun _ => false) bo)]
def xO (cores : Nat) (bits : Nat → Int) (bo : Nat → Ob) : Ob := .ex fun bs => .mk (xR cores bs bits bo)

end Go.Proofs.Ytiaceoomiflgcaa

end

section
namespace Go.Proofs.Ytiaceoomiflgcaa
open Go.V
set_option linter.unusedVariables false
set_option linter.unusedSimpArgs false
set_option maxRecDepth 100000
set_option maxHeartbeats 8000000

theorem xNew (cores : Nat) (LN : Ob) (h8 : 1 ≤ cores ∧ cores ≤ 8) (hb : CallOK (O := Ob) PR n_lane_New [.dv (.int .i64 16)] [] fun v m => v = .ptr 0 0 ∧ m = [.obj LN]) :
    CallOK (O := Ob) PR n_mbox_New [.dv (.int .i64 cores)] [] fun v m => v = .ptr 0 0 ∧ m = [.obj (xO cores (fun _ => 0) fun _ => LN)] := by
  obtain ⟨h1, h8⟩ := h8
  refine fn_walkv mixed fn_mbox_New (Ent.refl _ _) fun bin cmp un conv bnot beq band sel isel ofN toN inb nz nneg lt le room' slb add sub sbin scmp slen sget ssub addk pc pb pi pf ps mkok min_ ig aeq P hP hA hF Q hQ => ?_
  cbv
  repeat' first
    | (refine Chk.mk trivial ?_; cbv)
    | (refine bc_true (by first | assumption | (simp (disch := omega) only [hF, natc, w64_in, shs]; first | done | assumption | omega | (simp only [natc] at *; omega))) ?_; cbv)
    | (refine bc_false (by first | assumption | (simp (disch := omega) only [hF, natc, w64_in, shs]; first | done | assumption | omega | (simp only [natc] at *; omega))) ?_; cbv)
    | (refine bc_split (fun h => ?_) (fun h => ?_) <;> (try simp (disch := omega) only [hF, natc, w64_in, shs] at h) <;> cbv)
    | (refine IdxVC.mk (by simp (disch := omega) only [hF, natc, w64_in, shs]; first | done | omega | (simp only [natc] at *; omega)) (fun kx hk hk2 => ?_); simp (disch := omega) only [hF, natc, w64_in, shs] at hk; (try obtain rfl : kx = 0 := hk); cbv)
    | (refine Chk.mk (by simp (disch := omega) only [maxN, hF, natc, w64_in, shs]; first | done | assumption | omega | (simp only [natc] at *; omega)) ?_; cbv)
    | (intro (hmx : _ ≤ maxN); replace hmx : _ ≤ 140737488355328 := hmx; cbv)
    | (intro _; cbv)
  refine loop_ex mixed hP hA (ι := Nat × (Nat → Nat)) (fun x => cores - x.1) (fun x => x.1 ≤ cores) [13, 14, 15, 16, 17, 18, 19, 20, 21, 22, 23, 24, 25, 26] (fun x => [(13, .dv (.int .i64 (ofN x.1)))]) (fun x => [.blk [.one (.vec 1)], .vec x.1 2 (fun j f => if f = 0 then .dv (.int .i64 0) else .gp (x.2 j)), .obj (.fam x.1 x.2 (fun _ => false) fun _ => LN)]) ?_ fun Nx i hN hi => ?_
  · refine EntE.of (((Ent.env ?_).trans (Ent.nilvec (ss := [.one (.dv .nils)]) (ss' := [.one (.vec 1)]) 0 0 2 (fun j f => if f = 0 then .dv (.int .i64 0) else .gp 0) rfl rfl rfl)).trans (Ent.fam0 (fun _ => 0) fun _ => LN)) ⟨(0, fun _ => 0), Nat.zero_le _, rfl⟩
    cbv; simp [hF]
  obtain ⟨i, bs⟩ := i
  simp only at hi hN
  cbv
  by_cases hlt : i < cores
  · have hrm : room' (add i 1) 16 := by simp [hF, maxN]; omega
    cbv
    repeat' first
      | (refine call_at hP [] code_lane_New (hb) rfl ?_ ?_ ?_; (focus ((repeat' (first | exact trivial | exact rfl | (intro _ _ _ _; exact rfl) | refine And.intro ?_ ?_)); done)); (focus (cbv; (try simp); done)); rintro _ _ ⟨rfl, rfl⟩ _; cbv)
      | ((refine Chk.mk hrm ?_); cbv)
      | ((refine And.intro ?_ ?_); cbv)
      | (refine Chk.mk trivial ?_; cbv)
      | (refine bc_true (by first | assumption | (simp (disch := omega) only [hF, natc, w64_in, shs]; first | done | assumption | omega | (simp only [natc] at *; omega))) ?_; cbv)
      | (refine bc_false (by first | assumption | (simp (disch := omega) only [hF, natc, w64_in, shs]; first | done | assumption | omega | (simp only [natc] at *; omega))) ?_; cbv)
      | (refine bc_split (fun h => ?_) (fun h => ?_) <;> (try simp (disch := omega) only [hF, natc, w64_in, shs] at h) <;> cbv)
      | (refine IdxVC.mk (by simp (disch := omega) only [hF, natc, w64_in, shs]; first | done | omega | (simp only [natc] at *; omega)) (fun kx hk hk2 => ?_); simp (disch := omega) only [hF, natc, w64_in, shs] at hk; (try obtain rfl : kx = 0 := hk); cbv)
      | (refine Chk.mk (by simp (disch := omega) only [maxN, hF, natc, w64_in, shs]; first | done | assumption | omega | (simp only [natc] at *; omega)) ?_; cbv)
      | (intro (hmx : _ ≤ maxN); replace hmx : _ ≤ 140737488355328 := hmx; cbv)
      | (intro _; cbv)
    have e : add i 1 = i + 1 := by simp only [hF]
    rw [e]
    refine hN _ ((famA (o' := fun _ => LN) 5 2 3 1 rfl rfl rfl (by decide) (fun j hj => ?_) ?_ (fun _ _ => rfl) rfl).bind fun t ⟨bs', ht⟩ => ?_)
    · unfold appAt; rw [if_pos hj]; rfl
    · unfold appAt; rw [if_neg (Nat.lt_irrefl _)]; simp only [hF, Nat.sub_self]; rfl
    · subst ht
      refine EntE.of (Ent.ren [0, 5, 2] rfl rfl ?_ ?_) ⟨(i + 1, bs'), hlt, by show cores - (i + 1) < cores - i; omega, rfl⟩
      · refine ⟨⟨rfl, trivial⟩, ⟨rfl, rfl, fun j f hj hf => ?_⟩, rfl, trivial⟩
        rcases (by omega : f = 0 ∨ f = 1) with rfl | rfl
        · dsimp only
          rw [if_neg (by decide : ¬ (0 : Nat) = 1)]
          unfold appAt
          by_cases h : j < i
          · rw [if_pos h]; rfl
          · obtain rfl : j = i := by omega
            rw [if_neg h]; simp only [hF, Nat.sub_self]; rfl
        · rfl
      · cbv; simp (disch := omega) [hF, natc, w64_in]
  · obtain rfl : i = cores := by omega
    cbv
    repeat' first
      | (refine Chk.mk trivial ?_; cbv)
      | (refine bc_true (by first | assumption | (simp (disch := omega) only [hF, natc, w64_in, shs]; first | done | assumption | omega | (simp only [natc] at *; omega))) ?_; cbv)
      | (refine bc_false (by first | assumption | (simp (disch := omega) only [hF, natc, w64_in, shs]; first | done | assumption | omega | (simp only [natc] at *; omega))) ?_; cbv)
      | (refine bc_split (fun h => ?_) (fun h => ?_) <;> (try simp (disch := omega) only [hF, natc, w64_in, shs] at h) <;> cbv)
      | (refine IdxVC.mk (by simp (disch := omega) only [hF, natc, w64_in, shs]; first | done | omega | (simp only [natc] at *; omega)) (fun kx hk hk2 => ?_); simp (disch := omega) only [hF, natc, w64_in, shs] at hk; (try obtain rfl : kx = 0 := hk); cbv)
      | (refine Chk.mk (by simp (disch := omega) only [maxN, hF, natc, w64_in, shs]; first | done | assumption | omega | (simp only [natc] at *; omega)) ?_; cbv)
      | (intro (hmx : _ ≤ maxN); replace hmx : _ ≤ 140737488355328 := hmx; cbv)
      | (intro _; cbv)
    subst hQ
    refine ⟨.ptr 0 0, [.obj (xO i (fun _ => 0) fun _ => LN)], ?_, rfl, rfl⟩
    refine (Ent.cls1 (env' := [.ptr 0 0]) [1, 2] (xR i bs (fun _ => 0) fun _ => LN) rfl rfl ?_ ?_).trans (Ent.exI (o := fun bs => .mk (xR i bs (fun _ => 0) fun _ => LN)) 0 bs rfl)
    · refine ⟨⟨rfl, trivial⟩, ⟨rfl, rfl, fun j f hj hf => ?_⟩, rfl, trivial⟩
      rcases (by omega : f = 0 ∨ f = 1) with rfl | rfl <;> rfl
    · exact ⟨rfl, trivial⟩

end Go.Proofs.Ytiaceoomiflgcaa

end

section
namespace Go.Proofs.Ytiaceoomiflgcaa
open Go.V
set_option linter.unusedVariables false
set_option linter.unusedSimpArgs false
set_option maxRecDepth 100000
set_option maxHeartbeats 8000000

end Go.Proofs.Ytiaceoomiflgcaa

end

section
namespace Go.Proofs.Ytiaceoomiflgcaa
open Go.V
set_option linter.unusedVariables false
set_option linter.unusedSimpArgs false
set_option maxRecDepth 100000
set_option maxHeartbeats 8000000

/-- Mailboxes: their bits; of each lane where it begins, how many it has, its room. -/
structure BoxS where
  cores : Nat
  bits : Nat → Int
  f : Nat → Nat
  h : Nat → Nat
  rm : Nat → Nat → Int

def BoxS.ok (S : BoxS) : Prop := 1 ≤ S.cores ∧ S.cores ≤ 8 ∧ ∀ j, j < S.cores → S.f j < 16 ∧ S.h j ≤ 16
def boxO (S : BoxS) : Ob := xO S.cores S.bits fun j => nO (S.f j) (S.h j) (S.rm j)

def BoxS.upd (S : BoxS) (bits : Nat → Int) (j f h : Nat) (rm : Nat → Int) : BoxS := { S with bits := bits, f := fun i => if i = j then f else S.f i, h := fun i => if i = j then h else S.h i, rm := fun i => if i = j then rm else S.rm i }

theorem BoxS.upd_ok (S : BoxS) (hS : S.ok) (bits : Nat → Int) (j f h : Nat) (rm : Nat → Int) (hf : f < 16) (hh : h ≤ 16) : (S.upd bits j f h rm).ok := by
  refine ⟨hS.1, hS.2.1, fun i hi => ?_⟩
  show (if i = j then f else S.f i) < 16 ∧ (if i = j then h else S.h i) ≤ 16
  split
  · exact ⟨hf, hh⟩
  · exact hS.2.2 i hi

/-- Some mailboxes, as many. -/
def someBox (c : Nat) (m : List (Chunk Ob)) : Prop := ∃ S : BoxS, S.ok ∧ S.cores = c ∧ m = [.obj (boxO S)]

theorem boxNew (c : Nat) (h : 1 ≤ c ∧ c ≤ 8) : CallOK (O := Ob) PR n_mbox_New [.dv (.int .i64 c)] [] fun v m => v = .ptr 0 0 ∧ someBox c m :=
  (xNew c _ h nNew).mono fun v m ⟨hv, hm⟩ => ⟨hv, ⟨c, fun _ => 0, fun _ => 0, fun _ => 0, fun _ _ => 0⟩, ⟨h.1, h.2, fun _ _ => ⟨by show (0 : Nat) < 16; omega, by show (0 : Nat) ≤ 16; omega⟩⟩, rfl, hm⟩

theorem word_in (w : Int) (hw : 0 ≤ w ∧ w ≤ 65535) : CallOK (O := Ob) PR n_wrap_Word [.dv (.int .i64 w)] [] fun v m => v = .dv (.int .i64 w) ∧ m = [] :=
  (ok_Word w).mono fun v m ⟨⟨x, hx, hv⟩, hm⟩ => ⟨by rw [hv, hx, Int.emod_eq_of_lt (by omega) (by omega)], hm⟩

end Go.Proofs.Ytiaceoomiflgcaa

end
