/-
  Walks: the tills' example; TillEmpties.
-/
import Derived.Test.YtiaceoomiflgcaaSdR
import Derived.Test.YtiaceoomiflgcaaVchH
import Derived.Test.YtiaceoomiflgcaaSeIr
section
namespace Go.Proofs.Ytiaceoomiflgcaa
open Go.V
set_option linter.unusedVariables false
set_option linter.unusedSimpArgs false
set_option maxRecDepth 100000
set_option maxHeartbeats 8000000

/-- A till. -/
structure TillS where
  base : Int
  items : Int
  lock : Int
  core : Int
  mine : List Int
  st : Int
  item : Int
  word : Int
  push : Bool
  ans : Int

def liV (l : List Int) : Chunk Ob := .vec l.length 1 fun i _ => .dv (.int .i64 (l.getD i 0))
def tB (T : TillS) : Chunk Ob := .blk [.one (.dv (.int .i64 T.base)), .one (.dv (.int .i64 T.items)), .one (.dv (.int .i64 T.lock)), .one (.dv (.int .i64 T.core)), .one (.vec 1), .one (.dv (.int .i64 T.st)), .one (.dv (.int .i64 T.item)), .one (.dv (.int .i64 T.word)), .one (.dv (.bool T.push)), .one (.dv (.int .i64 T.ans))]
def tM (T : TillS) : List (Chunk Ob) := [tB T, liV T.mine]
def tO (T : TillS) : Ob := .mk (tM T)

/-- The same, its parts apart. -/
def tM' (base items lock core : Int) (N : Nat) (L : Nat → Int) (st item word : Int) (push : Bool) (ans : Int) : List (Chunk Ob) :=
  [.blk [.one (.dv (.int .i64 base)), .one (.dv (.int .i64 items)), .one (.dv (.int .i64 lock)), .one (.dv (.int .i64 core)), .one (.vec 1), .one (.dv (.int .i64 st)), .one (.dv (.int .i64 item)), .one (.dv (.int .i64 word)), .one (.dv (.bool push)), .one (.dv (.int .i64 ans))],
   .vec N 1 fun i _ => .dv (.int .i64 (L i))]
def tO' (base items lock core : Int) (N : Nat) (L : Nat → Int) (st item word : Int) (push : Bool) (ans : Int) : Ob := .mk (tM' base items lock core N L st item word push ans)

theorem ok_tmay (b n : Int) : CallOK (O := Ob) PR n_till_may [.dv (.int .i64 b), .dv (.int .i64 n)] [] fun v m => v = .dv (.bool (decide (0 ≤ b ∧ b < 65536 ∧ 1 ≤ n ∧ n ≤ 32))) ∧ m = [] := by
  by_cases h : 0 ≤ b ∧ b < 65536 ∧ 1 ≤ n ∧ n ≤ 32
  · rw [decide_eq_true h]
    obtain ⟨h1, h2, h3, h4⟩ := h
    refine fn_walkv mixed fn_till_may (Ent.refl _ _) fun bin cmp un conv bnot beq band sel isel ofN toN inb nz nneg lt le room' slb add sub sbin scmp slen sget ssub addk pc pb pi pf ps mkok min_ ig aeq P hP hA hF Q hQ => ?_
    have hc : cmp .leq n 32 = true := by simp only [hF, decide_eq_true_eq]; exact h4
    cbv
    repeat' first
      | ((rw [hc]); cbv)
      | (refine Chk.mk trivial ?_; cbv)
      | (refine bc_true (by first | assumption | (simp (disch := omega) only [hF, natc, w64_in, shs]; first | done | assumption | omega | (simp only [natc] at *; omega))) ?_; cbv)
      | (refine bc_false (by first | assumption | (simp (disch := omega) only [hF, natc, w64_in, shs]; first | done | assumption | omega | (simp only [natc] at *; omega))) ?_; cbv)
      | (refine bc_split (fun h => ?_) (fun h => ?_) <;> (try simp (disch := omega) only [hF, natc, w64_in, shs] at h) <;> cbv)
      | (refine IdxVC.mk (by simp (disch := omega) only [hF, natc, w64_in, shs]; first | done | omega | (simp only [natc] at *; omega)) (fun kx hk hk2 => ?_); simp (disch := omega) only [hF, natc, w64_in, shs] at hk; (try obtain rfl : kx = 0 := hk); cbv)
      | (refine Chk.mk (by simp (disch := omega) only [maxN, hF, natc, w64_in, shs]; first | done | assumption | omega | (simp only [natc] at *; omega)) ?_; cbv)
      | (intro (hmx : _ ≤ maxN); replace hmx : _ ≤ 140737488355328 := hmx; cbv)
      | (intro _; cbv)
    subst hQ; exact leaf_data rfl rfl ⟨rfl, rfl⟩
  · rw [decide_eq_false h]
    by_cases h1 : 0 ≤ b
    · by_cases h2 : b < 65536
      · by_cases h3 : 1 ≤ n
        · have h4 : ¬ n ≤ 32 := by omega
          clear h
          refine fn_walkv mixed fn_till_may (Ent.refl _ _) fun bin cmp un conv bnot beq band sel isel ofN toN inb nz nneg lt le room' slb add sub sbin scmp slen sget ssub addk pc pb pi pf ps mkok min_ ig aeq P hP hA hF Q hQ => ?_
          have hc : cmp .leq n 32 = false := by simp only [hF, decide_eq_false_iff_not]; exact h4
          cbv
          repeat' first
            | ((rw [hc]); cbv)
            | (refine Chk.mk trivial ?_; cbv)
            | (refine bc_true (by first | assumption | (simp (disch := omega) only [hF, natc, w64_in, shs]; first | done | assumption | omega | (simp only [natc] at *; omega))) ?_; cbv)
            | (refine bc_false (by first | assumption | (simp (disch := omega) only [hF, natc, w64_in, shs]; first | done | assumption | omega | (simp only [natc] at *; omega))) ?_; cbv)
            | (refine bc_split (fun h => ?_) (fun h => ?_) <;> (try simp (disch := omega) only [hF, natc, w64_in, shs] at h) <;> cbv)
            | (refine IdxVC.mk (by simp (disch := omega) only [hF, natc, w64_in, shs]; first | done | omega | (simp only [natc] at *; omega)) (fun kx hk hk2 => ?_); simp (disch := omega) only [hF, natc, w64_in, shs] at hk; (try obtain rfl : kx = 0 := hk); cbv)
            | (refine Chk.mk (by simp (disch := omega) only [maxN, hF, natc, w64_in, shs]; first | done | assumption | omega | (simp only [natc] at *; omega)) ?_; cbv)
            | (intro (hmx : _ ≤ maxN); replace hmx : _ ≤ 140737488355328 := hmx; cbv)
            | (intro _; cbv)
          subst hQ; exact leaf_data rfl rfl ⟨rfl, rfl⟩
        · clear h
          refine fn_walkv mixed fn_till_may (Ent.refl _ _) fun bin cmp un conv bnot beq band sel isel ofN toN inb nz nneg lt le room' slb add sub sbin scmp slen sget ssub addk pc pb pi pf ps mkok min_ ig aeq P hP hA hF Q hQ => ?_
          cbv
          repeat' first
            | (refine Chk.mk trivial ?_; cbv)
            | (refine bc_true (by first | assumption | (simp (disch := omega) only [hF, natc, w64_in, shs]; first | done | assumption | omega | (simp only [natc] at *; omega))) ?_; cbv)
            | (refine bc_false (by first | assumption | (simp (disch := omega) only [hF, natc, w64_in, shs]; first | done | assumption | omega | (simp only [natc] at *; omega))) ?_; cbv)
            | (refine bc_split (fun h => ?_) (fun h => ?_) <;> (try simp (disch := omega) only [hF, natc, w64_in, shs] at h) <;> cbv)
            | (refine IdxVC.mk (by simp (disch := omega) only [hF, natc, w64_in, shs]; first | done | omega | (simp only [natc] at *; omega)) (fun kx hk hk2 => ?_); simp (disch := omega) only [hF, natc, w64_in, shs] at hk; (try obtain rfl : kx = 0 := hk); cbv)
            | (refine Chk.mk (by simp (disch := omega) only [maxN, hF, natc, w64_in, shs]; first | done | assumption | omega | (simp only [natc] at *; omega)) ?_; cbv)
            | (intro (hmx : _ ≤ maxN); replace hmx : _ ≤ 140737488355328 := hmx; cbv)
            | (intro _; cbv)
          subst hQ; exact leaf_data rfl rfl ⟨rfl, rfl⟩
      · clear h
        refine fn_walkv mixed fn_till_may (Ent.refl _ _) fun bin cmp un conv bnot beq band sel isel ofN toN inb nz nneg lt le room' slb add sub sbin scmp slen sget ssub addk pc pb pi pf ps mkok min_ ig aeq P hP hA hF Q hQ => ?_
        cbv
        repeat' first
          | (refine Chk.mk trivial ?_; cbv)
          | (refine bc_true (by first | assumption | (simp (disch := omega) only [hF, natc, w64_in, shs]; first | done | assumption | omega | (simp only [natc] at *; omega))) ?_; cbv)
          | (refine bc_false (by first | assumption | (simp (disch := omega) only [hF, natc, w64_in, shs]; first | done | assumption | omega | (simp only [natc] at *; omega))) ?_; cbv)
          | (refine bc_split (fun h => ?_) (fun h => ?_) <;> (try simp (disch := omega) only [hF, natc, w64_in, shs] at h) <;> cbv)
          | (refine IdxVC.mk (by simp (disch := omega) only [hF, natc, w64_in, shs]; first | done | omega | (simp only [natc] at *; omega)) (fun kx hk hk2 => ?_); simp (disch := omega) only [hF, natc, w64_in, shs] at hk; (try obtain rfl : kx = 0 := hk); cbv)
          | (refine Chk.mk (by simp (disch := omega) only [maxN, hF, natc, w64_in, shs]; first | done | assumption | omega | (simp only [natc] at *; omega)) ?_; cbv)
          | (intro (hmx : _ ≤ maxN); replace hmx : _ ≤ 140737488355328 := hmx; cbv)
          | (intro _; cbv)
        subst hQ; exact leaf_data rfl rfl ⟨rfl, rfl⟩
    · clear h
      refine fn_walkv mixed fn_till_may (Ent.refl _ _) fun bin cmp un conv bnot beq band sel isel ofN toN inb nz nneg lt le room' slb add sub sbin scmp slen sget ssub addk pc pb pi pf ps mkok min_ ig aeq P hP hA hF Q hQ => ?_
      cbv
      repeat' first
        | (refine Chk.mk trivial ?_; cbv)
        | (refine bc_true (by first | assumption | (simp (disch := omega) only [hF, natc, w64_in, shs]; first | done | assumption | omega | (simp only [natc] at *; omega))) ?_; cbv)
        | (refine bc_false (by first | assumption | (simp (disch := omega) only [hF, natc, w64_in, shs]; first | done | assumption | omega | (simp only [natc] at *; omega))) ?_; cbv)
        | (refine bc_split (fun h => ?_) (fun h => ?_) <;> (try simp (disch := omega) only [hF, natc, w64_in, shs] at h) <;> cbv)
        | (refine IdxVC.mk (by simp (disch := omega) only [hF, natc, w64_in, shs]; first | done | omega | (simp only [natc] at *; omega)) (fun kx hk hk2 => ?_); simp (disch := omega) only [hF, natc, w64_in, shs] at hk; (try obtain rfl : kx = 0 := hk); cbv)
        | (refine Chk.mk (by simp (disch := omega) only [maxN, hF, natc, w64_in, shs]; first | done | assumption | omega | (simp only [natc] at *; omega)) ?_; cbv)
        | (intro (hmx : _ ≤ maxN); replace hmx : _ ≤ 140737488355328 := hmx; cbv)
        | (intro _; cbv)
      subst hQ; exact leaf_data rfl rfl ⟨rfl, rfl⟩

theorem tNew_no (b n l c : Int) (h : ¬ (0 ≤ b ∧ b < 65536 ∧ 1 ≤ n ∧ n ≤ 32)) : CallOK (O := Ob) PR n_till_New [.dv (.int .i64 b), .dv (.int .i64 n), .dv (.int .i64 l), .dv (.int .i64 c)] [] fun v m => v = .dv .nilp ∧ m = [] := by
  have hm := ok_tmay b n
  rw [decide_eq_false h] at hm
  clear h
  refine fn_walkv mixed fn_till_New (Ent.refl _ _) fun bin cmp un conv bnot beq band sel isel ofN toN inb nz nneg lt le room' slb add sub sbin scmp slen sget ssub addk pc pb pi pf ps mkok min_ ig aeq P hP hA hF Q hQ => ?_
  have hb : bnot false = true := by simp only [hF]; rfl
  cbv
  repeat' first
    | (refine call_pure hP code_till_may (hm) ?_ ?_; (focus (cbv; (try simp); done)); rintro _ rfl; cbv)
    | ((rw [hb]); cbv)
    | (refine Chk.mk trivial ?_; cbv)
    | (refine bc_true (by first | assumption | (simp (disch := omega) only [hF, natc, w64_in, shs]; first | done | assumption | omega | (simp only [natc] at *; omega))) ?_; cbv)
    | (refine bc_false (by first | assumption | (simp (disch := omega) only [hF, natc, w64_in, shs]; first | done | assumption | omega | (simp only [natc] at *; omega))) ?_; cbv)
    | (refine bc_split (fun h => ?_) (fun h => ?_) <;> (try simp (disch := omega) only [hF, natc, w64_in, shs] at h) <;> cbv)
    | (refine IdxVC.mk (by simp (disch := omega) only [hF, natc, w64_in, shs]; first | done | omega | (simp only [natc] at *; omega)) (fun kx hk hk2 => ?_); simp (disch := omega) only [hF, natc, w64_in, shs] at hk; (try obtain rfl : kx = 0 := hk); cbv)
    | (refine Chk.mk (by simp (disch := omega) only [maxN, hF, natc, w64_in, shs]; first | done | assumption | omega | (simp only [natc] at *; omega)) ?_; cbv)
    | (intro (hmx : _ ≤ maxN); replace hmx : _ ≤ 140737488355328 := hmx; cbv)
    | (intro _; cbv)
  subst hQ; exact leaf_data rfl rfl ⟨rfl, rfl⟩

theorem tNew (b n l c : Int) (h : 0 ≤ b ∧ b < 65536 ∧ 1 ≤ n ∧ n ≤ 32) (hl : 0 ≤ l ∧ l < 16) (hc : 0 ≤ c ∧ c < 8) : CallOK (O := Ob) PR n_till_New [.dv (.int .i64 b), .dv (.int .i64 n), .dv (.int .i64 l), .dv (.int .i64 c)] [] fun v m => v = .ptr 0 0 ∧ m = [.obj (tO ⟨b, n, l, c, [], 0, 0, 0, false, 0⟩)] := by
  have hm := ok_tmay b n
  rw [decide_eq_true h] at hm
  obtain ⟨l0, l1⟩ := hl
  obtain ⟨c0, c1⟩ := hc
  clear h
  refine fn_walkv mixed fn_till_New (Ent.refl _ _) fun bin cmp un conv bnot beq band sel isel ofN toN inb nz nneg lt le room' slb add sub sbin scmp slen sget ssub addk pc pb pi pf ps mkok min_ ig aeq P hP hA hF Q hQ => ?_
  have hb : bnot true = false := by simp only [hF]; rfl
  cbv
  repeat' first
    | (refine call_pure hP code_till_may (hm) ?_ ?_; (focus (cbv; (try simp); done)); rintro _ rfl; cbv)
    | ((rw [hb]); cbv)
    | (refine Chk.mk trivial ?_; cbv)
    | (refine bc_true (by first | assumption | (simp (disch := omega) only [hF, natc, w64_in, shs]; first | done | assumption | omega | (simp only [natc] at *; omega))) ?_; cbv)
    | (refine bc_false (by first | assumption | (simp (disch := omega) only [hF, natc, w64_in, shs]; first | done | assumption | omega | (simp only [natc] at *; omega))) ?_; cbv)
    | (refine bc_split (fun h => ?_) (fun h => ?_) <;> (try simp (disch := omega) only [hF, natc, w64_in, shs] at h) <;> cbv)
    | (refine IdxVC.mk (by simp (disch := omega) only [hF, natc, w64_in, shs]; first | done | omega | (simp only [natc] at *; omega)) (fun kx hk hk2 => ?_); simp (disch := omega) only [hF, natc, w64_in, shs] at hk; (try obtain rfl : kx = 0 := hk); cbv)
    | (refine Chk.mk (by simp (disch := omega) only [maxN, hF, natc, w64_in, shs]; first | done | assumption | omega | (simp only [natc] at *; omega)) ?_; cbv)
    | (intro (hmx : _ ≤ maxN); replace hmx : _ ≤ 140737488355328 := hmx; cbv)
    | (intro _; cbv)
  subst hQ
  refine ⟨.ptr 0 0, [.obj (.mk (tM' b n l c 0 (fun i => ([] : List Int).getD i 0) 0 0 0 false 0))], ?_, rfl, rfl⟩
  refine (Ent.nilvec (ss := [.one (.dv (.int .i64 b)), .one (.dv (.int .i64 n)), .one (.dv (.int .i64 l)), .one (.dv (.int .i64 c)), .one (.dv .nils), .one (.dv (.int .i64 0)), .one (.dv (.int .i64 0)), .one (.dv (.int .i64 0)), .one (.dv (.bool false)), .one (.dv (.int .i64 0))]) (ss' := [.one (.dv (.int .i64 b)), .one (.dv (.int .i64 n)), .one (.dv (.int .i64 l)), .one (.dv (.int .i64 c)), .one (.vec 1), .one (.dv (.int .i64 0)), .one (.dv (.int .i64 0)), .one (.dv (.int .i64 0)), .one (.dv (.bool false)), .one (.dv (.int .i64 0))]) 0 4 1 (fun i _ => .dv (.int .i64 (([] : List Int).getD i 0))) rfl rfl rfl).trans
    (Ent.cls1 (env' := [.ptr 0 0]) [1] (tM' b n l c 0 (fun i => ([] : List Int).getD i 0) 0 0 0 false 0) rfl rfl ?_ ?_)
  · exact ⟨⟨rfl, rfl, rfl, rfl, rfl, rfl, rfl, rfl, rfl, rfl, trivial⟩, ⟨rfl, rfl, fun _ _ _ _ => rfl⟩, trivial⟩
  · exact ⟨rfl, trivial⟩

end Go.Proofs.Ytiaceoomiflgcaa

end

section
namespace Go.Proofs.Ytiaceoomiflgcaa
open Go.V
set_option linter.unusedVariables false
set_option linter.unusedSimpArgs false
set_option maxRecDepth 100000
set_option maxHeartbeats 8000000

theorem leaf_t {b n l c : Int} {N : Nat} {L : Nat → Int} {st it w : Int} {p : Bool} {an : Int} {v : SV} {Q : SV → List (Chunk Ob) → Prop} (hu : VLe [0] v v) (hq : Q v [.obj (tO' b n l c N L st it w p an)]) :
    ∃ r' m', Ent 1 ⟨[v], tM' b n l c N L st it w p an⟩ ⟨[r'], m'⟩ ∧ Q r' m' :=
  leaf_obj (lmem := tM' b n l c N L st it w p an) [1] rfl rfl ⟨⟨rfl, rfl, rfl, rfl, rfl, rfl, rfl, rfl, rfl, rfl, trivial⟩, ⟨rfl, rfl, fun _ _ _ _ => rfl⟩, trivial⟩ hu rfl hq

theorem tPop_w (b n l c : Int) (N : Nat) (L : Nat → Int) (it w an : Int) (p : Bool) : CallOK (O := Ob) PR n_till_Till_Pop [.ptr 0 0] [.obj (tO' b n l c N L 0 it w p an)] fun v m => v = .dv (.int .i64 0) ∧ m = [.obj (tO' b n l c N L 1 it w false an)] := by
  refine fn_walkv mixed fn_till_Till_Pop Ent.opn1 fun bin cmp un conv bnot beq band sel isel ofN toN inb nz nneg lt le room' slb add sub sbin scmp slen sget ssub addk pc pb pi pf ps mkok min_ ig aeq P hP hA hF Q hQ => ?_
  cbv
  repeat' first
    | ((refine call_inl hP mixed hA code_till_Till_wrong fn_till_Till_wrong ?_); cbv)
    | (refine Chk.mk trivial ?_; cbv)
    | (refine bc_true (by first | assumption | (simp (disch := omega) only [hF, natc, w64_in, shs]; first | done | assumption | omega | (simp only [natc] at *; omega))) ?_; cbv)
    | (refine bc_false (by first | assumption | (simp (disch := omega) only [hF, natc, w64_in, shs]; first | done | assumption | omega | (simp only [natc] at *; omega))) ?_; cbv)
    | (refine bc_split (fun h => ?_) (fun h => ?_) <;> (try simp (disch := omega) only [hF, natc, w64_in, shs] at h) <;> cbv)
    | (refine IdxVC.mk (by simp (disch := omega) only [hF, natc, w64_in, shs]; first | done | omega | (simp only [natc] at *; omega)) (fun kx hk hk2 => ?_); simp (disch := omega) only [hF, natc, w64_in, shs] at hk; (try obtain rfl : kx = 0 := hk); cbv)
    | (refine Chk.mk (by simp (disch := omega) only [maxN, hF, natc, w64_in, shs]; first | done | assumption | omega | (simp only [natc] at *; omega)) ?_; cbv)
    | (intro (hmx : _ ≤ maxN); replace hmx : _ ≤ 140737488355328 := hmx; cbv)
    | (intro _; cbv)
  subst hQ
  exact leaf_t rfl ⟨rfl, rfl⟩

/-- What a till has, in a list of its own. -/
theorem tMine_w (b n l c : Int) (N : Nat) (L : Nat → Int) (st it w an : Int) (p : Bool) (hN : N ≤ 65536) : CallOK (O := Ob) PR n_till_Till_Mine [.ptr 0 0] [.obj (tO' b n l c N L st it w p an)]
    fun v m => v = .vec 1 ∧ m = [.obj (tO' b n l c N L st it w p an), .vec N 1 fun i _ => .dv (.int .i64 (L i))] := by
  have hc := clone_i N L hN
  refine fn_walkv mixed fn_till_Till_Mine Ent.opn1 fun bin cmp un conv bnot beq band sel isel ofN toN inb nz nneg lt le room' slb add sub sbin scmp slen sget ssub addk pc pb pi pf ps mkok min_ ig aeq P hP hA hF Q hQ => ?_
  cbv
  repeat' first
    | (refine call_at hP [1] code_slices_Clone_Sint_int (hc) rfl ?_ ?_ ?_; (focus ((repeat' (first | exact trivial | exact rfl | (intro _ _ _ _; exact rfl) | refine And.intro ?_ ?_)); done)); (focus (cbv; (try simp); done)); rintro _ _ ⟨rfl, rfl⟩ _; cbv)
    | (refine Chk.mk trivial ?_; cbv)
    | (refine bc_true (by first | assumption | (simp (disch := omega) only [hF, natc, w64_in, shs]; first | done | assumption | omega | (simp only [natc] at *; omega))) ?_; cbv)
    | (refine bc_false (by first | assumption | (simp (disch := omega) only [hF, natc, w64_in, shs]; first | done | assumption | omega | (simp only [natc] at *; omega))) ?_; cbv)
    | (refine bc_split (fun h => ?_) (fun h => ?_) <;> (try simp (disch := omega) only [hF, natc, w64_in, shs] at h) <;> cbv)
    | (refine IdxVC.mk (by simp (disch := omega) only [hF, natc, w64_in, shs]; first | done | omega | (simp only [natc] at *; omega)) (fun kx hk hk2 => ?_); simp (disch := omega) only [hF, natc, w64_in, shs] at hk; (try obtain rfl : kx = 0 := hk); cbv)
    | (refine Chk.mk (by simp (disch := omega) only [maxN, hF, natc, w64_in, shs]; first | done | assumption | omega | (simp only [natc] at *; omega)) ?_; cbv)
    | (intro (hmx : _ ≤ maxN); replace hmx : _ ≤ 140737488355328 := hmx; cbv)
    | (intro _; cbv)
  subst hQ
  refine ⟨.vec 1, [.obj (.mk (tM' b n l c N L st it w p an)), .vec N 1 fun i _ => .dv (.int .i64 (L i))], ?_, rfl, rfl⟩
  refine (Ent.cls 0 [1] (tM' b n l c N L st it w p an) rfl rfl ?_).trans (Ent.ren [0, 2] rfl rfl ?_ ⟨rfl, trivial⟩)
  · exact ⟨⟨rfl, rfl, rfl, rfl, rfl, rfl, rfl, rfl, rfl, rfl, trivial⟩, ⟨rfl, rfl, fun _ _ _ _ => rfl⟩, trivial⟩
  · exact ⟨rfl, ⟨rfl, rfl, fun _ _ _ _ => rfl⟩, trivial⟩

/-- Whether a list has a number: where it is first. -/
theorem index_in (N : Nat) (L : Nat → Int) (x : Int) (k : Nat) (hN : N ≤ 65536) (hk : k < N) (hx : L k = x) (hb : ∀ i, i < k → L i ≠ x) : CallOK (O := Ob) PR n_slices_Index_Sint_int [.vec 0, .dv (.int .i64 x)] [.vec N 1 fun i _ => .dv (.int .i64 (L i))]
    fun v m => v = .dv (.int .i64 k) ∧ m = [.vec N 1 fun i _ => .dv (.int .i64 (L i))] := by
  refine fn_walkv mixed fn_slices_Index_Sint_int (Ent.refl _ _) fun bin cmp un conv bnot beq band sel isel ofN toN inb nz nneg lt le room' slb add sub sbin scmp slen sget ssub addk pc pb pi pf ps mkok min_ ig aeq P hP hA hF Q hQ => ?_
  cbv
  repeat' first
    | (refine Chk.mk trivial ?_; cbv)
    | (refine bc_true (by first | assumption | (simp (disch := omega) only [hF, natc, w64_in, shs]; first | done | assumption | omega | (simp only [natc] at *; omega))) ?_; cbv)
    | (refine bc_false (by first | assumption | (simp (disch := omega) only [hF, natc, w64_in, shs]; first | done | assumption | omega | (simp only [natc] at *; omega))) ?_; cbv)
    | (refine bc_split (fun h => ?_) (fun h => ?_) <;> (try simp (disch := omega) only [hF, natc, w64_in, shs] at h) <;> cbv)
    | (refine IdxVC.mk (by simp (disch := omega) only [hF, natc, w64_in, shs]; first | done | omega | (simp only [natc] at *; omega)) (fun kx hk hk2 => ?_); simp (disch := omega) only [hF, natc, w64_in, shs] at hk; (try obtain rfl : kx = 0 := hk); cbv)
    | (refine Chk.mk (by simp (disch := omega) only [maxN, hF, natc, w64_in, shs]; first | done | assumption | omega | (simp only [natc] at *; omega)) ?_; cbv)
    | (intro (hmx : _ ≤ maxN); replace hmx : _ ≤ 140737488355328 := hmx; cbv)
    | (intro _; cbv)
  refine loop_up mixed hP hA (k) (fun i => True) [4, 5, 8, 9, 10, 11, 12, 13, 14, 15, 16, 17, 18] (fun i => [(8, .dv (.int .i64 (ofN i)))]) (fun _ => [.vec N 1 fun i _ => .dv (.int .i64 (L i))]) (trivial) ?_ fun Nx i hN hi hp => ?_
  · exact Ent.env (by cbv; simp [hF])
  cbv
  by_cases hlt : i < k
  · have hq : cmp .eql x (L i) = false := by simp only [hF, decide_eq_false_iff_not]; exact fun e => hb i hlt e.symm
    cbv
    repeat' first
      | ((rw [hq]); cbv)
      | (refine Chk.mk trivial ?_; cbv)
      | (refine bc_true (by first | assumption | (simp (disch := omega) only [hF, natc, w64_in, shs]; first | done | assumption | omega | (simp only [natc] at *; omega))) ?_; cbv)
      | (refine bc_false (by first | assumption | (simp (disch := omega) only [hF, natc, w64_in, shs]; first | done | assumption | omega | (simp only [natc] at *; omega))) ?_; cbv)
      | (refine bc_split (fun h => ?_) (fun h => ?_) <;> (try simp (disch := omega) only [hF, natc, w64_in, shs] at h) <;> cbv)
      | (refine IdxVC.mk (by simp (disch := omega) only [hF, natc, w64_in, shs]; first | done | omega | (simp only [natc] at *; omega)) (fun kx hk hk2 => ?_); simp (disch := omega) only [hF, natc, w64_in, shs] at hk; (try obtain rfl : kx = 0 := hk); (try obtain rfl : i = kx := hk.symm); cbv)
      | (refine Chk.mk (by simp (disch := omega) only [maxN, hF, natc, w64_in, shs]; first | done | assumption | omega | (simp only [natc] at *; omega)) ?_; cbv)
      | (intro (hmx : _ ≤ maxN); replace hmx : _ ≤ 140737488355328 := hmx; cbv)
      | (intro _; cbv)
    exact hN _ hlt trivial (Ent.env (by cbv; simp (disch := omega) [hF, natc, w64_in]))
  · obtain rfl : i = k := by omega
    have hq : cmp .eql x (L i) = true := by simp only [hF, decide_eq_true_eq]; exact hx.symm
    have e : ofN i = (i : Int) := by simp only [hF]
    cbv
    repeat' first
      | ((rw [hq]); cbv)
      | (refine Chk.mk trivial ?_; cbv)
      | (refine bc_true (by first | assumption | (simp (disch := omega) only [hF, natc, w64_in, shs]; first | done | assumption | omega | (simp only [natc] at *; omega))) ?_; cbv)
      | (refine bc_false (by first | assumption | (simp (disch := omega) only [hF, natc, w64_in, shs]; first | done | assumption | omega | (simp only [natc] at *; omega))) ?_; cbv)
      | (refine bc_split (fun h => ?_) (fun h => ?_) <;> (try simp (disch := omega) only [hF, natc, w64_in, shs] at h) <;> cbv)
      | (refine IdxVC.mk (by simp (disch := omega) only [hF, natc, w64_in, shs]; first | done | omega | (simp only [natc] at *; omega)) (fun kx hk hk2 => ?_); simp (disch := omega) only [hF, natc, w64_in, shs] at hk; (try obtain rfl : kx = 0 := hk); (try obtain rfl : i = kx := hk.symm); cbv)
      | (refine Chk.mk (by simp (disch := omega) only [maxN, hF, natc, w64_in, shs]; first | done | assumption | omega | (simp only [natc] at *; omega)) ?_; cbv)
      | (intro (hmx : _ ≤ maxN); replace hmx : _ ≤ 140737488355328 := hmx; cbv)
      | (intro _; cbv)
    rw [e]
    subst hQ
    exact ⟨_, _, Ent.refl _ _, rfl, rfl⟩

theorem index_no (N : Nat) (L : Nat → Int) (x : Int) (hN : N ≤ 65536) (hb : ∀ i, i < N → L i ≠ x) : CallOK (O := Ob) PR n_slices_Index_Sint_int [.vec 0, .dv (.int .i64 x)] [.vec N 1 fun i _ => .dv (.int .i64 (L i))]
    fun v m => v = .dv (.int .i64 (-1)) ∧ m = [.vec N 1 fun i _ => .dv (.int .i64 (L i))] := by
  refine fn_walkv mixed fn_slices_Index_Sint_int (Ent.refl _ _) fun bin cmp un conv bnot beq band sel isel ofN toN inb nz nneg lt le room' slb add sub sbin scmp slen sget ssub addk pc pb pi pf ps mkok min_ ig aeq P hP hA hF Q hQ => ?_
  cbv
  repeat' first
    | (refine Chk.mk trivial ?_; cbv)
    | (refine bc_true (by first | assumption | (simp (disch := omega) only [hF, natc, w64_in, shs]; first | done | assumption | omega | (simp only [natc] at *; omega))) ?_; cbv)
    | (refine bc_false (by first | assumption | (simp (disch := omega) only [hF, natc, w64_in, shs]; first | done | assumption | omega | (simp only [natc] at *; omega))) ?_; cbv)
    | (refine bc_split (fun h => ?_) (fun h => ?_) <;> (try simp (disch := omega) only [hF, natc, w64_in, shs] at h) <;> cbv)
    | (refine IdxVC.mk (by simp (disch := omega) only [hF, natc, w64_in, shs]; first | done | omega | (simp only [natc] at *; omega)) (fun kx hk hk2 => ?_); simp (disch := omega) only [hF, natc, w64_in, shs] at hk; (try obtain rfl : kx = 0 := hk); cbv)
    | (refine Chk.mk (by simp (disch := omega) only [maxN, hF, natc, w64_in, shs]; first | done | assumption | omega | (simp only [natc] at *; omega)) ?_; cbv)
    | (intro (hmx : _ ≤ maxN); replace hmx : _ ≤ 140737488355328 := hmx; cbv)
    | (intro _; cbv)
  refine loop_up mixed hP hA (N) (fun i => True) [4, 5, 8, 9, 10, 11, 12, 13, 14, 15, 16, 17, 18] (fun i => [(8, .dv (.int .i64 (ofN i)))]) (fun _ => [.vec N 1 fun i _ => .dv (.int .i64 (L i))]) (trivial) ?_ fun Nx i hN hi hp => ?_
  · exact Ent.env (by cbv; simp [hF])
  cbv
  by_cases hlt : i < N
  · have hq : cmp .eql x (L i) = false := by simp only [hF, decide_eq_false_iff_not]; exact fun e => hb i hlt e.symm
    cbv
    repeat' first
      | ((rw [hq]); cbv)
      | (refine Chk.mk trivial ?_; cbv)
      | (refine bc_true (by first | assumption | (simp (disch := omega) only [hF, natc, w64_in, shs]; first | done | assumption | omega | (simp only [natc] at *; omega))) ?_; cbv)
      | (refine bc_false (by first | assumption | (simp (disch := omega) only [hF, natc, w64_in, shs]; first | done | assumption | omega | (simp only [natc] at *; omega))) ?_; cbv)
      | (refine bc_split (fun h => ?_) (fun h => ?_) <;> (try simp (disch := omega) only [hF, natc, w64_in, shs] at h) <;> cbv)
      | (refine IdxVC.mk (by simp (disch := omega) only [hF, natc, w64_in, shs]; first | done | omega | (simp only [natc] at *; omega)) (fun kx hk hk2 => ?_); simp (disch := omega) only [hF, natc, w64_in, shs] at hk; (try obtain rfl : kx = 0 := hk); (try obtain rfl : i = kx := hk.symm); cbv)
      | (refine Chk.mk (by simp (disch := omega) only [maxN, hF, natc, w64_in, shs]; first | done | assumption | omega | (simp only [natc] at *; omega)) ?_; cbv)
      | (intro (hmx : _ ≤ maxN); replace hmx : _ ≤ 140737488355328 := hmx; cbv)
      | (intro _; cbv)
    exact hN _ hlt trivial (Ent.env (by cbv; simp (disch := omega) [hF, natc, w64_in]))
  · obtain rfl : i = N := by omega
    cbv
    repeat' first
      | (refine Chk.mk trivial ?_; cbv)
      | (refine bc_true (by first | assumption | (simp (disch := omega) only [hF, natc, w64_in, shs]; first | done | assumption | omega | (simp only [natc] at *; omega))) ?_; cbv)
      | (refine bc_false (by first | assumption | (simp (disch := omega) only [hF, natc, w64_in, shs]; first | done | assumption | omega | (simp only [natc] at *; omega))) ?_; cbv)
      | (refine bc_split (fun h => ?_) (fun h => ?_) <;> (try simp (disch := omega) only [hF, natc, w64_in, shs] at h) <;> cbv)
      | (refine IdxVC.mk (by simp (disch := omega) only [hF, natc, w64_in, shs]; first | done | omega | (simp only [natc] at *; omega)) (fun kx hk hk2 => ?_); simp (disch := omega) only [hF, natc, w64_in, shs] at hk; (try obtain rfl : kx = 0 := hk); cbv)
      | (refine Chk.mk (by simp (disch := omega) only [maxN, hF, natc, w64_in, shs]; first | done | assumption | omega | (simp only [natc] at *; omega)) ?_; cbv)
      | (intro (hmx : _ ≤ maxN); replace hmx : _ ≤ 140737488355328 := hmx; cbv)
      | (intro _; cbv)
    subst hQ
    exact ⟨_, _, Ent.refl _ _, rfl, rfl⟩

/-- A push begins, of an item that is the till's. -/
theorem tPush_w (b n l c : Int) (N : Nat) (L : Nat → Int) (it w an x : Int) (p : Bool) (k : Nat)
    (hi : CallOK (O := Ob) PR n_slices_Index_Sint_int [.vec 0, .dv (.int .i64 x)] [.vec N 1 fun i _ => .dv (.int .i64 (L i))] fun v m => v = .dv (.int .i64 k) ∧ m = [.vec N 1 fun i _ => .dv (.int .i64 (L i))]) :
    CallOK (O := Ob) PR n_till_Till_Push [.ptr 0 0, .dv (.int .i64 x)] [.obj (tO' b n l c N L 0 it w p an)] fun v m => v = .dv (.int .i64 0) ∧ m = [.obj (tO' b n l c N L 1 x w true an)] := by
  refine fn_walkv mixed fn_till_Till_Push Ent.opn1 fun bin cmp un conv bnot beq band sel isel ofN toN inb nz nneg lt le room' slb add sub sbin scmp slen sget ssub addk pc pb pi pf ps mkok min_ ig aeq P hP hA hF Q hQ => ?_
  have hb0 : bnot true = false := by simp only [hF]; rfl
  have hge : cmp .geq (Int.ofNat k) 0 = true := by simp only [hF, decide_eq_true_eq, Int.ofNat_eq_natCast]; omega
  cbv
  repeat' first
    | ((refine call_inl hP mixed hA code_till_Till_wrong fn_till_Till_wrong ?_); cbv)
    | ((refine call_inl hP mixed hA code_slices_Contains_Sint_int fn_slices_Contains_Sint_int ?_); cbv)
    | (refine call_at hP [1] code_slices_Index_Sint_int (hi) rfl ?_ ?_ ?_; (focus ((repeat' (first | exact trivial | exact rfl | (intro _ _ _ _; exact rfl) | refine And.intro ?_ ?_)); done)); (focus (cbv; (try simp); done)); rintro _ _ ⟨rfl, rfl⟩ _; cbv)
    | ((rw [hge]); cbv)
    | ((rw [hb0]); cbv)
    | (refine Chk.mk trivial ?_; cbv)
    | (refine bc_true (by first | assumption | (simp (disch := omega) only [hF, natc, w64_in, shs]; first | done | assumption | omega | (simp only [natc] at *; omega))) ?_; cbv)
    | (refine bc_false (by first | assumption | (simp (disch := omega) only [hF, natc, w64_in, shs]; first | done | assumption | omega | (simp only [natc] at *; omega))) ?_; cbv)
    | (refine bc_split (fun h => ?_) (fun h => ?_) <;> (try simp (disch := omega) only [hF, natc, w64_in, shs] at h) <;> cbv)
    | (refine IdxVC.mk (by simp (disch := omega) only [hF, natc, w64_in, shs]; first | done | omega | (simp only [natc] at *; omega)) (fun kx hk hk2 => ?_); simp (disch := omega) only [hF, natc, w64_in, shs] at hk; (try obtain rfl : kx = 0 := hk); cbv)
    | (refine Chk.mk (by simp (disch := omega) only [maxN, hF, natc, w64_in, shs]; first | done | assumption | omega | (simp only [natc] at *; omega)) ?_; cbv)
    | (intro (hmx : _ ≤ maxN); replace hmx : _ ≤ 140737488355328 := hmx; cbv)
    | (intro _; cbv)
  subst hQ
  exact leaf_t rfl ⟨rfl, rfl⟩

theorem tPush_no (b n l c : Int) (N : Nat) (L : Nat → Int) (it w an x : Int) (p : Bool)
    (hi : CallOK (O := Ob) PR n_slices_Index_Sint_int [.vec 0, .dv (.int .i64 x)] [.vec N 1 fun i _ => .dv (.int .i64 (L i))] fun v m => v = .dv (.int .i64 (-1)) ∧ m = [.vec N 1 fun i _ => .dv (.int .i64 (L i))]) :
    CallOK (O := Ob) PR n_till_Till_Push [.ptr 0 0, .dv (.int .i64 x)] [.obj (tO' b n l c N L 0 it w p an)] fun v m => v = .dv (.int .i64 7) ∧ m = [.obj (tO' b n l c N L 0 it w p an)] := by
  refine fn_walkv mixed fn_till_Till_Push Ent.opn1 fun bin cmp un conv bnot beq band sel isel ofN toN inb nz nneg lt le room' slb add sub sbin scmp slen sget ssub addk pc pb pi pf ps mkok min_ ig aeq P hP hA hF Q hQ => ?_
  have hb0 : bnot false = true := by simp only [hF]; rfl
  have hge : cmp .geq (-1) 0 = false := by simp only [hF]; rfl
  cbv
  repeat' first
    | ((refine call_inl hP mixed hA code_till_Till_wrong fn_till_Till_wrong ?_); cbv)
    | ((refine call_inl hP mixed hA code_slices_Contains_Sint_int fn_slices_Contains_Sint_int ?_); cbv)
    | (refine call_at hP [1] code_slices_Index_Sint_int (hi) rfl ?_ ?_ ?_; (focus ((repeat' (first | exact trivial | exact rfl | (intro _ _ _ _; exact rfl) | refine And.intro ?_ ?_)); done)); (focus (cbv; (try simp); done)); rintro _ _ ⟨rfl, rfl⟩ _; cbv)
    | ((rw [hge]); cbv)
    | ((rw [hb0]); cbv)
    | (refine Chk.mk trivial ?_; cbv)
    | (refine bc_true (by first | assumption | (simp (disch := omega) only [hF, natc, w64_in, shs]; first | done | assumption | omega | (simp only [natc] at *; omega))) ?_; cbv)
    | (refine bc_false (by first | assumption | (simp (disch := omega) only [hF, natc, w64_in, shs]; first | done | assumption | omega | (simp only [natc] at *; omega))) ?_; cbv)
    | (refine bc_split (fun h => ?_) (fun h => ?_) <;> (try simp (disch := omega) only [hF, natc, w64_in, shs] at h) <;> cbv)
    | (refine IdxVC.mk (by simp (disch := omega) only [hF, natc, w64_in, shs]; first | done | omega | (simp only [natc] at *; omega)) (fun kx hk hk2 => ?_); simp (disch := omega) only [hF, natc, w64_in, shs] at hk; (try obtain rfl : kx = 0 := hk); cbv)
    | (refine Chk.mk (by simp (disch := omega) only [maxN, hF, natc, w64_in, shs]; first | done | assumption | omega | (simp only [natc] at *; omega)) ?_; cbv)
    | (intro (hmx : _ ≤ maxN); replace hmx : _ ≤ 140737488355328 := hmx; cbv)
    | (intro _; cbv)
  subst hQ
  exact leaf_t rfl ⟨rfl, rfl⟩

end Go.Proofs.Ytiaceoomiflgcaa

end

section
namespace Go.Proofs.Ytiaceoomiflgcaa
open Go.V
set_option linter.unusedVariables false
set_option linter.unusedSimpArgs false
set_option maxRecDepth 100000
set_option maxHeartbeats 8000000

/-- A till's own part, its list at handle 0. -/
def tBl (b n l c st it w : Int) (p : Bool) (an : Int) : Chunk Ob :=
  .blk [.one (.dv (.int .i64 b)), .one (.dv (.int .i64 n)), .one (.dv (.int .i64 l)), .one (.dv (.int .i64 c)), .one (.vec 0), .one (.dv (.int .i64 st)), .one (.dv (.int .i64 it)), .one (.dv (.int .i64 w)), .one (.dv (.bool p)), .one (.dv (.int .i64 an))]

theorem idxf_w (b n l c st it w an : Int) (p : Bool) (N : Nat) (L : Nat → Int) (k : Nat) (hk : k < N) (hN : N ≤ 65536) (hx : L k = it) (hb : ∀ i, i < k → L i ≠ it) :
    CallOK (O := Ob) PR n_slices_IndexFunc_Sint_int [.vec 0, .fn n_till_Till_end_c1 [.ptr 1 0]] [.vec N 1 (fun i _ => .dv (.int .i64 (L i))), .blk [.one (.ptr 2 0)], tBl b n l c st it w p an]
      fun v m => v = .dv (.int .i64 k) ∧ m = [.vec N 1 (fun i _ => .dv (.int .i64 (L i))), .blk [.one (.ptr 2 0)], tBl b n l c st it w p an] := by
  unfold tBl
  refine fn_walkv mixed fn_slices_IndexFunc_Sint_int (Ent.refl _ _) fun bin cmp un conv bnot beq band sel isel ofN toN inb nz nneg lt le room' slb add sub sbin scmp slen sget ssub addk pc pb pi pf ps mkok min_ ig aeq P hP hA hF Q hQ => ?_
  cbv
  repeat' first
    | (refine Chk.mk trivial ?_; cbv)
    | (refine bc_true (by first | assumption | (simp (disch := omega) only [hF, natc, w64_in, shs]; first | done | assumption | omega | (simp only [natc] at *; omega))) ?_; cbv)
    | (refine bc_false (by first | assumption | (simp (disch := omega) only [hF, natc, w64_in, shs]; first | done | assumption | omega | (simp only [natc] at *; omega))) ?_; cbv)
    | (refine bc_split (fun h => ?_) (fun h => ?_) <;> (try simp (disch := omega) only [hF, natc, w64_in, shs] at h) <;> cbv)
    | (refine IdxVC.mk (by simp (disch := omega) only [hF, natc, w64_in, shs]; first | done | omega | (simp only [natc] at *; omega)) (fun kx hk hk2 => ?_); simp (disch := omega) only [hF, natc, w64_in, shs] at hk; (try obtain rfl : kx = 0 := hk); cbv)
    | (refine Chk.mk (by simp (disch := omega) only [maxN, hF, natc, w64_in, shs]; first | done | assumption | omega | (simp only [natc] at *; omega)) ?_; cbv)
    | (intro (hmx : _ ≤ maxN); replace hmx : _ ≤ 140737488355328 := hmx; cbv)
    | (intro _; cbv)
  refine loop_up mixed hP hA (k) (fun i => True) [4, 5, 8, 9, 10, 11, 12, 13, 14, 15, 16, 17, 18] (fun i => [(8, .dv (.int .i64 (ofN i)))]) (fun _ => [.vec N 1 (fun i _ => .dv (.int .i64 (L i))), .blk [.one (.ptr 2 0)], tBl b n l c st it w p an]) (trivial) ?_ fun Nx i hN hi hp => ?_
  · exact Ent.env (by cbv; simp [hF])
  cbv
  by_cases hlt : i < k
  · have hq : cmp .eql (L i) it = false := by simp only [hF, decide_eq_false_iff_not]; exact hb i hlt
    cbv
    repeat' first
      | ((refine call_inl hP mixed hA code_till_Till_end_c1 fn_till_Till_end_c1 ?_); cbv)
      | ((rw [hq]); cbv)
      | (refine Chk.mk trivial ?_; cbv)
      | (refine bc_true (by first | assumption | (simp (disch := omega) only [hF, natc, w64_in, shs]; first | done | assumption | omega | (simp only [natc] at *; omega))) ?_; cbv)
      | (refine bc_false (by first | assumption | (simp (disch := omega) only [hF, natc, w64_in, shs]; first | done | assumption | omega | (simp only [natc] at *; omega))) ?_; cbv)
      | (refine bc_split (fun h => ?_) (fun h => ?_) <;> (try simp (disch := omega) only [hF, natc, w64_in, shs] at h) <;> cbv)
      | (refine IdxVC.mk (by simp (disch := omega) only [hF, natc, w64_in, shs]; first | done | omega | (simp only [natc] at *; omega)) (fun kx hk hk2 => ?_); simp (disch := omega) only [hF, natc, w64_in, shs] at hk; (try obtain rfl : kx = 0 := hk); (try obtain rfl : i = kx := hk.symm); cbv)
      | (refine Chk.mk (by simp (disch := omega) only [maxN, hF, natc, w64_in, shs]; first | done | assumption | omega | (simp only [natc] at *; omega)) ?_; cbv)
      | (intro (hmx : _ ≤ maxN); replace hmx : _ ≤ 140737488355328 := hmx; cbv)
      | (intro _; cbv)
    exact hN _ hlt trivial (Ent.env (by cbv; simp (disch := omega) [hF, natc, w64_in]))
  · obtain rfl : i = k := by omega
    have hq : cmp .eql (L i) it = true := by simp only [hF, decide_eq_true_eq]; exact hx
    have e : ofN i = (i : Int) := by simp only [hF]
    cbv
    repeat' first
      | ((refine call_inl hP mixed hA code_till_Till_end_c1 fn_till_Till_end_c1 ?_); cbv)
      | ((rw [hq]); cbv)
      | (refine Chk.mk trivial ?_; cbv)
      | (refine bc_true (by first | assumption | (simp (disch := omega) only [hF, natc, w64_in, shs]; first | done | assumption | omega | (simp only [natc] at *; omega))) ?_; cbv)
      | (refine bc_false (by first | assumption | (simp (disch := omega) only [hF, natc, w64_in, shs]; first | done | assumption | omega | (simp only [natc] at *; omega))) ?_; cbv)
      | (refine bc_split (fun h => ?_) (fun h => ?_) <;> (try simp (disch := omega) only [hF, natc, w64_in, shs] at h) <;> cbv)
      | (refine IdxVC.mk (by simp (disch := omega) only [hF, natc, w64_in, shs]; first | done | omega | (simp only [natc] at *; omega)) (fun kx hk hk2 => ?_); simp (disch := omega) only [hF, natc, w64_in, shs] at hk; (try obtain rfl : kx = 0 := hk); (try obtain rfl : i = kx := hk.symm); cbv)
      | (refine Chk.mk (by simp (disch := omega) only [maxN, hF, natc, w64_in, shs]; first | done | assumption | omega | (simp only [natc] at *; omega)) ?_; cbv)
      | (intro (hmx : _ ≤ maxN); replace hmx : _ ≤ 140737488355328 := hmx; cbv)
      | (intro _; cbv)
    rw [e]
    subst hQ
    exact ⟨_, _, Ent.refl _ _, rfl, rfl⟩

theorem delf_w (b n l c st it w an : Int) (p : Bool) (N : Nat) (L L' : Nat → Int) (k : Nat) (hk : k < N) (hN : N ≤ 65536) (hu : ∀ i, k < i → i < N → L i ≠ it) (hL' : ∀ x, L' x = if x < k then L x else L (x + 1))
    (hidx : CallOK (O := Ob) PR n_slices_IndexFunc_Sint_int [.vec 0, .fn n_till_Till_end_c1 [.ptr 1 0]] [.vec N 1 (fun i _ => .dv (.int .i64 (L i))), .blk [.one (.ptr 2 0)], tBl b n l c st it w p an]
      fun v m => v = .dv (.int .i64 k) ∧ m = [.vec N 1 (fun i _ => .dv (.int .i64 (L i))), .blk [.one (.ptr 2 0)], tBl b n l c st it w p an]) :
    CallOK (O := Ob) PR n_slices_DeleteFunc_Sint_int [.vec 0, .fn n_till_Till_end_c1 [.ptr 1 0]] [.vec N 1 (fun i _ => .dv (.int .i64 (L i))), .blk [.one (.ptr 2 0)], tBl b n l c st it w p an]
      fun v m => v = .vec 3 ∧ m = [.gone, .blk [.one (.ptr 2 0)], tBl b n l c st it w p an, .vec (N - 1) 1 fun i _ => .dv (.int .i64 (L' i))] := by
  obtain ⟨M, hM⟩ : ∃ M : Nat → Nat → Int, ∀ t x, M t x = if x < k then L x else if x < k + t then L (x + 1) else L x := ⟨_, fun _ _ => rfl⟩
  unfold tBl at *
  refine fn_walkv mixed fn_slices_DeleteFunc_Sint_int (Ent.refl _ _) fun bin cmp un conv bnot beq band sel isel ofN toN inb nz nneg lt le room' slb add sub sbin scmp slen sget ssub addk pc pb pi pf ps mkok min_ ig aeq P hP hA hF Q hQ => ?_
  have hk1 : cmp .eql (Int.ofNat k) (-1) = false := by simp only [hF, decide_eq_false_iff_not, Int.ofNat_eq_natCast]; omega
  cbv
  repeat' first
    | (refine call_at hP [0, 1, 2] code_slices_IndexFunc_Sint_int (hidx) rfl ?_ ?_ ?_; (focus ((repeat' (first | exact trivial | exact rfl | (intro _ _ _ _; exact rfl) | refine And.intro ?_ ?_)); done)); (focus (cbv; (try simp); done)); rintro _ _ ⟨rfl, rfl⟩ _; cbv)
    | ((rw [hk1]); cbv)
    | (refine Chk.mk trivial ?_; cbv)
    | (refine bc_true (by first | assumption | (simp (disch := omega) only [hF, natc, w64_in, shs]; first | done | assumption | omega | (simp only [natc] at *; omega))) ?_; cbv)
    | (refine bc_false (by first | assumption | (simp (disch := omega) only [hF, natc, w64_in, shs]; first | done | assumption | omega | (simp only [natc] at *; omega))) ?_; cbv)
    | (refine bc_split (fun h => ?_) (fun h => ?_) <;> (try simp (disch := omega) only [hF, natc, w64_in, shs] at h) <;> cbv)
    | (refine IdxVC.mk (by simp (disch := omega) only [hF, natc, w64_in, shs]; first | done | omega | (simp only [natc] at *; omega)) (fun kx hk hk2 => ?_); simp (disch := omega) only [hF, natc, w64_in, shs] at hk; (try obtain rfl : kx = 0 := hk); cbv)
    | (refine Chk.mk (by simp (disch := omega) only [maxN, hF, natc, w64_in, shs]; first | done | assumption | omega | (simp only [natc] at *; omega)) ?_; cbv)
    | (intro (hmx : _ ≤ maxN); replace hmx : _ ≤ 140737488355328 := hmx; cbv)
    | (intro _; cbv)
  refine loop_up mixed hP hA (N - (k + 1)) (fun t => True) [5, 6, 7, 16, 17, 18, 19, 20, 21, 22, 23, 24, 25, 26, 27, 28, 29, 30, 31, 32, 33, 34, 35] (fun t => [(5, .dv (.int .i64 (ofN (k + t)))), (6, .dv (.int .i64 (ofN (k + 1 + t))))]) (fun t => [.vec N 1 (fun i _ => .dv (.int .i64 (M t i))), .blk [.one (.ptr 2 0)], .blk [.one (.dv (.int .i64 b)), .one (.dv (.int .i64 n)), .one (.dv (.int .i64 l)), .one (.dv (.int .i64 c)), .one (.vec 0), .one (.dv (.int .i64 st)), .one (.dv (.int .i64 it)), .one (.dv (.int .i64 w)), .one (.dv (.bool p)), .one (.dv (.int .i64 an))]]) (trivial) ?_ fun Nx t hN2 hi hp => ?_
  · refine Ent.ren [0, 1, 2] rfl rfl ⟨⟨rfl, rfl, fun x f hx hf => ?_⟩, ⟨rfl, trivial⟩, ⟨rfl, rfl, rfl, rfl, rfl, rfl, rfl, rfl, rfl, rfl, trivial⟩, trivial⟩ (by cbv; simp (disch := omega) [hF, natc, w64_in])
    show VLe _ (.dv (.int .i64 (L x))) (.dv (.int .i64 (M 0 x)))
    rw [hM]
    by_cases h : x < k
    · rw [if_pos h]; rfl
    · rw [if_neg h, if_neg (by omega)]; rfl
  cbv
  by_cases hlt : t < N - (k + 1)
  · have hMj : M t (k + 1 + t) = L (k + 1 + t) := by rw [hM, if_neg (by omega), if_neg (by omega)]
    have hq : cmp .eql (M t (k + 1 + t)) it = false := by simp only [hF, decide_eq_false_iff_not, hMj]; exact hu _ (by omega) (by omega)
    have hb0 : bnot false = true := by simp only [hF]; rfl
    have hj : k + 1 + t < N := by omega
    have hi' : k + t < N := by omega
    obtain ⟨j, ej⟩ : ∃ j, j = k + 1 + t := ⟨_, rfl⟩
    obtain ⟨i, ei⟩ : ∃ i, i = k + t := ⟨_, rfl⟩
    rw [← ej] at hMj hq hj
    rw [← ei] at hi'
    rw [← ej, ← ei]
    cbv
    repeat' first
      | ((refine call_inl hP mixed hA code_till_Till_end_c1 fn_till_Till_end_c1 ?_); cbv)
      | ((rw [hq]); cbv)
      | ((rw [hb0]); cbv)
      | (refine Chk.mk trivial ?_; cbv)
      | (refine bc_true (by first | assumption | (simp (disch := omega) only [hF, natc, w64_in, shs]; first | done | assumption | omega | (simp only [natc] at *; omega))) ?_; cbv)
      | (refine bc_false (by first | assumption | (simp (disch := omega) only [hF, natc, w64_in, shs]; first | done | assumption | omega | (simp only [natc] at *; omega))) ?_; cbv)
      | (refine bc_split (fun h => ?_) (fun h => ?_) <;> (try simp (disch := omega) only [hF, natc, w64_in, shs] at h) <;> cbv)
      | (refine IdxVC.mk (by simp (disch := omega) only [hF, natc, w64_in, shs]; first | done | omega | (simp only [natc] at *; omega)) (fun kx hk hk2 => ?_); simp (disch := omega) only [hF, natc, w64_in, shs] at hk; (try obtain rfl : kx = 0 := hk); (try obtain rfl : j = kx := hk.symm); (try obtain rfl : i = kx := hk.symm); cbv)
      | (refine Chk.mk (by simp (disch := omega) only [maxN, hF, natc, w64_in, shs]; first | done | assumption | omega | (simp only [natc] at *; omega)) ?_; cbv)
      | (intro (hmx : _ ≤ maxN); replace hmx : _ ≤ 140737488355328 := hmx; cbv)
      | (intro _; cbv)
    subst ei; subst ej
    refine hN2 _ hlt trivial (Ent.ren [0, 1, 2] rfl rfl ⟨⟨rfl, rfl, fun x f hx hf => ?_⟩, ⟨rfl, trivial⟩, ⟨rfl, rfl, rfl, rfl, rfl, rfl, rfl, rfl, rfl, rfl, trivial⟩, trivial⟩ (by cbv; simp (disch := omega) [hF, natc, w64_in]; try omega))
    obtain rfl : f = 0 := by omega
    rw [updRow_one (fun i => .int .i64 (M t i))]
    show VLe _ _ (.dv (.int .i64 (M (t + 1) x)))
    by_cases hxi : x = k + t
    · rw [if_pos hxi, hMj, hM, if_neg (by omega), if_pos (by omega), hxi, show k + t + 1 = k + 1 + t by omega]; rfl
    · rw [if_neg hxi, hM, hM]
      by_cases h1 : x < k
      · rw [if_pos h1, if_pos h1]; rfl
      · by_cases h2 : x < k + t
        · rw [if_neg h1, if_neg h1, if_pos h2, if_pos (by omega)]; rfl
        · rw [if_neg h1, if_neg h1, if_neg h2, if_neg (by omega)]; rfl
  · obtain rfl : t = N - (k + 1) := by omega
    cbv
    repeat' first
      | (refine Chk.mk trivial ?_; cbv)
      | (refine bc_true (by first | assumption | (simp (disch := omega) only [hF, natc, w64_in, shs]; first | done | assumption | omega | (simp only [natc] at *; omega))) ?_; cbv)
      | (refine bc_false (by first | assumption | (simp (disch := omega) only [hF, natc, w64_in, shs]; first | done | assumption | omega | (simp only [natc] at *; omega))) ?_; cbv)
      | (refine bc_split (fun h => ?_) (fun h => ?_) <;> (try simp (disch := omega) only [hF, natc, w64_in, shs] at h) <;> cbv)
      | (refine IdxVC.mk (by simp (disch := omega) only [hF, natc, w64_in, shs]; first | done | omega | (simp only [natc] at *; omega)) (fun kx hk hk2 => ?_); simp (disch := omega) only [hF, natc, w64_in, shs] at hk; (try obtain rfl : kx = 0 := hk); cbv)
      | (refine Chk.mk (by simp (disch := omega) only [maxN, hF, natc, w64_in, shs]; first | done | assumption | omega | (simp only [natc] at *; omega)) ?_; cbv)
      | (intro (hmx : _ ≤ maxN); replace hmx : _ ≤ 140737488355328 := hmx; cbv)
      | (intro _; cbv)
    have e0 : toN 0 = 0 := by simp only [hF]; rfl
    have e1 : toN (ofN (k + (N - (k + 1)))) = N - 1 := by simp only [hF, Int.toNat_natCast]; omega
    have e2 : sub (N - 1) 0 = N - 1 := by simp only [hF]; omega
    have e3 : toN (ofN N) = N := by simp only [hF, Int.toNat_natCast]
    rw [e0, e1, e2, e3]
    subst hQ
    refine ⟨.vec 3, [.gone, .blk [.one (.ptr 2 0)], .blk [.one (.dv (.int .i64 b)), .one (.dv (.int .i64 n)), .one (.dv (.int .i64 l)), .one (.dv (.int .i64 c)), .one (.vec 0), .one (.dv (.int .i64 st)), .one (.dv (.int .i64 it)), .one (.dv (.int .i64 w)), .one (.dv (.bool p)), .one (.dv (.int .i64 an))], .vec (N - 1) 1 fun i _ => .dv (.int .i64 (L' i))], ?_, rfl, rfl⟩
    refine (Ent.cut 0 0 (lo := 0) (r := N - 1) (m := N) rfl rfl (by omega)).trans (Ent.ren [0, 1, 2, 3] rfl rfl ?_ ⟨rfl, trivial⟩)
    refine ⟨trivial, ⟨rfl, trivial⟩, ⟨rfl, rfl, rfl, rfl, rfl, rfl, rfl, rfl, rfl, rfl, trivial⟩, ⟨rfl, rfl, fun x f hx hf => ?_⟩, trivial⟩
    obtain rfl : f = 0 := by omega
    have hx : x < N - 1 := hx
    show VLe _ (cpyAt _ _ _ _ (0 + x) 0) (.dv (.int .i64 (L' x)))
    unfold cpyAt
    rw [if_neg (by omega), Nat.zero_add]
    show VLe _ (.dv (.int .i64 (M (N - (k + 1)) x))) _
    rw [hM, hL']
    by_cases h1 : x < k
    · rw [if_pos h1, if_pos h1]; rfl
    · rw [if_neg h1, if_neg h1, if_pos (by omega)]; rfl

end Go.Proofs.Ytiaceoomiflgcaa

end

section
namespace Go.Proofs.Ytiaceoomiflgcaa
open Go.V
set_option linter.unusedVariables false
set_option linter.unusedSimpArgs false
set_option maxRecDepth 100000
set_option maxHeartbeats 8000000

/-- A step of a till at a soc: what it answers, the till and the soc then. -/
def StepW (o : Ob) (x : Ob) (d : Bool) (e : Int) (o' : Ob) (x' : Ob) : Prop :=
  CallOK (O := Ob) PR n_till_Till_Step [.ptr 0 0, .ptr 1 0] [.obj o, .obj x] fun v m => v = .tup [.dv (.bool d), .dv (.int .i64 e)] ∧ m = [.obj o', .obj x']
def RdT (x : Ob) (c a w e : Int) (x' : Ob) : Prop := CallOK (O := Ob) PR n_soc_Soc_Read [.ptr 0 0, .dv (.int .i64 c), .dv (.int .i64 a)] [.obj x] fun v m => v = .tup [.dv (.int .i64 w), .dv (.int .i64 e)] ∧ m = [.obj x']
def WtT (x : Ob) (c a w e : Int) (x' : Ob) : Prop := CallOK (O := Ob) PR n_soc_Soc_Write [.ptr 0 0, .dv (.int .i64 c), .dv (.int .i64 a), .dv (.int .i64 w)] [.obj x] fun v m => v = .dv (.int .i64 e) ∧ m = [.obj x']

/-- A till lying open, behind it a soc. -/
def tOp (b n l c : Int) (N : Nat) (L : Nat → Int) (st it w : Int) (p : Bool) (an : Int) (x : Ob) : List (Chunk Ob) :=
  [.blk [.one (.dv (.int .i64 b)), .one (.dv (.int .i64 n)), .one (.dv (.int .i64 l)), .one (.dv (.int .i64 c)), .one (.vec 2), .one (.dv (.int .i64 st)), .one (.dv (.int .i64 it)), .one (.dv (.int .i64 w)), .one (.dv (.bool p)), .one (.dv (.int .i64 an))],
   .obj x, .vec N 1 fun i _ => .dv (.int .i64 (L i))]

theorem opn_t {b n l c : Int} {N : Nat} {L : Nat → Int} {st it w : Int} {p : Bool} {an : Int} {x : Ob} : Ent 2 ⟨[.ptr 0 0, .ptr 1 0], [.obj (tO' b n l c N L st it w p an), .obj x]⟩ ⟨[.ptr 0 0, .ptr 1 0], tOp b n l c N L st it w p an x⟩ := by
  refine (Ent.opn (lmem := tM' b n l c N L st it w p an) 0 rfl).trans (Ent.ren [0, 1, 2] rfl rfl ?_ ⟨rfl, rfl, trivial⟩)
  exact ⟨⟨rfl, rfl, rfl, rfl, rfl, rfl, rfl, rfl, rfl, rfl, trivial⟩, rfl, ⟨rfl, rfl, fun _ _ _ _ => rfl⟩, trivial⟩

theorem leaf_tx {b n l c : Int} {N : Nat} {L : Nat → Int} {st it w : Int} {p : Bool} {an : Int} {x : Ob} {v : SV} {mem : List (Chunk Ob)} {Q : SV → List (Chunk Ob) → Prop} (hm : MLe [0, 1, 2] mem [0, 1, 2] (tOp b n l c N L st it w p an x)) (hu : VLe [0, 1, 2] v v) (hu2 : VLe [0, 1] v v)
    (hq : Q v [.obj (tO' b n l c N L st it w p an), .obj x]) : ∃ r' m', Ent 2 ⟨[v], mem⟩ ⟨[r'], m'⟩ ∧ Q r' m' := by
  refine ⟨v, _, Ent.trans (Ent.ren (s := ⟨[v], mem⟩) (s' := ⟨[v], tOp b n l c N L st it w p an x⟩) [0, 1, 2] rfl rfl hm ⟨hu, trivial⟩) ((Ent.cls 0 [2] (tM' b n l c N L st it w p an) rfl rfl ?_).trans (Ent.ren (s' := ⟨[v], [.obj (tO' b n l c N L st it w p an), .obj x]⟩) [0, 1] rfl rfl ?_ ⟨hu2, trivial⟩)), hq⟩
  · exact ⟨⟨rfl, rfl, rfl, rfl, rfl, rfl, rfl, rfl, rfl, rfl, trivial⟩, ⟨rfl, rfl, fun _ _ _ _ => rfl⟩, trivial⟩
  · exact ⟨rfl, rfl, trivial⟩

theorem leaf_th {b n l c : Int} {N : Nat} {L : Nat → Int} {st it w : Int} {p : Bool} {an : Int} {x : Ob} {v : SV} {mem : List (Chunk Ob)} {Q : SV → List (Chunk Ob) → Prop} (h : Nat) (hh : nodupN [0, 1, h] = true) (hm : MLe [0, 1, h] mem [0, 1, h] (tOp b n l c N L st it w p an x)) (hu : VLe [0, 1, h] v v) (hu2 : VLe [0, 1] v v)
    (hq : Q v [.obj (tO' b n l c N L st it w p an), .obj x]) : ∃ r' m', Ent 2 ⟨[v], mem⟩ ⟨[r'], m'⟩ ∧ Q r' m' := by
  refine ⟨v, _, Ent.trans (Ent.ren (s := ⟨[v], mem⟩) (s' := ⟨[v], tOp b n l c N L st it w p an x⟩) [0, 1, h] rfl hh hm ⟨hu, trivial⟩) ((Ent.cls 0 [2] (tM' b n l c N L st it w p an) rfl rfl ?_).trans (Ent.ren (s' := ⟨[v], [.obj (tO' b n l c N L st it w p an), .obj x]⟩) [0, 1] rfl rfl ?_ ⟨hu2, trivial⟩)), hq⟩
  · exact ⟨⟨rfl, rfl, rfl, rfl, rfl, rfl, rfl, rfl, rfl, rfl, trivial⟩, ⟨rfl, rfl, fun _ _ _ _ => rfl⟩, trivial⟩
  · exact ⟨rfl, rfl, trivial⟩

theorem step1 (b n l c : Int) (N : Nat) (L : Nat → Int) (it w an : Int) (p : Bool) (x x' : Ob) (u : Int) (hl : 0 ≤ l ∧ l < 16) (hu : u = 0 ∨ u = 1) (hr : RdT x c (65792 + l) u 0 x') :
    StepW (tO' b n l c N L 1 it w p an) x false 0 (tO' b n l c N L (1 + u) it w p an) x' := by
  unfold RdT at hr; unfold StepW
  refine fn_walkv mixed fn_till_Till_Step opn_t fun bin cmp un conv bnot beq band sel isel ofN toN inb nz nneg lt le room' slb add sub sbin scmp slen sget ssub addk pc pb pi pf ps mkok min_ ig aeq P hP hA hF Q hQ => ?_
  have ha : bin .add .i64 65792 l = 65792 + l := by simp only [hF]; rw [w64_in (by omega)]
  have h1 : bin .add .i64 1 u = 1 + u := by simp only [hF]; rw [w64_in (by omega)]
  cbv
  repeat' first
    | ((refine call_inl hP mixed hA code_till_Till_touch fn_till_Till_touch ?_); cbv)
    | ((rw [ha]); cbv)
    | (refine call_at hP [1] code_soc_Soc_Read (hr) rfl ?_ ?_ ?_; (focus ((repeat' (first | exact trivial | exact rfl | (intro _ _ _ _; exact rfl) | refine And.intro ?_ ?_)); done)); (focus (cbv; (try simp); done)); rintro _ _ ⟨rfl, rfl⟩ _; cbv)
    | ((rw [h1]); cbv)
    | ((refine And.intro ?_ ?_); cbv)
    | (refine Chk.mk trivial ?_; cbv)
    | (refine bc_true (by first | assumption | (simp (disch := omega) only [hF, natc, w64_in, shs]; first | done | assumption | omega | (simp only [natc] at *; omega))) ?_; cbv)
    | (refine bc_false (by first | assumption | (simp (disch := omega) only [hF, natc, w64_in, shs]; first | done | assumption | omega | (simp only [natc] at *; omega))) ?_; cbv)
    | (refine bc_split (fun h => ?_) (fun h => ?_) <;> (try simp (disch := omega) only [hF, natc, w64_in, shs] at h) <;> cbv)
    | (refine IdxVC.mk (by simp (disch := omega) only [hF, natc, w64_in, shs]; first | done | omega | (simp only [natc] at *; omega)) (fun kx hk hk2 => ?_); simp (disch := omega) only [hF, natc, w64_in, shs] at hk; (try obtain rfl : kx = 0 := hk); cbv)
    | (refine Chk.mk (by simp (disch := omega) only [maxN, hF, natc, w64_in, shs]; first | done | assumption | omega | (simp only [natc] at *; omega)) ?_; cbv)
    | (intro (hmx : _ ≤ maxN); replace hmx : _ ≤ 140737488355328 := hmx; cbv)
    | (intro _; cbv)
  all_goals (subst hQ; exact leaf_tx ⟨⟨rfl, rfl, rfl, rfl, rfl, rfl, rfl, rfl, rfl, rfl, trivial⟩, rfl, ⟨rfl, rfl, fun _ _ _ _ => rfl⟩, trivial⟩ rfl rfl ⟨rfl, rfl⟩)

theorem step2p (b n l c : Int) (N : Nat) (L : Nat → Int) (it w an : Int) (p : Bool) (x x' : Ob) (u : Int) (hr : RdT x c b u 0 x') :
    StepW (tO' b n l c N L 2 it w true an) x false 0 (tO' b n l c N L 3 it u true an) x' := by
  unfold RdT at hr; unfold StepW
  refine fn_walkv mixed fn_till_Till_Step opn_t fun bin cmp un conv bnot beq band sel isel ofN toN inb nz nneg lt le room' slb add sub sbin scmp slen sget ssub addk pc pb pi pf ps mkok min_ ig aeq P hP hA hF Q hQ => ?_
  have hbt : bnot true = false := by simp only [hF]; rfl
  cbv
  repeat' first
    | ((refine call_inl hP mixed hA code_till_Till_touch fn_till_Till_touch ?_); cbv)
    | (refine call_at hP [1] code_soc_Soc_Read (hr) rfl ?_ ?_ ?_; (focus ((repeat' (first | exact trivial | exact rfl | (intro _ _ _ _; exact rfl) | refine And.intro ?_ ?_)); done)); (focus (cbv; (try simp); done)); rintro _ _ ⟨rfl, rfl⟩ _; cbv)
    | ((rw [hbt]); cbv)
    | ((refine And.intro ?_ ?_); cbv)
    | (refine Chk.mk trivial ?_; cbv)
    | (refine bc_true (by first | assumption | (simp (disch := omega) only [hF, natc, w64_in, shs]; first | done | assumption | omega | (simp only [natc] at *; omega))) ?_; cbv)
    | (refine bc_false (by first | assumption | (simp (disch := omega) only [hF, natc, w64_in, shs]; first | done | assumption | omega | (simp only [natc] at *; omega))) ?_; cbv)
    | (refine bc_split (fun h => ?_) (fun h => ?_) <;> (try simp (disch := omega) only [hF, natc, w64_in, shs] at h) <;> cbv)
    | (refine IdxVC.mk (by simp (disch := omega) only [hF, natc, w64_in, shs]; first | done | omega | (simp only [natc] at *; omega)) (fun kx hk hk2 => ?_); simp (disch := omega) only [hF, natc, w64_in, shs] at hk; (try obtain rfl : kx = 0 := hk); cbv)
    | (refine Chk.mk (by simp (disch := omega) only [maxN, hF, natc, w64_in, shs]; first | done | assumption | omega | (simp only [natc] at *; omega)) ?_; cbv)
    | (intro (hmx : _ ≤ maxN); replace hmx : _ ≤ 140737488355328 := hmx; cbv)
    | (intro _; cbv)
  all_goals (subst hQ; exact leaf_tx ⟨⟨rfl, rfl, rfl, rfl, rfl, rfl, rfl, rfl, rfl, rfl, trivial⟩, rfl, ⟨rfl, rfl, fun _ _ _ _ => rfl⟩, trivial⟩ rfl rfl ⟨rfl, rfl⟩)

theorem step2q (b n l c : Int) (N : Nat) (L : Nat → Int) (it w an : Int) (p : Bool) (x x' : Ob) (u : Int) (hu : 1 ≤ u ∧ u ≤ n) (hn : n ≤ 65536) (hr : RdT x c b u 0 x') :
    StepW (tO' b n l c N L 2 it w false an) x false 0 (tO' b n l c N L 3 (u - 1) u false an) x' := by
  unfold RdT at hr; unfold StepW
  refine fn_walkv mixed fn_till_Till_Step opn_t fun bin cmp un conv bnot beq band sel isel ofN toN inb nz nneg lt le room' slb add sub sbin scmp slen sget ssub addk pc pb pi pf ps mkok min_ ig aeq P hP hA hF Q hQ => ?_
  have hbf : bnot false = true := by simp only [hF]; rfl
  have hg : cmp .gtr u n = false := by simp only [hF, decide_eq_false_iff_not]; omega
  have hz : cmp .eql u 0 = false := by simp only [hF, decide_eq_false_iff_not]; omega
  have hs : bin .sub .i64 u 1 = u - 1 := by simp only [hF]; rw [w64_in (by omega)]
  cbv
  repeat' first
    | ((refine call_inl hP mixed hA code_till_Till_touch fn_till_Till_touch ?_); cbv)
    | (refine call_at hP [1] code_soc_Soc_Read (hr) rfl ?_ ?_ ?_; (focus ((repeat' (first | exact trivial | exact rfl | (intro _ _ _ _; exact rfl) | refine And.intro ?_ ?_)); done)); (focus (cbv; (try simp); done)); rintro _ _ ⟨rfl, rfl⟩ _; cbv)
    | ((rw [hbf]); cbv)
    | ((refine call_inl hP mixed hA code_till_Till_taken fn_till_Till_taken ?_); cbv)
    | ((rw [hg]); cbv)
    | ((rw [hz]); cbv)
    | ((rw [hs]); cbv)
    | ((refine And.intro ?_ ?_); cbv)
    | (refine Chk.mk trivial ?_; cbv)
    | (refine bc_true (by first | assumption | (simp (disch := omega) only [hF, natc, w64_in, shs]; first | done | assumption | omega | (simp only [natc] at *; omega))) ?_; cbv)
    | (refine bc_false (by first | assumption | (simp (disch := omega) only [hF, natc, w64_in, shs]; first | done | assumption | omega | (simp only [natc] at *; omega))) ?_; cbv)
    | (refine bc_split (fun h => ?_) (fun h => ?_) <;> (try simp (disch := omega) only [hF, natc, w64_in, shs] at h) <;> cbv)
    | (refine IdxVC.mk (by simp (disch := omega) only [hF, natc, w64_in, shs]; first | done | omega | (simp only [natc] at *; omega)) (fun kx hk hk2 => ?_); simp (disch := omega) only [hF, natc, w64_in, shs] at hk; (try obtain rfl : kx = 0 := hk); cbv)
    | (refine Chk.mk (by simp (disch := omega) only [maxN, hF, natc, w64_in, shs]; first | done | assumption | omega | (simp only [natc] at *; omega)) ?_; cbv)
    | (intro (hmx : _ ≤ maxN); replace hmx : _ ≤ 140737488355328 := hmx; cbv)
    | (intro _; cbv)
  all_goals (subst hQ; exact leaf_tx ⟨⟨rfl, rfl, rfl, rfl, rfl, rfl, rfl, rfl, rfl, rfl, trivial⟩, rfl, ⟨rfl, rfl, fun _ _ _ _ => rfl⟩, trivial⟩ rfl rfl ⟨rfl, rfl⟩)

theorem step2z (b n l c : Int) (N : Nat) (L : Nat → Int) (it w an : Int) (p : Bool) (x x' : Ob) (hn : 0 ≤ n) (hr : RdT x c b 0 0 x') :
    StepW (tO' b n l c N L 2 it w false an) x false 0 (tO' b n l c N L 5 it 0 false 6) x' := by
  unfold RdT at hr; unfold StepW
  refine fn_walkv mixed fn_till_Till_Step opn_t fun bin cmp un conv bnot beq band sel isel ofN toN inb nz nneg lt le room' slb add sub sbin scmp slen sget ssub addk pc pb pi pf ps mkok min_ ig aeq P hP hA hF Q hQ => ?_
  have hbf : bnot false = true := by simp only [hF]; rfl
  have hg : cmp .gtr 0 n = false := by simp only [hF, decide_eq_false_iff_not]; omega
  cbv
  repeat' first
    | ((refine call_inl hP mixed hA code_till_Till_touch fn_till_Till_touch ?_); cbv)
    | (refine call_at hP [1] code_soc_Soc_Read (hr) rfl ?_ ?_ ?_; (focus ((repeat' (first | exact trivial | exact rfl | (intro _ _ _ _; exact rfl) | refine And.intro ?_ ?_)); done)); (focus (cbv; (try simp); done)); rintro _ _ ⟨rfl, rfl⟩ _; cbv)
    | ((rw [hbf]); cbv)
    | ((refine call_inl hP mixed hA code_till_Till_taken fn_till_Till_taken ?_); cbv)
    | ((rw [hg]); cbv)
    | ((refine And.intro ?_ ?_); cbv)
    | (refine Chk.mk trivial ?_; cbv)
    | (refine bc_true (by first | assumption | (simp (disch := omega) only [hF, natc, w64_in, shs]; first | done | assumption | omega | (simp only [natc] at *; omega))) ?_; cbv)
    | (refine bc_false (by first | assumption | (simp (disch := omega) only [hF, natc, w64_in, shs]; first | done | assumption | omega | (simp only [natc] at *; omega))) ?_; cbv)
    | (refine bc_split (fun h => ?_) (fun h => ?_) <;> (try simp (disch := omega) only [hF, natc, w64_in, shs] at h) <;> cbv)
    | (refine IdxVC.mk (by simp (disch := omega) only [hF, natc, w64_in, shs]; first | done | omega | (simp only [natc] at *; omega)) (fun kx hk hk2 => ?_); simp (disch := omega) only [hF, natc, w64_in, shs] at hk; (try obtain rfl : kx = 0 := hk); cbv)
    | (refine Chk.mk (by simp (disch := omega) only [maxN, hF, natc, w64_in, shs]; first | done | assumption | omega | (simp only [natc] at *; omega)) ?_; cbv)
    | (intro (hmx : _ ≤ maxN); replace hmx : _ ≤ 140737488355328 := hmx; cbv)
    | (intro _; cbv)
  all_goals (subst hQ; exact leaf_tx ⟨⟨rfl, rfl, rfl, rfl, rfl, rfl, rfl, rfl, rfl, rfl, trivial⟩, rfl, ⟨rfl, rfl, fun _ _ _ _ => rfl⟩, trivial⟩ rfl rfl ⟨rfl, rfl⟩)

theorem step3p (b n l c : Int) (N : Nat) (L : Nat → Int) (it w an : Int) (p : Bool) (x x' : Ob) (hb : 0 ≤ b ∧ b ≤ 65536) (hit : 0 ≤ it ∧ it ≤ 65536) (hr : WtT x c (b + 1 + it) w 0 x') :
    StepW (tO' b n l c N L 3 it w true an) x false 0 (tO' b n l c N L 4 it w true an) x' := by
  unfold WtT at hr; unfold StepW
  refine fn_walkv mixed fn_till_Till_Step opn_t fun bin cmp un conv bnot beq band sel isel ofN toN inb nz nneg lt le room' slb add sub sbin scmp slen sget ssub addk pc pb pi pf ps mkok min_ ig aeq P hP hA hF Q hQ => ?_
  have hbt : bnot true = false := by simp only [hF]; rfl
  have ha : bin .add .i64 (bin .add .i64 b 1) it = b + 1 + it := by simp only [hF]; rw [w64_in (n := b + 1) (by omega), w64_in (by omega)]
  cbv
  repeat' first
    | ((refine call_inl hP mixed hA code_till_Till_touch fn_till_Till_touch ?_); cbv)
    | ((rw [ha]); cbv)
    | (refine call_at hP [1] code_soc_Soc_Write (hr) rfl ?_ ?_ ?_; (focus ((repeat' (first | exact trivial | exact rfl | (intro _ _ _ _; exact rfl) | refine And.intro ?_ ?_)); done)); (focus (cbv; (try simp); done)); rintro _ _ ⟨rfl, rfl⟩ _; cbv)
    | ((rw [hbt]); cbv)
    | ((refine And.intro ?_ ?_); cbv)
    | (refine Chk.mk trivial ?_; cbv)
    | (refine bc_true (by first | assumption | (simp (disch := omega) only [hF, natc, w64_in, shs]; first | done | assumption | omega | (simp only [natc] at *; omega))) ?_; cbv)
    | (refine bc_false (by first | assumption | (simp (disch := omega) only [hF, natc, w64_in, shs]; first | done | assumption | omega | (simp only [natc] at *; omega))) ?_; cbv)
    | (refine bc_split (fun h => ?_) (fun h => ?_) <;> (try simp (disch := omega) only [hF, natc, w64_in, shs] at h) <;> cbv)
    | (refine IdxVC.mk (by simp (disch := omega) only [hF, natc, w64_in, shs]; first | done | omega | (simp only [natc] at *; omega)) (fun kx hk hk2 => ?_); simp (disch := omega) only [hF, natc, w64_in, shs] at hk; (try obtain rfl : kx = 0 := hk); cbv)
    | (refine Chk.mk (by simp (disch := omega) only [maxN, hF, natc, w64_in, shs]; first | done | assumption | omega | (simp only [natc] at *; omega)) ?_; cbv)
    | (intro (hmx : _ ≤ maxN); replace hmx : _ ≤ 140737488355328 := hmx; cbv)
    | (intro _; cbv)
  all_goals (subst hQ; exact leaf_tx ⟨⟨rfl, rfl, rfl, rfl, rfl, rfl, rfl, rfl, rfl, rfl, trivial⟩, rfl, ⟨rfl, rfl, fun _ _ _ _ => rfl⟩, trivial⟩ rfl rfl ⟨rfl, rfl⟩)

theorem step3q (b n l c : Int) (N : Nat) (L : Nat → Int) (it w an : Int) (p : Bool) (x x' : Ob) (hb : 0 ≤ b ∧ b ≤ 65536) (hit : 0 ≤ it ∧ it ≤ 65536) (u : Int) (hu : u ≤ n) (hr : RdT x c (b + 1 + it) u 0 x') :
    StepW (tO' b n l c N L 3 it w false an) x false 0 (tO' b n l c N L 4 it u false an) x' := by
  unfold RdT at hr; unfold StepW
  refine fn_walkv mixed fn_till_Till_Step opn_t fun bin cmp un conv bnot beq band sel isel ofN toN inb nz nneg lt le room' slb add sub sbin scmp slen sget ssub addk pc pb pi pf ps mkok min_ ig aeq P hP hA hF Q hQ => ?_
  have hbf : bnot false = true := by simp only [hF]; rfl
  have ha : bin .add .i64 (bin .add .i64 b 1) it = b + 1 + it := by simp only [hF]; rw [w64_in (n := b + 1) (by omega), w64_in (by omega)]
  have hg : cmp .gtr u n = false := by simp only [hF, decide_eq_false_iff_not]; omega
  cbv
  repeat' first
    | ((refine call_inl hP mixed hA code_till_Till_touch fn_till_Till_touch ?_); cbv)
    | ((rw [ha]); cbv)
    | (refine call_at hP [1] code_soc_Soc_Read (hr) rfl ?_ ?_ ?_; (focus ((repeat' (first | exact trivial | exact rfl | (intro _ _ _ _; exact rfl) | refine And.intro ?_ ?_)); done)); (focus (cbv; (try simp); done)); rintro _ _ ⟨rfl, rfl⟩ _; cbv)
    | ((rw [hbf]); cbv)
    | ((refine call_inl hP mixed hA code_till_Till_taken fn_till_Till_taken ?_); cbv)
    | ((rw [hg]); cbv)
    | ((refine And.intro ?_ ?_); cbv)
    | (refine Chk.mk trivial ?_; cbv)
    | (refine bc_true (by first | assumption | (simp (disch := omega) only [hF, natc, w64_in, shs]; first | done | assumption | omega | (simp only [natc] at *; omega))) ?_; cbv)
    | (refine bc_false (by first | assumption | (simp (disch := omega) only [hF, natc, w64_in, shs]; first | done | assumption | omega | (simp only [natc] at *; omega))) ?_; cbv)
    | (refine bc_split (fun h => ?_) (fun h => ?_) <;> (try simp (disch := omega) only [hF, natc, w64_in, shs] at h) <;> cbv)
    | (refine IdxVC.mk (by simp (disch := omega) only [hF, natc, w64_in, shs]; first | done | omega | (simp only [natc] at *; omega)) (fun kx hk hk2 => ?_); simp (disch := omega) only [hF, natc, w64_in, shs] at hk; (try obtain rfl : kx = 0 := hk); cbv)
    | (refine Chk.mk (by simp (disch := omega) only [maxN, hF, natc, w64_in, shs]; first | done | assumption | omega | (simp only [natc] at *; omega)) ?_; cbv)
    | (intro (hmx : _ ≤ maxN); replace hmx : _ ≤ 140737488355328 := hmx; cbv)
    | (intro _; cbv)
  all_goals (subst hQ; exact leaf_tx ⟨⟨rfl, rfl, rfl, rfl, rfl, rfl, rfl, rfl, rfl, rfl, trivial⟩, rfl, ⟨rfl, rfl, fun _ _ _ _ => rfl⟩, trivial⟩ rfl rfl ⟨rfl, rfl⟩)

theorem step4p (b n l c : Int) (N : Nat) (L : Nat → Int) (it w an : Int) (p : Bool) (x x' : Ob) (hit : 0 ≤ it ∧ it ≤ 65536) (hr : WtT x c b (it + 1) 0 x') :
    StepW (tO' b n l c N L 4 it w true an) x false 0 (tO' b n l c N L 5 it w true 0) x' := by
  unfold WtT at hr; unfold StepW
  refine fn_walkv mixed fn_till_Till_Step opn_t fun bin cmp un conv bnot beq band sel isel ofN toN inb nz nneg lt le room' slb add sub sbin scmp slen sget ssub addk pc pb pi pf ps mkok min_ ig aeq P hP hA hF Q hQ => ?_
  have h1 : bin .add .i64 it 1 = it + 1 := by simp only [hF]; rw [w64_in (by omega)]
  cbv
  repeat' first
    | ((refine call_inl hP mixed hA code_till_Till_touch fn_till_Till_touch ?_); cbv)
    | ((rw [h1]); cbv)
    | (refine call_at hP [1] code_soc_Soc_Write (hr) rfl ?_ ?_ ?_; (focus ((repeat' (first | exact trivial | exact rfl | (intro _ _ _ _; exact rfl) | refine And.intro ?_ ?_)); done)); (focus (cbv; (try simp); done)); rintro _ _ ⟨rfl, rfl⟩ _; cbv)
    | ((refine And.intro ?_ ?_); cbv)
    | (refine Chk.mk trivial ?_; cbv)
    | (refine bc_true (by first | assumption | (simp (disch := omega) only [hF, natc, w64_in, shs]; first | done | assumption | omega | (simp only [natc] at *; omega))) ?_; cbv)
    | (refine bc_false (by first | assumption | (simp (disch := omega) only [hF, natc, w64_in, shs]; first | done | assumption | omega | (simp only [natc] at *; omega))) ?_; cbv)
    | (refine bc_split (fun h => ?_) (fun h => ?_) <;> (try simp (disch := omega) only [hF, natc, w64_in, shs] at h) <;> cbv)
    | (refine IdxVC.mk (by simp (disch := omega) only [hF, natc, w64_in, shs]; first | done | omega | (simp only [natc] at *; omega)) (fun kx hk hk2 => ?_); simp (disch := omega) only [hF, natc, w64_in, shs] at hk; (try obtain rfl : kx = 0 := hk); cbv)
    | (refine Chk.mk (by simp (disch := omega) only [maxN, hF, natc, w64_in, shs]; first | done | assumption | omega | (simp only [natc] at *; omega)) ?_; cbv)
    | (intro (hmx : _ ≤ maxN); replace hmx : _ ≤ 140737488355328 := hmx; cbv)
    | (intro _; cbv)
  all_goals (subst hQ; exact leaf_tx ⟨⟨rfl, rfl, rfl, rfl, rfl, rfl, rfl, rfl, rfl, rfl, trivial⟩, rfl, ⟨rfl, rfl, fun _ _ _ _ => rfl⟩, trivial⟩ rfl rfl ⟨rfl, rfl⟩)

theorem step4q (b n l c : Int) (N : Nat) (L : Nat → Int) (it w an : Int) (p : Bool) (x x' : Ob) (hr : WtT x c b w 0 x') :
    StepW (tO' b n l c N L 4 it w false an) x false 0 (tO' b n l c N L 5 it w false 0) x' := by
  unfold WtT at hr; unfold StepW
  refine fn_walkv mixed fn_till_Till_Step opn_t fun bin cmp un conv bnot beq band sel isel ofN toN inb nz nneg lt le room' slb add sub sbin scmp slen sget ssub addk pc pb pi pf ps mkok min_ ig aeq P hP hA hF Q hQ => ?_
  cbv
  repeat' first
    | ((refine call_inl hP mixed hA code_till_Till_touch fn_till_Till_touch ?_); cbv)
    | (refine call_at hP [1] code_soc_Soc_Write (hr) rfl ?_ ?_ ?_; (focus ((repeat' (first | exact trivial | exact rfl | (intro _ _ _ _; exact rfl) | refine And.intro ?_ ?_)); done)); (focus (cbv; (try simp); done)); rintro _ _ ⟨rfl, rfl⟩ _; cbv)
    | ((refine And.intro ?_ ?_); cbv)
    | (refine Chk.mk trivial ?_; cbv)
    | (refine bc_true (by first | assumption | (simp (disch := omega) only [hF, natc, w64_in, shs]; first | done | assumption | omega | (simp only [natc] at *; omega))) ?_; cbv)
    | (refine bc_false (by first | assumption | (simp (disch := omega) only [hF, natc, w64_in, shs]; first | done | assumption | omega | (simp only [natc] at *; omega))) ?_; cbv)
    | (refine bc_split (fun h => ?_) (fun h => ?_) <;> (try simp (disch := omega) only [hF, natc, w64_in, shs] at h) <;> cbv)
    | (refine IdxVC.mk (by simp (disch := omega) only [hF, natc, w64_in, shs]; first | done | omega | (simp only [natc] at *; omega)) (fun kx hk hk2 => ?_); simp (disch := omega) only [hF, natc, w64_in, shs] at hk; (try obtain rfl : kx = 0 := hk); cbv)
    | (refine Chk.mk (by simp (disch := omega) only [maxN, hF, natc, w64_in, shs]; first | done | assumption | omega | (simp only [natc] at *; omega)) ?_; cbv)
    | (intro (hmx : _ ≤ maxN); replace hmx : _ ≤ 140737488355328 := hmx; cbv)
    | (intro _; cbv)
  all_goals (subst hQ; exact leaf_tx ⟨⟨rfl, rfl, rfl, rfl, rfl, rfl, rfl, rfl, rfl, rfl, trivial⟩, rfl, ⟨rfl, rfl, fun _ _ _ _ => rfl⟩, trivial⟩ rfl rfl ⟨rfl, rfl⟩)

theorem step5e (b n l c : Int) (N : Nat) (L : Nat → Int) (it w an : Int) (p : Bool) (x x' : Ob) (hl : 0 ≤ l ∧ l < 16) (han : an ≠ 0) (hr : WtT x c (65792 + l) 0 0 x') :
    StepW (tO' b n l c N L 5 it w p an) x true an (tO' b n l c N L 0 it w p an) x' := by
  unfold WtT at hr; unfold StepW
  refine fn_walkv mixed fn_till_Till_Step opn_t fun bin cmp un conv bnot beq band sel isel ofN toN inb nz nneg lt le room' slb add sub sbin scmp slen sget ssub addk pc pb pi pf ps mkok min_ ig aeq P hP hA hF Q hQ => ?_
  have ha : bin .add .i64 65792 l = 65792 + l := by simp only [hF]; rw [w64_in (by omega)]
  have hg : cmp .neq an 0 = true := by simp only [hF, decide_eq_true_eq]; exact han
  cbv
  repeat' first
    | ((refine call_inl hP mixed hA code_till_Till_touch fn_till_Till_touch ?_); cbv)
    | ((rw [ha]); cbv)
    | (refine call_at hP [1] code_soc_Soc_Write (hr) rfl ?_ ?_ ?_; (focus ((repeat' (first | exact trivial | exact rfl | (intro _ _ _ _; exact rfl) | refine And.intro ?_ ?_)); done)); (focus (cbv; (try simp); done)); rintro _ _ ⟨rfl, rfl⟩ _; cbv)
    | ((refine call_inl hP mixed hA code_till_Till_end fn_till_Till_end ?_); cbv)
    | ((rw [hg]); cbv)
    | ((refine And.intro ?_ ?_); cbv)
    | (refine Chk.mk trivial ?_; cbv)
    | (refine bc_true (by first | assumption | (simp (disch := omega) only [hF, natc, w64_in, shs]; first | done | assumption | omega | (simp only [natc] at *; omega))) ?_; cbv)
    | (refine bc_false (by first | assumption | (simp (disch := omega) only [hF, natc, w64_in, shs]; first | done | assumption | omega | (simp only [natc] at *; omega))) ?_; cbv)
    | (refine bc_split (fun h => ?_) (fun h => ?_) <;> (try simp (disch := omega) only [hF, natc, w64_in, shs] at h) <;> cbv)
    | (refine IdxVC.mk (by simp (disch := omega) only [hF, natc, w64_in, shs]; first | done | omega | (simp only [natc] at *; omega)) (fun kx hk hk2 => ?_); simp (disch := omega) only [hF, natc, w64_in, shs] at hk; (try obtain rfl : kx = 0 := hk); cbv)
    | (refine Chk.mk (by simp (disch := omega) only [maxN, hF, natc, w64_in, shs]; first | done | assumption | omega | (simp only [natc] at *; omega)) ?_; cbv)
    | (intro (hmx : _ ≤ maxN); replace hmx : _ ≤ 140737488355328 := hmx; cbv)
    | (intro _; cbv)
  all_goals (subst hQ; exact leaf_tx ⟨⟨rfl, rfl, rfl, rfl, rfl, rfl, rfl, rfl, rfl, rfl, trivial⟩, rfl, ⟨rfl, rfl, fun _ _ _ _ => rfl⟩, trivial⟩ rfl rfl ⟨rfl, rfl⟩)

theorem step5q (b n l c : Int) (N : Nat) (L : Nat → Int) (it w an : Int) (p : Bool) (x x' : Ob) (hl : 0 ≤ l ∧ l < 16) (hN : N ≤ 1000) (L' : Nat → Int) (hL : ∀ i, i < N → L' i = L i) (hLN : L' N = it) (hr : WtT x c (65792 + l) 0 0 x') :
    StepW (tO' b n l c N L 5 it w false 0) x true 0 (tO' b n l c (N + 1) L' 0 it w false 0) x' := by
  unfold WtT at hr; unfold StepW
  refine fn_walkv mixed fn_till_Till_Step opn_t fun bin cmp un conv bnot beq band sel isel ofN toN inb nz nneg lt le room' slb add sub sbin scmp slen sget ssub addk pc pb pi pf ps mkok min_ ig aeq P hP hA hF Q hQ => ?_
  have ha : bin .add .i64 65792 l = 65792 + l := by simp only [hF]; rw [w64_in (by omega)]
  have hrm : room' (add N 1) 8 := by simp [hF, maxN]; omega
  cbv
  repeat' first
    | ((refine call_inl hP mixed hA code_till_Till_touch fn_till_Till_touch ?_); cbv)
    | ((rw [ha]); cbv)
    | (refine call_at hP [1] code_soc_Soc_Write (hr) rfl ?_ ?_ ?_; (focus ((repeat' (first | exact trivial | exact rfl | (intro _ _ _ _; exact rfl) | refine And.intro ?_ ?_)); done)); (focus (cbv; (try simp); done)); rintro _ _ ⟨rfl, rfl⟩ _; cbv)
    | ((refine call_inl hP mixed hA code_till_Till_end fn_till_Till_end ?_); cbv)
    | ((refine Chk.mk hrm ?_); cbv)
    | ((refine And.intro ?_ ?_); cbv)
    | (refine Chk.mk trivial ?_; cbv)
    | (refine bc_true (by first | assumption | (simp (disch := omega) only [hF, natc, w64_in, shs]; first | done | assumption | omega | (simp only [natc] at *; omega))) ?_; cbv)
    | (refine bc_false (by first | assumption | (simp (disch := omega) only [hF, natc, w64_in, shs]; first | done | assumption | omega | (simp only [natc] at *; omega))) ?_; cbv)
    | (refine bc_split (fun h => ?_) (fun h => ?_) <;> (try simp (disch := omega) only [hF, natc, w64_in, shs] at h) <;> cbv)
    | (refine IdxVC.mk (by simp (disch := omega) only [hF, natc, w64_in, shs]; first | done | omega | (simp only [natc] at *; omega)) (fun kx hk hk2 => ?_); simp (disch := omega) only [hF, natc, w64_in, shs] at hk; (try obtain rfl : kx = 0 := hk); cbv)
    | (refine Chk.mk (by simp (disch := omega) only [maxN, hF, natc, w64_in, shs]; first | done | assumption | omega | (simp only [natc] at *; omega)) ?_; cbv)
    | (intro (hmx : _ ≤ maxN); replace hmx : _ ≤ 140737488355328 := hmx; cbv)
    | (intro _; cbv)
  subst hQ
  refine leaf_th 5 rfl ⟨⟨rfl, rfl, rfl, rfl, rfl, rfl, rfl, rfl, rfl, rfl, trivial⟩, rfl, ⟨by simp only [hF], rfl, fun i f hi hf => ?_⟩, trivial⟩ rfl rfl ⟨rfl, rfl⟩
  have hi : i < add N 1 := hi
  simp only [hF] at hi
  obtain rfl : f = 0 := by omega
  show VLe _ (appAt _ _ _ _ i 0) (.dv (.int .i64 (L' i)))
  unfold appAt
  by_cases h : i < N
  · rw [if_pos h, hL i h]; rfl
  · obtain rfl : i = N := by omega
    rw [if_neg h, hLN]
    simp only [hF, Nat.sub_self]
    rfl

theorem step5p (b n l c : Int) (N : Nat) (L : Nat → Int) (it w an : Int) (p : Bool) (x x' : Ob) (hl : 0 ≤ l ∧ l < 16) (L' : Nat → Int)
    (hd : CallOK (O := Ob) PR n_slices_DeleteFunc_Sint_int [.vec 0, .fn n_till_Till_end_c1 [.ptr 1 0]] [.vec N 1 (fun i _ => .dv (.int .i64 (L i))), .blk [.one (.ptr 2 0)], tBl b n l c 0 it w true 0]
      fun v m => v = .vec 3 ∧ m = [.gone, .blk [.one (.ptr 2 0)], tBl b n l c 0 it w true 0, .vec (N - 1) 1 fun i _ => .dv (.int .i64 (L' i))]) (hr : WtT x c (65792 + l) 0 0 x') :
    StepW (tO' b n l c N L 5 it w true 0) x true 0 (tO' b n l c (N - 1) L' 0 it w true 0) x' := by
  unfold WtT at hr; unfold StepW; unfold tBl at hd
  refine fn_walkv mixed fn_till_Till_Step opn_t fun bin cmp un conv bnot beq band sel isel ofN toN inb nz nneg lt le room' slb add sub sbin scmp slen sget ssub addk pc pb pi pf ps mkok min_ ig aeq P hP hA hF Q hQ => ?_
  have ha : bin .add .i64 65792 l = 65792 + l := by simp only [hF]; rw [w64_in (by omega)]
  cbv
  repeat' first
    | ((refine call_inl hP mixed hA code_till_Till_touch fn_till_Till_touch ?_); cbv)
    | ((rw [ha]); cbv)
    | (refine call_at hP [1] code_soc_Soc_Write (hr) rfl ?_ ?_ ?_; (focus ((repeat' (first | exact trivial | exact rfl | (intro _ _ _ _; exact rfl) | refine And.intro ?_ ?_)); done)); (focus (cbv; (try simp); done)); rintro _ _ ⟨rfl, rfl⟩ _; cbv)
    | ((refine call_inl hP mixed hA code_till_Till_end fn_till_Till_end ?_); cbv)
    | ((refine And.intro ?_ ?_); cbv)
    | (refine call_at hP [2, 3, 0] code_slices_DeleteFunc_Sint_int (hd) rfl ?_ ?_ ?_; (focus ((repeat' (first | exact trivial | exact rfl | (intro _ _ _ _; exact rfl) | refine And.intro ?_ ?_)); done)); (focus (cbv; (try simp); done)); rintro _ _ ⟨rfl, rfl⟩ _; cbv)
    | (refine Chk.mk trivial ?_; cbv)
    | (refine bc_true (by first | assumption | (simp (disch := omega) only [hF, natc, w64_in, shs]; first | done | assumption | omega | (simp only [natc] at *; omega))) ?_; cbv)
    | (refine bc_false (by first | assumption | (simp (disch := omega) only [hF, natc, w64_in, shs]; first | done | assumption | omega | (simp only [natc] at *; omega))) ?_; cbv)
    | (refine bc_split (fun h => ?_) (fun h => ?_) <;> (try simp (disch := omega) only [hF, natc, w64_in, shs] at h) <;> cbv)
    | (refine IdxVC.mk (by simp (disch := omega) only [hF, natc, w64_in, shs]; first | done | omega | (simp only [natc] at *; omega)) (fun kx hk hk2 => ?_); simp (disch := omega) only [hF, natc, w64_in, shs] at hk; (try obtain rfl : kx = 0 := hk); cbv)
    | (refine Chk.mk (by simp (disch := omega) only [maxN, hF, natc, w64_in, shs]; first | done | assumption | omega | (simp only [natc] at *; omega)) ?_; cbv)
    | (intro (hmx : _ ≤ maxN); replace hmx : _ ≤ 140737488355328 := hmx; cbv)
    | (intro _; cbv)
  subst hQ
  exact leaf_th 4 rfl ⟨⟨rfl, rfl, rfl, rfl, rfl, rfl, rfl, rfl, rfl, rfl, trivial⟩, rfl, ⟨by cases N <;> rfl, rfl, fun _ _ _ _ => rfl⟩, trivial⟩ rfl rfl ⟨rfl, rfl⟩

end Go.Proofs.Ytiaceoomiflgcaa

end

section
namespace Go.Proofs.Ytiaceoomiflgcaa
open Go.V
set_option linter.unusedVariables false
set_option linter.unusedSimpArgs false
set_option maxRecDepth 100000
set_option maxHeartbeats 8000000

theorem look_app (a b w : Nat) : ∀ l : List (Nat × Nat), look b (l ++ [(a, w)]) = if a = b then some w else look b l
  | [] => by simp only [List.nil_append, look]
  | x :: l => by
    simp only [List.cons_append, look]
    rw [look_app a b w l]
    by_cases h : a = b
    · rw [if_pos h, if_pos h]
    · rw [if_neg h, if_neg h]

/-- A list's stores over a memory. -/
def seen (r : Nat → Int) (l : List (Nat × Nat)) (b : Nat) : Int := match look b l with | some w => w | none => r b

theorem seen_app (r : Nat → Int) (l : List (Nat × Nat)) (a w b : Nat) : seen r (l ++ [(a, w)]) b = if b = a then (w : Int) else seen r l b := by
  unfold seen
  rw [look_app]
  by_cases h : a = b
  · rw [if_pos h, if_pos h.symm]
  · rw [if_neg h, if_neg (fun e => h e.symm)]

theorem seen_cons (r : Nat → Int) (x : Nat × Nat) (l : List (Nat × Nat)) (b : Nat) : seen r (x :: l) b = seen (rput r x.1 x.2) l b := by
  unfold seen
  simp only [look]
  cases look b l with
  | some w => rfl
  | none =>
    simp only
    unfold rput
    by_cases h : x.1 = b
    · rw [if_pos h, if_pos (by omega)]
    · rw [if_neg h, if_neg (by omega)]

theorem seen_puts : ∀ (l : List (Nat × Nat)) (r : Nat → Int) (b : Nat), rputs r l b = seen r l b
  | [], _, _ => rfl
  | x :: l, r, b => by
    rw [seen_cons]
    exact seen_puts l _ b

theorem BusS.load_seen (B : BusS) (j a : Nat) : B.load j a = seen B.r (B.bufs j) a := rfl

theorem BusS.load_store (B : BusS) (j a w b : Nat) : (B.store j a w).load j b = if b = a then (w : Int) else B.load j b := by
  rw [BusS.load_seen, BusS.load_seen]
  unfold BusS.store
  by_cases hk : ((B.bufs j).length : Int) = B.mo
  · rw [if_pos hk]
    have e : (B.upd (rput1 B.r (B.bufs j)) j ((B.bufs j).tail ++ [(a, w)])).bufs j = (B.bufs j).tail ++ [(a, w)] := if_pos rfl
    rw [e]
    show seen (rput1 B.r (B.bufs j)) ((B.bufs j).tail ++ [(a, w)]) b = _
    rw [seen_app]
    split
    · rfl
    · cases hl : B.bufs j with
      | nil => rfl
      | cons x l => exact (seen_cons B.r x l b).symm
  · rw [if_neg hk]
    have e : (B.upd B.r j (B.bufs j ++ [(a, w)])).bufs j = B.bufs j ++ [(a, w)] := if_pos rfl
    rw [e]
    exact seen_app _ _ _ _ _

theorem BusS.load_fen (B : BusS) (j b : Nat) : (B.fen j).load j b = B.load j b := by
  rw [BusS.load_seen, BusS.load_seen]
  have e : (B.fen j).bufs j = [] := if_pos rfl
  rw [e]
  show rputs B.r (B.bufs j) b = _
  rw [seen_puts]

/-- A soc of which a core that is up sees such a memory; who has the lock. -/
structure Sees (x : Ob) (c n k : Nat) (j y : Nat) (o : Int) (V : Nat → Int) : Prop where
  ex : ∃ S : SocS, S.ok ∧ S.c = c ∧ S.n = n ∧ S.k = k ∧ S.hd j = false ∧ S.ow y = o ∧ (∀ a, a < n → S.B.load j a = V a) ∧ x = socO S

theorem sees_read {x : Ob} {c n k j y : Nat} {o : Int} {V : Nat → Int} (h : Sees x c n k j y o V) (hj : j < c) (a : Nat) (ha : a < n) :
    CallOK (O := Ob) PR n_soc_Soc_Read [.ptr 0 0, .dv (.int .i64 j), .dv (.int .i64 a)] [.obj x] fun v m => v = .tup [.dv (.int .i64 (V a)), .dv (.int .i64 0)] ∧ m = [.obj x] := by
  obtain ⟨S, hS, rfl, rfl, rfl, hh, ho, hV, rfl⟩ := h.ex
  have hb := busLoad S.B hS.hB j a (by rw [hS.hBc]; exact hj) (by rw [hS.hBn]; exact ha)
  rw [hV a ha] at hb
  exact sRead_ram _ _ _ _ _ _ _ j a 0 a _ _ (atS_ok S hS j _ 1 0 a hj hh (dec_ram S.c S.n S.k a hS.hc hS.hn hS.hk ha)) hb

theorem sees_write {x : Ob} {c n k j y : Nat} {o : Int} {V : Nat → Int} (h : Sees x c n k j y o V) (hj : j < c) (a w : Nat) (ha : a < n) (hw : w ≤ 65535) :
    ∃ x', Sees x' c n k j y o (fun b => if b = a then (w : Int) else V b) ∧ CallOK (O := Ob) PR n_soc_Soc_Write [.ptr 0 0, .dv (.int .i64 j), .dv (.int .i64 a), .dv (.int .i64 w)] [.obj x] fun v m => v = .dv (.int .i64 0) ∧ m = [.obj x'] := by
  obtain ⟨S, hS, rfl, rfl, rfl, hh, ho, hV, rfl⟩ := h.ex
  have hN := hS.store j a w hj hh ha hw
  refine ⟨_, ⟨_, hN.1, rfl, rfl, rfl, hh, ho, fun b hb => ?_, rfl⟩, sWrite_ram_in S hS j a w hj hh ha hw⟩
  show (S.B.store j a w).load j b = _
  rw [BusS.load_store]
  split
  · rfl
  · exact hV b hb

theorem sees_fence {x : Ob} {c n k j y : Nat} {o : Int} {V : Nat → Int} (h : Sees x c n k j y o V) (hj : j < c) :
    ∃ x' z, Sees x' c n k j y o V ∧ CallOK (O := Ob) PR n_soc_Soc_Fence [.ptr 0 0, .dv (.int .i64 j)] [.obj x] fun v m => v = .tup [.dv (.int .i64 z), .dv (.int .i64 0)] ∧ m = [.obj x'] := by
  obtain ⟨S, hS, rfl, rfl, rfl, hh, ho, hV, rfl⟩ := h.ex
  have hN := hS.fen j hj
  have h1 := gEpoch_in S.c S.ep S.hd hS.hc.2 j hj
  have h2 := gUp_in S.c S.ep S.hd hS.hc.2 j hj
  rw [hh] at h2
  exact ⟨_, _, ⟨_, hN.1, rfl, rfl, rfl, hh, ho, fun b hb => (BusS.load_fen S.B j b).trans (hV b hb), rfl⟩, sFence_w _ _ _ _ _ _ _ _ j _ _ (busFence S.B hS.hB j (by rw [hS.hBc]; exact hj)) h1 h2⟩

theorem sees_lock {x : Ob} {c n k j y : Nat} {V : Nat → Int} (h : Sees x c n k j y 0 V) (hj : j < c) (hy : y < k) :
    ∃ x', Sees x' c n k j y (j + 1) V ∧ CallOK (O := Ob) PR n_soc_Soc_Read [.ptr 0 0, .dv (.int .i64 j), .dv (.int .i64 (65792 + y))] [.obj x] fun v m => v = .tup [.dv (.int .i64 1), .dv (.int .i64 0)] ∧ m = [.obj x'] := by
  obtain ⟨S, hS, rfl, rfl, rfl, hh, ho, hV, rfl⟩ := h.ex
  obtain ⟨b, ow, hb, hN, hc⟩ := sRead_lock_in S hS j y hj hh hy
  rcases hb with ⟨rfl, _, he⟩ | ⟨_, hne, _⟩
  · exact ⟨_, ⟨_, hN.1, rfl, rfl, rfl, hh, by rw [he]; exact if_pos rfl, fun b hb => (BusS.load_fen S.B j b).trans (hV b hb), rfl⟩, hc⟩
  · exact absurd ho hne

theorem sees_free {x : Ob} {c n k j y : Nat} {V : Nat → Int} (h : Sees x c n k j y (j + 1) V) (hj : j < c) (hy : y < k) :
    ∃ x', Sees x' c n k j y 0 V ∧ CallOK (O := Ob) PR n_soc_Soc_Write [.ptr 0 0, .dv (.int .i64 j), .dv (.int .i64 (65792 + y)), .dv (.int .i64 0)] [.obj x] fun v m => v = .dv (.int .i64 0) ∧ m = [.obj x'] := by
  obtain ⟨S, hS, rfl, rfl, rfl, hh, ho, hV, rfl⟩ := h.ex
  have hN := (hS.free y).trans ((hS.free y).1.fen j hj)
  exact ⟨_, ⟨_, hN.1, rfl, rfl, rfl, hh, if_pos rfl, fun b hb => (BusS.load_fen S.B j b).trans (hV b hb), rfl⟩, sWrite_lock_in S hS j y hj hh hy ho⟩

theorem sees_new (c n k mo : Nat) (hc : 1 ≤ c ∧ c ≤ 8) (hn : 1 ≤ n ∧ n ≤ 65536) (hk : 1 ≤ k ∧ k ≤ 16) (hm : 1 ≤ mo ∧ mo ≤ 16) (j y : Nat) (hj : j < c) :
    CallOK (O := Ob) PR n_soc_New [.agg [.dv (.int .i64 c), .dv (.int .i64 n), .dv (.int .i64 k)], .dv (.int .i64 mo)] [] fun v m => v = .tup [.ptr 0 0, .dv (.int .i64 0)] ∧ ∃ x, (∃ V, Sees x c n k j y 0 V) ∧ m = [.obj x] :=
  (sNew_ok c n k mo (by omega) (by omega) (by omega) (by omega)).mono fun v m ⟨hv, S, h1, h2, h3, h4, h5, h6, _, hmm⟩ =>
    ⟨hv, _, ⟨fun a => S.B.load j a, ⟨S, h1, by omega, by omega, by omega, by rw [h6], by rw [h5], fun _ _ => rfl, rfl⟩⟩, hmm⟩

end Go.Proofs.Ytiaceoomiflgcaa

end

section
namespace Go.Proofs.Ytiaceoomiflgcaa
open Go.V
set_option linter.unusedVariables false
set_option linter.unusedSimpArgs false
set_option maxRecDepth 100000
set_option maxHeartbeats 8000000

/-- The items of a list, as the memory holds them: what stands for a list; each item's word. -/
def encS : List Nat → Nat
  | [] => 0
  | x :: _ => x + 1
def Links (V : Nat → Int) (b : Nat) : List Nat → Prop
  | [] => True
  | x :: r => V (b + 1 + x) = (encS r : Nat) ∧ Links V b r
def Chain (V : Nat → Int) (b : Nat) (s : List Nat) : Prop := V b = (encS s : Nat) ∧ Links V b s

theorem Links.mono {V V' : Nat → Int} {b : Nat} : ∀ {s : List Nat}, (∀ x ∈ s, V' (b + 1 + x) = V (b + 1 + x)) → Links V b s → Links V' b s
  | [], _, _ => trivial
  | x :: r, h, k => ⟨(h x (by simp)).trans k.1, Links.mono (fun y hy => h y (by simp [hy])) k.2⟩

/-- A till, by the list of its items. -/
def tL (b n y j : Nat) (l : List Nat) (st it w : Int) (p : Bool) (an : Int) : Ob := tO' b n y j l.length (fun i => ((l.getD i 0 : Nat) : Int)) st it w p an

def Items (n : Nat) (s : List Nat) : Prop := ∀ x ∈ s, x < n

theorem encS_le {n : Nat} {s : List Nat} (h : Items n s) : encS s ≤ n := by
  cases s with
  | nil => exact Nat.zero_le _
  | cons x r => exact h x (by simp)

/-- Five steps, or three, of which the last one ends. -/
def Run5 (o x : Ob) (f : Int) (o' x' : Ob) : Prop := ∃ o1 x1 o2 x2 o3 x3 o4 x4, StepW o x false 0 o1 x1 ∧ StepW o1 x1 false 0 o2 x2 ∧ StepW o2 x2 false 0 o3 x3 ∧ StepW o3 x3 false 0 o4 x4 ∧ StepW o4 x4 true f o' x'
def Run3 (o x : Ob) (f : Int) (o' x' : Ob) : Prop := ∃ o1 x1 o2 x2, StepW o x false 0 o1 x1 ∧ StepW o1 x1 false 0 o2 x2 ∧ StepW o2 x2 true f o' x'

theorem pop_run (c N k j y b n : Nat) (x : Ob) (V : Nat → Int) (l s : List Nat) (e : Nat) (it w an : Int) (hj : j < c) (hy : y < k) (hy16 : y < 16) (hn : n ≤ 32) (hbN : b + n < N) (hN : N ≤ 65536) (hl : l.length ≤ 100) (hx : Sees x c N k j y 0 V) (hs : Items n (e :: s)) (hC : Chain V b (e :: s)) :
    ∃ (x' : Ob) (V' : Nat → Int) (it' w' : Int), Run5 (tL b n y j l 1 it w false an) x 0 (tL b n y j (l ++ [e]) 0 it' w' false 0) x' ∧ Sees x' c N k j y 0 V' ∧ Chain V' b s := by
  obtain ⟨hC0, hC1, hC2⟩ := hC
  have he : e < n := hs e (by simp)
  have hsn : encS s ≤ n := encS_le fun z hz => hs z (by simp [hz])
  obtain ⟨x1, s1, r1⟩ := sees_lock hx hj hy
  have r2 := sees_read s1 hj b (by omega)
  have r3 := sees_read s1 hj (b + 1 + e) (by omega)
  obtain ⟨x4, s4, r4⟩ := sees_write s1 hj b (encS s) (by omega) (by omega)
  obtain ⟨x5, s5, r5⟩ := sees_free s4 hj hy
  rw [hC0] at r2
  rw [hC1] at r3
  have e2 : ((encS (e :: s) : Nat) : Int) = (e : Int) + 1 := by simp [encS]
  rw [e2] at r2
  have e3 : (((b + 1 + e : Nat)) : Int) = (b : Int) + 1 + ((e : Int) + 1 - 1) := by omega
  rw [e3] at r3
  refine ⟨x5, _, (e : Int) + 1 - 1, (encS s : Nat), ⟨_, _, _, _, _, _, _, _,
    step1 b n y j _ _ it w an false x x1 1 (by omega) (.inr rfl) r1,
    step2q b n y j _ _ it w an false x1 x1 (e + 1) (by omega) (by omega) r2,
    step3q b n y j _ _ (e + 1 - 1) (e + 1) an false x1 x1 (by omega) (by omega) (encS s : Nat) (by omega) r3,
    step4q b n y j _ _ (e + 1 - 1) (encS s : Nat) an false x1 x4 r4,
    ?_⟩, s5, if_pos rfl, Links.mono (fun z _ => if_neg (by omega)) hC2⟩
  have h5 := step5q b n y j l.length (fun i => ((l.getD i 0 : Nat) : Int)) (e + 1 - 1) (encS s : Nat) 0 false x4 x5 (by omega) (by omega) (fun i => (((l ++ [e]).getD i 0 : Nat) : Int))
    (fun i hi => by simp only [List.getD_eq_getElem?_getD, List.getElem?_append_left hi]) (by simp only [List.getD_eq_getElem?_getD, List.getElem?_append_right (Nat.le_refl _), Nat.sub_self]; show ((e : Nat) : Int) = _; omega) r5
  unfold tL
  rw [List.length_append]
  exact h5

theorem pop_none (c N k j y b n : Nat) (x : Ob) (V : Nat → Int) (l : List Nat) (it w an : Int) (hj : j < c) (hy : y < k) (hy16 : y < 16) (hbN : b + n < N) (hx : Sees x c N k j y 0 V) (hC : Chain V b []) :
    ∃ x' : Ob, Run3 (tL b n y j l 1 it w false an) x 6 (tL b n y j l 0 it 0 false 6) x' ∧ Sees x' c N k j y 0 V := by
  obtain ⟨x1, s1, r1⟩ := sees_lock hx hj hy
  have r2 := sees_read s1 hj b (by omega)
  obtain ⟨x5, s5, r5⟩ := sees_free s1 hj hy
  have hC0 : V b = 0 := hC.1
  rw [hC0] at r2
  exact ⟨x5, ⟨_, _, _, _, step1 b n y j _ _ it w an false x x1 1 (by omega) (.inr rfl) r1, step2z b n y j _ _ it w an false x1 x1 (by omega) r2, step5e b n y j _ _ it 0 6 false x1 x5 (by omega) (by omega) r5⟩, s5⟩

theorem erase_getD (l : List Nat) (k i : Nat) : (l.eraseIdx k).getD i 0 = if i < k then l.getD i 0 else l.getD (i + 1) 0 := by
  simp only [List.getD_eq_getElem?_getD, List.getElem?_eraseIdx]
  split <;> rfl

theorem push_run (c N k j y b n : Nat) (x : Ob) (V : Nat → Int) (l s : List Nat) (i : Nat) (w an : Int) (hi : i < l.length) (hj : j < c) (hy : y < k) (hy16 : y < 16) (hn : n ≤ 32) (hbN : b + n < N) (hN : N ≤ 65536) (hl : l.length ≤ 100) (hx : Sees x c N k j y 0 V) (hs : Items n s) (hln : Items n l)
    (hC : Chain V b s) (hnd : l.Nodup) (hns : l.getD i 0 ∉ s) :
    ∃ (x' : Ob) (V' : Nat → Int) (it' w' : Int), Run5 (tL b n y j l 1 ((l.getD i 0 : Nat) : Int) w true an) x 0 (tL b n y j (l.eraseIdx i) 0 it' w' true 0) x' ∧ Sees x' c N k j y 0 V' ∧ Chain V' b (l.getD i 0 :: s) := by
  obtain ⟨hC0, hC1⟩ := hC
  have hg : l.getD i 0 = l[i] := by rw [List.getD_eq_getElem?_getD, List.getElem?_eq_getElem hi]; rfl
  have hen : l.getD i 0 < n := by rw [hg]; exact hln _ (List.getElem_mem hi)
  have hdist : ∀ t, t < l.length → t ≠ i → l.getD t 0 ≠ l.getD i 0 := by
    intro t ht hne e
    have hgt : l.getD t 0 = l[t] := by rw [List.getD_eq_getElem?_getD, List.getElem?_eq_getElem ht]; rfl
    rw [hgt, hg] at e
    exact hne ((List.getElem_inj hnd).1 e)
  generalize he : l.getD i 0 = e at *
  have hsn : encS s ≤ n := encS_le hs
  obtain ⟨x1, s1, r1⟩ := sees_lock hx hj hy
  have r2 := sees_read s1 hj b (by omega)
  rw [hC0] at r2
  obtain ⟨x3, s3, r3⟩ := sees_write s1 hj (b + 1 + e) (encS s) (by omega) (by omega)
  obtain ⟨x4, s4, r4⟩ := sees_write s3 hj b (e + 1) (by omega) (by omega)
  obtain ⟨x5, s5, r5⟩ := sees_free s4 hj hy
  have e3 : (((b + 1 + e : Nat)) : Int) = (b : Int) + 1 + (e : Int) := by omega
  rw [e3] at r3
  have e4 : (((e + 1 : Nat)) : Int) = (e : Int) + 1 := by omega
  rw [e4] at r4
  have hidx := idxf_w b n y j 0 e (encS s : Nat) 0 true l.length (fun t => ((l.getD t 0 : Nat) : Int)) i hi (by omega) (by simp only [he]) (fun t ht => by
    have := hdist t (by omega) (by omega)
    omega)
  have hdel := delf_w b n y j 0 e (encS s : Nat) 0 true l.length (fun t => ((l.getD t 0 : Nat) : Int)) (fun t => (((l.eraseIdx i).getD t 0 : Nat) : Int)) i hi (by omega) (fun t ht ht2 => by
    have := hdist t ht2 (by omega)
    omega) (fun t => by
    rw [erase_getD]
    split <;> rfl) hidx
  refine ⟨x5, _, (e : Int), (encS s : Nat), ⟨_, _, _, _, _, _, _, _,
    step1 b n y j _ _ e w an true x x1 1 (by omega) (.inr rfl) r1,
    step2p b n y j _ _ e w an true x1 x1 (encS s : Nat) r2,
    step3p b n y j _ _ e (encS s : Nat) an true x1 x3 (by omega) (by omega) r3,
    step4p b n y j _ _ e (encS s : Nat) an true x3 x4 (by omega) r4,
    ?_⟩, s5, ⟨?_, ?_, ?_⟩⟩
  · have h5 := step5p b n y j l.length (fun t => ((l.getD t 0 : Nat) : Int)) e (encS s : Nat) 0 true x4 x5 (by omega) _ hdel r5
    unfold tL
    rw [List.length_eraseIdx, if_pos hi]
    exact h5
  · show (if b = b then (((e + 1 : Nat)) : Int) else _) = _
    rw [if_pos rfl]; rfl
  · show (if b + 1 + e = b then _ else if b + 1 + e = b + 1 + e then ((encS s : Nat) : Int) else _) = _
    rw [if_neg (by omega), if_pos rfl]
  · refine Links.mono (fun z hz => ?_) hC1
    show (if b + 1 + z = b then _ else if b + 1 + z = b + 1 + e then ((encS s : Nat) : Int) else V (b + 1 + z)) = _
    rw [if_neg (by omega), if_neg (fun q => hns (by have : z = e := by omega
                                                    subst this; exact hz))]

end Go.Proofs.Ytiaceoomiflgcaa

end

section
namespace Go.Proofs.Ytiaceoomiflgcaa
open Go.V
set_option linter.unusedVariables false
set_option linter.unusedSimpArgs false
set_option maxRecDepth 100000
set_option maxHeartbeats 8000000

/-- A call that began, to its end. -/
def RunW (o x : Ob) (f : Int) (o' x' : Ob) : Prop := CallOK (O := Ob) PR n_law18_run [.ptr 0 0, .ptr 1 0, .dv (.int .i64 0)] [.obj o, .obj x] fun v m => v = .dv (.int .i64 f) ∧ m = [.obj o', .obj x']

theorem run_w (O X : Nat → Ob) (k : Nat) (f : Int) (o' x' : Ob) (h : ∀ i, i < k → StepW (O i) (X i) false 0 (O (i + 1)) (X (i + 1))) (hl : StepW (O k) (X k) true f o' x') : RunW (O 0) (X 0) f o' x' := by
  unfold StepW at h hl; unfold RunW
  refine fn_walkv mixed fn_law18_run (Ent.refl _ _) fun bin cmp un conv bnot beq band sel isel ofN toN inb nz nneg lt le room' slb add sub sbin scmp slen sget ssub addk pc pb pi pf ps mkok min_ ig aeq P hP hA hF Q hQ => ?_
  cbv
  repeat' first
    | (refine Chk.mk trivial ?_; cbv)
    | (refine bc_true (by first | assumption | (simp (disch := omega) only [hF, natc, w64_in, shs]; first | done | assumption | omega | (simp only [natc] at *; omega))) ?_; cbv)
    | (refine bc_false (by first | assumption | (simp (disch := omega) only [hF, natc, w64_in, shs]; first | done | assumption | omega | (simp only [natc] at *; omega))) ?_; cbv)
    | (refine bc_split (fun h => ?_) (fun h => ?_) <;> (try simp (disch := omega) only [hF, natc, w64_in, shs] at h) <;> cbv)
    | (refine IdxVC.mk (by simp (disch := omega) only [hF, natc, w64_in, shs]; first | done | omega | (simp only [natc] at *; omega)) (fun kx hk hk2 => ?_); simp (disch := omega) only [hF, natc, w64_in, shs] at hk; (try obtain rfl : kx = 0 := hk); cbv)
    | (refine Chk.mk (by simp (disch := omega) only [maxN, hF, natc, w64_in, shs]; first | done | assumption | omega | (simp only [natc] at *; omega)) ?_; cbv)
    | (intro (hmx : _ ≤ maxN); replace hmx : _ ≤ 140737488355328 := hmx; cbv)
    | (intro _; cbv)
  refine loop_up mixed hP hA (k) (fun i => True) [6, 7, 8, 9, 10, 11, 12, 13, 14, 15, 16, 17, 18] (fun i => []) (fun i => [.obj (O i), .obj (X i)]) (trivial) ?_ fun Nx i hN hi hp => ?_
  · exact Ent.env (by cbv)
  cbv
  by_cases hlt : i < k
  · have hs := h i hlt
    cbv
    repeat' first
      | (refine call_at hP [0, 1] code_till_Till_Step (hs) rfl ?_ ?_ ?_; (focus ((repeat' (first | exact trivial | exact rfl | (intro _ _ _ _; exact rfl) | refine And.intro ?_ ?_)); done)); (focus (cbv; (try simp); done)); rintro _ _ ⟨rfl, rfl⟩ _; cbv)
      | (refine Chk.mk trivial ?_; cbv)
      | (refine bc_true (by first | assumption | (simp (disch := omega) only [hF, natc, w64_in, shs]; first | done | assumption | omega | (simp only [natc] at *; omega))) ?_; cbv)
      | (refine bc_false (by first | assumption | (simp (disch := omega) only [hF, natc, w64_in, shs]; first | done | assumption | omega | (simp only [natc] at *; omega))) ?_; cbv)
      | (refine bc_split (fun h => ?_) (fun h => ?_) <;> (try simp (disch := omega) only [hF, natc, w64_in, shs] at h) <;> cbv)
      | (refine IdxVC.mk (by simp (disch := omega) only [hF, natc, w64_in, shs]; first | done | omega | (simp only [natc] at *; omega)) (fun kx hk hk2 => ?_); simp (disch := omega) only [hF, natc, w64_in, shs] at hk; (try obtain rfl : kx = 0 := hk); cbv)
      | (refine Chk.mk (by simp (disch := omega) only [maxN, hF, natc, w64_in, shs]; first | done | assumption | omega | (simp only [natc] at *; omega)) ?_; cbv)
      | (intro (hmx : _ ≤ maxN); replace hmx : _ ≤ 140737488355328 := hmx; cbv)
      | (intro _; cbv)
    exact hN _ hlt trivial (Ent.ren [0, 1] rfl rfl ⟨rfl, rfl, trivial⟩ (by cbv; try simp (disch := omega) [hF, natc, w64_in]))
  · obtain rfl : i = k := by omega
    cbv
    repeat' first
      | (refine call_at hP [0, 1] code_till_Till_Step (hl) rfl ?_ ?_ ?_; (focus ((repeat' (first | exact trivial | exact rfl | (intro _ _ _ _; exact rfl) | refine And.intro ?_ ?_)); done)); (focus (cbv; (try simp); done)); rintro _ _ ⟨rfl, rfl⟩ _; cbv)
      | (refine Chk.mk trivial ?_; cbv)
      | (refine bc_true (by first | assumption | (simp (disch := omega) only [hF, natc, w64_in, shs]; first | done | assumption | omega | (simp only [natc] at *; omega))) ?_; cbv)
      | (refine bc_false (by first | assumption | (simp (disch := omega) only [hF, natc, w64_in, shs]; first | done | assumption | omega | (simp only [natc] at *; omega))) ?_; cbv)
      | (refine bc_split (fun h => ?_) (fun h => ?_) <;> (try simp (disch := omega) only [hF, natc, w64_in, shs] at h) <;> cbv)
      | (refine IdxVC.mk (by simp (disch := omega) only [hF, natc, w64_in, shs]; first | done | omega | (simp only [natc] at *; omega)) (fun kx hk hk2 => ?_); simp (disch := omega) only [hF, natc, w64_in, shs] at hk; (try obtain rfl : kx = 0 := hk); cbv)
      | (refine Chk.mk (by simp (disch := omega) only [maxN, hF, natc, w64_in, shs]; first | done | assumption | omega | (simp only [natc] at *; omega)) ?_; cbv)
      | (intro (hmx : _ ≤ maxN); replace hmx : _ ≤ 140737488355328 := hmx; cbv)
      | (intro _; cbv)
    subst hQ
    exact ⟨_, [.obj o', .obj x'], Ent.refl _ _, rfl, rfl⟩

theorem run5 {o x : Ob} {f : Int} {o' x' : Ob} (h : Run5 o x f o' x') : RunW o x f o' x' := by
  obtain ⟨o1, x1, o2, x2, o3, x3, o4, x4, h0, h1, h2, h3, h4⟩ := h
  refine run_w (fun i => match i with | 0 => o | 1 => o1 | 2 => o2 | 3 => o3 | _ => o4) (fun i => match i with | 0 => x | 1 => x1 | 2 => x2 | 3 => x3 | _ => x4) 4 f o' x' (fun i hi => ?_) h4
  rcases (by omega : i = 0 ∨ i = 1 ∨ i = 2 ∨ i = 3) with rfl | rfl | rfl | rfl
  · exact h0
  · exact h1
  · exact h2
  · exact h3

theorem run3 {o x : Ob} {f : Int} {o' x' : Ob} (h : Run3 o x f o' x') : RunW o x f o' x' := by
  obtain ⟨o1, x1, o2, x2, h0, h1, h2⟩ := h
  refine run_w (fun i => match i with | 0 => o | 1 => o1 | _ => o2) (fun i => match i with | 0 => x | 1 => x1 | _ => x2) 2 f o' x' (fun i hi => ?_) h2
  rcases (by omega : i = 0 ∨ i = 1) with rfl | rfl
  · exact h0
  · exact h1

/-- A list is laid. -/
theorem lay_w (b n c : Nat) (X : Nat → Ob) (x' : Ob) (z : Int) (A W : Nat → Int) (hA' : ∀ i, A i = (b + i : Nat)) (hW' : ∀ i, W i = ((i + 1) % (n + 1) : Nat)) (hb : b < 65536) (hn : 1 ≤ n ∧ n ≤ 32)
    (hw : ∀ i, i < n + 1 → CallOK (O := Ob) PR n_soc_Soc_Write [.ptr 0 0, .dv (.int .i64 c), .dv (.int .i64 (A i)), .dv (.int .i64 (W i))] [.obj (X i)] fun v m => v = .dv (.int .i64 0) ∧ m = [.obj (X (i + 1))])
    (hf : CallOK (O := Ob) PR n_soc_Soc_Fence [.ptr 0 0, .dv (.int .i64 c)] [.obj (X (n + 1))] fun v m => v = .tup [.dv (.int .i64 z), .dv (.int .i64 0)] ∧ m = [.obj x']) :
    CallOK (O := Ob) PR n_till_Lay [.ptr 0 0, .dv (.int .i64 c), .dv (.int .i64 b), .dv (.int .i64 n)] [.obj (X 0)] fun v m => v = .dv (.int .i64 0) ∧ m = [.obj x'] := by
  have hm := ok_tmay b n
  rw [decide_eq_true (by omega)] at hm
  obtain ⟨hn1, hn2⟩ := hn
  refine fn_walkv mixed fn_till_Lay (Ent.refl _ _) fun bin cmp un conv bnot beq band sel isel ofN toN inb nz nneg lt le room' slb add sub sbin scmp slen sget ssub addk pc pb pi pf ps mkok min_ ig aeq P hP hA hF Q hQ => ?_
  have hbt : bnot true = false := by simp only [hF]; rfl
  cbv
  repeat' first
    | (refine call_pure hP code_till_may (hm) ?_ ?_; (focus (cbv; (try simp); done)); rintro _ rfl; cbv)
    | ((rw [hbt]); cbv)
    | (refine Chk.mk trivial ?_; cbv)
    | (refine bc_true (by first | assumption | (simp (disch := omega) only [hF, natc, w64_in, shs]; first | done | assumption | omega | (simp only [natc] at *; omega))) ?_; cbv)
    | (refine bc_false (by first | assumption | (simp (disch := omega) only [hF, natc, w64_in, shs]; first | done | assumption | omega | (simp only [natc] at *; omega))) ?_; cbv)
    | (refine bc_split (fun h => ?_) (fun h => ?_) <;> (try simp (disch := omega) only [hF, natc, w64_in, shs] at h) <;> cbv)
    | (refine IdxVC.mk (by simp (disch := omega) only [hF, natc, w64_in, shs]; first | done | omega | (simp only [natc] at *; omega)) (fun kx hk hk2 => ?_); simp (disch := omega) only [hF, natc, w64_in, shs] at hk; (try obtain rfl : kx = 0 := hk); cbv)
    | (refine Chk.mk (by simp (disch := omega) only [maxN, hF, natc, w64_in, shs]; first | done | assumption | omega | (simp only [natc] at *; omega)) ?_; cbv)
    | (intro (hmx : _ ≤ maxN); replace hmx : _ ≤ 140737488355328 := hmx; cbv)
    | (intro _; cbv)
  refine loop_up mixed hP hA (n + 1) (fun i => True) [8, 9, 10, 19, 20, 21, 22, 23, 24, 25, 26, 27, 28, 29, 30, 31, 32, 33, 34, 35, 36] (fun i => [(19, .dv (.int .i64 (ofN i)))]) (fun i => [.obj (X i)]) (trivial) ?_ fun Nx i hN hi hp => ?_
  · exact Ent.ren [0] rfl rfl ⟨rfl, trivial⟩ (by cbv; try simp [hF])
  cbv
  by_cases hlt : i < n + 1
  · have hwi := hw i hlt
    have e1 : bin .add .i64 (Int.ofNat b) (ofN i) = A i := by rw [hA']; simp only [hF, natc, Int.ofNat_eq_natCast]; rw [w64_in (by omega)]; omega
    have e2 : bin .rem .i64 (bin .add .i64 (ofN i) 1) (bin .add .i64 (Int.ofNat n) 1) = W i := by
      rw [hW']
      simp only [hF, natc, Int.ofNat_eq_natCast]
      rw [w64_in (n := (i : Int) + 1) (by omega), w64_in (n := (n : Int) + 1) (by omega), Int.tmod_eq_emod_of_nonneg (by omega), Int.natCast_emod]
      rfl
    have hc1 : cmp .lss (ofN i) (bin .add .i64 (Int.ofNat n) 1) = true := by
      simp only [hF, natc, Int.ofNat_eq_natCast, decide_eq_true_eq]; rw [w64_in (n := (n : Int) + 1) (by omega)]; omega
    have hnz : nz (bin .add .i64 (Int.ofNat n) 1) := by simp only [hF, natc, Int.ofNat_eq_natCast]; rw [w64_in (n := (n : Int) + 1) (by omega)]; omega
    cbv
    repeat' first
      | ((rw [hc1]); cbv)
      | ((refine Chk.mk hnz ?_); cbv)
      | ((rw [e1]); cbv)
      | ((rw [e2]); cbv)
      | (refine call_at hP [0] code_soc_Soc_Write (hwi) rfl ?_ ?_ ?_; (focus ((repeat' (first | exact trivial | exact rfl | (intro _ _ _ _; exact rfl) | refine And.intro ?_ ?_)); done)); (focus (cbv; (try simp); done)); rintro _ _ ⟨rfl, rfl⟩ _; cbv)
      | (refine Chk.mk trivial ?_; cbv)
      | (refine bc_true (by first | assumption | (simp (disch := omega) only [hF, natc, w64_in, shs]; first | done | assumption | omega | (simp only [natc] at *; omega))) ?_; cbv)
      | (refine bc_false (by first | assumption | (simp (disch := omega) only [hF, natc, w64_in, shs]; first | done | assumption | omega | (simp only [natc] at *; omega))) ?_; cbv)
      | (refine bc_split (fun h => ?_) (fun h => ?_) <;> (try simp (disch := omega) only [hF, natc, w64_in, shs] at h) <;> cbv)
      | (refine IdxVC.mk (by simp (disch := omega) only [hF, natc, w64_in, shs]; first | done | omega | (simp only [natc] at *; omega)) (fun kx hk hk2 => ?_); simp (disch := omega) only [hF, natc, w64_in, shs] at hk; (try obtain rfl : kx = 0 := hk); cbv)
      | (refine Chk.mk (by simp (disch := omega) only [maxN, hF, natc, w64_in, shs]; first | done | assumption | omega | (simp only [natc] at *; omega)) ?_; cbv)
      | (intro (hmx : _ ≤ maxN); replace hmx : _ ≤ 140737488355328 := hmx; cbv)
      | (intro _; cbv)
    exact hN _ hlt trivial (Ent.ren [0] rfl rfl ⟨rfl, trivial⟩ (by cbv; try simp (disch := omega) [hF, natc, w64_in]))
  · obtain rfl : i = n + 1 := by omega
    have hc1 : cmp .lss (ofN (n + 1)) (bin .add .i64 (Int.ofNat n) 1) = false := by
      simp only [hF, natc, Int.ofNat_eq_natCast, decide_eq_false_iff_not]; rw [w64_in (n := (n : Int) + 1) (by omega)]; omega
    cbv
    repeat' first
      | ((rw [hc1]); cbv)
      | (refine call_at hP [0] code_soc_Soc_Fence (hf) rfl ?_ ?_ ?_; (focus ((repeat' (first | exact trivial | exact rfl | (intro _ _ _ _; exact rfl) | refine And.intro ?_ ?_)); done)); (focus (cbv; (try simp); done)); rintro _ _ ⟨rfl, rfl⟩ _; cbv)
      | (refine Chk.mk trivial ?_; cbv)
      | (refine bc_true (by first | assumption | (simp (disch := omega) only [hF, natc, w64_in, shs]; first | done | assumption | omega | (simp only [natc] at *; omega))) ?_; cbv)
      | (refine bc_false (by first | assumption | (simp (disch := omega) only [hF, natc, w64_in, shs]; first | done | assumption | omega | (simp only [natc] at *; omega))) ?_; cbv)
      | (refine bc_split (fun h => ?_) (fun h => ?_) <;> (try simp (disch := omega) only [hF, natc, w64_in, shs] at h) <;> cbv)
      | (refine IdxVC.mk (by simp (disch := omega) only [hF, natc, w64_in, shs]; first | done | omega | (simp only [natc] at *; omega)) (fun kx hk hk2 => ?_); simp (disch := omega) only [hF, natc, w64_in, shs] at hk; (try obtain rfl : kx = 0 := hk); cbv)
      | (refine Chk.mk (by simp (disch := omega) only [maxN, hF, natc, w64_in, shs]; first | done | assumption | omega | (simp only [natc] at *; omega)) ?_; cbv)
      | (intro (hmx : _ ≤ maxN); replace hmx : _ ≤ 140737488355328 := hmx; cbv)
      | (intro _; cbv)
    subst hQ
    exact ⟨_, [.obj x'], Ent.refl _ _, rfl, rfl⟩

end Go.Proofs.Ytiaceoomiflgcaa

end

section
namespace Go.Proofs.Ytiaceoomiflgcaa
open Go.V
set_option linter.unusedVariables false
set_option linter.unusedSimpArgs false
set_option maxRecDepth 100000
set_option maxHeartbeats 8000000

/-- The same words. -/
theorem same3 (n : Nat) (r r' : Nat → Int) (h : ∀ i, i < n → r i = r' i) (hn : n ≤ 65536) : CallOK (O := Ob) PR n_ref03_Same [.vec 0, .vec 1] [.vec n 1 fun i _ => .dv (.int .i64 (r i)), .vec n 1 fun i _ => .dv (.int .i64 (r' i))]
    fun v m => v = .dv (.bool true) ∧ m = [.vec n 1 fun i _ => .dv (.int .i64 (r i)), .vec n 1 fun i _ => .dv (.int .i64 (r' i))] := by
  refine fn_walkv mixed fn_ref03_Same (Ent.refl _ _) fun bin cmp un conv bnot beq band sel isel ofN toN inb nz nneg lt le room' slb add sub sbin scmp slen sget ssub addk pc pb pi pf ps mkok min_ ig aeq P hP hA hF Q hQ => ?_
  cbv
  repeat' first
    | (refine Chk.mk trivial ?_; cbv)
    | (refine bc_true (by first | assumption | (simp (disch := omega) only [hF, natc, w64_in, shs]; first | done | assumption | omega | (simp only [natc] at *; omega))) ?_; cbv)
    | (refine bc_false (by first | assumption | (simp (disch := omega) only [hF, natc, w64_in, shs]; first | done | assumption | omega | (simp only [natc] at *; omega))) ?_; cbv)
    | (refine bc_split (fun h => ?_) (fun h => ?_) <;> (try simp (disch := omega) only [hF, natc, w64_in, shs] at h) <;> cbv)
    | (refine IdxVC.mk (by simp (disch := omega) only [hF, natc, w64_in, shs]; first | done | omega | (simp only [natc] at *; omega)) (fun kx hk hk2 => ?_); simp (disch := omega) only [hF, natc, w64_in, shs] at hk; (try obtain rfl : kx = 0 := hk); cbv)
    | (refine Chk.mk (by simp (disch := omega) only [maxN, hF, natc, w64_in, shs]; first | done | assumption | omega | (simp only [natc] at *; omega)) ?_; cbv)
    | (intro (hmx : _ ≤ maxN); replace hmx : _ ≤ 140737488355328 := hmx; cbv)
    | (intro _; cbv)
  refine loop_up mixed hP hA (n) (fun i => True) [4, 5, 11, 12, 13, 14, 15, 16, 17, 18, 19, 20, 21, 22, 23, 24, 25] (fun i => [(5, .dv (.int .i64 (ofN i)))]) (fun _ => [.vec n 1 fun i _ => .dv (.int .i64 (r i)), .vec n 1 fun i _ => .dv (.int .i64 (r' i))]) (trivial) ?_ fun Nx i hN hi hp => ?_
  · exact Ent.env (by cbv; simp [hF])
  cbv
  by_cases hlt : i < n
  · have hq : cmp .neq (r i) (r' i) = false := by simp only [hF, h i hlt]; simp
    cbv
    repeat' first
      | ((rw [hq]); cbv)
      | (refine Chk.mk trivial ?_; cbv)
      | (refine bc_true (by first | assumption | (simp (disch := omega) only [hF, natc, w64_in, shs]; first | done | assumption | omega | (simp only [natc] at *; omega))) ?_; cbv)
      | (refine bc_false (by first | assumption | (simp (disch := omega) only [hF, natc, w64_in, shs]; first | done | assumption | omega | (simp only [natc] at *; omega))) ?_; cbv)
      | (refine bc_split (fun h => ?_) (fun h => ?_) <;> (try simp (disch := omega) only [hF, natc, w64_in, shs] at h) <;> cbv)
      | (refine IdxVC.mk (by simp (disch := omega) only [hF, natc, w64_in, shs]; first | done | omega | (simp only [natc] at *; omega)) (fun kx hk hk2 => ?_); simp (disch := omega) only [hF, natc, w64_in, shs] at hk; (try obtain rfl : kx = 0 := hk); (try obtain rfl : i = kx := hk.symm); cbv)
      | (refine Chk.mk (by simp (disch := omega) only [maxN, hF, natc, w64_in, shs]; first | done | assumption | omega | (simp only [natc] at *; omega)) ?_; cbv)
      | (intro (hmx : _ ≤ maxN); replace hmx : _ ≤ 140737488355328 := hmx; cbv)
      | (intro _; cbv)
    all_goals exact hN _ hlt trivial (Ent.env (by cbv; simp (disch := omega) [hF, natc, w64_in]))
  · obtain rfl : i = n := by omega
    cbv
    repeat' first
      | (refine Chk.mk trivial ?_; cbv)
      | (refine bc_true (by first | assumption | (simp (disch := omega) only [hF, natc, w64_in, shs]; first | done | assumption | omega | (simp only [natc] at *; omega))) ?_; cbv)
      | (refine bc_false (by first | assumption | (simp (disch := omega) only [hF, natc, w64_in, shs]; first | done | assumption | omega | (simp only [natc] at *; omega))) ?_; cbv)
      | (refine bc_split (fun h => ?_) (fun h => ?_) <;> (try simp (disch := omega) only [hF, natc, w64_in, shs] at h) <;> cbv)
      | (refine IdxVC.mk (by simp (disch := omega) only [hF, natc, w64_in, shs]; first | done | omega | (simp only [natc] at *; omega)) (fun kx hk hk2 => ?_); simp (disch := omega) only [hF, natc, w64_in, shs] at hk; (try obtain rfl : kx = 0 := hk); cbv)
      | (refine Chk.mk (by simp (disch := omega) only [maxN, hF, natc, w64_in, shs]; first | done | assumption | omega | (simp only [natc] at *; omega)) ?_; cbv)
      | (intro (hmx : _ ≤ maxN); replace hmx : _ ≤ 140737488355328 := hmx; cbv)
      | (intro _; cbv)
    subst hQ
    exact ⟨_, _, Ent.refl _ _, rfl, rfl⟩

def PopW (o o' : Ob) : Prop := CallOK (O := Ob) PR n_till_Till_Pop [.ptr 0 0] [.obj o] fun v m => v = .dv (.int .i64 0) ∧ m = [.obj o']
def MineW (o : Ob) (N : Nat) (L : Nat → Int) : Prop := CallOK (O := Ob) PR n_till_Till_Mine [.ptr 0 0] [.obj o] fun v m => v = .vec 1 ∧ m = [.obj o, .vec N 1 fun i _ => .dv (.int .i64 (L i))]
def PushW (o : Ob) (x f : Int) (o' : Ob) : Prop := CallOK (O := Ob) PR n_till_Till_Push [.ptr 0 0, .dv (.int .i64 x)] [.obj o] fun v m => v = .dv (.int .i64 f) ∧ m = [.obj o']

theorem alive18_w (X0 : Ob → Prop) (o : Ob)
    (hNew : CallOK (O := Ob) PR n_soc_New [.agg [.dv (.int .i64 1), .dv (.int .i64 4), .dv (.int .i64 1)], .dv (.int .i64 2)] [] fun v m => v = .tup [.ptr 0 0, .dv (.int .i64 0)] ∧ ∃ x, X0 x ∧ m = [.obj x])
    (hT : CallOK (O := Ob) PR n_till_New [.dv (.int .i64 0), .dv (.int .i64 3), .dv (.int .i64 0), .dv (.int .i64 0)] [] fun v m => v = .ptr 0 0 ∧ m = [.obj o])
    (h : ∀ x, X0 x → ∃ (x' : Ob) (O X : Nat → Ob) (o9 x9 : Ob), (CallOK (O := Ob) PR n_till_Lay [.ptr 0 0, .dv (.int .i64 0), .dv (.int .i64 0), .dv (.int .i64 3)] [.obj x] fun v m => v = .dv (.int .i64 0) ∧ m = [.obj x']) ∧ PopW o (O 0) ∧ X 0 = x' ∧ (∀ i, i < 4 → StepW (O i) (X i) false 0 (O (i + 1)) (X (i + 1))) ∧ StepW (O 4) (X 4) true 0 o9 x9 ∧ MineW o9 1 fun _ => 0) :
    CallOK (O := Ob) PR n_law18_alive [] [] fun v m => v = .dv (.bool true) ∧ m = [] := by
  have hS1 := same3 1 (fun _ => 0) (fun _ => 0) (fun _ _ => rfl) (by omega)
  refine fn_walkv mixed fn_law18_alive (Ent.refl _ _) fun bin cmp un conv bnot beq band sel isel ofN toN inb nz nneg lt le room' slb add sub sbin scmp slen sget ssub addk pc pb pi pf ps mkok min_ ig aeq P hP hA hF Q hQ => ?_
  cbv
  repeat' first
    | (refine call_at hP [] code_soc_New (hNew) rfl ?_ ?_ ?_; (focus ((repeat' (first | exact trivial | exact rfl | (intro _ _ _ _; exact rfl) | refine And.intro ?_ ?_)); done)); (focus (cbv; (try simp); done)); rintro _ _ ⟨rfl, x, hx, rfl⟩ _; cbv)
    | (refine call_at hP [] code_till_New (hT) rfl ?_ ?_ ?_; (focus ((repeat' (first | exact trivial | exact rfl | (intro _ _ _ _; exact rfl) | refine And.intro ?_ ?_)); done)); (focus (cbv; (try simp); done)); rintro _ _ ⟨rfl, rfl⟩ _; cbv)
    | (refine Chk.mk trivial ?_; cbv)
    | (refine bc_true (by first | assumption | (simp (disch := omega) only [hF, natc, w64_in, shs]; first | done | assumption | omega | (simp only [natc] at *; omega))) ?_; cbv)
    | (refine bc_false (by first | assumption | (simp (disch := omega) only [hF, natc, w64_in, shs]; first | done | assumption | omega | (simp only [natc] at *; omega))) ?_; cbv)
    | (refine bc_split (fun h => ?_) (fun h => ?_) <;> (try simp (disch := omega) only [hF, natc, w64_in, shs] at h) <;> cbv)
    | (refine IdxVC.mk (by simp (disch := omega) only [hF, natc, w64_in, shs]; first | done | omega | (simp only [natc] at *; omega)) (fun kx hk hk2 => ?_); simp (disch := omega) only [hF, natc, w64_in, shs] at hk; (try obtain rfl : kx = 0 := hk); cbv)
    | (refine Chk.mk (by simp (disch := omega) only [maxN, hF, natc, w64_in, shs]; first | done | assumption | omega | (simp only [natc] at *; omega)) ?_; cbv)
    | (intro (hmx : _ ≤ maxN); replace hmx : _ ≤ 140737488355328 := hmx; cbv)
    | (intro _; cbv)
  obtain ⟨x', O, X, o9, x9, hLay, hPop, hX0, hSt, hSl, hMi⟩ := h x hx
  unfold PopW at hPop; unfold MineW at hMi; unfold StepW at hSt hSl
  cbv
  repeat' first
    | (refine call_at hP [0] code_till_Lay (hLay) rfl ?_ ?_ ?_; (focus ((repeat' (first | exact trivial | exact rfl | (intro _ _ _ _; exact rfl) | refine And.intro ?_ ?_)); done)); (focus (cbv; (try simp); done)); rintro _ _ ⟨rfl, rfl⟩ _; cbv)
    | (refine call_at hP [1] code_till_Till_Pop (hPop) rfl ?_ ?_ ?_; (focus ((repeat' (first | exact trivial | exact rfl | (intro _ _ _ _; exact rfl) | refine And.intro ?_ ?_)); done)); (focus (cbv; (try simp); done)); rintro _ _ ⟨rfl, rfl⟩ _; cbv)
    | (refine Chk.mk trivial ?_; cbv)
    | (refine bc_true (by first | assumption | (simp (disch := omega) only [hF, natc, w64_in, shs]; first | done | assumption | omega | (simp only [natc] at *; omega))) ?_; cbv)
    | (refine bc_false (by first | assumption | (simp (disch := omega) only [hF, natc, w64_in, shs]; first | done | assumption | omega | (simp only [natc] at *; omega))) ?_; cbv)
    | (refine bc_split (fun h => ?_) (fun h => ?_) <;> (try simp (disch := omega) only [hF, natc, w64_in, shs] at h) <;> cbv)
    | (refine IdxVC.mk (by simp (disch := omega) only [hF, natc, w64_in, shs]; first | done | omega | (simp only [natc] at *; omega)) (fun kx hk hk2 => ?_); simp (disch := omega) only [hF, natc, w64_in, shs] at hk; (try obtain rfl : kx = 0 := hk); cbv)
    | (refine Chk.mk (by simp (disch := omega) only [maxN, hF, natc, w64_in, shs]; first | done | assumption | omega | (simp only [natc] at *; omega)) ?_; cbv)
    | (intro (hmx : _ ≤ maxN); replace hmx : _ ≤ 140737488355328 := hmx; cbv)
    | (intro _; cbv)
  subst hX0
  refine loop_up mixed hP hA (4) (fun i => True) [0, 4, 5, 6, 35, 36, 37, 38, 39, 40, 41, 42, 43, 44, 45] (fun i => [(4, .dv (.int .i64 (ofN (i + 1))))]) (fun i => [.obj (X i), .obj (O i)]) (trivial) ?_ fun Nx i hN hi hp => ?_
  · exact Ent.env (by cbv; try simp [hF])
  cbv
  by_cases hlt : i < 4
  · have hs := hSt i hlt
    cbv
    repeat' first
      | (refine call_at hP [1, 0] code_till_Till_Step (hs) rfl ?_ ?_ ?_; (focus ((repeat' (first | exact trivial | exact rfl | (intro _ _ _ _; exact rfl) | refine And.intro ?_ ?_)); done)); (focus (cbv; (try simp); done)); rintro _ _ ⟨rfl, rfl⟩ _; cbv)
      | (refine Chk.mk trivial ?_; cbv)
      | (refine bc_true (by first | assumption | (simp (disch := omega) only [hF, natc, w64_in, shs]; first | done | assumption | omega | (simp only [natc] at *; omega))) ?_; cbv)
      | (refine bc_false (by first | assumption | (simp (disch := omega) only [hF, natc, w64_in, shs]; first | done | assumption | omega | (simp only [natc] at *; omega))) ?_; cbv)
      | (refine bc_split (fun h => ?_) (fun h => ?_) <;> (try simp (disch := omega) only [hF, natc, w64_in, shs] at h) <;> cbv)
      | (refine IdxVC.mk (by simp (disch := omega) only [hF, natc, w64_in, shs]; first | done | omega | (simp only [natc] at *; omega)) (fun kx hk hk2 => ?_); simp (disch := omega) only [hF, natc, w64_in, shs] at hk; (try obtain rfl : kx = 0 := hk); cbv)
      | (refine Chk.mk (by simp (disch := omega) only [maxN, hF, natc, w64_in, shs]; first | done | assumption | omega | (simp only [natc] at *; omega)) ?_; cbv)
      | (intro (hmx : _ ≤ maxN); replace hmx : _ ≤ 140737488355328 := hmx; cbv)
      | (intro _; cbv)
    exact hN _ hlt trivial (Ent.env (by cbv; try simp (disch := omega) [hF, natc, w64_in]))
  · obtain rfl : i = 4 := by omega
    cbv
    repeat' first
      | (refine call_at hP [1, 0] code_till_Till_Step (hSl) rfl ?_ ?_ ?_; (focus ((repeat' (first | exact trivial | exact rfl | (intro _ _ _ _; exact rfl) | refine And.intro ?_ ?_)); done)); (focus (cbv; (try simp); done)); rintro _ _ ⟨rfl, rfl⟩ _; cbv)
      | (refine call_at hP [1] code_till_Till_Mine (hMi) rfl ?_ ?_ ?_; (focus ((repeat' (first | exact trivial | exact rfl | (intro _ _ _ _; exact rfl) | refine And.intro ?_ ?_)); done)); (focus (cbv; (try simp); done)); rintro _ _ ⟨rfl, rfl⟩ _; cbv)
      | (refine Chk.mk trivial ?_; cbv)
      | (refine bc_true (by first | assumption | (simp (disch := omega) only [hF, natc, w64_in, shs]; first | done | assumption | omega | (simp only [natc] at *; omega))) ?_; cbv)
      | (refine bc_false (by first | assumption | (simp (disch := omega) only [hF, natc, w64_in, shs]; first | done | assumption | omega | (simp only [natc] at *; omega))) ?_; cbv)
      | (refine bc_split (fun h => ?_) (fun h => ?_) <;> (try simp (disch := omega) only [hF, natc, w64_in, shs] at h) <;> cbv)
      | (refine IdxVC.mk (by simp (disch := omega) only [hF, natc, w64_in, shs]; first | done | omega | (simp only [natc] at *; omega)) (fun kx hk hk2 => ?_); simp (disch := omega) only [hF, natc, w64_in, shs] at hk; (try obtain rfl : kx = 0 := hk); cbv)
      | (refine Chk.mk (by simp (disch := omega) only [maxN, hF, natc, w64_in, shs]; first | done | assumption | omega | (simp only [natc] at *; omega)) ?_; cbv)
      | (intro (hmx : _ ≤ maxN); replace hmx : _ ≤ 140737488355328 := hmx; cbv)
      | (intro _; cbv)
    refine call_at hP [2, 3] code_ref03_Same hS1 rfl ⟨⟨rfl, rfl, fun _ _ _ _ => rfl⟩, ⟨rfl, rfl, fun i f hi hf => ?_⟩, trivial⟩ ⟨rfl, rfl, trivial⟩ ?_
    · obtain rfl : i = 0 := by omega
      obtain rfl : f = 0 := by omega
      exact rfl
    rintro _ _ ⟨rfl, rfl⟩ _
    cbv
    cbv
    repeat' first
      | (refine Chk.mk trivial ?_; cbv)
      | (refine bc_true (by first | assumption | (simp (disch := omega) only [hF, natc, w64_in, shs]; first | done | assumption | omega | (simp only [natc] at *; omega))) ?_; cbv)
      | (refine bc_false (by first | assumption | (simp (disch := omega) only [hF, natc, w64_in, shs]; first | done | assumption | omega | (simp only [natc] at *; omega))) ?_; cbv)
      | (refine bc_split (fun h => ?_) (fun h => ?_) <;> (try simp (disch := omega) only [hF, natc, w64_in, shs] at h) <;> cbv)
      | (refine IdxVC.mk (by simp (disch := omega) only [hF, natc, w64_in, shs]; first | done | omega | (simp only [natc] at *; omega)) (fun kx hk hk2 => ?_); simp (disch := omega) only [hF, natc, w64_in, shs] at hk; (try obtain rfl : kx = 0 := hk); cbv)
      | (refine Chk.mk (by simp (disch := omega) only [maxN, hF, natc, w64_in, shs]; first | done | assumption | omega | (simp only [natc] at *; omega)) ?_; cbv)
      | (intro (hmx : _ ≤ maxN); replace hmx : _ ≤ 140737488355328 := hmx; cbv)
      | (intro _; cbv)
    subst hQ; exact leaf_data rfl rfl ⟨rfl, rfl⟩

end Go.Proofs.Ytiaceoomiflgcaa

end
