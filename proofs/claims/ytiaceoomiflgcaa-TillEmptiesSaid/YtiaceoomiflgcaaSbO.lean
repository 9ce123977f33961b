/-
  Walks: the bus, by what it holds: a new one; what stays of what holds.
-/
import Derived.Test.YtiaceoomiflgcaaSeIr
import Derived.Test.YtiaceoomiflgcaaSocM
import Derived.Test.YtiaceoomiflgcaaFltA
import Derived.Test.YtiaceoomiflgcaaFndA
import Derived.Test.YtiaceoomiflgcaaFndD
section
namespace Go.Proofs.Ytiaceoomiflgcaa
open Go.V
set_option linter.unusedVariables false
set_option linter.unusedSimpArgs false
set_option maxRecDepth 100000
set_option maxHeartbeats 8000000

theorem ok_bLen (mo : Int) (k : Nat) (re im : Nat → Nat) : CallOK (O := Ob) PR n_sbuf_Buffer_Len [.ptr 0 0] [.obj (bOb mo k re im)] fun r m => r = .dv (.int .i64 (k : Int)) ∧ m = [.obj (bOb mo k re im)] := by
  refine fn_walkv mixed fn_sbuf_Buffer_Len Ent.opn1 fun bin cmp un conv bnot beq band sel isel ofN toN inb nz nneg lt le room' slb add sub sbin scmp slen sget ssub addk pc pb pi pf ps mkok min_ ig aeq P hP hA hF Q hQ => ?_
  have hk : ofN k = (k : Int) := by simp only [hF]
  rw [← hk] at hQ
  cbv
  repeat' first
    | (refine Chk.mk trivial ?_; cbv)
    | (refine bc_true (by first | assumption | (simp (disch := omega) only [hF, natc, w64_in, shs]; first | done | assumption | omega | (simp only [natc] at *; omega))) ?_; cbv)
    | (refine bc_false (by first | assumption | (simp (disch := omega) only [hF, natc, w64_in, shs]; first | done | assumption | omega | (simp only [natc] at *; omega))) ?_; cbv)
    | (refine bc_split (fun h => ?_) (fun h => ?_) <;> (try simp (disch := omega) only [hF, natc, w64_in, shs] at h) <;> cbv)
    | (refine IdxVC.mk (by simp (disch := omega) only [hF, natc, w64_in, shs]; first | done | omega | (simp only [natc] at *; omega)) (fun kx hk hk2 => ?_); simp (disch := omega) only [hF, natc, w64_in, shs] at hk; (try obtain rfl : kx = 0 := hk); cbv)
    | (refine Chk.mk (by simp (disch := omega) only [maxN, hF, natc, w64_in, shs]; first | done | assumption | omega | (simp only [natc] at *; omega)) ?_; cbv)
    | (intro (hmx : _ ≤ maxN); replace hmx : _ ≤ 140737488355328 := hmx; cbv)
    | (intro _; cbv)
  subst hQ
  exact leaf_obj (lmem := bmem mo k re im) [1] rfl rfl ⟨⟨rfl, rfl, trivial⟩, ⟨rfl, rfl, fun _ _ _ _ => rfl⟩, trivial⟩ rfl rfl ⟨rfl, rfl⟩

theorem ok_bCap (mo : Int) (k : Nat) (re im : Nat → Nat) : CallOK (O := Ob) PR n_sbuf_Buffer_Cap [.ptr 0 0] [.obj (bOb mo k re im)] fun r m => r = .dv (.int .i64 mo) ∧ m = [.obj (bOb mo k re im)] := by
  refine fn_walkv mixed fn_sbuf_Buffer_Cap Ent.opn1 fun bin cmp un conv bnot beq band sel isel ofN toN inb nz nneg lt le room' slb add sub sbin scmp slen sget ssub addk pc pb pi pf ps mkok min_ ig aeq P hP hA hF Q hQ => ?_
  cbv
  repeat' first
    | (refine Chk.mk trivial ?_; cbv)
    | (refine bc_true (by first | assumption | (simp (disch := omega) only [hF, natc, w64_in, shs]; first | done | assumption | omega | (simp only [natc] at *; omega))) ?_; cbv)
    | (refine bc_false (by first | assumption | (simp (disch := omega) only [hF, natc, w64_in, shs]; first | done | assumption | omega | (simp only [natc] at *; omega))) ?_; cbv)
    | (refine bc_split (fun h => ?_) (fun h => ?_) <;> (try simp (disch := omega) only [hF, natc, w64_in, shs] at h) <;> cbv)
    | (refine IdxVC.mk (by simp (disch := omega) only [hF, natc, w64_in, shs]; first | done | omega | (simp only [natc] at *; omega)) (fun kx hk hk2 => ?_); simp (disch := omega) only [hF, natc, w64_in, shs] at hk; (try obtain rfl : kx = 0 := hk); cbv)
    | (refine Chk.mk (by simp (disch := omega) only [maxN, hF, natc, w64_in, shs]; first | done | assumption | omega | (simp only [natc] at *; omega)) ?_; cbv)
    | (intro (hmx : _ ≤ maxN); replace hmx : _ ≤ 140737488355328 := hmx; cbv)
    | (intro _; cbv)
  subst hQ
  exact leaf_obj (lmem := bmem mo k re im) [1] rfl rfl ⟨⟨rfl, rfl, trivial⟩, ⟨rfl, rfl, fun _ _ _ _ => rfl⟩, trivial⟩ rfl rfl ⟨rfl, rfl⟩

end Go.Proofs.Ytiaceoomiflgcaa

end

section
namespace Go.Proofs.Ytiaceoomiflgcaa
open Go.V
set_option linter.unusedVariables false
set_option linter.unusedSimpArgs false
set_option maxRecDepth 100000
set_option maxHeartbeats 8000000

theorem ok_Word (a : Int) : CallOK (O := Ob) PR n_wrap_Word [.dv (.int .i64 a)] [] fun r m => (∃ v, v = a % 65536 ∧ r = .dv (.int .i64 v)) ∧ m = [] := by
  refine fn_walk mixed fn_wrap_Word fun A P hA hP Q hQ => ?_
  cbv
  subst hQ hA
  exact ⟨⟨_, and_word a, rfl⟩, rfl⟩

theorem ok_may (a : Int) : CallOK (O := Ob) PR n_cell_may [.dv (.int .i64 a)] [] fun r m => (∃ v, (v = true ↔ 0 ≤ a ∧ a ≤ 65535) ∧ r = .dv (.bool v)) ∧ m = [] := by
  have hw := ok_Word a
  refine fn_walkv mixed fn_cell_may (Ent.refl _ _) fun bin cmp un conv bnot beq band sel isel ofN toN inb nz nneg lt le room' slb add sub sbin scmp slen sget ssub addk pc pb pi pf ps mkok min_ ig aeq P hP hA hF Q hQ => ?_
  cbv
  repeat' first
    | (refine Chk.mk trivial ?_; cbv)
    | (refine bc_true (by first | assumption | (simp (disch := omega) only [hF, natc, w64_in, shs]; first | done | assumption | omega | (simp only [natc] at *; omega))) ?_; cbv)
    | (refine bc_false (by first | assumption | (simp (disch := omega) only [hF, natc, w64_in, shs]; first | done | assumption | omega | (simp only [natc] at *; omega))) ?_; cbv)
    | (refine bc_split (fun h => ?_) (fun h => ?_) <;> (try simp (disch := omega) only [hF, natc, w64_in, shs] at h) <;> cbv)
    | (refine IdxVC.mk (by simp (disch := omega) only [hF, natc, w64_in, shs]; first | done | omega | (simp only [natc] at *; omega)) (fun kx hk hk2 => ?_); simp (disch := omega) only [hF, natc, w64_in, shs] at hk; (try obtain rfl : kx = 0 := hk); cbv)
    | (refine Chk.mk (by simp (disch := omega) only [maxN, hF, natc, w64_in, shs]; first | done | assumption | omega | (simp only [natc] at *; omega)) ?_; cbv)
    | (intro (hmx : _ ≤ maxN); replace hmx : _ ≤ 140737488355328 := hmx; cbv)
    | (intro _; cbv)
    | (refine call_pure hP code_wrap_Word (hw) ?_ ?_; (focus (cbv; (try simp); done)); rintro _ ⟨v, hv, rfl⟩; cbv)
  subst hQ; refine leaf_data rfl rfl ⟨⟨_, ?_, rfl⟩, rfl⟩; (try clear hN); (try simp only [hF]); (try simp only [natc] at *); clear hF hA hP
  simp only [decide_eq_true_eq]; omega

theorem ok_Of (a b : Int) (ha : 0 ≤ a ∧ a ≤ 65535) (hb : 0 ≤ b ∧ b ≤ 65535) (fa fb : Nat) (hfa : fa = flt a.toNat) (hfb : fb = flt b.toNat) : CallOK (O := Ob) PR n_cell_Of [.dv (.int .i64 a), .dv (.int .i64 b)] [] fun r m => r = .tup [.dv (.cpx .f64 fa fb), .dv (.bool true)] ∧ m = [] := by
  have h1 : CallOK (O := Ob) PR n_cell_may [.dv (.int .i64 a)] [] fun r m => r = .dv (.bool true) ∧ m = [] := (ok_may a).mono fun r m ⟨⟨v, hv, e⟩, hm⟩ => ⟨by rw [e, hv.2 ha], hm⟩
  have h2 : CallOK (O := Ob) PR n_cell_may [.dv (.int .i64 b)] [] fun r m => r = .dv (.bool true) ∧ m = [] := (ok_may b).mono fun r m ⟨⟨v, hv, e⟩, hm⟩ => ⟨by rw [e, hv.2 hb], hm⟩
  have e1 : FloatKind.f64.nearest a = fa := by rw [hfa]; unfold flt; congr 1; omega
  have e2 : FloatKind.f64.nearest b = fb := by rw [hfb]; unfold flt; congr 1; omega
  clear hfa hfb
  refine fn_walkv mixed fn_cell_Of (Ent.refl _ _) fun bin cmp un conv bnot beq band sel isel ofN toN inb nz nneg lt le room' slb add sub sbin scmp slen sget ssub addk pc pb pi pf ps mkok min_ ig aeq P hP hA hF Q hQ => ?_
  have hp : ∀ z, pf (.i2f .f64) [.int .i64 z] = FloatKind.f64.nearest z := by
    intro z
    have : pf = puF := congrArg Ar.pf hA
    rw [this]; rfl
  have hc : ∀ z, pc (.i2f .f64) [.int .i64 z] := by
    intro z
    have : pc = puC := congrArg Ar.pc hA
    rw [this]; exact trivial
  have p1 : pf (.i2f .f64) [.int .i64 a] = fa := by rw [hp, e1]
  have p2 : pf (.i2f .f64) [.int .i64 b] = fb := by rw [hp, e2]
  clear e1 e2 hp
  cbv
  repeat' first
    | (refine call_pure hP code_cell_may (h1) ?_ ?_; (focus (cbv; (try simp); done)); rintro _ rfl; cbv)
    | (refine call_pure hP code_cell_may (h2) ?_ ?_; (focus (cbv; (try simp); done)); rintro _ rfl; cbv)
    | ((refine Chk.mk (hc _) ?_); cbv)
    | ((rw [p1]); cbv)
    | ((rw [p2]); cbv)
    | (refine Chk.mk trivial ?_; cbv)
    | (refine bc_true (by first | assumption | (simp (disch := omega) only [hF, natc, w64_in, shs]; first | done | assumption | omega | (simp only [natc] at *; omega))) ?_; cbv)
    | (refine bc_false (by first | assumption | (simp (disch := omega) only [hF, natc, w64_in, shs]; first | done | assumption | omega | (simp only [natc] at *; omega))) ?_; cbv)
    | (refine bc_split (fun h => ?_) (fun h => ?_) <;> (try simp (disch := omega) only [hF, natc, w64_in, shs] at h) <;> cbv)
    | (refine IdxVC.mk (by simp (disch := omega) only [hF, natc, w64_in, shs]; first | done | omega | (simp only [natc] at *; omega)) (fun kx hk hk2 => ?_); simp (disch := omega) only [hF, natc, w64_in, shs] at hk; (try obtain rfl : kx = 0 := hk); cbv)
    | (refine Chk.mk (by simp (disch := omega) only [maxN, hF, natc, w64_in, shs]; first | done | assumption | omega | (simp only [natc] at *; omega)) ?_; cbv)
    | (intro (hmx : _ ≤ maxN); replace hmx : _ ≤ 140737488355328 := hmx; cbv)
    | (intro _; cbv)
  subst hQ; exact leaf_data rfl rfl ⟨rfl, rfl⟩

end Go.Proofs.Ytiaceoomiflgcaa

end

section
namespace Go.Proofs.Ytiaceoomiflgcaa
open Go.V
set_option linter.unusedVariables false
set_option linter.unusedSimpArgs false
set_option maxRecDepth 100000
set_option maxHeartbeats 8000000

theorem ok_bNew (mo : Int) (h : 1 ≤ mo ∧ mo ≤ 16) (re im : Nat → Nat) : CallOK (O := Ob) PR n_sbuf_New [.dv (.int .i64 mo)] [] fun r m => r = .ptr 0 0 ∧ m = [.obj (bOb mo 0 re im)] := by
  obtain ⟨h1, h2⟩ := h
  refine fn_walkv mixed fn_sbuf_New (Ent.refl _ _) fun bin cmp un conv bnot beq band sel isel ofN toN inb nz nneg lt le room' slb add sub sbin scmp slen sget ssub addk pc pb pi pf ps mkok min_ ig aeq P hP hA hF Q hQ => ?_
  cbv
  repeat' first
    | (refine Chk.mk trivial ?_; cbv)
    | (refine bc_true (by first | assumption | (simp (disch := omega) only [hF, natc, w64_in, shs]; first | done | assumption | omega | (simp only [natc] at *; omega))) ?_; cbv)
    | (refine bc_false (by first | assumption | (simp (disch := omega) only [hF, natc, w64_in, shs]; first | done | assumption | omega | (simp only [natc] at *; omega))) ?_; cbv)
    | (refine bc_split (fun h => ?_) (fun h => ?_) <;> (try simp (disch := omega) only [hF, natc, w64_in, shs] at h) <;> cbv)
    | (refine IdxVC.mk (by simp (disch := omega) only [hF, natc, w64_in, shs]; first | done | omega | (simp only [natc] at *; omega)) (fun kx hk hk2 => ?_); simp (disch := omega) only [hF, natc, w64_in, shs] at hk; (try obtain rfl : kx = 0 := hk); cbv)
    | (refine Chk.mk (by simp (disch := omega) only [maxN, hF, natc, w64_in, shs]; first | done | assumption | omega | (simp only [natc] at *; omega)) ?_; cbv)
    | (intro (hmx : _ ≤ maxN); replace hmx : _ ≤ 140737488355328 := hmx; cbv)
    | (intro _; cbv)
  subst hQ
  exact ⟨.ptr 0 0, _, (Ent.nilvec (ss := [.one (.dv (.int .i64 mo)), .one (.dv .nils)]) (ss' := [.one (.dv (.int .i64 mo)), .one (.vec 1)]) 0 1 1 (fun i _ => .dv (.cpx .f64 (re i) (im i))) rfl rfl rfl).trans (Ent.cls1 [1] (bmem mo 0 re im) rfl rfl ⟨⟨rfl, rfl, trivial⟩, ⟨rfl, rfl, fun _ _ _ _ => rfl⟩, trivial⟩ ⟨rfl, trivial⟩), rfl, rfl⟩

theorem ok_bPut (mo : Int) (k : Nat) (re im re' im' : Nat → Nat) (a b : Int) (ha : 0 ≤ a ∧ a ≤ 65535) (hb : 0 ≤ b ∧ b ≤ 65535) (fa fb : Nat) (hfa : fa = flt a.toNat) (hfb : fb = flt b.toNat) (hk : (k : Int) < mo) (hmo : mo ≤ 16)
    (hr : ∀ i, i < k → re' i = re i) (hr' : re' k = fa) (hi : ∀ i, i < k → im' i = im i) (hi' : im' k = fb) :
    CallOK (O := Ob) PR n_sbuf_Buffer_Put [.ptr 0 0, .dv (.int .i64 a), .dv (.int .i64 b)] [.obj (bOb mo k re im)] fun r m => r = .dv (.int .i64 0) ∧ m = [.obj (bOb mo (k + 1) re' im')] := by
  have hof := ok_Of a b ha hb fa fb hfa hfb
  refine fn_walkv mixed fn_sbuf_Buffer_Put Ent.opn1 fun bin cmp un conv bnot beq band sel isel ofN toN inb nz nneg lt le room' slb add sub sbin scmp slen sget ssub addk pc pb pi pf ps mkok min_ ig aeq P hP hA hF Q hQ => ?_
  have hrm : room' (add k 1) 16 := by simp [hF, maxN]; omega
  cbv
  repeat' first
    | (refine call_pure hP code_cell_Of (hof) ?_ ?_; (focus (cbv; (try simp); done)); rintro _ rfl; cbv)
    | ((refine Chk.mk hrm ?_); cbv)
    | (refine Chk.mk trivial ?_; cbv)
    | (refine bc_true (by first | assumption | (simp (disch := omega) only [hF, natc, w64_in, shs]; first | done | assumption | omega | (simp only [natc] at *; omega))) ?_; cbv)
    | (refine bc_false (by first | assumption | (simp (disch := omega) only [hF, natc, w64_in, shs]; first | done | assumption | omega | (simp only [natc] at *; omega))) ?_; cbv)
    | (refine bc_split (fun h => ?_) (fun h => ?_) <;> (try simp (disch := omega) only [hF, natc, w64_in, shs] at h) <;> cbv)
    | (refine IdxVC.mk (by simp (disch := omega) only [hF, natc, w64_in, shs]; first | done | omega | (simp only [natc] at *; omega)) (fun kx hk hk2 => ?_); simp (disch := omega) only [hF, natc, w64_in, shs] at hk; (try obtain rfl : kx = 0 := hk); cbv)
    | (refine Chk.mk (by simp (disch := omega) only [maxN, hF, natc, w64_in, shs]; first | done | assumption | omega | (simp only [natc] at *; omega)) ?_; cbv)
    | (intro (hmx : _ ≤ maxN); replace hmx : _ ≤ 140737488355328 := hmx; cbv)
    | (intro _; cbv)
  subst hQ
  refine leaf_obj (lmem := bmem mo (k + 1) re' im') [3] rfl rfl ⟨⟨rfl, rfl, trivial⟩, ⟨by simp only [hF], rfl, fun i f hl hf => ?_⟩, trivial⟩ rfl rfl ⟨rfl, rfl⟩
  simp only [hF] at hl
  show VLe _ _ (.dv (.cpx .f64 (re' i) (im' i)))
  unfold appAt
  by_cases h : i < k
  · rw [if_pos h, hr i h, hi i h]; rfl
  · obtain rfl : i = k := by omega
    obtain rfl : f = 0 := by omega
    rw [if_neg h, hr', hi']
    simp only [hF, Nat.sub_self]
    rfl

theorem ok_bDrain (mo : Int) (k : Nat) (re im : Nat → Nat) (a b : Nat) (hk : 0 < k) (hp : partsO (re 0, im 0) = some (some ((a : Int), (b : Int)))) :
    CallOK (O := Ob) PR n_sbuf_Buffer_Drain [.ptr 0 0] [.obj (bOb mo k re im)] fun r m => r = .tup [.dv (.int .i64 a), .dv (.int .i64 b), .dv (.bool true)] ∧ m = [.obj (bOb mo (k - 1) (fun i => re (i + 1)) (fun i => im (i + 1)))] := by
  have hpt := ok_Parts (re 0, im 0) _ hp
  have hps : partsSV (some ((a : Int), (b : Int))) = .tup [.dv (.int .i64 a), .dv (.int .i64 b), .dv (.bool true)] := rfl
  rw [hps] at hpt
  refine fn_walkv mixed fn_sbuf_Buffer_Drain Ent.opn1 fun bin cmp un conv bnot beq band sel isel ofN toN inb nz nneg lt le room' slb add sub sbin scmp slen sget ssub addk pc pb pi pf ps mkok min_ ig aeq P hP hA hF Q hQ => ?_
  cbv
  repeat' first
    | ((refine call_inl hP mixed hA code_sbuf_Buffer_Len fn_sbuf_Buffer_Len ?_); cbv)
    | (refine call_pure hP code_cell_Parts (hpt) ?_ ?_; (focus (cbv; (try simp); done)); rintro _ rfl; cbv)
    | (refine Chk.mk trivial ?_; cbv)
    | (refine bc_true (by first | assumption | (simp (disch := omega) only [hF, natc, w64_in, shs]; first | done | assumption | omega | (simp only [natc] at *; omega))) ?_; cbv)
    | (refine bc_false (by first | assumption | (simp (disch := omega) only [hF, natc, w64_in, shs]; first | done | assumption | omega | (simp only [natc] at *; omega))) ?_; cbv)
    | (refine bc_split (fun h => ?_) (fun h => ?_) <;> (try simp (disch := omega) only [hF, natc, w64_in, shs] at h) <;> cbv)
    | (refine IdxVC.mk (by simp (disch := omega) only [hF, natc, w64_in, shs]; first | done | omega | (simp only [natc] at *; omega)) (fun kx hk hk2 => ?_); simp (disch := omega) only [hF, natc, w64_in, shs] at hk; (try obtain rfl : kx = 0 := hk); cbv)
    | (refine Chk.mk (by simp (disch := omega) only [maxN, hF, natc, w64_in, shs]; first | done | assumption | omega | (simp only [natc] at *; omega)) ?_; cbv)
    | (intro (hmx : _ ≤ maxN); replace hmx : _ ≤ 140737488355328 := hmx; cbv)
    | (intro _; cbv)
  have e1 : toN 1 = 1 := by simp only [hF]; rfl
  have e2 : sub (toN (ofN k)) 1 = k - 1 := by simp only [hF, natc]; omega
  rw [e1, e2]
  subst hQ
  refine ⟨.tup [.dv (.int .i64 a), .dv (.int .i64 b), .dv (.bool true)], _, (Ent.unwin (ss := [.one (.dv (.int .i64 mo)), .one (.win 1 1 (k - 1) (some (k - 1)) 1)]) (ss' := [.one (.dv (.int .i64 mo)), .one (.vec 2)]) 0 1 1 rfl rfl rfl rfl (by omega)).trans
    (Ent.cls1 [2] (bmem mo (k - 1) (fun i => re (i + 1)) (fun i => im (i + 1))) rfl rfl ⟨⟨rfl, rfl, trivial⟩, ⟨rfl, rfl, fun i f _ _ => ?_⟩, trivial⟩ ⟨rfl, trivial⟩), rfl, rfl⟩
  show VLe _ (.dv (.cpx .f64 (re (1 + i)) (im (1 + i)))) (.dv (.cpx .f64 (re (i + 1)) (im (i + 1))))
  rw [Nat.add_comm]; rfl

end Go.Proofs.Ytiaceoomiflgcaa

end

section
namespace Go.Proofs.Ytiaceoomiflgcaa
open Go.V
set_option linter.unusedVariables false
set_option linter.unusedSimpArgs false
set_option maxRecDepth 100000
set_option maxHeartbeats 8000000

theorem ok_rWrong (n : Nat) (rr : Nat → Int) (a b : Int) (hb : 0 ≤ b ∧ b ≤ 65536) (hn : n ≤ 65536) : CallOK (O := Ob) PR n_sram_Ram_wrong [.ptr 0 0, .dv (.int .i64 a), .dv (.int .i64 b)] [.obj (rOb n rr)]
    fun r m => (∃ e, ((0 ≤ a ∧ a + b ≤ n) → e = 0) ∧ (¬ (0 ≤ a ∧ a + b ≤ n) → e = 4) ∧ r = .dv (.int .i64 e)) ∧ m = [.obj (rOb n rr)] := by
  obtain ⟨b0, b1⟩ := hb
  by_cases ha : 0 ≤ a ∧ a ≤ n
  · obtain ⟨a0, a1⟩ := ha
    refine fn_walkv mixed fn_sram_Ram_wrong Ent.opn1 fun bin cmp un conv bnot beq band sel isel ofN toN inb nz nneg lt le room' slb add sub sbin scmp slen sget ssub addk pc pb pi pf ps mkok min_ ig aeq P hP hA hF Q hQ => ?_
    have hs : bin .sub .i64 (ofN n) a = (n : Int) - a := by simp (disch := omega) only [hF, natc, w64_in]
    by_cases hc : (n : Int) - a < b
    · have hg : cmp .gtr b (bin .sub .i64 (ofN n) a) = true := by rw [hs]; simp only [hF, decide_eq_true_eq]; exact hc
      cbv
      repeat' first
        | ((refine bc_true hg ?_); cbv)
        | (refine Chk.mk trivial ?_; cbv)
        | (refine bc_true (by first | assumption | (simp (disch := omega) only [hF, natc, w64_in, shs]; first | done | assumption | omega | (simp only [natc] at *; omega))) ?_; cbv)
        | (refine bc_false (by first | assumption | (simp (disch := omega) only [hF, natc, w64_in, shs]; first | done | assumption | omega | (simp only [natc] at *; omega))) ?_; cbv)
        | (refine bc_split (fun h => ?_) (fun h => ?_) <;> (try simp (disch := omega) only [hF, natc, w64_in, shs] at h) <;> cbv)
        | (refine IdxVC.mk (by simp (disch := omega) only [hF, natc, w64_in, shs]; first | done | omega | (simp only [natc] at *; omega)) (fun kx hk hk2 => ?_); simp (disch := omega) only [hF, natc, w64_in, shs] at hk; (try obtain rfl : kx = 0 := hk); cbv)
        | (refine Chk.mk (by simp (disch := omega) only [maxN, hF, natc, w64_in, shs]; first | done | assumption | omega | (simp only [natc] at *; omega)) ?_; cbv)
        | (intro (hmx : _ ≤ maxN); replace hmx : _ ≤ 140737488355328 := hmx; cbv)
        | (intro _; cbv)
      subst hQ; exact leaf_obj (lmem := rmem n rr) [1] rfl rfl ⟨⟨rfl, trivial⟩, ⟨rfl, rfl, fun _ _ _ _ => rfl⟩, trivial⟩ rfl rfl ⟨⟨4, fun h => by clear hF hA hP; omega, fun _ => rfl, rfl⟩, rfl⟩
    · have hg : cmp .gtr b (bin .sub .i64 (ofN n) a) = false := by rw [hs]; simp only [hF, decide_eq_false_iff_not]; exact hc
      cbv
      repeat' first
        | ((refine bc_false hg ?_); cbv)
        | (refine Chk.mk trivial ?_; cbv)
        | (refine bc_true (by first | assumption | (simp (disch := omega) only [hF, natc, w64_in, shs]; first | done | assumption | omega | (simp only [natc] at *; omega))) ?_; cbv)
        | (refine bc_false (by first | assumption | (simp (disch := omega) only [hF, natc, w64_in, shs]; first | done | assumption | omega | (simp only [natc] at *; omega))) ?_; cbv)
        | (refine bc_split (fun h => ?_) (fun h => ?_) <;> (try simp (disch := omega) only [hF, natc, w64_in, shs] at h) <;> cbv)
        | (refine IdxVC.mk (by simp (disch := omega) only [hF, natc, w64_in, shs]; first | done | omega | (simp only [natc] at *; omega)) (fun kx hk hk2 => ?_); simp (disch := omega) only [hF, natc, w64_in, shs] at hk; (try obtain rfl : kx = 0 := hk); cbv)
        | (refine Chk.mk (by simp (disch := omega) only [maxN, hF, natc, w64_in, shs]; first | done | assumption | omega | (simp only [natc] at *; omega)) ?_; cbv)
        | (intro (hmx : _ ≤ maxN); replace hmx : _ ≤ 140737488355328 := hmx; cbv)
        | (intro _; cbv)
      subst hQ; exact leaf_obj (lmem := rmem n rr) [1] rfl rfl ⟨⟨rfl, trivial⟩, ⟨rfl, rfl, fun _ _ _ _ => rfl⟩, trivial⟩ rfl rfl ⟨⟨0, fun _ => rfl, fun h => by clear hF hA hP; omega, rfl⟩, rfl⟩
  · rcases (by omega : a < 0 ∨ (0 ≤ a ∧ (n : Int) < a)) with h | ⟨h, h'⟩
    · refine fn_walkv mixed fn_sram_Ram_wrong Ent.opn1 fun bin cmp un conv bnot beq band sel isel ofN toN inb nz nneg lt le room' slb add sub sbin scmp slen sget ssub addk pc pb pi pf ps mkok min_ ig aeq P hP hA hF Q hQ => ?_
      cbv
      repeat' first
        | (refine Chk.mk trivial ?_; cbv)
        | (refine bc_true (by first | assumption | (simp (disch := omega) only [hF, natc, w64_in, shs]; first | done | assumption | omega | (simp only [natc] at *; omega))) ?_; cbv)
        | (refine bc_false (by first | assumption | (simp (disch := omega) only [hF, natc, w64_in, shs]; first | done | assumption | omega | (simp only [natc] at *; omega))) ?_; cbv)
        | (refine bc_split (fun h => ?_) (fun h => ?_) <;> (try simp (disch := omega) only [hF, natc, w64_in, shs] at h) <;> cbv)
        | (refine IdxVC.mk (by simp (disch := omega) only [hF, natc, w64_in, shs]; first | done | omega | (simp only [natc] at *; omega)) (fun kx hk hk2 => ?_); simp (disch := omega) only [hF, natc, w64_in, shs] at hk; (try obtain rfl : kx = 0 := hk); cbv)
        | (refine Chk.mk (by simp (disch := omega) only [maxN, hF, natc, w64_in, shs]; first | done | assumption | omega | (simp only [natc] at *; omega)) ?_; cbv)
        | (intro (hmx : _ ≤ maxN); replace hmx : _ ≤ 140737488355328 := hmx; cbv)
        | (intro _; cbv)
      subst hQ; exact leaf_obj (lmem := rmem n rr) [1] rfl rfl ⟨⟨rfl, trivial⟩, ⟨rfl, rfl, fun _ _ _ _ => rfl⟩, trivial⟩ rfl rfl ⟨⟨4, fun h => by clear hF hA hP; omega, fun _ => rfl, rfl⟩, rfl⟩
    · refine fn_walkv mixed fn_sram_Ram_wrong Ent.opn1 fun bin cmp un conv bnot beq band sel isel ofN toN inb nz nneg lt le room' slb add sub sbin scmp slen sget ssub addk pc pb pi pf ps mkok min_ ig aeq P hP hA hF Q hQ => ?_
      cbv
      repeat' first
        | (refine Chk.mk trivial ?_; cbv)
        | (refine bc_true (by first | assumption | (simp (disch := omega) only [hF, natc, w64_in, shs]; first | done | assumption | omega | (simp only [natc] at *; omega))) ?_; cbv)
        | (refine bc_false (by first | assumption | (simp (disch := omega) only [hF, natc, w64_in, shs]; first | done | assumption | omega | (simp only [natc] at *; omega))) ?_; cbv)
        | (refine bc_split (fun h => ?_) (fun h => ?_) <;> (try simp (disch := omega) only [hF, natc, w64_in, shs] at h) <;> cbv)
        | (refine IdxVC.mk (by simp (disch := omega) only [hF, natc, w64_in, shs]; first | done | omega | (simp only [natc] at *; omega)) (fun kx hk hk2 => ?_); simp (disch := omega) only [hF, natc, w64_in, shs] at hk; (try obtain rfl : kx = 0 := hk); cbv)
        | (refine Chk.mk (by simp (disch := omega) only [maxN, hF, natc, w64_in, shs]; first | done | assumption | omega | (simp only [natc] at *; omega)) ?_; cbv)
        | (intro (hmx : _ ≤ maxN); replace hmx : _ ≤ 140737488355328 := hmx; cbv)
        | (intro _; cbv)
      subst hQ; exact leaf_obj (lmem := rmem n rr) [1] rfl rfl ⟨⟨rfl, trivial⟩, ⟨rfl, rfl, fun _ _ _ _ => rfl⟩, trivial⟩ rfl rfl ⟨⟨4, fun h => by clear hF hA hP; omega, fun _ => rfl, rfl⟩, rfl⟩

theorem ok_rLoad (n : Nat) (rr : Nat → Int) (a : Int) (hn : n ≤ 65536) : CallOK (O := Ob) PR n_sram_Ram_Load [.ptr 0 0, .dv (.int .i64 a)] [.obj (rOb n rr)]
    fun r m => (∃ z e, ((0 ≤ a ∧ a < n) → e = 0 ∧ z = rr a.toNat) ∧ (¬ (0 ≤ a ∧ a < n) → e = 4 ∧ z = 0) ∧ r = .tup [.dv (.int .i64 z), .dv (.int .i64 e)]) ∧ m = [.obj (rOb n rr)] := by
  have hw := ok_rWrong n rr a 1 (by omega) hn
  by_cases ha : 0 ≤ a ∧ a < n
  · have hw : CallOK (O := Ob) PR n_sram_Ram_wrong [.ptr 0 0, .dv (.int .i64 a), .dv (.int .i64 1)] [.obj (rOb n rr)] fun r m => r = .dv (.int .i64 0) ∧ m = [.obj (rOb n rr)] := hw.mono fun r m ⟨⟨e, h1, _, he⟩, hm⟩ => ⟨by rw [he, h1 (by omega)], hm⟩
    obtain ⟨a0, a1⟩ := ha
    obtain ⟨x, hx⟩ : ∃ x, x = rr a.toNat := ⟨_, rfl⟩
    refine CallOK.mono (Q := fun r m => r = .tup [.dv (.int .i64 x), .dv (.int .i64 0)] ∧ m = [.obj (rOb n rr)]) ?_ fun r m ⟨h, hm⟩ => ⟨⟨x, 0, fun _ => ⟨rfl, hx⟩, fun h => absurd ⟨a0, a1⟩ h, h⟩, hm⟩
    refine fn_walkv mixed fn_sram_Ram_Load Ent.opn1 fun bin cmp un conv bnot beq band sel isel ofN toN inb nz nneg lt le room' slb add sub sbin scmp slen sget ssub addk pc pb pi pf ps mkok min_ ig aeq P hP hA hF Q hQ => ?_
    cbv
    repeat' first
      | ((refine call_inl hP mixed hA code_sram_Ram_wrong fn_sram_Ram_wrong ?_); cbv)
      | (refine Chk.mk trivial ?_; cbv)
      | (refine bc_true (by first | assumption | (simp (disch := omega) only [hF, natc, w64_in, shs]; first | done | assumption | omega | (simp only [natc] at *; omega))) ?_; cbv)
      | (refine bc_false (by first | assumption | (simp (disch := omega) only [hF, natc, w64_in, shs]; first | done | assumption | omega | (simp only [natc] at *; omega))) ?_; cbv)
      | (refine bc_split (fun h => ?_) (fun h => ?_) <;> (try simp (disch := omega) only [hF, natc, w64_in, shs] at h) <;> cbv)
      | (refine IdxVC.mk (by simp (disch := omega) only [hF, natc, w64_in, shs]; first | done | omega | (simp only [natc] at *; omega)) (fun kx hk hk2 => ?_); simp (disch := omega) only [hF, natc, w64_in, shs] at hk; (try obtain rfl : kx = 0 := hk); cbv)
      | (refine Chk.mk (by simp (disch := omega) only [maxN, hF, natc, w64_in, shs]; first | done | assumption | omega | (simp only [natc] at *; omega)) ?_; cbv)
      | (intro (hmx : _ ≤ maxN); replace hmx : _ ≤ 140737488355328 := hmx; cbv)
      | (intro _; cbv)
    · exfalso; clear hF hA hP; simp only [natc] at a1 h; rw [w64_in (by omega)] at h; omega
    · subst hQ; subst hk; subst hx
      exact leaf_obj (lmem := rmem n rr) [1] rfl rfl ⟨⟨rfl, trivial⟩, ⟨rfl, rfl, fun _ _ _ _ => rfl⟩, trivial⟩ rfl rfl ⟨rfl, rfl⟩
  · have hw : CallOK (O := Ob) PR n_sram_Ram_wrong [.ptr 0 0, .dv (.int .i64 a), .dv (.int .i64 1)] [.obj (rOb n rr)] fun r m => r = .dv (.int .i64 4) ∧ m = [.obj (rOb n rr)] := hw.mono fun r m ⟨⟨e, _, h4, he⟩, hm⟩ => ⟨by rw [he, h4 (by omega)], hm⟩
    refine CallOK.mono (Q := fun r m => r = .tup [.dv (.int .i64 0), .dv (.int .i64 4)] ∧ m = [.obj (rOb n rr)]) ?_ fun r m ⟨h, hm⟩ => ⟨⟨0, 4, fun h => absurd h ha, fun _ => ⟨rfl, rfl⟩, h⟩, hm⟩
    refine fn_walkv mixed fn_sram_Ram_Load (Ent.refl _ _) fun bin cmp un conv bnot beq band sel isel ofN toN inb nz nneg lt le room' slb add sub sbin scmp slen sget ssub addk pc pb pi pf ps mkok min_ ig aeq P hP hA hF Q hQ => ?_
    cbv
    repeat' first
      | (refine call_at hP [0] code_sram_Ram_wrong (hw) rfl ?_ ?_ ?_; (focus ((repeat' (first | exact trivial | exact rfl | (intro _ _ _ _; exact rfl) | refine And.intro ?_ ?_)); done)); (focus (cbv; (try simp); done)); rintro _ _ ⟨rfl, rfl⟩ _; cbv)
      | (refine Chk.mk trivial ?_; cbv)
      | (refine bc_true (by first | assumption | (simp (disch := omega) only [hF, natc, w64_in, shs]; first | done | assumption | omega | (simp only [natc] at *; omega))) ?_; cbv)
      | (refine bc_false (by first | assumption | (simp (disch := omega) only [hF, natc, w64_in, shs]; first | done | assumption | omega | (simp only [natc] at *; omega))) ?_; cbv)
      | (refine bc_split (fun h => ?_) (fun h => ?_) <;> (try simp (disch := omega) only [hF, natc, w64_in, shs] at h) <;> cbv)
      | (refine IdxVC.mk (by simp (disch := omega) only [hF, natc, w64_in, shs]; first | done | omega | (simp only [natc] at *; omega)) (fun kx hk hk2 => ?_); simp (disch := omega) only [hF, natc, w64_in, shs] at hk; (try obtain rfl : kx = 0 := hk); cbv)
      | (refine Chk.mk (by simp (disch := omega) only [maxN, hF, natc, w64_in, shs]; first | done | assumption | omega | (simp only [natc] at *; omega)) ?_; cbv)
      | (intro (hmx : _ ≤ maxN); replace hmx : _ ≤ 140737488355328 := hmx; cbv)
      | (intro _; cbv)
    subst hQ
    exact ⟨.tup [.dv (.int .i64 0), .dv (.int .i64 4)], [.obj (rOb n rr)], Ent.refl _ _, rfl, rfl⟩

end Go.Proofs.Ytiaceoomiflgcaa

end

section
namespace Go.Proofs.Ytiaceoomiflgcaa
open Go.V
set_option linter.unusedVariables false
set_option linter.unusedSimpArgs false
set_option maxRecDepth 100000
set_option maxHeartbeats 8000000

theorem ok_rFill (n : Nat) (rr : Nat → Int) (a c : Int) (hn : n ≤ 65536) (ha : 0 ≤ a ∧ a < n) (hc : 0 ≤ c ∧ c ≤ 65535) : CallOK (O := Ob) PR n_sram_Ram_Fill [.ptr 0 0, .dv (.int .i64 a), .dv (.int .i64 1), .dv (.int .i64 c)] [.obj (rOb n rr)]
    fun r m => r = .dv (.int .i64 0) ∧ m = [.obj (rOb n fun i => if (i : Int) = a then c else rr i)] := by
  obtain ⟨a0, a1⟩ := ha
  obtain ⟨c0, c1⟩ := hc
  have a3 : a ≤ 65536 := by omega
  obtain ⟨W, hW⟩ : ∃ W : Nat → Nat → Int, W = fun (i x : Nat) => if (x : Int) = a ∧ 0 < i then c else rr x := ⟨_, rfl⟩
  have hW0 : ∀ x, W 0 x = rr x := fun x => by rw [hW]; simp
  have hW1 : (fun i : Nat => if (i : Int) = a then c else rr i) = W 1 := by rw [hW]; funext x; simp
  rw [hW1]
  refine fn_walkv mixed fn_sram_Ram_Fill Ent.opn1 fun bin cmp un conv bnot beq band sel isel ofN toN inb nz nneg lt le room' slb add sub sbin scmp slen sget ssub addk pc pb pi pf ps mkok min_ ig aeq P hP hA hF Q hQ => ?_
  cbv
  repeat' first
    | ((refine call_inl hP mixed hA code_sram_Ram_wrong fn_sram_Ram_wrong ?_); cbv)
    | (refine Chk.mk trivial ?_; cbv)
    | (refine bc_true (by first | assumption | (simp (disch := omega) only [hF, natc, w64_in, shs]; first | done | assumption | omega | (simp only [natc] at *; omega))) ?_; cbv)
    | (refine bc_false (by first | assumption | (simp (disch := omega) only [hF, natc, w64_in, shs]; first | done | assumption | omega | (simp only [natc] at *; omega))) ?_; cbv)
    | (refine bc_split (fun h => ?_) (fun h => ?_) <;> (try simp (disch := omega) only [hF, natc, w64_in, shs] at h) <;> cbv)
    | (refine IdxVC.mk (by simp (disch := omega) only [hF, natc, w64_in, shs]; first | done | omega | (simp only [natc] at *; omega)) (fun kx hk hk2 => ?_); simp (disch := omega) only [hF, natc, w64_in, shs] at hk; (try obtain rfl : kx = 0 := hk); cbv)
    | (refine Chk.mk (by simp (disch := omega) only [maxN, hF, natc, w64_in, shs]; first | done | assumption | omega | (simp only [natc] at *; omega)) ?_; cbv)
    | (intro (hmx : _ ≤ maxN); replace hmx : _ ≤ 140737488355328 := hmx; cbv)
    | (intro _; cbv)
  refine loop_up mixed hP hA (1) (fun i => True) [10, 25, 26, 27, 28, 29, 30, 31, 32, 33, 34, 35, 36, 37] (fun i => [(25, .dv (.int .i64 (ofN i)))]) (fun i => [.blk [.one (.vec 1)], .vec n 1 (fun x _ => .dv (.int .i64 (W i x)))]) (trivial) ?_ fun Nx i hN hi hp => ?_
  · refine Ent.ren [0, 1] rfl rfl ⟨⟨rfl, trivial⟩, ⟨rfl, rfl, fun x f hx hf => ?_⟩, trivial⟩ (by cbv; simp [hF])
    show VLe _ (.dv (.int .i64 (rr x))) (.dv (.int .i64 (W 0 x)))
    rw [hW0]; rfl
  cbv
  rcases (by omega : i = 0 ∨ i = 1) with rfl | rfl
  · have hs : bin .add .i64 a (ofN 0) = a := by simp (disch := omega) only [hF, natc, w64_in]; omega
    cbv
    repeat' first
      | ((rw [hs]); cbv)
      | (refine Chk.mk trivial ?_; cbv)
      | (refine bc_true (by first | assumption | (simp (disch := omega) only [hF, natc, w64_in, shs]; first | done | assumption | omega | (simp only [natc] at *; omega))) ?_; cbv)
      | (refine bc_false (by first | assumption | (simp (disch := omega) only [hF, natc, w64_in, shs]; first | done | assumption | omega | (simp only [natc] at *; omega))) ?_; cbv)
      | (refine bc_split (fun h => ?_) (fun h => ?_) <;> (try simp (disch := omega) only [hF, natc, w64_in, shs] at h) <;> cbv)
      | (refine IdxVC.mk (by simp (disch := omega) only [hF, natc, w64_in, shs]; first | done | omega | (simp only [natc] at *; omega)) (fun kx hk hk2 => ?_); simp (disch := omega) only [hF, natc, w64_in, shs] at hk; (try obtain rfl : kx = 0 := hk); cbv)
      | (refine Chk.mk (by simp (disch := omega) only [maxN, hF, natc, w64_in, shs]; first | done | assumption | omega | (simp only [natc] at *; omega)) ?_; cbv)
      | (intro (hmx : _ ≤ maxN); replace hmx : _ ≤ 140737488355328 := hmx; cbv)
      | (intro _; cbv)
    refine hN _ (by omega) trivial (Ent.ren [0, 1] rfl rfl ⟨⟨rfl, trivial⟩, ⟨rfl, rfl, fun x f hx hf => ?_⟩, trivial⟩ (by cbv; simp (disch := omega) [hF, natc, w64_in]))
    obtain rfl : f = 0 := by omega
    show VLe _ (updRow (fun x _ => .dv (.int .i64 (W 0 x))) kx 0 [.dv (.int .i64 c)] x 0) (.dv (.int .i64 (W (0 + 1) x)))
    have e1 : W (0 + 1) x = if (x : Int) = a then c else rr x := by rw [hW]; simp
    by_cases hxk : x = kx
    · have e : updRow (fun x _ => SV.dv (.int .i64 (W 0 x))) kx 0 [.dv (.int .i64 c)] x 0 = .dv (.int .i64 c) := by rw [hxk]; simp [updRow, lget]
      rw [e, e1, if_pos (by omega)]; rfl
    · have e : updRow (fun x _ => SV.dv (.int .i64 (W 0 x))) kx 0 [.dv (.int .i64 c)] x 0 = .dv (.int .i64 (W 0 x)) := by simp [updRow, hxk]
      rw [e, e1, if_neg (by omega), hW0]; rfl
  · cbv
    repeat' first
      | (refine Chk.mk trivial ?_; cbv)
      | (refine bc_true (by first | assumption | (simp (disch := omega) only [hF, natc, w64_in, shs]; first | done | assumption | omega | (simp only [natc] at *; omega))) ?_; cbv)
      | (refine bc_false (by first | assumption | (simp (disch := omega) only [hF, natc, w64_in, shs]; first | done | assumption | omega | (simp only [natc] at *; omega))) ?_; cbv)
      | (refine bc_split (fun h => ?_) (fun h => ?_) <;> (try simp (disch := omega) only [hF, natc, w64_in, shs] at h) <;> cbv)
      | (refine IdxVC.mk (by simp (disch := omega) only [hF, natc, w64_in, shs]; first | done | omega | (simp only [natc] at *; omega)) (fun kx hk hk2 => ?_); simp (disch := omega) only [hF, natc, w64_in, shs] at hk; (try obtain rfl : kx = 0 := hk); cbv)
      | (refine Chk.mk (by simp (disch := omega) only [maxN, hF, natc, w64_in, shs]; first | done | assumption | omega | (simp only [natc] at *; omega)) ?_; cbv)
      | (intro (hmx : _ ≤ maxN); replace hmx : _ ≤ 140737488355328 := hmx; cbv)
      | (intro _; cbv)
    subst hQ
    exact leaf_obj (lmem := rmem n (W 1)) [1] rfl rfl ⟨⟨rfl, trivial⟩, ⟨rfl, rfl, fun _ _ _ _ => rfl⟩, trivial⟩ rfl rfl ⟨rfl, rfl⟩

theorem ok_rStore (n : Nat) (rr : Nat → Int) (a c : Int) (hn : n ≤ 65536) (ha : 0 ≤ a ∧ a < n) (hc : 0 ≤ c ∧ c ≤ 65535) : CallOK (O := Ob) PR n_sram_Ram_Store [.ptr 0 0, .dv (.int .i64 a), .dv (.int .i64 c)] [.obj (rOb n rr)]
    fun r m => r = .dv (.int .i64 0) ∧ m = [.obj (rOb n fun i => if (i : Int) = a then c else rr i)] := by
  have hf := ok_rFill n rr a c hn ha hc
  generalize rOb n rr = O1 at hf
  generalize rOb n (fun i => if (i : Int) = a then c else rr i) = O2 at hf
  refine fn_walkv mixed fn_sram_Ram_Store (Ent.refl _ _) fun bin cmp un conv bnot beq band sel isel ofN toN inb nz nneg lt le room' slb add sub sbin scmp slen sget ssub addk pc pb pi pf ps mkok min_ ig aeq P hP hA hF Q hQ => ?_
  cbv
  repeat' first
    | (refine call_at hP [0] code_sram_Ram_Fill (hf) rfl ?_ ?_ ?_; (focus ((repeat' (first | exact trivial | exact rfl | (intro _ _ _ _; exact rfl) | refine And.intro ?_ ?_)); done)); (focus (cbv; (try simp); done)); rintro _ _ ⟨rfl, rfl⟩ _; cbv)
    | (refine Chk.mk trivial ?_; cbv)
    | (refine bc_true (by first | assumption | (simp (disch := omega) only [hF, natc, w64_in, shs]; first | done | assumption | omega | (simp only [natc] at *; omega))) ?_; cbv)
    | (refine bc_false (by first | assumption | (simp (disch := omega) only [hF, natc, w64_in, shs]; first | done | assumption | omega | (simp only [natc] at *; omega))) ?_; cbv)
    | (refine bc_split (fun h => ?_) (fun h => ?_) <;> (try simp (disch := omega) only [hF, natc, w64_in, shs] at h) <;> cbv)
    | (refine IdxVC.mk (by simp (disch := omega) only [hF, natc, w64_in, shs]; first | done | omega | (simp only [natc] at *; omega)) (fun kx hk hk2 => ?_); simp (disch := omega) only [hF, natc, w64_in, shs] at hk; (try obtain rfl : kx = 0 := hk); cbv)
    | (refine Chk.mk (by simp (disch := omega) only [maxN, hF, natc, w64_in, shs]; first | done | assumption | omega | (simp only [natc] at *; omega)) ?_; cbv)
    | (intro (hmx : _ ≤ maxN); replace hmx : _ ≤ 140737488355328 := hmx; cbv)
    | (intro _; cbv)
  subst hQ
  exact ⟨.dv (.int .i64 0), [.obj O2], Ent.refl _ _, rfl, rfl⟩

end Go.Proofs.Ytiaceoomiflgcaa

end

section
namespace Go.Proofs.Ytiaceoomiflgcaa
open Go.V
set_option linter.unusedVariables false
set_option linter.unusedSimpArgs false
set_option maxRecDepth 100000
set_option maxHeartbeats 8000000

/-- The parts of a list's stores, as bits. -/
def lre (l : List (Nat × Nat)) (i : Nat) : Nat := flt (l.getD i (0, 0)).1
def lim (l : List (Nat × Nat)) (i : Nat) : Nat := flt (l.getD i (0, 0)).2
def lO (mo : Int) (l : List (Nat × Nat)) : Ob := bOb mo l.length (lre l) (lim l)
/-- All of a list are words. -/
def okL (l : List (Nat × Nat)) : Prop := ∀ x ∈ l, x.1 ≤ 65535 ∧ x.2 ≤ 65535

theorem lNew (mo : Int) (h : 1 ≤ mo ∧ mo ≤ 16) : CallOK (O := Ob) PR n_sbuf_New [.dv (.int .i64 mo)] [] fun r m => r = .ptr 0 0 ∧ m = [.obj (lO mo [])] := ok_bNew mo h _ _

theorem lLen (mo : Int) (l : List (Nat × Nat)) : CallOK (O := Ob) PR n_sbuf_Buffer_Len [.ptr 0 0] [.obj (lO mo l)] fun r m => r = .dv (.int .i64 (l.length : Int)) ∧ m = [.obj (lO mo l)] := ok_bLen mo _ _ _

theorem lCap (mo : Int) (l : List (Nat × Nat)) : CallOK (O := Ob) PR n_sbuf_Buffer_Cap [.ptr 0 0] [.obj (lO mo l)] fun r m => r = .dv (.int .i64 mo) ∧ m = [.obj (lO mo l)] := ok_bCap mo _ _ _

theorem lPut (mo : Int) (l : List (Nat × Nat)) (a b : Nat) (ha : a ≤ 65535) (hb : b ≤ 65535) (hk : (l.length : Int) < mo) (hmo : mo ≤ 16) :
    CallOK (O := Ob) PR n_sbuf_Buffer_Put [.ptr 0 0, .dv (.int .i64 a), .dv (.int .i64 b)] [.obj (lO mo l)] fun r m => r = .dv (.int .i64 0) ∧ m = [.obj (lO mo (l ++ [(a, b)]))] := by
  have e : lO mo (l ++ [(a, b)]) = bOb mo (l.length + 1) (lre (l ++ [(a, b)])) (lim (l ++ [(a, b)])) := by unfold lO; rw [List.length_append]; rfl
  rw [e]
  have hlt : ∀ i, i < l.length → (l ++ [(a, b)]).getD i (0, 0) = l.getD i (0, 0) := fun i hi => by
    rw [List.getD_eq_getElem?_getD, List.getD_eq_getElem?_getD, List.getElem?_append_left hi]
  have heq : (l ++ [(a, b)]).getD l.length (0, 0) = (a, b) := by
    rw [List.getD_eq_getElem?_getD, List.getElem?_append_right (Nat.le_refl _), Nat.sub_self]; rfl
  exact ok_bPut mo l.length _ _ _ _ a b (by omega) (by omega) (flt a) (flt b) rfl rfl hk hmo (fun i hi => by unfold lre; rw [hlt i hi]) (by unfold lre; rw [heq]) (fun i hi => by unfold lim; rw [hlt i hi]) (by unfold lim; rw [heq])

theorem lDrain (mo : Int) (a b : Nat) (l : List (Nat × Nat)) (hl : okL ((a, b) :: l)) :
    CallOK (O := Ob) PR n_sbuf_Buffer_Drain [.ptr 0 0] [.obj (lO mo ((a, b) :: l))] fun r m => r = .tup [.dv (.int .i64 a), .dv (.int .i64 b), .dv (.bool true)] ∧ m = [.obj (lO mo l)] := by
  have h := hl (a, b) (by simp)
  exact ok_bDrain mo (l.length + 1) _ _ a b (by omega) (partsO_flt (a := a) (w := b) (by omega) (by omega))

theorem lDrain0 (mo : Int) : CallOK (O := Ob) PR n_sbuf_Buffer_Drain [.ptr 0 0] [.obj (lO mo [])] fun r m => r = .tup [.dv (.int .i64 0), .dv (.int .i64 0), .dv (.bool false)] ∧ m = [.obj (lO mo [])] := by
  show CallOK (O := Ob) PR n_sbuf_Buffer_Drain [.ptr 0 0] [.obj (bOb mo 0 (lre []) (lim []))] fun r m => r = .tup [.dv (.int .i64 0), .dv (.int .i64 0), .dv (.bool false)] ∧ m = [.obj (bOb mo 0 (lre []) (lim []))]
  have hl := ok_bLen mo 0 (lre []) (lim [])
  generalize bOb mo 0 (lre []) (lim []) = O1 at hl
  refine fn_walkv mixed fn_sbuf_Buffer_Drain (Ent.refl _ _) fun bin cmp un conv bnot beq band sel isel ofN toN inb nz nneg lt le room' slb add sub sbin scmp slen sget ssub addk pc pb pi pf ps mkok min_ ig aeq P hP hA hF Q hQ => ?_
  cbv
  repeat' first
    | (refine call_at hP [0] code_sbuf_Buffer_Len (hl) rfl ?_ ?_ ?_; (focus ((repeat' (first | exact trivial | exact rfl | (intro _ _ _ _; exact rfl) | refine And.intro ?_ ?_)); done)); (focus (cbv; (try simp); done)); rintro _ _ ⟨rfl, rfl⟩ _; cbv)
    | (refine Chk.mk trivial ?_; cbv)
    | (refine bc_true (by first | assumption | (simp (disch := omega) only [hF, natc, w64_in, shs]; first | done | assumption | omega | (simp only [natc] at *; omega))) ?_; cbv)
    | (refine bc_false (by first | assumption | (simp (disch := omega) only [hF, natc, w64_in, shs]; first | done | assumption | omega | (simp only [natc] at *; omega))) ?_; cbv)
    | (refine bc_split (fun h => ?_) (fun h => ?_) <;> (try simp (disch := omega) only [hF, natc, w64_in, shs] at h) <;> cbv)
    | (refine IdxVC.mk (by simp (disch := omega) only [hF, natc, w64_in, shs]; first | done | omega | (simp only [natc] at *; omega)) (fun kx hk hk2 => ?_); simp (disch := omega) only [hF, natc, w64_in, shs] at hk; (try obtain rfl : kx = 0 := hk); cbv)
    | (refine Chk.mk (by simp (disch := omega) only [maxN, hF, natc, w64_in, shs]; first | done | assumption | omega | (simp only [natc] at *; omega)) ?_; cbv)
    | (intro (hmx : _ ≤ maxN); replace hmx : _ ≤ 140737488355328 := hmx; cbv)
    | (intro _; cbv)
  subst hQ
  exact ⟨_, [.obj O1], Ent.refl _ _, rfl, rfl⟩

end Go.Proofs.Ytiaceoomiflgcaa

end

section
namespace Go.Proofs.Ytiaceoomiflgcaa
open Go.V
set_option linter.unusedVariables false
set_option linter.unusedSimpArgs false
set_option maxRecDepth 100000
set_option maxHeartbeats 8000000

/-- A bus: its memory, its buffers. -/
structure BusS where
  n : Nat
  r : Nat → Int
  cores : Nat
  mo : Int
  bufs : Nat → List (Nat × Nat)

def BusS.ok (S : BusS) : Prop := S.n ≤ 65536 ∧ S.cores ≤ 8 ∧ 1 ≤ S.mo ∧ S.mo ≤ 16 ∧ (∀ j, j < S.cores → okL (S.bufs j) ∧ (S.bufs j).length ≤ S.mo ∧ ∀ x ∈ S.bufs j, x.1 < S.n) ∧ ∀ i, i < S.n → 0 ≤ S.r i ∧ S.r i ≤ 65535

def BusS.set (S : BusS) (j : Nat) (l : List (Nat × Nat)) : BusS := { S with bufs := fun i => if i = j then l else S.bufs i }
def BusS.put (S : BusS) (a w : Nat) : BusS := { S with r := fun i => if (i : Int) = a then (w : Int) else S.r i }

/-- Its chunks, the buffers at these places; these are out. -/
def busM (S : BusS) (bs : Nat → Nat) (sk : Nat → Bool) : List (Chunk Ob) :=
  [.blk [.one (.ptr 1 0), .one (.vec 2)], .obj (rOb S.n S.r), .vec S.cores 1 (fun j _ => .gp (bs j)), .obj (.fam S.cores bs sk fun j => lO S.mo (S.bufs j))]
def busO (S : BusS) : Ob := .ex fun bs => .mk (busM S bs fun _ => false)

/-- What a drain looks at. -/
def drM (n : Nat) (r : Nat → Int) (cores : Nat) (bs : Nat → Nat) (g : Nat) (L : Ob) : List (Chunk Ob) :=
  [.blk [.one (.ptr 1 0), .one (.vec 2)], .obj (rOb n r), .vec cores 1 (fun j _ => .gp (bs j)), .obj (.at_ g L)]

/-- A memory after one store. -/
def rput (r : Nat → Int) (a b : Nat) (i : Nat) : Int := if (i : Int) = a then (b : Int) else r i

/-- The first of a buffer's stores goes into the memory. -/
theorem ok_drain1 (n : Nat) (r : Nat → Int) (mo : Int) (cores : Nat) (bs : Nat → Nat) (g a b : Nat) (l : List (Nat × Nat)) (hn : n ≤ 65536) (hl : okL ((a, b) :: l)) (ha : a < n) :
    CallOK (O := Ob) PR n_bus_Bus_drain [.ptr 0 0, .ptr 3 0] (drM n r cores bs g (lO mo ((a, b) :: l)))
      fun v m => v = .dv (.bool true) ∧ m = drM n (rput r a b) cores bs g (lO mo l) := by
  have hd := (lDrain mo a b l hl).atx g
  have hs := ok_rStore n r a b hn (by omega) (by have := hl (a, b) (by simp); omega)
  rw [show (fun i : Nat => if (i : Int) = a then (b : Int) else r i) = rput r a b from rfl] at hs
  unfold drM
  generalize rOb n r = O1 at hs
  generalize rOb n (rput r a b) = O2 at hs
  generalize lO mo ((a, b) :: l) = L1 at hd
  generalize lO mo l = L2 at hd
  refine fn_walkv mixed fn_bus_Bus_drain (Ent.refl _ _) fun bin cmp un conv bnot beq band sel isel ofN toN inb nz nneg lt le room' slb add sub sbin scmp slen sget ssub addk pc pb pi pf ps mkok min_ ig aeq P hP hA hF Q hQ => ?_
  cbv
  repeat' first
    | (refine call_at hP [3] code_sbuf_Buffer_Drain (hd) rfl ?_ ?_ ?_; (focus ((repeat' (first | exact trivial | exact rfl | (intro _ _ _ _; exact rfl) | refine And.intro ?_ ?_)); done)); (focus (cbv; (try simp); done)); rintro _ _ ⟨rfl, rfl⟩ _; cbv)
    | (refine call_at hP [1] code_sram_Ram_Store (hs) rfl ?_ ?_ ?_; (focus ((repeat' (first | exact trivial | exact rfl | (intro _ _ _ _; exact rfl) | refine And.intro ?_ ?_)); done)); (focus (cbv; (try simp); done)); rintro _ _ ⟨rfl, rfl⟩ _; cbv)
    | (refine Chk.mk trivial ?_; cbv)
    | (refine bc_true (by first | assumption | (simp (disch := omega) only [hF, natc, w64_in, shs]; first | done | assumption | omega | (simp only [natc] at *; omega))) ?_; cbv)
    | (refine bc_false (by first | assumption | (simp (disch := omega) only [hF, natc, w64_in, shs]; first | done | assumption | omega | (simp only [natc] at *; omega))) ?_; cbv)
    | (refine bc_split (fun h => ?_) (fun h => ?_) <;> (try simp (disch := omega) only [hF, natc, w64_in, shs] at h) <;> cbv)
    | (refine IdxVC.mk (by simp (disch := omega) only [hF, natc, w64_in, shs]; first | done | omega | (simp only [natc] at *; omega)) (fun kx hk hk2 => ?_); simp (disch := omega) only [hF, natc, w64_in, shs] at hk; (try obtain rfl : kx = 0 := hk); cbv)
    | (refine Chk.mk (by simp (disch := omega) only [maxN, hF, natc, w64_in, shs]; first | done | assumption | omega | (simp only [natc] at *; omega)) ?_; cbv)
    | (intro (hmx : _ ≤ maxN); replace hmx : _ ≤ 140737488355328 := hmx; cbv)
    | (intro _; cbv)
  subst hQ
  exact ⟨.dv (.bool true), [.blk [.one (.ptr 1 0), .one (.vec 2)], .obj O2, .vec cores 1 (fun j _ => .gp (bs j)), .obj (.at_ g L2)], Ent.refl _ _, rfl, rfl⟩

theorem ok_drain0 (n : Nat) (r : Nat → Int) (mo : Int) (cores : Nat) (bs : Nat → Nat) (g : Nat) :
    CallOK (O := Ob) PR n_bus_Bus_drain [.ptr 0 0, .ptr 3 0] (drM n r cores bs g (lO mo [])) fun v m => v = .dv (.bool false) ∧ m = drM n r cores bs g (lO mo []) := by
  have hd := (lDrain0 mo).atx g
  unfold drM
  generalize rOb n r = O1
  generalize lO mo [] = L1 at hd
  refine fn_walkv mixed fn_bus_Bus_drain (Ent.refl _ _) fun bin cmp un conv bnot beq band sel isel ofN toN inb nz nneg lt le room' slb add sub sbin scmp slen sget ssub addk pc pb pi pf ps mkok min_ ig aeq P hP hA hF Q hQ => ?_
  cbv
  repeat' first
    | (refine call_at hP [3] code_sbuf_Buffer_Drain (hd) rfl ?_ ?_ ?_; (focus ((repeat' (first | exact trivial | exact rfl | (intro _ _ _ _; exact rfl) | refine And.intro ?_ ?_)); done)); (focus (cbv; (try simp); done)); rintro _ _ ⟨rfl, rfl⟩ _; cbv)
    | (refine Chk.mk trivial ?_; cbv)
    | (refine bc_true (by first | assumption | (simp (disch := omega) only [hF, natc, w64_in, shs]; first | done | assumption | omega | (simp only [natc] at *; omega))) ?_; cbv)
    | (refine bc_false (by first | assumption | (simp (disch := omega) only [hF, natc, w64_in, shs]; first | done | assumption | omega | (simp only [natc] at *; omega))) ?_; cbv)
    | (refine bc_split (fun h => ?_) (fun h => ?_) <;> (try simp (disch := omega) only [hF, natc, w64_in, shs] at h) <;> cbv)
    | (refine IdxVC.mk (by simp (disch := omega) only [hF, natc, w64_in, shs]; first | done | omega | (simp only [natc] at *; omega)) (fun kx hk hk2 => ?_); simp (disch := omega) only [hF, natc, w64_in, shs] at hk; (try obtain rfl : kx = 0 := hk); cbv)
    | (refine Chk.mk (by simp (disch := omega) only [maxN, hF, natc, w64_in, shs]; first | done | assumption | omega | (simp only [natc] at *; omega)) ?_; cbv)
    | (intro (hmx : _ ≤ maxN); replace hmx : _ ≤ 140737488355328 := hmx; cbv)
    | (intro _; cbv)
  subst hQ
  exact ⟨.dv (.bool false), [.blk [.one (.ptr 1 0), .one (.vec 2)], .obj O1, .vec cores 1 (fun j _ => .gp (bs j)), .obj (.at_ g L1)], Ent.refl _ _, rfl, rfl⟩

/-- Whether there is a first store; the memory and the buffer then. -/
def has : List (Nat × Nat) → Bool
  | [] => false
  | _ :: _ => true
def rput1 (r : Nat → Int) : List (Nat × Nat) → Nat → Int
  | [] => r
  | x :: _ => rput r x.1 x.2

theorem ok_drain (n : Nat) (r : Nat → Int) (mo : Int) (cores : Nat) (bs : Nat → Nat) (g : Nat) (l : List (Nat × Nat)) (hn : n ≤ 65536) (hl : okL l) (ha : ∀ x ∈ l, x.1 < n) :
    CallOK (O := Ob) PR n_bus_Bus_drain [.ptr 0 0, .ptr 3 0] (drM n r cores bs g (lO mo l)) fun v m => v = .dv (.bool (has l)) ∧ m = drM n (rput1 r l) cores bs g (lO mo l.tail) := by
  cases l with
  | nil => exact ok_drain0 n r mo cores bs g
  | cons x l => exact ok_drain1 n r mo cores bs g x.1 x.2 l hn hl (ha x (by simp))

/-- The chunks of a bus: any memory, any buffers. -/
def busR (O : Ob) (cores : Nat) (bs : Nat → Nat) (bo : Nat → Ob) : List (Chunk Ob) :=
  [.blk [.one (.ptr 1 0), .one (.vec 2)], .obj O, .vec cores 1 (fun j _ => .gp (bs j)), .obj (.fam cores bs (fun _ => false) bo)]
def busX (O : Ob) (cores : Nat) (bo : Nat → Ob) : Ob := .ex fun bs => .mk (busR O cores bs bo)
def busP (O : Ob) (cores : Nat) (bs : Nat → Nat) (g : Nat) (L : Ob) : List (Chunk Ob) := [.blk [.one (.ptr 1 0), .one (.vec 2)], .obj O, .vec cores 1 (fun j _ => .gp (bs j)), .obj (.at_ g L)]

end Go.Proofs.Ytiaceoomiflgcaa

end

section
namespace Go.Proofs.Ytiaceoomiflgcaa
open Go.V
set_option linter.unusedVariables false
set_option linter.unusedSimpArgs false
set_option maxRecDepth 100000
set_option maxHeartbeats 8000000

theorem fence_w (O L : Nat → Ob) (N : Nat) (hN16 : N ≤ 16) (cores : Nat) (bs : Nat → Nat) (g : Nat)
    (hd : ∀ i, i < N → CallOK (O := Ob) PR n_bus_Bus_drain [.ptr 0 0, .ptr 3 0] (busP (O i) cores bs g (L i)) fun v m => v = .dv (.bool true) ∧ m = busP (O (i + 1)) cores bs g (L (i + 1)))
    (hd0 : CallOK (O := Ob) PR n_bus_Bus_drain [.ptr 0 0, .ptr 3 0] (busP (O N) cores bs g (L N)) fun v m => v = .dv (.bool false) ∧ m = busP (O N) cores bs g (L N)) :
    CallOK (O := Ob) PR n_bus_Bus_fence [.ptr 0 0, .ptr 3 0] (busP (O 0) cores bs g (L 0)) fun v m => v = .dv (.int .i64 N) ∧ m = busP (O N) cores bs g (L N) := by
  unfold busP at *
  refine fn_walkv mixed fn_bus_Bus_fence (Ent.refl _ _) fun bin cmp un conv bnot beq band sel isel ofN toN inb nz nneg lt le room' slb add sub sbin scmp slen sget ssub addk pc pb pi pf ps mkok min_ ig aeq P hP hA hF Q hQ => ?_
  cbv
  repeat' first
    | (refine Chk.mk trivial ?_; cbv)
    | (refine bc_true (by first | assumption | (simp (disch := omega) only [hF, natc, w64_in, shs]; first | done | assumption | omega | (simp only [natc] at *; omega))) ?_; cbv)
    | (refine bc_false (by first | assumption | (simp (disch := omega) only [hF, natc, w64_in, shs]; first | done | assumption | omega | (simp only [natc] at *; omega))) ?_; cbv)
    | (refine bc_split (fun h => ?_) (fun h => ?_) <;> (try simp (disch := omega) only [hF, natc, w64_in, shs] at h) <;> cbv)
    | (refine IdxVC.mk (by simp (disch := omega) only [hF, natc, w64_in, shs]; first | done | omega | (simp only [natc] at *; omega)) (fun kx hk hk2 => ?_); simp (disch := omega) only [hF, natc, w64_in, shs] at hk; (try obtain rfl : kx = 0 := hk); cbv)
    | (refine Chk.mk (by simp (disch := omega) only [maxN, hF, natc, w64_in, shs]; first | done | assumption | omega | (simp only [natc] at *; omega)) ?_; cbv)
    | (intro (hmx : _ ≤ maxN); replace hmx : _ ≤ 140737488355328 := hmx; cbv)
    | (intro _; cbv)
  refine loop_up mixed hP hA (N) (fun i => True) [5, 6, 7, 8, 9, 10] (fun i => [(5, .dv (.int .i64 (ofN i)))]) (fun i => [.blk [.one (.ptr 1 0), .one (.vec 2)], .obj (O i), .vec cores 1 (fun j _ => .gp (bs j)), .obj (.at_ g (L i))]) (trivial) ?_ fun Nx i hN hi hp => ?_
  · exact Ent.env (by cbv; simp [hF])
  cbv
  by_cases hlt : i < N
  · have hd := hd i hlt
    cbv
    repeat' first
      | (refine call_at hP [0, 1, 2, 3] code_bus_Bus_drain (hd) rfl ?_ ?_ ?_; (focus ((repeat' (first | exact trivial | exact rfl | (intro _ _ _ _; exact rfl) | refine And.intro ?_ ?_)); done)); (focus (cbv; (try simp); done)); rintro _ _ ⟨rfl, rfl⟩ _; cbv)
      | (refine Chk.mk trivial ?_; cbv)
      | (refine bc_true (by first | assumption | (simp (disch := omega) only [hF, natc, w64_in, shs]; first | done | assumption | omega | (simp only [natc] at *; omega))) ?_; cbv)
      | (refine bc_false (by first | assumption | (simp (disch := omega) only [hF, natc, w64_in, shs]; first | done | assumption | omega | (simp only [natc] at *; omega))) ?_; cbv)
      | (refine bc_split (fun h => ?_) (fun h => ?_) <;> (try simp (disch := omega) only [hF, natc, w64_in, shs] at h) <;> cbv)
      | (refine IdxVC.mk (by simp (disch := omega) only [hF, natc, w64_in, shs]; first | done | omega | (simp only [natc] at *; omega)) (fun kx hk hk2 => ?_); simp (disch := omega) only [hF, natc, w64_in, shs] at hk; (try obtain rfl : kx = 0 := hk); cbv)
      | (refine Chk.mk (by simp (disch := omega) only [maxN, hF, natc, w64_in, shs]; first | done | assumption | omega | (simp only [natc] at *; omega)) ?_; cbv)
      | (intro (hmx : _ ≤ maxN); replace hmx : _ ≤ 140737488355328 := hmx; cbv)
      | (intro _; cbv)
    exact hN _ hlt trivial (Ent.env (by cbv; simp (disch := omega) [hF, natc, w64_in]))
  · obtain rfl : i = N := by omega
    cbv
    repeat' first
      | (refine call_at hP [0, 1, 2, 3] code_bus_Bus_drain (hd0) rfl ?_ ?_ ?_; (focus ((repeat' (first | exact trivial | exact rfl | (intro _ _ _ _; exact rfl) | refine And.intro ?_ ?_)); done)); (focus (cbv; (try simp); done)); rintro _ _ ⟨rfl, rfl⟩ _; cbv)
      | (refine Chk.mk trivial ?_; cbv)
      | (refine bc_true (by first | assumption | (simp (disch := omega) only [hF, natc, w64_in, shs]; first | done | assumption | omega | (simp only [natc] at *; omega))) ?_; cbv)
      | (refine bc_false (by first | assumption | (simp (disch := omega) only [hF, natc, w64_in, shs]; first | done | assumption | omega | (simp only [natc] at *; omega))) ?_; cbv)
      | (refine bc_split (fun h => ?_) (fun h => ?_) <;> (try simp (disch := omega) only [hF, natc, w64_in, shs] at h) <;> cbv)
      | (refine IdxVC.mk (by simp (disch := omega) only [hF, natc, w64_in, shs]; first | done | omega | (simp only [natc] at *; omega)) (fun kx hk hk2 => ?_); simp (disch := omega) only [hF, natc, w64_in, shs] at hk; (try obtain rfl : kx = 0 := hk); cbv)
      | (refine Chk.mk (by simp (disch := omega) only [maxN, hF, natc, w64_in, shs]; first | done | assumption | omega | (simp only [natc] at *; omega)) ?_; cbv)
      | (intro (hmx : _ ≤ maxN); replace hmx : _ ≤ 140737488355328 := hmx; cbv)
      | (intro _; cbv)
    have e : ofN i = (i : Int) := by simp only [hF]
    rw [e]
    subst hQ
    exact ⟨.dv (.int .i64 i), [.blk [.one (.ptr 1 0), .one (.vec 2)], .obj (O i), .vec cores 1 (fun j _ => .gp (bs j)), .obj (.at_ g (L i))], Ent.refl _ _, rfl, rfl⟩

theorem busFence_w (O1 O2 L2 : Ob) (bo : Nat → Ob) (cores : Nat) (bs : Nat → Nat) (z : Int) (j : Nat) (hj : j < cores) (h8 : cores ≤ 8)
    (hd : CallOK (O := Ob) PR n_bus_Bus_fence [.ptr 0 0, .ptr 3 0] (busP O1 cores bs (bs j) (bo j)) fun v m => v = .dv (.int .i64 z) ∧ m = busP O2 cores bs (bs j) L2) :
    CallOK (O := Ob) PR n_bus_Bus_Fence [.ptr 0 0, .dv (.int .i64 j)] [.obj (.mk (busR O1 cores bs bo))] fun v m => v = .tup [.dv (.int .i64 z), .dv (.int .i64 0)] ∧ m = [.obj (busX O2 cores (updO bo j L2))] := by
  unfold busP at hd
  unfold busR
  refine fn_walkv mixed fn_bus_Bus_Fence Ent.opn1 fun bin cmp un conv bnot beq band sel isel ofN toN inb nz nneg lt le room' slb add sub sbin scmp slen sget ssub addk pc pb pi pf ps mkok min_ ig aeq P hP hA hF Q hQ => ?_
  cbv
  repeat' first
    | ((refine call_inl hP mixed hA code_bus_Bus_ask fn_bus_Bus_ask ?_); cbv)
    | ((refine call_inl hP mixed hA code_bus_Bus_Fence_c1 fn_bus_Bus_Fence_c1 ?_); cbv)
    | (refine Chk.mk trivial ?_; cbv)
    | (refine bc_true (by first | assumption | (simp (disch := omega) only [hF, natc, w64_in, shs]; first | done | assumption | omega | (simp only [natc] at *; omega))) ?_; cbv)
    | (refine bc_false (by first | assumption | (simp (disch := omega) only [hF, natc, w64_in, shs]; first | done | assumption | omega | (simp only [natc] at *; omega))) ?_; cbv)
    | (refine bc_split (fun h => ?_) (fun h => ?_) <;> (try simp (disch := omega) only [hF, natc, w64_in, shs] at h) <;> cbv)
    | (refine IdxVC.mk (by simp (disch := omega) only [hF, natc, w64_in, shs]; first | done | omega | (simp only [natc] at *; omega)) (fun kx hk hk2 => ?_); simp (disch := omega) only [hF, natc, w64_in, shs] at hk; (try obtain rfl : kx = 0 := hk); cbv)
    | (refine Chk.mk (by simp (disch := omega) only [maxN, hF, natc, w64_in, shs]; first | done | assumption | omega | (simp only [natc] at *; omega)) ?_; cbv)
    | (intro (hmx : _ ≤ maxN); replace hmx : _ ≤ 140737488355328 := hmx; cbv)
    | (intro _; cbv)
  subst hk
  refine call_fam 3 kx [1] rfl hk2 rfl ⟨rfl, trivial⟩ ?_
  cbv
  repeat' first
    | (refine call_at hP [0, 1, 2, 6] code_bus_Bus_fence (hd) rfl ?_ ?_ ?_; (focus ((repeat' (first | exact trivial | exact rfl | (intro _ _ _ _; exact rfl) | refine And.intro ?_ ?_)); done)); (focus (cbv; (try simp); done)); rintro _ _ ⟨rfl, rfl⟩ _; cbv)
    | (refine Chk.mk trivial ?_; cbv)
    | (refine bc_true (by first | assumption | (simp (disch := omega) only [hF, natc, w64_in, shs]; first | done | assumption | omega | (simp only [natc] at *; omega))) ?_; cbv)
    | (refine bc_false (by first | assumption | (simp (disch := omega) only [hF, natc, w64_in, shs]; first | done | assumption | omega | (simp only [natc] at *; omega))) ?_; cbv)
    | (refine bc_split (fun h => ?_) (fun h => ?_) <;> (try simp (disch := omega) only [hF, natc, w64_in, shs] at h) <;> cbv)
    | (refine IdxVC.mk (by simp (disch := omega) only [hF, natc, w64_in, shs]; first | done | omega | (simp only [natc] at *; omega)) (fun kx hk hk2 => ?_); simp (disch := omega) only [hF, natc, w64_in, shs] at hk; (try obtain rfl : kx = 0 := hk); cbv)
    | (refine Chk.mk (by simp (disch := omega) only [maxN, hF, natc, w64_in, shs]; first | done | assumption | omega | (simp only [natc] at *; omega)) ?_; cbv)
    | (intro (hmx : _ ≤ maxN); replace hmx : _ ≤ 140737488355328 := hmx; cbv)
    | (intro _; cbv)
  subst hQ
  refine ⟨.tup [.dv (.int .i64 z), .dv (.int .i64 0)], [.obj (busX (O2) cores (updO bo kx (L2)))], ?_, rfl, rfl⟩
  refine (Ent.famC 3 6 kx (sk' := fun _ => false) (o' := updO bo kx (L2)) (x := L2) rfl rfl (by decide) hk2 (by simp) (fun i _ => ?_) (fun i _ => rfl)).trans ?_
  · by_cases h : i = kx <;> simp [h]
  refine (Ent.cls1 (env' := [.tup [.dv (.int .i64 z), .dv (.int .i64 0)]]) [1, 2, 3] (busR (O2) cores bs (updO bo kx (L2))) rfl rfl ?_ ?_).trans (Ent.exI (o := fun bs => .mk (busR (O2) cores bs (updO bo kx (L2)))) 0 bs rfl)
  · exact ⟨⟨rfl, rfl, trivial⟩, rfl, ⟨rfl, rfl, fun _ _ _ _ => rfl⟩, rfl, trivial⟩
  · exact ⟨rfl, trivial⟩

end Go.Proofs.Ytiaceoomiflgcaa

end

section
namespace Go.Proofs.Ytiaceoomiflgcaa
open Go.V
set_option linter.unusedVariables false
set_option linter.unusedSimpArgs false
set_option maxRecDepth 100000
set_option maxHeartbeats 8000000

theorem busStore_w1 (O1 L1 L2 : Ob) (bo : Nat → Ob) (cores : Nat) (bs : Nat → Nat) (a w z k mo : Int) (j : Nat) (hj : j < cores) (h8 : cores ≤ 8) (hw : 0 ≤ w ∧ w ≤ 65535) (hne : k ≠ mo) (hb : bo j = L1)
    (hload : CallOK (O := Ob) PR n_sram_Ram_Load [.ptr 0 0, .dv (.int .i64 a)] [.obj O1] fun v m => v = .tup [.dv (.int .i64 z), .dv (.int .i64 0)] ∧ m = [.obj O1])
    (hlen : CallOK (O := Ob) PR n_sbuf_Buffer_Len [.ptr 0 0] [.obj L1] fun v m => v = .dv (.int .i64 k) ∧ m = [.obj L1])
    (hcap : CallOK (O := Ob) PR n_sbuf_Buffer_Cap [.ptr 0 0] [.obj L1] fun v m => v = .dv (.int .i64 mo) ∧ m = [.obj L1])
    (hput : CallOK (O := Ob) PR n_sbuf_Buffer_Put [.ptr 0 0, .dv (.int .i64 a), .dv (.int .i64 w)] [.obj L1] fun v m => v = .dv (.int .i64 0) ∧ m = [.obj L2]) :
    CallOK (O := Ob) PR n_bus_Bus_Store [.ptr 0 0, .dv (.int .i64 j), .dv (.int .i64 a), .dv (.int .i64 w)] [.obj (.mk (busR O1 cores bs bo))] fun v m => v = .dv (.int .i64 0) ∧ m = [.obj (busX O1 cores (updO bo j L2))] := by
  obtain ⟨w0, w1⟩ := hw
  have hlen := hlen.atx (bs j)
  have hcap := hcap.atx (bs j)
  have hput := hput.atx (bs j)
  unfold busR
  refine fn_walkv mixed fn_bus_Bus_Store Ent.opn1 fun bin cmp un conv bnot beq band sel isel ofN toN inb nz nneg lt le room' slb add sub sbin scmp slen sget ssub addk pc pb pi pf ps mkok min_ ig aeq P hP hA hF Q hQ => ?_
  cbv
  repeat' first
    | ((refine call_inl hP mixed hA code_bus_Bus_ask fn_bus_Bus_ask ?_); cbv)
    | (refine Chk.mk trivial ?_; cbv)
    | (refine bc_true (by first | assumption | (simp (disch := omega) only [hF, natc, w64_in, shs]; first | done | assumption | omega | (simp only [natc] at *; omega))) ?_; cbv)
    | (refine bc_false (by first | assumption | (simp (disch := omega) only [hF, natc, w64_in, shs]; first | done | assumption | omega | (simp only [natc] at *; omega))) ?_; cbv)
    | (refine bc_split (fun h => ?_) (fun h => ?_) <;> (try simp (disch := omega) only [hF, natc, w64_in, shs] at h) <;> cbv)
    | (refine IdxVC.mk (by simp (disch := omega) only [hF, natc, w64_in, shs]; first | done | omega | (simp only [natc] at *; omega)) (fun kx hk hk2 => ?_); simp (disch := omega) only [hF, natc, w64_in, shs] at hk; (try obtain rfl : kx = 0 := hk); cbv)
    | (refine Chk.mk (by simp (disch := omega) only [maxN, hF, natc, w64_in, shs]; first | done | assumption | omega | (simp only [natc] at *; omega)) ?_; cbv)
    | (intro (hmx : _ ≤ maxN); replace hmx : _ ≤ 140737488355328 := hmx; cbv)
    | (intro _; cbv)
  subst hk
  refine call_fam 3 kx [0] rfl hk2 rfl ⟨rfl, trivial⟩ ?_
  rw [hb]
  cbv
  repeat' first
    | ((refine call_inl hP mixed hA code_bus_Bus_Store_c1 fn_bus_Bus_Store_c1 ?_); cbv)
    | ((refine call_inl hP mixed hA code_bus_Bus_wrong fn_bus_Bus_wrong ?_); cbv)
    | (refine call_at hP [1] code_sram_Ram_Load (hload) rfl ?_ ?_ ?_; (focus ((repeat' (first | exact trivial | exact rfl | (intro _ _ _ _; exact rfl) | refine And.intro ?_ ?_)); done)); (focus (cbv; (try simp); done)); rintro _ _ ⟨rfl, rfl⟩ _; cbv)
    | (refine call_at hP [7] code_sbuf_Buffer_Len (hlen) rfl ?_ ?_ ?_; (focus ((repeat' (first | exact trivial | exact rfl | (intro _ _ _ _; exact rfl) | refine And.intro ?_ ?_)); done)); (focus (cbv; (try simp); done)); rintro _ _ ⟨rfl, rfl⟩ _; cbv)
    | (refine call_at hP [7] code_sbuf_Buffer_Cap (hcap) rfl ?_ ?_ ?_; (focus ((repeat' (first | exact trivial | exact rfl | (intro _ _ _ _; exact rfl) | refine And.intro ?_ ?_)); done)); (focus (cbv; (try simp); done)); rintro _ _ ⟨rfl, rfl⟩ _; cbv)
    | (refine call_at hP [7] code_sbuf_Buffer_Put (hput) rfl ?_ ?_ ?_; (focus ((repeat' (first | exact trivial | exact rfl | (intro _ _ _ _; exact rfl) | refine And.intro ?_ ?_)); done)); (focus (cbv; (try simp); done)); rintro _ _ ⟨rfl, rfl⟩ _; cbv)
    | (refine Chk.mk trivial ?_; cbv)
    | (refine bc_true (by first | assumption | (simp (disch := omega) only [hF, natc, w64_in, shs]; first | done | assumption | omega | (simp only [natc] at *; omega))) ?_; cbv)
    | (refine bc_false (by first | assumption | (simp (disch := omega) only [hF, natc, w64_in, shs]; first | done | assumption | omega | (simp only [natc] at *; omega))) ?_; cbv)
    | (refine bc_split (fun h => ?_) (fun h => ?_) <;> (try simp (disch := omega) only [hF, natc, w64_in, shs] at h) <;> cbv)
    | (refine IdxVC.mk (by simp (disch := omega) only [hF, natc, w64_in, shs]; first | done | omega | (simp only [natc] at *; omega)) (fun kx hk hk2 => ?_); simp (disch := omega) only [hF, natc, w64_in, shs] at hk; (try obtain rfl : kx = 0 := hk); cbv)
    | (refine Chk.mk (by simp (disch := omega) only [maxN, hF, natc, w64_in, shs]; first | done | assumption | omega | (simp only [natc] at *; omega)) ?_; cbv)
    | (intro (hmx : _ ≤ maxN); replace hmx : _ ≤ 140737488355328 := hmx; cbv)
    | (intro _; cbv)
  subst hQ
  refine ⟨.dv (.int .i64 0), [.obj (busX (O1) cores (updO bo kx (L2)))], ?_, rfl, rfl⟩
  refine (Ent.famC 3 7 kx (sk' := fun _ => false) (o' := updO bo kx (L2)) (x := L2) rfl rfl (by decide) hk2 (by simp) (fun i _ => ?_) (fun i _ => rfl)).trans ?_
  · by_cases h : i = kx <;> simp [h]
  refine (Ent.cls1 (env' := [.dv (.int .i64 0)]) [1, 2, 3] (busR (O1) cores bs (updO bo kx (L2))) rfl rfl ?_ ?_).trans (Ent.exI (o := fun bs => .mk (busR (O1) cores bs (updO bo kx (L2)))) 0 bs rfl)
  · exact ⟨⟨rfl, rfl, trivial⟩, rfl, ⟨rfl, rfl, fun _ _ _ _ => rfl⟩, rfl, trivial⟩
  · exact ⟨rfl, trivial⟩

theorem busStore_w2 (O1 O2 L1 L2 L3 : Ob) (bo : Nat → Ob) (cores : Nat) (bs : Nat → Nat) (a w z k : Int) (b0 : Bool) (j : Nat) (hj : j < cores) (h8 : cores ≤ 8) (hw : 0 ≤ w ∧ w ≤ 65535) (hb : bo j = L1)
    (hload : CallOK (O := Ob) PR n_sram_Ram_Load [.ptr 0 0, .dv (.int .i64 a)] [.obj O1] fun v m => v = .tup [.dv (.int .i64 z), .dv (.int .i64 0)] ∧ m = [.obj O1])
    (hlen : CallOK (O := Ob) PR n_sbuf_Buffer_Len [.ptr 0 0] [.obj L1] fun v m => v = .dv (.int .i64 k) ∧ m = [.obj L1])
    (hcap : CallOK (O := Ob) PR n_sbuf_Buffer_Cap [.ptr 0 0] [.obj L1] fun v m => v = .dv (.int .i64 k) ∧ m = [.obj L1])
    (hd : CallOK (O := Ob) PR n_bus_Bus_drain [.ptr 0 0, .ptr 3 0] (busP O1 cores bs (bs j) L1) fun v m => v = .dv (.bool b0) ∧ m = busP O2 cores bs (bs j) L2)
    (hput : CallOK (O := Ob) PR n_sbuf_Buffer_Put [.ptr 0 0, .dv (.int .i64 a), .dv (.int .i64 w)] [.obj L2] fun v m => v = .dv (.int .i64 0) ∧ m = [.obj L3]) :
    CallOK (O := Ob) PR n_bus_Bus_Store [.ptr 0 0, .dv (.int .i64 j), .dv (.int .i64 a), .dv (.int .i64 w)] [.obj (.mk (busR O1 cores bs bo))] fun v m => v = .dv (.int .i64 0) ∧ m = [.obj (busX O2 cores (updO bo j L3))] := by
  obtain ⟨w0, w1⟩ := hw
  have hlen := hlen.atx (bs j)
  have hcap := hcap.atx (bs j)
  have hput := hput.atx (bs j)
  unfold busP at hd
  unfold busR
  refine fn_walkv mixed fn_bus_Bus_Store Ent.opn1 fun bin cmp un conv bnot beq band sel isel ofN toN inb nz nneg lt le room' slb add sub sbin scmp slen sget ssub addk pc pb pi pf ps mkok min_ ig aeq P hP hA hF Q hQ => ?_
  cbv
  repeat' first
    | ((refine call_inl hP mixed hA code_bus_Bus_ask fn_bus_Bus_ask ?_); cbv)
    | (refine Chk.mk trivial ?_; cbv)
    | (refine bc_true (by first | assumption | (simp (disch := omega) only [hF, natc, w64_in, shs]; first | done | assumption | omega | (simp only [natc] at *; omega))) ?_; cbv)
    | (refine bc_false (by first | assumption | (simp (disch := omega) only [hF, natc, w64_in, shs]; first | done | assumption | omega | (simp only [natc] at *; omega))) ?_; cbv)
    | (refine bc_split (fun h => ?_) (fun h => ?_) <;> (try simp (disch := omega) only [hF, natc, w64_in, shs] at h) <;> cbv)
    | (refine IdxVC.mk (by simp (disch := omega) only [hF, natc, w64_in, shs]; first | done | omega | (simp only [natc] at *; omega)) (fun kx hk hk2 => ?_); simp (disch := omega) only [hF, natc, w64_in, shs] at hk; (try obtain rfl : kx = 0 := hk); cbv)
    | (refine Chk.mk (by simp (disch := omega) only [maxN, hF, natc, w64_in, shs]; first | done | assumption | omega | (simp only [natc] at *; omega)) ?_; cbv)
    | (intro (hmx : _ ≤ maxN); replace hmx : _ ≤ 140737488355328 := hmx; cbv)
    | (intro _; cbv)
  subst hk
  refine call_fam 3 kx [0] rfl hk2 rfl ⟨rfl, trivial⟩ ?_
  rw [hb]
  cbv
  repeat' first
    | ((refine call_inl hP mixed hA code_bus_Bus_Store_c1 fn_bus_Bus_Store_c1 ?_); cbv)
    | ((refine call_inl hP mixed hA code_bus_Bus_wrong fn_bus_Bus_wrong ?_); cbv)
    | (refine call_at hP [1] code_sram_Ram_Load (hload) rfl ?_ ?_ ?_; (focus ((repeat' (first | exact trivial | exact rfl | (intro _ _ _ _; exact rfl) | refine And.intro ?_ ?_)); done)); (focus (cbv; (try simp); done)); rintro _ _ ⟨rfl, rfl⟩ _; cbv)
    | (refine call_at hP [7] code_sbuf_Buffer_Len (hlen) rfl ?_ ?_ ?_; (focus ((repeat' (first | exact trivial | exact rfl | (intro _ _ _ _; exact rfl) | refine And.intro ?_ ?_)); done)); (focus (cbv; (try simp); done)); rintro _ _ ⟨rfl, rfl⟩ _; cbv)
    | (refine call_at hP [7] code_sbuf_Buffer_Cap (hcap) rfl ?_ ?_ ?_; (focus ((repeat' (first | exact trivial | exact rfl | (intro _ _ _ _; exact rfl) | refine And.intro ?_ ?_)); done)); (focus (cbv; (try simp); done)); rintro _ _ ⟨rfl, rfl⟩ _; cbv)
    | (refine call_at hP [0, 1, 2, 7] code_bus_Bus_drain (hd) rfl ?_ ?_ ?_; (focus ((repeat' (first | exact trivial | exact rfl | (intro _ _ _ _; exact rfl) | refine And.intro ?_ ?_)); done)); (focus (cbv; (try simp); done)); rintro _ _ ⟨rfl, rfl⟩ _; cbv)
    | (refine call_at hP [7] code_sbuf_Buffer_Put (hput) rfl ?_ ?_ ?_; (focus ((repeat' (first | exact trivial | exact rfl | (intro _ _ _ _; exact rfl) | refine And.intro ?_ ?_)); done)); (focus (cbv; (try simp); done)); rintro _ _ ⟨rfl, rfl⟩ _; cbv)
    | (refine Chk.mk trivial ?_; cbv)
    | (refine bc_true (by first | assumption | (simp (disch := omega) only [hF, natc, w64_in, shs]; first | done | assumption | omega | (simp only [natc] at *; omega))) ?_; cbv)
    | (refine bc_false (by first | assumption | (simp (disch := omega) only [hF, natc, w64_in, shs]; first | done | assumption | omega | (simp only [natc] at *; omega))) ?_; cbv)
    | (refine bc_split (fun h => ?_) (fun h => ?_) <;> (try simp (disch := omega) only [hF, natc, w64_in, shs] at h) <;> cbv)
    | (refine IdxVC.mk (by simp (disch := omega) only [hF, natc, w64_in, shs]; first | done | omega | (simp only [natc] at *; omega)) (fun kx hk hk2 => ?_); simp (disch := omega) only [hF, natc, w64_in, shs] at hk; (try obtain rfl : kx = 0 := hk); cbv)
    | (refine Chk.mk (by simp (disch := omega) only [maxN, hF, natc, w64_in, shs]; first | done | assumption | omega | (simp only [natc] at *; omega)) ?_; cbv)
    | (intro (hmx : _ ≤ maxN); replace hmx : _ ≤ 140737488355328 := hmx; cbv)
    | (intro _; cbv)
  subst hQ
  refine ⟨.dv (.int .i64 0), [.obj (busX (O2) cores (updO bo kx (L3)))], ?_, rfl, rfl⟩
  refine (Ent.famC 3 7 kx (sk' := fun _ => false) (o' := updO bo kx (L3)) (x := L3) rfl rfl (by decide) hk2 (by simp) (fun i _ => ?_) (fun i _ => rfl)).trans ?_
  · by_cases h : i = kx <;> simp [h]
  refine (Ent.cls1 (env' := [.dv (.int .i64 0)]) [1, 2, 3] (busR (O2) cores bs (updO bo kx (L3))) rfl rfl ?_ ?_).trans (Ent.exI (o := fun bs => .mk (busR (O2) cores bs (updO bo kx (L3)))) 0 bs rfl)
  · exact ⟨⟨rfl, rfl, trivial⟩, rfl, ⟨rfl, rfl, fun _ _ _ _ => rfl⟩, rfl, trivial⟩
  · exact ⟨rfl, trivial⟩

end Go.Proofs.Ytiaceoomiflgcaa

end

section
namespace Go.Proofs.Ytiaceoomiflgcaa
open Go.V
set_option linter.unusedVariables false
set_option linter.unusedSimpArgs false
set_option maxRecDepth 100000
set_option maxHeartbeats 8000000

def fl (x : Nat × Nat) : Nat × Nat := (flt x.1, flt x.2)

theorem rowC_fl (l : List (Nat × Nat)) : ∀ n, n ≤ l.length → rowC (fun i _ => .dv (.cpx .f64 (lre l i) (lim l i))) n = some ((l.take n).map fl)
  | 0, _ => rfl
  | n + 1, h => by
    have e : rowC (fun i _ => .dv (.cpx .f64 (lre l i) (lim l i))) (n + 1) = (match SV.dv (.cpx .f64 (lre l n) (lim l n)), rowC (fun i _ => .dv (.cpx .f64 (lre l i) (lim l i))) n with
      | .dv (.cpx .f64 a b), some l => some (l ++ [(a, b)])
      | _, _ => none) := rfl
    rw [e, rowC_fl l n (by omega)]
    have hn : l[n]? = some l[n] := List.getElem?_eq_getElem (by omega)
    show some ((l.take n).map fl ++ [(lre l n, lim l n)]) = _
    rw [List.take_add_one, hn, List.map_append]
    unfold lre lim
    rw [List.getD_eq_getElem?_getD, hn]
    rfl

theorem cellsO_fl : ∀ (l : List (Nat × Nat)), okL l → cellsO (l.map fl) = some (l.map fun x => some ((x.1 : Int), (x.2 : Int)))
  | [], _ => rfl
  | x :: l, h => by
    have hx := h x (by simp)
    have hp : partsO (fl x) = some (some ((x.1 : Int), (x.2 : Int))) := partsO_flt (a := x.1) (w := x.2) (by omega) (by omega)
    simp only [List.map_cons, cellsO]
    rw [hp, cellsO_fl l fun y hy => h y (by simp [hy])]

/-- The last of a list's stores at an address. -/
def look (a : Nat) : List (Nat × Nat) → Option Nat
  | [] => none
  | x :: r => match look a r with
    | some w => some w
    | none => if x.1 = a then some x.2 else none

theorem findO_fl (a : Nat) : ∀ (l : List (Nat × Nat)), findO (a : Int) (l.map fun x => some ((x.1 : Int), (x.2 : Int))) = (look a l).map fun w => (w : Int)
  | [] => rfl
  | x :: l => by
    simp only [List.map_cons, findO, findO_fl a l, look]
    cases look a l with
    | some w => rfl
    | none =>
      simp only [Option.map_none, hit]
      by_cases h : x.1 = a
      · have h' : (x.1 : Int) = (a : Int) := by omega
        simp [h]
      · have h' : ¬ (x.1 : Int) = (a : Int) := by omega
        simp [h, h']

theorem cell_find (a : Nat) (l : List (Nat × Nat)) (hl : okL l) : CallOK (O := Ob) PR n_cell_Find [.vec 0, .dv (.int .i64 a)] [.vec l.length 1 fun i _ => .dv (.cpx .f64 (lre l i) (lim l i))]
    fun v m => v = .tup [.dv (.int .i64 (((look a l).getD 0 : Nat) : Int)), .dv (.bool (look a l).isSome)] ∧ m = [.vec l.length 1 fun i _ => .dv (.cpx .f64 (lre l i) (lim l i))] := by
  refine findP_ok _ _ _ _ ?_
  have h1 := rowC_fl l l.length (Nat.le_refl _)
  rw [List.take_length] at h1
  simp only [findP, lget, h1, cellsO_fl l hl, findO_fl]
  cases look a l <;> rfl

theorem lFind (mo : Int) (a : Nat) (l : List (Nat × Nat)) (hl : okL l) : CallOK (O := Ob) PR n_sbuf_Buffer_Find [.ptr 0 0, .dv (.int .i64 a)] [.obj (lO mo l)]
    fun v m => v = .tup [.dv (.int .i64 (((look a l).getD 0 : Nat) : Int)), .dv (.bool (look a l).isSome)] ∧ m = [.obj (lO mo l)] := by
  have hf := cell_find a l hl
  unfold lO bOb bmem
  generalize ((look a l).getD 0) = y at *
  generalize (look a l).isSome = b at *
  generalize l.length = k at *
  generalize lre l = re at *
  generalize lim l = im at *
  clear hl
  refine fn_walkv mixed fn_sbuf_Buffer_Find Ent.opn1 fun bin cmp un conv bnot beq band sel isel ofN toN inb nz nneg lt le room' slb add sub sbin scmp slen sget ssub addk pc pb pi pf ps mkok min_ ig aeq P hP hA hF Q hQ => ?_
  cbv
  repeat' first
    | (refine call_at hP [1] code_cell_Find (hf) rfl ?_ ?_ ?_; (focus ((repeat' (first | exact trivial | exact rfl | (intro _ _ _ _; exact rfl) | refine And.intro ?_ ?_)); done)); (focus (cbv; (try simp); done)); rintro _ _ ⟨rfl, rfl⟩ _; cbv)
    | (refine Chk.mk trivial ?_; cbv)
    | (refine bc_true (by first | assumption | (simp (disch := omega) only [hF, natc, w64_in, shs]; first | done | assumption | omega | (simp only [natc] at *; omega))) ?_; cbv)
    | (refine bc_false (by first | assumption | (simp (disch := omega) only [hF, natc, w64_in, shs]; first | done | assumption | omega | (simp only [natc] at *; omega))) ?_; cbv)
    | (refine bc_split (fun h => ?_) (fun h => ?_) <;> (try simp (disch := omega) only [hF, natc, w64_in, shs] at h) <;> cbv)
    | (refine IdxVC.mk (by simp (disch := omega) only [hF, natc, w64_in, shs]; first | done | omega | (simp only [natc] at *; omega)) (fun kx hk hk2 => ?_); simp (disch := omega) only [hF, natc, w64_in, shs] at hk; (try obtain rfl : kx = 0 := hk); cbv)
    | (refine Chk.mk (by simp (disch := omega) only [maxN, hF, natc, w64_in, shs]; first | done | assumption | omega | (simp only [natc] at *; omega)) ?_; cbv)
    | (intro (hmx : _ ≤ maxN); replace hmx : _ ≤ 140737488355328 := hmx; cbv)
    | (intro _; cbv)
  subst hQ
  exact leaf_obj (lmem := bmem mo k re im) [1] rfl rfl ⟨⟨rfl, rfl, trivial⟩, ⟨rfl, rfl, fun _ _ _ _ => rfl⟩, trivial⟩ rfl rfl ⟨rfl, rfl⟩

end Go.Proofs.Ytiaceoomiflgcaa

end

section
namespace Go.Proofs.Ytiaceoomiflgcaa
open Go.V
set_option linter.unusedVariables false
set_option linter.unusedSimpArgs false
set_option maxRecDepth 100000
set_option maxHeartbeats 8000000

theorem busLoad_w (O1 L1 : Ob) (bo : Nat → Ob) (cores : Nat) (bs : Nat → Nat) (a z y : Int) (b : Bool) (j : Nat) (hj : j < cores) (h8 : cores ≤ 8) (hb : bo j = L1)
    (hload : CallOK (O := Ob) PR n_sram_Ram_Load [.ptr 0 0, .dv (.int .i64 a)] [.obj O1] fun v m => v = .tup [.dv (.int .i64 z), .dv (.int .i64 0)] ∧ m = [.obj O1])
    (hfind : CallOK (O := Ob) PR n_sbuf_Buffer_Find [.ptr 0 0, .dv (.int .i64 a)] [.obj L1] fun v m => v = .tup [.dv (.int .i64 y), .dv (.bool b)] ∧ m = [.obj L1]) :
    CallOK (O := Ob) PR n_bus_Bus_Load [.ptr 0 0, .dv (.int .i64 j), .dv (.int .i64 a)] [.obj (.mk (busR O1 cores bs bo))] fun v m => v = .tup [.dv (.int .i64 (if b = true then y else z)), .dv (.int .i64 0)] ∧ m = [.obj (busX O1 cores (updO bo j L1))] := by
  have hfind := hfind.atx (bs j)
  unfold busR
  cases b
  all_goals
    refine fn_walkv mixed fn_bus_Bus_Load Ent.opn1 fun bin cmp un conv bnot beq band sel isel ofN toN inb nz nneg lt le room' slb add sub sbin scmp slen sget ssub addk pc pb pi pf ps mkok min_ ig aeq P hP hA hF Q hQ => ?_
    cbv
    repeat' first
      | ((refine call_inl hP mixed hA code_bus_Bus_ask fn_bus_Bus_ask ?_); cbv)
      | (refine Chk.mk trivial ?_; cbv)
      | (refine bc_true (by first | assumption | (simp (disch := omega) only [hF, natc, w64_in, shs]; first | done | assumption | omega | (simp only [natc] at *; omega))) ?_; cbv)
      | (refine bc_false (by first | assumption | (simp (disch := omega) only [hF, natc, w64_in, shs]; first | done | assumption | omega | (simp only [natc] at *; omega))) ?_; cbv)
      | (refine bc_split (fun h => ?_) (fun h => ?_) <;> (try simp (disch := omega) only [hF, natc, w64_in, shs] at h) <;> cbv)
      | (refine IdxVC.mk (by simp (disch := omega) only [hF, natc, w64_in, shs]; first | done | omega | (simp only [natc] at *; omega)) (fun kx hk hk2 => ?_); simp (disch := omega) only [hF, natc, w64_in, shs] at hk; (try obtain rfl : kx = 0 := hk); cbv)
      | (refine Chk.mk (by simp (disch := omega) only [maxN, hF, natc, w64_in, shs]; first | done | assumption | omega | (simp only [natc] at *; omega)) ?_; cbv)
      | (intro (hmx : _ ≤ maxN); replace hmx : _ ≤ 140737488355328 := hmx; cbv)
      | (intro _; cbv)
    subst hk
    refine call_fam 3 kx [0] rfl hk2 rfl ⟨rfl, trivial⟩ ?_
    rw [hb]
    cbv
    repeat' first
      | ((refine call_inl hP mixed hA code_bus_Bus_Load_c1 fn_bus_Bus_Load_c1 ?_); cbv)
      | (refine call_at hP [1] code_sram_Ram_Load (hload) rfl ?_ ?_ ?_; (focus ((repeat' (first | exact trivial | exact rfl | (intro _ _ _ _; exact rfl) | refine And.intro ?_ ?_)); done)); (focus (cbv; (try simp); done)); rintro _ _ ⟨rfl, rfl⟩ _; cbv)
      | (refine call_at hP [7] code_sbuf_Buffer_Find (hfind) rfl ?_ ?_ ?_; (focus ((repeat' (first | exact trivial | exact rfl | (intro _ _ _ _; exact rfl) | refine And.intro ?_ ?_)); done)); (focus (cbv; (try simp); done)); rintro _ _ ⟨rfl, rfl⟩ _; cbv)
      | (refine Chk.mk trivial ?_; cbv)
      | (refine bc_true (by first | assumption | (simp (disch := omega) only [hF, natc, w64_in, shs]; first | done | assumption | omega | (simp only [natc] at *; omega))) ?_; cbv)
      | (refine bc_false (by first | assumption | (simp (disch := omega) only [hF, natc, w64_in, shs]; first | done | assumption | omega | (simp only [natc] at *; omega))) ?_; cbv)
      | (refine bc_split (fun h => ?_) (fun h => ?_) <;> (try simp (disch := omega) only [hF, natc, w64_in, shs] at h) <;> cbv)
      | (refine IdxVC.mk (by simp (disch := omega) only [hF, natc, w64_in, shs]; first | done | omega | (simp only [natc] at *; omega)) (fun kx hk hk2 => ?_); simp (disch := omega) only [hF, natc, w64_in, shs] at hk; (try obtain rfl : kx = 0 := hk); cbv)
      | (refine Chk.mk (by simp (disch := omega) only [maxN, hF, natc, w64_in, shs]; first | done | assumption | omega | (simp only [natc] at *; omega)) ?_; cbv)
      | (intro (hmx : _ ≤ maxN); replace hmx : _ ≤ 140737488355328 := hmx; cbv)
      | (intro _; cbv)
  · subst hQ
    refine ⟨.tup [.dv (.int .i64 z), .dv (.int .i64 0)], [.obj (busX (O1) cores (updO bo kx (L1)))], ?_, rfl, rfl⟩
    refine (Ent.famC 3 7 kx (sk' := fun _ => false) (o' := updO bo kx (L1)) (x := L1) rfl rfl (by decide) hk2 (by simp) (fun i _ => ?_) (fun i _ => rfl)).trans ?_
    · by_cases h : i = kx <;> simp [h]
    refine (Ent.cls1 (env' := [.tup [.dv (.int .i64 z), .dv (.int .i64 0)]]) [1, 2, 3] (busR (O1) cores bs (updO bo kx (L1))) rfl rfl ?_ ?_).trans (Ent.exI (o := fun bs => .mk (busR (O1) cores bs (updO bo kx (L1)))) 0 bs rfl)
    · exact ⟨⟨rfl, rfl, trivial⟩, rfl, ⟨rfl, rfl, fun _ _ _ _ => rfl⟩, rfl, trivial⟩
    · exact ⟨rfl, trivial⟩
  · subst hQ
    refine ⟨.tup [.dv (.int .i64 y), .dv (.int .i64 0)], [.obj (busX (O1) cores (updO bo kx (L1)))], ?_, rfl, rfl⟩
    refine (Ent.famC 3 7 kx (sk' := fun _ => false) (o' := updO bo kx (L1)) (x := L1) rfl rfl (by decide) hk2 (by simp) (fun i _ => ?_) (fun i _ => rfl)).trans ?_
    · by_cases h : i = kx <;> simp [h]
    refine (Ent.cls1 (env' := [.tup [.dv (.int .i64 y), .dv (.int .i64 0)]]) [1, 2, 3] (busR (O1) cores bs (updO bo kx (L1))) rfl rfl ?_ ?_).trans (Ent.exI (o := fun bs => .mk (busR (O1) cores bs (updO bo kx (L1)))) 0 bs rfl)
    · exact ⟨⟨rfl, rfl, trivial⟩, rfl, ⟨rfl, rfl, fun _ _ _ _ => rfl⟩, rfl, trivial⟩
    · exact ⟨rfl, trivial⟩

end Go.Proofs.Ytiaceoomiflgcaa

end

section
namespace Go.Proofs.Ytiaceoomiflgcaa
open Go.V
set_option linter.unusedVariables false
set_option linter.unusedSimpArgs false
set_option maxRecDepth 100000
set_option maxHeartbeats 8000000

theorem busO_X (S : BusS) : busO S = busX (rOb S.n S.r) S.cores fun j => lO S.mo (S.bufs j) := rfl

theorem updO_l (mo : Int) (bufs : Nat → List (Nat × Nat)) (j : Nat) (l : List (Nat × Nat)) : updO (fun j => lO mo (bufs j)) j (lO mo l) = fun i => lO mo (if i = j then l else bufs i) := by
  funext i; unfold updO; split <;> rfl

/-- A bus with another memory, another buffer of a core. -/
def BusS.upd (S : BusS) (r : Nat → Int) (j : Nat) (l : List (Nat × Nat)) : BusS := { S with r := r, bufs := fun i => if i = j then l else S.bufs i }

theorem busO_upd (S : BusS) (r : Nat → Int) (j : Nat) (l : List (Nat × Nat)) : busO (S.upd r j l) = busX (rOb S.n r) S.cores (updO (fun j => lO S.mo (S.bufs j)) j (lO S.mo l)) := by
  rw [busO_X, updO_l]; rfl

theorem BusS.upd_same (S : BusS) (j : Nat) : S.upd S.r j (S.bufs j) = S := by
  unfold BusS.upd
  have : (fun i => if i = j then S.bufs j else S.bufs i) = S.bufs := by funext i; split <;> simp_all
  rw [this]

/-- A memory after all of a list's stores. -/
def rputs (r : Nat → Int) : List (Nat × Nat) → Nat → Int
  | [] => r
  | x :: l => rputs (rput r x.1 x.2) l

theorem ok_fence (n : Nat) (mo : Int) (cores : Nat) (bs : Nat → Nat) (g : Nat) (r : Nat → Int) (l : List (Nat × Nat)) (hn : n ≤ 65536) (hl : okL l) (ha : ∀ x ∈ l, x.1 < n) (h16 : l.length ≤ 16) :
    CallOK (O := Ob) PR n_bus_Bus_fence [.ptr 0 0, .ptr 3 0] (busP (rOb n r) cores bs g (lO mo l)) fun v m => v = .dv (.int .i64 (l.length : Int)) ∧ m = busP (rOb n (rputs r l)) cores bs g (lO mo []) := by
  have hsplit : ∀ i, i < l.length → ∃ x, l.drop i = x :: l.drop (i + 1) ∧ x ∈ l ∧ rputs r (l.take (i + 1)) = rput (rputs r (l.take i)) x.1 x.2 := by
    intro i hi
    refine ⟨l[i], List.drop_eq_getElem_cons hi, List.getElem_mem hi, ?_⟩
    have key : ∀ (l1 : List (Nat × Nat)) (r : Nat → Int) (y : Nat × Nat), rputs r (l1 ++ [y]) = rput (rputs r l1) y.1 y.2 := by
      intro l1
      induction l1 with
      | nil => intro r y; rfl
      | cons z l1 ih => intro r y; exact ih _ y
    rw [List.take_add_one, List.getElem?_eq_getElem hi]
    exact key _ r l[i]
  have h := fence_w (fun i => rOb n (rputs r (l.take i))) (fun i => lO mo (l.drop i)) l.length h16 cores bs g (fun i hi => ?_) ?_
  · have e1 : l.drop l.length = [] := List.drop_length
    rw [e1, List.take_length] at h
    exact h
  · obtain ⟨x, e, hx, e2⟩ := hsplit i hi
    have e3 : ∀ y ∈ l.drop i, y ∈ l := fun y hy => List.mem_of_mem_drop hy
    show CallOK (O := Ob) PR n_bus_Bus_drain [.ptr 0 0, .ptr 3 0] (busP (rOb n (rputs r (l.take i))) cores bs g (lO mo (l.drop i))) fun v m => v = .dv (.bool true) ∧ m = busP (rOb n (rputs r (l.take (i + 1)))) cores bs g (lO mo (l.drop (i + 1)))
    rw [e2]
    have hd := ok_drain1 n (rputs r (l.take i)) mo cores bs g x.1 x.2 (l.drop (i + 1)) hn (fun y hy => hl y (e3 y (e ▸ hy))) (ha x hx)
    rw [e]
    exact hd
  · show CallOK (O := Ob) PR n_bus_Bus_drain [.ptr 0 0, .ptr 3 0] (busP (rOb n (rputs r (l.take l.length))) cores bs g (lO mo (l.drop l.length))) fun v m => v = .dv (.bool false) ∧ m = busP (rOb n (rputs r (l.take l.length))) cores bs g (lO mo (l.drop l.length))
    have e1 : l.drop l.length = [] := List.drop_length
    rw [e1]
    exact ok_drain0 n _ mo cores bs g

theorem busFence (S : BusS) (hS : S.ok) (j : Nat) (hj : j < S.cores) : CallOK (O := Ob) PR n_bus_Bus_Fence [.ptr 0 0, .dv (.int .i64 j)] [.obj (busO S)]
    fun v m => v = .tup [.dv (.int .i64 ((S.bufs j).length : Int)), .dv (.int .i64 0)] ∧ m = [.obj (busO (S.upd (rputs S.r (S.bufs j)) j []))] := by
  obtain ⟨h1, h2, h3, h4, h5, h6⟩ := hS
  rw [busO_upd]
  exact CallOK.exE 0 rfl fun bs => busFence_w _ _ _ _ S.cores bs _ j hj h2 (ok_fence S.n S.mo S.cores bs (bs j) S.r (S.bufs j) h1 (h5 j hj).1 (h5 j hj).2.2 (by have := (h5 j hj).2.1; omega))

end Go.Proofs.Ytiaceoomiflgcaa

end

section
namespace Go.Proofs.Ytiaceoomiflgcaa
open Go.V
set_option linter.unusedVariables false
set_option linter.unusedSimpArgs false
set_option maxRecDepth 100000
set_option maxHeartbeats 8000000

theorem rLoad_in (n : Nat) (r : Nat → Int) (a : Nat) (hn : n ≤ 65536) (ha : a < n) : CallOK (O := Ob) PR n_sram_Ram_Load [.ptr 0 0, .dv (.int .i64 a)] [.obj (rOb n r)]
    fun v m => v = .tup [.dv (.int .i64 (r a)), .dv (.int .i64 0)] ∧ m = [.obj (rOb n r)] :=
  (ok_rLoad n r a hn).mono fun v m ⟨⟨z, e, h1, _, hv⟩, hm⟩ => by
    obtain ⟨rfl, rfl⟩ := h1 (by omega)
    exact ⟨hv, hm⟩

/-- A store: the oldest makes room, if there is none. -/
def BusS.store (S : BusS) (j a w : Nat) : BusS :=
  if ((S.bufs j).length : Int) = S.mo then S.upd (rput1 S.r (S.bufs j)) j ((S.bufs j).tail ++ [(a, w)]) else S.upd S.r j (S.bufs j ++ [(a, w)])

theorem busStore (S : BusS) (hS : S.ok) (j a w : Nat) (hj : j < S.cores) (ha : a < S.n) (hw : w ≤ 65535) : CallOK (O := Ob) PR n_bus_Bus_Store [.ptr 0 0, .dv (.int .i64 j), .dv (.int .i64 a), .dv (.int .i64 w)] [.obj (busO S)]
    fun v m => v = .dv (.int .i64 0) ∧ m = [.obj (busO (S.store j a w))] := by
  obtain ⟨h1, h2, h3, h4, h5, h6⟩ := hS
  obtain ⟨k1, k2, k3⟩ := h5 j hj
  unfold BusS.store
  by_cases hk : ((S.bufs j).length : Int) = S.mo
  · rw [if_pos hk, busO_upd]
    have hc := lCap S.mo (S.bufs j)
    have hl := lLen S.mo (S.bufs j)
    rw [hk] at hl
    refine CallOK.exE 0 rfl fun bs => busStore_w2 _ (rOb S.n (rput1 S.r (S.bufs j))) (lO S.mo (S.bufs j)) (lO S.mo (S.bufs j).tail) (lO S.mo ((S.bufs j).tail ++ [(a, w)])) _ S.cores bs a w (S.r a) S.mo (has (S.bufs j)) j hj h2 (by omega) rfl
      (rLoad_in S.n S.r a h1 ha) hl hc (ok_drain S.n S.r S.mo S.cores bs (bs j) (S.bufs j) h1 k1 k3) (lPut S.mo (S.bufs j).tail a w (by omega) hw ?_ h4)
    rw [List.length_tail]; omega
  · rw [if_neg hk, busO_upd]
    exact CallOK.exE 0 rfl fun bs => busStore_w1 _ (lO S.mo (S.bufs j)) (lO S.mo (S.bufs j ++ [(a, w)])) _ S.cores bs a w (S.r a) ((S.bufs j).length : Int) S.mo j hj h2 (by omega) hk rfl
      (rLoad_in S.n S.r a h1 ha) (lLen S.mo (S.bufs j)) (lCap S.mo (S.bufs j)) (lPut S.mo (S.bufs j) a w (by omega) hw (by omega) h4)

/-- What a core reads. -/
def BusS.load (S : BusS) (j a : Nat) : Int := match look a (S.bufs j) with | some w => w | none => S.r a

theorem busLoad (S : BusS) (hS : S.ok) (j a : Nat) (hj : j < S.cores) (ha : a < S.n) : CallOK (O := Ob) PR n_bus_Bus_Load [.ptr 0 0, .dv (.int .i64 j), .dv (.int .i64 a)] [.obj (busO S)]
    fun v m => v = .tup [.dv (.int .i64 (S.load j a)), .dv (.int .i64 0)] ∧ m = [.obj (busO S)] := by
  obtain ⟨h1, h2, h3, h4, h5, h6⟩ := hS
  obtain ⟨k1, k2, k3⟩ := h5 j hj
  have e : S.load j a = if (look a (S.bufs j)).isSome = true then (((look a (S.bufs j)).getD 0 : Nat) : Int) else S.r a := by
    unfold BusS.load; cases look a (S.bufs j) <;> rfl
  rw [e]
  have e2 : busO S = busX (rOb S.n S.r) S.cores (updO (fun j => lO S.mo (S.bufs j)) j (lO S.mo (S.bufs j))) := by rw [← busO_upd, BusS.upd_same]
  have h : CallOK (O := Ob) PR n_bus_Bus_Load [.ptr 0 0, .dv (.int .i64 j), .dv (.int .i64 a)] [.obj (busO S)]
      fun v m => v = .tup [.dv (.int .i64 (if (look a (S.bufs j)).isSome = true then (((look a (S.bufs j)).getD 0 : Nat) : Int) else S.r a)), .dv (.int .i64 0)] ∧ m = [.obj (busX (rOb S.n S.r) S.cores (updO (fun j => lO S.mo (S.bufs j)) j (lO S.mo (S.bufs j))))] :=
    CallOK.exE 0 rfl fun bs => busLoad_w _ (lO S.mo (S.bufs j)) _ S.cores bs a (S.r a) _ _ j hj h2 rfl (rLoad_in S.n S.r a h1 ha) (lFind S.mo a (S.bufs j) k1)
  rw [← e2] at h
  exact h

end Go.Proofs.Ytiaceoomiflgcaa

end

section
namespace Go.Proofs.Ytiaceoomiflgcaa
open Go.V
set_option linter.unusedVariables false
set_option linter.unusedSimpArgs false
set_option maxRecDepth 100000
set_option maxHeartbeats 8000000

theorem ok_rNew (n : Nat) (hn : 1 ≤ n ∧ n ≤ 65536) : CallOK (O := Ob) PR n_sram_New [.dv (.int .i64 n)] [] fun v m => v = .tup [.ptr 0 0, .dv (.int .i64 0)] ∧ m = [.obj (rOb n fun _ => 0)] := by
  obtain ⟨h1, h2⟩ := hn
  refine fn_walkv mixed fn_sram_New (Ent.refl _ _) fun bin cmp un conv bnot beq band sel isel ofN toN inb nz nneg lt le room' slb add sub sbin scmp slen sget ssub addk pc pb pi pf ps mkok min_ ig aeq P hP hA hF Q hQ => ?_
  have hmk : mkok (Int.ofNat n) (Int.ofNat n) 8 := by
    have e : mkok = std.mkok := congrArg Ar.mkok hA
    rw [e]
    show _ ∧ _ ∧ _ ≤ ((140737488355328 : Nat) : Int) ∧ _
    refine ⟨rfl, ?_, ?_, ?_⟩ <;> (try simp only [Int.ofNat_eq_natCast]) <;> omega
  cbv
  repeat' first
    | ((refine Chk.mk hmk ?_); cbv)
    | (refine Chk.mk trivial ?_; cbv)
    | (refine bc_true (by first | assumption | (simp (disch := omega) only [hF, natc, w64_in, shs]; first | done | assumption | omega | (simp only [natc] at *; omega))) ?_; cbv)
    | (refine bc_false (by first | assumption | (simp (disch := omega) only [hF, natc, w64_in, shs]; first | done | assumption | omega | (simp only [natc] at *; omega))) ?_; cbv)
    | (refine bc_split (fun h => ?_) (fun h => ?_) <;> (try simp (disch := omega) only [hF, natc, w64_in, shs] at h) <;> cbv)
    | (refine IdxVC.mk (by simp (disch := omega) only [hF, natc, w64_in, shs]; first | done | omega | (simp only [natc] at *; omega)) (fun kx hk hk2 => ?_); simp (disch := omega) only [hF, natc, w64_in, shs] at hk; (try obtain rfl : kx = 0 := hk); cbv)
    | (refine Chk.mk (by simp (disch := omega) only [maxN, hF, natc, w64_in, shs]; first | done | assumption | omega | (simp only [natc] at *; omega)) ?_; cbv)
    | (intro (hmx : _ ≤ maxN); replace hmx : _ ≤ 140737488355328 := hmx; cbv)
    | (intro _; cbv)
  subst hQ
  refine ⟨.tup [.ptr 0 0, .dv (.int .i64 0)], [.obj (rOb n fun _ => 0)], ?_, rfl, rfl⟩
  refine (Ent.ren (s' := ⟨[.tup [.ptr 0 0, .dv (.int .i64 0)]], rmem n fun _ => 0⟩) [1, 0] rfl rfl ?_ ?_).trans (Ent.cls1 (env' := [.tup [.ptr 0 0, .dv (.int .i64 0)]]) [1] (rmem n fun _ => 0) rfl rfl ⟨⟨rfl, trivial⟩, ⟨rfl, rfl, fun _ _ _ _ => rfl⟩, trivial⟩ ⟨rfl, trivial⟩)
  · refine ⟨⟨rfl, trivial⟩, ⟨by simp only [hF, natc]; rfl, rfl, fun i f hi hf => ?_⟩, trivial⟩
    obtain rfl : f = 0 := by omega
    rfl
  · exact ⟨rfl, trivial⟩

theorem busNew_w (n : Nat) (cores : Nat) (mo : Int) (OR LN : Ob) (h8 : 1 ≤ cores ∧ cores ≤ 8)
    (hr : CallOK (O := Ob) PR n_sram_New [.dv (.int .i64 n)] [] fun v m => v = .tup [.ptr 0 0, .dv (.int .i64 0)] ∧ m = [.obj OR])
    (hb : CallOK (O := Ob) PR n_sbuf_New [.dv (.int .i64 mo)] [] fun v m => v = .ptr 0 0 ∧ m = [.obj LN]) :
    CallOK (O := Ob) PR n_bus_New [.dv (.int .i64 cores), .dv (.int .i64 n), .dv (.int .i64 mo)] [] fun v m => v = .tup [.ptr 0 0, .dv (.int .i64 0)] ∧ m = [.obj (busX OR cores fun _ => LN)] := by
  obtain ⟨h1, h8⟩ := h8
  refine fn_walkv mixed fn_bus_New (Ent.refl _ _) fun bin cmp un conv bnot beq band sel isel ofN toN inb nz nneg lt le room' slb add sub sbin scmp slen sget ssub addk pc pb pi pf ps mkok min_ ig aeq P hP hA hF Q hQ => ?_
  cbv
  repeat' first
    | (refine call_at hP [] code_sram_New (hr) rfl ?_ ?_ ?_; (focus ((repeat' (first | exact trivial | exact rfl | (intro _ _ _ _; exact rfl) | refine And.intro ?_ ?_)); done)); (focus (cbv; (try simp); done)); rintro _ _ ⟨rfl, rfl⟩ _; cbv)
    | (refine call_at hP [] code_sbuf_New (hb) rfl ?_ ?_ ?_; (focus ((repeat' (first | exact trivial | exact rfl | (intro _ _ _ _; exact rfl) | refine And.intro ?_ ?_)); done)); (focus (cbv; (try simp); done)); rintro _ _ ⟨rfl, rfl⟩ _; cbv)
    | (refine Chk.mk trivial ?_; cbv)
    | (refine bc_true (by first | assumption | (simp (disch := omega) only [hF, natc, w64_in, shs]; first | done | assumption | omega | (simp only [natc] at *; omega))) ?_; cbv)
    | (refine bc_false (by first | assumption | (simp (disch := omega) only [hF, natc, w64_in, shs]; first | done | assumption | omega | (simp only [natc] at *; omega))) ?_; cbv)
    | (refine bc_split (fun h => ?_) (fun h => ?_) <;> (try simp (disch := omega) only [hF, natc, w64_in, shs] at h) <;> cbv)
    | (refine IdxVC.mk (by simp (disch := omega) only [hF, natc, w64_in, shs]; first | done | omega | (simp only [natc] at *; omega)) (fun kx hk hk2 => ?_); simp (disch := omega) only [hF, natc, w64_in, shs] at hk; (try obtain rfl : kx = 0 := hk); cbv)
    | (refine Chk.mk (by simp (disch := omega) only [maxN, hF, natc, w64_in, shs]; first | done | assumption | omega | (simp only [natc] at *; omega)) ?_; cbv)
    | (intro (hmx : _ ≤ maxN); replace hmx : _ ≤ 140737488355328 := hmx; cbv)
    | (intro _; cbv)
  refine loop_ex mixed hP hA (ι := Nat × (Nat → Nat)) (fun x => cores - x.1) (fun x => x.1 ≤ cores) [35, 36, 37, 38, 39, 40, 41, 42, 43, 44, 45, 46, 47, 48] (fun x => [(35, .dv (.int .i64 (ofN x.1)))]) (fun x => [.obj OR, .obj LN, .blk [.one (.ptr 0 0), .one (.vec 3)], .vec x.1 1 (fun j _ => .gp (x.2 j)), .obj (.fam x.1 x.2 (fun _ => false) fun _ => LN)]) ?_ fun Nx i hN hi => ?_
  · refine EntE.of (((Ent.env ?_).trans (Ent.nilvec (ss := [.one (.ptr 0 0), .one (.dv .nils)]) (ss' := [.one (.ptr 0 0), .one (.vec 3)]) 2 1 1 (fun j _ => .gp 0) rfl rfl rfl)).trans (Ent.fam0 (fun _ => 0) fun _ => LN)) ⟨(0, fun _ => 0), Nat.zero_le _, rfl⟩
    cbv; simp [hF]
  obtain ⟨i, bs⟩ := i
  simp only at hi hN
  cbv
  by_cases hlt : i < cores
  · have hrm : room' (add i 1) 16 := by simp [hF, maxN]; omega
    cbv
    repeat' first
      | (refine call_at hP [] code_sbuf_New (hb) rfl ?_ ?_ ?_; (focus ((repeat' (first | exact trivial | exact rfl | (intro _ _ _ _; exact rfl) | refine And.intro ?_ ?_)); done)); (focus (cbv; (try simp); done)); rintro _ _ ⟨rfl, rfl⟩ _; cbv)
      | ((refine Chk.mk hrm ?_); cbv)
      | ((refine And.intro ?_ ?_); cbv)
      | (refine Chk.mk trivial ?_; cbv)
      | (refine bc_true (by first | assumption | (simp (disch := omega) only [hF, natc, w64_in, shs]; first | done | assumption | omega | (simp only [natc] at *; omega))) ?_; cbv)
      | (refine bc_false (by first | assumption | (simp (disch := omega) only [hF, natc, w64_in, shs]; first | done | assumption | omega | (simp only [natc] at *; omega))) ?_; cbv)
      | (refine bc_split (fun h => ?_) (fun h => ?_) <;> (try simp (disch := omega) only [hF, natc, w64_in, shs] at h) <;> cbv)
      | (refine IdxVC.mk (by simp (disch := omega) only [hF, natc, w64_in, shs]; first | done | omega | (simp only [natc] at *; omega)) (fun kx hk hk2 => ?_); simp (disch := omega) only [hF, natc, w64_in, shs] at hk; (try obtain rfl : kx = 0 := hk); cbv)
      | (refine Chk.mk (by simp (disch := omega) only [maxN, hF, natc, w64_in, shs]; first | done | assumption | omega | (simp only [natc] at *; omega)) ?_; cbv)
      | (intro (hmx : _ ≤ maxN); replace hmx : _ ≤ 140737488355328 := hmx; cbv)
      | (intro _; cbv)
    have e : add i 1 = i + 1 := by simp only [hF]
    rw [e]
    refine hN _ ((famA (o' := fun _ => LN) 7 4 5 0 rfl rfl rfl (by decide) (fun j hj => ?_) ?_ (fun _ _ => rfl) rfl).bind fun t ⟨bs', ht⟩ => ?_)
    · unfold appAt; rw [if_pos hj]
    · unfold appAt; rw [if_neg (Nat.lt_irrefl _)]; simp only [hF, Nat.sub_self]; rfl
    · subst ht
      refine EntE.of (Ent.ren [0, 1, 2, 7, 4] rfl rfl ?_ ?_) ⟨(i + 1, bs'), hlt, by show cores - (i + 1) < cores - i; omega, rfl⟩
      · refine ⟨rfl, rfl, ⟨rfl, rfl, trivial⟩, ⟨rfl, rfl, fun j f hj hf => ?_⟩, rfl, trivial⟩
        obtain rfl : f = 0 := by omega
        rfl
      · cbv; simp (disch := omega) [hF, natc, w64_in]
  · obtain rfl : i = cores := by omega
    cbv
    repeat' first
      | (refine Chk.mk trivial ?_; cbv)
      | (refine bc_true (by first | assumption | (simp (disch := omega) only [hF, natc, w64_in, shs]; first | done | assumption | omega | (simp only [natc] at *; omega))) ?_; cbv)
      | (refine bc_false (by first | assumption | (simp (disch := omega) only [hF, natc, w64_in, shs]; first | done | assumption | omega | (simp only [natc] at *; omega))) ?_; cbv)
      | (refine bc_split (fun h => ?_) (fun h => ?_) <;> (try simp (disch := omega) only [hF, natc, w64_in, shs] at h) <;> cbv)
      | (refine IdxVC.mk (by simp (disch := omega) only [hF, natc, w64_in, shs]; first | done | omega | (simp only [natc] at *; omega)) (fun kx hk hk2 => ?_); simp (disch := omega) only [hF, natc, w64_in, shs] at hk; (try obtain rfl : kx = 0 := hk); cbv)
      | (refine Chk.mk (by simp (disch := omega) only [maxN, hF, natc, w64_in, shs]; first | done | assumption | omega | (simp only [natc] at *; omega)) ?_; cbv)
      | (intro (hmx : _ ≤ maxN); replace hmx : _ ≤ 140737488355328 := hmx; cbv)
      | (intro _; cbv)
    subst hQ
    refine ⟨.tup [.ptr 0 0, .dv (.int .i64 0)], [.obj (busX OR i fun _ => LN)], ?_, rfl, rfl⟩
    refine ((Ent.ren (s' := ⟨[.tup [.ptr 0 0, .dv (.int .i64 0)]], busR OR i bs fun _ => LN⟩) [2, 0, 3, 4] rfl rfl ?_ ?_).trans (Ent.cls1 (env' := [.tup [.ptr 0 0, .dv (.int .i64 0)]]) [1, 2, 3] (busR OR i bs fun _ => LN) rfl rfl ?_ ⟨rfl, trivial⟩)).trans (Ent.exI (o := fun bs => .mk (busR OR i bs fun _ => LN)) 0 bs rfl)
    · exact ⟨⟨rfl, rfl, trivial⟩, rfl, ⟨rfl, rfl, fun _ _ _ _ => rfl⟩, rfl, trivial⟩
    · exact ⟨rfl, trivial⟩
    · exact ⟨⟨rfl, rfl, trivial⟩, rfl, ⟨rfl, rfl, fun _ _ _ _ => rfl⟩, rfl, trivial⟩

end Go.Proofs.Ytiaceoomiflgcaa

end

section
namespace Go.Proofs.Ytiaceoomiflgcaa
open Go.V
set_option linter.unusedVariables false
set_option linter.unusedSimpArgs false
set_option maxRecDepth 100000
set_option maxHeartbeats 8000000

def BusS.new (n cores : Nat) (mo : Int) : BusS := ⟨n, fun _ => 0, cores, mo, fun _ => []⟩

theorem busNew (n cores : Nat) (mo : Int) (hn : 1 ≤ n ∧ n ≤ 65536) (hc : 1 ≤ cores ∧ cores ≤ 8) (hm : 1 ≤ mo ∧ mo ≤ 16) :
    CallOK (O := Ob) PR n_bus_New [.dv (.int .i64 cores), .dv (.int .i64 n), .dv (.int .i64 mo)] [] fun v m => v = .tup [.ptr 0 0, .dv (.int .i64 0)] ∧ m = [.obj (busO (BusS.new n cores mo))] :=
  busNew_w n cores mo _ _ hc (ok_rNew n hn) (lNew mo hm)

theorem BusS.new_ok (n cores : Nat) (mo : Int) (hn : 1 ≤ n ∧ n ≤ 65536) (hc : 1 ≤ cores ∧ cores ≤ 8) (hm : 1 ≤ mo ∧ mo ≤ 16) : (BusS.new n cores mo).ok :=
  ⟨hn.2, hc.2, hm.1, hm.2, fun j _ => ⟨fun x h => absurd h (List.not_mem_nil), by show ((0 : Nat) : Int) ≤ mo; omega, fun x h => absurd h (List.not_mem_nil)⟩, fun i _ => by show (0 : Int) ≤ 0 ∧ (0 : Int) ≤ 65535; omega⟩

/-- A memory of words. -/
def okR (n : Nat) (r : Nat → Int) : Prop := ∀ i, i < n → 0 ≤ r i ∧ r i ≤ 65535

theorem okR_put {n : Nat} {r : Nat → Int} (h : okR n r) (a w : Nat) (hw : w ≤ 65535) : okR n (rput r a w) := fun i hi => by
  unfold rput; split
  · omega
  · exact h i hi

theorem okR_puts {n : Nat} : ∀ {l : List (Nat × Nat)} {r : Nat → Int}, okR n r → okL l → okR n (rputs r l)
  | [], _, h, _ => h
  | x :: l, r, h, hl => okR_puts (r := rput r x.1 x.2) (okR_put h x.1 x.2 (hl x (by simp)).2) fun y hy => hl y (by simp [hy])

theorem okR_put1 {n : Nat} {l : List (Nat × Nat)} {r : Nat → Int} (h : okR n r) (hl : okL l) : okR n (rput1 r l) := by
  cases l with
  | nil => exact h
  | cons x l => exact okR_put h x.1 x.2 (hl x (by simp)).2

theorem BusS.upd_ok (S : BusS) (hS : S.ok) (r : Nat → Int) (j : Nat) (l : List (Nat × Nat)) (hr : okR S.n r) (hl : okL l) (hm : (l.length : Int) ≤ S.mo) (ha : ∀ x ∈ l, x.1 < S.n) : (S.upd r j l).ok := by
  obtain ⟨h1, h2, h3, h4, h5, h6⟩ := hS
  refine ⟨h1, h2, h3, h4, fun i hi => ?_, hr⟩
  show okL (if i = j then l else S.bufs i) ∧ ((if i = j then l else S.bufs i).length : Int) ≤ S.mo ∧ ∀ x ∈ (if i = j then l else S.bufs i), x.1 < S.n
  split
  · exact ⟨hl, hm, ha⟩
  · exact h5 i hi

theorem BusS.fence_ok (S : BusS) (hS : S.ok) (j : Nat) (hj : j < S.cores) : (S.upd (rputs S.r (S.bufs j)) j []).ok := by
  have h := (hS.2.2.2.2.1) j hj
  exact S.upd_ok hS _ j _ (okR_puts hS.2.2.2.2.2 h.1) (fun x hx => by cases hx) (by have := hS.2.2.1; show ((0 : Nat) : Int) ≤ S.mo; omega) (fun x hx => by cases hx)

theorem BusS.store_ok (S : BusS) (hS : S.ok) (j a w : Nat) (hj : j < S.cores) (ha : a < S.n) (hw : w ≤ 65535) : (S.store j a w).ok := by
  have h := (hS.2.2.2.2.1) j hj
  have happ : ∀ l, okL l → okL (l ++ [(a, w)]) := fun l hl x hx => by
    rcases List.mem_append.1 hx with h | h
    · exact hl x h
    · obtain rfl := List.mem_singleton.1 h
      exact ⟨by have := hS.1; show a ≤ 65535; omega, hw⟩
  have happ2 : ∀ l : List (Nat × Nat), (∀ x ∈ l, x.1 < S.n) → ∀ x ∈ l ++ [(a, w)], x.1 < S.n := fun l hl x hx => by
    rcases List.mem_append.1 hx with h | h
    · exact hl x h
    · obtain rfl := List.mem_singleton.1 h
      exact ha
  have h21 := h.2.1
  have hmo := hS.2.2.1
  unfold BusS.store
  split
  · rename_i e
    refine S.upd_ok hS _ j _ (okR_put1 hS.2.2.2.2.2 h.1) (happ _ fun x hx => h.1 x (List.mem_of_mem_tail hx)) ?_ (happ2 _ fun x hx => h.2.2 x (List.mem_of_mem_tail hx))
    rw [List.length_append, List.length_tail]; simp only [List.length_cons, List.length_nil]; omega
  · rename_i e
    refine S.upd_ok hS _ j _ hS.2.2.2.2.2 (happ _ h.1) ?_ (happ2 _ h.2.2)
    rw [List.length_append]; simp only [List.length_cons, List.length_nil]; omega

end Go.Proofs.Ytiaceoomiflgcaa

end
