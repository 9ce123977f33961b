/-
  The laws' arguments, read.
-/
import Derived.Test.YtiaceoomiflgcaaGreatSdR
import Derived.Test.YtiaceoomiflgcaaGreatVcgW
section
namespace Go.Proofs.YtiaceoomiflgcaaGreat
open Go.V
set_option linter.unusedVariables false
set_option linter.unusedSimpArgs false
set_option maxRecDepth 100000
set_option maxHeartbeats 8000000

def xV (N : Nat) (G : Nat → Nat → DV) (i a : Int) : SV := .agg [.dv (.seq N 4 G), .dv (.int .i64 i), .dv (.int .i64 a)]
def plV (c n k : Int) : SV := .agg [.dv (.int .i64 c), .dv (.int .i64 n), .dv (.int .i64 k)]

theorem held_no (c n k mo i a : Int) (N : Nat) (G : Nat → Nat → DV) (hal : CallOK (O := Ob) PR n_law12_alive [] [] fun v m => v = .dv (.bool true) ∧ m = [])
    (h0 : CallOK (O := Ob) PR n_soc_New [plV c n k, .dv (.int .i64 mo)] [] fun v m => v = .tup [.dv .nilp, .dv (.int .i64 2)] ∧ m = []) :
    CallOK (O := Ob) PR n_law12_SocHeld [plV c n k, .dv (.int .i64 mo), xV N G i a] [] fun v m => v = .dv (.bool true) ∧ m = [] := by
  unfold plV at *; unfold xV
  refine fn_walkv mixed fn_law12_SocHeld (Ent.refl _ _) fun bin cmp un conv bnot beq band sel isel ofN toN inb nz nneg lt le room' slb add sub sbin scmp slen sget ssub addk pc pb pi pf ps mkok min_ ig aeq P hP hA hF Q hQ => ?_
  cbv
  repeat' first
    | (refine call_pure hP code_soc_New (h0) ?_ ?_; (focus (cbv; (try simp); done)); rintro _ rfl; cbv)
    | (refine call_pure hP code_law12_alive (hal) ?_ ?_; (focus (cbv; (try simp); done)); rintro _ rfl; cbv)
    | (refine Chk.mk trivial ?_; cbv)
    | (refine bc_true (by first | assumption | (simp (disch := omega) only [hF, natc, w64_in, shs]; first | done | assumption | omega | (simp only [natc] at *; omega))) ?_; cbv)
    | (refine bc_false (by first | assumption | (simp (disch := omega) only [hF, natc, w64_in, shs]; first | done | assumption | omega | (simp only [natc] at *; omega))) ?_; cbv)
    | (refine bc_split (fun h => ?_) (fun h => ?_) <;> (try simp (disch := omega) only [hF, natc, w64_in, shs] at h) <;> cbv)
    | (refine IdxVC.mk (by simp (disch := omega) only [hF, natc, w64_in, shs]; first | done | omega | (simp only [natc] at *; omega)) (fun kx hk hk2 => ?_); simp (disch := omega) only [hF, natc, w64_in, shs] at hk; (try obtain rfl : kx = 0 := hk); cbv)
    | (refine Chk.mk (by simp (disch := omega) only [maxN, hF, natc, w64_in, shs]; first | done | assumption | omega | (simp only [natc] at *; omega)) ?_; cbv)
    | (intro (hmx : _ ≤ maxN); replace hmx : _ ≤ 17592186044416 := hmx; cbv)
    | (intro _; cbv)
  subst hQ; exact leaf_data rfl rfl ⟨rfl, rfl⟩

theorem held_few (c n k mo i a : Int) (N : Nat) (G : Nat → Nat → DV) (P : Ob → Prop) (hal : CallOK (O := Ob) PR n_law12_alive [] [] fun v m => v = .dv (.bool true) ∧ m = [])
    (h0 : CallOK (O := Ob) PR n_soc_New [plV c n k, .dv (.int .i64 mo)] [] fun v m => v = .tup [.ptr 0 0, .dv (.int .i64 0)] ∧ ∃ x, P x ∧ m = [.obj x])
    (hf : CallOK (O := Ob) PR n_law12_few [plV c n k, .dv (.seq N 4 G)] [] fun v m => v = .dv (.bool false) ∧ m = []) :
    CallOK (O := Ob) PR n_law12_SocHeld [plV c n k, .dv (.int .i64 mo), xV N G i a] [] fun v m => v = .dv (.bool true) ∧ m = [] := by
  unfold plV at *; unfold xV
  refine fn_walkv mixed fn_law12_SocHeld (Ent.refl _ _) fun bin cmp un conv bnot beq band sel isel ofN toN inb nz nneg lt le room' slb add sub sbin scmp slen sget ssub addk pc pb pi pf ps mkok min_ ig aeq P hP hA hF Q hQ => ?_
  have hb : bnot false = true := by simp only [hF]; rfl
  cbv
  repeat' first
    | (refine call_at hP [] code_soc_New (h0) rfl ?_ ?_ ?_; (focus ((repeat' (first | exact trivial | exact rfl | (intro _ _ _ _; exact rfl) | refine And.intro ?_ ?_)); done)); (focus (cbv; (try simp); done)); rintro _ _ ⟨rfl, x, hx, rfl⟩ _; cbv)
    | (refine call_pure hP code_law12_few (hf) ?_ ?_; (focus (cbv; (try simp); done)); rintro _ rfl; cbv)
    | ((rw [hb]); cbv)
    | (refine call_pure hP code_law12_alive (hal) ?_ ?_; (focus (cbv; (try simp); done)); rintro _ rfl; cbv)
    | (refine Chk.mk trivial ?_; cbv)
    | (refine bc_true (by first | assumption | (simp (disch := omega) only [hF, natc, w64_in, shs]; first | done | assumption | omega | (simp only [natc] at *; omega))) ?_; cbv)
    | (refine bc_false (by first | assumption | (simp (disch := omega) only [hF, natc, w64_in, shs]; first | done | assumption | omega | (simp only [natc] at *; omega))) ?_; cbv)
    | (refine bc_split (fun h => ?_) (fun h => ?_) <;> (try simp (disch := omega) only [hF, natc, w64_in, shs] at h) <;> cbv)
    | (refine IdxVC.mk (by simp (disch := omega) only [hF, natc, w64_in, shs]; first | done | omega | (simp only [natc] at *; omega)) (fun kx hk hk2 => ?_); simp (disch := omega) only [hF, natc, w64_in, shs] at hk; (try obtain rfl : kx = 0 := hk); cbv)
    | (refine Chk.mk (by simp (disch := omega) only [maxN, hF, natc, w64_in, shs]; first | done | assumption | omega | (simp only [natc] at *; omega)) ?_; cbv)
    | (intro (hmx : _ ≤ maxN); replace hmx : _ ≤ 17592186044416 := hmx; cbv)
    | (intro _; cbv)
  subst hQ; exact leaf_data rfl rfl ⟨rfl, rfl⟩

theorem held_core (c n k mo i a : Int) (N : Nat) (G : Nat → Nat → DV) (P : Ob → Prop) (hi : i < 0 ∨ c ≤ i) (hal : CallOK (O := Ob) PR n_law12_alive [] [] fun v m => v = .dv (.bool true) ∧ m = [])
    (h0 : CallOK (O := Ob) PR n_soc_New [plV c n k, .dv (.int .i64 mo)] [] fun v m => v = .tup [.ptr 0 0, .dv (.int .i64 0)] ∧ ∃ x, P x ∧ m = [.obj x])
    (hf : CallOK (O := Ob) PR n_law12_few [plV c n k, .dv (.seq N 4 G)] [] fun v m => v = .dv (.bool true) ∧ m = []) :
    CallOK (O := Ob) PR n_law12_SocHeld [plV c n k, .dv (.int .i64 mo), xV N G i a] [] fun v m => v = .dv (.bool true) ∧ m = [] := by
  unfold plV at *; unfold xV
  rcases (by omega : i < 0 ∨ (0 ≤ i ∧ c ≤ i)) with hi | ⟨hi, hi2⟩
  · refine fn_walkv mixed fn_law12_SocHeld (Ent.refl _ _) fun bin cmp un conv bnot beq band sel isel ofN toN inb nz nneg lt le room' slb add sub sbin scmp slen sget ssub addk pc pb pi pf ps mkok min_ ig aeq P hP hA hF Q hQ => ?_
    have hb : bnot true = false := by simp only [hF]; rfl
    cbv
    repeat' first
      | (refine call_at hP [] code_soc_New (h0) rfl ?_ ?_ ?_; (focus ((repeat' (first | exact trivial | exact rfl | (intro _ _ _ _; exact rfl) | refine And.intro ?_ ?_)); done)); (focus (cbv; (try simp); done)); rintro _ _ ⟨rfl, x, hx, rfl⟩ _; cbv)
      | (refine call_pure hP code_law12_few (hf) ?_ ?_; (focus (cbv; (try simp); done)); rintro _ rfl; cbv)
      | ((rw [hb]); cbv)
      | (refine call_pure hP code_law12_alive (hal) ?_ ?_; (focus (cbv; (try simp); done)); rintro _ rfl; cbv)
      | (refine Chk.mk trivial ?_; cbv)
      | (refine bc_true (by first | assumption | (simp (disch := omega) only [hF, natc, w64_in, shs]; first | done | assumption | omega | (simp only [natc] at *; omega))) ?_; cbv)
      | (refine bc_false (by first | assumption | (simp (disch := omega) only [hF, natc, w64_in, shs]; first | done | assumption | omega | (simp only [natc] at *; omega))) ?_; cbv)
      | (refine bc_split (fun h => ?_) (fun h => ?_) <;> (try simp (disch := omega) only [hF, natc, w64_in, shs] at h) <;> cbv)
      | (refine IdxVC.mk (by simp (disch := omega) only [hF, natc, w64_in, shs]; first | done | omega | (simp only [natc] at *; omega)) (fun kx hk hk2 => ?_); simp (disch := omega) only [hF, natc, w64_in, shs] at hk; (try obtain rfl : kx = 0 := hk); cbv)
      | (refine Chk.mk (by simp (disch := omega) only [maxN, hF, natc, w64_in, shs]; first | done | assumption | omega | (simp only [natc] at *; omega)) ?_; cbv)
      | (intro (hmx : _ ≤ maxN); replace hmx : _ ≤ 17592186044416 := hmx; cbv)
      | (intro _; cbv)
    subst hQ; exact leaf_data rfl rfl ⟨rfl, rfl⟩
  · refine fn_walkv mixed fn_law12_SocHeld (Ent.refl _ _) fun bin cmp un conv bnot beq band sel isel ofN toN inb nz nneg lt le room' slb add sub sbin scmp slen sget ssub addk pc pb pi pf ps mkok min_ ig aeq P hP hA hF Q hQ => ?_
    have hb : bnot true = false := by simp only [hF]; rfl
    have h1 : cmp .geq i c = true := by simp only [hF, decide_eq_true_eq]; exact hi2
    cbv
    repeat' first
      | (refine call_at hP [] code_soc_New (h0) rfl ?_ ?_ ?_; (focus ((repeat' (first | exact trivial | exact rfl | (intro _ _ _ _; exact rfl) | refine And.intro ?_ ?_)); done)); (focus (cbv; (try simp); done)); rintro _ _ ⟨rfl, x, hx, rfl⟩ _; cbv)
      | (refine call_pure hP code_law12_few (hf) ?_ ?_; (focus (cbv; (try simp); done)); rintro _ rfl; cbv)
      | ((rw [hb]); cbv)
      | ((rw [h1]); cbv)
      | (refine call_pure hP code_law12_alive (hal) ?_ ?_; (focus (cbv; (try simp); done)); rintro _ rfl; cbv)
      | (refine Chk.mk trivial ?_; cbv)
      | (refine bc_true (by first | assumption | (simp (disch := omega) only [hF, natc, w64_in, shs]; first | done | assumption | omega | (simp only [natc] at *; omega))) ?_; cbv)
      | (refine bc_false (by first | assumption | (simp (disch := omega) only [hF, natc, w64_in, shs]; first | done | assumption | omega | (simp only [natc] at *; omega))) ?_; cbv)
      | (refine bc_split (fun h => ?_) (fun h => ?_) <;> (try simp (disch := omega) only [hF, natc, w64_in, shs] at h) <;> cbv)
      | (refine IdxVC.mk (by simp (disch := omega) only [hF, natc, w64_in, shs]; first | done | omega | (simp only [natc] at *; omega)) (fun kx hk hk2 => ?_); simp (disch := omega) only [hF, natc, w64_in, shs] at hk; (try obtain rfl : kx = 0 := hk); cbv)
      | (refine Chk.mk (by simp (disch := omega) only [maxN, hF, natc, w64_in, shs]; first | done | assumption | omega | (simp only [natc] at *; omega)) ?_; cbv)
      | (intro (hmx : _ ≤ maxN); replace hmx : _ ≤ 17592186044416 := hmx; cbv)
      | (intro _; cbv)
    subst hQ; exact leaf_data rfl rfl ⟨rfl, rfl⟩

/-- What a soc that was played with answers at the end. -/
def HeldP (k : Nat) (i a : Int) (P : Ob → Prop) (P1 : Int → Ob → Prop) : Prop :=
  (∀ x, P x → ∃ (was : Int) (b : Bool), CallOK (O := Ob) PR n_soc_Soc_Epoch [.ptr 0 0, .dv (.int .i64 i)] [.obj x] (fun v m => v = .tup [.dv (.int .i64 was), .dv (.int .i64 0)] ∧ m = [.obj x]) ∧
    CallOK (O := Ob) PR n_soc_Soc_Up [.ptr 0 0, .dv (.int .i64 i)] [.obj x] (fun v m => v = .dv (.bool b) ∧ m = [.obj x]) ∧
    (b = true → CallOK (O := Ob) PR n_soc_Soc_Hold [.ptr 0 0, .dv (.int .i64 i)] [.obj x] (fun v m => v = .dv (.int .i64 0) ∧ ∃ x, P1 was x ∧ m = [.obj x])) ∧ (b = false → P1 was x)) ∧
  ∀ was x, P1 was x → CallOK (O := Ob) PR n_soc_Soc_Read [.ptr 0 0, .dv (.int .i64 i), .dv (.int .i64 a)] [.obj x] (fun v m => v = .tup [.dv (.int .i64 0), .dv (.int .i64 19)] ∧ m = [.obj x]) ∧
    CallOK (O := Ob) PR n_soc_Soc_Fence [.ptr 0 0, .dv (.int .i64 i)] [.obj x] (fun v m => v = .tup [.dv (.int .i64 0), .dv (.int .i64 19)] ∧ m = [.obj x]) ∧
    CallOK (O := Ob) PR n_soc_Soc_Write [.ptr 0 0, .dv (.int .i64 i), .dv (.int .i64 a), .dv (.int .i64 0)] [.obj x] (fun v m => v = .dv (.int .i64 19) ∧ m = [.obj x]) ∧
    CallOK (O := Ob) PR n_soc_Soc_Hold [.ptr 0 0, .dv (.int .i64 i)] [.obj x] (fun v m => v = .dv (.int .i64 11) ∧ m = [.obj x]) ∧
    (∃ g : Nat → DV, CallOK (O := Ob) PR n_soc_Soc_Waits [.ptr 0 0, .dv (.int .i64 i)] [.obj x] (fun v m => v = .vec 1 ∧ m = [.obj x, .vec 0 1 fun i _ => .dv (g i)])) ∧
    (∀ (t : Nat) (u : Int), t < k → u = t → ∃ who, who ≠ i ∧ CallOK (O := Ob) PR n_soc_Soc_Owner [.ptr 0 0, .dv (.int .i64 u)] [.obj x] (fun v m => v = .tup [.dv (.int .i64 who), .dv (.int .i64 0)] ∧ m = [.obj x])) ∧
    ∃ x2, CallOK (O := Ob) PR n_soc_Soc_Start [.ptr 0 0, .dv (.int .i64 i)] [.obj x] (fun v m => v = .dv (.int .i64 0) ∧ m = [.obj x2]) ∧
    CallOK (O := Ob) PR n_soc_Soc_Start [.ptr 0 0, .dv (.int .i64 i)] [.obj x2] (fun v m => v = .dv (.int .i64 13) ∧ m = [.obj x2]) ∧
    ∃ x3, CallOK (O := Ob) PR n_soc_Soc_Read [.ptr 0 0, .dv (.int .i64 i), .dv (.int .i64 (66048 + i))] [.obj x2] (fun v m => v = .tup [.dv (.int .i64 ((was + 1) % 65536)), .dv (.int .i64 0)] ∧ m = [.obj x3]) ∧
    0 ≤ was ∧ was ≤ 65535 ∧ CallOK (O := Ob) PR n_soc_Soc_Up [.ptr 0 0, .dv (.int .i64 i)] [.obj x3] (fun v m => v = .dv (.bool true) ∧ m = [.obj x3])

theorem held_w (c n mo i a : Int) (k N : Nat) (hk16 : k ≤ 16) (hN60 : N ≤ 60) (G : Nat → Nat → DV) (PO : Ob → Prop) (P1 : Int → Ob → Prop) (hi : 0 ≤ i ∧ i < c) (hc8 : c ≤ 8) (hal : CallOK (O := Ob) PR n_law12_alive [] [] fun v m => v = .dv (.bool true) ∧ m = [])
    (h0 : CallOK (O := Ob) PR n_soc_New [plV c n k, .dv (.int .i64 mo)] [] fun v m => v = .tup [.ptr 0 0, .dv (.int .i64 0)] ∧ ∃ x, PO x ∧ m = [.obj x])
    (hf : CallOK (O := Ob) PR n_law12_few [plV c n k, .dv (.seq N 4 G)] [] fun v m => v = .dv (.bool true) ∧ m = [])
    (hdo : ∀ t, t < N → ∀ x, PO x → CallOK (O := Ob) PR n_law12_Do [.ptr 0 0, .agg [.dv (G t 0), .dv (G t 1), .dv (G t 2), .dv (G t 3)]] [.obj x] fun v m => Two v ∧ ∃ x, PO x ∧ m = [.obj x])
    (hP1 : HeldP k i a PO P1) :
    CallOK (O := Ob) PR n_law12_SocHeld [plV c n k, .dv (.int .i64 mo), xV N G i a] [] fun v m => v = .dv (.bool true) ∧ m = [] := by
  unfold plV at *; unfold xV; unfold Two at hdo; unfold HeldP at hP1
  obtain ⟨hi0, hi1⟩ := hi
  obtain ⟨hs1, hs2⟩ := hP1
  refine fn_walkv mixed fn_law12_SocHeld (Ent.refl _ _) fun bin cmp un conv bnot beq band sel isel ofN toN inb nz nneg lt le room' slb add sub sbin scmp slen sget ssub addk pc pb pi pf ps mkok min_ ig aeq P hP hA hF Q hQ => ?_
  have hb : bnot true = false := by simp only [hF]; rfl
  have h1 : cmp .geq i c = false := by simp only [hF, decide_eq_false_iff_not]; omega
  cbv
  repeat' first
    | (refine call_at hP [] code_soc_New (h0) rfl ?_ ?_ ?_; (focus ((repeat' (first | exact trivial | exact rfl | (intro _ _ _ _; exact rfl) | refine And.intro ?_ ?_)); done)); (focus (cbv; (try simp); done)); rintro _ _ ⟨rfl, x, hx, rfl⟩ _; cbv)
    | (refine call_pure hP code_law12_few (hf) ?_ ?_; (focus (cbv; (try simp); done)); rintro _ rfl; cbv)
    | ((rw [hb]); cbv)
    | ((rw [h1]); cbv)
    | (refine Chk.mk trivial ?_; cbv)
    | (refine bc_true (by first | assumption | (simp (disch := omega) only [hF, natc, w64_in, shs]; first | done | assumption | omega | (simp only [natc] at *; omega))) ?_; cbv)
    | (refine bc_false (by first | assumption | (simp (disch := omega) only [hF, natc, w64_in, shs]; first | done | assumption | omega | (simp only [natc] at *; omega))) ?_; cbv)
    | (refine bc_split (fun h => ?_) (fun h => ?_) <;> (try simp (disch := omega) only [hF, natc, w64_in, shs] at h) <;> cbv)
    | (refine IdxVC.mk (by simp (disch := omega) only [hF, natc, w64_in, shs]; first | done | omega | (simp only [natc] at *; omega)) (fun kx hk hk2 => ?_); simp (disch := omega) only [hF, natc, w64_in, shs] at hk; (try obtain rfl : kx = 0 := hk); cbv)
    | (refine Chk.mk (by simp (disch := omega) only [maxN, hF, natc, w64_in, shs]; first | done | assumption | omega | (simp only [natc] at *; omega)) ?_; cbv)
    | (intro (hmx : _ ≤ maxN); replace hmx : _ ≤ 17592186044416 := hmx; cbv)
    | (intro _; cbv)
  refine loop_ix mixed hP hA (ι := Nat × Ob) (fun y => N - y.1) (fun y => y.1 ≤ N ∧ PO y.2) [10, 57, 58, 59, 60, 61, 62, 63, 64] (fun y => [(57, .dv (.int .i64 (ofN y.1)))])
    (fun y => [.blk [.one (.dv (.int .i64 c)), .one (.dv (.int .i64 n)), .one (.dv (.int .i64 k))], .blk [.one (.dv (.seq N 4 G)), .one (.dv (.int .i64 i)), .one (.dv (.int .i64 a))], .obj y.2]) (0, x) ⟨Nat.zero_le _, hx⟩ (Ent.env (by cbv; simp [hF])) fun Nx y hNx hy => ?_
  obtain ⟨y, z⟩ := y
  simp only at hy hNx
  cbv
  obtain ⟨hyN, hz⟩ := hy
  by_cases hlt : y < N
  · have hd := hdo y hlt z hz
    cbv
    repeat' first
      | (refine call_at hP [2] code_law12_Do (hd) rfl ?_ ?_ ?_; (focus ((repeat' (first | exact trivial | exact rfl | (intro _ _ _ _; exact rfl) | refine And.intro ?_ ?_)); done)); (focus (cbv; (try simp); done)); rintro _ _ ⟨⟨u, e, rfl⟩, z', hz', rfl⟩ _; cbv)
      | (refine Chk.mk trivial ?_; cbv)
      | (refine bc_true (by first | assumption | (simp (disch := omega) only [hF, natc, w64_in, shs]; first | done | assumption | omega | (simp only [natc] at *; omega))) ?_; cbv)
      | (refine bc_false (by first | assumption | (simp (disch := omega) only [hF, natc, w64_in, shs]; first | done | assumption | omega | (simp only [natc] at *; omega))) ?_; cbv)
      | (refine bc_split (fun h => ?_) (fun h => ?_) <;> (try simp (disch := omega) only [hF, natc, w64_in, shs] at h) <;> cbv)
      | (refine IdxVC.mk (by simp (disch := omega) only [hF, natc, w64_in, shs]; first | done | omega | (simp only [natc] at *; omega)) (fun kx hk hk2 => ?_); simp (disch := omega) only [hF, natc, w64_in, shs] at hk; (try obtain rfl : kx = 0 := hk); (try obtain rfl : y = kx := hk.symm); cbv)
      | (refine Chk.mk (by simp (disch := omega) only [maxN, hF, natc, w64_in, shs]; first | done | assumption | omega | (simp only [natc] at *; omega)) ?_; cbv)
      | (intro (hmx : _ ≤ maxN); replace hmx : _ ≤ 17592186044416 := hmx; cbv)
      | (intro _; cbv)
    refine hNx _ (y + 1, z') ⟨hlt, hz'⟩ (by show N - (y + 1) < N - y; omega) (Ent.ren [0, 1, 2] rfl rfl ⟨⟨rfl, rfl, rfl, trivial⟩, ⟨rfl, rfl, rfl, trivial⟩, rfl, trivial⟩ (by cbv; simp (disch := omega) [hF, natc, w64_in]))
  · obtain rfl : y = N := by omega
    obtain ⟨was, b, k1, k2, k3, k4⟩ := hs1 z hz
    cbv
    repeat' first
      | (refine call_at hP [2] code_soc_Soc_Epoch (k1) rfl ?_ ?_ ?_; (focus ((repeat' (first | exact trivial | exact rfl | (intro _ _ _ _; exact rfl) | refine And.intro ?_ ?_)); done)); (focus (cbv; (try simp); done)); rintro _ _ ⟨rfl, rfl⟩ _; cbv)
      | (refine call_at hP [2] code_soc_Soc_Up (k2) rfl ?_ ?_ ?_; (focus ((repeat' (first | exact trivial | exact rfl | (intro _ _ _ _; exact rfl) | refine And.intro ?_ ?_)); done)); (focus (cbv; (try simp); done)); rintro _ _ ⟨rfl, rfl⟩ _; cbv)
      | (refine Chk.mk trivial ?_; cbv)
      | (refine bc_true (by first | assumption | (simp (disch := omega) only [hF, natc, w64_in, shs]; first | done | assumption | omega | (simp only [natc] at *; omega))) ?_; cbv)
      | (refine bc_false (by first | assumption | (simp (disch := omega) only [hF, natc, w64_in, shs]; first | done | assumption | omega | (simp only [natc] at *; omega))) ?_; cbv)
      | (refine bc_split (fun h => ?_) (fun h => ?_) <;> (try simp (disch := omega) only [hF, natc, w64_in, shs] at h) <;> cbv)
      | (refine IdxVC.mk (by simp (disch := omega) only [hF, natc, w64_in, shs]; first | done | omega | (simp only [natc] at *; omega)) (fun kx hk hk2 => ?_); simp (disch := omega) only [hF, natc, w64_in, shs] at hk; (try obtain rfl : kx = 0 := hk); cbv)
      | (refine Chk.mk (by simp (disch := omega) only [maxN, hF, natc, w64_in, shs]; first | done | assumption | omega | (simp only [natc] at *; omega)) ?_; cbv)
      | (intro (hmx : _ ≤ maxN); replace hmx : _ ≤ 17592186044416 := hmx; cbv)
      | (intro _; cbv)
    · have k3' := k3 (by assumption)
      cbv
      repeat' first
        | (refine call_at hP [2] code_soc_Soc_Hold (k3') rfl ?_ ?_ ?_; (focus ((repeat' (first | exact trivial | exact rfl | (intro _ _ _ _; exact rfl) | refine And.intro ?_ ?_)); done)); (focus (cbv; (try simp); done)); rintro _ _ ⟨rfl, z2, hz2, rfl⟩ _; cbv)
        | (refine Chk.mk trivial ?_; cbv)
        | (refine bc_true (by first | assumption | (simp (disch := omega) only [hF, natc, w64_in, shs]; first | done | assumption | omega | (simp only [natc] at *; omega))) ?_; cbv)
        | (refine bc_false (by first | assumption | (simp (disch := omega) only [hF, natc, w64_in, shs]; first | done | assumption | omega | (simp only [natc] at *; omega))) ?_; cbv)
        | (refine bc_split (fun h => ?_) (fun h => ?_) <;> (try simp (disch := omega) only [hF, natc, w64_in, shs] at h) <;> cbv)
        | (refine IdxVC.mk (by simp (disch := omega) only [hF, natc, w64_in, shs]; first | done | omega | (simp only [natc] at *; omega)) (fun kx hk hk2 => ?_); simp (disch := omega) only [hF, natc, w64_in, shs] at hk; (try obtain rfl : kx = 0 := hk); cbv)
        | (refine Chk.mk (by simp (disch := omega) only [maxN, hF, natc, w64_in, shs]; first | done | assumption | omega | (simp only [natc] at *; omega)) ?_; cbv)
        | (intro (hmx : _ ≤ maxN); replace hmx : _ ≤ 17592186044416 := hmx; cbv)
        | (intro _; cbv)
      obtain ⟨r1, r2, r3, r4, ⟨g, r5⟩, r6, x2, r7, r8, x3, r9, w0, w1, r10⟩ := hs2 was z2 hz2
      cbv
      repeat' first
        | (refine call_at hP [2] code_soc_Soc_Read (r1) rfl ?_ ?_ ?_; (focus ((repeat' (first | exact trivial | exact rfl | (intro _ _ _ _; exact rfl) | refine And.intro ?_ ?_)); done)); (focus (cbv; (try simp); done)); rintro _ _ ⟨rfl, rfl⟩ _; cbv)
        | (refine call_at hP [2] code_soc_Soc_Fence (r2) rfl ?_ ?_ ?_; (focus ((repeat' (first | exact trivial | exact rfl | (intro _ _ _ _; exact rfl) | refine And.intro ?_ ?_)); done)); (focus (cbv; (try simp); done)); rintro _ _ ⟨rfl, rfl⟩ _; cbv)
        | (refine call_at hP [2] code_soc_Soc_Write (r3) rfl ?_ ?_ ?_; (focus ((repeat' (first | exact trivial | exact rfl | (intro _ _ _ _; exact rfl) | refine And.intro ?_ ?_)); done)); (focus (cbv; (try simp); done)); rintro _ _ ⟨rfl, rfl⟩ _; cbv)
        | (refine call_at hP [2] code_soc_Soc_Hold (r4) rfl ?_ ?_ ?_; (focus ((repeat' (first | exact trivial | exact rfl | (intro _ _ _ _; exact rfl) | refine And.intro ?_ ?_)); done)); (focus (cbv; (try simp); done)); rintro _ _ ⟨rfl, rfl⟩ _; cbv)
        | (refine call_at hP [2] code_soc_Soc_Waits (r5) rfl ?_ ?_ ?_; (focus ((repeat' (first | exact trivial | exact rfl | (intro _ _ _ _; exact rfl) | refine And.intro ?_ ?_)); done)); (focus (cbv; (try simp); done)); rintro _ _ ⟨rfl, rfl⟩ _; cbv)
        | (refine Chk.mk trivial ?_; cbv)
        | (refine bc_true (by first | assumption | (simp (disch := omega) only [hF, natc, w64_in, shs]; first | done | assumption | omega | (simp only [natc] at *; omega))) ?_; cbv)
        | (refine bc_false (by first | assumption | (simp (disch := omega) only [hF, natc, w64_in, shs]; first | done | assumption | omega | (simp only [natc] at *; omega))) ?_; cbv)
        | (refine bc_split (fun h => ?_) (fun h => ?_) <;> (try simp (disch := omega) only [hF, natc, w64_in, shs] at h) <;> cbv)
        | (refine IdxVC.mk (by simp (disch := omega) only [hF, natc, w64_in, shs]; first | done | omega | (simp only [natc] at *; omega)) (fun kx hk hk2 => ?_); simp (disch := omega) only [hF, natc, w64_in, shs] at hk; (try obtain rfl : kx = 0 := hk); cbv)
        | (refine Chk.mk (by simp (disch := omega) only [maxN, hF, natc, w64_in, shs]; first | done | assumption | omega | (simp only [natc] at *; omega)) ?_; cbv)
        | (intro (hmx : _ ≤ maxN); replace hmx : _ ≤ 17592186044416 := hmx; cbv)
        | (intro _; cbv)
      refine loop_ix mixed hP hA (ι := Nat) (fun t => k - t) (fun t => t ≤ k) [6, 17, 18, 19, 131, 132, 133, 134, 135, 136, 137, 138, 139, 140, 141, 142, 143, 144, 145, 146, 147, 148] (fun t => [(131, .dv (.int .i64 (ofN t)))]) (fun t => [.blk [.one (.dv (.int .i64 c)), .one (.dv (.int .i64 n)), .one (.dv (.int .i64 k))], .blk [.one (.dv (.seq y 4 G)), .one (.dv (.int .i64 i)), .one (.dv (.int .i64 a))], .obj z2, .vec 0 1 fun i _ => .dv (g i)]) 0 (Nat.zero_le _) (Ent.ren [0, 1, 2, 3] rfl rfl ⟨⟨rfl, rfl, rfl, trivial⟩, ⟨rfl, rfl, rfl, trivial⟩, rfl, ⟨rfl, rfl, fun _ _ _ _ => rfl⟩, trivial⟩ (by cbv; simp [hF])) fun Nx t hNx ht => ?_
      cbv
      by_cases hlt2 : t < k
      · obtain ⟨who, hw, ho⟩ := r6 t (ofN t) hlt2 (by simp only [hF])
        have hq : cmp .eql who i = false := by simp only [hF, decide_eq_false_iff_not]; exact hw
        cbv
        repeat' first
          | (refine call_at hP [2] code_soc_Soc_Owner (ho) rfl ?_ ?_ ?_; (focus ((repeat' (first | exact trivial | exact rfl | (intro _ _ _ _; exact rfl) | refine And.intro ?_ ?_)); done)); (focus (cbv; (try simp); done)); rintro _ _ ⟨rfl, rfl⟩ _; cbv)
          | ((rw [hq]); cbv)
          | (refine Chk.mk trivial ?_; cbv)
          | (refine bc_true (by first | assumption | (simp (disch := omega) only [hF, natc, w64_in, shs]; first | done | assumption | omega | (simp only [natc] at *; omega))) ?_; cbv)
          | (refine bc_false (by first | assumption | (simp (disch := omega) only [hF, natc, w64_in, shs]; first | done | assumption | omega | (simp only [natc] at *; omega))) ?_; cbv)
          | (refine bc_split (fun h => ?_) (fun h => ?_) <;> (try simp (disch := omega) only [hF, natc, w64_in, shs] at h) <;> cbv)
          | (refine IdxVC.mk (by simp (disch := omega) only [hF, natc, w64_in, shs]; first | done | omega | (simp only [natc] at *; omega)) (fun kx hk hk2 => ?_); simp (disch := omega) only [hF, natc, w64_in, shs] at hk; (try obtain rfl : kx = 0 := hk); cbv)
          | (refine Chk.mk (by simp (disch := omega) only [maxN, hF, natc, w64_in, shs]; first | done | assumption | omega | (simp only [natc] at *; omega)) ?_; cbv)
          | (intro (hmx : _ ≤ maxN); replace hmx : _ ≤ 17592186044416 := hmx; cbv)
          | (intro _; cbv)
        exact hNx _ (t + 1) hlt2 (by show k - (t + 1) < k - t; omega) (Ent.ren [0, 1, 2, 3] rfl rfl ⟨⟨rfl, rfl, rfl, trivial⟩, ⟨rfl, rfl, rfl, trivial⟩, rfl, ⟨rfl, rfl, fun _ _ _ _ => rfl⟩, trivial⟩ (by cbv; simp (disch := omega) [hF, natc, w64_in]))
      · obtain rfl : t = k := by omega
        have hg2 : bin .add .i64 66048 i = 66048 + i := by simp only [hF]; rw [w64_in (by omega)]
        have hr : bin .rem .i64 (bin .add .i64 was 1) 65536 = (was + 1) % 65536 := by
          simp only [hF]
          rw [w64_in (n := was + 1) (by omega), Int.tmod_eq_emod_of_nonneg (by omega)]
        generalize (was + 1) % 65536 = now at *
        have hq : cmp .eql now now = true := by simp only [hF]; simp
        cbv
        repeat' first
          | (refine call_at hP [2] code_soc_Soc_Start (r7) rfl ?_ ?_ ?_; (focus ((repeat' (first | exact trivial | exact rfl | (intro _ _ _ _; exact rfl) | refine And.intro ?_ ?_)); done)); (focus (cbv; (try simp); done)); rintro _ _ ⟨rfl, rfl⟩ _; cbv)
          | (refine call_at hP [2] code_soc_Soc_Start (r8) rfl ?_ ?_ ?_; (focus ((repeat' (first | exact trivial | exact rfl | (intro _ _ _ _; exact rfl) | refine And.intro ?_ ?_)); done)); (focus (cbv; (try simp); done)); rintro _ _ ⟨rfl, rfl⟩ _; cbv)
          | ((rw [hg2]); cbv)
          | (refine call_at hP [2] code_soc_Soc_Read (r9) rfl ?_ ?_ ?_; (focus ((repeat' (first | exact trivial | exact rfl | (intro _ _ _ _; exact rfl) | refine And.intro ?_ ?_)); done)); (focus (cbv; (try simp); done)); rintro _ _ ⟨rfl, rfl⟩ _; cbv)
          | (refine call_at hP [2] code_soc_Soc_Up (r10) rfl ?_ ?_ ?_; (focus ((repeat' (first | exact trivial | exact rfl | (intro _ _ _ _; exact rfl) | refine And.intro ?_ ?_)); done)); (focus (cbv; (try simp); done)); rintro _ _ ⟨rfl, rfl⟩ _; cbv)
          | ((rw [hr]); cbv)
          | ((rw [hq]); cbv)
          | (refine call_pure hP code_law12_alive (hal) ?_ ?_; (focus (cbv; (try simp); done)); rintro _ rfl; cbv)
          | (refine Chk.mk trivial ?_; cbv)
          | (refine bc_true (by first | assumption | (simp (disch := omega) only [hF, natc, w64_in, shs]; first | done | assumption | omega | (simp only [natc] at *; omega))) ?_; cbv)
          | (refine bc_false (by first | assumption | (simp (disch := omega) only [hF, natc, w64_in, shs]; first | done | assumption | omega | (simp only [natc] at *; omega))) ?_; cbv)
          | (refine bc_split (fun h => ?_) (fun h => ?_) <;> (try simp (disch := omega) only [hF, natc, w64_in, shs] at h) <;> cbv)
          | (refine IdxVC.mk (by simp (disch := omega) only [hF, natc, w64_in, shs]; first | done | omega | (simp only [natc] at *; omega)) (fun kx hk hk2 => ?_); simp (disch := omega) only [hF, natc, w64_in, shs] at hk; (try obtain rfl : kx = 0 := hk); cbv)
          | (refine Chk.mk (by simp (disch := omega) only [maxN, hF, natc, w64_in, shs]; first | done | assumption | omega | (simp only [natc] at *; omega)) ?_; cbv)
          | (intro (hmx : _ ≤ maxN); replace hmx : _ ≤ 17592186044416 := hmx; cbv)
          | (intro _; cbv)
        subst hQ; exact leaf_data rfl rfl ⟨rfl, rfl⟩
    · have hz2 := k4 (by simp_all)
      obtain ⟨r1, r2, r3, r4, ⟨g, r5⟩, r6, x2, r7, r8, x3, r9, w0, w1, r10⟩ := hs2 was z hz2
      cbv
      repeat' first
        | (refine call_at hP [2] code_soc_Soc_Read (r1) rfl ?_ ?_ ?_; (focus ((repeat' (first | exact trivial | exact rfl | (intro _ _ _ _; exact rfl) | refine And.intro ?_ ?_)); done)); (focus (cbv; (try simp); done)); rintro _ _ ⟨rfl, rfl⟩ _; cbv)
        | (refine call_at hP [2] code_soc_Soc_Fence (r2) rfl ?_ ?_ ?_; (focus ((repeat' (first | exact trivial | exact rfl | (intro _ _ _ _; exact rfl) | refine And.intro ?_ ?_)); done)); (focus (cbv; (try simp); done)); rintro _ _ ⟨rfl, rfl⟩ _; cbv)
        | (refine call_at hP [2] code_soc_Soc_Write (r3) rfl ?_ ?_ ?_; (focus ((repeat' (first | exact trivial | exact rfl | (intro _ _ _ _; exact rfl) | refine And.intro ?_ ?_)); done)); (focus (cbv; (try simp); done)); rintro _ _ ⟨rfl, rfl⟩ _; cbv)
        | (refine call_at hP [2] code_soc_Soc_Hold (r4) rfl ?_ ?_ ?_; (focus ((repeat' (first | exact trivial | exact rfl | (intro _ _ _ _; exact rfl) | refine And.intro ?_ ?_)); done)); (focus (cbv; (try simp); done)); rintro _ _ ⟨rfl, rfl⟩ _; cbv)
        | (refine call_at hP [2] code_soc_Soc_Waits (r5) rfl ?_ ?_ ?_; (focus ((repeat' (first | exact trivial | exact rfl | (intro _ _ _ _; exact rfl) | refine And.intro ?_ ?_)); done)); (focus (cbv; (try simp); done)); rintro _ _ ⟨rfl, rfl⟩ _; cbv)
        | (refine Chk.mk trivial ?_; cbv)
        | (refine bc_true (by first | assumption | (simp (disch := omega) only [hF, natc, w64_in, shs]; first | done | assumption | omega | (simp only [natc] at *; omega))) ?_; cbv)
        | (refine bc_false (by first | assumption | (simp (disch := omega) only [hF, natc, w64_in, shs]; first | done | assumption | omega | (simp only [natc] at *; omega))) ?_; cbv)
        | (refine bc_split (fun h => ?_) (fun h => ?_) <;> (try simp (disch := omega) only [hF, natc, w64_in, shs] at h) <;> cbv)
        | (refine IdxVC.mk (by simp (disch := omega) only [hF, natc, w64_in, shs]; first | done | omega | (simp only [natc] at *; omega)) (fun kx hk hk2 => ?_); simp (disch := omega) only [hF, natc, w64_in, shs] at hk; (try obtain rfl : kx = 0 := hk); cbv)
        | (refine Chk.mk (by simp (disch := omega) only [maxN, hF, natc, w64_in, shs]; first | done | assumption | omega | (simp only [natc] at *; omega)) ?_; cbv)
        | (intro (hmx : _ ≤ maxN); replace hmx : _ ≤ 17592186044416 := hmx; cbv)
        | (intro _; cbv)
      refine loop_ix mixed hP hA (ι := Nat) (fun t => k - t) (fun t => t ≤ k) [6, 17, 18, 19, 131, 132, 133, 134, 135, 136, 137, 138, 139, 140, 141, 142, 143, 144, 145, 146, 147, 148] (fun t => [(131, .dv (.int .i64 (ofN t)))]) (fun t => [.blk [.one (.dv (.int .i64 c)), .one (.dv (.int .i64 n)), .one (.dv (.int .i64 k))], .blk [.one (.dv (.seq y 4 G)), .one (.dv (.int .i64 i)), .one (.dv (.int .i64 a))], .obj z, .vec 0 1 fun i _ => .dv (g i)]) 0 (Nat.zero_le _) (Ent.ren [0, 1, 2, 3] rfl rfl ⟨⟨rfl, rfl, rfl, trivial⟩, ⟨rfl, rfl, rfl, trivial⟩, rfl, ⟨rfl, rfl, fun _ _ _ _ => rfl⟩, trivial⟩ (by cbv; simp [hF])) fun Nx t hNx ht => ?_
      cbv
      by_cases hlt2 : t < k
      · obtain ⟨who, hw, ho⟩ := r6 t (ofN t) hlt2 (by simp only [hF])
        have hq : cmp .eql who i = false := by simp only [hF, decide_eq_false_iff_not]; exact hw
        cbv
        repeat' first
          | (refine call_at hP [2] code_soc_Soc_Owner (ho) rfl ?_ ?_ ?_; (focus ((repeat' (first | exact trivial | exact rfl | (intro _ _ _ _; exact rfl) | refine And.intro ?_ ?_)); done)); (focus (cbv; (try simp); done)); rintro _ _ ⟨rfl, rfl⟩ _; cbv)
          | ((rw [hq]); cbv)
          | (refine Chk.mk trivial ?_; cbv)
          | (refine bc_true (by first | assumption | (simp (disch := omega) only [hF, natc, w64_in, shs]; first | done | assumption | omega | (simp only [natc] at *; omega))) ?_; cbv)
          | (refine bc_false (by first | assumption | (simp (disch := omega) only [hF, natc, w64_in, shs]; first | done | assumption | omega | (simp only [natc] at *; omega))) ?_; cbv)
          | (refine bc_split (fun h => ?_) (fun h => ?_) <;> (try simp (disch := omega) only [hF, natc, w64_in, shs] at h) <;> cbv)
          | (refine IdxVC.mk (by simp (disch := omega) only [hF, natc, w64_in, shs]; first | done | omega | (simp only [natc] at *; omega)) (fun kx hk hk2 => ?_); simp (disch := omega) only [hF, natc, w64_in, shs] at hk; (try obtain rfl : kx = 0 := hk); cbv)
          | (refine Chk.mk (by simp (disch := omega) only [maxN, hF, natc, w64_in, shs]; first | done | assumption | omega | (simp only [natc] at *; omega)) ?_; cbv)
          | (intro (hmx : _ ≤ maxN); replace hmx : _ ≤ 17592186044416 := hmx; cbv)
          | (intro _; cbv)
        exact hNx _ (t + 1) hlt2 (by show k - (t + 1) < k - t; omega) (Ent.ren [0, 1, 2, 3] rfl rfl ⟨⟨rfl, rfl, rfl, trivial⟩, ⟨rfl, rfl, rfl, trivial⟩, rfl, ⟨rfl, rfl, fun _ _ _ _ => rfl⟩, trivial⟩ (by cbv; simp (disch := omega) [hF, natc, w64_in]))
      · obtain rfl : t = k := by omega
        have hg2 : bin .add .i64 66048 i = 66048 + i := by simp only [hF]; rw [w64_in (by omega)]
        have hr : bin .rem .i64 (bin .add .i64 was 1) 65536 = (was + 1) % 65536 := by
          simp only [hF]
          rw [w64_in (n := was + 1) (by omega), Int.tmod_eq_emod_of_nonneg (by omega)]
        generalize (was + 1) % 65536 = now at *
        have hq : cmp .eql now now = true := by simp only [hF]; simp
        cbv
        repeat' first
          | (refine call_at hP [2] code_soc_Soc_Start (r7) rfl ?_ ?_ ?_; (focus ((repeat' (first | exact trivial | exact rfl | (intro _ _ _ _; exact rfl) | refine And.intro ?_ ?_)); done)); (focus (cbv; (try simp); done)); rintro _ _ ⟨rfl, rfl⟩ _; cbv)
          | (refine call_at hP [2] code_soc_Soc_Start (r8) rfl ?_ ?_ ?_; (focus ((repeat' (first | exact trivial | exact rfl | (intro _ _ _ _; exact rfl) | refine And.intro ?_ ?_)); done)); (focus (cbv; (try simp); done)); rintro _ _ ⟨rfl, rfl⟩ _; cbv)
          | ((rw [hg2]); cbv)
          | (refine call_at hP [2] code_soc_Soc_Read (r9) rfl ?_ ?_ ?_; (focus ((repeat' (first | exact trivial | exact rfl | (intro _ _ _ _; exact rfl) | refine And.intro ?_ ?_)); done)); (focus (cbv; (try simp); done)); rintro _ _ ⟨rfl, rfl⟩ _; cbv)
          | (refine call_at hP [2] code_soc_Soc_Up (r10) rfl ?_ ?_ ?_; (focus ((repeat' (first | exact trivial | exact rfl | (intro _ _ _ _; exact rfl) | refine And.intro ?_ ?_)); done)); (focus (cbv; (try simp); done)); rintro _ _ ⟨rfl, rfl⟩ _; cbv)
          | ((rw [hr]); cbv)
          | ((rw [hq]); cbv)
          | (refine call_pure hP code_law12_alive (hal) ?_ ?_; (focus (cbv; (try simp); done)); rintro _ rfl; cbv)
          | (refine Chk.mk trivial ?_; cbv)
          | (refine bc_true (by first | assumption | (simp (disch := omega) only [hF, natc, w64_in, shs]; first | done | assumption | omega | (simp only [natc] at *; omega))) ?_; cbv)
          | (refine bc_false (by first | assumption | (simp (disch := omega) only [hF, natc, w64_in, shs]; first | done | assumption | omega | (simp only [natc] at *; omega))) ?_; cbv)
          | (refine bc_split (fun h => ?_) (fun h => ?_) <;> (try simp (disch := omega) only [hF, natc, w64_in, shs] at h) <;> cbv)
          | (refine IdxVC.mk (by simp (disch := omega) only [hF, natc, w64_in, shs]; first | done | omega | (simp only [natc] at *; omega)) (fun kx hk hk2 => ?_); simp (disch := omega) only [hF, natc, w64_in, shs] at hk; (try obtain rfl : kx = 0 := hk); cbv)
          | (refine Chk.mk (by simp (disch := omega) only [maxN, hF, natc, w64_in, shs]; first | done | assumption | omega | (simp only [natc] at *; omega)) ?_; cbv)
          | (intro (hmx : _ ≤ maxN); replace hmx : _ ≤ 17592186044416 := hmx; cbv)
          | (intro _; cbv)
        subst hQ; exact leaf_data rfl rfl ⟨rfl, rfl⟩

end Go.Proofs.YtiaceoomiflgcaaGreat

end

section
namespace Go.Proofs.YtiaceoomiflgcaaGreat
open Go.V
set_option linter.unusedVariables false
set_option linter.unusedSimpArgs false
set_option maxRecDepth 100000
set_option maxHeartbeats 8000000

theorem heldP (c n i a : Int) (k : Nat) (hi : 0 ≤ i ∧ i < c) :
    HeldP k i a (fun x => ∃ S : SocS, S.ok ∧ (S.c : Int) = c ∧ (S.n : Int) = n ∧ S.k = k ∧ x = socO S)
      (fun was x => ∃ S : SocS, S.ok ∧ (S.c : Int) = c ∧ S.k = k ∧ S.hd i.toNat = true ∧ S.ep i.toNat = was ∧ x = socO S) := by
  obtain ⟨j, rfl⟩ : ∃ j : Nat, i = j := ⟨i.toNat, by omega⟩
  rw [Int.toNat_natCast]
  constructor
  · rintro x ⟨S, hS, hc, hn, hk, rfl⟩
    have hj : j < S.c := by omega
    refine ⟨S.ep j, !S.hd j, sEpoch_in S hS j hj, sUp_in S hS j hj, fun hb => ?_, fun hb => ?_⟩
    · have hh : S.hd j = false := by simpa using hb
      exact (sHold_in S hS j hj hh).mono fun v m ⟨hv, S', h1, h2, h3, _, hm⟩ => ⟨hv, _, ⟨S', h1.1, by rw [h1.2.1]; exact hc, h1.2.2.2.trans hk, h3, by rw [h2], rfl⟩, hm⟩
    · have hh : S.hd j = true := by simpa using hb
      exact ⟨S, hS, hc, hk, hh, rfl, rfl⟩
  · rintro was x ⟨S, hS, hc, hk, hh, rfl, rfl⟩
    have hj : j < S.c := by omega
    obtain ⟨h1, h2, h3⟩ := sOff S hS j hj hh a 0
    have hN := hS.started j
    have hh2 : (S.started j).hd j = false := if_pos rfl
    have hN3 := hN.1.fen j hj
    refine ⟨h1, h2, h3, sHold_busy S hS j hj hh, ⟨_, sWaits_in S hS j hj (hS.hhd j hj hh).1⟩, fun t u ht hu => ?_, socO (S.started j), sStart_in S hS j hj hh, sStart_idle _ hN.1 j hj hh2, socO ((S.started j).fen j), ?_, (hS.hep j).1, (hS.hep j).2, ?_⟩
    · subst hu
      exact ⟨S.ow t - 1, fun e => (hS.hhd j hj hh).2 t (by omega), sOwner_in S hS t (by omega)⟩
    · have h := sRead_gate_in _ hN.1 j j hj hh2 hj
      have e : (S.started j).ep j = (S.ep j + 1) % 65536 := if_pos rfl
      rw [e] at h
      exact h
    · have h := sUp_in _ hN3.1 j hj
      have e : ((S.started j).fen j).hd j = false := hh2
      rw [e] at h
      exact h

def i64 (x : Int) : Prop := -9223372036854775808 ≤ x ∧ x ≤ 9223372036854775807

/-- The calls of a law's list are calls. -/
def okOps (N : Nat) (G : Nat → Nat → DV) : Prop := ∀ t, t < N → ∃ k c a w, a ≤ 9223372036854775807 ∧ G t 0 = .int .i64 k ∧ G t 1 = .int .i64 c ∧ G t 2 = .int .i64 a ∧ G t 3 = .int .i64 w

theorem ok_ops (c n : Int) (k N : Nat) (G : Nat → Nat → DV) (hG : okOps N G) (t : Nat) (ht : t < N) (x : Ob) (hx : ∃ S : SocS, S.ok ∧ (S.c : Int) = c ∧ (S.n : Int) = n ∧ S.k = k ∧ x = socO S) :
    CallOK (O := Ob) PR n_law12_Do [.ptr 0 0, .agg [.dv (G t 0), .dv (G t 1), .dv (G t 2), .dv (G t 3)]] [.obj x] fun v m => Two v ∧ ∃ x, (∃ S : SocS, S.ok ∧ (S.c : Int) = c ∧ (S.n : Int) = n ∧ S.k = k ∧ x = socO S) ∧ m = [.obj x] := by
  obtain ⟨S, hS, hc, hn, hk, rfl⟩ := hx
  obtain ⟨kk, cc, aa, ww, ha, e0, e1, e2, e3⟩ := hG t ht
  rw [e0, e1, e2, e3]
  exact (ok_Do S hS kk cc aa ww ha).mono fun v m ⟨hv, S', h1, hm⟩ => ⟨hv, _, ⟨S', h1.1, by rw [h1.2.1]; exact hc, by rw [h1.2.2.1]; exact hn, h1.2.2.2.trans hk, rfl⟩, hm⟩

theorem ok_SocHeld (c n k mo i a : Int) (N : Nat) (G : Nat → Nat → DV) (hc : i64 c) (hn : i64 n) (hk : i64 k) (hG : okOps N G) :
    CallOK (O := Ob) PR n_law12_SocHeld [plV c n k, .dv (.int .i64 mo), xV N G i a] [] fun v m => v = .dv (.bool true) ∧ m = [] := by
  by_cases hv : (1 ≤ c ∧ c ≤ 8) ∧ (1 ≤ n ∧ n ≤ 65536) ∧ (1 ≤ k ∧ k ≤ 16) ∧ 1 ≤ mo ∧ mo ≤ 16
  · obtain ⟨h1, h2, h3, h4⟩ := hv
    obtain ⟨k, rfl⟩ : ∃ j : Nat, k = j := ⟨k.toNat, by omega⟩
    have h0 : CallOK (O := Ob) PR n_soc_New [plV c n k, .dv (.int .i64 mo)] [] fun v m => v = .tup [.ptr 0 0, .dv (.int .i64 0)] ∧ ∃ x, (∃ S : SocS, S.ok ∧ (S.c : Int) = c ∧ (S.n : Int) = n ∧ S.k = k ∧ x = socO S) ∧ m = [.obj x] :=
      (sNew_ok c n k mo h1 h2 h3 h4).mono fun v m ⟨hv, S, g1, g2, g3, g4, _, _, _, hm⟩ => ⟨hv, _, ⟨S, g1, g2, g3, by omega, rfl⟩, hm⟩
    have hf := ok_few c n k N G
    by_cases hfew : N ≤ 60 ∧ n ≤ 100
    · rw [decide_eq_true hfew] at hf
      by_cases hi : 0 ≤ i ∧ i < c
      · exact held_w c n mo i a k N (by omega) hfew.1 G _ _ hi h1.2 ok_alive h0 hf (fun t ht x hx => ok_ops c n k N G hG t ht x hx) (heldP c n i a k hi)
      · exact held_core c n k mo i a N G _ (by omega) ok_alive h0 hf
    · rw [decide_eq_false hfew] at hf
      exact held_few c n k mo i a N G _ ok_alive h0 hf
  · exact held_no c n k mo i a N G ok_alive (sNew_no c n k mo ⟨hc, hn, hk⟩ hv)

end Go.Proofs.YtiaceoomiflgcaaGreat

end

namespace Go.Proofs.YtiaceoomiflgcaaGreat
open Go.V

theorem in64' {n : Int} (h : IntKind.i64.has n) : i64 n := by
  simpa [i64, IntKind.has, IntKind.min, IntKind.max, IntKind.bits, IntKind.signed] using h

theorem plan_of {g : Nat → DV} (h : Ty.hasL [.int .i64, .int .i64, .int .i64] g) : ∃ c n k, i64 c ∧ i64 n ∧ i64 k ∧ (SV.agg [.dv (g 0), .dv (g 1), .dv (g 2)]) = plV c n k := by
  obtain ⟨⟨c, hc, e0⟩, ⟨n, hn, e1⟩, ⟨k, hk, e2⟩, _⟩ := h
  have e0 : g 0 = _ := e0
  have e1 : g 1 = _ := e1
  have e2 : g 2 = _ := e2
  exact ⟨c, n, k, in64' hc, in64' hn, in64' hk, by rw [e0, e1, e2]; rfl⟩

theorem locking_of {g : Nat → DV} (h : Ty.hasL [.slice [.int .i64, .int .i64, .int .i64, .int .i64], .int .i64, .int .i64] g) : ∃ N G i a, okOps N G ∧ (SV.agg [.dv (g 0), .dv (g 1), .dv (g 2)]) = xV N G i a := by
  obtain ⟨⟨N, G, e0, _, hG⟩, ⟨i, _, e1⟩, ⟨a, _, e2⟩, _⟩ := h
  have e0 : g 0 = .seq N 4 G := e0
  have e1 : g 1 = _ := e1
  have e2 : g 2 = _ := e2
  refine ⟨N, G, i, a, fun t ht => ?_, by rw [e0, e1, e2]; rfl⟩
  obtain ⟨⟨a0, _, h0⟩, ⟨a1, _, h1⟩, ⟨a2, r2, h2⟩, ⟨a3, _, h3⟩, _⟩ := hG t ht
  exact ⟨a0, a1, a2, a3, (in64' r2).2, h0, h1, h2, h3⟩

end Go.Proofs.YtiaceoomiflgcaaGreat
