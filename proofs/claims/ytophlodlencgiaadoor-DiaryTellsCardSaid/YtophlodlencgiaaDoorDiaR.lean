/-
  Walks: whether any two diaries are the same, the text of each entry, and how many have any answer, is what the document says.
-/
import Derived.Test.YtophlodlencgiaaDoorDiaP
import Derived.Test.YtophlodlencgiaaDoorDiaQ
import Derived.Test.YtophlodlencgiaaDoorDiaE
namespace Go.Proofs.YtophlodlencgiaaDoor
open Go.V
set_option linter.unusedVariables false
set_option linter.unusedSimpArgs false
set_option maxRecDepth 100000
set_option maxHeartbeats 8000000

/-- Whole numbers of 64 bits. -/
def Ents.rng {n : Nat} {G : Nat → Nat → DV} (S : Ents n G) : Prop := ∀ i, i < n → In64 (S.co i) ∧ In64 (S.pe i) ∧ In64 (S.be i) ∧ In64 (S.en i) ∧ In64 (S.er i)

theorem few_of {n : Nat} {G : Nat → Nat → DV} (S : Ents n G) : ∃ b : Bool, (b = true → n ≤ 100 ∧ ∀ i, i < n → S.m i ≤ 100) ∧ CallOK (O := Ob) PR n_law19_Few [.dv (.seq n 8 G), .dv (.int .i64 100)] [] fun r m => r = .dv (.bool b) ∧ m = [] := by
  by_cases h : ¬ (100 : Int) < (n : Int) ∧ ∀ i, i < n → S.m i ≤ 100
  · exact ⟨true, fun _ => ⟨by omega, h.2⟩, (okR_Few S 100).mono fun r m ⟨⟨v, hv, e⟩, hm⟩ => ⟨by rw [e, hv.2 h], hm⟩⟩
  · exact ⟨false, nofun, (okR_Few S 100).mono fun r m ⟨⟨v, hv, e⟩, hm⟩ => ⟨by rw [e, Bool.eq_false_iff.2 fun h' => h (hv.1 h')], hm⟩⟩

theorem ok_DiaryTells {n : Nat} {G : Nat → Nat → DV} (S : Ents n G) (hS : S.rng) {k : Nat} {H : Nat → Nat → DV} (T : Ents k H) (kd e : Int) :
    CallOK (O := Ob) PR n_law19_DiaryTells [.dv (.seq n 8 G), .dv (.seq k 8 H), .dv (.int .i64 kd), .dv (.int .i64 e)] [] fun r m => r = .dv (.bool true) ∧ m = [] := by
  obtain ⟨b1, hb1, f1⟩ := few_of S
  obtain ⟨b2, hb2, f2⟩ := few_of T
  cases b1 with
  | false =>
    refine fn_walkv mixed fn_law19_DiaryTells (Ent.refl _ _) fun bin cmp un conv bnot beq band sel isel ofN toN inb nz nneg lt le room' slb add sub sbin scmp slen sget ssub addk pc pb pi pf ps mkok min_ ig aeq P hP hA hF Q hQ => ?_
    cbv
    repeat' first
      | (refine Chk.mk trivial ?_; cbv)
      | (refine bc_true (by first | assumption | (simp (disch := omega) only [hF, natc, Int.ofNat_eq_natCast, w64_in, decide_eq_true_eq, decide_eq_false_iff_not, Int.toNat_natCast, Bool.not_eq_true', Bool.not_eq_false', not_true_eq_false, not_false_eq_true, Int.not_lt, Int.not_le, Bool.and_eq_true, Bool.or_eq_true, Int.ofNat_lt, Int.ofNat_le, Int.natCast_nonneg, Int.toNat_zero, Int.toNat_one, Classical.not_not, beq_self_eq_true, true_and, and_true]; first | done | assumption | omega | (simp only [natc] at *; omega))) ?_; cbv)
      | (refine bc_false (by first | assumption | (simp (disch := omega) only [hF, natc, Int.ofNat_eq_natCast, w64_in, decide_eq_true_eq, decide_eq_false_iff_not, Int.toNat_natCast, Bool.not_eq_true', Bool.not_eq_false', not_true_eq_false, not_false_eq_true, Int.not_lt, Int.not_le, Bool.and_eq_true, Bool.or_eq_true, Int.ofNat_lt, Int.ofNat_le, Int.natCast_nonneg, Int.toNat_zero, Int.toNat_one, Classical.not_not, beq_self_eq_true, true_and, and_true]; first | done | assumption | omega | (simp only [natc] at *; omega))) ?_; cbv)
      | (refine bc_split (fun h => ?_) (fun h => ?_) <;> (try simp (disch := omega) only [hF, natc, Int.ofNat_eq_natCast, w64_in, decide_eq_true_eq, decide_eq_false_iff_not, Int.toNat_natCast, Bool.not_eq_true', Bool.not_eq_false', not_true_eq_false, not_false_eq_true, Int.not_lt, Int.not_le, Bool.and_eq_true, Bool.or_eq_true, Int.ofNat_lt, Int.ofNat_le, Int.natCast_nonneg, Int.toNat_zero, Int.toNat_one, Classical.not_not, beq_self_eq_true, true_and, and_true] at h) <;> cbv)
      | (refine IdxVC.mk (by simp (disch := omega) only [hF, natc, Int.ofNat_eq_natCast, w64_in, decide_eq_true_eq, decide_eq_false_iff_not, Int.toNat_natCast, Bool.not_eq_true', Bool.not_eq_false', not_true_eq_false, not_false_eq_true, Int.not_lt, Int.not_le, Bool.and_eq_true, Bool.or_eq_true, Int.ofNat_lt, Int.ofNat_le, Int.natCast_nonneg, Int.toNat_zero, Int.toNat_one, Classical.not_not, beq_self_eq_true, true_and, and_true]; first | done | omega | (simp only [natc] at *; omega)) (fun kx hk hk2 => ?_); simp (disch := omega) only [hF, natc, Int.ofNat_eq_natCast, w64_in, decide_eq_true_eq, decide_eq_false_iff_not, Int.toNat_natCast, Bool.not_eq_true', Bool.not_eq_false', not_true_eq_false, not_false_eq_true, Int.not_lt, Int.not_le, Bool.and_eq_true, Bool.or_eq_true, Int.ofNat_lt, Int.ofNat_le, Int.natCast_nonneg, Int.toNat_zero, Int.toNat_one, Classical.not_not, beq_self_eq_true, true_and, and_true] at hk; (try obtain rfl : kx = 0 := hk); cbv)
      | (refine Chk.mk (by simp (disch := omega) only [maxN, hF, natc, Int.ofNat_eq_natCast, w64_in, decide_eq_true_eq, decide_eq_false_iff_not, Int.toNat_natCast, Bool.not_eq_true', Bool.not_eq_false', not_true_eq_false, not_false_eq_true, Int.not_lt, Int.not_le, Bool.and_eq_true, Bool.or_eq_true, Int.ofNat_lt, Int.ofNat_le, Int.natCast_nonneg, Int.toNat_zero, Int.toNat_one, Classical.not_not, beq_self_eq_true, true_and, and_true]; first | done | assumption | omega | (simp only [natc] at *; omega)) ?_; cbv)
      | (intro (hmx : _ ≤ maxN); replace hmx : _ ≤ 17592186044416 := hmx; cbv)
      | (intro _; cbv)
      | (refine call_pure hP code_law19_Few (f1) ?_ ?_; (focus (cbv; (try simp); done)); rintro _ rfl; cbv)
      | (refine call_pure hP code_law19_alive (ok_alive) ?_ ?_; (focus (cbv; (try simp); done)); rintro _ rfl; cbv)
    subst hQ; exact leaf_data rfl rfl ⟨rfl, rfl⟩
  | true =>
  cases b2 with
  | false =>
    refine fn_walkv mixed fn_law19_DiaryTells (Ent.refl _ _) fun bin cmp un conv bnot beq band sel isel ofN toN inb nz nneg lt le room' slb add sub sbin scmp slen sget ssub addk pc pb pi pf ps mkok min_ ig aeq P hP hA hF Q hQ => ?_
    cbv
    repeat' first
      | (refine Chk.mk trivial ?_; cbv)
      | (refine bc_true (by first | assumption | (simp (disch := omega) only [hF, natc, Int.ofNat_eq_natCast, w64_in, decide_eq_true_eq, decide_eq_false_iff_not, Int.toNat_natCast, Bool.not_eq_true', Bool.not_eq_false', not_true_eq_false, not_false_eq_true, Int.not_lt, Int.not_le, Bool.and_eq_true, Bool.or_eq_true, Int.ofNat_lt, Int.ofNat_le, Int.natCast_nonneg, Int.toNat_zero, Int.toNat_one, Classical.not_not, beq_self_eq_true, true_and, and_true]; first | done | assumption | omega | (simp only [natc] at *; omega))) ?_; cbv)
      | (refine bc_false (by first | assumption | (simp (disch := omega) only [hF, natc, Int.ofNat_eq_natCast, w64_in, decide_eq_true_eq, decide_eq_false_iff_not, Int.toNat_natCast, Bool.not_eq_true', Bool.not_eq_false', not_true_eq_false, not_false_eq_true, Int.not_lt, Int.not_le, Bool.and_eq_true, Bool.or_eq_true, Int.ofNat_lt, Int.ofNat_le, Int.natCast_nonneg, Int.toNat_zero, Int.toNat_one, Classical.not_not, beq_self_eq_true, true_and, and_true]; first | done | assumption | omega | (simp only [natc] at *; omega))) ?_; cbv)
      | (refine bc_split (fun h => ?_) (fun h => ?_) <;> (try simp (disch := omega) only [hF, natc, Int.ofNat_eq_natCast, w64_in, decide_eq_true_eq, decide_eq_false_iff_not, Int.toNat_natCast, Bool.not_eq_true', Bool.not_eq_false', not_true_eq_false, not_false_eq_true, Int.not_lt, Int.not_le, Bool.and_eq_true, Bool.or_eq_true, Int.ofNat_lt, Int.ofNat_le, Int.natCast_nonneg, Int.toNat_zero, Int.toNat_one, Classical.not_not, beq_self_eq_true, true_and, and_true] at h) <;> cbv)
      | (refine IdxVC.mk (by simp (disch := omega) only [hF, natc, Int.ofNat_eq_natCast, w64_in, decide_eq_true_eq, decide_eq_false_iff_not, Int.toNat_natCast, Bool.not_eq_true', Bool.not_eq_false', not_true_eq_false, not_false_eq_true, Int.not_lt, Int.not_le, Bool.and_eq_true, Bool.or_eq_true, Int.ofNat_lt, Int.ofNat_le, Int.natCast_nonneg, Int.toNat_zero, Int.toNat_one, Classical.not_not, beq_self_eq_true, true_and, and_true]; first | done | omega | (simp only [natc] at *; omega)) (fun kx hk hk2 => ?_); simp (disch := omega) only [hF, natc, Int.ofNat_eq_natCast, w64_in, decide_eq_true_eq, decide_eq_false_iff_not, Int.toNat_natCast, Bool.not_eq_true', Bool.not_eq_false', not_true_eq_false, not_false_eq_true, Int.not_lt, Int.not_le, Bool.and_eq_true, Bool.or_eq_true, Int.ofNat_lt, Int.ofNat_le, Int.natCast_nonneg, Int.toNat_zero, Int.toNat_one, Classical.not_not, beq_self_eq_true, true_and, and_true] at hk; (try obtain rfl : kx = 0 := hk); cbv)
      | (refine Chk.mk (by simp (disch := omega) only [maxN, hF, natc, Int.ofNat_eq_natCast, w64_in, decide_eq_true_eq, decide_eq_false_iff_not, Int.toNat_natCast, Bool.not_eq_true', Bool.not_eq_false', not_true_eq_false, not_false_eq_true, Int.not_lt, Int.not_le, Bool.and_eq_true, Bool.or_eq_true, Int.ofNat_lt, Int.ofNat_le, Int.natCast_nonneg, Int.toNat_zero, Int.toNat_one, Classical.not_not, beq_self_eq_true, true_and, and_true]; first | done | assumption | omega | (simp only [natc] at *; omega)) ?_; cbv)
      | (intro (hmx : _ ≤ maxN); replace hmx : _ ≤ 17592186044416 := hmx; cbv)
      | (intro _; cbv)
      | (refine call_pure hP code_law19_Few (f1) ?_ ?_; (focus (cbv; (try simp); done)); rintro _ rfl; cbv)
      | (refine call_pure hP code_law19_Few (f2) ?_ ?_; (focus (cbv; (try simp); done)); rintro _ rfl; cbv)
      | (refine call_pure hP code_law19_alive (ok_alive) ?_ ?_; (focus (cbv; (try simp); done)); rintro _ rfl; cbv)
    subst hQ; exact leaf_data rfl rfl ⟨rfl, rfl⟩
  | true =>
  obtain ⟨hn, hm⟩ := hb1 rfl
  obtain ⟨hk, hm2⟩ := hb2 rfl
  obtain ⟨tx, htx⟩ : ∃ t : Nat → ByteArray, ∀ i, t i = ofB (textM (S.co i) (S.pe i) (S.kd i) (S.be i) (S.en i) (S.er i)) := ⟨_, fun _ => rfl⟩
  have t1 : ∀ i, i < n → CallOK (O := Ob) PR n_diary_Text [.agg (S.row i)] [] fun r m => r = .dv (.str (tx i)) ∧ m = [] := by
    intro i hi
    obtain ⟨h0, h1, h3, h4, h5⟩ := hS i hi
    rw [htx]; exact ok_Text _ _ _ _ _ _ _ _ _ h0 h1 h3 h4 h5
  have t2 : ∀ i, i < n → CallOK (O := Ob) PR n_ref19_Text [.agg (S.row i)] [] fun r m => r = .dv (.str (tx i)) ∧ m = [] := by
    intro i hi
    obtain ⟨h0, h1, h3, h4, h5⟩ := hS i hi
    rw [htx]; exact okR_Text _ _ _ _ _ _ _ _ _ h0 h1 h3 h4 h5
  have s1 := ok_Same S T
  have s2 := okR_Same S T
  have s3 : CallOK (O := Ob) PR n_diary_Same [.dv (.seq n 8 G), .dv (.seq n 8 G)] [] fun r q => r = .dv (.bool true) ∧ q = [] := (ok_Same S S).mono fun r m ⟨⟨v, hv, e⟩, hm⟩ => ⟨by rw [e, hv.2 S.same_refl], hm⟩
  have p1 := okR_Plain S (by omega)
  have p2 := okR_Plain T (by omega)
  have c1 := ok_Count S (by omega) (fun i hi => by have := hm i hi; omega) kd e
  have c2 := okR_Count S kd e
  clear htx hS
  generalize S.same T = E at *
  generalize hcn : (((pick (S.isC kd e) n).length : Nat) : Int) = cn at *
  clear hcn
  refine fn_walkv mixed fn_law19_DiaryTells (Ent.refl _ _) fun bin cmp un conv bnot beq band sel isel ofN toN inb nz nneg lt le room' slb add sub sbin scmp slen sget ssub addk pc pb pi pf ps mkok min_ ig aeq P hP hA hF Q hQ => ?_
  have hpb : ∀ b, pb (.scmp .neq) [.str b, .str b] = false := by
    intro b
    have : pb = puB := congrArg Ar.pb hA
    rw [this]
    show (!(b.toList == b.toList)) = false
    simp
  have hpc : ∀ b, pc (.scmp .neq) [.str b, .str b] := by
    intro b
    have : pc = puC := congrArg Ar.pc hA
    rw [this]; exact trivial
  cbv
  repeat' first
    | (refine Chk.mk trivial ?_; cbv)
    | (refine bc_true (by first | assumption | (simp (disch := omega) only [hF, natc, Int.ofNat_eq_natCast, w64_in, decide_eq_true_eq, decide_eq_false_iff_not, Int.toNat_natCast, Bool.not_eq_true', Bool.not_eq_false', not_true_eq_false, not_false_eq_true, Int.not_lt, Int.not_le, Bool.and_eq_true, Bool.or_eq_true, Int.ofNat_lt, Int.ofNat_le, Int.natCast_nonneg, Int.toNat_zero, Int.toNat_one, Classical.not_not, beq_self_eq_true, true_and, and_true]; first | done | assumption | omega | (simp only [natc] at *; omega))) ?_; cbv)
    | (refine bc_false (by first | assumption | (simp (disch := omega) only [hF, natc, Int.ofNat_eq_natCast, w64_in, decide_eq_true_eq, decide_eq_false_iff_not, Int.toNat_natCast, Bool.not_eq_true', Bool.not_eq_false', not_true_eq_false, not_false_eq_true, Int.not_lt, Int.not_le, Bool.and_eq_true, Bool.or_eq_true, Int.ofNat_lt, Int.ofNat_le, Int.natCast_nonneg, Int.toNat_zero, Int.toNat_one, Classical.not_not, beq_self_eq_true, true_and, and_true]; first | done | assumption | omega | (simp only [natc] at *; omega))) ?_; cbv)
    | (refine bc_split (fun h => ?_) (fun h => ?_) <;> (try simp (disch := omega) only [hF, natc, Int.ofNat_eq_natCast, w64_in, decide_eq_true_eq, decide_eq_false_iff_not, Int.toNat_natCast, Bool.not_eq_true', Bool.not_eq_false', not_true_eq_false, not_false_eq_true, Int.not_lt, Int.not_le, Bool.and_eq_true, Bool.or_eq_true, Int.ofNat_lt, Int.ofNat_le, Int.natCast_nonneg, Int.toNat_zero, Int.toNat_one, Classical.not_not, beq_self_eq_true, true_and, and_true] at h) <;> cbv)
    | (refine IdxVC.mk (by simp (disch := omega) only [hF, natc, Int.ofNat_eq_natCast, w64_in, decide_eq_true_eq, decide_eq_false_iff_not, Int.toNat_natCast, Bool.not_eq_true', Bool.not_eq_false', not_true_eq_false, not_false_eq_true, Int.not_lt, Int.not_le, Bool.and_eq_true, Bool.or_eq_true, Int.ofNat_lt, Int.ofNat_le, Int.natCast_nonneg, Int.toNat_zero, Int.toNat_one, Classical.not_not, beq_self_eq_true, true_and, and_true]; first | done | omega | (simp only [natc] at *; omega)) (fun kx hk hk2 => ?_); simp (disch := omega) only [hF, natc, Int.ofNat_eq_natCast, w64_in, decide_eq_true_eq, decide_eq_false_iff_not, Int.toNat_natCast, Bool.not_eq_true', Bool.not_eq_false', not_true_eq_false, not_false_eq_true, Int.not_lt, Int.not_le, Bool.and_eq_true, Bool.or_eq_true, Int.ofNat_lt, Int.ofNat_le, Int.natCast_nonneg, Int.toNat_zero, Int.toNat_one, Classical.not_not, beq_self_eq_true, true_and, and_true] at hk; (try obtain rfl : kx = 0 := hk); cbv)
    | (refine Chk.mk (by simp (disch := omega) only [maxN, hF, natc, Int.ofNat_eq_natCast, w64_in, decide_eq_true_eq, decide_eq_false_iff_not, Int.toNat_natCast, Bool.not_eq_true', Bool.not_eq_false', not_true_eq_false, not_false_eq_true, Int.not_lt, Int.not_le, Bool.and_eq_true, Bool.or_eq_true, Int.ofNat_lt, Int.ofNat_le, Int.natCast_nonneg, Int.toNat_zero, Int.toNat_one, Classical.not_not, beq_self_eq_true, true_and, and_true]; first | done | assumption | omega | (simp only [natc] at *; omega)) ?_; cbv)
    | (intro (hmx : _ ≤ maxN); replace hmx : _ ≤ 17592186044416 := hmx; cbv)
    | (intro _; cbv)
    | (refine call_pure hP code_law19_Few (f1) ?_ ?_; (focus (cbv; (try simp); done)); rintro _ rfl; cbv)
    | (refine call_pure hP code_law19_Few (f2) ?_ ?_; (focus (cbv; (try simp); done)); rintro _ rfl; cbv)
  refine loop_up mixed hP hA (n) (fun i => True) [8, 10, 22, 23, 24, 25, 26, 27, 28, 29, 30, 31] (fun i => [(22, .dv (.int .i64 (ofN i)))]) (fun _ => []) (trivial) ?_ fun Nx i hN hi hp => ?_
  · exact Ent.env (by cbv; simp [hF])
  cbv
  by_cases hlt : i < n
  · have t1 := t1 i hlt
    have t2 := t2 i hlt
    cbv
    repeat' first
      | (refine call_pure hP code_diary_Text (t1) ?_ ?_; (focus (cbv; (try simp); done)); rintro _ rfl; cbv)
      | (refine call_pure hP code_ref19_Text (t2) ?_ ?_; (focus (cbv; (try simp); done)); rintro _ rfl; cbv)
      | ((refine Chk.mk (hpc _) ?_); cbv)
      | ((refine bc_false (hpb _) ?_); cbv)
      | (refine Chk.mk trivial ?_; cbv)
      | (refine bc_true (by first | assumption | (simp (disch := omega) only [hF, natc, Int.ofNat_eq_natCast, w64_in, decide_eq_true_eq, decide_eq_false_iff_not, Int.toNat_natCast, Bool.not_eq_true', Bool.not_eq_false', not_true_eq_false, not_false_eq_true, Int.not_lt, Int.not_le, Bool.and_eq_true, Bool.or_eq_true, Int.ofNat_lt, Int.ofNat_le, Int.natCast_nonneg, Int.toNat_zero, Int.toNat_one, Classical.not_not, beq_self_eq_true, true_and, and_true]; first | done | assumption | omega | (simp only [natc] at *; omega))) ?_; cbv)
      | (refine bc_false (by first | assumption | (simp (disch := omega) only [hF, natc, Int.ofNat_eq_natCast, w64_in, decide_eq_true_eq, decide_eq_false_iff_not, Int.toNat_natCast, Bool.not_eq_true', Bool.not_eq_false', not_true_eq_false, not_false_eq_true, Int.not_lt, Int.not_le, Bool.and_eq_true, Bool.or_eq_true, Int.ofNat_lt, Int.ofNat_le, Int.natCast_nonneg, Int.toNat_zero, Int.toNat_one, Classical.not_not, beq_self_eq_true, true_and, and_true]; first | done | assumption | omega | (simp only [natc] at *; omega))) ?_; cbv)
      | (refine bc_split (fun h => ?_) (fun h => ?_) <;> (try simp (disch := omega) only [hF, natc, Int.ofNat_eq_natCast, w64_in, decide_eq_true_eq, decide_eq_false_iff_not, Int.toNat_natCast, Bool.not_eq_true', Bool.not_eq_false', not_true_eq_false, not_false_eq_true, Int.not_lt, Int.not_le, Bool.and_eq_true, Bool.or_eq_true, Int.ofNat_lt, Int.ofNat_le, Int.natCast_nonneg, Int.toNat_zero, Int.toNat_one, Classical.not_not, beq_self_eq_true, true_and, and_true] at h) <;> cbv)
      | (refine IdxVC.mk (by simp (disch := omega) only [hF, natc, Int.ofNat_eq_natCast, w64_in, decide_eq_true_eq, decide_eq_false_iff_not, Int.toNat_natCast, Bool.not_eq_true', Bool.not_eq_false', not_true_eq_false, not_false_eq_true, Int.not_lt, Int.not_le, Bool.and_eq_true, Bool.or_eq_true, Int.ofNat_lt, Int.ofNat_le, Int.natCast_nonneg, Int.toNat_zero, Int.toNat_one, Classical.not_not, beq_self_eq_true, true_and, and_true]; first | done | omega | (simp only [natc] at *; omega)) (fun kx hk hk2 => ?_); simp (disch := omega) only [hF, natc, Int.ofNat_eq_natCast, w64_in, decide_eq_true_eq, decide_eq_false_iff_not, Int.toNat_natCast, Bool.not_eq_true', Bool.not_eq_false', not_true_eq_false, not_false_eq_true, Int.not_lt, Int.not_le, Bool.and_eq_true, Bool.or_eq_true, Int.ofNat_lt, Int.ofNat_le, Int.natCast_nonneg, Int.toNat_zero, Int.toNat_one, Classical.not_not, beq_self_eq_true, true_and, and_true] at hk; (try obtain rfl : kx = 0 := hk); (try obtain rfl : i = kx := hk.symm); cbv)
      | (simp (maxSteps := 3000000) (disch := assumption) only [S.h0, S.h1, S.h2, S.h3, S.h4, S.h5, S.h6, S.h7]; cbv)
      | (refine Chk.mk (by simp (disch := omega) only [maxN, hF, natc, Int.ofNat_eq_natCast, w64_in, decide_eq_true_eq, decide_eq_false_iff_not, Int.toNat_natCast, Bool.not_eq_true', Bool.not_eq_false', not_true_eq_false, not_false_eq_true, Int.not_lt, Int.not_le, Bool.and_eq_true, Bool.or_eq_true, Int.ofNat_lt, Int.ofNat_le, Int.natCast_nonneg, Int.toNat_zero, Int.toNat_one, Classical.not_not, beq_self_eq_true, true_and, and_true]; first | done | assumption | omega | (simp only [natc] at *; omega)) ?_; cbv)
      | (intro (hmx : _ ≤ maxN); replace hmx : _ ≤ 17592186044416 := hmx; cbv)
      | (intro _; cbv)
    refine hN _ hlt trivial (Ent.ren [] rfl rfl trivial (by cbv; simp (disch := omega) [hF, natc, w64_in]))
  · obtain rfl : i = n := by omega
    cbv
    repeat' first
      | (refine Chk.mk trivial ?_; cbv)
      | (refine bc_true (by first | assumption | (simp (disch := omega) only [hF, natc, Int.ofNat_eq_natCast, w64_in, decide_eq_true_eq, decide_eq_false_iff_not, Int.toNat_natCast, Bool.not_eq_true', Bool.not_eq_false', not_true_eq_false, not_false_eq_true, Int.not_lt, Int.not_le, Bool.and_eq_true, Bool.or_eq_true, Int.ofNat_lt, Int.ofNat_le, Int.natCast_nonneg, Int.toNat_zero, Int.toNat_one, Classical.not_not, beq_self_eq_true, true_and, and_true]; first | done | assumption | omega | (simp only [natc] at *; omega))) ?_; cbv)
      | (refine bc_false (by first | assumption | (simp (disch := omega) only [hF, natc, Int.ofNat_eq_natCast, w64_in, decide_eq_true_eq, decide_eq_false_iff_not, Int.toNat_natCast, Bool.not_eq_true', Bool.not_eq_false', not_true_eq_false, not_false_eq_true, Int.not_lt, Int.not_le, Bool.and_eq_true, Bool.or_eq_true, Int.ofNat_lt, Int.ofNat_le, Int.natCast_nonneg, Int.toNat_zero, Int.toNat_one, Classical.not_not, beq_self_eq_true, true_and, and_true]; first | done | assumption | omega | (simp only [natc] at *; omega))) ?_; cbv)
      | (refine bc_split (fun h => ?_) (fun h => ?_) <;> (try simp (disch := omega) only [hF, natc, Int.ofNat_eq_natCast, w64_in, decide_eq_true_eq, decide_eq_false_iff_not, Int.toNat_natCast, Bool.not_eq_true', Bool.not_eq_false', not_true_eq_false, not_false_eq_true, Int.not_lt, Int.not_le, Bool.and_eq_true, Bool.or_eq_true, Int.ofNat_lt, Int.ofNat_le, Int.natCast_nonneg, Int.toNat_zero, Int.toNat_one, Classical.not_not, beq_self_eq_true, true_and, and_true] at h) <;> cbv)
      | (refine IdxVC.mk (by simp (disch := omega) only [hF, natc, Int.ofNat_eq_natCast, w64_in, decide_eq_true_eq, decide_eq_false_iff_not, Int.toNat_natCast, Bool.not_eq_true', Bool.not_eq_false', not_true_eq_false, not_false_eq_true, Int.not_lt, Int.not_le, Bool.and_eq_true, Bool.or_eq_true, Int.ofNat_lt, Int.ofNat_le, Int.natCast_nonneg, Int.toNat_zero, Int.toNat_one, Classical.not_not, beq_self_eq_true, true_and, and_true]; first | done | omega | (simp only [natc] at *; omega)) (fun kx hk hk2 => ?_); simp (disch := omega) only [hF, natc, Int.ofNat_eq_natCast, w64_in, decide_eq_true_eq, decide_eq_false_iff_not, Int.toNat_natCast, Bool.not_eq_true', Bool.not_eq_false', not_true_eq_false, not_false_eq_true, Int.not_lt, Int.not_le, Bool.and_eq_true, Bool.or_eq_true, Int.ofNat_lt, Int.ofNat_le, Int.natCast_nonneg, Int.toNat_zero, Int.toNat_one, Classical.not_not, beq_self_eq_true, true_and, and_true] at hk; (try obtain rfl : kx = 0 := hk); cbv)
      | (refine Chk.mk (by simp (disch := omega) only [maxN, hF, natc, Int.ofNat_eq_natCast, w64_in, decide_eq_true_eq, decide_eq_false_iff_not, Int.toNat_natCast, Bool.not_eq_true', Bool.not_eq_false', not_true_eq_false, not_false_eq_true, Int.not_lt, Int.not_le, Bool.and_eq_true, Bool.or_eq_true, Int.ofNat_lt, Int.ofNat_le, Int.natCast_nonneg, Int.toNat_zero, Int.toNat_one, Classical.not_not, beq_self_eq_true, true_and, and_true]; first | done | assumption | omega | (simp only [natc] at *; omega)) ?_; cbv)
      | (intro (hmx : _ ≤ maxN); replace hmx : _ ≤ 17592186044416 := hmx; cbv)
      | (intro _; cbv)
      | (refine call_pure hP code_diary_Same (s3) ?_ ?_; (focus (cbv; (try simp); done)); rintro _ rfl; cbv)
      | (refine call_pure hP code_diary_Same (s1) ?_ ?_; (focus (cbv; (try simp); done)); rintro _ ⟨v1, hv1, rfl⟩; cbv)
      | (refine call_pure hP code_law19_Plain (p1) ?_ ?_; (focus (cbv; (try simp); done)); rintro _ rfl; cbv)
      | (refine call_pure hP code_law19_Plain (p2) ?_ ?_; (focus (cbv; (try simp); done)); rintro _ rfl; cbv)
      | (refine call_pure hP code_ref19_Same (s2) ?_ ?_; (focus (cbv; (try simp); done)); rintro _ ⟨v2, hv2, rfl⟩; cbv)
      | (refine call_pure hP code_diary_Count (c1) ?_ ?_; (focus (cbv; (try simp); done)); rintro _ rfl; cbv)
      | (refine call_pure hP code_ref19_Count (c2) ?_ ?_; (focus (cbv; (try simp); done)); rintro _ rfl; cbv)
      | (refine call_pure hP code_law19_alive (ok_alive) ?_ ?_; (focus (cbv; (try simp); done)); rintro _ rfl; cbv)
    · subst hQ; exact leaf_data rfl rfl ⟨rfl, rfl⟩
    · have e : v1 = v2 := by rw [Bool.eq_iff_iff, hv1, hv2]
      have h' : (v1 == v2) = false := by assumption
      rw [e] at h'; simp at h'

end Go.Proofs.YtophlodlencgiaaDoor
