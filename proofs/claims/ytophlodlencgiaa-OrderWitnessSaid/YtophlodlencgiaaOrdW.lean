/-
  Walks: what is found is an order.
-/
import Derived.Test.YtophlodlencgiaaOrdV
namespace Go.Proofs.Ytophlodlencgiaa
open Go.V
set_option linter.unusedVariables false
set_option linter.unusedSimpArgs false

/-- Entries behind one another. -/
def Ents.cat {n : Nat} {G : Nat → Nat → DV} (S : Ents n G) {k : Nat} {H : Nat → Nat → DV} (T : Ents k H) : Ents (n + k) (fun i f => if i < n then G i f else H (i - n) f) where
  co i := if i < n then S.co i else T.co (i - n)
  pe i := if i < n then S.pe i else T.pe (i - n)
  kd i := if i < n then S.kd i else T.kd (i - n)
  be i := if i < n then S.be i else T.be (i - n)
  en i := if i < n then S.en i else T.en (i - n)
  er i := if i < n then S.er i else T.er (i - n)
  m i := if i < n then S.m i else T.m (i - n)
  g i := if i < n then S.g i else T.g (i - n)
  x i := if i < n then S.x i else T.x (i - n)
  ha i := if i < n then S.ha i else T.ha (i - n)
  h0 i hi := by split <;> first | exact S.h0 i ‹_› | exact T.h0 _ (by omega)
  h1 i hi := by split <;> first | exact S.h1 i ‹_› | exact T.h1 _ (by omega)
  h2 i hi := by split <;> first | exact S.h2 i ‹_› | exact T.h2 _ (by omega)
  h3 i hi := by split <;> first | exact S.h3 i ‹_› | exact T.h3 _ (by omega)
  h4 i hi := by split <;> first | exact S.h4 i ‹_› | exact T.h4 _ (by omega)
  h5 i hi := by split <;> first | exact S.h5 i ‹_› | exact T.h5 _ (by omega)
  h6 i hi := by split <;> first | exact S.h6 i ‹_› | exact T.h6 _ (by omega)
  h7 i hi := by split <;> first | exact S.h7 i ‹_› | exact T.h7 _ (by omega)
  hx i hi := by
    split
    · exact S.hx i ‹_›
    · exact T.hx _ (by omega)

set_option maxRecDepth 100000 in
set_option maxHeartbeats 16000000 in
theorem ok_OrderWitness_some {n : Nat} {GS : Nat → Nat → DV} (S : Ents n GS) {k : Nat} {GT : Nat → Nat → DV} (T : Ents k GT) (room : Int) (hroom : -9223372036854775808 ≤ room ∧ room ≤ 9223372036854775807) (hn : n ≤ 30) (hk : k ≤ 30)
    (hkS : ∀ i, i < n → S.kd i = 1) (hkT : ∀ j, j < k → T.kd j = 2 ∨ T.kd j = 3) (l : List Nat) (hl : l.length < 1000) (I K : Nat → Nat) (w : Way S T room l 0 0 I K) (q : Nat) (hq : q = l.length) (Y : Nat → Nat → DV) (z : Nat → Int) (hY : ∀ j, j < q → Y j 0 = .int .i64 (z j)) (hz : ∀ j, z j = ((l.getD j 0 : Nat) : Int))
    (w1 : CallOK (O := Ob) PR n_order_Witness [.dv (.seq n 8 GS), .dv (.seq k 8 GT), .dv (.int .i64 room)] [] (fun r m => r = .tup [.dv (.seq q 1 Y), .dv (.bool true)] ∧ m = []))
    (w2 : CallOK (O := Ob) PR n_order_Fits [.dv (.seq n 8 GS), .dv (.seq k 8 GT), .dv (.int .i64 room)] [] (fun r m => r = .dv (.bool true) ∧ m = [])) :
    CallOK (O := Ob) PR n_law21_OrderWitness [.dv (.seq n 8 GS), .dv (.seq k 8 GT), .dv (.int .i64 room)] [] fun r m => r = .dv (.bool true) ∧ m = [] := by
  obtain ⟨P0, hP0⟩ : ∃ f : Nat → Nat, ∀ a, f a = (S.eff a).length := ⟨_, fun _ => rfl⟩
  obtain ⟨PU, hPU⟩ : ∃ f : Nat → Int, ∀ a, f a = (S.eff a).length := ⟨_, fun _ => rfl⟩
  obtain ⟨GO, hGO⟩ : ∃ f : Nat → Int, ∀ b, f b = T.got b := ⟨_, fun _ => rfl⟩
  obtain ⟨BA, hBA⟩ : ∃ f : Nat → Int, ∀ b, f b = T.back b := ⟨_, fun _ => rfl⟩
  have hP00 : P0 0 = 0 := hP0 0
  have hPU0 : PU 0 = 0 := hPU 0
  have hGO0 : GO 0 = 0 := hGO 0
  have hBA0 : BA 0 = 0 := hBA 0
  refine fn_walkv mixed fn_law21_OrderWitness (Ent.refl _ _) fun bin cmp un conv bnot beq band sel isel ofN toN inb nz nneg lt le room' slb add sub sbin scmp slen sget ssub addk pc pb pi pf ps mkok min_ ig aeq P hP hA hF Q hQ => ?_
  have hbT : ∀ (c : Nat) (zc : Int), zc = c → c ≤ k → ∀ (a0 a1 a2 a3 a4 a5 : Int) (m : Nat) (g : Nat → Nat → DV) (a7 : Int), ¬ T.late c a3 → CallOK (O := Ob) PR n_law21_before [.dv (.seq (sub (toN (ofN k)) (toN zc)) 8 fun x => GT (add (toN zc) x)), .agg [.dv (.int .i64 a0), .dv (.int .i64 a1), .dv (.int .i64 a2), .dv (.int .i64 a3), .dv (.int .i64 a4), .dv (.int .i64 a5), .dv (.seq m 1 g), .dv (.int .i64 a7)]] [] fun r m => r = .dv (.bool false) ∧ m = [] := by
    intro c zc hzc hc a0 a1 a2 a3 a4 a5 m g a7 hl
    subst hzc
    have e : DV.seq (sub (toN (ofN k)) (toN (c : Int))) 8 (fun x => GT (add (toN (c : Int)) x)) = .seq (k - c) 8 (fun x => GT (c + x)) := by simp [hF]
    rw [e]
    refine CallOK.ent (ok_before (T.drop c (k - c) (by omega)) a0 a1 a2 a3 a4 a5 m g a7) ?_
    rintro r m ⟨⟨v, hv, rfl⟩, hm⟩
    refine ⟨_, m, Ent.refl _ _, ?_, hm⟩
    cases v with
    | false => rfl
    | true =>
      obtain ⟨x, _, h1, h2⟩ := hv.1 rfl
      exact (hl ⟨c + x, by omega, by omega, h2⟩).elim
  have hbS : ∀ (c : Nat) (zc : Int), zc = c → c ≤ n → ∀ (a0 a1 a2 a3 a4 a5 : Int) (m : Nat) (g : Nat → Nat → DV) (a7 : Int), ¬ S.late c a3 → CallOK (O := Ob) PR n_law21_before [.dv (.seq (sub (toN (ofN n)) (toN zc)) 8 fun x => GS (add (toN zc) x)), .agg [.dv (.int .i64 a0), .dv (.int .i64 a1), .dv (.int .i64 a2), .dv (.int .i64 a3), .dv (.int .i64 a4), .dv (.int .i64 a5), .dv (.seq m 1 g), .dv (.int .i64 a7)]] [] fun r m => r = .dv (.bool false) ∧ m = [] := by
    intro c zc hzc hc a0 a1 a2 a3 a4 a5 m g a7 hl
    subst hzc
    have e : DV.seq (sub (toN (ofN n)) (toN (c : Int))) 8 (fun x => GS (add (toN (c : Int)) x)) = .seq (n - c) 8 (fun x => GS (c + x)) := by simp [hF]
    rw [e]
    refine CallOK.ent (ok_before (S.drop c (n - c) (by omega)) a0 a1 a2 a3 a4 a5 m g a7) ?_
    rintro r m ⟨⟨v, hv, rfl⟩, hm⟩
    refine ⟨_, m, Ent.refl _ _, ?_, hm⟩
    cases v with
    | false => rfl
    | true =>
      obtain ⟨x, _, h1, h2⟩ := hv.1 rfl
      exact (hl ⟨c + x, by omega, by omega, h2⟩).elim
  cbv
  repeat' first
    | (refine Chk.mk trivial ?_; cbv)
    | (refine bc_true (by first | assumption | (simp (disch := omega) only [hF, natc, w64_in, decide_eq_true_eq, decide_eq_false_iff_not, Int.toNat_natCast, Bool.not_eq_true', Bool.not_eq_false', not_true_eq_false, not_false_eq_true, Int.not_lt, Int.not_le, Bool.and_eq_true, Bool.or_eq_true, Int.ofNat_lt, Int.ofNat_le, Int.natCast_nonneg, Int.toNat_zero, Int.toNat_one, Classical.not_not, beq_self_eq_true, true_and, and_true]; first | done | assumption | omega | (simp only [natc] at *; omega))) ?_; cbv)
    | (refine bc_false (by first | assumption | (simp (disch := omega) only [hF, natc, w64_in, decide_eq_true_eq, decide_eq_false_iff_not, Int.toNat_natCast, Bool.not_eq_true', Bool.not_eq_false', not_true_eq_false, not_false_eq_true, Int.not_lt, Int.not_le, Bool.and_eq_true, Bool.or_eq_true, Int.ofNat_lt, Int.ofNat_le, Int.natCast_nonneg, Int.toNat_zero, Int.toNat_one, Classical.not_not, beq_self_eq_true, true_and, and_true]; first | done | assumption | omega | (simp only [natc] at *; omega))) ?_; cbv)
    | (refine bc_split (fun h => ?_) (fun h => ?_) <;> (try simp (disch := omega) only [hF, natc, w64_in, decide_eq_true_eq, decide_eq_false_iff_not, Int.toNat_natCast, Bool.not_eq_true', Bool.not_eq_false', not_true_eq_false, not_false_eq_true, Int.not_lt, Int.not_le, Bool.and_eq_true, Bool.or_eq_true, Int.ofNat_lt, Int.ofNat_le, Int.natCast_nonneg, Int.toNat_zero, Int.toNat_one, Classical.not_not, beq_self_eq_true, true_and, and_true] at h) <;> cbv)
    | (refine IdxVC.mk (by simp (disch := omega) only [hF, natc, w64_in, decide_eq_true_eq, decide_eq_false_iff_not, Int.toNat_natCast, Bool.not_eq_true', Bool.not_eq_false', not_true_eq_false, not_false_eq_true, Int.not_lt, Int.not_le, Bool.and_eq_true, Bool.or_eq_true, Int.ofNat_lt, Int.ofNat_le, Int.natCast_nonneg, Int.toNat_zero, Int.toNat_one, Classical.not_not, beq_self_eq_true, true_and, and_true]; first | done | omega | (simp only [natc] at *; omega)) (fun kx hk hk2 => ?_); simp (disch := omega) only [hF, natc, w64_in, decide_eq_true_eq, decide_eq_false_iff_not, Int.toNat_natCast, Bool.not_eq_true', Bool.not_eq_false', not_true_eq_false, not_false_eq_true, Int.not_lt, Int.not_le, Bool.and_eq_true, Bool.or_eq_true, Int.ofNat_lt, Int.ofNat_le, Int.natCast_nonneg, Int.toNat_zero, Int.toNat_one, Classical.not_not, beq_self_eq_true, true_and, and_true] at hk; (try obtain rfl : kx = 0 := hk); cbv)
    | (refine Chk.mk (by simp (disch := omega) only [maxN, hF, natc, w64_in, decide_eq_true_eq, decide_eq_false_iff_not, Int.toNat_natCast, Bool.not_eq_true', Bool.not_eq_false', not_true_eq_false, not_false_eq_true, Int.not_lt, Int.not_le, Bool.and_eq_true, Bool.or_eq_true, Int.ofNat_lt, Int.ofNat_le, Int.natCast_nonneg, Int.toNat_zero, Int.toNat_one, Classical.not_not, beq_self_eq_true, true_and, and_true]; first | done | assumption | omega | (simp only [natc] at *; omega)) ?_; cbv)
    | (intro (hmx : _ ≤ maxN); replace hmx : _ ≤ 17592186044416 := hmx; cbv)
    | (intro _; cbv)
    | (refine call_pure hP code_law19_Few ((few_le S 30 30 rfl)) ?_ ?_; (focus (cbv; (try simp); done)); rintro _ ⟨f1, hf1, rfl⟩; cbv)
    | (refine call_pure hP code_law19_Few ((few_le T 30 30 rfl)) ?_ ?_; (focus (cbv; (try simp); done)); rintro _ ⟨f2, hf2, rfl⟩; cbv)
    | (refine call_pure hP code_law21_alive (ok_alive) ?_ ?_; (focus (cbv; (try simp); done)); rintro _ rfl; cbv)
    | (refine call_pure hP code_order_Witness (w1) ?_ ?_; (focus (cbv; (try simp); done)); rintro _ rfl; cbv)
    | (refine call_pure hP code_order_Fits (w2) ?_ ?_; (focus (cbv; (try simp); done)); rintro _ rfl; cbv)
  · subst hQ; exact leaf_data rfl rfl ⟨rfl, rfl⟩
  · subst hQ; exact leaf_data rfl rfl ⟨rfl, rfl⟩
  refine loop_ix mixed hP hA (ι := Nat × Nat × Nat × (Nat → Nat → DV)) (fun x => q - x.1) (fun x => x.1 ≤ q ∧ x.2.1 = I x.1 ∧ x.2.2.1 = K x.1 ∧ ∃ lm lg, Lds S (S.eff x.2.1).length x.2.2.2 lm lg) [6, 9, 10, 13, 14, 15, 16, 54, 55, 56, 57, 58, 59, 60, 61, 62, 63, 64, 65, 66, 67, 68, 69, 70, 71, 72, 73, 74, 75, 76, 77, 78, 79, 80, 81, 82, 83, 84, 85, 86, 87, 88, 89, 90, 91, 92, 93, 94, 95, 96, 97, 98, 99, 100, 101, 102, 103, 104, 105, 106, 107, 108, 109, 110, 111, 112, 113, 114, 115, 116, 117, 118, 119, 120, 121, 122, 123, 124, 125, 126]
    (fun x => [(9, .dv (.int .i64 (ofN x.2.1))), (10, .dv (.int .i64 (ofN x.2.2.1))), (54, .dv (.int .i64 (ofN x.1)))])
    (fun x => [.blk [.one (.dv (.int .i64 room)), .one (.dv (.seq (P0 x.2.1) 1 x.2.2.2)), .one (.dv (.int .i64 (PU x.2.1))), .one (.dv (.int .i64 (GO x.2.2.1))), .one (.dv (.int .i64 (BA x.2.2.1)))]])
    (0, 0, 0, fun _ _ => .nilp) ⟨Nat.zero_le _, w.i0.symm, w.k0.symm, fun _ => 0, fun _ _ _ => .nilp, ⟨fun j hj => absurd hj (Nat.not_lt_zero j), fun j hj => absurd hj (Nat.not_lt_zero j), fun j hj => absurd hj (Nat.not_lt_zero j)⟩⟩ ?_ fun Nx => ?_
  · refine Ent.trans (Ent.weakM 0 (ss' := [.one (.dv (.int .i64 room)), .one (.dv (.seq 0 1 fun _ _ => .nilp)), .one (.dv (.int .i64 0)), .one (.dv (.int .i64 0)), .one (.dv (.int .i64 0))]) rfl (.one (.same _) (.one (.dv (.nil 1 _)) (.one (.same _) (.one (.same _) (.one (.same _) .nil)))))) ?_
    simp only [hP00, hPU0, hGO0, hBA0]
    exact Ent.env (by cbv; simp [hF])
  rintro ⟨i, a, b, L⟩
  intro hN hp
  cbv
  obtain ⟨hi, ha, hb, lm, lg, hL⟩ := hp
  have hi : i ≤ q := hi
  have ha : a = I i := ha
  have hb : b = K i := hb
  have hL : Lds S (S.eff a).length L lm lg := hL
  have hc : a ≤ n ∧ b ≤ k ∧ Cnt S T a b := by rw [ha, hb]; exact w.cnt i (by omega)
  by_cases hlt : i < q
  · have hstep := w.step i (by omega)
    rw [← ha, ← hb] at hstep
    have hzi := hz i
    simp only [natc] at hzi
    rcases hstep with ⟨h1, h2, h3, h4⟩ | ⟨h1, h2, h3, h4⟩ <;> rw [h1] at hzi
    · have hg : a < n ∧ ¬ T.late b (S.be a) ∧ ¬ S.late (a + 1) (S.be a) ∧ (stS S T room a b).2 = true := by
        simp only [goS, Bool.and_eq_true, decide_eq_true_eq] at h2; exact ⟨h2.1.1, h2.1.2.1, h2.1.2.2, h2.2⟩
      obtain ⟨g1, g2, g3, g4⟩ := hg
      have hD := does_S S T room hroom hkS (by omega) a b g1 hc.2.2 L lm lg hL (PU a) (GO b) (BA b) (hPU a) (hGO b) (hBA b) g4
      rw [← hP0 a] at hD
      have hb1 := hbT b (ofN b) (by simp only [hF]) (by omega) (S.co a) (S.pe a) (S.kd a) (S.be a) (S.en a) (S.er a) (S.m a) (S.g a) (S.ha a) g2
      have hb2 := hbS (a + 1) (bin .add .i64 (ofN a) 1) (by simp only [hF, natc]; rw [w64_in (by omega)]; rfl) (by omega) (S.co a) (S.pe a) (S.kd a) (S.be a) (S.en a) (S.er a) (S.m a) (S.g a) (S.ha a) g3
      clear hP00 hPU0 hGO0 hBA0 hL
      cbv
      repeat' first
        | (refine Chk.mk trivial ?_; cbv)
        | (refine bc_true (by first | assumption | (simp (disch := omega) only [hF, natc, w64_in, decide_eq_true_eq, decide_eq_false_iff_not, Int.toNat_natCast, Bool.not_eq_true', Bool.not_eq_false', not_true_eq_false, not_false_eq_true, Int.not_lt, Int.not_le, Bool.and_eq_true, Bool.or_eq_true, Int.ofNat_lt, Int.ofNat_le, Int.natCast_nonneg, Int.toNat_zero, Int.toNat_one, Classical.not_not, beq_self_eq_true, true_and, and_true]; first | done | assumption | omega | (simp only [natc] at *; omega))) ?_; cbv)
        | (refine bc_false (by first | assumption | (simp (disch := omega) only [hF, natc, w64_in, decide_eq_true_eq, decide_eq_false_iff_not, Int.toNat_natCast, Bool.not_eq_true', Bool.not_eq_false', not_true_eq_false, not_false_eq_true, Int.not_lt, Int.not_le, Bool.and_eq_true, Bool.or_eq_true, Int.ofNat_lt, Int.ofNat_le, Int.natCast_nonneg, Int.toNat_zero, Int.toNat_one, Classical.not_not, beq_self_eq_true, true_and, and_true]; first | done | assumption | omega | (simp only [natc] at *; omega))) ?_; cbv)
        | (refine bc_split (fun h => ?_) (fun h => ?_) <;> (try simp (disch := omega) only [hF, natc, w64_in, decide_eq_true_eq, decide_eq_false_iff_not, Int.toNat_natCast, Bool.not_eq_true', Bool.not_eq_false', not_true_eq_false, not_false_eq_true, Int.not_lt, Int.not_le, Bool.and_eq_true, Bool.or_eq_true, Int.ofNat_lt, Int.ofNat_le, Int.natCast_nonneg, Int.toNat_zero, Int.toNat_one, Classical.not_not, beq_self_eq_true, true_and, and_true] at h) <;> cbv)
        | (refine IdxVC.mk (by simp (disch := omega) only [hF, natc, w64_in, decide_eq_true_eq, decide_eq_false_iff_not, Int.toNat_natCast, Bool.not_eq_true', Bool.not_eq_false', not_true_eq_false, not_false_eq_true, Int.not_lt, Int.not_le, Bool.and_eq_true, Bool.or_eq_true, Int.ofNat_lt, Int.ofNat_le, Int.natCast_nonneg, Int.toNat_zero, Int.toNat_one, Classical.not_not, beq_self_eq_true, true_and, and_true]; first | done | omega | (simp only [natc] at *; omega)) (fun kx hk hk2 => ?_); simp (disch := omega) only [hF, natc, w64_in, decide_eq_true_eq, decide_eq_false_iff_not, Int.toNat_natCast, Bool.not_eq_true', Bool.not_eq_false', not_true_eq_false, not_false_eq_true, Int.not_lt, Int.not_le, Bool.and_eq_true, Bool.or_eq_true, Int.ofNat_lt, Int.ofNat_le, Int.natCast_nonneg, Int.toNat_zero, Int.toNat_one, Classical.not_not, beq_self_eq_true, true_and, and_true] at hk; (try obtain rfl : kx = 0 := hk); (try obtain rfl : i = kx := hk.symm); (try obtain rfl : a = kx := hk.symm); cbv)
        | (rw [hY] <;> first | assumption | cbv)
        | (simp (maxSteps := 3000000) (disch := assumption) only [S.h0, S.h1, S.h2, S.h3, S.h4, S.h5, S.h6, S.h7]; cbv)
        | (refine Chk.mk (by simp (disch := omega) only [maxN, hF, natc, w64_in, decide_eq_true_eq, decide_eq_false_iff_not, Int.toNat_natCast, Bool.not_eq_true', Bool.not_eq_false', not_true_eq_false, not_false_eq_true, Int.not_lt, Int.not_le, Bool.and_eq_true, Bool.or_eq_true, Int.ofNat_lt, Int.ofNat_le, Int.natCast_nonneg, Int.toNat_zero, Int.toNat_one, Classical.not_not, beq_self_eq_true, true_and, and_true]; first | done | assumption | omega | (simp only [natc] at *; omega)) ?_; cbv)
        | (intro (hmx : _ ≤ maxN); replace hmx : _ ≤ 17592186044416 := hmx; cbv)
        | (intro _; cbv)
        | (refine call_pure hP code_law21_before (hb1) ?_ ?_; (focus (cbv; (try simp); done)); rintro _ rfl; cbv)
        | (refine call_pure hP code_law21_before (hb2) ?_ ?_; (focus (cbv; (try simp); done)); rintro _ rfl; cbv)
        | (refine call_pure hP code_ref21_Does (hD) ?_ ?_; (focus (cbv; (try simp); done)); rintro _ ⟨p1, L1, pu1, go1, ba1, rfl, hD'⟩; cbv)
      obtain ⟨d1, d2, d3, d4, d5⟩ := hD'
      obtain rfl : p1 = P0 (a + 1) := d1.trans (hP0 (a + 1)).symm
      obtain rfl : pu1 = PU (a + 1) := d2.trans (hPU (a + 1)).symm
      obtain rfl : go1 = GO b := d3.trans (hGO b).symm
      obtain rfl : ba1 = BA b := d4.trans (hBA b).symm
      exact hN _ (i + 1, a + 1, b, L1) ⟨hlt, h3.symm, h4.symm, d5⟩ (by show q - (i + 1) < q - i; omega) (Ent.ren [0] rfl rfl ⟨⟨rfl, rfl, rfl, rfl, rfl, trivial⟩, trivial⟩ (by cbv; simp (disch := omega) [hF, natc, w64_in]))
    · have hg : b < k ∧ ¬ S.late a (T.be b) ∧ ¬ T.late (b + 1) (T.be b) ∧ (stT S T room a b).2 = true := by
        simp only [goT, Bool.and_eq_true, decide_eq_true_eq] at h2; exact ⟨h2.1.1, h2.1.2.1, h2.1.2.2, h2.2⟩
      obtain ⟨g1, g2, g3, g4⟩ := hg
      have hD := does_T S T room hroom hkT (by omega) a b hc.1 g1 hc.2.2 L lm lg hL (PU a) (GO b) (BA b) (hPU a) (hGO b) (hBA b) g4
      rw [← hP0 a] at hD
      have hb1 := hbS a (ofN a) (by simp only [hF]) (by omega) (T.co b) (T.pe b) (T.kd b) (T.be b) (T.en b) (T.er b) (T.m b) (T.g b) (T.ha b) g2
      have hb2 := hbT (b + 1) (bin .add .i64 (ofN b) 1) (by simp only [hF, natc]; rw [w64_in (by omega)]; rfl) (by omega) (T.co b) (T.pe b) (T.kd b) (T.be b) (T.en b) (T.er b) (T.m b) (T.g b) (T.ha b) g3
      clear hP00 hPU0 hGO0 hBA0 hL
      cbv
      repeat' first
        | (refine Chk.mk trivial ?_; cbv)
        | (refine bc_true (by first | assumption | (simp (disch := omega) only [hF, natc, w64_in, decide_eq_true_eq, decide_eq_false_iff_not, Int.toNat_natCast, Bool.not_eq_true', Bool.not_eq_false', not_true_eq_false, not_false_eq_true, Int.not_lt, Int.not_le, Bool.and_eq_true, Bool.or_eq_true, Int.ofNat_lt, Int.ofNat_le, Int.natCast_nonneg, Int.toNat_zero, Int.toNat_one, Classical.not_not, beq_self_eq_true, true_and, and_true]; first | done | assumption | omega | (simp only [natc] at *; omega))) ?_; cbv)
        | (refine bc_false (by first | assumption | (simp (disch := omega) only [hF, natc, w64_in, decide_eq_true_eq, decide_eq_false_iff_not, Int.toNat_natCast, Bool.not_eq_true', Bool.not_eq_false', not_true_eq_false, not_false_eq_true, Int.not_lt, Int.not_le, Bool.and_eq_true, Bool.or_eq_true, Int.ofNat_lt, Int.ofNat_le, Int.natCast_nonneg, Int.toNat_zero, Int.toNat_one, Classical.not_not, beq_self_eq_true, true_and, and_true]; first | done | assumption | omega | (simp only [natc] at *; omega))) ?_; cbv)
        | (refine bc_split (fun h => ?_) (fun h => ?_) <;> (try simp (disch := omega) only [hF, natc, w64_in, decide_eq_true_eq, decide_eq_false_iff_not, Int.toNat_natCast, Bool.not_eq_true', Bool.not_eq_false', not_true_eq_false, not_false_eq_true, Int.not_lt, Int.not_le, Bool.and_eq_true, Bool.or_eq_true, Int.ofNat_lt, Int.ofNat_le, Int.natCast_nonneg, Int.toNat_zero, Int.toNat_one, Classical.not_not, beq_self_eq_true, true_and, and_true] at h) <;> cbv)
        | (refine IdxVC.mk (by simp (disch := omega) only [hF, natc, w64_in, decide_eq_true_eq, decide_eq_false_iff_not, Int.toNat_natCast, Bool.not_eq_true', Bool.not_eq_false', not_true_eq_false, not_false_eq_true, Int.not_lt, Int.not_le, Bool.and_eq_true, Bool.or_eq_true, Int.ofNat_lt, Int.ofNat_le, Int.natCast_nonneg, Int.toNat_zero, Int.toNat_one, Classical.not_not, beq_self_eq_true, true_and, and_true]; first | done | omega | (simp only [natc] at *; omega)) (fun kx hk hk2 => ?_); simp (disch := omega) only [hF, natc, w64_in, decide_eq_true_eq, decide_eq_false_iff_not, Int.toNat_natCast, Bool.not_eq_true', Bool.not_eq_false', not_true_eq_false, not_false_eq_true, Int.not_lt, Int.not_le, Bool.and_eq_true, Bool.or_eq_true, Int.ofNat_lt, Int.ofNat_le, Int.natCast_nonneg, Int.toNat_zero, Int.toNat_one, Classical.not_not, beq_self_eq_true, true_and, and_true] at hk; (try obtain rfl : kx = 0 := hk); (try obtain rfl : i = kx := hk.symm); (try obtain rfl : b = kx := hk.symm); cbv)
        | (rw [hY] <;> first | assumption | cbv)
        | (simp (maxSteps := 3000000) (disch := assumption) only [T.h0, T.h1, T.h2, T.h3, T.h4, T.h5, T.h6, T.h7]; cbv)
        | (refine Chk.mk (by simp (disch := omega) only [maxN, hF, natc, w64_in, decide_eq_true_eq, decide_eq_false_iff_not, Int.toNat_natCast, Bool.not_eq_true', Bool.not_eq_false', not_true_eq_false, not_false_eq_true, Int.not_lt, Int.not_le, Bool.and_eq_true, Bool.or_eq_true, Int.ofNat_lt, Int.ofNat_le, Int.natCast_nonneg, Int.toNat_zero, Int.toNat_one, Classical.not_not, beq_self_eq_true, true_and, and_true]; first | done | assumption | omega | (simp only [natc] at *; omega)) ?_; cbv)
        | (intro (hmx : _ ≤ maxN); replace hmx : _ ≤ 17592186044416 := hmx; cbv)
        | (intro _; cbv)
        | (refine call_pure hP code_law21_before (hb1) ?_ ?_; (focus (cbv; (try simp); done)); rintro _ rfl; cbv)
        | (refine call_pure hP code_law21_before (hb2) ?_ ?_; (focus (cbv; (try simp); done)); rintro _ rfl; cbv)
        | (refine call_pure hP code_ref21_Does (hD) ?_ ?_; (focus (cbv; (try simp); done)); rintro _ ⟨p1, L1, pu1, go1, ba1, rfl, hD'⟩; cbv)
      all_goals
        obtain ⟨d1, d2, d3, d4, d5⟩ := hD'
        obtain rfl : p1 = P0 a := d1
        obtain rfl : pu1 = PU a := by rw [d2, hPU a, hP0 a]
        obtain rfl : go1 = GO (b + 1) := d3.trans (hGO (b + 1)).symm
        obtain rfl : ba1 = BA (b + 1) := d4.trans (hBA (b + 1)).symm
        rw [hP0 a] at d5
        exact hN _ (i + 1, a, b + 1, L1) ⟨hlt, h3.symm, h4.symm, d5⟩ (by show q - (i + 1) < q - i; omega) (Ent.ren [0] rfl rfl ⟨⟨rfl, rfl, rfl, rfl, rfl, trivial⟩, trivial⟩ (by cbv; simp (disch := omega) [hF, natc, w64_in]))
  · have hfin := w.fin
    rw [← hq, show q = i by omega, ← ha, ← hb] at hfin
    clear hP00 hPU0 hGO0 hBA0 hL hN
    obtain ⟨N, GU, U, hN, hG, hU0⟩ : ∃ (N : Nat) (GU : Nat → Nat → DV) (U : Ents N GU), N = n - a + (k - b) ∧ (∀ x f, GU x f = if x < n - a then GS (a + x) f else GT (b + (x - (n - a))) f) ∧ ∀ x, x < N → U.en x = 0 := by
      refine ⟨_, _, (S.drop a (n - a) (by omega)).cat (T.drop b (k - b) (by omega)), rfl, fun _ _ => rfl, fun x hx => ?_⟩
      simp only [Ents.cat, Ents.drop]
      split
      · rcases hfin.1 with h | ⟨h, h0⟩
        · omega
        · obtain rfl : x = 0 := by omega
          exact h0
      · rcases hfin.2 with h | ⟨h, h0⟩
        · omega
        · rw [show x - (n - a) = 0 by omega]; exact h0
    have hap : ∀ x f, x < N → f < 8 → appAt ⟨bin, cmp, un, conv, bnot, beq, band, sel, isel, ofN, toN, inb, nz, nneg, lt, le, room', slb, add, sub, sbin, scmp, slen, sget, ssub, addk, pc, pb, pi, pf, ps, mkok, min_, ig, aeq⟩ (add 0 (sub (toN (ofN n)) (toN (ofN a)))) (appAt ⟨bin, cmp, un, conv, bnot, beq, band, sel, isel, ofN, toN, inb, nz, nneg, lt, le, room', slb, add, sub, sbin, scmp, slen, sget, ssub, addk, pc, pb, pi, pf, ps, mkok, min_, ig, aeq⟩ 0 (listAt 8 []) (dvAt fun x => GS (add (toN (ofN a)) x))) (dvAt fun x => GT (add (toN (ofN b)) x)) x f = .dv (GU x f) := by
      intro x f hx hf
      simp only [appAt, dvAt, hF, Int.toNat_natCast, Nat.zero_add, Nat.sub_zero, Nat.not_lt_zero, if_false, hG]
      split <;> rfl
    have hsz : add (add 0 (sub (toN (ofN n)) (toN (ofN a)))) (sub (toN (ofN k)) (toN (ofN b))) = N := by
      simp only [hF, Int.toNat_natCast, Nat.zero_add, hN]
    cbv
    repeat' first
      | (refine Chk.mk trivial ?_; cbv)
      | (refine bc_true (by first | assumption | (simp (disch := omega) only [hF, natc, w64_in, decide_eq_true_eq, decide_eq_false_iff_not, Int.toNat_natCast, Bool.not_eq_true', Bool.not_eq_false', not_true_eq_false, not_false_eq_true, Int.not_lt, Int.not_le, Bool.and_eq_true, Bool.or_eq_true, Int.ofNat_lt, Int.ofNat_le, Int.natCast_nonneg, Int.toNat_zero, Int.toNat_one, Classical.not_not, beq_self_eq_true, true_and, and_true]; first | done | assumption | omega | (simp only [natc] at *; omega))) ?_; cbv)
      | (refine bc_false (by first | assumption | (simp (disch := omega) only [hF, natc, w64_in, decide_eq_true_eq, decide_eq_false_iff_not, Int.toNat_natCast, Bool.not_eq_true', Bool.not_eq_false', not_true_eq_false, not_false_eq_true, Int.not_lt, Int.not_le, Bool.and_eq_true, Bool.or_eq_true, Int.ofNat_lt, Int.ofNat_le, Int.natCast_nonneg, Int.toNat_zero, Int.toNat_one, Classical.not_not, beq_self_eq_true, true_and, and_true]; first | done | assumption | omega | (simp only [natc] at *; omega))) ?_; cbv)
      | (refine bc_split (fun h => ?_) (fun h => ?_) <;> (try simp (disch := omega) only [hF, natc, w64_in, decide_eq_true_eq, decide_eq_false_iff_not, Int.toNat_natCast, Bool.not_eq_true', Bool.not_eq_false', not_true_eq_false, not_false_eq_true, Int.not_lt, Int.not_le, Bool.and_eq_true, Bool.or_eq_true, Int.ofNat_lt, Int.ofNat_le, Int.natCast_nonneg, Int.toNat_zero, Int.toNat_one, Classical.not_not, beq_self_eq_true, true_and, and_true] at h) <;> cbv)
      | (refine IdxVC.mk (by simp (disch := omega) only [hF, natc, w64_in, decide_eq_true_eq, decide_eq_false_iff_not, Int.toNat_natCast, Bool.not_eq_true', Bool.not_eq_false', not_true_eq_false, not_false_eq_true, Int.not_lt, Int.not_le, Bool.and_eq_true, Bool.or_eq_true, Int.ofNat_lt, Int.ofNat_le, Int.natCast_nonneg, Int.toNat_zero, Int.toNat_one, Classical.not_not, beq_self_eq_true, true_and, and_true]; first | done | omega | (simp only [natc] at *; omega)) (fun kx hk hk2 => ?_); simp (disch := omega) only [hF, natc, w64_in, decide_eq_true_eq, decide_eq_false_iff_not, Int.toNat_natCast, Bool.not_eq_true', Bool.not_eq_false', not_true_eq_false, not_false_eq_true, Int.not_lt, Int.not_le, Bool.and_eq_true, Bool.or_eq_true, Int.ofNat_lt, Int.ofNat_le, Int.natCast_nonneg, Int.toNat_zero, Int.toNat_one, Classical.not_not, beq_self_eq_true, true_and, and_true] at hk; (try obtain rfl : kx = 0 := hk); cbv)
      | (refine Chk.mk (by simp (disch := omega) only [maxN, hF, natc, w64_in, decide_eq_true_eq, decide_eq_false_iff_not, Int.toNat_natCast, Bool.not_eq_true', Bool.not_eq_false', not_true_eq_false, not_false_eq_true, Int.not_lt, Int.not_le, Bool.and_eq_true, Bool.or_eq_true, Int.ofNat_lt, Int.ofNat_le, Int.natCast_nonneg, Int.toNat_zero, Int.toNat_one, Classical.not_not, beq_self_eq_true, true_and, and_true]; first | done | assumption | omega | (simp only [natc] at *; omega)) ?_; cbv)
      | (intro (hmx : _ ≤ maxN); replace hmx : _ ≤ 17592186044416 := hmx; cbv)
      | (intro _; cbv)
    refine loop_up mixed hP hA (N) (fun _ => True) [6, 18, 137, 138, 139, 140, 141, 142, 143, 144] (fun j => [(137, .dv (.int .i64 (ofN j)))]) (fun _ => [.blk [.one (.dv (.int .i64 room)), .one (.dv (.seq (P0 a) 1 L)), .one (.dv (.int .i64 (PU a))), .one (.dv (.int .i64 (GO b))), .one (.dv (.int .i64 (BA b)))], .gone, .gone, .vec N 8 (fun x f => .dv (GU x f))]) (trivial) ?_ fun Nx i hN hi hp => ?_
    · exact Ent.ren [0, 1, 2, 3] rfl rfl ⟨⟨rfl, rfl, rfl, rfl, rfl, trivial⟩, trivial, trivial, ⟨hsz, rfl, fun x f hx hf => hap x f (hsz ▸ hx) hf⟩, trivial⟩ (by cbv; simp [hF])
    cbv
    by_cases hlt2 : i < N
    · have h0 := hU0 i hlt2
      cbv
      repeat' first
        | (refine Chk.mk trivial ?_; cbv)
        | (refine bc_true (by first | assumption | (simp (disch := omega) only [hF, natc, w64_in, decide_eq_true_eq, decide_eq_false_iff_not, Int.toNat_natCast, Bool.not_eq_true', Bool.not_eq_false', not_true_eq_false, not_false_eq_true, Int.not_lt, Int.not_le, Bool.and_eq_true, Bool.or_eq_true, Int.ofNat_lt, Int.ofNat_le, Int.natCast_nonneg, Int.toNat_zero, Int.toNat_one, Classical.not_not, beq_self_eq_true, true_and, and_true]; first | done | assumption | omega | (simp only [natc] at *; omega))) ?_; cbv)
        | (refine bc_false (by first | assumption | (simp (disch := omega) only [hF, natc, w64_in, decide_eq_true_eq, decide_eq_false_iff_not, Int.toNat_natCast, Bool.not_eq_true', Bool.not_eq_false', not_true_eq_false, not_false_eq_true, Int.not_lt, Int.not_le, Bool.and_eq_true, Bool.or_eq_true, Int.ofNat_lt, Int.ofNat_le, Int.natCast_nonneg, Int.toNat_zero, Int.toNat_one, Classical.not_not, beq_self_eq_true, true_and, and_true]; first | done | assumption | omega | (simp only [natc] at *; omega))) ?_; cbv)
        | (refine bc_split (fun h => ?_) (fun h => ?_) <;> (try simp (disch := omega) only [hF, natc, w64_in, decide_eq_true_eq, decide_eq_false_iff_not, Int.toNat_natCast, Bool.not_eq_true', Bool.not_eq_false', not_true_eq_false, not_false_eq_true, Int.not_lt, Int.not_le, Bool.and_eq_true, Bool.or_eq_true, Int.ofNat_lt, Int.ofNat_le, Int.natCast_nonneg, Int.toNat_zero, Int.toNat_one, Classical.not_not, beq_self_eq_true, true_and, and_true] at h) <;> cbv)
        | (refine IdxVC.mk (by simp (disch := omega) only [hF, natc, w64_in, decide_eq_true_eq, decide_eq_false_iff_not, Int.toNat_natCast, Bool.not_eq_true', Bool.not_eq_false', not_true_eq_false, not_false_eq_true, Int.not_lt, Int.not_le, Bool.and_eq_true, Bool.or_eq_true, Int.ofNat_lt, Int.ofNat_le, Int.natCast_nonneg, Int.toNat_zero, Int.toNat_one, Classical.not_not, beq_self_eq_true, true_and, and_true]; first | done | omega | (simp only [natc] at *; omega)) (fun kx hk hk2 => ?_); simp (disch := omega) only [hF, natc, w64_in, decide_eq_true_eq, decide_eq_false_iff_not, Int.toNat_natCast, Bool.not_eq_true', Bool.not_eq_false', not_true_eq_false, not_false_eq_true, Int.not_lt, Int.not_le, Bool.and_eq_true, Bool.or_eq_true, Int.ofNat_lt, Int.ofNat_le, Int.natCast_nonneg, Int.toNat_zero, Int.toNat_one, Classical.not_not, beq_self_eq_true, true_and, and_true] at hk; (try obtain rfl : kx = 0 := hk); (try obtain rfl : i = kx := hk.symm); cbv)
        | (simp (maxSteps := 3000000) (disch := assumption) only [U.h0, U.h1, U.h2, U.h3, U.h4, U.h5, U.h6, U.h7]; cbv)
        | (refine Chk.mk (by simp (disch := omega) only [maxN, hF, natc, w64_in, decide_eq_true_eq, decide_eq_false_iff_not, Int.toNat_natCast, Bool.not_eq_true', Bool.not_eq_false', not_true_eq_false, not_false_eq_true, Int.not_lt, Int.not_le, Bool.and_eq_true, Bool.or_eq_true, Int.ofNat_lt, Int.ofNat_le, Int.natCast_nonneg, Int.toNat_zero, Int.toNat_one, Classical.not_not, beq_self_eq_true, true_and, and_true]; first | done | assumption | omega | (simp only [natc] at *; omega)) ?_; cbv)
        | (intro (hmx : _ ≤ maxN); replace hmx : _ ≤ 17592186044416 := hmx; cbv)
        | (intro _; cbv)
      exact hN _ hlt2 trivial (Ent.ren [0, 1, 2, 3] rfl rfl (by repeat' (first | exact trivial | exact rfl | (intro _ _ _ _; exact rfl) | refine And.intro ?_ ?_)) (by cbv; simp (disch := omega) [hF, natc, w64_in]))
    · cbv
      repeat' first
        | (refine Chk.mk trivial ?_; cbv)
        | (refine bc_true (by first | assumption | (simp (disch := omega) only [hF, natc, w64_in, decide_eq_true_eq, decide_eq_false_iff_not, Int.toNat_natCast, Bool.not_eq_true', Bool.not_eq_false', not_true_eq_false, not_false_eq_true, Int.not_lt, Int.not_le, Bool.and_eq_true, Bool.or_eq_true, Int.ofNat_lt, Int.ofNat_le, Int.natCast_nonneg, Int.toNat_zero, Int.toNat_one, Classical.not_not, beq_self_eq_true, true_and, and_true]; first | done | assumption | omega | (simp only [natc] at *; omega))) ?_; cbv)
        | (refine bc_false (by first | assumption | (simp (disch := omega) only [hF, natc, w64_in, decide_eq_true_eq, decide_eq_false_iff_not, Int.toNat_natCast, Bool.not_eq_true', Bool.not_eq_false', not_true_eq_false, not_false_eq_true, Int.not_lt, Int.not_le, Bool.and_eq_true, Bool.or_eq_true, Int.ofNat_lt, Int.ofNat_le, Int.natCast_nonneg, Int.toNat_zero, Int.toNat_one, Classical.not_not, beq_self_eq_true, true_and, and_true]; first | done | assumption | omega | (simp only [natc] at *; omega))) ?_; cbv)
        | (refine bc_split (fun h => ?_) (fun h => ?_) <;> (try simp (disch := omega) only [hF, natc, w64_in, decide_eq_true_eq, decide_eq_false_iff_not, Int.toNat_natCast, Bool.not_eq_true', Bool.not_eq_false', not_true_eq_false, not_false_eq_true, Int.not_lt, Int.not_le, Bool.and_eq_true, Bool.or_eq_true, Int.ofNat_lt, Int.ofNat_le, Int.natCast_nonneg, Int.toNat_zero, Int.toNat_one, Classical.not_not, beq_self_eq_true, true_and, and_true] at h) <;> cbv)
        | (refine IdxVC.mk (by simp (disch := omega) only [hF, natc, w64_in, decide_eq_true_eq, decide_eq_false_iff_not, Int.toNat_natCast, Bool.not_eq_true', Bool.not_eq_false', not_true_eq_false, not_false_eq_true, Int.not_lt, Int.not_le, Bool.and_eq_true, Bool.or_eq_true, Int.ofNat_lt, Int.ofNat_le, Int.natCast_nonneg, Int.toNat_zero, Int.toNat_one, Classical.not_not, beq_self_eq_true, true_and, and_true]; first | done | omega | (simp only [natc] at *; omega)) (fun kx hk hk2 => ?_); simp (disch := omega) only [hF, natc, w64_in, decide_eq_true_eq, decide_eq_false_iff_not, Int.toNat_natCast, Bool.not_eq_true', Bool.not_eq_false', not_true_eq_false, not_false_eq_true, Int.not_lt, Int.not_le, Bool.and_eq_true, Bool.or_eq_true, Int.ofNat_lt, Int.ofNat_le, Int.natCast_nonneg, Int.toNat_zero, Int.toNat_one, Classical.not_not, beq_self_eq_true, true_and, and_true] at hk; (try obtain rfl : kx = 0 := hk); cbv)
        | (refine Chk.mk (by simp (disch := omega) only [maxN, hF, natc, w64_in, decide_eq_true_eq, decide_eq_false_iff_not, Int.toNat_natCast, Bool.not_eq_true', Bool.not_eq_false', not_true_eq_false, not_false_eq_true, Int.not_lt, Int.not_le, Bool.and_eq_true, Bool.or_eq_true, Int.ofNat_lt, Int.ofNat_le, Int.natCast_nonneg, Int.toNat_zero, Int.toNat_one, Classical.not_not, beq_self_eq_true, true_and, and_true]; first | done | assumption | omega | (simp only [natc] at *; omega)) ?_; cbv)
        | (intro (hmx : _ ≤ maxN); replace hmx : _ ≤ 17592186044416 := hmx; cbv)
        | (intro _; cbv)
        | (refine call_pure hP code_order_Fits (w2) ?_ ?_; (focus (cbv; (try simp); done)); rintro _ rfl; cbv)
        | (refine call_pure hP code_law21_alive (ok_alive) ?_ ?_; (focus (cbv; (try simp); done)); rintro _ rfl; cbv)
      all_goals first
        | (exfalso; simp_all; done)
        | (subst hQ; exact leaf_data rfl rfl ⟨rfl, rfl⟩)

theorem ok_OrderWitness {n : Nat} {GS : Nat → Nat → DV} (S : Ents n GS) {k : Nat} {GT : Nat → Nat → DV} (T : Ents k GT) (room : Int) (hroom : -9223372036854775808 ≤ room ∧ room ≤ 9223372036854775807) :
    CallOK (O := Ob) PR n_law21_OrderWitness [.dv (.seq n 8 GS), .dv (.seq k 8 GT), .dv (.int .i64 room)] [] fun r m => r = .dv (.bool true) ∧ m = [] := by
  by_cases hn : n ≤ 30 ∧ k ≤ 30
  · have hN : n + k < 1000 := by omega
    cases ho : witO S T room with
    | some l =>
      have hM : May S T room := by
        by_cases hM : May S T room
        · exact hM
        · rw [witO, if_neg hM] at ho; cases ho
      have ho' : ord S T room 0 0 = some l := by rw [witO, if_pos hM] at ho; exact ho
      obtain ⟨I, K, w⟩ := way_of S T room (fun j hj => (hM.2.2 j hj).1) l 0 0 (Nat.zero_le _) (Nat.zero_le _) (Cnt.zero S T) ho'
      refine ok_OrderWitness_some S T room hroom hn.1 hn.2 (fun i hi => (hM.2.1 i hi).1) (fun j hj => (hM.2.2 j hj).1) l (by have := ord_len S T room _ _ _ l ho'; omega) I K w l.length rfl (fun j _ => .int .i64 ((l.getD j 0 : Nat) : Int)) (fun j => ((l.getD j 0 : Nat) : Int)) (fun _ _ => rfl) (fun _ => rfl)
        (CallOK.ent (ok_Witness S T room hN) ?_) (CallOK.ent (ok_Fits S T room hN) ?_)
      · rintro r m ⟨⟨l', b', hl', rfl⟩, hm⟩
        refine ⟨_, m, Ent.refl _ _, ?_, hm⟩
        rw [ho] at hl'
        rcases hl' with ⟨rfl, h⟩ | ⟨_, h, _⟩
        · rw [Option.some.inj h]
        · cases h
      · rintro r m ⟨⟨v, rfl, rfl⟩, hm⟩
        exact ⟨_, m, Ent.refl _ _, by rw [ho]; rfl, hm⟩
    | none =>
      have w1 : CallOK (O := Ob) PR n_order_Witness [.dv (.seq n 8 GS), .dv (.seq k 8 GT), .dv (.int .i64 room)] [] (fun r m => (∃ y : Nat → Nat → DV, r = .tup [.dv (.seq 0 1 y), .dv (.bool false)]) ∧ m = []) := by
        refine CallOK.ent (ok_Witness S T room hN) ?_
        rintro r m ⟨⟨l', b', hl', rfl⟩, hm⟩
        refine ⟨_, m, Ent.refl _ _, ?_, hm⟩
        rw [ho] at hl'
        rcases hl' with ⟨rfl, h⟩ | ⟨rfl, _, rfl⟩
        · cases h
        · exact ⟨_, rfl⟩
      have w2 : CallOK (O := Ob) PR n_order_Fits [.dv (.seq n 8 GS), .dv (.seq k 8 GT), .dv (.int .i64 room)] [] (fun r m => r = .dv (.bool false) ∧ m = []) := by
        refine CallOK.ent (ok_Fits S T room hN) ?_
        rintro r m ⟨⟨v, rfl, rfl⟩, hm⟩
        exact ⟨_, m, Ent.refl _ _, by rw [ho]; rfl, hm⟩
      refine fn_walkv mixed fn_law21_OrderWitness (Ent.refl _ _) fun bin cmp un conv bnot beq band sel isel ofN toN inb nz nneg lt le room' slb add sub sbin scmp slen sget ssub addk pc pb pi pf ps mkok min_ ig aeq P hP hA hF Q hQ => ?_
      cbv
      repeat' first
        | (refine Chk.mk trivial ?_; cbv)
        | (refine bc_true (by first | assumption | (simp (disch := omega) only [hF, natc, w64_in, decide_eq_true_eq, decide_eq_false_iff_not, Int.toNat_natCast, Bool.not_eq_true', Bool.not_eq_false', not_true_eq_false, not_false_eq_true, Int.not_lt, Int.not_le, Bool.and_eq_true, Bool.or_eq_true, Int.ofNat_lt, Int.ofNat_le, Int.natCast_nonneg, Int.toNat_zero, Int.toNat_one, Classical.not_not, beq_self_eq_true, true_and, and_true]; first | done | assumption | omega | (simp only [natc] at *; omega))) ?_; cbv)
        | (refine bc_false (by first | assumption | (simp (disch := omega) only [hF, natc, w64_in, decide_eq_true_eq, decide_eq_false_iff_not, Int.toNat_natCast, Bool.not_eq_true', Bool.not_eq_false', not_true_eq_false, not_false_eq_true, Int.not_lt, Int.not_le, Bool.and_eq_true, Bool.or_eq_true, Int.ofNat_lt, Int.ofNat_le, Int.natCast_nonneg, Int.toNat_zero, Int.toNat_one, Classical.not_not, beq_self_eq_true, true_and, and_true]; first | done | assumption | omega | (simp only [natc] at *; omega))) ?_; cbv)
        | (refine bc_split (fun h => ?_) (fun h => ?_) <;> (try simp (disch := omega) only [hF, natc, w64_in, decide_eq_true_eq, decide_eq_false_iff_not, Int.toNat_natCast, Bool.not_eq_true', Bool.not_eq_false', not_true_eq_false, not_false_eq_true, Int.not_lt, Int.not_le, Bool.and_eq_true, Bool.or_eq_true, Int.ofNat_lt, Int.ofNat_le, Int.natCast_nonneg, Int.toNat_zero, Int.toNat_one, Classical.not_not, beq_self_eq_true, true_and, and_true] at h) <;> cbv)
        | (refine IdxVC.mk (by simp (disch := omega) only [hF, natc, w64_in, decide_eq_true_eq, decide_eq_false_iff_not, Int.toNat_natCast, Bool.not_eq_true', Bool.not_eq_false', not_true_eq_false, not_false_eq_true, Int.not_lt, Int.not_le, Bool.and_eq_true, Bool.or_eq_true, Int.ofNat_lt, Int.ofNat_le, Int.natCast_nonneg, Int.toNat_zero, Int.toNat_one, Classical.not_not, beq_self_eq_true, true_and, and_true]; first | done | omega | (simp only [natc] at *; omega)) (fun kx hk hk2 => ?_); simp (disch := omega) only [hF, natc, w64_in, decide_eq_true_eq, decide_eq_false_iff_not, Int.toNat_natCast, Bool.not_eq_true', Bool.not_eq_false', not_true_eq_false, not_false_eq_true, Int.not_lt, Int.not_le, Bool.and_eq_true, Bool.or_eq_true, Int.ofNat_lt, Int.ofNat_le, Int.natCast_nonneg, Int.toNat_zero, Int.toNat_one, Classical.not_not, beq_self_eq_true, true_and, and_true] at hk; (try obtain rfl : kx = 0 := hk); cbv)
        | (refine Chk.mk (by simp (disch := omega) only [maxN, hF, natc, w64_in, decide_eq_true_eq, decide_eq_false_iff_not, Int.toNat_natCast, Bool.not_eq_true', Bool.not_eq_false', not_true_eq_false, not_false_eq_true, Int.not_lt, Int.not_le, Bool.and_eq_true, Bool.or_eq_true, Int.ofNat_lt, Int.ofNat_le, Int.natCast_nonneg, Int.toNat_zero, Int.toNat_one, Classical.not_not, beq_self_eq_true, true_and, and_true]; first | done | assumption | omega | (simp only [natc] at *; omega)) ?_; cbv)
        | (intro (hmx : _ ≤ maxN); replace hmx : _ ≤ 17592186044416 := hmx; cbv)
        | (intro _; cbv)
        | (refine call_pure hP code_law19_Few ((few_le S 30 30 rfl)) ?_ ?_; (focus (cbv; (try simp); done)); rintro _ ⟨f1, hf1, rfl⟩; cbv)
        | (refine call_pure hP code_law19_Few ((few_le T 30 30 rfl)) ?_ ?_; (focus (cbv; (try simp); done)); rintro _ ⟨f2, hf2, rfl⟩; cbv)
        | (refine call_pure hP code_law21_alive (ok_alive) ?_ ?_; (focus (cbv; (try simp); done)); rintro _ rfl; cbv)
        | (refine call_pure hP code_order_Witness (w1) ?_ ?_; (focus (cbv; (try simp); done)); rintro _ ⟨y, rfl⟩; cbv)
        | (refine call_pure hP code_order_Fits (w2) ?_ ?_; (focus (cbv; (try simp); done)); rintro _ rfl; cbv)
      all_goals first
        | (exfalso; simp_all; done)
        | (subst hQ; exact leaf_data rfl rfl ⟨rfl, rfl⟩)
  · refine fn_walkv mixed fn_law21_OrderWitness (Ent.refl _ _) fun bin cmp un conv bnot beq band sel isel ofN toN inb nz nneg lt le room' slb add sub sbin scmp slen sget ssub addk pc pb pi pf ps mkok min_ ig aeq P hP hA hF Q hQ => ?_
    cbv
    repeat' first
      | (refine Chk.mk trivial ?_; cbv)
      | (refine bc_true (by first | assumption | (simp (disch := omega) only [hF, natc, w64_in, decide_eq_true_eq, decide_eq_false_iff_not, Int.toNat_natCast, Bool.not_eq_true', Bool.not_eq_false', not_true_eq_false, not_false_eq_true, Int.not_lt, Int.not_le, Bool.and_eq_true, Bool.or_eq_true, Int.ofNat_lt, Int.ofNat_le, Int.natCast_nonneg, Int.toNat_zero, Int.toNat_one, Classical.not_not, beq_self_eq_true, true_and, and_true]; first | done | assumption | omega | (simp only [natc] at *; omega))) ?_; cbv)
      | (refine bc_false (by first | assumption | (simp (disch := omega) only [hF, natc, w64_in, decide_eq_true_eq, decide_eq_false_iff_not, Int.toNat_natCast, Bool.not_eq_true', Bool.not_eq_false', not_true_eq_false, not_false_eq_true, Int.not_lt, Int.not_le, Bool.and_eq_true, Bool.or_eq_true, Int.ofNat_lt, Int.ofNat_le, Int.natCast_nonneg, Int.toNat_zero, Int.toNat_one, Classical.not_not, beq_self_eq_true, true_and, and_true]; first | done | assumption | omega | (simp only [natc] at *; omega))) ?_; cbv)
      | (refine bc_split (fun h => ?_) (fun h => ?_) <;> (try simp (disch := omega) only [hF, natc, w64_in, decide_eq_true_eq, decide_eq_false_iff_not, Int.toNat_natCast, Bool.not_eq_true', Bool.not_eq_false', not_true_eq_false, not_false_eq_true, Int.not_lt, Int.not_le, Bool.and_eq_true, Bool.or_eq_true, Int.ofNat_lt, Int.ofNat_le, Int.natCast_nonneg, Int.toNat_zero, Int.toNat_one, Classical.not_not, beq_self_eq_true, true_and, and_true] at h) <;> cbv)
      | (refine IdxVC.mk (by simp (disch := omega) only [hF, natc, w64_in, decide_eq_true_eq, decide_eq_false_iff_not, Int.toNat_natCast, Bool.not_eq_true', Bool.not_eq_false', not_true_eq_false, not_false_eq_true, Int.not_lt, Int.not_le, Bool.and_eq_true, Bool.or_eq_true, Int.ofNat_lt, Int.ofNat_le, Int.natCast_nonneg, Int.toNat_zero, Int.toNat_one, Classical.not_not, beq_self_eq_true, true_and, and_true]; first | done | omega | (simp only [natc] at *; omega)) (fun kx hk hk2 => ?_); simp (disch := omega) only [hF, natc, w64_in, decide_eq_true_eq, decide_eq_false_iff_not, Int.toNat_natCast, Bool.not_eq_true', Bool.not_eq_false', not_true_eq_false, not_false_eq_true, Int.not_lt, Int.not_le, Bool.and_eq_true, Bool.or_eq_true, Int.ofNat_lt, Int.ofNat_le, Int.natCast_nonneg, Int.toNat_zero, Int.toNat_one, Classical.not_not, beq_self_eq_true, true_and, and_true] at hk; (try obtain rfl : kx = 0 := hk); cbv)
      | (refine Chk.mk (by simp (disch := omega) only [maxN, hF, natc, w64_in, decide_eq_true_eq, decide_eq_false_iff_not, Int.toNat_natCast, Bool.not_eq_true', Bool.not_eq_false', not_true_eq_false, not_false_eq_true, Int.not_lt, Int.not_le, Bool.and_eq_true, Bool.or_eq_true, Int.ofNat_lt, Int.ofNat_le, Int.natCast_nonneg, Int.toNat_zero, Int.toNat_one, Classical.not_not, beq_self_eq_true, true_and, and_true]; first | done | assumption | omega | (simp only [natc] at *; omega)) ?_; cbv)
      | (intro (hmx : _ ≤ maxN); replace hmx : _ ≤ 17592186044416 := hmx; cbv)
      | (intro _; cbv)
      | (refine call_pure hP code_law19_Few ((few_le S 30 30 rfl)) ?_ ?_; (focus (cbv; (try simp); done)); rintro _ ⟨f1, hf1, rfl⟩; cbv)
      | (refine call_pure hP code_law19_Few ((few_le T 30 30 rfl)) ?_ ?_; (focus (cbv; (try simp); done)); rintro _ ⟨f2, hf2, rfl⟩; cbv)
      | (refine call_pure hP code_law21_alive (ok_alive) ?_ ?_; (focus (cbv; (try simp); done)); rintro _ rfl; cbv)
    all_goals first
      | (exfalso; simp_all; done)
      | (subst hQ; exact leaf_data rfl rfl ⟨rfl, rfl⟩)

end Go.Proofs.Ytophlodlencgiaa
