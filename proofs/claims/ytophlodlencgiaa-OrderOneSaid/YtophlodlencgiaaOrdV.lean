/-
  The way that an order goes through both lists; one call more, by the document; whether one has ended ahead of a time.
-/
import Derived.Test.YtophlodlencgiaaOrdS
namespace Go.Proofs.Ytophlodlencgiaa
open Go.V
set_option linter.unusedVariables false
set_option linter.unusedSimpArgs false
set_option maxRecDepth 100000
set_option maxHeartbeats 8000000

section
variable {n : Nat} {GS : Nat → Nat → DV} {k : Nat} {GT : Nat → Nat → DV} (S : Ents n GS) (T : Ents k GT) (room : Int)

/-- The places in both lists, call by call. -/
structure Way (l : List Nat) (i j : Nat) (I K : Nat → Nat) : Prop where
  i0 : I 0 = i
  k0 : K 0 = j
  cnt : ∀ c, c ≤ l.length → I c ≤ n ∧ K c ≤ k ∧ Cnt S T (I c) (K c)
  step : ∀ c, c < l.length → (l.getD c 0 = I c ∧ goS S T room (I c) (K c) = true ∧ I (c + 1) = I c + 1 ∧ K (c + 1) = K c) ∨ (l.getD c 0 = n + K c ∧ goT S T room (I c) (K c) = true ∧ I (c + 1) = I c ∧ K (c + 1) = K c + 1)
  fin : S.done (I l.length) ∧ T.done (K l.length)

theorem way_of (hkT : ∀ j, j < k → T.kd j = 2 ∨ T.kd j = 3) : ∀ (l : List Nat) (i j : Nat), i ≤ n → j ≤ k → Cnt S T i j → ord S T room i j = some l → ∃ I K, Way S T room l i j I K := by
  intro l
  induction l with
  | nil =>
    intro i j hi hj hc ho
    have hd : S.done i ∧ T.done j := by
      by_cases hd : S.done i ∧ T.done j
      · exact hd
      · rw [ord_step S T room hi hj hd] at ho
        split at ho
        · rename_i l' e
          obtain rfl := Option.some.inj ho
          split at e
          · obtain ⟨x, _, h⟩ := Option.map_eq_some_iff.1 e
            cases h
          · cases e
        · split at ho
          · obtain ⟨x, _, h⟩ := Option.map_eq_some_iff.1 ho
            cases h
          · cases ho
    exact ⟨fun _ => i, fun _ => j, ⟨rfl, rfl, fun _ _ => ⟨hi, hj, hc⟩, fun c h => absurd h (Nat.not_lt_zero c), hd⟩⟩
  | cons a l ih =>
    intro i j hi hj hc ho
    by_cases hd : S.done i ∧ T.done j
    · rw [ord_done S T room hd] at ho; cases ho
    · have key : (a = i ∧ goS S T room i j = true ∧ ord S T room (i + 1) j = some l) ∨ (a = n + j ∧ goT S T room i j = true ∧ ord S T room i (j + 1) = some l) := by
        rw [ord_step S T room hi hj hd] at ho
        split at ho
        · rename_i l' e
          obtain rfl := Option.some.inj ho
          split at e
          · rename_i hg
            obtain ⟨x, h1, h2⟩ := Option.map_eq_some_iff.1 e
            simp only [List.cons.injEq] at h2
            obtain ⟨rfl, rfl⟩ := h2
            exact .inl ⟨rfl, hg, h1⟩
          · cases e
        · split at ho
          · rename_i hg
            obtain ⟨x, h1, h2⟩ := Option.map_eq_some_iff.1 ho
            simp only [List.cons.injEq] at h2
            obtain ⟨rfl, rfl⟩ := h2
            exact .inr ⟨rfl, hg, h1⟩
          · cases ho
      have mk : ∀ i' j', (∃ I K, Way S T room l i' j' I K) → ((a = i ∧ goS S T room i j = true ∧ i' = i + 1 ∧ j' = j) ∨ (a = n + j ∧ goT S T room i j = true ∧ i' = i ∧ j' = j + 1)) → ∃ I K, Way S T room (a :: l) i j I K := by
        rintro i' j' ⟨I, K, w⟩ hs
        refine ⟨fun c => match c with | 0 => i | c + 1 => I c, fun c => match c with | 0 => j | c + 1 => K c, ⟨rfl, rfl, fun c hcl => ?_, fun c hcl => ?_, w.fin⟩⟩
        · cases c with
          | zero => exact ⟨hi, hj, hc⟩
          | succ c => exact w.cnt c (by simpa using hcl)
        · cases c with
          | zero =>
            simp only [List.getD_cons_zero, w.i0, w.k0]
            exact hs
          | succ c => simpa using w.step c (by simpa using hcl)
      rcases key with ⟨h1, h2, h3⟩ | ⟨h1, h2, h3⟩
      · exact mk (i + 1) j (ih _ _ (goS_lt S T room h2) hj hc.stepS h3) (.inl ⟨h1, h2, rfl, rfl⟩)
      · have hlt := goT_lt S T room h2
        have hg := h2
        simp only [goT, Bool.and_eq_true] at hg
        exact mk i (j + 1) (ih _ _ hi hlt (hc.stepT S T room (hkT j hlt) hg.2) h3) (.inr ⟨h1, h2, rfl, rfl⟩)
end

/-- A call of the sender, on the document's queue. -/
theorem does_S {n : Nat} {GS : Nat → Nat → DV} {k : Nat} {GT : Nat → Nat → DV} (S : Ents n GS) (T : Ents k GT) (room : Int) (hroom : -9223372036854775808 ≤ room ∧ room ≤ 9223372036854775807) (hkS : ∀ i, i < n → S.kd i = 1) (hn : n < 1000) (i j : Nat) (hi : i < n) (hcnt : Cnt S T i j)
    (L : Nat → Nat → DV) (lm : Nat → Nat) (lg : Nat → Nat → Nat → DV) (hL : Lds S (S.eff i).length L lm lg) (pu go ba : Int) (hpu : pu = (S.eff i).length) (hgo : go = T.got j) (hba : ba = T.back j) (hs : (stS S T room i j).2 = true) :
    CallOK (O := Ob) PR n_ref21_Does [.agg [.dv (.int .i64 room), .dv (.seq (S.eff i).length 1 L), .dv (.int .i64 pu), .dv (.int .i64 go), .dv (.int .i64 ba)], .agg (S.row i)] []
      fun r m => (∃ (p' : Nat) (L' : Nat → Nat → DV) (pu' go' ba' : Int), r = .tup [.agg [.dv (.int .i64 room), .dv (.seq p' 1 L'), .dv (.int .i64 pu'), .dv (.int .i64 go'), .dv (.int .i64 ba')], .dv (.bool true)] ∧
        p' = (S.eff (i + 1)).length ∧ pu' = (S.eff (i + 1)).length ∧ go' = T.got j ∧ ba' = T.back j ∧ ∃ lm' lg', Lds S (S.eff (i + 1)).length L' lm' lg') ∧ m = [] := by
  have hp : (S.eff i).length < 1000 := by have := S.eff_len i; omega
  have hb := hcnt.1
  have hg := hcnt.2
  have eS : doesI room pu go ba (S.kd i) (S.en i) (S.er i) (sameW (lm go.toNat) (fun z => S.x (S.msg go.toNat) z) (S.m i) (S.x i)) = stS S T room i j := by
    rw [stS, ← hpu, ← hgo, ← hba]
    by_cases hlt : T.got j < (S.eff i).length
    · have e : go.toNat = T.got j := by omega
      rw [e, hL.m _ hlt]
    · have : ¬ go + 1 ≤ pu := by omega
      simp [doesI, this]
  refine CallOK.ent (okR_Does room hroom (S.eff i).length lm lg (fun l z => S.x (S.msg l) z) L hL.at_ hL.x hp pu go ba (by omega) (by omega) (by omega) (by omega) (S.co i) (S.pe i) (S.kd i) (S.be i) (S.en i) (S.er i) (S.m i) (S.g i) (S.x i) (S.hx i hi) (S.ha i)) ?_
  rintro r m ⟨⟨room', pu', go', ba', p', L', v, rfl, hv, hq⟩, hm⟩
  rw [eS] at hv hq
  obtain rfl : v = true := hv.trans hs
  refine ⟨_, m, Ent.refl _ _, ?_, hm⟩
  obtain ⟨rfl, h1, h2, h3⟩ := hq rfl
  rw [stS_cnt S T room' (hkS i hi)] at h1
  simp only [Prod.mk.injEq] at h1
  obtain ⟨h4, h5, h6⟩ := h1
  rw [hkS i hi] at h2 h3
  obtain ⟨h7, lm', lg', hL'⟩ := hL.step hi (m0 := S.m i) (g0 := S.g i) rfl (fun y hy => S.hx i hi y hy) (fun h => h2 ⟨rfl, h⟩) (fun h => h3 fun h' => h h'.2)
  exact ⟨p', L', pu', go', ba', rfl, h7, h4, h5, h6, lm', lg', hL'⟩

/-- A call of the taker. -/
theorem does_T {n : Nat} {GS : Nat → Nat → DV} {k : Nat} {GT : Nat → Nat → DV} (S : Ents n GS) (T : Ents k GT) (room : Int) (hroom : -9223372036854775808 ≤ room ∧ room ≤ 9223372036854775807) (hkT : ∀ j, j < k → T.kd j = 2 ∨ T.kd j = 3) (hn : n < 1000) (i j : Nat) (hin : i ≤ n) (hj : j < k) (hcnt : Cnt S T i j)
    (L : Nat → Nat → DV) (lm : Nat → Nat) (lg : Nat → Nat → Nat → DV) (hL : Lds S (S.eff i).length L lm lg) (pu go ba : Int) (hpu : pu = (S.eff i).length) (hgo : go = T.got j) (hba : ba = T.back j) (hs : (stT S T room i j).2 = true) :
    CallOK (O := Ob) PR n_ref21_Does [.agg [.dv (.int .i64 room), .dv (.seq (S.eff i).length 1 L), .dv (.int .i64 pu), .dv (.int .i64 go), .dv (.int .i64 ba)], .agg (T.row j)] []
      fun r m => (∃ (p' : Nat) (L' : Nat → Nat → DV) (pu' go' ba' : Int), r = .tup [.agg [.dv (.int .i64 room), .dv (.seq p' 1 L'), .dv (.int .i64 pu'), .dv (.int .i64 go'), .dv (.int .i64 ba')], .dv (.bool true)] ∧
        p' = (S.eff i).length ∧ pu' = (S.eff i).length ∧ go' = T.got (j + 1) ∧ ba' = T.back (j + 1) ∧ ∃ lm' lg', Lds S (S.eff i).length L' lm' lg') ∧ m = [] := by
  have hp : (S.eff i).length < 1000 := by have := S.eff_len i; omega
  have hb := hcnt.1
  have hg := hcnt.2
  have eT : doesI room pu go ba (T.kd j) (T.en j) (T.er j) (sameW (lm go.toNat) (fun z => S.x (S.msg go.toNat) z) (T.m j) (T.x j)) = stT S T room i j := by
    rw [stT, ← hpu, ← hgo, ← hba]
    by_cases hlt : T.got j < (S.eff i).length
    · have e : go.toNat = T.got j := by omega
      rw [e, hL.m _ hlt]
    · have : ¬ go + 1 ≤ pu := by omega
      simp [doesI, this]
  refine CallOK.ent (okR_Does room hroom (S.eff i).length lm lg (fun l z => S.x (S.msg l) z) L hL.at_ hL.x hp pu go ba (by omega) (by omega) (by omega) (by omega) (T.co j) (T.pe j) (T.kd j) (T.be j) (T.en j) (T.er j) (T.m j) (T.g j) (T.x j) (T.hx j hj) (T.ha j)) ?_
  rintro r m ⟨⟨room', pu', go', ba', p', L', v, rfl, hv, hq⟩, hm⟩
  rw [eT] at hv hq
  obtain rfl : v = true := hv.trans hs
  refine ⟨_, m, Ent.refl _ _, ?_, hm⟩
  obtain ⟨rfl, h1, h2, h3⟩ := hq rfl
  have hk := hkT j hj
  rw [stT_cnt S T room' hk] at h1
  simp only [Prod.mk.injEq] at h1
  obtain ⟨h4, h5, h6⟩ := h1
  obtain ⟨h7, h8⟩ := h3 (fun h => by omega)
  exact ⟨p', L', pu', go', ba', rfl, h7, h4, h5, h6, lm, lg, hL.same h8⟩

theorem ok_before {n : Nat} {G : Nat → Nat → DV} (S : Ents n G) (a0 a1 a2 a3 a4 a5 : Int) (m : Nat) (g : Nat → Nat → DV) (a7 : Int) :
    CallOK (O := Ob) PR n_law21_before [.dv (.seq n 8 G), .agg [.dv (.int .i64 a0), .dv (.int .i64 a1), .dv (.int .i64 a2), .dv (.int .i64 a3), .dv (.int .i64 a4), .dv (.int .i64 a5), .dv (.seq m 1 g), .dv (.int .i64 a7)]] []
      fun r k => (∃ v, (v = true ↔ S.late 0 a3) ∧ r = .dv (.bool v)) ∧ k = [] := by
  refine fn_walkv mixed fn_law21_before (Ent.refl _ _) fun bin cmp un conv bnot beq band sel isel ofN toN inb nz nneg lt le room' slb add sub sbin scmp slen sget ssub addk pc pb pi pf ps mkok min_ ig aeq P hP hA hF Q hQ => ?_
  cbv
  repeat' first
    | (refine Chk.mk trivial ?_; cbv)
    | (refine bc_true (by first | assumption | (simp (disch := omega) only [hF, natc, Int.ofNat_eq_natCast, w64_in, decide_eq_true_eq, decide_eq_false_iff_not, Int.toNat_natCast, Bool.not_eq_true', Bool.not_eq_false', not_true_eq_false, not_false_eq_true, Int.not_lt, Int.not_le, Bool.and_eq_true, Bool.or_eq_true, Int.ofNat_lt, Int.ofNat_le, Int.natCast_nonneg, Int.toNat_zero, Int.toNat_one, Classical.not_not, beq_self_eq_true, true_and, and_true]; first | done | assumption | omega | (simp only [natc] at *; omega))) ?_; cbv)
    | (refine bc_false (by first | assumption | (simp (disch := omega) only [hF, natc, Int.ofNat_eq_natCast, w64_in, decide_eq_true_eq, decide_eq_false_iff_not, Int.toNat_natCast, Bool.not_eq_true', Bool.not_eq_false', not_true_eq_false, not_false_eq_true, Int.not_lt, Int.not_le, Bool.and_eq_true, Bool.or_eq_true, Int.ofNat_lt, Int.ofNat_le, Int.natCast_nonneg, Int.toNat_zero, Int.toNat_one, Classical.not_not, beq_self_eq_true, true_and, and_true]; first | done | assumption | omega | (simp only [natc] at *; omega))) ?_; cbv)
    | (refine bc_split (fun h => ?_) (fun h => ?_) <;> (try simp (disch := omega) only [hF, natc, Int.ofNat_eq_natCast, w64_in, decide_eq_true_eq, decide_eq_false_iff_not, Int.toNat_natCast, Bool.not_eq_true', Bool.not_eq_false', not_true_eq_false, not_false_eq_true, Int.not_lt, Int.not_le, Bool.and_eq_true, Bool.or_eq_true, Int.ofNat_lt, Int.ofNat_le, Int.natCast_nonneg, Int.toNat_zero, Int.toNat_one, Classical.not_not, beq_self_eq_true, true_and, and_true] at h) <;> cbv)
    | (refine IdxVC.mk (by simp (disch := omega) only [hF, natc, Int.ofNat_eq_natCast, w64_in, decide_eq_true_eq, decide_eq_false_iff_not, Int.toNat_natCast, Bool.not_eq_true', Bool.not_eq_false', not_true_eq_false, not_false_eq_true, Int.not_lt, Int.not_le, Bool.and_eq_true, Bool.or_eq_true, Int.ofNat_lt, Int.ofNat_le, Int.natCast_nonneg, Int.toNat_zero, Int.toNat_one, Classical.not_not, beq_self_eq_true, true_and, and_true]; first | done | omega | (simp only [natc] at *; omega)) (fun kx hk hk2 => ?_); simp (disch := omega) only [hF, natc, Int.ofNat_eq_natCast, w64_in, decide_eq_true_eq, decide_eq_false_iff_not, Int.toNat_natCast, Bool.not_eq_true', Bool.not_eq_false', not_true_eq_false, not_false_eq_true, Int.not_lt, Int.not_le, Bool.and_eq_true, Bool.or_eq_true, Int.ofNat_lt, Int.ofNat_le, Int.natCast_nonneg, Int.toNat_zero, Int.toNat_one, Classical.not_not, beq_self_eq_true, true_and, and_true] at hk; (try obtain rfl : kx = 0 := hk); cbv)
    | (refine Chk.mk (by simp (disch := omega) only [maxN, hF, natc, Int.ofNat_eq_natCast, w64_in, decide_eq_true_eq, decide_eq_false_iff_not, Int.toNat_natCast, Bool.not_eq_true', Bool.not_eq_false', not_true_eq_false, not_false_eq_true, Int.not_lt, Int.not_le, Bool.and_eq_true, Bool.or_eq_true, Int.ofNat_lt, Int.ofNat_le, Int.natCast_nonneg, Int.toNat_zero, Int.toNat_one, Classical.not_not, beq_self_eq_true, true_and, and_true]; first | done | assumption | omega | (simp only [natc] at *; omega)) ?_; cbv)
    | (intro (hmx : _ ≤ maxN); replace hmx : _ ≤ 17592186044416 := hmx; cbv)
    | (intro _; cbv)
  refine loop_up mixed hP hA (n) (fun i => ∀ j, j < i → ¬ (S.en j ≠ 0 ∧ S.en j < a3)) [4, 6, 9, 10, 11, 12, 13, 14, 15, 16, 17, 18, 19, 20, 21, 22, 23] (fun i => [(9, .dv (.int .i64 (ofN i)))]) (fun _ => [.blk (ebox a0 a1 a2 a3 a4 a5 m g a7)]) (fun j hj => absurd hj (Nat.not_lt_zero j)) ?_ fun Nx i hN hi hp => ?_
  · exact Ent.env (by cbv; simp [hF])
  cbv
  repeat' first
    | (refine Chk.mk trivial ?_; cbv)
    | (refine bc_true (by first | assumption | (simp (disch := omega) only [hF, natc, Int.ofNat_eq_natCast, w64_in, decide_eq_true_eq, decide_eq_false_iff_not, Int.toNat_natCast, Bool.not_eq_true', Bool.not_eq_false', not_true_eq_false, not_false_eq_true, Int.not_lt, Int.not_le, Bool.and_eq_true, Bool.or_eq_true, Int.ofNat_lt, Int.ofNat_le, Int.natCast_nonneg, Int.toNat_zero, Int.toNat_one, Classical.not_not, beq_self_eq_true, true_and, and_true]; first | done | assumption | omega | (simp only [natc] at *; omega))) ?_; cbv)
    | (refine bc_false (by first | assumption | (simp (disch := omega) only [hF, natc, Int.ofNat_eq_natCast, w64_in, decide_eq_true_eq, decide_eq_false_iff_not, Int.toNat_natCast, Bool.not_eq_true', Bool.not_eq_false', not_true_eq_false, not_false_eq_true, Int.not_lt, Int.not_le, Bool.and_eq_true, Bool.or_eq_true, Int.ofNat_lt, Int.ofNat_le, Int.natCast_nonneg, Int.toNat_zero, Int.toNat_one, Classical.not_not, beq_self_eq_true, true_and, and_true]; first | done | assumption | omega | (simp only [natc] at *; omega))) ?_; cbv)
    | (refine bc_split (fun h => ?_) (fun h => ?_) <;> (try simp (disch := omega) only [hF, natc, Int.ofNat_eq_natCast, w64_in, decide_eq_true_eq, decide_eq_false_iff_not, Int.toNat_natCast, Bool.not_eq_true', Bool.not_eq_false', not_true_eq_false, not_false_eq_true, Int.not_lt, Int.not_le, Bool.and_eq_true, Bool.or_eq_true, Int.ofNat_lt, Int.ofNat_le, Int.natCast_nonneg, Int.toNat_zero, Int.toNat_one, Classical.not_not, beq_self_eq_true, true_and, and_true] at h) <;> cbv)
    | (refine IdxVC.mk (by simp (disch := omega) only [hF, natc, Int.ofNat_eq_natCast, w64_in, decide_eq_true_eq, decide_eq_false_iff_not, Int.toNat_natCast, Bool.not_eq_true', Bool.not_eq_false', not_true_eq_false, not_false_eq_true, Int.not_lt, Int.not_le, Bool.and_eq_true, Bool.or_eq_true, Int.ofNat_lt, Int.ofNat_le, Int.natCast_nonneg, Int.toNat_zero, Int.toNat_one, Classical.not_not, beq_self_eq_true, true_and, and_true]; first | done | omega | (simp only [natc] at *; omega)) (fun kx hk hk2 => ?_); simp (disch := omega) only [hF, natc, Int.ofNat_eq_natCast, w64_in, decide_eq_true_eq, decide_eq_false_iff_not, Int.toNat_natCast, Bool.not_eq_true', Bool.not_eq_false', not_true_eq_false, not_false_eq_true, Int.not_lt, Int.not_le, Bool.and_eq_true, Bool.or_eq_true, Int.ofNat_lt, Int.ofNat_le, Int.natCast_nonneg, Int.toNat_zero, Int.toNat_one, Classical.not_not, beq_self_eq_true, true_and, and_true] at hk; (try obtain rfl : kx = 0 := hk); cbv)
    | (simp (maxSteps := 3000000) (disch := assumption) only [S.h0, S.h1, S.h2, S.h3, S.h4, S.h5, S.h6, S.h7]; cbv)
    | (refine Chk.mk (by simp (disch := omega) only [maxN, hF, natc, Int.ofNat_eq_natCast, w64_in, decide_eq_true_eq, decide_eq_false_iff_not, Int.toNat_natCast, Bool.not_eq_true', Bool.not_eq_false', not_true_eq_false, not_false_eq_true, Int.not_lt, Int.not_le, Bool.and_eq_true, Bool.or_eq_true, Int.ofNat_lt, Int.ofNat_le, Int.natCast_nonneg, Int.toNat_zero, Int.toNat_one, Classical.not_not, beq_self_eq_true, true_and, and_true]; first | done | assumption | omega | (simp only [natc] at *; omega)) ?_; cbv)
    | (intro (hmx : _ ≤ maxN); replace hmx : _ ≤ 17592186044416 := hmx; cbv)
    | (intro _; cbv)
  all_goals first
    | (subst hQ; refine leaf_data rfl rfl ⟨⟨_, ?_, rfl⟩, rfl⟩; (try clear hN); (try simp only [hF]); (try simp only [natc] at *); clear hF hA hP; (simp only [Ents.late]; grind); done)
    | (refine hN _ (by first | omega | (simp only [natc] at *; omega)) ?_ (by first | exact Ent.env (by cbv; simp (disch := omega) [hF, natc, w64_in]) | exact Ent.ren [] rfl rfl trivial (by cbv; simp (disch := omega) [hF, natc, w64_in]) | exact Ent.ren [0] rfl rfl (by repeat' (first | exact trivial | exact rfl | (intro _ _ _ _; exact rfl) | refine And.intro ?_ ?_)) (by cbv; simp (disch := omega) [hF, natc, w64_in]) | exact Ent.ren [0, 1] rfl rfl (by repeat' (first | exact trivial | exact rfl | (intro _ _ _ _; exact rfl) | refine And.intro ?_ ?_)) (by cbv; simp (disch := omega) [hF, natc, w64_in])); clear hN; (try simp only [natc] at *); clear hF hA hP; grind; done)
    | skip

end Go.Proofs.Ytophlodlencgiaa
