/-
  Calls that are made one by one have one order: the law's function, joined.
-/
import Derived.Test.YtophlodlencgiaaOroF
import Derived.Test.YtophlodlencgiaaOrdT
namespace Go.Proofs.Ytophlodlencgiaa
open Go.V
set_option linter.unusedVariables false
set_option linter.unusedSimpArgs false
set_option maxRecDepth 100000
set_option maxHeartbeats 8000000

theorem alive_room {n : Nat} {G : Nat → Nat → DV} (room wh : Int) (h : room < 0 ∨ (0 ≤ room ∧ 20 < room) ∨ (0 ≤ room ∧ room ≤ 20 ∧ 40 < n)) :
    CallOK (O := Ob) PR n_law21_OrderOne [.dv (.int .i64 room), .dv (.seq n 2 G), .dv (.int .u64 wh)] [] fun r m => r = .dv (.bool true) ∧ m = [] := by
  refine fn_walkv mixed fn_law21_OrderOne (Ent.refl _ _) fun bin cmp un conv bnot beq band sel isel ofN toN inb nz nneg lt le room' slb add sub sbin scmp slen sget ssub addk pc pb pi pf ps mkok min_ ig aeq P hP hA hF Q hQ => ?_
  rcases h with h0 | ⟨h0, h1⟩ | ⟨h0, h1, h2⟩
  · cbv
    repeat' first
      | (refine Chk.mk trivial ?_; cbv)
      | (refine bc_true (by first | assumption | (simp (disch := omega) only [hF, natc, Int.ofNat_eq_natCast, w64_in, decide_eq_true_eq, decide_eq_false_iff_not, Int.toNat_natCast, Bool.not_eq_true', Bool.not_eq_false', not_true_eq_false, not_false_eq_true, Int.not_lt, Int.not_le, Bool.and_eq_true, Bool.or_eq_true, Int.ofNat_lt, Int.ofNat_le, Int.natCast_nonneg, Int.toNat_zero, Int.toNat_one, Classical.not_not, beq_self_eq_true, true_and, and_true]; first | done | assumption | omega | (simp only [natc] at *; omega))) ?_; cbv)
      | (refine bc_false (by first | assumption | (simp (disch := omega) only [hF, natc, Int.ofNat_eq_natCast, w64_in, decide_eq_true_eq, decide_eq_false_iff_not, Int.toNat_natCast, Bool.not_eq_true', Bool.not_eq_false', not_true_eq_false, not_false_eq_true, Int.not_lt, Int.not_le, Bool.and_eq_true, Bool.or_eq_true, Int.ofNat_lt, Int.ofNat_le, Int.natCast_nonneg, Int.toNat_zero, Int.toNat_one, Classical.not_not, beq_self_eq_true, true_and, and_true]; first | done | assumption | omega | (simp only [natc] at *; omega))) ?_; cbv)
      | (refine bc_split (fun h => ?_) (fun h => ?_) <;> (try simp (disch := omega) only [hF, natc, Int.ofNat_eq_natCast, w64_in, decide_eq_true_eq, decide_eq_false_iff_not, Int.toNat_natCast, Bool.not_eq_true', Bool.not_eq_false', not_true_eq_false, not_false_eq_true, Int.not_lt, Int.not_le, Bool.and_eq_true, Bool.or_eq_true, Int.ofNat_lt, Int.ofNat_le, Int.natCast_nonneg, Int.toNat_zero, Int.toNat_one, Classical.not_not, beq_self_eq_true, true_and, and_true] at h) <;> cbv)
      | (refine IdxVC.mk (by simp (disch := omega) only [hF, natc, Int.ofNat_eq_natCast, w64_in, decide_eq_true_eq, decide_eq_false_iff_not, Int.toNat_natCast, Bool.not_eq_true', Bool.not_eq_false', not_true_eq_false, not_false_eq_true, Int.not_lt, Int.not_le, Bool.and_eq_true, Bool.or_eq_true, Int.ofNat_lt, Int.ofNat_le, Int.natCast_nonneg, Int.toNat_zero, Int.toNat_one, Classical.not_not, beq_self_eq_true, true_and, and_true]; first | done | omega | (simp only [natc] at *; omega)) (fun kx hk hk2 => ?_); simp (disch := omega) only [hF, natc, Int.ofNat_eq_natCast, w64_in, decide_eq_true_eq, decide_eq_false_iff_not, Int.toNat_natCast, Bool.not_eq_true', Bool.not_eq_false', not_true_eq_false, not_false_eq_true, Int.not_lt, Int.not_le, Bool.and_eq_true, Bool.or_eq_true, Int.ofNat_lt, Int.ofNat_le, Int.natCast_nonneg, Int.toNat_zero, Int.toNat_one, Classical.not_not, beq_self_eq_true, true_and, and_true] at hk; (try obtain rfl : kx = 0 := hk); cbv)
      | (refine Chk.mk (by simp (disch := omega) only [maxN, hF, natc, Int.ofNat_eq_natCast, w64_in, decide_eq_true_eq, decide_eq_false_iff_not, Int.toNat_natCast, Bool.not_eq_true', Bool.not_eq_false', not_true_eq_false, not_false_eq_true, Int.not_lt, Int.not_le, Bool.and_eq_true, Bool.or_eq_true, Int.ofNat_lt, Int.ofNat_le, Int.natCast_nonneg, Int.toNat_zero, Int.toNat_one, Classical.not_not, beq_self_eq_true, true_and, and_true]; first | done | assumption | omega | (simp only [natc] at *; omega)) ?_; cbv)
      | (intro (hmx : _ ≤ maxN); replace hmx : _ ≤ 17592186044416 := hmx; cbv)
      | (intro _; cbv)
      | (refine call_pure hP code_law21_alive (ok_alive) ?_ ?_; (focus (cbv; (try simp); done)); rintro _ rfl; cbv)
    subst hQ; exact leaf_data rfl rfl ⟨rfl, rfl⟩
  · cbv
    repeat' first
      | (refine Chk.mk trivial ?_; cbv)
      | (refine bc_true (by first | assumption | (simp (disch := omega) only [hF, natc, Int.ofNat_eq_natCast, w64_in, decide_eq_true_eq, decide_eq_false_iff_not, Int.toNat_natCast, Bool.not_eq_true', Bool.not_eq_false', not_true_eq_false, not_false_eq_true, Int.not_lt, Int.not_le, Bool.and_eq_true, Bool.or_eq_true, Int.ofNat_lt, Int.ofNat_le, Int.natCast_nonneg, Int.toNat_zero, Int.toNat_one, Classical.not_not, beq_self_eq_true, true_and, and_true]; first | done | assumption | omega | (simp only [natc] at *; omega))) ?_; cbv)
      | (refine bc_false (by first | assumption | (simp (disch := omega) only [hF, natc, Int.ofNat_eq_natCast, w64_in, decide_eq_true_eq, decide_eq_false_iff_not, Int.toNat_natCast, Bool.not_eq_true', Bool.not_eq_false', not_true_eq_false, not_false_eq_true, Int.not_lt, Int.not_le, Bool.and_eq_true, Bool.or_eq_true, Int.ofNat_lt, Int.ofNat_le, Int.natCast_nonneg, Int.toNat_zero, Int.toNat_one, Classical.not_not, beq_self_eq_true, true_and, and_true]; first | done | assumption | omega | (simp only [natc] at *; omega))) ?_; cbv)
      | (refine bc_split (fun h => ?_) (fun h => ?_) <;> (try simp (disch := omega) only [hF, natc, Int.ofNat_eq_natCast, w64_in, decide_eq_true_eq, decide_eq_false_iff_not, Int.toNat_natCast, Bool.not_eq_true', Bool.not_eq_false', not_true_eq_false, not_false_eq_true, Int.not_lt, Int.not_le, Bool.and_eq_true, Bool.or_eq_true, Int.ofNat_lt, Int.ofNat_le, Int.natCast_nonneg, Int.toNat_zero, Int.toNat_one, Classical.not_not, beq_self_eq_true, true_and, and_true] at h) <;> cbv)
      | (refine IdxVC.mk (by simp (disch := omega) only [hF, natc, Int.ofNat_eq_natCast, w64_in, decide_eq_true_eq, decide_eq_false_iff_not, Int.toNat_natCast, Bool.not_eq_true', Bool.not_eq_false', not_true_eq_false, not_false_eq_true, Int.not_lt, Int.not_le, Bool.and_eq_true, Bool.or_eq_true, Int.ofNat_lt, Int.ofNat_le, Int.natCast_nonneg, Int.toNat_zero, Int.toNat_one, Classical.not_not, beq_self_eq_true, true_and, and_true]; first | done | omega | (simp only [natc] at *; omega)) (fun kx hk hk2 => ?_); simp (disch := omega) only [hF, natc, Int.ofNat_eq_natCast, w64_in, decide_eq_true_eq, decide_eq_false_iff_not, Int.toNat_natCast, Bool.not_eq_true', Bool.not_eq_false', not_true_eq_false, not_false_eq_true, Int.not_lt, Int.not_le, Bool.and_eq_true, Bool.or_eq_true, Int.ofNat_lt, Int.ofNat_le, Int.natCast_nonneg, Int.toNat_zero, Int.toNat_one, Classical.not_not, beq_self_eq_true, true_and, and_true] at hk; (try obtain rfl : kx = 0 := hk); cbv)
      | (refine Chk.mk (by simp (disch := omega) only [maxN, hF, natc, Int.ofNat_eq_natCast, w64_in, decide_eq_true_eq, decide_eq_false_iff_not, Int.toNat_natCast, Bool.not_eq_true', Bool.not_eq_false', not_true_eq_false, not_false_eq_true, Int.not_lt, Int.not_le, Bool.and_eq_true, Bool.or_eq_true, Int.ofNat_lt, Int.ofNat_le, Int.natCast_nonneg, Int.toNat_zero, Int.toNat_one, Classical.not_not, beq_self_eq_true, true_and, and_true]; first | done | assumption | omega | (simp only [natc] at *; omega)) ?_; cbv)
      | (intro (hmx : _ ≤ maxN); replace hmx : _ ≤ 17592186044416 := hmx; cbv)
      | (intro _; cbv)
      | (refine call_pure hP code_law21_alive (ok_alive) ?_ ?_; (focus (cbv; (try simp); done)); rintro _ rfl; cbv)
    subst hQ; exact leaf_data rfl rfl ⟨rfl, rfl⟩
  · cbv
    repeat' first
      | (refine Chk.mk trivial ?_; cbv)
      | (refine bc_true (by first | assumption | (simp (disch := omega) only [hF, natc, Int.ofNat_eq_natCast, w64_in, decide_eq_true_eq, decide_eq_false_iff_not, Int.toNat_natCast, Bool.not_eq_true', Bool.not_eq_false', not_true_eq_false, not_false_eq_true, Int.not_lt, Int.not_le, Bool.and_eq_true, Bool.or_eq_true, Int.ofNat_lt, Int.ofNat_le, Int.natCast_nonneg, Int.toNat_zero, Int.toNat_one, Classical.not_not, beq_self_eq_true, true_and, and_true]; first | done | assumption | omega | (simp only [natc] at *; omega))) ?_; cbv)
      | (refine bc_false (by first | assumption | (simp (disch := omega) only [hF, natc, Int.ofNat_eq_natCast, w64_in, decide_eq_true_eq, decide_eq_false_iff_not, Int.toNat_natCast, Bool.not_eq_true', Bool.not_eq_false', not_true_eq_false, not_false_eq_true, Int.not_lt, Int.not_le, Bool.and_eq_true, Bool.or_eq_true, Int.ofNat_lt, Int.ofNat_le, Int.natCast_nonneg, Int.toNat_zero, Int.toNat_one, Classical.not_not, beq_self_eq_true, true_and, and_true]; first | done | assumption | omega | (simp only [natc] at *; omega))) ?_; cbv)
      | (refine bc_split (fun h => ?_) (fun h => ?_) <;> (try simp (disch := omega) only [hF, natc, Int.ofNat_eq_natCast, w64_in, decide_eq_true_eq, decide_eq_false_iff_not, Int.toNat_natCast, Bool.not_eq_true', Bool.not_eq_false', not_true_eq_false, not_false_eq_true, Int.not_lt, Int.not_le, Bool.and_eq_true, Bool.or_eq_true, Int.ofNat_lt, Int.ofNat_le, Int.natCast_nonneg, Int.toNat_zero, Int.toNat_one, Classical.not_not, beq_self_eq_true, true_and, and_true] at h) <;> cbv)
      | (refine IdxVC.mk (by simp (disch := omega) only [hF, natc, Int.ofNat_eq_natCast, w64_in, decide_eq_true_eq, decide_eq_false_iff_not, Int.toNat_natCast, Bool.not_eq_true', Bool.not_eq_false', not_true_eq_false, not_false_eq_true, Int.not_lt, Int.not_le, Bool.and_eq_true, Bool.or_eq_true, Int.ofNat_lt, Int.ofNat_le, Int.natCast_nonneg, Int.toNat_zero, Int.toNat_one, Classical.not_not, beq_self_eq_true, true_and, and_true]; first | done | omega | (simp only [natc] at *; omega)) (fun kx hk hk2 => ?_); simp (disch := omega) only [hF, natc, Int.ofNat_eq_natCast, w64_in, decide_eq_true_eq, decide_eq_false_iff_not, Int.toNat_natCast, Bool.not_eq_true', Bool.not_eq_false', not_true_eq_false, not_false_eq_true, Int.not_lt, Int.not_le, Bool.and_eq_true, Bool.or_eq_true, Int.ofNat_lt, Int.ofNat_le, Int.natCast_nonneg, Int.toNat_zero, Int.toNat_one, Classical.not_not, beq_self_eq_true, true_and, and_true] at hk; (try obtain rfl : kx = 0 := hk); cbv)
      | (refine Chk.mk (by simp (disch := omega) only [maxN, hF, natc, Int.ofNat_eq_natCast, w64_in, decide_eq_true_eq, decide_eq_false_iff_not, Int.toNat_natCast, Bool.not_eq_true', Bool.not_eq_false', not_true_eq_false, not_false_eq_true, Int.not_lt, Int.not_le, Bool.and_eq_true, Bool.or_eq_true, Int.ofNat_lt, Int.ofNat_le, Int.natCast_nonneg, Int.toNat_zero, Int.toNat_one, Classical.not_not, beq_self_eq_true, true_and, and_true]; first | done | assumption | omega | (simp only [natc] at *; omega)) ?_; cbv)
      | (intro (hmx : _ ≤ maxN); replace hmx : _ ≤ 17592186044416 := hmx; cbv)
      | (intro _; cbv)
      | (refine call_pure hP code_law21_alive (ok_alive) ?_ ?_; (focus (cbv; (try simp); done)); rintro _ rfl; cbv)
    subst hQ; exact leaf_data rfl rfl ⟨rfl, rfl⟩

theorem ok_OrderOne {n : Nat} {G : Nat → Nat → DV} (Q : Asks n G) (room wh : Int) (w0 : 0 ≤ wh) (w1 : wh < 18446744073709551616) :
    CallOK (O := Ob) PR n_law21_OrderOne [.dv (.int .i64 room), .dv (.seq n 2 G), .dv (.int .u64 wh)] [] fun r m => r = .dv (.bool true) ∧ m = [] := by
  by_cases hb : 0 ≤ room ∧ room ≤ 20 ∧ n ≤ 40
  · obtain ⟨hr0, hr1, hn⟩ := hb
    have ci := cn_inv room Q.r hr0 n
    have hN : (cn room Q.r n).a ≤ 40 := by omega
    have hK : (cn room Q.r n).b ≤ 40 := by omega
    have hfd := found Q room hr0
    have hlen := names_len Q room (cn room Q.r n).a n 0
    have hl0 : (cn room Q.r 0).a + (cn room Q.r 0).b = 0 := rfl
    rw [hl0, Nat.add_zero, Nat.zero_add] at hlen
    have e0 := E0_le Q room (cn room Q.r n).a (tS Q)
    have e1 := E0_le Q room (cn room Q.r n).b (tT Q room)
    have W0v : ∀ x, x < (cn room Q.r n).a + (cn room Q.r n).b → (((namesF (cn room Q.r n).a (fun c => (cn room Q.r c).a) (fun c => (cn room Q.r c).b) (evt room Q.r) n 0).getD x 0 : Nat) : Int) =
        (if (if evt room Q.r (tW Q room x) = 1 then -((cn room Q.r (tW Q room x)).a : Int) - 1 else ((cn room Q.r (tW Q room x)).b : Int)) < 0 then -(if evt room Q.r (tW Q room x) = 1 then -((cn room Q.r (tW Q room x)).a : Int) - 1 else ((cn room Q.r (tW Q room x)).b : Int)) - 1 else ((cn room Q.r n).a : Int) + (if evt room Q.r (tW Q room x) = 1 then -((cn room Q.r (tW Q room x)).a : Int) - 1 else ((cn room Q.r (tW Q room x)).b : Int))) := by
      intro x hx
      rw [names_at Q room x hx]
      unfold nameI
      by_cases h1 : evt room Q.r (tW Q room x) = 1
      · simp only [h1, if_true]
        rw [if_pos (by omega)]; omega
      · simp only [h1, if_false]
        rw [if_neg (by omega)]; omega
    refine ok_OrderOne_main room wh (book Q room hr0 hn) hr0 hr1 hn Q.h0 Q.h1
      (fun j x => if x < j then (if (if evt room Q.r (tW Q room x) = 1 then -((cn room Q.r (tW Q room x)).a : Int) - 1 else ((cn room Q.r (tW Q room x)).b : Int)) < 0 then -(if evt room Q.r (tW Q room x) = 1 then -((cn room Q.r (tW Q room x)).a : Int) - 1 else ((cn room Q.r (tW Q room x)).b : Int)) - 1 else ((cn room Q.r n).a : Int) + (if evt room Q.r (tW Q room x) = 1 then -((cn room Q.r (tW Q room x)).a : Int) - 1 else ((cn room Q.r (tW Q room x)).b : Int))) else (if evt room Q.r (tW Q room x) = 1 then -((cn room Q.r (tW Q room x)).a : Int) - 1 else ((cn room Q.r (tW Q room x)).b : Int)))
      (fun x => if_neg (Nat.not_lt_zero x)) ?_ (fun j x hx => if_neg (by omega))
      (fun j _ => .int .i64 (((namesF (cn room Q.r n).a (fun c => (cn room Q.r c).a) (fun c => (cn room Q.r c).b) (evt room Q.r) n 0).getD j 0 : Nat) : Int)) ?_ ?_ ?_
    · intro j x
      by_cases hx : x = j
      · subst hx
        rw [if_pos (Nat.lt_succ_self _), if_pos rfl]
      · rw [if_neg hx]
        by_cases hlt : x < j
        · rw [if_pos hlt, if_pos (by omega)]
        · rw [if_neg hlt, if_neg (by omega)]
    · refine CallOK.pre (Ent.weak (.cons (.dv e0) (.cons (.dv e1) (.cons (.same _) .nil)))) ?_
      refine CallOK.mono (ok_Witness (SS Q room) (TT Q room) room (by omega)) ?_
      rintro r m ⟨⟨l, b, hb, rfl⟩, hm⟩
      refine ⟨?_, hm⟩
      rw [hfd] at hb
      rcases hb with ⟨rfl, hl⟩ | ⟨_, hl, _⟩
      · obtain rfl := Option.some.inj hl
        rw [hlen]
      · cases hl
    · refine CallOK.mono (ok_Same _ _ (fun j => (((namesF (cn room Q.r n).a (fun c => (cn room Q.r c).a) (fun c => (cn room Q.r c).b) (evt room Q.r) n 0).getD j 0 : Nat) : Int)) (fun _ _ => rfl) _ _ _ (fun _ _ => rfl)) ?_
      rintro r m ⟨⟨v, hv, rfl⟩, hm⟩
      refine ⟨?_, hm⟩
      have : v = true := by
        rw [hv, sameW_iff]
        refine ⟨rfl, fun x hx => ?_⟩
        rw [if_pos hx]
        exact W0v x hx
      rw [this]
    · refine CallOK.pre (Ent.weak (.cons (.dv e0) (.cons (.dv e1) (.cons (.same _) (.cons (.same _) .nil))))) ?_
      exact ok_spoilt (SS Q room) (TT Q room) room wh w0 w1 hN hK (fun k hk => spoilt_none Q room hr0 k hk _ rfl)
  · exact alive_room room wh (by omega)

end Go.Proofs.Ytophlodlencgiaa
