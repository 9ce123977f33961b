/-
  Walks: calls that are made one by one have one order: from what is written down.
-/
import Derived.Test.YtophlodlencgiaaOroE
namespace Go.Proofs.Ytophlodlencgiaa
open Go.V

section
variable {n : Nat} {G : Nat → Nat → DV} (Q : Asks n G) (room : Int)

/-- A call as it is written down. -/
def Asks.E0 (c : Nat) : Nat → DV := fun f => match f with
  | 0 => .int .i64 0 | 1 => .int .i64 0 | 2 => .int .i64 (1 + Q.r c) | 3 => .int .i64 (2 * (c : Int) + 1) | 4 => .int .i64 (2 * (c : Int) + 2)
  | 5 => .int .i64 (erI room Q.r c) | 6 => if Q.hasW room c then .seq (Q.m (Q.src room c)) 1 (Q.g (Q.src room c)) else .nils | _ => .int .i64 0

theorem E0_le (N : Nat) (t : Nat → Nat) : DLe (.seq N 8 fun i => Q.E0 room (t i)) (.seq N 8 fun i => Q.E room (t i)) := by
  refine .seq fun i f hi hf => ?_
  rcases (by omega : f = 0 ∨ f = 1 ∨ f = 2 ∨ f = 3 ∨ f = 4 ∨ f = 5 ∨ f = 6 ∨ f = 7) with rfl | rfl | rfl | rfl | rfl | rfl | rfl | rfl
  all_goals first | exact .same _ | skip
  show DLe (if Q.hasW room (t i) then .seq (Q.m (Q.src room (t i))) 1 (Q.g (Q.src room (t i))) else .nils) (.seq (Q.lm room (t i)) 1 (Q.g (Q.src room (t i))))
  unfold Asks.lm
  split
  · exact .same _
  · exact .nil 1 _
end

/-- What is written down, and how it grows. -/
structure Book (n : Nat) (room : Int) (kd : Nat → Int) (qm : Nat → Nat) (qg : Nat → Nat → Nat → DV) (ca cb cp cw : Nat → Nat) (gI kI : Nat → Int) (GS0 GT0 : Nat → Nat → DV) (LL : Nat → DV) (W0 : Nat → Int) : Prop where
  z : ca 0 = 0 ∧ cb 0 = 0 ∧ cp 0 = 0 ∧ cw 0 = 0 ∧ gI 0 = 0 ∧ kI 0 = 0
  b : ∀ i, i ≤ n → ca i + cb i ≤ i ∧ cw i = ca i + cb i ∧ cp i ≤ ca i ∧ 0 ≤ kI i ∧ kI i ≤ gI i ∧ gI i ≤ cp i ∧ (cp i : Int) - kI i ≤ room
  s0f : ∀ i, i < n → (kd i).tmod 3 = 0 → room ≤ (cp i : Int) - kI i → ca (i + 1) = ca i + 1 ∧ cb (i + 1) = cb i ∧ cp (i + 1) = cp i ∧ cw (i + 1) = cw i + 1 ∧ gI (i + 1) = gI i ∧ kI (i + 1) = kI i ∧ W0 (cw i) = -(ca i : Int) - 1 ∧
    GS0 (ca i) 2 = .int .i64 1 ∧ GS0 (ca i) 5 = .int .i64 5 ∧ GS0 (ca i) 6 = .seq (qm i) 1 (qg i)
  s0n : ∀ i, i < n → (kd i).tmod 3 = 0 → ¬ room ≤ (cp i : Int) - kI i → ca (i + 1) = ca i + 1 ∧ cb (i + 1) = cb i ∧ cp (i + 1) = cp i + 1 ∧ cw (i + 1) = cw i + 1 ∧ gI (i + 1) = gI i ∧ kI (i + 1) = kI i ∧ W0 (cw i) = -(ca i : Int) - 1 ∧
    GS0 (ca i) 2 = .int .i64 1 ∧ GS0 (ca i) 5 = .int .i64 0 ∧ GS0 (ca i) 6 = .seq (qm i) 1 (qg i) ∧ LL (cp i) = .seq (qm i) 1 (qg i)
  s1g : ∀ i, i < n → (kd i).tmod 3 = 1 → gI i < cp i → ca (i + 1) = ca i ∧ cb (i + 1) = cb i + 1 ∧ cp (i + 1) = cp i ∧ cw (i + 1) = cw i + 1 ∧ gI (i + 1) = gI i + 1 ∧ kI (i + 1) = kI i ∧ W0 (cw i) = cb i ∧
    GT0 (cb i) 2 = .int .i64 2 ∧ GT0 (cb i) 5 = .int .i64 0 ∧ GT0 (cb i) 6 = LL (gI i).toNat
  s1e : ∀ i, i < n → (kd i).tmod 3 = 1 → ¬ gI i < cp i → ca (i + 1) = ca i ∧ cb (i + 1) = cb i + 1 ∧ cp (i + 1) = cp i ∧ cw (i + 1) = cw i + 1 ∧ gI (i + 1) = gI i ∧ kI (i + 1) = kI i ∧ W0 (cw i) = cb i ∧
    GT0 (cb i) 2 = .int .i64 2 ∧ GT0 (cb i) 5 = .int .i64 6 ∧ GT0 (cb i) 6 = .nils
  s2 : ∀ i, i < n → (kd i).tmod 3 = 2 → kI i < gI i → ca (i + 1) = ca i ∧ cb (i + 1) = cb i + 1 ∧ cp (i + 1) = cp i ∧ cw (i + 1) = cw i + 1 ∧ gI (i + 1) = gI i ∧ kI (i + 1) = kI i + 1 ∧ W0 (cw i) = cb i ∧
    GT0 (cb i) 2 = .int .i64 3 ∧ GT0 (cb i) 5 = .int .i64 0 ∧ GT0 (cb i) 6 = .nils
  sn : ∀ i, i < n → ¬ (kd i).tmod 3 = 0 → ¬ (kd i).tmod 3 = 1 → ¬ ((kd i).tmod 3 = 2 ∧ kI i < gI i) → ca (i + 1) = ca i ∧ cb (i + 1) = cb i ∧ cp (i + 1) = cp i ∧ cw (i + 1) = cw i ∧ gI (i + 1) = gI i ∧ kI (i + 1) = kI i
  sr : ∀ i, i < n → (kd i).tmod 3 = 0 → GS0 (ca i) 0 = .int .i64 0 ∧ GS0 (ca i) 1 = .int .i64 0 ∧ GS0 (ca i) 3 = .int .i64 (2 * (i : Int) + 1) ∧ GS0 (ca i) 4 = .int .i64 (2 * (i : Int) + 2) ∧ GS0 (ca i) 7 = .int .i64 0
  tr : ∀ i, i < n → (kd i).tmod 3 = 1 ∨ (kd i).tmod 3 = 2 ∧ kI i < gI i → GT0 (cb i) 0 = .int .i64 0 ∧ GT0 (cb i) 1 = .int .i64 0 ∧ GT0 (cb i) 3 = .int .i64 (2 * (i : Int) + 1) ∧ GT0 (cb i) 4 = .int .i64 (2 * (i : Int) + 2) ∧ GT0 (cb i) 7 = .int .i64 0
  w : ∀ j, j < cw n → -40 ≤ W0 j ∧ W0 j ≤ 40

set_option maxHeartbeats 1000000 in
theorem book {n : Nat} {G : Nat → Nat → DV} (Q : Asks n G) (room : Int) (hr0 : 0 ≤ room) (hn : n ≤ 40) :
    Book n room Q.kd Q.m Q.g (fun c => (cn room Q.r c).a) (fun c => (cn room Q.r c).b) (fun c => (cn room Q.r c).p) (fun c => (cn room Q.r c).a + (cn room Q.r c).b) (fun c => ((cn room Q.r c).g : Int)) (fun c => ((cn room Q.r c).k : Int))
      (fun x => Q.E0 room (tS Q x)) (fun x => Q.E0 room (tT Q room x)) (fun x => .seq (Q.m (tP Q room x)) 1 (Q.g (tP Q room x)))
      (fun x => if evt room Q.r (tW Q room x) = 1 then -((cn room Q.r (tW Q room x)).a : Int) - 1 else ((cn room Q.r (tW Q room x)).b : Int)) := by
  have hrr : ∀ i, (Q.kd i).tmod 3 = Q.r i := fun _ => rfl
  have hs0 : ∀ i, i < n → Q.r i = 0 → tS Q (cn room Q.r i).a = i ∧ tW Q room ((cn room Q.r i).a + (cn room Q.r i).b) = i ∧ evt room Q.r i = 1 := fun i hi h =>
    ⟨tS_at Q room hi h, tW_at Q room hi (by rw [(ev_one Q room).2 h]; decide), (ev_one Q room).2 h⟩
  have hst : ∀ i, i < n → evt room Q.r i = 2 → tT Q room (cn room Q.r i).b = i ∧ tW Q room ((cn room Q.r i).a + (cn room Q.r i).b) = i := fun i hi h =>
    ⟨tT_at Q room hi h, tW_at Q room hi (by rw [h]; decide)⟩
  have e1 : ∀ i, Q.r i = 1 → evt room Q.r i = 2 := fun i h => by unfold evt; grind
  have e2 : ∀ i, Q.r i = 2 → (cn room Q.r i).k < (cn room Q.r i).g → evt room Q.r i = 2 := fun i h h' => by unfold evt; grind
  have na := next_a room Q.r
  have nb := next_b room Q.r
  have np := next_p room Q.r
  have ng := next_g room Q.r
  have nk := next_k room Q.r
  have hfu : ∀ i, full room Q.r i ↔ room ≤ ((cn room Q.r i).p : Int) - (cn room Q.r i).k := fun i => Iff.rfl
  refine ⟨⟨rfl, rfl, rfl, rfl, rfl, rfl⟩, fun i hi => ?_, fun i hi h h' => ?_, fun i hi h h' => ?_, fun i hi h h' => ?_, fun i hi h h' => ?_, fun i hi h h' => ?_, fun i hi h h' h'' => ?_, fun i hi h => ?_, fun i hi h => ?_, fun j hj => ?_⟩
  · have := cn_inv room Q.r hr0 i
    exact ⟨by omega, rfl, by omega, by omega, by omega, by omega, by omega⟩
  · rw [hrr] at h
    obtain ⟨t1, t2, t3⟩ := hs0 i hi h
    simp only [t1, t2, t3, if_true]
    refine ⟨by grind, by grind, by grind, by grind, by grind, by grind, trivial, ?_, ?_, ?_⟩
    · show DV.int .i64 (1 + Q.r i) = _; rw [h]; rfl
    · show DV.int .i64 (erI room Q.r i) = _; rw [erI, if_pos h, if_pos ((hfu i).2 h')]
    · show (if Q.hasW room i then DV.seq (Q.m (Q.src room i)) 1 (Q.g (Q.src room i)) else .nils) = _
      rw [if_pos (.inl h), Asks.src, if_pos h]
  · rw [hrr] at h
    obtain ⟨t1, t2, t3⟩ := hs0 i hi h
    simp only [t1, t2, t3, if_true]
    refine ⟨by grind, by grind, by grind, by grind, by grind, by grind, trivial, ?_, ?_, ?_, ?_⟩
    · show DV.int .i64 (1 + Q.r i) = _; rw [h]; rfl
    · show DV.int .i64 (erI room Q.r i) = _; rw [erI, if_pos h, if_neg (fun hh => h' ((hfu i).1 hh))]
    · show (if Q.hasW room i then DV.seq (Q.m (Q.src room i)) 1 (Q.g (Q.src room i)) else .nils) = _
      rw [if_pos (.inl h), Asks.src, if_pos h]
    · rw [tP_at Q room hi h (fun hh => h' ((hfu i).1 hh))]
  · rw [hrr] at h
    obtain ⟨t1, t2⟩ := hst i hi (e1 i h)
    have hg : (cn room Q.r i).g < (cn room Q.r i).p := by (try simp only at h'); omega
    simp only [t1, t2, e1 i h]
    refine ⟨by grind, by grind, by grind, by grind, by grind, by grind, by simp, ?_, ?_, ?_⟩
    · show DV.int .i64 (1 + Q.r i) = _; rw [h]; rfl
    · show DV.int .i64 (erI room Q.r i) = _; rw [erI, if_neg (by omega), if_pos h, if_pos hg]
    · show (if Q.hasW room i then DV.seq (Q.m (Q.src room i)) 1 (Q.g (Q.src room i)) else .nils) = _
      rw [if_pos (.inr ⟨h, hg⟩), Asks.src, if_neg (by omega)]
      rfl
  · rw [hrr] at h
    obtain ⟨t1, t2⟩ := hst i hi (e1 i h)
    have hg : ¬ (cn room Q.r i).g < (cn room Q.r i).p := by (try simp only at h'); omega
    simp only [t1, t2, e1 i h]
    refine ⟨by grind, by grind, by grind, by grind, by grind, by grind, by simp, ?_, ?_, ?_⟩
    · show DV.int .i64 (1 + Q.r i) = _; rw [h]; rfl
    · show DV.int .i64 (erI room Q.r i) = _; rw [erI, if_neg (by omega), if_pos h, if_neg hg]
    · show (if Q.hasW room i then DV.seq (Q.m (Q.src room i)) 1 (Q.g (Q.src room i)) else .nils) = _
      rw [if_neg (by unfold Asks.hasW; omega)]
  · rw [hrr] at h
    have hg : (cn room Q.r i).k < (cn room Q.r i).g := by (try simp only at h'); omega
    obtain ⟨t1, t2⟩ := hst i hi (e2 i h hg)
    simp only [t1, t2, e2 i h hg]
    refine ⟨by grind, by grind, by grind, by grind, by grind, by grind, by simp, ?_, ?_, ?_⟩
    · show DV.int .i64 (1 + Q.r i) = _; rw [h]; rfl
    · show DV.int .i64 (erI room Q.r i) = _; rw [erI, if_neg (by omega), if_neg (by omega)]
    · show (if Q.hasW room i then DV.seq (Q.m (Q.src room i)) 1 (Q.g (Q.src room i)) else .nils) = _
      rw [if_neg (by unfold Asks.hasW; omega)]
  · rw [hrr] at h h' h''
    have hg : ¬ (Q.r i = 2 ∧ (cn room Q.r i).k < (cn room Q.r i).g) := by (try simp only at h''); omega
    have he : ¬ evt room Q.r i = 2 := by unfold evt; rw [if_neg h, if_neg h', if_neg hg]; decide
    refine ⟨?_, ?_, ?_, ?_, ?_, ?_⟩
    · show (cn room Q.r (i + 1)).a = _; rw [na, if_neg h, Nat.add_zero]
    · show (cn room Q.r (i + 1)).b = _; rw [nb, if_neg he, Nat.add_zero]
    · show (cn room Q.r (i + 1)).p = _; rw [np, if_neg (fun x => h x.1), Nat.add_zero]
    · show (cn room Q.r (i + 1)).a + (cn room Q.r (i + 1)).b = _; rw [na, if_neg h, nb, if_neg he, Nat.add_zero, Nat.add_zero]
    · show ((cn room Q.r (i + 1)).g : Int) = _; rw [ng, if_neg (fun x => h' x.1), Nat.add_zero]
    · show ((cn room Q.r (i + 1)).k : Int) = _; rw [nk, if_neg hg, Nat.add_zero]
  · obtain ⟨t1, _⟩ := hs0 i hi h
    simp only [t1]
    exact ⟨rfl, rfl, rfl, rfl, rfl⟩
  · have he : evt room Q.r i = 2 := by
      rcases h with h | ⟨h, h'⟩
      · exact e1 i h
      · exact e2 i h (by (try simp only at h'); omega)
    obtain ⟨t1, _⟩ := hst i hi he
    simp only [t1]
    exact ⟨rfl, rfl, rfl, rfl, rfl⟩
  · have h1 := cn_inv room Q.r hr0 (tW Q room j)
    have h2 := tW_lt Q room j hj
    show -40 ≤ (if evt room Q.r (tW Q room j) = 1 then -((cn room Q.r (tW Q room j)).a : Int) - 1 else ((cn room Q.r (tW Q room j)).b : Int)) ∧ (if evt room Q.r (tW Q room j) = 1 then -((cn room Q.r (tW Q room j)).a : Int) - 1 else ((cn room Q.r (tW Q room j)).b : Int)) ≤ 40
    split <;> omega

end Go.Proofs.Ytophlodlencgiaa

section
namespace Go.Proofs.Ytophlodlencgiaa
open Go.V
set_option linter.unusedVariables false
set_option linter.unusedSimpArgs false
set_option maxRecDepth 100000
set_option maxHeartbeats 8000000

theorem ok_OrderOne_main {n : Nat} {G : Nat → Nat → DV} (room wh : Int) {kd : Nat → Int} {qm : Nat → Nat} {qg : Nat → Nat → Nat → DV} {ca cb cp cw : Nat → Nat} {gI kI : Nat → Int} {GS0 GT0 : Nat → Nat → DV} {LL : Nat → DV} {W0 : Nat → Int}
    (B : Book n room kd qm qg ca cb cp cw gI kI GS0 GT0 LL W0) (hr0 : 0 ≤ room) (hr1 : room ≤ 20) (hn : n ≤ 40)
    (q0 : ∀ i, i < n → G i 0 = .int .i64 (kd i)) (q1 : ∀ i, i < n → G i 1 = .seq (qm i) 1 (qg i))
    (HW : Nat → Nat → Int) (hH0 : ∀ x, HW 0 x = W0 x) (hHn : ∀ j x, HW (j + 1) x = if x = j then (if W0 j < 0 then -W0 j - 1 else ca n + W0 j) else HW j x) (hHg : ∀ j x, j ≤ x → HW j x = W0 x)
    (YY : Nat → Nat → DV) (hwit : CallOK (O := Ob) PR n_order_Witness [.dv (.seq (ca n) 8 GS0), .dv (.seq (cb n) 8 GT0), .dv (.int .i64 room)] [] fun r m => r = .tup [.dv (.seq (cw n) 1 YY), .dv (.bool true)] ∧ m = [])
    (hsame : CallOK (O := Ob) PR n_ref03_Same [.dv (.seq (cw n) 1 YY), .dv (.seq (cw n) 1 fun x _ => .int .i64 (HW (cw n) x))] [] fun r m => r = .dv (.bool true) ∧ m = [])
    (hspo : CallOK (O := Ob) PR n_law21_spoilt [.dv (.seq (ca n) 8 GS0), .dv (.seq (cb n) 8 GT0), .dv (.int .i64 room), .dv (.int .u64 wh)] [] fun r m => r = .dv (.bool true) ∧ m = []) :
    CallOK (O := Ob) PR n_law21_OrderOne [.dv (.int .i64 room), .dv (.seq n 2 G), .dv (.int .u64 wh)] [] fun r m => r = .dv (.bool true) ∧ m = [] := by
  refine fn_walkv mixed fn_law21_OrderOne (Ent.refl _ _) fun bin cmp un conv bnot beq band sel isel ofN toN inb nz nneg lt le room' slb add sub sbin scmp slen sget ssub addk pc pb pi pf ps mkok min_ ig aeq P hP hA hF Q hQ => ?_
  have hone : ∀ (k : Nat) (F : Nat → DV) (v : SV), v = .dv (F k) → ∀ x f, x < add k 1 → f < 1 → appAt ⟨bin, cmp, un, conv, bnot, beq, band, sel, isel, ofN, toN, inb, nz, nneg, lt, le, room', slb, add, sub, sbin, scmp, slen, sget, ssub, addk, pc, pb, pi, pf, ps, mkok, min_, ig, aeq⟩ k (fun x f => .dv (F x)) (listAt 1 [v]) x f = .dv (F x) := by
    intro k F v hv x f hx hf
    simp only [hF] at hx
    simp only [appAt]
    split
    · rfl
    · obtain rfl : x = k := by omega
      obtain rfl : f = 0 := by omega
      simp only [hF, Nat.sub_self, listAt, Nat.zero_mul, Nat.zero_add]
      rw [← hv]; rfl
  have hrow : ∀ (k : Nat) (F : Nat → Nat → DV) (v2 v3 v4 v5 v6 : SV), .dv (F k 0) = SV.dv (.int .i64 0) → .dv (F k 1) = SV.dv (.int .i64 0) → .dv (F k 2) = v2 → .dv (F k 3) = v3 → .dv (F k 4) = v4 → .dv (F k 5) = v5 → .dv (F k 6) = v6 → .dv (F k 7) = SV.dv (.int .i64 0) →
      ∀ x f, x < add k 1 → f < 8 → appAt ⟨bin, cmp, un, conv, bnot, beq, band, sel, isel, ofN, toN, inb, nz, nneg, lt, le, room', slb, add, sub, sbin, scmp, slen, sget, ssub, addk, pc, pb, pi, pf, ps, mkok, min_, ig, aeq⟩ k (fun x f => .dv (F x f)) (listAt 8 [.dv (.int .i64 0), .dv (.int .i64 0), v2, v3, v4, v5, v6, .dv (.int .i64 0)]) x f = .dv (F x f) := by
    intro k F v2 v3 v4 v5 v6 e0 e1 e2 e3 e4 e5 e6 e7 x f hx hf
    simp only [hF] at hx
    simp only [appAt]
    split
    · rfl
    · obtain rfl : x = k := by omega
      simp only [hF, Nat.sub_self, listAt, Nat.zero_mul, Nat.zero_add]
      rcases (by omega : f = 0 ∨ f = 1 ∨ f = 2 ∨ f = 3 ∨ f = 4 ∨ f = 5 ∨ f = 6 ∨ f = 7) with rfl | rfl | rfl | rfl | rfl | rfl | rfl | rfl
      · rw [e0]; rfl
      · rw [e1]; rfl
      · rw [e2]; rfl
      · rw [e3]; rfl
      · rw [e4]; rfl
      · rw [e5]; rfl
      · rw [e6]; rfl
      · rw [e7]; rfl
  cbv
  repeat' first
    | (refine Chk.mk trivial ?_; cbv)
    | (refine bc_true (by first | assumption | (simp (disch := omega) only [hF, natc, Int.ofNat_eq_natCast, w64_in, decide_eq_true_eq, decide_eq_false_iff_not, Int.toNat_natCast, Bool.not_eq_true', Bool.not_eq_false', not_true_eq_false, not_false_eq_true, Int.not_lt, Int.not_le, Bool.and_eq_true, Bool.or_eq_true, Int.ofNat_lt, Int.ofNat_le, Int.natCast_nonneg, Int.toNat_zero, Int.toNat_one, Classical.not_not, beq_self_eq_true, true_and, and_true]; first | done | assumption | omega | (simp only [natc] at *; omega))) ?_; cbv)
    | (refine bc_false (by first | assumption | (simp (disch := omega) only [hF, natc, Int.ofNat_eq_natCast, w64_in, decide_eq_true_eq, decide_eq_false_iff_not, Int.toNat_natCast, Bool.not_eq_true', Bool.not_eq_false', not_true_eq_false, not_false_eq_true, Int.not_lt, Int.not_le, Bool.and_eq_true, Bool.or_eq_true, Int.ofNat_lt, Int.ofNat_le, Int.natCast_nonneg, Int.toNat_zero, Int.toNat_one, Classical.not_not, beq_self_eq_true, true_and, and_true]; first | done | assumption | omega | (simp only [natc] at *; omega))) ?_; cbv)
    | (refine bc_split (fun h => ?_) (fun h => ?_) <;> (try simp (disch := omega) only [hF, natc, Int.ofNat_eq_natCast, w64_in, decide_eq_true_eq, decide_eq_false_iff_not, Int.toNat_natCast, Bool.not_eq_true', Bool.not_eq_false', not_true_eq_false, not_false_eq_true, Int.not_lt, Int.not_le, Bool.and_eq_true, Bool.or_eq_true, Int.ofNat_lt, Int.ofNat_le, Int.natCast_nonneg, Int.toNat_zero, Int.toNat_one, Classical.not_not, beq_self_eq_true, true_and, and_true] at h) <;> cbv)
    | (refine IdxVC.mk (by simp (disch := omega) only [hF, natc, Int.ofNat_eq_natCast, w64_in, decide_eq_true_eq, decide_eq_false_iff_not, Int.toNat_natCast, Bool.not_eq_true', Bool.not_eq_false', not_true_eq_false, not_false_eq_true, Int.not_lt, Int.not_le, Bool.and_eq_true, Bool.or_eq_true, Int.ofNat_lt, Int.ofNat_le, Int.natCast_nonneg, Int.toNat_zero, Int.toNat_one, Classical.not_not, beq_self_eq_true, true_and, and_true]; first | done | omega | (simp only [natc] at *; omega)) (fun kx hk hk2 => ?_); simp (disch := omega) only [hF, natc, Int.ofNat_eq_natCast, w64_in, decide_eq_true_eq, decide_eq_false_iff_not, Int.toNat_natCast, Bool.not_eq_true', Bool.not_eq_false', not_true_eq_false, not_false_eq_true, Int.not_lt, Int.not_le, Bool.and_eq_true, Bool.or_eq_true, Int.ofNat_lt, Int.ofNat_le, Int.natCast_nonneg, Int.toNat_zero, Int.toNat_one, Classical.not_not, beq_self_eq_true, true_and, and_true] at hk; (try obtain rfl : kx = 0 := hk); cbv)
    | (refine Chk.mk (by simp (disch := omega) only [maxN, hF, natc, Int.ofNat_eq_natCast, w64_in, decide_eq_true_eq, decide_eq_false_iff_not, Int.toNat_natCast, Bool.not_eq_true', Bool.not_eq_false', not_true_eq_false, not_false_eq_true, Int.not_lt, Int.not_le, Bool.and_eq_true, Bool.or_eq_true, Int.ofNat_lt, Int.ofNat_le, Int.natCast_nonneg, Int.toNat_zero, Int.toNat_one, Classical.not_not, beq_self_eq_true, true_and, and_true]; first | done | assumption | omega | (simp only [natc] at *; omega)) ?_; cbv)
    | (intro (hmx : _ ≤ maxN); replace hmx : _ ≤ 17592186044416 := hmx; cbv)
    | (intro _; cbv)
  refine loop_up mixed hP hA (n) (fun _ => True) [6, 7, 8, 9, 10, 11, 12, 13, 14, 15, 34, 35, 36, 37, 38, 39, 40, 41, 42, 43, 44, 45, 46, 47, 48, 49, 50, 51, 52, 53, 54, 55, 56, 57, 58, 59, 60, 61, 62, 63, 64, 65, 66, 67, 68, 69, 70, 71, 72, 73, 74, 75, 76, 77, 78, 79, 80, 81, 82, 83, 84, 85, 86, 87, 88, 89, 90, 91, 92, 93, 94, 95, 96, 97, 98, 99, 100, 101, 102, 103, 104, 105, 106, 107, 108, 109, 110, 111, 112, 113, 114, 115, 116, 117, 118, 119, 120, 121, 122, 123, 124, 125, 126, 127, 128, 129, 130, 131, 132, 133, 134] (fun i => [(7, .vec 0), (8, .vec 1), (9, .vec 2), (10, .vec 3), (11, .dv (.int .i64 (gI i))), (12, .dv (.int .i64 (kI i))), (34, .dv (.int .i64 (ofN i)))]) (fun i => [.vec (ca i) 8 (fun x f => .dv (GS0 x f)), .vec (cb i) 8 (fun x f => .dv (GT0 x f)), .vec (cw i) 1 (fun x f => .dv (.int .i64 (W0 x))), .vec (cp i) 1 (fun x f => .dv (LL x))]) (trivial) ?_ fun Nx i hN hi hp => ?_
  · obtain ⟨z1, z2, z3, z4, z5, z6⟩ := B.z
    exact (((Ent.nilv 7 8 (fun x f => .dv (GS0 x f)) rfl).trans (Ent.nilv 8 8 (fun x f => .dv (GT0 x f)) rfl)).trans ((Ent.nilv 9 1 (fun x f => .dv (.int .i64 (W0 x))) rfl).trans (Ent.nilv 10 1 (fun x f => .dv (LL x)) rfl))).trans
      (Ent.ren [0, 1, 2, 3] rfl rfl ⟨⟨z1.symm, rfl, fun _ _ _ _ => rfl⟩, ⟨z2.symm, rfl, fun _ _ _ _ => rfl⟩, ⟨z4.symm, rfl, fun _ _ _ _ => rfl⟩, ⟨z3.symm, rfl, fun _ _ _ _ => rfl⟩, trivial⟩ (by cbv; simp [hF, z5, z6]))
  cbv
  by_cases hlt : i < n
  · have q0 := q0 i hlt
    have q1 := q1 i hlt
    have hr3 : -2 ≤ (kd i).tmod 3 ∧ (kd i).tmod 3 ≤ 2 := by
      have := Int.tmod_lt_of_pos (kd i) (show (0 : Int) < 3 by omega)
      have := Int.lt_tmod_of_pos (kd i) (show (0 : Int) < 3 by omega)
      omega
    obtain ⟨b1, b2, b3, b4, b5, b6, b7⟩ := B.b i (by omega)
    have v2 : ∀ t, bin .rem .i64 (kd i) 3 = t → -2 ≤ t ∧ t ≤ 2 → bin .add .i64 1 (bin .rem .i64 (kd i) 3) = 1 + t := by
      rintro t rfl ht
      simp (disch := omega) only [hF, natc, w64_in] at ht ⊢
    have v3 : bin .add .i64 (bin .mul .i64 2 (ofN i)) 1 = 2 * (i : Int) + 1 := by simp (disch := omega) only [hF, natc, w64_in]
    have v4 : bin .add .i64 (bin .mul .i64 2 (ofN i)) 2 = 2 * (i : Int) + 2 := by simp (disch := omega) only [hF, natc, w64_in]
    have vr : bin .rem .i64 (kd i) 3 = (kd i).tmod 3 := by simp only [hF]
    have vn : bin .sub .i64 (un .neg .i64 (ofN (ca i))) 1 = -(ca i : Int) - 1 := by
      simp (disch := omega) only [hF, natc, w64_in]; omega
    have vb : ofN (cb i) = (cb i : Int) := by simp only [hF, natc]
    have sr := B.sr i hlt
    have tr := B.tr i hlt
    have s0f := B.s0f i hlt
    have s0n := B.s0n i hlt
    have s1g := B.s1g i hlt
    have s1e := B.s1e i hlt
    have s2 := B.s2 i hlt
    have sn := B.sn i hlt
    cbv
    repeat' first
      | (refine Chk.mk trivial ?_; cbv)
      | (refine bc_true (by first | assumption | (simp (disch := omega) only [hF, natc, Int.ofNat_eq_natCast, w64_in, decide_eq_true_eq, decide_eq_false_iff_not, Int.toNat_natCast, Bool.not_eq_true', Bool.not_eq_false', not_true_eq_false, not_false_eq_true, Int.not_lt, Int.not_le, Bool.and_eq_true, Bool.or_eq_true, Int.ofNat_lt, Int.ofNat_le, Int.natCast_nonneg, Int.toNat_zero, Int.toNat_one, Classical.not_not, beq_self_eq_true, true_and, and_true]; first | done | assumption | omega | (simp only [natc] at *; omega))) ?_; cbv)
      | (refine bc_false (by first | assumption | (simp (disch := omega) only [hF, natc, Int.ofNat_eq_natCast, w64_in, decide_eq_true_eq, decide_eq_false_iff_not, Int.toNat_natCast, Bool.not_eq_true', Bool.not_eq_false', not_true_eq_false, not_false_eq_true, Int.not_lt, Int.not_le, Bool.and_eq_true, Bool.or_eq_true, Int.ofNat_lt, Int.ofNat_le, Int.natCast_nonneg, Int.toNat_zero, Int.toNat_one, Classical.not_not, beq_self_eq_true, true_and, and_true]; first | done | assumption | omega | (simp only [natc] at *; omega))) ?_; cbv)
      | (refine bc_split (fun h => ?_) (fun h => ?_) <;> (try simp (disch := omega) only [hF, natc, Int.ofNat_eq_natCast, w64_in, decide_eq_true_eq, decide_eq_false_iff_not, Int.toNat_natCast, Bool.not_eq_true', Bool.not_eq_false', not_true_eq_false, not_false_eq_true, Int.not_lt, Int.not_le, Bool.and_eq_true, Bool.or_eq_true, Int.ofNat_lt, Int.ofNat_le, Int.natCast_nonneg, Int.toNat_zero, Int.toNat_one, Classical.not_not, beq_self_eq_true, true_and, and_true] at h) <;> cbv)
      | (refine IdxVC.mk (by simp (disch := omega) only [hF, natc, Int.ofNat_eq_natCast, w64_in, decide_eq_true_eq, decide_eq_false_iff_not, Int.toNat_natCast, Bool.not_eq_true', Bool.not_eq_false', not_true_eq_false, not_false_eq_true, Int.not_lt, Int.not_le, Bool.and_eq_true, Bool.or_eq_true, Int.ofNat_lt, Int.ofNat_le, Int.natCast_nonneg, Int.toNat_zero, Int.toNat_one, Classical.not_not, beq_self_eq_true, true_and, and_true]; first | done | omega | (simp only [natc] at *; omega)) (fun kx hk hk2 => ?_); simp (disch := omega) only [hF, natc, Int.ofNat_eq_natCast, w64_in, decide_eq_true_eq, decide_eq_false_iff_not, Int.toNat_natCast, Bool.not_eq_true', Bool.not_eq_false', not_true_eq_false, not_false_eq_true, Int.not_lt, Int.not_le, Bool.and_eq_true, Bool.or_eq_true, Int.ofNat_lt, Int.ofNat_le, Int.natCast_nonneg, Int.toNat_zero, Int.toNat_one, Classical.not_not, beq_self_eq_true, true_and, and_true] at hk; (try obtain rfl : kx = 0 := hk); (try obtain rfl : i = kx := hk.symm); cbv)
      | (rw [q0] <;> first | assumption | cbv)
      | (rw [q1] <;> first | assumption | cbv)
      | (refine Chk.mk (by simp (disch := omega) only [maxN, hF, natc, Int.ofNat_eq_natCast, w64_in, decide_eq_true_eq, decide_eq_false_iff_not, Int.toNat_natCast, Bool.not_eq_true', Bool.not_eq_false', not_true_eq_false, not_false_eq_true, Int.not_lt, Int.not_le, Bool.and_eq_true, Bool.or_eq_true, Int.ofNat_lt, Int.ofNat_le, Int.natCast_nonneg, Int.toNat_zero, Int.toNat_one, Classical.not_not, beq_self_eq_true, true_and, and_true]; first | done | assumption | omega | (simp only [natc] at *; omega)) ?_; cbv)
      | (intro (hmx : _ ≤ maxN); replace hmx : _ ≤ 17592186044416 := hmx; cbv)
      | (intro _; cbv)
      | (refine call_pure hP code_law21_alive (ok_alive) ?_ ?_; (focus (cbv; (try simp); done)); rintro _ rfl; cbv)
    · subst hQ; exact leaf_data rfl rfl ⟨rfl, rfl⟩
    · simp only [natc] at *
      have h3 : (kd i).tmod 3 = 0 := by assumption
      have hf : room ≤ (cp i : Int) - kI i := by
        have : room ≤ IntKind.i64.wrap ((cp i : Int) - kI i) := by assumption
        rwa [w64_in (by omega)] at this
      obtain ⟨c1, c2, c3, c4, c5, c6, c7, d2, d5, d6⟩ := s0f h3 hf
      obtain ⟨d0, d1, d3, d4, d7⟩ := sr h3
      refine hN _ hlt trivial (Ent.ren [9, 1, 7, 3] rfl rfl ⟨⟨by rw [c1]; simp only [hF], rfl, fun x f hx hf => hrow (ca i) GS0 _ _ _ _ _ (by rw [d0]) (by rw [d1]) (by rw [d2, v2 0 (by rw [vr, h3]) (by omega)]; rfl) (by rw [d3, v3]) (by rw [d4, v4]) (by rw [d5]) (by rw [d6]) (by rw [d7]) x f hx hf⟩, ⟨c2.symm, rfl, fun _ _ _ _ => rfl⟩, ⟨by rw [c4]; simp only [hF], rfl, fun x f hx hf => hone (cw i) (fun x => .int .i64 (W0 x)) _ (by rw [c7, vn]) x f hx hf⟩, ⟨c3.symm, rfl, fun _ _ _ _ => rfl⟩, trivial⟩ (by cbv; simp (disch := omega) [hF, natc, w64_in, c5, c6]))
    · simp only [natc] at *
      have h3 : (kd i).tmod 3 = 0 := by assumption
      have hf : ¬ room ≤ (cp i : Int) - kI i := by
        have : IntKind.i64.wrap ((cp i : Int) - kI i) < room := by assumption
        rw [w64_in (by omega)] at this
        omega
      obtain ⟨c1, c2, c3, c4, c5, c6, c7, d2, d5, d6, d8⟩ := s0n h3 hf
      obtain ⟨d0, d1, d3, d4, d7⟩ := sr h3
      refine hN _ hlt trivial (Ent.ren [11, 1, 9, 7] rfl rfl ⟨⟨by rw [c1]; simp only [hF], rfl, fun x f hx hf => hrow (ca i) GS0 _ _ _ _ _ (by rw [d0]) (by rw [d1]) (by rw [d2, v2 0 (by rw [vr, h3]) (by omega)]; rfl) (by rw [d3, v3]) (by rw [d4, v4]) (by rw [d5]) (by rw [d6]) (by rw [d7]) x f hx hf⟩, ⟨c2.symm, rfl, fun _ _ _ _ => rfl⟩, ⟨by rw [c4]; simp only [hF], rfl, fun x f hx hf => hone (cw i) (fun x => .int .i64 (W0 x)) _ (by rw [c7, vn]) x f hx hf⟩, ⟨by rw [c3]; simp only [hF], rfl, fun x f hx hf => hone (cp i) LL _ (by rw [d8]) x f hx hf⟩, trivial⟩ (by cbv; simp (disch := omega) [hF, natc, w64_in, c5, c6]))
    · simp only [natc] at *
      have h3 : (kd i).tmod 3 = 1 := by assumption
      have hf : gI i < (cp i : Int) := by assumption
      obtain ⟨c1, c2, c3, c4, c5, c6, c7, d2, d5, d6⟩ := s1g h3 hf
      obtain ⟨d0, d1, d3, d4, d7⟩ := tr (.inl h3)
      have hkx : kx = (gI i).toNat := by assumption
      refine hN _ hlt trivial (Ent.ren [0, 9, 7, 3] rfl rfl ⟨⟨c1.symm, rfl, fun _ _ _ _ => rfl⟩, ⟨by rw [c2]; simp only [hF], rfl, fun x f hx hf => hrow (cb i) GT0 _ _ _ _ _ (by rw [d0]) (by rw [d1]) (by rw [d2, v2 1 (by rw [vr, h3]) (by omega)]; rfl) (by rw [d3, v3]) (by rw [d4, v4]) (by rw [d5]) (by rw [d6, hkx]) (by rw [d7]) x f hx hf⟩, ⟨by rw [c4]; simp only [hF], rfl, fun x f hx hf => hone (cw i) (fun x => .int .i64 (W0 x)) _ (by rw [c7, vb]) x f hx hf⟩, ⟨c3.symm, rfl, fun _ _ _ _ => rfl⟩, trivial⟩ (by cbv; simp (disch := omega) [hF, natc, w64_in, c5, c6]))
    · simp only [natc] at *
      have h3 : (kd i).tmod 3 = 1 := by assumption
      have hf : ¬ gI i < (cp i : Int) := by omega
      obtain ⟨c1, c2, c3, c4, c5, c6, c7, d2, d5, d6⟩ := s1e h3 hf
      obtain ⟨d0, d1, d3, d4, d7⟩ := tr (.inl h3)
      refine hN _ hlt trivial (Ent.ren [0, 9, 7, 3] rfl rfl ⟨⟨c1.symm, rfl, fun _ _ _ _ => rfl⟩, ⟨by rw [c2]; simp only [hF], rfl, fun x f hx hf => hrow (cb i) GT0 _ _ _ _ _ (by rw [d0]) (by rw [d1]) (by rw [d2, v2 1 (by rw [vr, h3]) (by omega)]; rfl) (by rw [d3, v3]) (by rw [d4, v4]) (by rw [d5]) (by rw [d6]) (by rw [d7]) x f hx hf⟩, ⟨by rw [c4]; simp only [hF], rfl, fun x f hx hf => hone (cw i) (fun x => .int .i64 (W0 x)) _ (by rw [c7, vb]) x f hx hf⟩, ⟨c3.symm, rfl, fun _ _ _ _ => rfl⟩, trivial⟩ (by cbv; simp (disch := omega) [hF, natc, w64_in, c5, c6]))
    · simp only [natc] at *
      have h3 : (kd i).tmod 3 = 2 := by assumption
      have hf : kI i < gI i := by assumption
      obtain ⟨c1, c2, c3, c4, c5, c6, c7, d2, d5, d6⟩ := s2 h3 hf
      obtain ⟨d0, d1, d3, d4, d7⟩ := tr (.inr ⟨h3, hf⟩)
      have hw1 : IntKind.i64.wrap (kI i + 1) = kI i + 1 := w64_in (by omega)
      refine hN _ hlt trivial (Ent.ren [0, 9, 7, 3] rfl rfl ⟨⟨c1.symm, rfl, fun _ _ _ _ => rfl⟩, ⟨by rw [c2]; simp only [hF], rfl, fun x f hx hf => hrow (cb i) GT0 _ _ _ _ _ (by rw [d0]) (by rw [d1]) (by rw [d2, v2 2 (by rw [vr, h3]) (by omega)]; rfl) (by rw [d3, v3]) (by rw [d4, v4]) (by rw [d5]) (by rw [d6]) (by rw [d7]) x f hx hf⟩, ⟨by rw [c4]; simp only [hF], rfl, fun x f hx hf => hone (cw i) (fun x => .int .i64 (W0 x)) _ (by rw [c7, vb]) x f hx hf⟩, ⟨c3.symm, rfl, fun _ _ _ _ => rfl⟩, trivial⟩ (by cbv; simp (disch := omega) [hF, natc, w64_in, hw1, c5, c6]))
    · simp only [natc] at *
      obtain ⟨c1, c2, c3, c4, c5, c6⟩ := sn (by assumption) (by assumption) (by omega)
      refine hN _ hlt trivial (Ent.ren [0, 1, 2, 3] rfl rfl ⟨⟨c1.symm, rfl, fun _ _ _ _ => rfl⟩, ⟨c2.symm, rfl, fun _ _ _ _ => rfl⟩, ⟨c4.symm, rfl, fun _ _ _ _ => rfl⟩, ⟨c3.symm, rfl, fun _ _ _ _ => rfl⟩, trivial⟩ (by cbv; simp (disch := omega) [hF, natc, w64_in, c5, c6]))
    · simp only [natc] at *
      obtain ⟨c1, c2, c3, c4, c5, c6⟩ := sn (by assumption) (by assumption) (by omega)
      refine hN _ hlt trivial (Ent.ren [0, 1, 2, 3] rfl rfl ⟨⟨c1.symm, rfl, fun _ _ _ _ => rfl⟩, ⟨c2.symm, rfl, fun _ _ _ _ => rfl⟩, ⟨c4.symm, rfl, fun _ _ _ _ => rfl⟩, ⟨c3.symm, rfl, fun _ _ _ _ => rfl⟩, trivial⟩ (by cbv; simp (disch := omega) [hF, natc, w64_in, c5, c6]))
  · obtain rfl : i = n := by omega
    cbv
    repeat' first
      | (refine Chk.mk trivial ?_; cbv)
      | (refine bc_true (by first | assumption | (simp (disch := omega) only [hF, natc, Int.ofNat_eq_natCast, w64_in, decide_eq_true_eq, decide_eq_false_iff_not, Int.toNat_natCast, Bool.not_eq_true', Bool.not_eq_false', not_true_eq_false, not_false_eq_true, Int.not_lt, Int.not_le, Bool.and_eq_true, Bool.or_eq_true, Int.ofNat_lt, Int.ofNat_le, Int.natCast_nonneg, Int.toNat_zero, Int.toNat_one, Classical.not_not, beq_self_eq_true, true_and, and_true]; first | done | assumption | omega | (simp only [natc] at *; omega))) ?_; cbv)
      | (refine bc_false (by first | assumption | (simp (disch := omega) only [hF, natc, Int.ofNat_eq_natCast, w64_in, decide_eq_true_eq, decide_eq_false_iff_not, Int.toNat_natCast, Bool.not_eq_true', Bool.not_eq_false', not_true_eq_false, not_false_eq_true, Int.not_lt, Int.not_le, Bool.and_eq_true, Bool.or_eq_true, Int.ofNat_lt, Int.ofNat_le, Int.natCast_nonneg, Int.toNat_zero, Int.toNat_one, Classical.not_not, beq_self_eq_true, true_and, and_true]; first | done | assumption | omega | (simp only [natc] at *; omega))) ?_; cbv)
      | (refine bc_split (fun h => ?_) (fun h => ?_) <;> (try simp (disch := omega) only [hF, natc, Int.ofNat_eq_natCast, w64_in, decide_eq_true_eq, decide_eq_false_iff_not, Int.toNat_natCast, Bool.not_eq_true', Bool.not_eq_false', not_true_eq_false, not_false_eq_true, Int.not_lt, Int.not_le, Bool.and_eq_true, Bool.or_eq_true, Int.ofNat_lt, Int.ofNat_le, Int.natCast_nonneg, Int.toNat_zero, Int.toNat_one, Classical.not_not, beq_self_eq_true, true_and, and_true] at h) <;> cbv)
      | (refine IdxVC.mk (by simp (disch := omega) only [hF, natc, Int.ofNat_eq_natCast, w64_in, decide_eq_true_eq, decide_eq_false_iff_not, Int.toNat_natCast, Bool.not_eq_true', Bool.not_eq_false', not_true_eq_false, not_false_eq_true, Int.not_lt, Int.not_le, Bool.and_eq_true, Bool.or_eq_true, Int.ofNat_lt, Int.ofNat_le, Int.natCast_nonneg, Int.toNat_zero, Int.toNat_one, Classical.not_not, beq_self_eq_true, true_and, and_true]; first | done | omega | (simp only [natc] at *; omega)) (fun kx hk hk2 => ?_); simp (disch := omega) only [hF, natc, Int.ofNat_eq_natCast, w64_in, decide_eq_true_eq, decide_eq_false_iff_not, Int.toNat_natCast, Bool.not_eq_true', Bool.not_eq_false', not_true_eq_false, not_false_eq_true, Int.not_lt, Int.not_le, Bool.and_eq_true, Bool.or_eq_true, Int.ofNat_lt, Int.ofNat_le, Int.natCast_nonneg, Int.toNat_zero, Int.toNat_one, Classical.not_not, beq_self_eq_true, true_and, and_true] at hk; (try obtain rfl : kx = 0 := hk); cbv)
      | (refine Chk.mk (by simp (disch := omega) only [maxN, hF, natc, Int.ofNat_eq_natCast, w64_in, decide_eq_true_eq, decide_eq_false_iff_not, Int.toNat_natCast, Bool.not_eq_true', Bool.not_eq_false', not_true_eq_false, not_false_eq_true, Int.not_lt, Int.not_le, Bool.and_eq_true, Bool.or_eq_true, Int.ofNat_lt, Int.ofNat_le, Int.natCast_nonneg, Int.toNat_zero, Int.toNat_one, Classical.not_not, beq_self_eq_true, true_and, and_true]; first | done | assumption | omega | (simp only [natc] at *; omega)) ?_; cbv)
      | (intro (hmx : _ ≤ maxN); replace hmx : _ ≤ 17592186044416 := hmx; cbv)
      | (intro _; cbv)
    refine loop_up mixed hP hA (cw i) (fun _ => True) [16, 17, 137, 138, 139, 140, 141, 142, 143, 144, 145, 146, 147, 148, 149, 150, 151, 152, 153, 154, 155, 156, 157] (fun j => [(137, .dv (.int .i64 (ofN j)))]) (fun j => [.vec (ca i) 8 (fun x f => .dv (GS0 x f)), .vec (cb i) 8 (fun x f => .dv (GT0 x f)), .vec (cw i) 1 (fun x f => .dv (.int .i64 (HW j x))), .vec (cp i) 1 (fun x f => .dv (LL x))]) (trivial) ?_ fun Nx2 j hNj hj hp2 => ?_
    · exact Ent.ren [0, 1, 2, 3] rfl rfl ⟨⟨rfl, rfl, fun _ _ _ _ => rfl⟩, ⟨rfl, rfl, fun _ _ _ _ => rfl⟩, ⟨rfl, rfl, fun x f _ _ => by show SV.dv (.int .i64 (W0 x)) = .dv (.int .i64 (HW 0 x)); rw [hH0]⟩, ⟨rfl, rfl, fun _ _ _ _ => rfl⟩, trivial⟩ (by cbv; simp [hF])
    cbv
    by_cases hjk : j < cw i
    · have hg := hHg j j (Nat.le_refl _)
      have hHn := hHn j
      have hwb := B.w j hjk
      obtain ⟨_, _, _, _, _, _, _⟩ := B.b i (Nat.le_refl _)
      have hupd : ∀ v, v = HW (j + 1) j → ∀ x f, f < 1 → updRow (fun x f => SV.dv (.int .i64 (HW j x))) j 0 [.dv (.int .i64 v)] x f = .dv (.int .i64 (HW (j + 1) x)) := by
        intro v hv x f hf
        obtain rfl : f = 0 := by omega
        by_cases hx : x = j
        · subst hx
          rw [hv]; simp [updRow]; rfl
        · rw [hHn x, if_neg hx]; simp [updRow, hx]
      have hHj := hHn j
      rw [if_pos rfl] at hHj
      cbv
      repeat' first
        | (refine Chk.mk trivial ?_; cbv)
        | (refine bc_true (by first | assumption | (simp (disch := omega) only [hF, natc, Int.ofNat_eq_natCast, w64_in, decide_eq_true_eq, decide_eq_false_iff_not, Int.toNat_natCast, Bool.not_eq_true', Bool.not_eq_false', not_true_eq_false, not_false_eq_true, Int.not_lt, Int.not_le, Bool.and_eq_true, Bool.or_eq_true, Int.ofNat_lt, Int.ofNat_le, Int.natCast_nonneg, Int.toNat_zero, Int.toNat_one, Classical.not_not, beq_self_eq_true, true_and, and_true]; first | done | assumption | omega | (simp only [natc] at *; omega))) ?_; cbv)
        | (refine bc_false (by first | assumption | (simp (disch := omega) only [hF, natc, Int.ofNat_eq_natCast, w64_in, decide_eq_true_eq, decide_eq_false_iff_not, Int.toNat_natCast, Bool.not_eq_true', Bool.not_eq_false', not_true_eq_false, not_false_eq_true, Int.not_lt, Int.not_le, Bool.and_eq_true, Bool.or_eq_true, Int.ofNat_lt, Int.ofNat_le, Int.natCast_nonneg, Int.toNat_zero, Int.toNat_one, Classical.not_not, beq_self_eq_true, true_and, and_true]; first | done | assumption | omega | (simp only [natc] at *; omega))) ?_; cbv)
        | (refine bc_split (fun h => ?_) (fun h => ?_) <;> (try simp (disch := omega) only [hF, natc, Int.ofNat_eq_natCast, w64_in, decide_eq_true_eq, decide_eq_false_iff_not, Int.toNat_natCast, Bool.not_eq_true', Bool.not_eq_false', not_true_eq_false, not_false_eq_true, Int.not_lt, Int.not_le, Bool.and_eq_true, Bool.or_eq_true, Int.ofNat_lt, Int.ofNat_le, Int.natCast_nonneg, Int.toNat_zero, Int.toNat_one, Classical.not_not, beq_self_eq_true, true_and, and_true] at h) <;> cbv)
        | (refine IdxVC.mk (by simp (disch := omega) only [hF, natc, Int.ofNat_eq_natCast, w64_in, decide_eq_true_eq, decide_eq_false_iff_not, Int.toNat_natCast, Bool.not_eq_true', Bool.not_eq_false', not_true_eq_false, not_false_eq_true, Int.not_lt, Int.not_le, Bool.and_eq_true, Bool.or_eq_true, Int.ofNat_lt, Int.ofNat_le, Int.natCast_nonneg, Int.toNat_zero, Int.toNat_one, Classical.not_not, beq_self_eq_true, true_and, and_true]; first | done | omega | (simp only [natc] at *; omega)) (fun kx hk hk2 => ?_); simp (disch := omega) only [hF, natc, Int.ofNat_eq_natCast, w64_in, decide_eq_true_eq, decide_eq_false_iff_not, Int.toNat_natCast, Bool.not_eq_true', Bool.not_eq_false', not_true_eq_false, not_false_eq_true, Int.not_lt, Int.not_le, Bool.and_eq_true, Bool.or_eq_true, Int.ofNat_lt, Int.ofNat_le, Int.natCast_nonneg, Int.toNat_zero, Int.toNat_one, Classical.not_not, beq_self_eq_true, true_and, and_true] at hk; (try obtain rfl : kx = 0 := hk); (try obtain rfl : j = kx := hk.symm); cbv)
        | (rw [hg] <;> first | assumption | cbv)
        | (refine Chk.mk (by simp (disch := omega) only [maxN, hF, natc, Int.ofNat_eq_natCast, w64_in, decide_eq_true_eq, decide_eq_false_iff_not, Int.toNat_natCast, Bool.not_eq_true', Bool.not_eq_false', not_true_eq_false, not_false_eq_true, Int.not_lt, Int.not_le, Bool.and_eq_true, Bool.or_eq_true, Int.ofNat_lt, Int.ofNat_le, Int.natCast_nonneg, Int.toNat_zero, Int.toNat_one, Classical.not_not, beq_self_eq_true, true_and, and_true]; first | done | assumption | omega | (simp only [natc] at *; omega)) ?_; cbv)
        | (intro (hmx : _ ≤ maxN); replace hmx : _ ≤ 17592186044416 := hmx; cbv)
        | (intro _; cbv)
      · simp only [natc] at *
        have hneg : W0 j < 0 := by rw [← hg]; assumption
        refine hNj _ hjk trivial (Ent.ren [0, 1, 2, 3] rfl rfl ⟨⟨rfl, rfl, fun _ _ _ _ => rfl⟩, ⟨rfl, rfl, fun _ _ _ _ => rfl⟩, ⟨rfl, rfl, fun x f _ hf => hupd _ (by rw [hHj, if_pos hneg]; simp (disch := omega) only [hF, natc, w64_in]; omega) x f hf⟩, ⟨rfl, rfl, fun _ _ _ _ => rfl⟩, trivial⟩ (by cbv; simp (disch := omega) [hF, natc, w64_in]))
      · simp only [natc] at *
        have hneg : ¬ W0 j < 0 := by rw [← hg]; omega
        refine hNj _ hjk trivial (Ent.ren [0, 1, 2, 3] rfl rfl ⟨⟨rfl, rfl, fun _ _ _ _ => rfl⟩, ⟨rfl, rfl, fun _ _ _ _ => rfl⟩, ⟨rfl, rfl, fun x f _ hf => hupd _ (by rw [hHj, if_neg hneg]; simp (disch := omega) only [hF, natc, w64_in]) x f hf⟩, ⟨rfl, rfl, fun _ _ _ _ => rfl⟩, trivial⟩ (by cbv; simp (disch := omega) [hF, natc, w64_in]))
    · obtain rfl : j = cw i := by omega
      cbv
      repeat' first
        | (refine Chk.mk trivial ?_; cbv)
        | (refine bc_true (by first | assumption | (simp (disch := omega) only [hF, natc, Int.ofNat_eq_natCast, w64_in, decide_eq_true_eq, decide_eq_false_iff_not, Int.toNat_natCast, Bool.not_eq_true', Bool.not_eq_false', not_true_eq_false, not_false_eq_true, Int.not_lt, Int.not_le, Bool.and_eq_true, Bool.or_eq_true, Int.ofNat_lt, Int.ofNat_le, Int.natCast_nonneg, Int.toNat_zero, Int.toNat_one, Classical.not_not, beq_self_eq_true, true_and, and_true]; first | done | assumption | omega | (simp only [natc] at *; omega))) ?_; cbv)
        | (refine bc_false (by first | assumption | (simp (disch := omega) only [hF, natc, Int.ofNat_eq_natCast, w64_in, decide_eq_true_eq, decide_eq_false_iff_not, Int.toNat_natCast, Bool.not_eq_true', Bool.not_eq_false', not_true_eq_false, not_false_eq_true, Int.not_lt, Int.not_le, Bool.and_eq_true, Bool.or_eq_true, Int.ofNat_lt, Int.ofNat_le, Int.natCast_nonneg, Int.toNat_zero, Int.toNat_one, Classical.not_not, beq_self_eq_true, true_and, and_true]; first | done | assumption | omega | (simp only [natc] at *; omega))) ?_; cbv)
        | (refine bc_split (fun h => ?_) (fun h => ?_) <;> (try simp (disch := omega) only [hF, natc, Int.ofNat_eq_natCast, w64_in, decide_eq_true_eq, decide_eq_false_iff_not, Int.toNat_natCast, Bool.not_eq_true', Bool.not_eq_false', not_true_eq_false, not_false_eq_true, Int.not_lt, Int.not_le, Bool.and_eq_true, Bool.or_eq_true, Int.ofNat_lt, Int.ofNat_le, Int.natCast_nonneg, Int.toNat_zero, Int.toNat_one, Classical.not_not, beq_self_eq_true, true_and, and_true] at h) <;> cbv)
        | (refine IdxVC.mk (by simp (disch := omega) only [hF, natc, Int.ofNat_eq_natCast, w64_in, decide_eq_true_eq, decide_eq_false_iff_not, Int.toNat_natCast, Bool.not_eq_true', Bool.not_eq_false', not_true_eq_false, not_false_eq_true, Int.not_lt, Int.not_le, Bool.and_eq_true, Bool.or_eq_true, Int.ofNat_lt, Int.ofNat_le, Int.natCast_nonneg, Int.toNat_zero, Int.toNat_one, Classical.not_not, beq_self_eq_true, true_and, and_true]; first | done | omega | (simp only [natc] at *; omega)) (fun kx hk hk2 => ?_); simp (disch := omega) only [hF, natc, Int.ofNat_eq_natCast, w64_in, decide_eq_true_eq, decide_eq_false_iff_not, Int.toNat_natCast, Bool.not_eq_true', Bool.not_eq_false', not_true_eq_false, not_false_eq_true, Int.not_lt, Int.not_le, Bool.and_eq_true, Bool.or_eq_true, Int.ofNat_lt, Int.ofNat_le, Int.natCast_nonneg, Int.toNat_zero, Int.toNat_one, Classical.not_not, beq_self_eq_true, true_and, and_true] at hk; (try obtain rfl : kx = 0 := hk); cbv)
        | (refine Chk.mk (by simp (disch := omega) only [maxN, hF, natc, Int.ofNat_eq_natCast, w64_in, decide_eq_true_eq, decide_eq_false_iff_not, Int.toNat_natCast, Bool.not_eq_true', Bool.not_eq_false', not_true_eq_false, not_false_eq_true, Int.not_lt, Int.not_le, Bool.and_eq_true, Bool.or_eq_true, Int.ofNat_lt, Int.ofNat_le, Int.natCast_nonneg, Int.toNat_zero, Int.toNat_one, Classical.not_not, beq_self_eq_true, true_and, and_true]; first | done | assumption | omega | (simp only [natc] at *; omega)) ?_; cbv)
        | (intro (hmx : _ ≤ maxN); replace hmx : _ ≤ 17592186044416 := hmx; cbv)
        | (intro _; cbv)
      refine call_frzs [(0, ca i, 8, GS0), (1, cb i, 8, GT0)] ⟨⟨rfl, rfl, fun _ _ _ _ => rfl⟩, ⟨rfl, rfl, fun _ _ _ _ => rfl⟩, trivial⟩ ?_
      refine call_pure hP code_order_Witness hwit ⟨rfl, rfl, rfl, trivial⟩ ?_
      rintro _ rfl
      cbv
      repeat' first
        | (refine Chk.mk trivial ?_; cbv)
        | (refine bc_true (by first | assumption | (simp (disch := omega) only [hF, natc, Int.ofNat_eq_natCast, w64_in, decide_eq_true_eq, decide_eq_false_iff_not, Int.toNat_natCast, Bool.not_eq_true', Bool.not_eq_false', not_true_eq_false, not_false_eq_true, Int.not_lt, Int.not_le, Bool.and_eq_true, Bool.or_eq_true, Int.ofNat_lt, Int.ofNat_le, Int.natCast_nonneg, Int.toNat_zero, Int.toNat_one, Classical.not_not, beq_self_eq_true, true_and, and_true]; first | done | assumption | omega | (simp only [natc] at *; omega))) ?_; cbv)
        | (refine bc_false (by first | assumption | (simp (disch := omega) only [hF, natc, Int.ofNat_eq_natCast, w64_in, decide_eq_true_eq, decide_eq_false_iff_not, Int.toNat_natCast, Bool.not_eq_true', Bool.not_eq_false', not_true_eq_false, not_false_eq_true, Int.not_lt, Int.not_le, Bool.and_eq_true, Bool.or_eq_true, Int.ofNat_lt, Int.ofNat_le, Int.natCast_nonneg, Int.toNat_zero, Int.toNat_one, Classical.not_not, beq_self_eq_true, true_and, and_true]; first | done | assumption | omega | (simp only [natc] at *; omega))) ?_; cbv)
        | (refine bc_split (fun h => ?_) (fun h => ?_) <;> (try simp (disch := omega) only [hF, natc, Int.ofNat_eq_natCast, w64_in, decide_eq_true_eq, decide_eq_false_iff_not, Int.toNat_natCast, Bool.not_eq_true', Bool.not_eq_false', not_true_eq_false, not_false_eq_true, Int.not_lt, Int.not_le, Bool.and_eq_true, Bool.or_eq_true, Int.ofNat_lt, Int.ofNat_le, Int.natCast_nonneg, Int.toNat_zero, Int.toNat_one, Classical.not_not, beq_self_eq_true, true_and, and_true] at h) <;> cbv)
        | (refine IdxVC.mk (by simp (disch := omega) only [hF, natc, Int.ofNat_eq_natCast, w64_in, decide_eq_true_eq, decide_eq_false_iff_not, Int.toNat_natCast, Bool.not_eq_true', Bool.not_eq_false', not_true_eq_false, not_false_eq_true, Int.not_lt, Int.not_le, Bool.and_eq_true, Bool.or_eq_true, Int.ofNat_lt, Int.ofNat_le, Int.natCast_nonneg, Int.toNat_zero, Int.toNat_one, Classical.not_not, beq_self_eq_true, true_and, and_true]; first | done | omega | (simp only [natc] at *; omega)) (fun kx hk hk2 => ?_); simp (disch := omega) only [hF, natc, Int.ofNat_eq_natCast, w64_in, decide_eq_true_eq, decide_eq_false_iff_not, Int.toNat_natCast, Bool.not_eq_true', Bool.not_eq_false', not_true_eq_false, not_false_eq_true, Int.not_lt, Int.not_le, Bool.and_eq_true, Bool.or_eq_true, Int.ofNat_lt, Int.ofNat_le, Int.natCast_nonneg, Int.toNat_zero, Int.toNat_one, Classical.not_not, beq_self_eq_true, true_and, and_true] at hk; (try obtain rfl : kx = 0 := hk); cbv)
        | (refine Chk.mk (by simp (disch := omega) only [maxN, hF, natc, Int.ofNat_eq_natCast, w64_in, decide_eq_true_eq, decide_eq_false_iff_not, Int.toNat_natCast, Bool.not_eq_true', Bool.not_eq_false', not_true_eq_false, not_false_eq_true, Int.not_lt, Int.not_le, Bool.and_eq_true, Bool.or_eq_true, Int.ofNat_lt, Int.ofNat_le, Int.natCast_nonneg, Int.toNat_zero, Int.toNat_one, Classical.not_not, beq_self_eq_true, true_and, and_true]; first | done | assumption | omega | (simp only [natc] at *; omega)) ?_; cbv)
        | (intro (hmx : _ ≤ maxN); replace hmx : _ ≤ 17592186044416 := hmx; cbv)
        | (intro _; cbv)
        | ((refine call_frzs [(2, cw i, 1, fun x _ => .int .i64 (HW (cw i) x))] ⟨⟨rfl, rfl, fun _ _ _ _ => rfl⟩, trivial⟩ ?_; refine call_pure hP code_ref03_Same hsame ⟨rfl, rfl, trivial⟩ ?_; rintro _ rfl); cbv)
        | (refine call_pure hP code_law21_spoilt (hspo) ?_ ?_; (focus (cbv; (try simp); done)); rintro _ rfl; cbv)
        | (refine call_pure hP code_law21_alive (ok_alive) ?_ ?_; (focus (cbv; (try simp); done)); rintro _ rfl; cbv)
      subst hQ; exact leaf_data rfl rfl ⟨rfl, rfl⟩

end Go.Proofs.Ytophlodlencgiaa

end
