/-
  Walks: the document's order, and whether both tell the same.
-/
import Derived.Test.YtophlodlencgiaaOrdQ
import Derived.Test.YtophlodlencgiaaOrdR
import Derived.Test.YtophlodlencgiaaOrdT
namespace Go.Proofs.Ytophlodlencgiaa
open Go.V
set_option linter.unusedVariables false
set_option linter.unusedSimpArgs false
set_option maxRecDepth 100000
set_option maxHeartbeats 8000000

theorem Suf.shaped {n : Nat} {G : Nat → Nat → DV} {S : Ents n G} {n' : Nat} {G' : Nat → Nat → DV} {S' : Ents n' G'} (h : Suf S 0 S') (p : Int → Prop) : S'.shaped p ↔ S.shaped p := by
  have hl := h.len
  constructor
  · intro hs i hi
    have := hs i (by omega)
    rw [h.kd i (by omega), h.en i (by omega), Nat.zero_add] at this
    exact ⟨this.1, fun h0 => by have := this.2 h0; omega⟩
  · intro hs i hi
    have := hs i (by omega)
    rw [h.kd i hi, h.en i hi, Nat.zero_add]
    exact ⟨this.1, fun h0 => by have := this.2 h0; omega⟩

theorem Suf.len0 {n : Nat} {G : Nat → Nat → DV} {S : Ents n G} {n' : Nat} {G' : Nat → Nat → DV} {S' : Ents n' G'} (h : Suf S 0 S') : n' = n := by have := h.len; omega

/-- The same entries, elsewhere. -/
def Ents.via {n : Nat} {G G' : Nat → Nat → DV} (S : Ents n G) (h : ∀ x f, x < n → f < 8 → G' x f = G x f) : Ents n G' where
  co := S.co
  pe := S.pe
  kd := S.kd
  be := S.be
  en := S.en
  er := S.er
  m := S.m
  g := S.g
  x := S.x
  ha := S.ha
  h0 i hi := (h i 0 hi (by omega)).trans (S.h0 i hi)
  h1 i hi := (h i 1 hi (by omega)).trans (S.h1 i hi)
  h2 i hi := (h i 2 hi (by omega)).trans (S.h2 i hi)
  h3 i hi := (h i 3 hi (by omega)).trans (S.h3 i hi)
  h4 i hi := (h i 4 hi (by omega)).trans (S.h4 i hi)
  h5 i hi := (h i 5 hi (by omega)).trans (S.h5 i hi)
  h6 i hi := (h i 6 hi (by omega)).trans (S.h6 i hi)
  h7 i hi := (h i 7 hi (by omega)).trans (S.h7 i hi)
  hx := S.hx

theorem Ents.via_suf {n : Nat} {G G' : Nat → Nat → DV} (S : Ents n G) (h : ∀ x f, x < n → f < 8 → G' x f = G x f) : Suf S 0 (S.via h) :=
  ⟨rfl, fun x _ => by rw [Nat.zero_add]; rfl, fun x _ => by rw [Nat.zero_add]; rfl, fun x _ => by rw [Nat.zero_add]; rfl, fun x _ => by rw [Nat.zero_add]; rfl, fun x _ => by rw [Nat.zero_add]; rfl, fun x _ y _ => by rw [Nat.zero_add]; rfl⟩

theorem okR_Witness {n : Nat} {GS : Nat → Nat → DV} (S : Ents n GS) {k : Nat} {GT : Nat → Nat → DV} (T : Ents k GT) (room : Int) (hroom : -9223372036854775808 ≤ room ∧ room ≤ 9223372036854775807) (hN : n + k < 1000)
    {GS' : Nat → Nat → DV} (S' : Ents n GS') {GT' : Nat → Nat → DV} (T' : Ents k GT') (hS : Suf S 0 S') (hT : Suf T 0 T') :
    CallOK (O := Ob) PR n_ref21_Witness [.dv (.seq n 8 GS'), .dv (.seq k 8 GT'), .dv (.int .i64 room)] [] fun r m => goesQ (witO S T room) r ∧ m = [] := by
  have hm : CallOK (O := Ob) PR n_ref21_May [.dv (.seq n 8 GS'), .dv (.seq k 8 GT'), .dv (.int .i64 room)] [] fun r m => r = .dv (.bool (decide (May S T room))) ∧ m = [] := by
    refine CallOK.ent (okR_May S' T' room) ?_
    rintro r m ⟨⟨v, hv, rfl⟩, hm⟩
    refine ⟨_, m, Ent.refl _ _, ?_, hm⟩
    have : v = decide (May S T room) := by
      have h : v = true ↔ May S T room := by
        rw [hv, hS.shaped, hT.shaped, May]
        exact ⟨fun h => ⟨h.2.2, h.1, h.2.1⟩, fun h => ⟨h.2.1, h.2.2, h.1⟩⟩
      by_cases hp : May S T room
      · rw [decide_eq_true hp]; exact h.2 hp
      · rw [decide_eq_false hp]; cases v
        · rfl
        · exact (hp (h.1 rfl)).elim
    rw [this]
  have hgo : May S T room → ∀ many : Int, many = n → CallOK (O := Ob) PR n_ref21_goes [.agg [.dv (.int .i64 room), .dv (.seq 0 1 fun _ _ => .nilp), .dv (.int .i64 0), .dv (.int .i64 0), .dv (.int .i64 0)], .dv (.seq n 8 GS'), .dv (.seq k 8 GT'), .dv (.int .i64 0), .dv (.int .i64 many)] []
      fun r m => goesQ (witO S T room) r ∧ m = [] := by
    intro h many hmany
    have e : witO S T room = ord S T room 0 0 := by rw [witO, if_pos h]
    rw [e]
    exact okR_goes S T room hroom (fun i hi => (h.2.1 i hi).1) (fun j hj => (h.2.2 j hj).1) (fun i hi => (h.2.1 i hi).2) (fun j hj => (h.2.2 j hj).2) hN _ 0 0 n k GS' GT' S' T' rfl hS hT (Cnt.zero S T) (fun _ _ => .nilp) (fun _ => 0) (fun _ _ _ => .nilp) 0 0 0 0 many
      ⟨fun j hj => absurd hj (Nat.not_lt_zero j), fun j hj => absurd hj (Nat.not_lt_zero j), fun j hj => absurd hj (Nat.not_lt_zero j)⟩ rfl rfl rfl rfl hmany
  have hno : ¬ May S T room → witO S T room = none := fun h => by rw [witO, if_neg h]
  have hMay : ∀ b : Bool, b = decide (May S T room) → (b = true ↔ May S T room) := fun b hb => by rw [hb]; simp
  generalize hb : decide (May S T room) = b at hm
  replace hMay := hMay b hb.symm
  clear hb
  generalize May S T room = M at *
  generalize witO S T room = o at *
  refine fn_walkv mixed fn_ref21_Witness (Ent.refl _ _) fun bin cmp un conv bnot beq band sel isel ofN toN inb nz nneg lt le room' slb add sub sbin scmp slen sget ssub addk pc pb pi pf ps mkok min_ ig aeq P hP hA hF Q hQ => ?_
  cbv
  repeat' first
    | (refine Chk.mk trivial ?_; cbv)
    | (refine bc_true (by first | assumption | (simp (disch := omega) only [hF, natc, Int.ofNat_eq_natCast, w64_in, decide_eq_true_eq, decide_eq_false_iff_not, Int.toNat_natCast, Bool.not_eq_true', Bool.not_eq_false', not_true_eq_false, not_false_eq_true, Int.not_lt, Int.not_le, Bool.and_eq_true, Bool.or_eq_true, Int.ofNat_lt, Int.ofNat_le, Int.natCast_nonneg, Int.toNat_zero, Int.toNat_one, Classical.not_not, beq_self_eq_true, true_and, and_true]; first | done | assumption | omega | (simp only [natc] at *; omega))) ?_; cbv)
    | (refine bc_false (by first | assumption | (simp (disch := omega) only [hF, natc, Int.ofNat_eq_natCast, w64_in, decide_eq_true_eq, decide_eq_false_iff_not, Int.toNat_natCast, Bool.not_eq_true', Bool.not_eq_false', not_true_eq_false, not_false_eq_true, Int.not_lt, Int.not_le, Bool.and_eq_true, Bool.or_eq_true, Int.ofNat_lt, Int.ofNat_le, Int.natCast_nonneg, Int.toNat_zero, Int.toNat_one, Classical.not_not, beq_self_eq_true, true_and, and_true]; first | done | assumption | omega | (simp only [natc] at *; omega))) ?_; cbv)
    | (refine bc_split (fun h => ?_) (fun h => ?_) <;> (try simp (disch := omega) only [hF, natc, Int.ofNat_eq_natCast, w64_in, decide_eq_true_eq, decide_eq_false_iff_not, Int.toNat_natCast, Bool.not_eq_true', Bool.not_eq_false', not_true_eq_false, not_false_eq_true, Int.not_lt, Int.not_le, Bool.and_eq_true, Bool.or_eq_true, Int.ofNat_lt, Int.ofNat_le, Int.natCast_nonneg, Int.toNat_zero, Int.toNat_one, Classical.not_not, beq_self_eq_true, true_and, and_true] at h) <;> cbv)
    | (refine IdxVC.mk (by simp (disch := omega) only [hF, natc, Int.ofNat_eq_natCast, w64_in, decide_eq_true_eq, decide_eq_false_iff_not, Int.toNat_natCast, Bool.not_eq_true', Bool.not_eq_false', not_true_eq_false, not_false_eq_true, Int.not_lt, Int.not_le, Bool.and_eq_true, Bool.or_eq_true, Int.ofNat_lt, Int.ofNat_le, Int.natCast_nonneg, Int.toNat_zero, Int.toNat_one, Classical.not_not, beq_self_eq_true, true_and, and_true]; first | done | omega | (simp only [natc] at *; omega)) (fun kx hk hk2 => ?_); simp (disch := omega) only [hF, natc, Int.ofNat_eq_natCast, w64_in, decide_eq_true_eq, decide_eq_false_iff_not, Int.toNat_natCast, Bool.not_eq_true', Bool.not_eq_false', not_true_eq_false, not_false_eq_true, Int.not_lt, Int.not_le, Bool.and_eq_true, Bool.or_eq_true, Int.ofNat_lt, Int.ofNat_le, Int.natCast_nonneg, Int.toNat_zero, Int.toNat_one, Classical.not_not, beq_self_eq_true, true_and, and_true] at hk; (try obtain rfl : kx = 0 := hk); cbv)
    | (refine Chk.mk (by simp (disch := omega) only [maxN, hF, natc, Int.ofNat_eq_natCast, w64_in, decide_eq_true_eq, decide_eq_false_iff_not, Int.toNat_natCast, Bool.not_eq_true', Bool.not_eq_false', not_true_eq_false, not_false_eq_true, Int.not_lt, Int.not_le, Bool.and_eq_true, Bool.or_eq_true, Int.ofNat_lt, Int.ofNat_le, Int.natCast_nonneg, Int.toNat_zero, Int.toNat_one, Classical.not_not, beq_self_eq_true, true_and, and_true]; first | done | assumption | omega | (simp only [natc] at *; omega)) ?_; cbv)
    | (intro (hmx : _ ≤ maxN); replace hmx : _ ≤ 17592186044416 := hmx; cbv)
    | (intro _; cbv)
    | (refine call_pure hP code_ref21_May (hm) ?_ ?_; (focus (cbv; (try simp); done)); rintro _ rfl; cbv)
  · subst hQ
    exact leaf_weak (.tup (.cons (.dv (.nil 1 fun _ _ => .nilp)) (.cons (.same _) .nil))) rfl rfl ⟨goesQ_nil (.inr ⟨rfl, hno fun h => by rw [hMay.2 h] at *; simp_all⟩), rfl⟩
  · refine call_weak [.agg [.dv (.int .i64 room), .dv (.seq 0 1 fun _ _ => .nilp), .dv (.int .i64 0), .dv (.int .i64 0), .dv (.int .i64 0)], .dv (.seq n 8 GS'), .dv (.seq k 8 GT'), .dv (.int .i64 0), .dv (.int .i64 (ofN n))]
      (.cons (.agg (.cons (.same _) (.cons (.dv (.nil 1 _)) (.cons (.same _) (.cons (.same _) (.cons (.same _) .nil)))))) (.cons (.same _) (.cons (.same _) (.cons (.same _) (.cons (.same _) .nil))))) ?_
    refine call_pure hP code_ref21_goes (hgo (hMay.1 (by simp_all)) (ofN n) (by simp only [hF])) ⟨rfl, rfl, rfl, rfl, rfl, trivial⟩ ?_
    rintro _ ⟨q, lg, b1, rfl, hb1⟩
    cbv
    subst hQ
    exact leaf_data rfl rfl ⟨⟨q, lg, b1, rfl, hb1⟩, rfl⟩

theorem few_le {n : Nat} {G : Nat → Nat → DV} (S : Ents n G) (c : Nat) (z : Int) (hz : z = c) : CallOK (O := Ob) PR n_law19_Few [.dv (.seq n 8 G), .dv (.int .i64 z)] [] fun r m => (∃ v, (v = true → n ≤ c) ∧ r = .dv (.bool v)) ∧ m = [] := by
  refine CallOK.ent (okR_Few S z) ?_
  rintro r m ⟨⟨v, hv, rfl⟩, hm⟩
  exact ⟨_, m, Ent.refl _ _, ⟨v, fun h => by have := (hv.1 h).1; omega, rfl⟩, hm⟩

/-- Both tell the same. -/
theorem both {n : Nat} {GS : Nat → Nat → DV} (S : Ents n GS) {k : Nat} {GT : Nat → Nat → DV} (T : Ents k GT) (room : Int) (hroom : -9223372036854775808 ≤ room ∧ room ≤ 9223372036854775807) (hN : n + k < 1000) : ∃ (b : Bool) (q : Nat) (y : Nat → Nat → DV) (x : Nat → Int), (∀ j, y j 0 = .int .i64 (x j)) ∧
    CallOK (O := Ob) PR n_order_Witness [.dv (.seq n 8 GS), .dv (.seq k 8 GT), .dv (.int .i64 room)] [] (fun r m => r = .tup [.dv (.seq q 1 y), .dv (.bool b)] ∧ m = []) ∧
    CallOK (O := Ob) PR n_order_Fits [.dv (.seq n 8 GS), .dv (.seq k 8 GT), .dv (.int .i64 room)] [] (fun r m => r = .dv (.bool b) ∧ m = []) ∧
    ∀ GS' GT', (∀ x f, x < n → f < 8 → GS' x f = GS x f) → (∀ x f, x < k → f < 8 → GT' x f = GT x f) → CallOK (O := Ob) PR n_ref21_Witness [.dv (.seq n 8 GS'), .dv (.seq k 8 GT'), .dv (.int .i64 room)] [] (fun r m => (∃ lg : Nat → Nat → DV, r = .tup [.dv (.seq q 1 lg), .dv (.bool b)] ∧ ∀ j, j < q → lg j 0 = .int .i64 (x j)) ∧ m = []) := by
  obtain ⟨b, l, hb⟩ : ∃ (b : Bool) (l : List Nat), (b = true ∧ witO S T room = some l) ∨ (b = false ∧ witO S T room = none ∧ l = []) := by
    cases h : witO S T room with
    | none => exact ⟨false, [], .inr ⟨rfl, rfl, rfl⟩⟩
    | some l => exact ⟨true, l, .inl ⟨rfl, rfl⟩⟩
  refine ⟨b, l.length, fun j _ => .int .i64 ((l.getD j 0 : Nat) : Int), fun j => ((l.getD j 0 : Nat) : Int), fun _ => rfl, CallOK.ent (ok_Witness S T room hN) ?_, CallOK.ent (ok_Fits S T room hN) ?_, fun GS' GT' hS hT => CallOK.ent (okR_Witness S T room hroom hN (S.via hS) (T.via hT) (S.via_suf hS) (T.via_suf hT)) ?_⟩
  · rintro r m ⟨⟨l', b', hl', rfl⟩, hm⟩
    refine ⟨_, m, Ent.refl _ _, ?_, hm⟩
    obtain ⟨rfl, rfl⟩ : l' = l ∧ b' = b := by
      rcases hb with ⟨rfl, h⟩ | ⟨rfl, h, rfl⟩ <;> rcases hl' with ⟨rfl, h'⟩ | ⟨rfl, h', rfl⟩ <;> rw [h] at h'
      · exact ⟨(Option.some.inj h').symm, rfl⟩
      · cases h'
      · cases h'
      · exact ⟨rfl, rfl⟩
    rfl
  · rintro r m ⟨⟨v, rfl, rfl⟩, hm⟩
    refine ⟨_, m, Ent.refl _ _, ?_, hm⟩
    rcases hb with ⟨rfl, h⟩ | ⟨rfl, h, _⟩ <;> rw [h] <;> rfl
  · rintro r m ⟨⟨q, lg, b', rfl, h1, h2⟩, hm⟩
    refine ⟨_, m, Ent.refl _ _, ?_, hm⟩
    rcases hb with ⟨rfl, h⟩ | ⟨rfl, h, rfl⟩
    · cases b' with
      | false => rw [h] at h2; cases (h2 rfl).1
      | true =>
        obtain ⟨l', e, rfl, hl⟩ := h1 rfl
        rw [h] at e
        obtain rfl := Option.some.inj e
        exact ⟨lg, rfl, hl⟩
    · cases b' with
      | true =>
        obtain ⟨l', e, _⟩ := h1 rfl
        rw [h] at e; cases e
      | false =>
        obtain ⟨_, rfl⟩ := h2 rfl
        exact ⟨lg, rfl, fun j hj => absurd hj (Nat.not_lt_zero j)⟩

theorem ok_OrderFits {n : Nat} {GS : Nat → Nat → DV} (S : Ents n GS) {k : Nat} {GT : Nat → Nat → DV} (T : Ents k GT) (room : Int) (hroom : -9223372036854775808 ≤ room ∧ room ≤ 9223372036854775807) :
    CallOK (O := Ob) PR n_law21_OrderFits [.dv (.seq n 8 GS), .dv (.seq k 8 GT), .dv (.int .i64 room)] [] fun r m => r = .dv (.bool true) ∧ m = [] := by
  by_cases hn : n ≤ 7 ∧ k ≤ 7
  · obtain ⟨b, q, y, x, hy, w1, w2, w3⟩ := both S T room hroom (by omega)
    have w4 : ∀ lg : Nat → Nat → DV, (∀ j, j < q → lg j 0 = .int .i64 (x j)) → CallOK (O := Ob) PR n_ref03_Same [.dv (.seq q 1 y), .dv (.seq q 1 lg)] [] fun r m => r = .dv (.bool true) ∧ m = [] := by
      intro lg hlg
      refine CallOK.ent (ok_Same q y x (fun j _ => hy j) q lg x hlg) ?_
      rintro r m ⟨⟨v, hv, rfl⟩, hm⟩
      refine ⟨_, m, Ent.refl _ _, ?_, hm⟩
      rw [hv, sameW_iff.2 ⟨rfl, fun _ _ => rfl⟩]
    refine fn_walkv mixed fn_law21_OrderFits (Ent.refl _ _) fun bin cmp un conv bnot beq band sel isel ofN toN inb nz nneg lt le room' slb add sub sbin scmp slen sget ssub addk pc pb pi pf ps mkok min_ ig aeq P hP hA hF Q hQ => ?_
    cbv
    repeat' first
      | (refine Chk.mk trivial ?_; cbv)
      | (refine bc_true (by first | assumption | (simp (disch := omega) only [hF, natc, Int.ofNat_eq_natCast, w64_in, decide_eq_true_eq, decide_eq_false_iff_not, Int.toNat_natCast, Bool.not_eq_true', Bool.not_eq_false', not_true_eq_false, not_false_eq_true, Int.not_lt, Int.not_le, Bool.and_eq_true, Bool.or_eq_true, Int.ofNat_lt, Int.ofNat_le, Int.natCast_nonneg, Int.toNat_zero, Int.toNat_one, Classical.not_not, beq_self_eq_true, true_and, and_true]; first | done | assumption | omega | (simp only [natc] at *; omega))) ?_; cbv)
      | (refine bc_false (by first | assumption | (simp (disch := omega) only [hF, natc, Int.ofNat_eq_natCast, w64_in, decide_eq_true_eq, decide_eq_false_iff_not, Int.toNat_natCast, Bool.not_eq_true', Bool.not_eq_false', not_true_eq_false, not_false_eq_true, Int.not_lt, Int.not_le, Bool.and_eq_true, Bool.or_eq_true, Int.ofNat_lt, Int.ofNat_le, Int.natCast_nonneg, Int.toNat_zero, Int.toNat_one, Classical.not_not, beq_self_eq_true, true_and, and_true]; first | done | assumption | omega | (simp only [natc] at *; omega))) ?_; cbv)
      | (refine bc_split (fun h => ?_) (fun h => ?_) <;> (try simp (disch := omega) only [hF, natc, Int.ofNat_eq_natCast, w64_in, decide_eq_true_eq, decide_eq_false_iff_not, Int.toNat_natCast, Bool.not_eq_true', Bool.not_eq_false', not_true_eq_false, not_false_eq_true, Int.not_lt, Int.not_le, Bool.and_eq_true, Bool.or_eq_true, Int.ofNat_lt, Int.ofNat_le, Int.natCast_nonneg, Int.toNat_zero, Int.toNat_one, Classical.not_not, beq_self_eq_true, true_and, and_true] at h) <;> cbv)
      | (refine IdxVC.mk (by simp (disch := omega) only [hF, natc, Int.ofNat_eq_natCast, w64_in, decide_eq_true_eq, decide_eq_false_iff_not, Int.toNat_natCast, Bool.not_eq_true', Bool.not_eq_false', not_true_eq_false, not_false_eq_true, Int.not_lt, Int.not_le, Bool.and_eq_true, Bool.or_eq_true, Int.ofNat_lt, Int.ofNat_le, Int.natCast_nonneg, Int.toNat_zero, Int.toNat_one, Classical.not_not, beq_self_eq_true, true_and, and_true]; first | done | omega | (simp only [natc] at *; omega)) (fun kx hk hk2 => ?_); simp (disch := omega) only [hF, natc, Int.ofNat_eq_natCast, w64_in, decide_eq_true_eq, decide_eq_false_iff_not, Int.toNat_natCast, Bool.not_eq_true', Bool.not_eq_false', not_true_eq_false, not_false_eq_true, Int.not_lt, Int.not_le, Bool.and_eq_true, Bool.or_eq_true, Int.ofNat_lt, Int.ofNat_le, Int.natCast_nonneg, Int.toNat_zero, Int.toNat_one, Classical.not_not, beq_self_eq_true, true_and, and_true] at hk; (try obtain rfl : kx = 0 := hk); cbv)
      | (refine Chk.mk (by simp (disch := omega) only [maxN, hF, natc, Int.ofNat_eq_natCast, w64_in, decide_eq_true_eq, decide_eq_false_iff_not, Int.toNat_natCast, Bool.not_eq_true', Bool.not_eq_false', not_true_eq_false, not_false_eq_true, Int.not_lt, Int.not_le, Bool.and_eq_true, Bool.or_eq_true, Int.ofNat_lt, Int.ofNat_le, Int.natCast_nonneg, Int.toNat_zero, Int.toNat_one, Classical.not_not, beq_self_eq_true, true_and, and_true]; first | done | assumption | omega | (simp only [natc] at *; omega)) ?_; cbv)
      | (intro (hmx : _ ≤ maxN); replace hmx : _ ≤ 17592186044416 := hmx; cbv)
      | (intro _; cbv)
      | (refine call_pure hP code_law19_Few ((few_le S 7 7 rfl)) ?_ ?_; (focus (cbv; (try simp); done)); rintro _ ⟨f1, hf1, rfl⟩; cbv)
      | (refine call_pure hP code_law19_Few ((few_le T 7 7 rfl)) ?_ ?_; (focus (cbv; (try simp); done)); rintro _ ⟨f2, hf2, rfl⟩; cbv)
      | (refine call_pure hP code_law21_alive (ok_alive) ?_ ?_; (focus (cbv; (try simp); done)); rintro _ rfl; cbv)
      | (refine call_pure hP code_order_Witness (w1) ?_ ?_; (focus (cbv; (try simp); done)); rintro _ rfl; cbv)
      | (refine call_pure hP code_law19_Plain ((okR_Plain S (by omega))) ?_ ?_; (focus (cbv; (try simp); done)); rintro _ ⟨G1, hG1, rfl⟩; cbv)
      | (refine call_pure hP code_law19_Plain ((okR_Plain T (by omega))) ?_ ?_; (focus (cbv; (try simp); done)); rintro _ ⟨G2, hG2, rfl⟩; cbv)
      | (refine call_pure hP code_ref21_Witness ((w3 G1 G2 hG1 hG2)) ?_ ?_; (focus (cbv; (try simp); done)); rintro _ ⟨lg, rfl, hlg⟩; cbv)
      | (refine call_pure hP code_order_Fits (w2) ?_ ?_; (focus (cbv; (try simp); done)); rintro _ rfl; cbv)
      | (refine call_pure hP code_ref03_Same ((w4 lg hlg)) ?_ ?_; (focus (cbv; (try simp); done)); rintro _ rfl; cbv)
    all_goals first
      | (exfalso; simp_all; done)
      | (subst hQ; exact leaf_data rfl rfl ⟨rfl, rfl⟩)
  · refine fn_walkv mixed fn_law21_OrderFits (Ent.refl _ _) fun bin cmp un conv bnot beq band sel isel ofN toN inb nz nneg lt le room' slb add sub sbin scmp slen sget ssub addk pc pb pi pf ps mkok min_ ig aeq P hP hA hF Q hQ => ?_
    cbv
    repeat' first
      | (refine Chk.mk trivial ?_; cbv)
      | (refine bc_true (by first | assumption | (simp (disch := omega) only [hF, natc, Int.ofNat_eq_natCast, w64_in, decide_eq_true_eq, decide_eq_false_iff_not, Int.toNat_natCast, Bool.not_eq_true', Bool.not_eq_false', not_true_eq_false, not_false_eq_true, Int.not_lt, Int.not_le, Bool.and_eq_true, Bool.or_eq_true, Int.ofNat_lt, Int.ofNat_le, Int.natCast_nonneg, Int.toNat_zero, Int.toNat_one, Classical.not_not, beq_self_eq_true, true_and, and_true]; first | done | assumption | omega | (simp only [natc] at *; omega))) ?_; cbv)
      | (refine bc_false (by first | assumption | (simp (disch := omega) only [hF, natc, Int.ofNat_eq_natCast, w64_in, decide_eq_true_eq, decide_eq_false_iff_not, Int.toNat_natCast, Bool.not_eq_true', Bool.not_eq_false', not_true_eq_false, not_false_eq_true, Int.not_lt, Int.not_le, Bool.and_eq_true, Bool.or_eq_true, Int.ofNat_lt, Int.ofNat_le, Int.natCast_nonneg, Int.toNat_zero, Int.toNat_one, Classical.not_not, beq_self_eq_true, true_and, and_true]; first | done | assumption | omega | (simp only [natc] at *; omega))) ?_; cbv)
      | (refine bc_split (fun h => ?_) (fun h => ?_) <;> (try simp (disch := omega) only [hF, natc, Int.ofNat_eq_natCast, w64_in, decide_eq_true_eq, decide_eq_false_iff_not, Int.toNat_natCast, Bool.not_eq_true', Bool.not_eq_false', not_true_eq_false, not_false_eq_true, Int.not_lt, Int.not_le, Bool.and_eq_true, Bool.or_eq_true, Int.ofNat_lt, Int.ofNat_le, Int.natCast_nonneg, Int.toNat_zero, Int.toNat_one, Classical.not_not, beq_self_eq_true, true_and, and_true] at h) <;> cbv)
      | (refine IdxVC.mk (by simp (disch := omega) only [hF, natc, Int.ofNat_eq_natCast, w64_in, decide_eq_true_eq, decide_eq_false_iff_not, Int.toNat_natCast, Bool.not_eq_true', Bool.not_eq_false', not_true_eq_false, not_false_eq_true, Int.not_lt, Int.not_le, Bool.and_eq_true, Bool.or_eq_true, Int.ofNat_lt, Int.ofNat_le, Int.natCast_nonneg, Int.toNat_zero, Int.toNat_one, Classical.not_not, beq_self_eq_true, true_and, and_true]; first | done | omega | (simp only [natc] at *; omega)) (fun kx hk hk2 => ?_); simp (disch := omega) only [hF, natc, Int.ofNat_eq_natCast, w64_in, decide_eq_true_eq, decide_eq_false_iff_not, Int.toNat_natCast, Bool.not_eq_true', Bool.not_eq_false', not_true_eq_false, not_false_eq_true, Int.not_lt, Int.not_le, Bool.and_eq_true, Bool.or_eq_true, Int.ofNat_lt, Int.ofNat_le, Int.natCast_nonneg, Int.toNat_zero, Int.toNat_one, Classical.not_not, beq_self_eq_true, true_and, and_true] at hk; (try obtain rfl : kx = 0 := hk); cbv)
      | (refine Chk.mk (by simp (disch := omega) only [maxN, hF, natc, Int.ofNat_eq_natCast, w64_in, decide_eq_true_eq, decide_eq_false_iff_not, Int.toNat_natCast, Bool.not_eq_true', Bool.not_eq_false', not_true_eq_false, not_false_eq_true, Int.not_lt, Int.not_le, Bool.and_eq_true, Bool.or_eq_true, Int.ofNat_lt, Int.ofNat_le, Int.natCast_nonneg, Int.toNat_zero, Int.toNat_one, Classical.not_not, beq_self_eq_true, true_and, and_true]; first | done | assumption | omega | (simp only [natc] at *; omega)) ?_; cbv)
      | (intro (hmx : _ ≤ maxN); replace hmx : _ ≤ 17592186044416 := hmx; cbv)
      | (intro _; cbv)
      | (refine call_pure hP code_law19_Few ((few_le S 7 7 rfl)) ?_ ?_; (focus (cbv; (try simp); done)); rintro _ ⟨f1, hf1, rfl⟩; cbv)
      | (refine call_pure hP code_law19_Few ((few_le T 7 7 rfl)) ?_ ?_; (focus (cbv; (try simp); done)); rintro _ ⟨f2, hf2, rfl⟩; cbv)
      | (refine call_pure hP code_law21_alive (ok_alive) ?_ ?_; (focus (cbv; (try simp); done)); rintro _ rfl; cbv)
    all_goals first
      | (exfalso; simp_all; done)
      | (subst hQ; exact leaf_data rfl rfl ⟨rfl, rfl⟩)

end Go.Proofs.Ytophlodlencgiaa
