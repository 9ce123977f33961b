/-
  Walks: the order that is found by trying all, by the document.
-/
import Derived.Test.YtophlodlencgiaaOrdO
namespace Go.Proofs.Ytophlodlencgiaa
open Go.V
set_option linter.unusedVariables false
set_option linter.unusedSimpArgs false

/-- The messages put, as the document has them. -/
structure Lds {n : Nat} {G : Nat → Nat → DV} (S : Ents n G) (p : Nat) (L : Nat → Nat → DV) (lm : Nat → Nat) (lg : Nat → Nat → Nat → DV) : Prop where
  at_ : ∀ j, j < p → L j 0 = .seq (lm j) 1 (lg j)
  m : ∀ j, j < p → lm j = S.m (S.msg j)
  x : ∀ j, j < p → ∀ y, y < lm j → lg j y 0 = .int .i64 (S.x (S.msg j) y)

set_option maxRecDepth 100000 in
set_option maxHeartbeats 4000000 in
theorem okR_goes_walk {n : Nat} {GS : Nat → Nat → DV} (S : Ents n GS) {k : Nat} {GT : Nat → Nat → DV} (T : Ents k GT) (room : Int) (i j : Nat) {n' : Nat} {GS' : Nat → Nat → DV} (S' : Ents n' GS') {k' : Nat} {GT' : Nat → Nat → DV} (T' : Ents k' GT')
    (hl1 : n' + i = n) (hl2 : k' + j = k) (hN : n + k < 1000) (L : Nat → Nat → DV) (pu go ba : Int) (p : Nat) {GS1 GT1 : Nat → Nat → DV} (hGS1 : ∀ x f, GS1 x f = GS' (1 + x) f) (hGT1 : ∀ x f, GT1 x f = GT' (1 + x) f) (n1 k1 : Nat) (hn1 : n1 = n' - 1) (hk1 : k1 = k' - 1)
    (at' at1 many : Int) (hat : at'.toNat = j ∧ 0 ≤ at') (hat1 : at1 = at' + 1) (hmany : many.toNat = n ∧ 0 ≤ many) (ds : Bool) (hds : ds = true ↔ S.done i) (dt : Bool) (hdt : dt = true ↔ T.done j) (o : Option (List Nat))
    (l1 l2 l3 l4 s1 s2 : Bool) (hl1' : l1 = true ↔ T.late j (S.be i)) (hl2' : l2 = true ↔ S.late (i + 1) (S.be i)) (hl3' : l3 = true ↔ S.late i (T.be j)) (hl4' : l4 = true ↔ T.late (j + 1) (T.be j))
    (hle1 : CallOK (O := Ob) PR n_ref21_left [.dv (.seq n' 8 GS')] [] fun r m => r = .dv (.bool (!ds)) ∧ m = []) (hle2 : CallOK (O := Ob) PR n_ref21_left [.dv (.seq k' 8 GT')] [] fun r m => r = .dv (.bool (!dt)) ∧ m = [])
    (hla1 : 0 < n' → CallOK (O := Ob) PR n_ref21_late [.dv (.seq k' 8 GT'), .agg (S'.row 0)] [] fun r m => r = .dv (.bool l1) ∧ m = []) (hla2 : 0 < n' → CallOK (O := Ob) PR n_ref21_late [.dv (.seq n1 8 GS1), .agg (S'.row 0)] [] fun r m => r = .dv (.bool l2) ∧ m = [])
    (hla3 : 0 < k' → CallOK (O := Ob) PR n_ref21_late [.dv (.seq n' 8 GS'), .agg (T'.row 0)] [] fun r m => r = .dv (.bool l3) ∧ m = []) (hla4 : 0 < k' → CallOK (O := Ob) PR n_ref21_late [.dv (.seq k1 8 GT1), .agg (T'.row 0)] [] fun r m => r = .dv (.bool l4) ∧ m = [])
    (o1 o2 : Option (List Nat))
    (hd1 : 0 < n' → CallOK (O := Ob) PR n_ref21_Does [.agg [.dv (.int .i64 room), .dv (.seq p 1 L), .dv (.int .i64 pu), .dv (.int .i64 go), .dv (.int .i64 ba)], .agg (S'.row 0)] [] fun r m => (∃ room' pu' go' ba' p' L', r = .tup [.agg [.dv (.int .i64 room'), .dv (.seq p' 1 L'), .dv (.int .i64 pu'), .dv (.int .i64 go'), .dv (.int .i64 ba')], .dv (.bool s1)] ∧
      (s1 = true → CallOK (O := Ob) PR n_ref21_goes [.agg [.dv (.int .i64 room'), .dv (.seq p' 1 L'), .dv (.int .i64 pu'), .dv (.int .i64 go'), .dv (.int .i64 ba')], .dv (.seq n1 8 GS1), .dv (.seq k' 8 GT'), .dv (.int .i64 at'), .dv (.int .i64 many)] [] fun r m => goesQ o1 r ∧ m = [])) ∧ m = [])
    (hd2 : 0 < k' → CallOK (O := Ob) PR n_ref21_Does [.agg [.dv (.int .i64 room), .dv (.seq p 1 L), .dv (.int .i64 pu), .dv (.int .i64 go), .dv (.int .i64 ba)], .agg (T'.row 0)] [] fun r m => (∃ room' pu' go' ba' p' L', r = .tup [.agg [.dv (.int .i64 room'), .dv (.seq p' 1 L'), .dv (.int .i64 pu'), .dv (.int .i64 go'), .dv (.int .i64 ba')], .dv (.bool s2)] ∧
      (s2 = true → CallOK (O := Ob) PR n_ref21_goes [.agg [.dv (.int .i64 room'), .dv (.seq p' 1 L'), .dv (.int .i64 pu'), .dv (.int .i64 go'), .dv (.int .i64 ba')], .dv (.seq n' 8 GS'), .dv (.seq k1 8 GT1), .dv (.int .i64 at1), .dv (.int .i64 many)] [] fun r m => goesQ o2 r ∧ m = [])) ∧ m = [])
    (ho1 : ∀ l, o1 = some l → l.length < 1000) (ho2 : ∀ l, o2 = some l → l.length < 1000)
    (hdone : ds = true → dt = true → o = some [])
    (h1 : ¬ (ds = true ∧ dt = true) → 0 < n' → l1 = false → l2 = false → s1 = true → ∀ l, o1 = some l → o = some (i :: l))
    (h2 : ¬ (ds = true ∧ dt = true) → (0 < n' → l1 = false → l2 = false → s1 = true → o1 = none) → 0 < k' → l3 = false → l4 = false → s2 = true → ∀ l, o2 = some l → o = some ((n + j) :: l))
    (h3 : ¬ (ds = true ∧ dt = true) → (0 < n' → l1 = false → l2 = false → s1 = true → o1 = none) → (0 < k' → l3 = false → l4 = false → s2 = true → o2 = none) → o = none) :
    CallOK (O := Ob) PR n_ref21_goes [.agg [.dv (.int .i64 room), .dv (.seq p 1 L), .dv (.int .i64 pu), .dv (.int .i64 go), .dv (.int .i64 ba)], .dv (.seq n' 8 GS'), .dv (.seq k' 8 GT'), .dv (.int .i64 at'), .dv (.int .i64 many)] []
      fun r m => goesQ o r ∧ m = [] := by
  refine fn_walkv mixed fn_ref21_goes (Ent.refl _ _) fun bin cmp un conv bnot beq band sel isel ofN toN inb nz nneg lt le room' slb add sub sbin scmp slen sget ssub addk pc pb pi pf ps mkok min_ ig aeq P hP hA hF Q hQ => ?_
  have e1 : DV.seq (sub (toN (ofN n')) (toN 1)) 8 (fun x => GS' (add (toN 1) x)) = .seq n1 8 GS1 := by
    simp only [hF, hn1]; congr 1; funext x f; rw [hGS1]; rfl
  have e2 : DV.seq (sub (toN (ofN k')) (toN 1)) 8 (fun x => GT' (add (toN 1) x)) = .seq k1 8 GT1 := by
    simp only [hF, hk1]; congr 1; funext x f; rw [hGT1]; rfl
  have e3 : bin .add .i64 at' 1 = at1 := by simp only [hF, hat1]; rw [w64_in (by omega)]
  have fA : ∀ (q : Nat) (lg : Nat → Nat → DV) (m : List (Chunk Ob)) (h N : Nat) (at_ : Nat → Nat → SV) (l : List Nat), lget m h = some (.vec N 1 at_) → N = add 1 q → at_ = appAt ⟨bin, cmp, un, conv, bnot, beq, band, sel, isel, ofN, toN, inb, nz, nneg, lt, le, room', slb, add, sub, sbin, scmp, slen, sget, ssub, addk, pc, pb, pi, pf, ps, mkok, min_, ig, aeq⟩ 1 (listAt 1 [.dv (.int .i64 (bin .sub .i64 many (ofN n')))]) (dvAt lg) → l.length = q →
      (∀ y, y < q → lg y 0 = .int .i64 ((l.getD y 0 : Nat) : Int)) → o = some (i :: l) → Q (.tup [.vec h, .dv (.bool true)]) m := by
    intro q lg m h N at_ l hm hN' hat' hl hlg ho
    subst hQ
    refine goesQ_app h (bin .sub .i64 many (ofN n')) q lg hm (by rw [hN']; simp only [hF]; omega) (fun y hy => ?_) i (by simp only [hF]; rw [w64_in (by omega)]; omega) l hl hlg ho rfl
    rw [hat']
    simp only [appAt, dvAt, hF]
    split
    · obtain rfl : y = 0 := by omega
      rfl
    · rfl
  have fB : ∀ (q : Nat) (lg : Nat → Nat → DV) (m : List (Chunk Ob)) (h N : Nat) (at_ : Nat → Nat → SV) (l : List Nat), lget m h = some (.vec N 1 at_) → N = add 1 q → at_ = appAt ⟨bin, cmp, un, conv, bnot, beq, band, sel, isel, ofN, toN, inb, nz, nneg, lt, le, room', slb, add, sub, sbin, scmp, slen, sget, ssub, addk, pc, pb, pi, pf, ps, mkok, min_, ig, aeq⟩ 1 (listAt 1 [.dv (.int .i64 (bin .add .i64 many at'))]) (dvAt lg) → l.length = q →
      (∀ y, y < q → lg y 0 = .int .i64 ((l.getD y 0 : Nat) : Int)) → o = some ((n + j) :: l) → Q (.tup [.vec h, .dv (.bool true)]) m := by
    intro q lg m h N at_ l hm hN' hat' hl hlg ho
    subst hQ
    refine goesQ_app h (bin .add .i64 many at') q lg hm (by rw [hN']; simp only [hF]; omega) (fun y hy => ?_) (n + j) (by simp only [hF]; rw [w64_in (by omega)]; omega) l hl hlg ho rfl
    rw [hat']
    simp only [appAt, dvAt, hF]
    split
    · obtain rfl : y = 0 := by omega
      rfl
    · rfl
  clear hGS1 hGT1 hn1 hk1 hds hdt hl1' hl2' hl3' hl4'
  cbv
  repeat' first
    | (refine Chk.mk trivial ?_; cbv)
    | (refine bc_true (by first | assumption | (simp (disch := omega) only [hF, natc, w64_in, decide_eq_true_eq, decide_eq_false_iff_not, Int.toNat_natCast, Bool.not_eq_true', Bool.not_eq_false', not_true_eq_false, not_false_eq_true, Int.not_lt, Int.not_le, Bool.and_eq_true, Bool.or_eq_true, Int.ofNat_lt, Int.ofNat_le, Int.natCast_nonneg, Int.toNat_zero, Int.toNat_one, Classical.not_not, true_and, and_true]; first | done | assumption | omega | (simp only [natc] at *; omega))) ?_; cbv)
    | (refine bc_false (by first | assumption | (simp (disch := omega) only [hF, natc, w64_in, decide_eq_true_eq, decide_eq_false_iff_not, Int.toNat_natCast, Bool.not_eq_true', Bool.not_eq_false', not_true_eq_false, not_false_eq_true, Int.not_lt, Int.not_le, Bool.and_eq_true, Bool.or_eq_true, Int.ofNat_lt, Int.ofNat_le, Int.natCast_nonneg, Int.toNat_zero, Int.toNat_one, Classical.not_not, true_and, and_true]; first | done | assumption | omega | (simp only [natc] at *; omega))) ?_; cbv)
    | (refine bc_split (fun h => ?_) (fun h => ?_) <;> (try simp (disch := omega) only [hF, natc, w64_in, decide_eq_true_eq, decide_eq_false_iff_not, Int.toNat_natCast, Bool.not_eq_true', Bool.not_eq_false', not_true_eq_false, not_false_eq_true, Int.not_lt, Int.not_le, Bool.and_eq_true, Bool.or_eq_true, Int.ofNat_lt, Int.ofNat_le, Int.natCast_nonneg, Int.toNat_zero, Int.toNat_one, Classical.not_not, true_and, and_true] at h) <;> cbv)
    | (refine IdxVC.mk (by simp (disch := omega) only [hF, natc, w64_in, decide_eq_true_eq, decide_eq_false_iff_not, Int.toNat_natCast, Bool.not_eq_true', Bool.not_eq_false', not_true_eq_false, not_false_eq_true, Int.not_lt, Int.not_le, Bool.and_eq_true, Bool.or_eq_true, Int.ofNat_lt, Int.ofNat_le, Int.natCast_nonneg, Int.toNat_zero, Int.toNat_one, Classical.not_not, true_and, and_true]; first | done | omega | (simp only [natc] at *; omega)) (fun kx hk hk2 => ?_); simp (disch := omega) only [hF, natc, w64_in, decide_eq_true_eq, decide_eq_false_iff_not, Int.toNat_natCast, Bool.not_eq_true', Bool.not_eq_false', not_true_eq_false, not_false_eq_true, Int.not_lt, Int.not_le, Bool.and_eq_true, Bool.or_eq_true, Int.ofNat_lt, Int.ofNat_le, Int.natCast_nonneg, Int.toNat_zero, Int.toNat_one, Classical.not_not, true_and, and_true] at hk; (try obtain rfl : kx = 0 := hk); cbv)
    | (simp (disch := assumption) only [S'.h0, S'.h1, S'.h2, S'.h3, S'.h4, S'.h5, S'.h6, S'.h7, T'.h0, T'.h1, T'.h2, T'.h3, T'.h4, T'.h5, T'.h6, T'.h7]; cbv)
    | (refine Chk.mk (by simp (disch := omega) only [maxN, hF, natc, w64_in, decide_eq_true_eq, decide_eq_false_iff_not, Int.toNat_natCast, Bool.not_eq_true', Bool.not_eq_false', not_true_eq_false, not_false_eq_true, Int.not_lt, Int.not_le, Bool.and_eq_true, Bool.or_eq_true, Int.ofNat_lt, Int.ofNat_le, Int.natCast_nonneg, Int.toNat_zero, Int.toNat_one, Classical.not_not, true_and, and_true]; first | done | assumption | omega | (simp only [natc] at *; omega)) ?_; cbv)
    | (intro (hmx : _ ≤ maxN); replace hmx : _ ≤ 17592186044416 := hmx; cbv)
    | (intro _; cbv)
    | (refine call_pure hP code_ref21_left (hle1) ?_ ?_; (focus (cbv; (try simp); done)); rintro _ rfl; cbv)
    | (refine call_pure hP code_ref21_left (hle2) ?_ ?_; (focus (cbv; (try simp); done)); rintro _ rfl; cbv)
    | ((refine Chk.mk (by first | (obtain ⟨l, e4, e5, _⟩ := hb1 (by assumption); have := ho1 l e4; simp [hF, maxN]; omega) | (obtain ⟨l, e4, e5, _⟩ := hb2 (by assumption); have := ho2 l e4; simp [hF, maxN]; omega)) ?_); cbv)
    | ((simp only [e1]); cbv)
    | ((simp only [e2]); cbv)
    | ((simp only [e3]); cbv)
    | (refine And.intro ?_ ?_ <;> cbv)
    | (refine call_pure hP code_ref21_late ((hla1 (by assumption))) ?_ ?_; (focus (cbv; (try simp); done)); rintro _ rfl; cbv)
    | (refine call_pure hP code_ref21_late ((hla2 (by assumption))) ?_ ?_; (focus (cbv; (try simp); done)); rintro _ rfl; cbv)
    | (refine call_pure hP code_ref21_late ((hla3 (by assumption))) ?_ ?_; (focus (cbv; (try simp); done)); rintro _ rfl; cbv)
    | (refine call_pure hP code_ref21_late ((hla4 (by assumption))) ?_ ?_; (focus (cbv; (try simp); done)); rintro _ rfl; cbv)
    | (refine call_pure hP code_ref21_Does ((hd1 (by assumption))) ?_ ?_; (focus (cbv; (try simp); done)); rintro _ ⟨room1, pu1, go1, ba1, p1, L1, rfl, hr1⟩; cbv)
    | (refine call_pure hP code_ref21_Does ((hd2 (by assumption))) ?_ ?_; (focus (cbv; (try simp); done)); rintro _ ⟨room2, pu2, go2, ba2, p2, L2, rfl, hr2⟩; cbv)
    | (refine call_pure hP code_ref21_goes ((hr1 (by first | rfl | assumption))) ?_ ?_; (focus (cbv; (try simp); done)); rintro _ ⟨q1, lg1, b1, rfl, hb1, hb1'⟩; cbv)
    | (refine call_pure hP code_ref21_goes ((hr2 (by first | rfl | assumption))) ?_ ?_; (focus (cbv; (try simp); done)); rintro _ ⟨q2, lg2, b2, rfl, hb2, hb2'⟩; cbv)
  all_goals first
    | (subst hQ; refine leaf_weak (.tup (.cons (.dv (.nil 1 fun _ _ => .nilp)) (.cons (.same _) .nil))) rfl rfl ⟨goesQ_nil ?_, rfl⟩; clear hF hA hP hla1 hla2 hla3 hla4 hd1 hd2 hle1 hle2 e1 e2 e3; (try clear hr1); (try clear hr2); simp only [natc] at *; grind; done)
    | (obtain ⟨l, e4, e5, e6⟩ := hb1 (by assumption); refine fA _ _ _ 3 _ _ l rfl rfl rfl e5 e6 (h1 ?_ (by assumption) (by first | rfl | assumption) (by first | rfl | assumption) (by first | rfl | assumption) l e4); clear hF hA hP hQ fA fB hla1 hla2 hla3 hla4 hd1 hd2 hle1 hle2 e1 e2 e3 hr1; (try clear hr2); grind; done)
    | (obtain ⟨l, e4, e5, e6⟩ := hb2 (by assumption); first
        | refine fB _ _ _ 3 _ _ l rfl rfl rfl e5 e6 (h2 ?_ ?_ (by assumption) (by assumption) (by assumption) (by assumption) l e4)
        | refine fB _ _ _ 4 _ _ l rfl rfl rfl e5 e6 (h2 ?_ ?_ (by assumption) (by assumption) (by assumption) (by assumption) l e4)
       all_goals (clear hF hA hP hQ fA fB hla1 hla2 hla3 hla4 hd1 hd2 hle1 hle2 e1 e2 e3 hr2; (try clear hr1); (try simp only [natc] at *); grind)
       done)
    | skip


end Go.Proofs.Ytophlodlencgiaa
