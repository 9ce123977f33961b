/-
  '==' at a struct whose fields are whole numbers.
-/
import Derived.Test.YtiaceoomiflgcaaGreatVceD
import Derived.ChangeKeysEq
import Derived.Laws.StructEq
namespace Go.V

/-- Fields that are whole numbers, one after another from a place on. -/
def intFields (P : Program) : Nat → List Field → Bool
  | _, [] => true
  | off, f :: r => f.name != "_" && f.offset == off && (match P.underlying f.type with | some (.int _) => true | _ => false) && intFields P (off + 1) r

theorem eqFields_ints {P : Program} {d : Nat} {w : World} {xs ys : List Value} : ∀ (fs : List Field) (off : Nat), intFields P off fs = true → off + fs.length = xs.length → off + fs.length = ys.length →
    all2 valSame (xs.drop off) (ys.drop off) = true → (Op.eqFields (d + 1) xs.toArray ys.toArray fs).run P w = .ok (all2 valEq (xs.drop off) (ys.drop off)) w
  | [], off, _, hx, hy, _ => by
    simp only [List.length_nil, Nat.add_zero] at hx hy
    rw [List.drop_of_length_le (by omega), List.drop_of_length_le (by omega)]
    simp [Op.eqFields, all2]
  | f :: r, off, h, hx, hy, hs => by
    simp only [intFields, Bool.and_eq_true, bne_iff_ne, ne_eq, beq_iff_eq] at h
    obtain ⟨⟨⟨hn, ho⟩, hi⟩, hr⟩ := h
    simp only [List.length_cons] at hx hy
    have lx : off < xs.length := by omega
    have ly : off < ys.length := by omega
    rw [List.drop_eq_getElem_cons lx, List.drop_eq_getElem_cons ly] at hs ⊢
    simp only [all2, Bool.and_eq_true] at hs
    have hp : P.plainKey f.type = true := by
      unfold Program.plainKey
      split at hi
      · rename_i k e; rw [e]
      · cases hi
    have ih := eqFields_ints (d := d) (w := w) r (off + 1) hr (by omega) (by omega) hs.2
    have h0 := hs.1
    have p1 : (part f.type xs.toArray f.offset).run P w = .ok xs[off] w := run_part_plain w hp (by rw [ho]; simp [lx])
    have p2 : (part f.type ys.toArray f.offset).run P w = .ok ys[off] w := run_part_plain w hp (by rw [ho]; simp [ly])
    generalize xs[off] = a at *
    generalize ys[off] = b at *
    split at hi
    · rename_i k e
      unfold valSame at h0
      split at h0
      · rename_i k1 x k2 y
        have hk : k1 = k2 := ikEq_eq h0
        subst hk
        have q := run_equalIn_int (P := P) w d f.type k1 k x y e
        simp only [Op.eqFields, hn, ne_eq, not_false_eq_true, if_true, Sem.run_bind, p1, p2, q, Result.andThen_ok, all2, valEq]
        cases hb : (x == y)
        · simp
        · simpa using ih
      · cases h0
    · cases hi

theorem eqAg_ints {P : Program} {t n : Nat} (hu : P.underlying t = some (.struct (P.fieldsOf t))) (hf : (intFields P 0 (P.fieldsOf t).toList && Nat.beq (P.fieldsOf t).toList.length n) = true) (hs : P.stoodInHeld t = false)
    (hg : P.eqGuardType P.depth t = false) : EqAg P t n where
  eq xs ys w hx hy h := by
    simp only [Bool.and_eq_true] at hf
    have hl := Nat.eq_of_beq_eq_true hf.2
    show (Op.equalIn (9998 + 1 + 1) t _ _).run P w = _
    rw [run_equalIn_struct w _ t _ _ hu hs]
    exact eqFields_ints (d := 9998) _ 0 hf.1 (by omega) (by omega) h
  gd := hg

end Go.V
