/-
  Plain: the search for an order.
-/
import Derived.Test.YtophlodlencgiaaOrdC
namespace Go.Proofs.Ytophlodlencgiaa
open Go.V

def Ents.lateB {n : Nat} {G : Nat → Nat → DV} (S : Ents n G) (a : Nat) (b : Int) : Bool := (List.range n).any fun i => decide (a ≤ i ∧ S.en i ≠ 0 ∧ S.en i < b)

theorem Ents.lateB_iff {n : Nat} {G : Nat → Nat → DV} (S : Ents n G) (a : Nat) (b : Int) : S.lateB a b = true ↔ S.late a b := by
  rw [lateB, List.any_eq_true, late]
  constructor
  · rintro ⟨i, hi, h⟩
    obtain ⟨h1, h2⟩ := of_decide_eq_true h
    exact ⟨i, h1, List.mem_range.1 hi, h2⟩
  · rintro ⟨i, h1, h2, h3⟩
    exact ⟨i, List.mem_range.2 h2, decide_eq_true ⟨h1, h3⟩⟩

instance {n : Nat} {G : Nat → Nat → DV} (S : Ents n G) (a : Nat) (b : Int) : Decidable (S.late a b) := decidable_of_iff _ (S.lateB_iff a b)
instance {n : Nat} {G : Nat → Nat → DV} (S : Ents n G) (a : Nat) : Decidable (S.done a) := by unfold Ents.done; infer_instance

section
variable {n : Nat} {G : Nat → Nat → DV}

/-- The messages put, by their places; how many messages have been got, and given back. -/
def Ents.eff (S : Ents n G) : Nat → List Nat
  | 0 => []
  | i + 1 => if S.okE i = true then S.eff i ++ [i] else S.eff i

def Ents.got (T : Ents n G) : Nat → Nat
  | 0 => 0
  | i + 1 => T.got i + if T.kd i = 2 ∧ T.okE i = true then 1 else 0

def Ents.back (T : Ents n G) : Nat → Nat
  | 0 => 0
  | i + 1 => T.back i + if T.kd i = 3 ∧ T.okE i = true then 1 else 0

theorem Ents.eff_len (S : Ents n G) : ∀ i, (S.eff i).length ≤ i
  | 0 => Nat.le_refl 0
  | i + 1 => by
    have := S.eff_len i
    simp only [eff]
    split
    · simp; omega
    · omega

theorem Ents.eff_lt (S : Ents n G) : ∀ i j, j ∈ S.eff i → j < i
  | 0, _, h => by simp [eff] at h
  | i + 1, j, h => by
    simp only [eff] at h
    split at h
    · rcases List.mem_append.1 h with h | h
      · have := S.eff_lt i j h; omega
      · simp at h; omega
    · have := S.eff_lt i j h; omega

theorem Ents.eff_pre (S : Ents n G) (i : Nat) : ∀ d, ∃ l, S.eff (i + d) = S.eff i ++ l
  | 0 => ⟨[], by simp⟩
  | d + 1 => by
    obtain ⟨l, hl⟩ := S.eff_pre i d
    rw [← Nat.add_assoc, eff, hl]
    split
    · exact ⟨l ++ [i + d], by simp⟩
    · exact ⟨l, rfl⟩

theorem Ents.eff_at (S : Ents n G) {i i' j : Nat} (h : i ≤ i') (hj : j < (S.eff i).length) : (S.eff i').getD j 0 = (S.eff i).getD j 0 := by
  obtain ⟨l, hl⟩ := S.eff_pre i (i' - i)
  rw [Nat.add_sub_cancel' h] at hl
  rw [hl, List.getD_eq_getElem?_getD, List.getElem?_append_left hj, ← List.getD_eq_getElem?_getD]

theorem Ents.eff_mono (S : Ents n G) {i i' : Nat} (h : i ≤ i') : (S.eff i).length ≤ (S.eff i').length := by
  obtain ⟨l, hl⟩ := S.eff_pre i (i' - i)
  rw [Nat.add_sub_cancel' h] at hl
  rw [hl]; simp

/-- The place of the j-th message put. -/
def Ents.msg (S : Ents n G) (j : Nat) : Nat := (S.eff n).getD j 0

theorem Ents.msg_lt (S : Ents n G) {j : Nat} (h : j < (S.eff n).length) : S.msg j < n := by
  refine S.eff_lt n _ ?_
  rw [msg, List.getD_eq_getElem?_getD, List.getElem?_eq_getElem h]
  exact List.getElem_mem h
end

section
variable {n : Nat} {GS : Nat → Nat → DV} {k : Nat} {GT : Nat → Nat → DV} (S : Ents n GS) (T : Ents k GT) (room : Int)

/-- The next sent call, at a place in both lists; the next one of the taker's. -/
def stS (i j : Nat) : (Int × Int × Int) × Bool :=
  doesI room (S.eff i).length (T.got j) (T.back j) (S.kd i) (S.en i) (S.er i) (sameW (S.m (S.msg (T.got j))) (S.x (S.msg (T.got j))) (S.m i) (S.x i))
def stT (i j : Nat) : (Int × Int × Int) × Bool :=
  doesI room (S.eff i).length (T.got j) (T.back j) (T.kd j) (T.en j) (T.er j) (sameW (S.m (S.msg (T.got j))) (S.x (S.msg (T.got j))) (T.m j) (T.x j))

def goS (i j : Nat) : Bool := decide (i < n ∧ ¬ T.late j (S.be i) ∧ ¬ S.late (i + 1) (S.be i)) && (stS S T room i j).2
def goT (i j : Nat) : Bool := decide (j < k ∧ ¬ S.late i (T.be j) ∧ ¬ T.late (j + 1) (T.be j)) && (stT S T room i j).2

/-- The order from a place in both lists on. -/
def ordF : Nat → Nat → Nat → Option (List Nat)
  | 0, _, _ => some []
  | f + 1, i, j =>
    if S.done i ∧ T.done j then some []
    else match (if goS S T room i j then (ordF f (i + 1) j).map (i :: ·) else none) with
      | some l => some l
      | none => if goT S T room i j then (ordF f i (j + 1)).map ((n + j) :: ·) else none

def ord (i j : Nat) : Option (List Nat) := ordF S T room ((n - i) + (k - j)) i j

theorem ord_done {i j : Nat} (h : S.done i ∧ T.done j) : ord S T room i j = some [] := by
  unfold ord
  cases (n - i) + (k - j) with
  | zero => rfl
  | succ f => simp only [ordF, if_pos h]

theorem goS_lt {i j : Nat} (h : goS S T room i j = true) : i < n := by
  simp only [goS, Bool.and_eq_true, decide_eq_true_eq] at h; exact h.1.1
theorem goT_lt {i j : Nat} (h : goT S T room i j = true) : j < k := by
  simp only [goT, Bool.and_eq_true, decide_eq_true_eq] at h; exact h.1.1

theorem ord_step {i j : Nat} (hi : i ≤ n) (hj : j ≤ k) (h : ¬ (S.done i ∧ T.done j)) : ord S T room i j =
    match (if goS S T room i j then (ord S T room (i + 1) j).map (i :: ·) else none) with
    | some l => some l
    | none => if goT S T room i j then (ord S T room i (j + 1)).map ((n + j) :: ·) else none := by
  have hf : (n - i) + (k - j) ≠ 0 := fun h0 => h ⟨.inl (by omega), .inl (by omega)⟩
  obtain ⟨f, hf'⟩ := Nat.exists_eq_succ_of_ne_zero hf
  have e1 : goS S T room i j = true → ordF S T room f (i + 1) j = ord S T room (i + 1) j := fun hg => by
    have := goS_lt S T room hg
    rw [ord, show (n - (i + 1)) + (k - j) = f by omega]
  have e2 : goT S T room i j = true → ordF S T room f i (j + 1) = ord S T room i (j + 1) := fun hg => by
    have := goT_lt S T room hg
    rw [ord, show (n - i) + (k - (j + 1)) = f by omega]
  rw [ord, hf', ordF, if_neg h]
  cases h1 : goS S T room i j <;> cases h2 : goT S T room i j <;> simp only [e1, e2, h1, h2, if_true, if_false, Bool.false_eq_true] <;> rfl

/-- How many messages there are, at a place in both lists. -/
def Cnt (i j : Nat) : Prop := T.back j ≤ T.got j ∧ T.got j ≤ (S.eff i).length

theorem Cnt.zero : Cnt S T 0 0 := ⟨Nat.le_refl 0, Nat.le_refl 0⟩

theorem okE_iff {n : Nat} {G : Nat → Nat → DV} (S : Ents n G) (i : Nat) : S.okE i = true ↔ S.en i = 0 ∨ S.er i = 0 := by simp [Ents.okE]

theorem stS_cnt {i j : Nat} (hk : S.kd i = 1) : (stS S T room i j).1 = (((S.eff (i + 1)).length : Int), ((T.got j : Nat) : Int), ((T.back j : Nat) : Int)) := by
  simp only [stS, doesI, hk, Ents.eff, okE_iff]
  by_cases h : S.en i = 0 ∨ S.er i = 0
  · simp [h]
  · simp [h]
    by_cases h5 : S.er i = 5 <;> simp [h5]

theorem stT_cnt {i j : Nat} (hk : T.kd j = 2 ∨ T.kd j = 3) : (stT S T room i j).1 = (((S.eff i).length : Int), ((T.got (j + 1) : Nat) : Int), ((T.back (j + 1) : Nat) : Int)) := by
  simp only [stT, doesI, Ents.got, Ents.back, okE_iff]
  by_cases h : T.en j = 0 ∨ T.er j = 0
  · rcases hk with hk | hk <;> simp [h, hk]
  · rcases hk with hk | hk
    · simp [h, hk]
      by_cases h6 : T.er j = 6 <;> simp [h6]
    · simp [h, hk]

theorem Cnt.stepS {i j : Nat} (h : Cnt S T i j) : Cnt S T (i + 1) j := ⟨h.1, Nat.le_trans h.2 (S.eff_mono (Nat.le_succ i))⟩

theorem Cnt.stepT {i j : Nat} (h : Cnt S T i j) (hk : T.kd j = 2 ∨ T.kd j = 3) (hg : (stT S T room i j).2 = true) : Cnt S T i (j + 1) := by
  obtain ⟨h1, h2⟩ := h
  simp only [stT, doesI] at hg
  simp only [Cnt, Ents.got, Ents.back, okE_iff]
  by_cases h : T.en j = 0 ∨ T.er j = 0
  · rcases hk with hk | hk
    · simp [h, hk] at hg ⊢; omega
    · simp [h, hk] at hg ⊢; omega
  · simp [h]; exact ⟨h1, h2⟩
end

/-- What is known of the places tried. -/
structure Tried (has : List Int → Bool) (p : Nat → Nat → Prop) : Prop where
  h : ∀ a b : Nat, has [(a : Int), (b : Int)] = true → p a b

theorem Tried.add {has : List Int → Bool} {p : Nat → Nat → Prop} (h : Tried has p) (i j : Nat) (x y : Int) (hx : x = i) (hy : y = j) : Tried (std.addk has [x, y]) fun a b => p a b ∨ (a = i ∧ b = j) := ⟨fun a b hab => by
  simp only [std, addKey] at hab
  split at hab
  · rename_i e
    simp only [List.cons.injEq, and_true] at e
    exact .inr ⟨by omega, by omega⟩
  · exact .inl (h.h a b hab)⟩

end Go.Proofs.Ytophlodlencgiaa
