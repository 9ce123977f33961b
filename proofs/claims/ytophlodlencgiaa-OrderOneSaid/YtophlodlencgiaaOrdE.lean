/-
  Walks: one step of the search.
-/
import Derived.Test.YtophlodlencgiaaOrdB
namespace Go.Proofs.Ytophlodlencgiaa
open Go.V

/-- What a call does to the counts; whether it is possible. -/
def doesI (room pu go ba kd en er : Int) (same : Bool) : (Int × Int × Int) × Bool :=
  if kd = 1 ∧ (en = 0 ∨ er = 0) then ((pu + 1, go, ba), decide (pu + 1 - ba ≤ room))
  else if kd = 1 ∧ er = 5 then ((pu, go, ba), decide (pu - ba = room))
  else if kd = 2 ∧ (en = 0 ∨ er = 0) then ((pu, go + 1, ba), decide (go + 1 ≤ pu) && (decide (en = 0) || same))
  else if kd = 2 ∧ er = 6 then ((pu, go, ba), decide (go = pu))
  else if kd = 3 ∧ (en = 0 ∨ er = 0) then ((pu, go, ba + 1), decide (ba + 1 ≤ go))
  else ((pu, go, ba), true)

def sblk (n : Nat) (GS : Nat → Nat → DV) (k : Nat) (GT : Nat → Nat → DV) (room : Int) : List Seg :=
  [.one (.dv (.seq n 8 GS)), .one (.dv (.seq k 8 GT)), .one (.dv (.int .i64 room)), .one (.vec 2), .one (.mp 1)]

/-- What an order is looked for in. -/
def smem (n : Nat) (GS : Nat → Nat → DV) (k : Nat) (GT : Nat → Nat → DV) (room : Int) (has : List Int → Bool) (p : Nat) (L : Nat → DV) : List (Chunk Ob) :=
  [.blk (sblk n GS k GT room), .mset 2 has, .vec p 1 (fun j _ => .dv (L j))]

set_option maxHeartbeats 4000000 in
theorem ok_does (n : Nat) (GS : Nat → Nat → DV) (k : Nat) (GT : Nat → Nat → DV) (room : Int) (has : List Int → Bool) (p : Nat) (lm : Nat → Nat) (lg : Nat → Nat → Nat → DV) (lx : Nat → Nat → Int)
    (hl : ∀ j, j < p → ∀ i, i < lm j → lg j i 0 = .int .i64 (lx j i)) (hp : p ≤ maxN) (pu go ba : Int) (hpu : pu.toNat ≤ p) (h0 : 0 ≤ ba) (h1 : ba ≤ go) (h2 : go ≤ pu)
    (a0 a1 kd a3 en er : Int) (m : Nat) (g : Nat → Nat → DV) (x : Nat → Int) (hg : ∀ i, i < m → g i 0 = .int .i64 (x i)) (a7 : Int) :
    CallOK (O := Ob) PR n_order_search_does [.ptr 0 0, .agg [.dv (.int .i64 pu), .dv (.int .i64 go), .dv (.int .i64 ba)],
      .agg [.dv (.int .i64 a0), .dv (.int .i64 a1), .dv (.int .i64 kd), .dv (.int .i64 a3), .dv (.int .i64 en), .dv (.int .i64 er), .dv (.seq m 1 g), .dv (.int .i64 a7)]] (smem n GS k GT room has p fun j => .seq (lm j) 1 (lg j))
      fun r mem => (∃ pu' go' ba' v, ((pu', go', ba'), v) = doesI room pu go ba kd en er (sameW (lm go.toNat) (lx go.toNat) m x) ∧ r = .tup [.agg [.dv (.int .i64 pu'), .dv (.int .i64 go'), .dv (.int .i64 ba')], .dv (.bool v)]) ∧
        mem = smem n GS k GT room has p fun j => .seq (lm j) 1 (lg j) := by
  have hp' : p ≤ 17592186044416 := hp
  clear hp
  refine fn_walk2 mixed fn_order_search_does (Ent.refl _ _) fun A P hA hP Q hQ => ?_
  have q1 : A.bin .add .i64 pu 1 = pu + 1 := by subst hA; simp; rw [w64_in (by omega)]
  have q2 : A.bin .add .i64 go 1 = go + 1 := by subst hA; simp; rw [w64_in (by omega)]
  have q3 : A.bin .add .i64 ba 1 = ba + 1 := by subst hA; simp; rw [w64_in (by omega)]
  have q4 : A.bin .sub .i64 (pu + 1) ba = pu + 1 - ba := by subst hA; simp; rw [w64_in (by omega)]
  have q5 : A.bin .sub .i64 pu ba = pu - ba := by subst hA; simp; rw [w64_in (by omega)]
  have q6 : A.bin .sub .i64 (go + 1) 1 = go := by subst hA; simp; rw [w64_in (by omega)]
  generalize hs : sameW (lm go.toNat) (lx go.toNat) m x = same at hQ
  have eQ : ∀ (pu' go' ba' : Int) (v : Bool) (c1 c2 c3 : Chunk Ob), ((pu', go', ba'), v) = doesI room pu go ba kd en er same →
      Q (.tup [.agg [.dv (.int .i64 pu'), .dv (.int .i64 go'), .dv (.int .i64 ba')], .dv (.bool v)]) (smem n GS k GT room has p (fun j => .seq (lm j) 1 (lg j)) ++ [c1, c2, c3]) := by
    intro pu' go' ba' v c1 c2 c3 h
    subst hQ
    exact ⟨.tup [.agg [.dv (.int .i64 pu'), .dv (.int .i64 go'), .dv (.int .i64 ba')], .dv (.bool v)], smem n GS k GT room has p (fun j => .seq (lm j) 1 (lg j)), Ent.ren [0, 1, 2] rfl rfl ⟨⟨rfl, rfl, rfl, rfl, rfl, trivial⟩, rfl, ⟨rfl, rfl, fun _ _ _ _ => rfl⟩, trivial⟩ ⟨rfl, trivial⟩, ⟨pu', go', ba', v, h, rfl⟩, rfl⟩
  clear hQ
  cbv
  repeat' first
    | (refine bc_true (by assumption) ?_; cbv)
    | (refine bc_false (by assumption) ?_; cbv)
    | (refine bc_split (fun h => ?_) (fun h => ?_) <;> cbv)
    | (refine Chk.mk trivial ?_; cbv)
  all_goals first
    | (refine eQ _ _ _ _ _ _ _ ?_; (try simp only [q1, q2, q3, q4, q5] at h ⊢); subst hA; simp_all [doesI]; done)
    | (exfalso; subst hA; simp_all; done)
    | skip
  · rename_i e2 e3 e4 e5
    have q26 : A.bin .sub .i64 (A.bin .add .i64 go 1) 1 = go := by rw [q2, q6]
    have e6 : go + 1 ≤ pu := by rw [q2] at h; subst hA; simpa using h
    refine ⟨?_, fun j hj hj2 => ?_⟩
    · show A.inb (A.bin .sub .i64 (A.bin .add .i64 go 1) 1) p
      rw [q26]; subst hA; simp; omega
    have hj' : go.toNat = j := by
      have hj : j = A.toN (A.bin .sub .i64 (A.bin .add .i64 go 1) 1) := hj
      rw [q26] at hj; subst hA; simp at hj; exact hj.symm
    rw [hj'] at hs
    clear hj
    cbv
    refine call_pure hP code_slices_Equal_Sint_int (ok_Equal (lm j) (lg j) (lx j) (hl j hj2) m g x hg) (by cbv; all_goals simp) ?_
    rintro _ ⟨v, hv, rfl⟩
    rw [hs] at hv
    subst hv
    cbv
    repeat (refine Chk.mk trivial ?_; cbv)
    refine eQ _ _ _ _ _ _ _ ?_
    simp only [q2]
    subst hA
    simp_all [doesI]
  · rename_i e2 e3 e4 e5
    have e6 : ¬ go + 1 ≤ pu := by rw [q2] at h; subst hA; simpa using h
    clear h
    refine eQ _ _ _ _ _ _ _ ?_
    simp only [q2]
    subst hA
    simp_all [doesI]
    intro hh; omega

end Go.Proofs.Ytophlodlencgiaa

namespace Go.Proofs.Ytophlodlencgiaa
open Go.V

def Ents.lateB {n : Nat} {G : Nat → Nat → DV} (S : Ents n G) (a : Nat) (b : Int) : Bool := (List.range n).any fun i => decide (a ≤ i ∧ S.en i ≠ 0 ∧ S.en i < b)

theorem Ents.lateB_iff {n : Nat} {G : Nat → Nat → DV} (S : Ents n G) (a : Nat) (b : Int) : S.lateB a b = true ↔ S.late a b := by
  rw [lateB, List.any_eq_true, late]
  constructor
  · rintro ⟨i, hi, h⟩
    obtain ⟨h1, h2⟩ := of_decide_eq_true h
    exact ⟨i, h1, List.mem_range.1 hi, h2⟩
  · rintro ⟨i, h1, h2, h3⟩
    exact ⟨i, List.mem_range.2 h2, decide_eq_true ⟨h1, h3⟩⟩

instance {n : Nat} {G : Nat → Nat → DV} (S : Ents n G) (a : Nat) (b : Int) : Decidable (S.late a b) := decidable_of_iff _ (S.lateB_iff a b)
instance {n : Nat} {G : Nat → Nat → DV} (S : Ents n G) (a : Nat) : Decidable (S.done a) := by unfold Ents.done; infer_instance

section
variable {n : Nat} {G : Nat → Nat → DV}

/-- The messages put, by their places; how many messages have been got, and given back. -/
def Ents.eff (S : Ents n G) : Nat → List Nat
  | 0 => []
  | i + 1 => if S.okE i = true then S.eff i ++ [i] else S.eff i

def Ents.got (T : Ents n G) : Nat → Nat
  | 0 => 0
  | i + 1 => T.got i + if T.kd i = 2 ∧ T.okE i = true then 1 else 0

def Ents.back (T : Ents n G) : Nat → Nat
  | 0 => 0
  | i + 1 => T.back i + if T.kd i = 3 ∧ T.okE i = true then 1 else 0

theorem Ents.eff_len (S : Ents n G) : ∀ i, (S.eff i).length ≤ i
  | 0 => Nat.le_refl 0
  | i + 1 => by
    have := S.eff_len i
    simp only [eff]
    split
    · simp; omega
    · omega

theorem Ents.eff_lt (S : Ents n G) : ∀ i j, j ∈ S.eff i → j < i
  | 0, _, h => by simp [eff] at h
  | i + 1, j, h => by
    simp only [eff] at h
    split at h
    · rcases List.mem_append.1 h with h | h
      · have := S.eff_lt i j h; omega
      · simp at h; omega
    · have := S.eff_lt i j h; omega

theorem Ents.eff_pre (S : Ents n G) (i : Nat) : ∀ d, ∃ l, S.eff (i + d) = S.eff i ++ l
  | 0 => ⟨[], by simp⟩
  | d + 1 => by
    obtain ⟨l, hl⟩ := S.eff_pre i d
    rw [← Nat.add_assoc, eff, hl]
    split
    · exact ⟨l ++ [i + d], by simp⟩
    · exact ⟨l, rfl⟩

theorem Ents.eff_at (S : Ents n G) {i i' j : Nat} (h : i ≤ i') (hj : j < (S.eff i).length) : (S.eff i').getD j 0 = (S.eff i).getD j 0 := by
  obtain ⟨l, hl⟩ := S.eff_pre i (i' - i)
  rw [Nat.add_sub_cancel' h] at hl
  rw [hl, List.getD_eq_getElem?_getD, List.getElem?_append_left hj, ← List.getD_eq_getElem?_getD]

theorem Ents.eff_mono (S : Ents n G) {i i' : Nat} (h : i ≤ i') : (S.eff i).length ≤ (S.eff i').length := by
  obtain ⟨l, hl⟩ := S.eff_pre i (i' - i)
  rw [Nat.add_sub_cancel' h] at hl
  rw [hl]; simp

/-- The place of the j-th message put. -/
def Ents.msg (S : Ents n G) (j : Nat) : Nat := (S.eff n).getD j 0

theorem Ents.msg_lt (S : Ents n G) {j : Nat} (h : j < (S.eff n).length) : S.msg j < n := by
  refine S.eff_lt n _ ?_
  rw [msg, List.getD_eq_getElem?_getD, List.getElem?_eq_getElem h]
  exact List.getElem_mem h
end

section
variable {n : Nat} {GS : Nat → Nat → DV} {k : Nat} {GT : Nat → Nat → DV} (S : Ents n GS) (T : Ents k GT) (room : Int)

/-- The next sent call, at a place in both lists; the next one of the taker's. -/
def stS (i j : Nat) : (Int × Int × Int) × Bool :=
  doesI room (S.eff i).length (T.got j) (T.back j) (S.kd i) (S.en i) (S.er i) (sameW (S.m (S.msg (T.got j))) (S.x (S.msg (T.got j))) (S.m i) (S.x i))
def stT (i j : Nat) : (Int × Int × Int) × Bool :=
  doesI room (S.eff i).length (T.got j) (T.back j) (T.kd j) (T.en j) (T.er j) (sameW (S.m (S.msg (T.got j))) (S.x (S.msg (T.got j))) (T.m j) (T.x j))

def goS (i j : Nat) : Bool := decide (i < n ∧ ¬ T.late j (S.be i) ∧ ¬ S.late (i + 1) (S.be i)) && (stS S T room i j).2
def goT (i j : Nat) : Bool := decide (j < k ∧ ¬ S.late i (T.be j) ∧ ¬ T.late (j + 1) (T.be j)) && (stT S T room i j).2

/-- The order from a place in both lists on. -/
def ordF : Nat → Nat → Nat → Option (List Nat)
  | 0, _, _ => some []
  | f + 1, i, j =>
    if S.done i ∧ T.done j then some []
    else match (if goS S T room i j then (ordF f (i + 1) j).map (i :: ·) else none) with
      | some l => some l
      | none => if goT S T room i j then (ordF f i (j + 1)).map ((n + j) :: ·) else none

def ord (i j : Nat) : Option (List Nat) := ordF S T room ((n - i) + (k - j)) i j

theorem ord_done {i j : Nat} (h : S.done i ∧ T.done j) : ord S T room i j = some [] := by
  unfold ord
  cases (n - i) + (k - j) with
  | zero => rfl
  | succ f => simp only [ordF, if_pos h]

theorem goS_lt {i j : Nat} (h : goS S T room i j = true) : i < n := by
  simp only [goS, Bool.and_eq_true, decide_eq_true_eq] at h; exact h.1.1
theorem goT_lt {i j : Nat} (h : goT S T room i j = true) : j < k := by
  simp only [goT, Bool.and_eq_true, decide_eq_true_eq] at h; exact h.1.1

theorem ord_step {i j : Nat} (hi : i ≤ n) (hj : j ≤ k) (h : ¬ (S.done i ∧ T.done j)) : ord S T room i j =
    match (if goS S T room i j then (ord S T room (i + 1) j).map (i :: ·) else none) with
    | some l => some l
    | none => if goT S T room i j then (ord S T room i (j + 1)).map ((n + j) :: ·) else none := by
  have hf : (n - i) + (k - j) ≠ 0 := fun h0 => h ⟨.inl (by omega), .inl (by omega)⟩
  obtain ⟨f, hf'⟩ := Nat.exists_eq_succ_of_ne_zero hf
  have e1 : goS S T room i j = true → ordF S T room f (i + 1) j = ord S T room (i + 1) j := fun hg => by
    have := goS_lt S T room hg
    rw [ord, show (n - (i + 1)) + (k - j) = f by omega]
  have e2 : goT S T room i j = true → ordF S T room f i (j + 1) = ord S T room i (j + 1) := fun hg => by
    have := goT_lt S T room hg
    rw [ord, show (n - i) + (k - (j + 1)) = f by omega]
  rw [ord, hf', ordF, if_neg h]
  cases h1 : goS S T room i j <;> cases h2 : goT S T room i j <;> simp only [e1, e2, h1, h2, if_true, if_false, Bool.false_eq_true] <;> rfl

/-- How many messages there are, at a place in both lists. -/
def Cnt (i j : Nat) : Prop := T.back j ≤ T.got j ∧ T.got j ≤ (S.eff i).length

theorem Cnt.zero : Cnt S T 0 0 := ⟨Nat.le_refl 0, Nat.le_refl 0⟩

theorem okE_iff {n : Nat} {G : Nat → Nat → DV} (S : Ents n G) (i : Nat) : S.okE i = true ↔ S.en i = 0 ∨ S.er i = 0 := by simp [Ents.okE]

theorem stS_cnt {i j : Nat} (hk : S.kd i = 1) : (stS S T room i j).1 = (((S.eff (i + 1)).length : Int), ((T.got j : Nat) : Int), ((T.back j : Nat) : Int)) := by
  simp only [stS, doesI, hk, Ents.eff, okE_iff]
  by_cases h : S.en i = 0 ∨ S.er i = 0
  · simp [h]
  · simp [h]
    by_cases h5 : S.er i = 5 <;> simp [h5]

theorem stT_cnt {i j : Nat} (hk : T.kd j = 2 ∨ T.kd j = 3) : (stT S T room i j).1 = (((S.eff i).length : Int), ((T.got (j + 1) : Nat) : Int), ((T.back (j + 1) : Nat) : Int)) := by
  simp only [stT, doesI, Ents.got, Ents.back, okE_iff]
  by_cases h : T.en j = 0 ∨ T.er j = 0
  · rcases hk with hk | hk <;> simp [h, hk]
  · rcases hk with hk | hk
    · simp [h, hk]
      by_cases h6 : T.er j = 6 <;> simp [h6]
    · simp [h, hk]

theorem Cnt.stepS {i j : Nat} (h : Cnt S T i j) : Cnt S T (i + 1) j := ⟨h.1, Nat.le_trans h.2 (S.eff_mono (Nat.le_succ i))⟩

theorem Cnt.stepT {i j : Nat} (h : Cnt S T i j) (hk : T.kd j = 2 ∨ T.kd j = 3) (hg : (stT S T room i j).2 = true) : Cnt S T i (j + 1) := by
  obtain ⟨h1, h2⟩ := h
  simp only [stT, doesI] at hg
  simp only [Cnt, Ents.got, Ents.back, okE_iff]
  by_cases h : T.en j = 0 ∨ T.er j = 0
  · rcases hk with hk | hk
    · simp [h, hk] at hg ⊢; omega
    · simp [h, hk] at hg ⊢; omega
  · simp [h]; exact ⟨h1, h2⟩
end

/-- What is known of the places tried. -/
structure Tried (has : List Int → Bool) (p : Nat → Nat → Prop) : Prop where
  h : ∀ a b : Nat, has [(a : Int), (b : Int)] = true → p a b

theorem Tried.add {has : List Int → Bool} {p : Nat → Nat → Prop} (h : Tried has p) (i j : Nat) (x y : Int) (hx : x = i) (hy : y = j) : Tried (std.addk has [x, y]) fun a b => p a b ∨ (a = i ∧ b = j) := ⟨fun a b hab => by
  simp only [std, addKey] at hab
  split at hab
  · rename_i e
    simp only [List.cons.injEq, and_true] at e
    exact .inr ⟨by omega, by omega⟩
  · exact .inl (h.h a b hab)⟩

end Go.Proofs.Ytophlodlencgiaa

namespace Go.Proofs.Ytophlodlencgiaa
open Go.V

/-- A row of names. -/
def nm (l : List Nat) : Nat → Nat → SV := fun j _ => .dv (.int .i64 ((l.getD j 0 : Nat) : Int))

def cmem (n : Nat) (GS : Nat → Nat → DV) (k : Nat) (GT : Nat → Nat → DV) (room : Int) (p : Nat) (L : Nat → DV) (pu go ba : Int) (has : List Int → Bool) : List (Chunk Ob) :=
  [.blk (sblk n GS k GT room), .mset 2 has, .vec p 1 (fun j _ => .dv (L j)), .blk [.one (.ptr 0 0)], .blk [.one (.dv (.int .i64 pu)), .one (.dv (.int .i64 go)), .one (.dv (.int .i64 ba))]]

/-- What the search from a place on tells. -/
def fromQ (n : Nat) (GS : Nat → Nat → DV) (k : Nat) (GT : Nat → Nat → DV) (room : Int) (p : Nat) (L : Nat → DV) (o : Option (List Nat)) (q : (List Int → Bool) → Prop) (r : SV) (m : List (Chunk Ob)) : Prop :=
  (∃ l has, o = some l ∧ r = .tup [.vec 3, .dv (.bool true)] ∧ m = smem n GS k GT room has p L ++ [.vec l.length 1 (nm l.reverse)]) ∨
  (∃ has, o = none ∧ r = .tup [.dv .nils, .dv (.bool false)] ∧ m = smem n GS k GT room has p L ∧ q has) ∨
  (∃ has, o = some [] ∧ r = .tup [.dv .nils, .dv (.bool true)] ∧ m = smem n GS k GT room has p L)

theorem nm_app (l : List Nat) (c : Nat) (name : Int) (hc : name = (c : Int)) (i f : Nat) (hi : i < l.length + 1) (hf : f < 1) :
    appAt std l.length (nm l.reverse) (listAt 1 [.dv (.int .i64 name)]) i f = nm (c :: l).reverse i f := by
  obtain rfl : f = 0 := by omega
  simp only [appAt, nm, List.reverse_cons]
  by_cases h : i < l.length
  · rw [if_pos h]
    rw [List.getD_eq_getElem?_getD, List.getD_eq_getElem?_getD, List.getElem?_append_left (by simpa using h)]
  · obtain rfl : i = l.length := by omega
    rw [if_neg h]
    simp [std, listAt, lget, hc]

set_option maxHeartbeats 4000000 in
theorem ok_go1 (n : Nat) (GS : Nat → Nat → DV) (k : Nat) (GT : Nat → Nat → DV) (room : Int) (has : List Int → Bool) (p : Nat) (lm : Nat → Nat) (lg : Nat → Nat → Nat → DV) (lx : Nat → Nat → Int)
    (hl : ∀ j, j < p → ∀ i, i < lm j → lg j i 0 = .int .i64 (lx j i)) (hp : p ≤ maxN) (pu go ba : Int) (hpu : pu.toNat ≤ p) (h0 : 0 ≤ ba) (h1 : ba ≤ go) (h2 : go ≤ pu)
    (a0 a1 kd a3 en er : Int) (m : Nat) (g : Nat → Nat → DV) (x : Nat → Int) (hg : ∀ i, i < m → g i 0 = .int .i64 (x i)) (a7 : Int) (i' j' name : Int) (c : Nat) (hname : name = c)
    (pu' go' ba' : Int) (v : Bool) (hv : ((pu', go', ba'), v) = doesI room pu go ba kd en er (sameW (lm go.toNat) (lx go.toNat) m x)) (o : Option (List Nat)) (q : (List Int → Bool) → Prop) (hlen : ∀ l, o = some l → l.length < 1000)
    (hfrom : v = true → CallOK PR n_order_search_from [.ptr 0 0, .agg [.dv (.int .i64 i'), .dv (.int .i64 j')], .agg [.dv (.int .i64 pu'), .dv (.int .i64 go'), .dv (.int .i64 ba')]] (smem n GS k GT room has p fun j => .seq (lm j) 1 (lg j))
      (fromQ n GS k GT room p (fun j => .seq (lm j) 1 (lg j)) o q)) :
    CallOK PR n_order_search_from_c1 [.agg [.dv (.int .i64 a0), .dv (.int .i64 a1), .dv (.int .i64 kd), .dv (.int .i64 a3), .dv (.int .i64 en), .dv (.int .i64 er), .dv (.seq m 1 g), .dv (.int .i64 a7)],
        .agg [.dv (.int .i64 i'), .dv (.int .i64 j')], .dv (.int .i64 name), .ptr 3 0, .ptr 4 0] (cmem n GS k GT room p (fun j => .seq (lm j) 1 (lg j)) pu go ba has)
      fun r m => (∃ l has', v = true ∧ o = some l ∧ r = .tup [.vec 5, .dv (.bool true)] ∧ m = cmem n GS k GT room p (fun j => .seq (lm j) 1 (lg j)) pu go ba has' ++ [.vec (l.length + 1) 1 (nm (c :: l).reverse)]) ∨
        (∃ has', r = .tup [.junk, .dv (.bool false)] ∧ m = cmem n GS k GT room p (fun j => .seq (lm j) 1 (lg j)) pu go ba has' ∧ ((v = false ∧ has' = has) ∨ (v = true ∧ o = none ∧ q has'))) := by
  refine fn_walk2 mixed fn_order_search_from_c1 (Ent.refl _ _) fun A P hA hP Q hQ => ?_
  have hdoes := ok_does n GS k GT room has p lm lg lx hl hp pu go ba hpu h0 h1 h2 a0 a1 kd a3 en er m g x hg a7
  rw [← hv] at hdoes
  clear hl hpu h0 h1 h2 hg
  have eF : ∀ (u : SV) (rest : List (Chunk Ob)) (has' : List Int → Bool), ((v = false ∧ has' = has) ∨ (v = true ∧ o = none ∧ q has')) →
      Q (.tup [u, .dv (.bool false)]) (cmem n GS k GT room p (fun j => .seq (lm j) 1 (lg j)) pu go ba has' ++ rest) := by
    intro u rest has' h
    subst hQ
    exact ⟨.tup [.junk, .dv (.bool false)], cmem n GS k GT room p (fun j => .seq (lm j) 1 (lg j)) pu go ba has', (Ent.weak1 (.tup (.cons (.junk _) (.cons (.same _) .nil)))).trans
      (Ent.ren [0, 1, 2, 3, 4] rfl rfl ⟨⟨rfl, rfl, rfl, rfl, rfl, trivial⟩, rfl, ⟨rfl, rfl, fun _ _ _ _ => rfl⟩, ⟨rfl, trivial⟩, ⟨rfl, rfl, rfl, trivial⟩, trivial⟩ ⟨rfl, trivial⟩), .inr ⟨has', rfl, rfl, h⟩⟩
  have eT : ∀ (b0 b1 b2 b3 b4 : Chunk Ob) (l : List Nat) (at_ : Nat → Nat → SV) (N : Nat) (has' : List Int → Bool), v = true → o = some l → N = l.length + 1 → (∀ i f, i < l.length + 1 → f < 1 → at_ i f = nm (c :: l).reverse i f) →
      Q (.tup [.vec 10, .dv (.bool true)]) (cmem n GS k GT room p (fun j => .seq (lm j) 1 (lg j)) pu go ba has' ++ [b0, b1, b2, b3, b4, .vec N 1 at_]) := by
    intro b0 b1 b2 b3 b4 l at_ N has' h1 h2 h3 h4
    subst hQ h3
    refine ⟨.tup [.vec 5, .dv (.bool true)], cmem n GS k GT room p (fun j => .seq (lm j) 1 (lg j)) pu go ba has' ++ [(Chunk.vec (l.length + 1) 1 (nm (c :: l).reverse) : Chunk Ob)], Ent.ren (s' := ⟨[.tup [.vec 5, .dv (.bool true)]], cmem n GS k GT room p (fun j => .seq (lm j) 1 (lg j)) pu go ba has' ++ [(Chunk.vec (l.length + 1) 1 (nm (c :: l).reverse) : Chunk Ob)]⟩) [0, 1, 2, 3, 4, 10] rfl rfl ⟨⟨rfl, rfl, rfl, rfl, rfl, trivial⟩, rfl, ⟨rfl, rfl, fun _ _ _ _ => rfl⟩, ⟨rfl, trivial⟩, ⟨rfl, rfl, rfl, trivial⟩, ⟨rfl, rfl, fun i f hi hf => by
      show VLe _ (at_ i f) (nm (c :: l).reverse i f)
      rw [h4 i f hi hf]; rfl⟩, trivial⟩ ⟨rfl, trivial⟩, .inl ⟨l, has', h1, h2, rfl, rfl⟩⟩
  have eT2 : ∀ (b0 b1 b2 b3 : Chunk Ob) (l : List Nat) (at_ : Nat → Nat → SV) (N : Nat) (has' : List Int → Bool), v = true → o = some l → N = l.length + 1 → (∀ i f, i < l.length + 1 → f < 1 → at_ i f = nm (c :: l).reverse i f) →
      Q (.tup [.vec 9, .dv (.bool true)]) (cmem n GS k GT room p (fun j => .seq (lm j) 1 (lg j)) pu go ba has' ++ [b0, b1, b2, b3, .vec N 1 at_]) := by
    intro b0 b1 b2 b3 l at_ N has' h1 h2 h3 h4
    subst hQ h3
    refine ⟨.tup [.vec 5, .dv (.bool true)], cmem n GS k GT room p (fun j => .seq (lm j) 1 (lg j)) pu go ba has' ++ [(Chunk.vec (l.length + 1) 1 (nm (c :: l).reverse) : Chunk Ob)], Ent.ren (s' := ⟨[.tup [.vec 5, .dv (.bool true)]], cmem n GS k GT room p (fun j => .seq (lm j) 1 (lg j)) pu go ba has' ++ [(Chunk.vec (l.length + 1) 1 (nm (c :: l).reverse) : Chunk Ob)]⟩) [0, 1, 2, 3, 4, 9] rfl rfl ⟨⟨rfl, rfl, rfl, rfl, rfl, trivial⟩, rfl, ⟨rfl, rfl, fun _ _ _ _ => rfl⟩, ⟨rfl, trivial⟩, ⟨rfl, rfl, rfl, trivial⟩, ⟨rfl, rfl, fun i f hi hf => by
      show VLe _ (at_ i f) (nm (c :: l).reverse i f)
      rw [h4 i f hi hf]; rfl⟩, trivial⟩ ⟨rfl, trivial⟩, .inl ⟨l, has', h1, h2, rfl, rfl⟩⟩
  clear hQ hv
  cbv
  refine call_at hP [0, 1, 2] code_order_search_does hdoes rfl ⟨⟨rfl, rfl, rfl, rfl, rfl, trivial⟩, rfl, ⟨rfl, rfl, fun _ _ _ _ => rfl⟩, trivial⟩ ⟨rfl, rfl, rfl, trivial⟩ ?_
  rintro _ _ ⟨⟨pu1, go1, ba1, v1, hdv, rfl⟩, rfl⟩ _
  simp only [Prod.mk.injEq] at hdv
  obtain ⟨⟨rfl, rfl, rfl⟩, rfl⟩ := hdv
  clear hdoes
  cbv
  refine bc_split (fun d1 => ?_) (fun d1 => ?_)
  · have e1 : v1 = false := by subst hA; simpa [std] using d1
    cbv
    exact eF _ _ has (.inl ⟨e1, rfl⟩)
  · have e1 : v1 = true := by subst hA; simpa [std] using d1
    cbv
    refine call_at hP [0, 1, 2] code_order_search_from (hfrom e1) rfl ⟨⟨rfl, rfl, rfl, rfl, rfl, trivial⟩, rfl, ⟨rfl, rfl, fun _ _ _ _ => rfl⟩, trivial⟩ ⟨rfl, rfl, rfl, trivial⟩ ?_
    rintro _ _ (⟨l, has', ho, rfl, rfl⟩ | ⟨has', ho, rfl, rfl, hq⟩ | ⟨has', ho, rfl, rfl⟩) _
    · have hroom : A.room (A.add l.length 1) 8 := by have := hlen l ho; subst hA; simp [std, maxN]; omega
      have hlen' : A.add l.length 1 = l.length + 1 := by subst hA; simp [std]
      have hat : ∀ i f, i < l.length + 1 → f < 1 → appAt A l.length (nm l.reverse) (listAt 1 [.dv (.int .i64 name)]) i f = nm (c :: l).reverse i f := by subst hA; exact nm_app l c name hname
      have hN1 : ∀ σ i f, renV σ (nm l.reverse i f) = nm l.reverse i f := fun _ _ _ => rfl
      generalize nm l.reverse = N1 at *
      generalize hL : l.length = L at *
      cbv
      refine ⟨hroom, ?_⟩
      cbv
      exact eT _ _ _ _ _ l _ _ has' e1 ho (by rw [hL]; exact hlen') (fun i f hi hf => by simp only [hN1]; rw [hL] at hi; exact hat i f hi hf)
    · have hroom : A.room 1 8 := by subst hA; simp [std, maxN]
      cbv
      refine ⟨hroom, ?_⟩
      cbv
      exact eF _ _ has' (.inr ⟨e1, ho, hq⟩)
    · have hroom : A.room 1 8 := by subst hA; simp [std, maxN]
      cbv
      refine ⟨hroom, ?_⟩
      cbv
      refine eT2 _ _ _ _ [] _ 1 has' e1 ho rfl (fun i f hi hf => ?_)
      obtain rfl : i = 0 := by simp at hi; omega
      obtain rfl : f = 0 := by omega
      show SV.dv (.int .i64 name) = nm [c] 0 0
      rw [hname]; rfl

end Go.Proofs.Ytophlodlencgiaa
