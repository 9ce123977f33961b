/-
  Walks: whether a function is true of an entry; whether a call may come ahead of others.
-/
import Derived.Test.YtophlodlencgiaaOrdM
import Derived.Test.YtophlodlencgiaaTIr
namespace Go.Proofs.Ytophlodlencgiaa
open Go.V

/-- The same words. -/
def sameW (n : Nat) (x : Nat → Int) (m : Nat) (y : Nat → Int) : Bool := decide (n = m) && (List.range n).all fun i => decide (x i = y i)

theorem sameW_iff {n m : Nat} {x y : Nat → Int} : sameW n x m y = true ↔ n = m ∧ ∀ i, i < n → x i = y i := by
  simp [sameW]

theorem ok_Same (n : Nat) (g : Nat → Nat → DV) (x : Nat → Int) (hg : ∀ i, i < n → g i 0 = .int .i64 (x i)) (m : Nat) (h : Nat → Nat → DV) (y : Nat → Int) (hh : ∀ i, i < m → h i 0 = .int .i64 (y i)) :
    CallOK (O := Ob) PR n_ref03_Same [.dv (.seq n 1 g), .dv (.seq m 1 h)] [] fun r k => (∃ v, v = sameW n x m y ∧ r = .dv (.bool v)) ∧ k = [] := by
  refine fn_walk mixed fn_ref03_Same fun A P hA hP Q hQ => ?_
  cbv
  intro hn
  cbv
  intro hm
  cbv
  refine bc_split (fun h1 => ?_) (fun h1 => ?_)
  · cbv
    subst hQ hA
    refine ⟨⟨_, ?_, rfl⟩, rfl⟩
    symm
    rw [← Bool.not_eq_true, sameW_iff]
    rintro ⟨rfl, _⟩
    simp at h1
  · cbv
    obtain rfl : n = m := by subst hA; simp at h1; omega
    refine loop_at mixed hP hA (fun i : { i : Nat // i ≤ n ∧ ∀ j, j < i → x j = y j } => ⟨envOf 26 [(0, .dv (.seq n 1 g)), (1, .dv (.seq n 1 h)), (5, .dv (.int .i64 (A.ofN i.1)))], []⟩) (fun i => n - i.1) ⟨0, Nat.zero_le _, fun j hj => absurd hj (Nat.not_lt_zero j)⟩ (Ent.env (by cbv; subst hA; simp)) ?_
    rintro ⟨i, hi, he⟩
    cbv
    intro _
    cbv
    refine bc_split (fun h1 => ?_) (fun h1 => ?_)
    · cbv
      have h2 : i < n := by subst hA; simpa using h1
      refine ⟨by subst hA; simp; omega, fun k hk hk2 => ?_⟩
      obtain rfl : k = i := by subst hA; simpa using hk
      cbv
      rw [hg k hk2]
      cbv
      refine ⟨by subst hA; simp; omega, fun l hl hl2 => ?_⟩
      obtain rfl : l = k := by subst hA; simpa using hl
      cbv
      rw [hh l hl2]
      cbv
      refine bc_split (fun h3 => ?_) (fun h3 => ?_)
      · cbv
        subst hQ hA
        refine ⟨⟨_, ?_, rfl⟩, rfl⟩
        symm
        rw [← Bool.not_eq_true, sameW_iff]
        rintro ⟨_, h4⟩
        have := h4 l h2
        simp [this] at h3
      · cbv
        refine ⟨⟨l + 1, h2, ?_⟩, by simp only; omega, Ent.env ?_⟩
        · exact below_succ he (by subst hA; simpa using h3)
        · cbv
          subst hA
          simp
          have : n ≤ 17592186044416 := hn
          rw [w64_in (by omega)]
    · cbv
      have h2 : i = n := by subst hA; simp at h1; omega
      subst hQ hA
      refine ⟨⟨_, ?_, rfl⟩, rfl⟩
      symm
      rw [sameW_iff]
      exact ⟨rfl, fun j hj => he j (by omega)⟩

end Go.Proofs.Ytophlodlencgiaa

namespace Go.Proofs.Ytophlodlencgiaa
open Go.V

theorem ok_Equal (n : Nat) (g : Nat → Nat → DV) (x : Nat → Int) (hg : ∀ i, i < n → g i 0 = .int .i64 (x i)) (m : Nat) (h : Nat → Nat → DV) (y : Nat → Int) (hh : ∀ i, i < m → h i 0 = .int .i64 (y i)) :
    CallOK (O := Ob) PR n_slices_Equal_Sint_int [.dv (.seq n 1 g), .dv (.seq m 1 h)] [] fun r k => (∃ v, v = sameW n x m y ∧ r = .dv (.bool v)) ∧ k = [] := by
  refine CallOK.drop (fn_walk mixed fn_slices_Equal_Sint_int fun A P hA hP Q hQ => ?_)
  cbv
  intro hn
  cbv
  intro hm
  cbv
  refine bc_split (fun h1 => ?_) (fun h1 => ?_)
  · cbv
    subst hQ hA
    refine ⟨.dv (.bool false), rfl, false, ?_, rfl⟩
    symm
    rw [← Bool.not_eq_true, sameW_iff]
    rintro ⟨rfl, _⟩
    simp at h1
  · cbv
    obtain rfl : n = m := by subst hA; simp at h1; omega
    intro _
    cbv
    refine loop_at mixed hP hA (fun i : { i : Nat // i ≤ n ∧ ∀ j, j < i → x j = y j } => ⟨envOf 26 [(0, .dv (.seq n 1 g)), (1, .dv (.seq n 1 h)), (12, .dv (.int .i64 (A.ofN n))), (13, .dv (.int .i64 (A.ofN i.1)))], []⟩) (fun i => n - i.1) ⟨0, Nat.zero_le _, fun j hj => absurd hj (Nat.not_lt_zero j)⟩ (Ent.env (by cbv; subst hA; simp)) ?_
    rintro ⟨i, hi, he⟩
    cbv
    refine bc_split (fun h1 => ?_) (fun h1 => ?_)
    · cbv
      have h2 : i < n := by subst hA; simpa using h1
      refine ⟨by subst hA; simp; omega, fun k hk hk2 => ?_⟩
      obtain rfl : k = i := by subst hA; simpa using hk
      have q7 : A.bin .add .i64 (A.ofN k) 1 = A.ofN (k + 1) := by subst hA; simp; have : n ≤ 17592186044416 := hn; rw [w64_in (by omega)]
      cbv
      rw [hg k hk2]
      cbv
      refine ⟨by subst hA; simp; omega, fun l hl hl2 => ?_⟩
      obtain rfl : l = k := by subst hA; simpa using hl
      cbv
      rw [hh l hl2]
      cbv
      refine bc_split (fun h3 => ?_) (fun h3 => ?_)
      · cbv
        subst hQ hA
        refine ⟨.dv (.bool false), rfl, false, ?_, rfl⟩
        symm
        rw [← Bool.not_eq_true, sameW_iff]
        rintro ⟨_, hx⟩
        have := hx l hl2
        simp at h3
        exact h3 this
      · have e3 : x l = y l := by subst hA; simpa using h3
        cbv
        refine ⟨⟨l + 1, h2, below_succ he e3⟩, by simp only; omega, ?_⟩
        show Ent _ _ (⟨envOf 26 [(0, .dv (.seq n 1 g)), (1, .dv (.seq n 1 h)), (12, .dv (.int .i64 (A.ofN n))), (13, .dv (.int .i64 (A.ofN (l + 1))))], []⟩ : St Ob)
        rw [← q7]
        exact Ent.env (by cbv; all_goals trivial)
    · cbv
      have h3 : i = n := by subst hA; simp at h1; omega
      subst hQ hA
      exact ⟨.dv (.bool true), rfl, true, (sameW_iff.2 ⟨rfl, fun j hj => he j (by omega)⟩).symm, rfl⟩

/-- The first place at which something is true; -1: there is none. -/
theorem ok_Index (n : Nat) (g : Nat → Nat → DV) (x : Nat → Int) (hg : ∀ i, i < n → g i 0 = .int .i64 (x i)) (v : Int) :
    CallOK (O := Ob) PR n_slices_Index_Sint_int [.dv (.seq n 1 g), .dv (.int .i64 v)] [] fun r k => (∃ z, (0 ≤ z ↔ ∃ i, i < n ∧ x i = v) ∧ r = .dv (.int .i64 z)) ∧ k = [] := by
  refine CallOK.drop (fn_walk mixed fn_slices_Index_Sint_int fun A P hA hP Q hQ => ?_)
  cbv
  intro hn
  cbv
  refine loop_at mixed hP hA (fun i : { i : Nat // i ≤ n ∧ ∀ j, j < i → ¬ x j = v } => ⟨envOf 19 [(0, .dv (.seq n 1 g)), (1, .dv (.int .i64 v)), (7, .dv (.int .i64 (A.ofN n))), (8, .dv (.int .i64 (A.ofN i.1)))], []⟩) (fun i => n - i.1) ⟨0, Nat.zero_le _, fun j hj => absurd hj (Nat.not_lt_zero j)⟩ (Ent.env (by cbv; subst hA; simp)) ?_
  rintro ⟨i, hi, he⟩
  cbv
  refine bc_split (fun h1 => ?_) (fun h1 => ?_)
  · cbv
    have h2 : i < n := by subst hA; simpa using h1
    refine ⟨by subst hA; simp; omega, fun k hk hk2 => ?_⟩
    obtain rfl : k = i := by subst hA; simpa using hk
    have q7 : A.bin .add .i64 (A.ofN k) 1 = A.ofN (k + 1) := by subst hA; simp; have : n ≤ 17592186044416 := hn; rw [w64_in (by omega)]
    cbv
    rw [hg k hk2]
    cbv
    refine bc_split (fun h3 => ?_) (fun h3 => ?_)
    · cbv
      subst hQ hA
      refine ⟨.dv (.int .i64 (std.ofN k)), rfl, _, ?_, rfl⟩
      simp at h3
      exact ⟨fun _ => ⟨k, hk2, h3.symm⟩, fun _ => by simp⟩
    · have e3 : ¬ x k = v := by subst hA; simp at h3; exact fun h => h3 h.symm
      cbv
      refine ⟨⟨k + 1, h2, below_succ he e3⟩, by simp only; omega, ?_⟩
      show Ent _ _ (⟨envOf 19 [(0, .dv (.seq n 1 g)), (1, .dv (.int .i64 v)), (7, .dv (.int .i64 (A.ofN n))), (8, .dv (.int .i64 (A.ofN (k + 1))))], []⟩ : St Ob)
      rw [← q7]
      exact Ent.env (by cbv; all_goals trivial)
  · cbv
    have h3 : i = n := by subst hA; simp at h1; omega
    subst hQ hA
    refine ⟨.dv (.int .i64 (-1)), rfl, _, ?_, rfl⟩
    constructor
    · intro h; omega
    · rintro ⟨j, hj, hx⟩; exact (he j (by omega) hx).elim

theorem ok_Contains (n : Nat) (g : Nat → Nat → DV) (x : Nat → Int) (hg : ∀ i, i < n → g i 0 = .int .i64 (x i)) (v : Int) :
    CallOK (O := Ob) PR n_slices_Contains_Sint_int [.dv (.seq n 1 g), .dv (.int .i64 v)] [] fun r k => (∃ z, (z = true ↔ ∃ i, i < n ∧ x i = v) ∧ r = .dv (.bool z)) ∧ k = [] := by
  refine CallOK.drop (fn_walk mixed fn_slices_Contains_Sint_int fun A P hA hP Q hQ => ?_)
  cbv
  refine call_pure hP code_slices_Index_Sint_int (ok_Index n g x hg v) (by cbv; all_goals simp) ?_
  rintro _ ⟨z, hz, rfl⟩
  cbv
  subst hQ hA
  exact ⟨.dv (.bool (std.cmp .geq z 0)), rfl, _, by simpa using hz, rfl⟩

end Go.Proofs.Ytophlodlencgiaa

namespace Go.Proofs.Ytophlodlencgiaa
open Go.V

/-- The first place at which something is true; -1: there is none. -/
def firstI (n : Nat) (p : Nat → Prop) (z : Int) : Prop := (z = -1 ∧ ∀ i, i < n → ¬ p i) ∨ ∃ i : Nat, i < n ∧ z = i ∧ p i ∧ ∀ j, j < i → ¬ p j

theorem firstI_iff {n : Nat} {p : Nat → Prop} {z : Int} (h : firstI n p z) : 0 ≤ z ↔ ∃ i, i < n ∧ p i := by
  rcases h with ⟨rfl, h⟩ | ⟨i, hi, rfl, hp, _⟩
  · exact ⟨fun h0 => by omega, fun ⟨i, hi, hp⟩ => (h i hi hp).elim⟩
  · exact ⟨fun _ => ⟨i, hi, hp⟩, fun _ => by omega⟩

theorem renM_blk {ss : List Seg} (h : ∀ σ, renS σ ss = ss) (σ : List Nat) : renM σ [(.blk ss : Chunk Ob)] = [.blk ss] := by
  simp only [renM, renC, h]

theorem ok_IndexFunc (n : Nat) (G : Nat → Nat → DV) (c : FuncId) (hcode : codeFn PR c = true) (ss : List Seg) (hss : ∀ σ, SegsLe σ ss ss) (hrs : ∀ σ, renS σ ss = ss) (p : Nat → Prop)
    (hc : ∀ k, k < n → CallOK (O := Ob) PR c [.agg [.dv (G k 0), .dv (G k 1), .dv (G k 2), .dv (G k 3), .dv (G k 4), .dv (G k 5), .dv (G k 6), .dv (G k 7)], .ptr 0 0] [.blk ss] fun r m => (∃ v, (v = true ↔ p k) ∧ r = .dv (.bool v)) ∧ m = [.blk ss]) :
    CallOK (O := Ob) PR n_slices_IndexFunc_Sdiary_Entry_diary_Entry [.dv (.seq n 8 G), .fn c [.ptr 0 0]] [.blk ss] fun r m => (∃ z, firstI n p z ∧ r = .dv (.int .i64 z)) ∧ m = [.blk ss] := by
  refine fn_walk2 mixed fn_slices_IndexFunc_Sdiary_Entry_diary_Entry (Ent.refl _ _) fun A P hA hP Q hQ => ?_
  have eQ : ∀ z, firstI n p z → Q (.dv (.int .i64 z)) [.blk ss] := fun z hz => by
    subst hQ
    exact ⟨_, _, Ent.refl _ _, ⟨z, hz, rfl⟩, rfl⟩
  clear hQ
  cbv
  intro hn
  cbv
  refine loop_at mixed hP hA (fun i : { i : Nat // i ≤ n ∧ ∀ j, j < i → ¬ p j } => ⟨envOf 19 [(0, .dv (.seq n 8 G)), (1, .fn c [.ptr 0 0]), (7, .dv (.int .i64 (A.ofN n))), (8, .dv (.int .i64 (A.ofN i.1)))], [.blk ss]⟩) (fun i => n - i.1) ⟨0, Nat.zero_le _, fun j hj => absurd hj (Nat.not_lt_zero j)⟩ (Ent.env (by cbv; subst hA; simp)) ?_
  rintro ⟨i, hi, he⟩
  cbv
  refine bc_split (fun h1 => ?_) (fun h1 => ?_)
  · cbv
    have h2 : i < n := by subst hA; simpa using h1
    refine ⟨by subst hA; simp; omega, fun k hk hk2 => ?_⟩
    obtain rfl : k = i := by subst hA; simpa using hk
    have q7 : A.bin .add .i64 (A.ofN k) 1 = A.ofN (k + 1) := by subst hA; simp; have : n ≤ 17592186044416 := hn; rw [w64_in (by omega)]
    have hfst : p k → firstI n p (A.ofN k) := fun hp => by subst hA; exact .inr ⟨k, h2, rfl, hp, he⟩
    cbv
    refine call_at hP [0] hcode (hc k hk2) rfl ⟨hss _, trivial⟩ ⟨rfl, rfl, trivial⟩ ?_
    rintro _ m ⟨⟨v, hv, rfl⟩, rfl⟩ _
    rw [renM_blk hrs]
    cbv
    refine bc_split (fun h3 => ?_) (fun h3 => ?_)
    · cbv
      exact eQ _ (hfst (hv.1 h3))
    · have h4 : ¬ p k := fun h => by rw [hv.2 h] at h3; cases h3
      cbv
      refine ⟨⟨k + 1, h2, below_succ he h4⟩, by simp only; omega, ?_⟩
      show Ent _ _ (⟨envOf 19 [(0, .dv (.seq n 8 G)), (1, .fn c [.ptr 0 0]), (7, .dv (.int .i64 (A.ofN n))), (8, .dv (.int .i64 (A.ofN (k + 1))))], [.blk ss]⟩ : St Ob)
      rw [← q7]
      exact Ent.env (by cbv; all_goals trivial)
  · cbv
    have h3 : i = n := by subst hA; simp at h1; omega
    exact eQ (-1) (.inl ⟨rfl, fun j hj => he j (by omega)⟩)

theorem ok_ContainsFunc (n : Nat) (G : Nat → Nat → DV) (c : FuncId) (hcode : codeFn PR c = true) (ss : List Seg) (hss : ∀ σ, SegsLe σ ss ss) (hrs : ∀ σ, renS σ ss = ss) (p : Nat → Prop)
    (hc : ∀ k, k < n → CallOK (O := Ob) PR c [.agg [.dv (G k 0), .dv (G k 1), .dv (G k 2), .dv (G k 3), .dv (G k 4), .dv (G k 5), .dv (G k 6), .dv (G k 7)], .ptr 0 0] [.blk ss] fun r m => (∃ v, (v = true ↔ p k) ∧ r = .dv (.bool v)) ∧ m = [.blk ss]) :
    CallOK (O := Ob) PR n_slices_ContainsFunc_Sdiary_Entry_diary_Entry [.dv (.seq n 8 G), .fn c [.ptr 0 0]] [.blk ss] fun r m => (∃ z, (z = true ↔ ∃ i, i < n ∧ p i) ∧ r = .dv (.bool z)) ∧ m = [.blk ss] := by
  refine fn_walk2 mixed fn_slices_ContainsFunc_Sdiary_Entry_diary_Entry (Ent.refl _ _) fun A P hA hP Q hQ => ?_
  cbv
  refine call_at hP [0] code_slices_IndexFunc_Sdiary_Entry_diary_Entry (ok_IndexFunc n G c hcode ss hss hrs p hc) rfl ⟨hss _, trivial⟩ ⟨rfl, rfl, trivial⟩ ?_
  rintro _ m ⟨⟨z, hz, rfl⟩, rfl⟩ _
  rw [renM_blk hrs]
  cbv
  subst hQ hA
  exact ⟨.dv (.bool (std.cmp .geq z 0)), _, Ent.refl _ _, ⟨_, by rw [← firstI_iff hz]; simp, rfl⟩, rfl⟩

/-- The box of an entry. -/
def ebox (a0 a1 a2 a3 a4 a5 : Int) (m : Nat) (g : Nat → Nat → DV) (a7 : Int) : List Seg :=
  [.one (.dv (.int .i64 a0)), .one (.dv (.int .i64 a1)), .one (.dv (.int .i64 a2)), .one (.dv (.int .i64 a3)), .one (.dv (.int .i64 a4)), .one (.dv (.int .i64 a5)), .one (.dv (.seq m 1 g)), .one (.dv (.int .i64 a7))]

theorem ok_free_c1 (b0 b1 b2 b3 b4 b5 : Int) (mb : Nat) (gb : Nat → Nat → DV) (b7 : Int) (a0 a1 a2 a3 a4 a5 : Int) (m : Nat) (g : Nat → Nat → DV) (a7 : Int) :
    CallOK (O := Ob) PR n_order_free_c1 [.agg [.dv (.int .i64 b0), .dv (.int .i64 b1), .dv (.int .i64 b2), .dv (.int .i64 b3), .dv (.int .i64 b4), .dv (.int .i64 b5), .dv (.seq mb 1 gb), .dv (.int .i64 b7)], .ptr 0 0] [.blk (ebox a0 a1 a2 a3 a4 a5 m g a7)]
      fun r k => (∃ v, (v = true ↔ b4 ≠ 0 ∧ b4 < a3) ∧ r = .dv (.bool v)) ∧ k = [.blk (ebox a0 a1 a2 a3 a4 a5 m g a7)] := by
  refine fn_walk2 mixed fn_order_free_c1 (Ent.refl _ _) fun A P hA hP Q hQ => ?_
  have eQ : ∀ (v : Bool) (c : Chunk Ob), (v = true ↔ b4 ≠ 0 ∧ b4 < a3) → Q (.dv (.bool v)) [.blk (ebox a0 a1 a2 a3 a4 a5 m g a7), c] := fun v c hv => by
    subst hQ
    exact ⟨.dv (.bool v), [.blk (ebox a0 a1 a2 a3 a4 a5 m g a7)], Ent.ren [0] rfl rfl ⟨⟨rfl, rfl, rfl, rfl, rfl, rfl, rfl, rfl, trivial⟩, trivial⟩ ⟨rfl, trivial⟩, ⟨v, hv, rfl⟩, rfl⟩
  clear hQ
  cbv
  refine bc_split (fun h1 => ?_) (fun h1 => ?_)
  · have f1 : b4 ≠ 0 := by subst hA; simpa using h1
    cbv
    exact eQ _ _ (by subst hA; simp [f1])
  · have f1 : b4 = 0 := by subst hA; simpa using h1
    cbv
    exact eQ _ _ (by simp [f1])

theorem segsLe_ebox {σ : List Nat} {a0 a1 a2 a3 a4 a5 : Int} {m : Nat} {g : Nat → Nat → DV} {a7 : Int} : SegsLe σ (ebox a0 a1 a2 a3 a4 a5 m g a7) (ebox a0 a1 a2 a3 a4 a5 m g a7) :=
  ⟨rfl, rfl, rfl, rfl, rfl, rfl, rfl, rfl, trivial⟩

theorem ok_free {n : Nat} {G : Nat → Nat → DV} (S : Ents n G) (a : Nat) (ha : a ≤ n) (z : Int) (hz : z = a) (a0 a1 a2 a3 a4 a5 : Int) (m : Nat) (g : Nat → Nat → DV) (a7 : Int) :
    CallOK (O := Ob) PR n_order_free [.dv (.seq n 8 G), .dv (.int .i64 z), .agg [.dv (.int .i64 a0), .dv (.int .i64 a1), .dv (.int .i64 a2), .dv (.int .i64 a3), .dv (.int .i64 a4), .dv (.int .i64 a5), .dv (.seq m 1 g), .dv (.int .i64 a7)]] []
      fun r k => (∃ v, (v = true ↔ ¬ S.late a a3) ∧ r = .dv (.bool v)) ∧ k = [] := by
  refine CallOK.drop (fn_walk mixed fn_order_free fun A P hA hP Q hQ => ?_)
  have e1 : (DV.seq (A.sub (A.toN (A.ofN n)) (A.toN z)) 8 fun i => G (A.add (A.toN z) i)) = .seq (n - a) 8 fun i => G (a + i) := by subst hA; simp [std, hz]
  have hb : A.slb z (A.ofN n) (A.ofN n) (A.ofN n) := by subst hA; simp [std]; omega
  have hc : ∀ k, k < n - a → CallOK (O := Ob) PR n_order_free_c1 [.agg [.dv (G (a + k) 0), .dv (G (a + k) 1), .dv (G (a + k) 2), .dv (G (a + k) 3), .dv (G (a + k) 4), .dv (G (a + k) 5), .dv (G (a + k) 6), .dv (G (a + k) 7)], .ptr 0 0] [.blk (ebox a0 a1 a2 a3 a4 a5 m g a7)]
      fun r k' => (∃ v, (v = true ↔ S.en (a + k) ≠ 0 ∧ S.en (a + k) < a3) ∧ r = .dv (.bool v)) ∧ k' = [.blk (ebox a0 a1 a2 a3 a4 a5 m g a7)] := by
    intro k hk
    rw [S.h0 _ (by omega), S.h1 _ (by omega), S.h2 _ (by omega), S.h3 _ (by omega), S.h4 _ (by omega), S.h5 _ (by omega), S.h6 _ (by omega), S.h7 _ (by omega)]
    exact ok_free_c1 _ _ _ _ _ _ _ _ _ _ _ _ _ _ _ _ _ _
  have hcall := ok_ContainsFunc (n - a) (fun i => G (a + i)) n_order_free_c1 code_order_free_c1 (ebox a0 a1 a2 a3 a4 a5 m g a7) (fun _ => segsLe_ebox) (fun _ => rfl) _ hc
  have hl : (∃ i, i < n - a ∧ S.en (a + i) ≠ 0 ∧ S.en (a + i) < a3) ↔ S.late a a3 := by
    constructor
    · rintro ⟨i, hi, h⟩; exact ⟨a + i, by omega, by omega, h⟩
    · rintro ⟨i, h1, h2, h⟩
      obtain ⟨j, rfl⟩ : ∃ j, i = a + j := ⟨i - a, by omega⟩
      exact ⟨j, by omega, h⟩
  rw [hl] at hcall
  generalize S.late a a3 = L at *
  clear hl hc
  generalize n - a = k at *
  generalize (fun i => G (a + i)) = G' at *
  cbv
  refine ⟨hb, ?_⟩
  rw [e1]
  cbv
  refine call_at hP [0] code_slices_ContainsFunc_Sdiary_Entry_diary_Entry hcall rfl ⟨segsLe_ebox, trivial⟩ ⟨rfl, rfl, trivial⟩ ?_
  rintro _ m' ⟨⟨v, hv, rfl⟩, rfl⟩ _
  cbv
  subst hQ hA
  exact ⟨.dv (.bool (std.bnot v)), rfl, _, by rw [← hv]; simp [std], rfl⟩

theorem ok_done {n : Nat} {G : Nat → Nat → DV} (S : Ents n G) (a : Nat) (ha : a ≤ n) (z : Int) (hz : z = a) :
    CallOK (O := Ob) PR n_order_done [.dv (.seq n 8 G), .dv (.int .i64 z)] [] fun r k => (∃ v, (v = true ↔ S.done a) ∧ r = .dv (.bool v)) ∧ k = [] := by
  refine CallOK.drop (fn_walk mixed fn_order_done fun A P hA hP Q hQ => ?_)
  have eQ : ∀ (v : Bool) m, (v = true ↔ S.done a) → Q (.dv (.bool v)) m := fun v m hv => by
    subst hQ; exact ⟨.dv (.bool v), rfl, v, hv, rfl⟩
  clear hQ
  have z0 : 0 ≤ z := by omega
  have z1 : a = z.toNat := by omega
  clear hz
  cbv
  intro hN
  have hN' : n ≤ 17592186044416 := hN
  cbv
  refine bc_split (fun h1 => ?_) (fun h1 => ?_)
  · have f1 : a = n := by subst hA; simp at h1; omega
    cbv
    exact eQ true _ (by simp [Ents.done, f1])
  have f1 : ¬ a = n := by subst hA; simp at h1; omega
  cbv
  intro _
  cbv
  refine bc_split (fun h2 => ?_) (fun h2 => ?_)
  · have f2 : a + 1 = n := by subst hA; simp at h2; rw [w64_in (by omega)] at h2; omega
    cbv
    refine ⟨by subst hA; simp; omega, fun k hk hk2 => ?_⟩
    obtain rfl : k = a := by subst hA; simp at hk; omega
    cbv
    rw [S.h4 k hk2]
    cbv
    exact eQ _ _ (by subst hA; simp [Ents.done, f1, f2])
  · have f2 : ¬ a + 1 = n := by subst hA; simp at h2; rw [w64_in (by omega)] at h2; omega
    cbv
    exact eQ false _ (by simp [Ents.done, f1, f2])

end Go.Proofs.Ytophlodlencgiaa
