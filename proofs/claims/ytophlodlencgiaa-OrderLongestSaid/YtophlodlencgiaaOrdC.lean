/-
  Walks: what a call does to the counts.
-/
import Derived.Test.YtophlodlencgiaaOrdB
namespace Go.Proofs.Ytophlodlencgiaa
open Go.V

/-- What a call does to the counts; whether it is possible. -/
def doesI (room pu go ba kd en er : Int) (same : Bool) : (Int × Int × Int) × Bool :=
  if kd = 1 ∧ (en = 0 ∨ er = 0) then ((pu + 1, go, ba), decide (pu + 1 - ba ≤ room))
  else if kd = 1 ∧ er = 5 then ((pu, go, ba), decide (pu - ba = room))
  else if kd = 2 ∧ (en = 0 ∨ er = 0) then ((pu, go + 1, ba), decide (go + 1 ≤ pu) && (decide (en = 0) || same))
  else if kd = 2 ∧ er = 6 then ((pu, go, ba), decide (go = pu))
  else if kd = 3 ∧ (en = 0 ∨ er = 0) then ((pu, go, ba + 1), decide (ba + 1 ≤ go))
  else ((pu, go, ba), true)

def sblk (n : Nat) (GS : Nat → Nat → DV) (k : Nat) (GT : Nat → Nat → DV) (room : Int) : List Seg :=
  [.one (.dv (.seq n 8 GS)), .one (.dv (.seq k 8 GT)), .one (.dv (.int .i64 room)), .one (.vec 2), .one (.mp 1)]

/-- What an order is looked for in. -/
def smem (n : Nat) (GS : Nat → Nat → DV) (k : Nat) (GT : Nat → Nat → DV) (room : Int) (has : List Int → Bool) (p : Nat) (L : Nat → DV) : List (Chunk Ob) :=
  [.blk (sblk n GS k GT room), .mset 2 has, .vec p 1 (fun j _ => .dv (L j))]

set_option maxHeartbeats 4000000 in
theorem ok_does (n : Nat) (GS : Nat → Nat → DV) (k : Nat) (GT : Nat → Nat → DV) (room : Int) (has : List Int → Bool) (p : Nat) (lm : Nat → Nat) (lg : Nat → Nat → Nat → DV) (lx : Nat → Nat → Int)
    (hl : ∀ j, j < p → ∀ i, i < lm j → lg j i 0 = .int .i64 (lx j i)) (hp : p ≤ maxN) (pu go ba : Int) (hpu : pu.toNat ≤ p) (h0 : 0 ≤ ba) (h1 : ba ≤ go) (h2 : go ≤ pu)
    (a0 a1 kd a3 en er : Int) (m : Nat) (g : Nat → Nat → DV) (x : Nat → Int) (hg : ∀ i, i < m → g i 0 = .int .i64 (x i)) (a7 : Int) :
    CallOK (O := Ob) PR n_order_search_does [.ptr 0 0, .agg [.dv (.int .i64 pu), .dv (.int .i64 go), .dv (.int .i64 ba)],
      .agg [.dv (.int .i64 a0), .dv (.int .i64 a1), .dv (.int .i64 kd), .dv (.int .i64 a3), .dv (.int .i64 en), .dv (.int .i64 er), .dv (.seq m 1 g), .dv (.int .i64 a7)]] (smem n GS k GT room has p fun j => .seq (lm j) 1 (lg j))
      fun r mem => (∃ pu' go' ba' v, ((pu', go', ba'), v) = doesI room pu go ba kd en er (sameW (lm go.toNat) (lx go.toNat) m x) ∧ r = .tup [.agg [.dv (.int .i64 pu'), .dv (.int .i64 go'), .dv (.int .i64 ba')], .dv (.bool v)]) ∧
        mem = smem n GS k GT room has p fun j => .seq (lm j) 1 (lg j) := by
  have hp' : p ≤ 17592186044416 := hp
  clear hp
  refine fn_walk2 mixed fn_order_search_does (Ent.refl _ _) fun A P hA hP Q hQ => ?_
  have q1 : A.bin .add .i64 pu 1 = pu + 1 := by subst hA; simp; rw [w64_in (by omega)]
  have q2 : A.bin .add .i64 go 1 = go + 1 := by subst hA; simp; rw [w64_in (by omega)]
  have q3 : A.bin .add .i64 ba 1 = ba + 1 := by subst hA; simp; rw [w64_in (by omega)]
  have q4 : A.bin .sub .i64 (pu + 1) ba = pu + 1 - ba := by subst hA; simp; rw [w64_in (by omega)]
  have q5 : A.bin .sub .i64 pu ba = pu - ba := by subst hA; simp; rw [w64_in (by omega)]
  have q6 : A.bin .sub .i64 (go + 1) 1 = go := by subst hA; simp; rw [w64_in (by omega)]
  generalize hs : sameW (lm go.toNat) (lx go.toNat) m x = same at hQ
  have eQ : ∀ (pu' go' ba' : Int) (v : Bool) (c1 c2 c3 : Chunk Ob), ((pu', go', ba'), v) = doesI room pu go ba kd en er same →
      Q (.tup [.agg [.dv (.int .i64 pu'), .dv (.int .i64 go'), .dv (.int .i64 ba')], .dv (.bool v)]) (smem n GS k GT room has p (fun j => .seq (lm j) 1 (lg j)) ++ [c1, c2, c3]) := by
    intro pu' go' ba' v c1 c2 c3 h
    subst hQ
    exact ⟨.tup [.agg [.dv (.int .i64 pu'), .dv (.int .i64 go'), .dv (.int .i64 ba')], .dv (.bool v)], smem n GS k GT room has p (fun j => .seq (lm j) 1 (lg j)), Ent.ren [0, 1, 2] rfl rfl ⟨⟨rfl, rfl, rfl, rfl, rfl, trivial⟩, rfl, ⟨rfl, rfl, fun _ _ _ _ => rfl⟩, trivial⟩ ⟨rfl, trivial⟩, ⟨pu', go', ba', v, h, rfl⟩, rfl⟩
  clear hQ
  cbv
  repeat' first
    | (refine bc_true (by assumption) ?_; cbv)
    | (refine bc_false (by assumption) ?_; cbv)
    | (refine bc_split (fun h => ?_) (fun h => ?_) <;> cbv)
    | (refine Chk.mk trivial ?_; cbv)
  all_goals first
    | (refine eQ _ _ _ _ _ _ _ ?_; (try simp only [q1, q2, q3, q4, q5] at h ⊢); subst hA; simp_all [doesI]; done)
    | (exfalso; subst hA; simp_all; done)
    | skip
  · rename_i e2 e3 e4 e5
    have q26 : A.bin .sub .i64 (A.bin .add .i64 go 1) 1 = go := by rw [q2, q6]
    have e6 : go + 1 ≤ pu := by rw [q2] at h; subst hA; simpa using h
    refine ⟨?_, fun j hj hj2 => ?_⟩
    · show A.inb (A.bin .sub .i64 (A.bin .add .i64 go 1) 1) p
      rw [q26]; subst hA; simp; omega
    have hj' : go.toNat = j := by
      have hj : j = A.toN (A.bin .sub .i64 (A.bin .add .i64 go 1) 1) := hj
      rw [q26] at hj; subst hA; simp at hj; exact hj.symm
    rw [hj'] at hs
    clear hj
    cbv
    refine call_pure hP code_slices_Equal_Sint_int (ok_Equal (lm j) (lg j) (lx j) (hl j hj2) m g x hg) (by cbv; all_goals simp) ?_
    rintro _ ⟨v, hv, rfl⟩
    rw [hs] at hv
    subst hv
    cbv
    repeat (refine Chk.mk trivial ?_; cbv)
    refine eQ _ _ _ _ _ _ _ ?_
    simp only [q2]
    subst hA
    simp_all [doesI]
  · rename_i e2 e3 e4 e5
    have e6 : ¬ go + 1 ≤ pu := by rw [q2] at h; subst hA; simpa using h
    clear h
    refine eQ _ _ _ _ _ _ _ ?_
    simp only [q2]
    subst hA
    simp_all [doesI]
    intro hh; omega

end Go.Proofs.Ytophlodlencgiaa
