/-
  Plain: a word is of one of a core's channels.
-/
import Derived.Test.YtophlodlencgiaaDoorFFoeG
namespace Go.Proofs.YtophlodlencgiaaDoor
open Go.V

theorem fin_mine : ∀ c : Fin 9, ∀ core : Fin 8, ∀ q : Fin 56, 2 ≤ c.val → core.val < c.val → q.val < c.val * (c.val - 1) →
    (decide (fromI (c.val : Int) (q.val : Int) = (core.val : Int)) || decide (toI (c.val : Int) (q.val : Int) = (core.val : Int))) =
      (List.range 8).any fun k => decide (k < c.val ∧ k ≠ core.val ∧ ((q.val : Int) = idxI (c.val : Int) (core.val : Int) (k : Int) ∨ (q.val : Int) = idxI (c.val : Int) (k : Int) (core.val : Int))) := by decide +kernel

theorem fin_idx : ∀ c : Fin 9, ∀ f : Fin 8, ∀ t : Fin 8, f.val < c.val → t.val < c.val → f ≠ t → 0 ≤ idxI (c.val : Int) (f.val : Int) (t.val : Int) ∧ idxI (c.val : Int) (f.val : Int) (t.val : Int) < (c.val : Int) * ((c.val : Int) - 1) := by decide +kernel

theorem idx_range {c f t : Int} (hc : 2 ≤ c ∧ c ≤ 8) (hf : 0 ≤ f ∧ f < c) (ht : 0 ≤ t ∧ t < c) (hne : f ≠ t) : 0 ≤ idxI c f t ∧ idxI c f t < c * (c - 1) := by
  obtain ⟨c', rfl⟩ : ∃ n : Nat, c = n := ⟨c.toNat, by omega⟩
  obtain ⟨f', rfl⟩ : ∃ n : Nat, f = n := ⟨f.toNat, by omega⟩
  obtain ⟨t', rfl⟩ : ∃ n : Nat, t = n := ⟨t.toNat, by omega⟩
  exact fin_idx ⟨c', by omega⟩ ⟨f', by omega⟩ ⟨t', by omega⟩ (by simp only; omega) (by simp only; omega) (by intro h; have := congrArg Fin.val h; simp only at this; omega)

theorem base_bounds {c r b f t : Int} (hr : rightC c r b = true) (hof : ofI c r b f t = true) : 0 ≤ baseI c r f t ∧ baseI c r f t ≤ 39648 := by
  obtain ⟨v1, v2, _⟩ := right_vals hr
  simp only [ofI, Bool.and_eq_true, decide_eq_true_eq] at hof
  obtain ⟨_, h1, h2, h3, h4, h5⟩ := hof
  have hi := idx_range v1 ⟨h1, h2⟩ ⟨h3, h4⟩ h5
  have hp := pairs_bounds v1
  have sb := size_bounds v2
  obtain ⟨n, hn⟩ : ∃ n : Nat, idxI c f t = n := ⟨(idxI c f t).toNat, by omega⟩
  rw [baseI, hn]
  exact mul_bound (by omega) ⟨by omega, sb.2⟩

theorem in_base {m addr s : Int} (hs : 0 < s) : (m * s ≤ addr ∧ addr < m * s + s) ↔ addr / s = m := by
  constructor
  · rintro ⟨h1, h2⟩
    have h3 : m ≤ addr / s := (Int.le_ediv_iff_mul_le hs).2 h1
    have h4 : addr / s < m + 1 := (Int.ediv_lt_iff_lt_mul hs).2 (by rw [Int.add_mul]; omega)
    omega
  · rintro rfl
    have h1 := Int.emod_nonneg addr (show s ≠ 0 by omega)
    have h2 := Int.emod_lt_of_pos addr hs
    have h3 := Int.mul_ediv_add_emod addr s
    rw [Int.mul_comm] at h3
    omega

/-- A channel, of a core and another one, holds a word. -/
def hitI (c r b core addr : Int) (k : Nat) : Prop :=
  (ofI c r b core k = true ∧ baseI c r core k ≤ addr ∧ addr < baseI c r core k + sizeI r) ∨ (ofI c r b k core = true ∧ baseI c r k core ≤ addr ∧ addr < baseI c r k core + sizeI r)

theorem mine_iff {c r b core addr : Int} (hh : hasI c r b core = true) : mineI c r b core addr = true ↔ ∃ k : Nat, k < c.toNat ∧ hitI c r b core addr k := by
  have hr : rightC c r b = true := by simp only [hasI, Bool.and_eq_true] at hh; exact hh.1
  have hco : 0 ≤ core ∧ core < c := by simp only [hasI, Bool.and_eq_true, decide_eq_true_eq] at hh; exact hh.2
  obtain ⟨v1, v2, _⟩ := right_vals hr
  have sb := size_bounds v2
  have hof : ∀ k : Nat, k < c.toNat → ((ofI c r b core k = true ↔ (k : Int) ≠ core) ∧ (ofI c r b k core = true ↔ (k : Int) ≠ core)) := by
    intro k hk
    simp only [ofI, hr, Bool.true_and, decide_eq_true_eq]
    constructor <;> constructor <;> intro h <;> omega
  rcases Int.lt_or_le addr 0 with hneg | hpos
  · constructor
    · intro h
      simp only [mineI, Bool.and_eq_true, decide_eq_true_eq] at h
      omega
    · rintro ⟨k, hk, h⟩
      rcases h with ⟨h1, h2, _⟩ | ⟨h1, h2, _⟩
      · have := (base_bounds hr h1).1; omega
      · have := (base_bounds hr h1).1; omega
  · have hbase : ∀ f t : Int, (baseI c r f t ≤ addr ∧ addr < baseI c r f t + sizeI r) ↔ addr / sizeI r = idxI c f t := fun f t => in_base (by omega)
    have hhit : ∀ k : Nat, k < c.toNat → (hitI c r b core addr k ↔ (k : Int) ≠ core ∧ (addr / sizeI r = idxI c core k ∨ addr / sizeI r = idxI c k core)) := by
      intro k hk
      obtain ⟨o1, o2⟩ := hof k hk
      unfold hitI
      rw [o1, o2, hbase, hbase]
      constructor
      · rintro (⟨h1, h2⟩ | ⟨h1, h2⟩)
        · exact ⟨h1, .inl h2⟩
        · exact ⟨h1, .inr h2⟩
      · rintro ⟨h1, h2 | h2⟩
        · exact .inl ⟨h1, h2⟩
        · exact .inr ⟨h1, h2⟩
    have hq0 : 0 ≤ addr / sizeI r := Int.ediv_nonneg hpos (by omega)
    have hlt : addr < wordsI c r b ↔ addr / sizeI r < c * (c - 1) := by
      rw [wordsI, if_pos hr, Int.ediv_lt_iff_lt_mul (by omega)]
    have hmine : mineI c r b core addr = true ↔ addr / sizeI r < c * (c - 1) ∧ (fromI c (addr / sizeI r) = core ∨ toI c (addr / sizeI r) = core) := by
      simp only [mineI, hh, Bool.true_and, Bool.and_eq_true, Bool.or_eq_true, decide_eq_true_eq, hlt]
      constructor
      · rintro ⟨⟨_, h1⟩, h2⟩; exact ⟨h1, h2⟩
      · rintro ⟨h1, h2⟩; exact ⟨⟨hpos, h1⟩, h2⟩
    rw [hmine]
    have hp := pairs_bounds v1
    generalize addr / sizeI r = q at *
    obtain ⟨c', rfl⟩ : ∃ n : Nat, c = n := ⟨c.toNat, by omega⟩
    obtain ⟨k', rfl⟩ : ∃ n : Nat, core = n := ⟨core.toNat, by omega⟩
    obtain ⟨q', rfl⟩ : ∃ n : Nat, q = n := ⟨q.toNat, by omega⟩
    have hcc : ((c' * (c' - 1) : Nat) : Int) = (c' : Int) * ((c' : Int) - 1) := by
      rw [Int.natCast_mul]; congr 1; omega
    constructor
    · rintro ⟨h1, h2⟩
      have hqn : q' < c' * (c' - 1) := by rw [← hcc] at h1; exact Int.ofNat_lt.1 h1
      have := fin_mine ⟨c', by omega⟩ ⟨k', by omega⟩ ⟨q', by omega⟩ (by simp only; omega) (by simp only; omega) hqn
      simp only at this
      have h3 : (decide (fromI (c' : Int) (q' : Int) = (k' : Int)) || decide (toI (c' : Int) (q' : Int) = (k' : Int))) = true := by simpa using h2
      rw [h3] at this
      obtain ⟨j, _, hj⟩ := List.any_eq_true.1 this.symm
      obtain ⟨j1, j2, j3⟩ := of_decide_eq_true hj
      exact ⟨j, by omega, (hhit j (by omega)).2 ⟨by omega, j3⟩⟩
    · rintro ⟨j, hj, hx⟩
      obtain ⟨j1, j2⟩ := (hhit j hj).1 hx
      have hr1 := idx_range (c := (c' : Int)) v1 hco ⟨Int.natCast_nonneg j, by omega⟩ (Ne.symm j1)
      have hr2 := idx_range (c := (c' : Int)) v1 ⟨Int.natCast_nonneg j, by omega⟩ hco j1
      have h1 : (q' : Int) < (c' : Int) * ((c' : Int) - 1) := by
        rcases j2 with h | h
        · rw [h]; exact hr1.2
        · rw [h]; exact hr2.2
      have hqn : q' < c' * (c' - 1) := by rw [← hcc] at h1; exact Int.ofNat_lt.1 h1
      have := fin_mine ⟨c', by omega⟩ ⟨k', by omega⟩ ⟨q', by omega⟩ (by simp only; omega) (by simp only; omega) hqn
      simp only at this
      refine ⟨h1, ?_⟩
      have h4 : (List.range 8).any (fun k => decide (k < c' ∧ k ≠ k' ∧ ((q' : Int) = idxI (c' : Int) (k' : Int) (k : Int) ∨ (q' : Int) = idxI (c' : Int) (k : Int) (k' : Int)))) = true :=
        List.any_eq_true.2 ⟨j, by simp; omega, decide_eq_true ⟨by omega, by omega, j2⟩⟩
      rw [h4] at this
      simpa using this

end Go.Proofs.YtophlodlencgiaaDoor
