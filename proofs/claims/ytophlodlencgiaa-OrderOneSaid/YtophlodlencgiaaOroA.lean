/-
  Plain: calls one by one have one order at most: the one in which they were made.
-/
import Derived.Test.YtophlodlencgiaaOrdV
namespace Go.Proofs.Ytophlodlencgiaa
open Go.V
set_option linter.unusedVariables false
set_option linter.unusedSimpArgs false
set_option maxRecDepth 100000
set_option maxHeartbeats 8000000

section
variable {N : Nat} {GS : Nat → Nat → DV} {K : Nat} {GT : Nat → Nat → DV} (S : Ents N GS) (T : Ents K GT)

/-- Calls one by one: how many of each list there are ahead of a time, and which call there is at it (0 none, 1 a sent one, 2 a taken one). -/
structure Line (n : Nat) (a b : Nat → Nat) (ev : Nat → Nat) : Prop where
  a0 : a 0 = 0
  b0 : b 0 = 0
  an : a n = N
  bn : b n = K
  no : ∀ c, c < n → ev c = 0 → a (c + 1) = a c ∧ b (c + 1) = b c
  snd : ∀ c, c < n → ev c = 1 → a (c + 1) = a c + 1 ∧ b (c + 1) = b c ∧ a c < N ∧ S.be (a c) = 2 * c + 1 ∧ S.en (a c) = 2 * c + 2
  tkn : ∀ c, c < n → ev c = 2 → a (c + 1) = a c ∧ b (c + 1) = b c + 1 ∧ b c < K ∧ T.be (b c) = 2 * c + 1 ∧ T.en (b c) = 2 * c + 2
  kind : ∀ c, c < n → ev c = 0 ∨ ev c = 1 ∨ ev c = 2

variable {S T} {n : Nat} {a b : Nat → Nat} {ev : Nat → Nat}

theorem Line.step (h : Line S T n a b ev) {c : Nat} (hc : c < n) : a c ≤ a (c + 1) ∧ a (c + 1) ≤ a c + 1 ∧ b c ≤ b (c + 1) ∧ b (c + 1) ≤ b c + 1 := by
  rcases h.kind c hc with e | e | e
  · have := h.no c hc e; omega
  · have := h.snd c hc e; omega
  · have := h.tkn c hc e; omega

theorem Line.mono (h : Line S T n a b ev) : ∀ {d c : Nat}, c + d ≤ n → a c ≤ a (c + d) ∧ b c ≤ b (c + d)
  | 0, _, _ => ⟨Nat.le_refl _, Nat.le_refl _⟩
  | d + 1, c, hd => by
    have h1 := Line.mono h (d := d) (c := c) (by omega)
    have h2 := h.step (c := c + d) (by omega)
    rw [← Nat.add_assoc]
    omega

/-- The time of a sent call. -/
theorem Line.whenS (h : Line S T n a b ev) : ∀ d c, n - c = d → c ≤ n → ∀ i, a c ≤ i → i < N → ∃ c', c ≤ c' ∧ c' < n ∧ ev c' = 1 ∧ a c' = i
  | 0, c, hd, hc, i, h1, h2 => by
    obtain rfl : c = n := by omega
    rw [h.an] at h1; omega
  | d + 1, c, hd, hc, i, h1, h2 => by
    have hs := h.step (c := c) (by omega)
    by_cases he : a (c + 1) ≤ i
    · obtain ⟨c', k1, k2, k3, k4⟩ := Line.whenS h d (c + 1) (by omega) (by omega) i he h2
      exact ⟨c', by omega, k2, k3, k4⟩
    · have hev : ev c = 1 := by
        rcases h.kind c (by omega) with e | e | e
        · have := h.no c (by omega) e; omega
        · exact e
        · have := h.tkn c (by omega) e; omega
      exact ⟨c, Nat.le_refl _, by omega, hev, by omega⟩

theorem Line.whenT (h : Line S T n a b ev) : ∀ d c, n - c = d → c ≤ n → ∀ i, b c ≤ i → i < K → ∃ c', c ≤ c' ∧ c' < n ∧ ev c' = 2 ∧ b c' = i
  | 0, c, hd, hc, i, h1, h2 => by
    obtain rfl : c = n := by omega
    rw [h.bn] at h1; omega
  | d + 1, c, hd, hc, i, h1, h2 => by
    have hs := h.step (c := c) (by omega)
    by_cases he : b (c + 1) ≤ i
    · obtain ⟨c', k1, k2, k3, k4⟩ := Line.whenT h d (c + 1) (by omega) (by omega) i he h2
      exact ⟨c', by omega, k2, k3, k4⟩
    · have hev : ev c = 2 := by
        rcases h.kind c (by omega) with e | e | e
        · have := h.no c (by omega) e; omega
        · have := h.snd c (by omega) e; omega
        · exact e
      exact ⟨c, Nat.le_refl _, by omega, hev, by omega⟩

/-- Which of those that are left begin and end when. -/
theorem Line.leftS (h : Line S T n a b ev) {c : Nat} (hc : c ≤ n) {i : Nat} (h1 : a c ≤ i) (h2 : i < N) : 2 * (c : Int) + 1 ≤ S.be i ∧ 2 * (c : Int) + 2 ≤ S.en i := by
  obtain ⟨c', k1, k2, k3, rfl⟩ := h.whenS _ c rfl hc i h1 h2
  have := h.snd c' k2 k3
  omega

theorem Line.leftT (h : Line S T n a b ev) {c : Nat} (hc : c ≤ n) {i : Nat} (h1 : b c ≤ i) (h2 : i < K) : 2 * (c : Int) + 1 ≤ T.be i ∧ 2 * (c : Int) + 2 ≤ T.en i := by
  obtain ⟨c', k1, k2, k3, rfl⟩ := h.whenT _ c rfl hc i h1 h2
  have := h.tkn c' k2 k3
  omega

variable (room : Int)

theorem Line.goS_snd (h : Line S T n a b ev) {c : Nat} (hc : c < n) (he : ev c = 1) : goS S T room (a c) (b c) = (stS S T room (a c) (b c)).2 ∧ goT S T room (a c) (b c) = false := by
  obtain ⟨h1, h2, h3, h4, h5⟩ := h.snd c hc he
  refine ⟨?_, ?_⟩
  · rw [goS, decide_eq_true, Bool.true_and]
    refine ⟨h3, ?_, ?_⟩
    · rintro ⟨i, k1, k2, _, k4⟩
      have := h.leftT (c := c) (by omega) k1 k2
      omega
    · rintro ⟨i, k1, k2, _, k4⟩
      have := h.leftS (c := c + 1) (by omega) (by omega : a (c + 1) ≤ i) k2
      omega
  · rw [goT, Bool.and_eq_false_iff]
    left
    rw [decide_eq_false_iff_not]
    rintro ⟨k1, k2, _⟩
    have := h.leftT (c := c + 1) (by omega) (by omega : b (c + 1) ≤ b c) k1
    exact k2 ⟨a c, Nat.le_refl _, h3, by omega, by omega⟩

theorem Line.goT_tkn (h : Line S T n a b ev) {c : Nat} (hc : c < n) (he : ev c = 2) : goS S T room (a c) (b c) = false ∧ goT S T room (a c) (b c) = (stT S T room (a c) (b c)).2 := by
  obtain ⟨h1, h2, h3, h4, h5⟩ := h.tkn c hc he
  refine ⟨?_, ?_⟩
  · rw [goS, Bool.and_eq_false_iff]
    left
    rw [decide_eq_false_iff_not]
    rintro ⟨k1, k2, _⟩
    have := h.leftS (c := c + 1) (by omega) (by omega : a (c + 1) ≤ a c) k1
    exact k2 ⟨b c, Nat.le_refl _, h3, by omega, by omega⟩
  · rw [goT, decide_eq_true, Bool.true_and]
    refine ⟨h3, ?_, ?_⟩
    · rintro ⟨i, k1, k2, _, k4⟩
      have := h.leftS (c := c) (by omega) k1 k2
      omega
    · rintro ⟨i, k1, k2, _, k4⟩
      have := h.leftT (c := c + 1) (by omega) (by omega : b (c + 1) ≤ i) k2
      omega

theorem Line.le (h : Line S T n a b ev) {c : Nat} (hc : c ≤ n) : a c ≤ N ∧ b c ≤ K := by
  have := h.mono (d := n - c) (c := c) (by omega)
  rw [Nat.add_sub_cancel' hc, h.an, h.bn] at this
  exact this

theorem Line.not_done (h : Line S T n a b ev) {c : Nat} (hc : c < n) (he : ev c = 1 ∨ ev c = 2) : ¬ (S.done (a c) ∧ T.done (b c)) := by
  rintro ⟨d1, d2⟩
  rcases he with he | he
  · obtain ⟨_, _, h3, _, h5⟩ := h.snd c hc he
    rcases d1 with d | ⟨_, d⟩ <;> omega
  · obtain ⟨_, _, h3, _, h5⟩ := h.tkn c hc he
    rcases d2 with d | ⟨_, d⟩ <;> omega

/-- The names of the calls from a time on. -/
def namesF (N : Nat) (a b : Nat → Nat) (ev : Nat → Nat) : Nat → Nat → List Nat
  | 0, _ => []
  | d + 1, c => (if ev c = 1 then [a c] else if ev c = 2 then [N + b c] else []) ++ namesF N a b ev d (c + 1)

theorem Line.found (h : Line S T n a b ev) (ok : ∀ c, c < n → (ev c = 1 → (stS S T room (a c) (b c)).2 = true) ∧ (ev c = 2 → (stT S T room (a c) (b c)).2 = true)) :
    ∀ d c, n - c = d → c ≤ n → ord S T room (a c) (b c) = some (namesF N a b ev d c)
  | 0, c, hd, hc => by
    obtain rfl : c = n := by omega
    exact ord_done S T room ⟨.inl h.an, .inl h.bn⟩
  | d + 1, c, hd, hc => by
    have ih := Line.found h ok d (c + 1) (by omega) (by omega)
    have hle := h.le hc
    rcases h.kind c (by omega) with e | e | e
    · obtain ⟨h1, h2⟩ := h.no c (by omega) e
      rw [h1, h2] at ih
      simp only [namesF, e]
      exact ih
    · obtain ⟨h1, h2, _⟩ := h.snd c (by omega) e
      obtain ⟨g1, g2⟩ := h.goS_snd room (c := c) (by omega) e
      rw [h1, h2] at ih
      rw [ord_step S T room hle.1 hle.2 (h.not_done (by omega) (.inl e)), g1, (ok c (by omega)).1 e, if_pos rfl, ih]
      simp [namesF, e]
    · obtain ⟨h1, h2, _⟩ := h.tkn c (by omega) e
      obtain ⟨g1, g2⟩ := h.goT_tkn room (c := c) (by omega) e
      rw [h1, h2] at ih
      rw [ord_step S T room hle.1 hle.2 (h.not_done (by omega) (.inr e)), g1, g2, (ok c (by omega)).2 e, ih]
      simp [namesF, e]

/-- Where one call is not possible there is no order. -/
theorem Line.none (h : Line S T n a b ev) {c0 : Nat} (hc0 : c0 < n) (he0 : ev c0 = 1) (bad : (stS S T room (a c0) (b c0)).2 = false) :
    ∀ d c, c0 - c = d → c ≤ c0 → ord S T room (a c) (b c) = none
  | 0, c, hd, hc => by
    obtain rfl : c = c0 := by omega
    have hle := h.le (c := c) (by omega)
    obtain ⟨g1, g2⟩ := h.goS_snd room hc0 he0
    rw [ord_step S T room hle.1 hle.2 (h.not_done hc0 (.inl he0)), g1, bad, g2]
    rfl
  | d + 1, c, hd, hc => by
    have ih := Line.none h hc0 he0 bad d (c + 1) (by omega) (by omega)
    have hle := h.le (c := c) (by omega)
    rcases h.kind c (by omega) with e | e | e
    · obtain ⟨h1, h2⟩ := h.no c (by omega) e
      rw [h1, h2] at ih
      exact ih
    · obtain ⟨h1, h2, _⟩ := h.snd c (by omega) e
      obtain ⟨g1, g2⟩ := h.goS_snd room (c := c) (by omega) e
      rw [h1, h2] at ih
      rw [ord_step S T room hle.1 hle.2 (h.not_done (by omega) (.inl e)), g2, ih]
      split
      · rename_i e1
        split at e1 <;> cases e1
      · rfl
    · obtain ⟨h1, h2, _⟩ := h.tkn c (by omega) e
      obtain ⟨g1, g2⟩ := h.goT_tkn room (c := c) (by omega) e
      rw [h1, h2] at ih
      rw [ord_step S T room hle.1 hle.2 (h.not_done (by omega) (.inr e)), g1, ih]
      simp
end

end Go.Proofs.Ytophlodlencgiaa
