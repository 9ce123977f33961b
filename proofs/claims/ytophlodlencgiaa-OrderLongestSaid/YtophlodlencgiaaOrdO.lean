/-
  Walks: the order that is found by trying all, by the document.
-/
import Derived.Test.YtophlodlencgiaaOrdN
namespace Go.Proofs.Ytophlodlencgiaa
open Go.V
set_option linter.unusedVariables false
set_option linter.unusedSimpArgs false

/-- What is told of an order that is looked for. -/
def goesQ (o : Option (List Nat)) (r : SV) : Prop := ∃ (q : Nat) (lg : Nat → Nat → DV) (b : Bool), r = .tup [.dv (.seq q 1 lg), .dv (.bool b)] ∧
  (b = true → ∃ l : List Nat, o = some l ∧ l.length = q ∧ ∀ y, y < q → lg y 0 = .int .i64 ((l.getD y 0 : Nat) : Int)) ∧ (b = false → o = none ∧ q = 0)

theorem goesQ_nil {o : Option (List Nat)} {b : Bool} (h : (b = true ∧ o = some []) ∨ (b = false ∧ o = none)) : goesQ o (.tup [.dv (.seq 0 1 fun _ _ => .nilp), .dv (.bool b)]) := by
  refine ⟨0, _, b, rfl, fun hb => ?_, fun hb => ?_⟩
  · rcases h with ⟨_, h⟩ | ⟨h, _⟩
    · exact ⟨[], h, rfl, fun y hy => absurd hy (Nat.not_lt_zero y)⟩
    · rw [h] at hb; cases hb
  · rcases h with ⟨h, _⟩ | ⟨_, h⟩
    · rw [h] at hb; cases hb
    · exact ⟨h, rfl⟩

theorem goesQ_app {n : Nat} {m : List (Chunk Ob)} {o : Option (List Nat)} (h : Nat) (z : Int) (q : Nat) (lg : Nat → Nat → DV) {N : Nat} {at_ : Nat → Nat → SV} (hget : lget m h = some (.vec N 1 at_)) (hN : N = q + 1)
    (hat : ∀ y, y < q + 1 → at_ y 0 = if y < 1 then .dv (.int .i64 z) else .dv (lg (y - 1) 0)) (c : Nat) (hz : z = c) (l : List Nat) (hl : l.length = q) (hlg : ∀ y, y < q → lg y 0 = .int .i64 ((l.getD y 0 : Nat) : Int)) (ho : o = some (c :: l)) (hn : n = 0) :
    ∃ r' m', Ent n ⟨[.tup [.vec h, .dv (.bool true)]], m⟩ ⟨[r'], m'⟩ ∧ (goesQ o r' ∧ m' = []) := by
  subst hN hz ho
  refine leaf_frz (Q := fun r' m' => goesQ (some (c :: l)) r' ∧ m' = []) h (fun y _ => .int .i64 (((c :: l).getD y 0 : Nat) : Int)) hget (fun y f hy hf => ?_) (u := .tup [.dv (.seq (q + 1) 1 fun y _ => .int .i64 (((c :: l).getD y 0 : Nat) : Int)), .dv (.bool true)]) ?_ rfl hn ⟨⟨_, _, true, rfl, fun _ => ⟨c :: l, rfl, by simp [hl], fun y _ => rfl⟩, nofun⟩, rfl⟩
  · obtain rfl : f = 0 := by omega
    rw [hat y hy]
    cases y with
    | zero => rfl
    | succ y => rw [if_neg (by omega), Nat.add_sub_cancel, hlg y (by omega)]; rfl
  · have : Nat.beq h h = true := Nat.beq_refl h
    simp only [frzV, frzL, this]

/-- A list's entries from a place on. -/
structure Suf {n : Nat} {G : Nat → Nat → DV} (S : Ents n G) (i : Nat) {n' : Nat} {G' : Nat → Nat → DV} (S' : Ents n' G') : Prop where
  len : n' + i = n
  kd : ∀ x, x < n' → S'.kd x = S.kd (i + x)
  be : ∀ x, x < n' → S'.be x = S.be (i + x)
  en : ∀ x, x < n' → S'.en x = S.en (i + x)
  er : ∀ x, x < n' → S'.er x = S.er (i + x)
  m : ∀ x, x < n' → S'.m x = S.m (i + x)
  x : ∀ x, x < n' → ∀ y, y < S'.m x → S'.x x y = S.x (i + x) y

variable {n : Nat} {G : Nat → Nat → DV} {S : Ents n G} {i n' : Nat} {G' : Nat → Nat → DV} {S' : Ents n' G'}

theorem Suf.late (h : Suf S i S') (b : Int) : S'.late 0 b ↔ S.late i b := by
  have := h.len
  constructor
  · rintro ⟨x, _, h2, h3, h4⟩
    rw [h.en x h2] at h3 h4
    exact ⟨i + x, by omega, by omega, h3, h4⟩
  · rintro ⟨x, h1, h2, h3, h4⟩
    refine ⟨x - i, Nat.zero_le _, by omega, ?_⟩
    rw [h.en _ (by omega), show i + (x - i) = x by omega]
    exact ⟨h3, h4⟩

theorem Suf.one (h : Suf S i S') (h0 : 0 < n') {G1 : Nat → Nat → DV} (hG : ∀ x f, G1 x f = G' (1 + x) f) : ∃ S1 : Ents (n' - 1) G1, Suf S (i + 1) S1 := by
  have hl := h.len
  have e : G1 = fun x f => G' (1 + x) f := by funext x f; exact hG x f
  subst e
  refine ⟨S'.drop 1 (n' - 1) (by omega), ?_⟩
  constructor
  · omega
  · intro x hx; have := h.kd (1 + x) (by omega); simp only [Ents.drop]; rw [this]; congr 1; omega
  · intro x hx; have := h.be (1 + x) (by omega); simp only [Ents.drop]; rw [this]; congr 1; omega
  · intro x hx; have := h.en (1 + x) (by omega); simp only [Ents.drop]; rw [this]; congr 1; omega
  · intro x hx; have := h.er (1 + x) (by omega); simp only [Ents.drop]; rw [this]; congr 1; omega
  · intro x hx; have := h.m (1 + x) (by omega); simp only [Ents.drop]; rw [this]; congr 1; omega
  · intro x hx y hy
    have := h.x (1 + x) (by omega) y hy
    simp only [Ents.drop]
    rw [this]; congr 1; omega

theorem Suf.done (h : Suf S i S') (hsh : ∀ x, x < n → S.en x = 0 → x + 1 = n) : (∃ x, x < n' ∧ S'.en x ≠ 0) ↔ ¬ S.done i := by
  have hl := h.len
  constructor
  · rintro ⟨x, hx, he⟩ hd
    rw [h.en x hx] at he
    rcases hd with hd | ⟨hd, h0⟩
    · omega
    · have : x = 0 := by omega
      subst this
      exact he h0
  · intro hd
    have h0 : 0 < n' := by
      rcases Nat.eq_zero_or_pos n' with h1 | h1
      · exact (hd (.inl (by omega))).elim
      · exact h1
    refine ⟨0, h0, fun he => ?_⟩
    rw [h.en 0 h0] at he
    exact hd (.inr ⟨by have := hsh (i + 0) (by omega) he; omega, he⟩)

end Go.Proofs.Ytophlodlencgiaa
