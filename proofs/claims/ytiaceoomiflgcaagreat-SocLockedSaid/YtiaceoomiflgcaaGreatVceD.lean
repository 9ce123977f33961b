/-
  Tables of a program for the concrete executor.
-/
import Derived.Test.YtiaceoomiflgcaaGreatVceC
namespace Go.V
variable {O : Type} [Objs O]

def lookN {α : Type} : List (Nat × α) → Nat → Option α
  | [], _ => none
  | (k, v) :: r, n => (match Nat.beq k n with | true => some v | false => lookN r n)

theorem lookN_mem {α : Type} : ∀ {l : List (Nat × α)} {n : Nat} {v : α}, lookN l n = some v → (n, v) ∈ l
  | [], _, _, h => by simp [lookN] at h
  | (k, u) :: r, n, v, h => by
    simp only [lookN] at h
    split at h
    · rename_i hb
      simp only [Option.some.injEq] at h
      rw [Nat.eq_of_beq_eq_true hb, h]
      exact List.mem_cons_self
    · exact List.mem_cons_of_mem _ (lookN_mem h)

def lookM : List (Nat × String × Nat) → Nat → String → Option Nat
  | [], _, _ => none
  | (k, m, f) :: r, t, s => (match Nat.beq k t with
    | true => (match decide (m = s) with | true => some f | false => lookM r t s)
    | false => lookM r t s)

theorem lookM_mem : ∀ {l : List (Nat × String × Nat)} {t : Nat} {s : String} {f : Nat}, lookM l t s = some f → (t, s, f) ∈ l
  | [], _, _, _, h => by simp [lookM] at h
  | (k, m, g) :: r, t, s, f, h => by
    simp only [lookM] at h
    split at h
    · rename_i hb
      split at h
      · rename_i hm
        simp only [Option.some.injEq] at h
        rw [Nat.eq_of_beq_eq_true hb, of_decide_eq_true hm, h]
        exact List.mem_cons_self
      · exact List.mem_cons_of_mem _ (lookM_mem h)
    · exact List.mem_cons_of_mem _ (lookM_mem h)

def hasP : List (Nat × Nat) → Nat → Nat → Bool
  | [], _, _ => false
  | (a, b) :: r, t, n => (match Nat.beq a t && Nat.beq b n with | true => true | false => hasP r t n)

theorem hasP_mem : ∀ {l : List (Nat × Nat)} {t n : Nat}, hasP l t n = true → (t, n) ∈ l
  | [], _, _, h => by simp [hasP] at h
  | (a, b) :: r, t, n, h => by
    simp only [hasP] at h
    split at h
    · rename_i hb
      simp only [Bool.and_eq_true] at hb
      rw [Nat.eq_of_beq_eq_true hb.1, Nat.eq_of_beq_eq_true hb.2]
      exact List.mem_cons_self
    · exact List.mem_cons_of_mem _ (hasP_mem h)

abbrev Prim (O : Type) := List SV → List (Chunk O) → Option (SV × List (Chunk O))

def mkTb (fl : List (Nat × FE)) (ml : List (Nat × String × Nat)) (el : List (Nat × Nat)) (pl : List (Nat × Prim O)) : Tb O where
  fn f := lookN fl f
  pm f := lookN pl f
  me t m := lookM ml t m
  sk _ _ _ := false
  ea t n := hasP el t n

theorem mkTb_ok {P : Program} {fl : List (Nat × FE)} {ml : List (Nat × String × Nat)} {el : List (Nat × Nat)} {pl : List (Nat × Prim O)} (h1 : ∀ p ∈ fl, codeFn P p.1 = true ∧ Fn P p.1 p.2.nt p.2.ic p.2.rs)
    (h2 : ∀ p ∈ ml, methOf P p.1 p.2.1 = some p.2.2) (h3 : ∀ p ∈ el, EqAg P p.1 p.2)
    (h4 : ∀ p ∈ pl, codeFn P p.1 = true ∧ ∀ args mem r m', p.2 args mem = some (r, m') → CallOK P p.1 args mem fun r1 m1 => r1 = r ∧ m1 = m') : Tb.OK P (mkTb fl ml el pl) where
  fn f e h := h1 (f, e) (lookN_mem h)
  pm f g args mem r m' h hg := ⟨(h4 (f, g) (lookN_mem h)).1, (h4 (f, g) (lookN_mem h)).2 args mem r m' hg⟩
  me t m f h := h2 (t, m, f) (lookM_mem h)
  sk _ _ _ h := by cases h
  ea t n h := h3 (t, n) (hasP_mem h)

def isTrue : SV → List (Chunk O) → Bool
  | .dv (.bool true), _ => true
  | _, _ => false

omit [Objs O] in
theorem isTrue_ok {r : SV} {m : List (Chunk O)} (h : isTrue r m = true) : r = .dv (.bool true) := by
  unfold isTrue at h
  split at h
  · rfl
  · cases h

end Go.V
