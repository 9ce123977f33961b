/-
  Plain: which order of the calls on a queue is found.
-/
import Derived.Test.YtophlodlencgiaaVcgX
namespace Go.Proofs.Ytophlodlencgiaa
open Go.V

/-- A list's entries. -/
structure Ents (n : Nat) (G : Nat → Nat → DV) where
  co : Nat → Int
  pe : Nat → Int
  kd : Nat → Int
  be : Nat → Int
  en : Nat → Int
  er : Nat → Int
  m : Nat → Nat
  g : Nat → Nat → Nat → DV
  x : Nat → Nat → Int
  ha : Nat → Int
  h0 : ∀ i, i < n → G i 0 = .int .i64 (co i)
  h1 : ∀ i, i < n → G i 1 = .int .i64 (pe i)
  h2 : ∀ i, i < n → G i 2 = .int .i64 (kd i)
  h3 : ∀ i, i < n → G i 3 = .int .i64 (be i)
  h4 : ∀ i, i < n → G i 4 = .int .i64 (en i)
  h5 : ∀ i, i < n → G i 5 = .int .i64 (er i)
  h6 : ∀ i, i < n → G i 6 = .seq (m i) 1 (g i)
  h7 : ∀ i, i < n → G i 7 = .int .i64 (ha i)
  hx : ∀ i, i < n → ∀ j, j < m i → g i j 0 = .int .i64 (x i j)

variable {n : Nat} {G : Nat → Nat → DV}

/-- An entry's cells. -/
def Ents.row (S : Ents n G) (i : Nat) : List SV :=
  [.dv (.int .i64 (S.co i)), .dv (.int .i64 (S.pe i)), .dv (.int .i64 (S.kd i)), .dv (.int .i64 (S.be i)), .dv (.int .i64 (S.en i)), .dv (.int .i64 (S.er i)), .dv (.seq (S.m i) 1 (S.g i)), .dv (.int .i64 (S.ha i))]

/-- The entries from a place on. -/
def Ents.drop (S : Ents n G) (a k : Nat) (h : a + k ≤ n) : Ents k (fun i f => G (a + i) f) where
  co i := S.co (a + i)
  pe i := S.pe (a + i)
  kd i := S.kd (a + i)
  be i := S.be (a + i)
  en i := S.en (a + i)
  er i := S.er (a + i)
  m i := S.m (a + i)
  g i := S.g (a + i)
  x i := S.x (a + i)
  ha i := S.ha (a + i)
  h0 i hi := S.h0 (a + i) (by omega)
  h1 i hi := S.h1 (a + i) (by omega)
  h2 i hi := S.h2 (a + i) (by omega)
  h3 i hi := S.h3 (a + i) (by omega)
  h4 i hi := S.h4 (a + i) (by omega)
  h5 i hi := S.h5 (a + i) (by omega)
  h6 i hi := S.h6 (a + i) (by omega)
  h7 i hi := S.h7 (a + i) (by omega)
  hx i hi := S.hx (a + i) (by omega)

/-- Has it been done, or may it have been? -/
def Ents.okE (S : Ents n G) (i : Nat) : Bool := decide (S.en i = 0) || decide (S.er i = 0)

/-- Has one from a place on ended ahead of a time? -/
def Ents.late (S : Ents n G) (a : Nat) (b : Int) : Prop := ∃ i, a ≤ i ∧ i < n ∧ S.en i ≠ 0 ∧ S.en i < b

/-- Have all that have ended been gone through? -/
def Ents.done (S : Ents n G) (a : Nat) : Prop := a = n ∨ a + 1 = n ∧ S.en a = 0

/-- May the entries be a list of the kinds? -/
def Ents.shaped (S : Ents n G) (p : Int → Prop) : Prop := ∀ i, i < n → p (S.kd i) ∧ (S.en i = 0 → i + 1 = n)

end Go.Proofs.Ytophlodlencgiaa
