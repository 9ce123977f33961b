/-
  The concrete executor tells the truth: operations.
-/
import Derived.Test.YtiaceoomiflgcaaVceA
namespace Go.V
variable {O : Type} [Objs O]

structure Tb.OK (P : Program) (T : Tb O) : Prop where
  fn : ∀ f e, T.fn f = some e → codeFn P f = true ∧ Fn P f e.nt e.ic e.rs
  pm : ∀ f g args mem r m', T.pm f = some g → g args mem = some (r, m') → codeFn P f = true ∧ CallOK P f args mem fun r1 m1 => r1 = r ∧ m1 = m'
  me : ∀ t m f, T.me t m = some f → methOf P t m = some f
  sk : ∀ t n l, T.sk t n l = true → SetK P t n l
  ea : ∀ t n, T.ea t n = true → EqAg P t n

section
variable {P : Program} {T : Tb O} {call : CallT O} {d : Option Nat} {s : St O} {K : Kt O}

end

end Go.V
