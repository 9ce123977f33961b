/-
  Plain: how the parts of a soc lie in memory.
-/
import Derived.Test.YtiaceoomiflgcaaVchG
namespace Go.V

/-- A result beside an object whose chunks lie open. -/
theorem leaf_obj {n : Nat} {v : SV} {m lmem : List (Chunk Ob)} {Q : SV → List (Chunk Ob) → Prop} (hs : List Nat) (hnd : nodupN (0 :: hs) = true) (hp : headPlain lmem = true) (hle : MLe (0 :: hs) m (0 :: hs) lmem) (hu : VLe [0] v v) (hn : idN n 0 [0] = true)
    (hq : Q v [.obj (.mk lmem)]) : ∃ r' m', Ent n ⟨[v], m⟩ ⟨[r'], m'⟩ ∧ Q r' m' :=
  ⟨v, _, Ent.cls1 hs lmem hnd hp hle ⟨hu, trivial⟩ hn, hq⟩

/-- A buffer of stores: room for so many; the cells, real and imaginary parts. -/
def bmem (mo : Int) (k : Nat) (re im : Nat → Nat) : List (Chunk Ob) := [.blk [.one (.dv (.int .i64 mo)), .one (.vec 1)], .vec k 1 fun i _ => .dv (.cpx .f64 (re i) (im i))]
def bOb (mo : Int) (k : Nat) (re im : Nat → Nat) : Ob := .mk (bmem mo k re im)

/-- A memory of words. -/
def rmem (n : Nat) (r : Nat → Int) : List (Chunk Ob) := [.blk [.one (.vec 1)], .vec n 1 fun i _ => .dv (.int .i64 (r i))]
def rOb (n : Nat) (r : Nat → Int) : Ob := .mk (rmem n r)

end Go.V
