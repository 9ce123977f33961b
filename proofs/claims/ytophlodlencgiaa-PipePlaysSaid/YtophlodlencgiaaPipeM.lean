/-
  The pipe of the program, as plain data; how it lies in memory.
-/
import Derived.Test.YtophlodlencgiaaVcgU
namespace Go.V

structure PEnd where
  held : Bool
  linked : Bool
  epoch : Int
  known : Int
  mark : Int

def endF (x : PEnd) : Nat → DV
  | 0 => .bool x.held
  | 1 => .bool x.linked
  | 2 => .int .i64 x.epoch
  | 3 => .int .i64 x.known
  | _ => .int .i64 x.mark

/-- 'n': how many were put; 'put': each, as it lies in memory. -/
structure PSt where
  room : Int
  e : Nat → PEnd
  n : Nat
  put : Nat → DV
  got : Int
  back : Int
  hand : Int

def pmem (s : PSt) : List (Chunk Ob) :=
  [.blk [.one (.dv (.int .i64 s.room)), .arr 2 5 (fun i f => .dv (endF (s.e i) f)), .one (.vec 1), .one (.dv (.int .i64 s.got)), .one (.dv (.int .i64 s.back)), .one (.dv (.int .i64 s.hand))],
   .vec s.n 1 fun i _ => .dv (s.put i)]

def pob (s : PSt) : Ob := .mk (pmem s)

def PEnd.link (x : PEnd) : Int := (x.epoch + x.known) % 65536

def updE (e : Nat → PEnd) (i : Nat) (x : PEnd) : Nat → PEnd := fun j => if j = i then x else e j

/-- An end meets the other one. -/
def PSt.meet (s : PSt) (i : Nat) : PSt × Int :=
  if (s.e i).known ≠ (s.e (1 - i)).epoch then
    let x : PEnd := { s.e i with known := (s.e (1 - i)).epoch, linked := false }
    let e := updE s.e i { x with mark := x.link }
    if i = 0 then ({ s with e := e, n := 0 }, 8) else ({ s with e := e, got := 0, back := 0, hand := 0 }, 8)
  else if (s.e i).linked = false ∧ (s.e (1 - i)).mark ≠ (s.e i).link then (s, 9)
  else ({ s with e := updE s.e i { s.e i with linked := true } }, 0)

/-- What no run of fewer than a thousand million calls leaves. -/
structure PSt.Ok (s : PSt) : Prop where
  n : s.n ≤ 1000000000
  got : 0 ≤ s.got ∧ s.got ≤ 1000000000
  back : 0 ≤ s.back ∧ s.back ≤ 1000000000
  hand : 0 ≤ s.hand ∧ s.hand ≤ 1000000000
  puts : ∀ i, i < s.n → ∃ m g, m ≤ 8 ∧ s.put i = .seq m 1 g

theorem PSt.Ok.meet {s : PSt} (h : s.Ok) (i : Nat) : (s.meet i).1.Ok := by
  unfold PSt.meet
  dsimp only
  split
  · split
    · exact ⟨Nat.zero_le _, h.got, h.back, h.hand, fun i hi => absurd hi (Nat.not_lt_zero i)⟩
    · exact ⟨h.n, ⟨Int.le_refl 0, by simp⟩, ⟨Int.le_refl 0, by simp⟩, ⟨Int.le_refl 0, by simp⟩, h.puts⟩
  · split
    · exact h
    · exact ⟨h.n, h.got, h.back, h.hand, h.puts⟩

def PSt.up (s : PSt) (i : Int) : Bool := decide (i = 0 ∨ i = 1) && !(s.e i.toNat).held
def PSt.linked (s : PSt) (i : Int) : Bool := s.up i && (s.e i.toNat).linked
def PSt.waits (s : PSt) : Int := if s.linked 0 = true ∧ s.linked 1 = true ∧ (s.e 0).link = (s.e 1).link then s.n - s.got else 0

/-- Words that may be sent. -/
def wordsOk (n : Nat) (x : Nat → Int) : Bool := (List.range n).all fun i => decide (x i = x i % 65536)

def PSt.send (s : PSt) (d : DV) (n : Nat) (x : Nat → Int) : PSt × Int :=
  if (s.e 0).held then (s, 19)
  else if 8 < n then (s, 18)
  else if wordsOk n x = false then (s, 2)
  else
    let t := s.meet 0
    if t.2 ≠ 0 then t
    else if t.1.room ≤ t.1.n - t.1.back then (t.1, 5)
    else ({ t.1 with n := t.1.n + 1, put := fun i => if i < t.1.n then t.1.put i else d }, 0)

def PSt.recv (s : PSt) : PSt × Option DV × Int :=
  if (s.e 1).held then (s, none, 19)
  else
    let t := s.meet 1
    if t.2 ≠ 0 then (t.1, none, t.2)
    else if t.1.n ≤ t.1.got then (t.1, none, 6)
    else ({ t.1 with got := t.1.got + 1, hand := t.1.hand + 1 }, some (t.1.put t.1.got.toNat), 0)

def PSt.release (s : PSt) (k : Int) : PSt × Int :=
  if (s.e 1).held then (s, 19)
  else if k < 0 ∨ s.hand ≤ k then (s, 7)
  else
    let t := PSt.meet { s with hand := s.hand - 1 } 1
    if t.2 ≠ 0 then t else ({ t.1 with back := t.1.back + 1 }, 0)

def PSt.hold (s : PSt) (i : Int) : PSt × Int :=
  if i ≠ 0 ∧ i ≠ 1 then (s, 2)
  else if (s.e i.toNat).held then (s, 11)
  else ({ s with e := updE s.e i.toNat { s.e i.toNat with held := true, linked := false }, hand := if i = 1 then 0 else s.hand }, 0)

def PSt.start (s : PSt) (i : Int) : PSt × Int :=
  if i ≠ 0 ∧ i ≠ 1 then (s, 2)
  else if (s.e i.toNat).held = false then (s, 13)
  else ({ s with e := updE s.e i.toNat { held := false, linked := false, epoch := ((s.e i.toNat).epoch + 1) % 65536, known := -1, mark := (s.e i.toNat).mark } }, 0)

def PSt.new (room : Int) : PSt := { room := room, e := fun _ => ⟨false, false, 0, 0, 0⟩, n := 0, put := fun _ => .nils, got := 0, back := 0, hand := 0 }

end Go.V
