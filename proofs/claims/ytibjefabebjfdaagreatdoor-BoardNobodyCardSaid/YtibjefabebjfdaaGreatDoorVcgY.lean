/-
  The program's own tables that are spoken of here: where fields begin; how many zeros a number ends in.
-/
import Derived.Test.YtibjefabebjfdaaGreatDoorVcgA
namespace Go.V

def aheadT : Nat → Int
  | 0 => 0
  | 1 => 0
  | 2 => 0
  | 3 => 0
  | 4 => 0
  | 5 => 0
  | 6 => 1
  | 7 => 2
  | 8 => 3
  | _ => 0
def tzT : Nat → Int
  | 0 => 0
  | 1 => 1
  | 2 => 56
  | 3 => 2
  | 4 => 57
  | 5 => 49
  | 6 => 28
  | 7 => 3
  | 8 => 61
  | 9 => 58
  | 10 => 42
  | 11 => 50
  | 12 => 38
  | 13 => 29
  | 14 => 17
  | 15 => 4
  | 16 => 62
  | 17 => 47
  | 18 => 59
  | 19 => 36
  | 20 => 45
  | 21 => 43
  | 22 => 51
  | 23 => 22
  | 24 => 53
  | 25 => 39
  | 26 => 33
  | 27 => 30
  | 28 => 24
  | 29 => 18
  | 30 => 12
  | 31 => 5
  | 32 => 63
  | 33 => 55
  | 34 => 48
  | 35 => 27
  | 36 => 60
  | 37 => 41
  | 38 => 37
  | 39 => 16
  | 40 => 46
  | 41 => 35
  | 42 => 44
  | 43 => 21
  | 44 => 52
  | 45 => 32
  | 46 => 23
  | 47 => 11
  | 48 => 54
  | 49 => 26
  | 50 => 40
  | 51 => 15
  | 52 => 34
  | 53 => 20
  | 54 => 31
  | 55 => 10
  | 56 => 25
  | 57 => 14
  | 58 => 19
  | 59 => 9
  | 60 => 13
  | 61 => 8
  | 62 => 7
  | 63 => 6
  | _ => 0

def gtab : Nat → Option (Nat × Nat × (Nat → Nat → DV))
  | 0 => some (9, 1, fun i _ => .int .i64 (aheadT i))
  | 6 => some (64, 1, fun i _ => .int .u8 (tzT i))
  | _ => none

end Go.V
