/-
  No cell of these rows narrows 'for every input' (looked for: loops, veiled, ifaces, maps, wideKeys, modest, calm, conditions, laid).
  DERIVED. THE GIVEN ROWS OF THIS SEAT. 6 by the template 'for every input the law returns true; each argument reads behind the call as it read before'; 0 by the template 'total and deterministic' (their statements: YtiaceoomiflgcaaGreatTotals.lean).
  GIVEN WITH THE SEED: the statements are not yours to turn. If you find one false, say at which input.
  Laid BY PROGRAM, IN A SANDBOX (cutbox-rows.mjs): the forced cells as the released guide's own fill.sh prints them over the translation 31c212048a7bd698… (all of the seat's roots in one cut). By AI agents, Wed Nov 11 2026. No macro, syntax, notation, axiom, sorry.
-/
import Derived.Test.YtiaceoomiflgcaaGreatChecked
import GoSem.Claim
import GoSem.ClaimJoined
import GoSem.ClaimMapViews
import Derived.JoinedTies
import Derived.KernelRfl
namespace Go.Proofs.YtiaceoomiflgcaaGreat
/- THE CELL 'sum', in the pinned program and in every row, IS THE sha256 OF THE DUMP (.gsa) THAT YtiaceoomiflgcaaGreatProg.lean LOADS. Nothing in Lean hashes anything: it is a label: what it is worth is what the hold of that sum in a sandbox is worth. -/
noncomputable def Tryz.pinned : Pinned := { name := "ytiaceoomiflgcaagreat", sum := "31c212048a7bd6980993b2d111dbbe5ae887804855ef5a2eecfee723d7d7ee54", checked := Tryz.checked }
namespace Rows
def none {H : Type} : Left H := { results := [], args := [] }

/-- 'switchyardlaw12.SocHeld': WHATEVER THE INPUT: true; the input reads as it did. -/
def socHeldSpec : ChangeSpec := { name := "socHeld", fn := fun _ => fun
  | [d1, d2, d3] => { results := [.lit (.bool true)], args := [d1, d2, d3] }
  | _ => none }
def socHeldRow : OpenClaim := { program := "ytiaceoomiflgcaagreat", sum := "31c212048a7bd6980993b2d111dbbe5ae887804855ef5a2eecfee723d7d7ee54", func := "switchyard/switchyardlaw12.SocHeld", spec := "socHeld", unfollowed := true, recurses := true, apart := false }
def SocHeldSaid : Prop := socHeldRow.holds Tryz.pinned (OpenSpec.ofChange socHeldSpec)

/-- ITS FALSE NEIGHBOUR: 'it returns false'. Refute it at one input. -/
def socHeldWrong : ChangeSpec := { name := "socHeld", fn := fun _ => fun
  | [d1, d2, d3] => { results := [.lit (.bool false)], args := [d1, d2, d3] }
  | _ => none }
def SocHeldWrongFalsely : Prop := socHeldRow.holds Tryz.pinned (OpenSpec.ofChange socHeldWrong)

/-- 'switchyardlaw12.SocLocked': WHATEVER THE INPUT: true; the input reads as it did. -/
def socLockedSpec : ChangeSpec := { name := "socLocked", fn := fun _ => fun
  | [d1, d2, d3] => { results := [.lit (.bool true)], args := [d1, d2, d3] }
  | _ => none }
def socLockedRow : OpenClaim := { program := "ytiaceoomiflgcaagreat", sum := "31c212048a7bd6980993b2d111dbbe5ae887804855ef5a2eecfee723d7d7ee54", func := "switchyard/switchyardlaw12.SocLocked", spec := "socLocked", unfollowed := true, recurses := true, apart := false }
def SocLockedSaid : Prop := socLockedRow.holds Tryz.pinned (OpenSpec.ofChange socLockedSpec)

/-- ITS FALSE NEIGHBOUR: 'it returns false'. Refute it at one input. -/
def socLockedWrong : ChangeSpec := { name := "socLocked", fn := fun _ => fun
  | [d1, d2, d3] => { results := [.lit (.bool false)], args := [d1, d2, d3] }
  | _ => none }
def SocLockedWrongFalsely : Prop := socLockedRow.holds Tryz.pinned (OpenSpec.ofChange socLockedWrong)

/-- 'switchyardlaw18.TillOne': WHATEVER THE INPUT: true; the input reads as it did. -/
def tillOneSpec : ChangeSpec := { name := "tillOne", fn := fun _ => fun
  | [d1, d2] => { results := [.lit (.bool true)], args := [d1, d2] }
  | _ => none }
def tillOneRow : OpenClaim := { program := "ytiaceoomiflgcaagreat", sum := "31c212048a7bd6980993b2d111dbbe5ae887804855ef5a2eecfee723d7d7ee54", func := "switchyard/switchyardlaw18.TillOne", spec := "tillOne", unfollowed := true, recurses := true, apart := false }
def TillOneSaid : Prop := tillOneRow.holds Tryz.pinned (OpenSpec.ofChange tillOneSpec)

/-- ITS FALSE NEIGHBOUR: 'it returns false'. Refute it at one input. -/
def tillOneWrong : ChangeSpec := { name := "tillOne", fn := fun _ => fun
  | [d1, d2] => { results := [.lit (.bool false)], args := [d1, d2] }
  | _ => none }
def TillOneWrongFalsely : Prop := tillOneRow.holds Tryz.pinned (OpenSpec.ofChange tillOneWrong)

/-- 'switchyardlaw12.SocPlays': WHATEVER THE INPUT: true; the input reads as it did. -/
def socPlaysSpec : ChangeSpec := { name := "socPlays", fn := fun _ => fun
  | [d1, d2, d3] => { results := [.lit (.bool true)], args := [d1, d2, d3] }
  | _ => none }
def socPlaysRow : OpenClaim := { program := "ytiaceoomiflgcaagreat", sum := "31c212048a7bd6980993b2d111dbbe5ae887804855ef5a2eecfee723d7d7ee54", func := "switchyard/switchyardlaw12.SocPlays", spec := "socPlays", unfollowed := true, recurses := true, apart := false }
def SocPlaysSaid : Prop := socPlaysRow.holds Tryz.pinned (OpenSpec.ofChange socPlaysSpec)

/-- ITS FALSE NEIGHBOUR: 'it returns false'. Refute it at one input. -/
def socPlaysWrong : ChangeSpec := { name := "socPlays", fn := fun _ => fun
  | [d1, d2, d3] => { results := [.lit (.bool false)], args := [d1, d2, d3] }
  | _ => none }
def SocPlaysWrongFalsely : Prop := socPlaysRow.holds Tryz.pinned (OpenSpec.ofChange socPlaysWrong)

/-- 'switchyardlaw12.SocKeeps': WHATEVER THE INPUT: true; the input reads as it did. -/
def socKeepsSpec : ChangeSpec := { name := "socKeeps", fn := fun _ => fun
  | [d1, d2, d3] => { results := [.lit (.bool true)], args := [d1, d2, d3] }
  | _ => none }
def socKeepsRow : OpenClaim := { program := "ytiaceoomiflgcaagreat", sum := "31c212048a7bd6980993b2d111dbbe5ae887804855ef5a2eecfee723d7d7ee54", func := "switchyard/switchyardlaw12.SocKeeps", spec := "socKeeps", unfollowed := true, recurses := true, apart := false }
def SocKeepsSaid : Prop := socKeepsRow.holds Tryz.pinned (OpenSpec.ofChange socKeepsSpec)

/-- ITS FALSE NEIGHBOUR: 'it returns false'. Refute it at one input. -/
def socKeepsWrong : ChangeSpec := { name := "socKeeps", fn := fun _ => fun
  | [d1, d2, d3] => { results := [.lit (.bool false)], args := [d1, d2, d3] }
  | _ => none }
def SocKeepsWrongFalsely : Prop := socKeepsRow.holds Tryz.pinned (OpenSpec.ofChange socKeepsWrong)

/-- 'switchyardlaw14.PortCore': WHATEVER THE INPUT: true; the input reads as it did. -/
def portCoreSpec : ChangeSpec := { name := "portCore", fn := fun _ => fun
  | [d1, d2, d3, d4] => { results := [.lit (.bool true)], args := [d1, d2, d3, d4] }
  | _ => none }
def portCoreRow : OpenClaim := { program := "ytiaceoomiflgcaagreat", sum := "31c212048a7bd6980993b2d111dbbe5ae887804855ef5a2eecfee723d7d7ee54", func := "switchyard/switchyardlaw14.PortCore", spec := "portCore", unfollowed := true, recurses := true, apart := false }
def PortCoreSaid : Prop := portCoreRow.holds Tryz.pinned (OpenSpec.ofChange portCoreSpec)

/-- ITS FALSE NEIGHBOUR: 'it returns false'. Refute it at one input. -/
def portCoreWrong : ChangeSpec := { name := "portCore", fn := fun _ => fun
  | [d1, d2, d3, d4] => { results := [.lit (.bool false)], args := [d1, d2, d3, d4] }
  | _ => none }
def PortCoreWrongFalsely : Prop := portCoreRow.holds Tryz.pinned (OpenSpec.ofChange portCoreWrong)

/- THE SECOND FORM. 'bulk': how many values and letters a reading holds, each counted each time it is reached (what is shared counts as often as it is met; a slice's spare places count too). A statement '..UptoSaid' is the law's where the arguments, and the package variables that the reading takes, are together of bulk at most 1048576: NARROWER than '..Said'. Prove '..Said' where nothing that the law and all that it calls make is longer than what came in: it says more and counts as full. Else prove '..UptoSaid'. A law counts once. -/
mutual
def uptoBulk {H : Type} : DataW H → Nat
  | .lit (.string bytes) => bytes.length + 1
  | .lit _ => 1
  | .nil => 1
  | .ptr d => uptoBulk d + 1
  | .slice elems spare => uptoBulkAll elems + uptoBulkAll spare + 1
  | .agg parts => uptoBulkAll parts + 1
  | .iface _ d => uptoBulk d + 1
  | .map entries => uptoBulkEntries entries + 1
  | .held _ => 1
def uptoBulkAll {H : Type} : List (DataW H) → Nat
  | [] => 0
  | d :: r => uptoBulk d + uptoBulkAll r
def uptoBulkEntries {H : Type} : List (Lit × DataW H) → Nat
  | [] => 0
  | x :: r => uptoBulkEntry x + uptoBulkEntries r
def uptoBulkEntry {H : Type} : Lit × DataW H → Nat
  | (.string bytes, d) => bytes.length + uptoBulk d + 1
  | (_, d) => uptoBulk d + 1
 end
def uptoSmall : (H : Type) → List (DataW H) → Bool := fun _ ds => decide (uptoBulkAll ds ≤ 1048576)
def OpenSpec.upto (s : _root_.Go.ChangeSpec) : _root_.Go.OpenSpec := { _root_.Go.OpenSpec.ofChange s with cond := some uptoSmall }

/-- 'switchyardlaw12.SocHeld', WHERE WHAT IT READS IS OF BULK AT MOST 1048576: true; the input reads as it did. -/
def socHeldUptoRow : OpenClaim := { program := "ytiaceoomiflgcaagreat", sum := "31c212048a7bd6980993b2d111dbbe5ae887804855ef5a2eecfee723d7d7ee54", func := "switchyard/switchyardlaw12.SocHeld", spec := "socHeld", unfollowed := true, recurses := true, apart := false, narrowed := true }
def SocHeldUptoSaid : Prop := socHeldUptoRow.holds Tryz.pinned (OpenSpec.upto socHeldSpec)

/-- 'switchyardlaw12.SocLocked', WHERE WHAT IT READS IS OF BULK AT MOST 1048576: true; the input reads as it did. -/
def socLockedUptoRow : OpenClaim := { program := "ytiaceoomiflgcaagreat", sum := "31c212048a7bd6980993b2d111dbbe5ae887804855ef5a2eecfee723d7d7ee54", func := "switchyard/switchyardlaw12.SocLocked", spec := "socLocked", unfollowed := true, recurses := true, apart := false, narrowed := true }
def SocLockedUptoSaid : Prop := socLockedUptoRow.holds Tryz.pinned (OpenSpec.upto socLockedSpec)

/-- 'switchyardlaw18.TillOne', WHERE WHAT IT READS IS OF BULK AT MOST 1048576: true; the input reads as it did. -/
def tillOneUptoRow : OpenClaim := { program := "ytiaceoomiflgcaagreat", sum := "31c212048a7bd6980993b2d111dbbe5ae887804855ef5a2eecfee723d7d7ee54", func := "switchyard/switchyardlaw18.TillOne", spec := "tillOne", unfollowed := true, recurses := true, apart := false, narrowed := true }
def TillOneUptoSaid : Prop := tillOneUptoRow.holds Tryz.pinned (OpenSpec.upto tillOneSpec)

/-- 'switchyardlaw12.SocPlays', WHERE WHAT IT READS IS OF BULK AT MOST 1048576: true; the input reads as it did. -/
def socPlaysUptoRow : OpenClaim := { program := "ytiaceoomiflgcaagreat", sum := "31c212048a7bd6980993b2d111dbbe5ae887804855ef5a2eecfee723d7d7ee54", func := "switchyard/switchyardlaw12.SocPlays", spec := "socPlays", unfollowed := true, recurses := true, apart := false, narrowed := true }
def SocPlaysUptoSaid : Prop := socPlaysUptoRow.holds Tryz.pinned (OpenSpec.upto socPlaysSpec)

/-- 'switchyardlaw12.SocKeeps', WHERE WHAT IT READS IS OF BULK AT MOST 1048576: true; the input reads as it did. -/
def socKeepsUptoRow : OpenClaim := { program := "ytiaceoomiflgcaagreat", sum := "31c212048a7bd6980993b2d111dbbe5ae887804855ef5a2eecfee723d7d7ee54", func := "switchyard/switchyardlaw12.SocKeeps", spec := "socKeeps", unfollowed := true, recurses := true, apart := false, narrowed := true }
def SocKeepsUptoSaid : Prop := socKeepsUptoRow.holds Tryz.pinned (OpenSpec.upto socKeepsSpec)

/-- 'switchyardlaw14.PortCore', WHERE WHAT IT READS IS OF BULK AT MOST 1048576: true; the input reads as it did. -/
def portCoreUptoRow : OpenClaim := { program := "ytiaceoomiflgcaagreat", sum := "31c212048a7bd6980993b2d111dbbe5ae887804855ef5a2eecfee723d7d7ee54", func := "switchyard/switchyardlaw14.PortCore", spec := "portCore", unfollowed := true, recurses := true, apart := false, narrowed := true }
def PortCoreUptoSaid : Prop := portCoreUptoRow.holds Tryz.pinned (OpenSpec.upto portCoreSpec)

end Rows
end Go.Proofs.YtiaceoomiflgcaaGreat
