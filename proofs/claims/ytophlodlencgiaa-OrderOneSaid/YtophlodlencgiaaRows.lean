/-
  No cell of these rows narrows 'for every input' (looked for: loops, veiled, ifaces, maps, wideKeys, modest, calm, conditions, laid).
  DERIVED. THE GIVEN ROWS OF THIS SEAT. 8 by the template 'for every input the law returns true; each argument reads behind the call as it read before'; 0 by the template 'total and deterministic' (their statements: YtophlodlencgiaaTotals.lean).
  GIVEN WITH THE SEED: the statements are not yours to turn. If you find one false, say at which input.
  Laid BY PROGRAM, IN A SANDBOX (cutbox-rows.mjs): the forced cells as the released guide's own fill.sh prints them over the translation dcb94a6cbe241bd5… (all of the seat's roots in one cut). By AI agents, Wed Nov 11 2026. No macro, syntax, notation, axiom, sorry.
-/
import Derived.Test.YtophlodlencgiaaChecked
import GoSem.Claim
import GoSem.ClaimJoined
import GoSem.ClaimMapViews
import Derived.JoinedTies
import Derived.KernelRfl
namespace Go.Proofs.Ytophlodlencgiaa
/- THE CELL 'sum', in the pinned program and in every row, IS THE sha256 OF THE DUMP (.gsa) THAT YtophlodlencgiaaProg.lean LOADS. Nothing in Lean hashes anything: it is a label: what it is worth is what the hold of that sum in a sandbox is worth. -/
noncomputable def Try.pinned : Pinned := { name := "ytophlodlencgiaa", sum := "dcb94a6cbe241bd555f0d97920f0a28a90fac6dc482aadb3b22894e21f4270d2", checked := Try.checked }
namespace Rows
def none {H : Type} : Left H := { results := [], args := [] }

/-- 'switchyardlaw21.OrderFits': WHATEVER THE INPUT: true; the input reads as it did. -/
def orderFitsSpec : ChangeSpec := { name := "orderFits", fn := fun _ => fun
  | [d1, d2, d3] => { results := [.lit (.bool true)], args := [d1, d2, d3] }
  | _ => none }
def orderFitsRow : OpenClaim := { program := "ytophlodlencgiaa", sum := "dcb94a6cbe241bd555f0d97920f0a28a90fac6dc482aadb3b22894e21f4270d2", func := "switchyard/switchyardlaw21.OrderFits", spec := "orderFits", unfollowed := true, recurses := true, plainKeys := false, apart := false }
def OrderFitsSaid : Prop := orderFitsRow.holds Try.pinned (OpenSpec.ofChange orderFitsSpec)

/-- ITS FALSE NEIGHBOUR: 'it returns false'. Refute it at one input. -/
def orderFitsWrong : ChangeSpec := { name := "orderFits", fn := fun _ => fun
  | [d1, d2, d3] => { results := [.lit (.bool false)], args := [d1, d2, d3] }
  | _ => none }
def OrderFitsWrongFalsely : Prop := orderFitsRow.holds Try.pinned (OpenSpec.ofChange orderFitsWrong)

/-- 'switchyardlaw21.OrderWitness': WHATEVER THE INPUT: true; the input reads as it did. -/
def orderWitnessSpec : ChangeSpec := { name := "orderWitness", fn := fun _ => fun
  | [d1, d2, d3] => { results := [.lit (.bool true)], args := [d1, d2, d3] }
  | _ => none }
def orderWitnessRow : OpenClaim := { program := "ytophlodlencgiaa", sum := "dcb94a6cbe241bd555f0d97920f0a28a90fac6dc482aadb3b22894e21f4270d2", func := "switchyard/switchyardlaw21.OrderWitness", spec := "orderWitness", unfollowed := true, recurses := true, plainKeys := false, apart := false }
def OrderWitnessSaid : Prop := orderWitnessRow.holds Try.pinned (OpenSpec.ofChange orderWitnessSpec)

/-- ITS FALSE NEIGHBOUR: 'it returns false'. Refute it at one input. -/
def orderWitnessWrong : ChangeSpec := { name := "orderWitness", fn := fun _ => fun
  | [d1, d2, d3] => { results := [.lit (.bool false)], args := [d1, d2, d3] }
  | _ => none }
def OrderWitnessWrongFalsely : Prop := orderWitnessRow.holds Try.pinned (OpenSpec.ofChange orderWitnessWrong)

/-- 'switchyardlaw21.OrderOne': WHATEVER THE INPUT: true; the input reads as it did. -/
def orderOneSpec : ChangeSpec := { name := "orderOne", fn := fun _ => fun
  | [d1, d2, d3] => { results := [.lit (.bool true)], args := [d1, d2, d3] }
  | _ => none }
def orderOneRow : OpenClaim := { program := "ytophlodlencgiaa", sum := "dcb94a6cbe241bd555f0d97920f0a28a90fac6dc482aadb3b22894e21f4270d2", func := "switchyard/switchyardlaw21.OrderOne", spec := "orderOne", unfollowed := true, recurses := true, plainKeys := false, apart := false }
def OrderOneSaid : Prop := orderOneRow.holds Try.pinned (OpenSpec.ofChange orderOneSpec)

/-- ITS FALSE NEIGHBOUR: 'it returns false'. Refute it at one input. -/
def orderOneWrong : ChangeSpec := { name := "orderOne", fn := fun _ => fun
  | [d1, d2, d3] => { results := [.lit (.bool false)], args := [d1, d2, d3] }
  | _ => none }
def OrderOneWrongFalsely : Prop := orderOneRow.holds Try.pinned (OpenSpec.ofChange orderOneWrong)

/-- 'switchyardlaw25.PipePrefix': WHATEVER THE INPUT: true; the input reads as it did. -/
def pipePrefixSpec : ChangeSpec := { name := "pipePrefix", fn := fun _ => fun
  | [d1, d2] => { results := [.lit (.bool true)], args := [d1, d2] }
  | _ => none }
def pipePrefixRow : OpenClaim := { program := "ytophlodlencgiaa", sum := "dcb94a6cbe241bd555f0d97920f0a28a90fac6dc482aadb3b22894e21f4270d2", func := "switchyard/switchyardlaw25.PipePrefix", spec := "pipePrefix", unfollowed := true, recurses := true, plainKeys := false, apart := false }
def PipePrefixSaid : Prop := pipePrefixRow.holds Try.pinned (OpenSpec.ofChange pipePrefixSpec)

/-- ITS FALSE NEIGHBOUR: 'it returns false'. Refute it at one input. -/
def pipePrefixWrong : ChangeSpec := { name := "pipePrefix", fn := fun _ => fun
  | [d1, d2] => { results := [.lit (.bool false)], args := [d1, d2] }
  | _ => none }
def PipePrefixWrongFalsely : Prop := pipePrefixRow.holds Try.pinned (OpenSpec.ofChange pipePrefixWrong)

/-- 'switchyardlaw25.PipePlays': WHATEVER THE INPUT: true; the input reads as it did. -/
def pipePlaysSpec : ChangeSpec := { name := "pipePlays", fn := fun _ => fun
  | [d1, d2] => { results := [.lit (.bool true)], args := [d1, d2] }
  | _ => none }
def pipePlaysRow : OpenClaim := { program := "ytophlodlencgiaa", sum := "dcb94a6cbe241bd555f0d97920f0a28a90fac6dc482aadb3b22894e21f4270d2", func := "switchyard/switchyardlaw25.PipePlays", spec := "pipePlays", unfollowed := true, recurses := true, plainKeys := false, apart := false }
def PipePlaysSaid : Prop := pipePlaysRow.holds Try.pinned (OpenSpec.ofChange pipePlaysSpec)

/-- ITS FALSE NEIGHBOUR: 'it returns false'. Refute it at one input. -/
def pipePlaysWrong : ChangeSpec := { name := "pipePlays", fn := fun _ => fun
  | [d1, d2] => { results := [.lit (.bool false)], args := [d1, d2] }
  | _ => none }
def PipePlaysWrongFalsely : Prop := pipePlaysRow.holds Try.pinned (OpenSpec.ofChange pipePlaysWrong)

/-- 'switchyardlaw25.PipeNobody': WHATEVER THE INPUT: true; the input reads as it did. -/
def pipeNobodySpec : ChangeSpec := { name := "pipeNobody", fn := fun _ => fun
  | [d] => { results := [.lit (.bool true)], args := [d] }
  | _ => none }
def pipeNobodyRow : OpenClaim := { program := "ytophlodlencgiaa", sum := "dcb94a6cbe241bd555f0d97920f0a28a90fac6dc482aadb3b22894e21f4270d2", func := "switchyard/switchyardlaw25.PipeNobody", spec := "pipeNobody", unfollowed := true, recurses := true, plainKeys := false, apart := false }
def PipeNobodySaid : Prop := pipeNobodyRow.holds Try.pinned (OpenSpec.ofChange pipeNobodySpec)

/-- ITS FALSE NEIGHBOUR: 'it returns false'. Refute it at one input. -/
def pipeNobodyWrong : ChangeSpec := { name := "pipeNobody", fn := fun _ => fun
  | [d] => { results := [.lit (.bool false)], args := [d] }
  | _ => none }
def PipeNobodyWrongFalsely : Prop := pipeNobodyRow.holds Try.pinned (OpenSpec.ofChange pipeNobodyWrong)

/-- 'switchyardlaw25.PipeCounts': WHATEVER THE INPUT: true; the input reads as it did. -/
def pipeCountsSpec : ChangeSpec := { name := "pipeCounts", fn := fun _ => fun
  | [d1, d2] => { results := [.lit (.bool true)], args := [d1, d2] }
  | _ => none }
def pipeCountsRow : OpenClaim := { program := "ytophlodlencgiaa", sum := "dcb94a6cbe241bd555f0d97920f0a28a90fac6dc482aadb3b22894e21f4270d2", func := "switchyard/switchyardlaw25.PipeCounts", spec := "pipeCounts", unfollowed := true, recurses := true, plainKeys := false, apart := false }
def PipeCountsSaid : Prop := pipeCountsRow.holds Try.pinned (OpenSpec.ofChange pipeCountsSpec)

/-- ITS FALSE NEIGHBOUR: 'it returns false'. Refute it at one input. -/
def pipeCountsWrong : ChangeSpec := { name := "pipeCounts", fn := fun _ => fun
  | [d1, d2] => { results := [.lit (.bool false)], args := [d1, d2] }
  | _ => none }
def PipeCountsWrongFalsely : Prop := pipeCountsRow.holds Try.pinned (OpenSpec.ofChange pipeCountsWrong)

/-- 'switchyardlaw21.OrderLongest': WHATEVER THE INPUT: true; the input reads as it did. -/
def orderLongestSpec : ChangeSpec := { name := "orderLongest", fn := fun _ => fun
  | [d1, d2, d3] => { results := [.lit (.bool true)], args := [d1, d2, d3] }
  | _ => none }
def orderLongestRow : OpenClaim := { program := "ytophlodlencgiaa", sum := "dcb94a6cbe241bd555f0d97920f0a28a90fac6dc482aadb3b22894e21f4270d2", func := "switchyard/switchyardlaw21.OrderLongest", spec := "orderLongest", unfollowed := true, recurses := true, plainKeys := false, apart := false }
def OrderLongestSaid : Prop := orderLongestRow.holds Try.pinned (OpenSpec.ofChange orderLongestSpec)

/-- ITS FALSE NEIGHBOUR: 'it returns false'. Refute it at one input. -/
def orderLongestWrong : ChangeSpec := { name := "orderLongest", fn := fun _ => fun
  | [d1, d2, d3] => { results := [.lit (.bool false)], args := [d1, d2, d3] }
  | _ => none }
def OrderLongestWrongFalsely : Prop := orderLongestRow.holds Try.pinned (OpenSpec.ofChange orderLongestWrong)

/- THE SECOND FORM. 'bulk': how many values and letters a reading holds, each counted each time it is reached (what is shared counts as often as it is met; a slice's spare places count too). A statement '..UptoSaid' is the law's where the arguments, and the package variables that the reading takes, are together of bulk at most 1048576: NARROWER than '..Said'. Prove '..Said' where nothing that the law and all that it calls make is longer than what came in: it says more and counts as full. Else prove '..UptoSaid'. A law counts once. -/
mutual
def uptoBulk {H : Type} : DataW H → Nat
  | .lit (.string bytes) => bytes.length + 1
  | .lit _ => 1
  | .nil => 1
  | .ptr d => uptoBulk d + 1
  | .slice elems spare => uptoBulkAll elems + uptoBulkAll spare + 1
  | .agg parts => uptoBulkAll parts + 1
  | .iface _ d => uptoBulk d + 1
  | .map entries => uptoBulkEntries entries + 1
  | .held _ => 1
def uptoBulkAll {H : Type} : List (DataW H) → Nat
  | [] => 0
  | d :: r => uptoBulk d + uptoBulkAll r
def uptoBulkEntries {H : Type} : List (Lit × DataW H) → Nat
  | [] => 0
  | x :: r => uptoBulkEntry x + uptoBulkEntries r
def uptoBulkEntry {H : Type} : Lit × DataW H → Nat
  | (.string bytes, d) => bytes.length + uptoBulk d + 1
  | (_, d) => uptoBulk d + 1
 end
def uptoSmall : (H : Type) → List (DataW H) → Bool := fun _ ds => decide (uptoBulkAll ds ≤ 1048576)
def OpenSpec.upto (s : _root_.Go.ChangeSpec) : _root_.Go.OpenSpec := { _root_.Go.OpenSpec.ofChange s with cond := some uptoSmall }

/-- 'switchyardlaw21.OrderFits', WHERE WHAT IT READS IS OF BULK AT MOST 1048576: true; the input reads as it did. -/
def orderFitsUptoRow : OpenClaim := { program := "ytophlodlencgiaa", sum := "dcb94a6cbe241bd555f0d97920f0a28a90fac6dc482aadb3b22894e21f4270d2", func := "switchyard/switchyardlaw21.OrderFits", spec := "orderFits", unfollowed := true, recurses := true, plainKeys := false, apart := false, narrowed := true }
def OrderFitsUptoSaid : Prop := orderFitsUptoRow.holds Try.pinned (OpenSpec.upto orderFitsSpec)

/-- 'switchyardlaw21.OrderWitness', WHERE WHAT IT READS IS OF BULK AT MOST 1048576: true; the input reads as it did. -/
def orderWitnessUptoRow : OpenClaim := { program := "ytophlodlencgiaa", sum := "dcb94a6cbe241bd555f0d97920f0a28a90fac6dc482aadb3b22894e21f4270d2", func := "switchyard/switchyardlaw21.OrderWitness", spec := "orderWitness", unfollowed := true, recurses := true, plainKeys := false, apart := false, narrowed := true }
def OrderWitnessUptoSaid : Prop := orderWitnessUptoRow.holds Try.pinned (OpenSpec.upto orderWitnessSpec)

/-- 'switchyardlaw21.OrderOne', WHERE WHAT IT READS IS OF BULK AT MOST 1048576: true; the input reads as it did. -/
def orderOneUptoRow : OpenClaim := { program := "ytophlodlencgiaa", sum := "dcb94a6cbe241bd555f0d97920f0a28a90fac6dc482aadb3b22894e21f4270d2", func := "switchyard/switchyardlaw21.OrderOne", spec := "orderOne", unfollowed := true, recurses := true, plainKeys := false, apart := false, narrowed := true }
def OrderOneUptoSaid : Prop := orderOneUptoRow.holds Try.pinned (OpenSpec.upto orderOneSpec)

/-- 'switchyardlaw25.PipePrefix', WHERE WHAT IT READS IS OF BULK AT MOST 1048576: true; the input reads as it did. -/
def pipePrefixUptoRow : OpenClaim := { program := "ytophlodlencgiaa", sum := "dcb94a6cbe241bd555f0d97920f0a28a90fac6dc482aadb3b22894e21f4270d2", func := "switchyard/switchyardlaw25.PipePrefix", spec := "pipePrefix", unfollowed := true, recurses := true, plainKeys := false, apart := false, narrowed := true }
def PipePrefixUptoSaid : Prop := pipePrefixUptoRow.holds Try.pinned (OpenSpec.upto pipePrefixSpec)

/-- 'switchyardlaw25.PipePlays', WHERE WHAT IT READS IS OF BULK AT MOST 1048576: true; the input reads as it did. -/
def pipePlaysUptoRow : OpenClaim := { program := "ytophlodlencgiaa", sum := "dcb94a6cbe241bd555f0d97920f0a28a90fac6dc482aadb3b22894e21f4270d2", func := "switchyard/switchyardlaw25.PipePlays", spec := "pipePlays", unfollowed := true, recurses := true, plainKeys := false, apart := false, narrowed := true }
def PipePlaysUptoSaid : Prop := pipePlaysUptoRow.holds Try.pinned (OpenSpec.upto pipePlaysSpec)

/-- 'switchyardlaw25.PipeNobody', WHERE WHAT IT READS IS OF BULK AT MOST 1048576: true; the input reads as it did. -/
def pipeNobodyUptoRow : OpenClaim := { program := "ytophlodlencgiaa", sum := "dcb94a6cbe241bd555f0d97920f0a28a90fac6dc482aadb3b22894e21f4270d2", func := "switchyard/switchyardlaw25.PipeNobody", spec := "pipeNobody", unfollowed := true, recurses := true, plainKeys := false, apart := false, narrowed := true }
def PipeNobodyUptoSaid : Prop := pipeNobodyUptoRow.holds Try.pinned (OpenSpec.upto pipeNobodySpec)

/-- 'switchyardlaw25.PipeCounts', WHERE WHAT IT READS IS OF BULK AT MOST 1048576: true; the input reads as it did. -/
def pipeCountsUptoRow : OpenClaim := { program := "ytophlodlencgiaa", sum := "dcb94a6cbe241bd555f0d97920f0a28a90fac6dc482aadb3b22894e21f4270d2", func := "switchyard/switchyardlaw25.PipeCounts", spec := "pipeCounts", unfollowed := true, recurses := true, plainKeys := false, apart := false, narrowed := true }
def PipeCountsUptoSaid : Prop := pipeCountsUptoRow.holds Try.pinned (OpenSpec.upto pipeCountsSpec)

/-- 'switchyardlaw21.OrderLongest', WHERE WHAT IT READS IS OF BULK AT MOST 1048576: true; the input reads as it did. -/
def orderLongestUptoRow : OpenClaim := { program := "ytophlodlencgiaa", sum := "dcb94a6cbe241bd555f0d97920f0a28a90fac6dc482aadb3b22894e21f4270d2", func := "switchyard/switchyardlaw21.OrderLongest", spec := "orderLongest", unfollowed := true, recurses := true, plainKeys := false, apart := false, narrowed := true }
def OrderLongestUptoSaid : Prop := orderLongestUptoRow.holds Try.pinned (OpenSpec.upto orderLongestSpec)

end Rows
end Go.Proofs.Ytophlodlencgiaa
