/-
  No cell of these rows narrows 'for every input' (looked for: loops, veiled, ifaces, maps, wideKeys, modest, calm, conditions, laid).
  DERIVED. THE GIVEN ROWS OF THIS SEAT. 12 by the template 'for every input the law returns true; each argument reads behind the call as it read before'; 0 by the template 'total and deterministic' (their statements: YthcccgeeccjfiaaTotals.lean).
  GIVEN WITH THE SEED: the statements are not yours to turn. If you find one false, say at which input.
  Laid BY PROGRAM, IN A SANDBOX (cutbox-rows.mjs): the forced cells as the released guide's own fill.sh prints them over the translation ed4b43c8a03d0d89… (all of the seat's roots in one cut). By AI agents, Wed Nov 11 2026. No macro, syntax, notation, axiom, sorry.
-/
import Derived.Test.YthcccgeeccjfiaaChecked
import GoSem.Claim
import GoSem.ClaimJoined
import GoSem.ClaimMapViews
import Derived.JoinedTies
import Derived.KernelRfl
namespace Go.Proofs.Ythcccgeeccjfiaa
/- THE CELL 'sum', in the pinned program and in every row, IS THE sha256 OF THE DUMP (.gsa) THAT YthcccgeeccjfiaaProg.lean LOADS. Nothing in Lean hashes anything: it is a label: what it is worth is what the hold of that sum in a sandbox is worth. -/
noncomputable def Try.pinned : Pinned := { name := "ythcccgeeccjfiaa", sum := "ed4b43c8a03d0d89bad54c1aedee8504d789acf5acbb51587cc404b69523594b", checked := Try.checked }
namespace Rows
def none {H : Type} : Left H := { results := [], args := [] }

/-- 'laws.FnExactLoadOf': WHATEVER THE INPUT: true; the input reads as it did. -/
def fnExactLoadOfSpec : ChangeSpec := { name := "fnExactLoadOf", fn := fun _ => fun
  | [d] => { results := [.lit (.bool true)], args := [d] }
  | _ => none }
def fnExactLoadOfRow : OpenClaim := { program := "ythcccgeeccjfiaa", sum := "ed4b43c8a03d0d89bad54c1aedee8504d789acf5acbb51587cc404b69523594b", func := "loop.example/g01404/laws.FnExactLoadOf", spec := "fnExactLoadOf", apart := false }
def FnExactLoadOfSaid : Prop := fnExactLoadOfRow.holds Try.pinned (OpenSpec.ofChange fnExactLoadOfSpec)

/-- ITS FALSE NEIGHBOUR: 'it returns false'. Refute it at one input. -/
def fnExactLoadOfWrong : ChangeSpec := { name := "fnExactLoadOf", fn := fun _ => fun
  | [d] => { results := [.lit (.bool false)], args := [d] }
  | _ => none }
def FnExactLoadOfWrongFalsely : Prop := fnExactLoadOfRow.holds Try.pinned (OpenSpec.ofChange fnExactLoadOfWrong)

/-- 'laws.FnExactWholePeriod': WHATEVER THE INPUT: true; the input reads as it did. -/
def fnExactWholePeriodSpec : ChangeSpec := { name := "fnExactWholePeriod", fn := fun _ => fun
  | [d] => { results := [.lit (.bool true)], args := [d] }
  | _ => none }
def fnExactWholePeriodRow : OpenClaim := { program := "ythcccgeeccjfiaa", sum := "ed4b43c8a03d0d89bad54c1aedee8504d789acf5acbb51587cc404b69523594b", func := "loop.example/g01404/laws.FnExactWholePeriod", spec := "fnExactWholePeriod", apart := false }
def FnExactWholePeriodSaid : Prop := fnExactWholePeriodRow.holds Try.pinned (OpenSpec.ofChange fnExactWholePeriodSpec)

/-- ITS FALSE NEIGHBOUR: 'it returns false'. Refute it at one input. -/
def fnExactWholePeriodWrong : ChangeSpec := { name := "fnExactWholePeriod", fn := fun _ => fun
  | [d] => { results := [.lit (.bool false)], args := [d] }
  | _ => none }
def FnExactWholePeriodWrongFalsely : Prop := fnExactWholePeriodRow.holds Try.pinned (OpenSpec.ofChange fnExactWholePeriodWrong)

/-- 'laws.FnExactDeadlineTurns': WHATEVER THE INPUT: true; the input reads as it did. -/
def fnExactDeadlineTurnsSpec : ChangeSpec := { name := "fnExactDeadlineTurns", fn := fun _ => fun
  | [d1, d2] => { results := [.lit (.bool true)], args := [d1, d2] }
  | _ => none }
def fnExactDeadlineTurnsRow : OpenClaim := { program := "ythcccgeeccjfiaa", sum := "ed4b43c8a03d0d89bad54c1aedee8504d789acf5acbb51587cc404b69523594b", func := "loop.example/g01404/laws.FnExactDeadlineTurns", spec := "fnExactDeadlineTurns", unfollowed := true, recurses := true, apart := false }
def FnExactDeadlineTurnsSaid : Prop := fnExactDeadlineTurnsRow.holds Try.pinned (OpenSpec.ofChange fnExactDeadlineTurnsSpec)

/-- ITS FALSE NEIGHBOUR: 'it returns false'. Refute it at one input. -/
def fnExactDeadlineTurnsWrong : ChangeSpec := { name := "fnExactDeadlineTurns", fn := fun _ => fun
  | [d1, d2] => { results := [.lit (.bool false)], args := [d1, d2] }
  | _ => none }
def FnExactDeadlineTurnsWrongFalsely : Prop := fnExactDeadlineTurnsRow.holds Try.pinned (OpenSpec.ofChange fnExactDeadlineTurnsWrong)

/-- 'laws.FnExactLeastDifference': WHATEVER THE INPUT: true; the input reads as it did. -/
def fnExactLeastDifferenceSpec : ChangeSpec := { name := "fnExactLeastDifference", fn := fun _ => fun
  | [d] => { results := [.lit (.bool true)], args := [d] }
  | _ => none }
def fnExactLeastDifferenceRow : OpenClaim := { program := "ythcccgeeccjfiaa", sum := "ed4b43c8a03d0d89bad54c1aedee8504d789acf5acbb51587cc404b69523594b", func := "loop.example/g01404/laws.FnExactLeastDifference", spec := "fnExactLeastDifference", unfollowed := true, recurses := true, apart := false }
def FnExactLeastDifferenceSaid : Prop := fnExactLeastDifferenceRow.holds Try.pinned (OpenSpec.ofChange fnExactLeastDifferenceSpec)

/-- ITS FALSE NEIGHBOUR: 'it returns false'. Refute it at one input. -/
def fnExactLeastDifferenceWrong : ChangeSpec := { name := "fnExactLeastDifference", fn := fun _ => fun
  | [d] => { results := [.lit (.bool false)], args := [d] }
  | _ => none }
def FnExactLeastDifferenceWrongFalsely : Prop := fnExactLeastDifferenceRow.holds Try.pinned (OpenSpec.ofChange fnExactLeastDifferenceWrong)

/-- 'laws.FnExactDistancesFrom': WHATEVER THE INPUT: true; the input reads as it did. -/
def fnExactDistancesFromSpec : ChangeSpec := { name := "fnExactDistancesFrom", fn := fun _ => fun
  | [d1, d2] => { results := [.lit (.bool true)], args := [d1, d2] }
  | _ => none }
def fnExactDistancesFromRow : OpenClaim := { program := "ythcccgeeccjfiaa", sum := "ed4b43c8a03d0d89bad54c1aedee8504d789acf5acbb51587cc404b69523594b", func := "loop.example/g01404/laws.FnExactDistancesFrom", spec := "fnExactDistancesFrom", apart := false }
def FnExactDistancesFromSaid : Prop := fnExactDistancesFromRow.holds Try.pinned (OpenSpec.ofChange fnExactDistancesFromSpec)

/-- ITS FALSE NEIGHBOUR: 'it returns false'. Refute it at one input. -/
def fnExactDistancesFromWrong : ChangeSpec := { name := "fnExactDistancesFrom", fn := fun _ => fun
  | [d1, d2] => { results := [.lit (.bool false)], args := [d1, d2] }
  | _ => none }
def FnExactDistancesFromWrongFalsely : Prop := fnExactDistancesFromRow.holds Try.pinned (OpenSpec.ofChange fnExactDistancesFromWrong)

/-- 'laws.FnExactDifferenceAt': WHATEVER THE INPUT: true; the input reads as it did. -/
def fnExactDifferenceAtSpec : ChangeSpec := { name := "fnExactDifferenceAt", fn := fun _ => fun
  | [d1, d2, d3] => { results := [.lit (.bool true)], args := [d1, d2, d3] }
  | _ => none }
def fnExactDifferenceAtRow : OpenClaim := { program := "ythcccgeeccjfiaa", sum := "ed4b43c8a03d0d89bad54c1aedee8504d789acf5acbb51587cc404b69523594b", func := "loop.example/g01404/laws.FnExactDifferenceAt", spec := "fnExactDifferenceAt", unfollowed := true, recurses := true, apart := false }
def FnExactDifferenceAtSaid : Prop := fnExactDifferenceAtRow.holds Try.pinned (OpenSpec.ofChange fnExactDifferenceAtSpec)

/-- ITS FALSE NEIGHBOUR: 'it returns false'. Refute it at one input. -/
def fnExactDifferenceAtWrong : ChangeSpec := { name := "fnExactDifferenceAt", fn := fun _ => fun
  | [d1, d2, d3] => { results := [.lit (.bool false)], args := [d1, d2, d3] }
  | _ => none }
def FnExactDifferenceAtWrongFalsely : Prop := fnExactDifferenceAtRow.holds Try.pinned (OpenSpec.ofChange fnExactDifferenceAtWrong)

/-- 'laws.FnExactGreatestDifference': WHATEVER THE INPUT: true; the input reads as it did. -/
def fnExactGreatestDifferenceSpec : ChangeSpec := { name := "fnExactGreatestDifference", fn := fun _ => fun
  | [d] => { results := [.lit (.bool true)], args := [d] }
  | _ => none }
def fnExactGreatestDifferenceRow : OpenClaim := { program := "ythcccgeeccjfiaa", sum := "ed4b43c8a03d0d89bad54c1aedee8504d789acf5acbb51587cc404b69523594b", func := "loop.example/g01404/laws.FnExactGreatestDifference", spec := "fnExactGreatestDifference", unfollowed := true, recurses := true, apart := false }
def FnExactGreatestDifferenceSaid : Prop := fnExactGreatestDifferenceRow.holds Try.pinned (OpenSpec.ofChange fnExactGreatestDifferenceSpec)

/-- ITS FALSE NEIGHBOUR: 'it returns false'. Refute it at one input. -/
def fnExactGreatestDifferenceWrong : ChangeSpec := { name := "fnExactGreatestDifference", fn := fun _ => fun
  | [d] => { results := [.lit (.bool false)], args := [d] }
  | _ => none }
def FnExactGreatestDifferenceWrongFalsely : Prop := fnExactGreatestDifferenceRow.holds Try.pinned (OpenSpec.ofChange fnExactGreatestDifferenceWrong)

/-- 'laws.FnExactSquaresOf': WHATEVER THE INPUT: true; the input reads as it did. -/
def fnExactSquaresOfSpec : ChangeSpec := { name := "fnExactSquaresOf", fn := fun _ => fun
  | [d] => { results := [.lit (.bool true)], args := [d] }
  | _ => none }
def fnExactSquaresOfRow : OpenClaim := { program := "ythcccgeeccjfiaa", sum := "ed4b43c8a03d0d89bad54c1aedee8504d789acf5acbb51587cc404b69523594b", func := "loop.example/g01404/laws.FnExactSquaresOf", spec := "fnExactSquaresOf", unfollowed := true, recurses := true, apart := false }
def FnExactSquaresOfSaid : Prop := fnExactSquaresOfRow.holds Try.pinned (OpenSpec.ofChange fnExactSquaresOfSpec)

/-- ITS FALSE NEIGHBOUR: 'it returns false'. Refute it at one input. -/
def fnExactSquaresOfWrong : ChangeSpec := { name := "fnExactSquaresOf", fn := fun _ => fun
  | [d] => { results := [.lit (.bool false)], args := [d] }
  | _ => none }
def FnExactSquaresOfWrongFalsely : Prop := fnExactSquaresOfRow.holds Try.pinned (OpenSpec.ofChange fnExactSquaresOfWrong)

/-- 'laws.FnExactRoomOf': WHATEVER THE INPUT: true; the input reads as it did. -/
def fnExactRoomOfSpec : ChangeSpec := { name := "fnExactRoomOf", fn := fun _ => fun
  | [d] => { results := [.lit (.bool true)], args := [d] }
  | _ => none }
def fnExactRoomOfRow : OpenClaim := { program := "ythcccgeeccjfiaa", sum := "ed4b43c8a03d0d89bad54c1aedee8504d789acf5acbb51587cc404b69523594b", func := "loop.example/g01404/laws.FnExactRoomOf", spec := "fnExactRoomOf", apart := false }
def FnExactRoomOfSaid : Prop := fnExactRoomOfRow.holds Try.pinned (OpenSpec.ofChange fnExactRoomOfSpec)

/-- ITS FALSE NEIGHBOUR: 'it returns false'. Refute it at one input. -/
def fnExactRoomOfWrong : ChangeSpec := { name := "fnExactRoomOf", fn := fun _ => fun
  | [d] => { results := [.lit (.bool false)], args := [d] }
  | _ => none }
def FnExactRoomOfWrongFalsely : Prop := fnExactRoomOfRow.holds Try.pinned (OpenSpec.ofChange fnExactRoomOfWrong)

/-- 'laws.FnExactClashesOf': WHATEVER THE INPUT: true; the input reads as it did. -/
def fnExactClashesOfSpec : ChangeSpec := { name := "fnExactClashesOf", fn := fun _ => fun
  | [d1, d2] => { results := [.lit (.bool true)], args := [d1, d2] }
  | _ => none }
def fnExactClashesOfRow : OpenClaim := { program := "ythcccgeeccjfiaa", sum := "ed4b43c8a03d0d89bad54c1aedee8504d789acf5acbb51587cc404b69523594b", func := "loop.example/g01404/laws.FnExactClashesOf", spec := "fnExactClashesOf", unfollowed := true, recurses := true, apart := false }
def FnExactClashesOfSaid : Prop := fnExactClashesOfRow.holds Try.pinned (OpenSpec.ofChange fnExactClashesOfSpec)

/-- ITS FALSE NEIGHBOUR: 'it returns false'. Refute it at one input. -/
def fnExactClashesOfWrong : ChangeSpec := { name := "fnExactClashesOf", fn := fun _ => fun
  | [d1, d2] => { results := [.lit (.bool false)], args := [d1, d2] }
  | _ => none }
def FnExactClashesOfWrongFalsely : Prop := fnExactClashesOfRow.holds Try.pinned (OpenSpec.ofChange fnExactClashesOfWrong)

/-- 'laws.FnExactHandOvers': WHATEVER THE INPUT: true; the input reads as it did. -/
def fnExactHandOversSpec : ChangeSpec := { name := "fnExactHandOvers", fn := fun _ => fun
  | [d1, d2, d3] => { results := [.lit (.bool true)], args := [d1, d2, d3] }
  | _ => none }
def fnExactHandOversRow : OpenClaim := { program := "ythcccgeeccjfiaa", sum := "ed4b43c8a03d0d89bad54c1aedee8504d789acf5acbb51587cc404b69523594b", func := "loop.example/g01404/laws.FnExactHandOvers", spec := "fnExactHandOvers", unfollowed := true, recurses := true, apart := false }
def FnExactHandOversSaid : Prop := fnExactHandOversRow.holds Try.pinned (OpenSpec.ofChange fnExactHandOversSpec)

/-- ITS FALSE NEIGHBOUR: 'it returns false'. Refute it at one input. -/
def fnExactHandOversWrong : ChangeSpec := { name := "fnExactHandOvers", fn := fun _ => fun
  | [d1, d2, d3] => { results := [.lit (.bool false)], args := [d1, d2, d3] }
  | _ => none }
def FnExactHandOversWrongFalsely : Prop := fnExactHandOversRow.holds Try.pinned (OpenSpec.ofChange fnExactHandOversWrong)

/-- 'laws.FnExactShortestRound': WHATEVER THE INPUT: true; the input reads as it did. -/
def fnExactShortestRoundSpec : ChangeSpec := { name := "fnExactShortestRound", fn := fun _ => fun
  | [d] => { results := [.lit (.bool true)], args := [d] }
  | _ => none }
def fnExactShortestRoundRow : OpenClaim := { program := "ythcccgeeccjfiaa", sum := "ed4b43c8a03d0d89bad54c1aedee8504d789acf5acbb51587cc404b69523594b", func := "loop.example/g01404/laws.FnExactShortestRound", spec := "fnExactShortestRound", recurses := true, apart := false }
def FnExactShortestRoundSaid : Prop := fnExactShortestRoundRow.holds Try.pinned (OpenSpec.ofChange fnExactShortestRoundSpec)

/-- ITS FALSE NEIGHBOUR: 'it returns false'. Refute it at one input. -/
def fnExactShortestRoundWrong : ChangeSpec := { name := "fnExactShortestRound", fn := fun _ => fun
  | [d] => { results := [.lit (.bool false)], args := [d] }
  | _ => none }
def FnExactShortestRoundWrongFalsely : Prop := fnExactShortestRoundRow.holds Try.pinned (OpenSpec.ofChange fnExactShortestRoundWrong)

/- THE SECOND FORM. 'bulk': how many values and letters a reading holds, each counted each time it is reached (what is shared counts as often as it is met; a slice's spare places count too). A statement '..UptoSaid' is the law's where the arguments, and the package variables that the reading takes, are together of bulk at most 1048576: NARROWER than '..Said'. Prove '..Said' where nothing that the law and all that it calls make is longer than what came in: it says more and counts as full. Else prove '..UptoSaid'. A law counts once. -/
mutual
def uptoBulk {H : Type} : DataW H → Nat
  | .lit (.string bytes) => bytes.length + 1
  | .lit _ => 1
  | .nil => 1
  | .ptr d => uptoBulk d + 1
  | .slice elems spare => uptoBulkAll elems + uptoBulkAll spare + 1
  | .agg parts => uptoBulkAll parts + 1
  | .iface _ d => uptoBulk d + 1
  | .map entries => uptoBulkEntries entries + 1
  | .held _ => 1
def uptoBulkAll {H : Type} : List (DataW H) → Nat
  | [] => 0
  | d :: r => uptoBulk d + uptoBulkAll r
def uptoBulkEntries {H : Type} : List (Lit × DataW H) → Nat
  | [] => 0
  | x :: r => uptoBulkEntry x + uptoBulkEntries r
def uptoBulkEntry {H : Type} : Lit × DataW H → Nat
  | (.string bytes, d) => bytes.length + uptoBulk d + 1
  | (_, d) => uptoBulk d + 1
 end
def uptoSmall : (H : Type) → List (DataW H) → Bool := fun _ ds => decide (uptoBulkAll ds ≤ 1048576)
def OpenSpec.upto (s : _root_.Go.ChangeSpec) : _root_.Go.OpenSpec := { _root_.Go.OpenSpec.ofChange s with cond := some uptoSmall }

/-- 'laws.FnExactLoadOf', WHERE WHAT IT READS IS OF BULK AT MOST 1048576: true; the input reads as it did. -/
def fnExactLoadOfUptoRow : OpenClaim := { program := "ythcccgeeccjfiaa", sum := "ed4b43c8a03d0d89bad54c1aedee8504d789acf5acbb51587cc404b69523594b", func := "loop.example/g01404/laws.FnExactLoadOf", spec := "fnExactLoadOf", apart := false, narrowed := true }
def FnExactLoadOfUptoSaid : Prop := fnExactLoadOfUptoRow.holds Try.pinned (OpenSpec.upto fnExactLoadOfSpec)

/-- 'laws.FnExactWholePeriod', WHERE WHAT IT READS IS OF BULK AT MOST 1048576: true; the input reads as it did. -/
def fnExactWholePeriodUptoRow : OpenClaim := { program := "ythcccgeeccjfiaa", sum := "ed4b43c8a03d0d89bad54c1aedee8504d789acf5acbb51587cc404b69523594b", func := "loop.example/g01404/laws.FnExactWholePeriod", spec := "fnExactWholePeriod", apart := false, narrowed := true }
def FnExactWholePeriodUptoSaid : Prop := fnExactWholePeriodUptoRow.holds Try.pinned (OpenSpec.upto fnExactWholePeriodSpec)

/-- 'laws.FnExactDeadlineTurns', WHERE WHAT IT READS IS OF BULK AT MOST 1048576: true; the input reads as it did. -/
def fnExactDeadlineTurnsUptoRow : OpenClaim := { program := "ythcccgeeccjfiaa", sum := "ed4b43c8a03d0d89bad54c1aedee8504d789acf5acbb51587cc404b69523594b", func := "loop.example/g01404/laws.FnExactDeadlineTurns", spec := "fnExactDeadlineTurns", unfollowed := true, recurses := true, apart := false, narrowed := true }
def FnExactDeadlineTurnsUptoSaid : Prop := fnExactDeadlineTurnsUptoRow.holds Try.pinned (OpenSpec.upto fnExactDeadlineTurnsSpec)

/-- 'laws.FnExactLeastDifference', WHERE WHAT IT READS IS OF BULK AT MOST 1048576: true; the input reads as it did. -/
def fnExactLeastDifferenceUptoRow : OpenClaim := { program := "ythcccgeeccjfiaa", sum := "ed4b43c8a03d0d89bad54c1aedee8504d789acf5acbb51587cc404b69523594b", func := "loop.example/g01404/laws.FnExactLeastDifference", spec := "fnExactLeastDifference", unfollowed := true, recurses := true, apart := false, narrowed := true }
def FnExactLeastDifferenceUptoSaid : Prop := fnExactLeastDifferenceUptoRow.holds Try.pinned (OpenSpec.upto fnExactLeastDifferenceSpec)

/-- 'laws.FnExactDistancesFrom', WHERE WHAT IT READS IS OF BULK AT MOST 1048576: true; the input reads as it did. -/
def fnExactDistancesFromUptoRow : OpenClaim := { program := "ythcccgeeccjfiaa", sum := "ed4b43c8a03d0d89bad54c1aedee8504d789acf5acbb51587cc404b69523594b", func := "loop.example/g01404/laws.FnExactDistancesFrom", spec := "fnExactDistancesFrom", apart := false, narrowed := true }
def FnExactDistancesFromUptoSaid : Prop := fnExactDistancesFromUptoRow.holds Try.pinned (OpenSpec.upto fnExactDistancesFromSpec)

/-- 'laws.FnExactDifferenceAt', WHERE WHAT IT READS IS OF BULK AT MOST 1048576: true; the input reads as it did. -/
def fnExactDifferenceAtUptoRow : OpenClaim := { program := "ythcccgeeccjfiaa", sum := "ed4b43c8a03d0d89bad54c1aedee8504d789acf5acbb51587cc404b69523594b", func := "loop.example/g01404/laws.FnExactDifferenceAt", spec := "fnExactDifferenceAt", unfollowed := true, recurses := true, apart := false, narrowed := true }
def FnExactDifferenceAtUptoSaid : Prop := fnExactDifferenceAtUptoRow.holds Try.pinned (OpenSpec.upto fnExactDifferenceAtSpec)

/-- 'laws.FnExactGreatestDifference', WHERE WHAT IT READS IS OF BULK AT MOST 1048576: true; the input reads as it did. -/
def fnExactGreatestDifferenceUptoRow : OpenClaim := { program := "ythcccgeeccjfiaa", sum := "ed4b43c8a03d0d89bad54c1aedee8504d789acf5acbb51587cc404b69523594b", func := "loop.example/g01404/laws.FnExactGreatestDifference", spec := "fnExactGreatestDifference", unfollowed := true, recurses := true, apart := false, narrowed := true }
def FnExactGreatestDifferenceUptoSaid : Prop := fnExactGreatestDifferenceUptoRow.holds Try.pinned (OpenSpec.upto fnExactGreatestDifferenceSpec)

/-- 'laws.FnExactSquaresOf', WHERE WHAT IT READS IS OF BULK AT MOST 1048576: true; the input reads as it did. -/
def fnExactSquaresOfUptoRow : OpenClaim := { program := "ythcccgeeccjfiaa", sum := "ed4b43c8a03d0d89bad54c1aedee8504d789acf5acbb51587cc404b69523594b", func := "loop.example/g01404/laws.FnExactSquaresOf", spec := "fnExactSquaresOf", unfollowed := true, recurses := true, apart := false, narrowed := true }
def FnExactSquaresOfUptoSaid : Prop := fnExactSquaresOfUptoRow.holds Try.pinned (OpenSpec.upto fnExactSquaresOfSpec)

/-- 'laws.FnExactRoomOf', WHERE WHAT IT READS IS OF BULK AT MOST 1048576: true; the input reads as it did. -/
def fnExactRoomOfUptoRow : OpenClaim := { program := "ythcccgeeccjfiaa", sum := "ed4b43c8a03d0d89bad54c1aedee8504d789acf5acbb51587cc404b69523594b", func := "loop.example/g01404/laws.FnExactRoomOf", spec := "fnExactRoomOf", apart := false, narrowed := true }
def FnExactRoomOfUptoSaid : Prop := fnExactRoomOfUptoRow.holds Try.pinned (OpenSpec.upto fnExactRoomOfSpec)

/-- 'laws.FnExactClashesOf', WHERE WHAT IT READS IS OF BULK AT MOST 1048576: true; the input reads as it did. -/
def fnExactClashesOfUptoRow : OpenClaim := { program := "ythcccgeeccjfiaa", sum := "ed4b43c8a03d0d89bad54c1aedee8504d789acf5acbb51587cc404b69523594b", func := "loop.example/g01404/laws.FnExactClashesOf", spec := "fnExactClashesOf", unfollowed := true, recurses := true, apart := false, narrowed := true }
def FnExactClashesOfUptoSaid : Prop := fnExactClashesOfUptoRow.holds Try.pinned (OpenSpec.upto fnExactClashesOfSpec)

/-- 'laws.FnExactHandOvers', WHERE WHAT IT READS IS OF BULK AT MOST 1048576: true; the input reads as it did. -/
def fnExactHandOversUptoRow : OpenClaim := { program := "ythcccgeeccjfiaa", sum := "ed4b43c8a03d0d89bad54c1aedee8504d789acf5acbb51587cc404b69523594b", func := "loop.example/g01404/laws.FnExactHandOvers", spec := "fnExactHandOvers", unfollowed := true, recurses := true, apart := false, narrowed := true }
def FnExactHandOversUptoSaid : Prop := fnExactHandOversUptoRow.holds Try.pinned (OpenSpec.upto fnExactHandOversSpec)

/-- 'laws.FnExactShortestRound', WHERE WHAT IT READS IS OF BULK AT MOST 1048576: true; the input reads as it did. -/
def fnExactShortestRoundUptoRow : OpenClaim := { program := "ythcccgeeccjfiaa", sum := "ed4b43c8a03d0d89bad54c1aedee8504d789acf5acbb51587cc404b69523594b", func := "loop.example/g01404/laws.FnExactShortestRound", spec := "fnExactShortestRound", recurses := true, apart := false, narrowed := true }
def FnExactShortestRoundUptoSaid : Prop := fnExactShortestRoundUptoRow.holds Try.pinned (OpenSpec.upto fnExactShortestRoundSpec)

end Rows
end Go.Proofs.Ythcccgeeccjfiaa
