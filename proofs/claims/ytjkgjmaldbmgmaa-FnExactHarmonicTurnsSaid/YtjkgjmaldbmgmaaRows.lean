/-
  No cell of these rows narrows 'for every input' (looked for: loops, veiled, ifaces, maps, wideKeys, modest, calm, conditions, laid).
  DERIVED. THE GIVEN ROWS OF THIS SEAT. 12 by the template 'for every input the law returns true; each argument reads behind the call as it read before'; 0 by the template 'total and deterministic' (their statements: YtjkgjmaldbmgmaaTotals.lean).
  GIVEN WITH THE SEED: the statements are not yours to turn. If you find one false, say at which input.
  Laid BY PROGRAM, IN A SANDBOX (cutbox-rows.mjs): the forced cells as the released guide's own fill.sh prints them over the translation 908b7cc28b5484aa… (all of the seat's roots in one cut). By AI agents, Wed Nov 11 2026. No macro, syntax, notation, axiom, sorry.
-/
import Derived.Test.YtjkgjmaldbmgmaaChecked
import GoSem.Claim
import GoSem.ClaimJoined
import GoSem.ClaimMapViews
import Derived.JoinedTies
import Derived.KernelRfl
namespace Go.Proofs.Ytjkgjmaldbmgmaa
/- THE CELL 'sum', in the pinned program and in every row, IS THE sha256 OF THE DUMP (.gsa) THAT YtjkgjmaldbmgmaaProg.lean LOADS. Nothing in Lean hashes anything: it is a label: what it is worth is what the hold of that sum in a sandbox is worth. -/
noncomputable def Try.pinned : Pinned := { name := "ytjkgjmaldbmgmaa", sum := "908b7cc28b5484aa6b003738a6b7e0744d9f7b710452b1ab6b1318128910dfb7", checked := Try.checked }
namespace Rows
def none {H : Type} : Left H := { results := [], args := [] }

/-- 'laws.FnExactAreBalanced': WHATEVER THE INPUT: true; the input reads as it did. -/
def fnExactAreBalancedSpec : ChangeSpec := { name := "fnExactAreBalanced", fn := fun _ => fun
  | [d] => { results := [.lit (.bool true)], args := [d] }
  | _ => none }
def fnExactAreBalancedRow : OpenClaim := { program := "ytjkgjmaldbmgmaa", sum := "908b7cc28b5484aa6b003738a6b7e0744d9f7b710452b1ab6b1318128910dfb7", func := "loop.example/g01404/laws.FnExactAreBalanced", spec := "fnExactAreBalanced", unfollowed := true, recurses := true, apart := false }
def FnExactAreBalancedSaid : Prop := fnExactAreBalancedRow.holds Try.pinned (OpenSpec.ofChange fnExactAreBalancedSpec)

/-- ITS FALSE NEIGHBOUR: 'it returns false'. Refute it at one input. -/
def fnExactAreBalancedWrong : ChangeSpec := { name := "fnExactAreBalanced", fn := fun _ => fun
  | [d] => { results := [.lit (.bool false)], args := [d] }
  | _ => none }
def FnExactAreBalancedWrongFalsely : Prop := fnExactAreBalancedRow.holds Try.pinned (OpenSpec.ofChange fnExactAreBalancedWrong)

/-- 'laws.FnExactCanMeet': WHATEVER THE INPUT: true; the input reads as it did. -/
def fnExactCanMeetSpec : ChangeSpec := { name := "fnExactCanMeet", fn := fun _ => fun
  | [d] => { results := [.lit (.bool true)], args := [d] }
  | _ => none }
def fnExactCanMeetRow : OpenClaim := { program := "ytjkgjmaldbmgmaa", sum := "908b7cc28b5484aa6b003738a6b7e0744d9f7b710452b1ab6b1318128910dfb7", func := "loop.example/g01404/laws.FnExactCanMeet", spec := "fnExactCanMeet", apart := false }
def FnExactCanMeetSaid : Prop := fnExactCanMeetRow.holds Try.pinned (OpenSpec.ofChange fnExactCanMeetSpec)

/-- ITS FALSE NEIGHBOUR: 'it returns false'. Refute it at one input. -/
def fnExactCanMeetWrong : ChangeSpec := { name := "fnExactCanMeet", fn := fun _ => fun
  | [d] => { results := [.lit (.bool false)], args := [d] }
  | _ => none }
def FnExactCanMeetWrongFalsely : Prop := fnExactCanMeetRow.holds Try.pinned (OpenSpec.ofChange fnExactCanMeetWrong)

/-- 'laws.FnExactFirstLate': WHATEVER THE INPUT: true; the input reads as it did. -/
def fnExactFirstLateSpec : ChangeSpec := { name := "fnExactFirstLate", fn := fun _ => fun
  | [d] => { results := [.lit (.bool true)], args := [d] }
  | _ => none }
def fnExactFirstLateRow : OpenClaim := { program := "ytjkgjmaldbmgmaa", sum := "908b7cc28b5484aa6b003738a6b7e0744d9f7b710452b1ab6b1318128910dfb7", func := "loop.example/g01404/laws.FnExactFirstLate", spec := "fnExactFirstLate", apart := false }
def FnExactFirstLateSaid : Prop := fnExactFirstLateRow.holds Try.pinned (OpenSpec.ofChange fnExactFirstLateSpec)

/-- ITS FALSE NEIGHBOUR: 'it returns false'. Refute it at one input. -/
def fnExactFirstLateWrong : ChangeSpec := { name := "fnExactFirstLate", fn := fun _ => fun
  | [d] => { results := [.lit (.bool false)], args := [d] }
  | _ => none }
def FnExactFirstLateWrongFalsely : Prop := fnExactFirstLateRow.holds Try.pinned (OpenSpec.ofChange fnExactFirstLateWrong)

/-- 'laws.FnExactRouteServes': WHATEVER THE INPUT: true; the input reads as it did. -/
def fnExactRouteServesSpec : ChangeSpec := { name := "fnExactRouteServes", fn := fun _ => fun
  | [d1, d2, d3] => { results := [.lit (.bool true)], args := [d1, d2, d3] }
  | _ => none }
def fnExactRouteServesRow : OpenClaim := { program := "ytjkgjmaldbmgmaa", sum := "908b7cc28b5484aa6b003738a6b7e0744d9f7b710452b1ab6b1318128910dfb7", func := "loop.example/g01404/laws.FnExactRouteServes", spec := "fnExactRouteServes", unfollowed := true, recurses := true, apart := false }
def FnExactRouteServesSaid : Prop := fnExactRouteServesRow.holds Try.pinned (OpenSpec.ofChange fnExactRouteServesSpec)

/-- ITS FALSE NEIGHBOUR: 'it returns false'. Refute it at one input. -/
def fnExactRouteServesWrong : ChangeSpec := { name := "fnExactRouteServes", fn := fun _ => fun
  | [d1, d2, d3] => { results := [.lit (.bool false)], args := [d1, d2, d3] }
  | _ => none }
def FnExactRouteServesWrongFalsely : Prop := fnExactRouteServesRow.holds Try.pinned (OpenSpec.ofChange fnExactRouteServesWrong)

/-- 'laws.FnExactBestExchange': WHATEVER THE INPUT: true; the input reads as it did. -/
def fnExactBestExchangeSpec : ChangeSpec := { name := "fnExactBestExchange", fn := fun _ => fun
  | [d] => { results := [.lit (.bool true)], args := [d] }
  | _ => none }
def fnExactBestExchangeRow : OpenClaim := { program := "ytjkgjmaldbmgmaa", sum := "908b7cc28b5484aa6b003738a6b7e0744d9f7b710452b1ab6b1318128910dfb7", func := "loop.example/g01404/laws.FnExactBestExchange", spec := "fnExactBestExchange", unfollowed := true, recurses := true, apart := false }
def FnExactBestExchangeSaid : Prop := fnExactBestExchangeRow.holds Try.pinned (OpenSpec.ofChange fnExactBestExchangeSpec)

/-- ITS FALSE NEIGHBOUR: 'it returns false'. Refute it at one input. -/
def fnExactBestExchangeWrong : ChangeSpec := { name := "fnExactBestExchange", fn := fun _ => fun
  | [d] => { results := [.lit (.bool false)], args := [d] }
  | _ => none }
def FnExactBestExchangeWrongFalsely : Prop := fnExactBestExchangeRow.holds Try.pinned (OpenSpec.ofChange fnExactBestExchangeWrong)

/-- 'laws.FnExactSpreadsOf': WHATEVER THE INPUT: true; the input reads as it did. -/
def fnExactSpreadsOfSpec : ChangeSpec := { name := "fnExactSpreadsOf", fn := fun _ => fun
  | [d] => { results := [.lit (.bool true)], args := [d] }
  | _ => none }
def fnExactSpreadsOfRow : OpenClaim := { program := "ytjkgjmaldbmgmaa", sum := "908b7cc28b5484aa6b003738a6b7e0744d9f7b710452b1ab6b1318128910dfb7", func := "loop.example/g01404/laws.FnExactSpreadsOf", spec := "fnExactSpreadsOf", unfollowed := true, recurses := true, apart := false }
def FnExactSpreadsOfSaid : Prop := fnExactSpreadsOfRow.holds Try.pinned (OpenSpec.ofChange fnExactSpreadsOfSpec)

/-- ITS FALSE NEIGHBOUR: 'it returns false'. Refute it at one input. -/
def fnExactSpreadsOfWrong : ChangeSpec := { name := "fnExactSpreadsOf", fn := fun _ => fun
  | [d] => { results := [.lit (.bool false)], args := [d] }
  | _ => none }
def FnExactSpreadsOfWrongFalsely : Prop := fnExactSpreadsOfRow.holds Try.pinned (OpenSpec.ofChange fnExactSpreadsOfWrong)

/-- 'laws.FnExactWaitsTogether': WHATEVER THE INPUT: true; the input reads as it did. -/
def fnExactWaitsTogetherSpec : ChangeSpec := { name := "fnExactWaitsTogether", fn := fun _ => fun
  | [d1, d2, d3] => { results := [.lit (.bool true)], args := [d1, d2, d3] }
  | _ => none }
def fnExactWaitsTogetherRow : OpenClaim := { program := "ytjkgjmaldbmgmaa", sum := "908b7cc28b5484aa6b003738a6b7e0744d9f7b710452b1ab6b1318128910dfb7", func := "loop.example/g01404/laws.FnExactWaitsTogether", spec := "fnExactWaitsTogether", unfollowed := true, recurses := true, apart := false }
def FnExactWaitsTogetherSaid : Prop := fnExactWaitsTogetherRow.holds Try.pinned (OpenSpec.ofChange fnExactWaitsTogetherSpec)

/-- ITS FALSE NEIGHBOUR: 'it returns false'. Refute it at one input. -/
def fnExactWaitsTogetherWrong : ChangeSpec := { name := "fnExactWaitsTogether", fn := fun _ => fun
  | [d1, d2, d3] => { results := [.lit (.bool false)], args := [d1, d2, d3] }
  | _ => none }
def FnExactWaitsTogetherWrongFalsely : Prop := fnExactWaitsTogetherRow.holds Try.pinned (OpenSpec.ofChange fnExactWaitsTogetherWrong)

/-- 'laws.FnExactSmoothTurns': WHATEVER THE INPUT: true; the input reads as it did. -/
def fnExactSmoothTurnsSpec : ChangeSpec := { name := "fnExactSmoothTurns", fn := fun _ => fun
  | [d] => { results := [.lit (.bool true)], args := [d] }
  | _ => none }
def fnExactSmoothTurnsRow : OpenClaim := { program := "ytjkgjmaldbmgmaa", sum := "908b7cc28b5484aa6b003738a6b7e0744d9f7b710452b1ab6b1318128910dfb7", func := "loop.example/g01404/laws.FnExactSmoothTurns", spec := "fnExactSmoothTurns", unfollowed := true, recurses := true, apart := false }
def FnExactSmoothTurnsSaid : Prop := fnExactSmoothTurnsRow.holds Try.pinned (OpenSpec.ofChange fnExactSmoothTurnsSpec)

/-- ITS FALSE NEIGHBOUR: 'it returns false'. Refute it at one input. -/
def fnExactSmoothTurnsWrong : ChangeSpec := { name := "fnExactSmoothTurns", fn := fun _ => fun
  | [d] => { results := [.lit (.bool false)], args := [d] }
  | _ => none }
def FnExactSmoothTurnsWrongFalsely : Prop := fnExactSmoothTurnsRow.holds Try.pinned (OpenSpec.ofChange fnExactSmoothTurnsWrong)

/-- 'laws.FnExactPutSets': WHATEVER THE INPUT: true; the input reads as it did. -/
def fnExactPutSetsSpec : ChangeSpec := { name := "fnExactPutSets", fn := fun _ => fun
  | [d1, d2, d3] => { results := [.lit (.bool true)], args := [d1, d2, d3] }
  | _ => none }
def fnExactPutSetsRow : OpenClaim := { program := "ytjkgjmaldbmgmaa", sum := "908b7cc28b5484aa6b003738a6b7e0744d9f7b710452b1ab6b1318128910dfb7", func := "loop.example/g01404/laws.FnExactPutSets", spec := "fnExactPutSets", unfollowed := true, recurses := true, apart := false }
def FnExactPutSetsSaid : Prop := fnExactPutSetsRow.holds Try.pinned (OpenSpec.ofChange fnExactPutSetsSpec)

/-- ITS FALSE NEIGHBOUR: 'it returns false'. Refute it at one input. -/
def fnExactPutSetsWrong : ChangeSpec := { name := "fnExactPutSets", fn := fun _ => fun
  | [d1, d2, d3] => { results := [.lit (.bool false)], args := [d1, d2, d3] }
  | _ => none }
def FnExactPutSetsWrongFalsely : Prop := fnExactPutSetsRow.holds Try.pinned (OpenSpec.ofChange fnExactPutSetsWrong)

/-- 'laws.FnExactFirstRests': WHATEVER THE INPUT: true; the input reads as it did. -/
def fnExactFirstRestsSpec : ChangeSpec := { name := "fnExactFirstRests", fn := fun _ => fun
  | [d] => { results := [.lit (.bool true)], args := [d] }
  | _ => none }
def fnExactFirstRestsRow : OpenClaim := { program := "ytjkgjmaldbmgmaa", sum := "908b7cc28b5484aa6b003738a6b7e0744d9f7b710452b1ab6b1318128910dfb7", func := "loop.example/g01404/laws.FnExactFirstRests", spec := "fnExactFirstRests", unfollowed := true, recurses := true, apart := false }
def FnExactFirstRestsSaid : Prop := fnExactFirstRestsRow.holds Try.pinned (OpenSpec.ofChange fnExactFirstRestsSpec)

/-- ITS FALSE NEIGHBOUR: 'it returns false'. Refute it at one input. -/
def fnExactFirstRestsWrong : ChangeSpec := { name := "fnExactFirstRests", fn := fun _ => fun
  | [d] => { results := [.lit (.bool false)], args := [d] }
  | _ => none }
def FnExactFirstRestsWrongFalsely : Prop := fnExactFirstRestsRow.holds Try.pinned (OpenSpec.ofChange fnExactFirstRestsWrong)

/-- 'laws.FnExactServeTogether': WHATEVER THE INPUT: true; the input reads as it did. -/
def fnExactServeTogetherSpec : ChangeSpec := { name := "fnExactServeTogether", fn := fun _ => fun
  | [d1, d2] => { results := [.lit (.bool true)], args := [d1, d2] }
  | _ => none }
def fnExactServeTogetherRow : OpenClaim := { program := "ytjkgjmaldbmgmaa", sum := "908b7cc28b5484aa6b003738a6b7e0744d9f7b710452b1ab6b1318128910dfb7", func := "loop.example/g01404/laws.FnExactServeTogether", spec := "fnExactServeTogether", unfollowed := true, recurses := true, apart := false }
def FnExactServeTogetherSaid : Prop := fnExactServeTogetherRow.holds Try.pinned (OpenSpec.ofChange fnExactServeTogetherSpec)

/-- ITS FALSE NEIGHBOUR: 'it returns false'. Refute it at one input. -/
def fnExactServeTogetherWrong : ChangeSpec := { name := "fnExactServeTogether", fn := fun _ => fun
  | [d1, d2] => { results := [.lit (.bool false)], args := [d1, d2] }
  | _ => none }
def FnExactServeTogetherWrongFalsely : Prop := fnExactServeTogetherRow.holds Try.pinned (OpenSpec.ofChange fnExactServeTogetherWrong)

/-- 'laws.FnExactHarmonicTurns': WHATEVER THE INPUT: true; the input reads as it did. -/
def fnExactHarmonicTurnsSpec : ChangeSpec := { name := "fnExactHarmonicTurns", fn := fun _ => fun
  | [d] => { results := [.lit (.bool true)], args := [d] }
  | _ => none }
def fnExactHarmonicTurnsRow : OpenClaim := { program := "ytjkgjmaldbmgmaa", sum := "908b7cc28b5484aa6b003738a6b7e0744d9f7b710452b1ab6b1318128910dfb7", func := "loop.example/g01404/laws.FnExactHarmonicTurns", spec := "fnExactHarmonicTurns", unfollowed := true, recurses := true, apart := false }
def FnExactHarmonicTurnsSaid : Prop := fnExactHarmonicTurnsRow.holds Try.pinned (OpenSpec.ofChange fnExactHarmonicTurnsSpec)

/-- ITS FALSE NEIGHBOUR: 'it returns false'. Refute it at one input. -/
def fnExactHarmonicTurnsWrong : ChangeSpec := { name := "fnExactHarmonicTurns", fn := fun _ => fun
  | [d] => { results := [.lit (.bool false)], args := [d] }
  | _ => none }
def FnExactHarmonicTurnsWrongFalsely : Prop := fnExactHarmonicTurnsRow.holds Try.pinned (OpenSpec.ofChange fnExactHarmonicTurnsWrong)

/- THE SECOND FORM. 'bulk': how many values and letters a reading holds, each counted each time it is reached (what is shared counts as often as it is met; a slice's spare places count too). A statement '..UptoSaid' is the law's where the arguments, and the package variables that the reading takes, are together of bulk at most 1048576: NARROWER than '..Said'. Prove '..Said' where nothing that the law and all that it calls make is longer than what came in: it says more and counts as full. Else prove '..UptoSaid'. A law counts once. -/
mutual
def uptoBulk {H : Type} : DataW H → Nat
  | .lit (.string bytes) => bytes.length + 1
  | .lit _ => 1
  | .nil => 1
  | .ptr d => uptoBulk d + 1
  | .slice elems spare => uptoBulkAll elems + uptoBulkAll spare + 1
  | .agg parts => uptoBulkAll parts + 1
  | .iface _ d => uptoBulk d + 1
  | .map entries => uptoBulkEntries entries + 1
  | .held _ => 1
def uptoBulkAll {H : Type} : List (DataW H) → Nat
  | [] => 0
  | d :: r => uptoBulk d + uptoBulkAll r
def uptoBulkEntries {H : Type} : List (Lit × DataW H) → Nat
  | [] => 0
  | x :: r => uptoBulkEntry x + uptoBulkEntries r
def uptoBulkEntry {H : Type} : Lit × DataW H → Nat
  | (.string bytes, d) => bytes.length + uptoBulk d + 1
  | (_, d) => uptoBulk d + 1
 end
def uptoSmall : (H : Type) → List (DataW H) → Bool := fun _ ds => decide (uptoBulkAll ds ≤ 1048576)
def OpenSpec.upto (s : _root_.Go.ChangeSpec) : _root_.Go.OpenSpec := { _root_.Go.OpenSpec.ofChange s with cond := some uptoSmall }

/-- 'laws.FnExactAreBalanced', WHERE WHAT IT READS IS OF BULK AT MOST 1048576: true; the input reads as it did. -/
def fnExactAreBalancedUptoRow : OpenClaim := { program := "ytjkgjmaldbmgmaa", sum := "908b7cc28b5484aa6b003738a6b7e0744d9f7b710452b1ab6b1318128910dfb7", func := "loop.example/g01404/laws.FnExactAreBalanced", spec := "fnExactAreBalanced", unfollowed := true, recurses := true, apart := false, narrowed := true }
def FnExactAreBalancedUptoSaid : Prop := fnExactAreBalancedUptoRow.holds Try.pinned (OpenSpec.upto fnExactAreBalancedSpec)

/-- 'laws.FnExactCanMeet', WHERE WHAT IT READS IS OF BULK AT MOST 1048576: true; the input reads as it did. -/
def fnExactCanMeetUptoRow : OpenClaim := { program := "ytjkgjmaldbmgmaa", sum := "908b7cc28b5484aa6b003738a6b7e0744d9f7b710452b1ab6b1318128910dfb7", func := "loop.example/g01404/laws.FnExactCanMeet", spec := "fnExactCanMeet", apart := false, narrowed := true }
def FnExactCanMeetUptoSaid : Prop := fnExactCanMeetUptoRow.holds Try.pinned (OpenSpec.upto fnExactCanMeetSpec)

/-- 'laws.FnExactFirstLate', WHERE WHAT IT READS IS OF BULK AT MOST 1048576: true; the input reads as it did. -/
def fnExactFirstLateUptoRow : OpenClaim := { program := "ytjkgjmaldbmgmaa", sum := "908b7cc28b5484aa6b003738a6b7e0744d9f7b710452b1ab6b1318128910dfb7", func := "loop.example/g01404/laws.FnExactFirstLate", spec := "fnExactFirstLate", apart := false, narrowed := true }
def FnExactFirstLateUptoSaid : Prop := fnExactFirstLateUptoRow.holds Try.pinned (OpenSpec.upto fnExactFirstLateSpec)

/-- 'laws.FnExactRouteServes', WHERE WHAT IT READS IS OF BULK AT MOST 1048576: true; the input reads as it did. -/
def fnExactRouteServesUptoRow : OpenClaim := { program := "ytjkgjmaldbmgmaa", sum := "908b7cc28b5484aa6b003738a6b7e0744d9f7b710452b1ab6b1318128910dfb7", func := "loop.example/g01404/laws.FnExactRouteServes", spec := "fnExactRouteServes", unfollowed := true, recurses := true, apart := false, narrowed := true }
def FnExactRouteServesUptoSaid : Prop := fnExactRouteServesUptoRow.holds Try.pinned (OpenSpec.upto fnExactRouteServesSpec)

/-- 'laws.FnExactBestExchange', WHERE WHAT IT READS IS OF BULK AT MOST 1048576: true; the input reads as it did. -/
def fnExactBestExchangeUptoRow : OpenClaim := { program := "ytjkgjmaldbmgmaa", sum := "908b7cc28b5484aa6b003738a6b7e0744d9f7b710452b1ab6b1318128910dfb7", func := "loop.example/g01404/laws.FnExactBestExchange", spec := "fnExactBestExchange", unfollowed := true, recurses := true, apart := false, narrowed := true }
def FnExactBestExchangeUptoSaid : Prop := fnExactBestExchangeUptoRow.holds Try.pinned (OpenSpec.upto fnExactBestExchangeSpec)

/-- 'laws.FnExactSpreadsOf', WHERE WHAT IT READS IS OF BULK AT MOST 1048576: true; the input reads as it did. -/
def fnExactSpreadsOfUptoRow : OpenClaim := { program := "ytjkgjmaldbmgmaa", sum := "908b7cc28b5484aa6b003738a6b7e0744d9f7b710452b1ab6b1318128910dfb7", func := "loop.example/g01404/laws.FnExactSpreadsOf", spec := "fnExactSpreadsOf", unfollowed := true, recurses := true, apart := false, narrowed := true }
def FnExactSpreadsOfUptoSaid : Prop := fnExactSpreadsOfUptoRow.holds Try.pinned (OpenSpec.upto fnExactSpreadsOfSpec)

/-- 'laws.FnExactWaitsTogether', WHERE WHAT IT READS IS OF BULK AT MOST 1048576: true; the input reads as it did. -/
def fnExactWaitsTogetherUptoRow : OpenClaim := { program := "ytjkgjmaldbmgmaa", sum := "908b7cc28b5484aa6b003738a6b7e0744d9f7b710452b1ab6b1318128910dfb7", func := "loop.example/g01404/laws.FnExactWaitsTogether", spec := "fnExactWaitsTogether", unfollowed := true, recurses := true, apart := false, narrowed := true }
def FnExactWaitsTogetherUptoSaid : Prop := fnExactWaitsTogetherUptoRow.holds Try.pinned (OpenSpec.upto fnExactWaitsTogetherSpec)

/-- 'laws.FnExactSmoothTurns', WHERE WHAT IT READS IS OF BULK AT MOST 1048576: true; the input reads as it did. -/
def fnExactSmoothTurnsUptoRow : OpenClaim := { program := "ytjkgjmaldbmgmaa", sum := "908b7cc28b5484aa6b003738a6b7e0744d9f7b710452b1ab6b1318128910dfb7", func := "loop.example/g01404/laws.FnExactSmoothTurns", spec := "fnExactSmoothTurns", unfollowed := true, recurses := true, apart := false, narrowed := true }
def FnExactSmoothTurnsUptoSaid : Prop := fnExactSmoothTurnsUptoRow.holds Try.pinned (OpenSpec.upto fnExactSmoothTurnsSpec)

/-- 'laws.FnExactPutSets', WHERE WHAT IT READS IS OF BULK AT MOST 1048576: true; the input reads as it did. -/
def fnExactPutSetsUptoRow : OpenClaim := { program := "ytjkgjmaldbmgmaa", sum := "908b7cc28b5484aa6b003738a6b7e0744d9f7b710452b1ab6b1318128910dfb7", func := "loop.example/g01404/laws.FnExactPutSets", spec := "fnExactPutSets", unfollowed := true, recurses := true, apart := false, narrowed := true }
def FnExactPutSetsUptoSaid : Prop := fnExactPutSetsUptoRow.holds Try.pinned (OpenSpec.upto fnExactPutSetsSpec)

/-- 'laws.FnExactFirstRests', WHERE WHAT IT READS IS OF BULK AT MOST 1048576: true; the input reads as it did. -/
def fnExactFirstRestsUptoRow : OpenClaim := { program := "ytjkgjmaldbmgmaa", sum := "908b7cc28b5484aa6b003738a6b7e0744d9f7b710452b1ab6b1318128910dfb7", func := "loop.example/g01404/laws.FnExactFirstRests", spec := "fnExactFirstRests", unfollowed := true, recurses := true, apart := false, narrowed := true }
def FnExactFirstRestsUptoSaid : Prop := fnExactFirstRestsUptoRow.holds Try.pinned (OpenSpec.upto fnExactFirstRestsSpec)

/-- 'laws.FnExactServeTogether', WHERE WHAT IT READS IS OF BULK AT MOST 1048576: true; the input reads as it did. -/
def fnExactServeTogetherUptoRow : OpenClaim := { program := "ytjkgjmaldbmgmaa", sum := "908b7cc28b5484aa6b003738a6b7e0744d9f7b710452b1ab6b1318128910dfb7", func := "loop.example/g01404/laws.FnExactServeTogether", spec := "fnExactServeTogether", unfollowed := true, recurses := true, apart := false, narrowed := true }
def FnExactServeTogetherUptoSaid : Prop := fnExactServeTogetherUptoRow.holds Try.pinned (OpenSpec.upto fnExactServeTogetherSpec)

/-- 'laws.FnExactHarmonicTurns', WHERE WHAT IT READS IS OF BULK AT MOST 1048576: true; the input reads as it did. -/
def fnExactHarmonicTurnsUptoRow : OpenClaim := { program := "ytjkgjmaldbmgmaa", sum := "908b7cc28b5484aa6b003738a6b7e0744d9f7b710452b1ab6b1318128910dfb7", func := "loop.example/g01404/laws.FnExactHarmonicTurns", spec := "fnExactHarmonicTurns", unfollowed := true, recurses := true, apart := false, narrowed := true }
def FnExactHarmonicTurnsUptoSaid : Prop := fnExactHarmonicTurnsUptoRow.holds Try.pinned (OpenSpec.upto fnExactHarmonicTurnsSpec)

end Rows
end Go.Proofs.Ytjkgjmaldbmgmaa
