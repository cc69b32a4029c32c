/-
  No cell of these rows narrows 'for every input' (looked for: loops, veiled, ifaces, maps, wideKeys, modest, calm, conditions, laid).
  DERIVED. THE GIVEN ROWS OF THIS SEAT. 6 by the template 'for every input the law returns true; each argument reads behind the call as it read before'; 0 by the template 'total and deterministic' (their statements: YtbpgfjoplbkgmaaTotals.lean).
  GIVEN WITH THE SEED: the statements are not yours to turn. If you find one false, say at which input.
  Laid BY PROGRAM, IN A SANDBOX (cutbox-rows.mjs): the forced cells as the released guide's own fill.sh prints them over the translation fd7af4b11a49b2c6… (all of the seat's roots in one cut). By AI agents, Wed Nov 11 2026. No macro, syntax, notation, axiom, sorry.
-/
import Derived.Test.YtbpgfjoplbkgmaaChecked
import GoSem.Claim
import GoSem.ClaimJoined
import GoSem.ClaimMapViews
import Derived.JoinedTies
import Derived.KernelRfl
namespace Go.Proofs.Ytbpgfjoplbkgmaa
/- THE CELL 'sum', in the pinned program and in every row, IS THE sha256 OF THE DUMP (.gsa) THAT YtbpgfjoplbkgmaaProg.lean LOADS. Nothing in Lean hashes anything: it is a label: what it is worth is what the hold of that sum in a sandbox is worth. -/
noncomputable def Try.pinned : Pinned := { name := "ytbpgfjoplbkgmaa", sum := "fd7af4b11a49b2c6a10e4027f3ef80748b588eebb9d9698a3ef81dab253867ee", checked := Try.checked }
namespace Rows
def none {H : Type} : Left H := { results := [], args := [] }

/-- 'laws.FnLevel': WHATEVER THE INPUT: true; the input reads as it did. -/
def fnLevelSpec : ChangeSpec := { name := "fnLevel", fn := fun _ => fun
  | [d] => { results := [.lit (.bool true)], args := [d] }
  | _ => none }
def fnLevelRow : OpenClaim := { program := "ytbpgfjoplbkgmaa", sum := "fd7af4b11a49b2c6a10e4027f3ef80748b588eebb9d9698a3ef81dab253867ee", func := "loop.example/g01404/laws.FnLevel", spec := "fnLevel", unfollowed := true, recurses := true, apart := false }
def FnLevelSaid : Prop := fnLevelRow.holds Try.pinned (OpenSpec.ofChange fnLevelSpec)

/-- ITS FALSE NEIGHBOUR: 'it returns false'. Refute it at one input. -/
def fnLevelWrong : ChangeSpec := { name := "fnLevel", fn := fun _ => fun
  | [d] => { results := [.lit (.bool false)], args := [d] }
  | _ => none }
def FnLevelWrongFalsely : Prop := fnLevelRow.holds Try.pinned (OpenSpec.ofChange fnLevelWrong)

/-- 'laws.FnExchanges': WHATEVER THE INPUT: true; the input reads as it did. -/
def fnExchangesSpec : ChangeSpec := { name := "fnExchanges", fn := fun _ => fun
  | [d] => { results := [.lit (.bool true)], args := [d] }
  | _ => none }
def fnExchangesRow : OpenClaim := { program := "ytbpgfjoplbkgmaa", sum := "fd7af4b11a49b2c6a10e4027f3ef80748b588eebb9d9698a3ef81dab253867ee", func := "loop.example/g01404/laws.FnExchanges", spec := "fnExchanges", unfollowed := true, recurses := true, apart := false }
def FnExchangesSaid : Prop := fnExchangesRow.holds Try.pinned (OpenSpec.ofChange fnExchangesSpec)

/-- ITS FALSE NEIGHBOUR: 'it returns false'. Refute it at one input. -/
def fnExchangesWrong : ChangeSpec := { name := "fnExchanges", fn := fun _ => fun
  | [d] => { results := [.lit (.bool false)], args := [d] }
  | _ => none }
def FnExchangesWrongFalsely : Prop := fnExchangesRow.holds Try.pinned (OpenSpec.ofChange fnExchangesWrong)

/-- 'laws.FnPromiseOfAll': WHATEVER THE INPUT: true; the input reads as it did. -/
def fnPromiseOfAllSpec : ChangeSpec := { name := "fnPromiseOfAll", fn := fun _ => fun
  | [d1, d2, d3] => { results := [.lit (.bool true)], args := [d1, d2, d3] }
  | _ => none }
def fnPromiseOfAllRow : OpenClaim := { program := "ytbpgfjoplbkgmaa", sum := "fd7af4b11a49b2c6a10e4027f3ef80748b588eebb9d9698a3ef81dab253867ee", func := "loop.example/g01404/laws.FnPromiseOfAll", spec := "fnPromiseOfAll", unfollowed := true, recurses := true, apart := false }
def FnPromiseOfAllSaid : Prop := fnPromiseOfAllRow.holds Try.pinned (OpenSpec.ofChange fnPromiseOfAllSpec)

/-- ITS FALSE NEIGHBOUR: 'it returns false'. Refute it at one input. -/
def fnPromiseOfAllWrong : ChangeSpec := { name := "fnPromiseOfAll", fn := fun _ => fun
  | [d1, d2, d3] => { results := [.lit (.bool false)], args := [d1, d2, d3] }
  | _ => none }
def FnPromiseOfAllWrongFalsely : Prop := fnPromiseOfAllRow.holds Try.pinned (OpenSpec.ofChange fnPromiseOfAllWrong)

/-- 'laws.FnExactSortTasks': WHATEVER THE INPUT: true; the input reads as it did. -/
def fnExactSortTasksSpec : ChangeSpec := { name := "fnExactSortTasks", fn := fun _ => fun
  | [d] => { results := [.lit (.bool true)], args := [d] }
  | _ => none }
def fnExactSortTasksRow : OpenClaim := { program := "ytbpgfjoplbkgmaa", sum := "fd7af4b11a49b2c6a10e4027f3ef80748b588eebb9d9698a3ef81dab253867ee", func := "loop.example/g01404/laws.FnExactSortTasks", spec := "fnExactSortTasks", unfollowed := true, recurses := true, apart := false }
def FnExactSortTasksSaid : Prop := fnExactSortTasksRow.holds Try.pinned (OpenSpec.ofChange fnExactSortTasksSpec)

/-- ITS FALSE NEIGHBOUR: 'it returns false'. Refute it at one input. -/
def fnExactSortTasksWrong : ChangeSpec := { name := "fnExactSortTasks", fn := fun _ => fun
  | [d] => { results := [.lit (.bool false)], args := [d] }
  | _ => none }
def FnExactSortTasksWrongFalsely : Prop := fnExactSortTasksRow.holds Try.pinned (OpenSpec.ofChange fnExactSortTasksWrong)

/-- 'laws.FnRests': WHATEVER THE INPUT: true; the input reads as it did. -/
def fnRestsSpec : ChangeSpec := { name := "fnRests", fn := fun _ => fun
  | [d] => { results := [.lit (.bool true)], args := [d] }
  | _ => none }
def fnRestsRow : OpenClaim := { program := "ytbpgfjoplbkgmaa", sum := "fd7af4b11a49b2c6a10e4027f3ef80748b588eebb9d9698a3ef81dab253867ee", func := "loop.example/g01404/laws.FnRests", spec := "fnRests", unfollowed := true, recurses := true, apart := false }
def FnRestsSaid : Prop := fnRestsRow.holds Try.pinned (OpenSpec.ofChange fnRestsSpec)

/-- ITS FALSE NEIGHBOUR: 'it returns false'. Refute it at one input. -/
def fnRestsWrong : ChangeSpec := { name := "fnRests", fn := fun _ => fun
  | [d] => { results := [.lit (.bool false)], args := [d] }
  | _ => none }
def FnRestsWrongFalsely : Prop := fnRestsRow.holds Try.pinned (OpenSpec.ofChange fnRestsWrong)

/-- 'laws.FnHarmonic': WHATEVER THE INPUT: true; the input reads as it did. -/
def fnHarmonicSpec : ChangeSpec := { name := "fnHarmonic", fn := fun _ => fun
  | [d] => { results := [.lit (.bool true)], args := [d] }
  | _ => none }
def fnHarmonicRow : OpenClaim := { program := "ytbpgfjoplbkgmaa", sum := "fd7af4b11a49b2c6a10e4027f3ef80748b588eebb9d9698a3ef81dab253867ee", func := "loop.example/g01404/laws.FnHarmonic", spec := "fnHarmonic", unfollowed := true, recurses := true, apart := false }
def FnHarmonicSaid : Prop := fnHarmonicRow.holds Try.pinned (OpenSpec.ofChange fnHarmonicSpec)

/-- ITS FALSE NEIGHBOUR: 'it returns false'. Refute it at one input. -/
def fnHarmonicWrong : ChangeSpec := { name := "fnHarmonic", fn := fun _ => fun
  | [d] => { results := [.lit (.bool false)], args := [d] }
  | _ => none }
def FnHarmonicWrongFalsely : Prop := fnHarmonicRow.holds Try.pinned (OpenSpec.ofChange fnHarmonicWrong)

/- THE SECOND FORM. 'bulk': how many values and letters a reading holds, each counted each time it is reached (what is shared counts as often as it is met; a slice's spare places count too). A statement '..UptoSaid' is the law's where the arguments, and the package variables that the reading takes, are together of bulk at most 1048576: NARROWER than '..Said'. Prove '..Said' where nothing that the law and all that it calls make is longer than what came in: it says more and counts as full. Else prove '..UptoSaid'. A law counts once. -/
mutual
def uptoBulk {H : Type} : DataW H → Nat
  | .lit (.string bytes) => bytes.length + 1
  | .lit _ => 1
  | .nil => 1
  | .ptr d => uptoBulk d + 1
  | .slice elems spare => uptoBulkAll elems + uptoBulkAll spare + 1
  | .agg parts => uptoBulkAll parts + 1
  | .iface _ d => uptoBulk d + 1
  | .map entries => uptoBulkEntries entries + 1
  | .held _ => 1
def uptoBulkAll {H : Type} : List (DataW H) → Nat
  | [] => 0
  | d :: r => uptoBulk d + uptoBulkAll r
def uptoBulkEntries {H : Type} : List (Lit × DataW H) → Nat
  | [] => 0
  | x :: r => uptoBulkEntry x + uptoBulkEntries r
def uptoBulkEntry {H : Type} : Lit × DataW H → Nat
  | (.string bytes, d) => bytes.length + uptoBulk d + 1
  | (_, d) => uptoBulk d + 1
 end
def uptoSmall : (H : Type) → List (DataW H) → Bool := fun _ ds => decide (uptoBulkAll ds ≤ 1048576)
def OpenSpec.upto (s : _root_.Go.ChangeSpec) : _root_.Go.OpenSpec := { _root_.Go.OpenSpec.ofChange s with cond := some uptoSmall }

/-- 'laws.FnLevel', WHERE WHAT IT READS IS OF BULK AT MOST 1048576: true; the input reads as it did. -/
def fnLevelUptoRow : OpenClaim := { program := "ytbpgfjoplbkgmaa", sum := "fd7af4b11a49b2c6a10e4027f3ef80748b588eebb9d9698a3ef81dab253867ee", func := "loop.example/g01404/laws.FnLevel", spec := "fnLevel", unfollowed := true, recurses := true, apart := false, narrowed := true }
def FnLevelUptoSaid : Prop := fnLevelUptoRow.holds Try.pinned (OpenSpec.upto fnLevelSpec)

/-- 'laws.FnExchanges', WHERE WHAT IT READS IS OF BULK AT MOST 1048576: true; the input reads as it did. -/
def fnExchangesUptoRow : OpenClaim := { program := "ytbpgfjoplbkgmaa", sum := "fd7af4b11a49b2c6a10e4027f3ef80748b588eebb9d9698a3ef81dab253867ee", func := "loop.example/g01404/laws.FnExchanges", spec := "fnExchanges", unfollowed := true, recurses := true, apart := false, narrowed := true }
def FnExchangesUptoSaid : Prop := fnExchangesUptoRow.holds Try.pinned (OpenSpec.upto fnExchangesSpec)

/-- 'laws.FnPromiseOfAll', WHERE WHAT IT READS IS OF BULK AT MOST 1048576: true; the input reads as it did. -/
def fnPromiseOfAllUptoRow : OpenClaim := { program := "ytbpgfjoplbkgmaa", sum := "fd7af4b11a49b2c6a10e4027f3ef80748b588eebb9d9698a3ef81dab253867ee", func := "loop.example/g01404/laws.FnPromiseOfAll", spec := "fnPromiseOfAll", unfollowed := true, recurses := true, apart := false, narrowed := true }
def FnPromiseOfAllUptoSaid : Prop := fnPromiseOfAllUptoRow.holds Try.pinned (OpenSpec.upto fnPromiseOfAllSpec)

/-- 'laws.FnExactSortTasks', WHERE WHAT IT READS IS OF BULK AT MOST 1048576: true; the input reads as it did. -/
def fnExactSortTasksUptoRow : OpenClaim := { program := "ytbpgfjoplbkgmaa", sum := "fd7af4b11a49b2c6a10e4027f3ef80748b588eebb9d9698a3ef81dab253867ee", func := "loop.example/g01404/laws.FnExactSortTasks", spec := "fnExactSortTasks", unfollowed := true, recurses := true, apart := false, narrowed := true }
def FnExactSortTasksUptoSaid : Prop := fnExactSortTasksUptoRow.holds Try.pinned (OpenSpec.upto fnExactSortTasksSpec)

/-- 'laws.FnRests', WHERE WHAT IT READS IS OF BULK AT MOST 1048576: true; the input reads as it did. -/
def fnRestsUptoRow : OpenClaim := { program := "ytbpgfjoplbkgmaa", sum := "fd7af4b11a49b2c6a10e4027f3ef80748b588eebb9d9698a3ef81dab253867ee", func := "loop.example/g01404/laws.FnRests", spec := "fnRests", unfollowed := true, recurses := true, apart := false, narrowed := true }
def FnRestsUptoSaid : Prop := fnRestsUptoRow.holds Try.pinned (OpenSpec.upto fnRestsSpec)

/-- 'laws.FnHarmonic', WHERE WHAT IT READS IS OF BULK AT MOST 1048576: true; the input reads as it did. -/
def fnHarmonicUptoRow : OpenClaim := { program := "ytbpgfjoplbkgmaa", sum := "fd7af4b11a49b2c6a10e4027f3ef80748b588eebb9d9698a3ef81dab253867ee", func := "loop.example/g01404/laws.FnHarmonic", spec := "fnHarmonic", unfollowed := true, recurses := true, apart := false, narrowed := true }
def FnHarmonicUptoSaid : Prop := fnHarmonicUptoRow.holds Try.pinned (OpenSpec.upto fnHarmonicSpec)

end Rows
end Go.Proofs.Ytbpgfjoplbkgmaa
