/-
  No cell of these rows narrows 'for every input' (looked for: loops, veiled, ifaces, maps, wideKeys, modest, calm, conditions, laid).
  DERIVED. THE GIVEN ROWS OF THIS SEAT. 12 by the template 'for every input the law returns true; each argument reads behind the call as it read before'; 0 by the template 'total and deterministic' (their statements: YtjlcgppekgnmmaaTotals.lean).
  GIVEN WITH THE SEED: the statements are not yours to turn. If you find one false, say at which input.
  Laid BY PROGRAM, IN A SANDBOX (cutbox-rows.mjs): the forced cells as the released guide's own fill.sh prints them over the translation 5d39cc1a98cb6510… (all of the seat's roots in one cut). By AI agents, Wed Nov 11 2026. No macro, syntax, notation, axiom, sorry.
-/
import Derived.Test.YtjlcgppekgnmmaaChecked
import GoSem.Claim
import GoSem.ClaimJoined
import GoSem.ClaimMapViews
import Derived.JoinedTies
import Derived.KernelRfl
namespace Go.Proofs.Ytjlcgppekgnmmaa
/- THE CELL 'sum', in the pinned program and in every row, IS THE sha256 OF THE DUMP (.gsa) THAT YtjlcgppekgnmmaaProg.lean LOADS. Nothing in Lean hashes anything: it is a label: what it is worth is what the hold of that sum in a sandbox is worth. -/
noncomputable def Try.pinned : Pinned := { name := "ytjlcgppekgnmmaa", sum := "5d39cc1a98cb6510f8906a4855a039c53059a9e4ec56fee24ff900b2275a604b", checked := Try.checked }
namespace Rows
def none {H : Type} : Left H := { results := [], args := [] }

/-- 'laws.FnExactIsGround': WHATEVER THE INPUT: true; the input reads as it did. -/
def fnExactIsGroundSpec : ChangeSpec := { name := "fnExactIsGround", fn := fun _ => fun
  | [d] => { results := [.lit (.bool true)], args := [d] }
  | _ => none }
def fnExactIsGroundRow : OpenClaim := { program := "ytjlcgppekgnmmaa", sum := "5d39cc1a98cb6510f8906a4855a039c53059a9e4ec56fee24ff900b2275a604b", func := "loop.example/g01404/laws.FnExactIsGround", spec := "fnExactIsGround", apart := false }
def FnExactIsGroundSaid : Prop := fnExactIsGroundRow.holds Try.pinned (OpenSpec.ofChange fnExactIsGroundSpec)

/-- ITS FALSE NEIGHBOUR: 'it returns false'. Refute it at one input. -/
def fnExactIsGroundWrong : ChangeSpec := { name := "fnExactIsGround", fn := fun _ => fun
  | [d] => { results := [.lit (.bool false)], args := [d] }
  | _ => none }
def FnExactIsGroundWrongFalsely : Prop := fnExactIsGroundRow.holds Try.pinned (OpenSpec.ofChange fnExactIsGroundWrong)

/-- 'laws.FnExactStarGround': WHATEVER THE INPUT: true; the input reads as it did. -/
def fnExactStarGroundSpec : ChangeSpec := { name := "fnExactStarGround", fn := fun _ => fun
  | [d] => { results := [.lit (.bool true)], args := [d] }
  | _ => none }
def fnExactStarGroundRow : OpenClaim := { program := "ytjlcgppekgnmmaa", sum := "5d39cc1a98cb6510f8906a4855a039c53059a9e4ec56fee24ff900b2275a604b", func := "loop.example/g01404/laws.FnExactStarGround", spec := "fnExactStarGround", apart := false }
def FnExactStarGroundSaid : Prop := fnExactStarGroundRow.holds Try.pinned (OpenSpec.ofChange fnExactStarGroundSpec)

/-- ITS FALSE NEIGHBOUR: 'it returns false'. Refute it at one input. -/
def fnExactStarGroundWrong : ChangeSpec := { name := "fnExactStarGround", fn := fun _ => fun
  | [d] => { results := [.lit (.bool false)], args := [d] }
  | _ => none }
def FnExactStarGroundWrongFalsely : Prop := fnExactStarGroundRow.holds Try.pinned (OpenSpec.ofChange fnExactStarGroundWrong)

/-- 'laws.FnExactLineGround': WHATEVER THE INPUT: true; the input reads as it did. -/
def fnExactLineGroundSpec : ChangeSpec := { name := "fnExactLineGround", fn := fun _ => fun
  | [d] => { results := [.lit (.bool true)], args := [d] }
  | _ => none }
def fnExactLineGroundRow : OpenClaim := { program := "ytjlcgppekgnmmaa", sum := "5d39cc1a98cb6510f8906a4855a039c53059a9e4ec56fee24ff900b2275a604b", func := "loop.example/g01404/laws.FnExactLineGround", spec := "fnExactLineGround", apart := false }
def FnExactLineGroundSaid : Prop := fnExactLineGroundRow.holds Try.pinned (OpenSpec.ofChange fnExactLineGroundSpec)

/-- ITS FALSE NEIGHBOUR: 'it returns false'. Refute it at one input. -/
def fnExactLineGroundWrong : ChangeSpec := { name := "fnExactLineGround", fn := fun _ => fun
  | [d] => { results := [.lit (.bool false)], args := [d] }
  | _ => none }
def FnExactLineGroundWrongFalsely : Prop := fnExactLineGroundRow.holds Try.pinned (OpenSpec.ofChange fnExactLineGroundWrong)

/-- 'laws.FnExactRingGround': WHATEVER THE INPUT: true; the input reads as it did. -/
def fnExactRingGroundSpec : ChangeSpec := { name := "fnExactRingGround", fn := fun _ => fun
  | [d] => { results := [.lit (.bool true)], args := [d] }
  | _ => none }
def fnExactRingGroundRow : OpenClaim := { program := "ytjlcgppekgnmmaa", sum := "5d39cc1a98cb6510f8906a4855a039c53059a9e4ec56fee24ff900b2275a604b", func := "loop.example/g01404/laws.FnExactRingGround", spec := "fnExactRingGround", apart := false }
def FnExactRingGroundSaid : Prop := fnExactRingGroundRow.holds Try.pinned (OpenSpec.ofChange fnExactRingGroundSpec)

/-- ITS FALSE NEIGHBOUR: 'it returns false'. Refute it at one input. -/
def fnExactRingGroundWrong : ChangeSpec := { name := "fnExactRingGround", fn := fun _ => fun
  | [d] => { results := [.lit (.bool false)], args := [d] }
  | _ => none }
def FnExactRingGroundWrongFalsely : Prop := fnExactRingGroundRow.holds Try.pinned (OpenSpec.ofChange fnExactRingGroundWrong)

/-- 'laws.FnExactAreNear': WHATEVER THE INPUT: true; the input reads as it did. -/
def fnExactAreNearSpec : ChangeSpec := { name := "fnExactAreNear", fn := fun _ => fun
  | [d1, d2, d3] => { results := [.lit (.bool true)], args := [d1, d2, d3] }
  | _ => none }
def fnExactAreNearRow : OpenClaim := { program := "ytjlcgppekgnmmaa", sum := "5d39cc1a98cb6510f8906a4855a039c53059a9e4ec56fee24ff900b2275a604b", func := "loop.example/g01404/laws.FnExactAreNear", spec := "fnExactAreNear", apart := false }
def FnExactAreNearSaid : Prop := fnExactAreNearRow.holds Try.pinned (OpenSpec.ofChange fnExactAreNearSpec)

/-- ITS FALSE NEIGHBOUR: 'it returns false'. Refute it at one input. -/
def fnExactAreNearWrong : ChangeSpec := { name := "fnExactAreNear", fn := fun _ => fun
  | [d1, d2, d3] => { results := [.lit (.bool false)], args := [d1, d2, d3] }
  | _ => none }
def FnExactAreNearWrongFalsely : Prop := fnExactAreNearRow.holds Try.pinned (OpenSpec.ofChange fnExactAreNearWrong)

/-- 'laws.FnExactDoubledTurns': WHATEVER THE INPUT: true; the input reads as it did. -/
def fnExactDoubledTurnsSpec : ChangeSpec := { name := "fnExactDoubledTurns", fn := fun _ => fun
  | [d] => { results := [.lit (.bool true)], args := [d] }
  | _ => none }
def fnExactDoubledTurnsRow : OpenClaim := { program := "ytjlcgppekgnmmaa", sum := "5d39cc1a98cb6510f8906a4855a039c53059a9e4ec56fee24ff900b2275a604b", func := "loop.example/g01404/laws.FnExactDoubledTurns", spec := "fnExactDoubledTurns", recurses := true, apart := false }
def FnExactDoubledTurnsSaid : Prop := fnExactDoubledTurnsRow.holds Try.pinned (OpenSpec.ofChange fnExactDoubledTurnsSpec)

/-- ITS FALSE NEIGHBOUR: 'it returns false'. Refute it at one input. -/
def fnExactDoubledTurnsWrong : ChangeSpec := { name := "fnExactDoubledTurns", fn := fun _ => fun
  | [d] => { results := [.lit (.bool false)], args := [d] }
  | _ => none }
def FnExactDoubledTurnsWrongFalsely : Prop := fnExactDoubledTurnsRow.holds Try.pinned (OpenSpec.ofChange fnExactDoubledTurnsWrong)

/-- 'laws.FnTop': WHATEVER THE INPUT: true; the input reads as it did. -/
def fnTopSpec : ChangeSpec := { name := "fnTop", fn := fun _ => fun
  | [d] => { results := [.lit (.bool true)], args := [d] }
  | _ => none }
def fnTopRow : OpenClaim := { program := "ytjlcgppekgnmmaa", sum := "5d39cc1a98cb6510f8906a4855a039c53059a9e4ec56fee24ff900b2275a604b", func := "loop.example/g01404/laws.FnTop", spec := "fnTop", unfollowed := true, recurses := true, apart := false }
def FnTopSaid : Prop := fnTopRow.holds Try.pinned (OpenSpec.ofChange fnTopSpec)

/-- ITS FALSE NEIGHBOUR: 'it returns false'. Refute it at one input. -/
def fnTopWrong : ChangeSpec := { name := "fnTop", fn := fun _ => fun
  | [d] => { results := [.lit (.bool false)], args := [d] }
  | _ => none }
def FnTopWrongFalsely : Prop := fnTopRow.holds Try.pinned (OpenSpec.ofChange fnTopWrong)

/-- 'laws.FnExactExchangeSlots': WHATEVER THE INPUT: true; the input reads as it did. -/
def fnExactExchangeSlotsSpec : ChangeSpec := { name := "fnExactExchangeSlots", fn := fun _ => fun
  | [d1, d2, d3] => { results := [.lit (.bool true)], args := [d1, d2, d3] }
  | _ => none }
def fnExactExchangeSlotsRow : OpenClaim := { program := "ytjlcgppekgnmmaa", sum := "5d39cc1a98cb6510f8906a4855a039c53059a9e4ec56fee24ff900b2275a604b", func := "loop.example/g01404/laws.FnExactExchangeSlots", spec := "fnExactExchangeSlots", unfollowed := true, recurses := true, apart := false }
def FnExactExchangeSlotsSaid : Prop := fnExactExchangeSlotsRow.holds Try.pinned (OpenSpec.ofChange fnExactExchangeSlotsSpec)

/-- ITS FALSE NEIGHBOUR: 'it returns false'. Refute it at one input. -/
def fnExactExchangeSlotsWrong : ChangeSpec := { name := "fnExactExchangeSlots", fn := fun _ => fun
  | [d1, d2, d3] => { results := [.lit (.bool false)], args := [d1, d2, d3] }
  | _ => none }
def FnExactExchangeSlotsWrongFalsely : Prop := fnExactExchangeSlotsRow.holds Try.pinned (OpenSpec.ofChange fnExactExchangeSlotsWrong)

/-- 'laws.FnExactAreChannels': WHATEVER THE INPUT: true; the input reads as it did. -/
def fnExactAreChannelsSpec : ChangeSpec := { name := "fnExactAreChannels", fn := fun _ => fun
  | [d1, d2] => { results := [.lit (.bool true)], args := [d1, d2] }
  | _ => none }
def fnExactAreChannelsRow : OpenClaim := { program := "ytjlcgppekgnmmaa", sum := "5d39cc1a98cb6510f8906a4855a039c53059a9e4ec56fee24ff900b2275a604b", func := "loop.example/g01404/laws.FnExactAreChannels", spec := "fnExactAreChannels", unfollowed := true, recurses := true, apart := false }
def FnExactAreChannelsSaid : Prop := fnExactAreChannelsRow.holds Try.pinned (OpenSpec.ofChange fnExactAreChannelsSpec)

/-- ITS FALSE NEIGHBOUR: 'it returns false'. Refute it at one input. -/
def fnExactAreChannelsWrong : ChangeSpec := { name := "fnExactAreChannels", fn := fun _ => fun
  | [d1, d2] => { results := [.lit (.bool false)], args := [d1, d2] }
  | _ => none }
def FnExactAreChannelsWrongFalsely : Prop := fnExactAreChannelsRow.holds Try.pinned (OpenSpec.ofChange fnExactAreChannelsWrong)

/-- 'laws.FnExactGreedyTurns': WHATEVER THE INPUT: true; the input reads as it did. -/
def fnExactGreedyTurnsSpec : ChangeSpec := { name := "fnExactGreedyTurns", fn := fun _ => fun
  | [d] => { results := [.lit (.bool true)], args := [d] }
  | _ => none }
def fnExactGreedyTurnsRow : OpenClaim := { program := "ytjlcgppekgnmmaa", sum := "5d39cc1a98cb6510f8906a4855a039c53059a9e4ec56fee24ff900b2275a604b", func := "loop.example/g01404/laws.FnExactGreedyTurns", spec := "fnExactGreedyTurns", unfollowed := true, recurses := true, apart := false }
def FnExactGreedyTurnsSaid : Prop := fnExactGreedyTurnsRow.holds Try.pinned (OpenSpec.ofChange fnExactGreedyTurnsSpec)

/-- ITS FALSE NEIGHBOUR: 'it returns false'. Refute it at one input. -/
def fnExactGreedyTurnsWrong : ChangeSpec := { name := "fnExactGreedyTurns", fn := fun _ => fun
  | [d] => { results := [.lit (.bool false)], args := [d] }
  | _ => none }
def FnExactGreedyTurnsWrongFalsely : Prop := fnExactGreedyTurnsRow.holds Try.pinned (OpenSpec.ofChange fnExactGreedyTurnsWrong)

/-- 'laws.FnExactIsRoute': WHATEVER THE INPUT: true; the input reads as it did. -/
def fnExactIsRouteSpec : ChangeSpec := { name := "fnExactIsRoute", fn := fun _ => fun
  | [d1, d2] => { results := [.lit (.bool true)], args := [d1, d2] }
  | _ => none }
def fnExactIsRouteRow : OpenClaim := { program := "ytjlcgppekgnmmaa", sum := "5d39cc1a98cb6510f8906a4855a039c53059a9e4ec56fee24ff900b2275a604b", func := "loop.example/g01404/laws.FnExactIsRoute", spec := "fnExactIsRoute", unfollowed := true, recurses := true, apart := false }
def FnExactIsRouteSaid : Prop := fnExactIsRouteRow.holds Try.pinned (OpenSpec.ofChange fnExactIsRouteSpec)

/-- ITS FALSE NEIGHBOUR: 'it returns false'. Refute it at one input. -/
def fnExactIsRouteWrong : ChangeSpec := { name := "fnExactIsRoute", fn := fun _ => fun
  | [d1, d2] => { results := [.lit (.bool false)], args := [d1, d2] }
  | _ => none }
def FnExactIsRouteWrongFalsely : Prop := fnExactIsRouteRow.holds Try.pinned (OpenSpec.ofChange fnExactIsRouteWrong)

/-- 'laws.FnExactDemandUpTo': WHATEVER THE INPUT: true; the input reads as it did. -/
def fnExactDemandUpToSpec : ChangeSpec := { name := "fnExactDemandUpTo", fn := fun _ => fun
  | [d1, d2] => { results := [.lit (.bool true)], args := [d1, d2] }
  | _ => none }
def fnExactDemandUpToRow : OpenClaim := { program := "ytjlcgppekgnmmaa", sum := "5d39cc1a98cb6510f8906a4855a039c53059a9e4ec56fee24ff900b2275a604b", func := "loop.example/g01404/laws.FnExactDemandUpTo", spec := "fnExactDemandUpTo", apart := false }
def FnExactDemandUpToSaid : Prop := fnExactDemandUpToRow.holds Try.pinned (OpenSpec.ofChange fnExactDemandUpToSpec)

/-- ITS FALSE NEIGHBOUR: 'it returns false'. Refute it at one input. -/
def fnExactDemandUpToWrong : ChangeSpec := { name := "fnExactDemandUpTo", fn := fun _ => fun
  | [d1, d2] => { results := [.lit (.bool false)], args := [d1, d2] }
  | _ => none }
def FnExactDemandUpToWrongFalsely : Prop := fnExactDemandUpToRow.holds Try.pinned (OpenSpec.ofChange fnExactDemandUpToWrong)

/- THE SECOND FORM. 'bulk': how many values and letters a reading holds, each counted each time it is reached (what is shared counts as often as it is met; a slice's spare places count too). A statement '..UptoSaid' is the law's where the arguments, and the package variables that the reading takes, are together of bulk at most 1048576: NARROWER than '..Said'. Prove '..Said' where nothing that the law and all that it calls make is longer than what came in: it says more and counts as full. Else prove '..UptoSaid'. A law counts once. -/
mutual
def uptoBulk {H : Type} : DataW H → Nat
  | .lit (.string bytes) => bytes.length + 1
  | .lit _ => 1
  | .nil => 1
  | .ptr d => uptoBulk d + 1
  | .slice elems spare => uptoBulkAll elems + uptoBulkAll spare + 1
  | .agg parts => uptoBulkAll parts + 1
  | .iface _ d => uptoBulk d + 1
  | .map entries => uptoBulkEntries entries + 1
  | .held _ => 1
def uptoBulkAll {H : Type} : List (DataW H) → Nat
  | [] => 0
  | d :: r => uptoBulk d + uptoBulkAll r
def uptoBulkEntries {H : Type} : List (Lit × DataW H) → Nat
  | [] => 0
  | x :: r => uptoBulkEntry x + uptoBulkEntries r
def uptoBulkEntry {H : Type} : Lit × DataW H → Nat
  | (.string bytes, d) => bytes.length + uptoBulk d + 1
  | (_, d) => uptoBulk d + 1
 end
def uptoSmall : (H : Type) → List (DataW H) → Bool := fun _ ds => decide (uptoBulkAll ds ≤ 1048576)
def OpenSpec.upto (s : _root_.Go.ChangeSpec) : _root_.Go.OpenSpec := { _root_.Go.OpenSpec.ofChange s with cond := some uptoSmall }

/-- 'laws.FnExactIsGround', WHERE WHAT IT READS IS OF BULK AT MOST 1048576: true; the input reads as it did. -/
def fnExactIsGroundUptoRow : OpenClaim := { program := "ytjlcgppekgnmmaa", sum := "5d39cc1a98cb6510f8906a4855a039c53059a9e4ec56fee24ff900b2275a604b", func := "loop.example/g01404/laws.FnExactIsGround", spec := "fnExactIsGround", apart := false, narrowed := true }
def FnExactIsGroundUptoSaid : Prop := fnExactIsGroundUptoRow.holds Try.pinned (OpenSpec.upto fnExactIsGroundSpec)

/-- 'laws.FnExactStarGround', WHERE WHAT IT READS IS OF BULK AT MOST 1048576: true; the input reads as it did. -/
def fnExactStarGroundUptoRow : OpenClaim := { program := "ytjlcgppekgnmmaa", sum := "5d39cc1a98cb6510f8906a4855a039c53059a9e4ec56fee24ff900b2275a604b", func := "loop.example/g01404/laws.FnExactStarGround", spec := "fnExactStarGround", apart := false, narrowed := true }
def FnExactStarGroundUptoSaid : Prop := fnExactStarGroundUptoRow.holds Try.pinned (OpenSpec.upto fnExactStarGroundSpec)

/-- 'laws.FnExactLineGround', WHERE WHAT IT READS IS OF BULK AT MOST 1048576: true; the input reads as it did. -/
def fnExactLineGroundUptoRow : OpenClaim := { program := "ytjlcgppekgnmmaa", sum := "5d39cc1a98cb6510f8906a4855a039c53059a9e4ec56fee24ff900b2275a604b", func := "loop.example/g01404/laws.FnExactLineGround", spec := "fnExactLineGround", apart := false, narrowed := true }
def FnExactLineGroundUptoSaid : Prop := fnExactLineGroundUptoRow.holds Try.pinned (OpenSpec.upto fnExactLineGroundSpec)

/-- 'laws.FnExactRingGround', WHERE WHAT IT READS IS OF BULK AT MOST 1048576: true; the input reads as it did. -/
def fnExactRingGroundUptoRow : OpenClaim := { program := "ytjlcgppekgnmmaa", sum := "5d39cc1a98cb6510f8906a4855a039c53059a9e4ec56fee24ff900b2275a604b", func := "loop.example/g01404/laws.FnExactRingGround", spec := "fnExactRingGround", apart := false, narrowed := true }
def FnExactRingGroundUptoSaid : Prop := fnExactRingGroundUptoRow.holds Try.pinned (OpenSpec.upto fnExactRingGroundSpec)

/-- 'laws.FnExactAreNear', WHERE WHAT IT READS IS OF BULK AT MOST 1048576: true; the input reads as it did. -/
def fnExactAreNearUptoRow : OpenClaim := { program := "ytjlcgppekgnmmaa", sum := "5d39cc1a98cb6510f8906a4855a039c53059a9e4ec56fee24ff900b2275a604b", func := "loop.example/g01404/laws.FnExactAreNear", spec := "fnExactAreNear", apart := false, narrowed := true }
def FnExactAreNearUptoSaid : Prop := fnExactAreNearUptoRow.holds Try.pinned (OpenSpec.upto fnExactAreNearSpec)

/-- 'laws.FnExactDoubledTurns', WHERE WHAT IT READS IS OF BULK AT MOST 1048576: true; the input reads as it did. -/
def fnExactDoubledTurnsUptoRow : OpenClaim := { program := "ytjlcgppekgnmmaa", sum := "5d39cc1a98cb6510f8906a4855a039c53059a9e4ec56fee24ff900b2275a604b", func := "loop.example/g01404/laws.FnExactDoubledTurns", spec := "fnExactDoubledTurns", recurses := true, apart := false, narrowed := true }
def FnExactDoubledTurnsUptoSaid : Prop := fnExactDoubledTurnsUptoRow.holds Try.pinned (OpenSpec.upto fnExactDoubledTurnsSpec)

/-- 'laws.FnTop', WHERE WHAT IT READS IS OF BULK AT MOST 1048576: true; the input reads as it did. -/
def fnTopUptoRow : OpenClaim := { program := "ytjlcgppekgnmmaa", sum := "5d39cc1a98cb6510f8906a4855a039c53059a9e4ec56fee24ff900b2275a604b", func := "loop.example/g01404/laws.FnTop", spec := "fnTop", unfollowed := true, recurses := true, apart := false, narrowed := true }
def FnTopUptoSaid : Prop := fnTopUptoRow.holds Try.pinned (OpenSpec.upto fnTopSpec)

/-- 'laws.FnExactExchangeSlots', WHERE WHAT IT READS IS OF BULK AT MOST 1048576: true; the input reads as it did. -/
def fnExactExchangeSlotsUptoRow : OpenClaim := { program := "ytjlcgppekgnmmaa", sum := "5d39cc1a98cb6510f8906a4855a039c53059a9e4ec56fee24ff900b2275a604b", func := "loop.example/g01404/laws.FnExactExchangeSlots", spec := "fnExactExchangeSlots", unfollowed := true, recurses := true, apart := false, narrowed := true }
def FnExactExchangeSlotsUptoSaid : Prop := fnExactExchangeSlotsUptoRow.holds Try.pinned (OpenSpec.upto fnExactExchangeSlotsSpec)

/-- 'laws.FnExactAreChannels', WHERE WHAT IT READS IS OF BULK AT MOST 1048576: true; the input reads as it did. -/
def fnExactAreChannelsUptoRow : OpenClaim := { program := "ytjlcgppekgnmmaa", sum := "5d39cc1a98cb6510f8906a4855a039c53059a9e4ec56fee24ff900b2275a604b", func := "loop.example/g01404/laws.FnExactAreChannels", spec := "fnExactAreChannels", unfollowed := true, recurses := true, apart := false, narrowed := true }
def FnExactAreChannelsUptoSaid : Prop := fnExactAreChannelsUptoRow.holds Try.pinned (OpenSpec.upto fnExactAreChannelsSpec)

/-- 'laws.FnExactGreedyTurns', WHERE WHAT IT READS IS OF BULK AT MOST 1048576: true; the input reads as it did. -/
def fnExactGreedyTurnsUptoRow : OpenClaim := { program := "ytjlcgppekgnmmaa", sum := "5d39cc1a98cb6510f8906a4855a039c53059a9e4ec56fee24ff900b2275a604b", func := "loop.example/g01404/laws.FnExactGreedyTurns", spec := "fnExactGreedyTurns", unfollowed := true, recurses := true, apart := false, narrowed := true }
def FnExactGreedyTurnsUptoSaid : Prop := fnExactGreedyTurnsUptoRow.holds Try.pinned (OpenSpec.upto fnExactGreedyTurnsSpec)

/-- 'laws.FnExactIsRoute', WHERE WHAT IT READS IS OF BULK AT MOST 1048576: true; the input reads as it did. -/
def fnExactIsRouteUptoRow : OpenClaim := { program := "ytjlcgppekgnmmaa", sum := "5d39cc1a98cb6510f8906a4855a039c53059a9e4ec56fee24ff900b2275a604b", func := "loop.example/g01404/laws.FnExactIsRoute", spec := "fnExactIsRoute", unfollowed := true, recurses := true, apart := false, narrowed := true }
def FnExactIsRouteUptoSaid : Prop := fnExactIsRouteUptoRow.holds Try.pinned (OpenSpec.upto fnExactIsRouteSpec)

/-- 'laws.FnExactDemandUpTo', WHERE WHAT IT READS IS OF BULK AT MOST 1048576: true; the input reads as it did. -/
def fnExactDemandUpToUptoRow : OpenClaim := { program := "ytjlcgppekgnmmaa", sum := "5d39cc1a98cb6510f8906a4855a039c53059a9e4ec56fee24ff900b2275a604b", func := "loop.example/g01404/laws.FnExactDemandUpTo", spec := "fnExactDemandUpTo", apart := false, narrowed := true }
def FnExactDemandUpToUptoSaid : Prop := fnExactDemandUpToUptoRow.holds Try.pinned (OpenSpec.upto fnExactDemandUpToSpec)

end Rows
end Go.Proofs.Ytjlcgppekgnmmaa
