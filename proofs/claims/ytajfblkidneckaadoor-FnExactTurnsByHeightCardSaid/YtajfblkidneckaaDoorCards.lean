/-
  DERIVED. GIVEN WITH THE SEED: THE CARDS: each row of YtajfblkidneckaaDoorRows.lean that lists a variable, with what it lists TIED to the program's text (the seventh form; the later family's looks); each row that meets fmt, with fmt's text TOLD by the authors' own Lean function (tested against real Go, not proved from fmt's source: count such statements apart). THE CARD IS WHAT COUNTS. Prove the row's statement (the work); the ties are given (YtajfblkidneckaaDoorTie.lean); close each card by the builder's one call (the guide's Derived/Test/ToyasCard.lean, 'card_holds'). Laid BY PROGRAM, IN A SANDBOX (cutbox-door.mjs). By AI agents, Wed Nov 11 2026. No macro, syntax, notation, axiom, sorry.
-/
import Derived.Test.YtajfblkidneckaaDoorRows
import GoSem.ClaimSeven
namespace Go.Proofs.YtajfblkidneckaaDoor
namespace Rows

/-- THE TIED CARD OF 'laws.FnExactTurnsBySpeed'. -/
def fnExactTurnsBySpeedCard : Claim7 := { stood := { row := fnExactTurnsBySpeedRow, standIns := [], harness := (true, "7734b779d040b537b1c57ac1d1b83314088641aed3465db043fd53d832fdc6a8"), looks := false }, kinds := [], alts := [], laidByText := true, laidKinds := [.data, .data, .data], laidTests := true, laidLooks := .later }
def FnExactTurnsBySpeedCardSaid : Prop := Claim7.holds Tryd.pinned (.plain (OpenSpec.ofChange fnExactTurnsBySpeedSpec)) fnExactTurnsBySpeedCard

/-- THE TIED CARD OF 'laws.FnExactTurnsByHeight'. -/
def fnExactTurnsByHeightCard : Claim7 := { stood := { row := fnExactTurnsByHeightRow, standIns := [], harness := (true, "7734b779d040b537b1c57ac1d1b83314088641aed3465db043fd53d832fdc6a8"), looks := false }, kinds := [], alts := [], laidByText := true, laidKinds := [.data, .data, .data], laidTests := true, laidLooks := .later }
def FnExactTurnsByHeightCardSaid : Prop := Claim7.holds Tryd.pinned (.plain (OpenSpec.ofChange fnExactTurnsByHeightSpec)) fnExactTurnsByHeightCard

/-- THE SECOND FORM's CARD OF 'laws.FnExactTurnsBySpeed'. -/
def fnExactTurnsBySpeedUptoCard : Claim7 := { stood := { row := fnExactTurnsBySpeedUptoRow, standIns := [], harness := (true, "7734b779d040b537b1c57ac1d1b83314088641aed3465db043fd53d832fdc6a8"), looks := false }, kinds := [], alts := [], laidByText := true, laidKinds := [.data, .data, .data], laidTests := true, laidLooks := .later }
def FnExactTurnsBySpeedUptoCardSaid : Prop := Claim7.holds Tryd.pinned (.plain (OpenSpec.upto fnExactTurnsBySpeedSpec)) fnExactTurnsBySpeedUptoCard

/-- THE SECOND FORM's CARD OF 'laws.FnExactTurnsByHeight'. -/
def fnExactTurnsByHeightUptoCard : Claim7 := { stood := { row := fnExactTurnsByHeightUptoRow, standIns := [], harness := (true, "7734b779d040b537b1c57ac1d1b83314088641aed3465db043fd53d832fdc6a8"), looks := false }, kinds := [], alts := [], laidByText := true, laidKinds := [.data, .data, .data], laidTests := true, laidLooks := .later }
def FnExactTurnsByHeightUptoCardSaid : Prop := Claim7.holds Tryd.pinned (.plain (OpenSpec.upto fnExactTurnsByHeightSpec)) fnExactTurnsByHeightUptoCard
end Rows
end Go.Proofs.YtajfblkidneckaaDoor
