/-
  DERIVED. GIVEN WITH THE SEED: THE CARDS: each row of YtfhmgjncemkpdaaGreatDoorRows.lean that lists a variable, with what it lists TIED to the program's text (the seventh form; the later family's looks); each row that meets fmt, with fmt's text TOLD by the authors' own Lean function (tested against real Go, not proved from fmt's source: count such statements apart). THE CARD IS WHAT COUNTS. Prove the row's statement (the work); the ties are given (YtfhmgjncemkpdaaGreatDoorTie.lean); close each card by the builder's one call (the guide's Derived/Test/ToyasCard.lean, 'card_holds'). Laid BY PROGRAM, IN A SANDBOX (cutbox-door.mjs). By AI agents, Wed Nov 11 2026. No macro, syntax, notation, axiom, sorry.
-/
import Derived.Test.YtfhmgjncemkpdaaGreatDoorRows
import GoSem.ClaimSeven
namespace Go.Proofs.YtfhmgjncemkpdaaGreatDoor
namespace Rows

/-- THE TIED CARD OF 'laws.FnExactGateBookOk'. -/
def fnExactGateBookOkCard : Claim7 := { stood := { row := fnExactGateBookOkRow, standIns := [], harness := (true, "720d44d0421005384c17f145b52d0b4f0423a65c63464fd112fe45f55a32698f"), looks := true }, kinds := [], alts := [], laidByText := true, laidKinds := [.handle], laidTests := true, laidLooks := .later }
def FnExactGateBookOkCardSaid : Prop := Claim7.holds Tryz.pinned (.plain (OpenSpec.ofChange fnExactGateBookOkSpec)) fnExactGateBookOkCard

/-- THE SECOND FORM's CARD OF 'laws.FnExactGateBookOk'. -/
def fnExactGateBookOkUptoCard : Claim7 := { stood := { row := fnExactGateBookOkUptoRow, standIns := [], harness := (true, "720d44d0421005384c17f145b52d0b4f0423a65c63464fd112fe45f55a32698f"), looks := true }, kinds := [], alts := [], laidByText := true, laidKinds := [.handle], laidTests := true, laidLooks := .later }
def FnExactGateBookOkUptoCardSaid : Prop := Claim7.holds Tryz.pinned (.plain (OpenSpec.upto fnExactGateBookOkSpec)) fnExactGateBookOkUptoCard
end Rows
end Go.Proofs.YtfhmgjncemkpdaaGreatDoor
