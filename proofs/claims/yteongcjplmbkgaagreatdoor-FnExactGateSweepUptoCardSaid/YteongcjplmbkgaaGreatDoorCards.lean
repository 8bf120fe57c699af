/-
  DERIVED. GIVEN WITH THE SEED: THE CARDS: each row of YteongcjplmbkgaaGreatDoorRows.lean that lists a variable, with what it lists TIED to the program's text (the seventh form; the later family's looks); each row that meets fmt, with fmt's text TOLD by the authors' own Lean function (tested against real Go, not proved from fmt's source: count such statements apart). THE CARD IS WHAT COUNTS. Prove the row's statement (the work); the ties are given (YteongcjplmbkgaaGreatDoorTie.lean); close each card by the builder's one call (the guide's Derived/Test/ToyasCard.lean, 'card_holds'). Laid BY PROGRAM, IN A SANDBOX (cutbox-door.mjs). By AI agents, Wed Nov 11 2026. No macro, syntax, notation, axiom, sorry.
-/
import Derived.Test.YteongcjplmbkgaaGreatDoorRows
import GoSem.ClaimSeven
namespace Go.Proofs.YteongcjplmbkgaaGreatDoor
namespace Rows

/-- THE TIED CARD OF 'laws.FnExactGateMark'. -/
def fnExactGateMarkCard : Claim7 := { stood := { row := fnExactGateMarkRow, standIns := [], harness := (true, "5b6189db4f6450df5d02072a68d2045f945b55231b01d306b24e330187af7293"), looks := true }, kinds := [], alts := [], laidByText := true, laidKinds := [.handle], laidTests := true, laidLooks := .later }
def FnExactGateMarkCardSaid : Prop := Claim7.holds Tryz.pinned (.plain (OpenSpec.ofChange fnExactGateMarkSpec)) fnExactGateMarkCard

/-- THE TIED CARD OF 'laws.FnExactGateGoing'. -/
def fnExactGateGoingCard : Claim7 := { stood := { row := fnExactGateGoingRow, standIns := [], harness := (true, "5b6189db4f6450df5d02072a68d2045f945b55231b01d306b24e330187af7293"), looks := true }, kinds := [], alts := [], laidByText := true, laidKinds := [.handle], laidTests := true, laidLooks := .later }
def FnExactGateGoingCardSaid : Prop := Claim7.holds Tryz.pinned (.plain (OpenSpec.ofChange fnExactGateGoingSpec)) fnExactGateGoingCard

/-- THE TIED CARD OF 'laws.FnExactGateDoomed'. -/
def fnExactGateDoomedCard : Claim7 := { stood := { row := fnExactGateDoomedRow, standIns := [], harness := (true, "5b6189db4f6450df5d02072a68d2045f945b55231b01d306b24e330187af7293"), looks := true }, kinds := [], alts := [], laidByText := true, laidKinds := [.handle], laidTests := true, laidLooks := .later }
def FnExactGateDoomedCardSaid : Prop := Claim7.holds Tryz.pinned (.plain (OpenSpec.ofChange fnExactGateDoomedSpec)) fnExactGateDoomedCard

/-- THE TIED CARD OF 'laws.FnExactGateTick'. -/
def fnExactGateTickCard : Claim7 := { stood := { row := fnExactGateTickRow, standIns := [], harness := (true, "5b6189db4f6450df5d02072a68d2045f945b55231b01d306b24e330187af7293"), looks := true }, kinds := [], alts := [], laidByText := true, laidKinds := [.handle], laidTests := true, laidLooks := .later }
def FnExactGateTickCardSaid : Prop := Claim7.holds Tryz.pinned (.plain (OpenSpec.ofChange fnExactGateTickSpec)) fnExactGateTickCard

/-- THE TIED CARD OF 'laws.FnExactGateBack'. -/
def fnExactGateBackCard : Claim7 := { stood := { row := fnExactGateBackRow, standIns := [], harness := (true, "5b6189db4f6450df5d02072a68d2045f945b55231b01d306b24e330187af7293"), looks := true }, kinds := [], alts := [], laidByText := true, laidKinds := [.handle], laidTests := true, laidLooks := .later }
def FnExactGateBackCardSaid : Prop := Claim7.holds Tryz.pinned (.plain (OpenSpec.ofChange fnExactGateBackSpec)) fnExactGateBackCard

/-- THE TIED CARD OF 'laws.FnExactGateBound'. -/
def fnExactGateBoundCard : Claim7 := { stood := { row := fnExactGateBoundRow, standIns := [], harness := (true, "5b6189db4f6450df5d02072a68d2045f945b55231b01d306b24e330187af7293"), looks := true }, kinds := [], alts := [], laidByText := true, laidKinds := [.handle], laidTests := true, laidLooks := .later }
def FnExactGateBoundCardSaid : Prop := Claim7.holds Tryz.pinned (.plain (OpenSpec.ofChange fnExactGateBoundSpec)) fnExactGateBoundCard

/-- THE TIED CARD OF 'laws.FnExactGateDraw'. -/
def fnExactGateDrawCard : Claim7 := { stood := { row := fnExactGateDrawRow, standIns := [], harness := (true, "5b6189db4f6450df5d02072a68d2045f945b55231b01d306b24e330187af7293"), looks := true }, kinds := [], alts := [], laidByText := true, laidKinds := [.handle], laidTests := true, laidLooks := .later }
def FnExactGateDrawCardSaid : Prop := Claim7.holds Tryz.pinned (.plain (OpenSpec.ofChange fnExactGateDrawSpec)) fnExactGateDrawCard

/-- THE TIED CARD OF 'laws.FnExactGateSweep'. -/
def fnExactGateSweepCard : Claim7 := { stood := { row := fnExactGateSweepRow, standIns := [], harness := (true, "5b6189db4f6450df5d02072a68d2045f945b55231b01d306b24e330187af7293"), looks := true }, kinds := [], alts := [], laidByText := true, laidKinds := [.handle], laidTests := true, laidLooks := .later }
def FnExactGateSweepCardSaid : Prop := Claim7.holds Tryz.pinned (.plain (OpenSpec.ofChange fnExactGateSweepSpec)) fnExactGateSweepCard

/-- THE SECOND FORM's CARD OF 'laws.FnExactGateMark'. -/
def fnExactGateMarkUptoCard : Claim7 := { stood := { row := fnExactGateMarkUptoRow, standIns := [], harness := (true, "5b6189db4f6450df5d02072a68d2045f945b55231b01d306b24e330187af7293"), looks := true }, kinds := [], alts := [], laidByText := true, laidKinds := [.handle], laidTests := true, laidLooks := .later }
def FnExactGateMarkUptoCardSaid : Prop := Claim7.holds Tryz.pinned (.plain (OpenSpec.upto fnExactGateMarkSpec)) fnExactGateMarkUptoCard

/-- THE SECOND FORM's CARD OF 'laws.FnExactGateGoing'. -/
def fnExactGateGoingUptoCard : Claim7 := { stood := { row := fnExactGateGoingUptoRow, standIns := [], harness := (true, "5b6189db4f6450df5d02072a68d2045f945b55231b01d306b24e330187af7293"), looks := true }, kinds := [], alts := [], laidByText := true, laidKinds := [.handle], laidTests := true, laidLooks := .later }
def FnExactGateGoingUptoCardSaid : Prop := Claim7.holds Tryz.pinned (.plain (OpenSpec.upto fnExactGateGoingSpec)) fnExactGateGoingUptoCard

/-- THE SECOND FORM's CARD OF 'laws.FnExactGateDoomed'. -/
def fnExactGateDoomedUptoCard : Claim7 := { stood := { row := fnExactGateDoomedUptoRow, standIns := [], harness := (true, "5b6189db4f6450df5d02072a68d2045f945b55231b01d306b24e330187af7293"), looks := true }, kinds := [], alts := [], laidByText := true, laidKinds := [.handle], laidTests := true, laidLooks := .later }
def FnExactGateDoomedUptoCardSaid : Prop := Claim7.holds Tryz.pinned (.plain (OpenSpec.upto fnExactGateDoomedSpec)) fnExactGateDoomedUptoCard

/-- THE SECOND FORM's CARD OF 'laws.FnExactGateTick'. -/
def fnExactGateTickUptoCard : Claim7 := { stood := { row := fnExactGateTickUptoRow, standIns := [], harness := (true, "5b6189db4f6450df5d02072a68d2045f945b55231b01d306b24e330187af7293"), looks := true }, kinds := [], alts := [], laidByText := true, laidKinds := [.handle], laidTests := true, laidLooks := .later }
def FnExactGateTickUptoCardSaid : Prop := Claim7.holds Tryz.pinned (.plain (OpenSpec.upto fnExactGateTickSpec)) fnExactGateTickUptoCard

/-- THE SECOND FORM's CARD OF 'laws.FnExactGateBack'. -/
def fnExactGateBackUptoCard : Claim7 := { stood := { row := fnExactGateBackUptoRow, standIns := [], harness := (true, "5b6189db4f6450df5d02072a68d2045f945b55231b01d306b24e330187af7293"), looks := true }, kinds := [], alts := [], laidByText := true, laidKinds := [.handle], laidTests := true, laidLooks := .later }
def FnExactGateBackUptoCardSaid : Prop := Claim7.holds Tryz.pinned (.plain (OpenSpec.upto fnExactGateBackSpec)) fnExactGateBackUptoCard

/-- THE SECOND FORM's CARD OF 'laws.FnExactGateBound'. -/
def fnExactGateBoundUptoCard : Claim7 := { stood := { row := fnExactGateBoundUptoRow, standIns := [], harness := (true, "5b6189db4f6450df5d02072a68d2045f945b55231b01d306b24e330187af7293"), looks := true }, kinds := [], alts := [], laidByText := true, laidKinds := [.handle], laidTests := true, laidLooks := .later }
def FnExactGateBoundUptoCardSaid : Prop := Claim7.holds Tryz.pinned (.plain (OpenSpec.upto fnExactGateBoundSpec)) fnExactGateBoundUptoCard

/-- THE SECOND FORM's CARD OF 'laws.FnExactGateDraw'. -/
def fnExactGateDrawUptoCard : Claim7 := { stood := { row := fnExactGateDrawUptoRow, standIns := [], harness := (true, "5b6189db4f6450df5d02072a68d2045f945b55231b01d306b24e330187af7293"), looks := true }, kinds := [], alts := [], laidByText := true, laidKinds := [.handle], laidTests := true, laidLooks := .later }
def FnExactGateDrawUptoCardSaid : Prop := Claim7.holds Tryz.pinned (.plain (OpenSpec.upto fnExactGateDrawSpec)) fnExactGateDrawUptoCard

/-- THE SECOND FORM's CARD OF 'laws.FnExactGateSweep'. -/
def fnExactGateSweepUptoCard : Claim7 := { stood := { row := fnExactGateSweepUptoRow, standIns := [], harness := (true, "5b6189db4f6450df5d02072a68d2045f945b55231b01d306b24e330187af7293"), looks := true }, kinds := [], alts := [], laidByText := true, laidKinds := [.handle], laidTests := true, laidLooks := .later }
def FnExactGateSweepUptoCardSaid : Prop := Claim7.holds Tryz.pinned (.plain (OpenSpec.upto fnExactGateSweepSpec)) fnExactGateSweepUptoCard
end Rows
end Go.Proofs.YteongcjplmbkgaaGreatDoor
