/-
  DERIVED. GIVEN WITH THE SEED: THE CARDS: each row of YtnnbnecpcppkdaaDoorRows.lean that lists a variable, with what it lists TIED to the program's text (the seventh form; the later family's looks); each row that meets fmt, with fmt's text TOLD by the authors' own Lean function (tested against real Go, not proved from fmt's source: count such statements apart). THE CARD IS WHAT COUNTS. Prove the row's statement (the work); the ties are given (YtnnbnecpcppkdaaDoorTie.lean); close each card by the builder's one call (the guide's Derived/Test/ToyasCard.lean, 'card_holds'). Laid BY PROGRAM, IN A SANDBOX (cutbox-door.mjs). By AI agents, Wed Nov 11 2026. No macro, syntax, notation, axiom, sorry.
-/
import Derived.Test.YtnnbnecpcppkdaaDoorRows
import GoSem.ClaimSeven
namespace Go.Proofs.YtnnbnecpcppkdaaDoor
namespace Rows

/-- THE TIED CARD OF 'gantkeep5.StopMirror'. -/
def stopMirrorCard : Claim7 := { stood := { row := stopMirrorRow, standIns := [], harness := (true, "6e8cb4ece2f37bc6739d0582bbaa6f577746b637707fb3be893888d81d0888ed"), looks := false }, kinds := [], alts := [], laidByText := true, laidKinds := [.data], laidTests := true, laidLooks := .later }
def StopMirrorCardSaid : Prop := Claim7.holds Tryd.pinned (.plain (OpenSpec.ofChange stopMirrorSpec)) stopMirrorCard

/-- THE TIED CARD OF 'gantkeep5.FeelMean'. -/
def feelMeanCard : Claim7 := { stood := { row := feelMeanRow, standIns := [], harness := (true, "6e8cb4ece2f37bc6739d0582bbaa6f577746b637707fb3be893888d81d0888ed"), looks := false }, kinds := [], alts := [], laidByText := true, laidKinds := [.data], laidTests := true, laidLooks := .later }
def FeelMeanCardSaid : Prop := Claim7.holds Tryd.pinned (.plain (OpenSpec.ofChange feelMeanSpec)) feelMeanCard

/-- THE TIED CARD OF 'gantkeep5.StopHolds'. -/
def stopHoldsCard : Claim7 := { stood := { row := stopHoldsRow, standIns := [], harness := (true, "6e8cb4ece2f37bc6739d0582bbaa6f577746b637707fb3be893888d81d0888ed"), looks := false }, kinds := [], alts := [], laidByText := true, laidKinds := [.data], laidTests := true, laidLooks := .later }
def StopHoldsCardSaid : Prop := Claim7.holds Tryd.pinned (.plain (OpenSpec.ofChange stopHoldsSpec)) stopHoldsCard

/-- THE TIED CARD OF 'gantkeep5.StopLess'. -/
def stopLessCard : Claim7 := { stood := { row := stopLessRow, standIns := [], harness := (true, "6e8cb4ece2f37bc6739d0582bbaa6f577746b637707fb3be893888d81d0888ed"), looks := false }, kinds := [], alts := [], laidByText := true, laidKinds := [.data], laidTests := true, laidLooks := .later }
def StopLessCardSaid : Prop := Claim7.holds Tryd.pinned (.plain (OpenSpec.ofChange stopLessSpec)) stopLessCard

/-- THE TIED CARD OF 'gantkeep5.StopSafe'. -/
def stopSafeCard : Claim7 := { stood := { row := stopSafeRow, standIns := [], harness := (true, "6e8cb4ece2f37bc6739d0582bbaa6f577746b637707fb3be893888d81d0888ed"), looks := false }, kinds := [], alts := [], laidByText := true, laidKinds := [.data], laidTests := true, laidLooks := .later }
def StopSafeCardSaid : Prop := Claim7.holds Tryd.pinned (.plain (OpenSpec.ofChange stopSafeSpec)) stopSafeCard

/-- THE TIED CARD OF 'gantlaw5.StopSpans'. -/
def stopSpansCard : Claim7 := { stood := { row := stopSpansRow, standIns := [], harness := (true, "6e8cb4ece2f37bc6739d0582bbaa6f577746b637707fb3be893888d81d0888ed"), looks := false }, kinds := [], alts := [], laidByText := true, laidKinds := [.data], laidTests := true, laidLooks := .later }
def StopSpansCardSaid : Prop := Claim7.holds Tryd.pinned (.plain (OpenSpec.ofChange stopSpansSpec)) stopSpansCard

/-- THE TIED CARD OF 'gantkeep5.CtlBounds'. -/
def ctlBoundsCard : Claim7 := { stood := { row := ctlBoundsRow, standIns := [], harness := (true, "6e8cb4ece2f37bc6739d0582bbaa6f577746b637707fb3be893888d81d0888ed"), looks := false }, kinds := [], alts := [], laidByText := true, laidKinds := [.data], laidTests := true, laidLooks := .later }
def CtlBoundsCardSaid : Prop := Claim7.holds Tryd.pinned (.plain (OpenSpec.ofChange ctlBoundsSpec)) ctlBoundsCard

/-- THE TIED CARD OF 'gantkeep5.CtlOwn'. -/
def ctlOwnCard : Claim7 := { stood := { row := ctlOwnRow, standIns := [], harness := (true, "6e8cb4ece2f37bc6739d0582bbaa6f577746b637707fb3be893888d81d0888ed"), looks := false }, kinds := [], alts := [], laidByText := true, laidKinds := [.data], laidTests := true, laidLooks := .later }
def CtlOwnCardSaid : Prop := Claim7.holds Tryd.pinned (.plain (OpenSpec.ofChange ctlOwnSpec)) ctlOwnCard

/-- THE TIED CARD OF 'gantlaw5.CtlTells'. -/
def ctlTellsCard : Claim7 := { stood := { row := ctlTellsRow, standIns := [], harness := (true, "6e8cb4ece2f37bc6739d0582bbaa6f577746b637707fb3be893888d81d0888ed"), looks := false }, kinds := [], alts := [], laidByText := true, laidKinds := [.data], laidTests := true, laidLooks := .later }
def CtlTellsCardSaid : Prop := Claim7.holds Tryd.pinned (.plain (OpenSpec.ofChange ctlTellsSpec)) ctlTellsCard

/-- THE TIED CARD OF 'gantkeep5.CtlFollows'. -/
def ctlFollowsCard : Claim7 := { stood := { row := ctlFollowsRow, standIns := [], harness := (true, "6e8cb4ece2f37bc6739d0582bbaa6f577746b637707fb3be893888d81d0888ed"), looks := false }, kinds := [], alts := [], laidByText := true, laidKinds := [.data], laidTests := true, laidLooks := .later }
def CtlFollowsCardSaid : Prop := Claim7.holds Tryd.pinned (.plain (OpenSpec.ofChange ctlFollowsSpec)) ctlFollowsCard

/-- THE TIED CARD OF 'ganttop.TopBrakes'. -/
def topBrakesCard : Claim7 := { stood := { row := topBrakesRow, standIns := [], harness := (true, "6e8cb4ece2f37bc6739d0582bbaa6f577746b637707fb3be893888d81d0888ed"), looks := false }, kinds := [], alts := [], laidByText := true, laidKinds := [.data], laidTests := true, laidLooks := .later }
def TopBrakesCardSaid : Prop := Claim7.holds Tryd.pinned (.plain (OpenSpec.ofChange topBrakesSpec)) topBrakesCard

/-- THE SECOND FORM's CARD OF 'gantkeep5.StopMirror'. -/
def stopMirrorUptoCard : Claim7 := { stood := { row := stopMirrorUptoRow, standIns := [], harness := (true, "6e8cb4ece2f37bc6739d0582bbaa6f577746b637707fb3be893888d81d0888ed"), looks := false }, kinds := [], alts := [], laidByText := true, laidKinds := [.data], laidTests := true, laidLooks := .later }
def StopMirrorUptoCardSaid : Prop := Claim7.holds Tryd.pinned (.plain (OpenSpec.upto stopMirrorSpec)) stopMirrorUptoCard

/-- THE SECOND FORM's CARD OF 'gantkeep5.FeelMean'. -/
def feelMeanUptoCard : Claim7 := { stood := { row := feelMeanUptoRow, standIns := [], harness := (true, "6e8cb4ece2f37bc6739d0582bbaa6f577746b637707fb3be893888d81d0888ed"), looks := false }, kinds := [], alts := [], laidByText := true, laidKinds := [.data], laidTests := true, laidLooks := .later }
def FeelMeanUptoCardSaid : Prop := Claim7.holds Tryd.pinned (.plain (OpenSpec.upto feelMeanSpec)) feelMeanUptoCard

/-- THE SECOND FORM's CARD OF 'gantkeep5.StopHolds'. -/
def stopHoldsUptoCard : Claim7 := { stood := { row := stopHoldsUptoRow, standIns := [], harness := (true, "6e8cb4ece2f37bc6739d0582bbaa6f577746b637707fb3be893888d81d0888ed"), looks := false }, kinds := [], alts := [], laidByText := true, laidKinds := [.data], laidTests := true, laidLooks := .later }
def StopHoldsUptoCardSaid : Prop := Claim7.holds Tryd.pinned (.plain (OpenSpec.upto stopHoldsSpec)) stopHoldsUptoCard

/-- THE SECOND FORM's CARD OF 'gantkeep5.StopLess'. -/
def stopLessUptoCard : Claim7 := { stood := { row := stopLessUptoRow, standIns := [], harness := (true, "6e8cb4ece2f37bc6739d0582bbaa6f577746b637707fb3be893888d81d0888ed"), looks := false }, kinds := [], alts := [], laidByText := true, laidKinds := [.data], laidTests := true, laidLooks := .later }
def StopLessUptoCardSaid : Prop := Claim7.holds Tryd.pinned (.plain (OpenSpec.upto stopLessSpec)) stopLessUptoCard

/-- THE SECOND FORM's CARD OF 'gantkeep5.StopSafe'. -/
def stopSafeUptoCard : Claim7 := { stood := { row := stopSafeUptoRow, standIns := [], harness := (true, "6e8cb4ece2f37bc6739d0582bbaa6f577746b637707fb3be893888d81d0888ed"), looks := false }, kinds := [], alts := [], laidByText := true, laidKinds := [.data], laidTests := true, laidLooks := .later }
def StopSafeUptoCardSaid : Prop := Claim7.holds Tryd.pinned (.plain (OpenSpec.upto stopSafeSpec)) stopSafeUptoCard

/-- THE SECOND FORM's CARD OF 'gantlaw5.StopSpans'. -/
def stopSpansUptoCard : Claim7 := { stood := { row := stopSpansUptoRow, standIns := [], harness := (true, "6e8cb4ece2f37bc6739d0582bbaa6f577746b637707fb3be893888d81d0888ed"), looks := false }, kinds := [], alts := [], laidByText := true, laidKinds := [.data], laidTests := true, laidLooks := .later }
def StopSpansUptoCardSaid : Prop := Claim7.holds Tryd.pinned (.plain (OpenSpec.upto stopSpansSpec)) stopSpansUptoCard

/-- THE SECOND FORM's CARD OF 'gantkeep5.CtlBounds'. -/
def ctlBoundsUptoCard : Claim7 := { stood := { row := ctlBoundsUptoRow, standIns := [], harness := (true, "6e8cb4ece2f37bc6739d0582bbaa6f577746b637707fb3be893888d81d0888ed"), looks := false }, kinds := [], alts := [], laidByText := true, laidKinds := [.data], laidTests := true, laidLooks := .later }
def CtlBoundsUptoCardSaid : Prop := Claim7.holds Tryd.pinned (.plain (OpenSpec.upto ctlBoundsSpec)) ctlBoundsUptoCard

/-- THE SECOND FORM's CARD OF 'gantkeep5.CtlOwn'. -/
def ctlOwnUptoCard : Claim7 := { stood := { row := ctlOwnUptoRow, standIns := [], harness := (true, "6e8cb4ece2f37bc6739d0582bbaa6f577746b637707fb3be893888d81d0888ed"), looks := false }, kinds := [], alts := [], laidByText := true, laidKinds := [.data], laidTests := true, laidLooks := .later }
def CtlOwnUptoCardSaid : Prop := Claim7.holds Tryd.pinned (.plain (OpenSpec.upto ctlOwnSpec)) ctlOwnUptoCard

/-- THE SECOND FORM's CARD OF 'gantlaw5.CtlTells'. -/
def ctlTellsUptoCard : Claim7 := { stood := { row := ctlTellsUptoRow, standIns := [], harness := (true, "6e8cb4ece2f37bc6739d0582bbaa6f577746b637707fb3be893888d81d0888ed"), looks := false }, kinds := [], alts := [], laidByText := true, laidKinds := [.data], laidTests := true, laidLooks := .later }
def CtlTellsUptoCardSaid : Prop := Claim7.holds Tryd.pinned (.plain (OpenSpec.upto ctlTellsSpec)) ctlTellsUptoCard

/-- THE SECOND FORM's CARD OF 'gantkeep5.CtlFollows'. -/
def ctlFollowsUptoCard : Claim7 := { stood := { row := ctlFollowsUptoRow, standIns := [], harness := (true, "6e8cb4ece2f37bc6739d0582bbaa6f577746b637707fb3be893888d81d0888ed"), looks := false }, kinds := [], alts := [], laidByText := true, laidKinds := [.data], laidTests := true, laidLooks := .later }
def CtlFollowsUptoCardSaid : Prop := Claim7.holds Tryd.pinned (.plain (OpenSpec.upto ctlFollowsSpec)) ctlFollowsUptoCard

/-- THE SECOND FORM's CARD OF 'ganttop.TopBrakes'. -/
def topBrakesUptoCard : Claim7 := { stood := { row := topBrakesUptoRow, standIns := [], harness := (true, "6e8cb4ece2f37bc6739d0582bbaa6f577746b637707fb3be893888d81d0888ed"), looks := false }, kinds := [], alts := [], laidByText := true, laidKinds := [.data], laidTests := true, laidLooks := .later }
def TopBrakesUptoCardSaid : Prop := Claim7.holds Tryd.pinned (.plain (OpenSpec.upto topBrakesSpec)) topBrakesUptoCard
end Rows
end Go.Proofs.YtnnbnecpcppkdaaDoor
