/-
  DERIVED. GIVEN WITH THE SEED: THE CARDS: each row of YthmgcbpmfipfiaaDoorRows.lean that lists a variable, with what it lists TIED to the program's text (the seventh form; the later family's looks); each row that meets fmt, with fmt's text TOLD by the authors' own Lean function (tested against real Go, not proved from fmt's source: count such statements apart). THE CARD IS WHAT COUNTS. Prove the row's statement (the work); the ties are given (YthmgcbpmfipfiaaDoorTie.lean); close each card by the builder's one call (the guide's Derived/Test/ToyasCard.lean, 'card_holds'). Laid BY PROGRAM, IN A SANDBOX (cutbox-door.mjs). By AI agents, Wed Nov 11 2026. No macro, syntax, notation, axiom, sorry.
-/
import Derived.Test.YthmgcbpmfipfiaaDoorRows
import GoSem.ClaimSeven
namespace Go.Proofs.YthmgcbpmfipfiaaDoor
namespace Rows

/-- THE TIED CARD OF 'gantkeep5.FeelSooner'. -/
def feelSoonerCard : Claim7 := { stood := { row := feelSoonerRow, standIns := [], harness := (true, "ffb22728742dd6807771e242e0a3714a2ff9e3516f1b33660d9d26075091bbc4"), looks := false }, kinds := [], alts := [], laidByText := true, laidKinds := [.data], laidTests := true, laidLooks := .later }
def FeelSoonerCardSaid : Prop := Claim7.holds Tryd.pinned (.plain (OpenSpec.ofChange feelSoonerSpec)) feelSoonerCard

/-- THE TIED CARD OF 'gantkeep5.FeelTouch'. -/
def feelTouchCard : Claim7 := { stood := { row := feelTouchRow, standIns := [], harness := (true, "ffb22728742dd6807771e242e0a3714a2ff9e3516f1b33660d9d26075091bbc4"), looks := false }, kinds := [], alts := [], laidByText := true, laidKinds := [.data], laidTests := true, laidLooks := .later }
def FeelTouchCardSaid : Prop := Claim7.holds Tryd.pinned (.plain (OpenSpec.ofChange feelTouchSpec)) feelTouchCard

/-- THE TIED CARD OF 'gantkeep5.FeelMean'. -/
def feelMeanCard : Claim7 := { stood := { row := feelMeanRow, standIns := [], harness := (true, "ffb22728742dd6807771e242e0a3714a2ff9e3516f1b33660d9d26075091bbc4"), looks := false }, kinds := [], alts := [], laidByText := true, laidKinds := [.data], laidTests := true, laidLooks := .later }
def FeelMeanCardSaid : Prop := Claim7.holds Tryd.pinned (.plain (OpenSpec.ofChange feelMeanSpec)) feelMeanCard

/-- THE TIED CARD OF 'gantlaw5.FeelTells'. -/
def feelTellsCard : Claim7 := { stood := { row := feelTellsRow, standIns := [], harness := (true, "ffb22728742dd6807771e242e0a3714a2ff9e3516f1b33660d9d26075091bbc4"), looks := false }, kinds := [], alts := [], laidByText := true, laidKinds := [.data], laidTests := true, laidLooks := .later }
def FeelTellsCardSaid : Prop := Claim7.holds Tryd.pinned (.plain (OpenSpec.ofChange feelTellsSpec)) feelTellsCard

/-- THE TIED CARD OF 'gantkeep5.ZoneWalks'. -/
def zoneWalksCard : Claim7 := { stood := { row := zoneWalksRow, standIns := [], harness := (true, "ffb22728742dd6807771e242e0a3714a2ff9e3516f1b33660d9d26075091bbc4"), looks := false }, kinds := [], alts := [], laidByText := true, laidKinds := [.data], laidTests := true, laidLooks := .later }
def ZoneWalksCardSaid : Prop := Claim7.holds Tryd.pinned (.plain (OpenSpec.ofChange zoneWalksSpec)) zoneWalksCard

/-- THE TIED CARD OF 'gantkeep5.ZoneLater'. -/
def zoneLaterCard : Claim7 := { stood := { row := zoneLaterRow, standIns := [], harness := (true, "ffb22728742dd6807771e242e0a3714a2ff9e3516f1b33660d9d26075091bbc4"), looks := false }, kinds := [], alts := [], laidByText := true, laidKinds := [.data], laidTests := true, laidLooks := .later }
def ZoneLaterCardSaid : Prop := Claim7.holds Tryd.pinned (.plain (OpenSpec.ofChange zoneLaterSpec)) zoneLaterCard

/-- THE TIED CARD OF 'gantkeep5.ZoneCloser'. -/
def zoneCloserCard : Claim7 := { stood := { row := zoneCloserRow, standIns := [], harness := (true, "ffb22728742dd6807771e242e0a3714a2ff9e3516f1b33660d9d26075091bbc4"), looks := false }, kinds := [], alts := [], laidByText := true, laidKinds := [.data], laidTests := true, laidLooks := .later }
def ZoneCloserCardSaid : Prop := Claim7.holds Tryd.pinned (.plain (OpenSpec.ofChange zoneCloserSpec)) zoneCloserCard

/-- THE TIED CARD OF 'gantlaw5.ZoneTells'. -/
def zoneTellsCard : Claim7 := { stood := { row := zoneTellsRow, standIns := [], harness := (true, "ffb22728742dd6807771e242e0a3714a2ff9e3516f1b33660d9d26075091bbc4"), looks := false }, kinds := [], alts := [], laidByText := true, laidKinds := [.data], laidTests := true, laidLooks := .later }
def ZoneTellsCardSaid : Prop := Claim7.holds Tryd.pinned (.plain (OpenSpec.ofChange zoneTellsSpec)) zoneTellsCard

/-- THE TIED CARD OF 'gantlaw5.ZoneLevels'. -/
def zoneLevelsCard : Claim7 := { stood := { row := zoneLevelsRow, standIns := [], harness := (true, "ffb22728742dd6807771e242e0a3714a2ff9e3516f1b33660d9d26075091bbc4"), looks := false }, kinds := [], alts := [], laidByText := true, laidKinds := [.data], laidTests := true, laidLooks := .later }
def ZoneLevelsCardSaid : Prop := Claim7.holds Tryd.pinned (.plain (OpenSpec.ofChange zoneLevelsSpec)) zoneLevelsCard

/-- THE TIED CARD OF 'gantkeep5.StopMirror'. -/
def stopMirrorCard : Claim7 := { stood := { row := stopMirrorRow, standIns := [], harness := (true, "ffb22728742dd6807771e242e0a3714a2ff9e3516f1b33660d9d26075091bbc4"), looks := false }, kinds := [], alts := [], laidByText := true, laidKinds := [.data], laidTests := true, laidLooks := .later }
def StopMirrorCardSaid : Prop := Claim7.holds Tryd.pinned (.plain (OpenSpec.ofChange stopMirrorSpec)) stopMirrorCard

/-- THE TIED CARD OF 'gantlaw5.StopTells'. -/
def stopTellsCard : Claim7 := { stood := { row := stopTellsRow, standIns := [], harness := (true, "ffb22728742dd6807771e242e0a3714a2ff9e3516f1b33660d9d26075091bbc4"), looks := false }, kinds := [], alts := [], laidByText := true, laidKinds := [.data], laidTests := true, laidLooks := .later }
def StopTellsCardSaid : Prop := Claim7.holds Tryd.pinned (.plain (OpenSpec.ofChange stopTellsSpec)) stopTellsCard

/-- THE TIED CARD OF 'gantlaw5.StopFast'. -/
def stopFastCard : Claim7 := { stood := { row := stopFastRow, standIns := [], harness := (true, "ffb22728742dd6807771e242e0a3714a2ff9e3516f1b33660d9d26075091bbc4"), looks := false }, kinds := [], alts := [], laidByText := true, laidKinds := [.data], laidTests := true, laidLooks := .later }
def StopFastCardSaid : Prop := Claim7.holds Tryd.pinned (.plain (OpenSpec.ofChange stopFastSpec)) stopFastCard

/-- THE SECOND FORM's CARD OF 'gantkeep5.FeelSooner'. -/
def feelSoonerUptoCard : Claim7 := { stood := { row := feelSoonerUptoRow, standIns := [], harness := (true, "ffb22728742dd6807771e242e0a3714a2ff9e3516f1b33660d9d26075091bbc4"), looks := false }, kinds := [], alts := [], laidByText := true, laidKinds := [.data], laidTests := true, laidLooks := .later }
def FeelSoonerUptoCardSaid : Prop := Claim7.holds Tryd.pinned (.plain (OpenSpec.upto feelSoonerSpec)) feelSoonerUptoCard

/-- THE SECOND FORM's CARD OF 'gantkeep5.FeelTouch'. -/
def feelTouchUptoCard : Claim7 := { stood := { row := feelTouchUptoRow, standIns := [], harness := (true, "ffb22728742dd6807771e242e0a3714a2ff9e3516f1b33660d9d26075091bbc4"), looks := false }, kinds := [], alts := [], laidByText := true, laidKinds := [.data], laidTests := true, laidLooks := .later }
def FeelTouchUptoCardSaid : Prop := Claim7.holds Tryd.pinned (.plain (OpenSpec.upto feelTouchSpec)) feelTouchUptoCard

/-- THE SECOND FORM's CARD OF 'gantkeep5.FeelMean'. -/
def feelMeanUptoCard : Claim7 := { stood := { row := feelMeanUptoRow, standIns := [], harness := (true, "ffb22728742dd6807771e242e0a3714a2ff9e3516f1b33660d9d26075091bbc4"), looks := false }, kinds := [], alts := [], laidByText := true, laidKinds := [.data], laidTests := true, laidLooks := .later }
def FeelMeanUptoCardSaid : Prop := Claim7.holds Tryd.pinned (.plain (OpenSpec.upto feelMeanSpec)) feelMeanUptoCard

/-- THE SECOND FORM's CARD OF 'gantlaw5.FeelTells'. -/
def feelTellsUptoCard : Claim7 := { stood := { row := feelTellsUptoRow, standIns := [], harness := (true, "ffb22728742dd6807771e242e0a3714a2ff9e3516f1b33660d9d26075091bbc4"), looks := false }, kinds := [], alts := [], laidByText := true, laidKinds := [.data], laidTests := true, laidLooks := .later }
def FeelTellsUptoCardSaid : Prop := Claim7.holds Tryd.pinned (.plain (OpenSpec.upto feelTellsSpec)) feelTellsUptoCard

/-- THE SECOND FORM's CARD OF 'gantkeep5.ZoneWalks'. -/
def zoneWalksUptoCard : Claim7 := { stood := { row := zoneWalksUptoRow, standIns := [], harness := (true, "ffb22728742dd6807771e242e0a3714a2ff9e3516f1b33660d9d26075091bbc4"), looks := false }, kinds := [], alts := [], laidByText := true, laidKinds := [.data], laidTests := true, laidLooks := .later }
def ZoneWalksUptoCardSaid : Prop := Claim7.holds Tryd.pinned (.plain (OpenSpec.upto zoneWalksSpec)) zoneWalksUptoCard

/-- THE SECOND FORM's CARD OF 'gantkeep5.ZoneLater'. -/
def zoneLaterUptoCard : Claim7 := { stood := { row := zoneLaterUptoRow, standIns := [], harness := (true, "ffb22728742dd6807771e242e0a3714a2ff9e3516f1b33660d9d26075091bbc4"), looks := false }, kinds := [], alts := [], laidByText := true, laidKinds := [.data], laidTests := true, laidLooks := .later }
def ZoneLaterUptoCardSaid : Prop := Claim7.holds Tryd.pinned (.plain (OpenSpec.upto zoneLaterSpec)) zoneLaterUptoCard

/-- THE SECOND FORM's CARD OF 'gantkeep5.ZoneCloser'. -/
def zoneCloserUptoCard : Claim7 := { stood := { row := zoneCloserUptoRow, standIns := [], harness := (true, "ffb22728742dd6807771e242e0a3714a2ff9e3516f1b33660d9d26075091bbc4"), looks := false }, kinds := [], alts := [], laidByText := true, laidKinds := [.data], laidTests := true, laidLooks := .later }
def ZoneCloserUptoCardSaid : Prop := Claim7.holds Tryd.pinned (.plain (OpenSpec.upto zoneCloserSpec)) zoneCloserUptoCard

/-- THE SECOND FORM's CARD OF 'gantlaw5.ZoneTells'. -/
def zoneTellsUptoCard : Claim7 := { stood := { row := zoneTellsUptoRow, standIns := [], harness := (true, "ffb22728742dd6807771e242e0a3714a2ff9e3516f1b33660d9d26075091bbc4"), looks := false }, kinds := [], alts := [], laidByText := true, laidKinds := [.data], laidTests := true, laidLooks := .later }
def ZoneTellsUptoCardSaid : Prop := Claim7.holds Tryd.pinned (.plain (OpenSpec.upto zoneTellsSpec)) zoneTellsUptoCard

/-- THE SECOND FORM's CARD OF 'gantlaw5.ZoneLevels'. -/
def zoneLevelsUptoCard : Claim7 := { stood := { row := zoneLevelsUptoRow, standIns := [], harness := (true, "ffb22728742dd6807771e242e0a3714a2ff9e3516f1b33660d9d26075091bbc4"), looks := false }, kinds := [], alts := [], laidByText := true, laidKinds := [.data], laidTests := true, laidLooks := .later }
def ZoneLevelsUptoCardSaid : Prop := Claim7.holds Tryd.pinned (.plain (OpenSpec.upto zoneLevelsSpec)) zoneLevelsUptoCard

/-- THE SECOND FORM's CARD OF 'gantkeep5.StopMirror'. -/
def stopMirrorUptoCard : Claim7 := { stood := { row := stopMirrorUptoRow, standIns := [], harness := (true, "ffb22728742dd6807771e242e0a3714a2ff9e3516f1b33660d9d26075091bbc4"), looks := false }, kinds := [], alts := [], laidByText := true, laidKinds := [.data], laidTests := true, laidLooks := .later }
def StopMirrorUptoCardSaid : Prop := Claim7.holds Tryd.pinned (.plain (OpenSpec.upto stopMirrorSpec)) stopMirrorUptoCard

/-- THE SECOND FORM's CARD OF 'gantlaw5.StopTells'. -/
def stopTellsUptoCard : Claim7 := { stood := { row := stopTellsUptoRow, standIns := [], harness := (true, "ffb22728742dd6807771e242e0a3714a2ff9e3516f1b33660d9d26075091bbc4"), looks := false }, kinds := [], alts := [], laidByText := true, laidKinds := [.data], laidTests := true, laidLooks := .later }
def StopTellsUptoCardSaid : Prop := Claim7.holds Tryd.pinned (.plain (OpenSpec.upto stopTellsSpec)) stopTellsUptoCard

/-- THE SECOND FORM's CARD OF 'gantlaw5.StopFast'. -/
def stopFastUptoCard : Claim7 := { stood := { row := stopFastUptoRow, standIns := [], harness := (true, "ffb22728742dd6807771e242e0a3714a2ff9e3516f1b33660d9d26075091bbc4"), looks := false }, kinds := [], alts := [], laidByText := true, laidKinds := [.data], laidTests := true, laidLooks := .later }
def StopFastUptoCardSaid : Prop := Claim7.holds Tryd.pinned (.plain (OpenSpec.upto stopFastSpec)) stopFastUptoCard
end Rows
end Go.Proofs.YthmgcbpmfipfiaaDoor
