/-
  NARROWER THAN 'FOR EVERY INPUT', by the rows' own cells (each row's printed sentence says how): FeelSooner: laid · FeelTouch: laid · FeelMean: laid · FeelTells: laid · ZoneWalks: laid · ZoneLater: laid · ZoneCloser: laid · ZoneTells: laid · ZoneLevels: laid · StopMirror: laid · StopTells: laid · StopFast: laid.
  DERIVED. THE GIVEN ROWS OF THIS SEAT. 12 by the template 'for every input the law returns true; each argument reads behind the call as it read before'; 0 by the template 'total and deterministic' (their statements: YthmgcbpmfipfiaaDoorTotals.lean).
  GIVEN WITH THE SEED: the statements are not yours to turn. If you find one false, say at which input.
  Laid BY PROGRAM, IN A SANDBOX (cutbox-rows.mjs): the forced cells as the released guide's own fill.sh prints them over the translation 09534559f148898f… (all of the seat's roots in one cut). By AI agents, Wed Nov 11 2026. No macro, syntax, notation, axiom, sorry.
-/
import Derived.Test.YthmgcbpmfipfiaaDoorChecked
import GoSem.Claim
import GoSem.ClaimJoined
import GoSem.ClaimMapViews
import Derived.JoinedTies
import Derived.KernelRfl
namespace Go.Proofs.YthmgcbpmfipfiaaDoor
/- THE CELL 'sum', in the pinned program and in every row, IS THE sha256 OF THE DUMP (.gsa) THAT YthmgcbpmfipfiaaDoorProg.lean LOADS. Nothing in Lean hashes anything: it is a label: what it is worth is what the hold of that sum in a sandbox is worth. -/
noncomputable def Tryd.pinned : Pinned := { name := "ythmgcbpmfipfiaadoor", sum := "09534559f148898fafed5b7bf64836ef8c2634be716ee77ca9c38bbc24e9a207", checked := Tryd.checked }
namespace Rows
def none {H : Type} : Left H := { results := [], args := [] }

/- WHAT THE LISTED PACKAGE-LEVEL VARIABLES READ AS WHEN THE CALL BEGINS. Each datum BY PROGRAM (the guide's laid-datum.mjs) off the statement by which the dump's own 'gosem.cut.vars' lays the variable. In a bare row this is a premise. The card (YthmgcbpmfipfiaaDoorCards.lean) ties it to the program's text. -/
def laid_math_bits_deBruijn64tab {H : Type} : DataW H := .agg [.lit (.int .u8 0), .lit (.int .u8 1), .lit (.int .u8 56), .lit (.int .u8 2), .lit (.int .u8 57), .lit (.int .u8 49), .lit (.int .u8 28), .lit (.int .u8 3), .lit (.int .u8 61), .lit (.int .u8 58), .lit (.int .u8 42), .lit (.int .u8 50), .lit (.int .u8 38), .lit (.int .u8 29), .lit (.int .u8 17), .lit (.int .u8 4), .lit (.int .u8 62), .lit (.int .u8 47), .lit (.int .u8 59), .lit (.int .u8 36), .lit (.int .u8 45), .lit (.int .u8 43), .lit (.int .u8 51), .lit (.int .u8 22), .lit (.int .u8 53), .lit (.int .u8 39), .lit (.int .u8 33), .lit (.int .u8 30), .lit (.int .u8 24), .lit (.int .u8 18), .lit (.int .u8 12), .lit (.int .u8 5), .lit (.int .u8 63), .lit (.int .u8 55), .lit (.int .u8 48), .lit (.int .u8 27), .lit (.int .u8 60), .lit (.int .u8 41), .lit (.int .u8 37), .lit (.int .u8 16), .lit (.int .u8 46), .lit (.int .u8 35), .lit (.int .u8 44), .lit (.int .u8 21), .lit (.int .u8 52), .lit (.int .u8 32), .lit (.int .u8 23), .lit (.int .u8 11), .lit (.int .u8 54), .lit (.int .u8 26), .lit (.int .u8 40), .lit (.int .u8 15), .lit (.int .u8 34), .lit (.int .u8 20), .lit (.int .u8 31), .lit (.int .u8 10), .lit (.int .u8 25), .lit (.int .u8 14), .lit (.int .u8 19), .lit (.int .u8 9), .lit (.int .u8 13), .lit (.int .u8 8), .lit (.int .u8 7), .lit (.int .u8 6)]

/-- 'gantkeep5.FeelSooner': WHATEVER THE INPUT: true; the input reads as it did. -/
def feelSoonerSpec : ChangeSpec := { name := "feelSooner", fn := fun _ => fun
  | [d1, d2, d3, d4] => { results := [.lit (.bool true)], args := [d1, d2, d3, d4] }
  | _ => none }
def feelSoonerRow : OpenClaim := { program := "ythmgcbpmfipfiaadoor", sum := "09534559f148898fafed5b7bf64836ef8c2634be716ee77ca9c38bbc24e9a207", func := "gantry/gantkeep5.FeelSooner", spec := "feelSooner", inPlace := ["math/bits.Sub64", "internal/bytealg.abigen_runtime_cmpstring"], named := ["math/bits.deBruijn64tab"], apart := false, laid := [("math/bits.deBruijn64tab", laid_math_bits_deBruijn64tab)] }
def FeelSoonerSaid : Prop := feelSoonerRow.holds Tryd.pinned (OpenSpec.ofChange feelSoonerSpec)

/-- ITS FALSE NEIGHBOUR: 'it returns false'. Refute it at one input. -/
def feelSoonerWrong : ChangeSpec := { name := "feelSooner", fn := fun _ => fun
  | [d1, d2, d3, d4] => { results := [.lit (.bool false)], args := [d1, d2, d3, d4] }
  | _ => none }
def FeelSoonerWrongFalsely : Prop := feelSoonerRow.holds Tryd.pinned (OpenSpec.ofChange feelSoonerWrong)

/-- 'gantkeep5.FeelTouch': WHATEVER THE INPUT: true; the input reads as it did. -/
def feelTouchSpec : ChangeSpec := { name := "feelTouch", fn := fun _ => fun
  | [d1, d2] => { results := [.lit (.bool true)], args := [d1, d2] }
  | _ => none }
def feelTouchRow : OpenClaim := { program := "ythmgcbpmfipfiaadoor", sum := "09534559f148898fafed5b7bf64836ef8c2634be716ee77ca9c38bbc24e9a207", func := "gantry/gantkeep5.FeelTouch", spec := "feelTouch", inPlace := ["math/bits.Sub64", "internal/bytealg.abigen_runtime_cmpstring"], named := ["math/bits.deBruijn64tab"], apart := false, laid := [("math/bits.deBruijn64tab", laid_math_bits_deBruijn64tab)] }
def FeelTouchSaid : Prop := feelTouchRow.holds Tryd.pinned (OpenSpec.ofChange feelTouchSpec)

/-- ITS FALSE NEIGHBOUR: 'it returns false'. Refute it at one input. -/
def feelTouchWrong : ChangeSpec := { name := "feelTouch", fn := fun _ => fun
  | [d1, d2] => { results := [.lit (.bool false)], args := [d1, d2] }
  | _ => none }
def FeelTouchWrongFalsely : Prop := feelTouchRow.holds Tryd.pinned (OpenSpec.ofChange feelTouchWrong)

/-- 'gantkeep5.FeelMean': WHATEVER THE INPUT: true; the input reads as it did. -/
def feelMeanSpec : ChangeSpec := { name := "feelMean", fn := fun _ => fun
  | [d1, d2, d3] => { results := [.lit (.bool true)], args := [d1, d2, d3] }
  | _ => none }
def feelMeanRow : OpenClaim := { program := "ythmgcbpmfipfiaadoor", sum := "09534559f148898fafed5b7bf64836ef8c2634be716ee77ca9c38bbc24e9a207", func := "gantry/gantkeep5.FeelMean", spec := "feelMean", inPlace := ["math/bits.Sub64", "internal/bytealg.abigen_runtime_cmpstring"], unfollowed := true, recurses := true, named := ["math/bits.deBruijn64tab"], apart := false, laid := [("math/bits.deBruijn64tab", laid_math_bits_deBruijn64tab)] }
def FeelMeanSaid : Prop := feelMeanRow.holds Tryd.pinned (OpenSpec.ofChange feelMeanSpec)

/-- ITS FALSE NEIGHBOUR: 'it returns false'. Refute it at one input. -/
def feelMeanWrong : ChangeSpec := { name := "feelMean", fn := fun _ => fun
  | [d1, d2, d3] => { results := [.lit (.bool false)], args := [d1, d2, d3] }
  | _ => none }
def FeelMeanWrongFalsely : Prop := feelMeanRow.holds Tryd.pinned (OpenSpec.ofChange feelMeanWrong)

/-- 'gantlaw5.FeelTells': WHATEVER THE INPUT: true; the input reads as it did. -/
def feelTellsSpec : ChangeSpec := { name := "feelTells", fn := fun _ => fun
  | [d1, d2, d3, d4, d5, d6] => { results := [.lit (.bool true)], args := [d1, d2, d3, d4, d5, d6] }
  | _ => none }
def feelTellsRow : OpenClaim := { program := "ythmgcbpmfipfiaadoor", sum := "09534559f148898fafed5b7bf64836ef8c2634be716ee77ca9c38bbc24e9a207", func := "gantry/gantlaw5.FeelTells", spec := "feelTells", inPlace := ["math/bits.Sub64", "internal/bytealg.abigen_runtime_cmpstring"], named := ["math/bits.deBruijn64tab"], apart := false, laid := [("math/bits.deBruijn64tab", laid_math_bits_deBruijn64tab)] }
def FeelTellsSaid : Prop := feelTellsRow.holds Tryd.pinned (OpenSpec.ofChange feelTellsSpec)

/-- ITS FALSE NEIGHBOUR: 'it returns false'. Refute it at one input. -/
def feelTellsWrong : ChangeSpec := { name := "feelTells", fn := fun _ => fun
  | [d1, d2, d3, d4, d5, d6] => { results := [.lit (.bool false)], args := [d1, d2, d3, d4, d5, d6] }
  | _ => none }
def FeelTellsWrongFalsely : Prop := feelTellsRow.holds Tryd.pinned (OpenSpec.ofChange feelTellsWrong)

/-- 'gantkeep5.ZoneWalks': WHATEVER THE INPUT: true; the input reads as it did. -/
def zoneWalksSpec : ChangeSpec := { name := "zoneWalks", fn := fun _ => fun
  | [d1, d2, d3] => { results := [.lit (.bool true)], args := [d1, d2, d3] }
  | _ => none }
def zoneWalksRow : OpenClaim := { program := "ythmgcbpmfipfiaadoor", sum := "09534559f148898fafed5b7bf64836ef8c2634be716ee77ca9c38bbc24e9a207", func := "gantry/gantkeep5.ZoneWalks", spec := "zoneWalks", inPlace := ["math/bits.Sub64", "internal/bytealg.abigen_runtime_cmpstring"], named := ["math/bits.deBruijn64tab"], apart := false, laid := [("math/bits.deBruijn64tab", laid_math_bits_deBruijn64tab)] }
def ZoneWalksSaid : Prop := zoneWalksRow.holds Tryd.pinned (OpenSpec.ofChange zoneWalksSpec)

/-- ITS FALSE NEIGHBOUR: 'it returns false'. Refute it at one input. -/
def zoneWalksWrong : ChangeSpec := { name := "zoneWalks", fn := fun _ => fun
  | [d1, d2, d3] => { results := [.lit (.bool false)], args := [d1, d2, d3] }
  | _ => none }
def ZoneWalksWrongFalsely : Prop := zoneWalksRow.holds Tryd.pinned (OpenSpec.ofChange zoneWalksWrong)

/-- 'gantkeep5.ZoneLater': WHATEVER THE INPUT: true; the input reads as it did. -/
def zoneLaterSpec : ChangeSpec := { name := "zoneLater", fn := fun _ => fun
  | [d1, d2, d3, d4] => { results := [.lit (.bool true)], args := [d1, d2, d3, d4] }
  | _ => none }
def zoneLaterRow : OpenClaim := { program := "ythmgcbpmfipfiaadoor", sum := "09534559f148898fafed5b7bf64836ef8c2634be716ee77ca9c38bbc24e9a207", func := "gantry/gantkeep5.ZoneLater", spec := "zoneLater", inPlace := ["math/bits.Sub64", "internal/bytealg.abigen_runtime_cmpstring"], named := ["math/bits.deBruijn64tab"], apart := false, laid := [("math/bits.deBruijn64tab", laid_math_bits_deBruijn64tab)] }
def ZoneLaterSaid : Prop := zoneLaterRow.holds Tryd.pinned (OpenSpec.ofChange zoneLaterSpec)

/-- ITS FALSE NEIGHBOUR: 'it returns false'. Refute it at one input. -/
def zoneLaterWrong : ChangeSpec := { name := "zoneLater", fn := fun _ => fun
  | [d1, d2, d3, d4] => { results := [.lit (.bool false)], args := [d1, d2, d3, d4] }
  | _ => none }
def ZoneLaterWrongFalsely : Prop := zoneLaterRow.holds Tryd.pinned (OpenSpec.ofChange zoneLaterWrong)

/-- 'gantkeep5.ZoneCloser': WHATEVER THE INPUT: true; the input reads as it did. -/
def zoneCloserSpec : ChangeSpec := { name := "zoneCloser", fn := fun _ => fun
  | [d1, d2, d3, d4, d5, d6] => { results := [.lit (.bool true)], args := [d1, d2, d3, d4, d5, d6] }
  | _ => none }
def zoneCloserRow : OpenClaim := { program := "ythmgcbpmfipfiaadoor", sum := "09534559f148898fafed5b7bf64836ef8c2634be716ee77ca9c38bbc24e9a207", func := "gantry/gantkeep5.ZoneCloser", spec := "zoneCloser", inPlace := ["math/bits.Sub64", "internal/bytealg.abigen_runtime_cmpstring"], named := ["math/bits.deBruijn64tab"], apart := false, laid := [("math/bits.deBruijn64tab", laid_math_bits_deBruijn64tab)] }
def ZoneCloserSaid : Prop := zoneCloserRow.holds Tryd.pinned (OpenSpec.ofChange zoneCloserSpec)

/-- ITS FALSE NEIGHBOUR: 'it returns false'. Refute it at one input. -/
def zoneCloserWrong : ChangeSpec := { name := "zoneCloser", fn := fun _ => fun
  | [d1, d2, d3, d4, d5, d6] => { results := [.lit (.bool false)], args := [d1, d2, d3, d4, d5, d6] }
  | _ => none }
def ZoneCloserWrongFalsely : Prop := zoneCloserRow.holds Tryd.pinned (OpenSpec.ofChange zoneCloserWrong)

/-- 'gantlaw5.ZoneTells': WHATEVER THE INPUT: true; the input reads as it did. -/
def zoneTellsSpec : ChangeSpec := { name := "zoneTells", fn := fun _ => fun
  | [d1, d2, d3, d4, d5] => { results := [.lit (.bool true)], args := [d1, d2, d3, d4, d5] }
  | _ => none }
def zoneTellsRow : OpenClaim := { program := "ythmgcbpmfipfiaadoor", sum := "09534559f148898fafed5b7bf64836ef8c2634be716ee77ca9c38bbc24e9a207", func := "gantry/gantlaw5.ZoneTells", spec := "zoneTells", inPlace := ["math/bits.Sub64", "internal/bytealg.abigen_runtime_cmpstring"], named := ["math/bits.deBruijn64tab"], apart := false, laid := [("math/bits.deBruijn64tab", laid_math_bits_deBruijn64tab)] }
def ZoneTellsSaid : Prop := zoneTellsRow.holds Tryd.pinned (OpenSpec.ofChange zoneTellsSpec)

/-- ITS FALSE NEIGHBOUR: 'it returns false'. Refute it at one input. -/
def zoneTellsWrong : ChangeSpec := { name := "zoneTells", fn := fun _ => fun
  | [d1, d2, d3, d4, d5] => { results := [.lit (.bool false)], args := [d1, d2, d3, d4, d5] }
  | _ => none }
def ZoneTellsWrongFalsely : Prop := zoneTellsRow.holds Tryd.pinned (OpenSpec.ofChange zoneTellsWrong)

/-- 'gantlaw5.ZoneLevels': WHATEVER THE INPUT: true; the input reads as it did. -/
def zoneLevelsSpec : ChangeSpec := { name := "zoneLevels", fn := fun _ => fun
  | [d1, d2, d3, d4, d5] => { results := [.lit (.bool true)], args := [d1, d2, d3, d4, d5] }
  | _ => none }
def zoneLevelsRow : OpenClaim := { program := "ythmgcbpmfipfiaadoor", sum := "09534559f148898fafed5b7bf64836ef8c2634be716ee77ca9c38bbc24e9a207", func := "gantry/gantlaw5.ZoneLevels", spec := "zoneLevels", inPlace := ["math/bits.Sub64", "internal/bytealg.abigen_runtime_cmpstring"], named := ["math/bits.deBruijn64tab"], apart := false, laid := [("math/bits.deBruijn64tab", laid_math_bits_deBruijn64tab)] }
def ZoneLevelsSaid : Prop := zoneLevelsRow.holds Tryd.pinned (OpenSpec.ofChange zoneLevelsSpec)

/-- ITS FALSE NEIGHBOUR: 'it returns false'. Refute it at one input. -/
def zoneLevelsWrong : ChangeSpec := { name := "zoneLevels", fn := fun _ => fun
  | [d1, d2, d3, d4, d5] => { results := [.lit (.bool false)], args := [d1, d2, d3, d4, d5] }
  | _ => none }
def ZoneLevelsWrongFalsely : Prop := zoneLevelsRow.holds Tryd.pinned (OpenSpec.ofChange zoneLevelsWrong)

/-- 'gantkeep5.StopMirror': WHATEVER THE INPUT: true; the input reads as it did. -/
def stopMirrorSpec : ChangeSpec := { name := "stopMirror", fn := fun _ => fun
  | [d1, d2] => { results := [.lit (.bool true)], args := [d1, d2] }
  | _ => none }
def stopMirrorRow : OpenClaim := { program := "ythmgcbpmfipfiaadoor", sum := "09534559f148898fafed5b7bf64836ef8c2634be716ee77ca9c38bbc24e9a207", func := "gantry/gantkeep5.StopMirror", spec := "stopMirror", inPlace := ["math/bits.Sub64", "internal/bytealg.abigen_runtime_cmpstring"], named := ["math/bits.deBruijn64tab"], apart := false, laid := [("math/bits.deBruijn64tab", laid_math_bits_deBruijn64tab)] }
def StopMirrorSaid : Prop := stopMirrorRow.holds Tryd.pinned (OpenSpec.ofChange stopMirrorSpec)

/-- ITS FALSE NEIGHBOUR: 'it returns false'. Refute it at one input. -/
def stopMirrorWrong : ChangeSpec := { name := "stopMirror", fn := fun _ => fun
  | [d1, d2] => { results := [.lit (.bool false)], args := [d1, d2] }
  | _ => none }
def StopMirrorWrongFalsely : Prop := stopMirrorRow.holds Tryd.pinned (OpenSpec.ofChange stopMirrorWrong)

/-- 'gantlaw5.StopTells': WHATEVER THE INPUT: true; the input reads as it did. -/
def stopTellsSpec : ChangeSpec := { name := "stopTells", fn := fun _ => fun
  | [d1, d2] => { results := [.lit (.bool true)], args := [d1, d2] }
  | _ => none }
def stopTellsRow : OpenClaim := { program := "ythmgcbpmfipfiaadoor", sum := "09534559f148898fafed5b7bf64836ef8c2634be716ee77ca9c38bbc24e9a207", func := "gantry/gantlaw5.StopTells", spec := "stopTells", inPlace := ["math/bits.Sub64", "internal/bytealg.abigen_runtime_cmpstring"], named := ["math/bits.deBruijn64tab"], apart := false, laid := [("math/bits.deBruijn64tab", laid_math_bits_deBruijn64tab)] }
def StopTellsSaid : Prop := stopTellsRow.holds Tryd.pinned (OpenSpec.ofChange stopTellsSpec)

/-- ITS FALSE NEIGHBOUR: 'it returns false'. Refute it at one input. -/
def stopTellsWrong : ChangeSpec := { name := "stopTells", fn := fun _ => fun
  | [d1, d2] => { results := [.lit (.bool false)], args := [d1, d2] }
  | _ => none }
def StopTellsWrongFalsely : Prop := stopTellsRow.holds Tryd.pinned (OpenSpec.ofChange stopTellsWrong)

/-- 'gantlaw5.StopFast': WHATEVER THE INPUT: true; the input reads as it did. -/
def stopFastSpec : ChangeSpec := { name := "stopFast", fn := fun _ => fun
  | [d1, d2, d3] => { results := [.lit (.bool true)], args := [d1, d2, d3] }
  | _ => none }
def stopFastRow : OpenClaim := { program := "ythmgcbpmfipfiaadoor", sum := "09534559f148898fafed5b7bf64836ef8c2634be716ee77ca9c38bbc24e9a207", func := "gantry/gantlaw5.StopFast", spec := "stopFast", inPlace := ["math/bits.Sub64", "internal/bytealg.abigen_runtime_cmpstring"], unfollowed := true, recurses := true, named := ["math/bits.deBruijn64tab"], apart := false, laid := [("math/bits.deBruijn64tab", laid_math_bits_deBruijn64tab)] }
def StopFastSaid : Prop := stopFastRow.holds Tryd.pinned (OpenSpec.ofChange stopFastSpec)

/-- ITS FALSE NEIGHBOUR: 'it returns false'. Refute it at one input. -/
def stopFastWrong : ChangeSpec := { name := "stopFast", fn := fun _ => fun
  | [d1, d2, d3] => { results := [.lit (.bool false)], args := [d1, d2, d3] }
  | _ => none }
def StopFastWrongFalsely : Prop := stopFastRow.holds Tryd.pinned (OpenSpec.ofChange stopFastWrong)

/- THE SECOND FORM. 'bulk': how many values and letters a reading holds, each counted each time it is reached (what is shared counts as often as it is met; a slice's spare places count too). A statement '..UptoSaid' is the law's where the arguments, and the package variables that the reading takes, are together of bulk at most 1048576: NARROWER than '..Said'. Prove '..Said' where nothing that the law and all that it calls make is longer than what came in: it says more and counts as full. Else prove '..UptoSaid'. A law counts once. -/
mutual
def uptoBulk {H : Type} : DataW H → Nat
  | .lit (.string bytes) => bytes.length + 1
  | .lit _ => 1
  | .nil => 1
  | .ptr d => uptoBulk d + 1
  | .slice elems spare => uptoBulkAll elems + uptoBulkAll spare + 1
  | .agg parts => uptoBulkAll parts + 1
  | .iface _ d => uptoBulk d + 1
  | .map entries => uptoBulkEntries entries + 1
  | .held _ => 1
def uptoBulkAll {H : Type} : List (DataW H) → Nat
  | [] => 0
  | d :: r => uptoBulk d + uptoBulkAll r
def uptoBulkEntries {H : Type} : List (Lit × DataW H) → Nat
  | [] => 0
  | x :: r => uptoBulkEntry x + uptoBulkEntries r
def uptoBulkEntry {H : Type} : Lit × DataW H → Nat
  | (.string bytes, d) => bytes.length + uptoBulk d + 1
  | (_, d) => uptoBulk d + 1
 end
def uptoSmall : (H : Type) → List (DataW H) → Bool := fun _ ds => decide (uptoBulkAll ds ≤ 1048576)
def OpenSpec.upto (s : _root_.Go.ChangeSpec) : _root_.Go.OpenSpec := { _root_.Go.OpenSpec.ofChange s with cond := some uptoSmall }

/-- 'gantkeep5.FeelSooner', WHERE WHAT IT READS IS OF BULK AT MOST 1048576: true; the input reads as it did. -/
def feelSoonerUptoRow : OpenClaim := { program := "ythmgcbpmfipfiaadoor", sum := "09534559f148898fafed5b7bf64836ef8c2634be716ee77ca9c38bbc24e9a207", func := "gantry/gantkeep5.FeelSooner", spec := "feelSooner", inPlace := ["math/bits.Sub64", "internal/bytealg.abigen_runtime_cmpstring"], named := ["math/bits.deBruijn64tab"], apart := false, laid := [("math/bits.deBruijn64tab", laid_math_bits_deBruijn64tab)], narrowed := true }
def FeelSoonerUptoSaid : Prop := feelSoonerUptoRow.holds Tryd.pinned (OpenSpec.upto feelSoonerSpec)

/-- 'gantkeep5.FeelTouch', WHERE WHAT IT READS IS OF BULK AT MOST 1048576: true; the input reads as it did. -/
def feelTouchUptoRow : OpenClaim := { program := "ythmgcbpmfipfiaadoor", sum := "09534559f148898fafed5b7bf64836ef8c2634be716ee77ca9c38bbc24e9a207", func := "gantry/gantkeep5.FeelTouch", spec := "feelTouch", inPlace := ["math/bits.Sub64", "internal/bytealg.abigen_runtime_cmpstring"], named := ["math/bits.deBruijn64tab"], apart := false, laid := [("math/bits.deBruijn64tab", laid_math_bits_deBruijn64tab)], narrowed := true }
def FeelTouchUptoSaid : Prop := feelTouchUptoRow.holds Tryd.pinned (OpenSpec.upto feelTouchSpec)

/-- 'gantkeep5.FeelMean', WHERE WHAT IT READS IS OF BULK AT MOST 1048576: true; the input reads as it did. -/
def feelMeanUptoRow : OpenClaim := { program := "ythmgcbpmfipfiaadoor", sum := "09534559f148898fafed5b7bf64836ef8c2634be716ee77ca9c38bbc24e9a207", func := "gantry/gantkeep5.FeelMean", spec := "feelMean", inPlace := ["math/bits.Sub64", "internal/bytealg.abigen_runtime_cmpstring"], unfollowed := true, recurses := true, named := ["math/bits.deBruijn64tab"], apart := false, laid := [("math/bits.deBruijn64tab", laid_math_bits_deBruijn64tab)], narrowed := true }
def FeelMeanUptoSaid : Prop := feelMeanUptoRow.holds Tryd.pinned (OpenSpec.upto feelMeanSpec)

/-- 'gantlaw5.FeelTells', WHERE WHAT IT READS IS OF BULK AT MOST 1048576: true; the input reads as it did. -/
def feelTellsUptoRow : OpenClaim := { program := "ythmgcbpmfipfiaadoor", sum := "09534559f148898fafed5b7bf64836ef8c2634be716ee77ca9c38bbc24e9a207", func := "gantry/gantlaw5.FeelTells", spec := "feelTells", inPlace := ["math/bits.Sub64", "internal/bytealg.abigen_runtime_cmpstring"], named := ["math/bits.deBruijn64tab"], apart := false, laid := [("math/bits.deBruijn64tab", laid_math_bits_deBruijn64tab)], narrowed := true }
def FeelTellsUptoSaid : Prop := feelTellsUptoRow.holds Tryd.pinned (OpenSpec.upto feelTellsSpec)

/-- 'gantkeep5.ZoneWalks', WHERE WHAT IT READS IS OF BULK AT MOST 1048576: true; the input reads as it did. -/
def zoneWalksUptoRow : OpenClaim := { program := "ythmgcbpmfipfiaadoor", sum := "09534559f148898fafed5b7bf64836ef8c2634be716ee77ca9c38bbc24e9a207", func := "gantry/gantkeep5.ZoneWalks", spec := "zoneWalks", inPlace := ["math/bits.Sub64", "internal/bytealg.abigen_runtime_cmpstring"], named := ["math/bits.deBruijn64tab"], apart := false, laid := [("math/bits.deBruijn64tab", laid_math_bits_deBruijn64tab)], narrowed := true }
def ZoneWalksUptoSaid : Prop := zoneWalksUptoRow.holds Tryd.pinned (OpenSpec.upto zoneWalksSpec)

/-- 'gantkeep5.ZoneLater', WHERE WHAT IT READS IS OF BULK AT MOST 1048576: true; the input reads as it did. -/
def zoneLaterUptoRow : OpenClaim := { program := "ythmgcbpmfipfiaadoor", sum := "09534559f148898fafed5b7bf64836ef8c2634be716ee77ca9c38bbc24e9a207", func := "gantry/gantkeep5.ZoneLater", spec := "zoneLater", inPlace := ["math/bits.Sub64", "internal/bytealg.abigen_runtime_cmpstring"], named := ["math/bits.deBruijn64tab"], apart := false, laid := [("math/bits.deBruijn64tab", laid_math_bits_deBruijn64tab)], narrowed := true }
def ZoneLaterUptoSaid : Prop := zoneLaterUptoRow.holds Tryd.pinned (OpenSpec.upto zoneLaterSpec)

/-- 'gantkeep5.ZoneCloser', WHERE WHAT IT READS IS OF BULK AT MOST 1048576: true; the input reads as it did. -/
def zoneCloserUptoRow : OpenClaim := { program := "ythmgcbpmfipfiaadoor", sum := "09534559f148898fafed5b7bf64836ef8c2634be716ee77ca9c38bbc24e9a207", func := "gantry/gantkeep5.ZoneCloser", spec := "zoneCloser", inPlace := ["math/bits.Sub64", "internal/bytealg.abigen_runtime_cmpstring"], named := ["math/bits.deBruijn64tab"], apart := false, laid := [("math/bits.deBruijn64tab", laid_math_bits_deBruijn64tab)], narrowed := true }
def ZoneCloserUptoSaid : Prop := zoneCloserUptoRow.holds Tryd.pinned (OpenSpec.upto zoneCloserSpec)

/-- 'gantlaw5.ZoneTells', WHERE WHAT IT READS IS OF BULK AT MOST 1048576: true; the input reads as it did. -/
def zoneTellsUptoRow : OpenClaim := { program := "ythmgcbpmfipfiaadoor", sum := "09534559f148898fafed5b7bf64836ef8c2634be716ee77ca9c38bbc24e9a207", func := "gantry/gantlaw5.ZoneTells", spec := "zoneTells", inPlace := ["math/bits.Sub64", "internal/bytealg.abigen_runtime_cmpstring"], named := ["math/bits.deBruijn64tab"], apart := false, laid := [("math/bits.deBruijn64tab", laid_math_bits_deBruijn64tab)], narrowed := true }
def ZoneTellsUptoSaid : Prop := zoneTellsUptoRow.holds Tryd.pinned (OpenSpec.upto zoneTellsSpec)

/-- 'gantlaw5.ZoneLevels', WHERE WHAT IT READS IS OF BULK AT MOST 1048576: true; the input reads as it did. -/
def zoneLevelsUptoRow : OpenClaim := { program := "ythmgcbpmfipfiaadoor", sum := "09534559f148898fafed5b7bf64836ef8c2634be716ee77ca9c38bbc24e9a207", func := "gantry/gantlaw5.ZoneLevels", spec := "zoneLevels", inPlace := ["math/bits.Sub64", "internal/bytealg.abigen_runtime_cmpstring"], named := ["math/bits.deBruijn64tab"], apart := false, laid := [("math/bits.deBruijn64tab", laid_math_bits_deBruijn64tab)], narrowed := true }
def ZoneLevelsUptoSaid : Prop := zoneLevelsUptoRow.holds Tryd.pinned (OpenSpec.upto zoneLevelsSpec)

/-- 'gantkeep5.StopMirror', WHERE WHAT IT READS IS OF BULK AT MOST 1048576: true; the input reads as it did. -/
def stopMirrorUptoRow : OpenClaim := { program := "ythmgcbpmfipfiaadoor", sum := "09534559f148898fafed5b7bf64836ef8c2634be716ee77ca9c38bbc24e9a207", func := "gantry/gantkeep5.StopMirror", spec := "stopMirror", inPlace := ["math/bits.Sub64", "internal/bytealg.abigen_runtime_cmpstring"], named := ["math/bits.deBruijn64tab"], apart := false, laid := [("math/bits.deBruijn64tab", laid_math_bits_deBruijn64tab)], narrowed := true }
def StopMirrorUptoSaid : Prop := stopMirrorUptoRow.holds Tryd.pinned (OpenSpec.upto stopMirrorSpec)

/-- 'gantlaw5.StopTells', WHERE WHAT IT READS IS OF BULK AT MOST 1048576: true; the input reads as it did. -/
def stopTellsUptoRow : OpenClaim := { program := "ythmgcbpmfipfiaadoor", sum := "09534559f148898fafed5b7bf64836ef8c2634be716ee77ca9c38bbc24e9a207", func := "gantry/gantlaw5.StopTells", spec := "stopTells", inPlace := ["math/bits.Sub64", "internal/bytealg.abigen_runtime_cmpstring"], named := ["math/bits.deBruijn64tab"], apart := false, laid := [("math/bits.deBruijn64tab", laid_math_bits_deBruijn64tab)], narrowed := true }
def StopTellsUptoSaid : Prop := stopTellsUptoRow.holds Tryd.pinned (OpenSpec.upto stopTellsSpec)

/-- 'gantlaw5.StopFast', WHERE WHAT IT READS IS OF BULK AT MOST 1048576: true; the input reads as it did. -/
def stopFastUptoRow : OpenClaim := { program := "ythmgcbpmfipfiaadoor", sum := "09534559f148898fafed5b7bf64836ef8c2634be716ee77ca9c38bbc24e9a207", func := "gantry/gantlaw5.StopFast", spec := "stopFast", inPlace := ["math/bits.Sub64", "internal/bytealg.abigen_runtime_cmpstring"], unfollowed := true, recurses := true, named := ["math/bits.deBruijn64tab"], apart := false, laid := [("math/bits.deBruijn64tab", laid_math_bits_deBruijn64tab)], narrowed := true }
def StopFastUptoSaid : Prop := stopFastUptoRow.holds Tryd.pinned (OpenSpec.upto stopFastSpec)

end Rows
end Go.Proofs.YthmgcbpmfipfiaaDoor
