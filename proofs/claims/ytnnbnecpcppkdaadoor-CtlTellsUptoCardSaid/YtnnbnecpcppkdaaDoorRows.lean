/-
  NARROWER THAN 'FOR EVERY INPUT', by the rows' own cells (each row's printed sentence says how): StopMirror: laid · FeelMean: laid · StopHolds: laid · StopLess: laid · StopSafe: laid · StopSpans: laid · CtlBounds: laid · CtlOwn: laid · CtlTells: laid · CtlFollows: laid · TopBrakes: laid.
  DERIVED. THE GIVEN ROWS OF THIS SEAT. 11 by the template 'for every input the law returns true; each argument reads behind the call as it read before'; 0 by the template 'total and deterministic' (their statements: YtnnbnecpcppkdaaDoorTotals.lean).
  GIVEN WITH THE SEED: the statements are not yours to turn. If you find one false, say at which input.
  Laid BY PROGRAM, IN A SANDBOX (cutbox-rows.mjs): the forced cells as the released guide's own fill.sh prints them over the translation 328fedd41a5f7554… (all of the seat's roots in one cut). By AI agents, Wed Nov 11 2026. No macro, syntax, notation, axiom, sorry.
-/
import Derived.Test.YtnnbnecpcppkdaaDoorChecked
import GoSem.Claim
import GoSem.ClaimJoined
import GoSem.ClaimMapViews
import Derived.JoinedTies
import Derived.KernelRfl
namespace Go.Proofs.YtnnbnecpcppkdaaDoor
/- THE CELL 'sum', in the pinned program and in every row, IS THE sha256 OF THE DUMP (.gsa) THAT YtnnbnecpcppkdaaDoorProg.lean LOADS. Nothing in Lean hashes anything: it is a label: what it is worth is what the hold of that sum in a sandbox is worth. -/
noncomputable def Tryd.pinned : Pinned := { name := "ytnnbnecpcppkdaadoor", sum := "328fedd41a5f7554f88ce869a33f41f7be7fe4f271becbf9a7267e5c47d45fdf", checked := Tryd.checked }
namespace Rows
def none {H : Type} : Left H := { results := [], args := [] }

/- WHAT THE LISTED PACKAGE-LEVEL VARIABLES READ AS WHEN THE CALL BEGINS. Each datum BY PROGRAM (the guide's laid-datum.mjs) off the statement by which the dump's own 'gosem.cut.vars' lays the variable. In a bare row this is a premise. The card (YtnnbnecpcppkdaaDoorCards.lean) ties it to the program's text. -/
def laid_math_bits_deBruijn64tab {H : Type} : DataW H := .agg [.lit (.int .u8 0), .lit (.int .u8 1), .lit (.int .u8 56), .lit (.int .u8 2), .lit (.int .u8 57), .lit (.int .u8 49), .lit (.int .u8 28), .lit (.int .u8 3), .lit (.int .u8 61), .lit (.int .u8 58), .lit (.int .u8 42), .lit (.int .u8 50), .lit (.int .u8 38), .lit (.int .u8 29), .lit (.int .u8 17), .lit (.int .u8 4), .lit (.int .u8 62), .lit (.int .u8 47), .lit (.int .u8 59), .lit (.int .u8 36), .lit (.int .u8 45), .lit (.int .u8 43), .lit (.int .u8 51), .lit (.int .u8 22), .lit (.int .u8 53), .lit (.int .u8 39), .lit (.int .u8 33), .lit (.int .u8 30), .lit (.int .u8 24), .lit (.int .u8 18), .lit (.int .u8 12), .lit (.int .u8 5), .lit (.int .u8 63), .lit (.int .u8 55), .lit (.int .u8 48), .lit (.int .u8 27), .lit (.int .u8 60), .lit (.int .u8 41), .lit (.int .u8 37), .lit (.int .u8 16), .lit (.int .u8 46), .lit (.int .u8 35), .lit (.int .u8 44), .lit (.int .u8 21), .lit (.int .u8 52), .lit (.int .u8 32), .lit (.int .u8 23), .lit (.int .u8 11), .lit (.int .u8 54), .lit (.int .u8 26), .lit (.int .u8 40), .lit (.int .u8 15), .lit (.int .u8 34), .lit (.int .u8 20), .lit (.int .u8 31), .lit (.int .u8 10), .lit (.int .u8 25), .lit (.int .u8 14), .lit (.int .u8 19), .lit (.int .u8 9), .lit (.int .u8 13), .lit (.int .u8 8), .lit (.int .u8 7), .lit (.int .u8 6)]

/-- 'gantkeep5.StopMirror': WHATEVER THE INPUT: true; the input reads as it did. -/
def stopMirrorSpec : ChangeSpec := { name := "stopMirror", fn := fun _ => fun
  | [d1, d2] => { results := [.lit (.bool true)], args := [d1, d2] }
  | _ => none }
def stopMirrorRow : OpenClaim := { program := "ytnnbnecpcppkdaadoor", sum := "328fedd41a5f7554f88ce869a33f41f7be7fe4f271becbf9a7267e5c47d45fdf", func := "gantry/gantkeep5.StopMirror", spec := "stopMirror", inPlace := ["math/bits.Sub64", "internal/bytealg.abigen_runtime_cmpstring"], named := ["math/bits.deBruijn64tab"], apart := false, laid := [("math/bits.deBruijn64tab", laid_math_bits_deBruijn64tab)] }
def StopMirrorSaid : Prop := stopMirrorRow.holds Tryd.pinned (OpenSpec.ofChange stopMirrorSpec)

/-- ITS FALSE NEIGHBOUR: 'it returns false'. Refute it at one input. -/
def stopMirrorWrong : ChangeSpec := { name := "stopMirror", fn := fun _ => fun
  | [d1, d2] => { results := [.lit (.bool false)], args := [d1, d2] }
  | _ => none }
def StopMirrorWrongFalsely : Prop := stopMirrorRow.holds Tryd.pinned (OpenSpec.ofChange stopMirrorWrong)

/-- 'gantkeep5.FeelMean': WHATEVER THE INPUT: true; the input reads as it did. -/
def feelMeanSpec : ChangeSpec := { name := "feelMean", fn := fun _ => fun
  | [d1, d2, d3] => { results := [.lit (.bool true)], args := [d1, d2, d3] }
  | _ => none }
def feelMeanRow : OpenClaim := { program := "ytnnbnecpcppkdaadoor", sum := "328fedd41a5f7554f88ce869a33f41f7be7fe4f271becbf9a7267e5c47d45fdf", func := "gantry/gantkeep5.FeelMean", spec := "feelMean", inPlace := ["math/bits.Sub64", "internal/bytealg.abigen_runtime_cmpstring"], unfollowed := true, recurses := true, named := ["math/bits.deBruijn64tab"], apart := false, laid := [("math/bits.deBruijn64tab", laid_math_bits_deBruijn64tab)] }
def FeelMeanSaid : Prop := feelMeanRow.holds Tryd.pinned (OpenSpec.ofChange feelMeanSpec)

/-- ITS FALSE NEIGHBOUR: 'it returns false'. Refute it at one input. -/
def feelMeanWrong : ChangeSpec := { name := "feelMean", fn := fun _ => fun
  | [d1, d2, d3] => { results := [.lit (.bool false)], args := [d1, d2, d3] }
  | _ => none }
def FeelMeanWrongFalsely : Prop := feelMeanRow.holds Tryd.pinned (OpenSpec.ofChange feelMeanWrong)

/-- 'gantkeep5.StopHolds': WHATEVER THE INPUT: true; the input reads as it did. -/
def stopHoldsSpec : ChangeSpec := { name := "stopHolds", fn := fun _ => fun
  | [d1, d2] => { results := [.lit (.bool true)], args := [d1, d2] }
  | _ => none }
def stopHoldsRow : OpenClaim := { program := "ytnnbnecpcppkdaadoor", sum := "328fedd41a5f7554f88ce869a33f41f7be7fe4f271becbf9a7267e5c47d45fdf", func := "gantry/gantkeep5.StopHolds", spec := "stopHolds", inPlace := ["math/bits.Sub64", "internal/bytealg.abigen_runtime_cmpstring"], unfollowed := true, recurses := true, named := ["math/bits.deBruijn64tab"], apart := false, laid := [("math/bits.deBruijn64tab", laid_math_bits_deBruijn64tab)] }
def StopHoldsSaid : Prop := stopHoldsRow.holds Tryd.pinned (OpenSpec.ofChange stopHoldsSpec)

/-- ITS FALSE NEIGHBOUR: 'it returns false'. Refute it at one input. -/
def stopHoldsWrong : ChangeSpec := { name := "stopHolds", fn := fun _ => fun
  | [d1, d2] => { results := [.lit (.bool false)], args := [d1, d2] }
  | _ => none }
def StopHoldsWrongFalsely : Prop := stopHoldsRow.holds Tryd.pinned (OpenSpec.ofChange stopHoldsWrong)

/-- 'gantkeep5.StopLess': WHATEVER THE INPUT: true; the input reads as it did. -/
def stopLessSpec : ChangeSpec := { name := "stopLess", fn := fun _ => fun
  | [d1, d2] => { results := [.lit (.bool true)], args := [d1, d2] }
  | _ => none }
def stopLessRow : OpenClaim := { program := "ytnnbnecpcppkdaadoor", sum := "328fedd41a5f7554f88ce869a33f41f7be7fe4f271becbf9a7267e5c47d45fdf", func := "gantry/gantkeep5.StopLess", spec := "stopLess", inPlace := ["math/bits.Sub64", "internal/bytealg.abigen_runtime_cmpstring"], named := ["math/bits.deBruijn64tab"], apart := false, laid := [("math/bits.deBruijn64tab", laid_math_bits_deBruijn64tab)] }
def StopLessSaid : Prop := stopLessRow.holds Tryd.pinned (OpenSpec.ofChange stopLessSpec)

/-- ITS FALSE NEIGHBOUR: 'it returns false'. Refute it at one input. -/
def stopLessWrong : ChangeSpec := { name := "stopLess", fn := fun _ => fun
  | [d1, d2] => { results := [.lit (.bool false)], args := [d1, d2] }
  | _ => none }
def StopLessWrongFalsely : Prop := stopLessRow.holds Tryd.pinned (OpenSpec.ofChange stopLessWrong)

/-- 'gantkeep5.StopSafe': WHATEVER THE INPUT: true; the input reads as it did. -/
def stopSafeSpec : ChangeSpec := { name := "stopSafe", fn := fun _ => fun
  | [d1, d2, d3] => { results := [.lit (.bool true)], args := [d1, d2, d3] }
  | _ => none }
def stopSafeRow : OpenClaim := { program := "ytnnbnecpcppkdaadoor", sum := "328fedd41a5f7554f88ce869a33f41f7be7fe4f271becbf9a7267e5c47d45fdf", func := "gantry/gantkeep5.StopSafe", spec := "stopSafe", inPlace := ["math/bits.Sub64", "internal/bytealg.abigen_runtime_cmpstring"], named := ["math/bits.deBruijn64tab"], apart := false, laid := [("math/bits.deBruijn64tab", laid_math_bits_deBruijn64tab)] }
def StopSafeSaid : Prop := stopSafeRow.holds Tryd.pinned (OpenSpec.ofChange stopSafeSpec)

/-- ITS FALSE NEIGHBOUR: 'it returns false'. Refute it at one input. -/
def stopSafeWrong : ChangeSpec := { name := "stopSafe", fn := fun _ => fun
  | [d1, d2, d3] => { results := [.lit (.bool false)], args := [d1, d2, d3] }
  | _ => none }
def StopSafeWrongFalsely : Prop := stopSafeRow.holds Tryd.pinned (OpenSpec.ofChange stopSafeWrong)

/-- 'gantlaw5.StopSpans': WHATEVER THE INPUT: true; the input reads as it did. -/
def stopSpansSpec : ChangeSpec := { name := "stopSpans", fn := fun _ => fun
  | [d1, d2] => { results := [.lit (.bool true)], args := [d1, d2] }
  | _ => none }
def stopSpansRow : OpenClaim := { program := "ytnnbnecpcppkdaadoor", sum := "328fedd41a5f7554f88ce869a33f41f7be7fe4f271becbf9a7267e5c47d45fdf", func := "gantry/gantlaw5.StopSpans", spec := "stopSpans", inPlace := ["math/bits.Sub64", "internal/bytealg.abigen_runtime_cmpstring"], named := ["math/bits.deBruijn64tab"], apart := false, laid := [("math/bits.deBruijn64tab", laid_math_bits_deBruijn64tab)] }
def StopSpansSaid : Prop := stopSpansRow.holds Tryd.pinned (OpenSpec.ofChange stopSpansSpec)

/-- ITS FALSE NEIGHBOUR: 'it returns false'. Refute it at one input. -/
def stopSpansWrong : ChangeSpec := { name := "stopSpans", fn := fun _ => fun
  | [d1, d2] => { results := [.lit (.bool false)], args := [d1, d2] }
  | _ => none }
def StopSpansWrongFalsely : Prop := stopSpansRow.holds Tryd.pinned (OpenSpec.ofChange stopSpansWrong)

/-- 'gantkeep5.CtlBounds': WHATEVER THE INPUT: true; the input reads as it did. -/
def ctlBoundsSpec : ChangeSpec := { name := "ctlBounds", fn := fun _ => fun
  | [d1, d2, d3, d4] => { results := [.lit (.bool true)], args := [d1, d2, d3, d4] }
  | _ => none }
def ctlBoundsRow : OpenClaim := { program := "ytnnbnecpcppkdaadoor", sum := "328fedd41a5f7554f88ce869a33f41f7be7fe4f271becbf9a7267e5c47d45fdf", func := "gantry/gantkeep5.CtlBounds", spec := "ctlBounds", inPlace := ["math/bits.Sub64", "internal/bytealg.abigen_runtime_cmpstring"], named := ["math/bits.deBruijn64tab"], apart := false, laid := [("math/bits.deBruijn64tab", laid_math_bits_deBruijn64tab)] }
def CtlBoundsSaid : Prop := ctlBoundsRow.holds Tryd.pinned (OpenSpec.ofChange ctlBoundsSpec)

/-- ITS FALSE NEIGHBOUR: 'it returns false'. Refute it at one input. -/
def ctlBoundsWrong : ChangeSpec := { name := "ctlBounds", fn := fun _ => fun
  | [d1, d2, d3, d4] => { results := [.lit (.bool false)], args := [d1, d2, d3, d4] }
  | _ => none }
def CtlBoundsWrongFalsely : Prop := ctlBoundsRow.holds Tryd.pinned (OpenSpec.ofChange ctlBoundsWrong)

/-- 'gantkeep5.CtlOwn': WHATEVER THE INPUT: true; the input reads as it did. -/
def ctlOwnSpec : ChangeSpec := { name := "ctlOwn", fn := fun _ => fun
  | [d1, d2, d3] => { results := [.lit (.bool true)], args := [d1, d2, d3] }
  | _ => none }
def ctlOwnRow : OpenClaim := { program := "ytnnbnecpcppkdaadoor", sum := "328fedd41a5f7554f88ce869a33f41f7be7fe4f271becbf9a7267e5c47d45fdf", func := "gantry/gantkeep5.CtlOwn", spec := "ctlOwn", inPlace := ["math/bits.Sub64", "internal/bytealg.abigen_runtime_cmpstring"], named := ["math/bits.deBruijn64tab"], apart := false, laid := [("math/bits.deBruijn64tab", laid_math_bits_deBruijn64tab)] }
def CtlOwnSaid : Prop := ctlOwnRow.holds Tryd.pinned (OpenSpec.ofChange ctlOwnSpec)

/-- ITS FALSE NEIGHBOUR: 'it returns false'. Refute it at one input. -/
def ctlOwnWrong : ChangeSpec := { name := "ctlOwn", fn := fun _ => fun
  | [d1, d2, d3] => { results := [.lit (.bool false)], args := [d1, d2, d3] }
  | _ => none }
def CtlOwnWrongFalsely : Prop := ctlOwnRow.holds Tryd.pinned (OpenSpec.ofChange ctlOwnWrong)

/-- 'gantlaw5.CtlTells': WHATEVER THE INPUT: true; the input reads as it did. -/
def ctlTellsSpec : ChangeSpec := { name := "ctlTells", fn := fun _ => fun
  | [d1, d2, d3, d4] => { results := [.lit (.bool true)], args := [d1, d2, d3, d4] }
  | _ => none }
def ctlTellsRow : OpenClaim := { program := "ytnnbnecpcppkdaadoor", sum := "328fedd41a5f7554f88ce869a33f41f7be7fe4f271becbf9a7267e5c47d45fdf", func := "gantry/gantlaw5.CtlTells", spec := "ctlTells", inPlace := ["math/bits.Sub64", "internal/bytealg.abigen_runtime_cmpstring"], named := ["math/bits.deBruijn64tab"], apart := false, laid := [("math/bits.deBruijn64tab", laid_math_bits_deBruijn64tab)] }
def CtlTellsSaid : Prop := ctlTellsRow.holds Tryd.pinned (OpenSpec.ofChange ctlTellsSpec)

/-- ITS FALSE NEIGHBOUR: 'it returns false'. Refute it at one input. -/
def ctlTellsWrong : ChangeSpec := { name := "ctlTells", fn := fun _ => fun
  | [d1, d2, d3, d4] => { results := [.lit (.bool false)], args := [d1, d2, d3, d4] }
  | _ => none }
def CtlTellsWrongFalsely : Prop := ctlTellsRow.holds Tryd.pinned (OpenSpec.ofChange ctlTellsWrong)

/-- 'gantkeep5.CtlFollows': WHATEVER THE INPUT: true; the input reads as it did. -/
def ctlFollowsSpec : ChangeSpec := { name := "ctlFollows", fn := fun _ => fun
  | [d1, d2] => { results := [.lit (.bool true)], args := [d1, d2] }
  | _ => none }
def ctlFollowsRow : OpenClaim := { program := "ytnnbnecpcppkdaadoor", sum := "328fedd41a5f7554f88ce869a33f41f7be7fe4f271becbf9a7267e5c47d45fdf", func := "gantry/gantkeep5.CtlFollows", spec := "ctlFollows", inPlace := ["math/bits.Sub64", "internal/bytealg.abigen_runtime_cmpstring"], named := ["math/bits.deBruijn64tab"], apart := false, laid := [("math/bits.deBruijn64tab", laid_math_bits_deBruijn64tab)] }
def CtlFollowsSaid : Prop := ctlFollowsRow.holds Tryd.pinned (OpenSpec.ofChange ctlFollowsSpec)

/-- ITS FALSE NEIGHBOUR: 'it returns false'. Refute it at one input. -/
def ctlFollowsWrong : ChangeSpec := { name := "ctlFollows", fn := fun _ => fun
  | [d1, d2] => { results := [.lit (.bool false)], args := [d1, d2] }
  | _ => none }
def CtlFollowsWrongFalsely : Prop := ctlFollowsRow.holds Tryd.pinned (OpenSpec.ofChange ctlFollowsWrong)

/-- 'ganttop.TopBrakes': WHATEVER THE INPUT: true; the input reads as it did. -/
def topBrakesSpec : ChangeSpec := { name := "topBrakes", fn := fun _ => fun
  | [d1, d2] => { results := [.lit (.bool true)], args := [d1, d2] }
  | _ => none }
def topBrakesRow : OpenClaim := { program := "ytnnbnecpcppkdaadoor", sum := "328fedd41a5f7554f88ce869a33f41f7be7fe4f271becbf9a7267e5c47d45fdf", func := "gantry/ganttop.TopBrakes", spec := "topBrakes", inPlace := ["math/bits.Sub64", "internal/bytealg.abigen_runtime_cmpstring"], named := ["math/bits.deBruijn64tab"], apart := false, laid := [("math/bits.deBruijn64tab", laid_math_bits_deBruijn64tab)] }
def TopBrakesSaid : Prop := topBrakesRow.holds Tryd.pinned (OpenSpec.ofChange topBrakesSpec)

/-- ITS FALSE NEIGHBOUR: 'it returns false'. Refute it at one input. -/
def topBrakesWrong : ChangeSpec := { name := "topBrakes", fn := fun _ => fun
  | [d1, d2] => { results := [.lit (.bool false)], args := [d1, d2] }
  | _ => none }
def TopBrakesWrongFalsely : Prop := topBrakesRow.holds Tryd.pinned (OpenSpec.ofChange topBrakesWrong)

/- THE SECOND FORM. 'bulk': how many values and letters a reading holds, each counted each time it is reached (what is shared counts as often as it is met; a slice's spare places count too). A statement '..UptoSaid' is the law's where the arguments, and the package variables that the reading takes, are together of bulk at most 1048576: NARROWER than '..Said'. Prove '..Said' where nothing that the law and all that it calls make is longer than what came in: it says more and counts as full. Else prove '..UptoSaid'. A law counts once. -/
mutual
def uptoBulk {H : Type} : DataW H → Nat
  | .lit (.string bytes) => bytes.length + 1
  | .lit _ => 1
  | .nil => 1
  | .ptr d => uptoBulk d + 1
  | .slice elems spare => uptoBulkAll elems + uptoBulkAll spare + 1
  | .agg parts => uptoBulkAll parts + 1
  | .iface _ d => uptoBulk d + 1
  | .map entries => uptoBulkEntries entries + 1
  | .held _ => 1
def uptoBulkAll {H : Type} : List (DataW H) → Nat
  | [] => 0
  | d :: r => uptoBulk d + uptoBulkAll r
def uptoBulkEntries {H : Type} : List (Lit × DataW H) → Nat
  | [] => 0
  | x :: r => uptoBulkEntry x + uptoBulkEntries r
def uptoBulkEntry {H : Type} : Lit × DataW H → Nat
  | (.string bytes, d) => bytes.length + uptoBulk d + 1
  | (_, d) => uptoBulk d + 1
 end
def uptoSmall : (H : Type) → List (DataW H) → Bool := fun _ ds => decide (uptoBulkAll ds ≤ 1048576)
def OpenSpec.upto (s : _root_.Go.ChangeSpec) : _root_.Go.OpenSpec := { _root_.Go.OpenSpec.ofChange s with cond := some uptoSmall }

/-- 'gantkeep5.StopMirror', WHERE WHAT IT READS IS OF BULK AT MOST 1048576: true; the input reads as it did. -/
def stopMirrorUptoRow : OpenClaim := { program := "ytnnbnecpcppkdaadoor", sum := "328fedd41a5f7554f88ce869a33f41f7be7fe4f271becbf9a7267e5c47d45fdf", func := "gantry/gantkeep5.StopMirror", spec := "stopMirror", inPlace := ["math/bits.Sub64", "internal/bytealg.abigen_runtime_cmpstring"], named := ["math/bits.deBruijn64tab"], apart := false, laid := [("math/bits.deBruijn64tab", laid_math_bits_deBruijn64tab)], narrowed := true }
def StopMirrorUptoSaid : Prop := stopMirrorUptoRow.holds Tryd.pinned (OpenSpec.upto stopMirrorSpec)

/-- 'gantkeep5.FeelMean', WHERE WHAT IT READS IS OF BULK AT MOST 1048576: true; the input reads as it did. -/
def feelMeanUptoRow : OpenClaim := { program := "ytnnbnecpcppkdaadoor", sum := "328fedd41a5f7554f88ce869a33f41f7be7fe4f271becbf9a7267e5c47d45fdf", func := "gantry/gantkeep5.FeelMean", spec := "feelMean", inPlace := ["math/bits.Sub64", "internal/bytealg.abigen_runtime_cmpstring"], unfollowed := true, recurses := true, named := ["math/bits.deBruijn64tab"], apart := false, laid := [("math/bits.deBruijn64tab", laid_math_bits_deBruijn64tab)], narrowed := true }
def FeelMeanUptoSaid : Prop := feelMeanUptoRow.holds Tryd.pinned (OpenSpec.upto feelMeanSpec)

/-- 'gantkeep5.StopHolds', WHERE WHAT IT READS IS OF BULK AT MOST 1048576: true; the input reads as it did. -/
def stopHoldsUptoRow : OpenClaim := { program := "ytnnbnecpcppkdaadoor", sum := "328fedd41a5f7554f88ce869a33f41f7be7fe4f271becbf9a7267e5c47d45fdf", func := "gantry/gantkeep5.StopHolds", spec := "stopHolds", inPlace := ["math/bits.Sub64", "internal/bytealg.abigen_runtime_cmpstring"], unfollowed := true, recurses := true, named := ["math/bits.deBruijn64tab"], apart := false, laid := [("math/bits.deBruijn64tab", laid_math_bits_deBruijn64tab)], narrowed := true }
def StopHoldsUptoSaid : Prop := stopHoldsUptoRow.holds Tryd.pinned (OpenSpec.upto stopHoldsSpec)

/-- 'gantkeep5.StopLess', WHERE WHAT IT READS IS OF BULK AT MOST 1048576: true; the input reads as it did. -/
def stopLessUptoRow : OpenClaim := { program := "ytnnbnecpcppkdaadoor", sum := "328fedd41a5f7554f88ce869a33f41f7be7fe4f271becbf9a7267e5c47d45fdf", func := "gantry/gantkeep5.StopLess", spec := "stopLess", inPlace := ["math/bits.Sub64", "internal/bytealg.abigen_runtime_cmpstring"], named := ["math/bits.deBruijn64tab"], apart := false, laid := [("math/bits.deBruijn64tab", laid_math_bits_deBruijn64tab)], narrowed := true }
def StopLessUptoSaid : Prop := stopLessUptoRow.holds Tryd.pinned (OpenSpec.upto stopLessSpec)

/-- 'gantkeep5.StopSafe', WHERE WHAT IT READS IS OF BULK AT MOST 1048576: true; the input reads as it did. -/
def stopSafeUptoRow : OpenClaim := { program := "ytnnbnecpcppkdaadoor", sum := "328fedd41a5f7554f88ce869a33f41f7be7fe4f271becbf9a7267e5c47d45fdf", func := "gantry/gantkeep5.StopSafe", spec := "stopSafe", inPlace := ["math/bits.Sub64", "internal/bytealg.abigen_runtime_cmpstring"], named := ["math/bits.deBruijn64tab"], apart := false, laid := [("math/bits.deBruijn64tab", laid_math_bits_deBruijn64tab)], narrowed := true }
def StopSafeUptoSaid : Prop := stopSafeUptoRow.holds Tryd.pinned (OpenSpec.upto stopSafeSpec)

/-- 'gantlaw5.StopSpans', WHERE WHAT IT READS IS OF BULK AT MOST 1048576: true; the input reads as it did. -/
def stopSpansUptoRow : OpenClaim := { program := "ytnnbnecpcppkdaadoor", sum := "328fedd41a5f7554f88ce869a33f41f7be7fe4f271becbf9a7267e5c47d45fdf", func := "gantry/gantlaw5.StopSpans", spec := "stopSpans", inPlace := ["math/bits.Sub64", "internal/bytealg.abigen_runtime_cmpstring"], named := ["math/bits.deBruijn64tab"], apart := false, laid := [("math/bits.deBruijn64tab", laid_math_bits_deBruijn64tab)], narrowed := true }
def StopSpansUptoSaid : Prop := stopSpansUptoRow.holds Tryd.pinned (OpenSpec.upto stopSpansSpec)

/-- 'gantkeep5.CtlBounds', WHERE WHAT IT READS IS OF BULK AT MOST 1048576: true; the input reads as it did. -/
def ctlBoundsUptoRow : OpenClaim := { program := "ytnnbnecpcppkdaadoor", sum := "328fedd41a5f7554f88ce869a33f41f7be7fe4f271becbf9a7267e5c47d45fdf", func := "gantry/gantkeep5.CtlBounds", spec := "ctlBounds", inPlace := ["math/bits.Sub64", "internal/bytealg.abigen_runtime_cmpstring"], named := ["math/bits.deBruijn64tab"], apart := false, laid := [("math/bits.deBruijn64tab", laid_math_bits_deBruijn64tab)], narrowed := true }
def CtlBoundsUptoSaid : Prop := ctlBoundsUptoRow.holds Tryd.pinned (OpenSpec.upto ctlBoundsSpec)

/-- 'gantkeep5.CtlOwn', WHERE WHAT IT READS IS OF BULK AT MOST 1048576: true; the input reads as it did. -/
def ctlOwnUptoRow : OpenClaim := { program := "ytnnbnecpcppkdaadoor", sum := "328fedd41a5f7554f88ce869a33f41f7be7fe4f271becbf9a7267e5c47d45fdf", func := "gantry/gantkeep5.CtlOwn", spec := "ctlOwn", inPlace := ["math/bits.Sub64", "internal/bytealg.abigen_runtime_cmpstring"], named := ["math/bits.deBruijn64tab"], apart := false, laid := [("math/bits.deBruijn64tab", laid_math_bits_deBruijn64tab)], narrowed := true }
def CtlOwnUptoSaid : Prop := ctlOwnUptoRow.holds Tryd.pinned (OpenSpec.upto ctlOwnSpec)

/-- 'gantlaw5.CtlTells', WHERE WHAT IT READS IS OF BULK AT MOST 1048576: true; the input reads as it did. -/
def ctlTellsUptoRow : OpenClaim := { program := "ytnnbnecpcppkdaadoor", sum := "328fedd41a5f7554f88ce869a33f41f7be7fe4f271becbf9a7267e5c47d45fdf", func := "gantry/gantlaw5.CtlTells", spec := "ctlTells", inPlace := ["math/bits.Sub64", "internal/bytealg.abigen_runtime_cmpstring"], named := ["math/bits.deBruijn64tab"], apart := false, laid := [("math/bits.deBruijn64tab", laid_math_bits_deBruijn64tab)], narrowed := true }
def CtlTellsUptoSaid : Prop := ctlTellsUptoRow.holds Tryd.pinned (OpenSpec.upto ctlTellsSpec)

/-- 'gantkeep5.CtlFollows', WHERE WHAT IT READS IS OF BULK AT MOST 1048576: true; the input reads as it did. -/
def ctlFollowsUptoRow : OpenClaim := { program := "ytnnbnecpcppkdaadoor", sum := "328fedd41a5f7554f88ce869a33f41f7be7fe4f271becbf9a7267e5c47d45fdf", func := "gantry/gantkeep5.CtlFollows", spec := "ctlFollows", inPlace := ["math/bits.Sub64", "internal/bytealg.abigen_runtime_cmpstring"], named := ["math/bits.deBruijn64tab"], apart := false, laid := [("math/bits.deBruijn64tab", laid_math_bits_deBruijn64tab)], narrowed := true }
def CtlFollowsUptoSaid : Prop := ctlFollowsUptoRow.holds Tryd.pinned (OpenSpec.upto ctlFollowsSpec)

/-- 'ganttop.TopBrakes', WHERE WHAT IT READS IS OF BULK AT MOST 1048576: true; the input reads as it did. -/
def topBrakesUptoRow : OpenClaim := { program := "ytnnbnecpcppkdaadoor", sum := "328fedd41a5f7554f88ce869a33f41f7be7fe4f271becbf9a7267e5c47d45fdf", func := "gantry/ganttop.TopBrakes", spec := "topBrakes", inPlace := ["math/bits.Sub64", "internal/bytealg.abigen_runtime_cmpstring"], named := ["math/bits.deBruijn64tab"], apart := false, laid := [("math/bits.deBruijn64tab", laid_math_bits_deBruijn64tab)], narrowed := true }
def TopBrakesUptoSaid : Prop := topBrakesUptoRow.holds Tryd.pinned (OpenSpec.upto topBrakesSpec)

end Rows
end Go.Proofs.YtnnbnecpcppkdaaDoor
