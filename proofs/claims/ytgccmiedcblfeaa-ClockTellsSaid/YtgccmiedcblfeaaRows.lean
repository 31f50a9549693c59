/-
  No cell of these rows narrows 'for every input' (looked for: loops, veiled, ifaces, maps, wideKeys, modest, calm, conditions, laid).
  DERIVED. THE GIVEN ROWS OF THIS SEAT. 4 by the template 'for every input the law returns true; each argument reads behind the call as it read before'; 0 by the template 'total and deterministic' (their statements: YtgccmiedcblfeaaTotals.lean).
  GIVEN WITH THE SEED: the statements are not yours to turn. If you find one false, say at which input.
  Laid BY PROGRAM, IN A SANDBOX (cutbox-rows.mjs): the forced cells as the released guide's own fill.sh prints them over the translation 8a0aa556d8cfae81… (all of the seat's roots in one cut). By AI agents, Wed Nov 11 2026. No macro, syntax, notation, axiom, sorry.
-/
import Derived.Test.YtgccmiedcblfeaaChecked
import GoSem.Claim
import GoSem.ClaimJoined
import GoSem.ClaimMapViews
import Derived.JoinedTies
import Derived.KernelRfl
namespace Go.Proofs.Ytgccmiedcblfeaa
/- THE CELL 'sum', in the pinned program and in every row, IS THE sha256 OF THE DUMP (.gsa) THAT YtgccmiedcblfeaaProg.lean LOADS. Nothing in Lean hashes anything: it is a label: what it is worth is what the hold of that sum in a sandbox is worth. -/
noncomputable def Try.pinned : Pinned := { name := "ytgccmiedcblfeaa", sum := "8a0aa556d8cfae81c3a7a6e3be5f98501e072d07f8772c01082caf738b7fd9ae", checked := Try.checked }
namespace Rows
def none {H : Type} : Left H := { results := [], args := [] }

/-- 'gantkeep5.ClockGoes': WHATEVER THE INPUT: true; the input reads as it did. -/
def clockGoesSpec : ChangeSpec := { name := "clockGoes", fn := fun _ => fun
  | [d1, d2, d3] => { results := [.lit (.bool true)], args := [d1, d2, d3] }
  | _ => none }
def clockGoesRow : OpenClaim := { program := "ytgccmiedcblfeaa", sum := "8a0aa556d8cfae81c3a7a6e3be5f98501e072d07f8772c01082caf738b7fd9ae", func := "gantry/gantkeep5.ClockGoes", spec := "clockGoes", apart := false }
def ClockGoesSaid : Prop := clockGoesRow.holds Try.pinned (OpenSpec.ofChange clockGoesSpec)

/-- ITS FALSE NEIGHBOUR: 'it returns false'. Refute it at one input. -/
def clockGoesWrong : ChangeSpec := { name := "clockGoes", fn := fun _ => fun
  | [d1, d2, d3] => { results := [.lit (.bool false)], args := [d1, d2, d3] }
  | _ => none }
def ClockGoesWrongFalsely : Prop := clockGoesRow.holds Try.pinned (OpenSpec.ofChange clockGoesWrong)

/-- 'gantkeep5.ClockBetween': WHATEVER THE INPUT: true; the input reads as it did. -/
def clockBetweenSpec : ChangeSpec := { name := "clockBetween", fn := fun _ => fun
  | [d1, d2, d3] => { results := [.lit (.bool true)], args := [d1, d2, d3] }
  | _ => none }
def clockBetweenRow : OpenClaim := { program := "ytgccmiedcblfeaa", sum := "8a0aa556d8cfae81c3a7a6e3be5f98501e072d07f8772c01082caf738b7fd9ae", func := "gantry/gantkeep5.ClockBetween", spec := "clockBetween", apart := false }
def ClockBetweenSaid : Prop := clockBetweenRow.holds Try.pinned (OpenSpec.ofChange clockBetweenSpec)

/-- ITS FALSE NEIGHBOUR: 'it returns false'. Refute it at one input. -/
def clockBetweenWrong : ChangeSpec := { name := "clockBetween", fn := fun _ => fun
  | [d1, d2, d3] => { results := [.lit (.bool false)], args := [d1, d2, d3] }
  | _ => none }
def ClockBetweenWrongFalsely : Prop := clockBetweenRow.holds Try.pinned (OpenSpec.ofChange clockBetweenWrong)

/-- 'gantkeep5.ClockSure': WHATEVER THE INPUT: true; the input reads as it did. -/
def clockSureSpec : ChangeSpec := { name := "clockSure", fn := fun _ => fun
  | [d1, d2, d3, d4, d5] => { results := [.lit (.bool true)], args := [d1, d2, d3, d4, d5] }
  | _ => none }
def clockSureRow : OpenClaim := { program := "ytgccmiedcblfeaa", sum := "8a0aa556d8cfae81c3a7a6e3be5f98501e072d07f8772c01082caf738b7fd9ae", func := "gantry/gantkeep5.ClockSure", spec := "clockSure", apart := false }
def ClockSureSaid : Prop := clockSureRow.holds Try.pinned (OpenSpec.ofChange clockSureSpec)

/-- ITS FALSE NEIGHBOUR: 'it returns false'. Refute it at one input. -/
def clockSureWrong : ChangeSpec := { name := "clockSure", fn := fun _ => fun
  | [d1, d2, d3, d4, d5] => { results := [.lit (.bool false)], args := [d1, d2, d3, d4, d5] }
  | _ => none }
def ClockSureWrongFalsely : Prop := clockSureRow.holds Try.pinned (OpenSpec.ofChange clockSureWrong)

/-- 'gantlaw5.ClockTells': WHATEVER THE INPUT: true; the input reads as it did. -/
def clockTellsSpec : ChangeSpec := { name := "clockTells", fn := fun _ => fun
  | [d1, d2, d3, d4, d5, d6, d7] => { results := [.lit (.bool true)], args := [d1, d2, d3, d4, d5, d6, d7] }
  | _ => none }
def clockTellsRow : OpenClaim := { program := "ytgccmiedcblfeaa", sum := "8a0aa556d8cfae81c3a7a6e3be5f98501e072d07f8772c01082caf738b7fd9ae", func := "gantry/gantlaw5.ClockTells", spec := "clockTells", unfollowed := true, recurses := true, apart := false }
def ClockTellsSaid : Prop := clockTellsRow.holds Try.pinned (OpenSpec.ofChange clockTellsSpec)

/-- ITS FALSE NEIGHBOUR: 'it returns false'. Refute it at one input. -/
def clockTellsWrong : ChangeSpec := { name := "clockTells", fn := fun _ => fun
  | [d1, d2, d3, d4, d5, d6, d7] => { results := [.lit (.bool false)], args := [d1, d2, d3, d4, d5, d6, d7] }
  | _ => none }
def ClockTellsWrongFalsely : Prop := clockTellsRow.holds Try.pinned (OpenSpec.ofChange clockTellsWrong)

/- THE SECOND FORM. 'bulk': how many values and letters a reading holds, each counted each time it is reached (what is shared counts as often as it is met; a slice's spare places count too). A statement '..UptoSaid' is the law's where the arguments, and the package variables that the reading takes, are together of bulk at most 1048576: NARROWER than '..Said'. Prove '..Said' where nothing that the law and all that it calls make is longer than what came in: it says more and counts as full. Else prove '..UptoSaid'. A law counts once. -/
mutual
def uptoBulk {H : Type} : DataW H → Nat
  | .lit (.string bytes) => bytes.length + 1
  | .lit _ => 1
  | .nil => 1
  | .ptr d => uptoBulk d + 1
  | .slice elems spare => uptoBulkAll elems + uptoBulkAll spare + 1
  | .agg parts => uptoBulkAll parts + 1
  | .iface _ d => uptoBulk d + 1
  | .map entries => uptoBulkEntries entries + 1
  | .held _ => 1
def uptoBulkAll {H : Type} : List (DataW H) → Nat
  | [] => 0
  | d :: r => uptoBulk d + uptoBulkAll r
def uptoBulkEntries {H : Type} : List (Lit × DataW H) → Nat
  | [] => 0
  | x :: r => uptoBulkEntry x + uptoBulkEntries r
def uptoBulkEntry {H : Type} : Lit × DataW H → Nat
  | (.string bytes, d) => bytes.length + uptoBulk d + 1
  | (_, d) => uptoBulk d + 1
 end
def uptoSmall : (H : Type) → List (DataW H) → Bool := fun _ ds => decide (uptoBulkAll ds ≤ 1048576)
def OpenSpec.upto (s : _root_.Go.ChangeSpec) : _root_.Go.OpenSpec := { _root_.Go.OpenSpec.ofChange s with cond := some uptoSmall }

/-- 'gantkeep5.ClockGoes', WHERE WHAT IT READS IS OF BULK AT MOST 1048576: true; the input reads as it did. -/
def clockGoesUptoRow : OpenClaim := { program := "ytgccmiedcblfeaa", sum := "8a0aa556d8cfae81c3a7a6e3be5f98501e072d07f8772c01082caf738b7fd9ae", func := "gantry/gantkeep5.ClockGoes", spec := "clockGoes", apart := false, narrowed := true }
def ClockGoesUptoSaid : Prop := clockGoesUptoRow.holds Try.pinned (OpenSpec.upto clockGoesSpec)

/-- 'gantkeep5.ClockBetween', WHERE WHAT IT READS IS OF BULK AT MOST 1048576: true; the input reads as it did. -/
def clockBetweenUptoRow : OpenClaim := { program := "ytgccmiedcblfeaa", sum := "8a0aa556d8cfae81c3a7a6e3be5f98501e072d07f8772c01082caf738b7fd9ae", func := "gantry/gantkeep5.ClockBetween", spec := "clockBetween", apart := false, narrowed := true }
def ClockBetweenUptoSaid : Prop := clockBetweenUptoRow.holds Try.pinned (OpenSpec.upto clockBetweenSpec)

/-- 'gantkeep5.ClockSure', WHERE WHAT IT READS IS OF BULK AT MOST 1048576: true; the input reads as it did. -/
def clockSureUptoRow : OpenClaim := { program := "ytgccmiedcblfeaa", sum := "8a0aa556d8cfae81c3a7a6e3be5f98501e072d07f8772c01082caf738b7fd9ae", func := "gantry/gantkeep5.ClockSure", spec := "clockSure", apart := false, narrowed := true }
def ClockSureUptoSaid : Prop := clockSureUptoRow.holds Try.pinned (OpenSpec.upto clockSureSpec)

/-- 'gantlaw5.ClockTells', WHERE WHAT IT READS IS OF BULK AT MOST 1048576: true; the input reads as it did. -/
def clockTellsUptoRow : OpenClaim := { program := "ytgccmiedcblfeaa", sum := "8a0aa556d8cfae81c3a7a6e3be5f98501e072d07f8772c01082caf738b7fd9ae", func := "gantry/gantlaw5.ClockTells", spec := "clockTells", unfollowed := true, recurses := true, apart := false, narrowed := true }
def ClockTellsUptoSaid : Prop := clockTellsUptoRow.holds Try.pinned (OpenSpec.upto clockTellsSpec)

end Rows
end Go.Proofs.Ytgccmiedcblfeaa
