/-
  No cell of these rows narrows 'for every input' (looked for: loops, veiled, ifaces, maps, wideKeys, modest, calm, conditions, laid).
  DERIVED. THE GIVEN ROWS OF THIS SEAT. 10 by the template 'for every input the law returns true; each argument reads behind the call as it read before'; 0 by the template 'total and deterministic' (their statements: YtaahpjjffggaiaaTotals.lean).
  GIVEN WITH THE SEED: the statements are not yours to turn. If you find one false, say at which input.
  Laid BY PROGRAM, IN A SANDBOX (cutbox-rows.mjs): the forced cells as the released guide's own fill.sh prints them over the translation 7c55fb4303bb3f14… (all of the seat's roots in one cut). By AI agents, Wed Nov 11 2026. No macro, syntax, notation, axiom, sorry.
-/
import Derived.Test.YtaahpjjffggaiaaChecked
import GoSem.Claim
import GoSem.ClaimJoined
import GoSem.ClaimMapViews
import Derived.JoinedTies
import Derived.KernelRfl
namespace Go.Proofs.Ytaahpjjffggaiaa
/- THE CELL 'sum', in the pinned program and in every row, IS THE sha256 OF THE DUMP (.gsa) THAT YtaahpjjffggaiaaProg.lean LOADS. Nothing in Lean hashes anything: it is a label: what it is worth is what the hold of that sum in a sandbox is worth. -/
noncomputable def Try.pinned : Pinned := { name := "ytaahpjjffggaiaa", sum := "7c55fb4303bb3f14190f211a9309c2d5e2f99404c601ce45a6819b84d20cccef", checked := Try.checked }
namespace Rows
def none {H : Type} : Left H := { results := [], args := [] }

/-- 'gantkeep5.MsgOwn': WHATEVER THE INPUT: true; the input reads as it did. -/
def msgOwnSpec : ChangeSpec := { name := "msgOwn", fn := fun _ => fun
  | [d] => { results := [.lit (.bool true)], args := [d] }
  | _ => none }
def msgOwnRow : OpenClaim := { program := "ytaahpjjffggaiaa", sum := "7c55fb4303bb3f14190f211a9309c2d5e2f99404c601ce45a6819b84d20cccef", func := "gantry/gantkeep5.MsgOwn", spec := "msgOwn", unfollowed := true, recurses := true, plainKeys := false, apart := false }
def MsgOwnSaid : Prop := msgOwnRow.holds Try.pinned (OpenSpec.ofChange msgOwnSpec)

/-- ITS FALSE NEIGHBOUR: 'it returns false'. Refute it at one input. -/
def msgOwnWrong : ChangeSpec := { name := "msgOwn", fn := fun _ => fun
  | [d] => { results := [.lit (.bool false)], args := [d] }
  | _ => none }
def MsgOwnWrongFalsely : Prop := msgOwnRow.holds Try.pinned (OpenSpec.ofChange msgOwnWrong)

/-- 'gantkeep5.MsgBack': WHATEVER THE INPUT: true; the input reads as it did. -/
def msgBackSpec : ChangeSpec := { name := "msgBack", fn := fun _ => fun
  | [d1, d2, d3] => { results := [.lit (.bool true)], args := [d1, d2, d3] }
  | _ => none }
def msgBackRow : OpenClaim := { program := "ytaahpjjffggaiaa", sum := "7c55fb4303bb3f14190f211a9309c2d5e2f99404c601ce45a6819b84d20cccef", func := "gantry/gantkeep5.MsgBack", spec := "msgBack", unfollowed := true, recurses := true, plainKeys := false, apart := false }
def MsgBackSaid : Prop := msgBackRow.holds Try.pinned (OpenSpec.ofChange msgBackSpec)

/-- ITS FALSE NEIGHBOUR: 'it returns false'. Refute it at one input. -/
def msgBackWrong : ChangeSpec := { name := "msgBack", fn := fun _ => fun
  | [d1, d2, d3] => { results := [.lit (.bool false)], args := [d1, d2, d3] }
  | _ => none }
def MsgBackWrongFalsely : Prop := msgBackRow.holds Try.pinned (OpenSpec.ofChange msgBackWrong)

/-- 'gantkeep5.MsgShort': WHATEVER THE INPUT: true; the input reads as it did. -/
def msgShortSpec : ChangeSpec := { name := "msgShort", fn := fun _ => fun
  | [d1, d2, d3] => { results := [.lit (.bool true)], args := [d1, d2, d3] }
  | _ => none }
def msgShortRow : OpenClaim := { program := "ytaahpjjffggaiaa", sum := "7c55fb4303bb3f14190f211a9309c2d5e2f99404c601ce45a6819b84d20cccef", func := "gantry/gantkeep5.MsgShort", spec := "msgShort", unfollowed := true, recurses := true, plainKeys := false, apart := false }
def MsgShortSaid : Prop := msgShortRow.holds Try.pinned (OpenSpec.ofChange msgShortSpec)

/-- ITS FALSE NEIGHBOUR: 'it returns false'. Refute it at one input. -/
def msgShortWrong : ChangeSpec := { name := "msgShort", fn := fun _ => fun
  | [d1, d2, d3] => { results := [.lit (.bool false)], args := [d1, d2, d3] }
  | _ => none }
def MsgShortWrongFalsely : Prop := msgShortRow.holds Try.pinned (OpenSpec.ofChange msgShortWrong)

/-- 'gantlaw5.FallTells': WHATEVER THE INPUT: true; the input reads as it did. -/
def fallTellsSpec : ChangeSpec := { name := "fallTells", fn := fun _ => fun
  | [d1, d2, d3] => { results := [.lit (.bool true)], args := [d1, d2, d3] }
  | _ => none }
def fallTellsRow : OpenClaim := { program := "ytaahpjjffggaiaa", sum := "7c55fb4303bb3f14190f211a9309c2d5e2f99404c601ce45a6819b84d20cccef", func := "gantry/gantlaw5.FallTells", spec := "fallTells", unfollowed := true, recurses := true, plainKeys := false, apart := false }
def FallTellsSaid : Prop := fallTellsRow.holds Try.pinned (OpenSpec.ofChange fallTellsSpec)

/-- ITS FALSE NEIGHBOUR: 'it returns false'. Refute it at one input. -/
def fallTellsWrong : ChangeSpec := { name := "fallTells", fn := fun _ => fun
  | [d1, d2, d3] => { results := [.lit (.bool false)], args := [d1, d2, d3] }
  | _ => none }
def FallTellsWrongFalsely : Prop := fallTellsRow.holds Try.pinned (OpenSpec.ofChange fallTellsWrong)

/-- 'gantkeep5.FallEvents': WHATEVER THE INPUT: true; the input reads as it did. -/
def fallEventsSpec : ChangeSpec := { name := "fallEvents", fn := fun _ => fun
  | [d1, d2] => { results := [.lit (.bool true)], args := [d1, d2] }
  | _ => none }
def fallEventsRow : OpenClaim := { program := "ytaahpjjffggaiaa", sum := "7c55fb4303bb3f14190f211a9309c2d5e2f99404c601ce45a6819b84d20cccef", func := "gantry/gantkeep5.FallEvents", spec := "fallEvents", unfollowed := true, recurses := true, plainKeys := false, apart := false }
def FallEventsSaid : Prop := fallEventsRow.holds Try.pinned (OpenSpec.ofChange fallEventsSpec)

/-- ITS FALSE NEIGHBOUR: 'it returns false'. Refute it at one input. -/
def fallEventsWrong : ChangeSpec := { name := "fallEvents", fn := fun _ => fun
  | [d1, d2] => { results := [.lit (.bool false)], args := [d1, d2] }
  | _ => none }
def FallEventsWrongFalsely : Prop := fallEventsRow.holds Try.pinned (OpenSpec.ofChange fallEventsWrong)

/-- 'gantlaw5.FallBack': WHATEVER THE INPUT: true; the input reads as it did. -/
def fallBackSpec : ChangeSpec := { name := "fallBack", fn := fun _ => fun
  | [d1, d2] => { results := [.lit (.bool true)], args := [d1, d2] }
  | _ => none }
def fallBackRow : OpenClaim := { program := "ytaahpjjffggaiaa", sum := "7c55fb4303bb3f14190f211a9309c2d5e2f99404c601ce45a6819b84d20cccef", func := "gantry/gantlaw5.FallBack", spec := "fallBack", unfollowed := true, recurses := true, plainKeys := false, apart := false }
def FallBackSaid : Prop := fallBackRow.holds Try.pinned (OpenSpec.ofChange fallBackSpec)

/-- ITS FALSE NEIGHBOUR: 'it returns false'. Refute it at one input. -/
def fallBackWrong : ChangeSpec := { name := "fallBack", fn := fun _ => fun
  | [d1, d2] => { results := [.lit (.bool false)], args := [d1, d2] }
  | _ => none }
def FallBackWrongFalsely : Prop := fallBackRow.holds Try.pinned (OpenSpec.ofChange fallBackWrong)

/-- 'gantlaw5.FallKeeps': WHATEVER THE INPUT: true; the input reads as it did. -/
def fallKeepsSpec : ChangeSpec := { name := "fallKeeps", fn := fun _ => fun
  | [d1, d2, d3, d4, d5, d6] => { results := [.lit (.bool true)], args := [d1, d2, d3, d4, d5, d6] }
  | _ => none }
def fallKeepsRow : OpenClaim := { program := "ytaahpjjffggaiaa", sum := "7c55fb4303bb3f14190f211a9309c2d5e2f99404c601ce45a6819b84d20cccef", func := "gantry/gantlaw5.FallKeeps", spec := "fallKeeps", unfollowed := true, recurses := true, plainKeys := false, apart := false }
def FallKeepsSaid : Prop := fallKeepsRow.holds Try.pinned (OpenSpec.ofChange fallKeepsSpec)

/-- ITS FALSE NEIGHBOUR: 'it returns false'. Refute it at one input. -/
def fallKeepsWrong : ChangeSpec := { name := "fallKeeps", fn := fun _ => fun
  | [d1, d2, d3, d4, d5, d6] => { results := [.lit (.bool false)], args := [d1, d2, d3, d4, d5, d6] }
  | _ => none }
def FallKeepsWrongFalsely : Prop := fallKeepsRow.holds Try.pinned (OpenSpec.ofChange fallKeepsWrong)

/-- 'gantkeep5.FallSame': WHATEVER THE INPUT: true; the input reads as it did. -/
def fallSameSpec : ChangeSpec := { name := "fallSame", fn := fun _ => fun
  | [d] => { results := [.lit (.bool true)], args := [d] }
  | _ => none }
def fallSameRow : OpenClaim := { program := "ytaahpjjffggaiaa", sum := "7c55fb4303bb3f14190f211a9309c2d5e2f99404c601ce45a6819b84d20cccef", func := "gantry/gantkeep5.FallSame", spec := "fallSame", unfollowed := true, recurses := true, plainKeys := false, apart := false }
def FallSameSaid : Prop := fallSameRow.holds Try.pinned (OpenSpec.ofChange fallSameSpec)

/-- ITS FALSE NEIGHBOUR: 'it returns false'. Refute it at one input. -/
def fallSameWrong : ChangeSpec := { name := "fallSame", fn := fun _ => fun
  | [d] => { results := [.lit (.bool false)], args := [d] }
  | _ => none }
def FallSameWrongFalsely : Prop := fallSameRow.holds Try.pinned (OpenSpec.ofChange fallSameWrong)

/-- 'gantkeep5.FallTorn': WHATEVER THE INPUT: true; the input reads as it did. -/
def fallTornSpec : ChangeSpec := { name := "fallTorn", fn := fun _ => fun
  | [d1, d2] => { results := [.lit (.bool true)], args := [d1, d2] }
  | _ => none }
def fallTornRow : OpenClaim := { program := "ytaahpjjffggaiaa", sum := "7c55fb4303bb3f14190f211a9309c2d5e2f99404c601ce45a6819b84d20cccef", func := "gantry/gantkeep5.FallTorn", spec := "fallTorn", unfollowed := true, recurses := true, plainKeys := false, apart := false }
def FallTornSaid : Prop := fallTornRow.holds Try.pinned (OpenSpec.ofChange fallTornSpec)

/-- ITS FALSE NEIGHBOUR: 'it returns false'. Refute it at one input. -/
def fallTornWrong : ChangeSpec := { name := "fallTorn", fn := fun _ => fun
  | [d1, d2] => { results := [.lit (.bool false)], args := [d1, d2] }
  | _ => none }
def FallTornWrongFalsely : Prop := fallTornRow.holds Try.pinned (OpenSpec.ofChange fallTornWrong)

/-- 'ganttop.TopFalls': WHATEVER THE INPUT: true; the input reads as it did. -/
def topFallsSpec : ChangeSpec := { name := "topFalls", fn := fun _ => fun
  | [d1, d2] => { results := [.lit (.bool true)], args := [d1, d2] }
  | _ => none }
def topFallsRow : OpenClaim := { program := "ytaahpjjffggaiaa", sum := "7c55fb4303bb3f14190f211a9309c2d5e2f99404c601ce45a6819b84d20cccef", func := "gantry/ganttop.TopFalls", spec := "topFalls", unfollowed := true, recurses := true, plainKeys := false, apart := false }
def TopFallsSaid : Prop := topFallsRow.holds Try.pinned (OpenSpec.ofChange topFallsSpec)

/-- ITS FALSE NEIGHBOUR: 'it returns false'. Refute it at one input. -/
def topFallsWrong : ChangeSpec := { name := "topFalls", fn := fun _ => fun
  | [d1, d2] => { results := [.lit (.bool false)], args := [d1, d2] }
  | _ => none }
def TopFallsWrongFalsely : Prop := topFallsRow.holds Try.pinned (OpenSpec.ofChange topFallsWrong)

/- THE SECOND FORM. 'bulk': how many values and letters a reading holds, each counted each time it is reached (what is shared counts as often as it is met; a slice's spare places count too). A statement '..UptoSaid' is the law's where the arguments, and the package variables that the reading takes, are together of bulk at most 1048576: NARROWER than '..Said'. Prove '..Said' where nothing that the law and all that it calls make is longer than what came in: it says more and counts as full. Else prove '..UptoSaid'. A law counts once. -/
mutual
def uptoBulk {H : Type} : DataW H → Nat
  | .lit (.string bytes) => bytes.length + 1
  | .lit _ => 1
  | .nil => 1
  | .ptr d => uptoBulk d + 1
  | .slice elems spare => uptoBulkAll elems + uptoBulkAll spare + 1
  | .agg parts => uptoBulkAll parts + 1
  | .iface _ d => uptoBulk d + 1
  | .map entries => uptoBulkEntries entries + 1
  | .held _ => 1
def uptoBulkAll {H : Type} : List (DataW H) → Nat
  | [] => 0
  | d :: r => uptoBulk d + uptoBulkAll r
def uptoBulkEntries {H : Type} : List (Lit × DataW H) → Nat
  | [] => 0
  | x :: r => uptoBulkEntry x + uptoBulkEntries r
def uptoBulkEntry {H : Type} : Lit × DataW H → Nat
  | (.string bytes, d) => bytes.length + uptoBulk d + 1
  | (_, d) => uptoBulk d + 1
 end
def uptoSmall : (H : Type) → List (DataW H) → Bool := fun _ ds => decide (uptoBulkAll ds ≤ 1048576)
def OpenSpec.upto (s : _root_.Go.ChangeSpec) : _root_.Go.OpenSpec := { _root_.Go.OpenSpec.ofChange s with cond := some uptoSmall }

/-- 'gantkeep5.MsgOwn', WHERE WHAT IT READS IS OF BULK AT MOST 1048576: true; the input reads as it did. -/
def msgOwnUptoRow : OpenClaim := { program := "ytaahpjjffggaiaa", sum := "7c55fb4303bb3f14190f211a9309c2d5e2f99404c601ce45a6819b84d20cccef", func := "gantry/gantkeep5.MsgOwn", spec := "msgOwn", unfollowed := true, recurses := true, plainKeys := false, apart := false, narrowed := true }
def MsgOwnUptoSaid : Prop := msgOwnUptoRow.holds Try.pinned (OpenSpec.upto msgOwnSpec)

/-- 'gantkeep5.MsgBack', WHERE WHAT IT READS IS OF BULK AT MOST 1048576: true; the input reads as it did. -/
def msgBackUptoRow : OpenClaim := { program := "ytaahpjjffggaiaa", sum := "7c55fb4303bb3f14190f211a9309c2d5e2f99404c601ce45a6819b84d20cccef", func := "gantry/gantkeep5.MsgBack", spec := "msgBack", unfollowed := true, recurses := true, plainKeys := false, apart := false, narrowed := true }
def MsgBackUptoSaid : Prop := msgBackUptoRow.holds Try.pinned (OpenSpec.upto msgBackSpec)

/-- 'gantkeep5.MsgShort', WHERE WHAT IT READS IS OF BULK AT MOST 1048576: true; the input reads as it did. -/
def msgShortUptoRow : OpenClaim := { program := "ytaahpjjffggaiaa", sum := "7c55fb4303bb3f14190f211a9309c2d5e2f99404c601ce45a6819b84d20cccef", func := "gantry/gantkeep5.MsgShort", spec := "msgShort", unfollowed := true, recurses := true, plainKeys := false, apart := false, narrowed := true }
def MsgShortUptoSaid : Prop := msgShortUptoRow.holds Try.pinned (OpenSpec.upto msgShortSpec)

/-- 'gantlaw5.FallTells', WHERE WHAT IT READS IS OF BULK AT MOST 1048576: true; the input reads as it did. -/
def fallTellsUptoRow : OpenClaim := { program := "ytaahpjjffggaiaa", sum := "7c55fb4303bb3f14190f211a9309c2d5e2f99404c601ce45a6819b84d20cccef", func := "gantry/gantlaw5.FallTells", spec := "fallTells", unfollowed := true, recurses := true, plainKeys := false, apart := false, narrowed := true }
def FallTellsUptoSaid : Prop := fallTellsUptoRow.holds Try.pinned (OpenSpec.upto fallTellsSpec)

/-- 'gantkeep5.FallEvents', WHERE WHAT IT READS IS OF BULK AT MOST 1048576: true; the input reads as it did. -/
def fallEventsUptoRow : OpenClaim := { program := "ytaahpjjffggaiaa", sum := "7c55fb4303bb3f14190f211a9309c2d5e2f99404c601ce45a6819b84d20cccef", func := "gantry/gantkeep5.FallEvents", spec := "fallEvents", unfollowed := true, recurses := true, plainKeys := false, apart := false, narrowed := true }
def FallEventsUptoSaid : Prop := fallEventsUptoRow.holds Try.pinned (OpenSpec.upto fallEventsSpec)

/-- 'gantlaw5.FallBack', WHERE WHAT IT READS IS OF BULK AT MOST 1048576: true; the input reads as it did. -/
def fallBackUptoRow : OpenClaim := { program := "ytaahpjjffggaiaa", sum := "7c55fb4303bb3f14190f211a9309c2d5e2f99404c601ce45a6819b84d20cccef", func := "gantry/gantlaw5.FallBack", spec := "fallBack", unfollowed := true, recurses := true, plainKeys := false, apart := false, narrowed := true }
def FallBackUptoSaid : Prop := fallBackUptoRow.holds Try.pinned (OpenSpec.upto fallBackSpec)

/-- 'gantlaw5.FallKeeps', WHERE WHAT IT READS IS OF BULK AT MOST 1048576: true; the input reads as it did. -/
def fallKeepsUptoRow : OpenClaim := { program := "ytaahpjjffggaiaa", sum := "7c55fb4303bb3f14190f211a9309c2d5e2f99404c601ce45a6819b84d20cccef", func := "gantry/gantlaw5.FallKeeps", spec := "fallKeeps", unfollowed := true, recurses := true, plainKeys := false, apart := false, narrowed := true }
def FallKeepsUptoSaid : Prop := fallKeepsUptoRow.holds Try.pinned (OpenSpec.upto fallKeepsSpec)

/-- 'gantkeep5.FallSame', WHERE WHAT IT READS IS OF BULK AT MOST 1048576: true; the input reads as it did. -/
def fallSameUptoRow : OpenClaim := { program := "ytaahpjjffggaiaa", sum := "7c55fb4303bb3f14190f211a9309c2d5e2f99404c601ce45a6819b84d20cccef", func := "gantry/gantkeep5.FallSame", spec := "fallSame", unfollowed := true, recurses := true, plainKeys := false, apart := false, narrowed := true }
def FallSameUptoSaid : Prop := fallSameUptoRow.holds Try.pinned (OpenSpec.upto fallSameSpec)

/-- 'gantkeep5.FallTorn', WHERE WHAT IT READS IS OF BULK AT MOST 1048576: true; the input reads as it did. -/
def fallTornUptoRow : OpenClaim := { program := "ytaahpjjffggaiaa", sum := "7c55fb4303bb3f14190f211a9309c2d5e2f99404c601ce45a6819b84d20cccef", func := "gantry/gantkeep5.FallTorn", spec := "fallTorn", unfollowed := true, recurses := true, plainKeys := false, apart := false, narrowed := true }
def FallTornUptoSaid : Prop := fallTornUptoRow.holds Try.pinned (OpenSpec.upto fallTornSpec)

/-- 'ganttop.TopFalls', WHERE WHAT IT READS IS OF BULK AT MOST 1048576: true; the input reads as it did. -/
def topFallsUptoRow : OpenClaim := { program := "ytaahpjjffggaiaa", sum := "7c55fb4303bb3f14190f211a9309c2d5e2f99404c601ce45a6819b84d20cccef", func := "gantry/ganttop.TopFalls", spec := "topFalls", unfollowed := true, recurses := true, plainKeys := false, apart := false, narrowed := true }
def TopFallsUptoSaid : Prop := topFallsUptoRow.holds Try.pinned (OpenSpec.upto topFallsSpec)

end Rows
end Go.Proofs.Ytaahpjjffggaiaa
