/-
  No cell of these rows narrows 'for every input' (looked for: loops, veiled, ifaces, maps, wideKeys, modest, calm, conditions, laid).
  DERIVED. THE GIVEN ROWS OF THIS SEAT. 8 by the template 'for every input the law returns true; each argument reads behind the call as it read before'; 0 by the template 'total and deterministic' (their statements: YtambngbkegnghaaTotals.lean).
  GIVEN WITH THE SEED: the statements are not yours to turn. If you find one false, say at which input.
  Laid BY PROGRAM, IN A SANDBOX (cutbox-rows.mjs): the forced cells as the released guide's own fill.sh prints them over the translation a8cd26ef971b33c4… (all of the seat's roots in one cut). By AI agents, Wed Nov 11 2026. No macro, syntax, notation, axiom, sorry.
-/
import Derived.Test.YtambngbkegnghaaChecked
import GoSem.Claim
import GoSem.ClaimJoined
import GoSem.ClaimMapViews
import Derived.JoinedTies
import Derived.KernelRfl
namespace Go.Proofs.Ytambngbkegnghaa
/- THE CELL 'sum', in the pinned program and in every row, IS THE sha256 OF THE DUMP (.gsa) THAT YtambngbkegnghaaProg.lean LOADS. Nothing in Lean hashes anything: it is a label: what it is worth is what the hold of that sum in a sandbox is worth. -/
noncomputable def Try.pinned : Pinned := { name := "ytambngbkegnghaa", sum := "a8cd26ef971b33c44f28fb5bc61ff795ded0e3df0abc29050f0f8a1f2ae607ed", checked := Try.checked }
namespace Rows
def none {H : Type} : Left H := { results := [], args := [] }

/-- 'gantkeep5.LeaseFirst': WHATEVER THE INPUT: true; the input reads as it did. -/
def leaseFirstSpec : ChangeSpec := { name := "leaseFirst", fn := fun _ => fun
  | [d1, d2] => { results := [.lit (.bool true)], args := [d1, d2] }
  | _ => none }
def leaseFirstRow : OpenClaim := { program := "ytambngbkegnghaa", sum := "a8cd26ef971b33c44f28fb5bc61ff795ded0e3df0abc29050f0f8a1f2ae607ed", func := "gantry/gantkeep5.LeaseFirst", spec := "leaseFirst", unfollowed := true, recurses := true, plainKeys := false, apart := false }
def LeaseFirstSaid : Prop := leaseFirstRow.holds Try.pinned (OpenSpec.ofChange leaseFirstSpec)

/-- ITS FALSE NEIGHBOUR: 'it returns false'. Refute it at one input. -/
def leaseFirstWrong : ChangeSpec := { name := "leaseFirst", fn := fun _ => fun
  | [d1, d2] => { results := [.lit (.bool false)], args := [d1, d2] }
  | _ => none }
def LeaseFirstWrongFalsely : Prop := leaseFirstRow.holds Try.pinned (OpenSpec.ofChange leaseFirstWrong)

/-- 'gantkeep5.LeaseEnds': WHATEVER THE INPUT: true; the input reads as it did. -/
def leaseEndsSpec : ChangeSpec := { name := "leaseEnds", fn := fun _ => fun
  | [d1, d2] => { results := [.lit (.bool true)], args := [d1, d2] }
  | _ => none }
def leaseEndsRow : OpenClaim := { program := "ytambngbkegnghaa", sum := "a8cd26ef971b33c44f28fb5bc61ff795ded0e3df0abc29050f0f8a1f2ae607ed", func := "gantry/gantkeep5.LeaseEnds", spec := "leaseEnds", unfollowed := true, recurses := true, plainKeys := false, apart := false }
def LeaseEndsSaid : Prop := leaseEndsRow.holds Try.pinned (OpenSpec.ofChange leaseEndsSpec)

/-- ITS FALSE NEIGHBOUR: 'it returns false'. Refute it at one input. -/
def leaseEndsWrong : ChangeSpec := { name := "leaseEnds", fn := fun _ => fun
  | [d1, d2] => { results := [.lit (.bool false)], args := [d1, d2] }
  | _ => none }
def LeaseEndsWrongFalsely : Prop := leaseEndsRow.holds Try.pinned (OpenSpec.ofChange leaseEndsWrong)

/-- 'gantkeep5.LeaseLoop': WHATEVER THE INPUT: true; the input reads as it did. -/
def leaseLoopSpec : ChangeSpec := { name := "leaseLoop", fn := fun _ => fun
  | [d1, d2] => { results := [.lit (.bool true)], args := [d1, d2] }
  | _ => none }
def leaseLoopRow : OpenClaim := { program := "ytambngbkegnghaa", sum := "a8cd26ef971b33c44f28fb5bc61ff795ded0e3df0abc29050f0f8a1f2ae607ed", func := "gantry/gantkeep5.LeaseLoop", spec := "leaseLoop", unfollowed := true, recurses := true, plainKeys := false, apart := false }
def LeaseLoopSaid : Prop := leaseLoopRow.holds Try.pinned (OpenSpec.ofChange leaseLoopSpec)

/-- ITS FALSE NEIGHBOUR: 'it returns false'. Refute it at one input. -/
def leaseLoopWrong : ChangeSpec := { name := "leaseLoop", fn := fun _ => fun
  | [d1, d2] => { results := [.lit (.bool false)], args := [d1, d2] }
  | _ => none }
def LeaseLoopWrongFalsely : Prop := leaseLoopRow.holds Try.pinned (OpenSpec.ofChange leaseLoopWrong)

/-- 'gantkeep5.LeaseApart': WHATEVER THE INPUT: true; the input reads as it did. -/
def leaseApartSpec : ChangeSpec := { name := "leaseApart", fn := fun _ => fun
  | [d1, d2] => { results := [.lit (.bool true)], args := [d1, d2] }
  | _ => none }
def leaseApartRow : OpenClaim := { program := "ytambngbkegnghaa", sum := "a8cd26ef971b33c44f28fb5bc61ff795ded0e3df0abc29050f0f8a1f2ae607ed", func := "gantry/gantkeep5.LeaseApart", spec := "leaseApart", unfollowed := true, recurses := true, plainKeys := false, apart := false }
def LeaseApartSaid : Prop := leaseApartRow.holds Try.pinned (OpenSpec.ofChange leaseApartSpec)

/-- ITS FALSE NEIGHBOUR: 'it returns false'. Refute it at one input. -/
def leaseApartWrong : ChangeSpec := { name := "leaseApart", fn := fun _ => fun
  | [d1, d2] => { results := [.lit (.bool false)], args := [d1, d2] }
  | _ => none }
def LeaseApartWrongFalsely : Prop := leaseApartRow.holds Try.pinned (OpenSpec.ofChange leaseApartWrong)

/-- 'gantlaw5.LeasePlays': WHATEVER THE INPUT: true; the input reads as it did. -/
def leasePlaysSpec : ChangeSpec := { name := "leasePlays", fn := fun _ => fun
  | [d1, d2, d3] => { results := [.lit (.bool true)], args := [d1, d2, d3] }
  | _ => none }
def leasePlaysRow : OpenClaim := { program := "ytambngbkegnghaa", sum := "a8cd26ef971b33c44f28fb5bc61ff795ded0e3df0abc29050f0f8a1f2ae607ed", func := "gantry/gantlaw5.LeasePlays", spec := "leasePlays", unfollowed := true, recurses := true, plainKeys := false, apart := false }
def LeasePlaysSaid : Prop := leasePlaysRow.holds Try.pinned (OpenSpec.ofChange leasePlaysSpec)

/-- ITS FALSE NEIGHBOUR: 'it returns false'. Refute it at one input. -/
def leasePlaysWrong : ChangeSpec := { name := "leasePlays", fn := fun _ => fun
  | [d1, d2, d3] => { results := [.lit (.bool false)], args := [d1, d2, d3] }
  | _ => none }
def LeasePlaysWrongFalsely : Prop := leasePlaysRow.holds Try.pinned (OpenSpec.ofChange leasePlaysWrong)

/-- 'gantkeep5.RingGives': WHATEVER THE INPUT: true; the input reads as it did. -/
def ringGivesSpec : ChangeSpec := { name := "ringGives", fn := fun _ => fun
  | [d1, d2] => { results := [.lit (.bool true)], args := [d1, d2] }
  | _ => none }
def ringGivesRow : OpenClaim := { program := "ytambngbkegnghaa", sum := "a8cd26ef971b33c44f28fb5bc61ff795ded0e3df0abc29050f0f8a1f2ae607ed", func := "gantry/gantkeep5.RingGives", spec := "ringGives", unfollowed := true, recurses := true, plainKeys := false, apart := false }
def RingGivesSaid : Prop := ringGivesRow.holds Try.pinned (OpenSpec.ofChange ringGivesSpec)

/-- ITS FALSE NEIGHBOUR: 'it returns false'. Refute it at one input. -/
def ringGivesWrong : ChangeSpec := { name := "ringGives", fn := fun _ => fun
  | [d1, d2] => { results := [.lit (.bool false)], args := [d1, d2] }
  | _ => none }
def RingGivesWrongFalsely : Prop := ringGivesRow.holds Try.pinned (OpenSpec.ofChange ringGivesWrong)

/-- 'gantlaw5.RingSafe': WHATEVER THE INPUT: true; the input reads as it did. -/
def ringSafeSpec : ChangeSpec := { name := "ringSafe", fn := fun _ => fun
  | [d1, d2] => { results := [.lit (.bool true)], args := [d1, d2] }
  | _ => none }
def ringSafeRow : OpenClaim := { program := "ytambngbkegnghaa", sum := "a8cd26ef971b33c44f28fb5bc61ff795ded0e3df0abc29050f0f8a1f2ae607ed", func := "gantry/gantlaw5.RingSafe", spec := "ringSafe", unfollowed := true, recurses := true, plainKeys := false, apart := false }
def RingSafeSaid : Prop := ringSafeRow.holds Try.pinned (OpenSpec.ofChange ringSafeSpec)

/-- ITS FALSE NEIGHBOUR: 'it returns false'. Refute it at one input. -/
def ringSafeWrong : ChangeSpec := { name := "ringSafe", fn := fun _ => fun
  | [d1, d2] => { results := [.lit (.bool false)], args := [d1, d2] }
  | _ => none }
def RingSafeWrongFalsely : Prop := ringSafeRow.holds Try.pinned (OpenSpec.ofChange ringSafeWrong)

/-- 'ganttop.TopWaits': WHATEVER THE INPUT: true; the input reads as it did. -/
def topWaitsSpec : ChangeSpec := { name := "topWaits", fn := fun _ => fun
  | [d1, d2] => { results := [.lit (.bool true)], args := [d1, d2] }
  | _ => none }
def topWaitsRow : OpenClaim := { program := "ytambngbkegnghaa", sum := "a8cd26ef971b33c44f28fb5bc61ff795ded0e3df0abc29050f0f8a1f2ae607ed", func := "gantry/ganttop.TopWaits", spec := "topWaits", unfollowed := true, recurses := true, plainKeys := false, apart := false }
def TopWaitsSaid : Prop := topWaitsRow.holds Try.pinned (OpenSpec.ofChange topWaitsSpec)

/-- ITS FALSE NEIGHBOUR: 'it returns false'. Refute it at one input. -/
def topWaitsWrong : ChangeSpec := { name := "topWaits", fn := fun _ => fun
  | [d1, d2] => { results := [.lit (.bool false)], args := [d1, d2] }
  | _ => none }
def TopWaitsWrongFalsely : Prop := topWaitsRow.holds Try.pinned (OpenSpec.ofChange topWaitsWrong)

/- THE SECOND FORM. 'bulk': how many values and letters a reading holds, each counted each time it is reached (what is shared counts as often as it is met; a slice's spare places count too). A statement '..UptoSaid' is the law's where the arguments, and the package variables that the reading takes, are together of bulk at most 1048576: NARROWER than '..Said'. Prove '..Said' where nothing that the law and all that it calls make is longer than what came in: it says more and counts as full. Else prove '..UptoSaid'. A law counts once. -/
mutual
def uptoBulk {H : Type} : DataW H → Nat
  | .lit (.string bytes) => bytes.length + 1
  | .lit _ => 1
  | .nil => 1
  | .ptr d => uptoBulk d + 1
  | .slice elems spare => uptoBulkAll elems + uptoBulkAll spare + 1
  | .agg parts => uptoBulkAll parts + 1
  | .iface _ d => uptoBulk d + 1
  | .map entries => uptoBulkEntries entries + 1
  | .held _ => 1
def uptoBulkAll {H : Type} : List (DataW H) → Nat
  | [] => 0
  | d :: r => uptoBulk d + uptoBulkAll r
def uptoBulkEntries {H : Type} : List (Lit × DataW H) → Nat
  | [] => 0
  | x :: r => uptoBulkEntry x + uptoBulkEntries r
def uptoBulkEntry {H : Type} : Lit × DataW H → Nat
  | (.string bytes, d) => bytes.length + uptoBulk d + 1
  | (_, d) => uptoBulk d + 1
 end
def uptoSmall : (H : Type) → List (DataW H) → Bool := fun _ ds => decide (uptoBulkAll ds ≤ 1048576)
def OpenSpec.upto (s : _root_.Go.ChangeSpec) : _root_.Go.OpenSpec := { _root_.Go.OpenSpec.ofChange s with cond := some uptoSmall }

/-- 'gantkeep5.LeaseFirst', WHERE WHAT IT READS IS OF BULK AT MOST 1048576: true; the input reads as it did. -/
def leaseFirstUptoRow : OpenClaim := { program := "ytambngbkegnghaa", sum := "a8cd26ef971b33c44f28fb5bc61ff795ded0e3df0abc29050f0f8a1f2ae607ed", func := "gantry/gantkeep5.LeaseFirst", spec := "leaseFirst", unfollowed := true, recurses := true, plainKeys := false, apart := false, narrowed := true }
def LeaseFirstUptoSaid : Prop := leaseFirstUptoRow.holds Try.pinned (OpenSpec.upto leaseFirstSpec)

/-- 'gantkeep5.LeaseEnds', WHERE WHAT IT READS IS OF BULK AT MOST 1048576: true; the input reads as it did. -/
def leaseEndsUptoRow : OpenClaim := { program := "ytambngbkegnghaa", sum := "a8cd26ef971b33c44f28fb5bc61ff795ded0e3df0abc29050f0f8a1f2ae607ed", func := "gantry/gantkeep5.LeaseEnds", spec := "leaseEnds", unfollowed := true, recurses := true, plainKeys := false, apart := false, narrowed := true }
def LeaseEndsUptoSaid : Prop := leaseEndsUptoRow.holds Try.pinned (OpenSpec.upto leaseEndsSpec)

/-- 'gantkeep5.LeaseLoop', WHERE WHAT IT READS IS OF BULK AT MOST 1048576: true; the input reads as it did. -/
def leaseLoopUptoRow : OpenClaim := { program := "ytambngbkegnghaa", sum := "a8cd26ef971b33c44f28fb5bc61ff795ded0e3df0abc29050f0f8a1f2ae607ed", func := "gantry/gantkeep5.LeaseLoop", spec := "leaseLoop", unfollowed := true, recurses := true, plainKeys := false, apart := false, narrowed := true }
def LeaseLoopUptoSaid : Prop := leaseLoopUptoRow.holds Try.pinned (OpenSpec.upto leaseLoopSpec)

/-- 'gantkeep5.LeaseApart', WHERE WHAT IT READS IS OF BULK AT MOST 1048576: true; the input reads as it did. -/
def leaseApartUptoRow : OpenClaim := { program := "ytambngbkegnghaa", sum := "a8cd26ef971b33c44f28fb5bc61ff795ded0e3df0abc29050f0f8a1f2ae607ed", func := "gantry/gantkeep5.LeaseApart", spec := "leaseApart", unfollowed := true, recurses := true, plainKeys := false, apart := false, narrowed := true }
def LeaseApartUptoSaid : Prop := leaseApartUptoRow.holds Try.pinned (OpenSpec.upto leaseApartSpec)

/-- 'gantlaw5.LeasePlays', WHERE WHAT IT READS IS OF BULK AT MOST 1048576: true; the input reads as it did. -/
def leasePlaysUptoRow : OpenClaim := { program := "ytambngbkegnghaa", sum := "a8cd26ef971b33c44f28fb5bc61ff795ded0e3df0abc29050f0f8a1f2ae607ed", func := "gantry/gantlaw5.LeasePlays", spec := "leasePlays", unfollowed := true, recurses := true, plainKeys := false, apart := false, narrowed := true }
def LeasePlaysUptoSaid : Prop := leasePlaysUptoRow.holds Try.pinned (OpenSpec.upto leasePlaysSpec)

/-- 'gantkeep5.RingGives', WHERE WHAT IT READS IS OF BULK AT MOST 1048576: true; the input reads as it did. -/
def ringGivesUptoRow : OpenClaim := { program := "ytambngbkegnghaa", sum := "a8cd26ef971b33c44f28fb5bc61ff795ded0e3df0abc29050f0f8a1f2ae607ed", func := "gantry/gantkeep5.RingGives", spec := "ringGives", unfollowed := true, recurses := true, plainKeys := false, apart := false, narrowed := true }
def RingGivesUptoSaid : Prop := ringGivesUptoRow.holds Try.pinned (OpenSpec.upto ringGivesSpec)

/-- 'gantlaw5.RingSafe', WHERE WHAT IT READS IS OF BULK AT MOST 1048576: true; the input reads as it did. -/
def ringSafeUptoRow : OpenClaim := { program := "ytambngbkegnghaa", sum := "a8cd26ef971b33c44f28fb5bc61ff795ded0e3df0abc29050f0f8a1f2ae607ed", func := "gantry/gantlaw5.RingSafe", spec := "ringSafe", unfollowed := true, recurses := true, plainKeys := false, apart := false, narrowed := true }
def RingSafeUptoSaid : Prop := ringSafeUptoRow.holds Try.pinned (OpenSpec.upto ringSafeSpec)

/-- 'ganttop.TopWaits', WHERE WHAT IT READS IS OF BULK AT MOST 1048576: true; the input reads as it did. -/
def topWaitsUptoRow : OpenClaim := { program := "ytambngbkegnghaa", sum := "a8cd26ef971b33c44f28fb5bc61ff795ded0e3df0abc29050f0f8a1f2ae607ed", func := "gantry/ganttop.TopWaits", spec := "topWaits", unfollowed := true, recurses := true, plainKeys := false, apart := false, narrowed := true }
def TopWaitsUptoSaid : Prop := topWaitsUptoRow.holds Try.pinned (OpenSpec.upto topWaitsSpec)

end Rows
end Go.Proofs.Ytambngbkegnghaa
