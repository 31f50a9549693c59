/- The library's table, as the rows lay it: what a walk is handed, and a world for the witness. Conditions: those typed. -/
import Derived.Test.YtnnbnecpcppkdaaDoorCards
import Derived.Test.YtnnbnecpcppkdaaDoorTie
import Derived.Test.YtnnbnecpcppkdaaDoorRatFnA
import Derived.Deep.DeepHandedRow
import Derived.Lib.LaidTab
namespace Go.Proofs.YtnnbnecpcppkdaaDoor
open Go.ChangeShapes Go.WideShapes Go.ChangeAt Go.RowKit
set_option linter.unusedVariables false
theorem gTab : Tryd.prog.globalNamed "math/bits.deBruijn64tab" = some 1 := by kernel_rfl
theorem gTabType : (Tryd.prog.globals[1]?).map (·.type) = some 188 := by kernel_rfl
theorem cellsTab : Tryd.prog.cellsOf 188 = 64 := by kernel_rfl
theorem cellsU8 : Tryd.prog.cellsOf 5 = 1 := by kernel_rfl
theorem tabIs {W : World} (h : laidMetH Tryd.prog [("math/bits.deBruijn64tab", Rows.laid_math_bits_deBruijn64tab)] W) : Lib.TabIs Tryd.prog W "math/bits.deBruijn64tab" .u8 (Lib.deBruijn64tab.map Int.ofNat) :=
  Lib.tabIs_of_head (rest := []) gTab gTabType Tryd.underlying188 Tryd.underlying5 cellsU8 cellsTab h
theorem tabw {W : World} (h : laidMetH Tryd.prog [("math/bits.deBruijn64tab", Rows.laid_math_bits_deBruijn64tab)] W) : TabW W := by
  have ht := tabIs h
  have key : Tab W := fun j hj => by
    have h1 := ht.cell gTab j (by rw [List.length_map]; exact hj)
    rw [h1, List.getD_eq_getElem?_getD, List.getElem?_map, List.getD_eq_getElem?_getD, List.getElem?_eq_getElem hj]
    rfl
  exact ⟨key, World.block_lt_of_cell? W _ (key 0 (by decide))⟩
/-- the settled world, the table laid -/
noncomputable def laidWorld (os : Os) : World :=
  { World.holding Tryd.prog os ⟨#[], #[], []⟩ with heap := (World.holding Tryd.prog os ⟨#[], #[], []⟩).heap.modify 1 fun
      | .cells _ t frozen => .cells (Lib.deBruijn64tab.map fun n => Value.int .u8 (Int.ofNat n)).toArray t frozen
      | o => o }
end Go.Proofs.YtnnbnecpcppkdaaDoor
