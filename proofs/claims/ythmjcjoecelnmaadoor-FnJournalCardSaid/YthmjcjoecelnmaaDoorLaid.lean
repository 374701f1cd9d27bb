/-
  What the rows' lists give (the library's table holds the powers of ten), and a world that fits them. No condition.
-/
import Derived.Test.YthmjcjoecelnmaaDoorBase
import Derived.Test.YthmjcjoecelnmaaDoorTie
import Derived.Test.YthmjcjoecelnmaaDoorCards
import Derived.ProofKit
import Derived.OpenShut
import Derived.Deep.DeepHandedRow
import Derived.Lib.LaidTab
import Derived.Stop.LaidErr
namespace Go.Proofs.YthmjcjoecelnmaaDoor
open Go.ChangeShapes Go.WideShapes Go.ChangeAt Go.RowKit
set_option linter.unusedVariables false

theorem own : ownKnob Tryd.prog.godebug = none := by kernel_rfl
theorem laidOut : laidOutB Tryd.prog = true := by kernel_rfl
theorem gTabType : (Tryd.prog.globals[0]?).map (·.type) = some 102 := by kernel_rfl
theorem cells102 : Tryd.prog.cellsOf 102 = 20 := by kernel_rfl
theorem cells79 : Tryd.prog.cellsOf 79 = 1 := by kernel_rfl

/-- The list's third entry: the powers of ten. -/
theorem table {W : World} (h : laidMetH Tryd.prog Rows.fnExactNumberOfRow.laid W) : Tab W := by
  have h1 : laidMet Tryd.prog Rows.fnExactNumberOfRow.laid W := h
  exact Lib.tabIs_of_head (rest := []) gTab gTabType Tryd.underlying102 Tryd.underlying79 cells79 cells102 (laidMet.tail (laidMet.tail h1))

/-- The cells of a datum of numbers. -/
def numCells : DataW Unit → Array Value | .agg l => (l.map fun d => match d with | .lit (.int k n) => Value.int k n | _ => Value.nilIface).toArray | _ => #[]
def lay (d : DataW Unit) : Obj → Obj | .cells _ t frozen => .cells (numCells d) t frozen | o => o
/-- A world for the witnesses: the settled one, the three tables as their initialisers lay them. -/
noncomputable def laidWorld (os : Os) : World :=
  { World.holding Tryd.prog os ⟨#[], #[], []⟩ with heap := (((World.holding Tryd.prog os ⟨#[], #[], []⟩).heap.modify 0 (lay Rows.laid_internal_strconv_uint64pow10)).modify 2 (lay Rows.laid_math_bits_deBruijn32tab)).modify 3 (lay Rows.laid_math_bits_deBruijn64tab) }

end Go.Proofs.YthmjcjoecelnmaaDoor
