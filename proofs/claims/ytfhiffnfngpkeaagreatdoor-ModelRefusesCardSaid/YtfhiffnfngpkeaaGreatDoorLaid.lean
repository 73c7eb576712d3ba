/- The start that fits: Go's own three tables as their initialisers lay them. -/
import Derived.Test.YtfhiffnfngpkeaaGreatDoorOpen
import Derived.Test.YtfhiffnfngpkeaaGreatDoorCards
import Derived.Test.YtfhiffnfngpkeaaGreatDoorTie
import Derived.SevenTiedAt
set_option linter.unusedVariables false
namespace Go.Proofs.YtfhiffnfngpkeaaGreatDoor
open Go Go.SW Go.ChangeShapes Go.WideShapes Go.ChangeAt Go.RowKit

theorem own : ownKnob Tryz.prog.godebug = none := by kernel_rfl
theorem laidOut : laidOutB Tryz.prog = true := by kernel_rfl
def cellsD : DataW Unit → Array Value
  | .agg l => (l.map fun | .lit (.int k n) => Value.int k n | _ => Value.nilIface).toArray
  | _ => #[]
def putD (d : DataW Unit) : Obj → Obj
  | .cells _ t fr => .cells (cellsD d) t fr
  | o => o
noncomputable def laidWorld (os : Os) : World :=
  { World.holding Tryz.prog os ⟨#[], #[], []⟩ with heap := (((World.holding Tryz.prog os ⟨#[], #[], []⟩).heap.modify 2 (putD Rows.laid_math_bits_deBruijn32tab)).modify 3 (putD Rows.laid_math_bits_deBruijn64tab)).modify 0 (putD Rows.laid_internal_strconv_uint64pow10) }
def laid3 : List (String × DataW Unit) := [("math/bits.deBruijn32tab", Rows.laid_math_bits_deBruijn32tab), ("math/bits.deBruijn64tab", Rows.laid_math_bits_deBruijn64tab), ("internal/strconv.uint64pow10", Rows.laid_internal_strconv_uint64pow10)]
theorem laid_met (os : Os) (args : Array Value) : laidMet Tryz.prog laid3 ((laidWorld os).forCall (fun _ _ => 0) ⟨#[], args, []⟩).memory := laidMet_of_run' 70 (by kernel_rfl) (by kernel_rfl)
/-- behind a call that kept all: a bool, the arguments as they were -/
theorem u4w : Tryz.prog.underlying 4 = some .bool := u4
end Go.Proofs.YtfhiffnfngpkeaaGreatDoor
