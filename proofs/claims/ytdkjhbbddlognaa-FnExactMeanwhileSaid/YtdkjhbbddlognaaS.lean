/-
  Three facts of the program's head, which every row of the seat asks for; no statement of the seat by itself; no conditions.
-/
import Derived.Test.YtdkjhbbddlognaaRows
import Derived.KernelRfl
import Derived.JoinedOf
namespace Go.Mv
open Go.Proofs
theorem seatMay : Try.prog.mayEnter = true := by kernel_rfl
theorem seatLifts : Try.prog.liftsFinal = false := by kernel_rfl
theorem seatMake : Try.prog.make = some .cut := by kernel_rfl
end Go.Mv
