/- Chapter 1: the examples of the chapter. -/
import Derived.Test.YtbblfgfaoolloaaDoorLib
namespace Go.Proofs.YtbblfgfaoolloaaDoor
open Go Go.Ev
theorem awakeT : callsM CL noZ 400 11 [] = some (.bool true) := by kernel_rfl
end Go.Proofs.YtbblfgfaoolloaaDoor
