/- Chapter 5: the examples of the chapter. -/
import Derived.Test.YtgellkpbcoeccaaDoorH1
namespace Go.Proofs.YtgellkpbcoeccaaDoor
open Go Go.Ev
theorem awakeT : callsM C0 noZ 200 14 [] = some (.bool true) := by kernel_rfl
end Go.Proofs.YtgellkpbcoeccaaDoor
