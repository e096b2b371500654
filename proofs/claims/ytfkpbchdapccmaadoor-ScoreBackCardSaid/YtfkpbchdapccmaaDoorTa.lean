/- Chapter 17: the reference's texts. -/
import Derived.Test.YtfkpbchdapccmaaDoorB1
namespace Go.Proofs.YtfkpbchdapccmaaDoor
open Go Go.Ev
theorem text30_1 : Text30 1 := by unfold Text30; kernel_rfl
theorem text30_2 : Text30 2 := by unfold Text30; kernel_rfl
theorem text30_3 : Text30 3 := by unfold Text30; kernel_rfl
theorem text30_4 : Text30 4 := by unfold Text30; kernel_rfl
theorem text30_5 : Text30 5 := by unfold Text30; kernel_rfl
theorem text30_6 : Text30 6 := by unfold Text30; kernel_rfl
theorem text30_7 : Text30 7 := by unfold Text30; kernel_rfl
end Go.Proofs.YtfkpbchdapccmaaDoor
