/- Chapter 17: the law of the parts, level by level (1). -/
import Derived.Test.YtfkpbchdapccmaaDoorPd
namespace Go.Proofs.YtfkpbchdapccmaaDoor
open Go Go.Ev
theorem parts2t : Parts 2 true := fun n => by kernel_rfl
theorem parts2f : Parts 2 false := fun n => by kernel_rfl
theorem parts3t : Parts 3 true := fun n => by kernel_rfl
theorem parts3f : Parts 3 false := fun n => by kernel_rfl
theorem parts4t : Parts 4 true := fun n => by kernel_rfl
theorem parts4f : Parts 4 false := fun n => by kernel_rfl
end Go.Proofs.YtfkpbchdapccmaaDoor
