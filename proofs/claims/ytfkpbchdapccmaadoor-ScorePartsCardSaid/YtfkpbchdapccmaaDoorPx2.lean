/- Chapter 17: the law of the parts, level by level (2). -/
import Derived.Test.YtfkpbchdapccmaaDoorPd
namespace Go.Proofs.YtfkpbchdapccmaaDoor
open Go Go.Ev
theorem parts5t : Parts 5 true := fun n => by kernel_rfl
theorem parts5f : Parts 5 false := fun n => by kernel_rfl
theorem parts6t : Parts 6 true := fun n => by kernel_rfl
theorem parts6f : Parts 6 false := fun n => by kernel_rfl
theorem parts7t : Parts 7 true := fun n => by kernel_rfl
theorem parts7f : Parts 7 false := fun n => by kernel_rfl
end Go.Proofs.YtfkpbchdapccmaaDoor
