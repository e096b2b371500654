/- Chapter 17: the reference's points, not made, risk 0. -/
import Derived.Test.YtfkpbchdapccmaaDoorB1
namespace Go.Proofs.YtfkpbchdapccmaaDoor
open Go Go.Ev
theorem lost10 : Lost 1 0 := fun b d => by kernel_rfl
theorem lost20 : Lost 2 0 := fun b d => by kernel_rfl
theorem lost30 : Lost 3 0 := fun b d => by kernel_rfl
theorem lost40 : Lost 4 0 := fun b d => by kernel_rfl
theorem lost50 : Lost 5 0 := fun b d => by kernel_rfl
theorem lost60 : Lost 6 0 := fun b d => by kernel_rfl
theorem lost70 : Lost 7 0 := fun b d => by kernel_rfl
end Go.Proofs.YtfkpbchdapccmaaDoor
