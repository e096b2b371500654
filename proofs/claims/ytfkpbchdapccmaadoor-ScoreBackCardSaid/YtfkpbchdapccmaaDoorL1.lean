/- Chapter 17: the reference's points, not made, risk 1. -/
import Derived.Test.YtfkpbchdapccmaaDoorB1
namespace Go.Proofs.YtfkpbchdapccmaaDoor
open Go Go.Ev
theorem lost11 : Lost 1 1 := fun b d => by kernel_rfl
theorem lost21 : Lost 2 1 := fun b d => by kernel_rfl
theorem lost31 : Lost 3 1 := fun b d => by kernel_rfl
theorem lost41 : Lost 4 1 := fun b d => by kernel_rfl
theorem lost51 : Lost 5 1 := fun b d => by kernel_rfl
theorem lost61 : Lost 6 1 := fun b d => by kernel_rfl
theorem lost71 : Lost 7 1 := fun b d => by kernel_rfl
end Go.Proofs.YtfkpbchdapccmaaDoor
