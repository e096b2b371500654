/- Chapter 17: the reference's points, not made, risk 2. -/
import Derived.Test.YtfkpbchdapccmaaDoorB1
namespace Go.Proofs.YtfkpbchdapccmaaDoor
open Go Go.Ev
theorem lost12 : Lost 1 2 := fun b d => by kernel_rfl
theorem lost22 : Lost 2 2 := fun b d => by kernel_rfl
theorem lost32 : Lost 3 2 := fun b d => by kernel_rfl
theorem lost42 : Lost 4 2 := fun b d => by kernel_rfl
theorem lost52 : Lost 5 2 := fun b d => by kernel_rfl
theorem lost62 : Lost 6 2 := fun b d => by kernel_rfl
theorem lost72 : Lost 7 2 := fun b d => by kernel_rfl
end Go.Proofs.YtfkpbchdapccmaaDoor
