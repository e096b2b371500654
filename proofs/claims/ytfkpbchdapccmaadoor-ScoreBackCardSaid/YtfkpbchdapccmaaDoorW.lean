/- Chapter 17: the reference's points, made. -/
import Derived.Test.YtfkpbchdapccmaaDoorB1
namespace Go.Proofs.YtfkpbchdapccmaaDoor
open Go Go.Ev
theorem won10 : Won 1 0 := fun b d => by kernel_rfl
theorem won20 : Won 2 0 := fun b d => by kernel_rfl
theorem won30 : Won 3 0 := fun b d => by kernel_rfl
theorem won40 : Won 4 0 := fun b d => by kernel_rfl
theorem won50 : Won 5 0 := fun b d => by kernel_rfl
theorem won60 : Won 6 0 := fun b d => by kernel_rfl
theorem won70 : Won 7 0 := fun b d => by kernel_rfl
theorem won11 : Won 1 1 := fun b d => by kernel_rfl
theorem won21 : Won 2 1 := fun b d => by kernel_rfl
theorem won31 : Won 3 1 := fun b d => by kernel_rfl
theorem won41 : Won 4 1 := fun b d => by kernel_rfl
theorem won51 : Won 5 1 := fun b d => by kernel_rfl
theorem won61 : Won 6 1 := fun b d => by kernel_rfl
theorem won71 : Won 7 1 := fun b d => by kernel_rfl
theorem won12 : Won 1 2 := fun b d => by kernel_rfl
theorem won22 : Won 2 2 := fun b d => by kernel_rfl
theorem won32 : Won 3 2 := fun b d => by kernel_rfl
theorem won42 : Won 4 2 := fun b d => by kernel_rfl
theorem won52 : Won 5 2 := fun b d => by kernel_rfl
theorem won62 : Won 6 2 := fun b d => by kernel_rfl
theorem won72 : Won 7 2 := fun b d => by kernel_rfl
end Go.Proofs.YtfkpbchdapccmaaDoor
