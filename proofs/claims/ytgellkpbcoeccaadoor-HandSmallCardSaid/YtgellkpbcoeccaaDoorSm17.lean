/- Chapter 5: HandSmall: the pieces. -/
import Derived.Test.YtgellkpbcoeccaaDoorSm16
namespace Go.Proofs.YtgellkpbcoeccaaDoor
open Go Go.Ev Go.Ev.Bits

abbrev kp3 : List Tmp := [0, 1, 2, 3, 4, 5, 6, 7, 8, 9, 10, 11, 12, 22, 23, 30, 33, 34, 37, 38, 39, 44, 45, 46, 103, 108, 135]
abbrev ct3 : List Tmp := [12, 23, 30, 34, 39, 46, 103, 108, 135]
noncomputable def body3 : Code := Tryd.f3.body.getD .skip
noncomputable def fd3 : FD := { fn := Tryd.f3, keep := kp3, ct := ct3 }
theorem fdat3 : C14.code 3 = some fd3 := by kernel_rfl
theorem hb3 : fd3.fn.body = some body3 := by kernel_rfl
noncomputable def blk3_0 : Code := piece (isBlk 0) body3
theorem one3_0 : (pieceL (isBlk 0) body3).length = 1 := by kernel_rfl
theorem in3_0 : blk3_0 ∈ subs body3 := piece_in one3_0
noncomputable def bod3_0 : Code := unLoop (unBlk blk3_0)
theorem is3_0 : blk3_0 = .block 0 (.loop bod3_0) := by kernel_rfl
theorem bin3_0 : bod3_0 ∈ subs body3 := loop_in (block_in (id := 0) (is3_0 ▸ in3_0))
noncomputable def blk3_2 : Code := piece (isBlk 2) body3
theorem one3_2 : (pieceL (isBlk 2) body3).length = 1 := by kernel_rfl
theorem in3_2 : blk3_2 ∈ subs body3 := piece_in one3_2
noncomputable def bod3_2 : Code := unLoop (unBlk blk3_2)
theorem is3_2 : blk3_2 = .block 2 (.loop bod3_2) := by kernel_rfl
theorem bin3_2 : bod3_2 ∈ subs body3 := loop_in (block_in (id := 2) (is3_2 ▸ in3_2))
noncomputable def blk3_4 : Code := piece (isBlk 4) body3
theorem one3_4 : (pieceL (isBlk 4) body3).length = 1 := by kernel_rfl
theorem in3_4 : blk3_4 ∈ subs body3 := piece_in one3_4
noncomputable def bod3_4 : Code := unLoop (unBlk blk3_4)
theorem is3_4 : blk3_4 = .block 4 (.loop bod3_4) := by kernel_rfl
theorem bin3_4 : bod3_4 ∈ subs body3 := loop_in (block_in (id := 4) (is3_4 ▸ in3_4))
noncomputable def blk3_6 : Code := piece (isBlk 6) body3
theorem one3_6 : (pieceL (isBlk 6) body3).length = 1 := by kernel_rfl
theorem in3_6 : blk3_6 ∈ subs body3 := piece_in one3_6
noncomputable def bod3_6 : Code := unLoop (unBlk blk3_6)
theorem is3_6 : blk3_6 = .block 6 (.loop bod3_6) := by kernel_rfl
theorem bin3_6 : bod3_6 ∈ subs body3 := loop_in (block_in (id := 6) (is3_6 ▸ in3_6))
noncomputable def blk3_8 : Code := piece (isBlk 8) body3
theorem one3_8 : (pieceL (isBlk 8) body3).length = 1 := by kernel_rfl
theorem in3_8 : blk3_8 ∈ subs body3 := piece_in one3_8
noncomputable def bod3_8 : Code := unLoop (unBlk blk3_8)
theorem is3_8 : blk3_8 = .block 8 (.loop bod3_8) := by kernel_rfl
theorem bin3_8 : bod3_8 ∈ subs body3 := loop_in (block_in (id := 8) (is3_8 ▸ in3_8))
noncomputable def blk3_10 : Code := piece (isBlk 10) body3
theorem one3_10 : (pieceL (isBlk 10) body3).length = 1 := by kernel_rfl
theorem in3_10 : blk3_10 ∈ subs body3 := piece_in one3_10
noncomputable def bod3_10 : Code := unLoop (unBlk blk3_10)
theorem is3_10 : blk3_10 = .block 10 (.loop bod3_10) := by kernel_rfl
theorem bin3_10 : bod3_10 ∈ subs body3 := loop_in (block_in (id := 10) (is3_10 ▸ in3_10))
end Go.Proofs.YtgellkpbcoeccaaDoor
