/- Chapter 5: the reference: pieces of Points, Controls, Losers, Quick. -/
import Derived.Test.YtgellkpbcoeccaaDoorSm3
namespace Go.Proofs.YtgellkpbcoeccaaDoor
open Go Go.Ev Go.Ev.Bits

abbrev kp28 : List Tmp := [0, 2, 3, 4, 5, 7, 11, 17]
abbrev ct28 : List Tmp := [7, 11, 17]
noncomputable def body28 : Code := Tryd.f28.body.getD .skip
noncomputable def fd28 : FD := { fn := Tryd.f28, keep := kp28, ct := ct28 }
theorem fdat28 : C10.code 28 = some fd28 := by kernel_rfl
theorem hb28 : fd28.fn.body = some body28 := by kernel_rfl
noncomputable def blk28_0 : Code := piece (isBlk 0) body28
theorem one28_0 : (pieceL (isBlk 0) body28).length = 1 := by kernel_rfl
theorem in28_0 : blk28_0 ∈ subs body28 := piece_in one28_0
noncomputable def bod28_0 : Code := unLoop (unBlk blk28_0)
theorem is28_0 : blk28_0 = .block 0 (.loop bod28_0) := by kernel_rfl
theorem bin28_0 : bod28_0 ∈ subs body28 := loop_in (block_in (id := 0) (is28_0 ▸ in28_0))
noncomputable def blk28_2 : Code := piece (isBlk 2) body28
theorem one28_2 : (pieceL (isBlk 2) body28).length = 1 := by kernel_rfl
theorem in28_2 : blk28_2 ∈ subs body28 := piece_in one28_2
noncomputable def bod28_2 : Code := unLoop (unBlk blk28_2)
theorem is28_2 : blk28_2 = .block 2 (.loop bod28_2) := by kernel_rfl
theorem bin28_2 : bod28_2 ∈ subs body28 := loop_in (block_in (id := 2) (is28_2 ▸ in28_2))
abbrev kp29 : List Tmp := [0, 2, 3, 4, 6, 11, 16]
abbrev ct29 : List Tmp := [6, 11, 16]
noncomputable def body29 : Code := Tryd.f29.body.getD .skip
noncomputable def fd29 : FD := { fn := Tryd.f29, keep := kp29, ct := ct29 }
theorem fdat29 : C10.code 29 = some fd29 := by kernel_rfl
theorem hb29 : fd29.fn.body = some body29 := by kernel_rfl
noncomputable def blk29_0 : Code := piece (isBlk 0) body29
theorem one29_0 : (pieceL (isBlk 0) body29).length = 1 := by kernel_rfl
theorem in29_0 : blk29_0 ∈ subs body29 := piece_in one29_0
noncomputable def bod29_0 : Code := unLoop (unBlk blk29_0)
theorem is29_0 : blk29_0 = .block 0 (.loop bod29_0) := by kernel_rfl
theorem bin29_0 : bod29_0 ∈ subs body29 := loop_in (block_in (id := 0) (is29_0 ▸ in29_0))
abbrev kp30 : List Tmp := [0, 2, 3, 4, 5, 7, 20, 30, 40]
abbrev ct30 : List Tmp := [7, 20, 30, 40]
noncomputable def body30 : Code := Tryd.f30.body.getD .skip
noncomputable def fd30 : FD := { fn := Tryd.f30, keep := kp30, ct := ct30 }
theorem fdat30 : C10.code 30 = some fd30 := by kernel_rfl
theorem hb30 : fd30.fn.body = some body30 := by kernel_rfl
noncomputable def blk30_0 : Code := piece (isBlk 0) body30
theorem one30_0 : (pieceL (isBlk 0) body30).length = 1 := by kernel_rfl
theorem in30_0 : blk30_0 ∈ subs body30 := piece_in one30_0
noncomputable def bod30_0 : Code := unLoop (unBlk blk30_0)
theorem is30_0 : blk30_0 = .block 0 (.loop bod30_0) := by kernel_rfl
theorem bin30_0 : bod30_0 ∈ subs body30 := loop_in (block_in (id := 0) (is30_0 ▸ in30_0))
abbrev kp31 : List Tmp := [0, 2, 3, 4, 5, 6, 7, 9, 24, 30, 39, 48]
abbrev ct31 : List Tmp := [9, 24, 30, 39, 48]
noncomputable def body31 : Code := Tryd.f31.body.getD .skip
noncomputable def fd31 : FD := { fn := Tryd.f31, keep := kp31, ct := ct31 }
theorem fdat31 : C10.code 31 = some fd31 := by kernel_rfl
theorem hb31 : fd31.fn.body = some body31 := by kernel_rfl
noncomputable def blk31_0 : Code := piece (isBlk 0) body31
theorem one31_0 : (pieceL (isBlk 0) body31).length = 1 := by kernel_rfl
theorem in31_0 : blk31_0 ∈ subs body31 := piece_in one31_0
noncomputable def bod31_0 : Code := unLoop (unBlk blk31_0)
theorem is31_0 : blk31_0 = .block 0 (.loop bod31_0) := by kernel_rfl
theorem bin31_0 : bod31_0 ∈ subs body31 := loop_in (block_in (id := 0) (is31_0 ▸ in31_0))
abbrev fr28 (m n s r : Int) : List AV := [.int .u64 m, .undef, .int .i64 n, .int .i64 s, .int .i64 r, .undef, .undef, .undef]
abbrev m28 : List Bool := [true, false, true, true, true, false, false, false]
abbrev fr29 (m n s : Int) : List AV := [.int .u64 m, .undef, .int .i64 n, .int .i64 s, .undef, .undef, .undef]
abbrev m29 : List Bool := [true, false, true, true, false, false, false]
abbrev fr30 (m n s : Int) : List AV := [.int .u64 m, .undef, .int .i64 n, .int .i64 s, .undef, .undef, .undef, .undef, .undef]
abbrev m30 : List Bool := [true, false, true, true, false, false, false, false, false]
abbrev fr31 (m n s : Int) : List AV := [.int .u64 m, .undef, .int .i64 n, .int .i64 s, .undef, .undef, .undef, .undef, .undef, .undef, .undef, .undef]
abbrev m31 : List Bool := [true, false, true, true, false, false, false, false, false, false, false, false]
end Go.Proofs.YtgellkpbcoeccaaDoor
