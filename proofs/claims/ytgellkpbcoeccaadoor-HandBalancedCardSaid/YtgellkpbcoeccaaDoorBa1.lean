/- Chapter 5: HandBalanced: the pieces. -/
import Derived.Test.YtgellkpbcoeccaaDoorDe7
namespace Go.Proofs.YtgellkpbcoeccaaDoor
open Go Go.Ev Go.Ev.Bits

abbrev kp8 : List Tmp := [0, 1, 4, 5, 7, 8, 9, 10, 12, 33, 34, 35, 36, 40, 41, 42, 45, 72]
abbrev ct8 : List Tmp := [36, 42, 45, 72]
noncomputable def body8 : Code := Tryd.f8.body.getD .skip
noncomputable def fd8 : FD := { fn := Tryd.f8, keep := kp8, ct := ct8 }
theorem fdat8 : C8.code 8 = some fd8 := by kernel_rfl
theorem hb8 : fd8.fn.body = some body8 := by kernel_rfl
noncomputable def blk8_0 : Code := piece (isBlk 0) body8
theorem one8_0 : (pieceL (isBlk 0) body8).length = 1 := by kernel_rfl
theorem in8_0 : blk8_0 ∈ subs body8 := piece_in one8_0
noncomputable def bod8_0 : Code := unLoop (unBlk blk8_0)
theorem is8_0 : blk8_0 = .block 0 (.loop bod8_0) := by kernel_rfl
theorem bin8_0 : bod8_0 ∈ subs body8 := loop_in (block_in (id := 0) (is8_0 ▸ in8_0))
noncomputable def blk8_2 : Code := piece (isBlk 2) body8
theorem one8_2 : (pieceL (isBlk 2) body8).length = 1 := by kernel_rfl
theorem in8_2 : blk8_2 ∈ subs body8 := piece_in one8_2
noncomputable def bod8_2 : Code := unLoop (unBlk blk8_2)
theorem is8_2 : blk8_2 = .block 2 (.loop bod8_2) := by kernel_rfl
theorem bin8_2 : bod8_2 ∈ subs body8 := loop_in (block_in (id := 2) (is8_2 ▸ in8_2))
abbrev fr8 (x two : Int) (ok : Bool) (sum : Int) (ls : List AV) (i : Int) (l0 l1 l2 l3 k : Int) : List AV :=
  [.undef, .undef, .undef, .own 0 0, .int .u64 x, .int .i64 two, .bool ok, .int .i64 sum, .undef, .ro true 7 ls, .int .i64 7, .int .i64 i, .undef, .agg [.int .i64 l0, .int .i64 l1, .int .i64 l2, .int .i64 l3], .int .i64 k, .undef, .undef, .undef]
abbrev H8 (a b c d : Int) : Heap := [some ⟨37, [.int .u64 a, .int .u64 b, .int .u64 c, .int .u64 d]⟩]
abbrev m8 : List Bool := [false, false, false, true, true, true, true, true, false, true, true, true, false, true, true, false, false, false]
end Go.Proofs.YtgellkpbcoeccaaDoor
