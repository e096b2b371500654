/- Chapter 5: the reference: the pieces of Pattern and Suits (digits, f51, is a summary since C1). -/
import Derived.Test.YtgellkpbcoeccaaDoorSm8
namespace Go.Proofs.YtgellkpbcoeccaaDoor
open Go Go.Ev Go.Ev.Bits

abbrev kp34 : List Tmp := [0, 2, 3, 4, 5, 7, 11, 18, 20]
abbrev ct34 : List Tmp := [7, 11, 18, 20]
noncomputable def body34 : Code := Tryd.f34.body.getD .skip
noncomputable def fd34 : FD := { fn := Tryd.f34, keep := kp34, ct := ct34 }
theorem fdat34 : C11.code 34 = some fd34 := by kernel_rfl
theorem hb34 : fd34.fn.body = some body34 := by kernel_rfl
noncomputable def blk34_0 : Code := piece (isBlk 0) body34
theorem one34_0 : (pieceL (isBlk 0) body34).length = 1 := by kernel_rfl
theorem in34_0 : blk34_0 ∈ subs body34 := piece_in one34_0
noncomputable def bod34_0 : Code := unLoop (unBlk blk34_0)
theorem is34_0 : blk34_0 = .block 0 (.loop bod34_0) := by kernel_rfl
theorem bin34_0 : bod34_0 ∈ subs body34 := loop_in (block_in (id := 0) (is34_0 ▸ in34_0))
noncomputable def blk34_2 : Code := piece (isBlk 2) body34
theorem one34_2 : (pieceL (isBlk 2) body34).length = 1 := by kernel_rfl
theorem in34_2 : blk34_2 ∈ subs body34 := piece_in one34_2
noncomputable def bod34_2 : Code := unLoop (unBlk blk34_2)
theorem is34_2 : blk34_2 = .block 2 (.loop bod34_2) := by kernel_rfl
theorem bin34_2 : bod34_2 ∈ subs body34 := loop_in (block_in (id := 2) (is34_2 ▸ in34_2))
abbrev kp36 : List Tmp := [0, 2, 3, 4, 5, 6, 8, 12, 19]
abbrev ct36 : List Tmp := [8, 12, 19]
noncomputable def body36 : Code := Tryd.f36.body.getD .skip
noncomputable def fd36 : FD := { fn := Tryd.f36, keep := kp36, ct := ct36 }
theorem fdat36 : C11.code 36 = some fd36 := by kernel_rfl
theorem hb36 : fd36.fn.body = some body36 := by kernel_rfl
noncomputable def blk36_0 : Code := piece (isBlk 0) body36
theorem one36_0 : (pieceL (isBlk 0) body36).length = 1 := by kernel_rfl
theorem in36_0 : blk36_0 ∈ subs body36 := piece_in one36_0
noncomputable def bod36_0 : Code := unLoop (unBlk blk36_0)
theorem is36_0 : blk36_0 = .block 0 (.loop bod36_0) := by kernel_rfl
theorem bin36_0 : bod36_0 ∈ subs body36 := loop_in (block_in (id := 0) (is36_0 ▸ in36_0))
noncomputable def blk36_2 : Code := piece (isBlk 2) body36
theorem one36_2 : (pieceL (isBlk 2) body36).length = 1 := by kernel_rfl
theorem in36_2 : blk36_2 ∈ subs body36 := piece_in one36_2
noncomputable def bod36_2 : Code := unLoop (unBlk blk36_2)
theorem is36_2 : blk36_2 = .block 2 (.loop bod36_2) := by kernel_rfl
theorem bin36_2 : bod36_2 ∈ subs body36 := loop_in (block_in (id := 2) (is36_2 ▸ in36_2))
abbrev fr34 (m : Int) (t : List UInt8) (n s : Int) : List AV := [.int .u64 m, .undef, .str t, .int .i64 n, .int .i64 s, .undef, .undef, .undef, .undef]
abbrev m34 : List Bool := [true, false, true, true, true, false, false, false, false]
end Go.Proofs.YtgellkpbcoeccaaDoor
