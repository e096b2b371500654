/- Chapter 1: the greatest common divisor; long division. -/
import Derived.Test.YtbblfgfaoolloaaDoorF0
namespace Go.Proofs.YtbblfgfaoolloaaDoor
open Go Go.Ev Go.Ev.Bits

abbrev kp39 : List Tmp := [0, 1, 4, 6]
abbrev ct39 : List Tmp := [6]
noncomputable def body39 : Code := Tryd.f39.body.getD .skip
noncomputable def fd39 : FD := { fn := Tryd.f39, keep := kp39, ct := ct39 }
theorem fdat39 : C0.code 39 = some fd39 := by kernel_rfl
theorem hb39 : fd39.fn.body = some body39 := by kernel_rfl
noncomputable def blk39_0 : Code := piece (isBlk 0) body39
theorem one39_0 : (pieceL (isBlk 0) body39).length = 1 := by kernel_rfl
theorem in39_0 : blk39_0 ∈ subs body39 := piece_in one39_0
noncomputable def bod39_0 : Code := unLoop (unBlk blk39_0)
theorem is39_0 : blk39_0 = .block 0 (.loop bod39_0) := by kernel_rfl
theorem bin39_0 : bod39_0 ∈ subs body39 := loop_in (block_in (id := 0) (is39_0 ▸ in39_0))
abbrev kp42 : List Tmp := [0, 1, 2, 4, 5, 6, 7, 8, 10, 26]
abbrev ct42 : List Tmp := [10, 26]
noncomputable def body42 : Code := Tryd.f42.body.getD .skip
noncomputable def fd42 : FD := { fn := Tryd.f42, keep := kp42, ct := ct42 }
theorem fdat42 : C0.code 42 = some fd42 := by kernel_rfl
theorem hb42 : fd42.fn.body = some body42 := by kernel_rfl
noncomputable def blk42_0 : Code := piece (isBlk 0) body42
theorem one42_0 : (pieceL (isBlk 0) body42).length = 1 := by kernel_rfl
theorem in42_0 : blk42_0 ∈ subs body42 := piece_in one42_0
noncomputable def bod42_0 : Code := unLoop (unBlk blk42_0)
theorem is42_0 : blk42_0 = .block 0 (.loop bod42_0) := by kernel_rfl
theorem bin42_0 : bod42_0 ∈ subs body42 := loop_in (block_in (id := 0) (is42_0 ▸ in42_0))
end Go.Proofs.YtbblfgfaoolloaaDoor
