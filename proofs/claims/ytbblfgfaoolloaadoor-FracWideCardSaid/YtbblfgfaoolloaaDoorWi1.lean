/- Chapter 1: FracWide: the pieces. -/
import Derived.Test.YtbblfgfaoolloaaDoorOrd
namespace Go.Proofs.YtbblfgfaoolloaaDoor
open Go Go.Ev Go.Ev.Bits

abbrev kp6 : List Tmp := [0, 1, 2, 3, 8, 9, 10, 11, 12, 13, 14, 15, 16, 17, 18, 19, 20, 22, 40, 43, 44, 45, 46, 58, 87, 94, 116]
abbrev ct6 : List Tmp := [22, 40, 46, 58, 87, 94, 116]
noncomputable def body6 : Code := Tryd.f6.body.getD .skip
noncomputable def fd6 : FD := { fn := Tryd.f6, keep := kp6, ct := ct6 }
theorem fdat6 : C4.code 6 = some fd6 := by kernel_rfl
theorem hb6 : fd6.fn.body = some body6 := by kernel_rfl
noncomputable def blk6_0 : Code := piece (isBlk 0) body6
theorem one6_0 : (pieceL (isBlk 0) body6).length = 1 := by kernel_rfl
theorem in6_0 : blk6_0 ∈ subs body6 := piece_in one6_0
noncomputable def bod6_0 : Code := unLoop (unBlk blk6_0)
theorem is6_0 : blk6_0 = .block 0 (.loop bod6_0) := by kernel_rfl
theorem bin6_0 : bod6_0 ∈ subs body6 := loop_in (block_in (id := 0) (is6_0 ▸ in6_0))
end Go.Proofs.YtbblfgfaoolloaaDoor
