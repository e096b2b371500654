/- Chapter 5: Dealt: its pieces. -/
import Derived.Test.YtgellkpbcoeccaaDoorTu2
namespace Go.Proofs.YtgellkpbcoeccaaDoor
open Go Go.Ev Go.Ev.Bits

abbrev kp25 : List Tmp := [0, 2, 3, 4, 5, 6, 7, 8, 9, 10, 11, 12, 22, 23, 24, 25, 47, 48, 49]
abbrev ct25 : List Tmp := [12, 25, 49]
noncomputable def body25 : Code := Tryd.f25.body.getD .skip
noncomputable def fd25 : FD := { fn := Tryd.f25, keep := kp25, ct := ct25 }
theorem fdat25 : C6.code 25 = some fd25 := by kernel_rfl
theorem hb25 : fd25.fn.body = some body25 := by kernel_rfl
noncomputable def blk25_2 : Code := piece (isBlk 2) body25
theorem one25_2 : (pieceL (isBlk 2) body25).length = 1 := by kernel_rfl
theorem in25_2 : blk25_2 ∈ subs body25 := piece_in one25_2
noncomputable def bod25_2 : Code := unLoop (unBlk blk25_2)
theorem is25_2 : blk25_2 = .block 2 (.loop bod25_2) := by kernel_rfl
theorem bin25_2 : bod25_2 ∈ subs body25 := loop_in (block_in (id := 2) (is25_2 ▸ in25_2))
theorem one25_4 : (pieceL (isBlk 4) body25).length = 1 := by kernel_rfl
abbrev fr25 (b : Bool) (len : Nat) (ls : List AV) (i : Int) : List AV := [.undef, .own 0 0, .own 1 0, .undef, .undef, .undef, .undef, .undef, .undef, .undef, .undef, .undef, .ro b len ls, .int .i64 len, .int .i64 i, .undef, .undef, .undef, .undef]
abbrev m25 : List Bool := [false, true, true, false, false, false, false, false, false, false, false, false, true, true, true, false, false, false, false]
end Go.Proofs.YtgellkpbcoeccaaDoor
