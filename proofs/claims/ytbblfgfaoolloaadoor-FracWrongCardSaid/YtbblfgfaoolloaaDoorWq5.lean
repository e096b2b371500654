/- Chapter 1: FracWrong: the walk, for thirty-two ways. -/
import Derived.Test.YtbblfgfaoolloaaDoorWr3
namespace Go.Proofs.YtbblfgfaoolloaaDoor
open Go Go.Ev Go.Ev.Bits

theorem t9_20 (a b n : Int) : (List.range 8).map (fun i => callsM CW noZ 60 9 [.int .i64 a, .int .i64 b, .int .i16 n, .int .u8 ((i + 160 : Nat) : Int)]) = (List.range 8).map (fun i => LW a b n (i + 160)) := by kernel_rfl
theorem t9_21 (a b n : Int) : (List.range 8).map (fun i => callsM CW noZ 60 9 [.int .i64 a, .int .i64 b, .int .i16 n, .int .u8 ((i + 168 : Nat) : Int)]) = (List.range 8).map (fun i => LW a b n (i + 168)) := by kernel_rfl
theorem t9_22 (a b n : Int) : (List.range 8).map (fun i => callsM CW noZ 60 9 [.int .i64 a, .int .i64 b, .int .i16 n, .int .u8 ((i + 176 : Nat) : Int)]) = (List.range 8).map (fun i => LW a b n (i + 176)) := by kernel_rfl
theorem t9_23 (a b n : Int) : (List.range 8).map (fun i => callsM CW noZ 60 9 [.int .i64 a, .int .i64 b, .int .i16 n, .int .u8 ((i + 184 : Nat) : Int)]) = (List.range 8).map (fun i => LW a b n (i + 184)) := by kernel_rfl
end Go.Proofs.YtbblfgfaoolloaaDoor
