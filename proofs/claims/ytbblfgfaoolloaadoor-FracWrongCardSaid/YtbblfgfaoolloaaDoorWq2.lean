/- Chapter 1: FracWrong: the walk, for thirty-two ways. -/
import Derived.Test.YtbblfgfaoolloaaDoorWr3
namespace Go.Proofs.YtbblfgfaoolloaaDoor
open Go Go.Ev Go.Ev.Bits

theorem t9_8 (a b n : Int) : (List.range 8).map (fun i => callsM CW noZ 60 9 [.int .i64 a, .int .i64 b, .int .i16 n, .int .u8 ((i + 64 : Nat) : Int)]) = (List.range 8).map (fun i => LW a b n (i + 64)) := by kernel_rfl
theorem t9_9 (a b n : Int) : (List.range 8).map (fun i => callsM CW noZ 60 9 [.int .i64 a, .int .i64 b, .int .i16 n, .int .u8 ((i + 72 : Nat) : Int)]) = (List.range 8).map (fun i => LW a b n (i + 72)) := by kernel_rfl
theorem t9_10 (a b n : Int) : (List.range 8).map (fun i => callsM CW noZ 60 9 [.int .i64 a, .int .i64 b, .int .i16 n, .int .u8 ((i + 80 : Nat) : Int)]) = (List.range 8).map (fun i => LW a b n (i + 80)) := by kernel_rfl
theorem t9_11 (a b n : Int) : (List.range 8).map (fun i => callsM CW noZ 60 9 [.int .i64 a, .int .i64 b, .int .i16 n, .int .u8 ((i + 88 : Nat) : Int)]) = (List.range 8).map (fun i => LW a b n (i + 88)) := by kernel_rfl
end Go.Proofs.YtbblfgfaoolloaaDoor
