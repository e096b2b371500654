/- Chapter 1: FracWrong: the walk, for thirty-two ways. -/
import Derived.Test.YtbblfgfaoolloaaDoorWr3
namespace Go.Proofs.YtbblfgfaoolloaaDoor
open Go Go.Ev Go.Ev.Bits

theorem t9_0 (a b n : Int) : (List.range 8).map (fun i => callsM CW noZ 60 9 [.int .i64 a, .int .i64 b, .int .i16 n, .int .u8 ((i + 0 : Nat) : Int)]) = (List.range 8).map (fun i => LW a b n (i + 0)) := by kernel_rfl
theorem t9_1 (a b n : Int) : (List.range 8).map (fun i => callsM CW noZ 60 9 [.int .i64 a, .int .i64 b, .int .i16 n, .int .u8 ((i + 8 : Nat) : Int)]) = (List.range 8).map (fun i => LW a b n (i + 8)) := by kernel_rfl
theorem t9_2 (a b n : Int) : (List.range 8).map (fun i => callsM CW noZ 60 9 [.int .i64 a, .int .i64 b, .int .i16 n, .int .u8 ((i + 16 : Nat) : Int)]) = (List.range 8).map (fun i => LW a b n (i + 16)) := by kernel_rfl
theorem t9_3 (a b n : Int) : (List.range 8).map (fun i => callsM CW noZ 60 9 [.int .i64 a, .int .i64 b, .int .i16 n, .int .u8 ((i + 24 : Nat) : Int)]) = (List.range 8).map (fun i => LW a b n (i + 24)) := by kernel_rfl
end Go.Proofs.YtbblfgfaoolloaaDoor
