/- Chapter 1: FracWrong: the walk, for thirty-two ways. -/
import Derived.Test.YtbblfgfaoolloaaDoorWr3
namespace Go.Proofs.YtbblfgfaoolloaaDoor
open Go Go.Ev Go.Ev.Bits

theorem t9_12 (a b n : Int) : (List.range 8).map (fun i => callsM CW noZ 60 9 [.int .i64 a, .int .i64 b, .int .i16 n, .int .u8 ((i + 96 : Nat) : Int)]) = (List.range 8).map (fun i => LW a b n (i + 96)) := by kernel_rfl
theorem t9_13 (a b n : Int) : (List.range 8).map (fun i => callsM CW noZ 60 9 [.int .i64 a, .int .i64 b, .int .i16 n, .int .u8 ((i + 104 : Nat) : Int)]) = (List.range 8).map (fun i => LW a b n (i + 104)) := by kernel_rfl
theorem t9_14 (a b n : Int) : (List.range 8).map (fun i => callsM CW noZ 60 9 [.int .i64 a, .int .i64 b, .int .i16 n, .int .u8 ((i + 112 : Nat) : Int)]) = (List.range 8).map (fun i => LW a b n (i + 112)) := by kernel_rfl
theorem t9_15 (a b n : Int) : (List.range 8).map (fun i => callsM CW noZ 60 9 [.int .i64 a, .int .i64 b, .int .i16 n, .int .u8 ((i + 120 : Nat) : Int)]) = (List.range 8).map (fun i => LW a b n (i + 120)) := by kernel_rfl
end Go.Proofs.YtbblfgfaoolloaaDoor
