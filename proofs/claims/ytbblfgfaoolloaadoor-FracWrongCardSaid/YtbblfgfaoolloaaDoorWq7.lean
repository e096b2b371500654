/- Chapter 1: FracWrong: the walk, for thirty-two ways. -/
import Derived.Test.YtbblfgfaoolloaaDoorWr3
namespace Go.Proofs.YtbblfgfaoolloaaDoor
open Go Go.Ev Go.Ev.Bits

theorem t9_28 (a b n : Int) : (List.range 8).map (fun i => callsM CW noZ 60 9 [.int .i64 a, .int .i64 b, .int .i16 n, .int .u8 ((i + 224 : Nat) : Int)]) = (List.range 8).map (fun i => LW a b n (i + 224)) := by kernel_rfl
theorem t9_29 (a b n : Int) : (List.range 8).map (fun i => callsM CW noZ 60 9 [.int .i64 a, .int .i64 b, .int .i16 n, .int .u8 ((i + 232 : Nat) : Int)]) = (List.range 8).map (fun i => LW a b n (i + 232)) := by kernel_rfl
theorem t9_30 (a b n : Int) : (List.range 8).map (fun i => callsM CW noZ 60 9 [.int .i64 a, .int .i64 b, .int .i16 n, .int .u8 ((i + 240 : Nat) : Int)]) = (List.range 8).map (fun i => LW a b n (i + 240)) := by kernel_rfl
theorem t9_31 (a b n : Int) : (List.range 8).map (fun i => callsM CW noZ 60 9 [.int .i64 a, .int .i64 b, .int .i16 n, .int .u8 ((i + 248 : Nat) : Int)]) = (List.range 8).map (fun i => LW a b n (i + 248)) := by kernel_rfl
end Go.Proofs.YtbblfgfaoolloaaDoor
