/- Chapter 1: FracWrong: the walk, for thirty-two ways. -/
import Derived.Test.YtbblfgfaoolloaaDoorWr3
namespace Go.Proofs.YtbblfgfaoolloaaDoor
open Go Go.Ev Go.Ev.Bits

theorem t9_4 (a b n : Int) : (List.range 8).map (fun i => callsM CW noZ 60 9 [.int .i64 a, .int .i64 b, .int .i16 n, .int .u8 ((i + 32 : Nat) : Int)]) = (List.range 8).map (fun i => LW a b n (i + 32)) := by kernel_rfl
theorem t9_5 (a b n : Int) : (List.range 8).map (fun i => callsM CW noZ 60 9 [.int .i64 a, .int .i64 b, .int .i16 n, .int .u8 ((i + 40 : Nat) : Int)]) = (List.range 8).map (fun i => LW a b n (i + 40)) := by kernel_rfl
theorem t9_6 (a b n : Int) : (List.range 8).map (fun i => callsM CW noZ 60 9 [.int .i64 a, .int .i64 b, .int .i16 n, .int .u8 ((i + 48 : Nat) : Int)]) = (List.range 8).map (fun i => LW a b n (i + 48)) := by kernel_rfl
theorem t9_7 (a b n : Int) : (List.range 8).map (fun i => callsM CW noZ 60 9 [.int .i64 a, .int .i64 b, .int .i16 n, .int .u8 ((i + 56 : Nat) : Int)]) = (List.range 8).map (fun i => LW a b n (i + 56)) := by kernel_rfl
end Go.Proofs.YtbblfgfaoolloaaDoor
