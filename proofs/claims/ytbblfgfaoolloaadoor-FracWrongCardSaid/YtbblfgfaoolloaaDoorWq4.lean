/- Chapter 1: FracWrong: the walk, for thirty-two ways. -/
import Derived.Test.YtbblfgfaoolloaaDoorWr3
namespace Go.Proofs.YtbblfgfaoolloaaDoor
open Go Go.Ev Go.Ev.Bits

theorem t9_16 (a b n : Int) : (List.range 8).map (fun i => callsM CW noZ 60 9 [.int .i64 a, .int .i64 b, .int .i16 n, .int .u8 ((i + 128 : Nat) : Int)]) = (List.range 8).map (fun i => LW a b n (i + 128)) := by kernel_rfl
theorem t9_17 (a b n : Int) : (List.range 8).map (fun i => callsM CW noZ 60 9 [.int .i64 a, .int .i64 b, .int .i16 n, .int .u8 ((i + 136 : Nat) : Int)]) = (List.range 8).map (fun i => LW a b n (i + 136)) := by kernel_rfl
theorem t9_18 (a b n : Int) : (List.range 8).map (fun i => callsM CW noZ 60 9 [.int .i64 a, .int .i64 b, .int .i16 n, .int .u8 ((i + 144 : Nat) : Int)]) = (List.range 8).map (fun i => LW a b n (i + 144)) := by kernel_rfl
theorem t9_19 (a b n : Int) : (List.range 8).map (fun i => callsM CW noZ 60 9 [.int .i64 a, .int .i64 b, .int .i16 n, .int .u8 ((i + 152 : Nat) : Int)]) = (List.range 8).map (fun i => LW a b n (i + 152)) := by kernel_rfl
end Go.Proofs.YtbblfgfaoolloaaDoor
