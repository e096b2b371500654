/- Chapter 1: FracWrong: the walk, for thirty-two ways. -/
import Derived.Test.YtbblfgfaoolloaaDoorWr3
namespace Go.Proofs.YtbblfgfaoolloaaDoor
open Go Go.Ev Go.Ev.Bits

theorem t9_24 (a b n : Int) : (List.range 8).map (fun i => callsM CW noZ 60 9 [.int .i64 a, .int .i64 b, .int .i16 n, .int .u8 ((i + 192 : Nat) : Int)]) = (List.range 8).map (fun i => LW a b n (i + 192)) := by kernel_rfl
theorem t9_25 (a b n : Int) : (List.range 8).map (fun i => callsM CW noZ 60 9 [.int .i64 a, .int .i64 b, .int .i16 n, .int .u8 ((i + 200 : Nat) : Int)]) = (List.range 8).map (fun i => LW a b n (i + 200)) := by kernel_rfl
theorem t9_26 (a b n : Int) : (List.range 8).map (fun i => callsM CW noZ 60 9 [.int .i64 a, .int .i64 b, .int .i16 n, .int .u8 ((i + 208 : Nat) : Int)]) = (List.range 8).map (fun i => LW a b n (i + 208)) := by kernel_rfl
theorem t9_27 (a b n : Int) : (List.range 8).map (fun i => callsM CW noZ 60 9 [.int .i64 a, .int .i64 b, .int .i16 n, .int .u8 ((i + 216 : Nat) : Int)]) = (List.range 8).map (fun i => LW a b n (i + 216)) := by kernel_rfl
end Go.Proofs.YtbblfgfaoolloaaDoor
