/- Chapter 17: the points of a result. -/
import Derived.Test.YtfkpbchdapccmaaDoorM
namespace Go.Proofs.YtfkpbchdapccmaaDoor
open Go Go.Ev

theorem t36 (m d : Int) : domA.map (fun x => (calls C1 60 36 [con x.1 x.2.1 x.2.2.1 d, .int .i64 m, .bool x.2.2.2]).run) =
    domA.map fun x => some (.int .i64 (IntKind.i64.wrap (madeK x.1 x.2.1 x.2.2.1 x.2.2.2 + IntKind.i64.wrap (m * overK x.2.1 x.2.2.1 x.2.2.2)))) := by kernel_rfl
theorem t37 (m : Int) : [(0, false), (0, true), (1, false), (1, true), (2, false), (2, true)].map (fun x => (calls C1 60 37 [.int .u8 x.1, .int .i64 m, .bool x.2]).run) = [
    some (.int .i64 (IntKind.i64.wrap (50 * m))), some (.int .i64 (IntKind.i64.wrap (100 * m))),
    some (.int .i64 (IntKind.i64.wrap (IntKind.i64.wrap (IntKind.i64.wrap (200 * m) - 100) + IntKind.i64.wrap (100 * bif decide (0 > IntKind.i64.wrap (m - 3)) then 0 else IntKind.i64.wrap (m - 3))))),
    some (.int .i64 (IntKind.i64.wrap (IntKind.i64.wrap (300 * m) - 100))),
    some (.int .i64 (IntKind.i64.wrap (2 * IntKind.i64.wrap (IntKind.i64.wrap (IntKind.i64.wrap (200 * m) - 100) + IntKind.i64.wrap (100 * bif decide (0 > IntKind.i64.wrap (m - 3)) then 0 else IntKind.i64.wrap (m - 3)))))),
    some (.int .i64 (IntKind.i64.wrap (2 * IntKind.i64.wrap (IntKind.i64.wrap (300 * m) - 100))))] := by kernel_rfl
end Go.Proofs.YtfkpbchdapccmaaDoor
