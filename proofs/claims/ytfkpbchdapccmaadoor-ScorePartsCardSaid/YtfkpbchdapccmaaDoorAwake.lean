/- Chapter 17: the examples. -/
import Derived.Test.YtfkpbchdapccmaaDoorLib
import Derived.KernelRfl
namespace Go.Proofs.YtfkpbchdapccmaaDoor
open Go Go.Ev
theorem awake_run : (calls C 80 12 []).run = some (.bool true) := by kernel_rfl
def sAwake : List AV → T AV
  | [] => .leaf (.bool true)
  | _ => .fail
theorem sumAwake : SumAt C (12, sAwake) := sum_of_run ok (n := 80) (calls_fn ok awake_run) fun args v hr => by
  unfold sAwake at hr
  split at hr
  · cases Option.some.inj hr; exact awake_run
  · simp [T.run] at hr
end Go.Proofs.YtfkpbchdapccmaaDoor
