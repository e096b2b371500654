/- Chapter 1: the context of the laws. -/
import Derived.Test.YtbblfgfaoolloaaDoorF9
import Derived.Test.YtbblfgfaoolloaaDoorAw
namespace Go.Proofs.YtbblfgfaoolloaaDoor
open Go Go.Ev Go.Ev.Bits

def sAwake : List AV → T AV
  | [] => .leaf (.bool true)
  | _ => .fail
theorem sumAwake : SumAt C3 (11, sAwake) := by
  refine ⟨(callsM_fn okL noZL awakeT).at rfl, fun args v hr => ?_⟩
  replace hr : (sAwake args).run = some v := hr
  show Iso C3 11 args v
  unfold sAwake at hr
  split at hr
  · cases Option.some.inj hr
    exact (callsM_iso okL noZL awakeT).at rfl rfl
  · simp [T.run] at hr
noncomputable def tab4 : List (Nat × (List AV → T AV)) := [(11, sAwake)]
noncomputable def C4 : Ctx := withSum C3 tab4
theorem ok4 : Ok C4 := ok_with ok3 ⟨sumAwake, trivial⟩
theorem noZ4 : ZOk C4 noZ := noZ_ok keepOk
end Go.Proofs.YtbblfgfaoolloaaDoor
