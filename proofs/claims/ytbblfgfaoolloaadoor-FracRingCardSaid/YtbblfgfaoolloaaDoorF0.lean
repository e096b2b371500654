/- Chapter 1: the first context. -/
import Derived.Test.YtbblfgfaoolloaaDoorCtx
import Derived.Test.YtbblfgfaoolloaaDoorF1
namespace Go.Proofs.YtbblfgfaoolloaaDoor
open Go Go.Ev Go.Ev.Bits

def noZ : FuncId → Code → Option SumF := fun _ _ => none
theorem keepOk : ∀ f fd, C0.code f = some fd → fd.keep.Nodup := by
  intro f fd h
  have key : (fdTab.all fun p => nodupB p.2.keep) = true := by kernel_rfl
  have := List.all_eq_true.1 key _ (fdAt_mem (show fdAt fdTab f = some fd from h))
  exact nodupB_ok this
theorem noZ0 : ZOk C0 noZ := noZ_ok keepOk
theorem leI_iff {a b : Int} : leI a b = true ↔ a ≤ b := by simp [leI]
end Go.Proofs.YtbblfgfaoolloaaDoor
