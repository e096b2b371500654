/- Chapter 1: the context with the library's search for a byte. -/
import Derived.Test.YtbblfgfaoolloaaDoorF0
import Derived.Test.YtbblfgfaoolloaaDoorShelf
namespace Go.Proofs.YtbblfgfaoolloaaDoor
open Go Go.Ev Go.Ev.Bits

noncomputable def libTab : List (Nat × (List AV → T AV)) := [(86, sIndexByte)]
noncomputable def CL : Ctx := { C0 with sum := sumAt libTab }
theorem sumOkL : SumOk CL := sumOk_of (C := C0) (l := libTab) rfl rfl (fun _ => rfl) ⟨sum_IndexByte ⟨_, fn86.1, by kernel_rfl, by kernel_rfl⟩ Tryd.stringslite_IndexByte, trivial⟩
theorem okL : Ok CL := ⟨tyOk, eqOk, codeOkAll, sumOkL, mixed⟩
theorem keepOkL : ∀ f fd, CL.code f = some fd → fd.keep.Nodup := keepOk
theorem noZL : ZOk CL noZ := noZ_ok keepOkL
end Go.Proofs.YtbblfgfaoolloaaDoor
