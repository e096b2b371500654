/- The evaluator's context for this seat: what the library's functions give. -/
import Derived.Test.YtfkpbchdapccmaaDoorCtx
import Derived.Test.YtfkpbchdapccmaaDoorShelf
import Derived.Test.YtfkpbchdapccmaaDoorEvU
namespace Go.Proofs.YtfkpbchdapccmaaDoor
open Go Go.Ev

theorem neg13 : AllFrom (fun k => Iso C0 38 [.int .i64 (-(k : Int))] (.str (45 :: num2 k))) 1 13 :=
  ⟨iso_run ok0 (n := 60) (by kernel_rfl), iso_run ok0 (n := 60) (by kernel_rfl), iso_run ok0 (n := 60) (by kernel_rfl), iso_run ok0 (n := 60) (by kernel_rfl), iso_run ok0 (n := 60) (by kernel_rfl), iso_run ok0 (n := 60) (by kernel_rfl), iso_run ok0 (n := 60) (by kernel_rfl), iso_run ok0 (n := 60) (by kernel_rfl), iso_run ok0 (n := 60) (by kernel_rfl), iso_run ok0 (n := 60) (by kernel_rfl), iso_run ok0 (n := 60) (by kernel_rfl), iso_run ok0 (n := 60) (by kernel_rfl), iso_run ok0 (n := 60) (by kernel_rfl), trivial⟩

noncomputable def sumTab : List (Nat × (List AV → T AV)) := [(38, sItoa 13), (40, sAtoi 96), (41, sRepeat), (42, sIndexByte)]
noncomputable def C : Ctx := { C0 with sum := sumAt sumTab }
theorem sumOk1 : SumOk C := sumOk_of (C := C0) (l := sumTab) rfl rfl (fun _ => rfl)
  ⟨sum_Itoa ⟨_, fn38.1, by kernel_rfl, by kernel_rfl⟩ Tryd.strconv_Itoa_small neg13,
   sum_Atoi (g1 := 1) (g2 := 2) ⟨_, fn40.1, by kernel_rfl, by kernel_rfl⟩ rfl rfl Tryd.strconv_Atoi_ok Tryd.strconv_Atoi_syntax Tryd.strconv_Atoi_range,
   sum_Repeat ⟨_, fn41.1, by kernel_rfl, by kernel_rfl⟩ (fun s c w => Tryd.strings_Repeat s c w),
   sum_IndexByte ⟨_, fn42.1, by kernel_rfl, by kernel_rfl⟩ Tryd.strings_IndexByte, trivial⟩
theorem ok : Ok C := ⟨tyOk, eqOk, codeOkAll, sumOk1, mixed⟩
end Go.Proofs.YtfkpbchdapccmaaDoor
