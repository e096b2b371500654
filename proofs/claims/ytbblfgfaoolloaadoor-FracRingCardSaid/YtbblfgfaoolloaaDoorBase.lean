/- What the cards of this seat share: the listed package-level variables, the witness's world. Written by program (gen_base.py). -/
import Derived.Test.YtbblfgfaoolloaaDoorCards
import Derived.Test.YtbblfgfaoolloaaDoorTie
import Derived.Test.YtbblfgfaoolloaaDoorCtx
import Derived.Deep.DeepHandedRow
import Derived.Deep.DeepWitnessRowRef
import Derived.Test.YtbblfgfaoolloaaDoorA2
import Derived.LaidLaws
import Derived.ProofKit
import Derived.ChangeMaps5
import Derived.Lib.SmallJoins
namespace Go.Proofs.YtbblfgfaoolloaaDoor
open Go Go.Ev
theorem own : ownKnob Tryd.prog.godebug = none := by kernel_rfl
theorem star : "*" ++ "errors.errorString" = "*errors.errorString" := by decide
theorem sentRow (u : TypeId) (h : Tryd.prog.typeName? 3 u = some "*errors.errorString") : u = 143 :=
  typeName_ptr_named (nm := "errors.errorString") (by rw [star]; kernel_rfl) (by kernel_rfl) (by decide) u (by rw [star]; exact h)
noncomputable abbrev laidL : List (String × DataW Unit) := Rows.fracReadsRow.laid
theorem globs {W : World} (h : laidMet Tryd.prog laidL W) : ∀ g l, C0.glob g = some l → RG (Go.Ev.cellsIn W) g 0 l ∧ ExG W g l := by
  have h1 : RG (Go.Ev.cellsIn W) 1 0 [.ifc 143 .undef] ∧ ExG W 1 [.ifc 143 .undef] := by
    obtain ⟨_, _, hv, _⟩ := laid_sentinel (g := 1) (laidMet.tail (laidMet.tail (laidMet.tail (laidMet.tail h)))) (by kernel_rfl) (by kernel_rfl) Tryd.underlying50 sentRow Tryd.underlying143 Tryd.underlying145 rfl rfl Tryd.underlying9 (by kernel_rfl) (by kernel_rfl)
    exact rg_sentinel hv (by kernel_rfl)
  have h2 : RG (Go.Ev.cellsIn W) 2 0 [.ifc 143 .undef] ∧ ExG W 2 [.ifc 143 .undef] := by
    obtain ⟨_, _, hv, _⟩ := laid_sentinel (g := 2) (laidMet.tail (laidMet.tail (laidMet.tail h))) (by kernel_rfl) (by kernel_rfl) Tryd.underlying50 sentRow Tryd.underlying143 Tryd.underlying145 rfl rfl Tryd.underlying9 (by kernel_rfl) (by kernel_rfl)
    exact rg_sentinel hv (by kernel_rfl)
  have h3 := rg_tab (g := 3) (Lib.tabIs_of_head (g := 3) (k := .u64) (zs := [1, 10, 100, 1000, 10000, 100000, 1000000, 10000000, 100000000, 1000000000, 10000000000, 100000000000, 1000000000000, 10000000000000, 100000000000000, 1000000000000000, 10000000000000000, 100000000000000000, 1000000000000000000, 10000000000000000000]) (by kernel_rfl) (by kernel_rfl) Tryd.underlying134 Tryd.underlying64 (by kernel_rfl) (by kernel_rfl) (laidMet.tail (laidMet.tail h))) (by kernel_rfl)
  have h4 := rg_tab (g := 4) (Lib.tabIs_of_head (g := 4) (k := .u8) (zs := [0, 1, 28, 2, 29, 14, 24, 3, 30, 22, 20, 15, 25, 17, 4, 8, 31, 27, 13, 23, 21, 19, 16, 7, 26, 12, 18, 6, 11, 5, 10, 9]) (by kernel_rfl) (by kernel_rfl) Tryd.underlying147 Tryd.underlying5 (by kernel_rfl) (by kernel_rfl) (h)) (by kernel_rfl)
  have h5 := rg_tab (g := 5) (Lib.tabIs_of_head (g := 5) (k := .u8) (zs := [0, 1, 56, 2, 57, 49, 28, 3, 61, 58, 42, 50, 38, 29, 17, 4, 62, 47, 59, 36, 45, 43, 51, 22, 53, 39, 33, 30, 24, 18, 12, 5, 63, 55, 48, 27, 60, 41, 37, 16, 46, 35, 44, 21, 52, 32, 23, 11, 54, 26, 40, 15, 34, 20, 31, 10, 25, 14, 19, 9, 13, 8, 7, 6]) (by kernel_rfl) (by kernel_rfl) Tryd.underlying148 Tryd.underlying5 (by kernel_rfl) (by kernel_rfl) (laidMet.tail h)) (by kernel_rfl)
  exact globAt_all (p := fun x => RG (Go.Ev.cellsIn W) x.1 0 x.2 ∧ ExG W x.1 x.2) ⟨h1, h2, h3, h4, h5, trivial⟩
/-- A world for the witness: the settled one, the listed variables holding what their initialisers lay. -/
noncomputable def laidWorld (os : Os) : World :=
  let N := (World.settled Tryd.prog os).heap.size
  let w0 := World.holding Tryd.prog os ⟨#[.cells #[.string ⟨#[118, 97, 108, 117, 101, 32, 111, 117, 116, 32, 111, 102, 32, 114, 97, 110, 103, 101]⟩] 145, .cells #[.string ⟨#[105, 110, 118, 97, 108, 105, 100, 32, 115, 121, 110, 116, 97, 120]⟩] 145], #[], []⟩
  let put (h : Array Obj) (g : Nat) (cs : Array Value) : Array Obj := h.modify g fun
    | .cells _ t frozen => .cells cs t frozen
    | o => o
  { w0 with heap := put (put (put (put (put (w0.heap) 4 #[.int .u8 0, .int .u8 1, .int .u8 28, .int .u8 2, .int .u8 29, .int .u8 14, .int .u8 24, .int .u8 3, .int .u8 30, .int .u8 22, .int .u8 20, .int .u8 15, .int .u8 25, .int .u8 17, .int .u8 4, .int .u8 8, .int .u8 31, .int .u8 27, .int .u8 13, .int .u8 23, .int .u8 21, .int .u8 19, .int .u8 16, .int .u8 7, .int .u8 26, .int .u8 12, .int .u8 18, .int .u8 6, .int .u8 11, .int .u8 5, .int .u8 10, .int .u8 9]) 5 #[.int .u8 0, .int .u8 1, .int .u8 56, .int .u8 2, .int .u8 57, .int .u8 49, .int .u8 28, .int .u8 3, .int .u8 61, .int .u8 58, .int .u8 42, .int .u8 50, .int .u8 38, .int .u8 29, .int .u8 17, .int .u8 4, .int .u8 62, .int .u8 47, .int .u8 59, .int .u8 36, .int .u8 45, .int .u8 43, .int .u8 51, .int .u8 22, .int .u8 53, .int .u8 39, .int .u8 33, .int .u8 30, .int .u8 24, .int .u8 18, .int .u8 12, .int .u8 5, .int .u8 63, .int .u8 55, .int .u8 48, .int .u8 27, .int .u8 60, .int .u8 41, .int .u8 37, .int .u8 16, .int .u8 46, .int .u8 35, .int .u8 44, .int .u8 21, .int .u8 52, .int .u8 32, .int .u8 23, .int .u8 11, .int .u8 54, .int .u8 26, .int .u8 40, .int .u8 15, .int .u8 34, .int .u8 20, .int .u8 31, .int .u8 10, .int .u8 25, .int .u8 14, .int .u8 19, .int .u8 9, .int .u8 13, .int .u8 8, .int .u8 7, .int .u8 6]) 3 #[.int .u64 1, .int .u64 10, .int .u64 100, .int .u64 1000, .int .u64 10000, .int .u64 100000, .int .u64 1000000, .int .u64 10000000, .int .u64 100000000, .int .u64 1000000000, .int .u64 10000000000, .int .u64 100000000000, .int .u64 1000000000000, .int .u64 10000000000000, .int .u64 100000000000000, .int .u64 1000000000000000, .int .u64 10000000000000000, .int .u64 100000000000000000, .int .u64 1000000000000000000, .int .u64 10000000000000000000]) 2 #[.iface 143 (.pointer (some ⟨N + 0, 0, none⟩))]) 1 #[.iface 143 (.pointer (some ⟨N + 1, 0, none⟩))] }
theorem laid_met (os : Os) (args : Array Value) : laidMet Tryd.prog laidL ((laidWorld os).forCall (fun _ _ => 0) ⟨#[], args, []⟩).memory :=
  laidMet_of_run' 8 (by kernel_rfl) (by kernel_rfl)
end Go.Proofs.YtbblfgfaoolloaaDoor
