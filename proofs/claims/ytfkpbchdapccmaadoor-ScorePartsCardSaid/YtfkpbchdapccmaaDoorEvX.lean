/- Evaluator: what a card's contract takes of its arguments. -/
import Derived.Test.YtfkpbchdapccmaaDoorEvU
namespace Go.Ev
open Go.RowKit

theorem enter_iso {C : Ctx} {w : World} (hg : ∀ g l, C.glob g = some l → RG (cellsIn w) g 0 l) {f : FuncId} {args : List AV} {vs : List Value} (ha : RPL (cellsIn w) args vs) (h : Iso C f args (.bool true)) :
    Calls C.P f vs.toArray w (fun e w' => e = .returned (.bool true) ∧ Below w.heap.size w w') := by
  refine (h (cellsIn w) w vs (inv_start hg) ha).mono fun e w' ⟨c, G', he, hr, hs, _⟩ => ⟨?_, hs.below⟩
  rw [he]
  cases hr
  rfl

theorem wf_range {k : IntKind} {n : Int} (h : (Lit.int k n).wf = true) : k.min ≤ n ∧ n ≤ k.max := by
  simpa [Lit.wf] using h
theorem wf_u8 {n : Int} (h : (Lit.int .u8 n).wf = true) : 0 ≤ n ∧ n ≤ 255 := wf_range h
theorem wf_u16 {n : Int} (h : (Lit.int .u16 n).wf = true) : 0 ≤ n ∧ n ≤ 65535 := wf_range h
theorem wf_u32 {n : Int} (h : (Lit.int .u32 n).wf = true) : 0 ≤ n ∧ n ≤ 4294967295 := wf_range h
theorem wf_u64 {n : Int} (h : (Lit.int .u64 n).wf = true) : 0 ≤ n ∧ n ≤ 18446744073709551615 := wf_range h
theorem wf_i16 {n : Int} (h : (Lit.int .i16 n).wf = true) : -32768 ≤ n ∧ n ≤ 32767 := wf_range h
theorem wf_i64 {n : Int} (h : (Lit.int .i64 n).wf = true) : -9223372036854775808 ≤ n ∧ n ≤ 9223372036854775807 := wf_range h
theorem RP.mk_str {G : Gh} (s : ByteArray) : RP G (.str s.data.toList) (.string s) := by
  have : s = ⟨s.data.toList.toArray⟩ := by cases s; simp
  rw [this]
  simpa using RP.str (G := G) s.data.toList
end Go.Ev
