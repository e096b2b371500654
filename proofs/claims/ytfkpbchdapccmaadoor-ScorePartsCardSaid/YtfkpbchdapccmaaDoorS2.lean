/- Chapter 17: what is needed; results. -/
import Derived.Test.YtfkpbchdapccmaaDoorS1
import Derived.IntWalk
namespace Go.Proofs.YtfkpbchdapccmaaDoor
open Go Go.Ev

def u8B (a : Int) : Bool := leI 0 a && leI a 255
theorem u8B_iff {a : Int} (h : u8B a = true) : 0 ≤ a ∧ a ≤ 255 := by
  simpa [u8B, leI] using h

def need (a b r d : Int) : Int := bif a == 0 then 0 else bif right a b r d then 6 + a else 0
def isRes (a b r d t : Int) : Bool := right a b r d && (leI 0 t && (leI t 13 && (!(a == 0) || t == 0)))

theorem t16 (a b r d : Int) : (calls C1 60 16 [con a b r d]).run = bif a == 0 then some (.int .i64 0) else bif !right a b r d then some (.int .i64 0) else some (.int .i64 (IntKind.i64.wrap (6 + IntKind.i64.wrap a))) := by kernel_rfl
theorem t28 (a b r d : Int) : (calls C1 60 28 [con a b r d]).run = bif !right a b r d then some (.int .i64 0) else bif a == 0 then some (.int .i64 0) else some (.int .i64 (IntKind.i64.wrap (IntKind.i64.wrap a + 6))) := by kernel_rfl
theorem e16 (a b r d : Int) (h : u8B a = true) : (calls C1 60 16 [con a b r d]).run = some (.int .i64 (need a b r d)) := by
  obtain ⟨h0, h1⟩ := u8B_iff h
  rw [t16, IntWalk.i64_in a (by omega), IntWalk.i64_in _ (by omega)]
  unfold need
  cases a == 0 <;> cases right a b r d <;> rfl
theorem e28 (a b r d : Int) (h : u8B a = true) : (calls C1 60 28 [con a b r d]).run = some (.int .i64 (need a b r d)) := by
  obtain ⟨h0, h1⟩ := u8B_iff h
  rw [t28, IntWalk.i64_in a (by omega), IntWalk.i64_in _ (by omega), Int.add_comm]
  unfold need
  cases a == 0 <;> cases right a b r d <;> rfl
end Go.Proofs.YtfkpbchdapccmaaDoor
