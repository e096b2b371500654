/- Chapter 1: FracWrong: what is rejected. -/
import Derived.Test.YtbblfgfaoolloaaDoorOrd
namespace Go.Proofs.YtbblfgfaoolloaaDoor
open Go Go.Ev Go.Ev.Bits

def sFail : List AV → T AV := fun _ => .fail
theorem sum_fail {C : Ctx} {f : FuncId} (h : FnOk C f) : SumAt C (f, sFail) := ⟨h, fun args v hr => by
  have hr2 : (sFail args).run = some v := hr
  simp [sFail, T.run] at hr2⟩
noncomputable def tabF : List (Nat × (List AV → T AV)) := [(35, sFail), (37, sFail), (24, sFail)]
noncomputable def CF : Ctx := withSum C2 tabF
theorem okF : Ok CF := ok_with ok2 ⟨sum_fail (sum35.1.at rfl), sum_fail (sum37.1.at rfl), sum_fail ⟨_, fn24.1, by kernel_rfl, by kernel_rfl⟩, trivial⟩
theorem keepOkF : ∀ f fd, CF.code f = some fd → fd.keep.Nodup := keepOk
theorem noZF : ZOk CF noZ := noZ_ok keepOkF
abbrev kp23 : List Tmp := [0, 1, 2, 4, 5, 6, 7, 8, 9, 10, 11, 12, 13, 14, 25, 26, 27, 28, 59, 64, 70, 91]
abbrev ct23 : List Tmp := [25, 28, 59, 64, 70, 91]
noncomputable def body23 : Code := Tryd.f23.body.getD .skip
noncomputable def fd23 : FD := { fn := Tryd.f23, keep := kp23, ct := ct23 }
theorem fdat23 : CF.code 23 = some fd23 := by kernel_rfl
theorem hb23 : fd23.fn.body = some body23 := by kernel_rfl
noncomputable def blk23_0 : Code := piece (isBlk 0) body23
theorem one23_0 : (pieceL (isBlk 0) body23).length = 1 := by kernel_rfl
theorem in23_0 : blk23_0 ∈ subs body23 := piece_in one23_0
noncomputable def bod23_0 : Code := unLoop (unBlk blk23_0)
theorem is23_0 : blk23_0 = .block 0 (.loop bod23_0) := by kernel_rfl
theorem bin23_0 : bod23_0 ∈ subs body23 := loop_in (block_in (id := 0) (is23_0 ▸ in23_0))
def lFail : SumF := fun _ _ => .fail
noncomputable def ZF : FuncId → Code → Option SumF := zAt [(23, isBlk 0, lenF lFail)]
theorem zF : ZOk CF ZF := zAt_ok keepOkF fun e he => by
  simp only [List.mem_cons, List.not_mem_nil, or_false] at he
  rcases he with rfl
  exact zent_does fdat23 hb23 one23_0 fun vs H q hv hr => by simp [lFail, T.run] at hr
def r2 (v : AV) : Option AV := some (.tup [v, .int .i64 2])
theorem u22 (n d : Int) : callsM CF noZ 60 22 [.agg [.int .i64 n, .int .i64 d]] = gd (u2k n d) (bif !(shut (rtN n d)) then r2 (.int .i64 0) else none) := by kernel_rfl
theorem u18 (n d : Int) : callsM CF noZ 60 18 [.agg [.int .i64 n, .int .i64 d]] = gd (u2k n d) (bif !(shut (rtN n d)) then r2 (.str []) else none) := by kernel_rfl
theorem u23 (n d p : Int) : callsM CF ZF 60 23 [.agg [.int .i64 n, .int .i64 d], .int .i64 p] = gd (u2k n d) (bif !(shut (rtN n d)) then r2 (.str []) else bif decide (p < 0) then r2 (.str []) else bif decide (p > 9) then r2 (.str []) else none) := by kernel_rfl
theorem u31 (n1 d1 n2 d2 n3 d3 : Int) (full : Bool) : callsM CF noZ 60 31 [.ro full 3 [.int .i64 n1, .int .i64 d1, .int .i64 n2, .int .i64 d2, .int .i64 n3, .int .i64 d3]] = gd (u2k n1 d1) (bif !(shut (rtN n1 d1)) then frt 0 0 2 else gd (u2k n2 d2) (bif !(shut (rtN n2 d2)) then frt 0 0 2 else gd (u2k n3 d3) (bif !(shut (rtN n3 d3)) then frt 0 0 2 else none))) := by kernel_rfl
theorem u31n : callsM CF noZ 60 31 [.nils] = frt 0 1 0 := by kernel_rfl
end Go.Proofs.YtbblfgfaoolloaaDoor
