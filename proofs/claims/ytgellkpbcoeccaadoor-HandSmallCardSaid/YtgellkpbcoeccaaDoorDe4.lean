/- Chapter 5: Dealt as numbers. -/
import Derived.Test.YtgellkpbcoeccaaDoorDe3
namespace Go.Proofs.YtgellkpbcoeccaaDoor
open Go Go.Ev Go.Ev.Bits

noncomputable def Z25 : FuncId → Code → Option SumF := zAt [(25, isBlk 2, lenF l25)]
theorem z25 : ZOk C6 Z25 := zAt_ok keepOk6 fun e he => by
  simp only [List.mem_cons, List.not_mem_nil, or_false] at he
  rcases he with rfl
  exact zl25
end Go.Proofs.YtgellkpbcoeccaaDoor
