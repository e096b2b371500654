/- Chapter 17: what the small functions give. -/
import Derived.Test.YtfkpbchdapccmaaDoorLib
import Derived.KernelRfl
namespace Go.Proofs.YtfkpbchdapccmaaDoor
open Go Go.Ev

/-- A contract as the evaluator holds it. -/
abbrev con (a b r d : Int) : AV := .agg [.int .u8 a, .int .u8 b, .int .u8 r, .int .u8 d]

def right (a b r d : Int) : Bool := bif a == 0 then b == 0 && (r == 0 && d == 0) else decide (a ≤ 7) && (decide (b ≤ 4) && (decide (r ≤ 2) && decide (d ≤ 3)))

theorem t24 (a b r d : Int) : (calls C 60 24 [con a b r d]).run = bif a == 0 then some (.bool (a == 0 && (b == 0 && (r == 0 && (d == 0 && true))))) else
    bif decide (a ≤ 7) then bif decide (b ≤ 4) then bif decide (r ≤ 2) then some (.bool (decide (d ≤ 3))) else some (.bool false) else some (.bool false) else some (.bool false) := by kernel_rfl
theorem e24 (a b r d : Int) : (calls C 60 24 [con a b r d]).run = some (.bool (right a b r d)) := by
  rw [t24]; unfold right
  cases a == 0 <;> cases decide (a ≤ 7) <;> cases decide (b ≤ 4) <;> cases decide (r ≤ 2) <;> simp

theorem t27 (a b r d : Int) : (calls C 60 27 [con a b r d]).run = bif a == 0 then bif b == 0 then bif r == 0 then some (.bool (d == 0)) else some (.bool false) else some (.bool false) else
    bif decide (a < 8) then bif decide (b < 5) then bif decide (r < 3) then some (.bool (decide (d < 4))) else some (.bool false) else some (.bool false) else some (.bool false) := by kernel_rfl
theorem lt_le (a k : Int) : decide (a < k + 1) = decide (a ≤ k) := by
  by_cases h : a ≤ k
  · rw [decide_eq_true h, decide_eq_true (by omega)]
  · rw [decide_eq_false h, decide_eq_false (by omega)]
theorem e27 (a b r d : Int) : (calls C 60 27 [con a b r d]).run = some (.bool (right a b r d)) := by
  rw [t27]; unfold right
  rw [show decide (a < 8) = _ from lt_le a 7, show decide (b < 5) = _ from lt_le b 4, show decide (r < 3) = _ from lt_le r 2, show decide (d < 4) = _ from lt_le d 3]
  cases a == 0 <;> cases decide (a ≤ 7) <;> cases decide (b ≤ 4) <;> cases decide (r ≤ 2) <;> cases b == 0 <;> cases r == 0 <;> simp

def sRight : List AV → T AV
  | [.agg [.int .u8 a, .int .u8 b, .int .u8 r, .int .u8 d]] => .leaf (.bool (right a b r d))
  | _ => .fail

theorem sRight_run {f : FuncId} (h : ∀ a b r d, (calls C 60 f [con a b r d]).run = some (.bool (right a b r d))) : ∀ args v, (sRight args).run = some v → (calls C 60 f args).run = some v := by
  intro args v hr
  unfold sRight at hr
  split at hr
  · cases Option.some.inj hr; exact h _ _ _ _
  · simp [T.run] at hr

def sBy : List AV → T AV
  | [.bool v, .int .i64 a, .int .i64 b] => .leaf (.int .i64 (bif v then b else a))
  | _ => .fail
theorem e48 (v : Bool) (a b : Int) : (calls C 60 48 [.bool v, .int .i64 a, .int .i64 b]).run = some (.int .i64 (bif v then b else a)) := by
  cases v
  · kernel_rfl
  · kernel_rfl
theorem sBy_run : ∀ args v, (sBy args).run = some v → (calls C 60 48 args).run = some v := by
  intro args v hr
  unfold sBy at hr
  split at hr
  · cases Option.some.inj hr; exact e48 _ _ _
  · simp [T.run] at hr

noncomputable def tab1 : List (Nat × (List AV → T AV)) := [(24, sRight), (27, sRight), (48, sBy)]
theorem allTab1 : AllL (SumAt C) tab1 :=
  ⟨sum_of_run ok (calls_fn ok (e24 0 0 0 0)) (sRight_run e24), sum_of_run ok (calls_fn ok (e27 0 0 0 0)) (sRight_run e27), sum_of_run ok (calls_fn ok (e48 true 0 0)) sBy_run, trivial⟩
noncomputable def C1 : Ctx := withSum C tab1
theorem ok1 : Ok C1 := ok_with ok allTab1
end Go.Proofs.YtfkpbchdapccmaaDoor
