/- Chapter 17: results; the next context. -/
import Derived.Test.YtfkpbchdapccmaaDoorS2
namespace Go.Proofs.YtfkpbchdapccmaaDoor
open Go Go.Ev

def sNeed : List AV → T AV
  | [.agg [.int .u8 a, .int .u8 b, .int .u8 r, .int .u8 d]] => .chk (u8B a) (.leaf (.int .i64 (need a b r d)))
  | _ => .fail
theorem sNeed_run {f : FuncId} (h : ∀ a b r d, u8B a = true → (calls C1 60 f [con a b r d]).run = some (.int .i64 (need a b r d))) : ∀ args v, (sNeed args).run = some v → (calls C1 60 f args).run = some v := by
  intro args v hr
  unfold sNeed at hr
  split at hr
  · obtain ⟨h1, hr⟩ := T.of_chk hr
    cases Option.some.inj hr
    exact h _ _ _ _ h1
  · simp [T.run] at hr

theorem t35 (a b r d t : Int) : (calls C1 60 35 [con a b r d, .int .i64 t]).run = bif right a b r d then bif decide (t ≥ 0) then bif decide (t ≤ 13) then bif decide (a > 0) then some (.bool true) else some (.bool (t == 0)) else some (.bool false) else some (.bool false) else some (.bool false) := by kernel_rfl
theorem t43 (a b r d t : Int) : (calls C1 60 43 [con a b r d, .int .i64 t]).run = bif !right a b r d then some (.bool false) else bif decide (t < 0) then some (.bool false) else bif decide (t > 13) then some (.bool false) else bif decide (a > 0) then some (.bool true) else some (.bool (t == 0)) := by kernel_rfl

theorem gt0 (a : Int) (h : 0 ≤ a) : decide (a > 0) = !(a == 0) := by
  by_cases h0 : a = 0
  · subst h0; rfl
  · rw [decide_eq_true (by omega)]
    have : (a == 0) = false := by simpa using h0
    rw [this]; rfl
theorem e35 (a b r d t : Int) (h : u8B a = true) : (calls C1 60 35 [con a b r d, .int .i64 t]).run = some (.bool (isRes a b r d t)) := by
  obtain ⟨h0, _⟩ := u8B_iff h
  rw [t35, gt0 a h0]
  unfold isRes leI
  cases right a b r d <;> cases h1 : decide (t ≥ 0) <;> cases h2 : decide (t ≤ 13) <;> cases a == 0 <;> simp_all
theorem e43 (a b r d t : Int) (h : u8B a = true) : (calls C1 60 43 [con a b r d, .int .i64 t]).run = some (.bool (isRes a b r d t)) := by
  obtain ⟨h0, _⟩ := u8B_iff h
  rw [t43, gt0 a h0]
  unfold isRes leI
  have e1 : decide (t < 0) = !decide (0 ≤ t) := by by_cases h : 0 ≤ t <;> simp [h] <;> omega
  have e2 : decide (t > 13) = !decide (t ≤ 13) := by by_cases h : t ≤ 13 <;> simp [h] <;> omega
  rw [e1, e2]
  cases right a b r d <;> cases decide (0 ≤ t) <;> cases decide (t ≤ 13) <;> cases a == 0 <;> rfl
end Go.Proofs.YtfkpbchdapccmaaDoor
