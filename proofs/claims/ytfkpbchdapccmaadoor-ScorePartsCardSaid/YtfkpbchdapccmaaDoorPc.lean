/- Chapter 17: the context for the parts of a score, level by level. -/
import Derived.Test.YtfkpbchdapccmaaDoorGrows
namespace Go.Proofs.YtfkpbchdapccmaaDoor
open Go Go.Ev

theorem sNeedR_run16 : ∀ args v, (sNeedR args).run = some v → (calls C1 60 16 args).run = some v := by
  intro args v hr
  unfold sNeedR at hr
  split at hr
  · obtain ⟨h1, hr⟩ := T.of_chk hr
    obtain ⟨h2, hr⟩ := T.of_chk hr
    simp only [Bool.and_eq_true, Bool.not_eq_true'] at h1
    cases Option.some.inj hr
    refine (e16 _ _ _ _ h1.1).trans ?_
    unfold need
    rw [h1.2, h2]
    rfl
  · simp [T.run] at hr
/-- A result of a level that is known. -/
def sMkA (a : Int) : List AV → T AV
  | [.int .u32 n] => .chk (u32B n && mA n == a) (.leaf (.tup [con a (mB n) (mR n) (mD n), .int .i64 (mT n)]))
  | _ => .fail
theorem sMkA_run (a : Int) : ∀ args v, (sMkA a args).run = some v → (calls C4 60 14 args).run = some v := by
  intro args v hr
  unfold sMkA at hr
  split at hr
  · obtain ⟨h1, hr⟩ := T.of_chk hr
    simp only [Bool.and_eq_true, beq_iff_eq] at h1
    cases Option.some.inj hr
    obtain ⟨h1, rfl⟩ := h1
    exact e14 _ h1
  · simp [T.run] at hr
noncomputable def tabP (a : Int) : List (Nat × (List AV → T AV)) := [(14, sMkA a), (16, sNeedR)]
theorem allTabP (a : Int) : AllL (SumAt C5) (tabP a) :=
  ⟨⟨(calls_fn ok4 (e14 0 rfl)).at rfl, fun args v hr => (calls_iso ok4 (sMkA_run a args v hr)).at rfl rfl⟩,
   ⟨(calls_fn ok1 (e16 0 0 0 0 rfl)).at rfl, fun args v hr => (calls_iso ok1 (sNeedR_run16 args v hr)).at rfl rfl⟩, trivial⟩
noncomputable def Cp (a : Int) : Ctx := withSum C5 (tabP a)
theorem okp (a : Int) : Ok (Cp a) := ok_with ok5 (allTabP a)
end Go.Proofs.YtfkpbchdapccmaaDoor
