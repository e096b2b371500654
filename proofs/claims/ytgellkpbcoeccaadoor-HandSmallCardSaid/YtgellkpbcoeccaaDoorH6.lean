/- Chapter 5: patterns and suits in order. -/
import Derived.Test.YtgellkpbcoeccaaDoorH5
namespace Go.Proofs.YtgellkpbcoeccaaDoor
open Go Go.Ev Go.Ev.Bits

def cmpI (a b : Int) : Int := bif decide (a < b) then -1 else bif decide (a > b) then 1 else 0
def tCmp (a b : Int) : Option AV := bif a != a then bif b != b then some (.int .i64 0) else some (.int .i64 (-1)) else bif b != b then some (.int .i64 1) else bif decide (a < b) then some (.int .i64 (-1)) else bif decide (a > b) then some (.int .i64 1) else some (.int .i64 0)
theorem tCmp_eq (a b : Int) : tCmp a b = some (.int .i64 (cmpI a b)) := by
  unfold tCmp cmpI
  rw [bne_self_eq_false, bne_self_eq_false]
  cases decide (a < b) <;> cases decide (a > b) <;> rfl
theorem t48 (a b : Int) : callsM C3 Z2 100 48 [.int .i64 a, .int .i64 b] = tCmp a b := by kernel_rfl
noncomputable def sCmp : List AV → T AV
  | [.int .i64 a, .int .i64 b] => .leaf (.int .i64 (shut (cmpI a b)))
  | _ => .fail
theorem z3 : ZOk C3 Z2 := z2.at rfl rfl rfl
theorem sCmp_iso : ∀ args v, (sCmp args).run = some v → callsM C3 Z2 100 48 args = some v := by
  intro args v hr
  unfold sCmp at hr
  split at hr
  · cases Option.some.inj hr
    rw [t48, tCmp_eq, shut_eq]
  · simp [T.run] at hr
noncomputable def tab4 : List (Nat × (List AV → T AV)) := [(48, sCmp)]
theorem allTab4 : AllL (SumAt C3) tab4 := ⟨⟨callsM_fn ok3 z3 ((t48 0 0).trans (tCmp_eq 0 0)), fun args v hr => callsM_iso ok3 z3 (sCmp_iso args v hr)⟩, trivial⟩
noncomputable def C4 : Ctx := withSum C3 tab4
theorem ok4 : Ok C4 := ok_with ok3 allTab4
theorem z4 : ZOk C4 Z2 := z3.at rfl rfl rfl

/-! ### Four things in order -/
section
variable {α β : Type} (lt : α → α → Bool) (k : α → α → α → α → β)
def so1 (a b c d : α) : β := bif lt b a then k b a c d else k a b c d
def so2 (a b c d : α) : β := bif lt c b then bif lt c a then k c a b d else k a c b d else k a b c d
def so3 (a b c d : α) : β := bif lt d c then bif lt d b then bif lt d a then k d a b c else k a d b c else k a b d c else k a b c d
def so (a b c d : α) : β := so1 lt (so2 lt (so3 lt k)) a b c d
end
noncomputable def ltL (a b : Int) : Bool := decide (shut (cmpI b a) < 0)
noncomputable def lnN (n s : Nat) : Int := ((shut (ln n s) : Nat) : Int)
theorem t43 (n : Nat) : callsM C4 Z2 100 43 [.int .u64 n] = so ltL (fun a b c d => some (.agg [.int .i64 a, .int .i64 b, .int .i64 c, .int .i64 d])) (lnN n 0) (lnN n 1) (lnN n 2) (lnN n 3) := by kernel_rfl
/-- Compares two suits. -/
noncomputable def ltS (n a b : Nat) : Bool := decide (shut (cmpI (lnN n b) (lnN n a)) < 0)
theorem t26 (n : Nat) : callsM C4 Z2 100 26 [.int .u64 n] = so (ltS n) (fun a b c d => some (.agg [.int .u8 (a : Nat), .int .u8 (b : Nat), .int .u8 (c : Nat), .int .u8 (d : Nat)])) 3 2 1 0 := by kernel_rfl
end Go.Proofs.YtgellkpbcoeccaaDoor
