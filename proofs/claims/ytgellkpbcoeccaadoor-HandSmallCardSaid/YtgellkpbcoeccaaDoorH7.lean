/- Chapter 5: patterns and suits in plain numbers; the fifth context. -/
import Derived.Test.YtgellkpbcoeccaaDoorH6
namespace Go.Proofs.YtgellkpbcoeccaaDoor
open Go Go.Ev Go.Ev.Bits

theorem app_cond {α β : Type} (F : α → β) (b : Bool) (x y : α) : (bif b then F x else F y) = F (bif b then x else y) := by cases b <;> rfl
theorem so_fin {α β γ : Type} (lt : α → α → Bool) (k : α → α → α → α → β) (F : β → γ) (a b c d : α) : so lt (fun a b c d => F (k a b c d)) a b c d = F (so lt k a b c d) := by
  simp only [so, so1, so2, so3, app_cond F]
theorem so_map {α β γ : Type} (lt : β → β → Bool) (k : β → β → β → β → γ) (f : α → β) (a b c d : α) : so lt k (f a) (f b) (f c) (f d) = so (fun x y => lt (f x) (f y)) (fun a b c d => k (f a) (f b) (f c) (f d)) a b c d := rfl
theorem so_lt {α β : Type} {lt lt' : α → α → Bool} (h : ∀ x y, lt x y = lt' x y) (k : α → α → α → α → β) (a b c d : α) : so lt k a b c d = so lt' k a b c d := by
  have : lt = lt' := funext fun x => funext fun y => h x y
  rw [this]
def four (a b c d : Nat) : Nat × Nat × Nat × Nat := (a, b, c, d)
/-- The lengths in decreasing order. -/
def pat (n : Nat) : Nat × Nat × Nat × Nat := so (fun a b => decide (b < a)) four (ln n 0) (ln n 1) (ln n 2) (ln n 3)
/-- The suits in their order. -/
def sui (n : Nat) : Nat × Nat × Nat × Nat := so (fun a b => decide (ln n b < ln n a)) four 3 2 1 0
theorem cmpI_lt (a b : Nat) : decide (cmpI (a : Int) (b : Int) < 0) = decide (a < b) := by
  unfold cmpI
  rcases Nat.lt_trichotomy a b with h | h | h
  · rw [decide_eq_true (by omega : (a : Int) < (b : Int)), decide_eq_true h]; rfl
  · rw [decide_eq_false (by omega : ¬ (a : Int) < (b : Int)), decide_eq_false (by omega : ¬ (a : Int) > (b : Int)), decide_eq_false (by omega : ¬ a < b)]; rfl
  · rw [decide_eq_false (by omega : ¬ (a : Int) < (b : Int)), decide_eq_true (by omega : (a : Int) > (b : Int)), decide_eq_false (by omega : ¬ a < b)]; rfl
def av4 (k : IntKind) (x : Nat × Nat × Nat × Nat) : AV := .agg [.int k (x.1 : Nat), .int k (x.2.1 : Nat), .int k (x.2.2.1 : Nat), .int k (x.2.2.2 : Nat)]
theorem e43 (n : Nat) : callsM C4 Z2 100 43 [.int .u64 n] = some (av4 .i64 (pat n)) := by
  rw [t43]
  unfold lnN
  simp only [shut_eq]
  rw [so_map ltL _ (fun n : Nat => (n : Int))]
  unfold pat
  rw [← so_fin _ four (fun x => some (av4 .i64 x))]
  exact so_lt (fun x y => by unfold ltL; rw [shut_eq, cmpI_lt]) _ _ _ _ _
theorem e26 (n : Nat) : callsM C4 Z2 100 26 [.int .u64 n] = some (av4 .u8 (sui n)) := by
  rw [t26]
  unfold sui
  rw [← so_fin _ four (fun x => some (av4 .u8 x))]
  exact so_lt (fun x y => by unfold ltS lnN; rw [shut_eq, shut_eq, shut_eq, cmpI_lt]) _ _ _ _ _
noncomputable def s4 (k : IntKind) (g : Nat → Nat × Nat × Nat × Nat) : List AV → T AV
  | [.int .u64 m] => .chk (leI 0 m) (.leaf (.agg [.int k (shut (g m.toNat).1 : Nat), .int k (shut (g m.toNat).2.1 : Nat), .int k (shut (g m.toNat).2.2.1 : Nat), .int k (shut (g m.toNat).2.2.2 : Nat)]))
  | _ => .fail
theorem s4_iso {f : FuncId} {k : IntKind} {g : Nat → Nat × Nat × Nat × Nat} (h : ∀ n : Nat, callsM C4 Z2 100 f [.int .u64 n] = some (av4 k (g n))) : ∀ args v, (s4 k g args).run = some v → callsM C4 Z2 100 f args = some v := by
  intro args v hr
  unfold s4 at hr
  split at hr
  · rename_i m
    obtain ⟨hc, hr⟩ := T.of_chk hr
    simp only [leI_iff] at hc
    cases Option.some.inj hr
    obtain ⟨n, rfl⟩ : ∃ n : Nat, m = n := ⟨m.toNat, by omega⟩
    rw [h]
    simp only [shut_eq]
    rfl
  · simp [T.run] at hr
theorem sumM4 {f : FuncId} {F : List AV → T AV} {n : Nat} {args0 : List AV} {v0 : AV} (h0 : callsM C4 Z2 n f args0 = some v0) (h : ∀ args v, (F args).run = some v → callsM C4 Z2 n f args = some v) : SumAt C4 (f, F) :=
  ⟨callsM_fn ok4 z4 h0, fun args v hr => callsM_iso ok4 z4 (h args v hr)⟩
noncomputable def tab5 : List (Nat × (List AV → T AV)) := [(43, s4 .i64 pat), (26, s4 .u8 sui)]
theorem allTab5 : AllL (SumAt C4) tab5 := ⟨sumM4 (e43 0) (s4_iso e43), sumM4 (e26 0) (s4_iso e26), trivial⟩
noncomputable def C5 : Ctx := withSum C4 tab5
theorem ok5 : Ok C5 := ok_with ok4 allTab5
theorem z5 : ZOk C5 Z2 := z4.at rfl rfl rfl
end Go.Proofs.YtgellkpbcoeccaaDoor
