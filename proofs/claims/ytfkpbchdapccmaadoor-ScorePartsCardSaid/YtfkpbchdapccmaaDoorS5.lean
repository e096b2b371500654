/- Chapter 17: vulnerability, points made and lost, as sums. -/
import Derived.Test.YtfkpbchdapccmaaDoorS4
namespace Go.Proofs.YtfkpbchdapccmaaDoor
open Go Go.Ev

theorem four {x : Int} (h0 : 0 ≤ x) (h : x ≤ 3) : x = 0 ∨ x = 1 ∨ x = 2 ∨ x = 3 := by omega
theorem leI_iff {a b : Int} : leI a b = true ↔ a ≤ b := by simp [leI]
theorem leI_not {a b : Int} : leI a b = false ↔ b < a := by simp [leI]

theorem t19 (v s : Int) : (calls C1 60 19 [.int .u8 v, .int .u8 s]).run = bif decide (v ≤ 3) then
    bif decide (s ≤ 3) then
      bif decide (0 ≤ s.tmod 2) then
        some (.bool (IntKind.u8.wrap (BitVec.ofInt IntKind.u8.bits (v.fdiv (2 ^ min (s.tmod 2).toNat IntKind.u8.bits)) &&& BitVec.ofInt IntKind.u8.bits 1).toNat == 1))
      else none
    else some (.bool (false))
  else some (.bool (false)) := by kernel_rfl
theorem t29 (v s : Int) : (calls C1 60 29 [.int .u8 v, .int .u8 s]).run = bif decide (v > 3) then some (.bool (false)) else
  bif decide (s > 3) then some (.bool (false)) else
    bif s == 0 then (bif v == 1 then some (.bool (true)) else some (.bool (v == 3)))
    else bif s == 2 then (bif v == 1 then some (.bool (true)) else some (.bool (v == 3)))
      else bif v == 2 then some (.bool (true)) else some (.bool (v == 3)) := by kernel_rfl
theorem e19 (v s : Int) (hv : u8B v = true) (hs : u8B s = true) : (calls C1 60 19 [.int .u8 v, .int .u8 s]).run = some (.bool (vul v s)) := by
  rw [t19]
  obtain ⟨h0, _⟩ := u8B_iff hv
  obtain ⟨h1, _⟩ := u8B_iff hs
  by_cases h2 : v ≤ 3
  · by_cases h3 : s ≤ 3
    · rcases four h0 h2 with rfl | rfl | rfl | rfl <;> rcases four h1 h3 with rfl | rfl | rfl | rfl <;> rfl
    · rw [decide_eq_true h2, decide_eq_false h3]; simp [vul, leI, h3]
  · rw [decide_eq_false h2]; simp [vul, leI, h2]
theorem e29 (v s : Int) (hv : u8B v = true) (hs : u8B s = true) : (calls C1 60 29 [.int .u8 v, .int .u8 s]).run = some (.bool (vul v s)) := by
  rw [t29]
  obtain ⟨h0, _⟩ := u8B_iff hv
  obtain ⟨h1, _⟩ := u8B_iff hs
  by_cases h2 : v ≤ 3
  · by_cases h3 : s ≤ 3
    · rcases four h0 h2 with rfl | rfl | rfl | rfl <;> rcases four h1 h3 with rfl | rfl | rfl | rfl <;> rfl
    · rw [decide_eq_false (by omega : ¬ v > 3), decide_eq_true (by omega : s > 3)]; simp [vul, leI, h3]
  · rw [decide_eq_true (by omega : v > 3)]; simp [vul, leI, h2]
def sVul : List AV → T AV
  | [.int .u8 v, .int .u8 s] => .chk (u8B v && u8B s) (.leaf (.bool (vul v s)))
  | _ => .fail
theorem sVul_run {f : FuncId} (h : ∀ v s, u8B v = true → u8B s = true → (calls C1 60 f [.int .u8 v, .int .u8 s]).run = some (.bool (vul v s))) : ∀ args v, (sVul args).run = some v → (calls C1 60 f args).run = some v := by
  intro args v hr
  unfold sVul at hr
  split at hr
  · obtain ⟨h1, hr⟩ := T.of_chk hr
    simp only [Bool.and_eq_true] at h1
    cases Option.some.inj hr
    exact h _ _ h1.1 h1.2
  · simp [T.run] at hr

def sRes : List AV → T AV
  | [.agg [.int .u8 a, .int .u8 b, .int .u8 r, .int .u8 d], .int .i64 t] => .chk (u8B a) (.leaf (.bool (isRes a b r d t)))
  | _ => .fail
theorem sRes_run {f : FuncId} (h : ∀ a b r d t, u8B a = true → (calls C1 60 f [con a b r d, .int .i64 t]).run = some (.bool (isRes a b r d t))) : ∀ args v, (sRes args).run = some v → (calls C1 60 f args).run = some v := by
  intro args v hr
  unfold sRes at hr
  split at hr
  · obtain ⟨h1, hr⟩ := T.of_chk hr
    cases Option.some.inj hr
    exact h _ _ _ _ _ h1
  · simp [T.run] at hr

theorem madeK_bound : domA.all (fun x => leI 0 (madeK x.1 x.2.1 x.2.2.1 x.2.2.2) && leI (madeK x.1 x.2.1 x.2.2.1 x.2.2.2) 5000 && leI 0 (overK x.2.1 x.2.2.1 x.2.2.2) && leI (overK x.2.1 x.2.2.1 x.2.2.2) 400) = true := by kernel_rfl
/-- The limits of what is made. -/
def madeB (a b r m : Int) : Bool := leI 1 a && leI a 7 && leI 0 b && leI b 4 && leI 0 r && leI r 2 && leI 0 m && leI m 13
theorem madeB_iff {a b r m : Int} (h : madeB a b r m = true) : 1 ≤ a ∧ a ≤ 7 ∧ 0 ≤ b ∧ b ≤ 4 ∧ 0 ≤ r ∧ r ≤ 2 ∧ 0 ≤ m ∧ m ≤ 13 := by
  simp only [madeB, Bool.and_eq_true, leI_iff] at h; omega
theorem mul_le {m k M K : Int} (h0 : 0 ≤ m) (h1 : m ≤ M) (h2 : 0 ≤ k) (h3 : k ≤ K) : 0 ≤ m * k ∧ m * k ≤ M * K :=
  ⟨Int.mul_nonneg h0 h2, Int.mul_le_mul h1 h3 h2 (by omega)⟩
theorem e36 (a b r d m : Int) (v : Bool) (h : madeB a b r m = true) : (calls C1 60 36 [con a b r d, .int .i64 m, .bool v]).run = some (.int .i64 (madeK a b r v + m * overK b r v)) := by
  obtain ⟨h1, h2, h3, h4, h5, h6, h7, h8⟩ := madeB_iff h
  have hm := mem_domA v h1 h2 h3 h4 h5 h6
  have e := allEq (t36 m d) _ hm
  have bd := List.all_eq_true.1 madeK_bound _ hm
  simp only [Bool.and_eq_true, leI_iff] at bd
  obtain ⟨⟨⟨b1, b2⟩, b3⟩, b4⟩ := bd
  refine e.trans ?_
  obtain ⟨c1, c2⟩ := mul_le h7 h8 b3 b4
  simp only
  rw [IntWalk.i64_in (m * overK b r v) (by omega), IntWalk.i64_in _ (by omega)]
def sMade : List AV → T AV
  | [.agg [.int .u8 a, .int .u8 b, .int .u8 r, .int .u8 _], .int .i64 m, .bool v] => .chk (madeB a b r m) (.leaf (.int .i64 (madeK a b r v + m * overK b r v)))
  | _ => .fail
theorem sMade_run : ∀ args v, (sMade args).run = some v → (calls C1 60 36 args).run = some v := by
  intro args v hr
  unfold sMade at hr
  split at hr
  · obtain ⟨h1, hr⟩ := T.of_chk hr
    cases Option.some.inj hr
    exact e36 _ _ _ _ _ _ h1
  · simp [T.run] at hr

def downB (r m : Int) : Bool := leI 0 r && leI r 2 && leI 0 m && leI m 13
theorem three {x : Int} (h0 : 0 ≤ x) (h : x ≤ 2) : x = 0 ∨ x = 1 ∨ x = 2 := by omega
theorem bif_max (m : Int) (h0 : 0 ≤ m) (h1 : m ≤ 13) : 0 ≤ (bif decide (0 > m - 3) then 0 else m - 3) ∧ (bif decide (0 > m - 3) then 0 else m - 3) ≤ 10 := by
  by_cases h : 0 > m - 3
  · rw [decide_eq_true h]; simp
  · rw [decide_eq_false h]; simp only [cond_false]; omega
theorem e37 (r m : Int) (v : Bool) (h : downB r m = true) : (calls C1 60 37 [.int .u8 r, .int .i64 m, .bool v]).run = some (.int .i64 (downK r m v)) := by
  simp only [downB, Bool.and_eq_true, leI_iff] at h
  obtain ⟨⟨⟨h1, h2⟩, h3⟩, h4⟩ := h
  have t := t37 m
  simp only [List.map_cons, List.map_nil, List.cons.injEq, and_true] at t
  obtain ⟨a1, a2, a3, a4, a5, a6⟩ := t
  have w := fun x h => IntWalk.i64_in x h
  obtain ⟨m1, m2⟩ := bif_max m h3 h4
  rcases three h1 h2 with rfl | rfl | rfl <;> cases v
  · rw [a1, w _ (by omega)]; rfl
  · rw [a2, w _ (by omega)]; rfl
  · rw [a3, w (m - 3) (by omega), w (200 * m) (by omega), w (200 * m - 100) (by omega), w (100 * _) (by omega), w _ (by omega)]; rfl
  · rw [a4, w (300 * m) (by omega), w _ (by omega)]; rfl
  · rw [a5, w (m - 3) (by omega), w (200 * m) (by omega), w (200 * m - 100) (by omega), w (100 * _) (by omega), w (200 * m - 100 + _) (by omega), w _ (by omega)]; rfl
  · rw [a6, w (300 * m) (by omega), w (300 * m - 100) (by omega), w _ (by omega)]; rfl
def sDown : List AV → T AV
  | [.int .u8 r, .int .i64 m, .bool v] => .chk (downB r m) (.leaf (.int .i64 (downK r m v)))
  | _ => .fail
theorem sDown_run : ∀ args v, (sDown args).run = some v → (calls C1 60 37 args).run = some v := by
  intro args v hr
  unfold sDown at hr
  split at hr
  · obtain ⟨h1, hr⟩ := T.of_chk hr
    cases Option.some.inj hr
    exact e37 _ _ _ h1
  · simp [T.run] at hr

noncomputable def tab2 : List (Nat × (List AV → T AV)) := [(16, sNeed), (28, sNeed), (35, sRes), (43, sRes), (19, sVul), (29, sVul), (36, sMade), (37, sDown)]
theorem allTab2 : AllL (SumAt C1) tab2 :=
  ⟨sum_of_run ok1 (calls_fn ok1 (e16 0 0 0 0 rfl)) (sNeed_run e16), sum_of_run ok1 (calls_fn ok1 (e28 0 0 0 0 rfl)) (sNeed_run e28), sum_of_run ok1 (calls_fn ok1 (e35 0 0 0 0 0 rfl)) (sRes_run e35), sum_of_run ok1 (calls_fn ok1 (e43 0 0 0 0 0 rfl)) (sRes_run e43),
   sum_of_run ok1 (calls_fn ok1 (e19 0 0 rfl rfl)) (sVul_run e19), sum_of_run ok1 (calls_fn ok1 (e29 0 0 rfl rfl)) (sVul_run e29), sum_of_run ok1 (calls_fn ok1 (e36 1 0 0 0 0 true rfl)) sMade_run, sum_of_run ok1 (calls_fn ok1 (e37 0 0 true rfl)) sDown_run, trivial⟩
noncomputable def C2 : Ctx := withSum C1 tab2
theorem ok2 : Ok C2 := ok_with ok1 allTab2
end Go.Proofs.YtfkpbchdapccmaaDoor
