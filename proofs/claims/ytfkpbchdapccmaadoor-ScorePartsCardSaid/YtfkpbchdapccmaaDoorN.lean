/- Chapter 17: the reference's points: the context. -/
import Derived.Test.YtfkpbchdapccmaaDoorS6
namespace Go.Proofs.YtfkpbchdapccmaaDoor
open Go Go.Ev

def val2 (b : Int) : Int := bif decide (b < 2) then 20 else 30
theorem val2_eq (b : Int) : val2 b = valK b := by
  unfold val2 valK leI
  by_cases h : b < 2
  · rw [decide_eq_true h, decide_eq_true (by omega : b ≤ 1)]
  · rw [decide_eq_false h, decide_eq_false (by omega : ¬ b ≤ 1)]
theorem e62 (b : Int) : (calls C2 60 62 [.int .u8 b]).run = some (.int .i64 (valK b)) := by
  have : (calls C2 60 62 [.int .u8 b]).run = bif decide (b < 2) then some (.int .i64 20) else some (.int .i64 30) := by kernel_rfl
  rw [this, ← val2_eq]
  unfold val2
  cases decide (b < 2) <;> rfl
def sVal : List AV → T AV
  | [.int .u8 b] => .leaf (.int .i64 (valK b))
  | _ => .fail
theorem sVal_run : ∀ args v, (sVal args).run = some v → (calls C2 60 62 args).run = some v := by
  intro args v hr
  unfold sVal at hr
  split at hr
  · cases Option.some.inj hr; exact e62 _
  · simp [T.run] at hr
noncomputable def tabV : List (Nat × (List AV → T AV)) := [(62, sVal)]
noncomputable def Cv : Ctx := withSum C2 tabV
theorem okv : Ok Cv := ok_with ok2 (l := tabV) ⟨sum_of_run ok2 (calls_fn ok2 (e62 0)) sVal_run, trivial⟩

def dblN : Nat → Int → Int
  | 0, n => n
  | k + 1, n => dblN k (IntKind.i64.wrap (n + n))
theorem t61 (b d : Int) : ((rng 1 7).flatMap fun a => (rng 0 3).map fun r => (a, r)).map (fun x => (calls Cv 60 61 [con x.1 b x.2 d]).run) =
    ((rng 1 7).flatMap fun a => (rng 0 3).map fun r => (a, r)).map fun x => bif b == 4 then some (.int .i64 (dblN x.2.toNat (IntKind.i64.wrap (IntKind.i64.wrap (x.1 * valK b) + 10)))) else some (.int .i64 (dblN x.2.toNat (IntKind.i64.wrap (x.1 * valK b)))) := by kernel_rfl
theorem valK_b (b : Int) : valK b = 20 ∨ valK b = 30 := by
  unfold valK; cases leI b 1
  · exact .inr rfl
  · exact .inl rfl
theorem dblN_eq {r x : Int} (h0 : 0 ≤ r) (h1 : r ≤ 2) (h2 : 0 ≤ x) (h3 : x ≤ 1000) : dblN r.toNat x = bif r == 0 then x else bif r == 1 then x + x else (x + x) + (x + x) := by
  rcases three h0 h1 with rfl | rfl | rfl
  · rfl
  · show IntKind.i64.wrap (x + x) = x + x
    exact IntWalk.i64_in _ (by omega)
  · show IntKind.i64.wrap (IntKind.i64.wrap (x + x) + IntKind.i64.wrap (x + x)) = (x + x) + (x + x)
    rw [IntWalk.i64_in (x + x) (by omega), IntWalk.i64_in _ (by omega)]
theorem e61 (a b r d : Int) (h1 : 1 ≤ a) (h2 : a ≤ 7) (h3 : 0 ≤ r) (h4 : r ≤ 2) : (calls Cv 60 61 [con a b r d]).run = some (.int .i64 (partK a b r)) := by
  have e := allEq (t61 b d) (a, r) (List.mem_flatMap.2 ⟨a, mem_rng (by omega) (by omega), List.mem_map.2 ⟨r, mem_rng (by omega) (by omega), rfl⟩⟩)
  refine e.trans ?_
  have hv : 20 ≤ a * valK b ∧ a * valK b ≤ 210 := by rcases valK_b b with h | h <;> rw [h] <;> omega
  simp only
  rw [IntWalk.i64_in (a * valK b) (by omega)]
  unfold partK
  cases b == 4
  · rw [cond_false, dblN_eq h3 h4 (by omega) (by omega), cond_false, Int.add_zero]
  · rw [cond_true, IntWalk.i64_in _ (by omega), dblN_eq h3 h4 (by omega) (by omega), cond_true]
def sPart : List AV → T AV
  | [.agg [.int .u8 a, .int .u8 b, .int .u8 r, .int .u8 _]] => .chk (leI 1 a && leI a 7 && leI 0 r && leI r 2) (.leaf (.int .i64 (partK a b r)))
  | _ => .fail
theorem sPart_run : ∀ args v, (sPart args).run = some v → (calls Cv 60 61 args).run = some v := by
  intro args v hr
  unfold sPart at hr
  split at hr
  · obtain ⟨h1, hr⟩ := T.of_chk hr
    simp only [Bool.and_eq_true, leI_iff] at h1
    cases Option.some.inj hr
    exact e61 _ _ _ _ (by omega) (by omega) (by omega) (by omega)
  · simp [T.run] at hr

/-- What is needed, of a contract that is right. -/
def sNeedR : List AV → T AV
  | [.agg [.int .u8 a, .int .u8 b, .int .u8 r, .int .u8 d]] => .chk (u8B a && !(a == 0)) (.chk (right a b r d) (.leaf (.int .i64 (6 + a))))
  | _ => .fail
theorem sNeedR_run : ∀ args v, (sNeedR args).run = some v → (calls C1 60 28 args).run = some v := by
  intro args v hr
  unfold sNeedR at hr
  split at hr
  · obtain ⟨h1, hr⟩ := T.of_chk hr
    obtain ⟨h2, hr⟩ := T.of_chk hr
    simp only [Bool.and_eq_true, Bool.not_eq_true'] at h1
    cases Option.some.inj hr
    refine (e28 _ _ _ _ h1.1).trans ?_
    unfold need
    rw [h1.2, h2]
    rfl
  · simp [T.run] at hr
noncomputable def tabN : List (Nat × (List AV → T AV)) := [(28, sNeedR), (61, sPart)]
theorem allTabN : AllL (SumAt Cv) tabN :=
  ⟨⟨(calls_fn ok1 (e28 0 0 0 0 rfl)).at rfl, fun args v hr => (calls_iso ok1 (sNeedR_run args v hr)).at rfl rfl⟩, sum_of_run okv (calls_fn okv (e61 1 0 0 0 (by decide) (by decide) (by decide) (by decide))) sPart_run, trivial⟩
noncomputable def Cn : Ctx := withSum Cv tabN
theorem okn : Ok Cn := ok_with okv allTabN

def nest {α : Type} : Nat → Bool → α → Option α
  | 0, _, x => some x
  | n + 1, p, x => bif p then nest n p x else none
theorem nest_true {α : Type} : ∀ (n : Nat) (x : α), nest n true x = some x
  | 0, _ => rfl
  | n + 1, x => nest_true n x
def addAll : List Int → Int → Int
  | [], n => n
  | x :: l, n => addAll l (IntKind.i64.wrap (n + x))
theorem addAll_eq : ∀ (l : List Int) (n : Int), (∀ x ∈ l, 0 ≤ x ∧ x ≤ 5000) → 0 ≤ n → n + 5000 * l.length ≤ 1000000000 → addAll l n = n + l.sum
  | [], n, _, _, _ => by simp [addAll]
  | x :: l, n, h, h0, h1 => by
    obtain ⟨a, b⟩ := h x (by simp)
    simp only [List.length_cons] at h1
    show addAll l (IntKind.i64.wrap (n + x)) = _
    rw [IntWalk.i64_in _ (by omega), addAll_eq l (n + x) (fun y hy => h y (by simp [hy])) (by omega) (by omega), List.sum_cons]
    omega
/-- What is added to the points of the contract: level, risk, vulnerability, tricks more. -/
def incs (bonus a r : Int) (v : Bool) (over : Int) (m : Nat) : List Int :=
  bonus :: ((bif a == 6 then [byI v 500 750] else bif a == 7 then [byI v 1000 1500] else []) ++ (bif r == 1 then [50] else bif r == 2 then [100] else []) ++ List.replicate m over)
def domTV (lo n : Nat) : List (Int × Bool) := (rng lo n).flatMap fun t => [(t, false), (t, true)]
theorem mem_domTV {lo n : Nat} {t : Int} (v : Bool) (h3 : (lo : Int) ≤ t) (h4 : t < lo + n) : (t, v) ∈ domTV lo n :=
  List.mem_flatMap.2 ⟨t, mem_rng h3 h4, mem_two (fun v => (t, v)) v⟩
/-- Not made: level, risk. -/
def Lost (a : Nat) (r : Int) : Prop := ∀ b d : Int, (domTV 0 (6 + a)).map (fun x => (calls Cn 80 25 [con a b r d, .int .i64 x.1, .bool x.2]).run) =
  (domTV 0 (6 + a)).map fun x => bif !isRes a b r d x.1 then some (two 0 2) else nest (8 + a - x.1.toNat) (right a b r d) (two (-(downK r (-(x.1 - (6 + a))) x.2)) 0)
/-- Made: level, risk. -/
def Won (a : Nat) (r : Int) : Prop := ∀ b d : Int, (domTV (6 + a) (8 - a)).map (fun x => (calls Cn 80 25 [con a b r d, .int .i64 x.1, .bool x.2]).run) =
  (domTV (6 + a) (8 - a)).map fun x => bif !isRes a b r d x.1 then some (two 0 2) else bif right a b r d then
    (bif decide (partK a b r < 100) then nest 1 (right a b r d) (two (addAll (incs 50 a r x.2 (overK b r x.2) (x.1.toNat - (6 + a))) (partK a b r)) 0)
     else nest 1 (right a b r d) (two (addAll (incs (byI x.2 300 500) a r x.2 (overK b r x.2) (x.1.toNat - (6 + a))) (partK a b r)) 0)) else none
end Go.Proofs.YtfkpbchdapccmaaDoor
