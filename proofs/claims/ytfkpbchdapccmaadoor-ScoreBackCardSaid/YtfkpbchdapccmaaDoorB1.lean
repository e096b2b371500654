import Derived.Test.YtfkpbchdapccmaaDoorCtx
import Derived.Test.YtfkpbchdapccmaaDoorShelf
import Derived.Test.YtfkpbchdapccmaaDoorA2
import Derived.KernelRfl
import Derived.IntWalk

/- The evaluator's context for this seat: what the library's functions give. -/
namespace Go.Proofs.YtfkpbchdapccmaaDoor
open Go Go.Ev

theorem neg13 : AllFrom (fun k => Iso C0 38 [.int .i64 (-(k : Int))] (.str (45 :: num2 k))) 1 13 :=
  ⟨iso_run ok0 (n := 60) (by kernel_rfl), iso_run ok0 (n := 60) (by kernel_rfl), iso_run ok0 (n := 60) (by kernel_rfl), iso_run ok0 (n := 60) (by kernel_rfl), iso_run ok0 (n := 60) (by kernel_rfl), iso_run ok0 (n := 60) (by kernel_rfl), iso_run ok0 (n := 60) (by kernel_rfl), iso_run ok0 (n := 60) (by kernel_rfl), iso_run ok0 (n := 60) (by kernel_rfl), iso_run ok0 (n := 60) (by kernel_rfl), iso_run ok0 (n := 60) (by kernel_rfl), iso_run ok0 (n := 60) (by kernel_rfl), iso_run ok0 (n := 60) (by kernel_rfl), trivial⟩

noncomputable def sumTab : List (Nat × (List AV → T AV)) := [(38, sItoa 13), (40, sAtoi 96), (41, sRepeat), (42, sIndexByte)]
noncomputable def C : Ctx := { C0 with sum := sumAt sumTab }
theorem sumOk1 : SumOk C := sumOk_of (C := C0) (l := sumTab) rfl rfl (fun _ => rfl)
  ⟨sum_Itoa ⟨_, fn38.1, by kernel_rfl, by kernel_rfl⟩ Tryd.strconv_Itoa_small neg13,
   sum_Atoi (g1 := 1) (g2 := 2) ⟨_, fn40.1, by kernel_rfl, by kernel_rfl⟩ rfl rfl Tryd.strconv_Atoi_ok Tryd.strconv_Atoi_syntax Tryd.strconv_Atoi_range,
   sum_Repeat ⟨_, fn41.1, by kernel_rfl, by kernel_rfl⟩ (fun s c w => Tryd.strings_Repeat s c w),
   sum_IndexByte ⟨_, fn42.1, by kernel_rfl, by kernel_rfl⟩ Tryd.strings_IndexByte, trivial⟩
theorem ok : Ok C := ⟨tyOk, eqOk, codeOkAll, sumOk1, mixed⟩
end Go.Proofs.YtfkpbchdapccmaaDoor

/- Chapter 17: the examples. -/
namespace Go.Proofs.YtfkpbchdapccmaaDoor
open Go Go.Ev
theorem awake_run : (calls C 80 12 []).run = some (.bool true) := by kernel_rfl
def sAwake : List AV → T AV
  | [] => .leaf (.bool true)
  | _ => .fail
theorem sumAwake : SumAt C (12, sAwake) := sum_of_run ok (n := 80) (calls_fn ok awake_run) fun args v hr => by
  unfold sAwake at hr
  split at hr
  · cases Option.some.inj hr; exact awake_run
  · simp [T.run] at hr
end Go.Proofs.YtfkpbchdapccmaaDoor

/- Chapter 17: what the small functions give. -/
namespace Go.Proofs.YtfkpbchdapccmaaDoor
open Go Go.Ev

/-- A contract as the evaluator holds it. -/
abbrev con (a b r d : Int) : AV := .agg [.int .u8 a, .int .u8 b, .int .u8 r, .int .u8 d]

def right (a b r d : Int) : Bool := bif a == 0 then b == 0 && (r == 0 && d == 0) else decide (a ≤ 7) && (decide (b ≤ 4) && (decide (r ≤ 2) && decide (d ≤ 3)))

theorem t24 (a b r d : Int) : (calls C 60 24 [con a b r d]).run = bif a == 0 then some (.bool (a == 0 && (b == 0 && (r == 0 && (d == 0 && true))))) else
    bif decide (a ≤ 7) then bif decide (b ≤ 4) then bif decide (r ≤ 2) then some (.bool (decide (d ≤ 3))) else some (.bool false) else some (.bool false) else some (.bool false) := by kernel_rfl
theorem e24 (a b r d : Int) : (calls C 60 24 [con a b r d]).run = some (.bool (right a b r d)) := by
  rw [t24]; unfold right
  cases a == 0 <;> cases decide (a ≤ 7) <;> cases decide (b ≤ 4) <;> cases decide (r ≤ 2) <;> simp

theorem t27 (a b r d : Int) : (calls C 60 27 [con a b r d]).run = bif a == 0 then bif b == 0 then bif r == 0 then some (.bool (d == 0)) else some (.bool false) else some (.bool false) else
    bif decide (a < 8) then bif decide (b < 5) then bif decide (r < 3) then some (.bool (decide (d < 4))) else some (.bool false) else some (.bool false) else some (.bool false) := by kernel_rfl
theorem lt_le (a k : Int) : decide (a < k + 1) = decide (a ≤ k) := by
  by_cases h : a ≤ k
  · rw [decide_eq_true h, decide_eq_true (by omega)]
  · rw [decide_eq_false h, decide_eq_false (by omega)]
theorem e27 (a b r d : Int) : (calls C 60 27 [con a b r d]).run = some (.bool (right a b r d)) := by
  rw [t27]; unfold right
  rw [show decide (a < 8) = _ from lt_le a 7, show decide (b < 5) = _ from lt_le b 4, show decide (r < 3) = _ from lt_le r 2, show decide (d < 4) = _ from lt_le d 3]
  cases a == 0 <;> cases decide (a ≤ 7) <;> cases decide (b ≤ 4) <;> cases decide (r ≤ 2) <;> cases b == 0 <;> cases r == 0 <;> simp

def sRight : List AV → T AV
  | [.agg [.int .u8 a, .int .u8 b, .int .u8 r, .int .u8 d]] => .leaf (.bool (right a b r d))
  | _ => .fail

theorem sRight_run {f : FuncId} (h : ∀ a b r d, (calls C 60 f [con a b r d]).run = some (.bool (right a b r d))) : ∀ args v, (sRight args).run = some v → (calls C 60 f args).run = some v := by
  intro args v hr
  unfold sRight at hr
  split at hr
  · cases Option.some.inj hr; exact h _ _ _ _
  · simp [T.run] at hr

def sBy : List AV → T AV
  | [.bool v, .int .i64 a, .int .i64 b] => .leaf (.int .i64 (bif v then b else a))
  | _ => .fail
theorem e48 (v : Bool) (a b : Int) : (calls C 60 48 [.bool v, .int .i64 a, .int .i64 b]).run = some (.int .i64 (bif v then b else a)) := by
  cases v
  · kernel_rfl
  · kernel_rfl
theorem sBy_run : ∀ args v, (sBy args).run = some v → (calls C 60 48 args).run = some v := by
  intro args v hr
  unfold sBy at hr
  split at hr
  · cases Option.some.inj hr; exact e48 _ _ _
  · simp [T.run] at hr

noncomputable def tab1 : List (Nat × (List AV → T AV)) := [(24, sRight), (27, sRight), (48, sBy)]
theorem allTab1 : AllL (SumAt C) tab1 :=
  ⟨sum_of_run ok (calls_fn ok (e24 0 0 0 0)) (sRight_run e24), sum_of_run ok (calls_fn ok (e27 0 0 0 0)) (sRight_run e27), sum_of_run ok (calls_fn ok (e48 true 0 0)) sBy_run, trivial⟩
noncomputable def C1 : Ctx := withSum C tab1
theorem ok1 : Ok C1 := ok_with ok allTab1
end Go.Proofs.YtfkpbchdapccmaaDoor

/- Chapter 17: what is needed; results. -/
namespace Go.Proofs.YtfkpbchdapccmaaDoor
open Go Go.Ev

def u8B (a : Int) : Bool := leI 0 a && leI a 255
theorem u8B_iff {a : Int} (h : u8B a = true) : 0 ≤ a ∧ a ≤ 255 := by
  simpa [u8B, leI] using h

def need (a b r d : Int) : Int := bif a == 0 then 0 else bif right a b r d then 6 + a else 0
def isRes (a b r d t : Int) : Bool := right a b r d && (leI 0 t && (leI t 13 && (!(a == 0) || t == 0)))

theorem t16 (a b r d : Int) : (calls C1 60 16 [con a b r d]).run = bif a == 0 then some (.int .i64 0) else bif !right a b r d then some (.int .i64 0) else some (.int .i64 (IntKind.i64.wrap (6 + IntKind.i64.wrap a))) := by kernel_rfl
theorem t28 (a b r d : Int) : (calls C1 60 28 [con a b r d]).run = bif !right a b r d then some (.int .i64 0) else bif a == 0 then some (.int .i64 0) else some (.int .i64 (IntKind.i64.wrap (IntKind.i64.wrap a + 6))) := by kernel_rfl
theorem e16 (a b r d : Int) (h : u8B a = true) : (calls C1 60 16 [con a b r d]).run = some (.int .i64 (need a b r d)) := by
  obtain ⟨h0, h1⟩ := u8B_iff h
  rw [t16, IntWalk.i64_in a (by omega), IntWalk.i64_in _ (by omega)]
  unfold need
  cases a == 0 <;> cases right a b r d <;> rfl
theorem e28 (a b r d : Int) (h : u8B a = true) : (calls C1 60 28 [con a b r d]).run = some (.int .i64 (need a b r d)) := by
  obtain ⟨h0, h1⟩ := u8B_iff h
  rw [t28, IntWalk.i64_in a (by omega), IntWalk.i64_in _ (by omega), Int.add_comm]
  unfold need
  cases a == 0 <;> cases right a b r d <;> rfl
end Go.Proofs.YtfkpbchdapccmaaDoor

/- Chapter 17: results; the next context. -/
namespace Go.Proofs.YtfkpbchdapccmaaDoor
open Go Go.Ev

def sNeed : List AV → T AV
  | [.agg [.int .u8 a, .int .u8 b, .int .u8 r, .int .u8 d]] => .chk (u8B a) (.leaf (.int .i64 (need a b r d)))
  | _ => .fail
theorem sNeed_run {f : FuncId} (h : ∀ a b r d, u8B a = true → (calls C1 60 f [con a b r d]).run = some (.int .i64 (need a b r d))) : ∀ args v, (sNeed args).run = some v → (calls C1 60 f args).run = some v := by
  intro args v hr
  unfold sNeed at hr
  split at hr
  · obtain ⟨h1, hr⟩ := T.of_chk hr
    cases Option.some.inj hr
    exact h _ _ _ _ h1
  · simp [T.run] at hr

theorem t35 (a b r d t : Int) : (calls C1 60 35 [con a b r d, .int .i64 t]).run = bif right a b r d then bif decide (t ≥ 0) then bif decide (t ≤ 13) then bif decide (a > 0) then some (.bool true) else some (.bool (t == 0)) else some (.bool false) else some (.bool false) else some (.bool false) := by kernel_rfl
theorem t43 (a b r d t : Int) : (calls C1 60 43 [con a b r d, .int .i64 t]).run = bif !right a b r d then some (.bool false) else bif decide (t < 0) then some (.bool false) else bif decide (t > 13) then some (.bool false) else bif decide (a > 0) then some (.bool true) else some (.bool (t == 0)) := by kernel_rfl

theorem gt0 (a : Int) (h : 0 ≤ a) : decide (a > 0) = !(a == 0) := by
  by_cases h0 : a = 0
  · subst h0; rfl
  · rw [decide_eq_true (by omega)]
    have : (a == 0) = false := by simpa using h0
    rw [this]; rfl
theorem e35 (a b r d t : Int) (h : u8B a = true) : (calls C1 60 35 [con a b r d, .int .i64 t]).run = some (.bool (isRes a b r d t)) := by
  obtain ⟨h0, _⟩ := u8B_iff h
  rw [t35, gt0 a h0]
  unfold isRes leI
  cases right a b r d <;> cases h1 : decide (t ≥ 0) <;> cases h2 : decide (t ≤ 13) <;> cases a == 0 <;> simp_all
theorem e43 (a b r d t : Int) (h : u8B a = true) : (calls C1 60 43 [con a b r d, .int .i64 t]).run = some (.bool (isRes a b r d t)) := by
  obtain ⟨h0, _⟩ := u8B_iff h
  rw [t43, gt0 a h0]
  unfold isRes leI
  have e1 : decide (t < 0) = !decide (0 ≤ t) := by by_cases h : 0 ≤ t <;> simp [h] <;> omega
  have e2 : decide (t > 13) = !decide (t ≤ 13) := by by_cases h : t ≤ 13 <;> simp [h] <;> omega
  rw [e1, e2]
  cases right a b r d <;> cases decide (0 ≤ t) <;> cases decide (t ≤ 13) <;> cases a == 0 <;> rfl
end Go.Proofs.YtfkpbchdapccmaaDoor

/- Chapter 17: what the functions compute, in plain terms. -/
namespace Go.Proofs.YtfkpbchdapccmaaDoor
open Go Go.Ev

/-- Numbers from 'lo' on. -/
def rng (lo n : Nat) : List Int := (List.range n).map fun i => ((lo + i : Nat) : Int)
theorem mem_rng {lo n : Nat} {x : Int} (h1 : (lo : Int) ≤ x) (h2 : x < (lo : Int) + (n : Int)) : x ∈ rng lo n :=
  List.mem_map.2 ⟨(x - lo).toNat, List.mem_range.2 (by omega), by omega⟩

def vul (v s : Int) : Bool := leI v 3 && (leI s 3 && (bif s == 0 || s == 2 then v == 1 || v == 3 else v == 2 || v == 3))
def byI (v : Bool) (a b : Int) : Int := bif v then b else a
def valK (b : Int) : Int := bif leI b 1 then 20 else 30
def partK (a b r : Int) : Int := let p := a * valK b + (bif b == 4 then 10 else 0); bif r == 0 then p else bif r == 1 then p + p else (p + p) + (p + p)
def overK (b r : Int) (v : Bool) : Int := bif r == 0 then valK b else bif r == 1 then byI v 100 200 else byI v 200 400
def madeK (a b r : Int) (v : Bool) : Int :=
  let p := partK a b r
  p + (bif leI 100 p then byI v 300 500 else 50) + (bif a == 6 then byI v 500 750 else bif a == 7 then byI v 1000 1500 else 0) + 50 * r
def downK (r m : Int) (v : Bool) : Int :=
  let dbl := bif v then 300 * m - 100 else 200 * m - 100 + 100 * (bif decide (0 > m - 3) then 0 else m - 3)
  bif r == 0 then byI v 50 100 * m else bif r == 1 then dbl else 2 * dbl
/-- The points of a result, and the error's number. -/
def ptsOf (a b r t : Int) (v : Bool) : Int := bif leI 0 (t - (6 + a)) then madeK a b r v + (t - (6 + a)) * overK b r v else -(downK r (-(t - (6 + a))) v)
def pts (a b r d t : Int) (v : Bool) : Int := bif isRes a b r d t then (bif a == 0 then 0 else ptsOf a b r t v) else 0
def ptsE (a b r d t : Int) : Int := bif isRes a b r d t then 0 else 2

/-- What a list of tests says. -/
def domA : List (Int × Int × Int × Bool) := (rng 1 7).flatMap fun a => (rng 0 5).flatMap fun b => (rng 0 3).flatMap fun r => [(a, b, r, false), (a, b, r, true)]
theorem mem_two {α : Type} (f : Bool → α) (v : Bool) : f v ∈ [f false, f true] := by cases v <;> simp
theorem mem_domA {a b r : Int} (v : Bool) (h1 : 1 ≤ a) (h2 : a ≤ 7) (h3 : 0 ≤ b) (h4 : b ≤ 4) (h5 : 0 ≤ r) (h6 : r ≤ 2) : (a, b, r, v) ∈ domA :=
  List.mem_flatMap.2 ⟨a, mem_rng (by omega) (by omega), List.mem_flatMap.2 ⟨b, mem_rng (by omega) (by omega), List.mem_flatMap.2 ⟨r, mem_rng (by omega) (by omega), mem_two (fun v => (a, b, r, v)) v⟩⟩⟩
theorem allEq {α β : Type} {l : List α} {f g : α → β} (h : l.map f = l.map g) : ∀ x ∈ l, f x = g x := List.map_inj_left.1 h
end Go.Proofs.YtfkpbchdapccmaaDoor

/- Chapter 17: the points of a result. -/
namespace Go.Proofs.YtfkpbchdapccmaaDoor
open Go Go.Ev

theorem t36 (m d : Int) : domA.map (fun x => (calls C1 60 36 [con x.1 x.2.1 x.2.2.1 d, .int .i64 m, .bool x.2.2.2]).run) =
    domA.map fun x => some (.int .i64 (IntKind.i64.wrap (madeK x.1 x.2.1 x.2.2.1 x.2.2.2 + IntKind.i64.wrap (m * overK x.2.1 x.2.2.1 x.2.2.2)))) := by kernel_rfl
theorem t37 (m : Int) : [(0, false), (0, true), (1, false), (1, true), (2, false), (2, true)].map (fun x => (calls C1 60 37 [.int .u8 x.1, .int .i64 m, .bool x.2]).run) = [
    some (.int .i64 (IntKind.i64.wrap (50 * m))), some (.int .i64 (IntKind.i64.wrap (100 * m))),
    some (.int .i64 (IntKind.i64.wrap (IntKind.i64.wrap (IntKind.i64.wrap (200 * m) - 100) + IntKind.i64.wrap (100 * bif decide (0 > IntKind.i64.wrap (m - 3)) then 0 else IntKind.i64.wrap (m - 3))))),
    some (.int .i64 (IntKind.i64.wrap (IntKind.i64.wrap (300 * m) - 100))),
    some (.int .i64 (IntKind.i64.wrap (2 * IntKind.i64.wrap (IntKind.i64.wrap (IntKind.i64.wrap (200 * m) - 100) + IntKind.i64.wrap (100 * bif decide (0 > IntKind.i64.wrap (m - 3)) then 0 else IntKind.i64.wrap (m - 3)))))),
    some (.int .i64 (IntKind.i64.wrap (2 * IntKind.i64.wrap (IntKind.i64.wrap (300 * m) - 100))))] := by kernel_rfl
end Go.Proofs.YtfkpbchdapccmaaDoor

/- Chapter 17: vulnerability, points made and lost, as sums. -/
namespace Go.Proofs.YtfkpbchdapccmaaDoor
open Go Go.Ev

theorem four {x : Int} (h0 : 0 ≤ x) (h : x ≤ 3) : x = 0 ∨ x = 1 ∨ x = 2 ∨ x = 3 := by omega
theorem leI_iff {a b : Int} : leI a b = true ↔ a ≤ b := by simp [leI]
theorem leI_not {a b : Int} : leI a b = false ↔ b < a := by simp [leI]

theorem t19 (v s : Int) : (calls C1 60 19 [.int .u8 v, .int .u8 s]).run = bif decide (v ≤ 3) then
    bif decide (s ≤ 3) then
      bif decide (0 ≤ s.tmod 2) then
        some (.bool (IntKind.u8.wrap (BitVec.ofInt IntKind.u8.bits (v.fdiv (2 ^ min (s.tmod 2).toNat IntKind.u8.bits)) &&& BitVec.ofInt IntKind.u8.bits 1).toNat == 1))
      else none
    else some (.bool (false))
  else some (.bool (false)) := by kernel_rfl
theorem t29 (v s : Int) : (calls C1 60 29 [.int .u8 v, .int .u8 s]).run = bif decide (v > 3) then some (.bool (false)) else
  bif decide (s > 3) then some (.bool (false)) else
    bif s == 0 then (bif v == 1 then some (.bool (true)) else some (.bool (v == 3)))
    else bif s == 2 then (bif v == 1 then some (.bool (true)) else some (.bool (v == 3)))
      else bif v == 2 then some (.bool (true)) else some (.bool (v == 3)) := by kernel_rfl
theorem e19 (v s : Int) (hv : u8B v = true) (hs : u8B s = true) : (calls C1 60 19 [.int .u8 v, .int .u8 s]).run = some (.bool (vul v s)) := by
  rw [t19]
  obtain ⟨h0, _⟩ := u8B_iff hv
  obtain ⟨h1, _⟩ := u8B_iff hs
  by_cases h2 : v ≤ 3
  · by_cases h3 : s ≤ 3
    · rcases four h0 h2 with rfl | rfl | rfl | rfl <;> rcases four h1 h3 with rfl | rfl | rfl | rfl <;> rfl
    · rw [decide_eq_true h2, decide_eq_false h3]; simp [vul, leI, h3]
  · rw [decide_eq_false h2]; simp [vul, leI, h2]
theorem e29 (v s : Int) (hv : u8B v = true) (hs : u8B s = true) : (calls C1 60 29 [.int .u8 v, .int .u8 s]).run = some (.bool (vul v s)) := by
  rw [t29]
  obtain ⟨h0, _⟩ := u8B_iff hv
  obtain ⟨h1, _⟩ := u8B_iff hs
  by_cases h2 : v ≤ 3
  · by_cases h3 : s ≤ 3
    · rcases four h0 h2 with rfl | rfl | rfl | rfl <;> rcases four h1 h3 with rfl | rfl | rfl | rfl <;> rfl
    · rw [decide_eq_false (by omega : ¬ v > 3), decide_eq_true (by omega : s > 3)]; simp [vul, leI, h3]
  · rw [decide_eq_true (by omega : v > 3)]; simp [vul, leI, h2]
def sVul : List AV → T AV
  | [.int .u8 v, .int .u8 s] => .chk (u8B v && u8B s) (.leaf (.bool (vul v s)))
  | _ => .fail
theorem sVul_run {f : FuncId} (h : ∀ v s, u8B v = true → u8B s = true → (calls C1 60 f [.int .u8 v, .int .u8 s]).run = some (.bool (vul v s))) : ∀ args v, (sVul args).run = some v → (calls C1 60 f args).run = some v := by
  intro args v hr
  unfold sVul at hr
  split at hr
  · obtain ⟨h1, hr⟩ := T.of_chk hr
    simp only [Bool.and_eq_true] at h1
    cases Option.some.inj hr
    exact h _ _ h1.1 h1.2
  · simp [T.run] at hr

def sRes : List AV → T AV
  | [.agg [.int .u8 a, .int .u8 b, .int .u8 r, .int .u8 d], .int .i64 t] => .chk (u8B a) (.leaf (.bool (isRes a b r d t)))
  | _ => .fail
theorem sRes_run {f : FuncId} (h : ∀ a b r d t, u8B a = true → (calls C1 60 f [con a b r d, .int .i64 t]).run = some (.bool (isRes a b r d t))) : ∀ args v, (sRes args).run = some v → (calls C1 60 f args).run = some v := by
  intro args v hr
  unfold sRes at hr
  split at hr
  · obtain ⟨h1, hr⟩ := T.of_chk hr
    cases Option.some.inj hr
    exact h _ _ _ _ _ h1
  · simp [T.run] at hr

theorem madeK_bound : domA.all (fun x => leI 0 (madeK x.1 x.2.1 x.2.2.1 x.2.2.2) && leI (madeK x.1 x.2.1 x.2.2.1 x.2.2.2) 5000 && leI 0 (overK x.2.1 x.2.2.1 x.2.2.2) && leI (overK x.2.1 x.2.2.1 x.2.2.2) 400) = true := by kernel_rfl
/-- The limits of what is made. -/
def madeB (a b r m : Int) : Bool := leI 1 a && leI a 7 && leI 0 b && leI b 4 && leI 0 r && leI r 2 && leI 0 m && leI m 13
theorem madeB_iff {a b r m : Int} (h : madeB a b r m = true) : 1 ≤ a ∧ a ≤ 7 ∧ 0 ≤ b ∧ b ≤ 4 ∧ 0 ≤ r ∧ r ≤ 2 ∧ 0 ≤ m ∧ m ≤ 13 := by
  simp only [madeB, Bool.and_eq_true, leI_iff] at h; omega
theorem mul_le {m k M K : Int} (h0 : 0 ≤ m) (h1 : m ≤ M) (h2 : 0 ≤ k) (h3 : k ≤ K) : 0 ≤ m * k ∧ m * k ≤ M * K :=
  ⟨Int.mul_nonneg h0 h2, Int.mul_le_mul h1 h3 h2 (by omega)⟩
theorem e36 (a b r d m : Int) (v : Bool) (h : madeB a b r m = true) : (calls C1 60 36 [con a b r d, .int .i64 m, .bool v]).run = some (.int .i64 (madeK a b r v + m * overK b r v)) := by
  obtain ⟨h1, h2, h3, h4, h5, h6, h7, h8⟩ := madeB_iff h
  have hm := mem_domA v h1 h2 h3 h4 h5 h6
  have e := allEq (t36 m d) _ hm
  have bd := List.all_eq_true.1 madeK_bound _ hm
  simp only [Bool.and_eq_true, leI_iff] at bd
  obtain ⟨⟨⟨b1, b2⟩, b3⟩, b4⟩ := bd
  refine e.trans ?_
  obtain ⟨c1, c2⟩ := mul_le h7 h8 b3 b4
  simp only
  rw [IntWalk.i64_in (m * overK b r v) (by omega), IntWalk.i64_in _ (by omega)]
def sMade : List AV → T AV
  | [.agg [.int .u8 a, .int .u8 b, .int .u8 r, .int .u8 _], .int .i64 m, .bool v] => .chk (madeB a b r m) (.leaf (.int .i64 (madeK a b r v + m * overK b r v)))
  | _ => .fail
theorem sMade_run : ∀ args v, (sMade args).run = some v → (calls C1 60 36 args).run = some v := by
  intro args v hr
  unfold sMade at hr
  split at hr
  · obtain ⟨h1, hr⟩ := T.of_chk hr
    cases Option.some.inj hr
    exact e36 _ _ _ _ _ _ h1
  · simp [T.run] at hr

def downB (r m : Int) : Bool := leI 0 r && leI r 2 && leI 0 m && leI m 13
theorem three {x : Int} (h0 : 0 ≤ x) (h : x ≤ 2) : x = 0 ∨ x = 1 ∨ x = 2 := by omega
theorem bif_max (m : Int) (h0 : 0 ≤ m) (h1 : m ≤ 13) : 0 ≤ (bif decide (0 > m - 3) then 0 else m - 3) ∧ (bif decide (0 > m - 3) then 0 else m - 3) ≤ 10 := by
  by_cases h : 0 > m - 3
  · rw [decide_eq_true h]; simp
  · rw [decide_eq_false h]; simp only [cond_false]; omega
theorem e37 (r m : Int) (v : Bool) (h : downB r m = true) : (calls C1 60 37 [.int .u8 r, .int .i64 m, .bool v]).run = some (.int .i64 (downK r m v)) := by
  simp only [downB, Bool.and_eq_true, leI_iff] at h
  obtain ⟨⟨⟨h1, h2⟩, h3⟩, h4⟩ := h
  have t := t37 m
  simp only [List.map_cons, List.map_nil, List.cons.injEq, and_true] at t
  obtain ⟨a1, a2, a3, a4, a5, a6⟩ := t
  have w := fun x h => IntWalk.i64_in x h
  obtain ⟨m1, m2⟩ := bif_max m h3 h4
  rcases three h1 h2 with rfl | rfl | rfl <;> cases v
  · rw [a1, w _ (by omega)]; rfl
  · rw [a2, w _ (by omega)]; rfl
  · rw [a3, w (m - 3) (by omega), w (200 * m) (by omega), w (200 * m - 100) (by omega), w (100 * _) (by omega), w _ (by omega)]; rfl
  · rw [a4, w (300 * m) (by omega), w _ (by omega)]; rfl
  · rw [a5, w (m - 3) (by omega), w (200 * m) (by omega), w (200 * m - 100) (by omega), w (100 * _) (by omega), w (200 * m - 100 + _) (by omega), w _ (by omega)]; rfl
  · rw [a6, w (300 * m) (by omega), w (300 * m - 100) (by omega), w _ (by omega)]; rfl
def sDown : List AV → T AV
  | [.int .u8 r, .int .i64 m, .bool v] => .chk (downB r m) (.leaf (.int .i64 (downK r m v)))
  | _ => .fail
theorem sDown_run : ∀ args v, (sDown args).run = some v → (calls C1 60 37 args).run = some v := by
  intro args v hr
  unfold sDown at hr
  split at hr
  · obtain ⟨h1, hr⟩ := T.of_chk hr
    cases Option.some.inj hr
    exact e37 _ _ _ h1
  · simp [T.run] at hr

noncomputable def tab2 : List (Nat × (List AV → T AV)) := [(16, sNeed), (28, sNeed), (35, sRes), (43, sRes), (19, sVul), (29, sVul), (36, sMade), (37, sDown)]
theorem allTab2 : AllL (SumAt C1) tab2 :=
  ⟨sum_of_run ok1 (calls_fn ok1 (e16 0 0 0 0 rfl)) (sNeed_run e16), sum_of_run ok1 (calls_fn ok1 (e28 0 0 0 0 rfl)) (sNeed_run e28), sum_of_run ok1 (calls_fn ok1 (e35 0 0 0 0 0 rfl)) (sRes_run e35), sum_of_run ok1 (calls_fn ok1 (e43 0 0 0 0 0 rfl)) (sRes_run e43),
   sum_of_run ok1 (calls_fn ok1 (e19 0 0 rfl rfl)) (sVul_run e19), sum_of_run ok1 (calls_fn ok1 (e29 0 0 rfl rfl)) (sVul_run e29), sum_of_run ok1 (calls_fn ok1 (e36 1 0 0 0 0 true rfl)) sMade_run, sum_of_run ok1 (calls_fn ok1 (e37 0 0 true rfl)) sDown_run, trivial⟩
noncomputable def C2 : Ctx := withSum C1 tab2
theorem ok2 : Ok C2 := ok_with ok1 allTab2
end Go.Proofs.YtfkpbchdapccmaaDoor

/- Chapter 17: Points, as the program has them; texts. -/
namespace Go.Proofs.YtfkpbchdapccmaaDoor
open Go Go.Ev

def two (n e : Int) : AV := .tup [.int .i64 n, .int .i64 e]
def conB (a b r d : Int) : Bool := u8B a && (u8B b && (u8B r && u8B d))
theorem conB_iff {a b r d : Int} (h : conB a b r d = true) : (0 ≤ a ∧ a ≤ 255) ∧ (0 ≤ b ∧ b ≤ 255) ∧ (0 ≤ r ∧ r ≤ 255) ∧ (0 ≤ d ∧ d ≤ 255) := by
  simp only [conB, Bool.and_eq_true] at h
  exact ⟨u8B_iff h.1, u8B_iff h.2.1, u8B_iff h.2.2.1, u8B_iff h.2.2.2⟩
theorem conB_a {a b r d : Int} (h : conB a b r d = true) : u8B a = true := by
  simp only [conB, Bool.and_eq_true] at h; exact h.1
theorem conB_d {a b r d : Int} (h : conB a b r d = true) : u8B d = true := by
  simp only [conB, Bool.and_eq_true] at h; exact h.2.2.2
theorem right_iff {a b r d : Int} (h : conB a b r d = true) (h0 : (a == 0) = false) : right a b r d = true ↔ (1 ≤ a ∧ a ≤ 7) ∧ (0 ≤ b ∧ b ≤ 4) ∧ (0 ≤ r ∧ r ≤ 2) ∧ (0 ≤ d ∧ d ≤ 3) := by
  have hb := conB_iff h
  have h0' : ¬ a = 0 := by simpa using h0
  simp only [right, h0, cond_false, Bool.and_eq_true, decide_eq_true_eq]
  omega
theorem right_zero {b r d : Int} : right 0 b r d = true ↔ b = 0 ∧ r = 0 ∧ d = 0 := by
  simp [right]
theorem isRes_iff {a b r d t : Int} : isRes a b r d t = true ↔ right a b r d = true ∧ 0 ≤ t ∧ t ≤ 13 ∧ (a = 0 → t = 0) := by
  simp only [isRes, Bool.and_eq_true, leI_iff, Bool.or_eq_true, Bool.not_eq_true', beq_iff_eq, beq_eq_false_iff_ne, ne_eq]
  constructor
  · rintro ⟨h1, h2, h3, h4⟩; exact ⟨h1, h2, h3, fun e => h4.resolve_left (fun x => x e)⟩
  · rintro ⟨h1, h2, h3, h4⟩
    refine ⟨h1, h2, h3, ?_⟩
    by_cases e : a = 0
    · exact .inr (h4 e)
    · exact .inl e
theorem need_eq {a b r d : Int} (h : right a b r d = true) (h0 : (a == 0) = false) : need a b r d = 6 + a := by
  unfold need; rw [h0, h]; rfl

theorem t18 (a b r d t : Int) (v : Bool) : (calls C2 60 18 [con a b r d, .int .i64 t, .bool v]).run = bif u8B a then bif u8B a then
    bif !isRes a b r d t then some (two 0 2)
    else bif a == 0 then some (two 0 0)
      else bif decide (IntKind.i64.wrap (t - need a b r d) ≥ 0) then
          bif madeB a b r (IntKind.i64.wrap (t - need a b r d)) then some (two (madeK a b r v + IntKind.i64.wrap (t - need a b r d) * overK b r v) 0) else none
        else bif downB r (IntKind.i64.wrap (0 - IntKind.i64.wrap (t - need a b r d))) then some (two (IntKind.i64.wrap (0 - downK r (IntKind.i64.wrap (0 - IntKind.i64.wrap (t - need a b r d))) v)) 0) else none
  else none else none := by kernel_rfl
theorem bif_t {α : Type} {b : Bool} {x y : α} (h : b = true) : (bif b then x else y) = x := by rw [h]; rfl
theorem bif_f {α : Type} {b : Bool} {x y : α} (h : b = false) : (bif b then x else y) = y := by rw [h]; rfl
theorem downK_bound {r m : Int} (v : Bool) (h : downB r m = true) : 0 ≤ downK r m v + 200 ∧ downK r m v ≤ 10000 := by
  simp only [downB, Bool.and_eq_true, leI_iff] at h
  obtain ⟨m1, m2⟩ := bif_max m (by omega) (by omega)
  rcases three h.1.1.1 h.1.1.2 with rfl | rfl | rfl <;> cases v <;> simp only [downK, byI, beq_self_eq_true, cond_true, cond_false, Int.reduceBEq, (by decide : ((1 : Int) == 0) = false), (by decide : ((2 : Int) == 0) = false), (by decide : ((2 : Int) == 1) = false)] <;> omega
theorem e18 (a b r d t : Int) (v : Bool) (h : conB a b r d = true) : (calls C2 60 18 [con a b r d, .int .i64 t, .bool v]).run = some (two (pts a b r d t v) (ptsE a b r d t)) := by
  rw [t18, bif_t (conB_a h), bif_t (conB_a h)]
  cases hr : isRes a b r d t
  · rw [bif_t (b := !false) rfl]; unfold pts ptsE; rw [hr]; rfl
  · rw [bif_f (b := !true) rfl]
    obtain ⟨hr1, h1, h2, h3⟩ := isRes_iff.1 hr
    cases h0 : a == 0
    · obtain ⟨ha, hb, hc, hd⟩ := (right_iff h h0).1 hr1
      rw [bif_f rfl, need_eq hr1 h0, IntWalk.i64_in (t - (6 + a)) (by omega)]
      unfold pts ptsE ptsOf
      rw [hr, bif_t rfl, bif_t rfl, h0, bif_f rfl]
      by_cases hm : 0 ≤ t - (6 + a)
      · rw [bif_t (decide_eq_true hm), bif_t (by simp only [madeB, Bool.and_eq_true, leI_iff]; omega), bif_t (leI_iff.2 hm)]
      · have hm' : leI 0 (t - (6 + a)) = false := leI_not.2 (by omega)
        have e : 0 - (t - (6 + a)) = -(t - (6 + a)) := by omega
        have hb : downB r (-(t - (6 + a))) = true := by simp only [downB, Bool.and_eq_true, leI_iff]; omega
        have := downK_bound v hb
        rw [bif_f (decide_eq_false (by omega)), bif_f hm', IntWalk.i64_in (0 - (t - (6 + a))) (by omega), e, bif_t hb, IntWalk.i64_in _ (by omega)]
        rw [show 0 - downK r (-(t - (6 + a))) v = -downK r (-(t - (6 + a))) v by omega]
    · rw [bif_t rfl]; unfold pts ptsE; rw [hr, h0]; rfl
def sPts : List AV → T AV
  | [.agg [.int .u8 a, .int .u8 b, .int .u8 r, .int .u8 d], .int .i64 t, .bool v] => .chk (conB a b r d) (.leaf (two (pts a b r d t v) (ptsE a b r d t)))
  | _ => .fail
theorem sPts_run {C : Ctx} {n : Nat} {f : FuncId} (h : ∀ a b r d t v, conB a b r d = true → (calls C n f [con a b r d, .int .i64 t, .bool v]).run = some (two (pts a b r d t v) (ptsE a b r d t))) : ∀ args v, (sPts args).run = some v → (calls C n f args).run = some v := by
  intro args v hr
  unfold sPts at hr
  split at hr
  · obtain ⟨h1, hr⟩ := T.of_chk hr
    cases Option.some.inj hr
    exact h _ _ _ _ _ _ h1
  · simp [T.run] at hr
end Go.Proofs.YtfkpbchdapccmaaDoor

/- Chapter 17: the reference's points: the context. -/
namespace Go.Proofs.YtfkpbchdapccmaaDoor
open Go Go.Ev

def val2 (b : Int) : Int := bif decide (b < 2) then 20 else 30
theorem val2_eq (b : Int) : val2 b = valK b := by
  unfold val2 valK leI
  by_cases h : b < 2
  · rw [decide_eq_true h, decide_eq_true (by omega : b ≤ 1)]
  · rw [decide_eq_false h, decide_eq_false (by omega : ¬ b ≤ 1)]
theorem e62 (b : Int) : (calls C2 60 62 [.int .u8 b]).run = some (.int .i64 (valK b)) := by
  have : (calls C2 60 62 [.int .u8 b]).run = bif decide (b < 2) then some (.int .i64 20) else some (.int .i64 30) := by kernel_rfl
  rw [this, ← val2_eq]
  unfold val2
  cases decide (b < 2) <;> rfl
def sVal : List AV → T AV
  | [.int .u8 b] => .leaf (.int .i64 (valK b))
  | _ => .fail
theorem sVal_run : ∀ args v, (sVal args).run = some v → (calls C2 60 62 args).run = some v := by
  intro args v hr
  unfold sVal at hr
  split at hr
  · cases Option.some.inj hr; exact e62 _
  · simp [T.run] at hr
noncomputable def tabV : List (Nat × (List AV → T AV)) := [(62, sVal)]
noncomputable def Cv : Ctx := withSum C2 tabV
theorem okv : Ok Cv := ok_with ok2 (l := tabV) ⟨sum_of_run ok2 (calls_fn ok2 (e62 0)) sVal_run, trivial⟩

def dblN : Nat → Int → Int
  | 0, n => n
  | k + 1, n => dblN k (IntKind.i64.wrap (n + n))
theorem t61 (b d : Int) : ((rng 1 7).flatMap fun a => (rng 0 3).map fun r => (a, r)).map (fun x => (calls Cv 60 61 [con x.1 b x.2 d]).run) =
    ((rng 1 7).flatMap fun a => (rng 0 3).map fun r => (a, r)).map fun x => bif b == 4 then some (.int .i64 (dblN x.2.toNat (IntKind.i64.wrap (IntKind.i64.wrap (x.1 * valK b) + 10)))) else some (.int .i64 (dblN x.2.toNat (IntKind.i64.wrap (x.1 * valK b)))) := by kernel_rfl
theorem valK_b (b : Int) : valK b = 20 ∨ valK b = 30 := by
  unfold valK; cases leI b 1
  · exact .inr rfl
  · exact .inl rfl
theorem dblN_eq {r x : Int} (h0 : 0 ≤ r) (h1 : r ≤ 2) (h2 : 0 ≤ x) (h3 : x ≤ 1000) : dblN r.toNat x = bif r == 0 then x else bif r == 1 then x + x else (x + x) + (x + x) := by
  rcases three h0 h1 with rfl | rfl | rfl
  · rfl
  · show IntKind.i64.wrap (x + x) = x + x
    exact IntWalk.i64_in _ (by omega)
  · show IntKind.i64.wrap (IntKind.i64.wrap (x + x) + IntKind.i64.wrap (x + x)) = (x + x) + (x + x)
    rw [IntWalk.i64_in (x + x) (by omega), IntWalk.i64_in _ (by omega)]
theorem e61 (a b r d : Int) (h1 : 1 ≤ a) (h2 : a ≤ 7) (h3 : 0 ≤ r) (h4 : r ≤ 2) : (calls Cv 60 61 [con a b r d]).run = some (.int .i64 (partK a b r)) := by
  have e := allEq (t61 b d) (a, r) (List.mem_flatMap.2 ⟨a, mem_rng (by omega) (by omega), List.mem_map.2 ⟨r, mem_rng (by omega) (by omega), rfl⟩⟩)
  refine e.trans ?_
  have hv : 20 ≤ a * valK b ∧ a * valK b ≤ 210 := by rcases valK_b b with h | h <;> rw [h] <;> omega
  simp only
  rw [IntWalk.i64_in (a * valK b) (by omega)]
  unfold partK
  cases b == 4
  · rw [cond_false, dblN_eq h3 h4 (by omega) (by omega), cond_false, Int.add_zero]
  · rw [cond_true, IntWalk.i64_in _ (by omega), dblN_eq h3 h4 (by omega) (by omega), cond_true]
def sPart : List AV → T AV
  | [.agg [.int .u8 a, .int .u8 b, .int .u8 r, .int .u8 _]] => .chk (leI 1 a && leI a 7 && leI 0 r && leI r 2) (.leaf (.int .i64 (partK a b r)))
  | _ => .fail
theorem sPart_run : ∀ args v, (sPart args).run = some v → (calls Cv 60 61 args).run = some v := by
  intro args v hr
  unfold sPart at hr
  split at hr
  · obtain ⟨h1, hr⟩ := T.of_chk hr
    simp only [Bool.and_eq_true, leI_iff] at h1
    cases Option.some.inj hr
    exact e61 _ _ _ _ (by omega) (by omega) (by omega) (by omega)
  · simp [T.run] at hr

/-- What is needed, of a contract that is right. -/
def sNeedR : List AV → T AV
  | [.agg [.int .u8 a, .int .u8 b, .int .u8 r, .int .u8 d]] => .chk (u8B a && !(a == 0)) (.chk (right a b r d) (.leaf (.int .i64 (6 + a))))
  | _ => .fail
theorem sNeedR_run : ∀ args v, (sNeedR args).run = some v → (calls C1 60 28 args).run = some v := by
  intro args v hr
  unfold sNeedR at hr
  split at hr
  · obtain ⟨h1, hr⟩ := T.of_chk hr
    obtain ⟨h2, hr⟩ := T.of_chk hr
    simp only [Bool.and_eq_true, Bool.not_eq_true'] at h1
    cases Option.some.inj hr
    refine (e28 _ _ _ _ h1.1).trans ?_
    unfold need
    rw [h1.2, h2]
    rfl
  · simp [T.run] at hr
noncomputable def tabN : List (Nat × (List AV → T AV)) := [(28, sNeedR), (61, sPart)]
theorem allTabN : AllL (SumAt Cv) tabN :=
  ⟨⟨(calls_fn ok1 (e28 0 0 0 0 rfl)).at rfl, fun args v hr => (calls_iso ok1 (sNeedR_run args v hr)).at rfl rfl⟩, sum_of_run okv (calls_fn okv (e61 1 0 0 0 (by decide) (by decide) (by decide) (by decide))) sPart_run, trivial⟩
noncomputable def Cn : Ctx := withSum Cv tabN
theorem okn : Ok Cn := ok_with okv allTabN

def nest {α : Type} : Nat → Bool → α → Option α
  | 0, _, x => some x
  | n + 1, p, x => bif p then nest n p x else none
theorem nest_true {α : Type} : ∀ (n : Nat) (x : α), nest n true x = some x
  | 0, _ => rfl
  | n + 1, x => nest_true n x
def addAll : List Int → Int → Int
  | [], n => n
  | x :: l, n => addAll l (IntKind.i64.wrap (n + x))
theorem addAll_eq : ∀ (l : List Int) (n : Int), (∀ x ∈ l, 0 ≤ x ∧ x ≤ 5000) → 0 ≤ n → n + 5000 * l.length ≤ 1000000000 → addAll l n = n + l.sum
  | [], n, _, _, _ => by simp [addAll]
  | x :: l, n, h, h0, h1 => by
    obtain ⟨a, b⟩ := h x (by simp)
    simp only [List.length_cons] at h1
    show addAll l (IntKind.i64.wrap (n + x)) = _
    rw [IntWalk.i64_in _ (by omega), addAll_eq l (n + x) (fun y hy => h y (by simp [hy])) (by omega) (by omega), List.sum_cons]
    omega
/-- What is added to the points of the contract: level, risk, vulnerability, tricks more. -/
def incs (bonus a r : Int) (v : Bool) (over : Int) (m : Nat) : List Int :=
  bonus :: ((bif a == 6 then [byI v 500 750] else bif a == 7 then [byI v 1000 1500] else []) ++ (bif r == 1 then [50] else bif r == 2 then [100] else []) ++ List.replicate m over)
def domTV (lo n : Nat) : List (Int × Bool) := (rng lo n).flatMap fun t => [(t, false), (t, true)]
theorem mem_domTV {lo n : Nat} {t : Int} (v : Bool) (h3 : (lo : Int) ≤ t) (h4 : t < lo + n) : (t, v) ∈ domTV lo n :=
  List.mem_flatMap.2 ⟨t, mem_rng h3 h4, mem_two (fun v => (t, v)) v⟩
/-- Not made: level, risk. -/
def Lost (a : Nat) (r : Int) : Prop := ∀ b d : Int, (domTV 0 (6 + a)).map (fun x => (calls Cn 80 25 [con a b r d, .int .i64 x.1, .bool x.2]).run) =
  (domTV 0 (6 + a)).map fun x => bif !isRes a b r d x.1 then some (two 0 2) else nest (8 + a - x.1.toNat) (right a b r d) (two (-(downK r (-(x.1 - (6 + a))) x.2)) 0)
/-- Made: level, risk. -/
def Won (a : Nat) (r : Int) : Prop := ∀ b d : Int, (domTV (6 + a) (8 - a)).map (fun x => (calls Cn 80 25 [con a b r d, .int .i64 x.1, .bool x.2]).run) =
  (domTV (6 + a) (8 - a)).map fun x => bif !isRes a b r d x.1 then some (two 0 2) else bif right a b r d then
    (bif decide (partK a b r < 100) then nest 1 (right a b r d) (two (addAll (incs 50 a r x.2 (overK b r x.2) (x.1.toNat - (6 + a))) (partK a b r)) 0)
     else nest 1 (right a b r d) (two (addAll (incs (byI x.2 300 500) a r x.2 (overK b r x.2) (x.1.toNat - (6 + a))) (partK a b r)) 0)) else none
end Go.Proofs.YtfkpbchdapccmaaDoor

/- Chapter 17: texts of contracts. -/
namespace Go.Proofs.YtfkpbchdapccmaaDoor
open Go Go.Ev

def den (b : Int) : UInt8 := ([67, 68, 72, 83, 78] : List UInt8).getD b.toNat 0
def seat (d : Int) : UInt8 := ([78, 69, 83, 87] : List UInt8).getD d.toNat 0
def textR (a b r d : Int) : List UInt8 := bif a == 0 then [112, 97, 115, 115] else
  dig a.toNat :: den b :: ((bif r == 0 then [] else bif r == 1 then [88] else [88, 88]) ++ [32, seat d])
def text (a b r d : Int) : List UInt8 := bif right a b r d then textR a b r d else []
def textE (a b r d : Int) : Int := bif right a b r d then 0 else 2
def txt (s : List UInt8) (e : Int) : AV := .tup [.str s, .int .i64 e]

def domT : List (Int × Int × Int × Int) := (rng 1 7).flatMap fun a => (rng 0 5).flatMap fun b => (rng 0 3).flatMap fun r => (rng 0 4).map fun d => (a, b, r, d)
theorem mem_domT {a b r d : Int} (h1 : 1 ≤ a) (h2 : a ≤ 7) (h3 : 0 ≤ b) (h4 : b ≤ 4) (h5 : 0 ≤ r) (h6 : r ≤ 2) (h7 : 0 ≤ d) (h8 : d ≤ 3) : (a, b, r, d) ∈ domT :=
  List.mem_flatMap.2 ⟨a, mem_rng (by omega) (by omega), List.mem_flatMap.2 ⟨b, mem_rng (by omega) (by omega), List.mem_flatMap.2 ⟨r, mem_rng (by omega) (by omega), List.mem_map.2 ⟨d, mem_rng (by omega) (by omega), rfl⟩⟩⟩⟩

def lim (n : Nat) : Bool := n.ble 9223372036854775807
def cutS (s : List UInt8) (i : Int) : List UInt8 := List.drop i.toNat (List.take (IntKind.u8.wrap (i + 1)).toNat s)
def tree22 (a b r d : Int) : Option AV :=
  bif leI (-13) (IntKind.i64.wrap a) && leI (IntKind.i64.wrap a) 99 then
  bif true && leI 0 b && leI b (IntKind.u8.wrap (b + 1)) && leI (IntKind.u8.wrap (b + 1)) 5 then
  bif lim ((itoaS (IntKind.i64.wrap a)).length + (cutS [67, 68, 72, 83, 78] b).length) then
  bif leI 0 (IntKind.i64.wrap r) && leI (IntKind.i64.wrap r) 9223372036854775807 && (1 * (IntKind.i64.wrap r).toNat).ble 140737488355328 then
  bif lim ((itoaS (IntKind.i64.wrap a) ++ cutS [67, 68, 72, 83, 78] b).length + (Lib.repeatL [88] (IntKind.i64.wrap r).toNat).length) then
  bif lim ((itoaS (IntKind.i64.wrap a) ++ cutS [67, 68, 72, 83, 78] b ++ Lib.repeatL [88] (IntKind.i64.wrap r).toNat).length + 1) then
  bif true && leI 0 d && leI d (IntKind.u8.wrap (d + 1)) && leI (IntKind.u8.wrap (d + 1)) 4 then
  bif lim ((itoaS (IntKind.i64.wrap a) ++ cutS [67, 68, 72, 83, 78] b ++ Lib.repeatL [88] (IntKind.i64.wrap r).toNat ++ [32]).length + (cutS [78, 69, 83, 87] d).length) then
  some (txt (itoaS (IntKind.i64.wrap a) ++ cutS [67, 68, 72, 83, 78] b ++ Lib.repeatL [88] (IntKind.i64.wrap r).toNat ++ [32] ++ cutS [78, 69, 83, 87] d) 0)
  else none else none else none else none else none else none else none else none
theorem t22 (a b r d : Int) : (calls C2 60 22 [con a b r d]).run = bif !right a b r d then some (txt [] 2) else bif a == 0 then some (txt [112, 97, 115, 115] 0) else tree22 a b r d := by kernel_rfl
theorem tree22_dom : domT.map (fun x => tree22 x.1 x.2.1 x.2.2.1 x.2.2.2) = domT.map fun x => some (txt (textR x.1 x.2.1 x.2.2.1 x.2.2.2) 0) := by kernel_rfl
theorem e22 (a b r d : Int) (h : conB a b r d = true) : (calls C2 60 22 [con a b r d]).run = some (txt (text a b r d) (textE a b r d)) := by
  rw [t22]
  unfold text textE
  cases hr : right a b r d
  · rfl
  · rw [bif_f (b := !true) rfl]
    cases h0 : a == 0
    · obtain ⟨ha, hb, hc, hd⟩ := (right_iff h h0).1 hr
      rw [bif_f rfl, allEq tree22_dom _ (mem_domT ha.1 ha.2 hb.1 hb.2 hc.1 hc.2 hd.1 hd.2)]
      rfl
    · unfold textR
      rw [h0]
      rfl

/-- A contract that is not right, as the reference's Text sees it. -/
def sWrongR : List AV → T AV
  | [.agg [.int .u8 a, .int .u8 b, .int .u8 r, .int .u8 d]] => .chk (!right a b r d) (.leaf (.bool false))
  | _ => .fail
theorem sWrongR_run : ∀ args v, (sWrongR args).run = some v → (calls C 60 27 args).run = some v := by
  intro args v hr
  unfold sWrongR at hr
  split at hr
  · obtain ⟨h1, hr⟩ := T.of_chk hr
    cases Option.some.inj hr
    simp only [Bool.not_eq_true'] at h1
    rw [e27, h1]
  · simp [T.run] at hr
noncomputable def tabF : List (Nat × (List AV → T AV)) := [(27, sWrongR)]
theorem allTabF : AllL (SumAt C2) tabF := ⟨⟨(calls_fn ok (e27 0 0 0 0)).at rfl, fun args v hr => (calls_iso ok (sWrongR_run args v hr)).at rfl rfl⟩, trivial⟩
noncomputable def Cf : Ctx := withSum C2 tabF
theorem okf : Ok Cf := ok_with ok2 allTabF
theorem t30f (a b r d : Int) : (calls Cf 60 30 [con a b r d]).run = bif !right a b r d then some (txt [] 2) else none := by kernel_rfl
theorem t30z : (calls C2 60 30 [con 0 0 0 0]).run = some (txt [112, 97, 115, 115] 0) := by kernel_rfl
def domBRD : List (Int × Int × Int) := (rng 0 5).flatMap fun b => (rng 0 3).flatMap fun r => (rng 0 4).map fun d => (b, r, d)
def Text30 (a : Int) : Prop := domBRD.map (fun x => (calls C2 60 30 [con a x.1 x.2.1 x.2.2]).run) = domBRD.map fun x => some (txt (textR a x.1 x.2.1 x.2.2) 0)
theorem Text30.at {a b r d : Int} (h : Text30 a) (h3 : 0 ≤ b) (h4 : b ≤ 4) (h5 : 0 ≤ r) (h6 : r ≤ 2) (h7 : 0 ≤ d) (h8 : d ≤ 3) : (calls C2 60 30 [con a b r d]).run = some (txt (textR a b r d) 0) := by
  have hm : (b, r, d) ∈ domBRD := List.mem_flatMap.2 ⟨b, mem_rng (by omega) (by omega), List.mem_flatMap.2 ⟨r, mem_rng (by omega) (by omega), List.mem_map.2 ⟨d, mem_rng (by omega) (by omega), rfl⟩⟩⟩
  exact List.map_inj_left.1 h (b, r, d) hm
end Go.Proofs.YtfkpbchdapccmaaDoor
