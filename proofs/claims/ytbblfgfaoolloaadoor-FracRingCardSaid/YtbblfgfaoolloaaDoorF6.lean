/- Chapter 1: sizes, fitting, comparing; the context with them. -/
import Derived.Test.YtbblfgfaoolloaaDoorF5
namespace Go.Proofs.YtbblfgfaoolloaaDoor
open Go Go.Ev Go.Ev.Bits

noncomputable def i64k (a : Int) : Bool := leI (-9223372036854775808) a && leI a 9223372036854775807
theorem i64k_iff {a : Int} : i64k a = true ↔ -9223372036854775808 ≤ a ∧ a ≤ 9223372036854775807 := by unfold i64k; rw [Bool.and_eq_true, leI_iff, leI_iff]
/-! ### size -/
theorem t35 (n : Int) : callsM C0 noZ 60 35 [.int .i64 n] = bif decide (n < 0) then some (.int .u64 (IntKind.u64.wrap (0 - IntKind.u64.wrap n))) else some (.int .u64 (IntKind.u64.wrap n)) := by kernel_rfl
noncomputable def sSize : List AV → T AV
  | [.int .i64 n] => .chk (i64k n) (.leaf (.int .u64 (shut n.natAbs : Nat)))
  | _ => .fail
theorem iso35 : ∀ args v, (sSize args).run = some v → callsM C0 noZ 60 35 args = some v := by
  intro args v hr
  unfold sSize at hr
  split at hr
  · rename_i n
    obtain ⟨hc, hr2⟩ := T.of_chk hr
    clear hr
    rw [i64k_iff] at hc
    rw [t35, ← Option.some.inj hr2, shut_eq]
    by_cases h : n < 0
    · rw [decide_eq_true h, cond_true, show IntKind.u64.wrap (0 - IntKind.u64.wrap n) = (n.natAbs : Int) by rw [u64w, u64w]; omega]
    · rw [decide_eq_false h, cond_false, show IntKind.u64.wrap n = (n.natAbs : Int) by rw [u64w]; omega]
  · simp [T.run] at hr
theorem sum35 : SumAt C0 (35, sSize) := ⟨callsM_fn ok0 noZ0 (iso35 [.int .i64 0] _ rfl), fun args v hr => callsM_iso ok0 noZ0 (iso35 args v hr)⟩

/-! ### fit -/
def tri (x : T3) : AV := .tup [.agg [.int .i64 x.1, .int .i64 x.2.1], .int .i64 x.2.2]
noncomputable def triS (x : T3) : AV := .tup [.agg [.int .i64 (shut x.1), .int .i64 (shut x.2.1)], .int .i64 (shut x.2.2)]
theorem triS_eq (x : T3) : triS x = tri x := by unfold triS tri; rw [shut_eq, shut_eq, shut_eq]
def frt (a b e : Int) : Option AV := some (.tup [.agg [.int .i64 a, .int .i64 b], .int .i64 e])
def tFit (neg : Bool) (a b c d : Int) : Option AV :=
  bif decide (b > 0) then frt 0 0 3 else bif decide (d > 0) then frt 0 0 3 else bif decide (c > 9223372036854775807) then frt 0 0 3 else bif decide (a > 9223372036854775808) then frt 0 0 3 else
  bif a == 9223372036854775808 then bif !neg then frt 0 0 3 else bif neg then frt (IntKind.i64.wrap (IntKind.u64.wrap (0 - a))) (IntKind.i64.wrap c) 0 else frt (IntKind.i64.wrap a) (IntKind.i64.wrap c) 0
  else bif neg then frt (IntKind.i64.wrap (IntKind.u64.wrap (0 - a))) (IntKind.i64.wrap c) 0 else frt (IntKind.i64.wrap a) (IntKind.i64.wrap c) 0
theorem t40 (neg : Bool) (a b c d : Nat) : callsM C0 noZ 60 40 [.bool neg, .agg [.int .u64 a, .int .u64 b], .agg [.int .u64 c, .int .u64 d]] = tFit neg a b c d := by kernel_rfl
theorem ble_ff {a b : Nat} (h : b < a) : Nat.ble a b = false := by
  cases hx : Nat.ble a b
  · rfl
  · have := Nat.le_of_ble_eq_true hx; omega
theorem i64n {x : Int} (h : -9223372036854775808 ≤ x ∧ x ≤ 9223372036854775807) : IntKind.i64.wrap (x % 18446744073709551616) = x := by
  by_cases h0 : 0 ≤ x
  · rw [Int.emod_eq_of_lt h0 (by omega), i64w (by omega)]
  · rw [show x % 18446744073709551616 = x + 18446744073709551616 by omega]
    have e : (x + 18446744073709551616) % 2 ^ IntKind.i64.bits = x % 2 ^ IntKind.i64.bits := by
      show (x + 18446744073709551616) % 18446744073709551616 = x % 18446744073709551616
      omega
    have e2 : IntKind.i64.wrap (x + 18446744073709551616) = IntKind.i64.wrap x := by unfold IntKind.wrap; rw [e]
    rw [e2, i64w (by omega)]
theorem tFit_eq (neg : Bool) (a b c d : Nat) (ha : a < 18446744073709551616) (hc : c < 18446744073709551616) : tFit neg a b c d = some (tri (fitN neg (wvN a b) (wvN c d))) := by
  have no : some (tri (0, 0, 3)) = frt 0 0 3 := rfl
  have yes (x : Int) (y : Int) : some (tri (x, y, 0)) = frt x y 0 := rfl
  unfold tFit fitN
  by_cases hb : (b : Int) > 0
  · rw [decide_eq_true hb, cond_true]
    have : wvN a b > 9223372036854775808 := by unfold wvN; omega
    rw [ble_ff (a := wvN a b) (by omega), ble_ff (a := wvN a b) (by omega), Bool.and_false, Bool.or_false, Bool.and_false, cond_false, no]
  have b0 : b = 0 := by omega
  subst b0
  have ea : wvN a 0 = a := by unfold wvN; omega
  rw [decide_eq_false hb, cond_false, ea]
  by_cases hd : (d : Int) > 0
  · rw [decide_eq_true hd, cond_true]
    have : wvN c d > 9223372036854775808 := by unfold wvN; omega
    rw [ble_ff (a := wvN c d) (by omega), Bool.false_and, cond_false, no]
  have d0 : d = 0 := by omega
  subst d0
  have ec : wvN c 0 = c := by unfold wvN; omega
  rw [decide_eq_false hd, cond_false, ec]
  by_cases h1 : (c : Int) > 9223372036854775807
  · rw [decide_eq_true h1, cond_true, ble_ff (a := c) (by omega), Bool.false_and, cond_false, no]
  rw [decide_eq_false h1, cond_false, Nat.ble_eq_true_of_le (by omega : c ≤ 9223372036854775807), Bool.true_and]
  by_cases h2 : (a : Int) > 9223372036854775808
  · rw [decide_eq_true h2, cond_true, ble_ff (a := a) (by omega), ble_ff (a := a) (by omega), Bool.and_false, Bool.or_false, cond_false, no]
  rw [decide_eq_false h2, cond_false, Nat.ble_eq_true_of_le (by omega : a ≤ 9223372036854775808), Bool.and_true]
  have w1 : IntKind.i64.wrap (c : Int) = c := i64w (by omega)
  have wn : IntKind.i64.wrap (IntKind.u64.wrap (0 - (a : Int))) = -(a : Int) := by
    rw [u64w, i64n (by omega)]; omega
  by_cases h3 : (a : Int) = 9223372036854775808
  · rw [show ((a : Int) == 9223372036854775808) = true from beq_iff_eq.2 h3, cond_true, ble_ff (a := a) (by omega), Bool.false_or]
    cases neg
    · rfl
    · show frt _ _ 0 = some (tri (-(a : Int), (c : Int), 0))
      rw [w1, wn]; rfl
  · rw [show ((a : Int) == 9223372036854775808) = false from by simpa using h3, cond_false, Nat.ble_eq_true_of_le (by omega : a ≤ 9223372036854775807), Bool.true_or, cond_true]
    cases neg
    · show frt _ _ 0 = some (tri ((a : Int), (c : Int), 0))
      rw [w1, i64w (by omega)]; rfl
    · show frt _ _ 0 = some (tri (-(a : Int), (c : Int), 0))
      rw [w1, wn]; rfl
noncomputable def sFit : List AV → T AV
  | [.bool neg, .agg [.int .u64 a, .int .u64 b], .agg [.int .u64 c, .int .u64 d]] => .chk (u64k a && (u64k b && (u64k c && u64k d))) (.leaf (triS (fitN neg (wvN a.toNat b.toNat) (wvN c.toNat d.toNat))))
  | _ => .fail
theorem iso40 : ∀ args v, (sFit args).run = some v → callsM C0 noZ 60 40 args = some v := by
  intro args v hr
  unfold sFit at hr
  split at hr
  · rename_i neg a b c d
    obtain ⟨hc, hr2⟩ := T.of_chk hr
    clear hr
    simp only [Bool.and_eq_true, u64k_iff] at hc
    obtain ⟨h1, h2, h3, h4⟩ := hc
    obtain ⟨a, rfl⟩ : ∃ n : Nat, a = n := ⟨a.toNat, by omega⟩
    obtain ⟨b, rfl⟩ : ∃ n : Nat, b = n := ⟨b.toNat, by omega⟩
    obtain ⟨c, rfl⟩ : ∃ n : Nat, c = n := ⟨c.toNat, by omega⟩
    obtain ⟨d, rfl⟩ : ∃ n : Nat, d = n := ⟨d.toNat, by omega⟩
    simp only [Int.toNat_natCast] at hr2
    rw [t40, tFit_eq neg a b c d (by omega) (by omega), ← triS_eq]
    exact hr2
  · simp [T.run] at hr
theorem sum40 : SumAt C0 (40, sFit) := ⟨callsM_fn ok0 noZ0 (iso40 [.bool true, .agg [.int .u64 0, .int .u64 0], .agg [.int .u64 0, .int .u64 0]] _ rfl), fun args v hr => callsM_iso ok0 noZ0 (iso40 args v hr)⟩

/-! ### cmp -/
def tCmp (a b c d : Int) : Option AV := bif decide (b < d) then some (.int .i64 (-1)) else bif decide (b > d) then some (.int .i64 1) else bif decide (a < c) then some (.int .i64 (-1)) else bif decide (a > c) then some (.int .i64 1) else some (.int .i64 0)
theorem t36 (a b c d : Nat) : callsM C0 noZ 60 36 [.agg [.int .u64 a, .int .u64 b], .agg [.int .u64 c, .int .u64 d]] = tCmp a b c d := by kernel_rfl
theorem tCmp_eq (a b c d : Nat) (ha : a < 18446744073709551616) (hc : c < 18446744073709551616) : tCmp a b c d = some (.int .i64 (cmpNat (wvN a b) (wvN c d))) := by
  unfold tCmp cmpNat wvN
  rcases Nat.lt_trichotomy b d with h | h | h
  · rw [decide_eq_true (by omega : (b : Int) < d), decide_eq_true (by omega : b * 18446744073709551616 + a < d * 18446744073709551616 + c)]; rfl
  · subst h
    rw [decide_eq_false (by omega : ¬ (b : Int) < b), cond_false, cond_false]
    rcases Nat.lt_trichotomy a c with h | h | h
    · rw [decide_eq_true (by omega : (a : Int) < c), decide_eq_true (by omega : b * 18446744073709551616 + a < b * 18446744073709551616 + c)]; rfl
    · subst h
      rw [decide_eq_false (by omega : ¬ (a : Int) < a), decide_eq_false (by omega : ¬ b * 18446744073709551616 + a < b * 18446744073709551616 + a)]; rfl
    · rw [decide_eq_false (by omega : ¬ (a : Int) < c), decide_eq_true (by omega : (a : Int) > c), decide_eq_false (by omega : ¬ b * 18446744073709551616 + a < b * 18446744073709551616 + c), decide_eq_true (by omega : b * 18446744073709551616 + c < b * 18446744073709551616 + a)]; rfl
  · rw [decide_eq_false (by omega : ¬ (b : Int) < d), decide_eq_true (by omega : (b : Int) > d), decide_eq_false (by omega : ¬ b * 18446744073709551616 + a < d * 18446744073709551616 + c), decide_eq_true (by omega : d * 18446744073709551616 + c < b * 18446744073709551616 + a)]; rfl
noncomputable def sCmp : List AV → T AV
  | [.agg [.int .u64 a, .int .u64 b], .agg [.int .u64 c, .int .u64 d]] => .chk (u64k a && (u64k b && (u64k c && u64k d))) (.leaf (.int .i64 (shut (cmpNat (wvN a.toNat b.toNat) (wvN c.toNat d.toNat)))))
  | _ => .fail
theorem iso36 : ∀ args v, (sCmp args).run = some v → callsM C0 noZ 60 36 args = some v := by
  intro args v hr
  unfold sCmp at hr
  split at hr
  · rename_i a b c d
    obtain ⟨hc, hr2⟩ := T.of_chk hr
    clear hr
    simp only [Bool.and_eq_true, u64k_iff] at hc
    obtain ⟨h1, h2, h3, h4⟩ := hc
    obtain ⟨a, rfl⟩ : ∃ n : Nat, a = n := ⟨a.toNat, by omega⟩
    obtain ⟨b, rfl⟩ : ∃ n : Nat, b = n := ⟨b.toNat, by omega⟩
    obtain ⟨c, rfl⟩ : ∃ n : Nat, c = n := ⟨c.toNat, by omega⟩
    obtain ⟨d, rfl⟩ : ∃ n : Nat, d = n := ⟨d.toNat, by omega⟩
    simp only [Int.toNat_natCast] at hr2
    rw [t36, tCmp_eq a b c d (by omega) (by omega), ← shut_eq (cmpNat _ _)]
    exact hr2
  · simp [T.run] at hr
theorem sum36 : SumAt C0 (36, sCmp) := ⟨callsM_fn ok0 noZ0 (iso36 [.agg [.int .u64 0, .int .u64 0], .agg [.int .u64 0, .int .u64 0]] _ rfl), fun args v hr => callsM_iso ok0 noZ0 (iso36 args v hr)⟩
noncomputable def tab1 : List (Nat × (List AV → T AV)) := [(39, sGcd), (42, sOver), (34, sTimes), (54, sPlus), (55, sMinus), (36, sCmp), (35, sSize), (40, sFit)]
noncomputable def C1 : Ctx := withSum C0 tab1
theorem ok1 : Ok C1 := ok_with ok0 ⟨sum39, sum42, sum34, sum54, sum55, sum36, sum35, sum40, trivial⟩
theorem noZ1 : ZOk C1 noZ := noZ_ok keepOk
end Go.Proofs.YtbblfgfaoolloaaDoor
