/- Chapter 5: HandBalanced: the lengths of one hand. -/
import Derived.Test.YtgellkpbcoeccaaDoorBa1
namespace Go.Proofs.YtgellkpbcoeccaaDoor
open Go Go.Ev Go.Ev.Bits

def tree8 (l two : Int) (ok : Bool) (K : Int → Bool → Option (X × List AV × Heap)) : Option (X × List AV × Heap) :=
  bif l == 2 then bif ok then bif decide (l ≥ 2) then K (IntKind.i64.wrap (two + 1)) (decide (l ≤ 5)) else K (IntKind.i64.wrap (two + 1)) false else K (IntKind.i64.wrap (two + 1)) false
  else bif ok then bif decide (l ≥ 2) then K two (decide (l ≤ 5)) else K two false else K two false
def tw8 (l two : Int) : Int := bif l == 2 then IntKind.i64.wrap (two + 1) else two
def ok8' (l : Int) (ok : Bool) : Bool := bif ok then bif decide (l ≥ 2) then decide (l ≤ 5) else false else false
theorem tree8_eq (l two : Int) (ok : Bool) (K : Int → Bool → Option (X × List AV × Heap)) : tree8 l two ok K = K (tw8 l two) (ok8' l ok) := by
  unfold tree8 tw8 ok8'
  cases l == 2 <;> cases ok <;> cases decide (l ≥ 2) <;> rfl
section
variable (x two : Int) (ok : Bool) (sum : Int) (ls : List AV) (i l0 l1 l2 l3 a b c d : Int)
abbrev nx8 (l : Int) (k : Int) (tw : Int) (o : Bool) : Option (X × List AV × Heap) := some (.n, fr8 x tw o (IntKind.i64.wrap (sum + l)) ls i l0 l1 l2 l3 k, H8 a b c d)
theorem r8_0 : codeG C8 noZ 60 8 kp8 ct8 isN m8 bod8_2 (fr8 x two ok sum ls i l0 l1 l2 l3 0) (H8 a b c d) 1 = tree8 l0 two ok (nx8 x sum ls i l0 l1 l2 l3 a b c d l0 1) := by kernel_rfl
theorem r8_1 : codeG C8 noZ 60 8 kp8 ct8 isN m8 bod8_2 (fr8 x two ok sum ls i l0 l1 l2 l3 1) (H8 a b c d) 1 = tree8 l1 two ok (nx8 x sum ls i l0 l1 l2 l3 a b c d l1 2) := by kernel_rfl
theorem r8_2 : codeG C8 noZ 60 8 kp8 ct8 isN m8 bod8_2 (fr8 x two ok sum ls i l0 l1 l2 l3 2) (H8 a b c d) 1 = tree8 l2 two ok (nx8 x sum ls i l0 l1 l2 l3 a b c d l2 3) := by kernel_rfl
theorem r8_3 : codeG C8 noZ 60 8 kp8 ct8 isN m8 bod8_2 (fr8 x two ok sum ls i l0 l1 l2 l3 3) (H8 a b c d) 1 = tree8 l3 two ok (nx8 x sum ls i l0 l1 l2 l3 a b c d l3 4) := by kernel_rfl
theorem r8_4 : codeG C8 noZ 60 8 kp8 ct8 isEx m8 bod8_2 (fr8 x two ok sum ls i l0 l1 l2 l3 4) (H8 a b c d) 1 = some (.ex 2, fr8 x two ok sum ls i l0 l1 l2 l3 4, H8 a b c d) := by kernel_rfl
theorem loop8 : Lp C8 fd8 bod8_2 (fr8 x two ok sum ls i l0 l1 l2 l3 0) (H8 a b c d)
    (.ex 2, fr8 x (tw8 l3 (tw8 l2 (tw8 l1 (tw8 l0 two)))) (ok8' l3 (ok8' l2 (ok8' l1 (ok8' l0 ok)))) (IntKind.i64.wrap (IntKind.i64.wrap (IntKind.i64.wrap (IntKind.i64.wrap (sum + l0) + l1) + l2) + l3)) ls i l0 l1 l2 l3 4, H8 a b c d) := by
  have dd {e : X} {vs vs1 : List AV} {want : X → Bool} (hv : vs.length = fd8.keep.length) (h : codeG C8 noZ 60 8 kp8 ct8 want m8 bod8_2 vs (H8 a b c d) 1 = some (e, vs1, H8 a b c d)) : Does C8 fd8 bod8_2 vs (H8 a b c d) (e, vs1, H8 a b c d) := Does.runG ok8 noZ8 rfl rfl fdat8 hb8 bin8_2 60 hv h
  refine .on (dd rfl ((r8_0 x two ok sum ls i l0 l1 l2 l3 a b c d).trans (tree8_eq _ _ _ _))) ?_
  refine .on (dd rfl ((r8_1 x _ _ _ ls i l0 l1 l2 l3 a b c d).trans (tree8_eq _ _ _ _))) ?_
  refine .on (dd rfl ((r8_2 x _ _ _ ls i l0 l1 l2 l3 a b c d).trans (tree8_eq _ _ _ _))) ?_
  refine .on (dd rfl ((r8_3 x _ _ _ ls i l0 l1 l2 l3 a b c d).trans (tree8_eq _ _ _ _))) ?_
  exact .out (dd rfl (r8_4 x _ _ _ ls i l0 l1 l2 l3 a b c d)) (by simp)
end
def c2 (l : Nat) : Nat := bif Nat.beq l 2 then 1 else 0
def in25 (l : Nat) : Bool := Nat.ble 2 l && Nat.ble l 5
def twoN (n : Nat) : Nat := c2 (ln n 0) + c2 (ln n 1) + c2 (ln n 2) + c2 (ln n 3)
def okN (n : Nat) : Bool := in25 (ln n 0) && in25 (ln n 1) && in25 (ln n 2) && in25 (ln n 3)
def sumN (n : Nat) : Nat := ln n 0 + ln n 1 + ln n 2 + ln n 3
theorem tw8_eq (l k : Nat) (hk : k ≤ 10) : tw8 l k = ((k + c2 l : Nat) : Int) := by
  unfold tw8 c2
  rw [show (2 : Int) = ((2 : Nat) : Int) from rfl, beq_nat]
  cases Nat.beq l 2
  · simp
  · simp only [cond_true]; rw [i64w (by omega)]; omega
theorem ok8_eq (l : Nat) (ok : Bool) : ok8' l ok = (ok && in25 l) := by
  unfold ok8' in25
  have e1 : decide ((l : Int) ≥ 2) = Nat.ble 2 l := by
    cases h : Nat.ble 2 l
    · refine decide_eq_false fun h2 => ?_
      have := Nat.ble_eq_true_of_le (show 2 ≤ l by omega)
      rw [this] at h; cases h
    · have := Nat.le_of_ble_eq_true h; exact decide_eq_true (by omega)
  have e2 : decide ((l : Int) ≤ 5) = Nat.ble l 5 := by
    cases h : Nat.ble l 5
    · refine decide_eq_false fun h2 => ?_
      have := Nat.ble_eq_true_of_le (show l ≤ 5 by omega)
      rw [this] at h; cases h
    · have := Nat.le_of_ble_eq_true h; exact decide_eq_true (by omega)
  rw [e1, e2]
  cases ok <;> cases Nat.ble 2 l <;> cases Nat.ble l 5 <;> rfl
theorem c2_le (l : Nat) : c2 l ≤ 1 := by unfold c2; cases Nat.beq l 2 <;> decide
abbrev fl8 (x : Nat) (two : Int) (ok : Bool) (sum : Int) (ls : List AV) (i : Int) (k : Int) : List AV := fr8 x two ok sum ls i (ln x 0 : Nat) (ln x 1 : Nat) (ln x 2 : Nat) (ln x 3 : Nat) k
theorem loop8n (x : Nat) (ls : List AV) (i a b c d : Int) : Lp C8 fd8 bod8_2 (fl8 x 0 true 0 ls i 0) (H8 a b c d) (.ex 2, fl8 x (twoN x : Nat) (okN x) (sumN x : Nat) ls i 4, H8 a b c d) := by
  have h := loop8 x 0 true 0 ls i (ln x 0 : Nat) (ln x 1 : Nat) (ln x 2 : Nat) (ln x 3 : Nat) a b c d
  have a0 := c2_le (ln x 0)
  have a1 := c2_le (ln x 1)
  have a2 := c2_le (ln x 2)
  have b0 := ln_le x 0
  have b1 := ln_le x 1
  have b2 := ln_le x 2
  have b3 := ln_le x 3
  have e1 : tw8 (ln x 3 : Nat) (tw8 (ln x 2 : Nat) (tw8 (ln x 1 : Nat) (tw8 (ln x 0 : Nat) 0))) = (twoN x : Nat) := by
    unfold twoN
    rw [show (0 : Int) = ((0 : Nat) : Int) from rfl, tw8_eq _ _ (by omega), tw8_eq _ _ (by omega), tw8_eq _ _ (by omega), tw8_eq _ _ (by omega), Nat.zero_add]
  have e2 : ok8' (ln x 3 : Nat) (ok8' (ln x 2 : Nat) (ok8' (ln x 1 : Nat) (ok8' (ln x 0 : Nat) true))) = okN x := by
    unfold okN
    rw [ok8_eq, ok8_eq, ok8_eq, ok8_eq, Bool.true_and]
  have e3 : IntKind.i64.wrap (IntKind.i64.wrap (IntKind.i64.wrap (IntKind.i64.wrap (0 + ((ln x 0 : Nat) : Int)) + (ln x 1 : Nat)) + (ln x 2 : Nat)) + (ln x 3 : Nat)) = (sumN x : Nat) := by
    unfold sumN
    generalize ln x 0 = y0 at *
    generalize ln x 1 = y1 at *
    generalize ln x 2 = y2 at *
    generalize ln x 3 = y3 at *
    rw [i64_small (x := 0 + (y0 : Int)) (by omega) (by omega), i64_small (x := 0 + (y0 : Int) + y1) (by omega) (by omega), i64_small (x := 0 + (y0 : Int) + y1 + y2) (by omega) (by omega), i64_small (x := 0 + (y0 : Int) + y1 + y2 + y3) (by omega) (by omega)]
    omega
  rw [e1, e2, e3] at h
  exact h
end Go.Proofs.YtgellkpbcoeccaaDoor
