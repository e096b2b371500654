/- Chapter 5: the reference: Right, Shape; the rounds of Points, Controls, Losers. -/
import Derived.Test.YtgellkpbcoeccaaDoorSm4
namespace Go.Proofs.YtgellkpbcoeccaaDoor
open Go Go.Ev Go.Ev.Bits

noncomputable def um (m : Nat) : Bool := leI 0 (m : Int) && (leI m 18446744073709551615 && true)
theorem um_eq {m : Nat} (hm : m < 18446744073709551616) : um m = true := by unfold um; rw [leI_iff.2 (by omega), leI_iff.2 (by omega)]; rfl
theorem t27 (m : Nat) : callsM C10 noZ 60 27 [.int .u64 m] = bif um m then bif um m then bif um m then bif um m then bif IntKind.i64.wrap (IntKind.i64.wrap (IntKind.i64.wrap (IntKind.i64.wrap (0 + nL5 0 m) + nL5 1 m) + nL5 2 m) + nL5 3 m) == 13 then some (.bool (decide ((m : Int) < 4503599627370496))) else some (.bool false) else none else none else none else none := by kernel_rfl
theorem t33 (m : Nat) : callsM C10 noZ 60 33 [.int .u64 m] = bif um m then bif um m then bif um m then bif um m then some (.agg [.int .i64 (nL5 0 m), .int .i64 (nL5 1 m), .int .i64 (nL5 2 m), .int .i64 (nL5 3 m)]) else none else none else none else none := by kernel_rfl
theorem right27 (m : Nat) (hm : m < 18446744073709551616) : callsM C10 noZ 60 27 [.int .u64 m] = some (.bool (rightN m)) := by
  have b0 := ln_le m 0
  have b1 := ln_le m 1
  have b2 := ln_le m 2
  have b3 := ln_le m 3
  rw [t27, um_eq hm]
  simp only [cond_true, nL5_eq]
  have e : IntKind.i64.wrap (IntKind.i64.wrap (IntKind.i64.wrap (IntKind.i64.wrap (0 + ((ln m 0 : Nat) : Int)) + (ln m 1 : Nat)) + (ln m 2 : Nat)) + (ln m 3 : Nat)) = ((ln m 0 + (ln m 1 + (ln m 2 + ln m 3)) : Nat) : Int) := by
    generalize ln m 0 = y0 at *
    generalize ln m 1 = y1 at *
    generalize ln m 2 = y2 at *
    generalize ln m 3 = y3 at *
    rw [i64_small (x := 0 + (y0 : Int)) (by omega) (by omega), i64_small (x := 0 + (y0 : Int) + y1) (by omega) (by omega), i64_small (x := 0 + (y0 : Int) + y1 + y2) (by omega) (by omega), i64_small (x := 0 + (y0 : Int) + y1 + y2 + y3) (by omega) (by omega)]
    omega
  rw [e, show (13 : Int) = ((13 : Nat) : Int) from rfl, beq_nat]
  unfold rightN
  by_cases h : m < 4503599627370496
  · rw [decide_eq_true (by omega), ← bc_split m h, show m / 4503599627370496 = 0 by omega]
    cases Nat.beq (bc 64 m) 13 <;> rfl
  · have : Nat.beq (m / 4503599627370496) 0 = false := by
      cases hx : Nat.beq (m / 4503599627370496) 0
      · rfl
      · have := Nat.eq_of_beq_eq_true hx; omega
    rw [decide_eq_false (by omega), this]
    cases Nat.beq (ln m 0 + (ln m 1 + (ln m 2 + ln m 3))) 13 <;> rfl
abbrev Kt := Int → Option (X × List AV × Heap)
/-- 'if c { n += x }' behind a check. -/
def ifp (u c : Bool) (x : Int) (k : Kt) : Kt := fun n => bif u then bif c then k (IntKind.i64.wrap (n + x)) else k n else none
/-- 'if c { n = n + r - 8 }' behind a check. -/
def ifq (u c : Bool) (r : Int) (k : Kt) : Kt := fun n => bif u then bif c then k (IntKind.i64.wrap (IntKind.i64.wrap (n + r) - 8)) else k n else none
/-- 'if d && !b { n++ }', b behind a check. -/
def ifl (u d b : Bool) (k : Kt) : Kt := fun n => bif d then bif u then bif !b then k (IntKind.i64.wrap (n + 1)) else k n else none else k n
theorem ifp_eq (c : Bool) (x : Nat) (k : Kt) (n : Nat) (hx : x ≤ 100) (hn : n ≤ 500) : ifp true c x k n = k ((n + bif c then x else 0 : Nat) : Int) := by
  unfold ifp
  rw [cond_true]
  cases c
  · rfl
  · rw [cond_true, cond_true, i64_small (by omega) (by omega), Int.natCast_add]
theorem ifq_eq (c : Bool) (r : Nat) (k : Kt) (n : Nat) (h8 : 8 ≤ r) (hx : r ≤ 100) (hn : n ≤ 500) : ifq true c r k n = k ((n + bif c then r - 8 else 0 : Nat) : Int) := by
  unfold ifq
  rw [cond_true]
  cases c
  · rfl
  · rw [cond_true, cond_true, i64_small (x := (n : Int) + r) (by omega) (by omega), i64_small (by omega) (by omega)]
    have : (n : Int) + r - 8 = ((n + (r - 8) : Nat) : Int) := by omega
    rw [this]
theorem ifl_eq (b : Bool) (l t : Nat) (k : Kt) (n : Nat) (hn : n ≤ 500) : ifl true (decide ((l : Int) ≥ (t : Nat))) b k n = k ((n + b2n (Nat.ble t l && !b) : Nat) : Int) := by
  have e1 : decide ((l : Int) ≥ (t : Nat)) = Nat.ble t l := by
    cases h : Nat.ble t l
    · refine decide_eq_false fun h2 => ?_
      have := Nat.ble_eq_true_of_le (show t ≤ l by omega)
      rw [this] at h; cases h
    · have := Nat.le_of_ble_eq_true h; exact decide_eq_true (by omega)
  unfold ifl
  rw [e1]
  cases Nat.ble t l <;> cases b
  · rfl
  · rfl
  · have e2 : IntKind.i64.wrap ((n : Int) + 1) = ((n + 1 : Nat) : Int) := by rw [i64_small (by omega) (by omega)]; omega
    show k (IntKind.i64.wrap ((n : Int) + 1)) = _
    rw [e2]; rfl
  · rfl
noncomputable def bq (m s r : Nat) : Bool := shut (hb (hd m s) r)
abbrev fo28 (m n s : Int) : List AV := [.int .u64 m, .undef, .int .i64 n, .int .i64 s, .undef, .undef, .undef, .undef]
abbrev mo28 : List Bool := [true, false, true, true, false, false, false, false]
noncomputable def tr28 (m s : Nat) (k : Kt) : Kt := ifq (um m) (bq m s 9) 9 (ifq (um m) (bq m s 10) 10 (ifq (um m) (bq m s 11) 11 (ifq (um m) (bq m s 12) 12 k)))
noncomputable def tr29 (m s : Nat) (k : Kt) : Kt := ifp (um m) (bq m s 11) 1 (ifp (um m) (bq m s 12) 2 k)
noncomputable def tr30 (m s : Nat) (k : Kt) : Kt := fun n => bif um m then ifl (um m) (decide (nL5 s m ≥ 1)) (bq m s 12) (ifl (um m) (decide (nL5 s m ≥ 2)) (bq m s 11) (ifl (um m) (decide (nL5 s m ≥ 3)) (bq m s 10) k)) n else none
theorem s28_0 (m n : Nat) : codeG C10 noZ 60 28 kp28 ct28 isN mo28 bod28_0 (fo28 m n 0) [] 0 = tr28 m 0 (fun x => some (.n, fo28 m x 1, [])) n := by kernel_rfl
theorem s28_1 (m n : Nat) : codeG C10 noZ 60 28 kp28 ct28 isN mo28 bod28_0 (fo28 m n 1) [] 0 = tr28 m 1 (fun x => some (.n, fo28 m x 2, [])) n := by kernel_rfl
theorem s28_2 (m n : Nat) : codeG C10 noZ 60 28 kp28 ct28 isN mo28 bod28_0 (fo28 m n 2) [] 0 = tr28 m 2 (fun x => some (.n, fo28 m x 3, [])) n := by kernel_rfl
theorem s28_3 (m n : Nat) : codeG C10 noZ 60 28 kp28 ct28 isN mo28 bod28_0 (fo28 m n 3) [] 0 = tr28 m 3 (fun x => some (.n, fo28 m x 4, [])) n := by kernel_rfl
theorem s28_4 (m n : Nat) : codeG C10 noZ 60 28 kp28 ct28 isEx mo28 bod28_0 (fo28 m n 4) [] 0 = some (.ex 0, fo28 m n 4, []) := by kernel_rfl
theorem s29_0 (m n : Nat) : codeG C10 noZ 60 29 kp29 ct29 isN m29 bod29_0 (fr29 m n 0) [] 0 = tr29 m 0 (fun x => some (.n, fr29 m x 1, [])) n := by kernel_rfl
theorem s29_1 (m n : Nat) : codeG C10 noZ 60 29 kp29 ct29 isN m29 bod29_0 (fr29 m n 1) [] 0 = tr29 m 1 (fun x => some (.n, fr29 m x 2, [])) n := by kernel_rfl
theorem s29_2 (m n : Nat) : codeG C10 noZ 60 29 kp29 ct29 isN m29 bod29_0 (fr29 m n 2) [] 0 = tr29 m 2 (fun x => some (.n, fr29 m x 3, [])) n := by kernel_rfl
theorem s29_3 (m n : Nat) : codeG C10 noZ 60 29 kp29 ct29 isN m29 bod29_0 (fr29 m n 3) [] 0 = tr29 m 3 (fun x => some (.n, fr29 m x 4, [])) n := by kernel_rfl
theorem s29_4 (m n : Nat) : codeG C10 noZ 60 29 kp29 ct29 isEx m29 bod29_0 (fr29 m n 4) [] 0 = some (.ex 0, fr29 m n 4, []) := by kernel_rfl
theorem s30_0 (m n : Nat) : codeG C10 noZ 60 30 kp30 ct30 isN m30 bod30_0 (fr30 m n 0) [] 0 = tr30 m 0 (fun x => some (.n, fr30 m x 1, [])) n := by kernel_rfl
theorem s30_1 (m n : Nat) : codeG C10 noZ 60 30 kp30 ct30 isN m30 bod30_0 (fr30 m n 1) [] 0 = tr30 m 1 (fun x => some (.n, fr30 m x 2, [])) n := by kernel_rfl
theorem s30_2 (m n : Nat) : codeG C10 noZ 60 30 kp30 ct30 isN m30 bod30_0 (fr30 m n 2) [] 0 = tr30 m 2 (fun x => some (.n, fr30 m x 3, [])) n := by kernel_rfl
theorem s30_3 (m n : Nat) : codeG C10 noZ 60 30 kp30 ct30 isN m30 bod30_0 (fr30 m n 3) [] 0 = tr30 m 3 (fun x => some (.n, fr30 m x 4, [])) n := by kernel_rfl
theorem s30_4 (m n : Nat) : codeG C10 noZ 60 30 kp30 ct30 isEx m30 bod30_0 (fr30 m n 4) [] 0 = some (.ex 0, fr30 m n 4, []) := by kernel_rfl
end Go.Proofs.YtgellkpbcoeccaaDoor
