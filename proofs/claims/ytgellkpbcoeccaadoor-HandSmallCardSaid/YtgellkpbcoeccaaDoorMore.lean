/- Chapter 5: HandMore. -/
import Derived.Test.YtgellkpbcoeccaaDoorP1
namespace Go.Proofs.YtgellkpbcoeccaaDoor
open Go Go.Ev Go.Ev.Bits

/-! ### What the law asks -/
noncomputable def bit6 (c : Nat) : Int := IntKind.u64.wrap (1 * 2 ^ min (c % 52) 64)
noncomputable def less6 (m c : Nat) : Int := IntKind.u64.wrap ↑(BitVec.ofInt 64 ((m % 4503599627370496 : Nat) : Int) &&& ~~~BitVec.ofInt 64 (bit6 c)).toNat
noncomputable def more6 (m c : Nat) : Int := IntKind.u64.wrap ↑(BitVec.ofInt 64 (less6 m c) ||| BitVec.ofInt 64 (bit6 c)).toNat
noncomputable def sumX (f : Nat → Nat) (x : Int) : Int := ((shut (sumS f x.toNat) : Nat) : Int)
noncomputable def lnX (x : Int) (j : Nat) : Int := ((shut (ln x.toNat j) : Nat) : Int)
noncomputable def hdX (x : Int) (j : Nat) : Int := ((shut (hd x.toNat j) : Nat) : Int)
noncomputable def dl6 (x : Int) (s j : Nat) : Int := bif Nat.beq s j then IntKind.i64.wrap (lnX x j + 1) else lnX x j
noncomputable def tree6 (m c : Nat) : Option AV :=
  bif sumX (honS 1 2 3 4) (more6 m c) == IntKind.i64.wrap (sumX (honS 1 2 3 4) (less6 m c) + ((c % 52 % 13 - 8 : Nat) : Int)) then
  bif sumX (honS 0 0 1 2) (more6 m c) == IntKind.i64.wrap (sumX (honS 0 0 1 2) (less6 m c) + ((c % 52 % 13 - 10 : Nat) : Int)) then
  bif decide (sumX qckS (more6 m c) ≥ sumX qckS (less6 m c)) then
  bif dl6 (less6 m c) (c % 52 / 13) 0 == lnX (more6 m c) 0 && (dl6 (less6 m c) (c % 52 / 13) 1 == lnX (more6 m c) 1 && (dl6 (less6 m c) (c % 52 / 13) 2 == lnX (more6 m c) 2 && (dl6 (less6 m c) (c % 52 / 13) 3 == lnX (more6 m c) 3 && true))) then
  bif hdX (more6 m c) (c % 52 / 13) == IntKind.u16.wrap ↑(BitVec.ofInt 16 (hdX (less6 m c) (c % 52 / 13)) ||| BitVec.ofInt 16 (IntKind.u16.wrap (1 * 2 ^ min (c % 52 % 13) 16))).toNat then some (.bool true)
  else some (.bool false) else some (.bool false) else some (.bool false) else some (.bool false) else some (.bool false)
theorem t6 (m : Nat) : (List.range 256).map (fun c => callsM C6 Z2 60 6 [.int .u64 m, .int .u8 ((c : Nat) : Int)]) = (List.range 256).map (fun c => tree6 m c) := by kernel_rfl

/-! ### One card more -/
theorem tb_pow (c i : Nat) : (2 ^ c).testBit i = decide (c = i) := Nat.testBit_two_pow
/-- A hand without a card. -/
def lessN (k c : Nat) : Nat := (BitVec.ofNat 64 k &&& ~~~BitVec.ofNat 64 (2 ^ c)).toNat
theorem lessN_tb (k c i : Nat) (hk : k < 4503599627370496) : (lessN k c).testBit i = (k.testBit i && !decide (c = i)) := by
  unfold lessN
  rw [BitVec.testBit_toNat, BitVec.getLsbD_and, BitVec.getLsbD_not, BitVec.getLsbD_ofNat, BitVec.getLsbD_ofNat, tb_pow]
  by_cases hi : i < 64
  · rw [decide_eq_true hi, Bool.true_and, Bool.true_and, Bool.true_and]
  · have : k.testBit i = false := Nat.testBit_lt_two_pow (Nat.lt_of_lt_of_le hk (by have := Nat.pow_le_pow_right (n := 2) (by omega) (show 52 ≤ i by omega); simpa using this))
    rw [decide_eq_false hi, this]; rfl
theorem lessN_lt (k c : Nat) : lessN k c < 18446744073709551616 := (BitVec.ofNat 64 k &&& ~~~BitVec.ofNat 64 (2 ^ c)).isLt
theorem pow_lt (c : Nat) (hc : c < 52) : 2 ^ c < 4503599627370496 := by
  have := Nat.pow_lt_pow_right (a := 2) (by omega) hc
  simpa using this
theorem bit6_eq (c : Nat) : bit6 c = ((2 ^ (c % 52) : Nat) : Int) := by
  have hc : c % 52 < 52 := Nat.mod_lt _ (by omega)
  have hp := pow_lt _ hc
  unfold bit6
  rw [show min (c % 52) 64 = c % 52 by omega, u64w]
  have : (1 * 2 ^ (c % 52) : Int) = ((2 ^ (c % 52) : Nat) : Int) := by simp
  rw [this]
  generalize 2 ^ (c % 52) = p at *
  omega
theorem less6_eq (m c : Nat) : less6 m c = (lessN (m % 4503599627370496) (c % 52) : Nat) := by
  have hl := lessN_lt (m % 4503599627370496) (c % 52)
  unfold less6
  rw [bit6_eq, BitVec.ofInt_natCast, BitVec.ofInt_natCast, u64w]
  show ((lessN (m % 4503599627370496) (c % 52) : Nat) : Int) % 18446744073709551616 = _
  omega
def moreN (k c : Nat) : Nat := lessN k c ||| 2 ^ c
theorem more6_eq (m c : Nat) : more6 m c = (moreN (m % 4503599627370496) (c % 52) : Nat) := by
  have hl := lessN_lt (m % 4503599627370496) (c % 52)
  have hp := pow_lt _ (Nat.mod_lt c (by omega : 52 > 0))
  unfold more6
  rw [less6_eq, bit6_eq, or_nat 64 _ _ hl (by omega), u64w]
  have : lessN (m % 4503599627370496) (c % 52) ||| 2 ^ (c % 52) < 2 ^ 64 := Nat.or_lt_two_pow hl (by omega)
  show ((moreN (m % 4503599627370496) (c % 52) : Nat) : Int) % 18446744073709551616 = _
  unfold moreN
  omega
theorem hd_more (k c s : Nat) : hd (moreN k c) s = if s = c / 13 then hd (lessN k c) s ||| 2 ^ (c % 13) else hd (lessN k c) s := by
  unfold moreN
  rw [hd_or]
  have e : 2 ^ c = 2 ^ (c % 13) * 2 ^ (13 * (c / 13)) := by rw [← Nat.pow_add]; congr 1; omega
  have hl : 2 ^ (c % 13) < 8192 := by
    have := Nat.pow_lt_pow_right (a := 2) (by omega) (Nat.mod_lt c (by omega : 13 > 0))
    simpa using this
  rw [e, hd_shift _ _ _ hl]
  split
  · rfl
  · exact Nat.or_zero _
theorem hd_less_bit (k c : Nat) (hk : k < 4503599627370496) : (hd (lessN k c) (c / 13)).testBit (c % 13) = false := by
  rw [hd_tb, lessN_tb _ _ _ hk, decide_eq_true (by omega : c = 13 * (c / 13) + c % 13)]
  simp
theorem or_mod (x r : Nat) : (x ||| 2 ^ (r + 1)) % 2 = x % 2 ∧ (x ||| 2 ^ (r + 1)) / 2 = x / 2 ||| 2 ^ r := by
  constructor
  · have h1 : ∀ y : Nat, y % 2 = b2n (y.testBit 0) := fun y => by
      rw [Nat.testBit_eq_decide_div_mod_eq]
      rcases Nat.mod_two_eq_zero_or_one y with e | e <;> simp [e, b2n]
    rw [h1, h1 x, Nat.testBit_or, tb_pow, decide_eq_false (by omega), Bool.or_false]
  · apply Nat.eq_of_testBit_eq
    intro i
    rw [Nat.testBit_or, ← Nat.testBit_succ, Nat.testBit_or, tb_pow, tb_pow, Nat.testBit_succ]
    congr 1
    simp
theorem or_one (x : Nat) (h : x.testBit 0 = false) : (x ||| 1) % 2 = 1 ∧ (x ||| 1) / 2 = x / 2 ∧ x % 2 = 0 := by
  have h1 : ∀ y : Nat, y % 2 = b2n (y.testBit 0) := fun y => by
    rw [Nat.testBit_eq_decide_div_mod_eq]
    rcases Nat.mod_two_eq_zero_or_one y with e | e <;> simp [e, b2n]
  refine ⟨?_, ?_, ?_⟩
  · rw [h1, Nat.testBit_or, h]; rfl
  · apply Nat.eq_of_testBit_eq
    intro i
    rw [← Nat.testBit_succ, Nat.testBit_or, Nat.testBit_succ, show (1 : Nat) = 2 ^ 0 from rfl, tb_pow, decide_eq_false (by omega), Bool.or_false]
  · rw [h1, h]; rfl
theorem bc_or : ∀ (n r x : Nat), r < n → x.testBit r = false → bc n (x ||| 2 ^ r) = bc n x + 1
  | 0, _, _, h, _ => by omega
  | n + 1, 0, x, _, hx => by
    obtain ⟨h1, h2, h3⟩ := or_one x hx
    show (x ||| 1) % 2 + bc n ((x ||| 1) / 2) = x % 2 + bc n (x / 2) + 1
    rw [h1, h2, h3]; omega
  | n + 1, r + 1, x, h, hx => by
    obtain ⟨h1, h2⟩ := or_mod x r
    have ih := bc_or n r (x / 2) (by omega) (by rw [← hx, Nat.testBit_succ])
    show (x ||| 2 ^ (r + 1)) % 2 + bc n ((x ||| 2 ^ (r + 1)) / 2) = x % 2 + bc n (x / 2) + 1
    rw [h1, h2, ih]; omega
theorem hb_or (x r j : Nat) : hb (x ||| 2 ^ r) j = (hb x j || decide (r = j)) := by
  rw [hb_tb, hb_tb, Nat.testBit_or, tb_pow]
def wt (a b c d r : Nat) : Nat := if r = 9 then a else if r = 10 then b else if r = 11 then c else if r = 12 then d else 0
theorem honS_or (a b c d x r : Nat) (hr : r < 13) (hx : hb x r = false) : honS a b c d (x ||| 2 ^ r) = honS a b c d x + wt a b c d r := by
  unfold honS wt
  simp only [hb_or]
  have hr' : r < 9 ∨ r = 9 ∨ r = 10 ∨ r = 11 ∨ r = 12 := by omega
  rcases hr' with h | rfl | rfl | rfl | rfl
  · rw [decide_eq_false (by omega : ¬ r = 9), decide_eq_false (by omega : ¬ r = 10), decide_eq_false (by omega : ¬ r = 11), decide_eq_false (by omega : ¬ r = 12), if_neg (by omega), if_neg (by omega), if_neg (by omega), if_neg (by omega)]
    simp
  · rw [hx]; simp; omega
  · rw [hx]; simp; omega
  · rw [hx]; simp; omega
  · rw [hx]; simp; omega
def qk (a k q l : Bool) : Nat := bif a && k then 4 else bif a && q then 3 else bif a || k && q then 2 else bif k && l then 1 else 0
theorem qk_mono : ∀ a k q l a' k' q' l' : Bool, (a → a') → (k → k') → (q → q') → (l → l') → qk a k q l ≤ qk a' k' q' l' := by decide
theorem qckS_or (x r : Nat) (hr : r < 13) (hx : x < 8192) (hf : x.testBit r = false) : qckS x ≤ qckS (x ||| 2 ^ r) := by
  show qk (hb x 12) (hb x 11) (hb x 10) (Nat.ble 2 (bc 16 x)) ≤ qk (hb (x ||| 2 ^ r) 12) (hb (x ||| 2 ^ r) 11) (hb (x ||| 2 ^ r) 10) (Nat.ble 2 (bc 16 (x ||| 2 ^ r)))
  have := hx
  refine qk_mono _ _ _ _ _ _ _ _ ?_ ?_ ?_ ?_
  · rw [hb_or]; intro h; rw [h]; rfl
  · rw [hb_or]; intro h; rw [h]; rfl
  · rw [hb_or]; intro h; rw [h]; rfl
  · rw [bc_or 16 r x (by omega) hf]
    intro h
    exact Nat.ble_eq_true_of_le (by have := Nat.le_of_ble_eq_true h; omega)

/-! ### The law -/
theorem sumS_more (f : Nat → Nat) (k c : Nat) (hc : c < 52) : ∃ x, sumS f (lessN k c) = x + f (hd (lessN k c) (c / 13)) ∧ sumS f (moreN k c) = x + f (hd (lessN k c) (c / 13) ||| 2 ^ (c % 13)) := by
  unfold sumS
  simp only [hd_more k c]
  have hs : c / 13 = 0 ∨ c / 13 = 1 ∨ c / 13 = 2 ∨ c / 13 = 3 := by omega
  rcases hs with e | e | e | e <;> rw [e]
  · exact ⟨f (hd (lessN k c) 1) + (f (hd (lessN k c) 2) + f (hd (lessN k c) 3)), by omega, by simp; omega⟩
  · exact ⟨f (hd (lessN k c) 0) + (f (hd (lessN k c) 2) + f (hd (lessN k c) 3)), by omega, by simp; omega⟩
  · exact ⟨f (hd (lessN k c) 0) + (f (hd (lessN k c) 1) + f (hd (lessN k c) 3)), by omega, by simp; omega⟩
  · exact ⟨f (hd (lessN k c) 0) + (f (hd (lessN k c) 1) + f (hd (lessN k c) 2)), by omega, by simp; omega⟩
theorem sum_le {f : Nat → Nat} (h : ∀ x, f x ≤ 100) (n : Nat) : sumS f n ≤ 400 := by
  unfold sumS
  have h0 := h (hd n 0)
  have h1 := h (hd n 1)
  have h2 := h (hd n 2)
  have h3 := h (hd n 3)
  omega
theorem tree6_eq (m c : Nat) : tree6 m c = some (.bool true) := by
  have hk : m % 4503599627370496 < 4503599627370496 := Nat.mod_lt _ (by omega)
  have hc : c % 52 < 52 := Nat.mod_lt _ (by omega)
  unfold tree6 sumX dl6 lnX hdX
  rw [less6_eq, more6_eq]
  simp only [shut_eq, Int.toNat_natCast]
  generalize m % 4503599627370496 = k at *
  generalize c % 52 = c at *
  have hbit := hd_less_bit k c hk
  have hbit' : hb (hd (lessN k c) (c / 13)) (c % 13) = false := by rw [hb_tb]; exact hbit
  have hr : c % 13 < 13 := Nat.mod_lt _ (by omega)
  have h1 : sumS (honS 1 2 3 4) (moreN k c) = sumS (honS 1 2 3 4) (lessN k c) + (c % 13 - 8) := by
    obtain ⟨x, e1, e2⟩ := sumS_more (honS 1 2 3 4) k c hc
    rw [e1, e2, honS_or _ _ _ _ _ _ hr hbit', Nat.add_assoc]
    congr 2
    unfold wt
    split <;> (try omega); split <;> (try omega); split <;> (try omega); split <;> omega
  have h2 : sumS (honS 0 0 1 2) (moreN k c) = sumS (honS 0 0 1 2) (lessN k c) + (c % 13 - 10) := by
    obtain ⟨x, e1, e2⟩ := sumS_more (honS 0 0 1 2) k c hc
    rw [e1, e2, honS_or _ _ _ _ _ _ hr hbit', Nat.add_assoc]
    congr 2
    unfold wt
    split <;> (try omega); split <;> (try omega); split <;> (try omega); split <;> omega
  have h3 : sumS qckS (lessN k c) ≤ sumS qckS (moreN k c) := by
    obtain ⟨x, e1, e2⟩ := sumS_more qckS k c hc
    have := qckS_or _ _ hr (hd_lt _ _) hbit
    omega
  have b1 := sum_le (honS_le (a := 1) (b := 2) (c := 3) (d := 4) (by omega) (by omega) (by omega) (by omega)) (lessN k c)
  have b2 := sum_le (honS_le (a := 0) (b := 0) (c := 1) (d := 2) (by omega) (by omega) (by omega) (by omega)) (lessN k c)
  have h4 (j : Nat) : (bif Nat.beq (c / 13) j then IntKind.i64.wrap (((ln (lessN k c) j : Nat) : Int) + 1) else ((ln (lessN k c) j : Nat) : Int)) = ((ln (moreN k c) j : Nat) : Int) := by
    have hle := ln_le (lessN k c) j
    unfold ln
    rw [hd_more k c j]
    by_cases e : j = c / 13
    · subst e
      rw [if_pos rfl, show Nat.beq (c / 13) (c / 13) = true by simp, cond_true, bc_or 13 _ _ hr hbit]
      unfold ln at hle
      rw [i64w (by omega)]; omega
    · have : Nat.beq (c / 13) j = false := by
        cases hx : Nat.beq (c / 13) j
        · rfl
        · exact absurd (Nat.eq_of_beq_eq_true hx).symm e
      rw [if_neg e, this, cond_false]
  have h5 : ((hd (moreN k c) (c / 13) : Nat) : Int) = IntKind.u16.wrap ↑(BitVec.ofInt 16 ((hd (lessN k c) (c / 13) : Nat) : Int) ||| BitVec.ofInt 16 (IntKind.u16.wrap (1 * 2 ^ min (c % 13) 16))).toNat := by
    have hl := hd_lt (lessN k c) (c / 13)
    have hp : 2 ^ (c % 13) < 8192 := by
      have := Nat.pow_lt_pow_right (a := 2) (by omega) hr
      simpa using this
    have e : (1 * 2 ^ (c % 13) : Int) = ((2 ^ (c % 13) : Nat) : Int) := by simp
    rw [hd_more k c _, if_pos rfl, show min (c % 13) 16 = c % 13 by omega, e]
    generalize 2 ^ (c % 13) = p at *
    rw [u16w, u16w, show ((p : Nat) : Int) % 65536 = ((p : Nat) : Int) by omega, or_nat 16 _ _ (by omega) (by omega)]
    have : hd (lessN k c) (c / 13) ||| p < 2 ^ 13 := Nat.or_lt_two_pow (by omega) (by omega)
    omega
  rw [h1, h2, i64w (n := ((sumS (honS 1 2 3 4) (lessN k c) : Nat) : Int) + ((c % 13 - 8 : Nat) : Int)) (by omega), i64w (n := ((sumS (honS 0 0 1 2) (lessN k c) : Nat) : Int) + ((c % 13 - 10 : Nat) : Int)) (by omega), ← h5]
  simp only [h4]
  rw [decide_eq_true (by omega : ((sumS qckS (moreN k c) : Nat) : Int) ≥ ((sumS qckS (lessN k c) : Nat) : Int))]
  simp
/-- HandMore is true. -/
theorem more_run (m c : Int) (h : 0 ≤ m ∧ m ≤ 18446744073709551615) (h' : 0 ≤ c ∧ c ≤ 255) : callsM C6 Z2 60 6 [.int .u64 m, .int .u8 c] = some (.bool true) := by
  obtain ⟨m, rfl⟩ : ∃ k : Nat, m = k := ⟨m.toNat, by omega⟩
  obtain ⟨c, rfl⟩ : ∃ k : Nat, c = k := ⟨c.toNat, by omega⟩
  rw [allEq (t6 m) c (List.mem_range.2 (by omega)), tree6_eq]
end Go.Proofs.YtgellkpbcoeccaaDoor
