/- Chapter 5: bits of hands, plain Lean. -/
import Derived.Test.YtgellkpbcoeccaaDoorH8
namespace Go.Proofs.YtgellkpbcoeccaaDoor
open Go Go.Ev Go.Ev.Bits

theorem hb_tb (h r : Nat) : hb h r = h.testBit r := by
  rw [Nat.testBit_eq_decide_div_mod_eq]
  unfold hb
  rcases Nat.mod_two_eq_zero_or_one (h / 2 ^ r) with e | e <;> rw [e] <;> rfl
theorem hd_tb (n s j : Nat) : (hd n s).testBit j = (decide (j < 13) && n.testBit (13 * s + j)) := by
  unfold hd
  rw [show (8192 : Nat) = 2 ^ 13 from rfl, Nat.testBit_mod_two_pow, Nat.testBit_div_two_pow, Nat.add_comm]
theorem hd_and (x y s : Nat) : hd (x &&& y) s = hd x s &&& hd y s := by
  apply Nat.eq_of_testBit_eq
  intro j
  rw [Nat.testBit_and, hd_tb, hd_tb, hd_tb, Nat.testBit_and]
  cases decide (j < 13) <;> simp
theorem hd_or (x y s : Nat) : hd (x ||| y) s = hd x s ||| hd y s := by
  apply Nat.eq_of_testBit_eq
  intro j
  rw [Nat.testBit_or, hd_tb, hd_tb, hd_tb, Nat.testBit_or]
  cases decide (j < 13) <;> simp
theorem tb_big {a j : Nat} (h : a < 8192) (hj : 13 ≤ j) : a.testBit j = false :=
  Nat.testBit_lt_two_pow (Nat.lt_of_lt_of_le h (by have := Nat.pow_le_pow_right (n := 2) (by omega) hj; simpa using this))
theorem hd_shift (a l s : Nat) (h : a < 8192) : hd (a * 2 ^ (13 * l)) s = if s = l then a else 0 := by
  apply Nat.eq_of_testBit_eq
  intro j
  rw [hd_tb, Nat.testBit_mul_two_pow]
  by_cases hj : j < 13
  · rw [decide_eq_true hj, Bool.true_and]
    rcases Nat.lt_trichotomy s l with e | e | e
    · rw [if_neg (by omega), decide_eq_false (by omega), Bool.false_and, Nat.zero_testBit]
    · subst e
      rw [if_pos rfl, decide_eq_true (by omega), Bool.true_and]
      congr 1; omega
    · rw [if_neg (by omega), tb_big h (by omega), Bool.and_false, Nat.zero_testBit]
  · rw [decide_eq_false hj, Bool.false_and]
    split
    · exact (tb_big h (by omega)).symm
    · exact (Nat.zero_testBit j).symm
/-- One suit of a hand. -/
theorem hd_one (n i s : Nat) : hd (n &&& (8191 * 2 ^ (13 * i))) s = if s = i then hd n i else 0 := by
  rw [hd_and, hd_shift _ _ _ (by omega)]
  split
  · rename_i e
    subst e
    have : hd n s < 2 ^ 13 := hd_lt n s
    rw [show (8191 : Nat) = 2 ^ 13 - 1 from rfl, Nat.and_two_pow_sub_one_eq_mod, Nat.mod_eq_of_lt this]
  · exact Nat.and_zero _

/-! ### Ones, bit by bit -/
theorem bc_set : ∀ (n r a : Nat), r < n → a.testBit r = false → bc n (a + 2 ^ r) = bc n a + 1
  | 0, _, _, h, _ => by omega
  | n + 1, 0, a, _, hf => by
    have h0 : a % 2 = 0 := by
      rw [Nat.testBit_eq_decide_div_mod_eq] at hf
      simp at hf; exact hf
    show (a + 1) % 2 + bc n ((a + 1) / 2) = a % 2 + bc n (a / 2) + 1
    rw [show (a + 1) / 2 = a / 2 by omega]
    omega
  | n + 1, r + 1, a, h, hf => by
    have hf' : (a / 2).testBit r = false := by rw [← hf, Nat.testBit_succ]
    have ih := bc_set n r (a / 2) (by omega) hf'
    show (a + 2 ^ (r + 1)) % 2 + bc n ((a + 2 ^ (r + 1)) / 2) = a % 2 + bc n (a / 2) + 1
    have e : 2 ^ (r + 1) = 2 * 2 ^ r := by rw [Nat.pow_succ]; omega
    rw [e, show (a + 2 * 2 ^ r) / 2 = a / 2 + 2 ^ r by omega, ih]
    omega
/-- Ones as a sum over the bits. -/
theorem bc_bits : ∀ (n x : Nat), bc n x = ((List.range n).map fun i => b2n (x.testBit i)).sum
  | 0, _ => rfl
  | n + 1, x => by
    rw [show bc (n + 1) x = bc n x + bc 1 (x / 2 ^ n) from bc_add 1 n x, bc_bits n x, List.range_succ, List.map_append, List.sum_append]
    congr 1
    show x / 2 ^ n % 2 + 0 = b2n (x.testBit n) + 0
    rw [Nat.testBit_eq_decide_div_mod_eq]
    rcases Nat.mod_two_eq_zero_or_one (x / 2 ^ n) with e | e <;> rw [e] <;> rfl
theorem bc_split (n : Nat) (h : n < 4503599627370496) : bc 64 n = ln n 0 + (ln n 1 + (ln n 2 + ln n 3)) := by
  have e (k x : Nat) : bc (13 + k) x = bc 13 x + bc k (x / 8192) := bc_add k 13 x
  have m (x : Nat) : bc 13 (x % 8192) = bc 13 x := bc_mod 13 13 x (Nat.le_refl _)
  unfold ln hd
  rw [m, m, m, m, show (64 : Nat) = 13 + 51 from rfl, e, show (51 : Nat) = 13 + 38 from rfl, e, show (38 : Nat) = 13 + 25 from rfl, e, show (25 : Nat) = 13 + 12 from rfl, e]
  simp only [Nat.div_div_eq_div_mul]
  rw [show n / (8192 * 8192 * 8192 * 8192) = 0 by omega, bc_zero]
  simp
/-- What a suit loses. -/
theorem losS_facts (h : Nat) (hl : h < 8192) : losS h ≤ bc 16 h ∧ (3 ≤ bc 16 h → losS h + (b2n (hb h 12) + (b2n (hb h 11) + b2n (hb h 10))) = 3) ∧ (bc 16 h = 1 → (losS h = 1 ↔ h / 4096 = 0)) := by
  have h12 : hb h 12 = Nat.beq (h / 4096) 1 := by unfold hb; rw [Nat.mod_eq_of_lt (by omega)]
  unfold losS
  generalize bc 16 h = l
  refine ⟨?_, fun h3 => ?_, fun h1 => ?_⟩
  · have a1 := b2n_le (Nat.ble 1 l && !(hb h 12))
    have a2 := b2n_le (Nat.ble 2 l && !(hb h 11))
    have a3 := b2n_le (Nat.ble 3 l && !(hb h 10))
    have f (k : Nat) (hk : l < k) (b : Bool) : b2n (Nat.ble k l && b) = 0 := by
      have : Nat.ble k l = false := by
        cases hx : Nat.ble k l
        · rfl
        · have := Nat.le_of_ble_eq_true hx; omega
      rw [this]; rfl
    rcases Nat.lt_or_ge l 1 with e | e
    · rw [f 1 (by omega), f 2 (by omega), f 3 (by omega)]; omega
    · rcases Nat.lt_or_ge l 2 with e2 | e2
      · rw [f 2 (by omega), f 3 (by omega)]; omega
      · rcases Nat.lt_or_ge l 3 with e3 | e3
        · rw [f 3 (by omega)]; omega
        · omega
  · rw [Nat.ble_eq_true_of_le (by omega : 1 ≤ l), Nat.ble_eq_true_of_le (by omega : 2 ≤ l), Nat.ble_eq_true_of_le h3]
    cases hb h 12 <;> cases hb h 11 <;> cases hb h 10 <;> rfl
  · subst h1
    show b2n (!(hb h 12)) + (b2n (false && _) + b2n (false && _)) = 1 ↔ _
    rw [h12, Bool.false_and, Bool.false_and]
    have hc : h / 4096 = 0 ∨ h / 4096 = 1 := by omega
    rcases hc with e | e <;> rw [e] <;> decide
end Go.Proofs.YtgellkpbcoeccaaDoor
