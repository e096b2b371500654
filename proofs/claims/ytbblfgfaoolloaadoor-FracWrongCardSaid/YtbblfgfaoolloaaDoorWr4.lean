/- Chapter 1: FracWrong is true: the plain law. -/
import Derived.Test.YtbblfgfaoolloaaDoorWr3
namespace Go.Proofs.YtbblfgfaoolloaaDoor
open Go Go.Ev Go.Ev.Bits

theorem b16_eq (b : Int) : b16 b = b % 65536 := by
  unfold b16
  have e : ((BitVec.ofInt IntKind.i64.bits b &&& BitVec.ofInt IntKind.i64.bits 65535).toNat : Int) = b % 65536 := and_mask 64 16 (by omega) b
  rw [e, i64w (by omega)]
theorem rt_den (n d : Int) (h : d ≤ 0) : rtN n d = false := by
  unfold rtN; rw [decide_eq_false (by omega)]; rfl
theorem rt_gcd {n d : Int} (h : 2 ≤ Nat.gcd n.natAbs d.toNat) : rtN n d = false := by
  unfold rtN
  have : Nat.beq (Nat.gcd n.natAbs d.toNat) 1 = false := by
    cases hx : Nat.beq (Nat.gcd n.natAbs d.toNat) 1
    · rfl
    · have := Nat.eq_of_beq_eq_true hx; omega
  rw [this, Bool.and_false]
theorem bad_ok (a b : Int) (k : Nat) (ha : -9223372036854775808 ≤ a ∧ a ≤ 9223372036854775807) (hb : -9223372036854775808 ≤ b ∧ b ≤ 9223372036854775807) :
    i64k (badF a b k).1 = true ∧ i64k (badF a b k).2 = true ∧ rtN (badF a b k).1 (badF a b k).2 = false := by
  match k with
  | 0 => exact ⟨i64k_iff.2 ha, (by decide : i64k 0 = true), rt_den a 0 (by decide)⟩
  | 1 =>
    have e : (badF a b 1).2 ≤ -1 ∧ -9223372036854775808 ≤ (badF a b 1).2 := by
      show (bif decide (-1 < b) then -1 else b) ≤ -1 ∧ -9223372036854775808 ≤ (bif decide (-1 < b) then -1 else b)
      by_cases h : -1 < b
      · rw [decide_eq_true h, cond_true]; omega
      · rw [decide_eq_false h, cond_false]; omega
    exact ⟨i64k_iff.2 ha, i64k_iff.2 (by omega), rt_den _ _ (by omega)⟩
  | 2 =>
    have e1 : (badF a b 2).1 = 2 * (a / 4) := by
      show IntKind.i64.wrap (2 * a.fdiv (2 ^ min (Int.toNat 2) IntKind.i64.bits)) = _
      rw [show (2 : Int) ^ min (Int.toNat 2) IntKind.i64.bits = 4 from rfl, fdiv_pos a (by omega), i64w (by omega)]
    have e2 : (badF a b 2).2 = 2 * (1 + b % 65536) := by
      show IntKind.i64.wrap (2 * IntKind.i64.wrap (1 + b16 b)) = _
      rw [b16_eq, i64w (n := 1 + b % 65536) (by omega), i64w (by omega)]
    rw [e1, e2]
    refine ⟨i64k_iff.2 (by omega), i64k_iff.2 (by omega), rt_gcd ?_⟩
    have d : 2 ∣ Nat.gcd (2 * (a / 4)).natAbs (2 * (1 + b % 65536)).toNat := Nat.dvd_gcd (by omega) (by omega)
    have p : 0 < Nat.gcd (2 * (a / 4)).natAbs (2 * (1 + b % 65536)).toNat := Nat.gcd_pos_of_pos_right _ (by omega)
    exact Nat.le_of_dvd p d
  | 3 =>
    have e2 : (badF a b 3).2 = 2 + b % 65536 := by
      show IntKind.i64.wrap (2 + b16 b) = _
      rw [b16_eq, i64w (by omega)]
    rw [e2]
    refine ⟨(by decide : i64k 0 = true), i64k_iff.2 (by omega), rt_gcd ?_⟩
    show 2 ≤ Nat.gcd (Int.natAbs 0) _
    rw [show Int.natAbs 0 = 0 from rfl, Nat.gcd_zero_left]; omega
  | 4 => exact ⟨(by decide : i64k 0 = true), (by decide : i64k 0 = true), rt_den 0 0 (by decide)⟩
  | k + 5 => exact ⟨(by decide : i64k 1 = true), (by decide : i64k (-1) = true), rt_den 1 (-1) (by decide)⟩
theorem nE2 (k : Option AV) : nE 2 k = k := rfl
/-- With a good one and a bad one all is as it should be. -/
theorem TW_eq {p : Rat} (hp : bdQ p M63 M63) {bn bd : Int} (h1 : i64k bn = true) (h2 : i64k bd = true) (hb : rtN bn bd = false) (a : Int) (ha : i64k a = true) : TW p.num p.den bn bd a = tB true := by
  have gn := i64k_n hp
  have gd2 := i64k_d hp
  have rp := rtN_rat p
  have u1 : u4 p.num p.den bn bd = true := by unfold u4; rw [gn, gd2, h1, h2]; rfl
  have u2 : u4 bn bd p.num p.den = true := by unfold u4; rw [gn, gd2, h1, h2]; rfl
  have u3 : u4 bn bd 1 1 = true := by unfold u4; rw [h1, h2, (by decide : i64k 1 = true)]; rfl
  have u5 : u4 p.num p.den 0 1 = true := by unfold u4; rw [gn, gd2, (by decide : i64k 0 = true), (by decide : i64k 1 = true)]; rfl
  have v1 : u2k p.num p.den = true := u2k_ok gn gd2
  have v2 : u2k bn bd = true := u2k_ok h1 h2
  have v3 : u2k a 0 = true := u2k_ok ha (by decide)
  have b1 : bad2 bn bd = true := bad2_iff.2 ⟨h1, h2, hb⟩
  have o1 : offP bn bd 2 = true := by unfold offP; rw [h1, h2, hb]; rfl
  have o2 : offP p.num p.den (bif decide (-1 < a) then -1 else a) = true := by
    have : decide ((bif decide (-1 < a) then -1 else a) < 0) = true := by
      by_cases h : -1 < a
      · rw [decide_eq_true h]; rfl
      · rw [decide_eq_false h, cond_false]; exact decide_eq_true (by omega)
    unfold offP; rw [gn, gd2, rp, this]; rfl
  have o3 : offP p.num p.den (bif decide (10 > a) then 10 else a) = true := by
    have : decide ((bif decide (10 > a) then 10 else a) > 9) = true := by
      by_cases h : 10 > a
      · rw [decide_eq_true h]; rfl
      · rw [decide_eq_false h, cond_false]; exact decide_eq_true (by omega)
    unfold offP; rw [gn, gd2, rp, this, Bool.or_true, Bool.or_true]; rfl
  have q1 : opA p.num p.den bn bd = (0, 0, 2) := by unfold opA; rw [rp, hb]; rfl
  have q2 : opS bn bd p.num p.den = (0, 0, 2) := by unfold opS; rw [hb]; rfl
  have q3 : opM p.num p.den bn bd = (0, 0, 2) := by unfold opM; rw [rp, hb]; rfl
  have q4 : opD bn bd 1 1 = (0, 0, 2) := by unfold opD; rw [hb]; rfl
  have q5 : opC bn bd p.num p.den = (0, 2) := by unfold opC; rw [hb]; rfl
  have q6 : opN bn bd = (0, 0, 2) := by unfold opN; rw [hb]; rfl
  have q7 : mkF a 0 = (0, 0, 2) := rfl
  have q8 : opD p.num p.den 0 1 = (0, 0, 2) := by unfold opD; rw [rp, (by decide : rtN 0 1 = true)]; rfl
  unfold TW sumK
  simp only [shut_eq]
  rw [q1, q2, q3, q4, q5, q6, q7, q8, rp, hb]
  rw [gd_eq u1, gd_eq u2, gd_eq u1, gd_eq u3, gd_eq v1, Bool.not_true, cond_false, gd_eq v2, Bool.not_false, cond_true, gd_eq u2, gd_eq b1, gd_eq o1, gd_eq b1, gd_eq v2, gd_eq o2, gd_eq o3, gd_eq v3, gd_eq u5, gd_eq v2, gd_eq v1]
  rfl
theorem LW_eq (a b n : Int) (w : Nat) (ha : -9223372036854775808 ≤ a ∧ a ≤ 9223372036854775807) (hb : -9223372036854775808 ≤ b ∧ b ≤ 9223372036854775807) (hn : -32768 ≤ n ∧ n ≤ 32767) : LW a b n w = some (.bool true) := by
  obtain ⟨h1, h2, h3⟩ := bad_ok a b (w % 6) ha hb
  unfold LW
  rw [gd_eq (by rw [leI_iff.2 hn.1, leI_iff.2 hn.2]; rfl), sN_eq, sD_eq]
  exact TW_eq (bd_le (sq_bd n 5 hn) (by decide) (by decide)) h1 h2 h3 a (i64k_iff.2 ha)
end Go.Proofs.YtbblfgfaoolloaaDoor
