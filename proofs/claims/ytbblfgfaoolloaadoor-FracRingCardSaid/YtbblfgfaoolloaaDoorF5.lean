/- Chapter 1: wide numbers, sizes, fitting; the context with them. -/
import Derived.Test.YtbblfgfaoolloaaDoorF4
namespace Go.Proofs.YtbblfgfaoolloaaDoor
open Go Go.Ev Go.Ev.Bits

theorem wv_lohi (n : Nat) : wvN (loN n) (hiN n) = n := by unfold wvN loN hiN; omega
theorem lo_lt (n : Nat) : loN n < 18446744073709551616 := Nat.mod_lt _ (by omega)
theorem u64k_nat {n : Nat} (h : n < 18446744073709551616) : u64k (n : Int) = true := u64k_iff.2 (by omega)
theorem u64k_shut {n : Nat} (h : n < 18446744073709551616) : u64k ((shut n : Nat) : Int) = true := by rw [shut_eq]; exact u64k_nat h
theorem hi_lt {n : Nat} (h : n < 340282366920938463463374607431768211456) : hiN n < 18446744073709551616 := by unfold hiN; omega

/-! ### over -/
noncomputable def sOver : List AV → T AV
  | [.agg [.int .u64 a, .int .u64 b], .int .u64 d] => .chk (u64k a && (u64k b && (leI 1 d && leI d 9223372036854775808)))
      (.leaf (.tup [.agg [.int .u64 (shut (loN (wvN a.toNat b.toNat / d.toNat)) : Nat), .int .u64 (shut (hiN (wvN a.toNat b.toNat / d.toNat)) : Nat)], .int .u64 (shut (wvN a.toNat b.toNat % d.toNat) : Nat)]))
  | _ => .fail
noncomputable def cOver (a b d : Nat) : Bool := u64k (a : Int) && (u64k (b : Int) && (leI 1 (d : Int) && (leI (d : Int) 9223372036854775808 && (true && (true && (true && ((a : Int) == a && ((b : Int) == b && true))))))))
theorem t42 (a b d : Nat) : callsM C0 Z42 60 42 [.agg [.int .u64 a, .int .u64 b], .int .u64 d] = bif cOver a b d then some (.tup [.agg [.int .u64 (shut (loN (wvN a b / d)) : Nat), .int .u64 (shut (hiN (wvN a b / d)) : Nat)], .int .u64 (shut (wvN a b % d) : Nat)]) else none := by kernel_rfl
theorem iso42 : ∀ args v, (sOver args).run = some v → callsM C0 Z42 60 42 args = some v := by
  intro args v hr
  unfold sOver at hr
  split at hr
  · rename_i a b d
    obtain ⟨hc, hr2⟩ := T.of_chk hr
    clear hr
    have hc' := hc
    simp only [Bool.and_eq_true, u64k_iff, leI_iff] at hc
    obtain ⟨a, rfl⟩ : ∃ n : Nat, a = n := ⟨a.toNat, by omega⟩
    obtain ⟨b, rfl⟩ : ∃ n : Nat, b = n := ⟨b.toNat, by omega⟩
    obtain ⟨d, rfl⟩ : ∃ n : Nat, d = n := ⟨d.toNat, by omega⟩
    have c : cOver a b d = true := by
      unfold cOver
      rw [beq_self_eq_true, beq_self_eq_true]
      simp only [Bool.and_true]
      exact hc'
    rw [t42, c, cond_true]
    exact hr2
  · simp [T.run] at hr
theorem sum42 : SumAt C0 (42, sOver) := ⟨callsM_fn ok0 z42 (iso42 [.agg [.int .u64 0, .int .u64 0], .int .u64 1] _ rfl), fun args v hr => callsM_iso ok0 z42 (iso42 args v hr)⟩

/-! ### times -/
def aL (x : Int) : Int := IntKind.u64.wrap ↑(BitVec.ofInt IntKind.u64.bits x &&& BitVec.ofInt IntKind.u64.bits 4294967295).toNat
def aH (x : Int) : Int := x.fdiv (2 ^ min (Int.toNat 32) IntKind.u64.bits)
def pT (a b : Int) : Int := IntKind.u64.wrap (aL a * aL b)
def qT (a b : Int) : Int := IntKind.u64.wrap (aL a * aH b)
def rT (a b : Int) : Int := IntKind.u64.wrap (aH a * aL b)
def sT (a b : Int) : Int := IntKind.u64.wrap (aH a * aH b)
def midT (a b : Int) : Int := IntKind.u64.wrap (IntKind.u64.wrap (aH (pT a b) + aL (qT a b)) + aL (rT a b))
def loT (a b : Int) : Int := IntKind.u64.wrap ↑(BitVec.ofInt IntKind.u64.bits (aL (pT a b)) ||| BitVec.ofInt IntKind.u64.bits (IntKind.u64.wrap (midT a b * 2 ^ min (Int.toNat 32) IntKind.u64.bits))).toNat
def hiT (a b : Int) : Int := IntKind.u64.wrap (IntKind.u64.wrap (IntKind.u64.wrap (sT a b + aH (qT a b)) + aH (rT a b)) + aH (midT a b))
theorem t34 (a b : Nat) : callsM C0 noZ 60 34 [.int .u64 a, .int .u64 b] = some (.agg [.int .u64 (loT a b), .int .u64 (hiT a b)]) := by kernel_rfl
theorem aL_eq (x : Nat) : aL (x : Int) = ((x % 2 ^ 32 : Nat) : Int) := by
  unfold aL
  have e : ((BitVec.ofInt IntKind.u64.bits (x : Int) &&& BitVec.ofInt IntKind.u64.bits 4294967295).toNat : Int) = ((x % 2 ^ 32 : Nat) : Int) := (and_mask 64 32 (by omega) _).trans (by rw [Int.natCast_emod])
  rw [e, u64w]; omega
theorem aH_eq (x : Nat) : aH (x : Int) = ((x / 2 ^ 32 : Nat) : Int) := by
  unfold aH
  rw [show (2 : Int) ^ min (Int.toNat 32) IntKind.u64.bits = ((2 ^ 32 : Nat) : Int) from rfl, fdiv_nat]
theorem wrap_nat {x : Int} {n : Nat} (h : x = (n : Int)) (hn : n < 2 ^ 64) : IntKind.u64.wrap x = (n : Int) := by rw [h, u64w]; omega
theorem times_eq (a b : Nat) (ha : a < 2 ^ 64) (hb : b < 2 ^ 64) : loT a b = ((loN (a * b) : Nat) : Int) ∧ hiT a b = ((hiN (a * b) : Nat) : Int) := by
  have l := times_law a b ha hb
  dsimp only at l
  obtain ⟨hp, hq, hr, hs, hm, hh, el, eh⟩ := l
  have ep : pT a b = (((a % 2 ^ 32) * (b % 2 ^ 32) : Nat) : Int) := by
    unfold pT; rw [aL_eq, aL_eq]; exact wrap_nat (Int.natCast_mul _ _).symm hp
  have eq : qT a b = (((a % 2 ^ 32) * (b / 2 ^ 32) : Nat) : Int) := by
    unfold qT; rw [aL_eq, aH_eq]; exact wrap_nat (Int.natCast_mul _ _).symm hq
  have er : rT a b = (((a / 2 ^ 32) * (b % 2 ^ 32) : Nat) : Int) := by
    unfold rT; rw [aH_eq, aL_eq]; exact wrap_nat (Int.natCast_mul _ _).symm hr
  have es : sT a b = (((a / 2 ^ 32) * (b / 2 ^ 32) : Nat) : Int) := by
    unfold sT; rw [aH_eq, aH_eq]; exact wrap_nat (Int.natCast_mul _ _).symm hs
  have em : midT a b = (((a % 2 ^ 32) * (b % 2 ^ 32) / 2 ^ 32 + (a % 2 ^ 32) * (b / 2 ^ 32) % 2 ^ 32 + (a / 2 ^ 32) * (b % 2 ^ 32) % 2 ^ 32 : Nat) : Int) := by
    unfold midT
    rw [ep, eq, er, aH_eq, aL_eq, aL_eq]
    generalize (a % 2 ^ 32) * (b % 2 ^ 32) = p at *
    generalize (a % 2 ^ 32) * (b / 2 ^ 32) = q at *
    generalize (a / 2 ^ 32) * (b % 2 ^ 32) = r at *
    rw [wrap_nat (n := p / 2 ^ 32 + q % 2 ^ 32) (Int.natCast_add _ _).symm (by omega)]
    exact wrap_nat (Int.natCast_add _ _).symm (by omega)
  constructor
  · unfold loT
    rw [em, ep, aL_eq]
    generalize (a % 2 ^ 32) * (b % 2 ^ 32) = p at *
    generalize (a % 2 ^ 32) * (b / 2 ^ 32) = q at *
    generalize (a / 2 ^ 32) * (b % 2 ^ 32) = r at *
    generalize p / 2 ^ 32 + q % 2 ^ 32 + r % 2 ^ 32 = m at *
    have e1 : IntKind.u64.wrap ((m : Int) * 2 ^ min (Int.toNat 32) IntKind.u64.bits) = ((2 ^ 32 * (m % 2 ^ 32) : Nat) : Int) := by
      show IntKind.u64.wrap ((m : Int) * 4294967296) = _
      rw [u64w]; omega
    have h1 : p % 2 ^ 32 < 2 ^ 32 := Nat.mod_lt _ (by decide)
    rw [e1, or_nat IntKind.u64.bits _ _ (show _ < 2 ^ 64 by omega) (show _ < 2 ^ 64 by omega), Nat.or_comm, ← Nat.two_pow_add_eq_or_of_lt h1]
    unfold loN
    rw [← show 2 ^ 64 = 18446744073709551616 from rfl, ← el]
    exact wrap_nat (by rw [Nat.mul_comm, Nat.add_comm]) (by omega)
  · unfold hiT
    rw [es, eq, er, em, aH_eq, aH_eq, aH_eq]
    unfold hiN
    rw [← show 2 ^ 64 = 18446744073709551616 from rfl, ← eh]
    generalize (a % 2 ^ 32) * (b % 2 ^ 32) = p at *
    generalize (a % 2 ^ 32) * (b / 2 ^ 32) = q at *
    generalize (a / 2 ^ 32) * (b % 2 ^ 32) = r at *
    generalize (a / 2 ^ 32) * (b / 2 ^ 32) = s at *
    generalize p / 2 ^ 32 + q % 2 ^ 32 + r % 2 ^ 32 = m at *
    rw [wrap_nat (n := s + q / 2 ^ 32) (Int.natCast_add _ _).symm (by omega), wrap_nat (n := s + q / 2 ^ 32 + r / 2 ^ 32) (Int.natCast_add _ _).symm (by omega)]
    exact wrap_nat (Int.natCast_add _ _).symm (by omega)
noncomputable def sTimes : List AV → T AV
  | [.int .u64 a, .int .u64 b] => .chk (u64k a && u64k b) (.leaf (.agg [.int .u64 (shut (loN (a.toNat * b.toNat)) : Nat), .int .u64 (shut (hiN (a.toNat * b.toNat)) : Nat)]))
  | _ => .fail
theorem iso34 : ∀ args v, (sTimes args).run = some v → callsM C0 noZ 60 34 args = some v := by
  intro args v hr
  unfold sTimes at hr
  split at hr
  · rename_i a b
    obtain ⟨hc, hr2⟩ := T.of_chk hr
    clear hr
    simp only [Bool.and_eq_true, u64k_iff] at hc
    obtain ⟨a, rfl⟩ : ∃ n : Nat, a = n := ⟨a.toNat, by omega⟩
    obtain ⟨b, rfl⟩ : ∃ n : Nat, b = n := ⟨b.toNat, by omega⟩
    obtain ⟨e1, e2⟩ := times_eq a b (by omega) (by omega)
    simp only [shut_eq, Int.toNat_natCast] at hr2
    rw [t34, e1, e2]
    exact hr2
  · simp [T.run] at hr
theorem sum34 : SumAt C0 (34, sTimes) := ⟨callsM_fn ok0 noZ0 (iso34 [.int .u64 0, .int .u64 0] _ rfl), fun args v hr => callsM_iso ok0 noZ0 (iso34 args v hr)⟩

/-! ### plus, minus -/
def tPlus (a b c d : Int) : Option AV := bif decide (IntKind.u64.wrap (a + c) < a) then some (.agg [.int .u64 (IntKind.u64.wrap (a + c)), .int .u64 (IntKind.u64.wrap (IntKind.u64.wrap (b + d) + 1))]) else some (.agg [.int .u64 (IntKind.u64.wrap (a + c)), .int .u64 (IntKind.u64.wrap (b + d))])
def tMinus (a b c d : Int) : Option AV := bif decide (a < c) then some (.agg [.int .u64 (IntKind.u64.wrap (a - c)), .int .u64 (IntKind.u64.wrap (IntKind.u64.wrap (b - d) - 1))]) else some (.agg [.int .u64 (IntKind.u64.wrap (a - c)), .int .u64 (IntKind.u64.wrap (b - d))])
theorem t54 (a b c d : Nat) : callsM C0 noZ 60 54 [.agg [.int .u64 a, .int .u64 b], .agg [.int .u64 c, .int .u64 d]] = tPlus a b c d := by kernel_rfl
theorem t55 (a b c d : Nat) : callsM C0 noZ 60 55 [.agg [.int .u64 a, .int .u64 b], .agg [.int .u64 c, .int .u64 d]] = tMinus a b c d := by kernel_rfl
def wide (n : Nat) : AV := .agg [.int .u64 (loN n : Nat), .int .u64 (hiN n : Nat)]
theorem tPlus_eq (a b c d : Nat) (ha : a < 18446744073709551616) (hb : b < 18446744073709551616) (hc : c < 18446744073709551616) (hd : d < 18446744073709551616) (h : wvN a b + wvN c d ≤ 340282366920938463463374607431768211455) : tPlus a b c d = some (wide (wvN a b + wvN c d)) := by
  unfold tPlus wide
  have e1 : IntKind.u64.wrap ((a : Int) + c) = ((loN (wvN a b + wvN c d) : Nat) : Int) := by rw [u64w]; unfold loN wvN; omega
  unfold wvN at h
  rcases Nat.lt_or_ge (a + c) 18446744073709551616 with g | g
  · have e2 : IntKind.u64.wrap ((b : Int) + d) = ((hiN (wvN a b + wvN c d) : Nat) : Int) := by rw [u64w]; unfold hiN wvN; omega
    rw [decide_eq_false (by rw [u64w]; omega), cond_false, e1, e2]
  · have e2 : IntKind.u64.wrap (IntKind.u64.wrap ((b : Int) + d) + 1) = ((hiN (wvN a b + wvN c d) : Nat) : Int) := by rw [u64w, u64w]; unfold hiN wvN; omega
    rw [decide_eq_true (by rw [u64w]; omega), cond_true, e1, e2]
theorem tMinus_eq (a b c d : Nat) (ha : a < 18446744073709551616) (hb : b < 18446744073709551616) (hc : c < 18446744073709551616) (hd : d < 18446744073709551616) (h : wvN c d ≤ wvN a b) : tMinus a b c d = some (wide (wvN a b - wvN c d)) := by
  unfold tMinus wide
  unfold wvN at h
  have e1 : IntKind.u64.wrap ((a : Int) - c) = ((loN (wvN a b - wvN c d) : Nat) : Int) := by rw [u64w]; unfold loN wvN; omega
  rcases Nat.lt_or_ge a c with g | g
  · have e2 : IntKind.u64.wrap (IntKind.u64.wrap ((b : Int) - d) - 1) = ((hiN (wvN a b - wvN c d) : Nat) : Int) := by rw [u64w, u64w]; unfold hiN wvN; omega
    rw [decide_eq_true (by omega), cond_true, e1, e2]
  · have e2 : IntKind.u64.wrap ((b : Int) - d) = ((hiN (wvN a b - wvN c d) : Nat) : Int) := by rw [u64w]; unfold hiN wvN; omega
    rw [decide_eq_false (by omega), cond_false, e1, e2]
noncomputable def wideS (n : Nat) : AV := .agg [.int .u64 (shut (loN n) : Nat), .int .u64 (shut (hiN n) : Nat)]
theorem wideS_eq (n : Nat) : wideS n = wide n := by unfold wideS wide; rw [shut_eq, shut_eq]
noncomputable def sPlus : List AV → T AV
  | [.agg [.int .u64 a, .int .u64 b], .agg [.int .u64 c, .int .u64 d]] => .chk (u64k a && (u64k b && (u64k c && (u64k d && Nat.ble (wvN a.toNat b.toNat + wvN c.toNat d.toNat) 340282366920938463463374607431768211455)))) (.leaf (wideS (wvN a.toNat b.toNat + wvN c.toNat d.toNat)))
  | _ => .fail
noncomputable def sMinus : List AV → T AV
  | [.agg [.int .u64 a, .int .u64 b], .agg [.int .u64 c, .int .u64 d]] => .chk (u64k a && (u64k b && (u64k c && (u64k d && Nat.ble (wvN c.toNat d.toNat) (wvN a.toNat b.toNat))))) (.leaf (wideS (wvN a.toNat b.toNat - wvN c.toNat d.toNat)))
  | _ => .fail
theorem iso54 : ∀ args v, (sPlus args).run = some v → callsM C0 noZ 60 54 args = some v := by
  intro args v hr
  unfold sPlus at hr
  split at hr
  · rename_i a b c d
    obtain ⟨hc, hr2⟩ := T.of_chk hr
    clear hr
    simp only [Bool.and_eq_true, u64k_iff] at hc
    obtain ⟨h1, h2, h3, h4, h5⟩ := hc
    obtain ⟨a, rfl⟩ : ∃ n : Nat, a = n := ⟨a.toNat, by omega⟩
    obtain ⟨b, rfl⟩ : ∃ n : Nat, b = n := ⟨b.toNat, by omega⟩
    obtain ⟨c, rfl⟩ : ∃ n : Nat, c = n := ⟨c.toNat, by omega⟩
    obtain ⟨d, rfl⟩ : ∃ n : Nat, d = n := ⟨d.toNat, by omega⟩
    simp only [Int.toNat_natCast] at h5 hr2
    rw [t54, tPlus_eq a b c d (by omega) (by omega) (by omega) (by omega) (Nat.le_of_ble_eq_true h5), ← wideS_eq]
    exact hr2
  · simp [T.run] at hr
theorem iso55 : ∀ args v, (sMinus args).run = some v → callsM C0 noZ 60 55 args = some v := by
  intro args v hr
  unfold sMinus at hr
  split at hr
  · rename_i a b c d
    obtain ⟨hc, hr2⟩ := T.of_chk hr
    clear hr
    simp only [Bool.and_eq_true, u64k_iff] at hc
    obtain ⟨h1, h2, h3, h4, h5⟩ := hc
    obtain ⟨a, rfl⟩ : ∃ n : Nat, a = n := ⟨a.toNat, by omega⟩
    obtain ⟨b, rfl⟩ : ∃ n : Nat, b = n := ⟨b.toNat, by omega⟩
    obtain ⟨c, rfl⟩ : ∃ n : Nat, c = n := ⟨c.toNat, by omega⟩
    obtain ⟨d, rfl⟩ : ∃ n : Nat, d = n := ⟨d.toNat, by omega⟩
    simp only [Int.toNat_natCast] at h5 hr2
    rw [t55, tMinus_eq a b c d (by omega) (by omega) (by omega) (by omega) (Nat.le_of_ble_eq_true h5), ← wideS_eq]
    exact hr2
  · simp [T.run] at hr
theorem sum54 : SumAt C0 (54, sPlus) := ⟨callsM_fn ok0 noZ0 (iso54 [.agg [.int .u64 0, .int .u64 0], .agg [.int .u64 0, .int .u64 0]] _ rfl), fun args v hr => callsM_iso ok0 noZ0 (iso54 args v hr)⟩
theorem sum55 : SumAt C0 (55, sMinus) := ⟨callsM_fn ok0 noZ0 (iso55 [.agg [.int .u64 0, .int .u64 0], .agg [.int .u64 0, .int .u64 0]] _ rfl), fun args v hr => callsM_iso ok0 noZ0 (iso55 args v hr)⟩
end Go.Proofs.YtbblfgfaoolloaaDoor
