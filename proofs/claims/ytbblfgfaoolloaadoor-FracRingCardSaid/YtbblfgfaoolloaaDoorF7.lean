/- Chapter 1: Right, Make, sums and products as the plain functions. -/
import Derived.Test.YtbblfgfaoolloaaDoorF6
namespace Go.Proofs.YtbblfgfaoolloaaDoor
open Go Go.Ev Go.Ev.Bits

theorem u64w_nat {x : Int} (h : 0 ≤ x ∧ x ≤ 18446744073709551615) : IntKind.u64.wrap x = x := by rw [u64w]; omega
def dvI (x : Int) (g : Nat) : Int := IntKind.u64.wrap (x.tdiv (g : Int))
theorem dvI_eq (x g : Nat) (hx : x < 18446744073709551616) : dvI (x : Int) g = ((x / g : Nat) : Int) := by
  unfold dvI
  rw [Int.tdiv_eq_ediv_of_nonneg (by omega)]
  have : x / g ≤ x := Nat.div_le_self _ _
  exact wrap_nat (Int.natCast_ediv _ _).symm (by omega)
def nz (g : Nat) (k : Option AV) : Option AV := bif !decide ((g : Int) = 0) then k else none
theorem nz_eq {g : Nat} (h : 0 < g) (k : Option AV) : nz g k = k := by unfold nz; rw [decide_eq_false (by omega)]; rfl
def gd (u : Bool) (k : Option AV) : Option AV := bif u then k else none
theorem gd_eq {u : Bool} (h : u = true) (k : Option AV) : gd u k = k := by unfold gd; rw [h]; rfl

/-! ### Right -/
noncomputable def tR21 (n d : Int) : Option AV := bif decide (d > 0) then bif n == 0 && (d == 1 && true) then some (.bool true) else bif n != 0 then gd (i64k n) (gd (u64k ((shut n.natAbs : Nat) : Int) && u64k (IntKind.u64.wrap d)) (some (.bool (((shut (Nat.gcd ((shut n.natAbs : Nat) : Int).toNat (IntKind.u64.wrap d).toNat) : Nat) : Int) == 1)))) else some (.bool false) else some (.bool false)
theorem t21 (n d : Int) : callsM C1 noZ 60 21 [.agg [.int .i64 n, .int .i64 d]] = tR21 n d := by kernel_rfl
theorem nbeq (a b : Nat) : Nat.beq a b = (a == b) := Bool.eq_iff_iff.2 (by rw [Nat.beq_eq, beq_iff_eq])
theorem tR21_eq (n d : Int) (hn : -9223372036854775808 ≤ n ∧ n ≤ 9223372036854775807) (hd : -9223372036854775808 ≤ d ∧ d ≤ 9223372036854775807) : tR21 n d = some (.bool (rtN n d)) := by
  unfold tR21 rtN
  by_cases h : d > 0
  · rw [decide_eq_true h, cond_true, Bool.true_and]
    by_cases h0 : n = 0
    · subst h0
      rw [show ((0 : Int) == 0) = true from rfl, Bool.true_and, Bool.and_true]
      have e : Nat.gcd (Int.natAbs 0) d.toNat = d.toNat := Nat.gcd_zero_left _
      rw [e]
      by_cases h1 : d = 1
      · subst h1; rfl
      · rw [show (d == 1) = false from by simpa using h1, cond_false]
        have : Nat.beq d.toNat 1 = false := by
          cases hx : Nat.beq d.toNat 1
          · rfl
          · have := Nat.eq_of_beq_eq_true hx; omega
        rw [this]; rfl
    · rw [show (n == 0) = false from by simpa using h0, Bool.false_and, cond_false, show (n != 0) = true from by simpa using h0, cond_true]
      rw [shut_eq, shut_eq, u64w_nat (by omega), gd_eq (i64k_iff.2 hn), gd_eq (by rw [u64k_nat (by omega), u64k_iff.2 (by omega)]; rfl), Int.toNat_natCast]
      congr 2
      rw [nbeq, Bool.eq_iff_iff, beq_iff_eq, beq_iff_eq]
      omega
  · rw [decide_eq_false h]; rfl
noncomputable def sRight : List AV → T AV
  | [.agg [.int .i64 n, .int .i64 d]] => .chk (i64k n && i64k d) (.leaf (.bool (shut (rtN n d))))
  | _ => .fail
theorem iso21 : ∀ args v, (sRight args).run = some v → callsM C1 noZ 60 21 args = some v := by
  intro args v hr
  unfold sRight at hr
  split at hr
  · rename_i n d
    obtain ⟨hc, hr2⟩ := T.of_chk hr
    clear hr
    simp only [Bool.and_eq_true, i64k_iff] at hc
    rw [t21, tR21_eq n d hc.1 hc.2, ← shut_eq (rtN n d)]
    exact hr2
  · simp [T.run] at hr
theorem sum21 : SumAt C1 (21, sRight) := ⟨callsM_fn ok1 noZ1 (iso21 [.agg [.int .i64 0, .int .i64 0]] _ rfl), fun args v hr => callsM_iso ok1 noZ1 (iso21 args v hr)⟩

/-! ### Make -/
noncomputable def tMk (neg : Bool) (A B g : Nat) : Option AV := nz g (nz g (gd (u64k (dvI A g) && (true && (u64k (dvI B g) && true))) (some (triS (fitN neg (wvN (dvI A g).toNat (Int.toNat 0)) (wvN (dvI B g).toNat (Int.toNat 0)))))))
noncomputable def t17R (n d : Int) : Option AV := bif d == 0 then frt 0 0 2 else gd (i64k n) (gd (i64k d) (gd (u64k ((shut n.natAbs : Nat) : Int) && u64k ((shut d.natAbs : Nat) : Int)) (bif n != 0 then tMk (!(decide (n < 0) == decide (d < 0))) (shut n.natAbs) (shut d.natAbs) (shut (Nat.gcd ((shut n.natAbs : Nat) : Int).toNat ((shut d.natAbs : Nat) : Int).toNat)) else tMk false (shut n.natAbs) (shut d.natAbs) (shut (Nat.gcd ((shut n.natAbs : Nat) : Int).toNat ((shut d.natAbs : Nat) : Int).toNat)))))
theorem t17 (n d : Int) : callsM C1 noZ 60 17 [.int .i64 n, .int .i64 d] = t17R n d := by kernel_rfl
theorem tMk_eq (neg : Bool) (A B g : Nat) (hA : A < 18446744073709551616) (hB : B < 18446744073709551616) (hg : 0 < g) : tMk neg A B g = some (tri (fitN neg (A / g) (B / g))) := by
  have e (x : Nat) : wvN x (Int.toNat 0) = x := by unfold wvN; simp
  have lA : A / g ≤ A := Nat.div_le_self _ _
  have lB : B / g ≤ B := Nat.div_le_self _ _
  unfold tMk
  rw [nz_eq hg, nz_eq hg, dvI_eq A g hA, dvI_eq B g hB, u64k_nat (by omega), u64k_nat (by omega), triS_eq, Int.toNat_natCast, Int.toNat_natCast, e, e]
  rfl
/-- Make, whatever is asked. -/
def mkF (n d : Int) : T3 := bif d == 0 then (0, 0, 2) else makeN n d
theorem t17R_eq (n d : Int) (hn : -9223372036854775808 ≤ n ∧ n ≤ 9223372036854775807) (hd : -9223372036854775808 ≤ d ∧ d ≤ 9223372036854775807) : t17R n d = some (tri (mkF n d)) := by
  unfold t17R mkF makeN
  by_cases h : d = 0
  · subst h; rfl
  · rw [show (d == 0) = false from by simpa using h, cond_false, cond_false, shut_eq, shut_eq, shut_eq, gd_eq (i64k_iff.2 hn), gd_eq (i64k_iff.2 hd), gd_eq (by rw [u64k_nat (by omega), u64k_nat (by omega)]; rfl), Int.toNat_natCast, Int.toNat_natCast]
    have hg : 0 < Nat.gcd n.natAbs d.natAbs := Nat.gcd_pos_of_pos_right _ (by omega)
    rw [tMk_eq _ _ _ _ (by omega) (by omega) hg, tMk_eq _ _ _ _ (by omega) (by omega) hg]
    by_cases h0 : n = 0
    · subst h0; rfl
    · rw [show (n != 0) = true from by simpa using h0, cond_true, decide_eq_true (show n ≠ 0 from h0), Bool.true_and]
      rfl
noncomputable def sMake : List AV → T AV
  | [.int .i64 n, .int .i64 d] => .chk (i64k n && i64k d) (.leaf (triS (mkF n d)))
  | _ => .fail
theorem iso17 : ∀ args v, (sMake args).run = some v → callsM C1 noZ 60 17 args = some v := by
  intro args v hr
  unfold sMake at hr
  split at hr
  · rename_i n d
    obtain ⟨hc, hr2⟩ := T.of_chk hr
    clear hr
    simp only [Bool.and_eq_true, i64k_iff] at hc
    rw [t17, t17R_eq n d hc.1 hc.2, ← triS_eq]
    exact hr2
  · simp [T.run] at hr
theorem sum17 : SumAt C1 (17, sMake) := ⟨callsM_fn ok1 noZ1 (iso17 [.int .i64 0, .int .i64 0] _ rfl), fun args v hr => callsM_iso ok1 noZ1 (iso17 args v hr)⟩

/-! ### product -/
noncomputable def cW (a b c d : Nat) : Bool := u64k (a : Int) && (u64k (b : Int) && (u64k (c : Int) && u64k (d : Int)))
theorem cW_eq {a b c d : Nat} (h1 : a < 18446744073709551616) (h2 : b < 18446744073709551616) (h3 : c < 18446744073709551616) (h4 : d < 18446744073709551616) : cW a b c d = true := by
  unfold cW; rw [u64k_nat h1, u64k_nat h2, u64k_nat h3, u64k_nat h4]; rfl
noncomputable def tFin (neg : Bool) (x0 x1 y0 y1 : Nat) : Option AV := gd (cW x0 x1 y0 y1) (some (triS (fitN neg (wvN x0 x1) (wvN y0 y1))))
noncomputable def tPr (neg : Bool) (a b c d : Int) (g h : Nat) : Option AV :=
  nz g (nz h (gd (u64k (dvI a g) && u64k (dvI c h)) (nz h (nz g (gd (u64k (dvI b h) && u64k (dvI d g)) (
    tFin neg (shut (loN ((dvI a g).toNat * (dvI c h).toNat))) (shut (hiN ((dvI a g).toNat * (dvI c h).toNat))) (shut (loN ((dvI b h).toNat * (dvI d g).toNat))) (shut (hiN ((dvI b h).toNat * (dvI d g).toNat)))))))))
noncomputable def t38R (neg : Bool) (a b c d : Nat) : Option AV := bif (a : Int) == 0 then frt 0 1 0 else bif (c : Int) == 0 then frt 0 1 0 else gd (u64k (a : Int) && u64k (d : Int)) (gd (u64k (c : Int) && u64k (b : Int)) (tPr neg a b c d (shut (Nat.gcd a d)) (shut (Nat.gcd c b))))
theorem t38 (neg : Bool) (a b c d : Nat) : callsM C1 noZ 60 38 [.bool neg, .int .u64 a, .int .u64 b, .int .u64 c, .int .u64 d] = t38R neg a b c d := by kernel_rfl
theorem mul_lt128 {a b : Nat} (ha : a < 18446744073709551616) (hb : b < 18446744073709551616) : a * b < 340282366920938463463374607431768211456 := Nat.mul_lt_mul'' ha hb
theorem tFin_eq (neg : Bool) (X Y : Nat) (hX : X < 340282366920938463463374607431768211456) (hY : Y < 340282366920938463463374607431768211456) : tFin neg (loN X) (hiN X) (loN Y) (hiN Y) = some (tri (fitN neg X Y)) := by
  unfold tFin
  rw [gd_eq (cW_eq (lo_lt X) (hi_lt hX) (lo_lt Y) (hi_lt hY)), wv_lohi, wv_lohi, triS_eq]
theorem beq0 (a : Nat) : ((a : Int) == 0) = Nat.beq a 0 := by
  rw [nbeq, Bool.eq_iff_iff, beq_iff_eq, beq_iff_eq]; omega
theorem t38R_eq (neg : Bool) (a b c d : Nat) (ha : a < 18446744073709551616) (hb : b < 18446744073709551616) (hc : c < 18446744073709551616) (hd : d < 18446744073709551616) : t38R neg a b c d = some (tri (prodN neg a b c d)) := by
  unfold t38R prodN
  rw [beq0, beq0]
  cases h0 : Nat.beq a 0
  · cases h1 : Nat.beq c 0
    · have ha0 : 0 < a := by
        rcases Nat.eq_zero_or_pos a with h | h
        · subst h; simp at h0
        · exact h
      have hc0 : 0 < c := by
        rcases Nat.eq_zero_or_pos c with h | h
        · subst h; simp at h1
        · exact h
      have hg : 0 < Nat.gcd a d := Nat.gcd_pos_of_pos_left _ ha0
      have hh : 0 < Nat.gcd c b := Nat.gcd_pos_of_pos_left _ hc0
      have l1 : a / Nat.gcd a d ≤ a := Nat.div_le_self _ _
      have l2 : c / Nat.gcd c b ≤ c := Nat.div_le_self _ _
      have l3 : b / Nat.gcd c b ≤ b := Nat.div_le_self _ _
      have l4 : d / Nat.gcd a d ≤ d := Nat.div_le_self _ _
      simp only [cond_false, Bool.or_self]
      unfold tPr
      simp only [shut_eq]
      rw [gd_eq (by rw [u64k_nat ha, u64k_nat hd]; rfl), gd_eq (by rw [u64k_nat hc, u64k_nat hb]; rfl), nz_eq hg, nz_eq hh, nz_eq hh, nz_eq hg, dvI_eq a _ ha, dvI_eq c _ hc, dvI_eq b _ hb, dvI_eq d _ hd]
      rw [gd_eq (by rw [u64k_nat (by omega), u64k_nat (by omega)]; rfl), gd_eq (by rw [u64k_nat (by omega), u64k_nat (by omega)]; rfl)]
      simp only [Int.toNat_natCast]
      exact tFin_eq neg _ _ (mul_lt128 (by omega) (by omega)) (mul_lt128 (by omega) (by omega))
    · rfl
  · rfl
noncomputable def sProd : List AV → T AV
  | [.bool neg, .int .u64 a, .int .u64 b, .int .u64 c, .int .u64 d] => .chk (u64k a && (u64k b && (u64k c && u64k d))) (.leaf (triS (prodN neg a.toNat b.toNat c.toNat d.toNat)))
  | _ => .fail
theorem iso38 : ∀ args v, (sProd args).run = some v → callsM C1 noZ 60 38 args = some v := by
  intro args v hr
  unfold sProd at hr
  split at hr
  · rename_i neg a b c d
    obtain ⟨hc, hr2⟩ := T.of_chk hr
    clear hr
    simp only [Bool.and_eq_true, u64k_iff] at hc
    obtain ⟨h1, h2, h3, h4⟩ := hc
    obtain ⟨a, rfl⟩ : ∃ n : Nat, a = n := ⟨a.toNat, by omega⟩
    obtain ⟨b, rfl⟩ : ∃ n : Nat, b = n := ⟨b.toNat, by omega⟩
    obtain ⟨c, rfl⟩ : ∃ n : Nat, c = n := ⟨c.toNat, by omega⟩
    obtain ⟨d, rfl⟩ : ∃ n : Nat, d = n := ⟨d.toNat, by omega⟩
    simp only [Int.toNat_natCast] at hr2
    rw [t38, t38R_eq neg a b c d (by omega) (by omega) (by omega) (by omega), ← triS_eq]
    exact hr2
  · simp [T.run] at hr
theorem sum38 : SumAt C1 (38, sProd) := ⟨callsM_fn ok1 noZ1 (iso38 [.bool true, .int .u64 0, .int .u64 0, .int .u64 0, .int .u64 0] _ rfl), fun args v hr => callsM_iso ok1 noZ1 (iso38 args v hr)⟩
end Go.Proofs.YtbblfgfaoolloaaDoor
