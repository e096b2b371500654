/- Chapter 1: sums as the plain function. -/
import Derived.Test.YtbblfgfaoolloaaDoorF7
namespace Go.Proofs.YtbblfgfaoolloaaDoor
open Go Go.Ev Go.Ev.Bits

noncomputable def cOv (a b : Nat) (d : Nat) : Bool := u64k (a : Int) && (u64k (b : Int) && (leI 1 (d : Int) && leI (d : Int) 9223372036854775808))
/-- What add does with the sum, once it has it. -/
noncomputable def tA3 (b d : Int) (g : Nat) (neg : Bool) (s0 s1 r a : Nat) : Option AV :=
  gd (u64k (g : Int) && u64k (r : Int)) (gd (cOv s0 s1 a) (nz g (nz a (gd (u64k (dvI b g) && u64k (dvI d a))
    (tFin neg (shut (loN (wvN s0 s1 / a))) (shut (hiN (wvN s0 s1 / a))) (shut (loN ((dvI b g).toNat * (dvI d a).toNat))) (shut (hiN ((dvI b g).toNat * (dvI d a).toNat))))))))
noncomputable def tA2 (b d : Int) (g : Nat) (neg : Bool) (s0 s1 : Nat) : Option AV :=
  bif ((s0 : Int) == 0 && ((s1 : Int) == 0 && true)) then frt 0 1 0 else gd (cOv s0 s1 g) (tA3 b d g neg s0 s1 (shut (wvN s0 s1 % g)) (shut (Nat.gcd g (shut (wvN s0 s1 % g)))))
noncomputable def cPl (x0 x1 y0 y1 : Nat) : Bool := u64k (x0 : Int) && (u64k (x1 : Int) && (u64k (y0 : Int) && (u64k (y1 : Int) && Nat.ble (wvN x0 x1 + wvN y0 y1) 340282366920938463463374607431768211455)))
noncomputable def cMi (x0 x1 y0 y1 : Nat) : Bool := u64k (x0 : Int) && (u64k (x1 : Int) && (u64k (y0 : Int) && (u64k (y1 : Int) && Nat.ble (wvN y0 y1) (wvN x0 x1))))
noncomputable def tA1 (b d : Int) (g : Nat) (neg other : Bool) (x0 x1 y0 y1 : Nat) : Option AV :=
  gd (cPl x0 x1 y0 y1) (bif !(neg == other) then gd (cW x0 x1 y0 y1) (bif decide (shut (cmpNat (wvN x0 x1) (wvN y0 y1)) < 0) then
      gd (cMi y0 y1 x0 x1) (tA2 b d g other (shut (loN (wvN y0 y1 - wvN x0 x1))) (shut (hiN (wvN y0 y1 - wvN x0 x1))))
    else gd (cMi x0 x1 y0 y1) (tA2 b d g neg (shut (loN (wvN x0 x1 - wvN y0 y1))) (shut (hiN (wvN x0 x1 - wvN y0 y1)))))
  else tA2 b d g neg (shut (loN (wvN x0 x1 + wvN y0 y1))) (shut (hiN (wvN x0 x1 + wvN y0 y1))))
noncomputable def tA0 (n1 n2 : Int) (b d : Int) (minus : Bool) (g : Nat) : Option AV :=
  gd (i64k n1) (nz g (gd (u64k ((shut n1.natAbs : Nat) : Int) && u64k (dvI d g)) (gd (i64k n2) (nz g (gd (u64k ((shut n2.natAbs : Nat) : Int) && u64k (dvI b g))
    (tA1 b d g (decide (n1 < 0)) (!(decide (n2 < 0) == minus)) (shut (loN (((shut n1.natAbs : Nat) : Int).toNat * (dvI d g).toNat))) (shut (hiN (((shut n1.natAbs : Nat) : Int).toNat * (dvI d g).toNat))) (shut (loN (((shut n2.natAbs : Nat) : Int).toNat * (dvI b g).toNat))) (shut (hiN (((shut n2.natAbs : Nat) : Int).toNat * (dvI b g).toNat)))))))))
noncomputable def t37R (n1 d1 n2 d2 : Int) (minus : Bool) : Option AV :=
  gd (u64k (IntKind.u64.wrap d1) && u64k (IntKind.u64.wrap d2)) (tA0 n1 n2 (IntKind.u64.wrap d1) (IntKind.u64.wrap d2) minus (shut (Nat.gcd (IntKind.u64.wrap d1).toNat (IntKind.u64.wrap d2).toNat)))
theorem t37f (n1 d1 n2 d2 : Int) : callsM C1 noZ 60 37 [.agg [.int .i64 n1, .int .i64 d1], .agg [.int .i64 n2, .int .i64 d2], .bool false] = t37R n1 d1 n2 d2 false := by kernel_rfl
theorem t37t (n1 d1 n2 d2 : Int) : callsM C1 noZ 60 37 [.agg [.int .i64 n1, .int .i64 d1], .agg [.int .i64 n2, .int .i64 d2], .bool true] = t37R n1 d1 n2 d2 true := by kernel_rfl
theorem cOv_eq {S d : Nat} (hS : S < 340282366920938463463374607431768211456) (h0 : 0 < d) (hd : d ≤ 9223372036854775808) : cOv (loN S) (hiN S) d = true := by
  unfold cOv
  rw [u64k_nat (lo_lt S), u64k_nat (hi_lt hS), leI_iff.2 (by omega), leI_iff.2 (by omega)]; rfl
theorem tA2_eq (b d g : Nat) (neg : Bool) (S : Nat) (hb : b < 18446744073709551616) (hd : d < 18446744073709551616) (hg : 0 < g) (hg2 : g ≤ 9223372036854775808) (hS : S < 340282366920938463463374607431768211456) :
    tA2 b d g neg (loN S) (hiN S) = some (tri (bif Nat.beq S 0 then (0, 1, 0) else fitN neg (S / Nat.gcd g (S % g)) (b / g * (d / Nat.gcd g (S % g))))) := by
  unfold tA2
  simp only [shut_eq, wv_lohi]
  have e0 : (((loN S : Nat) : Int) == 0 && (((hiN S : Nat) : Int) == 0 && true)) = Nat.beq S 0 := by
    rw [beq0, beq0, Bool.and_true, Bool.eq_iff_iff, Bool.and_eq_true, Nat.beq_eq, Nat.beq_eq, Nat.beq_eq]
    unfold loN hiN; omega
  rw [e0]
  cases Nat.beq S 0
  · rw [cond_false, cond_false, gd_eq (cOv_eq hS hg hg2)]
    unfold tA3
    have ha : 0 < Nat.gcd g (S % g) := Nat.gcd_pos_of_pos_left _ hg
    have ha2 : Nat.gcd g (S % g) ≤ g := Nat.gcd_le_left _ hg
    have hr : S % g < g := Nat.mod_lt _ hg
    generalize Nat.gcd g (S % g) = a at *
    have l1 : b / g ≤ b := Nat.div_le_self _ _
    have l2 : d / a ≤ d := Nat.div_le_self _ _
    have l3 : S / a ≤ S := Nat.div_le_self _ _
    simp only [shut_eq, wv_lohi]
    rw [gd_eq (by rw [u64k_nat (by omega), u64k_nat (by omega)]; rfl), gd_eq (cOv_eq hS ha (by omega)), nz_eq hg, nz_eq ha, dvI_eq b _ hb, dvI_eq d _ hd]
    rw [gd_eq (by rw [u64k_nat (by omega), u64k_nat (by omega)]; rfl)]
    simp only [Int.toNat_natCast]
    exact tFin_eq neg _ _ (by omega) (mul_lt128 (by omega) (by omega))
  · rfl
theorem t37R_eq (n1 d1 n2 d2 : Int) (minus : Bool) (hn1 : -9223372036854775808 ≤ n1 ∧ n1 ≤ 9223372036854775807) (hn2 : -9223372036854775808 ≤ n2 ∧ n2 ≤ 9223372036854775807) (hd1 : 0 < d1 ∧ d1 ≤ 9223372036854775807) (hd2 : 0 < d2 ∧ d2 ≤ 9223372036854775807) :
    t37R n1 d1 n2 d2 minus = some (tri (addN minus n1 d1.toNat n2 d2.toNat)) := by
  obtain ⟨b, rfl⟩ : ∃ n : Nat, d1 = n := ⟨d1.toNat, by omega⟩
  obtain ⟨d, rfl⟩ : ∃ n : Nat, d2 = n := ⟨d2.toNat, by omega⟩
  unfold t37R
  rw [u64w_nat (by omega), u64w_nat (by omega), gd_eq (by rw [u64k_nat (by omega), u64k_nat (by omega)]; rfl)]
  simp only [Int.toNat_natCast, shut_eq]
  have hg : 0 < Nat.gcd b d := Nat.gcd_pos_of_pos_left _ (by omega)
  have hg2 : Nat.gcd b d ≤ b := Nat.gcd_le_left _ (by omega)
  have l1 : b / Nat.gcd b d ≤ b := Nat.div_le_self _ _
  have l2 : d / Nat.gcd b d ≤ d := Nat.div_le_self _ _
  unfold tA0
  rw [gd_eq (i64k_iff.2 hn1), gd_eq (i64k_iff.2 hn2), nz_eq hg, nz_eq hg, dvI_eq b _ (by omega), dvI_eq d _ (by omega)]
  simp only [Int.toNat_natCast, shut_eq]
  rw [gd_eq (by rw [u64k_nat (by omega), u64k_nat (by omega)]; rfl), gd_eq (by rw [u64k_nat (by omega), u64k_nat (by omega)]; rfl)]
  unfold addN addS addP
  dsimp only
  show tA1 b d (Nat.gcd b d) (decide (n1 < 0)) (decide (n2 < 0) != minus) _ _ _ _ = _
  have hX : n1.natAbs * (d / Nat.gcd b d) ≤ 9223372036854775808 * 9223372036854775808 := Nat.mul_le_mul (by omega) (by omega)
  have hY : n2.natAbs * (b / Nat.gcd b d) ≤ 9223372036854775808 * 9223372036854775808 := Nat.mul_le_mul (by omega) (by omega)
  generalize n1.natAbs * (d / Nat.gcd b d) = X at *
  generalize n2.natAbs * (b / Nat.gcd b d) = Y at *
  generalize Nat.gcd b d = g at *
  generalize decide (n1 < 0) = neg
  generalize (decide (n2 < 0) != minus) = other
  have kp (x y : Nat) (hx : x < 340282366920938463463374607431768211456) (hy : y < 340282366920938463463374607431768211456) (h : x + y ≤ 340282366920938463463374607431768211455) : cPl (loN x) (hiN x) (loN y) (hiN y) = true := by
    unfold cPl
    rw [u64k_nat (lo_lt x), u64k_nat (hi_lt hx), u64k_nat (lo_lt y), u64k_nat (hi_lt hy), wv_lohi, wv_lohi, Nat.ble_eq_true_of_le h]; rfl
  have km (x y : Nat) (hx : x < 340282366920938463463374607431768211456) (hy : y < 340282366920938463463374607431768211456) (h : y ≤ x) : cMi (loN x) (hiN x) (loN y) (hiN y) = true := by
    unfold cMi
    rw [u64k_nat (lo_lt x), u64k_nat (hi_lt hx), u64k_nat (lo_lt y), u64k_nat (hi_lt hy), wv_lohi, wv_lohi, Nat.ble_eq_true_of_le h]; rfl
  unfold tA1
  rw [gd_eq (kp X Y (by omega) (by omega) (by omega))]
  simp only [wv_lohi, shut_eq]
  cases neg == other
  · simp only [Bool.not_false, cond_true, cond_false]
    rw [gd_eq (cW_eq (lo_lt X) (hi_lt (by omega)) (lo_lt Y) (hi_lt (by omega)))]
    unfold cmpNat
    by_cases h : X < Y
    · rw [decide_eq_true h]
      simp only [cond_true]
      rw [gd_eq (km Y X (by omega) (by omega) (by omega)), tA2_eq b d g other (Y - X) (by omega) (by omega) hg (by omega) (by omega)]
      rfl
    · rw [decide_eq_false h]
      have e : decide ((bif false then -1 else bif decide (Y < X) then 1 else 0 : Int) < 0) = false := by
        cases decide (Y < X) <;> rfl
      rw [e]
      simp only [cond_false]
      rw [gd_eq (km X Y (by omega) (by omega) (by omega)), tA2_eq b d g neg (X - Y) (by omega) (by omega) hg (by omega) (by omega)]
  · simp only [Bool.not_true, cond_true, cond_false]
    rw [tA2_eq b d g neg (X + Y) (by omega) (by omega) hg (by omega) (by omega)]
noncomputable def sAddM : List AV → T AV
  | [.agg [.int .i64 n1, .int .i64 d1], .agg [.int .i64 n2, .int .i64 d2], .bool minus] => .chk (i64k n1 && (i64k n2 && (leI 1 d1 && (leI d1 9223372036854775807 && (leI 1 d2 && leI d2 9223372036854775807))))) (.leaf (triS (addN minus n1 d1.toNat n2 d2.toNat)))
  | _ => .fail
theorem iso37 : ∀ args v, (sAddM args).run = some v → callsM C1 noZ 60 37 args = some v := by
  intro args v hr
  unfold sAddM at hr
  split at hr
  · rename_i n1 d1 n2 d2 minus
    obtain ⟨hc, hr2⟩ := T.of_chk hr
    clear hr
    simp only [Bool.and_eq_true, i64k_iff, leI_iff] at hc
    obtain ⟨h1, h2, h3, h4, h5, h6⟩ := hc
    have key := t37R_eq n1 d1 n2 d2 minus h1 h2 ⟨by omega, h4⟩ ⟨by omega, h6⟩
    rw [triS_eq] at hr2
    cases minus
    · rw [t37f, key]; exact hr2
    · rw [t37t, key]; exact hr2
  · simp [T.run] at hr
theorem sum37 : SumAt C1 (37, sAddM) := ⟨callsM_fn ok1 noZ1 (iso37 [.agg [.int .i64 0, .int .i64 1], .agg [.int .i64 0, .int .i64 1], .bool true] _ rfl), fun args v hr => callsM_iso ok1 noZ1 (iso37 args v hr)⟩
noncomputable def tab2 : List (Nat × (List AV → T AV)) := [(21, sRight), (17, sMake), (38, sProd), (37, sAddM)]
noncomputable def C2 : Ctx := withSum C1 tab2
theorem ok2 : Ok C2 := ok_with ok1 ⟨sum21, sum17, sum38, sum37, trivial⟩
theorem noZ2 : ZOk C2 noZ := noZ_ok keepOk
end Go.Proofs.YtbblfgfaoolloaaDoor
