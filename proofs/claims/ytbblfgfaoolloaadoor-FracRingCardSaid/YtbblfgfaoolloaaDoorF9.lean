/- Chapter 1: the operations on fractions, as operations on rational numbers. -/
import Derived.Test.YtbblfgfaoolloaaDoorF8
namespace Go.Proofs.YtbblfgfaoolloaaDoor
open Go Go.Ev Go.Ev.Bits

/-! ### What they are -/
def opA (n1 d1 n2 d2 : Int) : T3 := bif rtN n1 d1 && rtN n2 d2 then fitR (toQ n1 d1 + toQ n2 d2) else (0, 0, 2)
def opS (n1 d1 n2 d2 : Int) : T3 := bif rtN n1 d1 && rtN n2 d2 then fitR (toQ n1 d1 - toQ n2 d2) else (0, 0, 2)
def opM (n1 d1 n2 d2 : Int) : T3 := bif rtN n1 d1 && rtN n2 d2 then fitR (toQ n1 d1 * toQ n2 d2) else (0, 0, 2)
def opD (n1 d1 n2 d2 : Int) : T3 := bif rtN n1 d1 && rtN n2 d2 then (bif n2 == 0 then (0, 0, 2) else fitR (toQ n1 d1 / toQ n2 d2)) else (0, 0, 2)
def opN (n d : Int) : T3 := bif rtN n d then fitR (-(toQ n d)) else (0, 0, 2)
def opC (n1 d1 n2 d2 : Int) : Int × Int := bif rtN n1 d1 && rtN n2 d2 then (cmpQ (toQ n1 d1) (toQ n2 d2), 0) else (0, 2)
def rt2 (u1 u2 r1 r2 : Bool) (bad k : Option AV) : Option AV := gd u1 (bif !r1 then bad else gd u2 (bif !r2 then bad else k))
theorem rt2_eq {u1 u2 : Bool} (h1 : u1 = true) (h2 : u2 = true) (r1 r2 : Bool) (bad k : Option AV) : rt2 u1 u2 r1 r2 bad k = bif r1 && r2 then k else bad := by
  subst h1 h2; cases r1 <;> cases r2 <;> rfl
noncomputable def u2k (n d : Int) : Bool := i64k n && i64k d
noncomputable def fr22 (n1 d1 n2 d2 : Int) (bad k : Option AV) : Option AV := rt2 (u2k n1 d1) (u2k n2 d2) (shut (rtN n1 d1)) (shut (rtN n2 d2)) bad k
theorem tri_cond (b : Bool) (x y : T3) : (bif b then some (tri x) else some (tri y)) = some (tri (bif b then x else y)) := by cases b <;> rfl
noncomputable def kA (minus : Bool) (n1 d1 n2 d2 : Int) : Option AV := gd (i64k n1 && (i64k n2 && (leI 1 d1 && (leI d1 9223372036854775807 && (leI 1 d2 && leI d2 9223372036854775807))))) (some (triS (addN minus n1 d1.toNat n2 d2.toNat)))
noncomputable def kM (n1 d1 n2 d2 : Int) : Option AV := gd (i64k n1) (gd (i64k n2) (gd (u64k ((shut n1.natAbs : Nat) : Int) && (u64k (IntKind.u64.wrap d1) && (u64k ((shut n2.natAbs : Nat) : Int) && u64k (IntKind.u64.wrap d2)))) (some (triS (prodN (!(decide (n1 < 0) == decide (n2 < 0))) ((shut n1.natAbs : Nat) : Int).toNat (IntKind.u64.wrap d1).toNat ((shut n2.natAbs : Nat) : Int).toNat (IntKind.u64.wrap d2).toNat)))))
noncomputable def kD (n1 d1 n2 d2 : Int) : Option AV := bif n2 == 0 then frt 0 0 2 else gd (i64k n1) (gd (i64k n2) (gd (u64k ((shut n1.natAbs : Nat) : Int) && (u64k (IntKind.u64.wrap d1) && (u64k (IntKind.u64.wrap d2) && u64k ((shut n2.natAbs : Nat) : Int)))) (some (triS (prodN (!(decide (n1 < 0) == decide (n2 < 0))) ((shut n1.natAbs : Nat) : Int).toNat (IntKind.u64.wrap d1).toNat (IntKind.u64.wrap d2).toNat ((shut n2.natAbs : Nat) : Int).toNat)))))
def cFr (a e : Int) : Option AV := some (.tup [.int .i64 a, .int .i64 e])
noncomputable def cm13 (n1 d1 n2 d2 : Int) : Int := shut (cmpNat (wvN (((shut (loN (((shut n1.natAbs : Nat) : Int).toNat * (IntKind.u64.wrap d2).toNat)) : Nat) : Int).toNat) (((shut (hiN (((shut n1.natAbs : Nat) : Int).toNat * (IntKind.u64.wrap d2).toNat)) : Nat) : Int).toNat)) (wvN (((shut (loN (((shut n2.natAbs : Nat) : Int).toNat * (IntKind.u64.wrap d1).toNat)) : Nat) : Int).toNat) (((shut (hiN (((shut n2.natAbs : Nat) : Int).toNat * (IntKind.u64.wrap d1).toNat)) : Nat) : Int).toNat)))
noncomputable def kC (n1 d1 n2 d2 : Int) : Option AV := bif !(decide (n1 < 0) == decide (n2 < 0)) then (bif decide (n1 < 0) then cFr (-1) 0 else cFr 1 0) else
  gd (i64k n1) (gd (u64k ((shut n1.natAbs : Nat) : Int) && u64k (IntKind.u64.wrap d2)) (gd (i64k n2) (gd (u64k ((shut n2.natAbs : Nat) : Int) && u64k (IntKind.u64.wrap d1))
    (gd (cW (shut (loN (((shut n1.natAbs : Nat) : Int).toNat * (IntKind.u64.wrap d2).toNat))) (shut (hiN (((shut n1.natAbs : Nat) : Int).toNat * (IntKind.u64.wrap d2).toNat))) (shut (loN (((shut n2.natAbs : Nat) : Int).toNat * (IntKind.u64.wrap d1).toNat))) (shut (hiN (((shut n2.natAbs : Nat) : Int).toNat * (IntKind.u64.wrap d1).toNat))))
      (bif decide (n1 < 0) then cFr (IntKind.i64.wrap (0 - cm13 n1 d1 n2 d2)) 0 else cFr (cm13 n1 d1 n2 d2) 0)))))
noncomputable def t30R (n d : Int) : Option AV := gd (u2k n d) (bif !(shut (rtN n d)) then frt 0 0 2 else gd (i64k n) (gd (u64k ((shut n.natAbs : Nat) : Int) && (true && (u64k (IntKind.u64.wrap d) && true))) (some (triS (fitN (decide (n > 0)) (wvN ((shut n.natAbs : Nat) : Int).toNat (Int.toNat 0)) (wvN (IntKind.u64.wrap d).toNat (Int.toNat 0)))))))
section
variable (n1 d1 n2 d2 : Int)
theorem t15 : callsM C2 noZ 60 15 [.agg [.int .i64 n1, .int .i64 d1], .agg [.int .i64 n2, .int .i64 d2]] = fr22 n1 d1 n2 d2 (frt 0 0 2) (kA false n1 d1 n2 d2) := by kernel_rfl
theorem t14 : callsM C2 noZ 60 14 [.agg [.int .i64 n1, .int .i64 d1], .agg [.int .i64 n2, .int .i64 d2]] = fr22 n1 d1 n2 d2 (frt 0 0 2) (kA true n1 d1 n2 d2) := by kernel_rfl
theorem t16 : callsM C2 noZ 60 16 [.agg [.int .i64 n1, .int .i64 d1], .agg [.int .i64 n2, .int .i64 d2]] = fr22 n1 d1 n2 d2 (frt 0 0 2) (kM n1 d1 n2 d2) := by kernel_rfl
theorem t20 : callsM C2 noZ 60 20 [.agg [.int .i64 n1, .int .i64 d1], .agg [.int .i64 n2, .int .i64 d2]] = fr22 n1 d1 n2 d2 (frt 0 0 2) (kD n1 d1 n2 d2) := by kernel_rfl
theorem t13 : callsM C2 noZ 60 13 [.agg [.int .i64 n1, .int .i64 d1], .agg [.int .i64 n2, .int .i64 d2]] = fr22 n1 d1 n2 d2 (cFr 0 2) (kC n1 d1 n2 d2) := by kernel_rfl
theorem t30 : callsM C2 noZ 60 30 [.agg [.int .i64 n1, .int .i64 d1]] = t30R n1 d1 := by kernel_rfl
variable (hn1 : -9223372036854775808 ≤ n1 ∧ n1 ≤ 9223372036854775807) (hd1 : -9223372036854775808 ≤ d1 ∧ d1 ≤ 9223372036854775807) (hn2 : -9223372036854775808 ≤ n2 ∧ n2 ≤ 9223372036854775807) (hd2 : -9223372036854775808 ≤ d2 ∧ d2 ≤ 9223372036854775807)
include hn1 hd1 hn2 hd2
theorem fr22_eq (bad k : Option AV) : fr22 n1 d1 n2 d2 bad k = bif rtN n1 d1 && rtN n2 d2 then k else bad := by
  unfold fr22 u2k
  rw [rt2_eq (by rw [i64k_iff.2 hn1, i64k_iff.2 hd1]; rfl) (by rw [i64k_iff.2 hn2, i64k_iff.2 hd2]; rfl), shut_eq, shut_eq]
theorem kA_eq (minus : Bool) (h1 : rtN n1 d1 = true) (h2 : rtN n2 d2 = true) : kA minus n1 d1 n2 d2 = some (tri (addN minus n1 d1.toNat n2 d2.toNat)) := by
  obtain ⟨p1, c1⟩ := (rtN_iff _ _).1 h1
  obtain ⟨p2, c2⟩ := (rtN_iff _ _).1 h2
  unfold kA
  rw [i64k_iff.2 hn1, i64k_iff.2 hn2, leI_iff.2 (by omega), leI_iff.2 (by omega), leI_iff.2 (by omega), leI_iff.2 (by omega), triS_eq]
  rfl
theorem a15 : fr22 n1 d1 n2 d2 (frt 0 0 2) (kA false n1 d1 n2 d2) = some (tri (opA n1 d1 n2 d2)) := by
  rw [fr22_eq n1 d1 n2 d2 hn1 hd1 hn2 hd2]
  unfold opA
  cases h1 : rtN n1 d1
  · rfl
  · cases h2 : rtN n2 d2
    · rfl
    · obtain ⟨p1, c1⟩ := (rtN_iff _ _).1 h1
      obtain ⟨p2, c2⟩ := (rtN_iff _ _).1 h2
      rw [kA_eq n1 d1 n2 d2 hn1 hd1 hn2 hd2 _ h1 h2, addN_add _ _ _ _ (by omega) (by omega) c1 c2]
      rfl
theorem a14 : fr22 n1 d1 n2 d2 (frt 0 0 2) (kA true n1 d1 n2 d2) = some (tri (opS n1 d1 n2 d2)) := by
  rw [fr22_eq n1 d1 n2 d2 hn1 hd1 hn2 hd2]
  unfold opS
  cases h1 : rtN n1 d1
  · rfl
  · cases h2 : rtN n2 d2
    · rfl
    · obtain ⟨p1, c1⟩ := (rtN_iff _ _).1 h1
      obtain ⟨p2, c2⟩ := (rtN_iff _ _).1 h2
      rw [kA_eq n1 d1 n2 d2 hn1 hd1 hn2 hd2 _ h1 h2, addN_sub _ _ _ _ (by omega) (by omega) c1 c2]
      rfl
theorem a16 : fr22 n1 d1 n2 d2 (frt 0 0 2) (kM n1 d1 n2 d2) = some (tri (opM n1 d1 n2 d2)) := by
  rw [fr22_eq n1 d1 n2 d2 hn1 hd1 hn2 hd2]
  unfold opM
  cases h1 : rtN n1 d1
  · rfl
  · cases h2 : rtN n2 d2
    · rfl
    · obtain ⟨p1, c1⟩ := (rtN_iff _ _).1 h1
      obtain ⟨p2, c2⟩ := (rtN_iff _ _).1 h2
      unfold kM
      rw [u64w_nat (by omega), u64w_nat (by omega), gd_eq (i64k_iff.2 hn1), gd_eq (i64k_iff.2 hn2), shut_eq, shut_eq, gd_eq (by rw [u64k_nat (by omega), u64k_nat (by omega), u64k_iff.2 (by omega), u64k_iff.2 (by omega)]; rfl), triS_eq, Int.toNat_natCast, Int.toNat_natCast]
      have := prodN_mul n1 d1.toNat n2 d2.toNat (by omega) (by omega) c1 c2
      rw [show (!(decide (n1 < 0) == decide (n2 < 0))) = (decide (n1 < 0) != decide (n2 < 0)) from rfl, this]
      rfl
theorem a20 : fr22 n1 d1 n2 d2 (frt 0 0 2) (kD n1 d1 n2 d2) = some (tri (opD n1 d1 n2 d2)) := by
  rw [fr22_eq n1 d1 n2 d2 hn1 hd1 hn2 hd2]
  unfold opD
  cases h1 : rtN n1 d1
  · rfl
  · cases h2 : rtN n2 d2
    · rfl
    · obtain ⟨p1, c1⟩ := (rtN_iff _ _).1 h1
      obtain ⟨p2, c2⟩ := (rtN_iff _ _).1 h2
      unfold kD
      by_cases h0 : n2 = 0
      · subst h0; rfl
      · rw [show (n2 == 0) = false from by simpa using h0, cond_false, cond_false]
        rw [u64w_nat (by omega), u64w_nat (by omega), gd_eq (i64k_iff.2 hn1), gd_eq (i64k_iff.2 hn2), shut_eq, shut_eq, gd_eq (by rw [u64k_nat (by omega), u64k_nat (by omega), u64k_iff.2 (by omega), u64k_iff.2 (by omega)]; rfl), triS_eq, Int.toNat_natCast, Int.toNat_natCast]
        have := prodN_div n1 d1.toNat n2 d2.toNat (by omega) (by omega) c1 c2 h0
        rw [show (!(decide (n1 < 0) == decide (n2 < 0))) = (decide (n1 < 0) != decide (n2 < 0)) from rfl, this]
        rfl
theorem a13 : fr22 n1 d1 n2 d2 (cFr 0 2) (kC n1 d1 n2 d2) = cFr (opC n1 d1 n2 d2).1 (opC n1 d1 n2 d2).2 := by
  rw [fr22_eq n1 d1 n2 d2 hn1 hd1 hn2 hd2]
  unfold opC
  cases h1 : rtN n1 d1
  · rfl
  · cases h2 : rtN n2 d2
    · rfl
    · obtain ⟨p1, c1⟩ := (rtN_iff _ _).1 h1
      obtain ⟨p2, c2⟩ := (rtN_iff _ _).1 h2
      show kC n1 d1 n2 d2 = cFr (cmpQ (toQ n1 d1) (toQ n2 d2)) 0
      rw [← cmpN_eq h1 h2]
      unfold kC cmpN cm13
      simp only [shut_eq, Int.toNat_natCast]
      rw [u64w_nat (by omega), u64w_nat (by omega)]
      simp only [wv_lohi]
      have m1 : n1.natAbs * d2.toNat < 340282366920938463463374607431768211456 := mul_lt128 (by omega) (by omega)
      have m2 : n2.natAbs * d1.toNat < 340282366920938463463374607431768211456 := mul_lt128 (by omega) (by omega)
      rw [gd_eq (i64k_iff.2 hn1), gd_eq (i64k_iff.2 hn2), gd_eq (by rw [u64k_nat (by omega), u64k_iff.2 (by omega)]; rfl), gd_eq (by rw [u64k_nat (by omega), u64k_iff.2 (by omega)]; rfl), gd_eq (cW_eq (lo_lt _) (hi_lt m1) (lo_lt _) (hi_lt m2))]
      generalize n1.natAbs * d2.toNat = x at *
      generalize n2.natAbs * d1.toNat = y at *
      have e : IntKind.i64.wrap (0 - cmpNat x y) = -(cmpNat x y) := by
        unfold cmpNat
        cases decide (x < y) <;> cases decide (y < x) <;> rfl
      rw [e]
      cases decide (n1 < 0) <;> cases decide (n2 < 0) <;> rfl
omit hn2 hd2 in
theorem a30 : t30R n1 d1 = some (tri (opN n1 d1)) := by
  unfold t30R opN u2k
  rw [gd_eq (by rw [i64k_iff.2 hn1, i64k_iff.2 hd1]; rfl), shut_eq]
  cases h1 : rtN n1 d1
  · rfl
  · obtain ⟨p1, c1⟩ := (rtN_iff _ _).1 h1
    have e (x : Nat) : wvN x (Int.toNat 0) = x := by unfold wvN; simp
    rw [u64w_nat (by omega), gd_eq (i64k_iff.2 hn1), shut_eq, gd_eq (by rw [u64k_nat (by omega), u64k_iff.2 (by omega)]; rfl), triS_eq, Int.toNat_natCast, e, e, negN_eq _ _ h1]
    rfl
end

noncomputable def sAdd : List AV → T AV
  | [.agg [.int .i64 n1, .int .i64 d1], .agg [.int .i64 n2, .int .i64 d2]] => .chk (i64k n1 && (i64k d1 && (i64k n2 && i64k d2))) (.leaf (triS (opA n1 d1 n2 d2)))
  | _ => .fail
theorem iso15 : ∀ args v, (sAdd args).run = some v → callsM C2 noZ 60 15 args = some v := by
  intro args v hr
  unfold sAdd at hr
  split at hr
  · rename_i n1 d1 n2 d2
    obtain ⟨hc, hr2⟩ := T.of_chk hr
    clear hr
    simp only [Bool.and_eq_true, i64k_iff] at hc
    obtain ⟨h1, h2, h3, h4⟩ := hc
    rw [t15, a15 n1 d1 n2 d2 h1 h2 h3 h4, ← triS_eq]
    exact hr2
  · simp [T.run] at hr
theorem sum15 : SumAt C2 (15, sAdd) := ⟨callsM_fn ok2 noZ2 (iso15 [.agg [.int .i64 0, .int .i64 1], .agg [.int .i64 0, .int .i64 1]] _ rfl), fun args v hr => callsM_iso ok2 noZ2 (iso15 args v hr)⟩

noncomputable def sSub : List AV → T AV
  | [.agg [.int .i64 n1, .int .i64 d1], .agg [.int .i64 n2, .int .i64 d2]] => .chk (i64k n1 && (i64k d1 && (i64k n2 && i64k d2))) (.leaf (triS (opS n1 d1 n2 d2)))
  | _ => .fail
theorem iso14 : ∀ args v, (sSub args).run = some v → callsM C2 noZ 60 14 args = some v := by
  intro args v hr
  unfold sSub at hr
  split at hr
  · rename_i n1 d1 n2 d2
    obtain ⟨hc, hr2⟩ := T.of_chk hr
    clear hr
    simp only [Bool.and_eq_true, i64k_iff] at hc
    obtain ⟨h1, h2, h3, h4⟩ := hc
    rw [t14, a14 n1 d1 n2 d2 h1 h2 h3 h4, ← triS_eq]
    exact hr2
  · simp [T.run] at hr
theorem sum14 : SumAt C2 (14, sSub) := ⟨callsM_fn ok2 noZ2 (iso14 [.agg [.int .i64 0, .int .i64 1], .agg [.int .i64 0, .int .i64 1]] _ rfl), fun args v hr => callsM_iso ok2 noZ2 (iso14 args v hr)⟩

noncomputable def sMul : List AV → T AV
  | [.agg [.int .i64 n1, .int .i64 d1], .agg [.int .i64 n2, .int .i64 d2]] => .chk (i64k n1 && (i64k d1 && (i64k n2 && i64k d2))) (.leaf (triS (opM n1 d1 n2 d2)))
  | _ => .fail
theorem iso16 : ∀ args v, (sMul args).run = some v → callsM C2 noZ 60 16 args = some v := by
  intro args v hr
  unfold sMul at hr
  split at hr
  · rename_i n1 d1 n2 d2
    obtain ⟨hc, hr2⟩ := T.of_chk hr
    clear hr
    simp only [Bool.and_eq_true, i64k_iff] at hc
    obtain ⟨h1, h2, h3, h4⟩ := hc
    rw [t16, a16 n1 d1 n2 d2 h1 h2 h3 h4, ← triS_eq]
    exact hr2
  · simp [T.run] at hr
theorem sum16 : SumAt C2 (16, sMul) := ⟨callsM_fn ok2 noZ2 (iso16 [.agg [.int .i64 0, .int .i64 1], .agg [.int .i64 0, .int .i64 1]] _ rfl), fun args v hr => callsM_iso ok2 noZ2 (iso16 args v hr)⟩

noncomputable def sDiv : List AV → T AV
  | [.agg [.int .i64 n1, .int .i64 d1], .agg [.int .i64 n2, .int .i64 d2]] => .chk (i64k n1 && (i64k d1 && (i64k n2 && i64k d2))) (.leaf (triS (opD n1 d1 n2 d2)))
  | _ => .fail
theorem iso20 : ∀ args v, (sDiv args).run = some v → callsM C2 noZ 60 20 args = some v := by
  intro args v hr
  unfold sDiv at hr
  split at hr
  · rename_i n1 d1 n2 d2
    obtain ⟨hc, hr2⟩ := T.of_chk hr
    clear hr
    simp only [Bool.and_eq_true, i64k_iff] at hc
    obtain ⟨h1, h2, h3, h4⟩ := hc
    rw [t20, a20 n1 d1 n2 d2 h1 h2 h3 h4, ← triS_eq]
    exact hr2
  · simp [T.run] at hr
theorem sum20 : SumAt C2 (20, sDiv) := ⟨callsM_fn ok2 noZ2 (iso20 [.agg [.int .i64 0, .int .i64 1], .agg [.int .i64 0, .int .i64 1]] _ rfl), fun args v hr => callsM_iso ok2 noZ2 (iso20 args v hr)⟩

noncomputable def sCmpF : List AV → T AV
  | [.agg [.int .i64 n1, .int .i64 d1], .agg [.int .i64 n2, .int .i64 d2]] => .chk (i64k n1 && (i64k d1 && (i64k n2 && i64k d2))) (.leaf (.tup [.int .i64 (shut (opC n1 d1 n2 d2).1), .int .i64 (shut (opC n1 d1 n2 d2).2)]))
  | _ => .fail
theorem iso13 : ∀ args v, (sCmpF args).run = some v → callsM C2 noZ 60 13 args = some v := by
  intro args v hr
  unfold sCmpF at hr
  split at hr
  · rename_i n1 d1 n2 d2
    obtain ⟨hc, hr2⟩ := T.of_chk hr
    clear hr
    simp only [Bool.and_eq_true, i64k_iff] at hc
    obtain ⟨h1, h2, h3, h4⟩ := hc
    rw [shut_eq, shut_eq] at hr2
    rw [t13, a13 n1 d1 n2 d2 h1 h2 h3 h4]
    exact hr2
  · simp [T.run] at hr
theorem sum13 : SumAt C2 (13, sCmpF) := ⟨callsM_fn ok2 noZ2 (iso13 [.agg [.int .i64 0, .int .i64 1], .agg [.int .i64 0, .int .i64 1]] _ rfl), fun args v hr => callsM_iso ok2 noZ2 (iso13 args v hr)⟩
noncomputable def sNeg : List AV → T AV
  | [.agg [.int .i64 n, .int .i64 d]] => .chk (i64k n && i64k d) (.leaf (triS (opN n d)))
  | _ => .fail
theorem iso30 : ∀ args v, (sNeg args).run = some v → callsM C2 noZ 60 30 args = some v := by
  intro args v hr
  unfold sNeg at hr
  split at hr
  · rename_i n d
    obtain ⟨hc, hr2⟩ := T.of_chk hr
    clear hr
    simp only [Bool.and_eq_true, i64k_iff] at hc
    rw [t30, a30 n d hc.1 hc.2, ← triS_eq]
    exact hr2
  · simp [T.run] at hr
theorem sum30 : SumAt C2 (30, sNeg) := ⟨callsM_fn ok2 noZ2 (iso30 [.agg [.int .i64 0, .int .i64 1]] _ rfl), fun args v hr => callsM_iso ok2 noZ2 (iso30 args v hr)⟩
noncomputable def tab3 : List (Nat × (List AV → T AV)) := [(15, sAdd), (14, sSub), (16, sMul), (20, sDiv), (13, sCmpF), (30, sNeg)]
noncomputable def C3 : Ctx := withSum C2 tab3
theorem ok3 : Ok C3 := ok_with ok2 ⟨sum15, sum14, sum16, sum20, sum13, sum30, trivial⟩
theorem noZ3 : ZOk C3 noZ := noZ_ok keepOk
end Go.Proofs.YtbblfgfaoolloaaDoor
