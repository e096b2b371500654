/- Chapter 1: FracRing is true. -/
import Derived.Test.YtbblfgfaoolloaaDoorRi2
namespace Go.Proofs.YtbblfgfaoolloaaDoor
open Go Go.Ev Go.Ev.Bits

abbrev F4 := Int → Int → Int → Int → Int
abbrev B4 := Int → Int → Int → Int → Bool
/-- 'if x != y { return false }' -/
def neQ (x1 y1 x2 y2 : Int) (k : Option AV) : Option AV := bif !(x1 == x2 && (y1 == y2 && true)) then tB false else k
section
variable (fn fd gn gd' hn hd : Int)
def rgR (ok : B4) (N D : F4) (k : Option AV) : Option AV :=
  gd (ok fn fd gn gd') (gd (ok gn gd' fn fd) (neQ (N fn fd gn gd') (D fn fd gn gd') (N gn gd' fn fd) (D gn gd' fn fd)
  (gd (ok fn fd gn gd') (gd (ok (N fn fd gn gd') (D fn fd gn gd') hn hd) (gd (ok gn gd' hn hd) (gd (ok fn fd (N gn gd' hn hd) (D gn gd' hn hd))
  (neQ (N (N fn fd gn gd') (D fn fd gn gd') hn hd) (D (N fn fd gn gd') (D fn fd gn gd') hn hd) (N fn fd (N gn gd' hn hd) (D gn gd' hn hd)) (D fn fd (N gn gd' hn hd) (D gn gd' hn hd)) k)))))))
noncomputable def rg13 (k : Option AV) : Option AV :=
  gd (okA gn gd' hn hd) (gd (okM fn fd (aN gn gd' hn hd) (aD gn gd' hn hd)) (gd (okM fn fd gn gd') (gd (okM fn fd hn hd) (gd (okA (mN fn fd gn gd') (mD fn fd gn gd') (mN fn fd hn hd) (mD fn fd hn hd))
  (neQ (mN fn fd (aN gn gd' hn hd) (aD gn gd' hn hd)) (mD fn fd (aN gn gd' hn hd) (aD gn gd' hn hd)) (aN (mN fn fd gn gd') (mD fn fd gn gd') (mN fn fd hn hd) (mD fn fd hn hd)) (aD (mN fn fd gn gd') (mD fn fd gn gd') (mN fn fd hn hd) (mD fn fd hn hd))
  (gd (okA fn fd gn gd') (gd (okS (aN fn fd gn gd') (aD fn fd gn gd') gn gd') (neQ (dN (aN fn fd gn gd') (aD fn fd gn gd') gn gd') (dD (aN fn fd gn gd') (aD fn fd gn gd') gn gd') fn fd
  (gd (okA fn fd 0 1) (neQ (aN fn fd 0 1) (aD fn fd 0 1) fn fd
  (gd (okM fn fd 1 1) (neQ (mN fn fd 1 1) (mD fn fd 1 1) fn fd
  (gd (okM fn fd 0 1) (neQ (mN fn fd 0 1) (mD fn fd 0 1) 0 1
  (gd (okS fn fd fn fd) (neQ (dN fn fd fn fd) (dD fn fd fn fd) 0 1 k))))))))))))))))
noncomputable def rg15 (k : Option AV) : Option AV :=
  bif !(gn == 0 && (gd' == 1 && true)) then
    gd (okM fn fd gn gd') (gd (okD (mN fn fd gn gd') (mD fn fd gn gd') gn gd') (neQ (qN (mN fn fd gn gd') (mD fn fd gn gd') gn gd') (qD (mN fn fd gn gd') (mD fn fd gn gd') gn gd') fn fd
    (gd (okD gn gd' gn gd') (neQ (qN gn gd' gn gd') (qD gn gd' gn gd') 1 1 k))))
  else k
noncomputable def rg19 : Option AV :=
  gd (okN fn fd) (gd (okT3 fn fd gn gd' hn hd) (gd (okA fn fd (nN fn fd) (nD fn fd)) (bif (aN fn fd (nN fn fd) (nD fn fd) == 0 && (aD fn fd (nN fn fd) (nD fn fd) == 1 && true)) then
    gd (okA gn gd' hn hd) (gd (okA fn fd (aN gn gd' hn hd) (aD gn gd' hn hd)) (bif (s3N fn fd gn gd' hn hd == aN fn fd (aN gn gd' hn hd) (aD gn gd' hn hd) && (s3D fn fd gn gd' hn hd == aD fn fd (aN gn gd' hn hd) (aD gn gd' hn hd) && true)) then
      gd (i64k (s3N fn fd gn gd' hn hd) && i64k (s3D fn fd gn gd' hn hd)) (some (.bool (shut (rtN (s3N fn fd gn gd' hn hd) (s3D fn fd gn gd' hn hd)))))
    else tB false)) else tB false)))
noncomputable def ringT : Option AV := rgR fn fd gn gd' hn hd okA aN aD (rgR fn fd gn gd' hn hd okM mN mD (rg13 fn fd gn gd' hn hd (rg15 fn fd gn gd' (rg19 fn fd gn gd' hn hd))))
end
theorem t8 (a b c d m n : Int) : callsM CGr noZ 60 8 [.int .i16 a, .int .i16 b, .int .i16 c, .int .i16 d, .int .i16 m, .int .i16 n] = gd (in16 a b) (gd (in16 c d) (gd (in16 m n) (ringT (sN a b) (sD a b) (sN c d) (sD c d) (sN m n) (sD m n)))) := by kernel_rfl
theorem neQ_eq {x y : Rat} (h : x = y) (k : Option AV) : neQ x.num x.den y.num y.den k = k := by
  subst h; unfold neQ; rw [beq_self_eq_true, beq_self_eq_true]; rfl
section
variable {p q r : Rat} (hp : sm p) (hq : sm q) (hr : sm r)
theorem wd {x : Rat} (h : sm x) : bdQ x M63 M63 := bd_le h (by decide) (by decide)
include hp hq hr
theorem rgR_add (k : Option AV) : rgR p.num p.den q.num q.den r.num r.den okA aN aD k = k := by
  have b1 : bdQ (p + q) M63 M63 := bd_le (bd_add hp hq) (by decide) (by decide)
  have b2 : bdQ (q + p) M63 M63 := bd_le (bd_add hq hp) (by decide) (by decide)
  have b3 : bdQ (p + q + r) M63 M63 := bd_le (bd_add (bd_add hp hq) hr) (by decide) (by decide)
  have b4 : bdQ (q + r) M63 M63 := bd_le (bd_add hq hr) (by decide) (by decide)
  have b5 : bdQ (p + (q + r)) M63 M63 := bd_le (bd_add hp (bd_add hq hr)) (by decide) (by decide)
  unfold rgR
  simp only [aN_r, aD_r]
  rw [gd_eq (okA_r (wd hp) (wd hq) b1), gd_eq (okA_r (wd hq) (wd hp) b2), neQ_eq (by grind), gd_eq (okA_r (wd hp) (wd hq) b1), gd_eq (okA_r b1 (wd hr) b3), gd_eq (okA_r (wd hq) (wd hr) b4), gd_eq (okA_r (wd hp) b4 b5), neQ_eq (by grind)]
theorem rgR_mul (k : Option AV) : rgR p.num p.den q.num q.den r.num r.den okM mN mD k = k := by
  have b1 : bdQ (p * q) M63 M63 := bd_le (bd_mul hp hq) (by decide) (by decide)
  have b2 : bdQ (q * p) M63 M63 := bd_le (bd_mul hq hp) (by decide) (by decide)
  have b3 : bdQ (p * q * r) M63 M63 := bd_le (bd_mul (bd_mul hp hq) hr) (by decide) (by decide)
  have b4 : bdQ (q * r) M63 M63 := bd_le (bd_mul hq hr) (by decide) (by decide)
  have b5 : bdQ (p * (q * r)) M63 M63 := bd_le (bd_mul hp (bd_mul hq hr)) (by decide) (by decide)
  unfold rgR
  simp only [mN_r, mD_r]
  rw [gd_eq (okM_r (wd hp) (wd hq) b1), gd_eq (okM_r (wd hq) (wd hp) b2), neQ_eq (by grind), gd_eq (okM_r (wd hp) (wd hq) b1), gd_eq (okM_r b1 (wd hr) b3), gd_eq (okM_r (wd hq) (wd hr) b4), gd_eq (okM_r (wd hp) b4 b5), neQ_eq (by grind)]
theorem rg13_eq (k : Option AV) : rg13 p.num p.den q.num q.den r.num r.den k = k := by
  have s0 : sm (0 : Rat) := ⟨by decide, by decide⟩
  have s1 : sm (1 : Rat) := ⟨by decide, by decide⟩
  have c1 : bdQ (q + r) M63 M63 := bd_le (bd_add hq hr) (by decide) (by decide)
  have c2 : bdQ (p * (q + r)) M63 M63 := bd_le (bd_mul hp (bd_add hq hr)) (by decide) (by decide)
  have c3 : bdQ (p * q) M63 M63 := bd_le (bd_mul hp hq) (by decide) (by decide)
  have c4 : bdQ (p * r) M63 M63 := bd_le (bd_mul hp hr) (by decide) (by decide)
  have c5 : bdQ (p * q + p * r) M63 M63 := bd_le (bd_add (bd_mul hp hq) (bd_mul hp hr)) (by decide) (by decide)
  have c6 : bdQ (p + q) M63 M63 := bd_le (bd_add hp hq) (by decide) (by decide)
  have c7 : bdQ (p + q - q) M63 M63 := by rw [show p + q - q = p by grind]; exact wd hp
  have c8 : bdQ (p + 0) M63 M63 := by rw [show p + 0 = p by grind]; exact wd hp
  have c9 : bdQ (p * 1) M63 M63 := by rw [show p * 1 = p by grind]; exact wd hp
  have c10 : bdQ (p * 0) M63 M63 := by rw [show p * 0 = 0 by grind]; exact wd s0
  have c11 : bdQ (p - p) M63 M63 := by rw [show p - p = 0 by grind]; exact wd s0
  have z1 : okA p.num p.den 0 1 = true := okA_r (wd hp) (wd s0) c8
  have z2 : okM p.num p.den 1 1 = true := okM_r (wd hp) (wd s1) c9
  have z3 : okM p.num p.den 0 1 = true := okM_r (wd hp) (wd s0) c10
  have y1 : aN p.num p.den 0 1 = (p + 0).num := aN_r p 0
  have y2 : aD p.num p.den 0 1 = ((p + 0).den : Int) := aD_r p 0
  have y3 : mN p.num p.den 1 1 = (p * 1).num := mN_r p 1
  have y4 : mD p.num p.den 1 1 = ((p * 1).den : Int) := mD_r p 1
  have y5 : mN p.num p.den 0 1 = (p * 0).num := mN_r p 0
  have y6 : mD p.num p.den 0 1 = ((p * 0).den : Int) := mD_r p 0
  have n0 (x : Rat) (h : x = 0) (k : Option AV) : neQ x.num x.den 0 1 k = k := neQ_eq (y := 0) h k
  unfold rg13
  rw [y1, y2, y3, y4, y5, y6]
  simp only [aN_r, aD_r, mN_r, mD_r, dN_r, dD_r]
  rw [gd_eq (okA_r (wd hq) (wd hr) c1), gd_eq (okM_r (wd hp) c1 c2), gd_eq (okM_r (wd hp) (wd hq) c3), gd_eq (okM_r (wd hp) (wd hr) c4), gd_eq (okA_r c3 c4 c5), neQ_eq (by grind),
    gd_eq (okA_r (wd hp) (wd hq) c6), gd_eq (okS_r c6 (wd hq) c7), neQ_eq (by grind), gd_eq z1, neQ_eq (by grind), gd_eq z2, neQ_eq (by grind), gd_eq z3, n0 _ (by grind), gd_eq (okS_r (wd hp) (wd hp) c11), n0 _ (by grind)]
omit hr in
theorem rg15_eq (k : Option AV) : rg15 p.num p.den q.num q.den k = k := by
  have s1 : sm (1 : Rat) := ⟨by decide, by decide⟩
  unfold rg15
  have e0 : (q.num == 0 && ((q.den : Int) == 1 && true)) = decide (q = 0) := same_iff q 0
  rw [e0]
  by_cases hz : q = 0
  · rw [decide_eq_true hz]; rfl
  · have hn : q.num ≠ 0 := fun h => hz (Rat.num_eq_zero.1 h)
    have c3 : bdQ (p * q) M63 M63 := bd_le (bd_mul hp hq) (by decide) (by decide)
    have c7 : bdQ (p * q / q) M63 M63 := by rw [show p * q / q = p by grind]; exact wd hp
    have c8 : bdQ (q / q) M63 M63 := by rw [show q / q = 1 by grind]; exact wd s1
    have n1 (x : Rat) (h : x = 1) (k : Option AV) : neQ x.num x.den 1 1 k = k := neQ_eq (y := 1) h k
    rw [decide_eq_false hz, Bool.not_false, cond_true]
    simp only [mN_r, mD_r, qN_r, qD_r]
    rw [gd_eq (okM_r (wd hp) (wd hq) c3), gd_eq (okD_r c3 (wd hq) c7 hn), neQ_eq (by grind), gd_eq (okD_r (wd hq) (wd hq) c8 hn), n1 _ (by grind)]
theorem rg19_eq : rg19 p.num p.den q.num q.den r.num r.den = tB true := by
  have s0 : sm (0 : Rat) := ⟨by decide, by decide⟩
  have c0 : bdQ (0 + p) M63 M63 := by rw [show 0 + p = p by grind]; exact wd hp
  have c1 : bdQ (0 + p + q) M63 M63 := by rw [show 0 + p + q = p + q by grind]; exact bd_le (bd_add hp hq) (by decide) (by decide)
  have c2 : bdQ (0 + p + q + r) M63 M63 := by rw [show 0 + p + q + r = p + q + r by grind]; exact bd_le (bd_add (bd_add hp hq) hr) (by decide) (by decide)
  have c3 : bdQ (q + r) M63 M63 := bd_le (bd_add hq hr) (by decide) (by decide)
  have c4 : bdQ (p + (q + r)) M63 M63 := bd_le (bd_add hp (bd_add hq hr)) (by decide) (by decide)
  have c5 : bdQ (-p) M63 M63 := bd_neg (wd hp)
  have c6 : bdQ (p + -p) M63 M63 := by rw [show p + -p = 0 by grind]; exact wd s0
  have e1 : s1N p.num p.den = (0 + p).num := aN_r 0 p
  have e2 : s1D p.num p.den = ((0 + p).den : Int) := aD_r 0 p
  have e3 : s2N p.num p.den q.num q.den = (0 + p + q).num := by unfold s2N; rw [e1, e2]; exact aN_r _ _
  have e4 : s2D p.num p.den q.num q.den = ((0 + p + q).den : Int) := by unfold s2D; rw [e1, e2]; exact aD_r _ _
  have e5 : s3N p.num p.den q.num q.den r.num r.den = (0 + p + q + r).num := by unfold s3N; rw [e3, e4]; exact aN_r _ _
  have e6 : s3D p.num p.den q.num q.den r.num r.den = ((0 + p + q + r).den : Int) := by unfold s3D; rw [e3, e4]; exact aD_r _ _
  have k0 : okA 0 1 p.num p.den = true := okA_r (wd s0) (wd hp) c0
  have rk {x : Rat} (h : sm x) : rok x.num x.den = true := by unfold rok; rw [i64k_n (wd h), i64k_d (wd h), rtN_rat]; rfl
  have k3 : okT3 p.num p.den q.num q.den r.num r.den = true := by
    unfold okT3
    rw [rk hp, rk hq, rk hr, k0, e1, e2, okA_r c0 (wd hq) c1, e3, e4, okA_r c1 (wd hr) c2]; rfl
  have kn : okN p.num p.den = true := by unfold okN; rw [i64k_n (wd hp), i64k_d (wd hp), rtN_rat, toQ_rat, fitsB_bd c5 (Nat.le_refl _) (Nat.le_refl _)]; rfl
  have m1 : nN p.num p.den = (-p).num := by unfold nN; rw [shut_eq, toQ_rat]
  have m2 : nD p.num p.den = ((-p).den : Int) := by unfold nD; rw [shut_eq, toQ_rat]
  unfold rg19
  rw [e5, e6, m1, m2]
  simp only [aN_r, aD_r]
  have q1 : ((p + -p).num == 0 && (((p + -p).den : Int) == 1 && true)) = true := by
    rw [show p + -p = 0 by grind]; rfl
  have q2 : ((0 + p + q + r).num == (p + (q + r)).num && (((0 + p + q + r).den : Int) == ((p + (q + r)).den : Int) && true)) = true := by
    rw [same_iff]; exact decide_eq_true (by grind)
  rw [gd_eq kn, gd_eq k3, gd_eq (okA_r (wd hp) c5 c6), q1, cond_true, gd_eq (okA_r (wd hq) (wd hr) c3), gd_eq (okA_r (wd hp) c3 c4), q2, cond_true, gd_eq (by rw [i64k_n c2, i64k_d c2]; rfl), shut_eq, rtN_rat]
  rfl
end
/-- FracRing is true. -/
theorem ring_run (a b c d m n : Int) (ha : -32768 ≤ a ∧ a ≤ 32767) (hb : -32768 ≤ b ∧ b ≤ 32767) (hc : -32768 ≤ c ∧ c ≤ 32767) (hd : -32768 ≤ d ∧ d ≤ 32767) (hm : -32768 ≤ m ∧ m ≤ 32767) (hn : -32768 ≤ n ∧ n ≤ 32767) :
    callsM CGr noZ 60 8 [.int .i16 a, .int .i16 b, .int .i16 c, .int .i16 d, .int .i16 m, .int .i16 n] = some (.bool true) := by
  have i {a b : Int} (h1 : -32768 ≤ a ∧ a ≤ 32767) (h2 : -32768 ≤ b ∧ b ≤ 32767) : in16 a b = true := by
    unfold in16; rw [leI_iff.2 h1.1, leI_iff.2 h1.2, leI_iff.2 h2.1, leI_iff.2 h2.2]; rfl
  have p1 := sq_bd a b ha
  have p2 := sq_bd c d hc
  have p3 := sq_bd m n hm
  rw [t8, gd_eq (i ha hb), gd_eq (i hc hd), gd_eq (i hm hn), sN_eq, sD_eq, sN_eq, sD_eq, sN_eq, sD_eq]
  unfold ringT
  rw [rgR_add p1 p2 p3, rgR_mul p1 p2 p3, rg13_eq p1 p2 p3, rg15_eq p1 p2]
  exact rg19_eq p1 p2 p3
end Go.Proofs.YtbblfgfaoolloaaDoor
