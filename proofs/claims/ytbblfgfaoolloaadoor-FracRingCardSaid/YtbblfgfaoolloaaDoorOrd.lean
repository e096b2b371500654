/- Chapter 1: FracOrder: the laws of comparing; the walk. -/
import Derived.Test.YtbblfgfaoolloaaDoorF11
namespace Go.Proofs.YtbblfgfaoolloaaDoor
open Go Go.Ev Go.Ev.Bits

theorem cmpQ_lt {p q : Rat} (h : p < q) : cmpQ p q = -1 := by unfold cmpQ; rw [decide_eq_true h]; rfl
theorem cmpQ_gt {p q : Rat} (h : q < p) : cmpQ p q = 1 := by unfold cmpQ; rw [decide_eq_false (by grind), decide_eq_true h]; rfl
theorem cmpQ_eq (p : Rat) : cmpQ p p = 0 := by unfold cmpQ; rw [decide_eq_false (by grind)]; rfl
theorem tri3 (p q : Rat) : p < q ∨ p = q ∨ q < p := by grind
theorem cmpQ_add (p q r : Rat) : cmpQ (p + r) (q + r) = cmpQ p q := by
  rcases tri3 p q with h | h | h
  · rw [cmpQ_lt h, cmpQ_lt (by grind)]
  · subst h; rw [cmpQ_eq, cmpQ_eq]
  · rw [cmpQ_gt h, cmpQ_gt (by grind)]
theorem cmpQ_swap (p q : Rat) : cmpQ q p = -cmpQ p q := by
  rcases tri3 p q with h | h | h
  · rw [cmpQ_lt h, cmpQ_gt h]; rfl
  · subst h; rw [cmpQ_eq]; rfl
  · rw [cmpQ_gt h, cmpQ_lt h]
theorem mul_lt_r {p q r : Rat} (h : p < q) (hr : 0 < r) : p * r < q * r := by
  rw [Rat.mul_comm p, Rat.mul_comm q]; exact (Rat.mul_lt_mul_left hr).2 h
theorem cmpQ_pos (p q r : Rat) (hr : 0 < r) : cmpQ (p * r) (q * r) = cmpQ p q := by
  rcases tri3 p q with h | h | h
  · rw [cmpQ_lt h, cmpQ_lt (mul_lt_r h hr)]
  · subst h; rw [cmpQ_eq, cmpQ_eq]
  · rw [cmpQ_gt h, cmpQ_gt (mul_lt_r h hr)]
theorem cmpQ_neg (p q r : Rat) (hr : r < 0) : cmpQ (p * r) (q * r) = -cmpQ p q := by
  have hs : 0 < -r := by grind
  have k {p q : Rat} (h : p < q) : q * r < p * r := by
    have := mul_lt_r h hs
    grind
  rcases tri3 p q with h | h | h
  · rw [cmpQ_lt h, cmpQ_gt (k h)]; rfl
  · subst h; rw [cmpQ_eq, cmpQ_eq]; rfl
  · rw [cmpQ_gt h, cmpQ_lt (k h)]
theorem num_pos_iff (r : Rat) : r.num > 0 ↔ 0 < r := by
  have := Rat.lt_iff 0 r
  rw [this]
  show _ ↔ (0 : Int) * _ < r.num * (1 : Nat)
  rw [Int.zero_mul]
  omega
theorem num_neg_iff (r : Rat) : r.num < 0 ↔ r < 0 := by
  have := Rat.lt_iff r 0
  rw [this]
  show _ ↔ r.num * ((1 : Nat) : Int) < 0 * _
  rw [Int.zero_mul]
  omega
theorem rat_ext {p q : Rat} (h1 : p.num = q.num) (h2 : p.den = q.den) : p = q := by
  rw [← Rat.mkRat_self p, ← Rat.mkRat_self q, h1, h2]
/-- Are two fractions the same? -/
theorem same_iff (p q : Rat) : (p.num == q.num && ((p.den : Int) == (q.den : Int) && true)) = decide (p = q) := by
  rw [Bool.and_true]
  by_cases h : p = q
  · subst h; simp
  · rw [decide_eq_false h]
    cases h1 : (p.num == q.num)
    · rfl
    · cases h2 : ((p.den : Int) == (q.den : Int))
      · rfl
      · rw [beq_iff_eq] at h1 h2
        exact absurd (rat_ext h1 (by omega)) h
theorem cmpQ_zero (p q : Rat) : (cmpQ p q == 0) = decide (p = q) := by
  rcases tri3 p q with h | h | h
  · rw [cmpQ_lt h, decide_eq_false (by grind)]; rfl
  · subst h; rw [cmpQ_eq]; simp
  · rw [cmpQ_gt h, decide_eq_false (by grind)]; rfl
theorem cmpQ_trans (p q r : Rat) (h : cmpQ p q = cmpQ q r) : cmpQ p r = cmpQ p q := by
  rcases tri3 p q with a | a | a <;> rcases tri3 q r with b | b | b
  · rw [cmpQ_lt a, cmpQ_lt (by grind)]
  · subst b; rfl
  · rw [cmpQ_lt a, cmpQ_gt b] at h; cases h
  · subst a; rw [cmpQ_eq, cmpQ_lt b] at h; cases h
  · subst a b; rfl
  · subst a; rw [cmpQ_eq, cmpQ_gt b] at h; cases h
  · rw [cmpQ_gt a, cmpQ_lt b] at h; cases h
  · subst b; rfl
  · rw [cmpQ_gt a, cmpQ_gt (by grind)]

/-! ### Right fractions as rational numbers -/
abbrev M63 : Nat := 9223372036854775807
theorem i64k_n {p : Rat} (h : bdQ p M63 M63) : i64k p.num = true := i64k_iff.2 (by have := h.1; unfold M63 at this; omega)
theorem i64k_d {p : Rat} (h : bdQ p M63 M63) : i64k (p.den : Int) = true := i64k_iff.2 (by have := h.2; unfold M63 at this; omega)
section
variable {p q : Rat} (hp : bdQ p M63 M63) (hq : bdQ q M63 M63)
include hp hq
theorem u4_r : u4 p.num p.den q.num q.den = true := by unfold u4; rw [i64k_n hp, i64k_d hp, i64k_n hq, i64k_d hq]; rfl
theorem okC_r : okC p.num p.den q.num q.den = true := by unfold okC; rw [u4_r hp hq, rtN_rat, rtN_rat]; rfl
theorem okA_r (h : bdQ (p + q) M63 M63) : okA p.num p.den q.num q.den = true := by unfold okA; rw [u4_r hp hq, rtN_rat, rtN_rat, toQ_rat, toQ_rat, fitsB_bd h (Nat.le_refl _) (Nat.le_refl _)]; rfl
theorem okS_r (h : bdQ (p - q) M63 M63) : okS p.num p.den q.num q.den = true := by unfold okS; rw [u4_r hp hq, rtN_rat, rtN_rat, toQ_rat, toQ_rat, fitsB_bd h (Nat.le_refl _) (Nat.le_refl _)]; rfl
theorem okM_r (h : bdQ (p * q) M63 M63) : okM p.num p.den q.num q.den = true := by unfold okM; rw [u4_r hp hq, rtN_rat, rtN_rat, toQ_rat, toQ_rat, fitsB_bd h (Nat.le_refl _) (Nat.le_refl _)]; rfl
theorem okD_r (h : bdQ (p / q) M63 M63) (h0 : q.num ≠ 0) : okD p.num p.den q.num q.den = true := by unfold okD; rw [u4_r hp hq, rtN_rat, rtN_rat, toQ_rat, toQ_rat, fitsB_bd h (Nat.le_refl _) (Nat.le_refl _), show (q.num != 0) = true from by simpa using h0]; rfl
end
variable (p q : Rat)
theorem aN_r : aN p.num p.den q.num q.den = (p + q).num := by unfold aN; rw [shut_eq, toQ_rat, toQ_rat]
theorem aD_r : aD p.num p.den q.num q.den = ((p + q).den : Int) := by unfold aD; rw [shut_eq, toQ_rat, toQ_rat]
theorem dN_r : dN p.num p.den q.num q.den = (p - q).num := by unfold dN; rw [shut_eq, toQ_rat, toQ_rat]
theorem dD_r : dD p.num p.den q.num q.den = ((p - q).den : Int) := by unfold dD; rw [shut_eq, toQ_rat, toQ_rat]
theorem mN_r : mN p.num p.den q.num q.den = (p * q).num := by unfold mN; rw [shut_eq, toQ_rat, toQ_rat]
theorem mD_r : mD p.num p.den q.num q.den = ((p * q).den : Int) := by unfold mD; rw [shut_eq, toQ_rat, toQ_rat]
theorem qN_r : qN p.num p.den q.num q.den = (p / q).num := by unfold qN; rw [shut_eq, toQ_rat, toQ_rat]
theorem qD_r : qD p.num p.den q.num q.den = ((p / q).den : Int) := by unfold qD; rw [shut_eq, toQ_rat, toQ_rat]
theorem cQ_r : cQ p.num p.den q.num q.den = cmpQ p q := by unfold cQ; rw [shut_eq, toQ_rat, toQ_rat]

/-! ### The walk -/
def tB (b : Bool) : Option AV := some (.bool b)
def noIf (c : Bool) (k : Option AV) : Option AV := bif c then tB false else k
noncomputable def ordF (cfg cgh cfh cgf cxy cmm : Int) (same : Bool) (σ τ : Int) : Option AV :=
  noIf (cfg != σ) (noIf (cgf != IntKind.i64.wrap (0 - cfg)) (noIf (cxy != cfg) (noIf (cmm != IntKind.i64.wrap (cfg * τ)) (noIf (!((cfg == 0) == same)) (bif cfg != cgh then tB true else tB (cfh == cfg))))))
def sg3 (x : Int) (k : Int → Option AV) : Option AV := bif decide (x > 0) then k 1 else bif decide (x < 0) then k (-1) else k 0
noncomputable def ordT (fn fd gn gd' hn hd : Int) : Option AV :=
  gd (okC fn fd gn gd') (gd (okC gn gd' hn hd) (gd (okC fn fd hn hd) (gd (okC gn gd' fn fd) (gd (okS fn fd gn gd') (gd (okA fn fd hn hd) (gd (okA gn gd' hn hd)
  (gd (okC (aN fn fd hn hd) (aD fn fd hn hd) (aN gn gd' hn hd) (aD gn gd' hn hd)) (gd (okM fn fd hn hd) (gd (okM gn gd' hn hd) (gd (okC (mN fn fd hn hd) (mD fn fd hn hd) (mN gn gd' hn hd) (mD gn gd' hn hd))
  (sg3 (dN fn fd gn gd') fun σ => sg3 hn fun τ =>
    ordF (cQ fn fd gn gd') (cQ gn gd' hn hd) (cQ fn fd hn hd) (cQ gn gd' fn fd) (cQ (aN fn fd hn hd) (aD fn fd hn hd) (aN gn gd' hn hd) (aD gn gd' hn hd)) (cQ (mN fn fd hn hd) (mD fn fd hn hd) (mN gn gd' hn hd) (mD gn gd' hn hd))
      (fn == gn && (fd == gd' && true)) σ τ)))))))))))
noncomputable def in16 (a b : Int) : Bool := leI (-32768) a && (leI a 32767 && (leI (-32768) b && leI b 32767))
theorem t4 (a b c d m n : Int) : callsM C6 noZ 60 4 [.int .i16 a, .int .i16 b, .int .i16 c, .int .i16 d, .int .i16 m, .int .i16 n] = gd (in16 a b) (gd (in16 c d) (gd (in16 m n) (ordT (sN a b) (sD a b) (sN c d) (sD c d) (sN m n) (sD m n)))) := by kernel_rfl
theorem sN_eq (a b : Int) : sN a b = (sq a b).num := shut_eq _
theorem sD_eq (a b : Int) : sD a b = ((sq a b).den : Int) := shut_eq _
abbrev sm (p : Rat) : Prop := bdQ p 32768 32768
theorem bd_le {p : Rat} {N D N' D' : Nat} (h : bdQ p N D) (hN : N ≤ N') (hD : D ≤ D') : bdQ p N' D' := ⟨Nat.le_trans h.1 hN, Nat.le_trans h.2 hD⟩
theorem ordT_eq {p q r : Rat} (hp : sm p) (hq : sm q) (hr : sm r) : ordT p.num p.den q.num q.den r.num r.den = tB true := by
  have w {x : Rat} (h : sm x) : bdQ x M63 M63 := bd_le h (by decide) (by decide)
  have b1 : bdQ (p - q) M63 M63 := bd_le (bd_sub hp hq) (by decide) (by decide)
  have b2 : bdQ (p + r) M63 M63 := bd_le (bd_add hp hr) (by decide) (by decide)
  have b3 : bdQ (q + r) M63 M63 := bd_le (bd_add hq hr) (by decide) (by decide)
  have b4 : bdQ (p * r) M63 M63 := bd_le (bd_mul hp hr) (by decide) (by decide)
  have b5 : bdQ (q * r) M63 M63 := bd_le (bd_mul hq hr) (by decide) (by decide)
  unfold ordT
  rw [gd_eq (okC_r (w hp) (w hq)), gd_eq (okC_r (w hq) (w hr)), gd_eq (okC_r (w hp) (w hr)), gd_eq (okC_r (w hq) (w hp)), gd_eq (okS_r (w hp) (w hq) b1), gd_eq (okA_r (w hp) (w hr) b2), gd_eq (okA_r (w hq) (w hr) b3)]
  simp only [aN_r, aD_r, mN_r, mD_r, dN_r, cQ_r]
  rw [gd_eq (okC_r b2 b3), gd_eq (okM_r (w hp) (w hr) b4), gd_eq (okM_r (w hq) (w hr) b5), gd_eq (okC_r b4 b5)]
  rw [cmpQ_add, cmpQ_swap p q, same_iff, ← cmpQ_zero]
  have hc := cmpQ_trans p q r
  have e1 (k : Int → Option AV) : sg3 (p - q).num k = k (cmpQ p q) := by
    unfold sg3
    rcases tri3 p q with h | h | h
    · rw [decide_eq_false (fun hx => by have := (num_pos_iff _).1 hx; grind), decide_eq_true ((num_neg_iff _).2 (by grind)), cmpQ_lt h]; rfl
    · subst h
      rw [decide_eq_false (fun hx => by have := (num_pos_iff _).1 hx; grind), decide_eq_false (fun hx => by have := (num_neg_iff _).1 hx; grind), cmpQ_eq]; rfl
    · rw [decide_eq_true ((num_pos_iff _).2 (by grind)), cmpQ_gt h]; rfl
  have e2 (k : Int → Option AV) : sg3 r.num k = k (cmpQ r 0) := by
    unfold sg3
    rcases tri3 r 0 with h | h | h
    · rw [decide_eq_false (fun hx => by have := (num_pos_iff _).1 hx; grind), decide_eq_true ((num_neg_iff _).2 h), cmpQ_lt h]; rfl
    · subst h
      rw [decide_eq_false (fun hx => by have := (num_pos_iff _).1 hx; grind), decide_eq_false (fun hx => by have := (num_neg_iff _).1 hx; grind), cmpQ_eq]; rfl
    · rw [decide_eq_true ((num_pos_iff _).2 h), cmpQ_gt h]; rfl
  have e3 : cmpQ (p * r) (q * r) = cmpQ p q * cmpQ r 0 := by
    rcases tri3 r 0 with h | h | h
    · rw [cmpQ_neg p q r h, cmpQ_lt h]; omega
    · subst h; rw [Rat.mul_zero, Rat.mul_zero, cmpQ_eq, Int.mul_zero]
    · rw [cmpQ_pos p q r h, cmpQ_gt h]; omega
  rw [e1, e2, e3]
  have b1 (p q : Rat) : cmpQ p q = -1 ∨ cmpQ p q = 0 ∨ cmpQ p q = 1 := by
    rcases tri3 p q with h | h | h
    · exact .inl (cmpQ_lt h)
    · subst h; exact .inr (.inl (cmpQ_eq p))
    · exact .inr (.inr (cmpQ_gt h))
  have k1 := b1 p q
  have k2 := b1 r 0
  have k3 := b1 q r
  generalize cmpQ p q = x at *
  generalize cmpQ r 0 = y at *
  generalize cmpQ q r = z at *
  generalize cmpQ p r = v at *
  unfold ordF noIf
  rcases k1 with rfl | rfl | rfl <;> rcases k2 with rfl | rfl | rfl <;> rcases k3 with rfl | rfl | rfl <;> first | rfl | (rw [hc rfl]; rfl)
/-- FracOrder is true. -/
theorem order_run (a b c d m n : Int) (ha : -32768 ≤ a ∧ a ≤ 32767) (hb : -32768 ≤ b ∧ b ≤ 32767) (hc : -32768 ≤ c ∧ c ≤ 32767) (hd : -32768 ≤ d ∧ d ≤ 32767) (hm : -32768 ≤ m ∧ m ≤ 32767) (hn : -32768 ≤ n ∧ n ≤ 32767) :
    callsM C6 noZ 60 4 [.int .i16 a, .int .i16 b, .int .i16 c, .int .i16 d, .int .i16 m, .int .i16 n] = some (.bool true) := by
  have i {a b : Int} (h1 : -32768 ≤ a ∧ a ≤ 32767) (h2 : -32768 ≤ b ∧ b ≤ 32767) : in16 a b = true := by
    unfold in16; rw [leI_iff.2 h1.1, leI_iff.2 h1.2, leI_iff.2 h2.1, leI_iff.2 h2.2]; rfl
  rw [t4, gd_eq (i ha hb), gd_eq (i hc hd), gd_eq (i hm hn), sN_eq, sD_eq, sN_eq, sD_eq, sN_eq, sD_eq]
  exact ordT_eq (sq_bd a b ha) (sq_bd c d hc) (sq_bd m n hm)
end Go.Proofs.YtbblfgfaoolloaaDoor
