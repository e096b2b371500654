/- Chapter 1: fractions as rational numbers: the plain laws of sums, products, comparing, and of long division. -/
namespace Go.Proofs.YtbblfgfaoolloaaDoor

theorem rat_uniq {n : Int} {d : Nat} (hd : d ≠ 0) (hc : Nat.Coprime n.natAbs d) {n' : Int} {d' : Nat} (hd' : d' ≠ 0) (h : n * d' = n' * d) : (mkRat n' d').num = n ∧ (mkRat n' d').den = d := by
  have e : mkRat n' d' = mkRat n d := (Rat.mkRat_eq_iff hd' hd).2 h.symm
  rw [e, ← Rat.mk_eq_mkRat n d hd hc]
  exact ⟨rfl, rfl⟩
theorem cop_s {n1 n2 : Int} {b' d' : Nat} (h1 : Nat.Coprime n1.natAbs b') (h2 : Nat.Coprime b' d') : Nat.Coprime (n1 * d' + n2 * b').natAbs b' := by
  have hg1 := Nat.gcd_dvd_left (n1 * d' + n2 * b').natAbs b'
  have hg2 := Nat.gcd_dvd_right (n1 * d' + n2 * b').natAbs b'
  show Nat.gcd _ _ = 1
  generalize Nat.gcd (n1 * d' + n2 * b').natAbs b' = g at *
  have k1 : (g : Int) ∣ n1 * d' + n2 * b' := Int.ofNat_dvd_left.2 hg1
  have k2 : (g : Int) ∣ n2 * b' := Int.dvd_trans (Int.ofNat_dvd.2 hg2) (Int.dvd_mul_left _ _)
  have k3 : (g : Int) ∣ n1 * d' := (Int.dvd_add_left k2).1 k1
  have k4 : g ∣ n1.natAbs * d' := by
    have := Int.ofNat_dvd_left.1 k3
    rwa [Int.natAbs_mul, Int.natAbs_natCast] at this
  have c1 : Nat.Coprime g d' := Nat.Coprime.coprime_dvd_left hg2 h2
  have c2 : Nat.Coprime g n1.natAbs := Nat.Coprime.coprime_dvd_left hg2 h1.symm
  have k5 : g ∣ n1.natAbs := c1.dvd_of_dvd_mul_right k4
  exact (Nat.gcd_eq_left k5).symm.trans c2
/-- Knuth's rule for sums. -/
theorem knuth {n1 n2 : Int} {b d : Nat} (hb : 0 < b) (h1 : Nat.Coprime n1.natAbs b) (h2 : Nat.Coprime n2.natAbs d) :
    let c := Nat.gcd b d
    let s := n1 * (d / c : Nat) + n2 * (b / c : Nat)
    let a := Nat.gcd c s.natAbs
    Nat.Coprime (s.natAbs / a) (b / c * (d / a)) ∧ n1 * d + n2 * b = c * s ∧ d = a * (d / a) ∧ s.natAbs = a * (s.natAbs / a) ∧ b = c * (b / c) ∧ 0 < a ∧ 0 < c := by
  intro c s a
  have hc : 0 < c := Nat.gcd_pos_of_pos_left _ hb
  have ha : 0 < a := Nat.gcd_pos_of_pos_left _ hc
  obtain ⟨b', eb⟩ : c ∣ b := Nat.gcd_dvd_left b d
  obtain ⟨d', ed⟩ : c ∣ d := Nat.gcd_dvd_right b d
  obtain ⟨c', ec⟩ : a ∣ c := Nat.gcd_dvd_left c s.natAbs
  obtain ⟨s', es⟩ : a ∣ s.natAbs := Nat.gcd_dvd_right c s.natAbs
  have qb : b / c = b' := by rw [eb]; exact Nat.mul_div_cancel_left _ hc
  have qd : d / c = d' := by rw [ed]; exact Nat.mul_div_cancel_left _ hc
  have qs : s.natAbs / a = s' := by rw [es]; exact Nat.mul_div_cancel_left _ ha
  have qa : d / a = c' * d' := by
    rw [ed, ec, Nat.mul_assoc]; exact Nat.mul_div_cancel_left _ ha
  have cbd : Nat.Coprime b' d' := by rw [← qb, ← qd]; exact Nat.coprime_div_gcd_div_gcd hc
  have ccs : Nat.Coprime c' s' := by
    have q : Nat.Coprime (c / a) (s.natAbs / a) := Nat.coprime_div_gcd_div_gcd ha
    rw [qs] at q
    rw [show c / a = c' by rw [ec]; exact Nat.mul_div_cancel_left _ ha] at q
    exact q
  have es0 : s = n1 * d' + n2 * b' := by
    show n1 * (d / c : Nat) + n2 * (b / c : Nat) = _
    rw [qb, qd]
  have h1' : Nat.Coprime n1.natAbs b' := Nat.Coprime.coprime_dvd_right ⟨c, by rw [eb, Nat.mul_comm]⟩ h1
  have h2' : Nat.Coprime n2.natAbs d' := Nat.Coprime.coprime_dvd_right ⟨c, by rw [ed, Nat.mul_comm]⟩ h2
  have p1 : Nat.Coprime s.natAbs b' := by rw [es0]; exact cop_s h1' cbd
  have p2 : Nat.Coprime s.natAbs d' := by rw [es0, Int.add_comm]; exact cop_s h2' cbd.symm
  have d1 : s' ∣ s.natAbs := ⟨a, by rw [Nat.mul_comm]; exact es⟩
  have p1' := Nat.Coprime.coprime_dvd_left d1 p1
  have p2' := Nat.Coprime.coprime_dvd_left d1 p2
  refine ⟨?_, ?_, ?_, ?_, ?_, ha, hc⟩
  · rw [qs, qb, qa]
    exact p1'.mul_right (ccs.symm.mul_right p2')
  · rw [es0]
    have e1 : (b : Int) = c * b' := by exact_mod_cast eb
    have e2 : (d : Int) = c * d' := by exact_mod_cast ed
    rw [e1, e2, Int.mul_add]
    rw [Int.mul_left_comm n1, Int.mul_left_comm n2]
  · rw [qa]
    rw [← Nat.mul_assoc, ← ec]
    exact ed
  · rw [qs]; exact es
  · rw [qb]; exact eb
def most : Nat := 9223372036854775807
abbrev T3 := Int × Int × Int
def fitR (q : Rat) : T3 := bif Nat.ble q.den 9223372036854775807 && (decide (q.num ≤ 9223372036854775807) && decide (-9223372036854775808 ≤ q.num)) then (q.num, (q.den : Int), 0) else (0, 0, 3)
def sgn (neg : Bool) (N : Nat) : Int := bif neg then -(N : Int) else N
def fitN (neg : Bool) (N D : Nat) : T3 := bif Nat.ble D 9223372036854775807 && (Nat.ble N 9223372036854775807 || (neg && Nat.ble N 9223372036854775808)) then (sgn neg N, (D : Int), 0) else (0, 0, 3)
theorem sgn_abs (neg : Bool) (N : Nat) : (sgn neg N).natAbs = N := by unfold sgn; cases neg <;> simp
theorem sgn_self (n : Int) : sgn (decide (n < 0)) n.natAbs = n := by
  unfold sgn
  by_cases h : n < 0
  · rw [decide_eq_true h, cond_true]; omega
  · rw [decide_eq_false h, cond_false]; omega
theorem fitN_eq {q : Rat} {neg : Bool} {N D : Nat} (h1 : q.num = sgn neg N) (h2 : q.den = D) : fitN neg N D = fitR q := by
  unfold fitN fitR
  rw [h1, h2]
  have e : (Nat.ble N 9223372036854775807 || (neg && Nat.ble N 9223372036854775808)) = (decide (sgn neg N ≤ 9223372036854775807) && decide (-9223372036854775808 ≤ sgn neg N)) := by
    rw [Bool.eq_iff_iff]
    simp only [Bool.or_eq_true, Bool.and_eq_true, decide_eq_true_eq, Nat.ble_eq]
    unfold sgn
    cases neg
    · simp only [cond_false, Bool.false_eq_true, false_and, or_false]; omega
    · simp only [cond_true, true_and]; omega
  rw [e]
/-- A lowest fraction is what it should be. -/
theorem fitN_of {neg : Bool} {N D : Nat} (hD : D ≠ 0) (hc : Nat.Coprime N D) {n' : Int} {d' : Nat} (hd' : d' ≠ 0) (h : sgn neg N * d' = n' * D) : fitN neg N D = fitR (mkRat n' d') := by
  have := rat_uniq hD (n := sgn neg N) (by rw [sgn_abs]; exact hc) hd' h
  exact fitN_eq this.1 this.2

/-! ### Sums -/
def addP (neg other : Bool) (x y : Nat) : Bool × Nat := bif neg == other then (neg, x + y) else bif decide (x < y) then (other, y - x) else (neg, x - y)
theorem addP_eq (neg other : Bool) (x y : Nat) : sgn (addP neg other x y).1 (addP neg other x y).2 = sgn neg x + sgn other y := by
  unfold addP
  have q1 : (false == true) = false := rfl
  have q2 : (true == false) = false := rfl
  cases neg <;> cases other <;> simp only [sgn, beq_self_eq_true, cond_true, cond_false, q1, q2]
  · omega
  · by_cases h : x < y
    · rw [decide_eq_true h]; simp only [cond_true]; omega
    · rw [decide_eq_false h]; simp only [cond_false]; omega
  · by_cases h : x < y
    · rw [decide_eq_true h]; simp only [cond_true, cond_false]; omega
    · rw [decide_eq_false h]; simp only [cond_false, cond_true]; omega
  · omega
def addS (n1 : Int) (b : Nat) (n2 : Int) (d : Nat) (other : Bool) : Bool × Nat := addP (decide (n1 < 0)) other (n1.natAbs * (d / Nat.gcd b d)) (n2.natAbs * (b / Nat.gcd b d))
def addN (minus : Bool) (n1 : Int) (b : Nat) (n2 : Int) (d : Nat) : T3 :=
  let p := addS n1 b n2 d (decide (n2 < 0) != minus)
  bif Nat.beq p.2 0 then (0, 1, 0) else
    let a := Nat.gcd (Nat.gcd b d) (p.2 % Nat.gcd b d)
    fitN p.1 (p.2 / a) (b / Nat.gcd b d * (d / a))
theorem sgn_mul (neg : Bool) (x y : Nat) : sgn neg (x * y) = sgn neg x * y := by
  unfold sgn; cases neg <;> simp [Int.neg_mul]
theorem addN_pos (n1 : Int) (b : Nat) (n2 : Int) (d : Nat) (o : Bool) (hb : 0 < b) (hd : 0 < d) (h1 : Nat.Coprime n1.natAbs b) (n2' : Int) (e2 : n2' = sgn o n2.natAbs) (h2 : Nat.Coprime n2.natAbs d) :
    (bif Nat.beq (addS n1 b n2 d o).2 0 then (0, 1, 0) else fitN (addS n1 b n2 d o).1 ((addS n1 b n2 d o).2 / Nat.gcd (Nat.gcd b d) ((addS n1 b n2 d o).2 % Nat.gcd b d)) (b / Nat.gcd b d * (d / Nat.gcd (Nat.gcd b d) ((addS n1 b n2 d o).2 % Nat.gcd b d)))) = fitR (mkRat n1 b + mkRat n2' d) := by
  have hq := addP_eq (decide (n1 < 0)) o (n1.natAbs * (d / Nat.gcd b d)) (n2.natAbs * (b / Nat.gcd b d))
  rw [sgn_mul, sgn_mul, sgn_self, ← e2] at hq
  have hq' : sgn (addS n1 b n2 d o).1 (addS n1 b n2 d o).2 = n1 * (d / Nat.gcd b d : Nat) + n2' * (b / Nat.gcd b d : Nat) := hq
  generalize addS n1 b n2 d o = p at *
  obtain ⟨neg, S⟩ := p
  simp only at hq' ⊢
  have hS : S = (n1 * (d / Nat.gcd b d : Nat) + n2' * (b / Nat.gcd b d : Nat)).natAbs := by rw [← hq', sgn_abs]
  have h2' : Nat.Coprime n2'.natAbs d := by rw [e2, sgn_abs]; exact h2
  obtain ⟨k1, k2, k3, k4, k5, ka, kc⟩ := knuth hb h1 h2'
  rw [Rat.mkRat_add_mkRat _ _ (by omega) (by omega), k2]
  rw [← hS] at k1 k3 k4 ka
  rw [← hq']
  have hm : Nat.gcd (Nat.gcd b d) (S % Nat.gcd b d) = Nat.gcd (Nat.gcd b d) S := by rw [Nat.gcd_comm, ← Nat.gcd_rec]
  rw [hm]
  cases h0 : Nat.beq S 0
  · rw [cond_false]
    have hS0 : S ≠ 0 := by intro h; subst h; simp at h0
    generalize Nat.gcd (Nat.gcd b d) S = a at *
    generalize Nat.gcd b d = c at *
    refine fitN_of ?_ k1 ?_ ?_
    · have e1 : b / c ≠ 0 := by intro h; rw [h] at k5; omega
      have e2 : d / a ≠ 0 := by intro h; rw [h] at k3; omega
      exact Nat.mul_ne_zero e1 e2
    · exact Nat.mul_ne_zero (by omega) (by omega)
    · have q : b * d * (S / a) = c * S * (b / c * (d / a)) := by
        generalize b / c = b' at *
        generalize d / a = d' at *
        generalize S / a = s' at *
        subst k5 k3
        rw [k4]
        simp only [Nat.mul_comm, Nat.mul_left_comm]
      have e (x y : Nat) : (x : Int) * sgn neg y = sgn neg (x * y) := by rw [Nat.mul_comm, sgn_mul, Int.mul_comm]
      rw [e, ← sgn_mul, ← sgn_mul, Nat.mul_comm (S / a), q]
  · have hS0 : S = 0 := Nat.eq_of_beq_eq_true h0
    subst hS0
    have : sgn neg 0 = 0 := by unfold sgn; cases neg <;> rfl
    rw [this, Int.mul_zero, Rat.zero_mkRat]
    rfl
theorem addN_add (n1 : Int) (b : Nat) (n2 : Int) (d : Nat) (hb : 0 < b) (hd : 0 < d) (h1 : Nat.Coprime n1.natAbs b) (h2 : Nat.Coprime n2.natAbs d) : addN false n1 b n2 d = fitR (mkRat n1 b + mkRat n2 d) :=
  addN_pos n1 b n2 d _ hb hd h1 n2 (by rw [Bool.bne_false]; exact (sgn_self n2).symm) h2
theorem addN_sub (n1 : Int) (b : Nat) (n2 : Int) (d : Nat) (hb : 0 < b) (hd : 0 < d) (h1 : Nat.Coprime n1.natAbs b) (h2 : Nat.Coprime n2.natAbs d) : addN true n1 b n2 d = fitR (mkRat n1 b - mkRat n2 d) := by
  rw [Rat.sub_eq_add_neg, Rat.neg_mkRat]
  refine addN_pos n1 b n2 d _ hb hd h1 (-n2) ?_ h2
  rw [Bool.bne_true]
  by_cases h : n2 < 0
  · rw [decide_eq_true h]; show -n2 = ((n2.natAbs : Nat) : Int); omega
  · rw [decide_eq_false h]; show -n2 = -((n2.natAbs : Nat) : Int); omega

/-! ### Products -/
def prodN (neg : Bool) (a b c d : Nat) : T3 := bif Nat.beq a 0 || Nat.beq c 0 then (0, 1, 0) else fitN neg (a / Nat.gcd a d * (c / Nat.gcd c b)) (b / Nat.gcd c b * (d / Nat.gcd a d))
theorem prodN_eq (neg : Bool) (a b c d : Nat) (hb : 0 < b) (hd : 0 < d) (h1 : Nat.Coprime a b) (h2 : Nat.Coprime c d) : prodN neg a b c d = fitR (mkRat (sgn neg (a * c)) (b * d)) := by
  unfold prodN
  by_cases h0 : a = 0 ∨ c = 0
  · have e : (Nat.beq a 0 || Nat.beq c 0) = true := by
      rcases h0 with rfl | rfl <;> simp
    have e2 : a * c = 0 := by rcases h0 with rfl | rfl <;> simp
    have e3 : sgn neg 0 = 0 := by unfold sgn; cases neg <;> rfl
    rw [e, cond_true, e2, e3, Rat.zero_mkRat]; rfl
  · have ha : 0 < a := by omega
    have hc : 0 < c := by omega
    have e : (Nat.beq a 0 || Nat.beq c 0) = false := by
      cases h : (Nat.beq a 0 || Nat.beq c 0)
      · rfl
      · simp only [Bool.or_eq_true, Nat.beq_eq] at h; omega
    rw [e, cond_false]
    have hg : 0 < Nat.gcd a d := Nat.gcd_pos_of_pos_left _ ha
    have hh : 0 < Nat.gcd c b := Nat.gcd_pos_of_pos_left _ hc
    have c1 : Nat.Coprime (a / Nat.gcd a d) (d / Nat.gcd a d) := Nat.coprime_div_gcd_div_gcd hg
    have c2 : Nat.Coprime (c / Nat.gcd c b) (b / Nat.gcd c b) := Nat.coprime_div_gcd_div_gcd hh
    obtain ⟨a', ea⟩ : Nat.gcd a d ∣ a := Nat.gcd_dvd_left a d
    obtain ⟨d', ed⟩ : Nat.gcd a d ∣ d := Nat.gcd_dvd_right a d
    obtain ⟨c', ec⟩ : Nat.gcd c b ∣ c := Nat.gcd_dvd_left c b
    obtain ⟨b', eb⟩ : Nat.gcd c b ∣ b := Nat.gcd_dvd_right c b
    generalize Nat.gcd a d = g at *
    generalize Nat.gcd c b = h at *
    subst ea ed ec eb
    rw [Nat.mul_div_cancel_left _ hg, Nat.mul_div_cancel_left _ hg] at *
    rw [Nat.mul_div_cancel_left _ hh, Nat.mul_div_cancel_left _ hh] at *
    have c3 : Nat.Coprime a' b' := (h1.coprime_dvd_left ⟨g, Nat.mul_comm _ _⟩).coprime_dvd_right ⟨h, Nat.mul_comm _ _⟩
    have c4 : Nat.Coprime c' d' := (h2.coprime_dvd_left ⟨h, Nat.mul_comm _ _⟩).coprime_dvd_right ⟨g, Nat.mul_comm _ _⟩
    refine fitN_of ?_ ?_ ?_ ?_
    · intro e
      rcases Nat.mul_eq_zero.1 e with e | e
      · subst e; simp at hb
      · subst e; simp at hd
    · exact (c3.mul_right c1).mul_left (c2.mul_right c4)
    · exact Nat.mul_ne_zero (Nat.pos_iff_ne_zero.1 hb) (Nat.pos_iff_ne_zero.1 hd)
    · rw [← sgn_mul, ← sgn_mul]
      congr 1
      simp only [Nat.mul_comm, Nat.mul_left_comm]
theorem sgn_mul2 (o1 o2 : Bool) (x y : Nat) : sgn (o1 != o2) (x * y) = sgn o1 x * sgn o2 y := by
  unfold sgn
  cases o1 <;> cases o2 <;> simp [Int.neg_mul, Int.mul_neg]
theorem prodN_mul (n1 : Int) (b : Nat) (n2 : Int) (d : Nat) (hb : 0 < b) (hd : 0 < d) (h1 : Nat.Coprime n1.natAbs b) (h2 : Nat.Coprime n2.natAbs d) : prodN (decide (n1 < 0) != decide (n2 < 0)) n1.natAbs b n2.natAbs d = fitR (mkRat n1 b * mkRat n2 d) := by
  rw [prodN_eq _ _ _ _ _ hb hd h1 h2, sgn_mul2, sgn_self, sgn_self, Rat.mkRat_mul_mkRat]
theorem prodN_div (n1 : Int) (b : Nat) (n2 : Int) (d : Nat) (hb : 0 < b) (hd : 0 < d) (h1 : Nat.Coprime n1.natAbs b) (h2 : Nat.Coprime n2.natAbs d) (h0 : n2 ≠ 0) : prodN (decide (n1 < 0) != decide (n2 < 0)) n1.natAbs b d n2.natAbs = fitR (mkRat n1 b / mkRat n2 d) := by
  have h2p : 0 < n2.natAbs := by omega
  rw [prodN_eq _ _ _ _ _ hb h2p h1 h2.symm]
  congr 1
  have hz : mkRat n2 d ≠ 0 := by
    intro h
    exact h0 ((Rat.mkRat_eq_zero (by omega)).1 h)
  have e : mkRat (sgn (decide (n1 < 0) != decide (n2 < 0)) (n1.natAbs * d)) (b * n2.natAbs) * mkRat n2 d = mkRat n1 b := by
    rw [Rat.mkRat_mul_mkRat, Rat.mkRat_eq_iff (Nat.mul_ne_zero (Nat.mul_ne_zero (by omega) (by omega)) (by omega)) (by omega)]
    have q : sgn (decide (n1 < 0) != decide (n2 < 0)) (n1.natAbs * d) * n2 = n1 * (d * n2.natAbs : Nat) := by
      have s1 := sgn_mul2 (decide (n1 < 0)) (decide (n2 < 0)) (n1.natAbs) d
      rw [s1]
      have s2 : sgn (decide (n2 < 0)) d * n2 = (d * n2.natAbs : Nat) := by
        by_cases h : n2 < 0
        · rw [decide_eq_true h]
          have : n2 = -((n2.natAbs : Nat) : Int) := by omega
          show -(d : Int) * n2 = _
          rw [Int.natCast_mul]
          generalize n2.natAbs = z at *
          subst this
          rw [Int.neg_mul_neg]
        · rw [decide_eq_false h]
          have : n2 = ((n2.natAbs : Nat) : Int) := by omega
          show (d : Int) * n2 = _
          rw [Int.natCast_mul]
          generalize n2.natAbs = z at *
          subst this
          rfl
      rw [sgn_self, Int.mul_assoc, s2]
    rw [q]
    simp only [Int.natCast_mul]
    simp only [Int.mul_comm, Int.mul_left_comm]
  grind
/-- Is it a right fraction? -/
def rtN (n d : Int) : Bool := decide (0 < d) && Nat.beq (Nat.gcd n.natAbs d.toNat) 1
theorem rtN_iff (n d : Int) : rtN n d = true ↔ 0 < d ∧ Nat.Coprime n.natAbs d.toNat := by
  unfold rtN
  rw [Bool.and_eq_true, decide_eq_true_eq, Nat.beq_eq]
abbrev toQ (n d : Int) : Rat := mkRat n d.toNat
theorem toQ_eq {n d : Int} (h : rtN n d = true) : (toQ n d).num = n ∧ ((toQ n d).den : Int) = d := by
  obtain ⟨h1, h2⟩ := (rtN_iff n d).1 h
  have := rat_uniq (n := n) (d := d.toNat) (by omega) h2 (n' := n) (d' := d.toNat) (by omega) rfl
  exact ⟨this.1, by rw [this.2]; omega⟩
theorem rtN_rat (q : Rat) : rtN q.num q.den = true := (rtN_iff _ _).2 ⟨by have := q.den_pos; omega, by rw [Int.toNat_natCast]; exact q.reduced⟩
theorem toQ_rat (q : Rat) : toQ q.num q.den = q := by
  show mkRat q.num (q.den : Int).toNat = q
  rw [Int.toNat_natCast, Rat.mkRat_self]
def makeN (n d : Int) : T3 := fitN (decide (n ≠ 0) && (decide (n < 0) != decide (d < 0))) (n.natAbs / Nat.gcd n.natAbs d.natAbs) (d.natAbs / Nat.gcd n.natAbs d.natAbs)
theorem makeN_eq (n d : Int) (hd : d ≠ 0) : makeN n d = fitR (mkRat (sgn (decide (d < 0)) 1 * n) d.natAbs) := by
  unfold makeN
  have hg : 0 < Nat.gcd n.natAbs d.natAbs := Nat.gcd_pos_of_pos_right _ (by omega)
  have c := Nat.coprime_div_gcd_div_gcd hg
  obtain ⟨a, ea⟩ := Nat.gcd_dvd_left n.natAbs d.natAbs
  obtain ⟨b, eb⟩ := Nat.gcd_dvd_right n.natAbs d.natAbs
  have es : sgn (decide (n ≠ 0) && (decide (n < 0) != decide (d < 0))) n.natAbs = sgn (decide (d < 0)) 1 * n := by
    unfold sgn
    by_cases h : n < 0
    · rw [decide_eq_true h, decide_eq_true (show n ≠ 0 by omega)]
      by_cases h2 : d < 0
      · rw [decide_eq_true h2]; simp only [bne_self_eq_false, Bool.and_false, cond_false, cond_true]; omega
      · rw [decide_eq_false h2]; simp only [Bool.bne_false, Bool.and_self, cond_false, cond_true]; omega
    · rw [decide_eq_false h]
      by_cases h2 : d < 0
      · rw [decide_eq_true h2]
        by_cases h3 : n = 0
        · subst h3; rfl
        · rw [decide_eq_true (show n ≠ 0 from h3)]; simp only [Bool.bne_true, Bool.not_false, Bool.and_self, cond_true]; omega
      · rw [decide_eq_false h2]; simp only [bne_self_eq_false, Bool.and_false, cond_false]; omega
  rw [← es]
  generalize (decide (n ≠ 0) && (decide (n < 0) != decide (d < 0))) = neg
  have hd0 : d.natAbs ≠ 0 := by omega
  generalize n.natAbs = N at *
  generalize d.natAbs = D at *
  generalize Nat.gcd N D = g at *
  subst ea eb
  rw [Nat.mul_div_cancel_left _ hg, Nat.mul_div_cancel_left _ hg] at *
  refine fitN_of ?_ c hd0 ?_
  · intro h; subst h; simp at hd0
  · rw [← sgn_mul, ← sgn_mul]
    congr 1
    simp only [Nat.mul_comm, Nat.mul_left_comm]
theorem negN_eq (n d : Int) (h : rtN n d = true) : fitN (decide (n > 0)) n.natAbs d.toNat = fitR (-(toQ n d)) := by
  obtain ⟨h1, h2⟩ := (rtN_iff n d).1 h
  rw [Rat.neg_mkRat]
  refine fitN_of (by omega) h2 (by omega) ?_
  congr 1
  unfold sgn
  by_cases h : n > 0
  · rw [decide_eq_true h, cond_true]; omega
  · rw [decide_eq_false h, cond_false]; omega
def cmpNat (x y : Nat) : Int := bif decide (x < y) then -1 else bif decide (y < x) then 1 else 0
def cmpN (n1 : Int) (b : Nat) (n2 : Int) (d : Nat) : Int := bif decide (n1 < 0) != decide (n2 < 0) then (bif decide (n1 < 0) then -1 else 1) else (bif decide (n1 < 0) then -(cmpNat (n1.natAbs * d) (n2.natAbs * b)) else cmpNat (n1.natAbs * d) (n2.natAbs * b))
def cmpQ (p q : Rat) : Int := bif decide (p < q) then -1 else bif decide (q < p) then 1 else 0
def cmpI2 (x y : Int) : Int := bif decide (x < y) then -1 else bif decide (y < x) then 1 else 0
theorem cmpN_int (n1 : Int) (b : Nat) (n2 : Int) (d : Nat) (hb : 0 < b) (hd : 0 < d) : cmpN n1 b n2 d = cmpI2 (n1 * d) (n2 * b) := by
  have pos (n : Int) (k : Nat) (hn : ¬ n < 0) : n * k = ((n.natAbs * k : Nat) : Int) := by
    have : n = ((n.natAbs : Nat) : Int) := by omega
    rw [Int.natCast_mul, ← this]
  have neg (n : Int) (k : Nat) (hn : n < 0) : n * k = -((n.natAbs * k : Nat) : Int) := by
    have : n = -((n.natAbs : Nat) : Int) := by omega
    rw [Int.natCast_mul, ← Int.neg_mul, ← this]
  have h0 (x k : Nat) (hx : 0 < x) (hk : 0 < k) : 0 < x * k := Nat.mul_pos hx hk
  unfold cmpN cmpI2 cmpNat
  by_cases h1 : n1 < 0
  · rw [decide_eq_true h1, neg n1 d h1]
    have a1 := h0 n1.natAbs d (by omega) hd
    by_cases h2 : n2 < 0
    · rw [decide_eq_true h2, neg n2 b h2]
      generalize n1.natAbs * d = x at *
      generalize n2.natAbs * b = y at *
      simp only [bne_self_eq_false, cond_true, cond_false]
      rcases Nat.lt_trichotomy x y with h | h | h
      · rw [decide_eq_true h, decide_eq_false (by omega : ¬ -(x : Int) < -(y : Int)), decide_eq_true (by omega : -(y : Int) < -(x : Int))]; rfl
      · subst h; rw [decide_eq_false (Nat.lt_irrefl _), decide_eq_false (Int.lt_irrefl _)]; rfl
      · rw [decide_eq_false (by omega : ¬ x < y), decide_eq_true h, decide_eq_true (by omega : -(x : Int) < -(y : Int))]; rfl
    · rw [decide_eq_false h2, pos n2 b h2]
      generalize n1.natAbs * d = x at *
      generalize n2.natAbs * b = y at *
      rw [decide_eq_true (by omega : -(x : Int) < (y : Int))]; rfl
  · rw [decide_eq_false h1, pos n1 d h1]
    by_cases h2 : n2 < 0
    · rw [decide_eq_true h2, neg n2 b h2]
      have a1 := h0 n2.natAbs b (by omega) hb
      generalize n1.natAbs * d = x at *
      generalize n2.natAbs * b = y at *
      rw [decide_eq_false (by omega : ¬ (x : Int) < -(y : Int)), decide_eq_true (by omega : -(y : Int) < (x : Int))]; rfl
    · rw [decide_eq_false h2, pos n2 b h2]
      generalize n1.natAbs * d = x at *
      generalize n2.natAbs * b = y at *
      simp only [bne_self_eq_false, cond_false]
      have e1 : decide (x < y) = decide ((x : Int) < y) := decide_eq_decide.2 (by omega)
      have e2 : decide (y < x) = decide ((y : Int) < x) := decide_eq_decide.2 (by omega)
      rw [e1, e2]
theorem cmpN_eq {n1 d1 n2 d2 : Int} (h1 : rtN n1 d1 = true) (h2 : rtN n2 d2 = true) : cmpN n1 d1.toNat n2 d2.toNat = cmpQ (toQ n1 d1) (toQ n2 d2) := by
  obtain ⟨a1, a2⟩ := toQ_eq h1
  obtain ⟨b1, b2⟩ := toQ_eq h2
  have p1 := ((rtN_iff _ _).1 h1).1
  have p2 := ((rtN_iff _ _).1 h2).1
  rw [cmpN_int _ _ _ _ (by omega) (by omega)]
  have l1 := Rat.lt_iff (toQ n1 d1) (toQ n2 d2)
  have l2 := Rat.lt_iff (toQ n2 d2) (toQ n1 d1)
  rw [a1, a2, b1, b2] at l1 l2
  have q1 : ((d1.toNat : Nat) : Int) = d1 := by omega
  have q2 : ((d2.toNat : Nat) : Int) = d2 := by omega
  unfold cmpI2 cmpQ
  rw [q1, q2, decide_eq_decide.2 l1, decide_eq_decide.2 l2]
/-! ### Bounds -/
def bdQ (q : Rat) (N D : Nat) : Prop := q.num.natAbs ≤ N ∧ q.den ≤ D
theorem bd_mk {n : Int} {d N D : Nat} (hd : d ≠ 0) (h1 : n.natAbs ≤ N) (h2 : d ≤ D) : bdQ (mkRat n d) N D := by
  obtain ⟨m, hm, e1, e2⟩ := Rat.mkRat_num_den (n' := (mkRat n d).num) (d' := (mkRat n d).den) (z' := (mkRat n d).den_nz) (c := (mkRat n d).reduced) hd rfl
  refine ⟨?_, ?_⟩
  · refine Nat.le_trans ?_ h1
    rw [show n.natAbs = (mkRat n d).num.natAbs * m by rw [← Int.natAbs_natCast m, ← Int.natAbs_mul, ← e1]]
    exact Nat.le_mul_of_pos_right _ (by omega)
  · refine Nat.le_trans ?_ h2
    generalize (mkRat n d).den = x at *
    rw [e2]
    exact Nat.le_mul_of_pos_right _ (by omega)
theorem bd_add {p q : Rat} {N1 D1 N2 D2 : Nat} (h1 : bdQ p N1 D1) (h2 : bdQ q N2 D2) : bdQ (p + q) (N1 * D2 + N2 * D1) (D1 * D2) := by
  rw [← Rat.mkRat_self p, ← Rat.mkRat_self q, Rat.mkRat_add_mkRat _ _ p.den_nz q.den_nz]
  refine bd_mk (Nat.mul_ne_zero p.den_nz q.den_nz) ?_ (Nat.mul_le_mul h1.2 h2.2)
  refine Nat.le_trans (Int.natAbs_add_le _ _) ?_
  rw [Int.natAbs_mul, Int.natAbs_mul, Int.natAbs_natCast, Int.natAbs_natCast]
  exact Nat.add_le_add (Nat.mul_le_mul h1.1 h2.2) (Nat.mul_le_mul h2.1 h1.2)
theorem bd_neg {p : Rat} {N D : Nat} (h : bdQ p N D) : bdQ (-p) N D := ⟨by rw [Rat.neg_num, Int.natAbs_neg]; exact h.1, by rw [Rat.neg_den]; exact h.2⟩
theorem bd_sub {p q : Rat} {N1 D1 N2 D2 : Nat} (h1 : bdQ p N1 D1) (h2 : bdQ q N2 D2) : bdQ (p - q) (N1 * D2 + N2 * D1) (D1 * D2) := by
  rw [Rat.sub_eq_add_neg]; exact bd_add h1 (bd_neg h2)
theorem bd_mul {p q : Rat} {N1 D1 N2 D2 : Nat} (h1 : bdQ p N1 D1) (h2 : bdQ q N2 D2) : bdQ (p * q) (N1 * N2) (D1 * D2) := by
  rw [← Rat.mkRat_self p, ← Rat.mkRat_self q, Rat.mkRat_mul_mkRat]
  refine bd_mk (Nat.mul_ne_zero p.den_nz q.den_nz) ?_ (Nat.mul_le_mul h1.2 h2.2)
  rw [Int.natAbs_mul]
  exact Nat.mul_le_mul h1.1 h2.1
theorem fitR_bd {q : Rat} (h : bdQ q 9223372036854775807 9223372036854775807) : fitR q = (q.num, (q.den : Int), 0) := by
  obtain ⟨h1, h2⟩ := h
  unfold fitR
  rw [Nat.ble_eq_true_of_le h2, decide_eq_true (by omega), decide_eq_true (by omega)]
  rfl
/-! ### Long division, bit by bit -/
def ovV (r0 x k : Nat) : Nat := r0 * 2 ^ (64 - k) + x / 2 ^ k
def ovR (r0 x d k : Nat) : Nat := ovV r0 x k % d
def ovQ (r0 x d k : Nat) : Nat := ovV r0 x k / d * 2 ^ k
theorem ovV_step (r0 x k : Nat) (hk : k < 64) : ovV r0 x k = 2 * ovV r0 x (k + 1) + x / 2 ^ k % 2 := by
  unfold ovV
  have e1 : 64 - k = 64 - (k + 1) + 1 := by omega
  rw [e1, Nat.pow_succ, Nat.pow_succ, ← Nat.div_div_eq_div_mul, ← Nat.mul_assoc]
  generalize r0 * 2 ^ (64 - (k + 1)) = a
  generalize x / 2 ^ k = b
  omega
theorem div_two (V d t : Nat) (hd : 0 < d) (ht : t < 2) : (2 * V + t) % d = (bif Nat.ble d (2 * (V % d) + t) then 2 * (V % d) + t - d else 2 * (V % d) + t) ∧ (2 * V + t) / d = 2 * (V / d) + (bif Nat.ble d (2 * (V % d) + t) then 1 else 0) := by
  have e := Nat.div_add_mod V d
  have hr : V % d < d := Nat.mod_lt _ hd
  generalize V % d = r at *
  generalize V / d = q at *
  subst e
  have e2 : 2 * (d * q + r) + t = (2 * r + t) + d * (2 * q) := by
    rw [Nat.mul_add, Nat.mul_left_comm]; omega
  rw [e2, Nat.add_mul_mod_self_left, Nat.add_mul_div_left _ _ hd]
  cases h : Nat.ble d (2 * r + t)
  · have : ¬ d ≤ 2 * r + t := by
      intro h2; rw [Nat.ble_eq_true_of_le h2] at h; cases h
    rw [Nat.mod_eq_of_lt (by omega), Nat.div_eq_of_lt (by omega)]
    exact ⟨rfl, by simp⟩
  · have h2 := Nat.le_of_ble_eq_true h
    have e3 : 2 * r + t = (2 * r + t - d) + d * 1 := by omega
    rw [e3, Nat.add_mul_mod_self_left, Nat.add_mul_div_left _ _ hd, Nat.mod_eq_of_lt (by omega), Nat.div_eq_of_lt (by omega)]
    refine ⟨?_, ?_⟩
    · show _ = 2 * r + t - d + d * 1 - d; omega
    · show 0 + 1 + 2 * q = 2 * q + 1; omega
theorem ovR_step (r0 x d k : Nat) (hk : k < 64) (hd : 0 < d) : ovR r0 x d k = (bif Nat.ble d (2 * ovR r0 x d (k + 1) + x / 2 ^ k % 2) then 2 * ovR r0 x d (k + 1) + x / 2 ^ k % 2 - d else 2 * ovR r0 x d (k + 1) + x / 2 ^ k % 2) := by
  unfold ovR
  rw [ovV_step r0 x k hk]
  exact (div_two _ d _ hd (by omega)).1
theorem ovQ_step (r0 x d k : Nat) (hk : k < 64) (hd : 0 < d) : ovQ r0 x d k = ovQ r0 x d (k + 1) + (bif Nat.ble d (2 * ovR r0 x d (k + 1) + x / 2 ^ k % 2) then 2 ^ k else 0) := by
  unfold ovQ ovR
  rw [ovV_step r0 x k hk, (div_two _ d _ hd (by omega)).2]
  rw [Nat.pow_succ, Nat.add_mul]
  congr 1
  · rw [Nat.mul_comm 2, Nat.mul_assoc, Nat.mul_comm 2]
  · cases Nat.ble d (2 * (ovV r0 x (k + 1) % d) + x / 2 ^ k % 2) <;> simp
theorem ovR_lt (r0 x d k : Nat) (hd : 0 < d) : ovR r0 x d k < d := Nat.mod_lt _ hd
/-- A bit that is not there yet. -/
theorem or_bit (z k : Nat) : z * 2 ^ (k + 1) ||| 2 ^ k = z * 2 ^ (k + 1) + 2 ^ k := by
  rw [Nat.mul_comm, ← Nat.two_pow_add_eq_or_of_lt (Nat.pow_lt_pow_right (by omega) (by omega))]
theorem ov_fin (hi lo d : Nat) (hd : 0 < d) (hl : lo < 2 ^ 64) : ovQ 0 hi d 0 * 2 ^ 64 + ovQ (ovR 0 hi d 0) lo d 0 = (hi * 2 ^ 64 + lo) / d ∧ ovR (ovR 0 hi d 0) lo d 0 = (hi * 2 ^ 64 + lo) % d ∧ ovQ (ovR 0 hi d 0) lo d 0 < 2 ^ 64 := by
  have e0 : ovV 0 hi 0 = hi := by unfold ovV; simp
  have e1 : ovQ 0 hi d 0 = hi / d := by unfold ovQ; rw [e0]; simp
  have e2 : ovR 0 hi d 0 = hi % d := by unfold ovR; rw [e0]
  rw [e1, e2]
  have e3 : ovV (hi % d) lo 0 = hi % d * 2 ^ 64 + lo := by unfold ovV; simp
  unfold ovQ ovR
  rw [e3]
  have e := Nat.div_add_mod hi d
  have hr : hi % d < d := Nat.mod_lt _ hd
  generalize hi % d = r at *
  generalize hi / d = q at *
  subst e
  have e4 : (d * q + r) * 2 ^ 64 + lo = (r * 2 ^ 64 + lo) + d * (q * 2 ^ 64) := by
    rw [Nat.add_mul, Nat.mul_assoc]; omega
  rw [e4, Nat.add_mul_mod_self_left, Nat.add_mul_div_left _ _ hd]
  refine ⟨by rw [Nat.pow_zero, Nat.mul_one]; exact Nat.add_comm _ _, rfl, ?_⟩
  rw [Nat.pow_zero, Nat.mul_one, Nat.div_lt_iff_lt_mul hd]
  have : (r + 1) * 2 ^ 64 ≤ d * 2 ^ 64 := Nat.mul_le_mul_right _ hr
  omega
/-! ### Products of two words -/
theorem times_law (a b : Nat) (ha : a < 2 ^ 64) (hb : b < 2 ^ 64) :
    let p := (a % 2 ^ 32) * (b % 2 ^ 32)
    let q := (a % 2 ^ 32) * (b / 2 ^ 32)
    let r := (a / 2 ^ 32) * (b % 2 ^ 32)
    let s := (a / 2 ^ 32) * (b / 2 ^ 32)
    let mid := p / 2 ^ 32 + q % 2 ^ 32 + r % 2 ^ 32
    p < 2 ^ 64 ∧ q < 2 ^ 64 ∧ r < 2 ^ 64 ∧ s < 2 ^ 64 ∧ mid < 3 * 2 ^ 32 ∧ s + q / 2 ^ 32 + r / 2 ^ 32 + mid / 2 ^ 32 < 2 ^ 64 ∧ p % 2 ^ 32 + mid % 2 ^ 32 * 2 ^ 32 = a * b % 2 ^ 64 ∧ s + q / 2 ^ 32 + r / 2 ^ 32 + mid / 2 ^ 32 = a * b / 2 ^ 64 := by
  intro p q r s mid
  have ab : a * b < 2 ^ 64 * 2 ^ 64 := Nat.mul_lt_mul'' ha hb
  have ea := Nat.div_add_mod a (2 ^ 32)
  have eb := Nat.div_add_mod b (2 ^ 32)
  have la : a % 2 ^ 32 < 2 ^ 32 := Nat.mod_lt _ (by decide)
  have lb : b % 2 ^ 32 < 2 ^ 32 := Nat.mod_lt _ (by decide)
  have ha2 : a / 2 ^ 32 < 2 ^ 32 := by omega
  have hb2 : b / 2 ^ 32 < 2 ^ 32 := by omega
  have e : a * b = s * 2 ^ 64 + (q + r) * 2 ^ 32 + p := by
    show a * b = (a / 2 ^ 32) * (b / 2 ^ 32) * 2 ^ 64 + ((a % 2 ^ 32) * (b / 2 ^ 32) + (a / 2 ^ 32) * (b % 2 ^ 32)) * 2 ^ 32 + (a % 2 ^ 32) * (b % 2 ^ 32)
    generalize a / 2 ^ 32 = a1 at *
    generalize a % 2 ^ 32 = a0 at *
    generalize b / 2 ^ 32 = b1 at *
    generalize b % 2 ^ 32 = b0 at *
    subst ea eb
    grind
  have hp : p < 2 ^ 32 * 2 ^ 32 := Nat.mul_lt_mul'' la lb
  have hq : q < 2 ^ 32 * 2 ^ 32 := Nat.mul_lt_mul'' la hb2
  have hr : r < 2 ^ 32 * 2 ^ 32 := Nat.mul_lt_mul'' ha2 lb
  have hs : s < 2 ^ 32 * 2 ^ 32 := Nat.mul_lt_mul'' ha2 hb2
  have em : mid = p / 2 ^ 32 + q % 2 ^ 32 + r % 2 ^ 32 := rfl
  generalize mid = m at *
  generalize p = p at *
  generalize q = q at *
  generalize r = r at *
  generalize s = s at *
  generalize a * b = x at *
  omega
end Go.Proofs.YtbblfgfaoolloaaDoor
