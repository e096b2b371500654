/- Chapter 1: FracBack is true. -/
import Derived.Test.YtbblfgfaoolloaaDoorBk4
namespace Go.Proofs.YtbblfgfaoolloaaDoor
open Go Go.Ev Go.Ev.Bits

noncomputable def xS (x : List UInt8) (k : Option AV) : Option AV := gd (Nat.ble x.length 1000000) (bif shut (rdF x).2.2 != 10 then some (.bool false) else k)
def bl (n : Nat) (k : Option AV) : Option AV := gd (Nat.ble n 9223372036854775807) k
noncomputable def bkT (fn fd gn gd' : Int) (S T : List UInt8) : Option AV :=
  gd (u2k fn fd) (gd (u2k gn gd') (gd (Nat.ble S.length 1000000) (
  bif IntKind.i64.wrap (IntKind.i64.wrap (shut (er fn fd) + shut (er gn gd')) + shut (rdF S).2.2) != 0 then some (.bool false) else
  bif !(shut (rdF S).1 == fn && (shut (rdF S).2.1 == fd && true)) then some (.bool false) else
  bif !((S == T) == (fn == gn && (fd == gd' && true))) then some (.bool false) else
  bl (1 + S.length) (bl (1 + S.length) (bl (1 + S.length) (bl (S.length + 2) (bl (S.length + 1) (bl (S.length + 1) (
  xS ([48] ++ S) (xS ([32] ++ S) (xS ([43] ++ S) (xS (S ++ [47, 49]) (xS (S ++ [32]) (xS (S ++ [47]) (some (.bool true)))))))))))))))) 
noncomputable def t5R (a b c d : Int) : Option AV := gd (u2k a b) (gd (u2k c d) (bif shut (mkF a b).2.2 != 0 then some (.bool true) else bif shut (mkF c d).2.2 != 0 then some (.bool true) else
  bkT (shut (mkF a b).1) (shut (mkF a b).2.1) (shut (mkF c d).1) (shut (mkF c d).2.1) (shut (tx (shut (mkF a b).1) (shut (mkF a b).2.1))) (shut (tx (shut (mkF c d).1) (shut (mkF c d).2.1)))))
theorem t5 (a b c d : Int) : callsM CQ noZ 60 5 [.int .i64 a, .int .i64 b, .int .i64 c, .int .i64 d] = t5R a b c d := by kernel_rfl
theorem mkF_r (a b : Int) : (mkF a b).2.2 ≠ 0 ∨ (rtN (mkF a b).1 (mkF a b).2.1 = true ∧ (-9223372036854775808 ≤ (mkF a b).1 ∧ (mkF a b).1 ≤ 9223372036854775807) ∧ (mkF a b).2.1 ≤ 9223372036854775807) := by
  unfold mkF
  by_cases h : b = 0
  · subst h
    refine .inl ?_
    show (2 : Int) ≠ 0
    decide
  · rw [show (b == 0) = false from by simpa using h, cond_false, makeN_eq a b h]
    generalize mkRat (sgn (decide (b < 0)) 1 * a) b.natAbs = q
    unfold fitR
    cases hc : (Nat.ble q.den 9223372036854775807 && (decide (q.num ≤ 9223372036854775807) && decide (-9223372036854775808 ≤ q.num)))
    · exact .inl (show (3 : Int) ≠ 0 by decide)
    · simp only [Bool.and_eq_true, decide_eq_true_eq] at hc
      have := Nat.le_of_ble_eq_true hc.1
      exact .inr ⟨rtN_rat q, ⟨hc.2.2, hc.2.1⟩, by show (q.den : Int) ≤ _; omega⟩
theorem rdF_no' {s : List UInt8} (h : ∀ a b, rtN a b = true → b ≤ 9223372036854775807 → txt a b ≠ s) : rdF s = (0, 0, 10) := by
  rw [rdF_X]
  unfold rdX
  generalize (spl s).1 = x
  generalize (spl s).2.getD [49] = y
  cases okA x && okA y
  · rfl
  · rw [cond_true]
    cases hr : rtN (vA x) (vA y)
    · rfl
    · have : (txt (vA x) (vA y) == s) = false := by simpa using h _ _ hr (vA_rng y).2
      rw [this]; rfl
theorem xS_eq {x : List UInt8} (hl : x.length ≤ 1000000) (h : rdF x = (0, 0, 10)) (k : Option AV) : xS x k = k := by
  unfold xS
  rw [gd_eq (Nat.ble_eq_true_of_le hl), shut_eq, h]
  rfl
theorem txt_eq_iff {n d n' d' : Int} (h1 : rtN n d = true) (h2 : rtN n' d' = true) (hn : -9223372036854775808 ≤ n ∧ n ≤ 9223372036854775807) (hd : d ≤ 9223372036854775807) (hn' : -9223372036854775808 ≤ n' ∧ n' ≤ 9223372036854775807) (hd' : d' ≤ 9223372036854775807) :
    (txt n d == txt n' d') = (n == n' && (d == d' && true)) := by
  rw [Bool.eq_iff_iff]
  simp only [Bool.and_eq_true, beq_iff_eq, and_true]
  constructor
  · intro e
    have e1 := rdF_txt h1 hn hd
    have e2 := rdF_txt h2 hn' hd'
    rw [e, e2] at e1
    exact ⟨(congrArg Prod.fst e1).symm, (congrArg (fun x => x.2.1) e1).symm⟩
  · rintro ⟨rfl, rfl⟩; rfl
theorem bl_eq {n : Nat} (h : n ≤ 1000000) (k : Option AV) : bl n k = k := gd_eq (Nat.ble_eq_true_of_le (by omega)) k
theorem bkT_eq {n d n' d' : Int} (h1 : rtN n d = true) (h2 : rtN n' d' = true) (hn : -9223372036854775808 ≤ n ∧ n ≤ 9223372036854775807) (hd : d ≤ 9223372036854775807) (hn' : -9223372036854775808 ≤ n' ∧ n' ≤ 9223372036854775807) (hd' : d' ≤ 9223372036854775807) :
    bkT n d n' d' (tx n d) (tx n' d') = some (.bool true) := by
  have p1 := ((rtN_iff _ _).1 h1).1
  have p2 := ((rtN_iff _ _).1 h2).1
  have t1 : tx n d = txt n d := by unfold tx; rw [h1]; rfl
  have t2 : tx n' d' = txt n' d' := by unfold tx; rw [h2]; rfl
  have c1 : er n d = 0 := by unfold er; rw [h1]; rfl
  have c2 : er n' d' = 0 := by unfold er; rw [h2]; rfl
  have l1 := tx_len hn (d := d) ⟨by omega, hd⟩
  have rd := rdF_txt h1 hn hd
  have eq := txt_eq_iff h1 h2 hn hd hn' hd'
  have x1 : rdF ([48] ++ txt n d) = (0, 0, 10) := rdF_no fun a b hr => no_zero (txt n d) (by obtain ⟨c, r, e, _⟩ := txt_head n d; rw [e]; simp) a b hr
  have x2 : rdF ([32] ++ txt n d) = (0, 0, 10) := rdF_no fun a b _ => no_head 32 (txt n d) (by unfold isDg; decide) a b
  have x3 : rdF ([43] ++ txt n d) = (0, 0, 10) := rdF_no fun a b _ => no_head 43 (txt n d) (by unfold isDg; decide) a b
  have x4 : rdF (txt n d ++ [47, 49]) = (0, 0, 10) := rdF_no' fun a b _ hb => no_tail n d [49] a b hb (.inr rfl)
  have x5 : rdF (txt n d ++ [32]) = (0, 0, 10) := rdF_no fun a b _ => no_blank (txt n d) a b
  have x6 : rdF (txt n d ++ [47]) = (0, 0, 10) := rdF_no' fun a b _ hb => no_tail n d [] a b hb (.inl rfl)
  unfold bkT
  rw [t1, t2, c1, c2, rd, eq]
  simp only [shut_eq]
  generalize txt n d = S at *
  rw [gd_eq (u2k_ok' (i64k_iff.2 hn) (i64k_iff.2 ⟨by omega, hd⟩)), gd_eq (u2k_ok' (i64k_iff.2 hn') (i64k_iff.2 ⟨by omega, hd'⟩)), gd_eq (Nat.ble_eq_true_of_le (by omega))]
  rw [show (IntKind.i64.wrap (IntKind.i64.wrap (0 + 0) + 0) != 0) = false from rfl, cond_false, beq_self_eq_true, beq_self_eq_true, beq_self_eq_true]
  rw [bl_eq (by omega), bl_eq (by omega), bl_eq (by omega), bl_eq (by omega), bl_eq (by omega), bl_eq (by omega)]
  rw [xS_eq (by simp; omega) x1, xS_eq (by simp; omega) x2, xS_eq (by simp; omega) x3, xS_eq (by simp; omega) x4, xS_eq (by simp; omega) x5, xS_eq (by simp; omega) x6]
  rfl
/-- FracBack is true. -/
theorem back_run (a b c d : Int) (ha : -9223372036854775808 ≤ a ∧ a ≤ 9223372036854775807) (hb : -9223372036854775808 ≤ b ∧ b ≤ 9223372036854775807) (hc : -9223372036854775808 ≤ c ∧ c ≤ 9223372036854775807) (hd : -9223372036854775808 ≤ d ∧ d ≤ 9223372036854775807) :
    callsM CQ noZ 60 5 [.int .i64 a, .int .i64 b, .int .i64 c, .int .i64 d] = some (.bool true) := by
  rw [t5]
  unfold t5R
  rw [gd_eq (u2k_ok' (i64k_iff.2 ha) (i64k_iff.2 hb)), gd_eq (u2k_ok' (i64k_iff.2 hc) (i64k_iff.2 hd))]
  simp only [shut_eq]
  rcases mkF_r a b with h | ⟨r1, n1, d1⟩
  · rw [show ((mkF a b).2.2 != 0) = true from by simpa using h]; rfl
  · rcases mkF_r c d with h2 | ⟨r2, n2, d2⟩
    · rw [show ((mkF c d).2.2 != 0) = true from by simpa using h2]
      cases (mkF a b).2.2 != 0 <;> rfl
    · rw [bkT_eq r1 r2 n1 d1 n2 d2]
      cases (mkF a b).2.2 != 0 <;> cases (mkF c d).2.2 != 0 <;> rfl
end Go.Proofs.YtbblfgfaoolloaaDoor
