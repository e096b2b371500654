/- Chapter 5: suits' functions as plain numbers; the second context. -/
import Derived.Test.YtgellkpbcoeccaaDoorH4
namespace Go.Proofs.YtgellkpbcoeccaaDoor
open Go Go.Ev Go.Ev.Bits

/-! ### Losers -/
def b2n (b : Bool) : Nat := bif b then 1 else 0
theorem b2n_le (b : Bool) : b2n b ≤ 1 := by cases b <;> decide
/-- Losers of a suit. -/
def losS (h : Nat) : Nat := b2n (Nat.ble 1 (bc 16 h) && !(hb h 12)) + (b2n (Nat.ble 2 (bc 16 h) && !(hb h 11)) + b2n (Nat.ble 3 (bc 16 h) && !(hb h 10)))
noncomputable def min3 (n : Nat) : Int := bif decide ((3 : Int) < ((shut (bc 16 n) : Nat) : Int)) then 3 else ((shut (bc 16 n) : Nat) : Int)
theorem t39 (n : Nat) : callsM C1 Z2 60 39 [.int .u16 n] = bif leI 0 n && leI n 65535 then bif leI 0 n && (true && (true && (leI 0 (min3 n) && leI (min3 n) 3))) then some (.int .i64 (shut (losB n (min3 n)))) else none else none := by kernel_rfl
theorem losB_eq (n : Nat) : losB n (min3 n) = (losS n : Nat) := by
  unfold min3 losB losS stL
  simp only [shut_eq]
  have h1 (x : Int) (h : 0 ≤ x ∧ x ≤ 5) : IntKind.i64.wrap (x + 1) = x + 1 := i64w (by omega)
  rcases Nat.lt_or_ge 3 (bc 16 n) with h | h
  · rw [decide_eq_true (by omega : (3 : Int) < ((bc 16 n : Nat) : Int)), cond_true, Nat.ble_eq_true_of_le (by omega : 1 ≤ bc 16 n), Nat.ble_eq_true_of_le (by omega : 2 ≤ bc 16 n), Nat.ble_eq_true_of_le (by omega : 3 ≤ bc 16 n)]
    cases hb n 12 <;> cases hb n 11 <;> cases hb n 10 <;> rfl
  · rw [decide_eq_false (by omega : ¬ (3 : Int) < ((bc 16 n : Nat) : Int)), cond_false]
    have hc : bc 16 n = 0 ∨ bc 16 n = 1 ∨ bc 16 n = 2 ∨ bc 16 n = 3 := by omega
    rcases hc with e | e | e | e <;> rw [e] <;> cases hb n 12 <;> cases hb n 11 <;> cases hb n 10 <;> rfl
noncomputable def sLos : List AV → T AV
  | [.int .u16 h] => .chk (leI 0 h && leI h 65535) (.leaf (.int .i64 (shut (losS h.toNat) : Nat)))
  | _ => .fail
theorem sLos_iso : ∀ args v, (sLos args).run = some v → callsM C1 Z2 60 39 args = some v := by
  intro args v hr
  unfold sLos at hr
  split at hr
  · rename_i h
    obtain ⟨hc, hr⟩ := T.of_chk hr
    have hc' := hc
    simp only [Bool.and_eq_true, leI_iff] at hc
    cases Option.some.inj hr
    obtain ⟨n, rfl⟩ : ∃ n : Nat, h = n := ⟨h.toNat, by omega⟩
    have h3 : 0 ≤ min3 n ∧ min3 n ≤ 3 := by
      unfold min3
      rw [shut_eq]
      rcases Nat.lt_or_ge 3 (bc 16 n) with h | h
      · rw [decide_eq_true (by omega : (3 : Int) < ((bc 16 n : Nat) : Int)), cond_true]; omega
      · rw [decide_eq_false (by omega : ¬ (3 : Int) < ((bc 16 n : Nat) : Int)), cond_false]; omega
    rw [t39, hc', leI_iff.2 hc.1, leI_iff.2 h3.1, leI_iff.2 h3.2, shut_eq, shut_eq, losB_eq]
    rfl
  · simp [T.run] at hr

/-! ### Quick tricks -/
def qckS (h : Nat) : Nat := bif hb h 12 && hb h 11 then 4 else bif hb h 12 && hb h 10 then 3 else bif hb h 12 || hb h 11 && hb h 10 then 2 else bif hb h 11 && Nat.ble 2 (bc 16 h) then 1 else 0
def q1 (k ok : Bool) (l : Int) : Option AV := bif k then bif ok then bif decide (l > 1) then some (.int .i64 1) else some (.int .i64 0) else none else some (.int .i64 0)
def q3 (a k q ok : Bool) (l : Int) : Option AV := bif a then bif a then some (.int .i64 2) else q1 k ok l else bif k then bif q then some (.int .i64 2) else q1 k ok l else q1 k ok l
def q4 (a k q ok : Bool) (l : Int) : Option AV := bif a then bif q then some (.int .i64 3) else q3 a k q ok l else q3 a k q ok l
def q5 (a k q ok : Bool) (l : Int) : Option AV := bif a then bif k then some (.int .i64 4) else q4 a k q ok l else q4 a k q ok l
theorem t42 (n : Nat) : callsM C1 Z2 60 42 [.int .u16 n] = q5 (shut (hb n 12)) (shut (hb n 11)) (shut (hb n 10)) (leI 0 n && leI n 65535) (shut (bc 16 n) : Nat) := by kernel_rfl
noncomputable def sQck : List AV → T AV
  | [.int .u16 h] => .chk (leI 0 h && leI h 65535) (.leaf (.int .i64 (shut (qckS h.toNat) : Nat)))
  | _ => .fail
theorem sQck_iso : ∀ args v, (sQck args).run = some v → callsM C1 Z2 60 42 args = some v := by
  intro args v hr
  unfold sQck at hr
  split at hr
  · rename_i h
    obtain ⟨hc, hr⟩ := T.of_chk hr
    have hc' := hc
    simp only [Bool.and_eq_true, leI_iff] at hc
    cases Option.some.inj hr
    obtain ⟨n, rfl⟩ : ∃ n : Nat, h = n := ⟨h.toNat, by omega⟩
    rw [t42, hc']
    simp only [shut_eq, Int.toNat_natCast]
    unfold qckS q5 q4 q3 q1
    rcases Nat.lt_or_ge 1 (bc 16 n) with h | h
    · rw [decide_eq_true (by omega : ((bc 16 n : Nat) : Int) > 1), Nat.ble_eq_true_of_le (by omega : 2 ≤ bc 16 n)]
      cases hb n 12 <;> cases hb n 11 <;> cases hb n 10 <;> rfl
    · have hf : Nat.ble 2 (bc 16 n) = false := by
        cases hx : Nat.ble 2 (bc 16 n)
        · rfl
        · have := Nat.le_of_ble_eq_true hx; omega
      rw [decide_eq_false (by omega : ¬ ((bc 16 n : Nat) : Int) > 1), hf]
      cases hb n 12 <;> cases hb n 11 <;> cases hb n 10 <;> rfl
  · simp [T.run] at hr

/-! ### A hand's shape -/
/-- How many cards a suit has. -/
def ln (n s : Nat) : Nat := bc 13 (hd n s)
theorem ln_le (n s : Nat) : ln n s ≤ 13 := bc_le 13 _
theorem bc16_hd (n s : Nat) : bc 16 (hd n s) = ln n s := by
  have := hd_lt n s
  rw [show (16 : Nat) = 13 + 3 from rfl, bc_add 3 13, show hd n s / 2 ^ 13 = 0 by omega, bc_zero]
  rfl
noncomputable def okH (n s : Nat) : Bool := leI 0 ((shut (hd n s) : Nat) : Int) && leI ((shut (hd n s) : Nat) : Int) 65535
theorem okH_eq (n s : Nat) : okH n s = true := by
  unfold okH
  rw [shut_eq]
  have := hd_lt n s
  rw [leI_iff.2 (by omega), leI_iff.2 (by omega)]
  rfl
noncomputable def lnI (n s : Nat) : AV := .int .i64 ((shut (bc 16 (shut (hd n s))) : Nat) : Int)
theorem lnI_eq (n s : Nat) : lnI n s = .int .i64 (ln n s : Nat) := by
  unfold lnI; rw [shut_eq, shut_eq, bc16_hd]
theorem t23 (n : Nat) : callsM C1 Z2 60 23 [.int .u64 n] = bif okH n 0 then bif okH n 1 then bif okH n 2 then bif okH n 3 then some (.agg [lnI n 0, lnI n 1, lnI n 2, lnI n 3]) else none else none else none else none := by kernel_rfl
noncomputable def sShape : List AV → T AV
  | [.int .u64 m] => .chk (leI 0 m) (.leaf (.agg [.int .i64 (shut (ln m.toNat 0) : Nat), .int .i64 (shut (ln m.toNat 1) : Nat), .int .i64 (shut (ln m.toNat 2) : Nat), .int .i64 (shut (ln m.toNat 3) : Nat)]))
  | _ => .fail
theorem sShape_iso : ∀ args v, (sShape args).run = some v → callsM C1 Z2 60 23 args = some v := by
  intro args v hr
  unfold sShape at hr
  split at hr
  · rename_i m
    obtain ⟨hc, hr⟩ := T.of_chk hr
    simp only [leI_iff] at hc
    cases Option.some.inj hr
    obtain ⟨n, rfl⟩ : ∃ n : Nat, m = n := ⟨m.toNat, by omega⟩
    rw [t23]
    simp only [okH_eq, cond_true, lnI_eq, shut_eq, Int.toNat_natCast]
  · simp [T.run] at hr

/-! ### Right -/
def rightN (n : Nat) : Bool := Nat.beq (n / 4503599627370496) 0 && Nat.beq (bc 64 n) 13
theorem t22 (n : Nat) : callsM C1 Z2 60 22 [.int .u64 n] = bif (n : Int).fdiv 4503599627370496 == 0 then bif leI 0 n && leI n 18446744073709551615 then some (.bool (((shut (bc 64 n) : Nat) : Int) == 13)) else none else some (.bool false) := by kernel_rfl
noncomputable def sRightH : List AV → T AV
  | [.int .u64 m] => .chk (leI 0 m && leI m 18446744073709551615) (.leaf (.bool (shut (rightN m.toNat))))
  | _ => .fail
theorem beq_nat (a b : Nat) : ((a : Int) == (b : Int)) = Nat.beq a b := by
  cases h : Nat.beq a b
  · have : a ≠ b := fun e => by subst e; simp at h
    simp; omega
  · have := Nat.eq_of_beq_eq_true h
    subst this; simp
theorem sRightH_iso : ∀ args v, (sRightH args).run = some v → callsM C1 Z2 60 22 args = some v := by
  intro args v hr
  unfold sRightH at hr
  split at hr
  · rename_i m
    obtain ⟨hc, hr⟩ := T.of_chk hr
    have hc' := hc
    simp only [Bool.and_eq_true, leI_iff] at hc
    cases Option.some.inj hr
    obtain ⟨n, rfl⟩ : ∃ n : Nat, m = n := ⟨m.toNat, by omega⟩
    rw [t22, hc']
    have h1 : ((n : Int).fdiv 4503599627370496 == 0) = Nat.beq (n / 4503599627370496) 0 := by
      rw [fdiv_pos _ (by omega), ← beq_nat]
      congr 1
    have h2 : (((shut (bc 64 n) : Nat) : Int) == 13) = Nat.beq (bc 64 n) 13 := by
      rw [shut_eq, ← beq_nat]
      congr 1
    rw [h1, h2, shut_eq, cond_true]
    unfold rightN
    rw [Int.toNat_natCast]
    cases Nat.beq (n / 4503599627370496) 0
    · rw [cond_false, Bool.false_and]
    · rw [cond_true, Bool.true_and]
  · simp [T.run] at hr

theorem sumM1 {f : FuncId} {F : List AV → T AV} {n : Nat} {args0 : List AV} {v0 : AV} (h0 : callsM C1 Z2 n f args0 = some v0) (h : ∀ args v, (F args).run = some v → callsM C1 Z2 n f args = some v) : SumAt C1 (f, F) :=
  ⟨callsM_fn ok1 z2 h0, fun args v hr => callsM_iso ok1 z2 (h args v hr)⟩
noncomputable def tab2 : List (Nat × (List AV → T AV)) := [(39, sLos), (42, sQck), (23, sShape), (22, sRightH)]
theorem allTab2 : AllL (SumAt C1) tab2 :=
  ⟨sumM1 (sLos_iso [.int .u16 0] _ rfl) sLos_iso, sumM1 (sQck_iso [.int .u16 0] _ rfl) sQck_iso, sumM1 (sShape_iso [.int .u64 0] _ rfl) sShape_iso, sumM1 (sRightH_iso [.int .u64 0] _ rfl) sRightH_iso, trivial⟩
noncomputable def C2 : Ctx := withSum C1 tab2
theorem ok2 : Ok C2 := ok_with ok1 allTab2
theorem z2' : ZOk C2 Z2 := z2.at rfl rfl rfl

/-! ### Points, controls, losers, quick tricks -/
noncomputable def stP (n : Int) (h r : Nat) (v : Int) : Int := bif shut (hb h r) then IntKind.i64.wrap (n + v) else n
noncomputable def hon (a b c d : Int) (h : Nat) : Int := stP (stP (stP (stP 0 h 9 a) h 10 b) h 11 c) h 12 d
noncomputable def tot (f : Nat → Int) (n : Nat) : Int := IntKind.i64.wrap (IntKind.i64.wrap (IntKind.i64.wrap (IntKind.i64.wrap (0 + f (shut (hd n 0))) + f (shut (hd n 1))) + f (shut (hd n 2))) + f (shut (hd n 3)))
theorem t16 (n : Nat) : callsM C2 Z2 60 16 [.int .u64 n] = some (.int .i64 (tot (hon 1 2 3 4) n)) := by kernel_rfl
theorem t17 (n : Nat) : callsM C2 Z2 60 17 [.int .u64 n] = some (.int .i64 (tot (hon 0 0 1 2) n)) := by kernel_rfl
theorem t18 (n : Nat) : callsM C2 Z2 60 18 [.int .u64 n] = bif okH n 0 then bif okH n 1 then bif okH n 2 then bif okH n 3 then some (.int .i64 (tot (fun h => (shut (losS h) : Nat)) n)) else none else none else none else none := by kernel_rfl
theorem t19 (n : Nat) : callsM C2 Z2 60 19 [.int .u64 n] = bif okH n 0 then bif okH n 1 then bif okH n 2 then bif okH n 3 then some (.int .i64 (tot (fun h => (shut (qckS h) : Nat)) n)) else none else none else none else none := by kernel_rfl
/-- A sum over the suits. -/
def sumS (f : Nat → Nat) (n : Nat) : Nat := f (hd n 0) + (f (hd n 1) + (f (hd n 2) + f (hd n 3)))
theorem tot_eq {f : Nat → Int} {g : Nat → Nat} (h : ∀ x, f x = (g x : Nat)) (hl : ∀ x, g x ≤ 100) (n : Nat) : tot f n = (sumS g n : Nat) := by
  unfold tot sumS
  simp only [h, shut_eq]
  have h0 := hl (hd n 0)
  have h1 := hl (hd n 1)
  have h2 := hl (hd n 2)
  have h3 := hl (hd n 3)
  rw [i64w (n := 0 + ((g (hd n 0) : Nat) : Int)) (by omega), i64w (n := 0 + ((g (hd n 0) : Nat) : Int) + ((g (hd n 1) : Nat) : Int)) (by omega), i64w (n := 0 + ((g (hd n 0) : Nat) : Int) + ((g (hd n 1) : Nat) : Int) + ((g (hd n 2) : Nat) : Int)) (by omega), i64w (by omega)]
  omega
def honS (a b c d : Nat) (h : Nat) : Nat := (bif hb h 9 then a else 0) + ((bif hb h 10 then b else 0) + ((bif hb h 11 then c else 0) + (bif hb h 12 then d else 0)))
theorem hon_eq {a b c d : Nat} (ha : a ≤ 9) (hb' : b ≤ 9) (hc : c ≤ 9) (hd' : d ≤ 9) (h : Nat) : hon a b c d h = (honS a b c d h : Nat) := by
  have st (x r v : Nat) (hx : x ≤ 100) (hv : v ≤ 9) : stP (x : Nat) h r (v : Nat) = ((x + bif hb h r then v else 0 : Nat) : Int) := by
    unfold stP
    rw [shut_eq]
    cases hb h r
    · simp only [cond_false]; omega
    · simp only [cond_true]
      rw [i64w (by omega)]; omega
  have le (r v : Nat) (hv : v ≤ 9) : (bif hb h r then v else 0) ≤ 9 := by cases hb h r <;> simp only [cond_true, cond_false] <;> omega
  unfold hon honS
  have l1 := le 9 a ha
  have l2 := le 10 b hb'
  have l3 := le 11 c hc
  have e0 : (0 : Int) = ((0 : Nat) : Int) := rfl
  rw [e0, st 0 9 a (by omega) ha, st _ 10 b (by omega) hb', st _ 11 c (by omega) hc, st _ 12 d (by omega) hd']
  congr 1
  omega
theorem honS_le {a b c d : Nat} (ha : a ≤ 9) (hb' : b ≤ 9) (hc : c ≤ 9) (hd' : d ≤ 9) (h : Nat) : honS a b c d h ≤ 100 := by
  unfold honS
  cases hb h 9 <;> cases hb h 10 <;> cases hb h 11 <;> cases hb h 12 <;> simp only [cond_true, cond_false] <;> omega
theorem losS_le (h : Nat) : losS h ≤ 3 := by
  unfold losS
  have a1 := b2n_le (Nat.ble 1 (bc 16 h) && !(hb h 12))
  have a2 := b2n_le (Nat.ble 2 (bc 16 h) && !(hb h 11))
  have a3 := b2n_le (Nat.ble 3 (bc 16 h) && !(hb h 10))
  omega
theorem qckS_le (h : Nat) : qckS h ≤ 4 := by
  unfold qckS
  cases hb h 12 <;> cases hb h 11 <;> cases hb h 10 <;> cases Nat.ble 2 (bc 16 h) <;> decide
noncomputable def sNum (g : Nat → Nat) : List AV → T AV
  | [.int .u64 m] => .chk (leI 0 m) (.leaf (.int .i64 (shut (sumS g m.toNat) : Nat)))
  | _ => .fail
theorem sNum_iso {f : FuncId} {g : Nat → Nat} (h : ∀ n : Nat, callsM C2 Z2 60 f [.int .u64 n] = some (.int .i64 (sumS g n : Nat))) : ∀ args v, (sNum g args).run = some v → callsM C2 Z2 60 f args = some v := by
  intro args v hr
  unfold sNum at hr
  split at hr
  · rename_i m
    obtain ⟨hc, hr⟩ := T.of_chk hr
    simp only [leI_iff] at hc
    cases Option.some.inj hr
    obtain ⟨n, rfl⟩ : ∃ n : Nat, m = n := ⟨m.toNat, by omega⟩
    rw [h, shut_eq]
    rfl
  · simp [T.run] at hr
theorem e16 (n : Nat) : callsM C2 Z2 60 16 [.int .u64 n] = some (.int .i64 (sumS (honS 1 2 3 4) n : Nat)) := by
  rw [t16, tot_eq (f := hon 1 2 3 4) (g := honS 1 2 3 4) (hon_eq (a := 1) (b := 2) (c := 3) (d := 4) (by omega) (by omega) (by omega) (by omega)) (honS_le (by omega) (by omega) (by omega) (by omega))]
theorem e17 (n : Nat) : callsM C2 Z2 60 17 [.int .u64 n] = some (.int .i64 (sumS (honS 0 0 1 2) n : Nat)) := by
  rw [t17, tot_eq (f := hon 0 0 1 2) (g := honS 0 0 1 2) (hon_eq (a := 0) (b := 0) (c := 1) (d := 2) (by omega) (by omega) (by omega) (by omega)) (honS_le (by omega) (by omega) (by omega) (by omega))]
theorem e18 (n : Nat) : callsM C2 Z2 60 18 [.int .u64 n] = some (.int .i64 (sumS losS n : Nat)) := by
  rw [t18]
  simp only [okH_eq, cond_true]
  rw [tot_eq (g := losS) (fun x => by rw [shut_eq]) (fun x => by have := losS_le x; omega)]
theorem e19 (n : Nat) : callsM C2 Z2 60 19 [.int .u64 n] = some (.int .i64 (sumS qckS n : Nat)) := by
  rw [t19]
  simp only [okH_eq, cond_true]
  rw [tot_eq (g := qckS) (fun x => by rw [shut_eq]) (fun x => by have := qckS_le x; omega)]
theorem sumM2 {f : FuncId} {F : List AV → T AV} {n : Nat} {args0 : List AV} {v0 : AV} (h0 : callsM C2 Z2 n f args0 = some v0) (h : ∀ args v, (F args).run = some v → callsM C2 Z2 n f args = some v) : SumAt C2 (f, F) :=
  ⟨callsM_fn ok2 z2' h0, fun args v hr => callsM_iso ok2 z2' (h args v hr)⟩
noncomputable def tab3 : List (Nat × (List AV → T AV)) := [(16, sNum (honS 1 2 3 4)), (17, sNum (honS 0 0 1 2)), (18, sNum losS), (19, sNum qckS)]
theorem allTab3 : AllL (SumAt C2) tab3 := ⟨sumM2 (e16 0) (sNum_iso e16), sumM2 (e17 0) (sNum_iso e17), sumM2 (e18 0) (sNum_iso e18), sumM2 (e19 0) (sNum_iso e19), trivial⟩
noncomputable def C3 : Ctx := withSum C2 tab3
theorem ok3 : Ok C3 := ok_with ok2 allTab3
end Go.Proofs.YtgellkpbcoeccaaDoor
