/- Chapter 5: HandSuits: suits and patterns in order. -/
import Derived.Test.YtgellkpbcoeccaaDoorSu2
namespace Go.Proofs.YtgellkpbcoeccaaDoor
open Go Go.Ev Go.Ev.Bits

def ord2 (n s q : Nat) : Prop := ln n s ≤ ln n q ∧ (ln n s = ln n q → s < q)
def suiOk (n : Nat) (p : N4) : Prop := p ∈ P24 ∧ ord2 n p.2.1 p.1 ∧ ord2 n p.2.2.1 p.2.1 ∧ ord2 n p.2.2.2 p.2.2.1
theorem sui_ok (n : Nat) : suiOk n (sui n) := by
  unfold sui so so1 so2 so3 four
  simp only [Bool.cond_decide]
  generalize h0 : ln n 0 = x0
  generalize h1 : ln n 1 = x1
  generalize h2 : ln n 2 = x2
  generalize h3 : ln n 3 = x3
  repeat' split
  all_goals (refine ⟨by decide, ?_⟩; unfold ord2; simp only [h0, h1, h2, h3]; omega)
set_option maxHeartbeats 8000000 in
theorem pat_L (L : Nat → Nat) (p : N4) (hp : p ∈ P24) (h1 : L p.2.1 ≤ L p.1) (h2 : L p.2.2.1 ≤ L p.2.1) (h3 : L p.2.2.2 ≤ L p.2.2.1) : so (fun a b => decide (b < a)) four (L 0) (L 1) (L 2) (L 3) = (L p.1, L p.2.1, L p.2.2.1, L p.2.2.2) := by
  unfold so so1 so2 so3 four
  simp only [Bool.cond_decide]
  simp only [P24, List.mem_cons, List.not_mem_nil, or_false] at hp
  rcases hp with rfl | rfl | rfl | rfl | rfl | rfl | rfl | rfl | rfl | rfl | rfl | rfl | rfl | rfl | rfl | rfl | rfl | rfl | rfl | rfl | rfl | rfl | rfl | rfl <;> simp only at h1 h2 h3 ⊢ <;> generalize L 0 = x0 at * <;> generalize L 1 = x1 at * <;> generalize L 2 = x2 at * <;> generalize L 3 = x3 at * <;> (repeat' split) <;> first | omega | (refine Prod.ext ?_ (Prod.ext ?_ (Prod.ext ?_ ?_)) <;> first | rfl | (dsimp only; omega))
theorem pat_sui (n : Nat) : pat n = (ln n (sui n).1, ln n (sui n).2.1, ln n (sui n).2.2.1, ln n (sui n).2.2.2) :=
  pat_L (ln n) (sui n) (sui_ok n).1 (sui_ok n).2.1.1 (sui_ok n).2.2.1.1 (sui_ok n).2.2.2.1

theorem p24_lt : ∀ p ∈ P24, p.1 < 4 ∧ p.2.1 < 4 ∧ p.2.2.1 < 4 ∧ p.2.2.2 < 4 := by decide
theorem app_eq (tx : List UInt8) (l : Nat) (h : l ≤ 13) : tA tx (l : Int) ++ [ch (l : Int)] = tx ++ num2 l := by
  have key : ∀ l : Nat, l < 14 → (bif decide ((l : Int) > 9) then [49, ch l] else [ch l]) = num2 l := forall_lt 14 (by decide +kernel)
  rw [← key l (by omega)]
  unfold tA
  cases decide ((l : Int) > 9) <;> simp
theorem or_met : P24.map (fun p => orI (orI (orI (orI 0 p.1) p.2.1) p.2.2.1) p.2.2.2) = P24.map (fun _ => 15) := by decide +kernel
theorem lsel_eq (n s : Nat) (h : s < 4) : lsel (ln n 0 : Nat) (ln n 1 : Nat) (ln n 2 : Nat) (ln n 3 : Nat) s = (ln n s : Nat) := by
  have : s = 0 ∨ s = 1 ∨ s = 2 ∨ s = 3 := by omega
  rcases this with rfl | rfl | rfl | rfl <;> rfl
theorem ble1_eq {tx : List UInt8} (h : tx.length ≤ 100) (k : Option (X × List AV × Heap)) : ble1 tx k = k := by
  unfold ble1
  rw [Nat.ble_eq_true_of_le (by omega), cond_true]
theorem tA_len (tx : List UInt8) (l : Int) : (tA tx l).length ≤ tx.length + 1 := by
  unfold tA
  cases decide (l > 9) <;> simp
abbrev Hn (n : Nat) (p : N4) : Heap := Hp9 (ln n 0 : Nat) (ln n 1 : Nat) (ln n 2 : Nat) (ln n 3 : Nat) p
theorem nx9_eq (n : Nat) (met : Int) (p : N4) (s : Nat) (hs : s < 4) (i : Int) (tx : List UInt8) (h : tx.length ≤ 50) : nx9 n (ln n 0 : Nat) (ln n 1 : Nat) (ln n 2 : Nat) (ln n 3 : Nat) met p s i tx = some (.n, fp9 n p (orI met s) (tx ++ num2 (ln n s)) i, Hn n p) := by
  unfold nx9
  have := tA_len tx (lsel (ln n 0 : Nat) (ln n 1 : Nat) (ln n 2 : Nat) (ln n 3 : Nat) s)
  rw [ble1_eq (by omega), ble1_eq (by omega), lsel_eq n s hs, app_eq _ _ (ln_le n s)]
theorem nc9_eq (n : Nat) (met : Int) (p : N4) (s q : Nat) (hs : s < 4) (hq : q < 4) (ho : ord2 n s q) (i : Int) (tx : List UInt8) (h : tx.length ≤ 40) : nc9 n (ln n 0 : Nat) (ln n 1 : Nat) (ln n 2 : Nat) (ln n 3 : Nat) met tx p s q i = some (.n, fp9 n p (orI met s) (tx ++ [45] ++ num2 (ln n s)) i, Hn n p) := by
  obtain ⟨h1, h2⟩ := ho
  unfold nc9
  rw [lsel_eq n s hs, lsel_eq n q hq, decide_eq_false (by omega), cond_false, ble1_eq (by omega), nx9_eq n met p s hs i (tx ++ [45]) (by simp; omega)]
  by_cases e : ln n s = ln n q
  · have : Nat.ble (q + 1) s = false := by
      cases hx : Nat.ble (q + 1) s
      · rfl
      · have := Nat.le_of_ble_eq_true hx; have := h2 e; omega
    rw [this, cond_false]
    cases (((ln n s : Nat) : Int) == ((ln n q : Nat) : Int)) <;> rfl
  · have : (((ln n s : Nat) : Int) == ((ln n q : Nat) : Int)) = false := by simp; omega
    rw [this, cond_false]
theorem num2_le (n : Nat) : (num2 n).length ≤ 2 := num2_len n
theorem loop9 (n : Nat) (p : N4) (hp : suiOk n p) : Lp C6 fd9 bod9_0 (fp9 n p 0 [] 0) (Hn n p) (.ex 0, fp9 n p 15 (pStr (ln n p.1, ln n p.2.1, ln n p.2.2.1, ln n p.2.2.2)) 4, Hn n p) := by
  obtain ⟨hm, o1, o2, o3⟩ := hp
  obtain ⟨q1, q2, q3, q4⟩ := p24_lt p hm
  have hlen : (Hn n p).length = 2 := rfl
  generalize hH : Hn n p = H at hlen
  have d {x : X} {vs vs1 : List AV} {want : X → Bool} (hv : vs.length = fd9.keep.length) (h : codeG C6 Z9 60 9 kp9 ct9 want m9 bod9_0 vs H 2 = some (x, vs1, H)) : Does C6 fd9 bod9_0 vs H (x, vs1, H) := Does.runG ok6 z9 rfl rfl fdat9 hb9 bin9_0 60 hv (by rw [hlen]; exact h)
  subst hH
  have n1 := num2_le (ln n p.1)
  have n2 := num2_le (ln n p.2.1)
  have n3 := num2_le (ln n p.2.2.1)
  refine .on (d rfl ((allEq (r9_0 n _ _ _ _ _ _) p hm).trans (nx9_eq n _ p _ q1 _ _ (by simp)))) ?_
  refine .on (d rfl ((allEq (r9_1 n _ _ _ _ _ _) p hm).trans (nc9_eq n _ p _ _ q2 q1 o1 _ _ (by simp; omega)))) ?_
  refine .on (d rfl ((allEq (r9_2 n _ _ _ _ _ _) p hm).trans (nc9_eq n _ p _ _ q3 q2 o2 _ _ (by simp; omega)))) ?_
  refine .on (d rfl ((allEq (r9_3 n _ _ _ _ _ _) p hm).trans (nc9_eq n _ p _ _ q4 q3 o3 _ _ (by simp; omega)))) ?_
  rw [allEq or_met p hm, List.nil_append]
  unfold pStr
  dsimp only
  exact .out (d rfl (r9_4 n _ _ _ _ _ _ p)) (by simp)
end Go.Proofs.YtgellkpbcoeccaaDoor
