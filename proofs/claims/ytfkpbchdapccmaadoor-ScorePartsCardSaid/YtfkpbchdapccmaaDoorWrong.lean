/- Chapter 17: what is not right is rejected. -/
import Derived.Test.YtfkpbchdapccmaaDoorGrows
namespace Go.Proofs.YtfkpbchdapccmaaDoor
open Go Go.Ev

def w5 (x w : Int) : Option AV := bif u8B w && u8B x then bif !vul w x then (bif u8B 3 && u8B w then bif !vul 3 w then yes else no else none) else no else none
def wTree (how x a b r d t w : Int) : Option AV :=
  bif conB a b r d && u8B w then bif scoreK a b r d t w != 0 then no else bif scoreE a b r d t w != 2 then no else
    bif how.tmod 6 == 5 then w5 x w else
    bif conB a b r d then bif conB a b r d then bif pts a b r d t (x.tmod 2 == 0) != 0 then no else bif ptsE a b r d t != 2 then no else
      bif !(writeK a b r d t == []) then no else bif writeE a b r d t != 2 then no else
      bif how.tmod 6 == 4 then yes else
      bif conB a b r d then bif !right a b r d then bif u8B a then bif need a b r d == 0 then bif text a b r d == [] then bif textE a b r d == 2 then yes else no else no else no else none else no else none
    else none else none
  else none
theorem t10 (n how x k : Int) : (calls C5 60 10 [.int .u32 n, .int .u8 how, .int .u8 x, .int .i64 k]).run = bif u32B n then
    bif how.tmod 6 == 0 then wTree how x (bif decide (8 > x) then 8 else x) (mB n) (mR n) (mD n) (mT n) 0 else
    bif how.tmod 6 == 1 then wTree how x (bif decide (1 > mA n) then 1 else mA n) (bif decide (5 > x) then 5 else x) (mR n) (mD n) (mT n) 0 else
    bif how.tmod 6 == 2 then wTree how x (mA n) (mB n) (bif decide (3 > x) then 3 else x) (mD n) (mT n) 0 else
    bif how.tmod 6 == 3 then wTree how x (mA n) (mB n) (mR n) (bif decide (4 > x) then 4 else x) (mT n) 0 else
    bif how.tmod 6 == 4 then (bif x.tmod 2 == 0 then wTree how x (mA n) (mB n) (mR n) (mD n) (bif decide (-1 < k) then -1 else k) 0 else wTree how x (mA n) (mB n) (mR n) (mD n) (bif decide (14 > k) then 14 else k) 0) else
    bif how.tmod 6 == 5 then wTree how x (mA n) (mB n) (mR n) (mD n) (mT n) (bif decide (4 > x) then 4 else x) else
    wTree how x (mA n) (mB n) (mR n) (mD n) (mT n) 0 else none := by kernel_rfl

theorem wTree_yes {how x a b r d t : Int} (h : conB a b r d = true) (hr : isRes a b r d t = false) (h5 : (how.tmod 6 == 5) = false) (h4 : (how.tmod 6 == 4) = true ∨ right a b r d = false) : wTree how x a b r d t 0 = yes := by
  have e1 : okS a b r d t 0 = false := by unfold okS; rw [hr]; rfl
  unfold wTree
  rw [h, show scoreK a b r d t 0 = 0 by unfold scoreK; rw [e1]; rfl, show scoreE a b r d t 0 = 2 by unfold scoreE; rw [e1]; rfl, h5, show pts a b r d t (x.tmod 2 == 0) = 0 by unfold pts; rw [hr]; rfl, ptsE_not hr,
    show writeK a b r d t = [] by unfold writeK; rw [hr]; rfl, show writeE a b r d t = 2 by unfold writeE; rw [hr]; rfl]
  rcases h4 with h4 | h4
  · rw [h4]; rfl
  · rw [h4, conB_a h, show need a b r d = 0 by unfold need; rw [h4]; cases a == 0 <;> rfl, show text a b r d = [] by unfold text; rw [h4]; rfl, show textE a b r d = 2 by unfold textE; rw [h4]; rfl]
    cases how.tmod 6 == 4 <;> rfl
theorem wTree_yes5 {how x a b r d t w : Int} (h : conB a b r d = true) (hx : u8B x = true) (hw : 4 ≤ w) (hw' : w ≤ 255) (h5 : (how.tmod 6 == 5) = true) : wTree how x a b r d t w = yes := by
  have e0 : leI w 3 = false := leI_not.2 (by omega)
  have e1 : okS a b r d t w = false := by unfold okS; rw [e0]; cases isRes a b r d t <;> rfl
  have e2 : u8B w = true := by simp only [u8B, Bool.and_eq_true, leI_iff]; omega
  unfold wTree w5
  rw [h, show scoreK a b r d t w = 0 by unfold scoreK; rw [e1]; rfl, show scoreE a b r d t w = 2 by unfold scoreE; rw [e1]; rfl, h5, e2, hx, show vul w x = false by unfold vul; rw [e0]; rfl, show vul 3 w = false by unfold vul; rw [e0]; rfl]
  rfl
theorem res_of_right {a b r d t : Int} (h : right a b r d = false) : isRes a b r d t = false := by unfold isRes; rw [h]; rfl
theorem mx_ge (k x : Int) : k ≤ (bif decide (k > x) then k else x) := by
  by_cases h : k > x
  · rw [decide_eq_true h]; simp
  · rw [decide_eq_false h]; simp only [cond_false]; omega
theorem mx_le (k x : Int) (hk : k ≤ 255) (hx : x ≤ 255) : (bif decide (k > x) then k else x) ≤ 255 := by
  cases decide (k > x) <;> simpa
theorem mn_le (k x : Int) : (bif decide (k < x) then k else x) ≤ k := by
  by_cases h : k < x
  · rw [decide_eq_true h]; simp
  · rw [decide_eq_false h]; simp only [cond_false]; omega
theorem conB_mk {a b r d : Int} (ha : 0 ≤ a ∧ a ≤ 255) (hb : 0 ≤ b ∧ b ≤ 255) (hr : 0 ≤ r ∧ r ≤ 255) (hd : 0 ≤ d ∧ d ≤ 255) : conB a b r d = true := by
  simp only [conB, u8B, Bool.and_eq_true, leI_iff]; exact ⟨ha, hb, hr, hd⟩
/-- The limits of a result that is made. -/
theorem made_lim (n : Int) (h : u32B n = true) : (0 ≤ mA n ∧ mA n ≤ 7) ∧ (0 ≤ mB n ∧ mB n ≤ 4) ∧ (0 ≤ mR n ∧ mR n ≤ 2) ∧ (0 ≤ mD n ∧ mD n ≤ 3) ∧ 0 ≤ mT n ∧ mT n ≤ 13 := by
  rcases made_or n h with ⟨h1, h2, h3, h4, h5⟩ | ⟨h1, h2, h3, h4, h5⟩ <;> omega
/-- **P17.1 to P17.4**: ScoreWrong is true. -/
theorem wrong_run (n how x k : Int) (h : u32B n = true) (hh : 0 ≤ how) (hx : u8B x = true) : (calls C5 60 10 [.int .u32 n, .int .u8 how, .int .u8 x, .int .i64 k]).run = some (.bool true) := by
  obtain ⟨x0, x1⟩ := u8B_iff hx
  obtain ⟨l1, l2, l3, l4, l5⟩ := made_lim n h
  have hm : how.tmod 6 = how % 6 := tmod_nn hh
  have hm6 : how % 6 = 0 ∨ how % 6 = 1 ∨ how % 6 = 2 ∨ how % 6 = 3 ∨ how % 6 = 4 ∨ how % 6 = 5 := by omega
  rw [t10, h, bif_t rfl, hm]
  rcases hm6 with e | e | e | e | e | e
  · simp only [e, Int.reduceBEq, cond_true, cond_false]
    have g := mx_ge 8 x
    have g' := mx_le 8 x (by omega) x1
    have hr : right (bif decide (8 > x) then 8 else x) (mB n) (mR n) (mD n) = false := by
      unfold right
      rw [show ((bif decide (8 > x) then 8 else x) == 0) = false by simp only [beq_eq_false_iff_ne, ne_eq]; omega, decide_eq_false (by omega : ¬ (bif decide (8 > x) then 8 else x) ≤ 7)]; rfl
    exact wTree_yes (conB_mk (by omega) (by omega) (by omega) (by omega)) (res_of_right hr) (by rw [hm, e]; rfl) (.inr hr)
  · simp only [e, Int.reduceBEq, cond_true, cond_false]
    have g := mx_ge 5 x
    have g' := mx_le 5 x (by omega) x1
    have ga := mx_ge 1 (mA n)
    have ga' := mx_le 1 (mA n) (by omega) (by omega)
    have hr : right (bif decide (1 > mA n) then 1 else mA n) (bif decide (5 > x) then 5 else x) (mR n) (mD n) = false := by
      unfold right
      rw [show ((bif decide (1 > mA n) then 1 else mA n) == 0) = false by simp only [beq_eq_false_iff_ne, ne_eq]; omega, decide_eq_false (by omega : ¬ (bif decide (5 > x) then 5 else x) ≤ 4)]; simp
    exact wTree_yes (conB_mk (by omega) (by omega) (by omega) (by omega)) (res_of_right hr) (by rw [hm, e]; rfl) (.inr hr)
  · simp only [e, Int.reduceBEq, cond_true, cond_false]
    have g := mx_ge 3 x
    have g' := mx_le 3 x (by omega) x1
    have hr : right (mA n) (mB n) (bif decide (3 > x) then 3 else x) (mD n) = false := by
      unfold right
      rw [show ((bif decide (3 > x) then 3 else x) == 0) = false by simp only [beq_eq_false_iff_ne, ne_eq]; omega, decide_eq_false (by omega : ¬ (bif decide (3 > x) then 3 else x) ≤ 2)]; cases mA n == 0 <;> simp
    exact wTree_yes (conB_mk (by omega) (by omega) (by omega) (by omega)) (res_of_right hr) (by rw [hm, e]; rfl) (.inr hr)
  · simp only [e, Int.reduceBEq, cond_true, cond_false]
    have g := mx_ge 4 x
    have g' := mx_le 4 x (by omega) x1
    have hr : right (mA n) (mB n) (mR n) (bif decide (4 > x) then 4 else x) = false := by
      unfold right
      rw [show ((bif decide (4 > x) then 4 else x) == 0) = false by simp only [beq_eq_false_iff_ne, ne_eq]; omega, decide_eq_false (by omega : ¬ (bif decide (4 > x) then 4 else x) ≤ 3)]; cases mA n == 0 <;> simp
    exact wTree_yes (conB_mk (by omega) (by omega) (by omega) (by omega)) (res_of_right hr) (by rw [hm, e]; rfl) (.inr hr)
  · simp only [e, Int.reduceBEq, cond_true, cond_false]
    have hc : conB (mA n) (mB n) (mR n) (mD n) = true := conB_mk (by omega) (by omega) (by omega) (by omega)
    have h5 : (how.tmod 6 == 5) = false := by rw [hm, e]; rfl
    have h4 : (how.tmod 6 == 4) = true := by rw [hm, e]; rfl
    have r1 : isRes (mA n) (mB n) (mR n) (mD n) (bif decide (-1 < k) then -1 else k) = false := by
      have := mn_le (-1) k
      cases hb : isRes (mA n) (mB n) (mR n) (mD n) (bif decide (-1 < k) then -1 else k)
      · rfl
      · have := isRes_iff.1 hb; omega
    have r2 : isRes (mA n) (mB n) (mR n) (mD n) (bif decide (14 > k) then 14 else k) = false := by
      have := mx_ge 14 k
      cases hb : isRes (mA n) (mB n) (mR n) (mD n) (bif decide (14 > k) then 14 else k)
      · rfl
      · have := isRes_iff.1 hb; omega
    rw [wTree_yes hc r1 h5 (.inl h4), wTree_yes hc r2 h5 (.inl h4)]
    cases x.tmod 2 == 0 <;> rfl
  · simp only [e, Int.reduceBEq, cond_true, cond_false]
    exact wTree_yes5 (conB_mk (by omega) (by omega) (by omega) (by omega)) hx (mx_ge 4 x) (mx_le 4 x (by omega) x1) (by rw [hm, e]; rfl)
end Go.Proofs.YtfkpbchdapccmaaDoor
