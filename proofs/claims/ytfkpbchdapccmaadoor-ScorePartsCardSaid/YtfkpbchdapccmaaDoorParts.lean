/- Chapter 17: a score's parts. -/
import Derived.Test.YtfkpbchdapccmaaDoorPx1
import Derived.Test.YtfkpbchdapccmaaDoorWrong
import Derived.Test.YtfkpbchdapccmaaDoorPx2
namespace Go.Proofs.YtfkpbchdapccmaaDoor
open Go Go.Ev

theorem parts_low (a : Int) (ha : a = 0 ∨ a = 1) (n : Int) (v : Bool) : (calls (Cp a) 60 8 [.int .u32 n, .bool v]).run = bif u32B n && mA n == a then yes else none := by
  rcases ha with rfl | rfl <;> kernel_rfl

def dnK (v : Bool) (k : Nat) : Int := bif Nat.beq k 0 then 0 else downK 1 k v
theorem dnK_succ (v : Bool) (k : Nat) : dnK v (k + 1) = dnK v k + each v (k + 1) := by
  unfold dnK each downK
  match k with
  | 0 => cases v <;> rfl
  | 1 => cases v <;> rfl
  | 2 => cases v <;> rfl
  | k + 3 =>
    have e1 : Nat.beq (k + 3) 0 = false := rfl
    have e2 : Nat.beq (k + 3 + 1) 0 = false := rfl
    have e3 : Nat.beq (k + 3 + 1) 1 = false := rfl
    have e4 : Nat.beq (k + 3 + 1) 2 = false := rfl
    have e5 : Nat.beq (k + 3 + 1) 3 = false := rfl
    rw [e1, e2, e3, e4, e5]
    simp only [cond_false, Bool.or_self, (by decide : ((1 : Int) == 0) = false), (by decide : ((1 : Int) == 1) = true), cond_true]
    rw [decide_eq_false (by omega : ¬ (0 : Int) > ((k + 3 + 1 : Nat) : Int) - 3), decide_eq_false (by omega : ¬ (0 : Int) > ((k + 3 : Nat) : Int) - 3)]
    cases v <;> simp only [cond_true, cond_false] <;> omega
theorem dnK_b (v : Bool) (k : Nat) (h : k ≤ 13) : 0 ≤ dnK v k ∧ dnK v k ≤ 10000 := by
  induction k with
  | zero => simp [dnK]
  | succ k ih =>
    have := ih (by omega)
    rw [dnK_succ]
    have he : 0 ≤ each v (k + 1) ∧ each v (k + 1) ≤ 300 := by
      unfold each
      cases v <;> cases Nat.beq (k + 1) 1 <;> cases (Nat.beq (k + 1) 2 || Nat.beq (k + 1) 3) <;> simp
    have hk : dnK v k ≤ 300 * k := by
      clear this he
      clear ih
      induction k with
      | zero => simp [dnK]
      | succ k ih2 =>
        have := ih2 (by omega)
        rw [dnK_succ]
        have he : each v (k + 1) ≤ 300 := by
          unfold each
          cases v <;> cases Nat.beq (k + 1) 1 <;> cases (Nat.beq (k + 1) 2 || Nat.beq (k + 1) 3) <;> simp
        omega
    omega
theorem pts_dn {a b d : Int} {k : Nat} (v : Bool) (ha : 1 ≤ a ∧ a ≤ 7) (hb : 0 ≤ b ∧ b ≤ 4) (hd : 0 ≤ d ∧ d ≤ 3) (h1 : 1 ≤ k) (h2 : (k : Int) ≤ 6 + a) : pts a b 1 d (6 + a - k) v = -(dnK v k) := by
  have hp : Played a b 1 d (6 + a - k) := ⟨ha, hb, by omega, hd, by omega, by omega⟩
  rw [hp.pts]
  unfold ptsOf dnK
  rw [leI_not.2 (by omega), show Nat.beq k 0 = false by cases k with | zero => omega | succ k => rfl, show -(6 + a - k - (6 + a)) = (k : Int) by omega]
  rfl
theorem pLoop_yes {a b d : Int} (v : Bool) (ha : 1 ≤ a ∧ a ≤ 7) (hb : 0 ≤ b ∧ b ≤ 4) (hd : 0 ≤ d ∧ d ≤ 3) : ∀ (m k : Nat), 1 ≤ k → (m : Int) + k = 7 + a → pLoop a b d v m k (-(dnK v (k - 1))) = yes := by
  have hp : Played a b 1 d 0 := ⟨ha, hb, by omega, hd, by omega, by omega⟩
  intro m
  induction m with
  | zero => intro k _ _; unfold pLoop; rw [hp.right]; rfl
  | succ m ih =>
    intro k h1 h2
    have hk : Played a b 1 d (6 + a - k) := ⟨ha, hb, by omega, hd, by omega, by omega⟩
    have hb1 := dnK_b v (k - 1) (by omega)
    have hs := dnK_succ v (k - 1)
    rw [show k - 1 + 1 = k by omega] at hs
    have hb2 := dnK_b v k (by omega)
    unfold pLoop
    rw [hp.right, hp.con, hk.ptsE, pts_dn v ha hb hd h1 (by omega), IntWalk.i64_in _ (by omega), show -(dnK v (k - 1)) - each v k = -(dnK v k) by omega]
    have := ih (k + 1) (by omega) (by omega)
    simp only [Nat.add_sub_cancel] at this
    rw [this]
    simp
def cmpB (a b t : Int) (v : Bool) : Bool := bif leI (6 + a) t then ptsOf a b 0 t v == ptsOf (a - 1) b 0 t v + (bif a == (gAt b).toI then (bif v then 450 else 250) else 0) else true
theorem cmp_all : ((rng 2 4).all fun a => (rng 0 5).all fun b => (gAt b).isI .u8 && (rng 0 14).all fun t => cmpB a b t false && cmpB a b t true) = true := by kernel_rfl
theorem pTree_yes {a b r d t : Int} (h : Played a b r d t) (h2 : 2 ≤ a) (v : Bool) : pTree a b r d t v = yes := by
  obtain ⟨g1, g2, g3, g4, g5⟩ := id h
  have hL : pLoop a b d v (6 + a).toNat 1 0 = yes := pLoop_yes v g1 g2 g4 (6 + a).toNat 1 (by omega) (by omega)
  unfold pTree
  rw [h.right, bif_t rfl, hL]
  by_cases hm : t ≥ 6 + a
  · rw [decide_eq_true hm, bif_t rfl]
    cases h67 : (a == 6 || a == 7)
    · rw [bif_f rfl]
      simp only [Bool.or_eq_false_iff, beq_eq_false_iff_ne, ne_eq] at h67
      have p1 : Played a b 0 d t := ⟨g1, g2, by omega, g4, g5⟩
      have p2 : Played (a - 1) b 0 d t := ⟨by omega, g2, by omega, g4, g5⟩
      have hc := List.all_eq_true.1 (List.all_eq_true.1 cmp_all a (mem_rng (by omega) (by omega))) b (mem_rng (by omega) (by omega))
      simp only [Bool.and_eq_true] at hc
      obtain ⟨hi, hc⟩ := hc
      have hc := List.all_eq_true.1 hc t (mem_rng (by omega) (by omega))
      simp only [Bool.and_eq_true] at hc
      have hcv : cmpB a b t v = true := by cases v; exact hc.1; exact hc.2
      unfold cmpB at hcv
      rw [leI_iff.2 hm, cond_true, beq_iff_eq] at hcv
      have lim := pts_b a b 0 d t v p1.con
      rw [p1.pts, hcv] at lim
      unfold pIf pCmp
      rw [p1.con, p2.con, hi, leI_iff.2 g2.1, decide_eq_true (by omega : b < 5), show Nat.ble (b.toNat * 1 + 1) 5 = true from Nat.ble_eq_true_of_le (by omega), p1.ptsE, p2.ptsE, p1.pts, p2.pts, hL]
      simp only [Bool.and_self, cond_true, beq_self_eq_true, Bool.not_true, cond_false]
      cases hg : a == (gAt b).toI
      · rw [hg] at hcv lim
        simp only [cond_false] at hcv lim ⊢
        rw [IntWalk.i64_in _ (by omega), hcv]
        simp
      · rw [hg] at hcv lim
        simp only [cond_true] at hcv lim ⊢
        rw [IntWalk.i64_in _ (by omega), hcv]
        simp
    · rfl
  · rw [decide_eq_false hm]; rfl
theorem partsAll {a : Int} (v : Bool) (h1 : 2 ≤ a) (h2 : a ≤ 7) : Parts a v := by
  have ha : a = 2 ∨ a = 3 ∨ a = 4 ∨ a = 5 ∨ a = 6 ∨ a = 7 := by omega
  rcases ha with rfl | rfl | rfl | rfl | rfl | rfl <;> cases v
  · exact parts2f
  · exact parts2t
  · exact parts3f
  · exact parts3t
  · exact parts4f
  · exact parts4t
  · exact parts5f
  · exact parts5t
  · exact parts6f
  · exact parts6t
  · exact parts7f
  · exact parts7t
/-- **P17.2**: ScoreParts is true. -/
theorem parts_iso (n : Int) (v : Bool) (h : u32B n = true) : Iso C5 8 [.int .u32 n, .bool v] (.bool true) := by
  obtain ⟨l1, _⟩ := made_lim n h
  by_cases h2 : 2 ≤ mA n
  · rcases made_or n h with ⟨h1, _⟩ | hp
    · omega
    · have e := partsAll v h2 l1.2 n
      rw [h, beq_self_eq_true, Bool.and_self, cond_true, pTree_yes hp h2] at e
      exact (calls_iso (okp (mA n)) e).at rfl rfl
  · have e := parts_low (mA n) (by omega) n v
    rw [h, beq_self_eq_true, Bool.and_self, cond_true] at e
    exact (calls_iso (okp (mA n)) e).at rfl rfl
end Go.Proofs.YtfkpbchdapccmaaDoor
