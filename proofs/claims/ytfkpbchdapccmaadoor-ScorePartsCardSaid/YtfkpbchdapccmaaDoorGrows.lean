/- Chapter 17: one trick more scores more; and the like. -/
import Derived.Test.YtfkpbchdapccmaaDoorG
namespace Go.Proofs.YtfkpbchdapccmaaDoor
open Go Go.Ev

def yes : Option AV := some (.bool true)
def no : Option AV := some (.bool false)
def gEnd (a b r d t : Int) : Option AV :=
  bif conB a b r d then bif conB a b r d then bif ptsE a b r d t == 0 then bif ptsE a b r d t == 0 then
    bif decide (t ≥ need a b r d) then bif decide (pts a b r d t true ≥ pts a b r d t false) then yes else
        bif !decide (t ≥ need a b r d) then bif decide (pts a b r d t true < pts a b r d t false) then yes else no else no
      else bif !decide (t ≥ need a b r d) then bif decide (pts a b r d t true < pts a b r d t false) then yes else no else no
  else no else no else none else none
def gMid (a b r d t : Int) (v : Bool) : Option AV :=
  bif u8B a then bif !(decide (pts a b r d t v > 0) == decide (t ≥ need a b r d)) then no else
    bif decide (r < 2) then
      bif conB a b (IntKind.u8.wrap (r + 1)) d then
        bif !(ptsE a b (IntKind.u8.wrap (r + 1)) d t == 0) then no else
        bif pts a b (IntKind.u8.wrap (r + 1)) d t v == pts a b r d t v then no else
        bif !(decide (pts a b (IntKind.u8.wrap (r + 1)) d t v > pts a b r d t v) == decide (t ≥ need a b r d)) then no else gEnd a b r d t
      else none
    else gEnd a b r d t
  else none
def gTree (a b r d t : Int) (v : Bool) : Option AV :=
  bif conB a b r d then bif !(ptsE a b r d t == 0) then no else
    bif (pts a b r d t v).tmod 10 != 0 then no else
    bif decide (pts a b r d t v < -7600) then no else bif decide (pts a b r d t v > 3160) then no else
    bif !((pts a b r d t v == 0) == (a == 0)) then no else
    bif a == 0 then yes else
    bif decide (t < 13) then
      bif conB a b r d then bif !(ptsE a b r d (IntKind.i64.wrap (t + 1)) == 0) then no else
        bif decide (pts a b r d (IntKind.i64.wrap (t + 1)) v ≤ pts a b r d t v) then no else gMid a b r d t v
      else none
    else gMid a b r d t v
  else none
theorem t6 (n : Int) (v : Bool) : (calls C5 60 6 [.int .u32 n, .bool v]).run = bif u32B n then gTree (mA n) (mB n) (mR n) (mD n) (mT n) v else none := by kernel_rfl

/-- What is asked of the numbers. -/
def growB (a b r t : Int) (v : Bool) : Bool :=
  let p := ptsOf a b r t v
  let q := ptsOf a b (r + 1) t v
  (p % 10 == 0) && leI (-7600) p && leI p 3160 && !(p == 0) && (leI 13 t || !(leI (ptsOf a b r (t + 1) v) p)) && (decide (p > 0) == leI (6 + a) t) &&
    (leI 2 r || (!(q == p) && (decide (q > p) == leI (6 + a) t))) && (bif leI (6 + a) t then leI (ptsOf a b r t false) (ptsOf a b r t true) else !(leI (ptsOf a b r t false) (ptsOf a b r t true)))
def growA (a : Nat) : Bool := (rng 0 5).all fun b => (rng 0 3).all fun r => (rng 0 14).all fun t => growB a b r t false && growB a b r t true
theorem growA1 : growA 1 = true := by kernel_rfl
theorem growA2 : growA 2 = true := by kernel_rfl
theorem growA3 : growA 3 = true := by kernel_rfl
theorem growA4 : growA 4 = true := by kernel_rfl
theorem growA5 : growA 5 = true := by kernel_rfl
theorem growA6 : growA 6 = true := by kernel_rfl
theorem growA7 : growA 7 = true := by kernel_rfl
theorem grow_of {a b r d t : Int} (h : Played a b r d t) (v : Bool) : growB a b r t v = true := by
  obtain ⟨h1, h2, h3, h4, h5, h6⟩ := h
  have key : ∀ k : Nat, a = k → growA k = true → growB a b r t v = true := fun k hk hg => by
    subst hk
    have := List.all_eq_true.1 (List.all_eq_true.1 (List.all_eq_true.1 hg b (mem_rng (by omega) (by omega))) r (mem_rng (by omega) (by omega))) t (mem_rng (by omega) (by omega))
    simp only [Bool.and_eq_true] at this
    cases v
    · exact this.1
    · exact this.2
  have ha : a = (1 : Nat) ∨ a = (2 : Nat) ∨ a = (3 : Nat) ∨ a = (4 : Nat) ∨ a = (5 : Nat) ∨ a = (6 : Nat) ∨ a = (7 : Nat) := by omega
  rcases ha with e | e | e | e | e | e | e
  · exact key 1 e growA1
  · exact key 2 e growA2
  · exact key 3 e growA3
  · exact key 4 e growA4
  · exact key 5 e growA5
  · exact key 6 e growA6
  · exact key 7 e growA7

theorem gEnd_yes {a b r d t : Int} (h : Played a b r d t) : gEnd a b r d t = yes := by
  have hb := grow_of h true
  simp only [growB, Bool.and_eq_true] at hb
  obtain ⟨_, hb⟩ := hb
  unfold gEnd
  rw [h.con, h.ptsE, need_eq h.right h.a0, h.pts, h.pts]
  by_cases hm : 6 + a ≤ t
  · rw [leI_iff.2 hm] at hb
    have hb := leI_iff.1 hb
    rw [decide_eq_true (by omega : t ≥ 6 + a), decide_eq_true (by omega : ptsOf a b r t true ≥ ptsOf a b r t false)]
    rfl
  · rw [leI_not.2 (by omega)] at hb
    simp only [cond_false, Bool.not_eq_true'] at hb
    have hb := leI_not.1 hb
    rw [decide_eq_false (by omega : ¬ t ≥ 6 + a), decide_eq_true (by omega : ptsOf a b r t true < ptsOf a b r t false)]
    rfl
theorem gMid_yes {a b r d t : Int} (h : Played a b r d t) (v : Bool) : gMid a b r d t v = yes := by
  have hb := grow_of h v
  simp only [growB, Bool.and_eq_true] at hb
  obtain ⟨⟨⟨_, hp⟩, hq⟩, _⟩ := hb
  have e1 : (decide (t ≥ 6 + a)) = leI (6 + a) t := rfl
  unfold gMid
  rw [conB_a h.con, need_eq h.right h.a0, h.pts, e1, bif_t rfl, hp, bif_f (b := !true) rfl]
  by_cases hr : r < 2
  · obtain ⟨h1, h2, h3, h4, h5⟩ := id h
    have h' : Played a b (r + 1) d t := ⟨h1, h2, by omega, h4, h5⟩
    rw [leI_not.2 hr] at hq
    simp only [Bool.false_or, Bool.and_eq_true, Bool.not_eq_true'] at hq
    rw [bif_t (decide_eq_true hr), u8_in _ (by omega), h'.con, h'.ptsE, h'.pts, gEnd_yes h, hq.1, hq.2]
    rfl
  · rw [bif_f (decide_eq_false hr), gEnd_yes h]
theorem gTree_yes {a b r d t : Int} (h : Played a b r d t) (v : Bool) : gTree a b r d t v = yes := by
  have hb := grow_of h v
  simp only [growB, Bool.and_eq_true, beq_iff_eq, leI_iff, Bool.not_eq_true', beq_eq_false_iff_ne, ne_eq] at hb
  obtain ⟨⟨⟨⟨⟨⟨⟨k1, k2⟩, k3⟩, k4⟩, k5⟩, _⟩, _⟩, _⟩ := hb
  unfold gTree
  have e0 : (ptsOf a b r t v == 0) = false := by simpa using k4
  have e1 : ((ptsOf a b r t v).tmod 10 != 0) = false := by
    have : (ptsOf a b r t v).tmod 10 = 0 := by
      rw [Int.tmod_eq_emod]
      split <;> omega
    rw [this]; rfl
  rw [h.con, h.ptsE, h.pts, e1, decide_eq_false (by omega : ¬ ptsOf a b r t v < -7600), decide_eq_false (by omega : ¬ ptsOf a b r t v > 3160), e0, h.a0]
  rw [gMid_yes h]
  by_cases ht : t < 13
  · obtain ⟨h1, h2, h3, h4, h5⟩ := id h
    have h' : Played a b r d (t + 1) := ⟨h1, h2, h3, h4, by omega⟩
    rw [leI_not.2 ht] at k5
    simp only [Bool.false_or, Bool.not_eq_true'] at k5
    have k5 := leI_not.1 k5
    rw [decide_eq_true ht, IntWalk.i64_in (t + 1) (by omega), h'.ptsE, h'.pts, decide_eq_false (by omega : ¬ ptsOf a b r (t + 1) v ≤ ptsOf a b r t v)]
    rfl
  · rw [decide_eq_false ht]; rfl
/-- **P17.2, P17.5**: ScoreGrows is true. -/
theorem grows_run (n : Int) (v : Bool) (h : u32B n = true) : (calls C5 60 6 [.int .u32 n, .bool v]).run = some (.bool true) := by
  rw [t6, h]
  rcases made_or n h with ⟨h1, h2, h3, h4, h5⟩ | hp
  · rw [h1, h2, h3, h4, h5]; cases v <;> rfl
  · exact gTree_yes hp v
end Go.Proofs.YtfkpbchdapccmaaDoor
