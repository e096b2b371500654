/- Chapter 17: all seats turned. -/
import Derived.Test.YtfkpbchdapccmaaDoorGrows
namespace Go.Proofs.YtfkpbchdapccmaaDoor
open Go Go.Ev

def turnV (w : Int) : Int := IntKind.u8.wrap (BitVec.ofInt IntKind.u8.bits (w.fdiv (2 ^ min (Int.toNat 1) IntKind.u8.bits)) ||| BitVec.ofInt IntKind.u8.bits (IntKind.u8.wrap (BitVec.ofInt IntKind.u8.bits (IntKind.u8.wrap (w * 2 ^ min (Int.toNat 1) IntKind.u8.bits)) &&& BitVec.ofInt IntKind.u8.bits 2).toNat)).toNat
def onD (d k : Int) : Int := (IntKind.u8.wrap (d + k)).tmod 4
def uMid (a b r d t w : Int) : Option AV :=
  bif conB a b r (onD d 1) && u8B (turnV w) then bif conB a b r (onD d 2) && u8B w then bif u8B w && u8B d then bif conB a b r d then
    bif scoreE a b r (onD d 1) t (turnV w) == 0 then bif scoreE a b r (onD d 2) t w == 0 then bif ptsE a b r d t == 0 then
    bif scoreK a b r (onD d 1) t (turnV w) == IntKind.i64.wrap (0 - scoreK a b r d t w) then bif scoreK a b r (onD d 2) t w == scoreK a b r d t w then
      bif scoreK a b r d t w == pts a b r d t (vul w d) then bif (scoreK a b r d t w == pts a b r d t (vul w d)) == (d.tmod 2 == 0) then yes else no
      else bif scoreK a b r d t w == IntKind.i64.wrap (0 - pts a b r d t (vul w d)) then bif (scoreK a b r d t w == pts a b r d t (vul w d)) == (d.tmod 2 == 0) then yes else no else no
    else no else no else no else no else no
  else none else none else none else none
def uTree (a b r d t w : Int) : Option AV :=
  bif conB a b r d && u8B w then bif scoreE a b r d t w != 0 then no else
    bif a == 0 then bif scoreK a b r d t w != 0 then no else bif a == 0 then yes else uMid a b r d t w
    else bif a == 0 then yes else uMid a b r d t w
  else none
theorem t7 (n v : Int) : (calls C5 60 7 [.int .u32 n, .int .u8 v]).run = bif u32B n then uTree (mA n) (mB n) (mR n) (mD n) (mT n) (v.tmod 4) else none := by kernel_rfl

theorem Played.score {a b r d t w : Int} (h : Played a b r d t) (hw : w ≤ 3) : scoreK a b r d t w = (bif d == 1 || d == 3 then -(ptsOf a b r t (vul w d)) else ptsOf a b r t (vul w d)) := by
  unfold scoreK okS
  rw [h.res, leI_iff.2 hw, h.pts]; rfl
theorem Played.scoreE {a b r d t w : Int} (h : Played a b r d t) (hw : w ≤ 3) : scoreE a b r d t w = 0 := by
  unfold Go.Proofs.YtfkpbchdapccmaaDoor.scoreE okS
  rw [h.res, leI_iff.2 hw]; rfl
theorem Played.at {a b r d d' t : Int} (h : Played a b r d t) (h' : 0 ≤ d' ∧ d' ≤ 3) : Played a b r d' t := ⟨h.1, h.2.1, h.2.2.1, h', h.2.2.2.2⟩
theorem not_zero {p : Int} (h : ¬ p = 0) : (-p == p) = false := by simp only [beq_eq_false_iff_ne, ne_eq]; omega
theorem uMid_yes {a b r d t w : Int} (h : Played a b r d t) (h0 : 0 ≤ w) (hw : w ≤ 3) : uMid a b r d t w = yes := by
  have nz : ∀ v, ¬ ptsOf a b r t v = 0 := fun v => by
    have hb := grow_of h v
    simp only [growB, Bool.and_eq_true, Bool.not_eq_true', beq_eq_false_iff_ne, ne_eq] at hb
    exact hb.1.1.1.1.2
  have lim : ∀ v, -20000 ≤ ptsOf a b r t v ∧ ptsOf a b r t v ≤ 20000 := fun v => by rw [← h.pts]; exact pts_b a b r d t v h.con
  have wr : ∀ p : Int, -20000 ≤ p ∧ p ≤ 20000 → IntKind.i64.wrap (0 - p) = -p := fun p hp => by rw [IntWalk.i64_in _ (by omega)]; omega
  have wr' : ∀ p : Int, -20000 ≤ p ∧ p ≤ 20000 → IntKind.i64.wrap (0 - -p) = p := fun p hp => by rw [IntWalk.i64_in _ (by omega)]; omega
  have key : ∀ (d' d'' w' : Int), onD d 1 = d' → onD d 2 = d'' → turnV w = w' → (0 ≤ d' ∧ d' ≤ 3) → (0 ≤ d'' ∧ d'' ≤ 3) → 0 ≤ w' → w' ≤ 3 → vul w' d' = vul w d → vul w d'' = vul w d →
      (d' == 1 || d' == 3) = !(d == 1 || d == 3) → (d'' == 1 || d'' == 3) = (d == 1 || d == 3) → (d.tmod 2 == 0) = !(d == 1 || d == 3) → uMid a b r d t w = yes := by
    intro d' d'' w' e1 e2 e3 g1 g2 g3 g3' g4 g5 g6 g7 g8
    have hu : u8B w = true := by simp only [u8B, Bool.and_eq_true, leI_iff]; omega
    have hu' : u8B w' = true := by simp only [u8B, Bool.and_eq_true, leI_iff]; omega
    have p1 := h.at g1
    have p2 := h.at g2
    unfold uMid
    rw [e1, e2, e3, p1.con, p2.con, h.con, hu, hu', conB_d h.con, p1.scoreE g3', p2.scoreE hw, h.ptsE, p1.score g3', p2.score hw, h.score hw, h.pts, g4, g5, g6, g7, g8]
    have hn := nz (vul w d)
    have hl := lim (vul w d)
    generalize ptsOf a b r t (vul w d) = p at hn hl
    cases (d == 1 || d == 3)
    · simp only [Bool.not_false, cond_true, cond_false, wr p hl, beq_self_eq_true, Bool.and_self]
    · simp only [Bool.not_true, cond_true, cond_false, wr p hl, wr' p hl, beq_self_eq_true, Bool.and_self, not_zero hn]
  obtain ⟨d0, d1⟩ := h.2.2.2.1
  rcases four d0 d1 with rfl | rfl | rfl | rfl <;> rcases four h0 hw with rfl | rfl | rfl | rfl <;> exact key _ _ _ rfl rfl rfl (by decide) (by decide) (by decide) (by decide) rfl rfl rfl rfl rfl
/-- **P17.3, P17.5**: ScoreTurns is true. -/
theorem turns_run (n v : Int) (h : u32B n = true) (hv : 0 ≤ v) : (calls C5 60 7 [.int .u32 n, .int .u8 v]).run = some (.bool true) := by
  rw [t7, h, tmod_nn hv]
  have hw : 0 ≤ v % 4 ∧ v % 4 ≤ 3 := by omega
  generalize v % 4 = w at hw
  rcases made_or n h with ⟨h1, h2, h3, h4, h5⟩ | hp
  · rw [h1, h2, h3, h4, h5]
    rcases four hw.1 hw.2 with rfl | rfl | rfl | rfl <;> rfl
  · unfold uTree
    rw [hp.con, show u8B w = true by simp only [u8B, Bool.and_eq_true, leI_iff]; omega, hp.scoreE hw.2, hp.a0, uMid_yes hp hw.1 hw.2]
    rfl
end Go.Proofs.YtfkpbchdapccmaaDoor
