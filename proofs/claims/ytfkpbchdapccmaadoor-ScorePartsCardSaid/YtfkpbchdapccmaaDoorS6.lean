/- Chapter 17: Points, as the program has them; texts. -/
import Derived.Test.YtfkpbchdapccmaaDoorS5
import Derived.IntWalk
namespace Go.Proofs.YtfkpbchdapccmaaDoor
open Go Go.Ev

def two (n e : Int) : AV := .tup [.int .i64 n, .int .i64 e]
def conB (a b r d : Int) : Bool := u8B a && (u8B b && (u8B r && u8B d))
theorem conB_iff {a b r d : Int} (h : conB a b r d = true) : (0 ≤ a ∧ a ≤ 255) ∧ (0 ≤ b ∧ b ≤ 255) ∧ (0 ≤ r ∧ r ≤ 255) ∧ (0 ≤ d ∧ d ≤ 255) := by
  simp only [conB, Bool.and_eq_true] at h
  exact ⟨u8B_iff h.1, u8B_iff h.2.1, u8B_iff h.2.2.1, u8B_iff h.2.2.2⟩
theorem conB_a {a b r d : Int} (h : conB a b r d = true) : u8B a = true := by
  simp only [conB, Bool.and_eq_true] at h; exact h.1
theorem conB_d {a b r d : Int} (h : conB a b r d = true) : u8B d = true := by
  simp only [conB, Bool.and_eq_true] at h; exact h.2.2.2
theorem right_iff {a b r d : Int} (h : conB a b r d = true) (h0 : (a == 0) = false) : right a b r d = true ↔ (1 ≤ a ∧ a ≤ 7) ∧ (0 ≤ b ∧ b ≤ 4) ∧ (0 ≤ r ∧ r ≤ 2) ∧ (0 ≤ d ∧ d ≤ 3) := by
  have hb := conB_iff h
  have h0' : ¬ a = 0 := by simpa using h0
  simp only [right, h0, cond_false, Bool.and_eq_true, decide_eq_true_eq]
  omega
theorem right_zero {b r d : Int} : right 0 b r d = true ↔ b = 0 ∧ r = 0 ∧ d = 0 := by
  simp [right]
theorem isRes_iff {a b r d t : Int} : isRes a b r d t = true ↔ right a b r d = true ∧ 0 ≤ t ∧ t ≤ 13 ∧ (a = 0 → t = 0) := by
  simp only [isRes, Bool.and_eq_true, leI_iff, Bool.or_eq_true, Bool.not_eq_true', beq_iff_eq, beq_eq_false_iff_ne, ne_eq]
  constructor
  · rintro ⟨h1, h2, h3, h4⟩; exact ⟨h1, h2, h3, fun e => h4.resolve_left (fun x => x e)⟩
  · rintro ⟨h1, h2, h3, h4⟩
    refine ⟨h1, h2, h3, ?_⟩
    by_cases e : a = 0
    · exact .inr (h4 e)
    · exact .inl e
theorem need_eq {a b r d : Int} (h : right a b r d = true) (h0 : (a == 0) = false) : need a b r d = 6 + a := by
  unfold need; rw [h0, h]; rfl

theorem t18 (a b r d t : Int) (v : Bool) : (calls C2 60 18 [con a b r d, .int .i64 t, .bool v]).run = bif u8B a then bif u8B a then
    bif !isRes a b r d t then some (two 0 2)
    else bif a == 0 then some (two 0 0)
      else bif decide (IntKind.i64.wrap (t - need a b r d) ≥ 0) then
          bif madeB a b r (IntKind.i64.wrap (t - need a b r d)) then some (two (madeK a b r v + IntKind.i64.wrap (t - need a b r d) * overK b r v) 0) else none
        else bif downB r (IntKind.i64.wrap (0 - IntKind.i64.wrap (t - need a b r d))) then some (two (IntKind.i64.wrap (0 - downK r (IntKind.i64.wrap (0 - IntKind.i64.wrap (t - need a b r d))) v)) 0) else none
  else none else none := by kernel_rfl
theorem bif_t {α : Type} {b : Bool} {x y : α} (h : b = true) : (bif b then x else y) = x := by rw [h]; rfl
theorem bif_f {α : Type} {b : Bool} {x y : α} (h : b = false) : (bif b then x else y) = y := by rw [h]; rfl
theorem downK_bound {r m : Int} (v : Bool) (h : downB r m = true) : 0 ≤ downK r m v + 200 ∧ downK r m v ≤ 10000 := by
  simp only [downB, Bool.and_eq_true, leI_iff] at h
  obtain ⟨m1, m2⟩ := bif_max m (by omega) (by omega)
  rcases three h.1.1.1 h.1.1.2 with rfl | rfl | rfl <;> cases v <;> simp only [downK, byI, beq_self_eq_true, cond_true, cond_false, Int.reduceBEq, (by decide : ((1 : Int) == 0) = false), (by decide : ((2 : Int) == 0) = false), (by decide : ((2 : Int) == 1) = false)] <;> omega
theorem e18 (a b r d t : Int) (v : Bool) (h : conB a b r d = true) : (calls C2 60 18 [con a b r d, .int .i64 t, .bool v]).run = some (two (pts a b r d t v) (ptsE a b r d t)) := by
  rw [t18, bif_t (conB_a h), bif_t (conB_a h)]
  cases hr : isRes a b r d t
  · rw [bif_t (b := !false) rfl]; unfold pts ptsE; rw [hr]; rfl
  · rw [bif_f (b := !true) rfl]
    obtain ⟨hr1, h1, h2, h3⟩ := isRes_iff.1 hr
    cases h0 : a == 0
    · obtain ⟨ha, hb, hc, hd⟩ := (right_iff h h0).1 hr1
      rw [bif_f rfl, need_eq hr1 h0, IntWalk.i64_in (t - (6 + a)) (by omega)]
      unfold pts ptsE ptsOf
      rw [hr, bif_t rfl, bif_t rfl, h0, bif_f rfl]
      by_cases hm : 0 ≤ t - (6 + a)
      · rw [bif_t (decide_eq_true hm), bif_t (by simp only [madeB, Bool.and_eq_true, leI_iff]; omega), bif_t (leI_iff.2 hm)]
      · have hm' : leI 0 (t - (6 + a)) = false := leI_not.2 (by omega)
        have e : 0 - (t - (6 + a)) = -(t - (6 + a)) := by omega
        have hb : downB r (-(t - (6 + a))) = true := by simp only [downB, Bool.and_eq_true, leI_iff]; omega
        have := downK_bound v hb
        rw [bif_f (decide_eq_false (by omega)), bif_f hm', IntWalk.i64_in (0 - (t - (6 + a))) (by omega), e, bif_t hb, IntWalk.i64_in _ (by omega)]
        rw [show 0 - downK r (-(t - (6 + a))) v = -downK r (-(t - (6 + a))) v by omega]
    · rw [bif_t rfl]; unfold pts ptsE; rw [hr, h0]; rfl
def sPts : List AV → T AV
  | [.agg [.int .u8 a, .int .u8 b, .int .u8 r, .int .u8 d], .int .i64 t, .bool v] => .chk (conB a b r d) (.leaf (two (pts a b r d t v) (ptsE a b r d t)))
  | _ => .fail
theorem sPts_run {C : Ctx} {n : Nat} {f : FuncId} (h : ∀ a b r d t v, conB a b r d = true → (calls C n f [con a b r d, .int .i64 t, .bool v]).run = some (two (pts a b r d t v) (ptsE a b r d t))) : ∀ args v, (sPts args).run = some v → (calls C n f args).run = some v := by
  intro args v hr
  unfold sPts at hr
  split at hr
  · obtain ⟨h1, hr⟩ := T.of_chk hr
    cases Option.some.inj hr
    exact h _ _ _ _ _ _ h1
  · simp [T.run] at hr
end Go.Proofs.YtfkpbchdapccmaaDoor
