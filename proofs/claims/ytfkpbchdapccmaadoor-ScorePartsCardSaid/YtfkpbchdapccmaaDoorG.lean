/- Chapter 17: results made of a number; what is the same. -/
import Derived.Test.YtfkpbchdapccmaaDoorS9
namespace Go.Proofs.YtfkpbchdapccmaaDoor
open Go Go.Ev

def mA (n : Int) : Int := n % 8
def mB (n : Int) : Int := bif mA n == 0 then 0 else n / 8 % 5
def mR (n : Int) : Int := bif mA n == 0 then 0 else n / 8 / 5 % 3
def mD (n : Int) : Int := bif mA n == 0 then 0 else n / 8 / 15 % 4
def mT (n : Int) : Int := bif mA n == 0 then 0 else n / 8 / 60 % 14
def u32B (n : Int) : Bool := leI 0 n && leI n 4294967295
theorem u32B_iff {n : Int} (h : u32B n = true) : 0 ≤ n ∧ n ≤ 4294967295 := by simpa [u32B, leI] using h
theorem t14 (n : Int) : (calls C4 60 14 [.int .u32 n]).run = bif IntKind.u8.wrap (n.tmod 8) == 0 then some (.tup [con (IntKind.u8.wrap (n.tmod 8)) 0 0 0, .int .i64 0]) else
    some (.tup [con (IntKind.u8.wrap (n.tmod 8)) (IntKind.u8.wrap ((IntKind.u32.wrap (n.tdiv 8)).tmod 5)) (IntKind.u8.wrap ((IntKind.u32.wrap ((IntKind.u32.wrap (n.tdiv 8)).tdiv 5)).tmod 3)) (IntKind.u8.wrap ((IntKind.u32.wrap ((IntKind.u32.wrap (n.tdiv 8)).tdiv 15)).tmod 4)),
      .int .i64 (IntKind.i64.wrap ((IntKind.u32.wrap ((IntKind.u32.wrap (n.tdiv 8)).tdiv 60)).tmod 14))]) := by kernel_rfl
theorem u8_in (n : Int) (h : 0 ≤ n ∧ n ≤ 255) : IntKind.u8.wrap n = n := by
  show (n % (256 : Int)) = n
  omega
theorem u32_in (n : Int) (h : 0 ≤ n ∧ n ≤ 4294967295) : IntKind.u32.wrap n = n := by
  show (n % (4294967296 : Int)) = n
  omega
theorem tmod_nn {n k : Int} (h : 0 ≤ n) : n.tmod k = n % k := Int.tmod_eq_emod_of_nonneg h
theorem tdiv_nn {n k : Int} (h : 0 ≤ n) : n.tdiv k = n / k := Int.tdiv_eq_ediv_of_nonneg h
theorem e14 (n : Int) (h : u32B n = true) : (calls C4 60 14 [.int .u32 n]).run = some (.tup [con (mA n) (mB n) (mR n) (mD n), .int .i64 (mT n)]) := by
  obtain ⟨h0, h1⟩ := u32B_iff h
  rw [t14, tmod_nn h0, tdiv_nn h0, u32_in (n / 8) (by omega), tmod_nn (by omega : 0 ≤ n / 8), tdiv_nn (by omega : 0 ≤ n / 8), tdiv_nn (by omega : 0 ≤ n / 8), tdiv_nn (by omega : 0 ≤ n / 8), u32_in (n / 8 / 5) (by omega), u32_in (n / 8 / 15) (by omega), u32_in (n / 8 / 60) (by omega),
    tmod_nn (by omega : 0 ≤ n / 8 / 5), tmod_nn (by omega : 0 ≤ n / 8 / 15), tmod_nn (by omega : 0 ≤ n / 8 / 60), u8_in (n % 8) (by omega), u8_in (n / 8 % 5) (by omega), u8_in (n / 8 / 5 % 3) (by omega), u8_in (n / 8 / 15 % 4) (by omega), IntWalk.i64_in (n / 8 / 60 % 14) (by omega)]
  unfold mB mR mD mT
  have e : (n % 8 == 0) = (mA n == 0) := rfl
  rw [e]
  cases mA n == 0 <;> rfl
def sMk : List AV → T AV
  | [.int .u32 n] => .chk (u32B n) (.leaf (.tup [con (mA n) (mB n) (mR n) (mD n), .int .i64 (mT n)]))
  | _ => .fail
theorem sMk_run : ∀ args v, (sMk args).run = some v → (calls C4 60 14 args).run = some v := by
  intro args v hr
  unfold sMk at hr
  split at hr
  · obtain ⟨h1, hr⟩ := T.of_chk hr
    cases Option.some.inj hr
    exact e14 _ h1
  · simp [T.run] at hr
/-- A result of somebody's play. -/
def Played (a b r d t : Int) : Prop := (1 ≤ a ∧ a ≤ 7) ∧ (0 ≤ b ∧ b ≤ 4) ∧ (0 ≤ r ∧ r ≤ 2) ∧ (0 ≤ d ∧ d ≤ 3) ∧ 0 ≤ t ∧ t ≤ 13
theorem made_or (n : Int) (h : u32B n = true) : (mA n = 0 ∧ mB n = 0 ∧ mR n = 0 ∧ mD n = 0 ∧ mT n = 0) ∨ Played (mA n) (mB n) (mR n) (mD n) (mT n) := by
  obtain ⟨h0, h1⟩ := u32B_iff h
  unfold mB mR mD mT
  cases e : mA n == 0
  · right
    have e' : ¬ mA n = 0 := by simpa using e
    simp only [cond_false]
    unfold mA at e' ⊢
    unfold Played
    omega
  · left
    have e' : mA n = 0 := by simpa using e
    exact ⟨e', rfl, rfl, rfl, rfl⟩
theorem Played.con {a b r d t : Int} (h : Played a b r d t) : conB a b r d = true := by
  obtain ⟨h1, h2, h3, h4, _⟩ := h
  simp only [conB, u8B, Bool.and_eq_true, leI_iff]; omega
theorem Played.a0 {a b r d t : Int} (h : Played a b r d t) : (a == 0) = false := by
  obtain ⟨h1, _⟩ := h
  simp; omega
theorem Played.right {a b r d t : Int} (h : Played a b r d t) : right a b r d = true := by
  obtain ⟨h1, h2, h3, h4, _⟩ := id h
  exact (right_iff h.con h.a0).2 ⟨h1, h2, h3, h4⟩
theorem Played.res {a b r d t : Int} (h : Played a b r d t) : isRes a b r d t = true :=
  isRes_iff.2 ⟨h.right, h.2.2.2.2.1, h.2.2.2.2.2, fun e => by have := h.1; omega⟩
theorem Played.pts {a b r d t : Int} (h : Played a b r d t) (v : Bool) : pts a b r d t v = ptsOf a b r t v := by
  show (bif isRes a b r d t then (bif a == 0 then 0 else ptsOf a b r t v) else 0) = _
  rw [h.res, h.a0]; rfl
theorem Played.ptsE {a b r d t : Int} (h : Played a b r d t) : ptsE a b r d t = 0 := ptsE_res h.res

/-! ### 'same' -/
theorem t11 (a b r d t v : Int) : (calls C4 60 11 [con a b r d, .int .i64 t, .int .u8 v]).run = bif conB a b r d then bif conB a b r d then bif conB a b r d && u8B v then bif conB a b r d && u8B v then
    bif !right a b r d == right a b r d then some (.bool false) else bif u8B a then bif u8B a then bif need a b r d != need a b r d then some (.bool false) else
    bif u8B v && u8B d then bif u8B v && u8B d then bif !vul v d == vul v d then some (.bool false) else
    bif pts a b r d t (v.tmod 2 == 1) != pts a b r d t (v.tmod 2 == 1) then some (.bool false) else bif ptsE a b r d t != ptsE a b r d t then some (.bool false) else
    bif scoreK a b r d t v != scoreK a b r d t v then some (.bool false) else bif scoreE a b r d t v != scoreE a b r d t v then some (.bool false) else
    bif conB a b r d then bif conB a b r d then bif conB a b r d then bif conB a b r d then
    bif text a b r d == text a b r d then bif textE a b r d == textE a b r d then bif writeK a b r d t == writeK a b r d t then some (.bool (writeE a b r d t == writeE a b r d t)) else some (.bool false) else some (.bool false) else some (.bool false)
    else none else none else none else none else none else none else none else none else none else none else none else none := by kernel_rfl
theorem e11 (a b r d t v : Int) (h : conB a b r d = true) (hv : u8B v = true) : (calls C4 60 11 [con a b r d, .int .i64 t, .int .u8 v]).run = some (.bool true) := by
  rw [t11, h, hv, conB_a h, conB_d h]
  simp only [Bool.and_self, cond_true, bne_self_eq_false, cond_false, beq_self_eq_true, Bool.not_true]
def sSame : List AV → T AV
  | [.agg [.int .u8 a, .int .u8 b, .int .u8 r, .int .u8 d], .int .i64 _, .int .u8 v] => .chk (conB a b r d && u8B v) (.leaf (.bool true))
  | _ => .fail
theorem sSame_run : ∀ args v, (sSame args).run = some v → (calls C4 60 11 args).run = some v := by
  intro args v hr
  unfold sSame at hr
  split at hr
  · obtain ⟨h1, hr⟩ := T.of_chk hr
    simp only [Bool.and_eq_true] at h1
    cases Option.some.inj hr
    exact e11 _ _ _ _ _ _ h1.1 h1.2
  · simp [T.run] at hr
noncomputable def tab5 : List (Nat × (List AV → T AV)) := [(14, sMk), (11, sSame)]
theorem allTab5 : AllL (SumAt C4) tab5 :=
  ⟨sum_of_run ok4 (calls_fn ok4 (e14 0 rfl)) sMk_run, sum_of_run ok4 (calls_fn ok4 (e11 0 0 0 0 0 0 rfl rfl)) sSame_run, trivial⟩
noncomputable def C5 : Ctx := withSum C4 tab5
theorem ok5 : Ok C5 := ok_with ok4 allTab5

theorem t3 (a b r d t v : Int) : (calls C5 60 3 [con a b r d, .int .i64 t, .int .u8 v]).run = bif conB a b r d && u8B v then some (.bool true) else none := by kernel_rfl
/-- **P17.1 to P17.4**: ScoreTells is true. -/
theorem tells_run (a b r d t v : Int) (h : conB a b r d = true) (hv : u8B v = true) : (calls C5 60 3 [con a b r d, .int .i64 t, .int .u8 v]).run = some (.bool true) := by
  rw [t3, h, hv]; rfl
end Go.Proofs.YtfkpbchdapccmaaDoor
