/- Chapter 17: scores, results' texts. -/
import Derived.Test.YtfkpbchdapccmaaDoorS8
namespace Go.Proofs.YtfkpbchdapccmaaDoor
open Go Go.Ev

theorem madeK_b {a b r : Int} (v : Bool) (h1 : 1 ≤ a) (h2 : a ≤ 7) (h3 : 0 ≤ r) (h4 : r ≤ 2) : 0 ≤ madeK a b r v ∧ madeK a b r v ≤ 5000 := by
  have hp := partK_b (b := b) (r := r) h1 h2
  simp only [madeK, byI]
  cases leI 100 (partK a b r) <;> cases a == 6 <;> cases a == 7 <;> cases v <;> simp only [cond_true, cond_false] <;> omega
theorem pts_b (a b r d t : Int) (v : Bool) (h : conB a b r d = true) : -20000 ≤ pts a b r d t v ∧ pts a b r d t v ≤ 20000 := by
  unfold pts
  cases hr : isRes a b r d t
  · simp
  · rw [bif_t rfl]
    cases h0 : a == 0
    · obtain ⟨hr1, h1, h2, h3⟩ := isRes_iff.1 hr
      obtain ⟨ha, hb, hc, hd⟩ := (right_iff h h0).1 hr1
      rw [bif_f rfl]
      unfold ptsOf
      by_cases hm : 0 ≤ t - (6 + a)
      · have hk := madeK_b (b := b) v ha.1 ha.2 hc.1 hc.2
        obtain ⟨o1, o2⟩ := overK_b (b := b) (r := r) v
        obtain ⟨c1, c2⟩ := mul_le hm (by omega : t - (6 + a) ≤ 13) o1 o2
        rw [bif_t (leI_iff.2 hm)]
        omega
      · have := downK_bound v (r := r) (m := -(t - (6 + a))) (by simp only [downB, Bool.and_eq_true, leI_iff]; omega)
        rw [bif_f (leI_not.2 (by omega))]
        omega
    · simp

def okS (a b r d t v : Int) : Bool := isRes a b r d t && leI v 3
def scoreK (a b r d t v : Int) : Int := bif okS a b r d t v then (bif d == 1 || d == 3 then -(pts a b r d t (vul v d)) else pts a b r d t (vul v d)) else 0
def scoreE (a b r d t v : Int) : Int := bif okS a b r d t v then 0 else 2
theorem t17 (a b r d t v : Int) : (calls C3 60 17 [con a b r d, .int .i64 t, .int .u8 v]).run = bif u8B v && u8B d then bif conB a b r d then
    bif ptsE a b r d t != 0 then some (two 0 2) else bif decide (v > 3) then some (two 0 2) else
      bif d.tmod 2 == 1 then some (two (IntKind.i64.wrap (0 - pts a b r d t (vul v d))) 0) else some (two (pts a b r d t (vul v d)) 0) else none else none := by kernel_rfl
theorem t26 (a b r d t v : Int) : (calls C3 60 26 [con a b r d, .int .i64 t, .int .u8 v]).run = bif u8B a then bif !isRes a b r d t then some (two 0 2) else bif decide (v > 3) then some (two 0 2) else
    bif u8B v && u8B d then bif conB a b r d then bif d == 1 then some (two (IntKind.i64.wrap (0 - pts a b r d t (vul v d))) 0) else bif d == 3 then some (two (IntKind.i64.wrap (0 - pts a b r d t (vul v d))) 0) else
      some (two (pts a b r d t (vul v d)) 0) else none else none else none := by kernel_rfl
theorem isRes_d {a b r d t : Int} (h : conB a b r d = true) (hr : isRes a b r d t = true) : 0 ≤ d ∧ d ≤ 3 := by
  obtain ⟨hr1, _⟩ := isRes_iff.1 hr
  cases h0 : a == 0
  · exact ((right_iff h h0).1 hr1).2.2.2
  · obtain rfl : a = 0 := by simpa using h0
    have := (right_zero.1 hr1).2.2
    omega
theorem ptsE_res {a b r d t : Int} (h : isRes a b r d t = true) : ptsE a b r d t = 0 := by unfold ptsE; rw [h]; rfl
theorem ptsE_not {a b r d t : Int} (h : isRes a b r d t = false) : ptsE a b r d t = 2 := by unfold ptsE; rw [h]; rfl
theorem e17 (a b r d t v : Int) (h : conB a b r d = true) (hv : u8B v = true) : (calls C3 60 17 [con a b r d, .int .i64 t, .int .u8 v]).run = some (two (scoreK a b r d t v) (scoreE a b r d t v)) := by
  rw [t17, hv, conB_d h, h]
  unfold scoreK scoreE okS
  cases hr : isRes a b r d t
  · rw [ptsE_not hr]; rfl
  · rw [ptsE_res hr]
    by_cases h3 : v ≤ 3
    · have hp := pts_b a b r d t (vul v d) h
      rw [decide_eq_false (by omega : ¬ v > 3), leI_iff.2 h3, IntWalk.i64_in _ (by omega)]
      obtain ⟨d0, d1⟩ := isRes_d h hr
      have e : 0 - pts a b r d t (vul v d) = -pts a b r d t (vul v d) := by omega
      rw [e]
      rcases four d0 d1 with rfl | rfl | rfl | rfl <;> rfl
    · rw [decide_eq_true (by omega : v > 3), leI_not.2 (by omega)]; rfl
theorem e26 (a b r d t v : Int) (h : conB a b r d = true) (hv : u8B v = true) : (calls C3 60 26 [con a b r d, .int .i64 t, .int .u8 v]).run = some (two (scoreK a b r d t v) (scoreE a b r d t v)) := by
  rw [t26, hv, conB_d h, h, conB_a h]
  unfold scoreK scoreE okS
  cases hr : isRes a b r d t
  · rfl
  · by_cases h3 : v ≤ 3
    · have hp := pts_b a b r d t (vul v d) h
      rw [decide_eq_false (by omega : ¬ v > 3), leI_iff.2 h3, IntWalk.i64_in _ (by omega)]
      obtain ⟨d0, d1⟩ := isRes_d h hr
      have e : 0 - pts a b r d t (vul v d) = -pts a b r d t (vul v d) := by omega
      rw [e]
      rcases four d0 d1 with rfl | rfl | rfl | rfl <;> rfl
    · rw [decide_eq_true (by omega : v > 3), leI_not.2 (by omega)]; rfl

/-- What is behind the contract's text. -/
def tailW (m : Int) : List UInt8 := bif m == 0 then [32, 61] else bif decide (m > 0) then [32, 43] ++ num2 m.toNat else [32, 45] ++ num2 (-m).toNat
def writeK (a b r d t : Int) : List UInt8 := bif isRes a b r d t then (bif a == 0 then text a b r d else text a b r d ++ tailW (t - (6 + a))) else []
def writeE (a b r d t : Int) : Int := bif isRes a b r d t then 0 else 2
theorem t20 (a b r d t : Int) : (calls C3 60 20 [con a b r d, .int .i64 t]).run = bif u8B a then bif !isRes a b r d t then some (txt [] 2) else bif conB a b r d then bif u8B a then
    bif a == 0 then some (txt (text a b r d) 0) else
    bif IntKind.i64.wrap (t - need a b r d) == 0 then bif lim ((text a b r d).length + 2) then some (txt (text a b r d ++ [32, 61]) 0) else none else
    bif decide (IntKind.i64.wrap (t - need a b r d) > 0) then
      bif lim ((text a b r d).length + 2) then bif leI (-13) (IntKind.i64.wrap (t - need a b r d)) && leI (IntKind.i64.wrap (t - need a b r d)) 99 then
        bif lim ((text a b r d ++ [32, 43]).length + (itoaS (IntKind.i64.wrap (t - need a b r d))).length) then some (txt (text a b r d ++ [32, 43] ++ itoaS (IntKind.i64.wrap (t - need a b r d))) 0) else none else none else none
    else
      bif lim ((text a b r d).length + 1) then bif leI (-13) (IntKind.i64.wrap (t - need a b r d)) && leI (IntKind.i64.wrap (t - need a b r d)) 99 then
        bif lim ((text a b r d ++ [32]).length + (itoaS (IntKind.i64.wrap (t - need a b r d))).length) then some (txt (text a b r d ++ [32] ++ itoaS (IntKind.i64.wrap (t - need a b r d))) 0) else none else none else none
    else none else none else none := by kernel_rfl
theorem t31 (a b r d t : Int) : (calls C3 60 31 [con a b r d, .int .i64 t]).run = bif u8B a then bif !isRes a b r d t then some (txt [] 2) else bif conB a b r d then bif u8B a then
    bif a == 0 then some (txt (text a b r d) 0) else
    bif t == need a b r d then bif lim ((text a b r d).length + 2) then some (txt (text a b r d ++ [32, 61]) 0) else none else
    bif decide (t > need a b r d) then
      bif lim ((text a b r d).length + 2) then bif leI 1 (IntKind.i64.wrap (t - need a b r d)) && leI (IntKind.i64.wrap (t - need a b r d)) 13 then
        bif lim ((text a b r d ++ [32, 43]).length + (num2 (IntKind.i64.wrap (t - need a b r d)).toNat).length) then some (txt (text a b r d ++ [32, 43] ++ num2 (IntKind.i64.wrap (t - need a b r d)).toNat) 0) else none else none else none
    else
      bif lim ((text a b r d).length + 2) then bif leI 1 (IntKind.i64.wrap (need a b r d - t)) && leI (IntKind.i64.wrap (need a b r d - t)) 13 then
        bif lim ((text a b r d ++ [32, 45]).length + (num2 (IntKind.i64.wrap (need a b r d - t)).toNat).length) then some (txt (text a b r d ++ [32, 45] ++ num2 (IntKind.i64.wrap (need a b r d - t)).toNat) 0) else none else none else none
    else none else none else none := by kernel_rfl
theorem text_len (a b r d : Int) : (text a b r d).length ≤ 6 := by
  unfold text textR
  cases right a b r d <;> cases a == 0 <;> cases r == 0 <;> cases r == 1 <;> simp
theorem num2_len (n : Nat) : (num2 n).length ≤ 2 := by
  unfold num2; cases Nat.ble 10 n <;> simp
theorem lim_of {n : Nat} (h : n ≤ 100) : lim n = true := Nat.ble_eq_true_of_le (by omega)
theorem e20 (a b r d t : Int) (h : conB a b r d = true) : (calls C3 60 20 [con a b r d, .int .i64 t]).run = some (txt (writeK a b r d t) (writeE a b r d t)) := by
  rw [t20, conB_a h, h]
  unfold writeK writeE
  cases hr : isRes a b r d t
  · rfl
  · rw [bif_t rfl, bif_f (b := !true) rfl, bif_t rfl, bif_t rfl, bif_t rfl, bif_t rfl]
    cases h0 : a == 0
    · obtain ⟨hr1, h1, h2, h3⟩ := isRes_iff.1 hr
      obtain ⟨ha, hb, hc, hd⟩ := (right_iff h h0).1 hr1
      have hl := text_len a b r d
      rw [bif_f rfl, bif_f rfl, need_eq hr1 h0, IntWalk.i64_in _ (by omega)]
      unfold tailW
      have hn1 := num2_len (t - (6 + a)).toNat
      have hn2 := num2_len (-(t - (6 + a))).toNat
      cases he : t - (6 + a) == 0
      · rw [bif_f rfl, bif_f rfl]
        by_cases hp : t - (6 + a) > 0
        · have ei : itoaS (t - (6 + a)) = num2 (t - (6 + a)).toNat := by unfold itoaS; rw [leI_iff.2 (by omega)]; rfl
          rw [bif_t (decide_eq_true hp), bif_t (decide_eq_true hp), ei, bif_t (lim_of (by omega)), bif_t (by simp only [Bool.and_eq_true, leI_iff]; omega), bif_t (lim_of (by simp only [List.length_append, List.length_cons, List.length_nil]; omega)), List.append_assoc]
        · have hne : ¬ t - (6 + a) = 0 := by simpa using he
          have ei : itoaS (t - (6 + a)) = 45 :: num2 (-(t - (6 + a))).toNat := by unfold itoaS; rw [leI_not.2 (by omega)]; rfl
          rw [bif_f (decide_eq_false hp), bif_f (decide_eq_false hp), ei, bif_t (lim_of (by omega)), bif_t (by simp only [Bool.and_eq_true, leI_iff]; omega), bif_t (lim_of (by simp only [List.length_append, List.length_cons, List.length_nil]; omega)), List.append_assoc]
          rfl
      · rw [bif_t rfl, bif_t rfl, bif_t (lim_of (by omega))]
    · rfl
theorem e31 (a b r d t : Int) (h : conB a b r d = true) : (calls C3 60 31 [con a b r d, .int .i64 t]).run = some (txt (writeK a b r d t) (writeE a b r d t)) := by
  rw [t31, conB_a h, h]
  unfold writeK writeE
  cases hr : isRes a b r d t
  · rfl
  · rw [bif_t rfl, bif_f (b := !true) rfl, bif_t rfl, bif_t rfl, bif_t rfl, bif_t rfl]
    cases h0 : a == 0
    · obtain ⟨hr1, h1, h2, h3⟩ := isRes_iff.1 hr
      obtain ⟨ha, hb, hc, hd⟩ := (right_iff h h0).1 hr1
      have hl := text_len a b r d
      rw [bif_f rfl, bif_f rfl, need_eq hr1 h0]
      unfold tailW
      have hn1 := num2_len (t - (6 + a)).toNat
      have hn2 := num2_len (-(t - (6 + a))).toNat
      by_cases he : t = 6 + a
      · rw [bif_t (show (t == 6 + a) = true by simpa using he), bif_t (show (t - (6 + a) == 0) = true by simp; omega), bif_t (lim_of (by omega))]
      · rw [bif_f (show (t == 6 + a) = false by simpa using he), bif_f (show (t - (6 + a) == 0) = false by simp; omega)]
        by_cases hp : t - (6 + a) > 0
        · rw [bif_t (decide_eq_true (by omega)), bif_t (decide_eq_true hp), IntWalk.i64_in _ (by omega), bif_t (lim_of (by omega)), bif_t (by simp only [Bool.and_eq_true, leI_iff]; omega), bif_t (lim_of (by simp only [List.length_append, List.length_cons, List.length_nil]; omega)), List.append_assoc]
        · rw [bif_f (decide_eq_false (by omega)), bif_f (decide_eq_false hp), show 6 + a - t = -(t - (6 + a)) by omega, IntWalk.i64_in _ (by omega), bif_t (lim_of (by omega)), bif_t (by simp only [Bool.and_eq_true, leI_iff]; omega), bif_t (lim_of (by simp only [List.length_append, List.length_cons, List.length_nil]; omega)), List.append_assoc]
    · rfl
theorem t15 (a b r d t : Int) (v : Bool) : (calls C3 60 15 [con a b r d, .int .i64 t, .bool v]).run = bif conB a b r d then some (.tup [.int .i64 (pts a b r d t v), .bool (ptsE a b r d t == 0)]) else none := by kernel_rfl

def sScore : List AV → T AV
  | [.agg [.int .u8 a, .int .u8 b, .int .u8 r, .int .u8 d], .int .i64 t, .int .u8 v] => .chk (conB a b r d && u8B v) (.leaf (two (scoreK a b r d t v) (scoreE a b r d t v)))
  | _ => .fail
theorem sScore_run {C : Ctx} {n : Nat} {f : FuncId} (h : ∀ a b r d t v, conB a b r d = true → u8B v = true → (calls C n f [con a b r d, .int .i64 t, .int .u8 v]).run = some (two (scoreK a b r d t v) (scoreE a b r d t v))) : ∀ args v, (sScore args).run = some v → (calls C n f args).run = some v := by
  intro args v hr
  unfold sScore at hr
  split at hr
  · obtain ⟨h1, hr⟩ := T.of_chk hr
    simp only [Bool.and_eq_true] at h1
    cases Option.some.inj hr
    exact h _ _ _ _ _ _ h1.1 h1.2
  · simp [T.run] at hr
def sWrite : List AV → T AV
  | [.agg [.int .u8 a, .int .u8 b, .int .u8 r, .int .u8 d], .int .i64 t] => .chk (conB a b r d) (.leaf (txt (writeK a b r d t) (writeE a b r d t)))
  | _ => .fail
theorem sWrite_run {C : Ctx} {n : Nat} {f : FuncId} (h : ∀ a b r d t, conB a b r d = true → (calls C n f [con a b r d, .int .i64 t]).run = some (txt (writeK a b r d t) (writeE a b r d t))) : ∀ args v, (sWrite args).run = some v → (calls C n f args).run = some v := by
  intro args v hr
  unfold sWrite at hr
  split at hr
  · obtain ⟨h1, hr⟩ := T.of_chk hr
    cases Option.some.inj hr
    exact h _ _ _ _ _ h1
  · simp [T.run] at hr
def sOf : List AV → T AV
  | [.agg [.int .u8 a, .int .u8 b, .int .u8 r, .int .u8 d], .int .i64 t, .bool v] => .chk (conB a b r d) (.leaf (.tup [.int .i64 (pts a b r d t v), .bool (ptsE a b r d t == 0)]))
  | _ => .fail
theorem sOf_run : ∀ args v, (sOf args).run = some v → (calls C3 60 15 args).run = some v := by
  intro args v hr
  unfold sOf at hr
  split at hr
  · obtain ⟨h1, hr⟩ := T.of_chk hr
    cases Option.some.inj hr
    rw [t15, h1]; rfl
  · simp [T.run] at hr

noncomputable def tab4 : List (Nat × (List AV → T AV)) := [(17, sScore), (26, sScore), (20, sWrite), (31, sWrite), (15, sOf), (12, sAwake)]
theorem allTab4 : AllL (SumAt C3) tab4 :=
  ⟨sum_of_run ok3 (calls_fn ok3 (e17 0 0 0 0 0 0 rfl rfl)) (sScore_run e17), sum_of_run ok3 (calls_fn ok3 (e26 0 0 0 0 0 0 rfl rfl)) (sScore_run e26),
   sum_of_run ok3 (calls_fn ok3 (e20 0 0 0 0 0 rfl)) (sWrite_run e20), sum_of_run ok3 (calls_fn ok3 (e31 0 0 0 0 0 rfl)) (sWrite_run e31),
   sum_of_run ok3 (calls_fn ok3 (show _ = _ from (t15 0 0 0 0 0 true).trans rfl)) sOf_run, ⟨sumAwake.1.at rfl, fun args v hr => (sumAwake.2 args v hr).at rfl rfl⟩, trivial⟩
noncomputable def C4 : Ctx := withSum C3 tab4
theorem ok4 : Ok C4 := ok_with ok3 allTab4
end Go.Proofs.YtfkpbchdapccmaaDoor
