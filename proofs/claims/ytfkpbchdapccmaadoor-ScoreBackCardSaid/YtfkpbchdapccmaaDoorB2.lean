import Derived.Test.YtfkpbchdapccmaaDoorL0
import Derived.Test.YtfkpbchdapccmaaDoorL1
import Derived.Test.YtfkpbchdapccmaaDoorL2
import Derived.Test.YtfkpbchdapccmaaDoorW
import Derived.Test.YtfkpbchdapccmaaDoorB1
import Derived.Test.YtfkpbchdapccmaaDoorTa

/- Chapter 17: the reference's points are the program's. -/
namespace Go.Proofs.YtfkpbchdapccmaaDoor
open Go Go.Ev

theorem lostAll {a : Nat} {r : Int} (h1 : 1 ≤ a) (h2 : a ≤ 7) (h3 : 0 ≤ r) (h4 : r ≤ 2) : Lost a r := by
  have ha : a = 1 ∨ a = 2 ∨ a = 3 ∨ a = 4 ∨ a = 5 ∨ a = 6 ∨ a = 7 := by omega
  rcases ha with rfl | rfl | rfl | rfl | rfl | rfl | rfl <;> rcases three h3 h4 with rfl | rfl | rfl
  · exact lost10
  · exact lost11
  · exact lost12
  · exact lost20
  · exact lost21
  · exact lost22
  · exact lost30
  · exact lost31
  · exact lost32
  · exact lost40
  · exact lost41
  · exact lost42
  · exact lost50
  · exact lost51
  · exact lost52
  · exact lost60
  · exact lost61
  · exact lost62
  · exact lost70
  · exact lost71
  · exact lost72
theorem wonAll {a : Nat} {r : Int} (h1 : 1 ≤ a) (h2 : a ≤ 7) (h3 : 0 ≤ r) (h4 : r ≤ 2) : Won a r := by
  have ha : a = 1 ∨ a = 2 ∨ a = 3 ∨ a = 4 ∨ a = 5 ∨ a = 6 ∨ a = 7 := by omega
  rcases ha with rfl | rfl | rfl | rfl | rfl | rfl | rfl <;> rcases three h3 h4 with rfl | rfl | rfl
  · exact won10
  · exact won11
  · exact won12
  · exact won20
  · exact won21
  · exact won22
  · exact won30
  · exact won31
  · exact won32
  · exact won40
  · exact won41
  · exact won42
  · exact won50
  · exact won51
  · exact won52
  · exact won60
  · exact won61
  · exact won62
  · exact won70
  · exact won71
  · exact won72

theorem t25z (t : Int) (v : Bool) (b r d : Int) : (calls Cn 80 25 [con 0 b r d, .int .i64 t, .bool v]).run = bif !isRes 0 b r d t then some (two 0 2) else some (two 0 0) := by kernel_rfl
/-- No result, as the reference sees it. -/
def sResF : List AV → T AV
  | [.agg [.int .u8 a, .int .u8 b, .int .u8 r, .int .u8 d], .int .i64 t] => .chk (u8B a && !isRes a b r d t) (.leaf (.bool false))
  | _ => .fail
theorem sResF_run : ∀ args v, (sResF args).run = some v → (calls C1 60 43 args).run = some v := by
  intro args v hr
  unfold sResF at hr
  split at hr
  · obtain ⟨h1, hr⟩ := T.of_chk hr
    simp only [Bool.and_eq_true, Bool.not_eq_true'] at h1
    cases Option.some.inj hr
    rw [e43 _ _ _ _ _ h1.1, h1.2]
  · simp [T.run] at hr
noncomputable def tabZ : List (Nat × (List AV → T AV)) := [(43, sResF)]
theorem allTabZ : AllL (SumAt C2) tabZ := ⟨⟨(calls_fn ok1 (e43 0 0 0 0 0 rfl)).at rfl, fun args v hr => (calls_iso ok1 (sResF_run args v hr)).at rfl rfl⟩, trivial⟩
noncomputable def Cz : Ctx := withSum C2 tabZ
theorem okz : Ok Cz := ok_with ok2 allTabZ
theorem t25f (a b r d t : Int) (v : Bool) : (calls Cz 80 25 [con a b r d, .int .i64 t, .bool v]).run = bif (u8B a && !isRes a b r d t) then some (two 0 2) else none := by kernel_rfl

theorem sum_rep (m : Nat) (x : Int) : (List.replicate m x).sum = m * x := by
  induction m with
  | zero => simp
  | succ m ih => rw [List.replicate_succ, List.sum_cons, ih]; have : ((m + 1 : Nat) : Int) * x = m * x + x := by rw [Int.natCast_add, Int.add_mul]; omega
                 omega
theorem overK_b {b r : Int} (v : Bool) : 0 ≤ overK b r v ∧ overK b r v ≤ 400 := by
  unfold overK byI
  cases r == 0
  · cases r == 1 <;> cases v <;> simp
  · rcases valK_b b with h | h <;> rw [h] <;> simp
theorem partK_b {a b r : Int} (h1 : 1 ≤ a) (h2 : a ≤ 7) : 0 ≤ partK a b r ∧ partK a b r ≤ 1000 := by
  unfold partK
  have hv : 20 ≤ a * valK b ∧ a * valK b ≤ 210 := by rcases valK_b b with h | h <;> rw [h] <;> omega
  cases b == 4 <;> cases r == 0 <;> cases r == 1 <;> simp only [cond_true, cond_false] <;> omega

theorem incs_eq {a b r : Int} {v : Bool} {bonus : Int} {m : Nat} (h1 : 1 ≤ a) (h2 : a ≤ 7) (h3 : 0 ≤ r) (h4 : r ≤ 2) (hm : m ≤ 13) (hb : 0 ≤ bonus) (hb' : bonus ≤ 500) :
    addAll (incs bonus a r v (overK b r v) m) (partK a b r) = partK a b r + bonus + (bif a == 6 then byI v 500 750 else bif a == 7 then byI v 1000 1500 else 0) + 50 * r + m * overK b r v := by
  obtain ⟨o1, o2⟩ := overK_b (b := b) (r := r) v
  obtain ⟨p1, p2⟩ := partK_b (b := b) (r := r) h1 h2
  rw [addAll_eq _ _ ?_ p1 ?_]
  · unfold incs
    rw [List.sum_cons, List.sum_append, List.sum_append, sum_rep]
    have e1 : (bif a == 6 then [byI v 500 750] else bif a == 7 then [byI v 1000 1500] else []).sum = (bif a == 6 then byI v 500 750 else bif a == 7 then byI v 1000 1500 else 0) := by
      cases a == 6 <;> cases a == 7 <;> simp
    have e2 : (bif r == 1 then [(50 : Int)] else bif r == 2 then [100] else []).sum = 50 * r := by
      rcases three h3 h4 with rfl | rfl | rfl <;> rfl
    rw [e1, e2]; omega
  · intro x hx
    simp only [incs, List.mem_cons, List.mem_append, List.mem_replicate] at hx
    rcases hx with rfl | (hx | hx) | ⟨_, rfl⟩
    · omega
    · cases h6 : a == 6 <;> cases h7 : a == 7 <;> rw [h6] at hx <;> simp only [h7, cond_true, cond_false, List.mem_singleton, List.not_mem_nil] at hx <;> first | (subst hx; unfold byI; cases v <;> simp) | cases hx
    · cases h6 : r == 1 <;> cases h7 : r == 2 <;> rw [h6] at hx <;> simp only [h7, cond_true, cond_false, List.mem_singleton, List.not_mem_nil] at hx <;> first | (subst hx; simp) | cases hx
    · omega
  · have : (incs bonus a r v (overK b r v) m).length ≤ 3 + m := by
      unfold incs
      cases a == 6 <;> cases a == 7 <;> cases r == 1 <;> cases r == 2 <;> simp <;> omega
    omega

theorem e25 (a b r d t : Int) (v : Bool) (h : conB a b r d = true) (hr : isRes a b r d t = true) : (calls Cn 80 25 [con a b r d, .int .i64 t, .bool v]).run = some (two (pts a b r d t v) (ptsE a b r d t)) := by
  obtain ⟨hr1, h1, h2, h3⟩ := isRes_iff.1 hr
  cases h0 : a == 0
  · obtain ⟨ha, hb, hc, hd⟩ := (right_iff h h0).1 hr1
    obtain ⟨n, rfl⟩ : ∃ n : Nat, a = n := ⟨a.toNat, by omega⟩
    unfold pts ptsE ptsOf
    rw [hr, bif_t rfl, bif_t rfl, h0, bif_f rfl]
    by_cases hm : 6 + (n : Int) ≤ t
    · have e := allEq (wonAll (a := n) (r := r) (by omega) (by omega) hc.1 hc.2 b d) (t, v) (mem_domTV v (by omega) (by omega))
      refine e.trans ?_
      have hp := partK_b (b := b) (r := r) (a := n) (by omega) (by omega)
      simp only [hr, hr1]
      rw [bif_f (b := !true) rfl, bif_t rfl, nest_true, nest_true, bif_t (leI_iff.2 (by omega)), incs_eq (by omega) (by omega) hc.1 hc.2 (by omega) (by omega) (by omega), incs_eq (by omega) (by omega) hc.1 hc.2 (by omega) (by unfold byI; cases v <;> simp) (by unfold byI; cases v <;> simp)]
      have em : ((t.toNat - (6 + n) : Nat) : Int) = t - (6 + n) := by omega
      rw [em]
      simp only [madeK]
      by_cases h100 : partK n b r < 100
      · rw [bif_t (decide_eq_true h100), bif_f (leI_not.2 h100)]
      · rw [bif_f (decide_eq_false h100), bif_t (leI_iff.2 (by omega : (100 : Int) ≤ partK n b r))]
    · have e := allEq (lostAll (a := n) (r := r) (by omega) (by omega) hc.1 hc.2 b d) (t, v) (mem_domTV v (by omega) (by omega))
      refine e.trans ?_
      simp only [hr, hr1]
      rw [bif_f (b := !true) rfl, nest_true, bif_f (leI_not.2 (by omega))]
  · have ha : a = 0 := by simpa using h0
    subst ha
    rw [t25z, hr]; unfold pts ptsE; rw [hr]; rfl
theorem iso25 (a b r d t : Int) (v : Bool) (h : conB a b r d = true) : Iso C2 25 [con a b r d, .int .i64 t, .bool v] (two (pts a b r d t v) (ptsE a b r d t)) := by
  cases hr : isRes a b r d t
  · have e := t25f a b r d t v
    rw [conB_a h, hr] at e
    have e2 : two (pts a b r d t v) (ptsE a b r d t) = two 0 2 := by unfold pts ptsE; rw [hr]; rfl
    rw [e2]
    exact (calls_iso okz e).at rfl rfl
  · exact (calls_iso okn (e25 a b r d t v h hr)).at rfl rfl
theorem sum25 : SumAt C2 (25, sPts) := by
  refine ⟨(calls_fn okn (e25 0 0 0 0 0 true rfl rfl)).at rfl, fun args v hr => ?_⟩
  replace hr : (sPts args).run = some v := hr
  show Iso C2 25 args v
  unfold sPts at hr
  split at hr
  · obtain ⟨h1, hr⟩ := T.of_chk hr
    cases Option.some.inj hr
    exact iso25 _ _ _ _ _ _ h1
  · simp [T.run] at hr
end Go.Proofs.YtfkpbchdapccmaaDoor

/- Chapter 17: the context with points and texts. -/
namespace Go.Proofs.YtfkpbchdapccmaaDoor
open Go Go.Ev

theorem text30 {a b r d : Int} (h1 : 1 ≤ a) (h2 : a ≤ 7) (h3 : 0 ≤ b) (h4 : b ≤ 4) (h5 : 0 ≤ r) (h6 : r ≤ 2) (h7 : 0 ≤ d) (h8 : d ≤ 3) : (calls C2 60 30 [con a b r d]).run = some (txt (textR a b r d) 0) := by
  have ha : a = 1 ∨ a = 2 ∨ a = 3 ∨ a = 4 ∨ a = 5 ∨ a = 6 ∨ a = 7 := by omega
  rcases ha with rfl | rfl | rfl | rfl | rfl | rfl | rfl
  · exact text30_1.at h3 h4 h5 h6 h7 h8
  · exact text30_2.at h3 h4 h5 h6 h7 h8
  · exact text30_3.at h3 h4 h5 h6 h7 h8
  · exact text30_4.at h3 h4 h5 h6 h7 h8
  · exact text30_5.at h3 h4 h5 h6 h7 h8
  · exact text30_6.at h3 h4 h5 h6 h7 h8
  · exact text30_7.at h3 h4 h5 h6 h7 h8
theorem iso30 (a b r d : Int) (h : conB a b r d = true) : Iso C2 30 [con a b r d] (txt (text a b r d) (textE a b r d)) := by
  unfold text textE
  cases hr : right a b r d
  · have e := t30f a b r d
    rw [hr] at e
    exact (calls_iso okf e).at rfl rfl
  · cases h0 : a == 0
    · obtain ⟨ha, hb, hc, hd⟩ := (right_iff h h0).1 hr
      exact calls_iso ok2 (text30 ha.1 ha.2 hb.1 hb.2 hc.1 hc.2 hd.1 hd.2)
    · obtain rfl : a = 0 := by simpa using h0
      obtain ⟨rfl, rfl, rfl⟩ := right_zero.1 hr
      exact calls_iso ok2 t30z
def sText : List AV → T AV
  | [.agg [.int .u8 a, .int .u8 b, .int .u8 r, .int .u8 d]] => .chk (conB a b r d) (.leaf (txt (text a b r d) (textE a b r d)))
  | _ => .fail
theorem sText_iso {f : FuncId} (h : ∀ a b r d, conB a b r d = true → Iso C2 f [con a b r d] (txt (text a b r d) (textE a b r d))) : ∀ args v, (sText args).run = some v → Iso C2 f args v := by
  intro args v hr
  unfold sText at hr
  split at hr
  · obtain ⟨h1, hr⟩ := T.of_chk hr
    cases Option.some.inj hr
    exact h _ _ _ _ h1
  · simp [T.run] at hr

theorem t47 : (rng 1 13).map (fun n => (calls C2 60 47 [.int .i64 n]).run) = (rng 1 13).map fun n => some (.str (num2 n.toNat)) := by kernel_rfl
def sNum : List AV → T AV
  | [.int .i64 n] => .chk (leI 1 n && leI n 13) (.leaf (.str (num2 n.toNat)))
  | _ => .fail
theorem sNum_run : ∀ args v, (sNum args).run = some v → (calls C2 60 47 args).run = some v := by
  intro args v hr
  unfold sNum at hr
  split at hr
  · obtain ⟨h1, hr⟩ := T.of_chk hr
    simp only [Bool.and_eq_true, leI_iff] at h1
    cases Option.some.inj hr
    exact allEq t47 _ (mem_rng (by omega) (by omega))
  · simp [T.run] at hr

noncomputable def tab3 : List (Nat × (List AV → T AV)) := [(18, sPts), (25, sPts), (22, sText), (30, sText), (47, sNum)]
theorem allTab3 : AllL (SumAt C2) tab3 :=
  ⟨sum_of_run ok2 (calls_fn ok2 (e18 0 0 0 0 0 true rfl)) (sPts_run e18), sum25,
   ⟨calls_fn ok2 (e22 0 0 0 0 rfl), sText_iso fun a b r d h => calls_iso ok2 (e22 a b r d h)⟩, ⟨calls_fn ok2 t30z, sText_iso iso30⟩,
   sum_of_run ok2 (calls_fn ok2 (allEq t47 1 (mem_rng (by decide) (by decide)))) sNum_run, trivial⟩
noncomputable def C3 : Ctx := withSum C2 tab3
theorem ok3 : Ok C3 := ok_with ok2 allTab3
end Go.Proofs.YtfkpbchdapccmaaDoor

/- Chapter 17: scores, results' texts. -/
namespace Go.Proofs.YtfkpbchdapccmaaDoor
open Go Go.Ev

theorem madeK_b {a b r : Int} (v : Bool) (h1 : 1 ≤ a) (h2 : a ≤ 7) (h3 : 0 ≤ r) (h4 : r ≤ 2) : 0 ≤ madeK a b r v ∧ madeK a b r v ≤ 5000 := by
  have hp := partK_b (b := b) (r := r) h1 h2
  simp only [madeK, byI]
  cases leI 100 (partK a b r) <;> cases a == 6 <;> cases a == 7 <;> cases v <;> simp only [cond_true, cond_false] <;> omega
theorem pts_b (a b r d t : Int) (v : Bool) (h : conB a b r d = true) : -20000 ≤ pts a b r d t v ∧ pts a b r d t v ≤ 20000 := by
  unfold pts
  cases hr : isRes a b r d t
  · simp
  · rw [bif_t rfl]
    cases h0 : a == 0
    · obtain ⟨hr1, h1, h2, h3⟩ := isRes_iff.1 hr
      obtain ⟨ha, hb, hc, hd⟩ := (right_iff h h0).1 hr1
      rw [bif_f rfl]
      unfold ptsOf
      by_cases hm : 0 ≤ t - (6 + a)
      · have hk := madeK_b (b := b) v ha.1 ha.2 hc.1 hc.2
        obtain ⟨o1, o2⟩ := overK_b (b := b) (r := r) v
        obtain ⟨c1, c2⟩ := mul_le hm (by omega : t - (6 + a) ≤ 13) o1 o2
        rw [bif_t (leI_iff.2 hm)]
        omega
      · have := downK_bound v (r := r) (m := -(t - (6 + a))) (by simp only [downB, Bool.and_eq_true, leI_iff]; omega)
        rw [bif_f (leI_not.2 (by omega))]
        omega
    · simp

def okS (a b r d t v : Int) : Bool := isRes a b r d t && leI v 3
def scoreK (a b r d t v : Int) : Int := bif okS a b r d t v then (bif d == 1 || d == 3 then -(pts a b r d t (vul v d)) else pts a b r d t (vul v d)) else 0
def scoreE (a b r d t v : Int) : Int := bif okS a b r d t v then 0 else 2
theorem t17 (a b r d t v : Int) : (calls C3 60 17 [con a b r d, .int .i64 t, .int .u8 v]).run = bif u8B v && u8B d then bif conB a b r d then
    bif ptsE a b r d t != 0 then some (two 0 2) else bif decide (v > 3) then some (two 0 2) else
      bif d.tmod 2 == 1 then some (two (IntKind.i64.wrap (0 - pts a b r d t (vul v d))) 0) else some (two (pts a b r d t (vul v d)) 0) else none else none := by kernel_rfl
theorem t26 (a b r d t v : Int) : (calls C3 60 26 [con a b r d, .int .i64 t, .int .u8 v]).run = bif u8B a then bif !isRes a b r d t then some (two 0 2) else bif decide (v > 3) then some (two 0 2) else
    bif u8B v && u8B d then bif conB a b r d then bif d == 1 then some (two (IntKind.i64.wrap (0 - pts a b r d t (vul v d))) 0) else bif d == 3 then some (two (IntKind.i64.wrap (0 - pts a b r d t (vul v d))) 0) else
      some (two (pts a b r d t (vul v d)) 0) else none else none else none := by kernel_rfl
theorem isRes_d {a b r d t : Int} (h : conB a b r d = true) (hr : isRes a b r d t = true) : 0 ≤ d ∧ d ≤ 3 := by
  obtain ⟨hr1, _⟩ := isRes_iff.1 hr
  cases h0 : a == 0
  · exact ((right_iff h h0).1 hr1).2.2.2
  · obtain rfl : a = 0 := by simpa using h0
    have := (right_zero.1 hr1).2.2
    omega
theorem ptsE_res {a b r d t : Int} (h : isRes a b r d t = true) : ptsE a b r d t = 0 := by unfold ptsE; rw [h]; rfl
theorem ptsE_not {a b r d t : Int} (h : isRes a b r d t = false) : ptsE a b r d t = 2 := by unfold ptsE; rw [h]; rfl
theorem e17 (a b r d t v : Int) (h : conB a b r d = true) (hv : u8B v = true) : (calls C3 60 17 [con a b r d, .int .i64 t, .int .u8 v]).run = some (two (scoreK a b r d t v) (scoreE a b r d t v)) := by
  rw [t17, hv, conB_d h, h]
  unfold scoreK scoreE okS
  cases hr : isRes a b r d t
  · rw [ptsE_not hr]; rfl
  · rw [ptsE_res hr]
    by_cases h3 : v ≤ 3
    · have hp := pts_b a b r d t (vul v d) h
      rw [decide_eq_false (by omega : ¬ v > 3), leI_iff.2 h3, IntWalk.i64_in _ (by omega)]
      obtain ⟨d0, d1⟩ := isRes_d h hr
      have e : 0 - pts a b r d t (vul v d) = -pts a b r d t (vul v d) := by omega
      rw [e]
      rcases four d0 d1 with rfl | rfl | rfl | rfl <;> rfl
    · rw [decide_eq_true (by omega : v > 3), leI_not.2 (by omega)]; rfl
theorem e26 (a b r d t v : Int) (h : conB a b r d = true) (hv : u8B v = true) : (calls C3 60 26 [con a b r d, .int .i64 t, .int .u8 v]).run = some (two (scoreK a b r d t v) (scoreE a b r d t v)) := by
  rw [t26, hv, conB_d h, h, conB_a h]
  unfold scoreK scoreE okS
  cases hr : isRes a b r d t
  · rfl
  · by_cases h3 : v ≤ 3
    · have hp := pts_b a b r d t (vul v d) h
      rw [decide_eq_false (by omega : ¬ v > 3), leI_iff.2 h3, IntWalk.i64_in _ (by omega)]
      obtain ⟨d0, d1⟩ := isRes_d h hr
      have e : 0 - pts a b r d t (vul v d) = -pts a b r d t (vul v d) := by omega
      rw [e]
      rcases four d0 d1 with rfl | rfl | rfl | rfl <;> rfl
    · rw [decide_eq_true (by omega : v > 3), leI_not.2 (by omega)]; rfl

/-- What is behind the contract's text. -/
def tailW (m : Int) : List UInt8 := bif m == 0 then [32, 61] else bif decide (m > 0) then [32, 43] ++ num2 m.toNat else [32, 45] ++ num2 (-m).toNat
def writeK (a b r d t : Int) : List UInt8 := bif isRes a b r d t then (bif a == 0 then text a b r d else text a b r d ++ tailW (t - (6 + a))) else []
def writeE (a b r d t : Int) : Int := bif isRes a b r d t then 0 else 2
theorem t20 (a b r d t : Int) : (calls C3 60 20 [con a b r d, .int .i64 t]).run = bif u8B a then bif !isRes a b r d t then some (txt [] 2) else bif conB a b r d then bif u8B a then
    bif a == 0 then some (txt (text a b r d) 0) else
    bif IntKind.i64.wrap (t - need a b r d) == 0 then bif lim ((text a b r d).length + 2) then some (txt (text a b r d ++ [32, 61]) 0) else none else
    bif decide (IntKind.i64.wrap (t - need a b r d) > 0) then
      bif lim ((text a b r d).length + 2) then bif leI (-13) (IntKind.i64.wrap (t - need a b r d)) && leI (IntKind.i64.wrap (t - need a b r d)) 99 then
        bif lim ((text a b r d ++ [32, 43]).length + (itoaS (IntKind.i64.wrap (t - need a b r d))).length) then some (txt (text a b r d ++ [32, 43] ++ itoaS (IntKind.i64.wrap (t - need a b r d))) 0) else none else none else none
    else
      bif lim ((text a b r d).length + 1) then bif leI (-13) (IntKind.i64.wrap (t - need a b r d)) && leI (IntKind.i64.wrap (t - need a b r d)) 99 then
        bif lim ((text a b r d ++ [32]).length + (itoaS (IntKind.i64.wrap (t - need a b r d))).length) then some (txt (text a b r d ++ [32] ++ itoaS (IntKind.i64.wrap (t - need a b r d))) 0) else none else none else none
    else none else none else none := by kernel_rfl
theorem t31 (a b r d t : Int) : (calls C3 60 31 [con a b r d, .int .i64 t]).run = bif u8B a then bif !isRes a b r d t then some (txt [] 2) else bif conB a b r d then bif u8B a then
    bif a == 0 then some (txt (text a b r d) 0) else
    bif t == need a b r d then bif lim ((text a b r d).length + 2) then some (txt (text a b r d ++ [32, 61]) 0) else none else
    bif decide (t > need a b r d) then
      bif lim ((text a b r d).length + 2) then bif leI 1 (IntKind.i64.wrap (t - need a b r d)) && leI (IntKind.i64.wrap (t - need a b r d)) 13 then
        bif lim ((text a b r d ++ [32, 43]).length + (num2 (IntKind.i64.wrap (t - need a b r d)).toNat).length) then some (txt (text a b r d ++ [32, 43] ++ num2 (IntKind.i64.wrap (t - need a b r d)).toNat) 0) else none else none else none
    else
      bif lim ((text a b r d).length + 2) then bif leI 1 (IntKind.i64.wrap (need a b r d - t)) && leI (IntKind.i64.wrap (need a b r d - t)) 13 then
        bif lim ((text a b r d ++ [32, 45]).length + (num2 (IntKind.i64.wrap (need a b r d - t)).toNat).length) then some (txt (text a b r d ++ [32, 45] ++ num2 (IntKind.i64.wrap (need a b r d - t)).toNat) 0) else none else none else none
    else none else none else none := by kernel_rfl
theorem text_len (a b r d : Int) : (text a b r d).length ≤ 6 := by
  unfold text textR
  cases right a b r d <;> cases a == 0 <;> cases r == 0 <;> cases r == 1 <;> simp
theorem num2_len (n : Nat) : (num2 n).length ≤ 2 := by
  unfold num2; cases Nat.ble 10 n <;> simp
theorem lim_of {n : Nat} (h : n ≤ 100) : lim n = true := Nat.ble_eq_true_of_le (by omega)
theorem e20 (a b r d t : Int) (h : conB a b r d = true) : (calls C3 60 20 [con a b r d, .int .i64 t]).run = some (txt (writeK a b r d t) (writeE a b r d t)) := by
  rw [t20, conB_a h, h]
  unfold writeK writeE
  cases hr : isRes a b r d t
  · rfl
  · rw [bif_t rfl, bif_f (b := !true) rfl, bif_t rfl, bif_t rfl, bif_t rfl, bif_t rfl]
    cases h0 : a == 0
    · obtain ⟨hr1, h1, h2, h3⟩ := isRes_iff.1 hr
      obtain ⟨ha, hb, hc, hd⟩ := (right_iff h h0).1 hr1
      have hl := text_len a b r d
      rw [bif_f rfl, bif_f rfl, need_eq hr1 h0, IntWalk.i64_in _ (by omega)]
      unfold tailW
      have hn1 := num2_len (t - (6 + a)).toNat
      have hn2 := num2_len (-(t - (6 + a))).toNat
      cases he : t - (6 + a) == 0
      · rw [bif_f rfl, bif_f rfl]
        by_cases hp : t - (6 + a) > 0
        · have ei : itoaS (t - (6 + a)) = num2 (t - (6 + a)).toNat := by unfold itoaS; rw [leI_iff.2 (by omega)]; rfl
          rw [bif_t (decide_eq_true hp), bif_t (decide_eq_true hp), ei, bif_t (lim_of (by omega)), bif_t (by simp only [Bool.and_eq_true, leI_iff]; omega), bif_t (lim_of (by simp only [List.length_append, List.length_cons, List.length_nil]; omega)), List.append_assoc]
        · have hne : ¬ t - (6 + a) = 0 := by simpa using he
          have ei : itoaS (t - (6 + a)) = 45 :: num2 (-(t - (6 + a))).toNat := by unfold itoaS; rw [leI_not.2 (by omega)]; rfl
          rw [bif_f (decide_eq_false hp), bif_f (decide_eq_false hp), ei, bif_t (lim_of (by omega)), bif_t (by simp only [Bool.and_eq_true, leI_iff]; omega), bif_t (lim_of (by simp only [List.length_append, List.length_cons, List.length_nil]; omega)), List.append_assoc]
          rfl
      · rw [bif_t rfl, bif_t rfl, bif_t (lim_of (by omega))]
    · rfl
theorem e31 (a b r d t : Int) (h : conB a b r d = true) : (calls C3 60 31 [con a b r d, .int .i64 t]).run = some (txt (writeK a b r d t) (writeE a b r d t)) := by
  rw [t31, conB_a h, h]
  unfold writeK writeE
  cases hr : isRes a b r d t
  · rfl
  · rw [bif_t rfl, bif_f (b := !true) rfl, bif_t rfl, bif_t rfl, bif_t rfl, bif_t rfl]
    cases h0 : a == 0
    · obtain ⟨hr1, h1, h2, h3⟩ := isRes_iff.1 hr
      obtain ⟨ha, hb, hc, hd⟩ := (right_iff h h0).1 hr1
      have hl := text_len a b r d
      rw [bif_f rfl, bif_f rfl, need_eq hr1 h0]
      unfold tailW
      have hn1 := num2_len (t - (6 + a)).toNat
      have hn2 := num2_len (-(t - (6 + a))).toNat
      by_cases he : t = 6 + a
      · rw [bif_t (show (t == 6 + a) = true by simpa using he), bif_t (show (t - (6 + a) == 0) = true by simp; omega), bif_t (lim_of (by omega))]
      · rw [bif_f (show (t == 6 + a) = false by simpa using he), bif_f (show (t - (6 + a) == 0) = false by simp; omega)]
        by_cases hp : t - (6 + a) > 0
        · rw [bif_t (decide_eq_true (by omega)), bif_t (decide_eq_true hp), IntWalk.i64_in _ (by omega), bif_t (lim_of (by omega)), bif_t (by simp only [Bool.and_eq_true, leI_iff]; omega), bif_t (lim_of (by simp only [List.length_append, List.length_cons, List.length_nil]; omega)), List.append_assoc]
        · rw [bif_f (decide_eq_false (by omega)), bif_f (decide_eq_false hp), show 6 + a - t = -(t - (6 + a)) by omega, IntWalk.i64_in _ (by omega), bif_t (lim_of (by omega)), bif_t (by simp only [Bool.and_eq_true, leI_iff]; omega), bif_t (lim_of (by simp only [List.length_append, List.length_cons, List.length_nil]; omega)), List.append_assoc]
    · rfl
theorem t15 (a b r d t : Int) (v : Bool) : (calls C3 60 15 [con a b r d, .int .i64 t, .bool v]).run = bif conB a b r d then some (.tup [.int .i64 (pts a b r d t v), .bool (ptsE a b r d t == 0)]) else none := by kernel_rfl

def sScore : List AV → T AV
  | [.agg [.int .u8 a, .int .u8 b, .int .u8 r, .int .u8 d], .int .i64 t, .int .u8 v] => .chk (conB a b r d && u8B v) (.leaf (two (scoreK a b r d t v) (scoreE a b r d t v)))
  | _ => .fail
theorem sScore_run {C : Ctx} {n : Nat} {f : FuncId} (h : ∀ a b r d t v, conB a b r d = true → u8B v = true → (calls C n f [con a b r d, .int .i64 t, .int .u8 v]).run = some (two (scoreK a b r d t v) (scoreE a b r d t v))) : ∀ args v, (sScore args).run = some v → (calls C n f args).run = some v := by
  intro args v hr
  unfold sScore at hr
  split at hr
  · obtain ⟨h1, hr⟩ := T.of_chk hr
    simp only [Bool.and_eq_true] at h1
    cases Option.some.inj hr
    exact h _ _ _ _ _ _ h1.1 h1.2
  · simp [T.run] at hr
def sWrite : List AV → T AV
  | [.agg [.int .u8 a, .int .u8 b, .int .u8 r, .int .u8 d], .int .i64 t] => .chk (conB a b r d) (.leaf (txt (writeK a b r d t) (writeE a b r d t)))
  | _ => .fail
theorem sWrite_run {C : Ctx} {n : Nat} {f : FuncId} (h : ∀ a b r d t, conB a b r d = true → (calls C n f [con a b r d, .int .i64 t]).run = some (txt (writeK a b r d t) (writeE a b r d t))) : ∀ args v, (sWrite args).run = some v → (calls C n f args).run = some v := by
  intro args v hr
  unfold sWrite at hr
  split at hr
  · obtain ⟨h1, hr⟩ := T.of_chk hr
    cases Option.some.inj hr
    exact h _ _ _ _ _ h1
  · simp [T.run] at hr
def sOf : List AV → T AV
  | [.agg [.int .u8 a, .int .u8 b, .int .u8 r, .int .u8 d], .int .i64 t, .bool v] => .chk (conB a b r d) (.leaf (.tup [.int .i64 (pts a b r d t v), .bool (ptsE a b r d t == 0)]))
  | _ => .fail
theorem sOf_run : ∀ args v, (sOf args).run = some v → (calls C3 60 15 args).run = some v := by
  intro args v hr
  unfold sOf at hr
  split at hr
  · obtain ⟨h1, hr⟩ := T.of_chk hr
    cases Option.some.inj hr
    rw [t15, h1]; rfl
  · simp [T.run] at hr

noncomputable def tab4 : List (Nat × (List AV → T AV)) := [(17, sScore), (26, sScore), (20, sWrite), (31, sWrite), (15, sOf), (12, sAwake)]
theorem allTab4 : AllL (SumAt C3) tab4 :=
  ⟨sum_of_run ok3 (calls_fn ok3 (e17 0 0 0 0 0 0 rfl rfl)) (sScore_run e17), sum_of_run ok3 (calls_fn ok3 (e26 0 0 0 0 0 0 rfl rfl)) (sScore_run e26),
   sum_of_run ok3 (calls_fn ok3 (e20 0 0 0 0 0 rfl)) (sWrite_run e20), sum_of_run ok3 (calls_fn ok3 (e31 0 0 0 0 0 rfl)) (sWrite_run e31),
   sum_of_run ok3 (calls_fn ok3 (show _ = _ from (t15 0 0 0 0 0 true).trans rfl)) sOf_run, ⟨sumAwake.1.at rfl, fun args v hr => (sumAwake.2 args v hr).at rfl rfl⟩, trivial⟩
noncomputable def C4 : Ctx := withSum C3 tab4
theorem ok4 : Ok C4 := ok_with ok3 allTab4
end Go.Proofs.YtfkpbchdapccmaaDoor

/- Chapter 17: results made of a number; what is the same. -/
namespace Go.Proofs.YtfkpbchdapccmaaDoor
open Go Go.Ev

def mA (n : Int) : Int := n % 8
def mB (n : Int) : Int := bif mA n == 0 then 0 else n / 8 % 5
def mR (n : Int) : Int := bif mA n == 0 then 0 else n / 8 / 5 % 3
def mD (n : Int) : Int := bif mA n == 0 then 0 else n / 8 / 15 % 4
def mT (n : Int) : Int := bif mA n == 0 then 0 else n / 8 / 60 % 14
def u32B (n : Int) : Bool := leI 0 n && leI n 4294967295
theorem u32B_iff {n : Int} (h : u32B n = true) : 0 ≤ n ∧ n ≤ 4294967295 := by simpa [u32B, leI] using h
theorem t14 (n : Int) : (calls C4 60 14 [.int .u32 n]).run = bif IntKind.u8.wrap (n.tmod 8) == 0 then some (.tup [con (IntKind.u8.wrap (n.tmod 8)) 0 0 0, .int .i64 0]) else
    some (.tup [con (IntKind.u8.wrap (n.tmod 8)) (IntKind.u8.wrap ((IntKind.u32.wrap (n.tdiv 8)).tmod 5)) (IntKind.u8.wrap ((IntKind.u32.wrap ((IntKind.u32.wrap (n.tdiv 8)).tdiv 5)).tmod 3)) (IntKind.u8.wrap ((IntKind.u32.wrap ((IntKind.u32.wrap (n.tdiv 8)).tdiv 15)).tmod 4)),
      .int .i64 (IntKind.i64.wrap ((IntKind.u32.wrap ((IntKind.u32.wrap (n.tdiv 8)).tdiv 60)).tmod 14))]) := by kernel_rfl
theorem u8_in (n : Int) (h : 0 ≤ n ∧ n ≤ 255) : IntKind.u8.wrap n = n := by
  show (n % (256 : Int)) = n
  omega
theorem u32_in (n : Int) (h : 0 ≤ n ∧ n ≤ 4294967295) : IntKind.u32.wrap n = n := by
  show (n % (4294967296 : Int)) = n
  omega
theorem tmod_nn {n k : Int} (h : 0 ≤ n) : n.tmod k = n % k := Int.tmod_eq_emod_of_nonneg h
theorem tdiv_nn {n k : Int} (h : 0 ≤ n) : n.tdiv k = n / k := Int.tdiv_eq_ediv_of_nonneg h
theorem e14 (n : Int) (h : u32B n = true) : (calls C4 60 14 [.int .u32 n]).run = some (.tup [con (mA n) (mB n) (mR n) (mD n), .int .i64 (mT n)]) := by
  obtain ⟨h0, h1⟩ := u32B_iff h
  rw [t14, tmod_nn h0, tdiv_nn h0, u32_in (n / 8) (by omega), tmod_nn (by omega : 0 ≤ n / 8), tdiv_nn (by omega : 0 ≤ n / 8), tdiv_nn (by omega : 0 ≤ n / 8), tdiv_nn (by omega : 0 ≤ n / 8), u32_in (n / 8 / 5) (by omega), u32_in (n / 8 / 15) (by omega), u32_in (n / 8 / 60) (by omega),
    tmod_nn (by omega : 0 ≤ n / 8 / 5), tmod_nn (by omega : 0 ≤ n / 8 / 15), tmod_nn (by omega : 0 ≤ n / 8 / 60), u8_in (n % 8) (by omega), u8_in (n / 8 % 5) (by omega), u8_in (n / 8 / 5 % 3) (by omega), u8_in (n / 8 / 15 % 4) (by omega), IntWalk.i64_in (n / 8 / 60 % 14) (by omega)]
  unfold mB mR mD mT
  have e : (n % 8 == 0) = (mA n == 0) := rfl
  rw [e]
  cases mA n == 0 <;> rfl
def sMk : List AV → T AV
  | [.int .u32 n] => .chk (u32B n) (.leaf (.tup [con (mA n) (mB n) (mR n) (mD n), .int .i64 (mT n)]))
  | _ => .fail
theorem sMk_run : ∀ args v, (sMk args).run = some v → (calls C4 60 14 args).run = some v := by
  intro args v hr
  unfold sMk at hr
  split at hr
  · obtain ⟨h1, hr⟩ := T.of_chk hr
    cases Option.some.inj hr
    exact e14 _ h1
  · simp [T.run] at hr
/-- A result of somebody's play. -/
def Played (a b r d t : Int) : Prop := (1 ≤ a ∧ a ≤ 7) ∧ (0 ≤ b ∧ b ≤ 4) ∧ (0 ≤ r ∧ r ≤ 2) ∧ (0 ≤ d ∧ d ≤ 3) ∧ 0 ≤ t ∧ t ≤ 13
theorem made_or (n : Int) (h : u32B n = true) : (mA n = 0 ∧ mB n = 0 ∧ mR n = 0 ∧ mD n = 0 ∧ mT n = 0) ∨ Played (mA n) (mB n) (mR n) (mD n) (mT n) := by
  obtain ⟨h0, h1⟩ := u32B_iff h
  unfold mB mR mD mT
  cases e : mA n == 0
  · right
    have e' : ¬ mA n = 0 := by simpa using e
    simp only [cond_false]
    unfold mA at e' ⊢
    unfold Played
    omega
  · left
    have e' : mA n = 0 := by simpa using e
    exact ⟨e', rfl, rfl, rfl, rfl⟩
theorem Played.con {a b r d t : Int} (h : Played a b r d t) : conB a b r d = true := by
  obtain ⟨h1, h2, h3, h4, _⟩ := h
  simp only [conB, u8B, Bool.and_eq_true, leI_iff]; omega
theorem Played.a0 {a b r d t : Int} (h : Played a b r d t) : (a == 0) = false := by
  obtain ⟨h1, _⟩ := h
  simp; omega
theorem Played.right {a b r d t : Int} (h : Played a b r d t) : right a b r d = true := by
  obtain ⟨h1, h2, h3, h4, _⟩ := id h
  exact (right_iff h.con h.a0).2 ⟨h1, h2, h3, h4⟩
theorem Played.res {a b r d t : Int} (h : Played a b r d t) : isRes a b r d t = true :=
  isRes_iff.2 ⟨h.right, h.2.2.2.2.1, h.2.2.2.2.2, fun e => by have := h.1; omega⟩
theorem Played.pts {a b r d t : Int} (h : Played a b r d t) (v : Bool) : pts a b r d t v = ptsOf a b r t v := by
  show (bif isRes a b r d t then (bif a == 0 then 0 else ptsOf a b r t v) else 0) = _
  rw [h.res, h.a0]; rfl
theorem Played.ptsE {a b r d t : Int} (h : Played a b r d t) : ptsE a b r d t = 0 := ptsE_res h.res

/-! ### 'same' -/
theorem t11 (a b r d t v : Int) : (calls C4 60 11 [con a b r d, .int .i64 t, .int .u8 v]).run = bif conB a b r d then bif conB a b r d then bif conB a b r d && u8B v then bif conB a b r d && u8B v then
    bif !right a b r d == right a b r d then some (.bool false) else bif u8B a then bif u8B a then bif need a b r d != need a b r d then some (.bool false) else
    bif u8B v && u8B d then bif u8B v && u8B d then bif !vul v d == vul v d then some (.bool false) else
    bif pts a b r d t (v.tmod 2 == 1) != pts a b r d t (v.tmod 2 == 1) then some (.bool false) else bif ptsE a b r d t != ptsE a b r d t then some (.bool false) else
    bif scoreK a b r d t v != scoreK a b r d t v then some (.bool false) else bif scoreE a b r d t v != scoreE a b r d t v then some (.bool false) else
    bif conB a b r d then bif conB a b r d then bif conB a b r d then bif conB a b r d then
    bif text a b r d == text a b r d then bif textE a b r d == textE a b r d then bif writeK a b r d t == writeK a b r d t then some (.bool (writeE a b r d t == writeE a b r d t)) else some (.bool false) else some (.bool false) else some (.bool false)
    else none else none else none else none else none else none else none else none else none else none else none else none := by kernel_rfl
theorem e11 (a b r d t v : Int) (h : conB a b r d = true) (hv : u8B v = true) : (calls C4 60 11 [con a b r d, .int .i64 t, .int .u8 v]).run = some (.bool true) := by
  rw [t11, h, hv, conB_a h, conB_d h]
  simp only [Bool.and_self, cond_true, bne_self_eq_false, cond_false, beq_self_eq_true, Bool.not_true]
def sSame : List AV → T AV
  | [.agg [.int .u8 a, .int .u8 b, .int .u8 r, .int .u8 d], .int .i64 _, .int .u8 v] => .chk (conB a b r d && u8B v) (.leaf (.bool true))
  | _ => .fail
theorem sSame_run : ∀ args v, (sSame args).run = some v → (calls C4 60 11 args).run = some v := by
  intro args v hr
  unfold sSame at hr
  split at hr
  · obtain ⟨h1, hr⟩ := T.of_chk hr
    simp only [Bool.and_eq_true] at h1
    cases Option.some.inj hr
    exact e11 _ _ _ _ _ _ h1.1 h1.2
  · simp [T.run] at hr
noncomputable def tab5 : List (Nat × (List AV → T AV)) := [(14, sMk), (11, sSame)]
theorem allTab5 : AllL (SumAt C4) tab5 :=
  ⟨sum_of_run ok4 (calls_fn ok4 (e14 0 rfl)) sMk_run, sum_of_run ok4 (calls_fn ok4 (e11 0 0 0 0 0 0 rfl rfl)) sSame_run, trivial⟩
noncomputable def C5 : Ctx := withSum C4 tab5
theorem ok5 : Ok C5 := ok_with ok4 allTab5

theorem t3 (a b r d t v : Int) : (calls C5 60 3 [con a b r d, .int .i64 t, .int .u8 v]).run = bif conB a b r d && u8B v then some (.bool true) else none := by kernel_rfl
/-- **P17.1 to P17.4**: ScoreTells is true. -/
theorem tells_run (a b r d t v : Int) (h : conB a b r d = true) (hv : u8B v = true) : (calls C5 60 3 [con a b r d, .int .i64 t, .int .u8 v]).run = some (.bool true) := by
  rw [t3, h, hv]; rfl
end Go.Proofs.YtfkpbchdapccmaaDoor

/- Chapter 17: one trick more scores more; and the like. -/
namespace Go.Proofs.YtfkpbchdapccmaaDoor
open Go Go.Ev

def yes : Option AV := some (.bool true)
def no : Option AV := some (.bool false)
def gEnd (a b r d t : Int) : Option AV :=
  bif conB a b r d then bif conB a b r d then bif ptsE a b r d t == 0 then bif ptsE a b r d t == 0 then
    bif decide (t ≥ need a b r d) then bif decide (pts a b r d t true ≥ pts a b r d t false) then yes else
        bif !decide (t ≥ need a b r d) then bif decide (pts a b r d t true < pts a b r d t false) then yes else no else no
      else bif !decide (t ≥ need a b r d) then bif decide (pts a b r d t true < pts a b r d t false) then yes else no else no
  else no else no else none else none
def gMid (a b r d t : Int) (v : Bool) : Option AV :=
  bif u8B a then bif !(decide (pts a b r d t v > 0) == decide (t ≥ need a b r d)) then no else
    bif decide (r < 2) then
      bif conB a b (IntKind.u8.wrap (r + 1)) d then
        bif !(ptsE a b (IntKind.u8.wrap (r + 1)) d t == 0) then no else
        bif pts a b (IntKind.u8.wrap (r + 1)) d t v == pts a b r d t v then no else
        bif !(decide (pts a b (IntKind.u8.wrap (r + 1)) d t v > pts a b r d t v) == decide (t ≥ need a b r d)) then no else gEnd a b r d t
      else none
    else gEnd a b r d t
  else none
def gTree (a b r d t : Int) (v : Bool) : Option AV :=
  bif conB a b r d then bif !(ptsE a b r d t == 0) then no else
    bif (pts a b r d t v).tmod 10 != 0 then no else
    bif decide (pts a b r d t v < -7600) then no else bif decide (pts a b r d t v > 3160) then no else
    bif !((pts a b r d t v == 0) == (a == 0)) then no else
    bif a == 0 then yes else
    bif decide (t < 13) then
      bif conB a b r d then bif !(ptsE a b r d (IntKind.i64.wrap (t + 1)) == 0) then no else
        bif decide (pts a b r d (IntKind.i64.wrap (t + 1)) v ≤ pts a b r d t v) then no else gMid a b r d t v
      else none
    else gMid a b r d t v
  else none
theorem t6 (n : Int) (v : Bool) : (calls C5 60 6 [.int .u32 n, .bool v]).run = bif u32B n then gTree (mA n) (mB n) (mR n) (mD n) (mT n) v else none := by kernel_rfl

/-- What is asked of the numbers. -/
def growB (a b r t : Int) (v : Bool) : Bool :=
  let p := ptsOf a b r t v
  let q := ptsOf a b (r + 1) t v
  (p % 10 == 0) && leI (-7600) p && leI p 3160 && !(p == 0) && (leI 13 t || !(leI (ptsOf a b r (t + 1) v) p)) && (decide (p > 0) == leI (6 + a) t) &&
    (leI 2 r || (!(q == p) && (decide (q > p) == leI (6 + a) t))) && (bif leI (6 + a) t then leI (ptsOf a b r t false) (ptsOf a b r t true) else !(leI (ptsOf a b r t false) (ptsOf a b r t true)))
def growA (a : Nat) : Bool := (rng 0 5).all fun b => (rng 0 3).all fun r => (rng 0 14).all fun t => growB a b r t false && growB a b r t true
theorem growA1 : growA 1 = true := by kernel_rfl
theorem growA2 : growA 2 = true := by kernel_rfl
theorem growA3 : growA 3 = true := by kernel_rfl
theorem growA4 : growA 4 = true := by kernel_rfl
theorem growA5 : growA 5 = true := by kernel_rfl
theorem growA6 : growA 6 = true := by kernel_rfl
theorem growA7 : growA 7 = true := by kernel_rfl
theorem grow_of {a b r d t : Int} (h : Played a b r d t) (v : Bool) : growB a b r t v = true := by
  obtain ⟨h1, h2, h3, h4, h5, h6⟩ := h
  have key : ∀ k : Nat, a = k → growA k = true → growB a b r t v = true := fun k hk hg => by
    subst hk
    have := List.all_eq_true.1 (List.all_eq_true.1 (List.all_eq_true.1 hg b (mem_rng (by omega) (by omega))) r (mem_rng (by omega) (by omega))) t (mem_rng (by omega) (by omega))
    simp only [Bool.and_eq_true] at this
    cases v
    · exact this.1
    · exact this.2
  have ha : a = (1 : Nat) ∨ a = (2 : Nat) ∨ a = (3 : Nat) ∨ a = (4 : Nat) ∨ a = (5 : Nat) ∨ a = (6 : Nat) ∨ a = (7 : Nat) := by omega
  rcases ha with e | e | e | e | e | e | e
  · exact key 1 e growA1
  · exact key 2 e growA2
  · exact key 3 e growA3
  · exact key 4 e growA4
  · exact key 5 e growA5
  · exact key 6 e growA6
  · exact key 7 e growA7

theorem gEnd_yes {a b r d t : Int} (h : Played a b r d t) : gEnd a b r d t = yes := by
  have hb := grow_of h true
  simp only [growB, Bool.and_eq_true] at hb
  obtain ⟨_, hb⟩ := hb
  unfold gEnd
  rw [h.con, h.ptsE, need_eq h.right h.a0, h.pts, h.pts]
  by_cases hm : 6 + a ≤ t
  · rw [leI_iff.2 hm] at hb
    have hb := leI_iff.1 hb
    rw [decide_eq_true (by omega : t ≥ 6 + a), decide_eq_true (by omega : ptsOf a b r t true ≥ ptsOf a b r t false)]
    rfl
  · rw [leI_not.2 (by omega)] at hb
    simp only [cond_false, Bool.not_eq_true'] at hb
    have hb := leI_not.1 hb
    rw [decide_eq_false (by omega : ¬ t ≥ 6 + a), decide_eq_true (by omega : ptsOf a b r t true < ptsOf a b r t false)]
    rfl
theorem gMid_yes {a b r d t : Int} (h : Played a b r d t) (v : Bool) : gMid a b r d t v = yes := by
  have hb := grow_of h v
  simp only [growB, Bool.and_eq_true] at hb
  obtain ⟨⟨⟨_, hp⟩, hq⟩, _⟩ := hb
  have e1 : (decide (t ≥ 6 + a)) = leI (6 + a) t := rfl
  unfold gMid
  rw [conB_a h.con, need_eq h.right h.a0, h.pts, e1, bif_t rfl, hp, bif_f (b := !true) rfl]
  by_cases hr : r < 2
  · obtain ⟨h1, h2, h3, h4, h5⟩ := id h
    have h' : Played a b (r + 1) d t := ⟨h1, h2, by omega, h4, h5⟩
    rw [leI_not.2 hr] at hq
    simp only [Bool.false_or, Bool.and_eq_true, Bool.not_eq_true'] at hq
    rw [bif_t (decide_eq_true hr), u8_in _ (by omega), h'.con, h'.ptsE, h'.pts, gEnd_yes h, hq.1, hq.2]
    rfl
  · rw [bif_f (decide_eq_false hr), gEnd_yes h]
theorem gTree_yes {a b r d t : Int} (h : Played a b r d t) (v : Bool) : gTree a b r d t v = yes := by
  have hb := grow_of h v
  simp only [growB, Bool.and_eq_true, beq_iff_eq, leI_iff, Bool.not_eq_true', beq_eq_false_iff_ne, ne_eq] at hb
  obtain ⟨⟨⟨⟨⟨⟨⟨k1, k2⟩, k3⟩, k4⟩, k5⟩, _⟩, _⟩, _⟩ := hb
  unfold gTree
  have e0 : (ptsOf a b r t v == 0) = false := by simpa using k4
  have e1 : ((ptsOf a b r t v).tmod 10 != 0) = false := by
    have : (ptsOf a b r t v).tmod 10 = 0 := by
      rw [Int.tmod_eq_emod]
      split <;> omega
    rw [this]; rfl
  rw [h.con, h.ptsE, h.pts, e1, decide_eq_false (by omega : ¬ ptsOf a b r t v < -7600), decide_eq_false (by omega : ¬ ptsOf a b r t v > 3160), e0, h.a0]
  rw [gMid_yes h]
  by_cases ht : t < 13
  · obtain ⟨h1, h2, h3, h4, h5⟩ := id h
    have h' : Played a b r d (t + 1) := ⟨h1, h2, h3, h4, by omega⟩
    rw [leI_not.2 ht] at k5
    simp only [Bool.false_or, Bool.not_eq_true'] at k5
    have k5 := leI_not.1 k5
    rw [decide_eq_true ht, IntWalk.i64_in (t + 1) (by omega), h'.ptsE, h'.pts, decide_eq_false (by omega : ¬ ptsOf a b r (t + 1) v ≤ ptsOf a b r t v)]
    rfl
  · rw [decide_eq_false ht]; rfl
/-- **P17.2, P17.5**: ScoreGrows is true. -/
theorem grows_run (n : Int) (v : Bool) (h : u32B n = true) : (calls C5 60 6 [.int .u32 n, .bool v]).run = some (.bool true) := by
  rw [t6, h]
  rcases made_or n h with ⟨h1, h2, h3, h4, h5⟩ | hp
  · rw [h1, h2, h3, h4, h5]; cases v <;> rfl
  · exact gTree_yes hp v
end Go.Proofs.YtfkpbchdapccmaaDoor

/- Chapter 17: what is not right is rejected. -/
namespace Go.Proofs.YtfkpbchdapccmaaDoor
open Go Go.Ev

def w5 (x w : Int) : Option AV := bif u8B w && u8B x then bif !vul w x then (bif u8B 3 && u8B w then bif !vul 3 w then yes else no else none) else no else none
def wTree (how x a b r d t w : Int) : Option AV :=
  bif conB a b r d && u8B w then bif scoreK a b r d t w != 0 then no else bif scoreE a b r d t w != 2 then no else
    bif how.tmod 6 == 5 then w5 x w else
    bif conB a b r d then bif conB a b r d then bif pts a b r d t (x.tmod 2 == 0) != 0 then no else bif ptsE a b r d t != 2 then no else
      bif !(writeK a b r d t == []) then no else bif writeE a b r d t != 2 then no else
      bif how.tmod 6 == 4 then yes else
      bif conB a b r d then bif !right a b r d then bif u8B a then bif need a b r d == 0 then bif text a b r d == [] then bif textE a b r d == 2 then yes else no else no else no else none else no else none
    else none else none
  else none
theorem t10 (n how x k : Int) : (calls C5 60 10 [.int .u32 n, .int .u8 how, .int .u8 x, .int .i64 k]).run = bif u32B n then
    bif how.tmod 6 == 0 then wTree how x (bif decide (8 > x) then 8 else x) (mB n) (mR n) (mD n) (mT n) 0 else
    bif how.tmod 6 == 1 then wTree how x (bif decide (1 > mA n) then 1 else mA n) (bif decide (5 > x) then 5 else x) (mR n) (mD n) (mT n) 0 else
    bif how.tmod 6 == 2 then wTree how x (mA n) (mB n) (bif decide (3 > x) then 3 else x) (mD n) (mT n) 0 else
    bif how.tmod 6 == 3 then wTree how x (mA n) (mB n) (mR n) (bif decide (4 > x) then 4 else x) (mT n) 0 else
    bif how.tmod 6 == 4 then (bif x.tmod 2 == 0 then wTree how x (mA n) (mB n) (mR n) (mD n) (bif decide (-1 < k) then -1 else k) 0 else wTree how x (mA n) (mB n) (mR n) (mD n) (bif decide (14 > k) then 14 else k) 0) else
    bif how.tmod 6 == 5 then wTree how x (mA n) (mB n) (mR n) (mD n) (mT n) (bif decide (4 > x) then 4 else x) else
    wTree how x (mA n) (mB n) (mR n) (mD n) (mT n) 0 else none := by kernel_rfl

theorem wTree_yes {how x a b r d t : Int} (h : conB a b r d = true) (hr : isRes a b r d t = false) (h5 : (how.tmod 6 == 5) = false) (h4 : (how.tmod 6 == 4) = true ∨ right a b r d = false) : wTree how x a b r d t 0 = yes := by
  have e1 : okS a b r d t 0 = false := by unfold okS; rw [hr]; rfl
  unfold wTree
  rw [h, show scoreK a b r d t 0 = 0 by unfold scoreK; rw [e1]; rfl, show scoreE a b r d t 0 = 2 by unfold scoreE; rw [e1]; rfl, h5, show pts a b r d t (x.tmod 2 == 0) = 0 by unfold pts; rw [hr]; rfl, ptsE_not hr,
    show writeK a b r d t = [] by unfold writeK; rw [hr]; rfl, show writeE a b r d t = 2 by unfold writeE; rw [hr]; rfl]
  rcases h4 with h4 | h4
  · rw [h4]; rfl
  · rw [h4, conB_a h, show need a b r d = 0 by unfold need; rw [h4]; cases a == 0 <;> rfl, show text a b r d = [] by unfold text; rw [h4]; rfl, show textE a b r d = 2 by unfold textE; rw [h4]; rfl]
    cases how.tmod 6 == 4 <;> rfl
theorem wTree_yes5 {how x a b r d t w : Int} (h : conB a b r d = true) (hx : u8B x = true) (hw : 4 ≤ w) (hw' : w ≤ 255) (h5 : (how.tmod 6 == 5) = true) : wTree how x a b r d t w = yes := by
  have e0 : leI w 3 = false := leI_not.2 (by omega)
  have e1 : okS a b r d t w = false := by unfold okS; rw [e0]; cases isRes a b r d t <;> rfl
  have e2 : u8B w = true := by simp only [u8B, Bool.and_eq_true, leI_iff]; omega
  unfold wTree w5
  rw [h, show scoreK a b r d t w = 0 by unfold scoreK; rw [e1]; rfl, show scoreE a b r d t w = 2 by unfold scoreE; rw [e1]; rfl, h5, e2, hx, show vul w x = false by unfold vul; rw [e0]; rfl, show vul 3 w = false by unfold vul; rw [e0]; rfl]
  rfl
theorem res_of_right {a b r d t : Int} (h : right a b r d = false) : isRes a b r d t = false := by unfold isRes; rw [h]; rfl
theorem mx_ge (k x : Int) : k ≤ (bif decide (k > x) then k else x) := by
  by_cases h : k > x
  · rw [decide_eq_true h]; simp
  · rw [decide_eq_false h]; simp only [cond_false]; omega
theorem mx_le (k x : Int) (hk : k ≤ 255) (hx : x ≤ 255) : (bif decide (k > x) then k else x) ≤ 255 := by
  cases decide (k > x) <;> simpa
theorem mn_le (k x : Int) : (bif decide (k < x) then k else x) ≤ k := by
  by_cases h : k < x
  · rw [decide_eq_true h]; simp
  · rw [decide_eq_false h]; simp only [cond_false]; omega
theorem conB_mk {a b r d : Int} (ha : 0 ≤ a ∧ a ≤ 255) (hb : 0 ≤ b ∧ b ≤ 255) (hr : 0 ≤ r ∧ r ≤ 255) (hd : 0 ≤ d ∧ d ≤ 255) : conB a b r d = true := by
  simp only [conB, u8B, Bool.and_eq_true, leI_iff]; exact ⟨ha, hb, hr, hd⟩
/-- The limits of a result that is made. -/
theorem made_lim (n : Int) (h : u32B n = true) : (0 ≤ mA n ∧ mA n ≤ 7) ∧ (0 ≤ mB n ∧ mB n ≤ 4) ∧ (0 ≤ mR n ∧ mR n ≤ 2) ∧ (0 ≤ mD n ∧ mD n ≤ 3) ∧ 0 ≤ mT n ∧ mT n ≤ 13 := by
  rcases made_or n h with ⟨h1, h2, h3, h4, h5⟩ | ⟨h1, h2, h3, h4, h5⟩ <;> omega
/-- **P17.1 to P17.4**: ScoreWrong is true. -/
theorem wrong_run (n how x k : Int) (h : u32B n = true) (hh : 0 ≤ how) (hx : u8B x = true) : (calls C5 60 10 [.int .u32 n, .int .u8 how, .int .u8 x, .int .i64 k]).run = some (.bool true) := by
  obtain ⟨x0, x1⟩ := u8B_iff hx
  obtain ⟨l1, l2, l3, l4, l5⟩ := made_lim n h
  have hm : how.tmod 6 = how % 6 := tmod_nn hh
  have hm6 : how % 6 = 0 ∨ how % 6 = 1 ∨ how % 6 = 2 ∨ how % 6 = 3 ∨ how % 6 = 4 ∨ how % 6 = 5 := by omega
  rw [t10, h, bif_t rfl, hm]
  rcases hm6 with e | e | e | e | e | e
  · simp only [e, Int.reduceBEq, cond_true, cond_false]
    have g := mx_ge 8 x
    have g' := mx_le 8 x (by omega) x1
    have hr : right (bif decide (8 > x) then 8 else x) (mB n) (mR n) (mD n) = false := by
      unfold right
      rw [show ((bif decide (8 > x) then 8 else x) == 0) = false by simp only [beq_eq_false_iff_ne, ne_eq]; omega, decide_eq_false (by omega : ¬ (bif decide (8 > x) then 8 else x) ≤ 7)]; rfl
    exact wTree_yes (conB_mk (by omega) (by omega) (by omega) (by omega)) (res_of_right hr) (by rw [hm, e]; rfl) (.inr hr)
  · simp only [e, Int.reduceBEq, cond_true, cond_false]
    have g := mx_ge 5 x
    have g' := mx_le 5 x (by omega) x1
    have ga := mx_ge 1 (mA n)
    have ga' := mx_le 1 (mA n) (by omega) (by omega)
    have hr : right (bif decide (1 > mA n) then 1 else mA n) (bif decide (5 > x) then 5 else x) (mR n) (mD n) = false := by
      unfold right
      rw [show ((bif decide (1 > mA n) then 1 else mA n) == 0) = false by simp only [beq_eq_false_iff_ne, ne_eq]; omega, decide_eq_false (by omega : ¬ (bif decide (5 > x) then 5 else x) ≤ 4)]; simp
    exact wTree_yes (conB_mk (by omega) (by omega) (by omega) (by omega)) (res_of_right hr) (by rw [hm, e]; rfl) (.inr hr)
  · simp only [e, Int.reduceBEq, cond_true, cond_false]
    have g := mx_ge 3 x
    have g' := mx_le 3 x (by omega) x1
    have hr : right (mA n) (mB n) (bif decide (3 > x) then 3 else x) (mD n) = false := by
      unfold right
      rw [show ((bif decide (3 > x) then 3 else x) == 0) = false by simp only [beq_eq_false_iff_ne, ne_eq]; omega, decide_eq_false (by omega : ¬ (bif decide (3 > x) then 3 else x) ≤ 2)]; cases mA n == 0 <;> simp
    exact wTree_yes (conB_mk (by omega) (by omega) (by omega) (by omega)) (res_of_right hr) (by rw [hm, e]; rfl) (.inr hr)
  · simp only [e, Int.reduceBEq, cond_true, cond_false]
    have g := mx_ge 4 x
    have g' := mx_le 4 x (by omega) x1
    have hr : right (mA n) (mB n) (mR n) (bif decide (4 > x) then 4 else x) = false := by
      unfold right
      rw [show ((bif decide (4 > x) then 4 else x) == 0) = false by simp only [beq_eq_false_iff_ne, ne_eq]; omega, decide_eq_false (by omega : ¬ (bif decide (4 > x) then 4 else x) ≤ 3)]; cases mA n == 0 <;> simp
    exact wTree_yes (conB_mk (by omega) (by omega) (by omega) (by omega)) (res_of_right hr) (by rw [hm, e]; rfl) (.inr hr)
  · simp only [e, Int.reduceBEq, cond_true, cond_false]
    have hc : conB (mA n) (mB n) (mR n) (mD n) = true := conB_mk (by omega) (by omega) (by omega) (by omega)
    have h5 : (how.tmod 6 == 5) = false := by rw [hm, e]; rfl
    have h4 : (how.tmod 6 == 4) = true := by rw [hm, e]; rfl
    have r1 : isRes (mA n) (mB n) (mR n) (mD n) (bif decide (-1 < k) then -1 else k) = false := by
      have := mn_le (-1) k
      cases hb : isRes (mA n) (mB n) (mR n) (mD n) (bif decide (-1 < k) then -1 else k)
      · rfl
      · have := isRes_iff.1 hb; omega
    have r2 : isRes (mA n) (mB n) (mR n) (mD n) (bif decide (14 > k) then 14 else k) = false := by
      have := mx_ge 14 k
      cases hb : isRes (mA n) (mB n) (mR n) (mD n) (bif decide (14 > k) then 14 else k)
      · rfl
      · have := isRes_iff.1 hb; omega
    rw [wTree_yes hc r1 h5 (.inl h4), wTree_yes hc r2 h5 (.inl h4)]
    cases x.tmod 2 == 0 <;> rfl
  · simp only [e, Int.reduceBEq, cond_true, cond_false]
    exact wTree_yes5 (conB_mk (by omega) (by omega) (by omega) (by omega)) hx (mx_ge 4 x) (mx_le 4 x (by omega) x1) (by rw [hm, e]; rfl)
end Go.Proofs.YtfkpbchdapccmaaDoor
