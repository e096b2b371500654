/- Chapter 17: the reference's points are the program's. -/
import Derived.Test.YtfkpbchdapccmaaDoorL0
import Derived.Test.YtfkpbchdapccmaaDoorL1
import Derived.Test.YtfkpbchdapccmaaDoorL2
import Derived.Test.YtfkpbchdapccmaaDoorW
namespace Go.Proofs.YtfkpbchdapccmaaDoor
open Go Go.Ev

theorem lostAll {a : Nat} {r : Int} (h1 : 1 ≤ a) (h2 : a ≤ 7) (h3 : 0 ≤ r) (h4 : r ≤ 2) : Lost a r := by
  have ha : a = 1 ∨ a = 2 ∨ a = 3 ∨ a = 4 ∨ a = 5 ∨ a = 6 ∨ a = 7 := by omega
  rcases ha with rfl | rfl | rfl | rfl | rfl | rfl | rfl <;> rcases three h3 h4 with rfl | rfl | rfl
  · exact lost10
  · exact lost11
  · exact lost12
  · exact lost20
  · exact lost21
  · exact lost22
  · exact lost30
  · exact lost31
  · exact lost32
  · exact lost40
  · exact lost41
  · exact lost42
  · exact lost50
  · exact lost51
  · exact lost52
  · exact lost60
  · exact lost61
  · exact lost62
  · exact lost70
  · exact lost71
  · exact lost72
theorem wonAll {a : Nat} {r : Int} (h1 : 1 ≤ a) (h2 : a ≤ 7) (h3 : 0 ≤ r) (h4 : r ≤ 2) : Won a r := by
  have ha : a = 1 ∨ a = 2 ∨ a = 3 ∨ a = 4 ∨ a = 5 ∨ a = 6 ∨ a = 7 := by omega
  rcases ha with rfl | rfl | rfl | rfl | rfl | rfl | rfl <;> rcases three h3 h4 with rfl | rfl | rfl
  · exact won10
  · exact won11
  · exact won12
  · exact won20
  · exact won21
  · exact won22
  · exact won30
  · exact won31
  · exact won32
  · exact won40
  · exact won41
  · exact won42
  · exact won50
  · exact won51
  · exact won52
  · exact won60
  · exact won61
  · exact won62
  · exact won70
  · exact won71
  · exact won72

theorem t25z (t : Int) (v : Bool) (b r d : Int) : (calls Cn 80 25 [con 0 b r d, .int .i64 t, .bool v]).run = bif !isRes 0 b r d t then some (two 0 2) else some (two 0 0) := by kernel_rfl
/-- No result, as the reference sees it. -/
def sResF : List AV → T AV
  | [.agg [.int .u8 a, .int .u8 b, .int .u8 r, .int .u8 d], .int .i64 t] => .chk (u8B a && !isRes a b r d t) (.leaf (.bool false))
  | _ => .fail
theorem sResF_run : ∀ args v, (sResF args).run = some v → (calls C1 60 43 args).run = some v := by
  intro args v hr
  unfold sResF at hr
  split at hr
  · obtain ⟨h1, hr⟩ := T.of_chk hr
    simp only [Bool.and_eq_true, Bool.not_eq_true'] at h1
    cases Option.some.inj hr
    rw [e43 _ _ _ _ _ h1.1, h1.2]
  · simp [T.run] at hr
noncomputable def tabZ : List (Nat × (List AV → T AV)) := [(43, sResF)]
theorem allTabZ : AllL (SumAt C2) tabZ := ⟨⟨(calls_fn ok1 (e43 0 0 0 0 0 rfl)).at rfl, fun args v hr => (calls_iso ok1 (sResF_run args v hr)).at rfl rfl⟩, trivial⟩
noncomputable def Cz : Ctx := withSum C2 tabZ
theorem okz : Ok Cz := ok_with ok2 allTabZ
theorem t25f (a b r d t : Int) (v : Bool) : (calls Cz 80 25 [con a b r d, .int .i64 t, .bool v]).run = bif (u8B a && !isRes a b r d t) then some (two 0 2) else none := by kernel_rfl

theorem sum_rep (m : Nat) (x : Int) : (List.replicate m x).sum = m * x := by
  induction m with
  | zero => simp
  | succ m ih => rw [List.replicate_succ, List.sum_cons, ih]; have : ((m + 1 : Nat) : Int) * x = m * x + x := by rw [Int.natCast_add, Int.add_mul]; omega
                 omega
theorem overK_b {b r : Int} (v : Bool) : 0 ≤ overK b r v ∧ overK b r v ≤ 400 := by
  unfold overK byI
  cases r == 0
  · cases r == 1 <;> cases v <;> simp
  · rcases valK_b b with h | h <;> rw [h] <;> simp
theorem partK_b {a b r : Int} (h1 : 1 ≤ a) (h2 : a ≤ 7) : 0 ≤ partK a b r ∧ partK a b r ≤ 1000 := by
  unfold partK
  have hv : 20 ≤ a * valK b ∧ a * valK b ≤ 210 := by rcases valK_b b with h | h <;> rw [h] <;> omega
  cases b == 4 <;> cases r == 0 <;> cases r == 1 <;> simp only [cond_true, cond_false] <;> omega

theorem incs_eq {a b r : Int} {v : Bool} {bonus : Int} {m : Nat} (h1 : 1 ≤ a) (h2 : a ≤ 7) (h3 : 0 ≤ r) (h4 : r ≤ 2) (hm : m ≤ 13) (hb : 0 ≤ bonus) (hb' : bonus ≤ 500) :
    addAll (incs bonus a r v (overK b r v) m) (partK a b r) = partK a b r + bonus + (bif a == 6 then byI v 500 750 else bif a == 7 then byI v 1000 1500 else 0) + 50 * r + m * overK b r v := by
  obtain ⟨o1, o2⟩ := overK_b (b := b) (r := r) v
  obtain ⟨p1, p2⟩ := partK_b (b := b) (r := r) h1 h2
  rw [addAll_eq _ _ ?_ p1 ?_]
  · unfold incs
    rw [List.sum_cons, List.sum_append, List.sum_append, sum_rep]
    have e1 : (bif a == 6 then [byI v 500 750] else bif a == 7 then [byI v 1000 1500] else []).sum = (bif a == 6 then byI v 500 750 else bif a == 7 then byI v 1000 1500 else 0) := by
      cases a == 6 <;> cases a == 7 <;> simp
    have e2 : (bif r == 1 then [(50 : Int)] else bif r == 2 then [100] else []).sum = 50 * r := by
      rcases three h3 h4 with rfl | rfl | rfl <;> rfl
    rw [e1, e2]; omega
  · intro x hx
    simp only [incs, List.mem_cons, List.mem_append, List.mem_replicate] at hx
    rcases hx with rfl | (hx | hx) | ⟨_, rfl⟩
    · omega
    · cases h6 : a == 6 <;> cases h7 : a == 7 <;> rw [h6] at hx <;> simp only [h7, cond_true, cond_false, List.mem_singleton, List.not_mem_nil] at hx <;> first | (subst hx; unfold byI; cases v <;> simp) | cases hx
    · cases h6 : r == 1 <;> cases h7 : r == 2 <;> rw [h6] at hx <;> simp only [h7, cond_true, cond_false, List.mem_singleton, List.not_mem_nil] at hx <;> first | (subst hx; simp) | cases hx
    · omega
  · have : (incs bonus a r v (overK b r v) m).length ≤ 3 + m := by
      unfold incs
      cases a == 6 <;> cases a == 7 <;> cases r == 1 <;> cases r == 2 <;> simp <;> omega
    omega

theorem e25 (a b r d t : Int) (v : Bool) (h : conB a b r d = true) (hr : isRes a b r d t = true) : (calls Cn 80 25 [con a b r d, .int .i64 t, .bool v]).run = some (two (pts a b r d t v) (ptsE a b r d t)) := by
  obtain ⟨hr1, h1, h2, h3⟩ := isRes_iff.1 hr
  cases h0 : a == 0
  · obtain ⟨ha, hb, hc, hd⟩ := (right_iff h h0).1 hr1
    obtain ⟨n, rfl⟩ : ∃ n : Nat, a = n := ⟨a.toNat, by omega⟩
    unfold pts ptsE ptsOf
    rw [hr, bif_t rfl, bif_t rfl, h0, bif_f rfl]
    by_cases hm : 6 + (n : Int) ≤ t
    · have e := allEq (wonAll (a := n) (r := r) (by omega) (by omega) hc.1 hc.2 b d) (t, v) (mem_domTV v (by omega) (by omega))
      refine e.trans ?_
      have hp := partK_b (b := b) (r := r) (a := n) (by omega) (by omega)
      simp only [hr, hr1]
      rw [bif_f (b := !true) rfl, bif_t rfl, nest_true, nest_true, bif_t (leI_iff.2 (by omega)), incs_eq (by omega) (by omega) hc.1 hc.2 (by omega) (by omega) (by omega), incs_eq (by omega) (by omega) hc.1 hc.2 (by omega) (by unfold byI; cases v <;> simp) (by unfold byI; cases v <;> simp)]
      have em : ((t.toNat - (6 + n) : Nat) : Int) = t - (6 + n) := by omega
      rw [em]
      simp only [madeK]
      by_cases h100 : partK n b r < 100
      · rw [bif_t (decide_eq_true h100), bif_f (leI_not.2 h100)]
      · rw [bif_f (decide_eq_false h100), bif_t (leI_iff.2 (by omega : (100 : Int) ≤ partK n b r))]
    · have e := allEq (lostAll (a := n) (r := r) (by omega) (by omega) hc.1 hc.2 b d) (t, v) (mem_domTV v (by omega) (by omega))
      refine e.trans ?_
      simp only [hr, hr1]
      rw [bif_f (b := !true) rfl, nest_true, bif_f (leI_not.2 (by omega))]
  · have ha : a = 0 := by simpa using h0
    subst ha
    rw [t25z, hr]; unfold pts ptsE; rw [hr]; rfl
theorem iso25 (a b r d t : Int) (v : Bool) (h : conB a b r d = true) : Iso C2 25 [con a b r d, .int .i64 t, .bool v] (two (pts a b r d t v) (ptsE a b r d t)) := by
  cases hr : isRes a b r d t
  · have e := t25f a b r d t v
    rw [conB_a h, hr] at e
    have e2 : two (pts a b r d t v) (ptsE a b r d t) = two 0 2 := by unfold pts ptsE; rw [hr]; rfl
    rw [e2]
    exact (calls_iso okz e).at rfl rfl
  · exact (calls_iso okn (e25 a b r d t v h hr)).at rfl rfl
theorem sum25 : SumAt C2 (25, sPts) := by
  refine ⟨(calls_fn okn (e25 0 0 0 0 0 true rfl rfl)).at rfl, fun args v hr => ?_⟩
  replace hr : (sPts args).run = some v := hr
  show Iso C2 25 args v
  unfold sPts at hr
  split at hr
  · obtain ⟨h1, hr⟩ := T.of_chk hr
    cases Option.some.inj hr
    exact iso25 _ _ _ _ _ _ h1
  · simp [T.run] at hr
end Go.Proofs.YtfkpbchdapccmaaDoor
