/- Chapter 17: the context with points and texts. -/
import Derived.Test.YtfkpbchdapccmaaDoorS7
import Derived.Test.YtfkpbchdapccmaaDoorAwake
import Derived.Test.YtfkpbchdapccmaaDoorTa
namespace Go.Proofs.YtfkpbchdapccmaaDoor
open Go Go.Ev

theorem text30 {a b r d : Int} (h1 : 1 ≤ a) (h2 : a ≤ 7) (h3 : 0 ≤ b) (h4 : b ≤ 4) (h5 : 0 ≤ r) (h6 : r ≤ 2) (h7 : 0 ≤ d) (h8 : d ≤ 3) : (calls C2 60 30 [con a b r d]).run = some (txt (textR a b r d) 0) := by
  have ha : a = 1 ∨ a = 2 ∨ a = 3 ∨ a = 4 ∨ a = 5 ∨ a = 6 ∨ a = 7 := by omega
  rcases ha with rfl | rfl | rfl | rfl | rfl | rfl | rfl
  · exact text30_1.at h3 h4 h5 h6 h7 h8
  · exact text30_2.at h3 h4 h5 h6 h7 h8
  · exact text30_3.at h3 h4 h5 h6 h7 h8
  · exact text30_4.at h3 h4 h5 h6 h7 h8
  · exact text30_5.at h3 h4 h5 h6 h7 h8
  · exact text30_6.at h3 h4 h5 h6 h7 h8
  · exact text30_7.at h3 h4 h5 h6 h7 h8
theorem iso30 (a b r d : Int) (h : conB a b r d = true) : Iso C2 30 [con a b r d] (txt (text a b r d) (textE a b r d)) := by
  unfold text textE
  cases hr : right a b r d
  · have e := t30f a b r d
    rw [hr] at e
    exact (calls_iso okf e).at rfl rfl
  · cases h0 : a == 0
    · obtain ⟨ha, hb, hc, hd⟩ := (right_iff h h0).1 hr
      exact calls_iso ok2 (text30 ha.1 ha.2 hb.1 hb.2 hc.1 hc.2 hd.1 hd.2)
    · obtain rfl : a = 0 := by simpa using h0
      obtain ⟨rfl, rfl, rfl⟩ := right_zero.1 hr
      exact calls_iso ok2 t30z
def sText : List AV → T AV
  | [.agg [.int .u8 a, .int .u8 b, .int .u8 r, .int .u8 d]] => .chk (conB a b r d) (.leaf (txt (text a b r d) (textE a b r d)))
  | _ => .fail
theorem sText_iso {f : FuncId} (h : ∀ a b r d, conB a b r d = true → Iso C2 f [con a b r d] (txt (text a b r d) (textE a b r d))) : ∀ args v, (sText args).run = some v → Iso C2 f args v := by
  intro args v hr
  unfold sText at hr
  split at hr
  · obtain ⟨h1, hr⟩ := T.of_chk hr
    cases Option.some.inj hr
    exact h _ _ _ _ h1
  · simp [T.run] at hr

theorem t47 : (rng 1 13).map (fun n => (calls C2 60 47 [.int .i64 n]).run) = (rng 1 13).map fun n => some (.str (num2 n.toNat)) := by kernel_rfl
def sNum : List AV → T AV
  | [.int .i64 n] => .chk (leI 1 n && leI n 13) (.leaf (.str (num2 n.toNat)))
  | _ => .fail
theorem sNum_run : ∀ args v, (sNum args).run = some v → (calls C2 60 47 args).run = some v := by
  intro args v hr
  unfold sNum at hr
  split at hr
  · obtain ⟨h1, hr⟩ := T.of_chk hr
    simp only [Bool.and_eq_true, leI_iff] at h1
    cases Option.some.inj hr
    exact allEq t47 _ (mem_rng (by omega) (by omega))
  · simp [T.run] at hr

noncomputable def tab3 : List (Nat × (List AV → T AV)) := [(18, sPts), (25, sPts), (22, sText), (30, sText), (47, sNum)]
theorem allTab3 : AllL (SumAt C2) tab3 :=
  ⟨sum_of_run ok2 (calls_fn ok2 (e18 0 0 0 0 0 true rfl)) (sPts_run e18), sum25,
   ⟨calls_fn ok2 (e22 0 0 0 0 rfl), sText_iso fun a b r d h => calls_iso ok2 (e22 a b r d h)⟩, ⟨calls_fn ok2 t30z, sText_iso iso30⟩,
   sum_of_run ok2 (calls_fn ok2 (allEq t47 1 (mem_rng (by decide) (by decide)))) sNum_run, trivial⟩
noncomputable def C3 : Ctx := withSum C2 tab3
theorem ok3 : Ok C3 := ok_with ok2 allTab3
end Go.Proofs.YtfkpbchdapccmaaDoor
