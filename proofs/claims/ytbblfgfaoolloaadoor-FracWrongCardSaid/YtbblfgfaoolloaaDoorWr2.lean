/- Chapter 1: FracWrong: the context. -/
import Derived.Test.YtbblfgfaoolloaaDoorWr1
namespace Go.Proofs.YtbblfgfaoolloaaDoor
open Go Go.Ev Go.Ev.Bits

theorem u2k_ok {n d : Int} (h1 : i64k n = true) (h2 : i64k d = true) : u2k n d = true := by unfold u2k; rw [h1, h2]; rfl
noncomputable def bad2 (n d : Int) : Bool := i64k n && (i64k d && !(rtN n d))
theorem bad2_iff {n d : Int} : bad2 n d = true ↔ i64k n = true ∧ i64k d = true ∧ rtN n d = false := by unfold bad2; simp
noncomputable def sNearB : List AV → T AV
  | [.agg [.int .i64 n, .int .i64 d]] => .chk (bad2 n d) (.leaf (.tup [.int .i64 0, .int .i64 2]))
  | _ => .fail
noncomputable def sTextB : List AV → T AV
  | [.agg [.int .i64 n, .int .i64 d]] => .chk (bad2 n d) (.leaf (.tup [.str [], .int .i64 2]))
  | _ => .fail
noncomputable def offP (n d p : Int) : Bool := i64k n && (i64k d && (!(rtN n d) || (decide (p < 0) || decide (p > 9))))
noncomputable def sRoundB : List AV → T AV
  | [.agg [.int .i64 n, .int .i64 d], .int .i64 p] => .chk (offP n d p) (.leaf (.tup [.str [], .int .i64 2]))
  | _ => .fail
noncomputable def bad3 (n1 d1 n2 d2 n3 d3 : Int) : Bool := i64k n1 && (i64k d1 && (i64k n2 && (i64k d2 && (i64k n3 && (i64k d3 && (!(rtN n1 d1) || (!(rtN n2 d2) || !(rtN n3 d3))))))))
noncomputable def sSumB : List AV → T AV
  | [.ro _f 3 [.int .i64 n1, .int .i64 d1, .int .i64 n2, .int .i64 d2, .int .i64 n3, .int .i64 d3]] => .chk (bad3 n1 d1 n2 d2 n3 d3) (.leaf (.tup [.agg [.int .i64 0, .int .i64 0], .int .i64 2]))
  | [.nils] => .leaf (.tup [.agg [.int .i64 0, .int .i64 1], .int .i64 0])
  | _ => .fail
theorem iso22 : ∀ args v, (sNearB args).run = some v → callsM CF noZ 60 22 args = some v := by
  intro args v hr
  unfold sNearB at hr
  split at hr
  · rename_i n d
    obtain ⟨hc, hr2⟩ := T.of_chk hr
    clear hr
    obtain ⟨h1, h2, h3⟩ := bad2_iff.1 hc
    rw [u22, gd_eq (u2k_ok h1 h2), shut_eq, h3]
    exact hr2
  · simp [T.run] at hr
theorem iso18 : ∀ args v, (sTextB args).run = some v → callsM CF noZ 60 18 args = some v := by
  intro args v hr
  unfold sTextB at hr
  split at hr
  · rename_i n d
    obtain ⟨hc, hr2⟩ := T.of_chk hr
    clear hr
    obtain ⟨h1, h2, h3⟩ := bad2_iff.1 hc
    rw [u18, gd_eq (u2k_ok h1 h2), shut_eq, h3]
    exact hr2
  · simp [T.run] at hr
theorem iso23 : ∀ args v, (sRoundB args).run = some v → callsM CF ZF 60 23 args = some v := by
  intro args v hr
  unfold sRoundB at hr
  split at hr
  · rename_i n d p
    obtain ⟨hc, hr2⟩ := T.of_chk hr
    clear hr
    unfold offP at hc
    simp only [Bool.and_eq_true] at hc
    obtain ⟨h1, h2, h3⟩ := hc
    rw [u23, gd_eq (u2k_ok h1 h2), shut_eq]
    cases hr : rtN n d
    · exact hr2
    · rw [hr] at h3
      cases hp : decide (p < 0)
      · rw [hp] at h3
        have h4 : decide (p > 9) = true := h3
        rw [h4]
        exact hr2
      · exact hr2
  · simp [T.run] at hr
theorem iso31 : ∀ args v, (sSumB args).run = some v → callsM CF noZ 60 31 args = some v := by
  intro args v hr
  unfold sSumB at hr
  split at hr
  · rename_i f n1 d1 n2 d2 n3 d3
    obtain ⟨hc, hr2⟩ := T.of_chk hr
    clear hr
    unfold bad3 at hc
    simp only [Bool.and_eq_true] at hc
    obtain ⟨h1, h2, h3, h4, h5, h6, h7⟩ := hc
    rw [u31, gd_eq (u2k_ok h1 h2), gd_eq (u2k_ok h3 h4), gd_eq (u2k_ok h5 h6), shut_eq, shut_eq, shut_eq]
    cases e1 : rtN n1 d1
    · exact hr2
    · cases e2 : rtN n2 d2
      · exact hr2
      · cases e3 : rtN n3 d3
        · exact hr2
        · rw [e1, e2, e3] at h7; cases h7
  · rw [u31n]; exact hr
  · simp [T.run] at hr
theorem rt00 : rtN 0 0 = false := by decide
theorem sum22b : SumAt CF (22, sNearB) := ⟨callsM_fn okF noZF (iso22 [.agg [.int .i64 0, .int .i64 0]] (.tup [.int .i64 0, .int .i64 2]) rfl), fun args v hr => callsM_iso okF noZF (iso22 args v hr)⟩
theorem sum18b : SumAt CF (18, sTextB) := ⟨callsM_fn okF noZF (iso18 [.agg [.int .i64 0, .int .i64 0]] (.tup [.str [], .int .i64 2]) rfl), fun args v hr => callsM_iso okF noZF (iso18 args v hr)⟩
theorem sum23b : SumAt CF (23, sRoundB) := ⟨callsM_fn okF zF (iso23 [.agg [.int .i64 0, .int .i64 0], .int .i64 0] (.tup [.str [], .int .i64 2]) rfl), fun args v hr => callsM_iso okF zF (iso23 args v hr)⟩
theorem sum31b : SumAt CF (31, sSumB) := ⟨callsM_fn okF noZF u31n, fun args v hr => callsM_iso okF noZF (iso31 args v hr)⟩
noncomputable def tabW : List (Nat × (List AV → T AV)) := [(22, sNearB), (18, sTextB), (23, sRoundB), (37, sFail), (12, sSome)]
noncomputable def CW : Ctx := withSum C4 tabW
theorem okW : Ok CW := ok_with ok4 ⟨⟨sum22b.1.at rfl, fun args v hr => (sum22b.2 args v hr).at rfl rfl⟩, ⟨sum18b.1.at rfl, fun args v hr => (sum18b.2 args v hr).at rfl rfl⟩, ⟨sum23b.1.at rfl, fun args v hr => (sum23b.2 args v hr).at rfl rfl⟩, sum_fail (sum37.1.at rfl), ⟨sum12.1.at rfl, fun args v hr => (sum12.2 args v hr).at rfl rfl⟩, trivial⟩
theorem noZW : ZOk CW noZ := noZ_ok (show ∀ f fd, CW.code f = some fd → fd.keep.Nodup from keepOk)
end Go.Proofs.YtbblfgfaoolloaaDoor
