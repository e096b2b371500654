/- Chapter 5: the reference: Holding, Right, Shape as summaries; the context with them. -/
import Derived.Test.YtgellkpbcoeccaaDoorSm7
namespace Go.Proofs.YtgellkpbcoeccaaDoor
open Go Go.Ev Go.Ev.Bits

noncomputable def c32' (m s : Nat) : Bool := leI 0 (m : Int) && (leI m 18446744073709551615 && (leI 0 (s : Int) && (leI s 3 && true)))
theorem tR32 (m s : Nat) : callsM C10 ZR32 60 32 [.int .u64 m, .int .u8 s] = bif decide ((s : Int) > 3) then some (.int .u16 0) else bif c32' m s then some (.int .u16 (shut (hd m s) : Nat)) else none := by kernel_rfl
noncomputable def sRHold : List AV → T AV
  | [.int .u64 m, .int .u8 s] => .chk (leI 0 m && (leI m 18446744073709551615 && leI 0 s)) (bif decide (s > 3) then .leaf (.int .u16 0) else .leaf (.int .u16 (shut (hd m.toNat s.toNat) : Nat)))
  | _ => .fail
theorem iso32 : ∀ args v, (sRHold args).run = some v → callsM C10 ZR32 60 32 args = some v := by
  intro args v hr
  unfold sRHold at hr
  split at hr
  · rename_i m s
    obtain ⟨hc, hr2⟩ := T.of_chk hr
    clear hr
    simp only [Bool.and_eq_true, leI_iff] at hc
    obtain ⟨h0, h1, h2⟩ := hc
    obtain ⟨m, rfl⟩ : ∃ n : Nat, m = n := ⟨m.toNat, by omega⟩
    obtain ⟨s, rfl⟩ : ∃ n : Nat, s = n := ⟨s.toNat, by omega⟩
    rw [tR32]
    by_cases h : (s : Int) > 3
    · rw [decide_eq_true h, cond_true] at hr2 ⊢
      exact hr2
    · rw [decide_eq_false h, cond_false] at hr2 ⊢
      have c : c32' m s = true := by
        unfold c32'
        rw [leI_iff.2 h0, leI_iff.2 h1, leI_iff.2 h2, leI_iff.2 (by omega)]
        rfl
      rw [c, cond_true]
      exact hr2
  · simp [T.run] at hr
theorem sum32 : SumAt C10 (32, sRHold) := ⟨callsM_fn ok10 zR32 (iso32 [.int .u64 0, .int .u8 0] _ rfl), fun args v hr => callsM_iso ok10 zR32 (iso32 args v hr)⟩
noncomputable def sRRight : List AV → T AV
  | [.int .u64 m] => .chk (leI 0 m && leI m 18446744073709551615) (.leaf (.bool (shut (rightN m.toNat))))
  | _ => .fail
theorem iso27 : ∀ args v, (sRRight args).run = some v → callsM C10 noZ 60 27 args = some v := by
  intro args v hr
  unfold sRRight at hr
  split at hr
  · rename_i m
    obtain ⟨hc, hr2⟩ := T.of_chk hr
    clear hr
    simp only [Bool.and_eq_true, leI_iff] at hc
    cases Option.some.inj hr2
    obtain ⟨m, rfl⟩ : ∃ n : Nat, m = n := ⟨m.toNat, by omega⟩
    rw [right27 m (by omega), shut_eq]
    rfl
  · simp [T.run] at hr
theorem sum27 : SumAt C10 (27, sRRight) := ⟨callsM_fn ok10 noZ10 (iso27 [.int .u64 0] _ rfl), fun args v hr => callsM_iso ok10 noZ10 (iso27 args v hr)⟩
noncomputable def sRShape : List AV → T AV
  | [.int .u64 m] => .chk (leI 0 m && leI m 18446744073709551615) (.leaf (.agg [.int .i64 (nL5 0 m.toNat), .int .i64 (nL5 1 m.toNat), .int .i64 (nL5 2 m.toNat), .int .i64 (nL5 3 m.toNat)]))
  | _ => .fail
theorem iso33 : ∀ args v, (sRShape args).run = some v → callsM C10 noZ 60 33 args = some v := by
  intro args v hr
  unfold sRShape at hr
  split at hr
  · rename_i m
    obtain ⟨hc, hr2⟩ := T.of_chk hr
    clear hr
    simp only [Bool.and_eq_true, leI_iff] at hc
    cases Option.some.inj hr2
    obtain ⟨m, rfl⟩ : ∃ n : Nat, m = n := ⟨m.toNat, by omega⟩
    rw [t33, um_eq (by omega)]
    rfl
  · simp [T.run] at hr
theorem sum33 : SumAt C10 (33, sRShape) := ⟨callsM_fn ok10 noZ10 (iso33 [.int .u64 0] _ rfl), fun args v hr => callsM_iso ok10 noZ10 (iso33 args v hr)⟩
noncomputable def tab11 : List (Nat × (List AV → T AV)) := [(27, sRRight), (28, sRNum (honS 1 2 3 4)), (29, sRNum (honS 0 0 1 2)), (30, sRNum losS), (31, sRNum qckS), (32, sRHold), (33, sRShape)]
noncomputable def C11 : Ctx := withSum C10 tab11
theorem ok11 : Ok C11 := ok_with ok10 ⟨sum27, sum28, sum29, sum30, sum31, sum32, sum33, trivial⟩
theorem keepOk11 : ∀ f fd, C11.code f = some fd → fd.keep.Nodup := keepOk
theorem noZ11 : ZOk C11 noZ := noZ_ok keepOk11
end Go.Proofs.YtgellkpbcoeccaaDoor
