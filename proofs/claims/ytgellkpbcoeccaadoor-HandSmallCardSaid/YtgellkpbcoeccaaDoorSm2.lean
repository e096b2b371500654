/- Chapter 5: the reference: Has as a summary; Length. -/
import Derived.Test.YtgellkpbcoeccaaDoorSm1
namespace Go.Proofs.YtgellkpbcoeccaaDoor
open Go Go.Ev Go.Ev.Bits

theorem hb_hd (m s r : Nat) (hr : r < 13) : hb (hd m s) r = Nat.beq (m / 2 ^ (13 * s + r) % 2) 1 := by
  rw [hb_tb]
  unfold hd
  rw [show (8192 : Nat) = 2 ^ 13 from rfl, Nat.testBit_mod_two_pow, decide_eq_true hr, Bool.true_and, Nat.testBit_div_two_pow, Nat.add_comm, Nat.testBit_eq_decide_div_mod_eq]
  rcases Nat.mod_two_eq_zero_or_one (m / 2 ^ (r + 13 * s)) with e | e <;> rw [Nat.add_comm (13 * s) r, e] <;> rfl
noncomputable def sRHas : List AV → T AV
  | [.int .u64 m, .int .i64 s, .int .i64 r] => .chk (leI 0 m && (leI m 18446744073709551615 && (leI 0 s && (leI s 7 && (leI 0 r && leI r 12))))) (.leaf (.bool (shut (hb (hd m.toNat s.toNat) r.toNat))))
  | _ => .fail
noncomputable def c50 (m s r : Nat) : Bool := leI 0 (m : Int) && (leI m 18446744073709551615 && (leI 0 (s : Int) && (leI s 7 && (leI 0 (r : Int) && (leI r 20 && true)))))
theorem t50 (m s r : Nat) : callsM C8 Z50 60 50 [.int .u64 m, .int .i64 s, .int .i64 r] = bif c50 m s r then some (.bool ((((shut (m / 2 ^ (13 * s + r)) : Nat) : Int).tmod 2) == 1)) else none := by kernel_rfl
theorem sRHas_iso : ∀ args v, (sRHas args).run = some v → callsM C8 Z50 60 50 args = some v := by
  intro args v hr
  unfold sRHas at hr
  split at hr
  · rename_i m s r
    obtain ⟨hc, hr2⟩ := T.of_chk hr
    clear hr
    simp only [Bool.and_eq_true, leI_iff] at hc
    obtain ⟨h0, h1, h2, h3, h4, h5⟩ := hc
    cases Option.some.inj hr2
    obtain ⟨m, rfl⟩ : ∃ n : Nat, m = n := ⟨m.toNat, by omega⟩
    obtain ⟨s, rfl⟩ : ∃ n : Nat, s = n := ⟨s.toNat, by omega⟩
    obtain ⟨r, rfl⟩ : ∃ n : Nat, r = n := ⟨r.toNat, by omega⟩
    have c : c50 m s r = true := by
      unfold c50
      rw [leI_iff.2 h0, leI_iff.2 h1, leI_iff.2 h2, leI_iff.2 h3, leI_iff.2 h4, leI_iff.2 (by omega)]
      rfl
    rw [t50, c, cond_true, shut_eq, shut_eq, Int.toNat_natCast, Int.toNat_natCast, Int.toNat_natCast, hb_hd m s r (by omega), ← beq_nat]
    generalize m / 2 ^ (13 * s + r) = y
    have : ((y : Int)).tmod 2 = ((y % 2 : Nat) : Int) := by rw [Int.tmod_eq_emod_of_nonneg (by omega)]; omega
    rw [this]
    rfl
  · simp [T.run] at hr
theorem sum50 : SumAt C8 (50, sRHas) := ⟨callsM_fn ok8 z50 (sRHas_iso [.int .u64 0, .int .i64 0, .int .i64 0] _ rfl), fun args v hr => callsM_iso ok8 z50 (sRHas_iso args v hr)⟩
noncomputable def tab9 : List (Nat × (List AV → T AV)) := [(50, sRHas)]
noncomputable def C9 : Ctx := withSum C8 tab9
theorem ok9 : Ok C9 := ok_with ok8 ⟨sum50, trivial⟩
theorem keepOk9 : ∀ f fd, C9.code f = some fd → fd.keep.Nodup := keepOk
theorem noZ9 : ZOk C9 noZ := noZ_ok keepOk9
abbrev kp49 : List Tmp := [0, 1, 4, 5, 6, 8, 14]
abbrev ct49 : List Tmp := [8, 14]
noncomputable def body49 : Code := Tryd.f49.body.getD .skip
noncomputable def fd49 : FD := { fn := Tryd.f49, keep := kp49, ct := ct49 }
theorem fdat49 : C9.code 49 = some fd49 := by kernel_rfl
theorem hb49 : fd49.fn.body = some body49 := by kernel_rfl
noncomputable def blk49_0 : Code := piece (isBlk 0) body49
theorem one49_0 : (pieceL (isBlk 0) body49).length = 1 := by kernel_rfl
theorem in49_0 : blk49_0 ∈ subs body49 := piece_in one49_0
noncomputable def bod49_0 : Code := unLoop (unBlk blk49_0)
theorem is49_0 : blk49_0 = .block 0 (.loop bod49_0) := by kernel_rfl
theorem bin49_0 : bod49_0 ∈ subs body49 := loop_in (block_in (id := 0) (is49_0 ▸ in49_0))
abbrev fr49 (m s n r : Int) : List AV := [.int .u64 m, .int .i64 s, .undef, .int .i64 n, .int .i64 r, .undef, .undef]
abbrev m49 : List Bool := [true, true, false, true, true, false, false]
end Go.Proofs.YtgellkpbcoeccaaDoor
