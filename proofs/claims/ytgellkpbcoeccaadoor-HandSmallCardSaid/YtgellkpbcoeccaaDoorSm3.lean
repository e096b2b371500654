/- Chapter 5: the reference: Length as a summary. -/
import Derived.Test.YtgellkpbcoeccaaDoorSm2
namespace Go.Proofs.YtgellkpbcoeccaaDoor
open Go Go.Ev Go.Ev.Bits

noncomputable def c49 (m s r : Nat) : Bool := leI 0 (m : Int) && (leI m 18446744073709551615 && (leI 0 (s : Int) && (leI s 7 && (leI 0 (r : Int) && leI r 12))))
theorem r49 (m s n r : Nat) : codeG C9 noZ 60 49 kp49 ct49 isN m49 bod49_0 (fr49 m s n r) [] 0 = bif decide ((r : Int) < 13) then bif c49 m s r then bif shut (hb (hd m s) r) then some (.n, fr49 m s (IntKind.i64.wrap (n + 1)) (IntKind.i64.wrap (r + 1)), []) else some (.n, fr49 m s n (IntKind.i64.wrap (r + 1)), []) else none else none := by kernel_rfl
theorem e49 (m s n : Nat) : codeG C9 noZ 60 49 kp49 ct49 isEx m49 bod49_0 (fr49 m s n 13) [] 0 = some (.ex 0, fr49 m s n 13, []) := by kernel_rfl
theorem bc_step (r h : Nat) : bc (r + 1) h = bc r h + b2n (hb h r) := by
  rw [bc_add]
  have : bc 1 (h / 2 ^ r) = h / 2 ^ r % 2 := by simp [bc]
  rw [this]
  unfold hb
  rcases Nat.mod_two_eq_zero_or_one (h / 2 ^ r) with e | e <;> rw [e] <;> rfl
theorem loop49 (m s : Nat) (hm : m < 18446744073709551616) (hs : s ≤ 7) : Lp C9 fd49 bod49_0 (fr49 m s 0 0) [] (.ex 0, fr49 m s (ln m s : Nat) 13, []) := by
  refine Lp.count (S := fun r => (fr49 m s (bc r (hd m s) : Nat) (r : Nat), [])) (N := 13) (fun r hr => ?_) (.out (Does.runG ok9 noZ9 rfl rfl fdat49 hb49 bin49_0 60 rfl (e49 m s (ln m s))) (by simp)) 0 (by omega)
  have hble := bc_le r (hd m s)
  have c : c49 m s r = true := by
    unfold c49
    rw [leI_iff.2 (by omega), leI_iff.2 (by omega), leI_iff.2 (by omega), leI_iff.2 (by omega), leI_iff.2 (by omega), leI_iff.2 (by omega)]
    rfl
  have e2 : IntKind.i64.wrap ((r : Int) + 1) = ((r + 1 : Nat) : Int) := by rw [i64_small (by omega) (by omega)]; omega
  have hr1 : codeG C9 noZ 60 49 kp49 ct49 isN m49 bod49_0 (fr49 m s (bc r (hd m s) : Nat) r) [] 0 = some (.n, fr49 m s (bc (r + 1) (hd m s) : Nat) ((r + 1 : Nat) : Int), []) := by
    rw [r49, decide_eq_true (by omega), cond_true, c, cond_true, shut_eq, e2, bc_step]
    cases hb (hd m s) r
    · rfl
    · have e1 : IntKind.i64.wrap (((bc r (hd m s) : Nat) : Int) + 1) = ((bc r (hd m s) + 1 : Nat) : Int) := by rw [i64_small (by omega) (by omega)]; omega
      rw [cond_true, e1]; rfl
  exact Does.runG ok9 noZ9 rfl rfl fdat49 hb49 bin49_0 60 rfl hr1
noncomputable def l49 : SumF := fun vs H => match vs, H with
  | [.int .u64 m, .int .i64 s, _a, .int .i64 n, .int .i64 r, _b, _c], [] =>
    .chk (leI 0 m && (leI m 18446744073709551615 && (leI 0 s && (leI s 7 && (n == 0 && r == 0)))))
      (.leaf (.n, [.undef, .undef, .undef, .int .i64 (shut (ln m.toNat s.toNat) : Nat), .undef, .undef, .undef], []))
  | _, _ => .fail
theorem does49 (m s : Nat) (a b c : AV) (hm : m < 18446744073709551616) (hs : s ≤ 7) : Does C9 fd49 blk49_0 [.int .u64 m, .int .i64 s, a, .int .i64 0, .int .i64 0, b, c] []
    (.n, [.undef, .undef, .undef, .int .i64 (ln m s : Nat), .undef, .undef, .undef], []) := by
  have h := loop49 m s hm hs
  rw [is49_0]
  generalize ln m s = y at *
  exact (Does.block h.does).le (.k (.k (.u (.k (.k (.u (.u .nil))))))) (.u (.u (.k (.k (.u (.k (.k .nil)))))))
theorem zl49 : ZEnt C9 (49, isBlk 0, lenF l49) := zent_does fdat49 hb49 one49_0 fun vs H q hv hr => by
  unfold l49 at hr
  split at hr
  · rename_i m s a n r b c
    obtain ⟨hc, hr2⟩ := T.of_chk hr
    clear hr
    simp only [Bool.and_eq_true, beq_iff_eq, leI_iff] at hc
    obtain ⟨h0, h1, h2, h3, rfl, rfl⟩ := hc
    cases Option.some.inj hr2
    obtain ⟨m, rfl⟩ : ∃ n : Nat, m = n := ⟨m.toNat, by omega⟩
    obtain ⟨s, rfl⟩ : ∃ n : Nat, s = n := ⟨s.toNat, by omega⟩
    simp only [Int.toNat_natCast, shut_eq]
    exact does49 m s a b c (by omega) (by omega)
  · simp [T.run] at hr
noncomputable def Z49 : FuncId → Code → Option SumF := zAt [(49, isBlk 0, lenF l49)]
theorem z49 : ZOk C9 Z49 := zAt_ok keepOk9 fun e he => by
  simp only [List.mem_cons, List.not_mem_nil, or_false] at he
  rcases he with rfl
  exact zl49
noncomputable def sRLen : List AV → T AV
  | [.int .u64 m, .int .i64 s] => .chk (leI 0 m && (leI m 18446744073709551615 && (leI 0 s && leI s 7))) (.leaf (.int .i64 (shut (ln m.toNat s.toNat) : Nat)))
  | _ => .fail
noncomputable def c49' (m s : Nat) : Bool := leI 0 (m : Int) && (leI m 18446744073709551615 && (leI 0 (s : Int) && (leI s 7 && true)))
theorem t49 (m s : Nat) : callsM C9 Z49 60 49 [.int .u64 m, .int .i64 s] = bif c49' m s then some (.int .i64 (shut (ln m s) : Nat)) else none := by kernel_rfl
theorem sRLen_iso : ∀ args v, (sRLen args).run = some v → callsM C9 Z49 60 49 args = some v := by
  intro args v hr
  unfold sRLen at hr
  split at hr
  · rename_i m s
    obtain ⟨hc, hr2⟩ := T.of_chk hr
    clear hr
    simp only [Bool.and_eq_true, leI_iff] at hc
    obtain ⟨h0, h1, h2, h3⟩ := hc
    cases Option.some.inj hr2
    obtain ⟨m, rfl⟩ : ∃ n : Nat, m = n := ⟨m.toNat, by omega⟩
    obtain ⟨s, rfl⟩ : ∃ n : Nat, s = n := ⟨s.toNat, by omega⟩
    have c : c49' m s = true := by
      unfold c49'
      rw [leI_iff.2 h0, leI_iff.2 h1, leI_iff.2 h2, leI_iff.2 h3]
      rfl
    rw [t49, c, cond_true]
    rfl
  · simp [T.run] at hr
theorem sum49 : SumAt C9 (49, sRLen) := ⟨callsM_fn ok9 z49 (sRLen_iso [.int .u64 0, .int .i64 0] _ rfl), fun args v hr => callsM_iso ok9 z49 (sRLen_iso args v hr)⟩
noncomputable def tab10 : List (Nat × (List AV → T AV)) := [(49, sRLen)]
noncomputable def C10 : Ctx := withSum C9 tab10
theorem ok10 : Ok C10 := ok_with ok9 ⟨sum49, trivial⟩
theorem keepOk10 : ∀ f fd, C10.code f = some fd → fd.keep.Nodup := keepOk
theorem noZ10 : ZOk C10 noZ := noZ_ok keepOk10
end Go.Proofs.YtgellkpbcoeccaaDoor
