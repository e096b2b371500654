/- Chapter 5: HandBalanced: the inner loop as a summary. -/
import Derived.Test.YtgellkpbcoeccaaDoorBa2
namespace Go.Proofs.YtgellkpbcoeccaaDoor
open Go Go.Ev Go.Ev.Bits

noncomputable def l8 : SumF := fun vs H => match vs, H with
  | [_a0, _a1, _a2, .own 0 0, .int .u64 x, .int .i64 two, .bool ok, .int .i64 sum, _a8, .ro true w ls, .int .i64 v, .int .i64 i, _a12, .agg [.int .i64 l0, .int .i64 l1, .int .i64 l2, .int .i64 l3], .int .i64 k, _b0, _b1, _b2], [some ⟨37, [.int .u64 a, .int .u64 b, .int .u64 c, .int .u64 d]⟩] =>
    .chk (leI 0 x && (two == 0 && (ok && (sum == 0 && (k == 0 && (Nat.beq w 7 && (v == 7 && (isN4 l0 (ln x.toNat 0) && (isN4 l1 (ln x.toNat 1) && (isN4 l2 (ln x.toNat 2) && isN4 l3 (ln x.toNat 3)))))))))))
      (.leaf (.n, [.undef, .undef, .undef, .own 0 0, .int .u64 x, .int .i64 (shut (twoN x.toNat) : Nat), .bool (shut (okN x.toNat)), .int .i64 (shut (sumN x.toNat) : Nat), .undef, .ro true 7 ls, .int .i64 7, .int .i64 i, .undef, .undef, .undef, .undef, .undef, .undef], [some ⟨37, [.int .u64 a, .int .u64 b, .int .u64 c, .int .u64 d]⟩]))
  | _, _ => .fail
theorem does8 (x : Nat) (a0 a1 a2 a8 a12 b0 b1 b2 : AV) (ls : List AV) (i a b c d : Int) :
    Does C8 fd8 blk8_2 [a0, a1, a2, .own 0 0, .int .u64 x, .int .i64 0, .bool true, .int .i64 0, a8, .ro true 7 ls, .int .i64 7, .int .i64 i, a12, .agg [.int .i64 (ln x 0 : Nat), .int .i64 (ln x 1 : Nat), .int .i64 (ln x 2 : Nat), .int .i64 (ln x 3 : Nat)], .int .i64 0, b0, b1, b2] (H8 a b c d)
    (.n, [.undef, .undef, .undef, .own 0 0, .int .u64 x, .int .i64 (twoN x : Nat), .bool (okN x), .int .i64 (sumN x : Nat), .undef, .ro true 7 ls, .int .i64 7, .int .i64 i, .undef, .undef, .undef, .undef, .undef, .undef], H8 a b c d) := by
  have h := loop8n x ls i a b c d
  unfold fl8 at h
  rw [is8_2]
  generalize ln x 0 = y0 at *
  generalize ln x 1 = y1 at *
  generalize ln x 2 = y2 at *
  generalize ln x 3 = y3 at *
  generalize twoN x = tw at *
  generalize okN x = o at *
  generalize sumN x = sm at *
  exact (Does.block h.does).le (.u (.u (.u (.k (.k (.k (.k (.k (.u (.k (.k (.k (.u (.k (.k (.u (.u (.u .nil)))))))))))))))))) (.k (.k (.k (.k (.k (.k (.k (.k (.k (.k (.k (.k (.k (.u (.u (.k (.k (.k .nil))))))))))))))))))
theorem zl8 : ZEnt C8 (8, isBlk 2, lenF l8) := zent_does fdat8 hb8 one8_2 fun vs H q hv hr => by
  unfold l8 at hr
  split at hr
  · rename_i a0 a1 a2 x two ok sum a8 w ls v i a12 l0 l1 l2 l3 k b0 b1 b2 a b c d
    obtain ⟨hc, hr2⟩ := T.of_chk hr
    clear hr
    unfold isN4 at hc
    simp only [Bool.and_eq_true, leI_iff, beq_iff_eq, shut_eq, beq_iff'] at hc
    obtain ⟨h0, rfl, rfl, rfl, rfl, rfl, rfl, rfl, rfl, rfl, rfl⟩ := hc
    cases Option.some.inj hr2
    obtain ⟨n, rfl⟩ : ∃ m : Nat, x = m := ⟨x.toNat, by omega⟩
    simp only [Int.toNat_natCast, shut_eq]
    exact does8 n a0 a1 a2 a8 a12 b0 b1 b2 ls i a b c d
  · simp [T.run] at hr
theorem keepOk8b : ∀ f fd, C8.code f = some fd → fd.keep.Nodup := keepOk8
noncomputable def Z8 : FuncId → Code → Option SumF := zAt [(8, isBlk 2, lenF l8)]
theorem z8 : ZOk C8 Z8 := zAt_ok keepOk8 fun e he => by
  simp only [List.mem_cons, List.not_mem_nil, or_false] at he
  rcases he with rfl
  exact zl8
abbrev fo8 (ls : List AV) (i : Int) : List AV := [.undef, .undef, .undef, .own 0 0, .undef, .undef, .undef, .undef, .undef, .ro true 7 ls, .int .i64 7, .int .i64 i, .undef, .undef, .undef, .undef, .undef, .undef]
abbrev mo8 : List Bool := [false, false, false, true, false, false, false, false, false, true, true, true, false, false, false, false, false, false]
abbrev ls7 (v0 v1 v2 v3 v4 v5 v6 : Nat) : List AV := [.int .u64 v0, .int .u64 v1, .int .u64 v2, .int .u64 v3, .int .u64 v4, .int .u64 v5, .int .u64 v6]
end Go.Proofs.YtgellkpbcoeccaaDoor
