/- Chapter 5: losers of a suit. -/
import Derived.Test.YtgellkpbcoeccaaDoorH3
namespace Go.Proofs.YtgellkpbcoeccaaDoor
open Go Go.Ev Go.Ev.Bits

noncomputable def stL (n : Int) (h r : Nat) : Int := bif !(shut (hb h r)) then IntKind.i64.wrap (n + 1) else n
noncomputable def losB (h : Nat) (b : Int) : Int := bif b == 0 then 0 else bif b == 1 then stL 0 h 12 else bif b == 2 then stL (stL 0 h 12) h 11 else stL (stL (stL 0 h 12) h 11) h 10
noncomputable def l39 : SumF := fun vs H => match vs, H with
  | [.int .u16 h, r, .int .i64 n, _x3, .int .i64 b, .int .i64 c, _x6, _x7], [] => .chk (leI 0 h && (n == 0 && (c == 0 && (leI 0 b && leI b 3)))) (.leaf (.n, [.int .u16 h, r, .int .i64 (shut (losB h.toNat b)), .undef, .undef, .undef, .undef, .undef], []))
  | _, _ => .fail
theorem r39_0 (n : Nat) (r x3 x6 x7 : AV) : codeM C1 Z1 60 39 kp39 ct39 (piece (isBlk 0) body39) [.int .u16 n, r, .int .i64 0, x3, .int .i64 0, .int .i64 0, x6, x7] [] 0 = some (.n, [.int .u16 n, r, .int .i64 0, x3, .int .i64 0, .int .i64 0, .undef, x7], []) := by kernel_rfl
theorem r39_1 (n : Nat) (r x3 x6 x7 : AV) : codeM C1 Z1 60 39 kp39 ct39 (piece (isBlk 0) body39) [.int .u16 n, r, .int .i64 0, x3, .int .i64 1, .int .i64 0, x6, x7] [] 0 = some (.n, [.int .u16 n, r, .int .i64 (stL 0 n 12), .int .i64 0, .int .i64 1, .int .i64 1, .undef, .undef], []) := by kernel_rfl
theorem r39_2 (n : Nat) (r x3 x6 x7 : AV) : codeM C1 Z1 60 39 kp39 ct39 (piece (isBlk 0) body39) [.int .u16 n, r, .int .i64 0, x3, .int .i64 2, .int .i64 0, x6, x7] [] 0 = some (.n, [.int .u16 n, r, .int .i64 (stL (stL 0 n 12) n 11), .int .i64 1, .int .i64 2, .int .i64 2, .undef, .undef], []) := by kernel_rfl
theorem r39_3 (n : Nat) (r x3 x6 x7 : AV) : codeM C1 Z1 60 39 kp39 ct39 (piece (isBlk 0) body39) [.int .u16 n, r, .int .i64 0, x3, .int .i64 3, .int .i64 0, x6, x7] [] 0 = some (.n, [.int .u16 n, r, .int .i64 (stL (stL (stL 0 n 12) n 11) n 10), .int .i64 2, .int .i64 3, .int .i64 3, .undef, .undef], []) := by kernel_rfl
theorem zl39 : ZEnt C1 (39, isBlk 0, lenF l39) := zent_run ok1 z1 rfl rfl fdat39 fdat39 hb39 one39_0 60 fun vs H q hv hr => by
  unfold l39 at hr
  split at hr
  · rename_i h r n x3 b c x6 x7
    obtain ⟨hc, hr2⟩ := T.of_chk hr
    clear hr
    simp only [Bool.and_eq_true, leI_iff, beq_iff_eq] at hc
    obtain ⟨h0, rfl, rfl, b0, b3⟩ := hc
    cases Option.some.inj hr2
    obtain ⟨n, rfl⟩ : ∃ n : Nat, h = n := ⟨h.toNat, by omega⟩
    rw [shut_eq]
    have hb : b = 0 ∨ b = 1 ∨ b = 2 ∨ b = 3 := by omega
    rcases hb with rfl | rfl | rfl | rfl
    · exact ⟨_, r39_0 n r x3 x6 x7, .k (.k (.k (.u (.u (.u (.u (.u .nil)))))))⟩
    · exact ⟨_, r39_1 n r x3 x6 x7, .k (.k (.k (.u (.u (.u (.u (.u .nil)))))))⟩
    · exact ⟨_, r39_2 n r x3 x6 x7, .k (.k (.k (.u (.u (.u (.u (.u .nil)))))))⟩
    · exact ⟨_, r39_3 n r x3 x6 x7, .k (.k (.k (.u (.u (.u (.u (.u .nil)))))))⟩
  · simp [T.run] at hr
noncomputable def Z2 : FuncId → Code → Option SumF := zAt [(39, isBlk 0, lenF l39), (52, isIf 6, lenF i52)]
theorem z2 : ZOk C1 Z2 := zAt_ok keepOk1 fun e he => by
  simp only [List.mem_cons, List.not_mem_nil, or_false] at he
  rcases he with rfl | rfl
  · exact zl39
  · exact zi52
end Go.Proofs.YtgellkpbcoeccaaDoor
