/- Chapter 5: losers and quick tricks of a suit, shapes. -/
import Derived.Test.YtgellkpbcoeccaaDoorH2
namespace Go.Proofs.YtgellkpbcoeccaaDoor
open Go Go.Ev Go.Ev.Bits

abbrev kp39 : List Tmp := [0, 2, 3, 4, 7, 8, 9, 15]
abbrev ct39 : List Tmp := [9, 15]
noncomputable def body39 : Code := Tryd.f39.body.getD .skip
noncomputable def fd39 : FD := { fn := Tryd.f39, keep := kp39, ct := ct39 }
theorem fdat39 : C1.code 39 = some fd39 := by kernel_rfl
theorem hb39 : fd39.fn.body = some body39 := by kernel_rfl
theorem one39_6 : (pieceL (isIf 6) body39).length = 1 := by kernel_rfl
theorem one39_0 : (pieceL (isBlk 0) body39).length = 1 := by kernel_rfl
abbrev kp52 : List Tmp := [0, 1, 3, 4, 5, 6, 7, 8, 9, 15]
abbrev ct52 : List Tmp := [9, 15]
noncomputable def body52 : Code := Tryd.f52.body.getD .skip
noncomputable def fd52 : FD := { fn := Tryd.f52, keep := kp52, ct := ct52 }
theorem fdat52 : C1.code 52 = some fd52 := by kernel_rfl
theorem hb52 : fd52.fn.body = some body52 := by kernel_rfl
theorem one52_6 : (pieceL (isIf 6) body52).length = 1 := by kernel_rfl

theorem keepOk1 : ∀ f fd, C1.code f = some fd → fd.keep.Nodup := keepOk
theorem noZ1 : ZOk C1 noZ := noZ_ok keepOk1

/-- 'if .. { n++ }' -/
def i39 : SumF := fun vs H => match vs, H with
  | [h, r, .int .i64 n, i, b, c, x, .bool t], H => .leaf (.n, [h, r, .int .i64 (bif t then IntKind.i64.wrap (n + 1) else n), i, b, c, x, .undef], H)
  | _, _ => .fail
theorem zi39 : ZEnt C1 (39, isIf 6, lenF i39) := zent_run ok1 noZ1 rfl rfl fdat39 fdat39 hb39 one39_6 10 fun vs H q _ hr => by
  unfold i39 at hr
  split at hr
  · rename_i h r n i b c x t H
    cases Option.some.inj hr
    cases t
    · exact ⟨[h, r, .int .i64 n, i, b, c, x, .undef], by kernel_rfl, LeV.refl _⟩
    · exact ⟨[h, r, .int .i64 (IntKind.i64.wrap (n + 1)), i, b, c, x, .undef], by kernel_rfl, LeV.refl _⟩
  · simp [T.run] at hr
/-- 'if .. { n += v }' -/
def i52 : SumF := fun vs H => match vs, H with
  | [h, p, r, .int .i64 n, i, .int .i64 v, x, y, z, .bool t], H => .leaf (.n, [h, p, r, .int .i64 (bif t then IntKind.i64.wrap (n + v) else n), i, .int .i64 v, x, y, z, .undef], H)
  | _, _ => .fail
theorem zi52 : ZEnt C1 (52, isIf 6, lenF i52) := zent_run ok1 noZ1 rfl rfl fdat52 fdat52 hb52 one52_6 10 fun vs H q _ hr => by
  unfold i52 at hr
  split at hr
  · rename_i h p r n i v x y z t H
    cases Option.some.inj hr
    cases t
    · exact ⟨[h, p, r, .int .i64 n, i, .int .i64 v, x, y, z, .undef], by kernel_rfl, LeV.refl _⟩
    · exact ⟨[h, p, r, .int .i64 (IntKind.i64.wrap (n + v)), i, .int .i64 v, x, y, z, .undef], by kernel_rfl, LeV.refl _⟩
  · simp [T.run] at hr
noncomputable def Z1 : FuncId → Code → Option SumF := zAt [(39, isIf 6, lenF i39), (52, isIf 6, lenF i52)]
theorem z1 : ZOk C1 Z1 := zAt_ok keepOk1 fun e he => by
  simp only [List.mem_cons, List.not_mem_nil, or_false] at he
  rcases he with rfl | rfl
  · exact zi39
  · exact zi52
end Go.Proofs.YtgellkpbcoeccaaDoor
