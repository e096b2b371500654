/- Chapter 5: HandSuits: the rounds. -/
import Derived.Test.YtgellkpbcoeccaaDoorP1
namespace Go.Proofs.YtgellkpbcoeccaaDoor
open Go Go.Ev Go.Ev.Bits

abbrev kp9 : List Tmp := [0, 2, 3, 4, 5, 6, 7, 8, 15, 16, 17, 57, 63, 69]
abbrev ct9 : List Tmp := [17, 57, 63, 69]
noncomputable def body9 : Code := Tryd.f9.body.getD .skip
noncomputable def fd9 : FD := { fn := Tryd.f9, keep := kp9, ct := ct9 }
theorem fdat9 : C6.code 9 = some fd9 := by kernel_rfl
theorem hb9 : fd9.fn.body = some body9 := by kernel_rfl
theorem one9_14 : (pieceL (isIf 14) body9).length = 1 := by kernel_rfl
noncomputable def blk9_0 : Code := piece (isBlk 0) body9
theorem one9_0 : (pieceL (isBlk 0) body9).length = 1 := by kernel_rfl
theorem in9_0 : blk9_0 ∈ subs body9 := piece_in one9_0
noncomputable def bod9_0 : Code := unLoop (unBlk blk9_0)
theorem is9_0 : blk9_0 = .block 0 (.loop bod9_0) := by kernel_rfl
theorem bin9_0 : bod9_0 ∈ subs body9 := loop_in (block_in (id := 0) (is9_0 ▸ in9_0))
theorem keepOk6 : ∀ f fd, C6.code f = some fd → fd.keep.Nodup := keepOk
theorem noZ6 : ZOk C6 noZ := noZ_ok keepOk6

/-- 'if .. { text += "1" }' -/
def i9 : SumF := fun vs H => match vs, H with
  | [x0, x1, x2, x3, x4, .str s, x6, x7, x8, x9, x10, x11, x12, .bool t], H => .chk (Nat.ble (s.length + 1) 9223372036854775807) (.leaf (.n, [x0, x1, x2, x3, x4, .str (bif t then s ++ [49] else s), x6, x7, x8, x9, x10, x11, x12, .undef], H))
  | _, _ => .fail
theorem t9i (x0 x1 x2 x3 x4 x6 x7 x8 x9 x10 x11 x12 : AV) (s : List UInt8) (H : Heap) (m : Nat) : codeM C6 noZ 10 9 kp9 ct9 (piece (isIf 14) body9) [x0, x1, x2, x3, x4, .str s, x6, x7, x8, x9, x10, x11, x12, .bool true] H m =
    bif Nat.ble (s.length + 1) 9223372036854775807 then some (.n, [x0, x1, x2, x3, x4, .str (s ++ [49]), x6, x7, x8, x9, x10, x11, x12, .undef], H) else none := by kernel_rfl
theorem zi9 : ZEnt C6 (9, isIf 14, lenF i9) := zent_run ok6 noZ6 rfl rfl fdat9 fdat9 hb9 one9_14 10 fun vs H q hv hr => by
  unfold i9 at hr
  split at hr
  · rename_i x0 x1 x2 x3 x4 s x6 x7 x8 x9 x10 x11 x12 t
    obtain ⟨hc, hr2⟩ := T.of_chk hr
    clear hr
    cases Option.some.inj hr2
    cases t
    · exact ⟨[x0, x1, x2, x3, x4, .str s, x6, x7, x8, x9, x10, x11, x12, .undef], by kernel_rfl, LeV.refl _⟩
    · exact ⟨[x0, x1, x2, x3, x4, .str (s ++ [49]), x6, x7, x8, x9, x10, x11, x12, .undef], (t9i _ _ _ _ _ _ _ _ _ _ _ _ _ _ _).trans (by rw [hc]; rfl), LeV.refl _⟩
  · simp [T.run] at hr
noncomputable def Z9 : FuncId → Code → Option SumF := zAt [(9, isIf 14, lenF i9)]
theorem z9 : ZOk C6 Z9 := zAt_ok keepOk6 fun e he => by
  simp only [List.mem_cons, List.not_mem_nil, or_false] at he
  rcases he with rfl
  exact zi9
abbrev fr9 (n : Nat) (a b c d : Nat) (met : Int) (tx : List UInt8) (i : Int) : List AV := [.int .u64 n, .undef, .own 0 0, .own 1 0, .int .i64 met, .str tx, .undef, .undef, .agg [.int .u8 a, .int .u8 b, .int .u8 c, .int .u8 d], .int .i64 i, .undef, .undef, .undef, .undef]
abbrev H9 (l0 l1 l2 l3 : Int) (a b c d : Nat) : Heap := [some ⟨31, [.int .i64 l0, .int .i64 l1, .int .i64 l2, .int .i64 l3]⟩, some ⟨42, [.int .u8 a, .int .u8 b, .int .u8 c, .int .u8 d]⟩]
abbrev m9 : List Bool := [true, true, true, true, true, true, false, false, true, true, false, false, false, false]
end Go.Proofs.YtgellkpbcoeccaaDoor
