/- Chapter 5: the reference: Suits as a summary; the context with Pattern and Suits. -/
import Derived.Test.YtgellkpbcoeccaaDoorSm13
namespace Go.Proofs.YtgellkpbcoeccaaDoor
open Go Go.Ev Go.Ev.Bits

abbrev fo36 (m k n : Int) : List AV := [.int .u64 m, .own 0 0, .own 1 0, .int .i64 k, .int .i64 n, .undef, .undef, .undef, .undef]
abbrev mo36 : List Bool := [true, true, true, true, true, false, false, false, false]
abbrev nl36 (m : Nat) (n : Int) (l : List Nat) : List Nat := nx36 m n (l.length : Nat) (l.getD 0 0 : Nat) (l.getD 1 0 : Nat) (l.getD 2 0 : Nat) (l.getD 3 0 : Nat)
noncomputable def co36 (m : Nat) (n : Int) (l : List Nat) : Bool := leI 0 (m : Int) && (leI (m : Int) 18446744073709551615 && (leI 0 n && (leI n 13 && (true && (okS36 (l.length : Nat) (l.getD 0 0 : Nat) (l.getD 1 0 : Nat) (l.getD 2 0 : Nat) (l.getD 3 0 : Nat) (tk36 (l.length : Nat) (l.getD 0 0 : Nat) (l.getD 1 0 : Nat) (l.getD 2 0 : Nat) (l.getD 3 0 : Nat)) && Nat.ble (nl36 m n l).length 4)))))
theorem ro36 (m : Nat) (n : Int) (l : List Nat) : codeG C11 ZI36 60 36 kp36 ct36 isN mo36 bod36_0 (fo36 m (l.length : Nat) n) (Hs36 0 0 0 0 l) 2 = bif decide (n ≥ 0) then bif co36 m n l then some (.n, fo36 m ((nl36 m n l).length : Nat) (IntKind.i64.wrap (n - 1)), Hs36 0 0 0 0 (nl36 m n l)) else none else none := by kernel_rfl
theorem eo36 (m k : Nat) (l : List Nat) : codeG C11 ZI36 60 36 kp36 ct36 isEx mo36 bod36_0 (fo36 m k (-1)) (Hs36 0 0 0 0 l) 2 = some (.ex 0, fo36 m k (-1), Hs36 0 0 0 0 l) := by kernel_rfl
theorem loop36 (m : Nat) (hm : m < 18446744073709551616) : Lp C11 fd36 bod36_0 (fo36 m 0 13) (H36 0 0 0 0 0 0 0 0) (.ex 0, fo36 m 4 (-1), Hs36 0 0 0 0 (li4 (sui m))) := by
  have k := Lp.count (C := C11) (fd := fd36) (b := bod36_0) (q := (.ex 0, fo36 m 4 (-1), Hs36 0 0 0 0 (li4 (sui m)))) (S := fun i => (fo36 m ((geS (ln m) (sui m) (14 - i)).length : Nat) (13 - (i : Int)), Hs36 0 0 0 0 (geS (ln m) (sui m) (14 - i)))) (N := 14) (fun i hi => ?_) ?_ 0 (by omega)
  · have e0 : geS (ln m) (sui m) (14 - 0) = [] := ge_top _ _ _ (fun s => by have := ln_le m s; omega)
    dsimp only at k
    rw [e0] at k
    exact k
  · have st := iNS_ge (sui_suOk m) (13 - i)
    rw [show 13 - i + 1 = 14 - i by omega] at st
    have l1 := ge_len (ln m) (sui m) (14 - i)
    have l2 := ge_len (ln m) (sui m) (13 - i)
    dsimp only
    rw [show 14 - (i + 1) = 13 - i by omega]
    generalize geS (ln m) (sui m) (14 - i) = l at *
    rw [← st] at l2 ⊢
    have et : (13 - (i : Int)).toNat = 13 - i := by omega
    have en : nl36 m (13 - (i : Int)) l = iNS (ln m) (13 - i) l := by
      unfold nl36 nx36
      rw [tk36_eq l l1, et, Int.toNat_natCast]
    have c : co36 m (13 - (i : Int)) l = true := by
      unfold co36
      rw [leI_iff.2 (by omega), leI_iff.2 (by omega), leI_iff.2 (by omega), leI_iff.2 (by omega), tk36_eq l l1, okS36_eq, en, Nat.ble_eq_true_of_le l2]
      rfl
    have e2 : IntKind.i64.wrap (13 - (i : Int) - 1) = 13 - ((i + 1 : Nat) : Int) := by rw [i64w (by omega)]; omega
    have hr1 : codeG C11 ZI36 60 36 kp36 ct36 isN mo36 bod36_0 (fo36 m (l.length : Nat) (13 - (i : Int))) (Hs36 0 0 0 0 l) 2 = some (.n, fo36 m ((iNS (ln m) (13 - i) l).length : Nat) (13 - ((i + 1 : Nat) : Int)), Hs36 0 0 0 0 (iNS (ln m) (13 - i) l)) := by
      rw [ro36, decide_eq_true (by omega), cond_true, c, cond_true, e2, en]
    exact Does.runG ok11 zI36 rfl rfl fdat36 hb36 bin36_0 60 rfl hr1
  · dsimp only
    rw [show 14 - 14 = 0 from rfl, ge_zero]
    exact .out (Does.runG ok11 zI36 rfl rfl fdat36 hb36 bin36_0 60 rfl (eo36 m 4 _)) (by simp)
noncomputable def lR36 : SumF := fun vs H => match vs, H with
  | [.int .u64 m, .own 0 0, .own 1 0, .int .i64 k, .int .i64 n, _a, _b, _c, _d], [some ⟨42, [.int .u8 x0, .int .u8 x1, .int .u8 x2, .int .u8 x3]⟩, some ⟨42, [.int .u8 y0, .int .u8 y1, .int .u8 y2, .int .u8 y3]⟩] =>
    .chk (leI 0 m && (leI m 18446744073709551615 && (k == 0 && (n == 13 && (x0 == 0 && (x1 == 0 && (x2 == 0 && (x3 == 0 && (y0 == 0 && (y1 == 0 && (y2 == 0 && y3 == 0)))))))))))
      (.leaf (.n, [.undef, .own 0 0, .own 1 0, .undef, .undef, .undef, .undef, .undef, .undef], H36 0 0 0 0 (shut (sui m.toNat).1 : Nat) (shut (sui m.toNat).2.1 : Nat) (shut (sui m.toNat).2.2.1 : Nat) (shut (sui m.toNat).2.2.2 : Nat)))
  | _, _ => .fail
theorem does36 (m : Nat) (a b c d : AV) (hm : m < 18446744073709551616) : Does C11 fd36 blk36_0 [.int .u64 m, .own 0 0, .own 1 0, .int .i64 0, .int .i64 13, a, b, c, d] (H36 0 0 0 0 0 0 0 0)
    (.n, [.undef, .own 0 0, .own 1 0, .undef, .undef, .undef, .undef, .undef, .undef], H36 0 0 0 0 ((sui m).1 : Nat) ((sui m).2.1 : Nat) ((sui m).2.2.1 : Nat) ((sui m).2.2.2 : Nat)) := by
  have h := loop36 m hm
  rw [is36_0]
  exact (Does.block h.does).le (.k (.k (.k (.k (.k (.u (.u (.u (.u .nil))))))))) (.u (.k (.k (.u (.u (.k (.k (.k (.k .nil)))))))))
theorem zl36 : ZEnt C11 (36, isBlk 0, lenF lR36) := zent_does fdat36 hb36 one36_0 fun vs H q hv hr => by
  unfold lR36 at hr
  split at hr
  · rename_i m k n a b c d x0 x1 x2 x3 y0 y1 y2 y3
    obtain ⟨hc, hr2⟩ := T.of_chk hr
    clear hr
    simp only [Bool.and_eq_true, beq_iff_eq, leI_iff] at hc
    obtain ⟨h0, h1, rfl, rfl, rfl, rfl, rfl, rfl, rfl, rfl, rfl, rfl⟩ := hc
    cases Option.some.inj hr2
    obtain ⟨m, rfl⟩ : ∃ n : Nat, m = n := ⟨m.toNat, by omega⟩
    simp only [Int.toNat_natCast, shut_eq]
    exact does36 m a b c d (by omega)
  · simp [T.run] at hr
noncomputable def ZR36 : FuncId → Code → Option SumF := zAt [(36, isBlk 0, lenF lR36)]
theorem zR36 : ZOk C11 ZR36 := zAt_ok keepOk11 fun e he => by
  simp only [List.mem_cons, List.not_mem_nil, or_false] at he
  rcases he with rfl
  exact zl36
theorem tR36 (m : Nat) : callsM C11 ZR36 60 36 [.int .u64 m] = bif leI 0 (m : Int) && (leI (m : Int) 18446744073709551615 && (true && (true && (true && (true && (true && (true && (true && (true && (true && true)))))))))) then some (.agg [.int .u8 (shut (sui m).1 : Nat), .int .u8 (shut (sui m).2.1 : Nat), .int .u8 (shut (sui m).2.2.1 : Nat), .int .u8 (shut (sui m).2.2.2 : Nat)]) else none := by kernel_rfl
noncomputable def sRSui : List AV → T AV
  | [.int .u64 m] => .chk (leI 0 m && leI m 18446744073709551615) (.leaf (.agg [.int .u8 (shut (sui m.toNat).1 : Nat), .int .u8 (shut (sui m.toNat).2.1 : Nat), .int .u8 (shut (sui m.toNat).2.2.1 : Nat), .int .u8 (shut (sui m.toNat).2.2.2 : Nat)]))
  | _ => .fail
theorem iso36 : ∀ args v, (sRSui args).run = some v → callsM C11 ZR36 60 36 args = some v := by
  intro args v hr
  unfold sRSui at hr
  split at hr
  · rename_i m
    obtain ⟨hc, hr2⟩ := T.of_chk hr
    clear hr
    simp only [Bool.and_eq_true, leI_iff] at hc
    obtain ⟨m, rfl⟩ : ∃ n : Nat, m = n := ⟨m.toNat, by omega⟩
    rw [tR36, leI_iff.2 hc.1, leI_iff.2 hc.2]
    simp only [Bool.and_self, cond_true]
    rw [Int.toNat_natCast] at hr2
    generalize sui m = z at *
    exact hr2
  · simp [T.run] at hr
theorem sum36 : SumAt C11 (36, sRSui) := ⟨callsM_fn ok11 zR36 (iso36 [.int .u64 0] _ rfl), fun args v hr => callsM_iso ok11 zR36 (iso36 args v hr)⟩
noncomputable def tab12 : List (Nat × (List AV → T AV)) := [(34, sRPat), (36, sRSui)]
noncomputable def C12 : Ctx := withSum C11 tab12
theorem ok12 : Ok C12 := ok_with ok11 ⟨sum34, sum36, trivial⟩
theorem keepOk12 : ∀ f fd, C12.code f = some fd → fd.keep.Nodup := keepOk
theorem noZ12 : ZOk C12 noZ := noZ_ok keepOk12
end Go.Proofs.YtgellkpbcoeccaaDoor
