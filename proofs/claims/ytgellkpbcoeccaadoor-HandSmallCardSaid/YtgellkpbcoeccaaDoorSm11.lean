/- Chapter 5: the reference: Pattern: the inner loop. -/
import Derived.Test.YtgellkpbcoeccaaDoorSm10
namespace Go.Proofs.YtgellkpbcoeccaaDoor
open Go Go.Ev Go.Ev.Bits

abbrev Kp := List UInt8 → Option (X × List AV × Heap)
noncomputable def trI (m n s : Nat) (t : List UInt8) (k : Kp) : Option (X × List AV × Heap) :=
  bif um m then bif ((shut (ln m s) : Nat) : Int) == (n : Int) then
    bif !(t == []) then bif Nat.ble (t.length + 1) 9223372036854775807 then bif ok13 n then bif Nat.ble ((t ++ [45]).length + (sh2 n).length) 9223372036854775807 then k (t ++ [45] ++ sh2 n) else none else none else none
    else bif ok13 n then bif Nat.ble (t.length + (sh2 n).length) 9223372036854775807 then k (t ++ sh2 n) else none else none
  else k t else none
theorem r34_0 (m n : Nat) (t : List UInt8) : codeG C11 noZ 60 34 kp34 ct34 isN m34 bod34_2 (fr34 m t n 0) [] 0 = trI m n 0 t (fun t => some (.n, fr34 m t n 1, [])) := by kernel_rfl
theorem r34_1 (m n : Nat) (t : List UInt8) : codeG C11 noZ 60 34 kp34 ct34 isN m34 bod34_2 (fr34 m t n 1) [] 0 = trI m n 1 t (fun t => some (.n, fr34 m t n 2, [])) := by kernel_rfl
theorem r34_2 (m n : Nat) (t : List UInt8) : codeG C11 noZ 60 34 kp34 ct34 isN m34 bod34_2 (fr34 m t n 2) [] 0 = trI m n 2 t (fun t => some (.n, fr34 m t n 3, [])) := by kernel_rfl
theorem r34_3 (m n : Nat) (t : List UInt8) : codeG C11 noZ 60 34 kp34 ct34 isN m34 bod34_2 (fr34 m t n 3) [] 0 = trI m n 3 t (fun t => some (.n, fr34 m t n 4, [])) := by kernel_rfl
theorem r34_4 (m n : Nat) (t : List UInt8) : codeG C11 noZ 60 34 kp34 ct34 isEx m34 bod34_2 (fr34 m t n 4) [] 0 = some (.ex 2, fr34 m t n 4, []) := by kernel_rfl
theorem ok13_eq {n : Nat} (h : n ≤ 13) : ok13 n = true := by
  unfold ok13
  rw [leI_iff.2 (by omega), leI_iff.2 (by omega)]; rfl
theorem trI_eq (m n s : Nat) (hm : m < 18446744073709551616) (hn : n ≤ 13) (t : List UInt8) (ht : t.length ≤ 1000) (k : Kp) : trI m n s t k = k (sTP (ln m) n s t) := by
  have l := num2_len n
  unfold trI sTP sh2
  rw [um_eq hm, cond_true, shut_eq, beq_nat, ok13_eq hn]
  simp only [shut_eq, cond_true]
  rw [Nat.ble_eq_true_of_le (by omega), Nat.ble_eq_true_of_le (by simp; omega), Nat.ble_eq_true_of_le (by omega)]
  simp only [cond_true]
  cases Nat.beq (ln m s) n
  · rfl
  · unfold aDP
    rw [cond_true, cond_true]
    cases t
    · rfl
    · rfl
theorem loop34i (m n : Nat) (hm : m < 18446744073709551616) (hn : n ≤ 13) (t : List UInt8) (ht : t.length ≤ 900) : Lp C11 fd34 bod34_2 (fr34 m t n 0) [] (.ex 2, fr34 m (iNP (ln m) n t) n 4, []) := by
  have l0 := sTP_len (ln m) n 0 t
  have l1 := sTP_len (ln m) n 1 (sTP (ln m) n 0 t)
  have l2 := sTP_len (ln m) n 2 (sTP (ln m) n 1 (sTP (ln m) n 0 t))
  refine .on (Does.runG ok11 noZ11 rfl rfl fdat34 hb34 bin34_2 60 rfl ((r34_0 m n t).trans (trI_eq m n 0 hm hn t (by omega) _))) ?_
  refine .on (Does.runG ok11 noZ11 rfl rfl fdat34 hb34 bin34_2 60 rfl ((r34_1 m n _).trans (trI_eq m n 1 hm hn _ (by omega) _))) ?_
  refine .on (Does.runG ok11 noZ11 rfl rfl fdat34 hb34 bin34_2 60 rfl ((r34_2 m n _).trans (trI_eq m n 2 hm hn _ (by omega) _))) ?_
  refine .on (Does.runG ok11 noZ11 rfl rfl fdat34 hb34 bin34_2 60 rfl ((r34_3 m n _).trans (trI_eq m n 3 hm hn _ (by omega) _))) ?_
  exact .out (Does.runG ok11 noZ11 rfl rfl fdat34 hb34 bin34_2 60 rfl (r34_4 m n _)) (by simp)
noncomputable def lI34 : SumF := fun vs H => match vs, H with
  | [.int .u64 m, _a, .str t, .int .i64 n, .int .i64 s, _b, _c, _d, _e], [] =>
    .chk (leI 0 m && (leI m 18446744073709551615 && (leI 0 n && (leI n 13 && (s == 0 && Nat.ble t.length 900)))))
      (.leaf (.n, [.int .u64 m, .undef, .str (iNP (ln m.toNat) n.toNat t), .int .i64 n, .undef, .undef, .undef, .undef, .undef], []))
  | _, _ => .fail
theorem does34i (m n : Nat) (a b c d e : AV) (hm : m < 18446744073709551616) (hn : n ≤ 13) (t : List UInt8) (ht : t.length ≤ 900) : Does C11 fd34 blk34_2 [.int .u64 m, a, .str t, .int .i64 n, .int .i64 0, b, c, d, e] []
    (.n, [.int .u64 m, .undef, .str (iNP (ln m) n t), .int .i64 n, .undef, .undef, .undef, .undef, .undef], []) := by
  have h := loop34i m n hm hn t ht
  rw [is34_2]
  generalize iNP (ln m) n t = y at *
  exact (Does.block h.does).le (.k (.u (.k (.k (.k (.u (.u (.u (.u .nil))))))))) (.k (.k (.k (.k (.u (.k (.k (.k (.k .nil)))))))))
theorem zi34 : ZEnt C11 (34, isBlk 2, lenF lI34) := zent_does fdat34 hb34 one34_2 fun vs H q hv hr => by
  unfold lI34 at hr
  split at hr
  · rename_i m a t n s b c d e
    obtain ⟨hc, hr2⟩ := T.of_chk hr
    clear hr
    simp only [Bool.and_eq_true, beq_iff_eq, leI_iff] at hc
    obtain ⟨h0, h1, h2, h3, rfl, h5⟩ := hc
    have h6 := Nat.le_of_ble_eq_true h5
    cases Option.some.inj hr2
    obtain ⟨m, rfl⟩ : ∃ n : Nat, m = n := ⟨m.toNat, by omega⟩
    obtain ⟨n, rfl⟩ : ∃ k : Nat, n = k := ⟨n.toNat, by omega⟩
    simp only [Int.toNat_natCast]
    exact does34i m n a b c d e (by omega) (by omega) t h6
  · simp [T.run] at hr
noncomputable def ZI34 : FuncId → Code → Option SumF := zAt [(34, isBlk 2, lenF lI34)]
theorem zI34 : ZOk C11 ZI34 := zAt_ok keepOk11 fun e he => by
  simp only [List.mem_cons, List.not_mem_nil, or_false] at he
  rcases he with rfl
  exact zi34
end Go.Proofs.YtgellkpbcoeccaaDoor
