/- Chapter 5: HandSuits: the law. -/
import Derived.Test.YtgellkpbcoeccaaDoorSu3
namespace Go.Proofs.YtgellkpbcoeccaaDoor
open Go Go.Ev Go.Ev.Bits

noncomputable def isN4 (x : Int) (a : Nat) : Bool := x == ((shut a : Nat) : Int)
/-- What the check of the suits gives. -/
noncomputable def l9 : SumF := fun vs H => match vs, H with
  | [.int .u64 n, _x1, .own 0 0, .own 1 0, .int .i64 met, .str tx, _x6, _x7, .agg [.int .u8 a, .int .u8 b, .int .u8 c, .int .u8 d], .int .i64 i, _y0, _y1, _y2, _y3], [some ⟨31, [.int .i64 l0, .int .i64 l1, .int .i64 l2, .int .i64 l3]⟩, some ⟨42, [.int .u8 a', .int .u8 b', .int .u8 c', .int .u8 d']⟩] =>
    .chk (leI 0 n && (met == 0 && (i == 0 && (tx == [] && ((isN4 l0 (ln n.toNat 0) && (isN4 l1 (ln n.toNat 1) && (isN4 l2 (ln n.toNat 2) && isN4 l3 (ln n.toNat 3)))) && ((isN4 a (sui n.toNat).1 && (isN4 b (sui n.toNat).2.1 && (isN4 c (sui n.toNat).2.2.1 && isN4 d (sui n.toNat).2.2.2))) && (isN4 a' (sui n.toNat).1 && (isN4 b' (sui n.toNat).2.1 && (isN4 c' (sui n.toNat).2.2.1 && isN4 d' (sui n.toNat).2.2.2)))))))))
      (.leaf (.n, [.int .u64 n, .undef, .undef, .undef, .int .i64 15, .str (shut (pStr (pat n.toNat))), .undef, .undef, .undef, .undef, .undef, .undef, .undef, .undef], [some ⟨31, [.int .i64 l0, .int .i64 l1, .int .i64 l2, .int .i64 l3]⟩, some ⟨42, [.int .u8 a', .int .u8 b', .int .u8 c', .int .u8 d']⟩]))
  | _, _ => .fail
theorem does9 (n : Nat) (x1 x6 x7 y0 y1 y2 y3 : AV) : Does C6 fd9 blk9_0 [.int .u64 n, x1, .own 0 0, .own 1 0, .int .i64 0, .str [], x6, x7, .agg [.int .u8 ((sui n).1 : Nat), .int .u8 ((sui n).2.1 : Nat), .int .u8 ((sui n).2.2.1 : Nat), .int .u8 ((sui n).2.2.2 : Nat)], .int .i64 0, y0, y1, y2, y3] (Hn n (sui n))
    (.n, [.int .u64 n, .undef, .undef, .undef, .int .i64 15, .str (pStr (pat n)), .undef, .undef, .undef, .undef, .undef, .undef, .undef, .undef], Hn n (sui n)) := by
  have h := loop9 n (sui n) (sui_ok n)
  rw [← pat_sui] at h
  rw [is9_0]
  exact (Does.block h.does).le (.k (.u (.k (.k (.k (.k (.u (.u (.k (.k (.u (.u (.u (.u .nil)))))))))))))) (.k (.k (.u (.u (.k (.k (.k (.k (.u (.u (.k (.k (.k (.k .nil))))))))))))))
theorem zl9 : ZEnt C6 (9, isBlk 0, lenF l9) := zent_does fdat9 hb9 one9_0 fun vs H q hv hr => by
  unfold l9 at hr
  split at hr
  · rename_i n x1 met tx x6 x7 a b c d i y0 y1 y2 y3 l0 l1 l2 l3 a' b' c' d'
    obtain ⟨hc, hr2⟩ := T.of_chk hr
    clear hr
    unfold isN4 at hc
    simp only [Bool.and_eq_true, leI_iff, beq_iff_eq, shut_eq] at hc
    obtain ⟨h0, rfl, rfl, rfl, ⟨rfl, rfl, rfl, rfl⟩, ⟨rfl, rfl, rfl, rfl⟩, rfl, rfl, rfl, rfl⟩ := hc
    cases Option.some.inj hr2
    obtain ⟨n, rfl⟩ : ∃ m : Nat, n = m := ⟨n.toNat, by omega⟩
    simp only [Int.toNat_natCast, shut_eq]
    show Does C6 fd9 blk9_0 _ _ _
    exact does9 n x1 x6 x7 y0 y1 y2 y3
  · simp [T.run] at hr
noncomputable def Z9' : FuncId → Code → Option SumF := zAt [(9, isBlk 0, lenF l9)]
theorem z9' : ZOk C6 Z9' := zAt_ok keepOk6 fun e he => by
  simp only [List.mem_cons, List.not_mem_nil, or_false] at he
  rcases he with rfl
  exact zl9
noncomputable def q9 (x : Nat) : Bool := isN4 ((shut x : Nat) : Int) x
theorem q9_eq (x : Nat) : q9 x = true := by unfold q9 isN4; exact beq_self_eq_true _
noncomputable def q94 (x : N4) : Bool := q9 x.1 && (q9 x.2.1 && (q9 x.2.2.1 && q9 x.2.2.2))
noncomputable def t9R (k : Nat) : Option AV := bif leI 0 (k : Int) && (true && (true && (true && ((q9 (ln k 0) && (q9 (ln k 1) && (q9 (ln k 2) && q9 (ln k 3)))) && (q94 (sui k) && q94 (sui k)))))) then
  bif shut (pStr (pat k)) == shut (pStr (pat k)) then some (.bool true) else some (.bool false) else none
theorem t9 (m : Nat) : callsM C6 Z9' 60 9 [.int .u64 m] = t9R (m % 4503599627370496) := by kernel_rfl
/-- HandSuits is true. -/
theorem suits_run (m : Int) (h : 0 ≤ m ∧ m ≤ 18446744073709551615) : callsM C6 Z9' 60 9 [.int .u64 m] = some (.bool true) := by
  obtain ⟨m, rfl⟩ : ∃ k : Nat, m = k := ⟨m.toNat, by omega⟩
  rw [t9]
  unfold t9R q94
  simp only [q9_eq, leI_iff.2 (by omega : (0 : Int) ≤ ((m % 4503599627370496 : Nat) : Int)), Bool.and_self, cond_true, beq_self_eq_true]
end Go.Proofs.YtgellkpbcoeccaaDoor
