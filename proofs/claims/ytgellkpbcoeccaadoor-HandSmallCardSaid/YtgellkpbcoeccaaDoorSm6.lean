/- Chapter 5: the reference: Points, Controls, Losers, Quick as summaries. Written by program (gen_sm6.py). -/
import Derived.Test.YtgellkpbcoeccaaDoorSm5
namespace Go.Proofs.YtgellkpbcoeccaaDoor
open Go Go.Ev Go.Ev.Bits

noncomputable def tr31 (m s : Nat) (k : Kt) : Kt := fun n =>
  let e3 : Option (X × List AV × Heap) := bif bq m s 11 then bif um m then bif decide (nL5 s m ≥ 2) then k (IntKind.i64.wrap (n + 1)) else k n else none else k n
  let e2 : Option (X × List AV × Heap) := bif bq m s 12 then k (IntKind.i64.wrap (n + 2)) else bif bq m s 11 then bif bq m s 10 then k (IntKind.i64.wrap (n + 2)) else e3 else e3
  let e1 : Option (X × List AV × Heap) := bif bq m s 12 then bif bq m s 10 then k (IntKind.i64.wrap (n + 3)) else e2 else e2
  bif um m then bif um m then bif um m then bif bq m s 12 then bif bq m s 11 then k (IntKind.i64.wrap (n + 4)) else e1 else e1 else none else none else none
theorem s31_0 (m n : Nat) : codeG C10 noZ 60 31 kp31 ct31 isN m31 bod31_0 (fr31 m n 0) [] 0 = tr31 m 0 (fun x => some (.n, fr31 m x 1, [])) n := by kernel_rfl
theorem s31_1 (m n : Nat) : codeG C10 noZ 60 31 kp31 ct31 isN m31 bod31_0 (fr31 m n 1) [] 0 = tr31 m 1 (fun x => some (.n, fr31 m x 2, [])) n := by kernel_rfl
theorem s31_2 (m n : Nat) : codeG C10 noZ 60 31 kp31 ct31 isN m31 bod31_0 (fr31 m n 2) [] 0 = tr31 m 2 (fun x => some (.n, fr31 m x 3, [])) n := by kernel_rfl
theorem s31_3 (m n : Nat) : codeG C10 noZ 60 31 kp31 ct31 isN m31 bod31_0 (fr31 m n 3) [] 0 = tr31 m 3 (fun x => some (.n, fr31 m x 4, [])) n := by kernel_rfl
theorem s31_4 (m n : Nat) : codeG C10 noZ 60 31 kp31 ct31 isEx m31 bod31_0 (fr31 m n 4) [] 0 = some (.ex 0, fr31 m n 4, []) := by kernel_rfl
theorem ge_ble (l t : Nat) : decide ((l : Int) ≥ (t : Nat)) = Nat.ble t l := by
  cases h : Nat.ble t l
  · refine decide_eq_false fun h2 => ?_
    have := Nat.ble_eq_true_of_le (show t ≤ l by omega)
    rw [this] at h; cases h
  · have := Nat.le_of_ble_eq_true h; exact decide_eq_true (by omega)
theorem tr28_eq (m s n : Nat) (hm : m < 18446744073709551616) (hn : n ≤ 400) (k : Kt) : tr28 m s k n = k ((n + honS 1 2 3 4 (hd m s) : Nat) : Int) := by
  unfold tr28 bq honS
  rw [um_eq hm]
  simp only [shut_eq]
  have q (c : Bool) (r : Nat) (k : Kt) (n : Nat) (h8 : 8 ≤ r) (hx : r ≤ 12) (hn : n ≤ 500) : ifq true c r k n = k ((n + bif c then r - 8 else 0 : Nat) : Int) := ifq_eq c r k n h8 (by omega) hn
  have b (c : Bool) (x : Nat) (hx : x ≤ 4) : (bif c then x else 0) ≤ 4 := by cases c <;> simp [hx]
  have b1 : (bif hb (hd m s) 9 then 9 - 8 else 0) ≤ 4 := b (hb (hd m s) 9) 1 (by omega)
  have b2 : (bif hb (hd m s) 10 then 10 - 8 else 0) ≤ 4 := b (hb (hd m s) 10) 2 (by omega)
  have b3 : (bif hb (hd m s) 11 then 11 - 8 else 0) ≤ 4 := b (hb (hd m s) 11) 3 (by omega)
  refine (q _ 9 _ _ (by omega) (by omega) (by omega)).trans ?_
  refine (q _ 10 _ _ (by omega) (by omega) (by omega)).trans ?_
  refine (q _ 11 _ _ (by omega) (by omega) (by omega)).trans ?_
  refine (q _ 12 _ _ (by omega) (by omega) (by omega)).trans ?_
  simp only [Nat.add_assoc, Nat.reduceSub]
theorem tr29_eq (m s n : Nat) (hm : m < 18446744073709551616) (hn : n ≤ 400) (k : Kt) : tr29 m s k n = k ((n + honS 0 0 1 2 (hd m s) : Nat) : Int) := by
  unfold tr29 bq honS
  rw [um_eq hm]
  simp only [shut_eq]
  have b (c : Bool) (x : Nat) (hx : x ≤ 4) : (bif c then x else 0) ≤ 4 := by cases c <;> simp [hx]
  have b1 := b (hb (hd m s) 11) 1 (by omega)
  refine (ifp_eq _ 1 _ _ (by omega) (by omega)).trans ?_
  refine (ifp_eq _ 2 _ _ (by omega) (by omega)).trans ?_
  cases hb (hd m s) 9 <;> cases hb (hd m s) 10 <;> simp only [cond_true, cond_false, Nat.zero_add, Nat.add_assoc]
theorem tr30_eq (m s n : Nat) (hm : m < 18446744073709551616) (hn : n ≤ 400) (k : Kt) : tr30 m s k n = k ((n + losS (hd m s) : Nat) : Int) := by
  unfold tr30 bq losS
  rw [um_eq hm, bc16_hd]
  simp only [shut_eq, nL5_eq, cond_true]
  have b1 := b2n_le (Nat.ble 1 (ln m s) && !hb (hd m s) 12)
  have b2 := b2n_le (Nat.ble 2 (ln m s) && !hb (hd m s) 11)
  refine (ifl_eq _ _ 1 _ _ (by omega)).trans ?_
  refine (ifl_eq _ _ 2 _ _ (by omega)).trans ?_
  refine (ifl_eq _ _ 3 _ _ (by omega)).trans ?_
  simp only [Nat.add_assoc]
theorem tr31_eq (m s n : Nat) (hm : m < 18446744073709551616) (hn : n ≤ 400) (k : Kt) : tr31 m s k n = k ((n + qckS (hd m s) : Nat) : Int) := by
  have w (x : Nat) (hx : x ≤ 4) : IntKind.i64.wrap ((n : Int) + (x : Nat)) = ((n + x : Nat) : Int) := by rw [i64_small (by omega) (by omega)]; omega
  have w1 : IntKind.i64.wrap ((n : Int) + 1) = ((n + 1 : Nat) : Int) := w 1 (by omega)
  have w2 : IntKind.i64.wrap ((n : Int) + 2) = ((n + 2 : Nat) : Int) := w 2 (by omega)
  have w3 : IntKind.i64.wrap ((n : Int) + 3) = ((n + 3 : Nat) : Int) := w 3 (by omega)
  have w4 : IntKind.i64.wrap ((n : Int) + 4) = ((n + 4 : Nat) : Int) := w 4 (by omega)
  have g : decide (((ln m s : Nat) : Int) ≥ 2) = Nat.ble 2 (ln m s) := ge_ble (ln m s) 2
  unfold tr31 bq qckS
  rw [um_eq hm, bc16_hd]
  simp only [shut_eq, nL5_eq, cond_true, w1, w2, w3, w4, g]
  cases hb (hd m s) 10 <;> cases hb (hd m s) 11 <;> cases hb (hd m s) 12 <;> cases Nat.ble 2 (ln m s) <;> rfl
noncomputable def sRNum (g : Nat → Nat) : List AV → T AV
  | [.int .u64 m] => .chk (leI 0 m && leI m 18446744073709551615) (.leaf (.int .i64 (shut (sumS g m.toNat) : Nat)))
  | _ => .fail
theorem loop28 (m : Nat) (hm : m < 18446744073709551616) : Lp C10 fd28 bod28_0 (fo28 m 0 0) [] (.ex 0, fo28 m (sumS (honS 1 2 3 4) m : Nat) 4, []) := by
  have l (s : Nat) : (honS 1 2 3 4) (hd m s) ≤ 100 := honS_le (by omega) (by omega) (by omega) (by omega) (hd m s)
  have l0 := l 0
  have l1 := l 1
  have l2 := l 2
  have d {x : X} {vs vs1 : List AV} {want : X → Bool} (hv : vs.length = fd28.keep.length) (h : codeG C10 noZ 60 28 kp28 ct28 want mo28 bod28_0 vs [] 0 = some (x, vs1, [])) : Does C10 fd28 bod28_0 vs [] (x, vs1, []) := Does.runG ok10 noZ10 rfl rfl fdat28 hb28 bin28_0 60 hv h
  refine .on (d rfl ((s28_0 m 0).trans (tr28_eq m 0 0 hm (by omega) _))) ?_
  refine .on (d rfl ((s28_1 m _).trans (tr28_eq m 1 _ hm (by omega) _))) ?_
  refine .on (d rfl ((s28_2 m _).trans (tr28_eq m 2 _ hm (by omega) _))) ?_
  refine .on (d rfl ((s28_3 m _).trans (tr28_eq m 3 _ hm (by omega) _))) ?_
  have e : 0 + (honS 1 2 3 4) (hd m 0) + (honS 1 2 3 4) (hd m 1) + (honS 1 2 3 4) (hd m 2) + (honS 1 2 3 4) (hd m 3) = sumS (honS 1 2 3 4) m := by unfold sumS; omega
  rw [e]
  exact .out (d rfl (s28_4 m _)) (by simp)
noncomputable def lR28 : SumF := fun vs H => match vs, H with
  | [.int .u64 m, _a, .int .i64 n, .int .i64 s, _j0, _j1, _j2, _j3], [] =>
    .chk (leI 0 m && (leI m 18446744073709551615 && (n == 0 && s == 0)))
      (.leaf (.n, [.undef, .undef, .int .i64 (shut (sumS (honS 1 2 3 4) m.toNat) : Nat), .undef, .undef, .undef, .undef, .undef], []))
  | _, _ => .fail
theorem does28 (m : Nat) (a j0 j1 j2 j3 : AV) (hm : m < 18446744073709551616) : Does C10 fd28 blk28_0 [.int .u64 m, a, .int .i64 0, .int .i64 0, j0, j1, j2, j3] []
    (.n, [.undef, .undef, .int .i64 (sumS (honS 1 2 3 4) m : Nat), .undef, .undef, .undef, .undef, .undef], []) := by
  have h := loop28 m hm
  rw [is28_0]
  generalize sumS (honS 1 2 3 4) m = y at *
  exact (Does.block h.does).le (.k (.u (.k (.k (.u (.u (.u (.u .nil)))))))) (.u (.k (.k (.u (.k (.k (.k (.k .nil))))))))
theorem zl28 : ZEnt C10 (28, isBlk 0, lenF lR28) := zent_does fdat28 hb28 one28_0 fun vs H q hv hr => by
  unfold lR28 at hr
  split at hr
  · rename_i m a n s j0 j1 j2 j3
    obtain ⟨hc, hr2⟩ := T.of_chk hr
    clear hr
    simp only [Bool.and_eq_true, beq_iff_eq, leI_iff] at hc
    obtain ⟨h0, h1, rfl, rfl⟩ := hc
    cases Option.some.inj hr2
    obtain ⟨m, rfl⟩ : ∃ n : Nat, m = n := ⟨m.toNat, by omega⟩
    simp only [Int.toNat_natCast, shut_eq]
    exact does28 m a j0 j1 j2 j3 (by omega)
  · simp [T.run] at hr
noncomputable def ZR28 : FuncId → Code → Option SumF := zAt [(28, isBlk 0, lenF lR28)]
theorem zR28 : ZOk C10 ZR28 := zAt_ok keepOk10 fun e he => by
  simp only [List.mem_cons, List.not_mem_nil, or_false] at he
  rcases he with rfl
  exact zl28
theorem tR28 (m : Nat) : callsM C10 ZR28 60 28 [.int .u64 m] = bif um m then some (.int .i64 (shut (sumS (honS 1 2 3 4) m) : Nat)) else none := by kernel_rfl
theorem iso28 : ∀ args v, (sRNum (honS 1 2 3 4) args).run = some v → callsM C10 ZR28 60 28 args = some v := by
  intro args v hr
  unfold sRNum at hr
  split at hr
  · rename_i m
    obtain ⟨hc, hr2⟩ := T.of_chk hr
    clear hr
    simp only [Bool.and_eq_true, leI_iff] at hc
    cases Option.some.inj hr2
    obtain ⟨m, rfl⟩ : ∃ n : Nat, m = n := ⟨m.toNat, by omega⟩
    rw [tR28, um_eq (by omega), cond_true]
    rfl
  · simp [T.run] at hr
theorem sum28 : SumAt C10 (28, sRNum (honS 1 2 3 4)) := ⟨callsM_fn ok10 zR28 (iso28 [.int .u64 0] _ rfl), fun args v hr => callsM_iso ok10 zR28 (iso28 args v hr)⟩
theorem loop29 (m : Nat) (hm : m < 18446744073709551616) : Lp C10 fd29 bod29_0 (fr29 m 0 0) [] (.ex 0, fr29 m (sumS (honS 0 0 1 2) m : Nat) 4, []) := by
  have l (s : Nat) : (honS 0 0 1 2) (hd m s) ≤ 100 := honS_le (by omega) (by omega) (by omega) (by omega) (hd m s)
  have l0 := l 0
  have l1 := l 1
  have l2 := l 2
  have d {x : X} {vs vs1 : List AV} {want : X → Bool} (hv : vs.length = fd29.keep.length) (h : codeG C10 noZ 60 29 kp29 ct29 want m29 bod29_0 vs [] 0 = some (x, vs1, [])) : Does C10 fd29 bod29_0 vs [] (x, vs1, []) := Does.runG ok10 noZ10 rfl rfl fdat29 hb29 bin29_0 60 hv h
  refine .on (d rfl ((s29_0 m 0).trans (tr29_eq m 0 0 hm (by omega) _))) ?_
  refine .on (d rfl ((s29_1 m _).trans (tr29_eq m 1 _ hm (by omega) _))) ?_
  refine .on (d rfl ((s29_2 m _).trans (tr29_eq m 2 _ hm (by omega) _))) ?_
  refine .on (d rfl ((s29_3 m _).trans (tr29_eq m 3 _ hm (by omega) _))) ?_
  have e : 0 + (honS 0 0 1 2) (hd m 0) + (honS 0 0 1 2) (hd m 1) + (honS 0 0 1 2) (hd m 2) + (honS 0 0 1 2) (hd m 3) = sumS (honS 0 0 1 2) m := by unfold sumS; omega
  rw [e]
  exact .out (d rfl (s29_4 m _)) (by simp)
noncomputable def lR29 : SumF := fun vs H => match vs, H with
  | [.int .u64 m, _a, .int .i64 n, .int .i64 s, _j0, _j1, _j2], [] =>
    .chk (leI 0 m && (leI m 18446744073709551615 && (n == 0 && s == 0)))
      (.leaf (.n, [.undef, .undef, .int .i64 (shut (sumS (honS 0 0 1 2) m.toNat) : Nat), .undef, .undef, .undef, .undef], []))
  | _, _ => .fail
theorem does29 (m : Nat) (a j0 j1 j2 : AV) (hm : m < 18446744073709551616) : Does C10 fd29 blk29_0 [.int .u64 m, a, .int .i64 0, .int .i64 0, j0, j1, j2] []
    (.n, [.undef, .undef, .int .i64 (sumS (honS 0 0 1 2) m : Nat), .undef, .undef, .undef, .undef], []) := by
  have h := loop29 m hm
  rw [is29_0]
  generalize sumS (honS 0 0 1 2) m = y at *
  exact (Does.block h.does).le (.k (.u (.k (.k (.u (.u (.u .nil))))))) (.u (.k (.k (.u (.k (.k (.k .nil)))))))
theorem zl29 : ZEnt C10 (29, isBlk 0, lenF lR29) := zent_does fdat29 hb29 one29_0 fun vs H q hv hr => by
  unfold lR29 at hr
  split at hr
  · rename_i m a n s j0 j1 j2
    obtain ⟨hc, hr2⟩ := T.of_chk hr
    clear hr
    simp only [Bool.and_eq_true, beq_iff_eq, leI_iff] at hc
    obtain ⟨h0, h1, rfl, rfl⟩ := hc
    cases Option.some.inj hr2
    obtain ⟨m, rfl⟩ : ∃ n : Nat, m = n := ⟨m.toNat, by omega⟩
    simp only [Int.toNat_natCast, shut_eq]
    exact does29 m a j0 j1 j2 (by omega)
  · simp [T.run] at hr
noncomputable def ZR29 : FuncId → Code → Option SumF := zAt [(29, isBlk 0, lenF lR29)]
theorem zR29 : ZOk C10 ZR29 := zAt_ok keepOk10 fun e he => by
  simp only [List.mem_cons, List.not_mem_nil, or_false] at he
  rcases he with rfl
  exact zl29
theorem tR29 (m : Nat) : callsM C10 ZR29 60 29 [.int .u64 m] = bif um m then some (.int .i64 (shut (sumS (honS 0 0 1 2) m) : Nat)) else none := by kernel_rfl
theorem iso29 : ∀ args v, (sRNum (honS 0 0 1 2) args).run = some v → callsM C10 ZR29 60 29 args = some v := by
  intro args v hr
  unfold sRNum at hr
  split at hr
  · rename_i m
    obtain ⟨hc, hr2⟩ := T.of_chk hr
    clear hr
    simp only [Bool.and_eq_true, leI_iff] at hc
    cases Option.some.inj hr2
    obtain ⟨m, rfl⟩ : ∃ n : Nat, m = n := ⟨m.toNat, by omega⟩
    rw [tR29, um_eq (by omega), cond_true]
    rfl
  · simp [T.run] at hr
theorem sum29 : SumAt C10 (29, sRNum (honS 0 0 1 2)) := ⟨callsM_fn ok10 zR29 (iso29 [.int .u64 0] _ rfl), fun args v hr => callsM_iso ok10 zR29 (iso29 args v hr)⟩
theorem loop30 (m : Nat) (hm : m < 18446744073709551616) : Lp C10 fd30 bod30_0 (fr30 m 0 0) [] (.ex 0, fr30 m (sumS losS m : Nat) 4, []) := by
  have l (s : Nat) : losS (hd m s) ≤ 3 := losS_le (hd m s)
  have l0 := l 0
  have l1 := l 1
  have l2 := l 2
  have d {x : X} {vs vs1 : List AV} {want : X → Bool} (hv : vs.length = fd30.keep.length) (h : codeG C10 noZ 60 30 kp30 ct30 want m30 bod30_0 vs [] 0 = some (x, vs1, [])) : Does C10 fd30 bod30_0 vs [] (x, vs1, []) := Does.runG ok10 noZ10 rfl rfl fdat30 hb30 bin30_0 60 hv h
  refine .on (d rfl ((s30_0 m 0).trans (tr30_eq m 0 0 hm (by omega) _))) ?_
  refine .on (d rfl ((s30_1 m _).trans (tr30_eq m 1 _ hm (by omega) _))) ?_
  refine .on (d rfl ((s30_2 m _).trans (tr30_eq m 2 _ hm (by omega) _))) ?_
  refine .on (d rfl ((s30_3 m _).trans (tr30_eq m 3 _ hm (by omega) _))) ?_
  have e : 0 + losS (hd m 0) + losS (hd m 1) + losS (hd m 2) + losS (hd m 3) = sumS losS m := by unfold sumS; omega
  rw [e]
  exact .out (d rfl (s30_4 m _)) (by simp)
noncomputable def lR30 : SumF := fun vs H => match vs, H with
  | [.int .u64 m, _a, .int .i64 n, .int .i64 s, _j0, _j1, _j2, _j3, _j4], [] =>
    .chk (leI 0 m && (leI m 18446744073709551615 && (n == 0 && s == 0)))
      (.leaf (.n, [.undef, .undef, .int .i64 (shut (sumS losS m.toNat) : Nat), .undef, .undef, .undef, .undef, .undef, .undef], []))
  | _, _ => .fail
theorem does30 (m : Nat) (a j0 j1 j2 j3 j4 : AV) (hm : m < 18446744073709551616) : Does C10 fd30 blk30_0 [.int .u64 m, a, .int .i64 0, .int .i64 0, j0, j1, j2, j3, j4] []
    (.n, [.undef, .undef, .int .i64 (sumS losS m : Nat), .undef, .undef, .undef, .undef, .undef, .undef], []) := by
  have h := loop30 m hm
  rw [is30_0]
  generalize sumS losS m = y at *
  exact (Does.block h.does).le (.k (.u (.k (.k (.u (.u (.u (.u (.u .nil))))))))) (.u (.k (.k (.u (.k (.k (.k (.k (.k .nil)))))))))
theorem zl30 : ZEnt C10 (30, isBlk 0, lenF lR30) := zent_does fdat30 hb30 one30_0 fun vs H q hv hr => by
  unfold lR30 at hr
  split at hr
  · rename_i m a n s j0 j1 j2 j3 j4
    obtain ⟨hc, hr2⟩ := T.of_chk hr
    clear hr
    simp only [Bool.and_eq_true, beq_iff_eq, leI_iff] at hc
    obtain ⟨h0, h1, rfl, rfl⟩ := hc
    cases Option.some.inj hr2
    obtain ⟨m, rfl⟩ : ∃ n : Nat, m = n := ⟨m.toNat, by omega⟩
    simp only [Int.toNat_natCast, shut_eq]
    exact does30 m a j0 j1 j2 j3 j4 (by omega)
  · simp [T.run] at hr
noncomputable def ZR30 : FuncId → Code → Option SumF := zAt [(30, isBlk 0, lenF lR30)]
theorem zR30 : ZOk C10 ZR30 := zAt_ok keepOk10 fun e he => by
  simp only [List.mem_cons, List.not_mem_nil, or_false] at he
  rcases he with rfl
  exact zl30
theorem tR30 (m : Nat) : callsM C10 ZR30 60 30 [.int .u64 m] = bif um m then some (.int .i64 (shut (sumS losS m) : Nat)) else none := by kernel_rfl
theorem iso30 : ∀ args v, (sRNum losS args).run = some v → callsM C10 ZR30 60 30 args = some v := by
  intro args v hr
  unfold sRNum at hr
  split at hr
  · rename_i m
    obtain ⟨hc, hr2⟩ := T.of_chk hr
    clear hr
    simp only [Bool.and_eq_true, leI_iff] at hc
    cases Option.some.inj hr2
    obtain ⟨m, rfl⟩ : ∃ n : Nat, m = n := ⟨m.toNat, by omega⟩
    rw [tR30, um_eq (by omega), cond_true]
    rfl
  · simp [T.run] at hr
theorem sum30 : SumAt C10 (30, sRNum losS) := ⟨callsM_fn ok10 zR30 (iso30 [.int .u64 0] _ rfl), fun args v hr => callsM_iso ok10 zR30 (iso30 args v hr)⟩
theorem loop31 (m : Nat) (hm : m < 18446744073709551616) : Lp C10 fd31 bod31_0 (fr31 m 0 0) [] (.ex 0, fr31 m (sumS qckS m : Nat) 4, []) := by
  have l (s : Nat) : qckS (hd m s) ≤ 4 := qckS_le (hd m s)
  have l0 := l 0
  have l1 := l 1
  have l2 := l 2
  have d {x : X} {vs vs1 : List AV} {want : X → Bool} (hv : vs.length = fd31.keep.length) (h : codeG C10 noZ 60 31 kp31 ct31 want m31 bod31_0 vs [] 0 = some (x, vs1, [])) : Does C10 fd31 bod31_0 vs [] (x, vs1, []) := Does.runG ok10 noZ10 rfl rfl fdat31 hb31 bin31_0 60 hv h
  refine .on (d rfl ((s31_0 m 0).trans (tr31_eq m 0 0 hm (by omega) _))) ?_
  refine .on (d rfl ((s31_1 m _).trans (tr31_eq m 1 _ hm (by omega) _))) ?_
  refine .on (d rfl ((s31_2 m _).trans (tr31_eq m 2 _ hm (by omega) _))) ?_
  refine .on (d rfl ((s31_3 m _).trans (tr31_eq m 3 _ hm (by omega) _))) ?_
  have e : 0 + qckS (hd m 0) + qckS (hd m 1) + qckS (hd m 2) + qckS (hd m 3) = sumS qckS m := by unfold sumS; omega
  rw [e]
  exact .out (d rfl (s31_4 m _)) (by simp)
noncomputable def lR31 : SumF := fun vs H => match vs, H with
  | [.int .u64 m, _a, .int .i64 n, .int .i64 s, _j0, _j1, _j2, _j3, _j4, _j5, _j6, _j7], [] =>
    .chk (leI 0 m && (leI m 18446744073709551615 && (n == 0 && s == 0)))
      (.leaf (.n, [.undef, .undef, .int .i64 (shut (sumS qckS m.toNat) : Nat), .undef, .undef, .undef, .undef, .undef, .undef, .undef, .undef, .undef], []))
  | _, _ => .fail
theorem does31 (m : Nat) (a j0 j1 j2 j3 j4 j5 j6 j7 : AV) (hm : m < 18446744073709551616) : Does C10 fd31 blk31_0 [.int .u64 m, a, .int .i64 0, .int .i64 0, j0, j1, j2, j3, j4, j5, j6, j7] []
    (.n, [.undef, .undef, .int .i64 (sumS qckS m : Nat), .undef, .undef, .undef, .undef, .undef, .undef, .undef, .undef, .undef], []) := by
  have h := loop31 m hm
  rw [is31_0]
  generalize sumS qckS m = y at *
  exact (Does.block h.does).le (.k (.u (.k (.k (.u (.u (.u (.u (.u (.u (.u (.u .nil)))))))))))) (.u (.k (.k (.u (.k (.k (.k (.k (.k (.k (.k (.k .nil))))))))))))
theorem zl31 : ZEnt C10 (31, isBlk 0, lenF lR31) := zent_does fdat31 hb31 one31_0 fun vs H q hv hr => by
  unfold lR31 at hr
  split at hr
  · rename_i m a n s j0 j1 j2 j3 j4 j5 j6 j7
    obtain ⟨hc, hr2⟩ := T.of_chk hr
    clear hr
    simp only [Bool.and_eq_true, beq_iff_eq, leI_iff] at hc
    obtain ⟨h0, h1, rfl, rfl⟩ := hc
    cases Option.some.inj hr2
    obtain ⟨m, rfl⟩ : ∃ n : Nat, m = n := ⟨m.toNat, by omega⟩
    simp only [Int.toNat_natCast, shut_eq]
    exact does31 m a j0 j1 j2 j3 j4 j5 j6 j7 (by omega)
  · simp [T.run] at hr
noncomputable def ZR31 : FuncId → Code → Option SumF := zAt [(31, isBlk 0, lenF lR31)]
theorem zR31 : ZOk C10 ZR31 := zAt_ok keepOk10 fun e he => by
  simp only [List.mem_cons, List.not_mem_nil, or_false] at he
  rcases he with rfl
  exact zl31
theorem tR31 (m : Nat) : callsM C10 ZR31 60 31 [.int .u64 m] = bif um m then some (.int .i64 (shut (sumS qckS m) : Nat)) else none := by kernel_rfl
theorem iso31 : ∀ args v, (sRNum qckS args).run = some v → callsM C10 ZR31 60 31 args = some v := by
  intro args v hr
  unfold sRNum at hr
  split at hr
  · rename_i m
    obtain ⟨hc, hr2⟩ := T.of_chk hr
    clear hr
    simp only [Bool.and_eq_true, leI_iff] at hc
    cases Option.some.inj hr2
    obtain ⟨m, rfl⟩ : ∃ n : Nat, m = n := ⟨m.toNat, by omega⟩
    rw [tR31, um_eq (by omega), cond_true]
    rfl
  · simp [T.run] at hr
theorem sum31 : SumAt C10 (31, sRNum qckS) := ⟨callsM_fn ok10 zR31 (iso31 [.int .u64 0] _ rfl), fun args v hr => callsM_iso ok10 zR31 (iso31 args v hr)⟩
end Go.Proofs.YtgellkpbcoeccaaDoor
