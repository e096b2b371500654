/- Chapter 5: HandSmall: the second row of rounds. -/
import Derived.Test.YtgellkpbcoeccaaDoorSm18
namespace Go.Proofs.YtgellkpbcoeccaaDoor
open Go Go.Ev Go.Ev.Bits

theorem rb3_0 : (List.range 1).map (fun i => codeG C14 noZ 60 3 kp3 ct3 isN (b27 16) bod3_4 (fb3 (0 + i)) [] 0) = (List.range 1).map (fun i => some (.n, fb3 (0 + i + 1), [])) := by kernel_rfl
theorem rb3_1 : (List.range 1).map (fun i => codeG C14 noZ 60 3 kp3 ct3 isN (b27 16) bod3_4 (fb3 (1 + i)) [] 0) = (List.range 1).map (fun i => some (.n, fb3 (1 + i + 1), [])) := by kernel_rfl
theorem rb3_2 : (List.range 2).map (fun i => codeG C14 noZ 60 3 kp3 ct3 isN (b27 16) bod3_4 (fb3 (2 + i)) [] 0) = (List.range 2).map (fun i => some (.n, fb3 (2 + i + 1), [])) := by kernel_rfl
theorem rb3_4 : (List.range 3).map (fun i => codeG C14 noZ 60 3 kp3 ct3 isN (b27 16) bod3_4 (fb3 (4 + i)) [] 0) = (List.range 3).map (fun i => some (.n, fb3 (4 + i + 1), [])) := by kernel_rfl
theorem rb3_7 : (List.range 7).map (fun i => codeG C14 noZ 60 3 kp3 ct3 isN (b27 16) bod3_4 (fb3 (7 + i)) [] 0) = (List.range 7).map (fun i => some (.n, fb3 (7 + i + 1), [])) := by kernel_rfl
theorem rb3_x : codeG C14 noZ 60 3 kp3 ct3 isEx (b27 16) bod3_4 (fb3 14) [] 0 = some (.ex 4, fb3 14, []) := by kernel_rfl
theorem rb3 (i : Nat) (h : i < 14) : codeG C14 noZ 60 3 kp3 ct3 isN (b27 16) bod3_4 (fb3 i) [] 0 = some (.n, fb3 (i + 1), []) := by
  rcases Nat.lt_or_ge i 1 with g1 | g1
  · obtain ⟨j, rfl⟩ : ∃ j, i = 0 + j := ⟨i - 0, by omega⟩
    exact List.map_inj_left.1 rb3_0 j (List.mem_range.2 (by omega))
  rcases Nat.lt_or_ge i 2 with g2 | g2
  · obtain ⟨j, rfl⟩ : ∃ j, i = 1 + j := ⟨i - 1, by omega⟩
    exact List.map_inj_left.1 rb3_1 j (List.mem_range.2 (by omega))
  rcases Nat.lt_or_ge i 4 with g4 | g4
  · obtain ⟨j, rfl⟩ : ∃ j, i = 2 + j := ⟨i - 2, by omega⟩
    exact List.map_inj_left.1 rb3_2 j (List.mem_range.2 (by omega))
  rcases Nat.lt_or_ge i 7 with g7 | g7
  · obtain ⟨j, rfl⟩ : ∃ j, i = 4 + j := ⟨i - 4, by omega⟩
    exact List.map_inj_left.1 rb3_4 j (List.mem_range.2 (by omega))
  obtain ⟨j, rfl⟩ : ∃ j, i = 7 + j := ⟨i - 7, by omega⟩
  exact List.map_inj_left.1 rb3_7 j (List.mem_range.2 (by omega))
theorem loopb3 : Lp C14 fd3 bod3_4 (fb3 0) [] (.ex 4, fb3 14, []) := by
  refine Lp.count (C := C14) (fd := fd3) (b := bod3_4) (q := (.ex 4, fb3 14, [])) (S := fun i => (fb3 i, [])) (N := 14) (fun i hi => ?_) ?_ 0 (by omega)
  · exact Does.runG ok14c noZ14 rfl rfl fdat3 hb3 bin3_4 60 rfl (rb3 i hi)
  · exact .out (Does.runG ok14c noZ14 rfl rfl fdat3 hb3 bin3_4 60 rfl rb3_x) (by simp)
noncomputable def l3a : SumF := fun vs H => match vs, H with
  | [_a0, _a1, _a2, _a3, _a4, _a5, _a6, _a7, _a8, _a9, _a10, .int .i64 i, _a12, _a13, _a14, _a15, _a16, _a17, _a18, _a19, _a20, _a21, _a22, _a23, _a24, _a25, _a26], [] => .chk (i == 0) (.leaf (.n, List.replicate 27 .undef, []))
  | _, _ => .fail
theorem does3a (a0 a1 a2 a3 a4 a5 a6 a7 a8 a9 a10 a12 a13 a14 a15 a16 a17 a18 a19 a20 a21 a22 a23 a24 a25 a26 : AV) : Does C14 fd3 blk3_0 [a0, a1, a2, a3, a4, a5, a6, a7, a8, a9, a10, .int .i64 0, a12, a13, a14, a15, a16, a17, a18, a19, a20, a21, a22, a23, a24, a25, a26] [] (.n, List.replicate 27 .undef, []) := by
  have h := loopa3
  rw [is3_0]
  exact (Does.block h.does).le (.u (.u (.u (.u (.u (.u (.u (.u (.u (.u (.u (.k (.u (.u (.u (.u (.u (.u (.u (.u (.u (.u (.u (.u (.u (.u (.u .nil))))))))))))))))))))))))))) (.u (.u (.u (.u (.u (.u (.u (.u (.u (.u (.u (.u (.u (.u (.u (.u (.u (.u (.u (.u (.u (.u (.u (.u (.u (.u (.u .nil)))))))))))))))))))))))))))
theorem ze3a : ZEnt C14 (3, isBlk 0, lenF l3a) := zent_does fdat3 hb3 one3_0 fun vs H q hv hr => by
  unfold l3a at hr
  split at hr
  · rename_i a0 a1 a2 a3 a4 a5 a6 a7 a8 a9 a10 i a12 a13 a14 a15 a16 a17 a18 a19 a20 a21 a22 a23 a24 a25 a26
    obtain ⟨hc, hr2⟩ := T.of_chk hr
    clear hr
    simp only [beq_iff_eq] at hc
    subst hc
    cases Option.some.inj hr2
    exact does3a a0 a1 a2 a3 a4 a5 a6 a7 a8 a9 a10 a12 a13 a14 a15 a16 a17 a18 a19 a20 a21 a22 a23 a24 a25 a26
  · simp [T.run] at hr
noncomputable def l3b : SumF := fun vs H => match vs, H with
  | [_a0, _a1, _a2, _a3, _a4, _a5, _a6, _a7, _a8, _a9, _a10, _a11, _a12, _a13, _a14, _a15, .int .i64 i, _a17, _a18, _a19, _a20, _a21, _a22, _a23, _a24, _a25, _a26], [] => .chk (i == 0) (.leaf (.n, List.replicate 27 .undef, []))
  | _, _ => .fail
theorem does3b (a0 a1 a2 a3 a4 a5 a6 a7 a8 a9 a10 a11 a12 a13 a14 a15 a17 a18 a19 a20 a21 a22 a23 a24 a25 a26 : AV) : Does C14 fd3 blk3_4 [a0, a1, a2, a3, a4, a5, a6, a7, a8, a9, a10, a11, a12, a13, a14, a15, .int .i64 0, a17, a18, a19, a20, a21, a22, a23, a24, a25, a26] [] (.n, List.replicate 27 .undef, []) := by
  have h := loopb3
  rw [is3_4]
  exact (Does.block h.does).le (.u (.u (.u (.u (.u (.u (.u (.u (.u (.u (.u (.u (.u (.u (.u (.u (.k (.u (.u (.u (.u (.u (.u (.u (.u (.u (.u .nil))))))))))))))))))))))))))) (.u (.u (.u (.u (.u (.u (.u (.u (.u (.u (.u (.u (.u (.u (.u (.u (.u (.u (.u (.u (.u (.u (.u (.u (.u (.u (.u .nil)))))))))))))))))))))))))))
theorem ze3b : ZEnt C14 (3, isBlk 4, lenF l3b) := zent_does fdat3 hb3 one3_4 fun vs H q hv hr => by
  unfold l3b at hr
  split at hr
  · rename_i a0 a1 a2 a3 a4 a5 a6 a7 a8 a9 a10 a11 a12 a13 a14 a15 i a17 a18 a19 a20 a21 a22 a23 a24 a25 a26
    obtain ⟨hc, hr2⟩ := T.of_chk hr
    clear hr
    simp only [beq_iff_eq] at hc
    subst hc
    cases Option.some.inj hr2
    exact does3b a0 a1 a2 a3 a4 a5 a6 a7 a8 a9 a10 a11 a12 a13 a14 a15 a17 a18 a19 a20 a21 a22 a23 a24 a25 a26
  · simp [T.run] at hr
noncomputable def l3c : SumF := fun vs H => match vs, H with
  | [_a0, _a1, _a2, _a3, _a4, _a5, _a6, _a7, _a8, _a9, .int .i64 i, _a11, _a12, _a13, _a14, _a15, _a16, _a17, _a18, _a19, _a20, _a21, _a22, _a23, _a24, _a25, _a26], [] => .chk (i == 50) (.leaf (.n, List.replicate 27 .undef, []))
  | _, _ => .fail
theorem does3c (a0 a1 a2 a3 a4 a5 a6 a7 a8 a9 a11 a12 a13 a14 a15 a16 a17 a18 a19 a20 a21 a22 a23 a24 a25 a26 : AV) : Does C14 fd3 blk3_10 [a0, a1, a2, a3, a4, a5, a6, a7, a8, a9, .int .i64 50, a11, a12, a13, a14, a15, a16, a17, a18, a19, a20, a21, a22, a23, a24, a25, a26] [] (.n, List.replicate 27 .undef, []) := by
  have h := loopc3
  rw [is3_10]
  exact (Does.block h.does).le (.u (.u (.u (.u (.u (.u (.u (.u (.u (.u (.k (.u (.u (.u (.u (.u (.u (.u (.u (.u (.u (.u (.u (.u (.u (.u (.u .nil))))))))))))))))))))))))))) (.u (.u (.u (.u (.u (.u (.u (.u (.u (.u (.u (.u (.u (.u (.u (.u (.u (.u (.u (.u (.u (.u (.u (.u (.u (.u (.u .nil)))))))))))))))))))))))))))
theorem ze3c : ZEnt C14 (3, isBlk 10, lenF l3c) := zent_does fdat3 hb3 one3_10 fun vs H q hv hr => by
  unfold l3c at hr
  split at hr
  · rename_i a0 a1 a2 a3 a4 a5 a6 a7 a8 a9 i a11 a12 a13 a14 a15 a16 a17 a18 a19 a20 a21 a22 a23 a24 a25 a26
    obtain ⟨hc, hr2⟩ := T.of_chk hr
    clear hr
    simp only [beq_iff_eq] at hc
    subst hc
    cases Option.some.inj hr2
    exact does3c a0 a1 a2 a3 a4 a5 a6 a7 a8 a9 a11 a12 a13 a14 a15 a16 a17 a18 a19 a20 a21 a22 a23 a24 a25 a26
  · simp [T.run] at hr
noncomputable def Z3 : FuncId → Code → Option SumF := zAt [(3, isBlk 0, lenF l3a), (3, isBlk 4, lenF l3b), (3, isBlk 10, lenF l3c)]
theorem z3all : ZOk C14 Z3 := zAt_ok keepOk14 fun e he => by
  simp only [List.mem_cons, List.not_mem_nil, or_false] at he
  rcases he with rfl | rfl | rfl
  · exact ze3a
  · exact ze3b
  · exact ze3c
/-- HandSmall is true. -/
theorem small_run : callsM C14 Z3 60 3 [] = some (.bool true) := by kernel_rfl
end Go.Proofs.YtgellkpbcoeccaaDoor
