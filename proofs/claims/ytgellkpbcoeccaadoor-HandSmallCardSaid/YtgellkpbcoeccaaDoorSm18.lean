/- Chapter 5: HandSmall: the first and the third row of rounds. -/
import Derived.Test.YtgellkpbcoeccaaDoorSm17
namespace Go.Proofs.YtgellkpbcoeccaaDoor
open Go Go.Ev Go.Ev.Bits

abbrev u27 (i : Nat) (v : AV) : List AV := (List.replicate i .undef) ++ [v] ++ List.replicate (26 - i) .undef
abbrev b27 (i : Nat) : List Bool := (List.replicate i false) ++ [true] ++ List.replicate (26 - i) false
abbrev fa3 (i : Nat) : List AV := u27 11 (.int .i64 i)
abbrev fb3 (i : Nat) : List AV := u27 16 (.int .i64 i)
abbrev fc3 (i : Nat) : List AV := u27 10 (.int .i64 i)
def all27 : List Bool := List.replicate 27 false
theorem ra3_0 : (List.range 32).map (fun i => codeG C14 noZ 60 3 kp3 ct3 isN (b27 11) bod3_0 (fa3 i) [] 0) = (List.range 32).map (fun i => some (.n, fa3 (i + 1), [])) := by kernel_rfl
theorem ra3_1 : (List.range 32).map (fun i => codeG C14 noZ 60 3 kp3 ct3 isN (b27 11) bod3_0 (fa3 (32 + i)) [] 0) = (List.range 32).map (fun i => some (.n, fa3 (32 + i + 1), [])) := by kernel_rfl
theorem ra3_2 : (List.range 32).map (fun i => codeG C14 noZ 60 3 kp3 ct3 isN (b27 11) bod3_0 (fa3 (64 + i)) [] 0) = (List.range 32).map (fun i => some (.n, fa3 (64 + i + 1), [])) := by kernel_rfl
theorem ra3_3 : (List.range 32).map (fun i => codeG C14 noZ 60 3 kp3 ct3 isN (b27 11) bod3_0 (fa3 (96 + i)) [] 0) = (List.range 32).map (fun i => some (.n, fa3 (96 + i + 1), [])) := by kernel_rfl
theorem ra3_x : codeG C14 noZ 60 3 kp3 ct3 isEx (b27 11) bod3_0 (fa3 128) [] 0 = some (.ex 0, fa3 128, []) := by kernel_rfl
theorem rc3 : (List.range 14).map (fun i => codeG C14 noZ 60 3 kp3 ct3 isN (b27 10) bod3_10 (fc3 (50 + i)) [] 0) = (List.range 14).map (fun i => some (.n, fc3 (50 + i + 1), [])) := by kernel_rfl
theorem rc3_x : codeG C14 noZ 60 3 kp3 ct3 isEx (b27 10) bod3_10 (fc3 64) [] 0 = some (.ex 10, fc3 64, []) := by kernel_rfl
theorem ra3 (i : Nat) (h : i < 128) : codeG C14 noZ 60 3 kp3 ct3 isN (b27 11) bod3_0 (fa3 i) [] 0 = some (.n, fa3 (i + 1), []) := by
  rcases Nat.lt_or_ge i 32 with g | g
  · exact List.map_inj_left.1 ra3_0 i (List.mem_range.2 g)
  · rcases Nat.lt_or_ge i 64 with g2 | g2
    · obtain ⟨j, rfl⟩ : ∃ j, i = 32 + j := ⟨i - 32, by omega⟩
      exact List.map_inj_left.1 ra3_1 j (List.mem_range.2 (by omega))
    · rcases Nat.lt_or_ge i 96 with g3 | g3
      · obtain ⟨j, rfl⟩ : ∃ j, i = 64 + j := ⟨i - 64, by omega⟩
        exact List.map_inj_left.1 ra3_2 j (List.mem_range.2 (by omega))
      · obtain ⟨j, rfl⟩ : ∃ j, i = 96 + j := ⟨i - 96, by omega⟩
        exact List.map_inj_left.1 ra3_3 j (List.mem_range.2 (by omega))
theorem loopa3 : Lp C14 fd3 bod3_0 (fa3 0) [] (.ex 0, fa3 128, []) := by
  refine Lp.count (C := C14) (fd := fd3) (b := bod3_0) (q := (.ex 0, fa3 128, [])) (S := fun i => (fa3 i, [])) (N := 128) (fun i hi => ?_) ?_ 0 (by omega)
  · exact Does.runG ok14c noZ14 rfl rfl fdat3 hb3 bin3_0 60 rfl (ra3 i hi)
  · exact .out (Does.runG ok14c noZ14 rfl rfl fdat3 hb3 bin3_0 60 rfl ra3_x) (by simp)
theorem loopc3 : Lp C14 fd3 bod3_10 (fc3 50) [] (.ex 10, fc3 64, []) := by
  refine Lp.count (C := C14) (fd := fd3) (b := bod3_10) (q := (.ex 10, fc3 64, [])) (S := fun i => (fc3 (50 + i), [])) (N := 14) (fun i hi => ?_) ?_ 0 (by omega)
  · exact Does.runG ok14c noZ14 rfl rfl fdat3 hb3 bin3_10 60 rfl (List.map_inj_left.1 rc3 i (List.mem_range.2 hi))
  · exact .out (Does.runG ok14c noZ14 rfl rfl fdat3 hb3 bin3_10 60 rfl rc3_x) (by simp)
end Go.Proofs.YtgellkpbcoeccaaDoor
