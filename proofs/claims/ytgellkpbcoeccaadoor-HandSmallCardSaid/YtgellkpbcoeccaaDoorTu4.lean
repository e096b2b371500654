/- Chapter 5: HandTurned: the law. -/
import Derived.Test.YtgellkpbcoeccaaDoorTu3
namespace Go.Proofs.YtgellkpbcoeccaaDoor
open Go Go.Ev Go.Ev.Bits

noncomputable def ne1 (f : Nat → Nat) (k t : Nat) : Bool := ((shut (sumS f k) : Nat) : Int) != ((shut (sumS f t) : Nat) : Int)
noncomputable def okU (k : Nat) : Bool := leI 0 (k : Int) && leI (k : Int) 18446744073709551615
noncomputable def c4R (k w t : Nat) : Bool := leI 0 (k : Int) && (leI 0 (w : Int) && (true && (true && (isN4 (t : Int) (turnN k (perm (w % 24))) && ((q9 (ln k 0) && (q9 (ln k 1) && (q9 (ln k 2) && q9 (ln k 3)))) && (q9 (ln t 0) && (q9 (ln t 1) && (q9 (ln t 2) && q9 (ln t 3)))))))))
noncomputable def t4R (k w t : Nat) : Option AV :=
  bif leI 0 (k : Int) && (leI 0 (w : Int) && leI (w : Int) 255) then
  bif ne1 (honS 1 2 3 4) k t then some (.bool false) else bif ne1 (honS 0 0 1 2) k t then some (.bool false) else bif ne1 losS k t then some (.bool false) else bif ne1 qckS k t then some (.bool false) else
  bif !(shut (pStr (pat k)) == shut (pStr (pat t))) then some (.bool false) else
  bif okU k then bif okU t then bif !(shut (balN k) == shut (balN t)) then some (.bool false) else
  bif okU k then bif okU t then bif !(shut (rightN k) == shut (rightN t)) then some (.bool false) else
  bif c4R k w t then some (.bool true) else none else none else none else none else none else none
theorem t4 (m w : Nat) : callsM C7 Z4' 60 4 [.int .u64 m, .int .u8 w] = t4R (m % 4503599627370496) w (shut (turnN (m % 4503599627370496) (perm (w % 24)))) := by kernel_rfl
/-- HandTurned is true. -/
theorem turned_run (m w : Int) (h : 0 ≤ m ∧ m ≤ 18446744073709551615) (h' : 0 ≤ w ∧ w ≤ 255) : callsM C7 Z4' 60 4 [.int .u64 m, .int .u8 w] = some (.bool true) := by
  obtain ⟨m, rfl⟩ : ∃ k : Nat, m = k := ⟨m.toNat, by omega⟩
  obtain ⟨w, rfl⟩ : ∃ k : Nat, w = k := ⟨w.toNat, by omega⟩
  have hk : m % 4503599627370496 < 4503599627370496 := Nat.mod_lt _ (by omega)
  have hp := perm_mem (w % 24) (Nat.mod_lt _ (by omega))
  rw [t4]
  generalize m % 4503599627370496 = k at *
  have ht := turnN_lt k _ hp
  have hs := shut_eq (turnN k (perm (w % 24)))
  have e1 (f : Nat → Nat) : ne1 f k (shut (turnN k (perm (w % 24)))) = false := by
    unfold ne1
    rw [hs, sumS_turn f k _ hp]
    exact bne_self_eq_false _
  have o1 : okU k = true := by unfold okU; rw [leI_iff.2 (by omega), leI_iff.2 (by omega)]; rfl
  have o2 : okU (shut (turnN k (perm (w % 24)))) = true := by rw [hs]; unfold okU; rw [leI_iff.2 (by omega), leI_iff.2 (by omega)]; rfl
  have c : c4R k w (shut (turnN k (perm (w % 24)))) = true := by
    unfold c4R isN4
    simp only [q9_eq, leI_iff.2 (by omega : (0 : Int) ≤ (k : Int)), leI_iff.2 (by omega : (0 : Int) ≤ (w : Int)), beq_self_eq_true, Bool.and_self]
  unfold t4R
  simp only [e1, o1, o2, c, leI_iff.2 (by omega : (0 : Int) ≤ (k : Int)), leI_iff.2 (by omega : (0 : Int) ≤ (w : Int)), leI_iff.2 (by omega : (w : Int) ≤ 255), Bool.and_self, cond_true, cond_false]
  simp only [hs, shut_eq (pStr (pat _)), shut_eq (balN _), shut_eq (rightN _), pat_turn k _ hp, bal_turn k hk _ hp, right_turn k hk _ hp, beq_self_eq_true, Bool.not_true, cond_false]
end Go.Proofs.YtgellkpbcoeccaaDoor
