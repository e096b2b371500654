/- Chapter 5: HandDeal. -/
import Derived.Test.YtgellkpbcoeccaaDoorDe6
import Derived.Test.YtgellkpbcoeccaaDoorSl
namespace Go.Proofs.YtgellkpbcoeccaaDoor
open Go Go.Ev Go.Ev.Bits

noncomputable def up5 (n : Nat) : Bool := leI (n : Int) 18446744073709551615
noncomputable def s5w (f : Nat → Int) (a b c d : Nat) : Int := IntKind.i64.wrap (IntKind.i64.wrap (IntKind.i64.wrap (IntKind.i64.wrap (0 + f a) + f b) + f c) + f d)
noncomputable def nS5 (g : Nat → Nat) (m : Nat) : Int := ((shut (sumS g m) : Nat) : Int)
noncomputable def nL5 (s m : Nat) : Int := ((shut (ln m s) : Nat) : Int)
noncomputable def ok5w (a b c d : Nat) : Bool := (s5w (nL5 0) a b c d == 13) && ((s5w (nL5 1) a b c d == 13) && ((s5w (nL5 2) a b c d == 13) && ((s5w (nL5 3) a b c d == 13) && true)))
noncomputable def t5S (a b c d : Nat) : Option AV :=
  bif up5 a then bif !shut (rightN a) then some (.bool false) else
  bif up5 b then bif !shut (rightN b) then some (.bool false) else
  bif up5 c then bif !shut (rightN c) then some (.bool false) else
  bif up5 d then bif !shut (rightN d) then some (.bool false) else
  bif s5w (nS5 (honS 1 2 3 4)) a b c d == 40 then bif s5w (nS5 (honS 0 0 1 2)) a b c d == 12 then bif ok5w a b c d then some (.bool true) else some (.bool false) else some (.bool false) else some (.bool false)
  else none else none else none else none
theorem t5n : callsM C8 noZ 200 5 [.nils] = t5S (shut (hand [] 0)) (shut (hand [] 1)) (shut (hand [] 2)) (shut (hand [] 3)) := by kernel_rfl
noncomputable def c5r (len : Nat) (ls : List AV) : Bool := Nat.beq ls.length len && ls.all u8B
noncomputable def zl5 (ls : List AV) : List Nat := ls.map fun v => v.toI.toNat
theorem t5r (len : Nat) (ls : List AV) : callsM C8 noZ 200 5 [.ro false len ls] = bif c5r len ls then t5S (shut (hand (zl5 ls) 0)) (shut (hand (zl5 ls) 1)) (shut (hand (zl5 ls) 2)) (shut (hand (zl5 ls) 3)) else none := by kernel_rfl
theorem i64_small {x : Int} (h0 : 0 ≤ x) (h1 : x ≤ 1000) : IntKind.i64.wrap x = x := by rw [i64w]; omega
theorem s5w_eq {f : Nat → Int} {g : Nat → Nat} (hf : ∀ m, f m = (g m : Nat)) (a b c d k : Nat) (h : g a + (g b + (g c + g d)) = k) (hk : k ≤ 1000) : (s5w f a b c d == (k : Int)) = true := by
  have e : s5w f a b c d = (k : Int) := by
    unfold s5w
    rw [hf, hf, hf, hf]
    generalize g a = x at *
    generalize g b = y at *
    generalize g c = z at *
    generalize g d = w at *
    rw [i64_small (x := 0 + (x : Int)) (by omega) (by omega), i64_small (x := 0 + (x : Int) + y) (by omega) (by omega), i64_small (x := 0 + (x : Int) + y + z) (by omega) (by omega), i64_small (x := 0 + (x : Int) + y + z + w) (by omega) (by omega)]
    omega
  rw [e]; exact beq_self_eq_true _
theorem nS5_eq (g : Nat → Nat) (m : Nat) : nS5 g m = (sumS g m : Nat) := by unfold nS5; rw [shut_eq]
theorem nL5_eq (s m : Nat) : nL5 s m = (ln m s : Nat) := by unfold nL5; rw [shut_eq]
theorem deal_true (zs : List Nat) : t5S (shut (hand zs 0)) (shut (hand zs 1)) (shut (hand zs 2)) (shut (hand zs 3)) = some (.bool true) := by
  have hu : ∀ q, q < 4 → up5 (hand zs q) = true := fun q hq => by
    have := hand_lt zs q hq
    unfold up5
    exact leI_iff.2 (by omega)
  have hr : ∀ q, q < 4 → (!shut (rightN (hand zs q))) = false := fun q hq => by rw [shut_eq, hand_right zs q hq]; rfl
  have p := s5w_eq (nS5_eq (honS 1 2 3 4)) (hand zs 0) (hand zs 1) (hand zs 2) (hand zs 3) 40 (points40 zs) (by omega)
  have c := s5w_eq (nS5_eq (honS 0 0 1 2)) (hand zs 0) (hand zs 1) (hand zs 2) (hand zs 3) 12 (controls12 zs) (by omega)
  have l (s : Nat) (hs : s < 4) := s5w_eq (nL5_eq s) (hand zs 0) (hand zs 1) (hand zs 2) (hand zs 3) 13 (lengths13 zs s hs) (by omega)
  have o : ok5w (hand zs 0) (hand zs 1) (hand zs 2) (hand zs 3) = true := by
    unfold ok5w
    have l0 := l 0 (by omega)
    have l1 := l 1 (by omega)
    have l2 := l 2 (by omega)
    have l3 := l 3 (by omega)
    have l0' : (s5w (nL5 0) (hand zs 0) (hand zs 1) (hand zs 2) (hand zs 3) == 13) = true := l0
    have l1' : (s5w (nL5 1) (hand zs 0) (hand zs 1) (hand zs 2) (hand zs 3) == 13) = true := l1
    have l2' : (s5w (nL5 2) (hand zs 0) (hand zs 1) (hand zs 2) (hand zs 3) == 13) = true := l2
    have l3' : (s5w (nL5 3) (hand zs 0) (hand zs 1) (hand zs 2) (hand zs 3) == 13) = true := l3
    rw [l0', l1', l2', l3']; rfl
  simp only [shut_eq (hand zs _)]
  unfold t5S
  rw [hu 0 (by omega), hu 1 (by omega), hu 2 (by omega), hu 3 (by omega), hr 0 (by omega), hr 1 (by omega), hr 2 (by omega), hr 3 (by omega), o]
  simp only [cond_true, cond_false]
  rw [show (s5w (nS5 (honS 1 2 3 4)) (hand zs 0) (hand zs 1) (hand zs 2) (hand zs 3) == 40) = true from p, show (s5w (nS5 (honS 0 0 1 2)) (hand zs 0) (hand zs 1) (hand zs 2) (hand zs 3) == 12) = true from c]
  rfl
/-- HandDeal is true. -/
theorem deal_iso {x : AV} (h : IsNums .u8 x) : Iso C8 5 [x] (.bool true) := by
  rcases h with rfl | ⟨zs, rfl, hz, _⟩
  · exact callsM_iso ok8 noZ8 (t5n.trans (deal_true []))
  · have hc : c5r zs.length (zs.map fun z => AV.int .u8 z) = true := by
      unfold c5r
      rw [List.length_map, beq_iff'.2 rfl, Bool.true_and]
      refine List.all_eq_true.2 fun v hv => ?_
      obtain ⟨z, hzm, rfl⟩ := List.mem_map.1 hv
      have := wf_u8 (hz z hzm)
      show (true && (leI 0 z && leI z 255)) = true
      rw [leI_iff.2 this.1, leI_iff.2 this.2]
      rfl
    exact callsM_iso ok8 noZ8 ((t5r _ _).trans (by rw [hc, cond_true]; exact deal_true _))
end Go.Proofs.YtgellkpbcoeccaaDoor
