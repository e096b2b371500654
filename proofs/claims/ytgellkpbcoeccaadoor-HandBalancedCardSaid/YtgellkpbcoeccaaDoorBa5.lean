/- Chapter 5: HandBalanced: the law. -/
import Derived.Test.YtgellkpbcoeccaaDoorBa4
namespace Go.Proofs.YtgellkpbcoeccaaDoor
open Go Go.Ev Go.Ev.Bits

noncomputable def in52 (v : Int) : Bool := leI 0 v && leI v 4503599627370495
theorem in52_iff {v : Int} : in52 v = true ↔ 0 ≤ v ∧ v ≤ 4503599627370495 := by unfold in52; simp only [Bool.and_eq_true, leI_iff]
noncomputable def lO : SumF := fun vs H => match vs, H with
  | [_a0, _a1, _a2, .own 0 0, _a4, _a5, _a6, _a7, _a8, .ro true w [.int .u64 v0, .int .u64 v1, .int .u64 v2, .int .u64 v3, .int .u64 v4, .int .u64 v5, .int .u64 v6], .int .i64 v, .int .i64 i, _b0, _b1, _b2, _b3, _b4, _b5], [some ⟨37, [.int .u64 a, .int .u64 b, .int .u64 c, .int .u64 d]⟩] =>
    .chk (Nat.beq w 7 && (v == 7 && (i == 0 && (in52 v0 && (in52 v1 && (in52 v2 && (in52 v3 && (in52 v4 && (in52 v5 && in52 v6)))))))))
      (.leaf (.n, [.undef, .undef, .undef, .own 0 0, .undef, .undef, .undef, .undef, .undef, .undef, .undef, .undef, .undef, .undef, .undef, .undef, .undef, .undef], [some ⟨37, [.int .u64 a, .int .u64 b, .int .u64 c, .int .u64 d]⟩]))
  | _, _ => .fail
theorem doesO (a0 a1 a2 a4 a5 a6 a7 a8 b0 b1 b2 b3 b4 b5 : AV) (v0 v1 v2 v3 v4 v5 v6 : Nat) (a b c d : Int) (h0 : v0 < 4503599627370496) (h1 : v1 < 4503599627370496) (h2 : v2 < 4503599627370496) (h3 : v3 < 4503599627370496) (h4 : v4 < 4503599627370496) (h5 : v5 < 4503599627370496) (h6 : v6 < 4503599627370496) :
    Does C8 fd8 blk8_0 [a0, a1, a2, .own 0 0, a4, a5, a6, a7, a8, .ro true 7 (ls7 v0 v1 v2 v3 v4 v5 v6), .int .i64 7, .int .i64 0, b0, b1, b2, b3, b4, b5] (H8 a b c d)
    (.n, [.undef, .undef, .undef, .own 0 0, .undef, .undef, .undef, .undef, .undef, .undef, .undef, .undef, .undef, .undef, .undef, .undef, .undef, .undef], H8 a b c d) := by
  have h := loopO v0 v1 v2 v3 v4 v5 v6 a b c d h0 h1 h2 h3 h4 h5 h6
  rw [is8_0]
  exact (Does.block h.does).le (.u (.u (.u (.k (.u (.u (.u (.u (.u (.k (.k (.k (.u (.u (.u (.u (.u (.u .nil)))))))))))))))))) (.k (.k (.k (.k (.k (.k (.k (.k (.k (.u (.u (.u (.k (.k (.k (.k (.k (.k .nil))))))))))))))))))
theorem zlO : ZEnt C8 (8, isBlk 0, lenF lO) := zent_does fdat8 hb8 one8_0 fun vs H q hv hr => by
  unfold lO at hr
  split at hr
  · rename_i a0 a1 a2 a4 a5 a6 a7 a8 w v0 v1 v2 v3 v4 v5 v6 v i b0 b1 b2 b3 b4 b5 a b c d
    obtain ⟨hc, hr2⟩ := T.of_chk hr
    clear hr
    simp only [Bool.and_eq_true, beq_iff_eq, beq_iff', in52_iff] at hc
    obtain ⟨rfl, rfl, rfl, h0, h1, h2, h3, h4, h5, h6⟩ := hc
    cases Option.some.inj hr2
    obtain ⟨n0, rfl⟩ : ∃ m : Nat, v0 = m := ⟨v0.toNat, by omega⟩
    obtain ⟨n1, rfl⟩ : ∃ m : Nat, v1 = m := ⟨v1.toNat, by omega⟩
    obtain ⟨n2, rfl⟩ : ∃ m : Nat, v2 = m := ⟨v2.toNat, by omega⟩
    obtain ⟨n3, rfl⟩ : ∃ m : Nat, v3 = m := ⟨v3.toNat, by omega⟩
    obtain ⟨n4, rfl⟩ : ∃ m : Nat, v4 = m := ⟨v4.toNat, by omega⟩
    obtain ⟨n5, rfl⟩ : ∃ m : Nat, v5 = m := ⟨v5.toNat, by omega⟩
    obtain ⟨n6, rfl⟩ : ∃ m : Nat, v6 = m := ⟨v6.toNat, by omega⟩
    exact doesO a0 a1 a2 a4 a5 a6 a7 a8 b0 b1 b2 b3 b4 b5 n0 n1 n2 n3 n4 n5 n6 a b c d (by omega) (by omega) (by omega) (by omega) (by omega) (by omega) (by omega)
  · simp [T.run] at hr
noncomputable def ZO : FuncId → Code → Option SumF := zAt [(8, isBlk 0, lenF lO)]
theorem zO : ZOk C8 ZO := zAt_ok keepOk8 fun e he => by
  simp only [List.mem_cons, List.not_mem_nil, or_false] at he
  rcases he with rfl
  exact zlO
noncomputable def w8 (m : Nat) : Int := IntKind.u8.wrap ((m : Int).tmod 24)
noncomputable def c15 (m : Nat) : Bool := true && (leI 0 (w8 m) && leI (w8 m) 255)
noncomputable def cO (m h0 h1 h2 h3 t0 t1 : Nat) : Bool := true && (true && (true && (in52 ((m % 4503599627370496 : Nat) : Int) && (in52 h0 && (in52 h1 && (in52 h2 && (in52 h3 && (in52 t0 && in52 t1))))))))
noncomputable def tO (m h0 h1 h2 h3 t0 t1 : Nat) : Option AV := bif c15 m then bif c15 m then bif cO m h0 h1 h2 h3 t0 t1 then some (.bool true) else none else none else none
theorem t8n (m : Nat) : callsM C8 ZO 200 8 [.int .u64 m, .nils] = tO m (shut (hand [] 0)) (shut (hand [] 1)) (shut (hand [] 2)) (shut (hand [] 3)) (shut (turnN 1649737261087 (perm ((w8 m).toNat % 24)))) (shut (turnN 1649737326607 (perm ((w8 m).toNat % 24)))) := by kernel_rfl
theorem t8r (m : Nat) (len : Nat) (ls : List AV) : callsM C8 ZO 200 8 [.int .u64 m, .ro false len ls] = bif c5r len ls then tO m (shut (hand (zl5 ls) 0)) (shut (hand (zl5 ls) 1)) (shut (hand (zl5 ls) 2)) (shut (hand (zl5 ls) 3)) (shut (turnN 1649737261087 (perm ((w8 m).toNat % 24)))) (shut (turnN 1649737326607 (perm ((w8 m).toNat % 24)))) else none := by kernel_rfl
theorem bal_true (m : Nat) (zs : List Nat) : tO m (shut (hand zs 0)) (shut (hand zs 1)) (shut (hand zs 2)) (shut (hand zs 3)) (shut (turnN 1649737261087 (perm ((w8 m).toNat % 24)))) (shut (turnN 1649737326607 (perm ((w8 m).toNat % 24)))) = some (.bool true) := by
  have h0 := hand_lt zs 0 (by omega)
  have h1 := hand_lt zs 1 (by omega)
  have h2 := hand_lt zs 2 (by omega)
  have h3 := hand_lt zs 3 (by omega)
  have hp := perm_mem ((w8 m).toNat % 24) (Nat.mod_lt _ (by omega))
  have u0 := turnN_lt 1649737261087 _ hp
  have u1 := turnN_lt 1649737326607 _ hp
  have hm : m % 4503599627370496 < 4503599627370496 := Nat.mod_lt _ (by omega)
  have i52 {v : Nat} (h : v < 2 ^ 52) : in52 (v : Int) = true := in52_iff.2 (by omega)
  have c : c15 m = true := by
    unfold c15 w8
    rw [u8w]
    rw [leI_iff.2 (by omega), leI_iff.2 (by omega)]
    rfl
  unfold tO cO
  simp only [shut_eq]
  rw [c, i52 h0, i52 h1, i52 h2, i52 h3, i52 u0, i52 u1, i52 hm]
  rfl
/-- HandBalanced is true. -/
theorem balanced_iso {m : Int} (hm : 0 ≤ m ∧ m ≤ 18446744073709551615) {x : AV} (h : IsNums .u8 x) : Iso C8 8 [.int .u64 m, x] (.bool true) := by
  obtain ⟨m, rfl⟩ : ∃ k : Nat, m = k := ⟨m.toNat, by omega⟩
  rcases h with rfl | ⟨zs, rfl, hz, _⟩
  · exact callsM_iso ok8 zO ((t8n m).trans (bal_true m []))
  · have hc : c5r zs.length (zs.map fun z => AV.int .u8 z) = true := by
      unfold c5r
      rw [List.length_map, beq_iff'.2 rfl, Bool.true_and]
      refine List.all_eq_true.2 fun v hv => ?_
      obtain ⟨z, hzm, rfl⟩ := List.mem_map.1 hv
      have := wf_u8 (hz z hzm)
      show (true && (leI 0 z && leI z 255)) = true
      rw [leI_iff.2 this.1, leI_iff.2 this.2]
      rfl
    exact callsM_iso ok8 zO ((t8r m _ _).trans (by rw [hc, cond_true]; exact bal_true m _))
end Go.Proofs.YtgellkpbcoeccaaDoor
