/- Chapter 5: the reference: Balanced; the function same is true. -/
import Derived.Test.YtgellkpbcoeccaaDoorSm14
namespace Go.Proofs.YtgellkpbcoeccaaDoor
open Go Go.Ev Go.Ev.Bits

theorem pk35 : ∀ (d a : Nat), 2 ≤ d → d ≤ 5 → a ≤ 13 → ∀ rest r : List UInt8, (num2 a ++ rest == UInt8.ofNat (48 + d) :: r) = (Nat.beq a d && rest == r) := by
  intro d a h1 h2 h3 rest r
  have hd : d = 2 ∨ d = 3 ∨ d = 4 ∨ d = 5 := by omega
  have ha : a = 0 ∨ a = 1 ∨ a = 2 ∨ a = 3 ∨ a = 4 ∨ a = 5 ∨ a = 6 ∨ a = 7 ∨ a = 8 ∨ a = 9 ∨ a = 10 ∨ a = 11 ∨ a = 12 ∨ a = 13 := by omega
  rcases hd with rfl | rfl | rfl | rfl <;> rcases ha with rfl | rfl | rfl | rfl | rfl | rfl | rfl | rfl | rfl | rfl | rfl | rfl | rfl | rfl <;> rfl
theorem dash (x y : List UInt8) : (45 :: x == 45 :: y) = (x == y) := rfl
theorem pStr_is {x : Nat × Nat × Nat × Nat} (h : le13 x) (a b c d : Nat) (ha : 2 ≤ a ∧ a ≤ 5) (hb : 2 ≤ b ∧ b ≤ 5) (hc : 2 ≤ c ∧ c ≤ 5) (hd : 2 ≤ d ∧ d ≤ 5) :
    (pStr x == [UInt8.ofNat (48 + a), 45, UInt8.ofNat (48 + b), 45, UInt8.ofNat (48 + c), 45, UInt8.ofNat (48 + d)]) = is4 x a b c d := by
  obtain ⟨h1, h2, h3, h4⟩ := h
  have e : pStr x = num2 x.1 ++ (45 :: (num2 x.2.1 ++ (45 :: (num2 x.2.2.1 ++ (45 :: (num2 x.2.2.2 ++ [])))))) := by
    unfold pStr
    simp only [List.append_assoc, List.append_nil, List.cons_append, List.nil_append]
  rw [e, pk35 a _ ha.1 ha.2 h1, dash, pk35 b _ hb.1 hb.2 h2, dash, pk35 c _ hc.1 hc.2 h3, dash, pk35 d _ hd.1 hd.2 h4]
  unfold is4
  cases Nat.beq x.2.2.2 d <;> simp
noncomputable def tr35 (m : Nat) : Option AV := bif leI 0 (m : Int) && leI m 18446744073709551615 then bif leI 0 (m : Int) && leI m 18446744073709551615 then bif shut (rightN m) then bif shut (pStr (pat m)) == [52, 45, 51, 45, 51, 45, 51] then some (.bool true) else bif shut (pStr (pat m)) == [52, 45, 52, 45, 51, 45, 50] then some (.bool true) else some (.bool (shut (pStr (pat m)) == [53, 45, 51, 45, 51, 45, 50])) else some (.bool false) else none else none
theorem t35 (m : Nat) : callsM C12 noZ 60 35 [.int .u64 m] = tr35 m := by kernel_rfl
noncomputable def sRBal : List AV → T AV
  | [.int .u64 m] => .chk (leI 0 m && leI m 18446744073709551615) (.leaf (.bool (shut (balN m.toNat))))
  | _ => .fail
theorem iso35 : ∀ args v, (sRBal args).run = some v → callsM C12 noZ 60 35 args = some v := by
  intro args v hr
  unfold sRBal at hr
  split at hr
  · rename_i m
    obtain ⟨hc, hr2⟩ := T.of_chk hr
    clear hr
    have hc' := hc
    simp only [Bool.and_eq_true, leI_iff] at hc
    obtain ⟨m, rfl⟩ : ∃ n : Nat, m = n := ⟨m.toNat, by omega⟩
    rw [t35]
    unfold tr35
    rw [hc', cond_true, cond_true, shut_eq, shut_eq]
    have e1 := pStr_is (pat_le m) 4 3 3 3 (by omega) (by omega) (by omega) (by omega)
    have e2 := pStr_is (pat_le m) 4 4 3 2 (by omega) (by omega) (by omega) (by omega)
    have e3 := pStr_is (pat_le m) 5 3 3 2 (by omega) (by omega) (by omega) (by omega)
    rw [show [UInt8.ofNat (48 + 4), 45, UInt8.ofNat (48 + 3), 45, UInt8.ofNat (48 + 3), 45, UInt8.ofNat (48 + 3)] = [52, 45, 51, 45, 51, 45, 51] by decide] at e1
    rw [show [UInt8.ofNat (48 + 4), 45, UInt8.ofNat (48 + 4), 45, UInt8.ofNat (48 + 3), 45, UInt8.ofNat (48 + 2)] = [52, 45, 52, 45, 51, 45, 50] by decide] at e2
    rw [show [UInt8.ofNat (48 + 5), 45, UInt8.ofNat (48 + 3), 45, UInt8.ofNat (48 + 3), 45, UInt8.ofNat (48 + 2)] = [53, 45, 51, 45, 51, 45, 50] by decide] at e3
    rw [e1, e2, e3, ← Option.some.inj hr2, Int.toNat_natCast, shut_eq]
    unfold balN
    generalize is4 (pat m) 4 3 3 3 = u
    generalize is4 (pat m) 4 4 3 2 = v
    generalize is4 (pat m) 5 3 3 2 = w
    generalize rightN m = r
    cases r <;> cases u <;> cases v <;> cases w <;> rfl
  · simp [T.run] at hr
theorem sum35 : SumAt C12 (35, sRBal) := ⟨callsM_fn ok12 noZ12 (iso35 [.int .u64 0] _ rfl), fun args v hr => callsM_iso ok12 noZ12 (iso35 args v hr)⟩
noncomputable def tab13 : List (Nat × (List AV → T AV)) := [(35, sRBal)]
noncomputable def C13 : Ctx := withSum C12 tab13
theorem ok13c : Ok C13 := ok_with ok12 ⟨sum35, trivial⟩
theorem keepOk13 : ∀ f fd, C13.code f = some fd → fd.keep.Nodup := keepOk
theorem noZ13 : ZOk C13 noZ := noZ_ok keepOk13
end Go.Proofs.YtgellkpbcoeccaaDoor
