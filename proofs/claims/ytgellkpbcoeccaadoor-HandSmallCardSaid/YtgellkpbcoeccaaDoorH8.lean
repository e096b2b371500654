/- Chapter 5: texts of patterns, balanced hands; the context of the laws. -/
import Derived.Test.YtgellkpbcoeccaaDoorH7
import Derived.Test.YtgellkpbcoeccaaDoorAw
namespace Go.Proofs.YtgellkpbcoeccaaDoor
open Go Go.Ev Go.Ev.Bits

noncomputable def ok13 (a : Nat) : Bool := leI 0 (a : Int) && leI (a : Int) 13
noncomputable def sh2 (a : Nat) : List UInt8 := shut (num2 a)
noncomputable def lenOk (s t : List UInt8) (k : Option AV) : Option AV := bif Nat.ble (s.length + t.length) 9223372036854775807 then k else none
noncomputable def tr20 (a b c d : Nat) : Option AV :=
  bif ok13 a then lenOk [] (sh2 a) (lenOk ([] ++ sh2 a) [45] (
  bif ok13 b then lenOk ([] ++ sh2 a ++ [45]) (sh2 b) (lenOk ([] ++ sh2 a ++ [45] ++ sh2 b) [45] (
  bif ok13 c then lenOk ([] ++ sh2 a ++ [45] ++ sh2 b ++ [45]) (sh2 c) (lenOk ([] ++ sh2 a ++ [45] ++ sh2 b ++ [45] ++ sh2 c) [45] (
  bif ok13 d then lenOk ([] ++ sh2 a ++ [45] ++ sh2 b ++ [45] ++ sh2 c ++ [45]) (sh2 d) (
    some (.str ([] ++ sh2 a ++ [45] ++ sh2 b ++ [45] ++ sh2 c ++ [45] ++ sh2 d))) else none)) else none)) else none)) else none
theorem t20 (n : Nat) : callsM C5 Z2 100 20 [.int .u64 n] = tr20 (shut (pat n).1) (shut (pat n).2.1) (shut (pat n).2.2.1) (shut (pat n).2.2.2) := by kernel_rfl
def pStr (x : Nat × Nat × Nat × Nat) : List UInt8 := num2 x.1 ++ [45] ++ num2 x.2.1 ++ [45] ++ num2 x.2.2.1 ++ [45] ++ num2 x.2.2.2
theorem num2_len (n : Nat) : (num2 n).length ≤ 2 := by
  unfold num2
  cases Nat.ble 10 n <;> simp
theorem tr20_eq {x : Nat × Nat × Nat × Nat} (ha : x.1 ≤ 13) (hb' : x.2.1 ≤ 13) (hc : x.2.2.1 ≤ 13) (hd' : x.2.2.2 ≤ 13) : tr20 x.1 x.2.1 x.2.2.1 x.2.2.2 = some (.str (pStr x)) := by
  have k (a : Nat) (h : a ≤ 13) : ok13 a = true := by
    unfold ok13
    rw [leI_iff.2 (by omega), leI_iff.2 (by omega)]; rfl
  have l0 := num2_len x.1
  have l1 := num2_len x.2.1
  have l2 := num2_len x.2.2.1
  have l3 := num2_len x.2.2.2
  have le (s t : List UInt8) (o : Option AV) (h : s.length + t.length ≤ 100) : lenOk s t o = o := by
    unfold lenOk
    rw [Nat.ble_eq_true_of_le (by omega), cond_true]
  unfold tr20 sh2
  simp only [shut_eq, k _ ha, k _ hb', k _ hc, k _ hd', cond_true, List.nil_append]
  rw [le, le, le, le, le, le, le]
  · rfl
  all_goals (simp only [List.length_append, List.length_cons, List.length_nil]; omega)
theorem so_all {α β : Type} (p : α → Prop) (Q : β → Prop) (lt : α → α → Bool) (k : α → α → α → α → β) {a b c d : α} (ha : p a) (hb' : p b) (hc : p c) (hd' : p d) (h : ∀ a b c d, p a → p b → p c → p d → Q (k a b c d)) : Q (so lt k a b c d) := by
  have e (b : Bool) (x y : β) (hx : Q x) (hy : Q y) : Q (bif b then x else y) := by cases b <;> assumption
  have s3 (a b c d : α) (ha : p a) (hb : p b) (hc : p c) (hd : p d) : Q (so3 lt k a b c d) :=
    e _ _ _ (e _ _ _ (e _ _ _ (h _ _ _ _ hd ha hb hc) (h _ _ _ _ ha hd hb hc)) (h _ _ _ _ ha hb hd hc)) (h _ _ _ _ ha hb hc hd)
  have s2 (a b c d : α) (ha : p a) (hb : p b) (hc : p c) (hd : p d) : Q (so2 lt (so3 lt k) a b c d) :=
    e _ _ _ (e _ _ _ (s3 _ _ _ _ hc ha hb hd) (s3 _ _ _ _ ha hc hb hd)) (s3 _ _ _ _ ha hb hc hd)
  exact e _ _ _ (s2 _ _ _ _ hb' ha hc hd') (s2 _ _ _ _ ha hb' hc hd')
def le13 (x : Nat × Nat × Nat × Nat) : Prop := x.1 ≤ 13 ∧ x.2.1 ≤ 13 ∧ x.2.2.1 ≤ 13 ∧ x.2.2.2 ≤ 13
theorem pat_le (n : Nat) : le13 (pat n) := by
  unfold pat
  exact so_all (fun x => x ≤ 13) le13 _ four (ln_le n 0) (ln_le n 1) (ln_le n 2) (ln_le n 3) (fun a b c d h1 h2 h3 h4 => ⟨h1, h2, h3, h4⟩)
theorem e20 (n : Nat) : callsM C5 Z2 100 20 [.int .u64 n] = some (.str (pStr (pat n))) := by
  rw [t20]
  simp only [shut_eq]
  obtain ⟨h1, h2, h3, h4⟩ := pat_le n
  exact tr20_eq h1 h2 h3 h4
noncomputable def sPattern : List AV → T AV
  | [.int .u64 m] => .chk (leI 0 m) (.leaf (.str (shut (pStr (pat m.toNat)))))
  | _ => .fail
theorem sPattern_iso : ∀ args v, (sPattern args).run = some v → callsM C5 Z2 100 20 args = some v := by
  intro args v hr
  unfold sPattern at hr
  split at hr
  · rename_i m
    obtain ⟨hc, hr⟩ := T.of_chk hr
    simp only [leI_iff] at hc
    cases Option.some.inj hr
    obtain ⟨n, rfl⟩ : ∃ n : Nat, m = n := ⟨m.toNat, by omega⟩
    rw [e20, shut_eq]
    rfl
  · simp [T.run] at hr

/-! ### Balanced -/
noncomputable def eqI (a : Nat) (k : Int) : Bool := (a : Int) == k
noncomputable def tr21 (r : Bool) (a b c d : Nat) : Option AV := bif r then bif eqI a 4 && (eqI b 3 && (eqI c 3 && (eqI d 3 && true))) then some (.bool true) else bif eqI a 4 && (eqI b 4 && (eqI c 3 && (eqI d 2 && true))) then some (.bool true) else some (.bool (eqI a 5 && (eqI b 3 && (eqI c 3 && (eqI d 2 && true))))) else some (.bool false)
theorem t21 (n : Nat) : callsM C5 Z2 100 21 [.int .u64 n] = bif leI 0 n && leI n 18446744073709551615 then tr21 (shut (rightN n)) (shut (pat n).1) (shut (pat n).2.1) (shut (pat n).2.2.1) (shut (pat n).2.2.2) else none := by kernel_rfl
def is4 (x : Nat × Nat × Nat × Nat) (a b c d : Nat) : Bool := Nat.beq x.1 a && (Nat.beq x.2.1 b && (Nat.beq x.2.2.1 c && Nat.beq x.2.2.2 d))
def balN (n : Nat) : Bool := rightN n && (is4 (pat n) 4 3 3 3 || (is4 (pat n) 4 4 3 2 || is4 (pat n) 5 3 3 2))
theorem tr21_eq (r : Bool) (x : Nat × Nat × Nat × Nat) : tr21 r x.1 x.2.1 x.2.2.1 x.2.2.2 = some (.bool (r && (is4 x 4 3 3 3 || (is4 x 4 4 3 2 || is4 x 5 3 3 2)))) := by
  have e (a k : Nat) : eqI a (k : Nat) = Nat.beq a k := beq_nat a k
  unfold tr21 is4
  have e2 (a : Nat) : eqI a 2 = Nat.beq a 2 := e a 2
  have e3 (a : Nat) : eqI a 3 = Nat.beq a 3 := e a 3
  have e4 (a : Nat) : eqI a 4 = Nat.beq a 4 := e a 4
  have e5 (a : Nat) : eqI a 5 = Nat.beq a 5 := e a 5
  simp only [e2, e3, e4, e5, Bool.and_true]
  cases r
  · rfl
  · rw [cond_true, Bool.true_and]
    generalize (Nat.beq x.1 4 && (Nat.beq x.2.1 3 && (Nat.beq x.2.2.1 3 && Nat.beq x.2.2.2 3))) = u
    generalize (Nat.beq x.1 4 && (Nat.beq x.2.1 4 && (Nat.beq x.2.2.1 3 && Nat.beq x.2.2.2 2))) = v
    cases u <;> cases v <;> rfl
noncomputable def sBal : List AV → T AV
  | [.int .u64 m] => .chk (leI 0 m && leI m 18446744073709551615) (.leaf (.bool (shut (balN m.toNat))))
  | _ => .fail
theorem sBal_iso : ∀ args v, (sBal args).run = some v → callsM C5 Z2 100 21 args = some v := by
  intro args v hr
  unfold sBal at hr
  split at hr
  · rename_i m
    obtain ⟨hc, hr⟩ := T.of_chk hr
    have hc' := hc
    simp only [Bool.and_eq_true, leI_iff] at hc
    cases Option.some.inj hr
    obtain ⟨n, rfl⟩ : ∃ n : Nat, m = n := ⟨m.toNat, by omega⟩
    rw [t21, hc', cond_true, shut_eq]
    simp only [shut_eq]
    rw [tr21_eq]
    rfl
  · simp [T.run] at hr
theorem sumM5 {f : FuncId} {F : List AV → T AV} {n : Nat} {args0 : List AV} {v0 : AV} (h0 : callsM C5 Z2 n f args0 = some v0) (h : ∀ args v, (F args).run = some v → callsM C5 Z2 n f args = some v) : SumAt C5 (f, F) :=
  ⟨callsM_fn ok5 z5 h0, fun args v hr => callsM_iso ok5 z5 (h args v hr)⟩
def sAwake : List AV → T AV
  | [] => .leaf (.bool true)
  | _ => .fail
theorem sumAwake : SumAt C5 (14, sAwake) := by
  refine ⟨(callsM_fn ok0 noZ0 awakeT).at rfl, fun args v hr => ?_⟩
  replace hr : (sAwake args).run = some v := hr
  show Iso C5 14 args v
  unfold sAwake at hr
  split at hr
  · cases Option.some.inj hr
    exact (callsM_iso ok0 noZ0 awakeT).at rfl rfl
  · simp [T.run] at hr
noncomputable def tab6 : List (Nat × (List AV → T AV)) := [(20, sPattern), (21, sBal), (14, sAwake)]
theorem allTab6 : AllL (SumAt C5) tab6 := ⟨sumM5 (e20 0) sPattern_iso, sumM5 (sBal_iso [.int .u64 0] _ rfl) sBal_iso, sumAwake, trivial⟩
noncomputable def C6 : Ctx := withSum C5 tab6
theorem ok6 : Ok C6 := ok_with ok5 allTab6
theorem z6 : ZOk C6 Z2 := z5.at rfl rfl rfl
end Go.Proofs.YtgellkpbcoeccaaDoor
