/- Chapter 5: Dealt as numbers; the context of the laws of deals. -/
import Derived.Test.YtgellkpbcoeccaaDoorDe5
import Derived.Test.YtgellkpbcoeccaaDoorTu4
namespace Go.Proofs.YtgellkpbcoeccaaDoor
open Go Go.Ev Go.Ev.Bits

def pw (c : Nat) : Int := IntKind.u64.wrap (1 * 2 ^ min c 64)
noncomputable def dC (ls : List AV) (j : Nat) : Nat := (shut (dealL (ls.map fun v => v.toI.toNat) 0 (List.range 52))).getD j 0
noncomputable def oqI (ls : List AV) (q : Nat) : Int := (List.range 13).foldl (fun a j => or64 a (pw (dC ls (13 * q + j)))) 0
noncomputable def aggM (ls : List AV) : AV := .agg [.int .u64 (oqI ls 0), .int .u64 (oqI ls 1), .int .u64 (oqI ls 2), .int .u64 (oqI ls 3)]
def hL (len : Nat) : Int := bif decide ((52 : Int) < (len : Int)) then 52 else (len : Int)
def lsT (len : Nat) (ls : List AV) : List AV := (ls.take ((hL len).toNat * 1)).drop (0 * 1)
noncomputable def c25 (len : Nat) (ls : List AV) : Bool := (((hL len).toNat - 0 : Nat) : Int) == (((hL len).toNat - 0 : Nat) : Int) && (true && (Nat.ble ((hL len).toNat - 0) 52 && (Nat.beq (lsT len ls).length ((hL len).toNat - 0) && ((lsT len ls).all u8B && true))))
theorem t25 (len : Nat) (ls : List AV) : callsM C6 Z25 200 25 [.ro false len ls] = bif true && Nat.beq ls.length (len * 1) && true && leI 0 (hL len) && leI (hL len) (len : Int) then bif Nat.beq 0 len then some (aggM []) else bif c25 len ls then some (aggM (lsT len ls)) else none else none := by kernel_rfl
theorem t25n : callsM C6 noZ 200 25 [.nils] = some (.agg [.int .u64 8191, .int .u64 67100672, .int .u64 549688705024, .int .u64 4503049871556608]) := by kernel_rfl
theorem hand_nil : hand [] 0 = 8191 ∧ hand [] 1 = 67100672 ∧ hand [] 2 = 549688705024 ∧ hand [] 3 = 4503049871556608 := by decide +kernel
theorem pw_eq (c : Nat) (hc : c < 52) : pw c = ((2 ^ c : Nat) : Int) := by
  have hp := pow_lt c hc
  unfold pw
  rw [show min c 64 = c by omega, u64w]
  have : (1 * 2 ^ c : Int) = ((2 ^ c : Nat) : Int) := by simp
  rw [this]
  generalize 2 ^ c = p at *
  omega
theorem fold_eq : ∀ (L : List Nat) (m : Nat), (∀ c ∈ L, c < 52) → m < 2 ^ 52 → L.foldl (fun a c => or64 a (pw c)) (m : Int) = ((orL L m : Nat) : Int)
  | [], _, _, _ => rfl
  | c :: L, m, hc, hm => by
    have hp := pow_lt c (hc c (by simp))
    show L.foldl _ (or64 (m : Int) (pw c)) = _
    rw [pw_eq c (hc c (by simp)), or64_nat m _ hm (by omega), fold_eq L _ (fun x hx => hc x (by simp [hx])) (Nat.or_lt_two_pow hm (by omega))]
    rfl
theorem oqI_eq (ls : List AV) (zs : List Nat) (h : ls.map (fun v => v.toI.toNat) = zs.take 52) (q : Nat) (hq : q < 4) : oqI ls q = (hand zs q : Nat) := by
  have e : oqI ls q = (Lq (ordN zs) q).foldl (fun a c => or64 a (pw c)) ((0 : Nat) : Int) := by
    unfold oqI Lq dC ordN
    rw [shut_eq, h, List.foldl_map]
    rfl
  rw [e, fold_eq _ _ (parts_ok zs q hq).2 (by omega)]
  rfl
noncomputable def aggH (zs : List Nat) : AV := .agg [.int .u64 (shut (hand zs 0) : Nat), .int .u64 (shut (hand zs 1) : Nat), .int .u64 (shut (hand zs 2) : Nat), .int .u64 (shut (hand zs 3) : Nat)]
theorem aggM_eq (ls : List AV) (zs : List Nat) (h : ls.map (fun v => v.toI.toNat) = zs.take 52) : aggM ls = aggH zs := by
  unfold aggM aggH
  rw [oqI_eq ls zs h 0 (by omega), oqI_eq ls zs h 1 (by omega), oqI_eq ls zs h 2 (by omega), oqI_eq ls zs h 3 (by omega)]
  simp only [shut_eq]
noncomputable def sDealt : List AV → T AV
  | [.nils] => .leaf (aggH [])
  | [.ro false len ls] => .chk (Nat.beq ls.length len && ls.all u8B) (.leaf (aggH (ls.map fun v => v.toI.toNat)))
  | _ => .fail
theorem ro_deal (ls : List AV) (hu : ls.all u8B = true) : callsM C6 Z25 200 25 [.ro false ls.length ls] = some (aggH (ls.map fun v => v.toI.toNat)) := by
  have hh : hL ls.length = ((min 52 ls.length : Nat) : Int) := by
    unfold hL
    by_cases h : (52 : Int) < (ls.length : Int)
    · rw [decide_eq_true h, cond_true]; omega
    · rw [decide_eq_false h, cond_false]; omega
  have hT : lsT ls.length ls = ls.take 52 := by
    unfold lsT
    rw [hh, Int.toNat_natCast, Nat.mul_one, Nat.mul_one, List.drop_zero]
    rcases Nat.le_total 52 ls.length with h | h
    · rw [Nat.min_eq_left h]
    · rw [Nat.min_eq_right h, List.take_of_length_le h, List.take_of_length_le (Nat.le_refl _)]
  rw [t25]
  have h1 : (true && Nat.beq ls.length (ls.length * 1) && true && leI 0 (hL ls.length) && leI (hL ls.length) (ls.length : Int)) = true := by
    rw [hh, Nat.mul_one, beq_iff'.2 rfl, leI_iff.2 (by omega), leI_iff.2 (by omega)]
    rfl
  rw [h1, cond_true]
  cases h0 : Nat.beq 0 ls.length
  · have h2 : c25 ls.length ls = true := by
      unfold c25
      rw [hT, hh, Int.toNat_natCast, Nat.sub_zero, Nat.ble_eq_true_of_le (by omega), show (ls.take 52).length = min 52 ls.length by simp, beq_iff'.2 rfl]
      have : (ls.take 52).all u8B = true := List.all_eq_true.2 fun x hx => List.all_eq_true.1 hu x (List.mem_of_mem_take hx)
      rw [this, beq_self_eq_true]
      rfl
    rw [cond_false, h2, cond_true, hT]
    exact congrArg some (aggM_eq _ _ (by rw [List.map_take]))
  · have : ls = [] := List.eq_nil_of_length_eq_zero (beq_iff'.1 h0).symm
    subst this
    rw [cond_true]
    exact congrArg some (aggM_eq [] [] rfl)
theorem nil_deal : callsM C6 noZ 200 25 [.nils] = some (aggH []) := by
  rw [t25n]
  obtain ⟨h0, h1, h2, h3⟩ := hand_nil
  unfold aggH
  simp only [shut_eq]
  rw [h0, h1, h2, h3]
  rfl
theorem sumDealt : SumAt C6 (25, sDealt) := by
  refine ⟨callsM_fn ok6 noZ6 nil_deal, fun args v hr => ?_⟩
  replace hr : (sDealt args).run = some v := hr
  show Iso C6 25 args v
  unfold sDealt at hr
  split at hr
  · cases Option.some.inj hr
    exact callsM_iso ok6 noZ6 nil_deal
  · rename_i len ls
    obtain ⟨hc, hr2⟩ := T.of_chk hr
    clear hr
    simp only [Bool.and_eq_true] at hc
    obtain ⟨h1, h2⟩ := hc
    have := beq_iff'.1 h1
    subst this
    cases Option.some.inj hr2
    exact callsM_iso ok6 z25 (ro_deal ls h2)
  · simp [T.run] at hr
noncomputable def tab8 : List (Nat × (List AV → T AV)) := [(25, sDealt)]
noncomputable def C8 : Ctx := withSum C7 tab8
theorem ok8 : Ok C8 := ok_with ok7 ⟨⟨sumDealt.1.at rfl, fun args v hr => (sumDealt.2 args v hr).at rfl rfl⟩, trivial⟩
theorem keepOk8 : ∀ f fd, C8.code f = some fd → fd.keep.Nodup := keepOk
theorem noZ8 : ZOk C8 noZ := noZ_ok keepOk8
end Go.Proofs.YtgellkpbcoeccaaDoor
