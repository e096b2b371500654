/- Chapter 5: counting the ones of 64 bits; the first context. -/
import Derived.Test.YtgellkpbcoeccaaDoorH1
namespace Go.Proofs.YtgellkpbcoeccaaDoor
open Go Go.Ev Go.Ev.Bits

def and64 (a b : Int) : Int := IntKind.u64.wrap ↑(BitVec.ofInt IntKind.u64.bits a &&& BitVec.ofInt IntKind.u64.bits b).toNat
theorem and64_nat (a b : Nat) (ha : a < 18446744073709551616) (hb : b < 18446744073709551616) : and64 a b = ((a &&& b : Nat) : Int) := by
  unfold and64
  rw [show IntKind.u64.bits = 64 from rfl, and_nat 64 a b ha hb, u64w]
  have := Nat.and_le_right (n := a) (m := b)
  omega
theorem add64_nat (a b : Nat) (h : a + b < 18446744073709551616) : IntKind.u64.wrap ((a : Int) + (b : Int)) = ((a + b : Nat) : Int) := by
  rw [u64w]; omega
theorem sh64 (a : Nat) (k : Nat) : (a : Int).fdiv ((k : Nat) : Int) = ((a / k : Nat) : Int) := fdiv_nat a k
theorem e45 (n : Nat) (h : n < 18446744073709551616) : callsM C0 noZ 60 45 [.int .u64 n] = some (.int .i64 (bc 64 n : Nat)) := by
  rw [t45]
  show (let x1 := IntKind.u64.wrap (and64 ((n : Int).fdiv ((2 : Nat) : Int)) ((6148914691236517205 : Nat) : Int) + and64 n ((6148914691236517205 : Nat) : Int))
     let x2 := IntKind.u64.wrap (and64 (x1.fdiv ((4 : Nat) : Int)) ((3689348814741910323 : Nat) : Int) + and64 x1 ((3689348814741910323 : Nat) : Int))
     let x3 := and64 (IntKind.u64.wrap (x2.fdiv ((16 : Nat) : Int) + x2)) ((1085102592571150095 : Nat) : Int)
     let x4 := IntKind.u64.wrap (x3 + x3.fdiv ((256 : Nat) : Int))
     let x5 := IntKind.u64.wrap (x4 + x4.fdiv ((65536 : Nat) : Int))
     let x6 := IntKind.u64.wrap (x5 + x5.fdiv ((4294967296 : Nat) : Int))
     some (AV.int .i64 (IntKind.i64.wrap ↑(BitVec.ofInt IntKind.i64.bits (IntKind.i64.wrap x6) &&& BitVec.ofInt IntKind.i64.bits 127).toNat))) = _
  obtain ⟨b1, b2, b3⟩ := oc_le n h
  have ho := ones n h
  have a1 : IntKind.u64.wrap (and64 ((n : Int).fdiv ((2 : Nat) : Int)) ((6148914691236517205 : Nat) : Int) + and64 n ((6148914691236517205 : Nat) : Int)) = ((oc1 n : Nat) : Int) := by
    rw [sh64, and64_nat _ _ (by omega) (by omega), and64_nat _ _ h (by omega), add64_nat _ _ b1]; rfl
  have a2 : IntKind.u64.wrap (and64 (((oc1 n : Nat) : Int).fdiv ((4 : Nat) : Int)) ((3689348814741910323 : Nat) : Int) + and64 ((oc1 n : Nat) : Int) ((3689348814741910323 : Nat) : Int)) = ((oc2 (oc1 n) : Nat) : Int) := by
    rw [sh64, and64_nat _ _ (by omega) (by omega), and64_nat _ _ b1 (by omega), add64_nat _ _ b2]; rfl
  have hx : oc2 (oc1 n) / 16 + oc2 (oc1 n) < 18446744073709551616 := by
    have h1 := Nat.and_le_right (n := oc1 n / 4) (m := 3689348814741910323)
    have h2 := Nat.and_le_right (n := oc1 n) (m := 3689348814741910323)
    unfold oc2; omega
  have a3 : and64 (IntKind.u64.wrap (((oc2 (oc1 n) : Nat) : Int).fdiv ((16 : Nat) : Int) + ((oc2 (oc1 n) : Nat) : Int))) ((1085102592571150095 : Nat) : Int) = ((oc3 (oc2 (oc1 n)) : Nat) : Int) := by
    rw [sh64, add64_nat _ _ hx, and64_nat _ _ hx (by omega)]; rfl
  simp only [a1, a2, a3]
  generalize oc3 (oc2 (oc1 n)) = y at *
  rw [sh64, add64_nat _ _ (by omega), sh64, add64_nat _ _ (by omega), sh64, add64_nat _ _ (by omega)]
  rw [i64w (n := ((y + y / 256 + (y + y / 256) / 65536 + (y + y / 256 + (y + y / 256) / 65536) / 4294967296 : Nat) : Int)) (by omega)]
  have := and_mask 64 7 (by omega) ((y + y / 256 + (y + y / 256) / 65536 + (y + y / 256 + (y + y / 256) / 65536) / 4294967296 : Nat) : Int)
  rw [show IntKind.i64.bits = 64 from rfl, show (127 : Int) = ((2 ^ 7 - 1 : Nat) : Int) from rfl, this, ← Int.natCast_emod, show 2 ^ 7 = 128 from rfl, ho, i64w (by have := bc_le 64 n; omega)]
noncomputable def sOnes64 : List AV → T AV
  | [.int .u64 m] => .chk (leI 0 m && leI m 18446744073709551615) (.leaf (.int .i64 (shut (bc 64 m.toNat) : Nat)))
  | _ => .fail
theorem sOnes64_iso : ∀ args v, (sOnes64 args).run = some v → callsM C0 noZ 60 45 args = some v := by
  intro args v hr
  unfold sOnes64 at hr
  split at hr
  · rename_i m
    obtain ⟨hc, hr⟩ := T.of_chk hr
    simp only [Bool.and_eq_true, leI_iff] at hc
    cases Option.some.inj hr
    rw [shut_eq]
    obtain ⟨n, rfl⟩ : ∃ n : Nat, m = n := ⟨m.toNat, by omega⟩
    exact e45 n (by omega)
  · simp [T.run] at hr

theorem sumM {f : FuncId} {F : List AV → T AV} {n : Nat} {args0 : List AV} {v0 : AV} (h0 : callsM C0 noZ n f args0 = some v0) (h : ∀ args v, (F args).run = some v → callsM C0 noZ n f args = some v) : SumAt C0 (f, F) :=
  ⟨callsM_fn ok0 noZ0 h0, fun args v hr => callsM_iso ok0 noZ0 (h args v hr)⟩
theorem allEq {α β : Type} {f g : α → β} {l : List α} (h : l.map f = l.map g) : ∀ x ∈ l, f x = g x := List.map_inj_left.1 h
theorem dig1 : (List.range 14).map (fun k => callsM C0 noZ 60 44 [.int .i64 ((k : Nat) : Int)]) = (List.range 14).map (fun k => some (.str (num2 k))) := by kernel_rfl
theorem dig2 : (List.range 14).map (fun k => callsM C0 noZ 60 51 [.int .i64 ((k : Nat) : Int)]) = (List.range 14).map (fun k => some (.str (num2 k))) := by kernel_rfl
noncomputable def sDig : List AV → T AV
  | [.int .i64 m] => .chk (leI 0 m && leI m 13) (.leaf (.str (shut (num2 m.toNat))))
  | _ => .fail
theorem sDig_iso {f : FuncId} (h : (List.range 14).map (fun k => callsM C0 noZ 60 f [.int .i64 ((k : Nat) : Int)]) = (List.range 14).map (fun k => some (.str (num2 k)))) : ∀ args v, (sDig args).run = some v → callsM C0 noZ 60 f args = some v := by
  intro args v hr
  unfold sDig at hr
  split at hr
  · rename_i m
    obtain ⟨hc, hr⟩ := T.of_chk hr
    simp only [Bool.and_eq_true, leI_iff] at hc
    cases Option.some.inj hr
    rw [shut_eq]
    obtain ⟨n, rfl⟩ : ∃ n : Nat, m = n := ⟨m.toNat, by omega⟩
    exact allEq h n (List.mem_range.2 (by omega))
  · simp [T.run] at hr
noncomputable def tab1 : List (Nat × (List AV → T AV)) := [(24, sHold), (41, sHas), (53, sOnes16), (45, sOnes64), (44, sDig), (51, sDig)]
theorem allTab1 : AllL (SumAt C0) tab1 :=
  ⟨sumM (t24 0 0) sHold_iso, sumM (t41 0 0) sHas_iso, sumM (sOnes16_iso [.int .u16 0] _ rfl) sOnes16_iso, sumM (e45 0 (by omega)) sOnes64_iso, sumM (sDig_iso dig1 [.int .i64 0] _ rfl) (sDig_iso dig1), sumM (sDig_iso dig2 [.int .i64 0] _ rfl) (sDig_iso dig2), trivial⟩
noncomputable def C1 : Ctx := withSum C0 tab1
theorem ok1 : Ok C1 := ok_with ok0 allTab1
end Go.Proofs.YtgellkpbcoeccaaDoor
