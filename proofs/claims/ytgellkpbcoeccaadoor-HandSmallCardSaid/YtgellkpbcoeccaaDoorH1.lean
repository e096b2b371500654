/- Chapter 5: what the small functions give. -/
import Derived.Test.YtgellkpbcoeccaaDoorCtx
import Derived.Test.YtgellkpbcoeccaaDoorA2
import Derived.Test.YtgellkpbcoeccaaDoorA2
import Derived.KernelRfl
namespace Go.Proofs.YtgellkpbcoeccaaDoor
open Go Go.Ev Go.Ev.Bits

def noZ : FuncId → Code → Option SumF := fun _ _ => none
theorem keepOk : ∀ f fd, C0.code f = some fd → fd.keep.Nodup := by
  intro f fd h
  have key : (fdTab.all fun p => nodupB p.2.keep) = true := by kernel_rfl
  have := List.all_eq_true.1 key _ (fdAt_mem (show fdAt fdTab f = some fd from h))
  exact nodupB_ok this
theorem noZ0 : ZOk C0 noZ := noZ_ok keepOk

/-- The cards of a suit. -/
def hd (n s : Nat) : Nat := n / 2 ^ (13 * s) % 8192
theorem hd_lt (n s : Nat) : hd n s < 8192 := Nat.mod_lt _ (by omega)

/-! ### Holding -/
theorem t24 (m s : Int) : callsM C0 noZ 60 24 [.int .u64 m, .int .u8 s] = bif decide (s > 3) then some (.int .u16 0) else bif decide (0 ≤ IntKind.u8.wrap (13 * s)) then
    some (.int .u16 (IntKind.u16.wrap (IntKind.u64.wrap ↑(BitVec.ofInt IntKind.u64.bits (m.fdiv (2 ^ min (IntKind.u8.wrap (13 * s)).toNat IntKind.u64.bits)) &&& BitVec.ofInt IntKind.u64.bits 8191).toNat))) else none := by kernel_rfl
noncomputable def sHold : List AV → T AV
  | [.int .u64 m, .int .u8 s] => .chk (leI 0 m && leI 0 s) (.leaf (.int .u16 ((bif leI s 3 then shut (hd m.toNat s.toNat) else 0 : Nat))))
  | _ => .fail
theorem leI_iff {a b : Int} : leI a b = true ↔ a ≤ b := by simp [leI]
theorem sHold_iso : ∀ args v, (sHold args).run = some v → callsM C0 noZ 60 24 args = some v := by
  intro args v hr
  unfold sHold at hr
  split at hr
  · rename_i m s
    obtain ⟨hc, hr⟩ := T.of_chk hr
    simp only [Bool.and_eq_true, leI_iff] at hc
    cases Option.some.inj hr
    rw [t24, shut_eq]
    by_cases h3 : s ≤ 3
    · rw [decide_eq_false (by omega : ¬ s > 3), cond_false, u8w, decide_eq_true (by omega : 0 ≤ 13 * s % 256), cond_true, leI_iff.2 h3, cond_true]
      have e1 : (13 * s % 256).toNat = 13 * s.toNat := by omega
      have e2 : min (13 * s.toNat) IntKind.u64.bits = 13 * s.toNat := by show min (13 * s.toNat) 64 = _; omega
      rw [e1, e2, fdiv_pos _ (by exact Int.le_of_lt (Int.pow_pos (by omega)))]
      have := and_mask 64 13 (by omega) (m / (2 ^ (13 * s.toNat)))
      rw [show IntKind.u64.bits = 64 from rfl, show (8191 : Int) = ((2 ^ 13 - 1 : Nat) : Int) from rfl, this, u16w, u64w]
      have e3 : m / (2 ^ (13 * s.toNat)) = ((m.toNat / 2 ^ (13 * s.toNat) : Nat) : Int) := by
        have : m = (m.toNat : Int) := by omega
        rw [this]; simp
      rw [e3]
      unfold hd
      congr 3
      omega
    · rw [decide_eq_true (by omega : s > 3), cond_true]
      have : leI s 3 = false := by simp [leI, h3]
      rw [this]; rfl
  · simp [T.run] at hr

/-! ### A rank -/
theorem t41 (h r : Int) : callsM C0 noZ 60 41 [.int .u16 h, .int .i64 r] = bif decide (0 ≤ r) then some (.bool (IntKind.u16.wrap ↑(BitVec.ofInt IntKind.u16.bits (h.fdiv (2 ^ min r.toNat IntKind.u16.bits)) &&& BitVec.ofInt IntKind.u16.bits 1).toNat == 1)) else none := by kernel_rfl
def hb (h r : Nat) : Bool := Nat.beq (h / 2 ^ r % 2) 1
noncomputable def sHas : List AV → T AV
  | [.int .u16 h, .int .i64 r] => .chk (leI 0 h && leI 0 r && leI r 15) (.leaf (.bool (shut (hb h.toNat r.toNat))))
  | _ => .fail
theorem sHas_iso : ∀ args v, (sHas args).run = some v → callsM C0 noZ 60 41 args = some v := by
  intro args v hr
  unfold sHas at hr
  split at hr
  · rename_i h r
    obtain ⟨hc, hr⟩ := T.of_chk hr
    simp only [Bool.and_eq_true, leI_iff] at hc
    cases Option.some.inj hr
    rw [shut_eq, t41, decide_eq_true (by omega : 0 ≤ r), cond_true]
    have e2 : min r.toNat IntKind.u16.bits = r.toNat := by show min r.toNat 16 = _; omega
    rw [e2, fdiv_pos _ (by exact Int.le_of_lt (Int.pow_pos (by omega)))]
    have := and_mask 16 1 (by omega) (h / (2 ^ r.toNat))
    rw [show IntKind.u16.bits = 16 from rfl, show (1 : Int) = ((2 ^ 1 - 1 : Nat) : Int) from rfl, this, u16w]
    have e3 : h / (2 ^ r.toNat) = ((h.toNat / 2 ^ r.toNat : Nat) : Int) := by
      have : h = (h.toNat : Int) := by omega
      rw [this]; simp
    rw [e3]
    unfold hb
    generalize h.toNat / 2 ^ r.toNat = x
    have e4 : ((x : Int) % ((2 ^ 1 : Nat) : Int) % 65536 == ((2 ^ 1 - 1 : Nat) : Int)) = Nat.beq (x % 2) 1 := by
      rcases Nat.mod_two_eq_zero_or_one x with e | e
      · rw [e, show (x : Int) % ((2 ^ 1 : Nat) : Int) % 65536 = 0 by omega]; rfl
      · rw [e, show (x : Int) % ((2 ^ 1 : Nat) : Int) % 65536 = 1 by omega]; rfl
    rw [e4]
  · simp [T.run] at hr

/-! ### How many -/
def pop8 : List UInt8 := [0, 1, 1, 2, 1, 2, 2, 3, 1, 2, 2, 3, 2, 3, 3, 4, 1, 2, 2, 3, 2, 3, 3, 4, 2, 3, 3, 4, 3, 4, 4, 5, 1, 2, 2, 3, 2, 3, 3, 4, 2, 3, 3, 4, 3, 4, 4, 5, 2, 3, 3, 4, 3, 4, 4, 5, 3, 4, 4, 5, 4, 5, 5, 6, 1, 2, 2, 3, 2, 3, 3, 4, 2, 3, 3, 4, 3, 4, 4, 5, 2, 3, 3, 4, 3, 4, 4, 5, 3, 4, 4, 5, 4, 5, 5, 6, 2, 3, 3, 4, 3, 4, 4, 5, 3, 4, 4, 5, 4, 5, 5, 6, 3, 4, 4, 5, 4, 5, 5, 6, 4, 5, 5, 6, 5, 6, 6, 7, 1, 2, 2, 3, 2, 3, 3, 4, 2, 3, 3, 4, 3, 4, 4, 5, 2, 3, 3, 4, 3, 4, 4, 5, 3, 4, 4, 5, 4, 5, 5, 6, 2, 3, 3, 4, 3, 4, 4, 5, 3, 4, 4, 5, 4, 5, 5, 6, 3, 4, 4, 5, 4, 5, 5, 6, 4, 5, 5, 6, 5, 6, 6, 7, 2, 3, 3, 4, 3, 4, 4, 5, 3, 4, 4, 5, 4, 5, 5, 6, 3, 4, 4, 5, 4, 5, 5, 6, 4, 5, 5, 6, 5, 6, 6, 7, 3, 4, 4, 5, 4, 5, 5, 6, 4, 5, 5, 6, 5, 6, 6, 7, 4, 5, 5, 6, 5, 6, 6, 7, 5, 6, 6, 7, 6, 7, 7, 8]
theorem pop8_eq : ∀ i, i < 256 → (pop8.getD i 0).toNat = bc 8 i := forall_lt 256 (by decide +kernel)
def loB (h : Int) : Int := IntKind.u16.wrap ↑(BitVec.ofInt IntKind.u16.bits h &&& BitVec.ofInt IntKind.u16.bits 255).toNat
theorem t53 (h : Int) : callsM C0 noZ 60 53 [.int .u16 h] = bif true && leI 0 (h.fdiv 256) && decide (h.fdiv 256 < 256) then bif true && leI 0 (loB h) && decide (loB h < 256) then
    some (.int .i64 (IntKind.i64.wrap (IntKind.u8.wrap (((pop8.getD (h.fdiv 256).toNat 0).toNat : Int) + ((pop8.getD (loB h).toNat 0).toNat : Int))))) else none else none := by kernel_rfl
noncomputable def sOnes16 : List AV → T AV
  | [.int .u16 h] => .chk (leI 0 h && leI h 65535) (.leaf (.int .i64 (shut (bc 16 h.toNat) : Nat)))
  | _ => .fail
theorem sOnes16_iso : ∀ args v, (sOnes16 args).run = some v → callsM C0 noZ 60 53 args = some v := by
  intro args v hr
  unfold sOnes16 at hr
  split at hr
  · rename_i h
    obtain ⟨hc, hr⟩ := T.of_chk hr
    simp only [Bool.and_eq_true, leI_iff] at hc
    cases Option.some.inj hr
    rw [shut_eq]
    have hl : loB h = h % 256 := by
      unfold loB
      rw [show IntKind.u16.bits = 16 from rfl, show (255 : Int) = ((2 ^ 8 - 1 : Nat) : Int) from rfl, and_mask 16 8 (by omega), u16w]
      omega
    rw [t53, hl, fdiv_pos _ (by omega), leI_iff.2 (by omega : 0 ≤ h / 256), leI_iff.2 (by omega : 0 ≤ h % 256), decide_eq_true (by omega : h / 256 < 256), decide_eq_true (by omega : h % 256 < 256)]
    simp only [Bool.and_self, cond_true]
    obtain ⟨n, rfl⟩ : ∃ n : Nat, h = n := ⟨h.toNat, by omega⟩
    have a1 := pop8_eq (n / 256) (by omega)
    have a2 := pop8_eq (n % 256) (by omega)
    rw [show ((n : Int) / 256).toNat = n / 256 by omega, show ((n : Int) % 256).toNat = n % 256 by omega, a1, a2, Int.toNat_natCast, show (16 : Nat) = 8 + 8 from rfl, bc_add 8 8 n, u8w]
    have e1 : bc 8 (n % 256) = bc 8 n := bc_mod 8 8 n (Nat.le_refl _)
    have l1 := bc_le 8 (n / 256)
    have l2 := bc_le 8 n
    rw [e1, i64w (by omega)]
    show some (AV.int .i64 _) = some (AV.int .i64 _)
    rw [show (2 : Nat) ^ 8 = 256 from rfl]
    congr 2
    omega
  · simp [T.run] at hr

theorem t45 (m : Int) : callsM C0 noZ 60 45 [.int .u64 m] =
    (let and64 (a b : Int) : Int := IntKind.u64.wrap ↑(BitVec.ofInt IntKind.u64.bits a &&& BitVec.ofInt IntKind.u64.bits b).toNat
     let add64 (a b : Int) : Int := IntKind.u64.wrap (a + b)
     let x1 := add64 (and64 (m.fdiv (2 ^ min (Int.toNat 1) IntKind.u64.bits)) 6148914691236517205) (and64 m 6148914691236517205)
     let x2 := add64 (and64 (x1.fdiv (2 ^ min (Int.toNat 2) IntKind.u64.bits)) 3689348814741910323) (and64 x1 3689348814741910323)
     let x3 := and64 (add64 (x2.fdiv (2 ^ min (Int.toNat 4) IntKind.u64.bits)) x2) 1085102592571150095
     let x4 := add64 x3 (x3.fdiv (2 ^ min (Int.toNat 8) IntKind.u64.bits))
     let x5 := add64 x4 (x4.fdiv (2 ^ min (Int.toNat 16) IntKind.u64.bits))
     let x6 := add64 x5 (x5.fdiv (2 ^ min (Int.toNat 32) IntKind.u64.bits))
     some (.int .i64 (IntKind.i64.wrap ↑(BitVec.ofInt IntKind.i64.bits (IntKind.i64.wrap x6) &&& BitVec.ofInt IntKind.i64.bits 127).toNat))) := by kernel_rfl
end Go.Proofs.YtgellkpbcoeccaaDoor
