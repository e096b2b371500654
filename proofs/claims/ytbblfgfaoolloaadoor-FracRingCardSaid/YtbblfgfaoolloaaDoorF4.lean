/- Chapter 1: long division as a summary. -/
import Derived.Test.YtbblfgfaoolloaaDoorF3
namespace Go.Proofs.YtbblfgfaoolloaaDoor
open Go Go.Ev Go.Ev.Bits

theorem ovQ_lt (r0 x d k : Nat) (hr : r0 < d) (hx : x < 2 ^ 64) (hk : k ≤ 64) : ovQ r0 x d k < 2 ^ 64 := by
  unfold ovQ ovV
  have hd : 0 < d := by omega
  have e : (2 : Nat) ^ 64 = 2 ^ (64 - k) * 2 ^ k := by rw [← Nat.pow_add]; congr 1; omega
  have hp : 0 < 2 ^ k := Nat.two_pow_pos k
  have h1 : x / 2 ^ k < 2 ^ (64 - k) := by
    rw [Nat.div_lt_iff_lt_mul hp, ← e]; exact hx
  have h2 : (r0 * 2 ^ (64 - k) + x / 2 ^ k) / d < 2 ^ (64 - k) := by
    rw [Nat.div_lt_iff_lt_mul hd]
    have : (r0 + 1) * 2 ^ (64 - k) ≤ d * 2 ^ (64 - k) := Nat.mul_le_mul_right _ hr
    rw [Nat.mul_comm (2 ^ (64 - k)) d]
    rw [Nat.add_mul] at this
    omega
  rw [e]
  exact Nat.mul_lt_mul_of_pos_right h2 hp
theorem xI_eq (x k r : Nat) (hk : k < 64) (hr : r < 2 ^ 63) : xI x k r = ((2 * r + x / 2 ^ k % 2 : Nat) : Int) := by
  unfold xI
  have e1 : IntKind.u64.wrap ((r : Int) * 2 ^ min (Int.toNat 1) IntKind.u64.bits) = ((2 * r : Nat) : Int) := by
    show IntKind.u64.wrap ((r : Int) * 2) = _
    rw [u64w]; omega
  have e2 : (x : Int).fdiv (2 ^ min k IntKind.u64.bits) = ((x / 2 ^ k : Nat) : Int) := by
    rw [show min k IntKind.u64.bits = k from Nat.min_eq_left (show k ≤ 64 by omega), ← fdiv_nat]
    congr 1
  have e3 : ((BitVec.ofInt IntKind.u64.bits ((x / 2 ^ k : Nat) : Int) &&& BitVec.ofInt IntKind.u64.bits 1).toNat : Int) = ((x / 2 ^ k % 2 : Nat) : Int) :=
    (and_mask 64 1 (by omega) _).trans (by rw [Int.natCast_emod])
  have h2 : x / 2 ^ k % 2 < 2 := Nat.mod_lt _ (by omega)
  rw [e1, e2, e3]
  generalize x / 2 ^ k % 2 = t at *
  have e4 : IntKind.u64.wrap ((t : Nat) : Int) = (t : Int) := by rw [u64w]; omega
  rw [e4, or_nat IntKind.u64.bits (2 * r) t (show 2 * r < 2 ^ 64 by omega) (show t < 2 ^ 64 by omega)]
  have e5 : 2 * r ||| t = 2 * r + t := (Nat.two_pow_add_eq_or_of_lt (i := 1) h2 r).symm
  rw [e5, u64w]; omega
theorem qI_eq (z k : Nat) (hk : k < 64) (h : z * 2 ^ (k + 1) + 2 ^ k < 2 ^ 64) : qI ((z * 2 ^ (k + 1) : Nat) : Int) k = ((z * 2 ^ (k + 1) + 2 ^ k : Nat) : Int) := by
  unfold qI
  have e2 : IntKind.u64.wrap (1 * 2 ^ min k IntKind.u64.bits) = ((2 ^ k : Nat) : Int) := by
    rw [show min k IntKind.u64.bits = k from Nat.min_eq_left (show k ≤ 64 by omega), Int.one_mul]
    have : (2 : Int) ^ k = ((2 ^ k : Nat) : Int) := (Int.natCast_pow 2 k).symm
    rw [this, u64w]
    generalize 2 ^ k = y at *
    omega
  rw [e2]
  clear e2
  rw [or_nat IntKind.u64.bits _ _ (Nat.lt_of_le_of_lt (Nat.le_add_right _ _) h) (Nat.lt_of_le_of_lt (Nat.le_add_left _ _) h), or_bit, u64w]
  generalize z * 2 ^ (k + 1) + 2 ^ k = y at *
  omega
theorem ge_ble (l t : Nat) : decide ((l : Int) ≥ (t : Nat)) = Nat.ble t l := by
  cases h : Nat.ble t l
  · refine decide_eq_false fun h2 => ?_
    have := Nat.ble_eq_true_of_le (show t ≤ l by omega)
    rw [this] at h; cases h
  · have := Nat.le_of_ble_eq_true h; exact decide_eq_true (by omega)
/-- One bit. -/
theorem bit42 {α : Type} (r0 x d k : Nat) (hr0 : r0 < d) (hd : d ≤ 2 ^ 63) (hx : x < 2 ^ 64) (hk : k < 64) (F : Int → Int → α) :
    (bif decide (xI x k (ovR r0 x d (k + 1) : Nat) ≥ (d : Int)) then F (IntKind.u64.wrap (xI x k (ovR r0 x d (k + 1) : Nat) - d)) (qI (ovQ r0 x d (k + 1) : Nat) k) else F (xI x k (ovR r0 x d (k + 1) : Nat)) (ovQ r0 x d (k + 1) : Nat)) = F (ovR r0 x d k : Nat) (ovQ r0 x d k : Nat) := by
  have hd0 : 0 < d := by omega
  have hl := ovR_lt r0 x d (k + 1) hd0
  have hl2 := ovR_lt r0 x d k hd0
  have hq := ovQ_lt r0 x d k hr0 hx (by omega)
  rw [xI_eq x k _ hk (by omega), ge_ble, ovR_step r0 x d k hk hd0]
  rw [ovQ_step r0 x d k hk hd0] at hq ⊢
  have eq : ovQ r0 x d (k + 1) = ovV r0 x (k + 1) / d * 2 ^ (k + 1) := rfl
  cases hb : Nat.ble d (2 * ovR r0 x d (k + 1) + x / 2 ^ k % 2)
  · simp only [cond_false, Nat.add_zero]
  · have hle := Nat.le_of_ble_eq_true hb
    rw [hb, cond_true] at hq
    rw [cond_true, cond_true, cond_true]
    rw [eq] at hq ⊢
    rw [qI_eq _ k hk hq]
    have ht : x / 2 ^ k % 2 < 2 := Nat.mod_lt _ (by omega)
    generalize ovR r0 x d (k + 1) = r at *
    generalize x / 2 ^ k % 2 = t at *
    have e : IntKind.u64.wrap (((2 * r + t : Nat) : Int) - d) = ((2 * r + t - d : Nat) : Int) := by rw [u64w]; omega
    rw [e]
section
variable (a b d : Nat) (ha : a < 2 ^ 64) (hb : b < 2 ^ 64) (hd0 : 0 < d) (hd : d ≤ 2 ^ 63)
include hb hd0 hd
theorem loopH42 (q : X × List AV × Heap) (hq : Lp C0 fd42 bod42_0 (fr42 a b d (ovR 0 b d 0 : Nat) 63) (H42 a b 0 (ovQ 0 b d 0 : Nat)) q) : Lp C0 fd42 bod42_0 (fr42 a b d 0 127) (H42 a b 0 0) q := by
  have k := Lp.count (C := C0) (fd := fd42) (b := bod42_0) (q := q) (S := fun j => (fr42 a b d (ovR 0 b d (64 - j) : Nat) (127 - (j : Int)), H42 a b 0 (ovQ 0 b d (64 - j) : Nat))) (N := 64) (fun j hj => ?_) ?_ 0 (by omega)
  · have e1 : ovV 0 b 64 = 0 := by unfold ovV; rw [Nat.zero_mul, Nat.div_eq_of_lt hb]
    have e2 : ovR 0 b d (64 - 0) = 0 := by
      show ovV 0 b 64 % d = 0
      rw [e1, Nat.zero_mod]
    have e3 : ovQ 0 b d (64 - 0) = 0 := by
      show ovV 0 b 64 / d * 2 ^ 64 = 0
      rw [e1, Nat.zero_div, Nat.zero_mul]
    dsimp only at k
    rw [e2, e3] at k
    exact k
  · have hr := List.map_inj_left.1 (rh42 a b d (ovR 0 b d (64 - j)) 0 (ovQ 0 b d (64 - j))) (63 - j) (List.mem_range.2 (by omega))
    have e0 : ((64 + (63 - j) : Nat) : Int) = 127 - (j : Int) := by omega
    have hk : 64 - j = 63 - j + 1 := by omega
    have hk2 : 64 - (j + 1) = 63 - j := by omega
    have bt := bit42 0 b d (63 - j) hd0 hd hb (by omega) (fun r q1 => (some (.n, fr42 a b d r ((64 + (63 - j) : Nat) - 1 : Int), H42 a b 0 q1) : Option (X × List AV × Heap)))
    rw [← hk] at bt
    have hr2 := hr.trans bt
    rw [e0] at hr2
    have e3 : (127 - (j : Int)) - 1 = 127 - ((j + 1 : Nat) : Int) := by omega
    rw [e3] at hr2
    dsimp only
    rw [hk2]
    exact Does.runG ok0 noZ0 rfl rfl fdat42 hb42 bin42_0 60 rfl hr2
  · exact hq
include ha in
omit hb hd0 in
theorem loopL42 (r0 q1 : Nat) (hr0 : r0 < d) : Lp C0 fd42 bod42_0 (fr42 a b d r0 63) (H42 a b 0 q1) (.ex 0, fr42 a b d (ovR r0 a d 0 : Nat) (-1), H42 a b (ovQ r0 a d 0 : Nat) q1) := by
  have k := Lp.count (C := C0) (fd := fd42) (b := bod42_0) (q := (.ex 0, fr42 a b d (ovR r0 a d 0 : Nat) (-1), H42 a b (ovQ r0 a d 0 : Nat) q1)) (S := fun j => (fr42 a b d (ovR r0 a d (64 - j) : Nat) (63 - (j : Int)), H42 a b (ovQ r0 a d (64 - j) : Nat) q1)) (N := 64) (fun j hj => ?_) ?_ 0 (by omega)
  · have e1 : ovV r0 a 64 = r0 := by unfold ovV; rw [Nat.div_eq_of_lt ha]; simp
    have e2 : ovR r0 a d (64 - 0) = r0 := by
      show ovV r0 a 64 % d = r0
      rw [e1, Nat.mod_eq_of_lt hr0]
    have e3 : ovQ r0 a d (64 - 0) = 0 := by
      show ovV r0 a 64 / d * 2 ^ 64 = 0
      rw [e1, Nat.div_eq_of_lt hr0, Nat.zero_mul]
    dsimp only at k
    rw [e2, e3] at k
    exact k
  · have hr := List.map_inj_left.1 (rl42 a b d (ovR r0 a d (64 - j)) (ovQ r0 a d (64 - j)) q1) (63 - j) (List.mem_range.2 (by omega))
    have e0 : ((63 - j : Nat) : Int) = 63 - (j : Int) := by omega
    have hk : 64 - j = 63 - j + 1 := by omega
    have hk2 : 64 - (j + 1) = 63 - j := by omega
    have bt := bit42 r0 a d (63 - j) hr0 hd ha (by omega) (fun r q0 => (some (.n, fr42 a b d r ((63 - j : Nat) - 1 : Int), H42 a b q0 q1) : Option (X × List AV × Heap)))
    rw [← hk] at bt
    have hr2 := hr.trans bt
    rw [e0] at hr2
    have e3 : (63 - (j : Int)) - 1 = 63 - ((j + 1 : Nat) : Int) := by omega
    rw [e3] at hr2
    dsimp only
    rw [hk2]
    exact Does.runG ok0 noZ0 rfl rfl fdat42 hb42 bin42_0 60 rfl hr2
  · exact .out (Does.runG ok0 noZ0 rfl rfl fdat42 hb42 bin42_0 60 rfl (e42 a b d _ _ _)) (by simp)
end
def loN (n : Nat) : Nat := n % 18446744073709551616
def hiN (n : Nat) : Nat := n / 18446744073709551616
/-- The number of two words. -/
def wvN (a b : Nat) : Nat := b * 18446744073709551616 + a
noncomputable def l42 : SumF := fun vs H => match vs, H with
  | [.agg [.int .u64 a, .int .u64 b], .int .u64 d, .own 0 0, .own 1 0, .int .u64 z, .own 2 0, .int .u64 r, .int .i64 i, _x, _y], [some ⟨66, [.int .u64 a', .int .u64 b']⟩, some ⟨66, [.int .u64 z0, .int .u64 z1]⟩, some ⟨66, [.int .u64 q0, .int .u64 q1]⟩] =>
    .chk (u64k a && (u64k b && (leI 1 d && (leI d 9223372036854775808 && (z == 0 && (r == 0 && (i == 127 && (a' == a && (b' == b && (z0 == 0 && (z1 == 0 && (q0 == 0 && q1 == 0))))))))))))
      (.leaf (.n, [.undef, .undef, .own 0 0, .own 1 0, .int .u64 0, .own 2 0, .int .u64 (shut (wvN a.toNat b.toNat % d.toNat) : Nat), .undef, .undef, .undef], H42 a b (shut (loN (wvN a.toNat b.toNat / d.toNat)) : Nat) (shut (hiN (wvN a.toNat b.toNat / d.toNat)) : Nat)))
  | _, _ => .fail
theorem does42 (a b d : Nat) (x y : AV) (ha : a < 2 ^ 64) (hb : b < 2 ^ 64) (hd0 : 0 < d) (hd : d ≤ 2 ^ 63) : Does C0 fd42 blk42_0 [.agg [.int .u64 a, .int .u64 b], .int .u64 d, .own 0 0, .own 1 0, .int .u64 0, .own 2 0, .int .u64 0, .int .i64 127, x, y] (H42 a b 0 0)
    (.n, [.undef, .undef, .own 0 0, .own 1 0, .int .u64 0, .own 2 0, .int .u64 (wvN a b % d : Nat), .undef, .undef, .undef], H42 a b (loN (wvN a b / d) : Nat) (hiN (wvN a b / d) : Nat)) := by
  have hr0 := ovR_lt 0 b d 0 hd0
  have h := loopH42 a b d hb hd0 hd _ (loopL42 a b d ha hd (ovR 0 b d 0) (ovQ 0 b d 0) hr0)
  obtain ⟨f1, f2, f3⟩ := ov_fin b a d hd0 ha
  have e1 : loN (wvN a b / d) = ovQ (ovR 0 b d 0) a d 0 := by
    show (b * 2 ^ 64 + a) / d % 2 ^ 64 = _
    rw [← f1, Nat.mul_comm, Nat.mul_add_mod, Nat.mod_eq_of_lt f3]
  have e2 : hiN (wvN a b / d) = ovQ 0 b d 0 := by
    show (b * 2 ^ 64 + a) / d / 2 ^ 64 = _
    rw [← f1, Nat.mul_comm, Nat.mul_add_div (by decide), Nat.div_eq_of_lt f3, Nat.add_zero]
  have e3 : wvN a b % d = ovR (ovR 0 b d 0) a d 0 := f2.symm
  rw [e1, e2, e3, is42_0]
  generalize ovR (ovR 0 b d 0) a d 0 = y1 at *
  generalize ovQ (ovR 0 b d 0) a d 0 = y2 at *
  generalize ovQ 0 b d 0 = y3 at *
  exact (Does.block h.does).le (.k (.k (.k (.k (.k (.k (.k (.k (.u (.u .nil)))))))))) (.u (.u (.k (.k (.k (.k (.k (.u (.k (.k .nil))))))))))
theorem zl42 : ZEnt C0 (42, isBlk 0, lenF l42) := zent_does fdat42 hb42 one42_0 fun vs H q hv hr => by
  unfold l42 at hr
  split at hr
  · rename_i a b d z r i x y a' b' z0 z1 q0 q1
    obtain ⟨hc, hr2⟩ := T.of_chk hr
    clear hr
    simp only [Bool.and_eq_true, beq_iff_eq, u64k_iff, leI_iff] at hc
    obtain ⟨h0, h1, h2, h3, rfl, rfl, rfl, rfl, rfl, rfl, rfl, rfl, rfl⟩ := hc
    cases Option.some.inj hr2
    obtain ⟨a, rfl⟩ : ∃ n : Nat, a' = n := ⟨a'.toNat, by omega⟩
    obtain ⟨b, rfl⟩ : ∃ n : Nat, b' = n := ⟨b'.toNat, by omega⟩
    obtain ⟨d, rfl⟩ : ∃ n : Nat, d = n := ⟨d.toNat, by omega⟩
    simp only [Int.toNat_natCast, shut_eq]
    exact does42 a b d x y (by omega) (by omega) (by omega) (by omega)
  · simp [T.run] at hr
noncomputable def Z42 : FuncId → Code → Option SumF := zAt [(42, isBlk 0, lenF l42)]
theorem z42 : ZOk C0 Z42 := zAt_ok keepOk fun e he => by
  simp only [List.mem_cons, List.not_mem_nil, or_false] at he
  rcases he with rfl
  exact zl42
end Go.Proofs.YtbblfgfaoolloaaDoor
