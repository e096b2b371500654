/- Chapter 5: HandTurned: the hand turned, in plain numbers. -/
import Derived.Test.YtgellkpbcoeccaaDoorTu1
namespace Go.Proofs.YtgellkpbcoeccaaDoor
open Go Go.Ev Go.Ev.Bits

def turnN (n : Nat) (p : N4) : Nat := ((hd n 3 * 2 ^ (13 * p.2.2.2) ||| hd n 2 * 2 ^ (13 * p.2.2.1)) ||| hd n 1 * 2 ^ (13 * p.2.1)) ||| hd n 0 * 2 ^ (13 * p.1)
theorem sh_lt (a p : Nat) (ha : a < 8192) (hp : p < 4) : a * 2 ^ (13 * p) < 2 ^ 52 := by
  have : p = 0 ∨ p = 1 ∨ p = 2 ∨ p = 3 := by omega
  rcases this with rfl | rfl | rfl | rfl <;> simp only [Nat.reduceMul, Nat.reducePow] <;> omega
theorem turnN_lt (n : Nat) (p : N4) (hp : p ∈ P24) : turnN n p < 2 ^ 52 := by
  obtain ⟨h0, h1, h2, h3⟩ := p24_lt p hp
  exact Nat.or_lt_two_pow (Nat.or_lt_two_pow (Nat.or_lt_two_pow (sh_lt _ _ (hd_lt _ _) h3) (sh_lt _ _ (hd_lt _ _) h2)) (sh_lt _ _ (hd_lt _ _) h1)) (sh_lt _ _ (hd_lt _ _) h0)
theorem shI_eq (n s p : Nat) (hs : s < 4) (hp : p < 4) : shI (n : Int) s p = ((hd n s * 2 ^ (13 * p) : Nat) : Int) := by
  unfold shI
  have h1 := and_mask 64 13 (by omega) ((n : Int).fdiv (2 ^ (13 * s)))
  rw [show IntKind.u64.bits = 64 from rfl, show min (13 * s) 64 = 13 * s by omega, show min (13 * p) 64 = 13 * p by omega, show (8191 : Int) = ((2 ^ 13 - 1 : Nat) : Int) from rfl, h1]
  rw [fdiv_pos _ (by exact Int.le_of_lt (Int.pow_pos (by omega)))]
  have e3 : (n : Int) / (2 ^ (13 * s)) = ((n / 2 ^ (13 * s) : Nat) : Int) := by simp
  have e4 : ((n / 2 ^ (13 * s) : Nat) : Int) % ((2 ^ 13 : Nat) : Int) = ((hd n s : Nat) : Int) := by
    unfold hd
    rw [← Int.natCast_emod]
  rw [e3, e4, u64w, u64w]
  have hl := hd_lt n s
  have hsl := sh_lt (hd n s) p hl hp
  have e5 : (((hd n s : Nat) : Int) % 18446744073709551616) = ((hd n s : Nat) : Int) := by omega
  have e6 : ((hd n s : Nat) : Int) * 2 ^ (13 * p) = ((hd n s * 2 ^ (13 * p) : Nat) : Int) := by simp
  rw [e5, e6]
  generalize hd n s * 2 ^ (13 * p) = y at *
  omega
theorem or64_nat (a b : Nat) (ha : a < 2 ^ 52) (hb : b < 2 ^ 52) : or64 (a : Int) (b : Int) = ((a ||| b : Nat) : Int) := by
  unfold or64
  have := Nat.or_lt_two_pow ha hb
  rw [show IntKind.u64.bits = 64 from rfl, or_nat 64 a b (by omega) (by omega), u64w]
  omega
theorem turnI_eq (n : Nat) (p : N4) (hp : p ∈ P24) : turnI (n : Int) p = (turnN n p : Nat) := by
  obtain ⟨h0, h1, h2, h3⟩ := p24_lt p hp
  have l3 := sh_lt (hd n 3) p.2.2.2 (hd_lt _ _) h3
  have l2 := sh_lt (hd n 2) p.2.2.1 (hd_lt _ _) h2
  have l1 := sh_lt (hd n 1) p.2.1 (hd_lt _ _) h1
  have l0 := sh_lt (hd n 0) p.1 (hd_lt _ _) h0
  unfold turnI
  rw [shI_eq n 3 _ (by omega) h3, shI_eq n 2 _ (by omega) h2, shI_eq n 1 _ (by omega) h1, shI_eq n 0 _ (by omega) h0, show (0 : Int) = ((0 : Nat) : Int) from rfl, or64_nat 0 _ (by omega) l3, Nat.zero_or, or64_nat _ _ l3 l2, or64_nat _ _ (Nat.or_lt_two_pow l3 l2) l1, or64_nat _ _ (Nat.or_lt_two_pow (Nat.or_lt_two_pow l3 l2) l1) l0]
  rfl
theorem hd_turn (n : Nat) (p : N4) (hp : p ∈ P24) : hd (turnN n p) p.1 = hd n 0 ∧ hd (turnN n p) p.2.1 = hd n 1 ∧ hd (turnN n p) p.2.2.1 = hd n 2 ∧ hd (turnN n p) p.2.2.2 = hd n 3 := by
  have h0 := hd_lt n 0
  have h1 := hd_lt n 1
  have h2 := hd_lt n 2
  have h3 := hd_lt n 3
  unfold turnN
  simp only [hd_or, hd_shift _ _ _ h0, hd_shift _ _ _ h1, hd_shift _ _ _ h2, hd_shift _ _ _ h3]
  simp only [P24, List.mem_cons, List.not_mem_nil, or_false] at hp
  rcases hp with rfl | rfl | rfl | rfl | rfl | rfl | rfl | rfl | rfl | rfl | rfl | rfl | rfl | rfl | rfl | rfl | rfl | rfl | rfl | rfl | rfl | rfl | rfl | rfl <;> simp
theorem sumS_turn (f : Nat → Nat) (n : Nat) (p : N4) (hp : p ∈ P24) : sumS f (turnN n p) = sumS f n := by
  obtain ⟨h0, h1, h2, h3⟩ := hd_turn n p hp
  unfold sumS
  generalize turnN n p = t at *
  simp only [P24, List.mem_cons, List.not_mem_nil, or_false] at hp
  rcases hp with rfl | rfl | rfl | rfl | rfl | rfl | rfl | rfl | rfl | rfl | rfl | rfl | rfl | rfl | rfl | rfl | rfl | rfl | rfl | rfl | rfl | rfl | rfl | rfl <;> simp only at h0 h1 h2 h3 <;> rw [h0, h1, h2, h3] <;> omega
def at4 (p : N4) : Nat → Nat
  | 0 => p.1
  | 1 => p.2.1
  | 2 => p.2.2.1
  | _ => p.2.2.2
theorem comp_mem : ∀ p ∈ P24, ∀ s ∈ P24, (at4 p s.1, at4 p s.2.1, at4 p s.2.2.1, at4 p s.2.2.2) ∈ P24 := by decide +kernel
theorem ln_turn (n : Nat) (p : N4) (hp : p ∈ P24) (s : Nat) (hs : s < 4) : ln (turnN n p) (at4 p s) = ln n s := by
  obtain ⟨h0, h1, h2, h3⟩ := hd_turn n p hp
  unfold ln
  have : s = 0 ∨ s = 1 ∨ s = 2 ∨ s = 3 := by omega
  rcases this with rfl | rfl | rfl | rfl
  · rw [show at4 p 0 = p.1 from rfl, h0]
  · rw [show at4 p 1 = p.2.1 from rfl, h1]
  · rw [show at4 p 2 = p.2.2.1 from rfl, h2]
  · rw [show at4 p 3 = p.2.2.2 from rfl, h3]
theorem pat_comp (L L' : Nat → Nat) (p s : N4) (hp : p ∈ P24) (hs : s ∈ P24) (h : ∀ i, i < 4 → L (at4 p i) = L' i) (o1 : L' s.2.1 ≤ L' s.1) (o2 : L' s.2.2.1 ≤ L' s.2.1) (o3 : L' s.2.2.2 ≤ L' s.2.2.1) :
    so (fun a b => decide (b < a)) four (L 0) (L 1) (L 2) (L 3) = (L' s.1, L' s.2.1, L' s.2.2.1, L' s.2.2.2) := by
  obtain ⟨q1, q2, q3, q4⟩ := p24_lt _ hs
  have e1 := h _ q1
  have e2 := h _ q2
  have e3 := h _ q3
  have e4 := h _ q4
  have := pat_L L (at4 p s.1, at4 p s.2.1, at4 p s.2.2.1, at4 p s.2.2.2) (comp_mem p hp s hs) (by simp only [e1, e2]; exact o1) (by simp only [e2, e3]; exact o2) (by simp only [e3, e4]; exact o3)
  rw [this]
  simp only [e1, e2, e3, e4]
theorem pat_turn (n : Nat) (p : N4) (hp : p ∈ P24) : pat (turnN n p) = pat n := by
  obtain ⟨hs, o1, o2, o3⟩ := sui_ok n
  rw [pat_sui n]
  exact pat_comp (ln (turnN n p)) (ln n) p (sui n) hp hs (ln_turn n p hp) o1.1 o2.1 o3.1
theorem right_turn (n : Nat) (hn : n < 4503599627370496) (p : N4) (hp : p ∈ P24) : rightN (turnN n p) = rightN n := by
  have hl := turnN_lt n p hp
  have e : bc 64 (turnN n p) = bc 64 n := by
    rw [bc_split _ (by omega), bc_split n hn]
    exact sumS_turn (bc 13) n p hp
  unfold rightN
  rw [e, show turnN n p / 4503599627370496 = 0 by omega, show n / 4503599627370496 = 0 by omega]
theorem bal_turn (n : Nat) (hn : n < 4503599627370496) (p : N4) (hp : p ∈ P24) : balN (turnN n p) = balN n := by
  unfold balN
  rw [right_turn n hn p hp, pat_turn n p hp]

noncomputable def sTurn : List AV → T AV
  | [.int .u64 m, .int .u8 w] => .chk (leI 0 m && (leI 0 w && leI w 255)) (.leaf (.int .u64 (shut (turnN m.toNat (perm (w.toNat % 24))) : Nat)))
  | _ => .fail
theorem sTurn_iso : ∀ args v, (sTurn args).run = some v → callsM C6 noZ 60 15 args = some v := by
  intro args v hr
  unfold sTurn at hr
  split at hr
  · rename_i m w
    obtain ⟨hc, hr⟩ := T.of_chk hr
    simp only [Bool.and_eq_true, leI_iff] at hc
    cases Option.some.inj hr
    obtain ⟨m, rfl⟩ : ∃ n : Nat, m = n := ⟨m.toNat, by omega⟩
    obtain ⟨w, rfl⟩ : ∃ n : Nat, w = n := ⟨w.toNat, by omega⟩
    rw [shut_eq, Int.toNat_natCast, Int.toNat_natCast, ← turnI_eq m _ (perm_mem _ (Nat.mod_lt _ (by omega)))]
    have hw : w / 32 = 0 ∨ w / 32 = 1 ∨ w / 32 = 2 ∨ w / 32 = 3 ∨ w / 32 = 4 ∨ w / 32 = 5 ∨ w / 32 = 6 ∨ w / 32 = 7 := by omega
    have hr32 : w % 32 ∈ List.range 32 := List.mem_range.2 (by omega)
    rcases hw with e | e | e | e | e | e | e | e
    · have := allEq (t15_0 m) _ hr32; rwa [show w % 32 + 0 = w by omega] at this
    · have := allEq (t15_1 m) _ hr32; rwa [show w % 32 + 32 = w by omega] at this
    · have := allEq (t15_2 m) _ hr32; rwa [show w % 32 + 64 = w by omega] at this
    · have := allEq (t15_3 m) _ hr32; rwa [show w % 32 + 96 = w by omega] at this
    · have := allEq (t15_4 m) _ hr32; rwa [show w % 32 + 128 = w by omega] at this
    · have := allEq (t15_5 m) _ hr32; rwa [show w % 32 + 160 = w by omega] at this
    · have := allEq (t15_6 m) _ hr32; rwa [show w % 32 + 192 = w by omega] at this
    · have := allEq (t15_7 m) _ hr32; rwa [show w % 32 + 224 = w by omega] at this
  · simp [T.run] at hr
noncomputable def tab7 : List (Nat × (List AV → T AV)) := [(15, sTurn)]
theorem allTab7 : AllL (SumAt C6) tab7 := ⟨⟨callsM_fn ok6 noZ6 (sTurn_iso [.int .u64 0, .int .u8 0] _ rfl), fun args v hr => callsM_iso ok6 noZ6 (sTurn_iso args v hr)⟩, trivial⟩
noncomputable def C7 : Ctx := withSum C6 tab7
theorem ok7 : Ok C7 := ok_with ok6 allTab7
end Go.Proofs.YtgellkpbcoeccaaDoor
