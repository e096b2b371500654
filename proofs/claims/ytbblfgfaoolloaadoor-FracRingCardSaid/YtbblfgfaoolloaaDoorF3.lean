/- Chapter 1: the greatest common divisor and long division: the loops. -/
import Derived.Test.YtbblfgfaoolloaaDoorF2
namespace Go.Proofs.YtbblfgfaoolloaaDoor
open Go Go.Ev Go.Ev.Bits

/-! ### The greatest common divisor -/
abbrev fr39 (a b : Int) : List AV := [.int .u64 a, .int .u64 b, .undef, .undef]
abbrev m39 : List Bool := [true, true, false, false]
theorem r39 (a b : Nat) : codeG C0 noZ 60 39 kp39 ct39 isN m39 bod39_0 (fr39 a b) [] 0 = bif decide ((b : Int) > 0) then bif !decide ((b : Int) = 0) then some (.n, fr39 b ((a : Int).tmod b), []) else none else none := by kernel_rfl
theorem e39 (a : Nat) : codeG C0 noZ 60 39 kp39 ct39 isEx m39 bod39_0 (fr39 a 0) [] 0 = some (.ex 0, fr39 a 0, []) := by kernel_rfl
theorem loop39 : ∀ (k b : Nat), b ≤ k → ∀ a : Nat, Lp C0 fd39 bod39_0 (fr39 a b) [] (.ex 0, fr39 (Nat.gcd a b : Nat) 0, []) := by
  intro k
  induction k with
  | zero =>
    intro b hb a
    have : b = 0 := by omega
    subst this
    rw [Nat.gcd_zero_right]
    exact .out (Does.runG ok0 noZ0 rfl rfl fdat39 hb39 bin39_0 60 rfl (e39 a)) (by simp)
  | succ k ih =>
    intro b hb a
    rcases Nat.eq_zero_or_pos b with h | h
    · subst h
      rw [Nat.gcd_zero_right]
      exact .out (Does.runG ok0 noZ0 rfl rfl fdat39 hb39 bin39_0 60 rfl (e39 a)) (by simp)
    · have hr1 : codeG C0 noZ 60 39 kp39 ct39 isN m39 bod39_0 (fr39 a b) [] 0 = some (.n, fr39 b ((a % b : Nat) : Int), []) := by
        rw [r39, decide_eq_true (by omega), decide_eq_false (by omega), Int.tmod_eq_emod_of_nonneg (by omega)]
        rfl
      have hl : a % b < b := Nat.mod_lt _ h
      have := ih (a % b) (by omega) b
      have e : Nat.gcd b (a % b) = Nat.gcd a b := by rw [Nat.gcd_comm a b, Nat.gcd_rec b a, Nat.gcd_comm]
      rw [e] at this
      exact .on (Does.runG ok0 noZ0 rfl rfl fdat39 hb39 bin39_0 60 rfl hr1) this
noncomputable def u64k (a : Int) : Bool := leI 0 a && leI a 18446744073709551615
theorem u64k_iff {a : Int} : u64k a = true ↔ 0 ≤ a ∧ a ≤ 18446744073709551615 := by unfold u64k; rw [Bool.and_eq_true, leI_iff, leI_iff]
noncomputable def l39 : SumF := fun vs H => match vs, H with
  | [.int .u64 a, .int .u64 b, _a, _b], [] => .chk (u64k a && u64k b) (.leaf (.n, [.int .u64 (shut (Nat.gcd a.toNat b.toNat) : Nat), .undef, .undef, .undef], []))
  | _, _ => .fail
theorem does39 (a b : Nat) (x y : AV) : Does C0 fd39 blk39_0 [.int .u64 a, .int .u64 b, x, y] [] (.n, [.int .u64 (Nat.gcd a b : Nat), .undef, .undef, .undef], []) := by
  have h := loop39 b b (Nat.le_refl b) a
  rw [is39_0]
  generalize Nat.gcd a b = y at *
  exact (Does.block h.does).le (.k (.k (.u (.u .nil)))) (.k (.u (.k (.k .nil))))
theorem zl39 : ZEnt C0 (39, isBlk 0, lenF l39) := zent_does fdat39 hb39 one39_0 fun vs H q hv hr => by
  unfold l39 at hr
  split at hr
  · rename_i a b x y
    obtain ⟨hc, hr2⟩ := T.of_chk hr
    clear hr
    simp only [Bool.and_eq_true, u64k_iff] at hc
    cases Option.some.inj hr2
    obtain ⟨a, rfl⟩ : ∃ n : Nat, a = n := ⟨a.toNat, by omega⟩
    obtain ⟨b, rfl⟩ : ∃ n : Nat, b = n := ⟨b.toNat, by omega⟩
    simp only [Int.toNat_natCast, shut_eq]
    exact does39 a b x y
  · simp [T.run] at hr
noncomputable def Z39 : FuncId → Code → Option SumF := zAt [(39, isBlk 0, lenF l39)]
theorem z39 : ZOk C0 Z39 := zAt_ok keepOk fun e he => by
  simp only [List.mem_cons, List.not_mem_nil, or_false] at he
  rcases he with rfl
  exact zl39
theorem t39 (a b : Nat) : callsM C0 Z39 60 39 [.int .u64 a, .int .u64 b] = bif u64k a && u64k b then some (.int .u64 (shut (Nat.gcd a b) : Nat)) else none := by kernel_rfl
noncomputable def sGcd : List AV → T AV
  | [.int .u64 a, .int .u64 b] => .chk (u64k a && u64k b) (.leaf (.int .u64 (shut (Nat.gcd a.toNat b.toNat) : Nat)))
  | _ => .fail
theorem iso39 : ∀ args v, (sGcd args).run = some v → callsM C0 Z39 60 39 args = some v := by
  intro args v hr
  unfold sGcd at hr
  split at hr
  · rename_i a b
    obtain ⟨hc, hr2⟩ := T.of_chk hr
    clear hr
    have hc' := hc
    simp only [Bool.and_eq_true, u64k_iff] at hc
    obtain ⟨a, rfl⟩ : ∃ n : Nat, a = n := ⟨a.toNat, by omega⟩
    obtain ⟨b, rfl⟩ : ∃ n : Nat, b = n := ⟨b.toNat, by omega⟩
    rw [t39, hc', cond_true]
    exact hr2
  · simp [T.run] at hr
theorem sum39 : SumAt C0 (39, sGcd) := ⟨callsM_fn ok0 z39 (iso39 [.int .u64 0, .int .u64 0] _ rfl), fun args v hr => callsM_iso ok0 z39 (iso39 args v hr)⟩

/-! ### Long division -/
abbrev fr42 (a b d r i : Int) : List AV := [.agg [.int .u64 a, .int .u64 b], .int .u64 d, .own 0 0, .own 1 0, .int .u64 0, .own 2 0, .int .u64 r, .int .i64 i, .undef, .undef]
abbrev H42 (a b q0 q1 : Int) : Heap := [some ⟨66, [.int .u64 a, .int .u64 b]⟩, some ⟨66, [.int .u64 0, .int .u64 0]⟩, some ⟨66, [.int .u64 q0, .int .u64 q1]⟩]
abbrev m42 : List Bool := [true, true, true, true, true, true, true, true, false, false]
def xI (x : Int) (k : Nat) (r : Int) : Int := IntKind.u64.wrap ↑(BitVec.ofInt IntKind.u64.bits (IntKind.u64.wrap (r * 2 ^ min (Int.toNat 1) IntKind.u64.bits)) ||| BitVec.ofInt IntKind.u64.bits (IntKind.u64.wrap ↑(BitVec.ofInt IntKind.u64.bits (x.fdiv (2 ^ min k IntKind.u64.bits)) &&& BitVec.ofInt IntKind.u64.bits 1).toNat)).toNat
def qI (q : Int) (k : Nat) : Int := IntKind.u64.wrap ↑(BitVec.ofInt IntKind.u64.bits q ||| BitVec.ofInt IntKind.u64.bits (IntKind.u64.wrap (1 * 2 ^ min k IntKind.u64.bits))).toNat
section
variable (a b d r q0 q1 : Nat)
def trH (k : Nat) : Option (X × List AV × Heap) := bif decide (xI b k r ≥ d) then some (.n, fr42 a b d (IntKind.u64.wrap (xI b k r - d)) ((64 + k : Nat) - 1 : Int), H42 a b q0 (qI q1 k)) else some (.n, fr42 a b d (xI b k r) ((64 + k : Nat) - 1 : Int), H42 a b q0 q1)
def trL (k : Nat) : Option (X × List AV × Heap) := bif decide (xI a k r ≥ d) then some (.n, fr42 a b d (IntKind.u64.wrap (xI a k r - d)) ((k : Nat) - 1 : Int), H42 a b (qI q0 k) q1) else some (.n, fr42 a b d (xI a k r) ((k : Nat) - 1 : Int), H42 a b q0 q1)
theorem rh42 : (List.range 64).map (fun k => codeG C0 noZ 60 42 kp42 ct42 isN m42 bod42_0 (fr42 a b d r ((64 + k : Nat) : Int)) (H42 a b q0 q1) 3) = (List.range 64).map (fun k => trH a b d r q0 q1 k) := by kernel_rfl
theorem rl42 : (List.range 64).map (fun k => codeG C0 noZ 60 42 kp42 ct42 isN m42 bod42_0 (fr42 a b d r ((k : Nat) : Int)) (H42 a b q0 q1) 3) = (List.range 64).map (fun k => trL a b d r q0 q1 k) := by kernel_rfl
theorem e42 : codeG C0 noZ 60 42 kp42 ct42 isEx m42 bod42_0 (fr42 a b d r (-1)) (H42 a b q0 q1) 3 = some (.ex 0, fr42 a b d r (-1), H42 a b q0 q1) := by kernel_rfl
end
end Go.Proofs.YtbblfgfaoolloaaDoor
