/- Chapter 5: the reference: Has. -/
import Derived.Test.YtgellkpbcoeccaaDoorDe7
namespace Go.Proofs.YtgellkpbcoeccaaDoor
open Go Go.Ev Go.Ev.Bits

abbrev kp50 : List Tmp := [0, 1, 2, 6, 7, 13]
abbrev ct50 : List Tmp := [13]
noncomputable def body50 : Code := Tryd.f50.body.getD .skip
noncomputable def fd50 : FD := { fn := Tryd.f50, keep := kp50, ct := ct50 }
theorem fdat50 : C8.code 50 = some fd50 := by kernel_rfl
theorem hb50 : fd50.fn.body = some body50 := by kernel_rfl
noncomputable def blk50_0 : Code := piece (isBlk 0) body50
theorem one50_0 : (pieceL (isBlk 0) body50).length = 1 := by kernel_rfl
theorem in50_0 : blk50_0 ∈ subs body50 := piece_in one50_0
noncomputable def bod50_0 : Code := unLoop (unBlk blk50_0)
theorem is50_0 : blk50_0 = .block 0 (.loop bod50_0) := by kernel_rfl
theorem bin50_0 : bod50_0 ∈ subs body50 := loop_in (block_in (id := 0) (is50_0 ▸ in50_0))
abbrev fr50 (m s r i : Int) : List AV := [.int .u64 m, .int .i64 s, .int .i64 r, .undef, .int .i64 i, .undef]
abbrev m50 : List Bool := [true, true, true, false, true, false]
theorem r50 (m s r i : Int) : codeG C8 noZ 60 50 kp50 ct50 isN m50 bod50_0 (fr50 m s r i) [] 0 = bif decide (i < IntKind.i64.wrap (IntKind.i64.wrap (13 * s) + r)) then some (.n, fr50 (IntKind.u64.wrap (m.tdiv 2)) s r (IntKind.i64.wrap (i + 1)), []) else none := by kernel_rfl
theorem e50 (m s r i : Int) : codeG C8 noZ 60 50 kp50 ct50 isEx m50 bod50_0 (fr50 m s r i) [] 0 = bif decide (i < IntKind.i64.wrap (IntKind.i64.wrap (13 * s) + r)) then none else some (.ex 0, fr50 m s r i, []) := by kernel_rfl
theorem loop50 (s r : Nat) (hs : s ≤ 7) (hr : r ≤ 20) : ∀ (d i : Nat), i + d = 13 * s + r → ∀ m : Nat, m < 18446744073709551616 → Lp C8 fd50 bod50_0 (fr50 m s r i) [] (.ex 0, fr50 ((m / 2 ^ d : Nat) : Int) s r ((13 * s + r : Nat) : Int), [])
  | 0, i, hi, m, hm => by
    have e : i = 13 * s + r := by omega
    subst e
    refine .out (Does.runG ok8 noZ8 rfl rfl fdat50 hb50 bin50_0 60 (want := isEx) (msk := m50) rfl ((e50 _ _ _ _).trans ?_)) (by simp)
    rw [i64_small (x := 13 * (s : Int)) (by omega) (by omega), i64_small (x := 13 * (s : Int) + r) (by omega) (by omega), decide_eq_false (by omega), cond_false, Nat.pow_zero, Nat.div_one]
  | d + 1, i, hi, m, hm => by
    have h := loop50 s r hs hr d (i + 1) (by omega) (m / 2) (by omega)
    rw [Nat.div_div_eq_div_mul, ← Nat.pow_succ'] at h
    have e1 : IntKind.u64.wrap ((m : Int).tdiv 2) = ((m / 2 : Nat) : Int) := by
      rw [Int.tdiv_eq_ediv_of_nonneg (by omega), u64w]; omega
    have e2 : IntKind.i64.wrap ((i : Int) + 1) = ((i + 1 : Nat) : Int) := by rw [i64_small (by omega) (by omega)]; omega
    have hr1 : codeG C8 noZ 60 50 kp50 ct50 isN m50 bod50_0 (fr50 m s r i) [] 0 = some (.n, fr50 ((m / 2 : Nat) : Int) s r ((i + 1 : Nat) : Int), []) := by
      rw [r50, i64_small (x := 13 * (s : Int)) (by omega) (by omega), i64_small (x := 13 * (s : Int) + r) (by omega) (by omega), decide_eq_true (by omega), cond_true, e1, e2]
    exact .on (Does.runG ok8 noZ8 rfl rfl fdat50 hb50 bin50_0 60 rfl hr1) h
noncomputable def l50 : SumF := fun vs H => match vs, H with
  | [.int .u64 m, .int .i64 s, .int .i64 r, _a, .int .i64 i, _b], [] =>
    .chk (leI 0 m && (leI m 18446744073709551615 && (leI 0 s && (leI s 7 && (leI 0 r && (leI r 20 && i == 0))))))
      (.leaf (.n, [.int .u64 (shut (m.toNat / 2 ^ (13 * s.toNat + r.toNat)) : Nat), .undef, .undef, .undef, .undef, .undef], []))
  | _, _ => .fail
theorem does50 (m s r : Nat) (a b : AV) (hm : m < 18446744073709551616) (hs : s ≤ 7) (hr : r ≤ 20) : Does C8 fd50 blk50_0 [.int .u64 m, .int .i64 s, .int .i64 r, a, .int .i64 0, b] []
    (.n, [.int .u64 (m / 2 ^ (13 * s + r) : Nat), .undef, .undef, .undef, .undef, .undef], []) := by
  have h := loop50 s r hs hr (13 * s + r) 0 (by omega) m hm
  rw [is50_0]
  generalize m / 2 ^ (13 * s + r) = y at *
  exact (Does.block h.does).le (.k (.k (.k (.u (.k (.u .nil)))))) (.k (.u (.u (.k (.u (.k .nil))))))
theorem zl50 : ZEnt C8 (50, isBlk 0, lenF l50) := zent_does fdat50 hb50 one50_0 fun vs H q hv hr => by
  unfold l50 at hr
  split at hr
  · rename_i m s r a i b
    obtain ⟨hc, hr2⟩ := T.of_chk hr
    clear hr
    simp only [Bool.and_eq_true, beq_iff_eq, leI_iff] at hc
    obtain ⟨h0, h1, h2, h3, h4, h5, rfl⟩ := hc
    cases Option.some.inj hr2
    obtain ⟨m, rfl⟩ : ∃ n : Nat, m = n := ⟨m.toNat, by omega⟩
    obtain ⟨s, rfl⟩ : ∃ n : Nat, s = n := ⟨s.toNat, by omega⟩
    obtain ⟨r, rfl⟩ : ∃ n : Nat, r = n := ⟨r.toNat, by omega⟩
    simp only [Int.toNat_natCast, shut_eq]
    exact does50 m s r a b (by omega) (by omega) (by omega)
  · simp [T.run] at hr
noncomputable def Z50 : FuncId → Code → Option SumF := zAt [(50, isBlk 0, lenF l50)]
theorem z50 : ZOk C8 Z50 := zAt_ok keepOk8 fun e he => by
  simp only [List.mem_cons, List.not_mem_nil, or_false] at he
  rcases he with rfl
  exact zl50
end Go.Proofs.YtgellkpbcoeccaaDoor
