/- Chapter 5: the reference: Holding. -/
import Derived.Test.YtgellkpbcoeccaaDoorSm6
namespace Go.Proofs.YtgellkpbcoeccaaDoor
open Go Go.Ev Go.Ev.Bits

abbrev kp32 : List Tmp := [0, 1, 4, 5, 6, 8, 10, 19]
abbrev ct32 : List Tmp := [8, 10, 19]
noncomputable def body32 : Code := Tryd.f32.body.getD .skip
noncomputable def fd32 : FD := { fn := Tryd.f32, keep := kp32, ct := ct32 }
theorem fdat32 : C10.code 32 = some fd32 := by kernel_rfl
theorem hb32 : fd32.fn.body = some body32 := by kernel_rfl
noncomputable def blk32_0 : Code := piece (isBlk 0) body32
theorem one32_0 : (pieceL (isBlk 0) body32).length = 1 := by kernel_rfl
theorem in32_0 : blk32_0 ∈ subs body32 := piece_in one32_0
noncomputable def bod32_0 : Code := unLoop (unBlk blk32_0)
theorem is32_0 : blk32_0 = .block 0 (.loop bod32_0) := by kernel_rfl
theorem bin32_0 : bod32_0 ∈ subs body32 := loop_in (block_in (id := 0) (is32_0 ▸ in32_0))
abbrev fr32 (m s o r : Int) : List AV := [.int .u64 m, .int .u8 s, .undef, .int .u16 o, .int .i64 r, .undef, .undef, .undef]
abbrev m32 : List Bool := [true, true, false, true, true, false, false, false]
noncomputable def c32 (m s : Nat) (r : Int) : Bool := leI 0 (m : Int) && (leI m 18446744073709551615 && (leI 0 (IntKind.i64.wrap s) && (leI (IntKind.i64.wrap s) 7 && (leI 0 r && leI r 12))))
theorem r32 (m s o : Nat) (r : Int) : codeG C10 noZ 60 32 kp32 ct32 isN m32 bod32_0 (fr32 m s o r) [] 0 = bif decide (r ≥ 0) then bif c32 m s r then bif shut (hb (hd m (IntKind.i64.wrap s).toNat) r.toNat) then some (.n, fr32 m s (IntKind.u16.wrap (IntKind.u16.wrap (o * 2) + 1)) (IntKind.i64.wrap (r - 1)), []) else some (.n, fr32 m s (IntKind.u16.wrap (o * 2)) (IntKind.i64.wrap (r - 1)), []) else none else none := by kernel_rfl
theorem e32 (m s o : Nat) : codeG C10 noZ 60 32 kp32 ct32 isEx m32 bod32_0 (fr32 m s o (-1)) [] 0 = some (.ex 0, fr32 m s o (-1), []) := by kernel_rfl
theorem div_step (h r : Nat) : h / 2 ^ r = h / 2 ^ (r + 1) * 2 + b2n (hb h r) := by
  have e : h / 2 ^ (r + 1) = h / 2 ^ r / 2 := by rw [Nat.pow_succ, Nat.div_div_eq_div_mul]
  rw [e]
  unfold hb
  generalize h / 2 ^ r = x
  rcases Nat.mod_two_eq_zero_or_one x with e | e <;> rw [e]
  · show x = x / 2 * 2 + 0; omega
  · show x = x / 2 * 2 + 1; omega
theorem loop32 (m s : Nat) (hm : m < 18446744073709551616) (hs : s ≤ 3) : Lp C10 fd32 bod32_0 (fr32 m s 0 12) [] (.ex 0, fr32 m s (hd m s : Nat) (-1), []) := by
  have hh := hd_lt m s
  have k := Lp.count (C := C10) (fd := fd32) (b := bod32_0) (q := (.ex 0, fr32 m s (hd m s : Nat) (-1), [])) (S := fun i => (fr32 m s (hd m s / 2 ^ (13 - i) : Nat) (12 - (i : Int)), [])) (N := 13) (fun i hi => ?_) ?_ 0 (by omega)
  · have e0 : hd m s / 2 ^ (13 - 0) = 0 := by rw [Nat.div_eq_of_lt]; exact hh
    dsimp only at k
    rw [e0] at k
    exact k
  · have ew : IntKind.i64.wrap (s : Int) = (s : Int) := i64_small (by omega) (by omega)
    have c : c32 m s (12 - (i : Int)) = true := by
      unfold c32
      rw [ew, leI_iff.2 (by omega), leI_iff.2 (by omega), leI_iff.2 (by omega), leI_iff.2 (by omega), leI_iff.2 (by omega), leI_iff.2 (by omega)]
      rfl
    have e2 : IntKind.i64.wrap (12 - (i : Int) - 1) = 12 - ((i + 1 : Nat) : Int) := by rw [i64w (by omega)]; omega
    have et : (12 - (i : Int)).toNat = 12 - i := by omega
    have ds := div_step (hd m s) (12 - i)
    rw [show 12 - i + 1 = 13 - i by omega] at ds
    have hlt : hd m s / 2 ^ (12 - i) < 8192 := Nat.lt_of_le_of_lt (Nat.div_le_self _ _) hh
    have hr1 : codeG C10 noZ 60 32 kp32 ct32 isN m32 bod32_0 (fr32 m s (hd m s / 2 ^ (13 - i) : Nat) (12 - (i : Int))) [] 0 = some (.n, fr32 m s (hd m s / 2 ^ (13 - (i + 1)) : Nat) (12 - ((i + 1 : Nat) : Int)), []) := by
      rw [r32, decide_eq_true (by omega), cond_true, c, cond_true, shut_eq, e2, ew, Int.toNat_natCast, et, show 13 - (i + 1) = 12 - i by omega, ds]
      rw [ds] at hlt
      generalize hd m s / 2 ^ (13 - i) = x at *
      cases hb (hd m s) (12 - i)
      · have e1 : IntKind.u16.wrap ((x : Int) * 2) = ((x * 2 + b2n false : Nat) : Int) := by
          have : b2n false = 0 := rfl
          rw [u16w]; omega
        rw [cond_false, e1]
      · have e1 : IntKind.u16.wrap (IntKind.u16.wrap ((x : Int) * 2) + 1) = ((x * 2 + b2n true : Nat) : Int) := by
          have : b2n true = 1 := rfl
          rw [u16w, u16w]; omega
        rw [cond_true, e1]
    exact Does.runG ok10 noZ10 rfl rfl fdat32 hb32 bin32_0 60 rfl hr1
  · have : hd m s / 2 ^ (13 - 13) = hd m s := Nat.div_one _
    dsimp only
    rw [this]
    exact .out (Does.runG ok10 noZ10 rfl rfl fdat32 hb32 bin32_0 60 rfl (e32 m s (hd m s))) (by simp)
noncomputable def lR32 : SumF := fun vs H => match vs, H with
  | [.int .u64 m, .int .u8 s, _a, .int .u16 o, .int .i64 r, _b, _c, _d], [] =>
    .chk (leI 0 m && (leI m 18446744073709551615 && (leI 0 s && (leI s 3 && (o == 0 && r == 12)))))
      (.leaf (.n, [.undef, .undef, .undef, .int .u16 (shut (hd m.toNat s.toNat) : Nat), .undef, .undef, .undef, .undef], []))
  | _, _ => .fail
theorem does32 (m s : Nat) (a b c d : AV) (hm : m < 18446744073709551616) (hs : s ≤ 3) : Does C10 fd32 blk32_0 [.int .u64 m, .int .u8 s, a, .int .u16 0, .int .i64 12, b, c, d] []
    (.n, [.undef, .undef, .undef, .int .u16 (hd m s : Nat), .undef, .undef, .undef, .undef], []) := by
  have h := loop32 m s hm hs
  rw [is32_0]
  generalize hd m s = y at *
  exact (Does.block h.does).le (.k (.k (.u (.k (.k (.u (.u (.u .nil)))))))) (.u (.u (.k (.k (.u (.k (.k (.k .nil))))))))
theorem zl32 : ZEnt C10 (32, isBlk 0, lenF lR32) := zent_does fdat32 hb32 one32_0 fun vs H q hv hr => by
  unfold lR32 at hr
  split at hr
  · rename_i m s a o r b c d
    obtain ⟨hc, hr2⟩ := T.of_chk hr
    clear hr
    simp only [Bool.and_eq_true, beq_iff_eq, leI_iff] at hc
    obtain ⟨h0, h1, h2, h3, rfl, rfl⟩ := hc
    cases Option.some.inj hr2
    obtain ⟨m, rfl⟩ : ∃ n : Nat, m = n := ⟨m.toNat, by omega⟩
    obtain ⟨s, rfl⟩ : ∃ n : Nat, s = n := ⟨s.toNat, by omega⟩
    simp only [Int.toNat_natCast, shut_eq]
    exact does32 m s a b c d (by omega) (by omega)
  · simp [T.run] at hr
noncomputable def ZR32 : FuncId → Code → Option SumF := zAt [(32, isBlk 0, lenF lR32)]
theorem zR32 : ZOk C10 ZR32 := zAt_ok keepOk10 fun e he => by
  simp only [List.mem_cons, List.not_mem_nil, or_false] at he
  rcases he with rfl
  exact zl32
end Go.Proofs.YtgellkpbcoeccaaDoor
