/- Chapter 5: the reference: Pattern as a summary. -/
import Derived.Test.YtgellkpbcoeccaaDoorSm11
namespace Go.Proofs.YtgellkpbcoeccaaDoor
open Go Go.Ev Go.Ev.Bits

abbrev fo34 (m : Int) (t : List UInt8) (n : Int) : List AV := [.int .u64 m, .undef, .str t, .int .i64 n, .undef, .undef, .undef, .undef, .undef]
abbrev mo34 : List Bool := [true, false, true, true, false, false, false, false, false]
noncomputable def co34 (m : Nat) (n : Int) (t : List UInt8) : Bool := leI 0 (m : Int) && (leI (m : Int) 18446744073709551615 && (leI 0 n && (leI n 13 && (true && Nat.ble t.length 900))))
theorem ro34 (m : Nat) (n : Int) (t : List UInt8) : codeG C11 ZI34 60 34 kp34 ct34 isN mo34 bod34_0 (fo34 m t n) [] 0 = bif decide (n ≥ 0) then bif co34 m n t then some (.n, fo34 m (iNP (ln m) n.toNat t) (IntKind.i64.wrap (n - 1)), []) else none else none := by kernel_rfl
theorem eo34 (m : Nat) (t : List UInt8) : codeG C11 ZI34 60 34 kp34 ct34 isEx mo34 bod34_0 (fo34 m t (-1)) [] 0 = some (.ex 0, fo34 m t (-1), []) := by kernel_rfl
theorem loop34 (m : Nat) (hm : m < 18446744073709551616) : Lp C11 fd34 bod34_0 (fo34 m [] 13) [] (.ex 0, fo34 m (oUP (ln m) 14) (-1), []) := by
  refine Lp.count (C := C11) (fd := fd34) (b := bod34_0) (q := (.ex 0, fo34 m (oUP (ln m) 14) (-1), [])) (S := fun i => (fo34 m (oUP (ln m) i) (13 - (i : Int)), [])) (N := 14) (fun i hi => ?_) ?_ 0 (by omega)
  · have l := oUP_len (ln m) i
    have c : co34 m (13 - (i : Int)) (oUP (ln m) i) = true := by
      unfold co34
      rw [leI_iff.2 (by omega), leI_iff.2 (by omega), leI_iff.2 (by omega), leI_iff.2 (by omega), Nat.ble_eq_true_of_le (by omega)]
      rfl
    have e2 : IntKind.i64.wrap (13 - (i : Int) - 1) = 13 - ((i + 1 : Nat) : Int) := by rw [i64w (by omega)]; omega
    have et : (13 - (i : Int)).toNat = 13 - i := by omega
    have hr1 : codeG C11 ZI34 60 34 kp34 ct34 isN mo34 bod34_0 (fo34 m (oUP (ln m) i) (13 - (i : Int))) [] 0 = some (.n, fo34 m (oUP (ln m) (i + 1)) (13 - ((i + 1 : Nat) : Int)), []) := by
      rw [ro34, decide_eq_true (by omega), cond_true, c, cond_true, e2, et]
      rfl
    exact Does.runG ok11 zI34 rfl rfl fdat34 hb34 bin34_0 60 rfl hr1
  · exact .out (Does.runG ok11 zI34 rfl rfl fdat34 hb34 bin34_0 60 rfl (eo34 m _)) (by simp)
noncomputable def lR34 : SumF := fun vs H => match vs, H with
  | [.int .u64 m, _a, .str t, .int .i64 n, _b, _c, _d, _e, _f], [] =>
    .chk (leI 0 m && (leI m 18446744073709551615 && (n == 13 && t.isEmpty)))
      (.leaf (.n, [.undef, .undef, .str (shut (pStr (pat m.toNat))), .undef, .undef, .undef, .undef, .undef, .undef], []))
  | _, _ => .fail
theorem does34 (m : Nat) (a b c d e f : AV) (hm : m < 18446744073709551616) : Does C11 fd34 blk34_0 [.int .u64 m, a, .str [], .int .i64 13, b, c, d, e, f] []
    (.n, [.undef, .undef, .str (pStr (pat m)), .undef, .undef, .undef, .undef, .undef, .undef], []) := by
  have h := loop34 m hm
  rw [oUP_pat] at h
  rw [is34_0]
  generalize pStr (pat m) = y at *
  exact (Does.block h.does).le (.k (.u (.k (.k (.u (.u (.u (.u (.u .nil))))))))) (.u (.k (.k (.u (.k (.k (.k (.k (.k .nil)))))))))
theorem zl34 : ZEnt C11 (34, isBlk 0, lenF lR34) := zent_does fdat34 hb34 one34_0 fun vs H q hv hr => by
  unfold lR34 at hr
  split at hr
  · rename_i m a t n b c d e f
    obtain ⟨hc, hr2⟩ := T.of_chk hr
    clear hr
    simp only [Bool.and_eq_true, beq_iff_eq, leI_iff, List.isEmpty_iff] at hc
    obtain ⟨h0, h1, rfl, rfl⟩ := hc
    cases Option.some.inj hr2
    obtain ⟨m, rfl⟩ : ∃ n : Nat, m = n := ⟨m.toNat, by omega⟩
    simp only [Int.toNat_natCast, shut_eq]
    exact does34 m a b c d e f (by omega)
  · simp [T.run] at hr
noncomputable def ZR34 : FuncId → Code → Option SumF := zAt [(34, isBlk 0, lenF lR34)]
theorem zR34 : ZOk C11 ZR34 := zAt_ok keepOk11 fun e he => by
  simp only [List.mem_cons, List.not_mem_nil, or_false] at he
  rcases he with rfl
  exact zl34
theorem tR34 (m : Nat) : callsM C11 ZR34 60 34 [.int .u64 m] = bif leI 0 (m : Int) && (leI (m : Int) 18446744073709551615 && (true && true)) then some (.str (shut (pStr (pat m)))) else none := by kernel_rfl
noncomputable def sRPat : List AV → T AV
  | [.int .u64 m] => .chk (leI 0 m && leI m 18446744073709551615) (.leaf (.str (shut (pStr (pat m.toNat)))))
  | _ => .fail
theorem iso34 : ∀ args v, (sRPat args).run = some v → callsM C11 ZR34 60 34 args = some v := by
  intro args v hr
  unfold sRPat at hr
  split at hr
  · rename_i m
    obtain ⟨hc, hr2⟩ := T.of_chk hr
    clear hr
    simp only [Bool.and_eq_true, leI_iff] at hc
    obtain ⟨m, rfl⟩ : ∃ n : Nat, m = n := ⟨m.toNat, by omega⟩
    rw [tR34, leI_iff.2 hc.1, leI_iff.2 hc.2, Bool.and_self, Bool.and_self, Bool.and_self, cond_true]
    exact hr2
  · simp [T.run] at hr
theorem sum34 : SumAt C11 (34, sRPat) := ⟨callsM_fn ok11 zR34 (iso34 [.int .u64 0] _ rfl), fun args v hr => callsM_iso ok11 zR34 (iso34 args v hr)⟩
end Go.Proofs.YtgellkpbcoeccaaDoor
