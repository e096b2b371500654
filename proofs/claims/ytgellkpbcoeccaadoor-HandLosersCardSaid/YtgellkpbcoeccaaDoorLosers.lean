/- Chapter 5: HandLosers. -/
import Derived.Test.YtgellkpbcoeccaaDoorP1
namespace Go.Proofs.YtgellkpbcoeccaaDoor
open Go Go.Ev Go.Ev.Bits

abbrev kp7 : List Tmp := [0, 2, 3, 4, 5, 6, 7, 8, 9, 13, 14, 15, 70]
abbrev ct7 : List Tmp := [15, 70]
noncomputable def body7 : Code := Tryd.f7.body.getD .skip
noncomputable def fd7 : FD := { fn := Tryd.f7, keep := kp7, ct := ct7 }
theorem fdat7 : C6.code 7 = some fd7 := by kernel_rfl
theorem hb7 : fd7.fn.body = some body7 := by kernel_rfl
noncomputable def blk7_0 : Code := piece (isBlk 0) body7
theorem one7_0 : (pieceL (isBlk 0) body7).length = 1 := by kernel_rfl
theorem in7_0 : blk7_0 ∈ subs body7 := piece_in one7_0
noncomputable def bod7_0 : Code := unLoop (unBlk blk7_0)
theorem is7_0 : blk7_0 = .block 0 (.loop bod7_0) := by kernel_rfl
theorem bin7_0 : bod7_0 ∈ subs body7 := loop_in (block_in (id := 0) (is7_0 ▸ in7_0))

noncomputable def one7 (n : Nat) (i : Int) : Int := IntKind.u64.wrap ↑(BitVec.ofInt IntKind.u64.bits (n : Int) &&& BitVec.ofInt IntKind.u64.bits (IntKind.u64.wrap (8191 * 2 ^ min (IntKind.i64.wrap (13 * i)).toNat IntKind.u64.bits))).toNat
noncomputable def lo7 (n : Nat) (i : Int) : Int := ((shut (sumS losS (one7 n i).toNat) : Nat) : Int)
noncomputable def bit16 (h : Int) (r : Int) : Int := IntKind.u16.wrap ↑(BitVec.ofInt IntKind.u16.bits (h.fdiv (2 ^ min r.toNat IntKind.u16.bits)) &&& BitVec.ofInt IntKind.u16.bits 1).toNat
noncomputable def hI (n i : Nat) : Int := ((shut (hd n i) : Nat) : Int)
noncomputable def tops7 (n i : Nat) : Int := IntKind.i64.wrap (IntKind.u16.wrap (IntKind.u16.wrap (bit16 (hI n i) 12 + bit16 (hI n i) 11) + bit16 (hI n i) 10))
abbrev fr7 (n : Nat) (s l0 l1 l2 l3 c : Int) : List AV := [.int .u64 n, .undef, .int .i64 s, .undef, .undef, .undef, .undef, .undef, .undef, .agg [.int .i64 l0, .int .i64 l1, .int .i64 l2, .int .i64 l3], .int .i64 c, .undef, .undef]
abbrev m7 : List Bool := [true, true, true, false, false, false, false, false, false, true, true, false, false]
noncomputable def tree7 (lo l : Int) (c2 c3 : Bool) (L : Option (X × List AV × Heap)) : Option (X × List AV × Heap) :=
  bif decide (lo > bif decide (3 < l) then 3 else l) then none else bif decide (l ≥ 3) then bif c2 then none else bif l == 1 then bif c3 then none else L else L else bif l == 1 then bif c3 then none else L else L
noncomputable def c27 (n i : Nat) (ii : Int) : Bool := IntKind.i64.wrap (lo7 n ii + tops7 n i) != 3
noncomputable def c37 (n i : Nat) (ii : Int) : Bool := !((lo7 n ii == 1) == ((hI n i).fdiv 4096 == 0))
noncomputable def nx7 (n : Nat) (s : Int) (ii : Int) : Int := IntKind.i64.wrap (s + lo7 n ii)
theorem r7_0 (n : Nat) (s l0 l1 l2 l3 : Int) : codeK C6 Z2 60 7 kp7 ct7 isN m7 bod7_0 (fr7 n s l0 l1 l2 l3 0) [] 0 = tree7 (lo7 n 0) l0 (c27 n 0 0) (c37 n 0 0) (some (.n, fr7 n (nx7 n s 0) l0 l1 l2 l3 1, [])) := by kernel_rfl
theorem r7_1 (n : Nat) (s l0 l1 l2 l3 : Int) : codeK C6 Z2 60 7 kp7 ct7 isN m7 bod7_0 (fr7 n s l0 l1 l2 l3 1) [] 0 = tree7 (lo7 n 1) l1 (c27 n 1 1) (c37 n 1 1) (some (.n, fr7 n (nx7 n s 1) l0 l1 l2 l3 2, [])) := by kernel_rfl
theorem r7_2 (n : Nat) (s l0 l1 l2 l3 : Int) : codeK C6 Z2 60 7 kp7 ct7 isN m7 bod7_0 (fr7 n s l0 l1 l2 l3 2) [] 0 = tree7 (lo7 n 2) l2 (c27 n 2 2) (c37 n 2 2) (some (.n, fr7 n (nx7 n s 2) l0 l1 l2 l3 3, [])) := by kernel_rfl
theorem r7_3 (n : Nat) (s l0 l1 l2 l3 : Int) : codeK C6 Z2 60 7 kp7 ct7 isN m7 bod7_0 (fr7 n s l0 l1 l2 l3 3) [] 0 = tree7 (lo7 n 3) l3 (c27 n 3 3) (c37 n 3 3) (some (.n, fr7 n (nx7 n s 3) l0 l1 l2 l3 4, [])) := by kernel_rfl
theorem r7_4 (n : Nat) (s l0 l1 l2 l3 : Int) : codeK C6 Z2 60 7 kp7 ct7 isEx m7 bod7_0 (fr7 n s l0 l1 l2 l3 4) [] 0 = some (.ex 0, fr7 n s l0 l1 l2 l3 4, []) := by kernel_rfl

theorem bit16_eq (h r : Nat) (hr : r ≤ 15) : bit16 (h : Int) (r : Int) = (b2n (hb h r) : Nat) := by
  unfold bit16
  have e2 : min ((r : Int)).toNat IntKind.u16.bits = r := by show min r 16 = _; omega
  rw [e2, fdiv_pos _ (by exact Int.le_of_lt (Int.pow_pos (by omega)))]
  have := and_mask 16 1 (by omega) ((h : Int) / (2 ^ r))
  rw [show IntKind.u16.bits = 16 from rfl, show (1 : Int) = ((2 ^ 1 - 1 : Nat) : Int) from rfl, this, u16w]
  have e3 : (h : Int) / (2 ^ r) = ((h / 2 ^ r : Nat) : Int) := by simp
  rw [e3]
  unfold hb
  generalize h / 2 ^ r = x
  rcases Nat.mod_two_eq_zero_or_one x with e | e <;> rw [e]
  · show _ = (0 : Int); omega
  · show _ = (1 : Int); omega
theorem tops7_eq (n i : Nat) : tops7 n i = (b2n (hb (hd n i) 12) + (b2n (hb (hd n i) 11) + b2n (hb (hd n i) 10)) : Nat) := by
  unfold tops7 hI
  rw [shut_eq]
  have e12 := bit16_eq (hd n i) 12 (by omega)
  have e11 := bit16_eq (hd n i) 11 (by omega)
  have e10 := bit16_eq (hd n i) 10 (by omega)
  rw [show (12 : Int) = ((12 : Nat) : Int) from rfl, show (11 : Int) = ((11 : Nat) : Int) from rfl, show (10 : Int) = ((10 : Nat) : Int) from rfl, e12, e11, e10]
  have l2 := b2n_le (hb (hd n i) 12)
  have l1 := b2n_le (hb (hd n i) 11)
  have l0 := b2n_le (hb (hd n i) 10)
  generalize b2n (hb (hd n i) 12) = x at *
  generalize b2n (hb (hd n i) 11) = y at *
  generalize b2n (hb (hd n i) 10) = z at *
  rw [u16w, u16w, i64w (by omega)]
  omega
theorem losS_zero : losS 0 = 0 := by decide
theorem one7_eq (n : Nat) (hn : n < 18446744073709551616) (i : Nat) (hi : i < 4) : one7 n (i : Int) = ((n &&& (8191 * 2 ^ (13 * i)) : Nat) : Int) := by
  unfold one7
  have hp : 8191 * 2 ^ (13 * i) < 18446744073709551616 := by
    have : i = 0 ∨ i = 1 ∨ i = 2 ∨ i = 3 := by omega
    rcases this with rfl | rfl | rfl | rfl <;> decide
  have e : IntKind.u64.wrap (8191 * 2 ^ min (IntKind.i64.wrap (13 * (i : Int))).toNat IntKind.u64.bits) = ((8191 * 2 ^ (13 * i) : Nat) : Int) := by
    rw [i64w (by omega), show min (13 * (i : Int)).toNat IntKind.u64.bits = 13 * i by show min _ 64 = _; omega, u64w]
    have : (8191 * 2 ^ (13 * i) : Int) = ((8191 * 2 ^ (13 * i) : Nat) : Int) := by simp
    rw [this]; omega
  rw [e]
  exact and64_nat n _ hn hp
theorem lo7_eq (n : Nat) (hn : n < 18446744073709551616) (i : Nat) (hi : i < 4) : lo7 n (i : Int) = (losS (hd n i) : Nat) := by
  unfold lo7
  rw [one7_eq n hn i hi, shut_eq, Int.toNat_natCast]
  unfold sumS
  simp only [hd_one]
  have : i = 0 ∨ i = 1 ∨ i = 2 ∨ i = 3 := by omega
  rcases this with rfl | rfl | rfl | rfl <;> simp [losS_zero]
theorem tree7_eq (n : Nat) (hn : n < 18446744073709551616) (i : Nat) (hi : i < 4) (L : Option (X × List AV × Heap)) : tree7 (lo7 n (i : Int)) (ln n i : Nat) (c27 n i (i : Int)) (c37 n i (i : Int)) L = L := by
  have hl := hd_lt n i
  have hf := losS_facts (hd n i) hl
  rw [bc16_hd] at hf
  have h3 := losS_le (hd n i)
  have c2 : 3 ≤ ln n i → c27 n i (i : Int) = false := fun h => by
    unfold c27
    rw [lo7_eq n hn i hi, tops7_eq, ← Int.natCast_add, hf.2.1 h]
    rfl
  have c3 : ln n i = 1 → c37 n i (i : Int) = false := fun h => by
    unfold c37 hI
    rw [lo7_eq n hn i hi, shut_eq]
    have h1 := hf.2.2 h
    have a1 : ((losS (hd n i) : Int) == 1) = decide (losS (hd n i) = 1) := by
      rw [show (1 : Int) = ((1 : Nat) : Int) from rfl, beq_nat]
      by_cases e : losS (hd n i) = 1
      · rw [e]; rfl
      · rw [decide_eq_false e]
        cases hx : Nat.beq (losS (hd n i)) 1
        · rfl
        · exact absurd (Nat.eq_of_beq_eq_true hx) e
    have a2 : (((hd n i : Nat) : Int).fdiv 4096 == 0) = decide (hd n i / 4096 = 0) := by
      rw [fdiv_pos _ (by omega)]
      by_cases e : hd n i / 4096 = 0
      · rw [decide_eq_true e, show ((hd n i : Nat) : Int) / 4096 = 0 by omega]; rfl
      · rw [decide_eq_false e]
        simp; omega
    rw [a1, a2]
    by_cases e : losS (hd n i) = 1
    · rw [decide_eq_true e, decide_eq_true (h1.1 e)]; rfl
    · rw [decide_eq_false e, decide_eq_false (fun x => e (h1.2 x))]; rfl
  unfold tree7
  rw [lo7_eq n hn i hi]
  have d1 : decide (((losS (hd n i) : Nat) : Int) > bif decide (3 < ((ln n i : Nat) : Int)) then 3 else ((ln n i : Nat) : Int)) = false := by
    apply decide_eq_false
    by_cases e : 3 < ((ln n i : Nat) : Int)
    · rw [decide_eq_true e, cond_true]; omega
    · rw [decide_eq_false e, cond_false]; omega
  rw [d1, cond_false]
  have d1' : (((ln n i : Nat) : Int) == 1) = decide (ln n i = 1) := by
    by_cases e : ln n i = 1
    · rw [e]; rfl
    · rw [decide_eq_false e]; simp; omega
  rw [d1']
  by_cases e : 3 ≤ ln n i
  · rw [decide_eq_true (by omega : ((ln n i : Nat) : Int) ≥ 3), cond_true, c2 e, cond_false, decide_eq_false (by omega : ¬ ln n i = 1), cond_false]
  · rw [decide_eq_false (by omega : ¬ ((ln n i : Nat) : Int) ≥ 3), cond_false]
    by_cases e1 : ln n i = 1
    · rw [decide_eq_true e1, cond_true, c3 e1, cond_false]
    · rw [decide_eq_false e1, cond_false]
abbrev fs7 (n : Nat) (s : Int) (c : Int) : List AV := fr7 n s (ln n 0 : Nat) (ln n 1 : Nat) (ln n 2 : Nat) (ln n 3 : Nat) c
theorem loop7 (n : Nat) (hn : n < 18446744073709551616) : Lp C6 fd7 bod7_0 (fs7 n 0 0) [] (.ex 0, fs7 n (sumS losS n : Nat) 4, []) := by
  have st (s : Nat) (i : Nat) (hi : i < 4) (hs : s ≤ 100) : nx7 n (s : Int) (i : Int) = ((s + losS (hd n i) : Nat) : Int) := by
    unfold nx7
    have := losS_le (hd n i)
    rw [lo7_eq n hn i hi, i64w (by omega)]; omega
  have l0 := losS_le (hd n 0)
  have l1 := losS_le (hd n 1)
  have l2 := losS_le (hd n 2)
  have d {x : X} {vs vs1 : List AV} {want : X → Bool} (hv : vs.length = fd7.keep.length) (h : codeK C6 Z2 60 7 kp7 ct7 want m7 bod7_0 vs [] 0 = some (x, vs1, [])) : Does C6 fd7 bod7_0 vs [] (x, vs1, []) := Does.runK ok6 z6 rfl rfl fdat7 hb7 bin7_0 60 hv h
  refine .on (d rfl ((r7_0 _ _ _ _ _ _).trans (tree7_eq n hn 0 (by omega) _))) ?_
  rw [show nx7 n 0 0 = _ from st 0 0 (by omega) (by omega)]
  refine .on (d rfl ((r7_1 _ _ _ _ _ _).trans (tree7_eq n hn 1 (by omega) _))) ?_
  rw [show nx7 n _ 1 = _ from st _ 1 (by omega) (by omega)]
  refine .on (d rfl ((r7_2 _ _ _ _ _ _).trans (tree7_eq n hn 2 (by omega) _))) ?_
  rw [show nx7 n _ 2 = _ from st _ 2 (by omega) (by omega)]
  refine .on (d rfl ((r7_3 _ _ _ _ _ _).trans (tree7_eq n hn 3 (by omega) _))) ?_
  rw [show nx7 n _ 3 = _ from st _ 3 (by omega) (by omega)]
  have e : sumS losS n = 0 + losS (hd n 0) + losS (hd n 1) + losS (hd n 2) + losS (hd n 3) := by unfold sumS; omega
  rw [e]
  exact .out (d rfl (r7_4 _ _ _ _ _ _)) (by simp)

/-- What the check of the suits gives. -/
noncomputable def l7 : SumF := fun vs H => match vs, H with
  | [.int .u64 n, _r, .int .i64 s, _u1, _u2, _u3, _u4, _u5, _u6, .agg [.int .i64 l0, .int .i64 l1, .int .i64 l2, .int .i64 l3], .int .i64 c, _x, _y], [] =>
    .chk (leI 0 n && (leI n 18446744073709551615 && (s == 0 && (c == 0 && (l0 == (shut (ln n.toNat 0) : Nat) && (l1 == (shut (ln n.toNat 1) : Nat) && (l2 == (shut (ln n.toNat 2) : Nat) && l3 == (shut (ln n.toNat 3) : Nat))))))))
      (.leaf (.n, [.int .u64 n, .undef, .int .i64 (shut (sumS losS n.toNat) : Nat), .undef, .undef, .undef, .undef, .undef, .undef, .undef, .undef, .undef, .undef], []))
  | _, _ => .fail
theorem zl7 : ZEnt C6 (7, isBlk 0, lenF l7) := zent_does fdat7 hb7 one7_0 fun vs H q hv hr => by
  unfold l7 at hr
  split at hr
  · rename_i n r s u1 u2 u3 u4 u5 u6 l0 l1 l2 l3 c x y
    obtain ⟨hc, hr2⟩ := T.of_chk hr
    clear hr
    simp only [Bool.and_eq_true, leI_iff, beq_iff_eq, shut_eq] at hc
    obtain ⟨h0, h1, rfl, rfl, rfl, rfl, rfl, rfl⟩ := hc
    cases Option.some.inj hr2
    obtain ⟨n, rfl⟩ : ∃ m : Nat, n = m := ⟨n.toNat, by omega⟩
    rw [shut_eq]
    show Does C6 fd7 blk7_0 _ _ _
    rw [is7_0]
    exact (Does.block (loop7 n (by omega)).does).le (.k (.u (.k (.u (.u (.u (.u (.u (.u (.k (.k (.u (.u .nil))))))))))))) (.k (.k (.k (.u (.u (.u (.u (.u (.u (.u (.u (.u (.u .nil)))))))))))))
  · simp [T.run] at hr
noncomputable def Z7 : FuncId → Code → Option SumF := zAt [(7, isBlk 0, lenF l7)]
theorem keepOk6 : ∀ f fd, C6.code f = some fd → fd.keep.Nodup := keepOk
theorem z7 : ZOk C6 Z7 := zAt_ok keepOk6 fun e he => by
  simp only [List.mem_cons, List.not_mem_nil, or_false] at he
  rcases he with rfl
  exact zl7

noncomputable def lnS (k i : Nat) : Int := ((shut (ln k i) : Nat) : Int)
theorem t7 (m : Nat) : callsM C6 Z7 60 7 [.int .u64 m] =
    bif leI 0 ((m % 4503599627370496 : Nat) : Int) && (leI ((m % 4503599627370496 : Nat) : Int) 18446744073709551615 && (true && (true && (lnS (m % 4503599627370496) 0 == lnS (m % 4503599627370496) 0 && (lnS (m % 4503599627370496) 1 == lnS (m % 4503599627370496) 1 && (lnS (m % 4503599627370496) 2 == lnS (m % 4503599627370496) 2 && lnS (m % 4503599627370496) 3 == lnS (m % 4503599627370496) 3)))))) then
      bif ((shut (sumS losS (m % 4503599627370496)) : Nat) : Int) == ((shut (sumS losS (m % 4503599627370496)) : Nat) : Int) then bif decide (((shut (sumS losS (m % 4503599627370496)) : Nat) : Int) ≤ 12) then some (.bool true) else some (.bool false) else some (.bool false) else none := by kernel_rfl
/-- HandLosers is true. -/
theorem losers_run (m : Int) (h : 0 ≤ m ∧ m ≤ 18446744073709551615) : callsM C6 Z7 60 7 [.int .u64 m] = some (.bool true) := by
  obtain ⟨m, rfl⟩ : ∃ k : Nat, m = k := ⟨m.toNat, by omega⟩
  have l0 := losS_le (hd (m % 4503599627370496) 0)
  have l1 := losS_le (hd (m % 4503599627370496) 1)
  have l2 := losS_le (hd (m % 4503599627370496) 2)
  have l3 := losS_le (hd (m % 4503599627370496) 3)
  rw [t7, leI_iff.2 (by omega), leI_iff.2 (by omega)]
  simp only [beq_self_eq_true, Bool.and_self, cond_true, shut_eq]
  rw [decide_eq_true (by unfold sumS; omega)]
  rfl
end Go.Proofs.YtgellkpbcoeccaaDoor
