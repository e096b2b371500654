/- Chapter 1: FracWide is true. -/
import Derived.Test.YtbblfgfaoolloaaDoorWi2
namespace Go.Proofs.YtbblfgfaoolloaaDoor
open Go Go.Ev Go.Ev.Bits

theorem fits_n {p : Rat} (h : fitsB p = true) : i64k p.num = true ∧ i64k (p.den : Int) = true := by
  unfold fitsB at h
  simp only [Bool.and_eq_true, decide_eq_true_eq] at h
  obtain ⟨h1, h2, h3⟩ := h
  have := Nat.le_of_ble_eq_true h1
  exact ⟨i64k_iff.2 ⟨h3, h2⟩, i64k_iff.2 (by omega)⟩
section
variable {p q : Rat} (hp : fitsB p = true) (hq : fitsB q = true)
include hp hq
theorem u4_f : u4 p.num p.den q.num q.den = true := by unfold u4; rw [(fits_n hp).1, (fits_n hp).2, (fits_n hq).1, (fits_n hq).2]; rfl
theorem okA_f (h : fitsB (p + q) = true) : okA p.num p.den q.num q.den = true := by unfold okA; rw [u4_f hp hq, rtN_rat, rtN_rat, toQ_rat, toQ_rat, h]; rfl
theorem okS_f (h : fitsB (p - q) = true) : okS p.num p.den q.num q.den = true := by unfold okS; rw [u4_f hp hq, rtN_rat, rtN_rat, toQ_rat, toQ_rat, h]; rfl
theorem okM_f (h : fitsB (p * q) = true) : okM p.num p.den q.num q.den = true := by unfold okM; rw [u4_f hp hq, rtN_rat, rtN_rat, toQ_rat, toQ_rat, h]; rfl
theorem okD_f (h : fitsB (p / q) = true) (h0 : q.num ≠ 0) : okD p.num p.den q.num q.den = true := by unfold okD; rw [u4_f hp hq, rtN_rat, rtN_rat, toQ_rat, toQ_rat, h, show (q.num != 0) = true from by simpa using h0]; rfl
theorem okLA_f (h : fitsB (p + q) = false) : okLA p.num p.den q.num q.den = true := by unfold okLA; rw [u4_f hp hq, rtN_rat, rtN_rat, toQ_rat, toQ_rat, h]; rfl
theorem okLS_f (h : fitsB (p - q) = false) : okLS p.num p.den q.num q.den = true := by unfold okLS; rw [u4_f hp hq, rtN_rat, rtN_rat, toQ_rat, toQ_rat, h]; rfl
theorem okLM_f (h : fitsB (p * q) = false) : okLM p.num p.den q.num q.den = true := by unfold okLM; rw [u4_f hp hq, rtN_rat, rtN_rat, toQ_rat, toQ_rat, h]; rfl
theorem okLD_f (h : fitsB (p / q) = false) (h0 : q.num ≠ 0) : okLD p.num p.den q.num q.den = true := by unfold okLD; rw [u4_f hp hq, rtN_rat, rtN_rat, toQ_rat, toQ_rat, h, show (q.num != 0) = true from by simpa using h0]; rfl
theorem okZD_f (h0 : q.num = 0) : okZD p.num p.den q.num q.den = true := by unfold okZD; rw [u4_f hp hq, rtN_rat, rtN_rat, show (q.num == 0) = true from by simpa using h0]; rfl
end
theorem gx_eq {u : Bool} (h : u = true) (k : OX) : gx u k = k := by unfold gx; rw [h]; rfl
/-- Back again. -/
theorem bk6_eq {p q x : Rat} (ok : Int → Int → Int → Int → Bool) (n d : Int → Int → Int → Int → Int) (i : Int) (hx : fitsB x = true) (hok : ok x.num x.den q.num q.den = true) (hn : n x.num x.den q.num q.den = p.num) (hd : d x.num x.den q.num q.den = (p.den : Int)) :
    bk6 p.num p.den q.num q.den ok n d x.num x.den i = nx6 p.num p.den q.num q.den i := by
  unfold bk6
  rw [gx_eq hok, gx_eq (by rw [(fits_n hx).1, (fits_n hx).2]; rfl), shut_eq, rtN_rat, hn, hd, beq_self_eq_true, beq_self_eq_true]
  rfl
section
variable {p q : Rat} (hp : fitsB p = true) (hq : fitsB q = true)
include hp hq
abbrev D6 (p q : Rat) (i j : Int) : Prop := Does C4 fd6 bod6_0 (fr6 i) (H6 p.num p.den q.num q.den) (.n, fr6 j, H6 p.num p.den q.num q.den)
theorem d0 : D6 p q 0 1 := by
  cases hs : fitsB (p + q)
  · refine Does.runG (C := C4) okG noZG rfl rfl (show CG.code 6 = _ from fdat6) hb6 bin6_0 60 rfl ((g0 p.num p.den q.num q.den).trans ?_)
    rw [gx_eq (okLA_f hp hq hs)]
    cases q.num == 0 <;> rfl
  · refine Does.runG (C := C4) ok6 noZ6 rfl rfl (show C6.code 6 = _ from fdat6) hb6 bin6_0 60 rfl ((w0 p.num p.den q.num q.den).trans ?_)
    have e : p + q - q = p := by grind
    rw [gx_eq (okA_f hp hq hs), aN_r, aD_r, bk6_eq okS dN dD 1 hs (okS_f hs hq (by rw [e]; exact hp)) (by rw [dN_r, e]) (by rw [dD_r, e])]
    rfl
theorem d1 : D6 p q 1 2 := by
  cases hs : fitsB (p - q)
  · refine Does.runG (C := C4) okG noZG rfl rfl (show CG.code 6 = _ from fdat6) hb6 bin6_0 60 rfl ((g1 p.num p.den q.num q.den).trans ?_)
    rw [gx_eq (okLS_f hp hq hs)]
    cases q.num == 0 <;> rfl
  · refine Does.runG (C := C4) ok6 noZ6 rfl rfl (show C6.code 6 = _ from fdat6) hb6 bin6_0 60 rfl ((w1 p.num p.den q.num q.den).trans ?_)
    have e : p - q + q = p := by grind
    rw [gx_eq (okS_f hp hq hs), dN_r, dD_r, bk6_eq okA aN aD 2 hs (okA_f hs hq (by rw [e]; exact hp)) (by rw [aN_r, e]) (by rw [aD_r, e])]
    rfl
theorem d2 : D6 p q 2 3 := by
  cases hs : fitsB (p * q)
  · refine Does.runG (C := C4) okG noZG rfl rfl (show CG.code 6 = _ from fdat6) hb6 bin6_0 60 rfl ((g2 p.num p.den q.num q.den).trans ?_)
    rw [gx_eq (okLM_f hp hq hs)]
    cases q.num == 0 <;> rfl
  · refine Does.runG (C := C4) ok6 noZ6 rfl rfl (show C6.code 6 = _ from fdat6) hb6 bin6_0 60 rfl ((w2 p.num p.den q.num q.den).trans ?_)
    rw [gx_eq (okM_f hp hq hs)]
    by_cases h0 : q.num = 0
    · rw [show (q.num == 0) = true from by simpa using h0]; rfl
    · have hz : q ≠ 0 := fun h => h0 (Rat.num_eq_zero.2 h)
      have e : p * q / q = p := by grind
      rw [show (q.num == 0) = false from by simpa using h0, cond_false, mN_r, mD_r, bk6_eq okD qN qD 3 hs (okD_f hs hq (by rw [e]; exact hp) h0) (by rw [qN_r, e]) (by rw [qD_r, e])]
      rfl
theorem d3 : D6 p q 3 4 := by
  by_cases h0 : q.num = 0
  · refine Does.runG (C := C4) okZ noZZ rfl rfl (show CZ.code 6 = _ from fdat6) hb6 bin6_0 60 rfl ((z3 p.num p.den q.num q.den).trans ?_)
    rw [gx_eq (okZD_f hp hq h0), show (q.num == 0) = true from by simpa using h0]; rfl
  · have hz : q ≠ 0 := fun h => h0 (Rat.num_eq_zero.2 h)
    cases hs : fitsB (p / q)
    · refine Does.runG (C := C4) okG noZG rfl rfl (show CG.code 6 = _ from fdat6) hb6 bin6_0 60 rfl ((g3 p.num p.den q.num q.den).trans ?_)
      rw [gx_eq (okLD_f hp hq hs h0), show (q.num == 0) = false from by simpa using h0]; rfl
    · refine Does.runG (C := C4) ok6 noZ6 rfl rfl (show C6.code 6 = _ from fdat6) hb6 bin6_0 60 rfl ((w3 p.num p.den q.num q.den).trans ?_)
      have e : p / q * q = p := by grind
      rw [gx_eq (okD_f hp hq hs h0), show (q.num == 0) = false from by simpa using h0, cond_false, qN_r, qD_r, bk6_eq okM mN mD 4 hs (okM_f hs hq (by rw [e]; exact hp)) (by rw [mN_r, e]) (by rw [mD_r, e])]
      rfl
theorem loop6 : Lp C4 fd6 bod6_0 (fr6 0) (H6 p.num p.den q.num q.den) (.ex 0, fr6 4, H6 p.num p.den q.num q.den) :=
  .on (d0 hp hq) (.on (d1 hp hq) (.on (d2 hp hq) (.on (d3 hp hq) (.out (Does.runG (C := C4) ok6 noZ6 rfl rfl (show C6.code 6 = _ from fdat6) hb6 bin6_0 60 rfl (wx p.num p.den q.num q.den)) (by simp)))))
end
noncomputable def fOK (n d : Int) : Bool := rtN n d && fitsB (toQ n d)
noncomputable def l6 : SumF := fun vs H => match vs, H with
  | [_a0, _a1, _a2, _a3, _a4, .own 0 0, _a6, .own 1 0, _a8, _a9, .sl 1 3 0 4 (some 4), _b1, _b2, _b3, _b4, _b5, _b6, _b7, _b8, .sl 1 2 0 4 (some 4), .int .i64 k, .int .i64 i, _c1, _c2, _c3, _c4, _c5],
    [some ⟨26, [.int .i64 fn, .int .i64 fd]⟩, some ⟨26, [.int .i64 gn, .int .i64 gd]⟩, some ⟨32, [.fn 15 [] [], .fn 14 [] [], .fn 16 [] [], .fn 20 [] []]⟩, some ⟨32, [.fn 14 [] [], .fn 15 [] [], .fn 20 [] [], .fn 16 [] []]⟩] =>
    .chk (k == 4 && (i == 0 && (fOK fn fd && fOK gn gd))) (.leaf (.n, List.replicate 27 .undef, H6 fn fd gn gd))
  | _, _ => .fail
theorem does6 {p q : Rat} (hp : fitsB p = true) (hq : fitsB q = true) (a0 a1 a2 a3 a4 a6 a8 a9 b1 b2 b3 b4 b5 b6 b7 b8 c1 c2 c3 c4 c5 : AV) :
    Does C4 fd6 blk6_0 [a0, a1, a2, a3, a4, .own 0 0, a6, .own 1 0, a8, a9, .sl 1 3 0 4 (some 4), b1, b2, b3, b4, b5, b6, b7, b8, .sl 1 2 0 4 (some 4), .int .i64 4, .int .i64 0, c1, c2, c3, c4, c5] (H6 p.num p.den q.num q.den)
      (.n, List.replicate 27 .undef, H6 p.num p.den q.num q.den) := by
  have h := loop6 hp hq
  rw [is6_0]
  exact (Does.block h.does).le (.u (.u (.u (.u (.u (.k (.u (.k (.u (.u (.k (.u (.u (.u (.u (.u (.u (.u (.u (.k (.k (.k (.u (.u (.u (.u (.u .nil))))))))))))))))))))))))))) (.u (.u (.u (.u (.u (.u (.u (.u (.u (.u (.u (.u (.u (.u (.u (.u (.u (.u (.u (.u (.u (.u (.u (.u (.u (.u (.u .nil)))))))))))))))))))))))))))
theorem zl6 : ZEnt C4 (6, isBlk 0, lenF l6) := zent_does fdat6 hb6 one6_0 fun vs H q hv hr => by
  unfold l6 at hr
  split at hr
  · rename_i a0 a1 a2 a3 a4 a6 a8 a9 b1 b2 b3 b4 b5 b6 b7 b8 k i c1 c2 c3 c4 c5 fn fd gn gd
    obtain ⟨hc, hr2⟩ := T.of_chk hr
    clear hr
    unfold fOK at hc
    simp only [Bool.and_eq_true, beq_iff_eq] at hc
    obtain ⟨rfl, rfl, ⟨r1, f1⟩, r2, f2⟩ := hc
    cases Option.some.inj hr2
    have := does6 f1 f2 a0 a1 a2 a3 a4 a6 a8 a9 b1 b2 b3 b4 b5 b6 b7 b8 c1 c2 c3 c4 c5
    rw [(toQ_eq r1).1, (toQ_eq r1).2, (toQ_eq r2).1, (toQ_eq r2).2] at this
    exact this
  · simp [T.run] at hr
noncomputable def Z6 : FuncId → Code → Option SumF := zAt [(6, isBlk 0, lenF l6)]
theorem z6 : ZOk C4 Z6 := zAt_ok (show ∀ f fd, C4.code f = some fd → fd.keep.Nodup from keepOk) fun e he => by
  simp only [List.mem_cons, List.not_mem_nil, or_false] at he
  rcases he with rfl
  exact zl6
noncomputable def t6R (a b c d : Int) : Option AV := gd (i64k a && i64k b) (gd (i64k c && i64k d) (bif shut (mkF a b).2.2 != 0 then tB true else bif shut (mkF c d).2.2 != 0 then tB true else gd (true && (true && (fOK (shut (mkF a b).1) (shut (mkF a b).2.1) && fOK (shut (mkF c d).1) (shut (mkF c d).2.1)))) (tB true)))
theorem t6 (a b c d : Int) : callsM C4 Z6 60 6 [.int .i64 a, .int .i64 b, .int .i64 c, .int .i64 d] = t6R a b c d := by kernel_rfl
theorem mkF_ok (a b : Int) : (mkF a b).2.2 ≠ 0 ∨ fOK (mkF a b).1 (mkF a b).2.1 = true := by
  unfold mkF
  by_cases h : b = 0
  · subst h
    refine .inl ?_
    show (2 : Int) ≠ 0
    decide
  · rw [show (b == 0) = false from by simpa using h, cond_false, makeN_eq a b h]
    generalize mkRat (sgn (decide (b < 0)) 1 * a) b.natAbs = x
    cases hf : fitsB x
    · rw [fitR_no hf]; exact .inl (by decide)
    · rw [fitR_ok hf]
      refine .inr ?_
      show fOK x.num x.den = true
      unfold fOK
      rw [rtN_rat, toQ_rat, hf]
      rfl
/-- FracWide is true. -/
theorem wide_run (a b c d : Int) (ha : -9223372036854775808 ≤ a ∧ a ≤ 9223372036854775807) (hb : -9223372036854775808 ≤ b ∧ b ≤ 9223372036854775807) (hc : -9223372036854775808 ≤ c ∧ c ≤ 9223372036854775807) (hd : -9223372036854775808 ≤ d ∧ d ≤ 9223372036854775807) :
    callsM C4 Z6 60 6 [.int .i64 a, .int .i64 b, .int .i64 c, .int .i64 d] = some (.bool true) := by
  rw [t6]
  unfold t6R
  rw [gd_eq (by rw [i64k_iff.2 ha, i64k_iff.2 hb]; rfl), gd_eq (by rw [i64k_iff.2 hc, i64k_iff.2 hd]; rfl)]
  simp only [shut_eq]
  rcases mkF_ok a b with h | h
  · rw [show ((mkF a b).2.2 != 0) = true from by simpa using h]; rfl
  · rcases mkF_ok c d with h2 | h2
    · rw [show ((mkF c d).2.2 != 0) = true from by simpa using h2]
      cases (mkF a b).2.2 != 0 <;> rfl
    · rw [h, h2]
      cases (mkF a b).2.2 != 0 <;> cases (mkF c d).2.2 != 0 <;> rfl
end Go.Proofs.YtbblfgfaoolloaaDoor
