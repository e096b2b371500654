/- Chapter 1: small fractions: operations that fit, under short names. -/
import Derived.Test.YtbblfgfaoolloaaDoorF10
namespace Go.Proofs.YtbblfgfaoolloaaDoor
open Go Go.Ev Go.Ev.Bits

theorem sum_less {C : Ctx} {f : FuncId} {F G : List AV → T AV} (h : SumAt C (f, F)) (hg : ∀ args v, (G args).run = some v → (F args).run = some v) : SumAt C (f, G) := ⟨h.1, fun args v hr => h.2 args v (hg args v hr)⟩
def fitsB (q : Rat) : Bool := Nat.ble q.den 9223372036854775807 && (decide (q.num ≤ 9223372036854775807) && decide (-9223372036854775808 ≤ q.num))
theorem fitR_ok {q : Rat} (h : fitsB q = true) : fitR q = (q.num, (q.den : Int), 0) := by
  unfold fitsB at h; unfold fitR; rw [h]; rfl
theorem fitsB_bd {q : Rat} {N D : Nat} (h : bdQ q N D) (hN : N ≤ 9223372036854775807) (hD : D ≤ 9223372036854775807) : fitsB q = true := by
  obtain ⟨h1, h2⟩ := h
  unfold fitsB
  rw [Nat.ble_eq_true_of_le (by omega), decide_eq_true (by omega), decide_eq_true (by omega)]; rfl
noncomputable def u4 (n1 d1 n2 d2 : Int) : Bool := i64k n1 && (i64k d1 && (i64k n2 && i64k d2))
def sq (a b : Int) : Rat := mkRat a (b % 32768 + 1).toNat
noncomputable def sN (a b : Int) : Int := shut (sq a b).num
noncomputable def sD (a b : Int) : Int := shut ((sq a b).den : Int)
theorem sq_bd (a b : Int) (ha : -32768 ≤ a ∧ a ≤ 32767) : bdQ (sq a b) 32768 32768 := bd_mk (by omega) (by omega) (by omega)
noncomputable def sSome : List AV → T AV
  | [.int .i16 a, .int .i16 b] => .chk (leI (-32768) a && (leI a 32767 && (leI (-32768) b && leI b 32767))) (.leaf (.agg [.int .i64 (sN a b), .int .i64 (sD a b)]))
  | _ => .fail
noncomputable def dn12 (b : Int) : Int := IntKind.i64.wrap (IntKind.i64.wrap ↑(BitVec.ofInt IntKind.i64.bits (IntKind.i64.wrap b) &&& BitVec.ofInt IntKind.i64.bits 32767).toNat + 1)
theorem t12 (a b : Int) : callsM C3 noZ 60 12 [.int .i16 a, .int .i16 b] = gd (i64k (IntKind.i64.wrap a) && i64k (dn12 b)) (some (.agg [.int .i64 (shut (mkF (IntKind.i64.wrap a) (dn12 b)).1), .int .i64 (shut (mkF (IntKind.i64.wrap a) (dn12 b)).2.1)])) := by kernel_rfl
theorem dn12_eq (b : Int) (hb : -32768 ≤ b ∧ b ≤ 32767) : dn12 b = b % 32768 + 1 := by
  unfold dn12
  rw [i64w (n := b) (by omega)]
  have e : ((BitVec.ofInt IntKind.i64.bits b &&& BitVec.ofInt IntKind.i64.bits 32767).toNat : Int) = b % 32768 := and_mask 64 15 (by omega) b
  rw [e, i64w (n := b % 32768) (by omega), i64w (by omega)]
theorem mkF_small (a d : Int) (hd : 0 < d) (hd2 : d ≤ 32768) (ha : -32768 ≤ a ∧ a ≤ 32767) : mkF a d = ((mkRat a d.toNat).num, ((mkRat a d.toNat).den : Int), 0) := by
  unfold mkF
  rw [show (d == 0) = false from by simpa using (by omega : d ≠ 0), cond_false, makeN_eq a d (by omega), decide_eq_false (by omega)]
  have e : sgn false 1 * a = a := by unfold sgn; rw [cond_false]; exact Int.one_mul a
  have e2 : d.natAbs = d.toNat := by omega
  rw [e, e2]
  exact fitR_bd (bd_mk (by omega) (by omega) (by omega))
theorem iso12 : ∀ args v, (sSome args).run = some v → callsM C3 noZ 60 12 args = some v := by
  intro args v hr
  unfold sSome at hr
  split at hr
  · rename_i a b
    obtain ⟨hc, hr2⟩ := T.of_chk hr
    clear hr
    simp only [Bool.and_eq_true, leI_iff] at hc
    obtain ⟨h1, h2, h3, h4⟩ := hc
    rw [t12, dn12_eq b ⟨h3, h4⟩, i64w (n := a) (by omega), gd_eq (by rw [i64k_iff.2 (by omega), i64k_iff.2 (by omega)]; rfl), shut_eq, shut_eq, mkF_small a _ (by omega) (by omega) ⟨h1, h2⟩]
    unfold sN sD at hr2
    rw [shut_eq, shut_eq] at hr2
    exact hr2
  · simp [T.run] at hr
theorem sum12 : SumAt C3 (12, sSome) := ⟨callsM_fn ok3 noZ3 (iso12 [.int .i16 0, .int .i16 0] _ rfl), fun args v hr => callsM_iso ok3 noZ3 (iso12 args v hr)⟩

noncomputable def aN (n1 d1 n2 d2 : Int) : Int := shut (toQ n1 d1 + toQ n2 d2).num
noncomputable def aD (n1 d1 n2 d2 : Int) : Int := shut ((toQ n1 d1 + toQ n2 d2).den : Int)
noncomputable def okA (n1 d1 n2 d2 : Int) : Bool := u4 n1 d1 n2 d2 && (rtN n1 d1 && (rtN n2 d2 && (fitsB (toQ n1 d1 + toQ n2 d2))))
noncomputable def sAddQ : List AV → T AV
  | [.agg [.int .i64 n1, .int .i64 d1], .agg [.int .i64 n2, .int .i64 d2]] => .chk (okA n1 d1 n2 d2) (.leaf (.tup [.agg [.int .i64 (aN n1 d1 n2 d2), .int .i64 (aD n1 d1 n2 d2)], .int .i64 0]))
  | _ => .fail
theorem sum15q : SumAt C2 (15, sAddQ) := sum_less sum15 fun args v hr => by
  unfold sAddQ at hr
  split at hr
  · rename_i n1 d1 n2 d2
    obtain ⟨hc, hr2⟩ := T.of_chk hr
    clear hr
    unfold okA u4 at hc
    simp only [Bool.and_eq_true] at hc
    obtain ⟨⟨h1, h2, h3, h4⟩, r1, r2, hf⟩ := hc
    rw [← Option.some.inj hr2]
    unfold aN aD
    show (T.chk (i64k n1 && (i64k d1 && (i64k n2 && i64k d2))) (.leaf (triS (opA n1 d1 n2 d2)))).run = _
    rw [h1, h2, h3, h4, triS_eq, shut_eq, shut_eq]
    unfold opA
    rw [r1, r2]
    show some (tri (fitR (toQ n1 d1 + toQ n2 d2))) = _
    rw [fitR_ok hf]
    rfl
  · simp [T.run] at hr

noncomputable def dN (n1 d1 n2 d2 : Int) : Int := shut (toQ n1 d1 - toQ n2 d2).num
noncomputable def dD (n1 d1 n2 d2 : Int) : Int := shut ((toQ n1 d1 - toQ n2 d2).den : Int)
noncomputable def okS (n1 d1 n2 d2 : Int) : Bool := u4 n1 d1 n2 d2 && (rtN n1 d1 && (rtN n2 d2 && (fitsB (toQ n1 d1 - toQ n2 d2))))
noncomputable def sSubQ : List AV → T AV
  | [.agg [.int .i64 n1, .int .i64 d1], .agg [.int .i64 n2, .int .i64 d2]] => .chk (okS n1 d1 n2 d2) (.leaf (.tup [.agg [.int .i64 (dN n1 d1 n2 d2), .int .i64 (dD n1 d1 n2 d2)], .int .i64 0]))
  | _ => .fail
theorem sum14q : SumAt C2 (14, sSubQ) := sum_less sum14 fun args v hr => by
  unfold sSubQ at hr
  split at hr
  · rename_i n1 d1 n2 d2
    obtain ⟨hc, hr2⟩ := T.of_chk hr
    clear hr
    unfold okS u4 at hc
    simp only [Bool.and_eq_true] at hc
    obtain ⟨⟨h1, h2, h3, h4⟩, r1, r2, hf⟩ := hc
    rw [← Option.some.inj hr2]
    unfold dN dD
    show (T.chk (i64k n1 && (i64k d1 && (i64k n2 && i64k d2))) (.leaf (triS (opS n1 d1 n2 d2)))).run = _
    rw [h1, h2, h3, h4, triS_eq, shut_eq, shut_eq]
    unfold opS
    rw [r1, r2]
    show some (tri (fitR (toQ n1 d1 - toQ n2 d2))) = _
    rw [fitR_ok hf]
    rfl
  · simp [T.run] at hr

noncomputable def mN (n1 d1 n2 d2 : Int) : Int := shut (toQ n1 d1 * toQ n2 d2).num
noncomputable def mD (n1 d1 n2 d2 : Int) : Int := shut ((toQ n1 d1 * toQ n2 d2).den : Int)
noncomputable def okM (n1 d1 n2 d2 : Int) : Bool := u4 n1 d1 n2 d2 && (rtN n1 d1 && (rtN n2 d2 && (fitsB (toQ n1 d1 * toQ n2 d2))))
noncomputable def sMulQ : List AV → T AV
  | [.agg [.int .i64 n1, .int .i64 d1], .agg [.int .i64 n2, .int .i64 d2]] => .chk (okM n1 d1 n2 d2) (.leaf (.tup [.agg [.int .i64 (mN n1 d1 n2 d2), .int .i64 (mD n1 d1 n2 d2)], .int .i64 0]))
  | _ => .fail
theorem sum16q : SumAt C2 (16, sMulQ) := sum_less sum16 fun args v hr => by
  unfold sMulQ at hr
  split at hr
  · rename_i n1 d1 n2 d2
    obtain ⟨hc, hr2⟩ := T.of_chk hr
    clear hr
    unfold okM u4 at hc
    simp only [Bool.and_eq_true] at hc
    obtain ⟨⟨h1, h2, h3, h4⟩, r1, r2, hf⟩ := hc
    rw [← Option.some.inj hr2]
    unfold mN mD
    show (T.chk (i64k n1 && (i64k d1 && (i64k n2 && i64k d2))) (.leaf (triS (opM n1 d1 n2 d2)))).run = _
    rw [h1, h2, h3, h4, triS_eq, shut_eq, shut_eq]
    unfold opM
    rw [r1, r2]
    show some (tri (fitR (toQ n1 d1 * toQ n2 d2))) = _
    rw [fitR_ok hf]
    rfl
  · simp [T.run] at hr

noncomputable def qN (n1 d1 n2 d2 : Int) : Int := shut (toQ n1 d1 / toQ n2 d2).num
noncomputable def qD (n1 d1 n2 d2 : Int) : Int := shut ((toQ n1 d1 / toQ n2 d2).den : Int)
noncomputable def okD (n1 d1 n2 d2 : Int) : Bool := u4 n1 d1 n2 d2 && (rtN n1 d1 && (rtN n2 d2 && (fitsB (toQ n1 d1 / toQ n2 d2) && n2 != 0)))
noncomputable def sDivQ : List AV → T AV
  | [.agg [.int .i64 n1, .int .i64 d1], .agg [.int .i64 n2, .int .i64 d2]] => .chk (okD n1 d1 n2 d2) (.leaf (.tup [.agg [.int .i64 (qN n1 d1 n2 d2), .int .i64 (qD n1 d1 n2 d2)], .int .i64 0]))
  | _ => .fail
theorem sum20q : SumAt C2 (20, sDivQ) := sum_less sum20 fun args v hr => by
  unfold sDivQ at hr
  split at hr
  · rename_i n1 d1 n2 d2
    obtain ⟨hc, hr2⟩ := T.of_chk hr
    clear hr
    unfold okD u4 at hc
    simp only [Bool.and_eq_true, bne_iff_ne] at hc
    obtain ⟨⟨h1, h2, h3, h4⟩, r1, r2, hf, hz⟩ := hc
    rw [← Option.some.inj hr2]
    unfold qN qD
    show (T.chk (i64k n1 && (i64k d1 && (i64k n2 && i64k d2))) (.leaf (triS (opD n1 d1 n2 d2)))).run = _
    rw [h1, h2, h3, h4, triS_eq, shut_eq, shut_eq]
    unfold opD
    rw [r1, r2]
    show some (tri (bif n2 == 0 then (0, 0, 2) else fitR (toQ n1 d1 / toQ n2 d2))) = _
    rw [show (n2 == 0) = false from by simpa using hz, cond_false, fitR_ok hf]
    rfl
  · simp [T.run] at hr

noncomputable def nN (n d : Int) : Int := shut (-(toQ n d)).num
noncomputable def nD (n d : Int) : Int := shut ((-(toQ n d)).den : Int)
noncomputable def okN (n d : Int) : Bool := i64k n && (i64k d && (rtN n d && fitsB (-(toQ n d))))
noncomputable def sNegQ : List AV → T AV
  | [.agg [.int .i64 n, .int .i64 d]] => .chk (okN n d) (.leaf (.tup [.agg [.int .i64 (nN n d), .int .i64 (nD n d)], .int .i64 0]))
  | _ => .fail
theorem sum30q : SumAt C2 (30, sNegQ) := sum_less sum30 fun args v hr => by
  unfold sNegQ at hr
  split at hr
  · rename_i n d
    obtain ⟨hc, hr2⟩ := T.of_chk hr
    clear hr
    unfold okN at hc
    simp only [Bool.and_eq_true] at hc
    obtain ⟨h1, h2, r1, hf⟩ := hc
    rw [← Option.some.inj hr2]
    unfold nN nD
    show (T.chk (i64k n && i64k d) (.leaf (triS (opN n d)))).run = _
    rw [h1, h2, triS_eq, shut_eq, shut_eq]
    unfold opN
    rw [r1]
    show some (tri (fitR (-(toQ n d)))) = _
    rw [fitR_ok hf]
    rfl
  · simp [T.run] at hr
noncomputable def cQ (n1 d1 n2 d2 : Int) : Int := shut (cmpQ (toQ n1 d1) (toQ n2 d2))
noncomputable def okC (n1 d1 n2 d2 : Int) : Bool := u4 n1 d1 n2 d2 && (rtN n1 d1 && rtN n2 d2)
noncomputable def sCmpQ : List AV → T AV
  | [.agg [.int .i64 n1, .int .i64 d1], .agg [.int .i64 n2, .int .i64 d2]] => .chk (okC n1 d1 n2 d2) (.leaf (.tup [.int .i64 (cQ n1 d1 n2 d2), .int .i64 0]))
  | _ => .fail
theorem sum13q : SumAt C2 (13, sCmpQ) := sum_less sum13 fun args v hr => by
  unfold sCmpQ at hr
  split at hr
  · rename_i n1 d1 n2 d2
    obtain ⟨hc, hr2⟩ := T.of_chk hr
    clear hr
    unfold okC u4 at hc
    simp only [Bool.and_eq_true] at hc
    obtain ⟨⟨h1, h2, h3, h4⟩, r1, r2⟩ := hc
    rw [← Option.some.inj hr2]
    unfold cQ
    show (T.chk (i64k n1 && (i64k d1 && (i64k n2 && i64k d2))) (.leaf (AV.tup [.int .i64 (shut (opC n1 d1 n2 d2).1), .int .i64 (shut (opC n1 d1 n2 d2).2)]))).run = _
    rw [h1, h2, h3, h4, shut_eq, shut_eq, shut_eq]
    unfold opC
    rw [r1, r2]
    rfl
  · simp [T.run] at hr
noncomputable def tab5 : List (Nat × (List AV → T AV)) := [(15, sAddQ), (14, sSubQ), (16, sMulQ), (20, sDivQ), (30, sNegQ), (13, sCmpQ)]
noncomputable def C5 : Ctx := withSum C2 tab5
theorem ok5 : Ok C5 := ok_with ok2 ⟨sum15q, sum14q, sum16q, sum20q, sum30q, sum13q, trivial⟩
noncomputable def tab6 : List (Nat × (List AV → T AV)) := [(12, sSome), (11, sAwake)]
noncomputable def C6 : Ctx := withSum C5 tab6
theorem ok6 : Ok C6 := ok_with ok5 ⟨⟨sum12.1, fun args v hr => (sum12.2 args v hr).at rfl rfl⟩, ⟨sumAwake.1, fun args v hr => (sumAwake.2 args v hr).at rfl rfl⟩, trivial⟩
theorem noZ6 : ZOk C6 noZ := noZ_ok keepOk
end Go.Proofs.YtbblfgfaoolloaaDoor
