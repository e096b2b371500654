/- Chapter 1: FracWide: the rounds. -/
import Derived.Test.YtbblfgfaoolloaaDoorWi1
namespace Go.Proofs.YtbblfgfaoolloaaDoor
open Go Go.Ev Go.Ev.Bits

theorem fitR_no {q : Rat} (h : fitsB q = false) : fitR q = (0, 0, 3) := by
  unfold fitsB at h; unfold fitR; rw [h]; rfl

noncomputable def okLA (n1 d1 n2 d2 : Int) : Bool := u4 n1 d1 n2 d2 && (rtN n1 d1 && (rtN n2 d2 && (!(fitsB (toQ n1 d1 + toQ n2 d2)))))
noncomputable def sAddL : List AV → T AV
  | [.agg [.int .i64 n1, .int .i64 d1], .agg [.int .i64 n2, .int .i64 d2]] => .chk (okLA n1 d1 n2 d2) (.leaf (.tup [.agg [.int .i64 0, .int .i64 0], .int .i64 3]))
  | _ => .fail
theorem sum15l : SumAt C2 (15, sAddL) := sum_less sum15 fun args v hr => by
  unfold sAddL at hr
  split at hr
  · rename_i n1 d1 n2 d2
    obtain ⟨hc, hr2⟩ := T.of_chk hr
    clear hr
    unfold okLA u4 at hc
    simp only [Bool.and_eq_true, Bool.not_eq_true'] at hc
    obtain ⟨⟨h1, h2, h3, h4⟩, r1, r2, hf⟩ := hc
    rw [← Option.some.inj hr2]
    show (T.chk (i64k n1 && (i64k d1 && (i64k n2 && i64k d2))) (.leaf (triS (opA n1 d1 n2 d2)))).run = _
    rw [h1, h2, h3, h4, triS_eq]
    unfold opA
    rw [r1, r2]
    show some (tri (fitR (toQ n1 d1 + toQ n2 d2))) = _
    rw [fitR_no hf]
    rfl
  · simp [T.run] at hr

noncomputable def okLS (n1 d1 n2 d2 : Int) : Bool := u4 n1 d1 n2 d2 && (rtN n1 d1 && (rtN n2 d2 && (!(fitsB (toQ n1 d1 - toQ n2 d2)))))
noncomputable def sSubL : List AV → T AV
  | [.agg [.int .i64 n1, .int .i64 d1], .agg [.int .i64 n2, .int .i64 d2]] => .chk (okLS n1 d1 n2 d2) (.leaf (.tup [.agg [.int .i64 0, .int .i64 0], .int .i64 3]))
  | _ => .fail
theorem sum14l : SumAt C2 (14, sSubL) := sum_less sum14 fun args v hr => by
  unfold sSubL at hr
  split at hr
  · rename_i n1 d1 n2 d2
    obtain ⟨hc, hr2⟩ := T.of_chk hr
    clear hr
    unfold okLS u4 at hc
    simp only [Bool.and_eq_true, Bool.not_eq_true'] at hc
    obtain ⟨⟨h1, h2, h3, h4⟩, r1, r2, hf⟩ := hc
    rw [← Option.some.inj hr2]
    show (T.chk (i64k n1 && (i64k d1 && (i64k n2 && i64k d2))) (.leaf (triS (opS n1 d1 n2 d2)))).run = _
    rw [h1, h2, h3, h4, triS_eq]
    unfold opS
    rw [r1, r2]
    show some (tri (fitR (toQ n1 d1 - toQ n2 d2))) = _
    rw [fitR_no hf]
    rfl
  · simp [T.run] at hr

noncomputable def okLM (n1 d1 n2 d2 : Int) : Bool := u4 n1 d1 n2 d2 && (rtN n1 d1 && (rtN n2 d2 && (!(fitsB (toQ n1 d1 * toQ n2 d2)))))
noncomputable def sMulL : List AV → T AV
  | [.agg [.int .i64 n1, .int .i64 d1], .agg [.int .i64 n2, .int .i64 d2]] => .chk (okLM n1 d1 n2 d2) (.leaf (.tup [.agg [.int .i64 0, .int .i64 0], .int .i64 3]))
  | _ => .fail
theorem sum16l : SumAt C2 (16, sMulL) := sum_less sum16 fun args v hr => by
  unfold sMulL at hr
  split at hr
  · rename_i n1 d1 n2 d2
    obtain ⟨hc, hr2⟩ := T.of_chk hr
    clear hr
    unfold okLM u4 at hc
    simp only [Bool.and_eq_true, Bool.not_eq_true'] at hc
    obtain ⟨⟨h1, h2, h3, h4⟩, r1, r2, hf⟩ := hc
    rw [← Option.some.inj hr2]
    show (T.chk (i64k n1 && (i64k d1 && (i64k n2 && i64k d2))) (.leaf (triS (opM n1 d1 n2 d2)))).run = _
    rw [h1, h2, h3, h4, triS_eq]
    unfold opM
    rw [r1, r2]
    show some (tri (fitR (toQ n1 d1 * toQ n2 d2))) = _
    rw [fitR_no hf]
    rfl
  · simp [T.run] at hr

noncomputable def okLD (n1 d1 n2 d2 : Int) : Bool := u4 n1 d1 n2 d2 && (rtN n1 d1 && (rtN n2 d2 && (!(fitsB (toQ n1 d1 / toQ n2 d2)) && n2 != 0)))
noncomputable def sDivL : List AV → T AV
  | [.agg [.int .i64 n1, .int .i64 d1], .agg [.int .i64 n2, .int .i64 d2]] => .chk (okLD n1 d1 n2 d2) (.leaf (.tup [.agg [.int .i64 0, .int .i64 0], .int .i64 3]))
  | _ => .fail
theorem sum20l : SumAt C2 (20, sDivL) := sum_less sum20 fun args v hr => by
  unfold sDivL at hr
  split at hr
  · rename_i n1 d1 n2 d2
    obtain ⟨hc, hr2⟩ := T.of_chk hr
    clear hr
    unfold okLD u4 at hc
    simp only [Bool.and_eq_true, Bool.not_eq_true', bne_iff_ne] at hc
    obtain ⟨⟨h1, h2, h3, h4⟩, r1, r2, hf, hz⟩ := hc
    rw [← Option.some.inj hr2]
    show (T.chk (i64k n1 && (i64k d1 && (i64k n2 && i64k d2))) (.leaf (triS (opD n1 d1 n2 d2)))).run = _
    rw [h1, h2, h3, h4, triS_eq]
    unfold opD
    rw [r1, r2]
    show some (tri (bif n2 == 0 then (0, 0, 2) else fitR (toQ n1 d1 / toQ n2 d2))) = _
    rw [show (n2 == 0) = false from by simpa using hz, cond_false, fitR_no hf]
    rfl
  · simp [T.run] at hr

noncomputable def okZD (n1 d1 n2 d2 : Int) : Bool := u4 n1 d1 n2 d2 && (rtN n1 d1 && (rtN n2 d2 && n2 == 0))
noncomputable def sDivZ : List AV → T AV
  | [.agg [.int .i64 n1, .int .i64 d1], .agg [.int .i64 n2, .int .i64 d2]] => .chk (okZD n1 d1 n2 d2) (.leaf (.tup [.agg [.int .i64 0, .int .i64 0], .int .i64 2]))
  | _ => .fail
theorem sum20z : SumAt C2 (20, sDivZ) := sum_less sum20 fun args v hr => by
  unfold sDivZ at hr
  split at hr
  · rename_i n1 d1 n2 d2
    obtain ⟨hc, hr2⟩ := T.of_chk hr
    clear hr
    unfold okZD u4 at hc
    simp only [Bool.and_eq_true] at hc
    obtain ⟨⟨h1, h2, h3, h4⟩, r1, r2, hz⟩ := hc
    rw [← Option.some.inj hr2]
    show (T.chk (i64k n1 && (i64k d1 && (i64k n2 && i64k d2))) (.leaf (triS (opD n1 d1 n2 d2)))).run = _
    rw [h1, h2, h3, h4, triS_eq]
    unfold opD
    rw [r1, r2, hz]
    rfl
  · simp [T.run] at hr
noncomputable def tabL : List (Nat × (List AV → T AV)) := [(15, sAddL), (14, sSubL), (16, sMulL), (20, sDivL)]
noncomputable def CG : Ctx := withSum C2 tabL
theorem okG : Ok CG := ok_with ok2 ⟨sum15l, sum14l, sum16l, sum20l, trivial⟩
theorem noZG : ZOk CG noZ := noZ_ok keepOk
noncomputable def tabZ : List (Nat × (List AV → T AV)) := [(20, sDivZ)]
noncomputable def CZ : Ctx := withSum C2 tabZ
theorem okZ : Ok CZ := ok_with ok2 ⟨sum20z, trivial⟩
theorem noZZ : ZOk CZ noZ := noZ_ok keepOk
abbrev fr6 (i : Int) : List AV := [.undef, .undef, .undef, .undef, .undef, .own 0 0, .undef, .own 1 0, .undef, .undef, .sl 1 3 0 4 (some 4), .undef, .undef, .undef, .undef, .undef, .undef, .undef, .undef, .sl 1 2 0 4 (some 4), .int .i64 4, .int .i64 i, .undef, .undef, .undef, .undef, .undef]
abbrev H6 (fn fd gn gd : Int) : Heap := [some ⟨26, [.int .i64 fn, .int .i64 fd]⟩, some ⟨26, [.int .i64 gn, .int .i64 gd]⟩, some ⟨32, [AV.fn 15 [] [], AV.fn 14 [] [], AV.fn 16 [] [], AV.fn 20 [] []]⟩, some ⟨32, [AV.fn 14 [] [], AV.fn 15 [] [], AV.fn 20 [] [], AV.fn 16 [] []]⟩]
abbrev m6 : List Bool := [false, false, false, false, false, true, false, true, false, false, true, false, false, false, false, false, false, false, false, true, true, true, false, false, false, false, false]
section
variable (a b c d : Int)
abbrev OX := Option (X × List AV × Heap)
def nx6 (i : Int) : OX := some (.n, fr6 i, H6 a b c d)
def gx (u : Bool) (k : OX) : OX := bif u then k else none
noncomputable def bk6 (ok : Int → Int → Int → Int → Bool) (n d' : Int → Int → Int → Int → Int) (x y : Int) (i : Int) : OX :=
  gx (ok x y c d) (gx (i64k x && i64k y) (bif !(shut (rtN x y)) then none else bif !(n x y c d == a && (d' x y c d == b && true)) then none else nx6 a b c d i))
theorem w0 : codeG C6 noZ 60 6 kp6 ct6 isN m6 bod6_0 (fr6 0) (H6 a b c d) 4 = gx (okA a b c d) (bk6 a b c d okS dN dD (aN a b c d) (aD a b c d) 1) := by kernel_rfl
theorem w1 : codeG C6 noZ 60 6 kp6 ct6 isN m6 bod6_0 (fr6 1) (H6 a b c d) 4 = gx (okS a b c d) (bk6 a b c d okA aN aD (dN a b c d) (dD a b c d) 2) := by kernel_rfl
theorem w2 : codeG C6 noZ 60 6 kp6 ct6 isN m6 bod6_0 (fr6 2) (H6 a b c d) 4 = gx (okM a b c d) (bif c == 0 then nx6 a b c d 3 else bk6 a b c d okD qN qD (mN a b c d) (mD a b c d) 3) := by kernel_rfl
theorem w3 : codeG C6 noZ 60 6 kp6 ct6 isN m6 bod6_0 (fr6 3) (H6 a b c d) 4 = gx (okD a b c d) (bif c == 0 then nx6 a b c d 4 else bk6 a b c d okM mN mD (qN a b c d) (qD a b c d) 4) := by kernel_rfl
theorem wx : codeG C6 noZ 60 6 kp6 ct6 isEx m6 bod6_0 (fr6 4) (H6 a b c d) 4 = some (.ex 0, fr6 4, H6 a b c d) := by kernel_rfl
theorem g0 : codeG CG noZ 60 6 kp6 ct6 isN m6 bod6_0 (fr6 0) (H6 a b c d) 4 = gx (okLA a b c d) (bif c == 0 then nx6 a b c d 1 else nx6 a b c d 1) := by kernel_rfl
theorem g1 : codeG CG noZ 60 6 kp6 ct6 isN m6 bod6_0 (fr6 1) (H6 a b c d) 4 = gx (okLS a b c d) (bif c == 0 then nx6 a b c d 2 else nx6 a b c d 2) := by kernel_rfl
theorem g2 : codeG CG noZ 60 6 kp6 ct6 isN m6 bod6_0 (fr6 2) (H6 a b c d) 4 = gx (okLM a b c d) (bif c == 0 then nx6 a b c d 3 else nx6 a b c d 3) := by kernel_rfl
theorem g3 : codeG CG noZ 60 6 kp6 ct6 isN m6 bod6_0 (fr6 3) (H6 a b c d) 4 = gx (okLD a b c d) (bif c == 0 then none else nx6 a b c d 4) := by kernel_rfl
theorem z3 : codeG CZ noZ 60 6 kp6 ct6 isN m6 bod6_0 (fr6 3) (H6 a b c d) 4 = gx (okZD a b c d) (bif c == 0 then nx6 a b c d 4 else none) := by kernel_rfl
end
end Go.Proofs.YtbblfgfaoolloaaDoor
