/- Chapter 1: FracRing: sums of three; the context. -/
import Derived.Test.YtbblfgfaoolloaaDoorRi1
namespace Go.Proofs.YtbblfgfaoolloaaDoor
open Go Go.Ev Go.Ev.Bits

noncomputable def sAddP : List AV → T AV
  | [.agg [.int .i64 n1, .int .i64 d1], .agg [.int .i64 n2, .int .i64 d2], .bool false] => .chk (okA n1 d1 n2 d2) (.leaf (.tup [.agg [.int .i64 (aN n1 d1 n2 d2), .int .i64 (aD n1 d1 n2 d2)], .int .i64 0]))
  | _ => .fail
theorem sum37at : SumAt C2 (37, sAddM) := ⟨sum37.1.at rfl, fun args v hr => (sum37.2 args v hr).at rfl rfl⟩
theorem sum37p : SumAt C2 (37, sAddP) := sum_less sum37at fun args v hr => by
  unfold sAddP at hr
  split at hr
  · rename_i n1 d1 n2 d2
    obtain ⟨hc, hr2⟩ := T.of_chk hr
    clear hr
    unfold okA u4 at hc
    simp only [Bool.and_eq_true] at hc
    obtain ⟨⟨h1, h2, h3, h4⟩, r1, r2, hf⟩ := hc
    rw [← Option.some.inj hr2]
    unfold aN aD
    obtain ⟨p1, c1⟩ := (rtN_iff _ _).1 r1
    obtain ⟨p2, c2⟩ := (rtN_iff _ _).1 r2
    have k2 := i64k_iff.1 h2
    have k4 := i64k_iff.1 h4
    show (T.chk (i64k n1 && (i64k n2 && (leI 1 d1 && (leI d1 9223372036854775807 && (leI 1 d2 && leI d2 9223372036854775807))))) (.leaf (triS (addN false n1 d1.toNat n2 d2.toNat)))).run = _
    rw [h1, h3, leI_iff.2 (by omega : 1 ≤ d1), leI_iff.2 k2.2, leI_iff.2 (by omega : 1 ≤ d2), leI_iff.2 k4.2, triS_eq, shut_eq, shut_eq, addN_add _ _ _ _ (by omega) (by omega) c1 c2, fitR_ok hf]
    rfl
  · simp [T.run] at hr
noncomputable def rok (n d : Int) : Bool := i64k n && (i64k d && rtN n d)
noncomputable def sRightT : List AV → T AV
  | [.agg [.int .i64 n, .int .i64 d]] => .chk (rok n d) (.leaf (.bool true))
  | _ => .fail
theorem sum21t : SumAt C2 (21, sRightT) := sum_less (F := sRight) ⟨sum21.1.at rfl, fun args v hr => (sum21.2 args v hr).at rfl rfl⟩ fun args v hr => by
  unfold sRightT at hr
  split at hr
  · rename_i n d
    obtain ⟨hc, hr2⟩ := T.of_chk hr
    clear hr
    unfold rok at hc
    simp only [Bool.and_eq_true] at hc
    obtain ⟨h1, h2, r1⟩ := hc
    show (T.chk (i64k n && i64k d) (.leaf (AV.bool (shut (rtN n d))))).run = _
    rw [h1, h2, shut_eq, r1]
    exact hr2
  · simp [T.run] at hr
noncomputable def tabS : List (Nat × (List AV → T AV)) := [(37, sAddP), (21, sRightT)]
noncomputable def CS : Ctx := withSum C2 tabS
theorem okS' : Ok CS := ok_with ok2 ⟨sum37p, sum21t, trivial⟩
theorem noZS : ZOk CS noZ := noZ_ok (show ∀ f fd, CS.code f = some fd → fd.keep.Nodup from keepOk)
section
variable (n1 d1 n2 d2 n3 d3 : Int)
noncomputable def s1N : Int := aN 0 1 n1 d1
noncomputable def s1D : Int := aD 0 1 n1 d1
noncomputable def s2N : Int := aN (s1N n1 d1) (s1D n1 d1) n2 d2
noncomputable def s2D : Int := aD (s1N n1 d1) (s1D n1 d1) n2 d2
noncomputable def s3N : Int := aN (s2N n1 d1 n2 d2) (s2D n1 d1 n2 d2) n3 d3
noncomputable def s3D : Int := aD (s2N n1 d1 n2 d2) (s2D n1 d1 n2 d2) n3 d3
noncomputable def okT3 : Bool := rok n1 d1 && (rok n2 d2 && (rok n3 d3 && (okA 0 1 n1 d1 && (okA (s1N n1 d1) (s1D n1 d1) n2 d2 && okA (s2N n1 d1 n2 d2) (s2D n1 d1 n2 d2) n3 d3))))
theorem t31 (full : Bool) : callsM CS noZ 60 31 [.ro full 3 [.int .i64 n1, .int .i64 d1, .int .i64 n2, .int .i64 d2, .int .i64 n3, .int .i64 d3]] = gd (rok n1 d1) (gd (rok n2 d2) (gd (rok n3 d3) (gd (okA 0 1 n1 d1) (gd (okA (s1N n1 d1) (s1D n1 d1) n2 d2) (gd (okA (s2N n1 d1 n2 d2) (s2D n1 d1 n2 d2) n3 d3) (some (.tup [.agg [.int .i64 (s3N n1 d1 n2 d2 n3 d3), .int .i64 (s3D n1 d1 n2 d2 n3 d3)], .int .i64 0]))))))) := by kernel_rfl
end
noncomputable def sSum3 : List AV → T AV
  | [.ro _f 3 [.int .i64 n1, .int .i64 d1, .int .i64 n2, .int .i64 d2, .int .i64 n3, .int .i64 d3]] => .chk (okT3 n1 d1 n2 d2 n3 d3) (.leaf (.tup [.agg [.int .i64 (s3N n1 d1 n2 d2 n3 d3), .int .i64 (s3D n1 d1 n2 d2 n3 d3)], .int .i64 0]))
  | _ => .fail
theorem iso31s : ∀ args v, (sSum3 args).run = some v → callsM CS noZ 60 31 args = some v := by
  intro args v hr
  unfold sSum3 at hr
  split at hr
  · rename_i f n1 d1 n2 d2 n3 d3
    obtain ⟨hc, hr2⟩ := T.of_chk hr
    clear hr
    unfold okT3 at hc
    simp only [Bool.and_eq_true] at hc
    obtain ⟨h1, h2, h3, h4, h5, h6⟩ := hc
    rw [t31, gd_eq h1, gd_eq h2, gd_eq h3, gd_eq h4, gd_eq h5, gd_eq h6]
    exact hr2
  · simp [T.run] at hr
theorem sum31s : SumAt CS (31, sSum3) := ⟨⟨_, fn31.1, by kernel_rfl, by kernel_rfl⟩, fun args v hr => callsM_iso okS' noZS (iso31s args v hr)⟩
noncomputable def tabG : List (Nat × (List AV → T AV)) := [(29, sOp), (31, sSum3)]
noncomputable def CGr : Ctx := withSum C6 tabG
theorem okGr : Ok CGr := ok_withH ok6 ⟨sumOp, (SumAt.toH (C := C6) ⟨sum31s.1.at rfl, fun args v hr => (sum31s.2 args v hr).at rfl rfl⟩), trivial⟩
theorem noZGr : ZOk CGr noZ := noZ_ok (show ∀ f fd, CGr.code f = some fd → fd.keep.Nodup from keepOk)
end Go.Proofs.YtbblfgfaoolloaaDoor
