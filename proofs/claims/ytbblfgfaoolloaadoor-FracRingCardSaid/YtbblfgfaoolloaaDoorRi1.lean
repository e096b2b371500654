/- Chapter 1: FracRing: the function that notes errors, as a summary. -/
import Derived.Test.YtbblfgfaoolloaaDoorOrd
namespace Go.Proofs.YtbblfgfaoolloaaDoor
open Go Go.Ev Go.Ev.Bits

noncomputable def opRun (g : FuncId) (ty : TypeId) (n1 d1 n2 d2 : Int) : Option (AV × Option (Option Blk)) := (evM C6 noZ 60 (AV × Option (Option Blk))).call 29 [.fn g [] [], .agg [.int .i64 n1, .int .i64 d1], .agg [.int .i64 n2, .int .i64 d2], .own 0 0] [some ⟨ty, [.int .i64 0]⟩] fun v H => some (v, H.head?)
def opAns (ok : Bool) (n d : Int) (ty : TypeId) : Option (AV × Option (Option Blk)) := bif ok then some (.agg [.int .i64 n, .int .i64 d], some (some ⟨ty, [.int .i64 0]⟩)) else none
section
variable (ty : TypeId) (n1 d1 n2 d2 : Int)
theorem o15 : opRun 15 ty n1 d1 n2 d2 = opAns (okA n1 d1 n2 d2) (aN n1 d1 n2 d2) (aD n1 d1 n2 d2) ty := by kernel_rfl
theorem o14 : opRun 14 ty n1 d1 n2 d2 = opAns (okS n1 d1 n2 d2) (dN n1 d1 n2 d2) (dD n1 d1 n2 d2) ty := by kernel_rfl
theorem o16 : opRun 16 ty n1 d1 n2 d2 = opAns (okM n1 d1 n2 d2) (mN n1 d1 n2 d2) (mD n1 d1 n2 d2) ty := by kernel_rfl
theorem o20 : opRun 20 ty n1 d1 n2 d2 = opAns (okD n1 d1 n2 d2) (qN n1 d1 n2 d2) (qD n1 d1 n2 d2) ty := by kernel_rfl
end
def isFA : AV → Bool
  | .fn _ _ _ => true
  | .agg _ => true
  | _ => false
theorem fz_free {H : Heap} {x y : AV} (h : frzA H x = y) (hy : isFA y = true) : x = y := by
  unfold frzA at h
  cases hf : x.free
  · exfalso
    rw [hf, cond_false] at h
    cases ho : x.off0
    · rw [ho, cond_false] at h; subst h; cases hy
    · rw [ho, cond_true] at h
      cases x <;> simp [AV.free] at hf <;> simp only [frzCell] at h <;> (try split at h) <;> subst h <;> cases hy
  · rw [hf, cond_true] at h; exact h
theorem fz_rp {H : Heap} {x : AV} {z : Int} (h : frzA H x = .rp [.int .i64 z]) : x = .rp [.int .i64 z] ∨ ∃ id blk, x = .own id 0 ∧ hget H id = some blk ∧ blk.cells = [.int .i64 z] := by
  unfold frzA at h
  cases hf : x.free
  · rw [hf, cond_false] at h
    cases ho : x.off0
    · rw [ho, cond_false] at h; cases h
    · rw [ho, cond_true] at h
      cases x with
      | own id off =>
        have h0 : off = 0 := by simpa [AV.off0] using ho
        subst h0
        simp only [frzCell] at h
        split at h
        · rename_i b hb
          refine .inr ⟨id, b, rfl, hb, ?_⟩
          injection h with h
          rw [List.drop_zero] at h
          cases hc : b.cells with
          | nil => rw [hc] at h; cases h
          | cons a l =>
            rw [hc, List.map_cons] at h
            injection h with h1 h2
            have hl : l = [] := by cases l with | nil => rfl | cons _ _ => cases h2
            subst hl
            cases hs : a.scal
            · rw [hs] at h1; cases h1
            · rw [hs] at h1; exact congrArg (fun x => [x]) h1
        · cases h
      | sl sz id off len cap => simp only [frzCell] at h; split at h <;> cases h
      | agg l => simp only [frzCell] at h; cases h
      | tup l => simp only [frzCell] at h; cases h
      | fn f a b => simp only [frzCell] at h; cases h
      | ifc t v => simp only [frzCell] at h; cases h
      | _ => simp [AV.free] at hf
  · rw [hf, cond_true] at h; exact .inl h
theorem op_core {g : FuncId} {K : Bool} {n d n1 d1 n2 d2 : Int} {E : Env} {H : Heap} {w : World} {vs : List Value} {id : Nat} {blk : Blk} (hrun : opRun g blk.ty n1 d1 n2 d2 = opAns K n d blk.ty) (hK : K = true) (hc : blk.cells = [.int .i64 0]) (hb : hget H id = some blk)
    (hI : Inv C6 E H w) (ha : RL E [.fn g [] [], .agg [.int .i64 n1, .int .i64 d1], .agg [.int .i64 n2, .int .i64 d2], .own id 0] vs) : CallOk C6 E H w 29 vs (.agg [.int .i64 n, .int .i64 d]) H := by
  obtain ⟨ty, cells⟩ := blk
  simp only at hc hrun
  subst hc
  have hb' : H[id]? = some (some ⟨ty, [.int .i64 0]⟩) := hget_eq hb
  subst hK
  unfold opRun opAns at hrun
  rw [cond_true, (nat_all noZ6.len 60).call] at hrun
  obtain ⟨⟨v, Hs⟩, h1, h2⟩ := Option.bind_eq_some_iff.1 hrun
  cases Hs with
  | nil => cases h2
  | cons b Hs =>
    cases h2
    have hcall : ((dirE (someM C6 noZ 60)).call 29 [.fn g [] [], .agg [.int .i64 n1, .int .i64 d1], .agg [.int .i64 n2, .int .i64 d2], .own 0 0] [some ⟨ty, [.int .i64 0]⟩]).run = some (.agg [.int .i64 n, .int .i64 d], some ⟨ty, [.int .i64 0]⟩ :: Hs) := by
      unfold dirE
      simp only [h1]
      rfl
    cases ha with
    | cons a1 r1 =>
      cases r1 with
      | cons a2 r2 =>
        cases r2 with
        | cons a3 r3 =>
          cases r3 with
          | cons a4 r4 =>
            cases r4
            cases a4 with
            | pers p => cases p
            | own he =>
              have q1 := RL.free_rpl.free_rp a1 rfl
              have q2 := RL.free_rpl.free_rp a2 rfl
              have q3 := RL.free_rpl.free_rp a3 rfl
              exact sub_call (soundM ok6 noZ6 60).2 hcall rfl rfl hI hb' he (.cons (.pers q1) (.cons (.pers q2) (.cons (.pers q3) (.cons (.own rfl) .nil))))
noncomputable def opT (g : Nat) (n1 d1 n2 d2 : Int) : T AV := match g with
  | 15 => .chk (okA n1 d1 n2 d2) (.leaf (.agg [.int .i64 (aN n1 d1 n2 d2), .int .i64 (aD n1 d1 n2 d2)]))
  | 14 => .chk (okS n1 d1 n2 d2) (.leaf (.agg [.int .i64 (dN n1 d1 n2 d2), .int .i64 (dD n1 d1 n2 d2)]))
  | 16 => .chk (okM n1 d1 n2 d2) (.leaf (.agg [.int .i64 (mN n1 d1 n2 d2), .int .i64 (mD n1 d1 n2 d2)]))
  | 20 => .chk (okD n1 d1 n2 d2) (.leaf (.agg [.int .i64 (qN n1 d1 n2 d2), .int .i64 (qD n1 d1 n2 d2)]))
  | _ => .fail
noncomputable def sOp : List AV → T AV
  | [.fn g [] [], .agg [.int .i64 n1, .int .i64 d1], .agg [.int .i64 n2, .int .i64 d2], .rp [.int .i64 z]] => .chk (z == 0) (opT g n1 d1 n2 d2)
  | _ => .fail
theorem sumOp : SumH C6 (29, sOp) := by
  refine ⟨⟨_, fn29.1, by kernel_rfl, by kernel_rfl⟩, fun args v hr hf hn => ?_, fun E H w args vs v hI ha hfr hr hv => ?_⟩
  · exfalso
    replace hr : (sOp args).run = some v := hr
    unfold sOp at hr
    split at hr
    · cases hn
    · simp [T.run] at hr
  · replace hr : (sOp (args.map (frzA H))).run = some v := hr
    generalize hm : args.map (frzA H) = al at hr
    unfold sOp at hr
    split at hr
    · rename_i g n1 d1 n2 d2 z
      obtain ⟨hz, hr2⟩ := T.of_chk hr
      rw [beq_iff_eq] at hz
      subst hz
      match args, hm with
      | [], hm => cases hm
      | [_], hm => simp at hm
      | [_, _], hm => simp at hm
      | [_, _, _], hm => simp at hm
      | _ :: _ :: _ :: _ :: _ :: _, hm => simp at hm
      | [x1, x2, x3, x4], hm =>
        simp only [List.map_cons, List.map_nil, List.cons.injEq, and_true] at hm
        obtain ⟨e1, e2, e3, e4⟩ := hm
        have f1 := fz_free e1 rfl
        have f2 := fz_free e2 rfl
        have f3 := fz_free e3 rfl
        subst f1 f2 f3
        rcases fz_rp e4 with rfl | ⟨id, blk, rfl, hb, hc⟩
        · cases hfr
        · unfold opT at hr2
          split at hr2
          · obtain ⟨hk, hr3⟩ := T.of_chk hr2
            cases Option.some.inj hr3
            exact op_core (o15 blk.ty n1 d1 n2 d2) hk hc hb hI ha
          · obtain ⟨hk, hr3⟩ := T.of_chk hr2
            cases Option.some.inj hr3
            exact op_core (o14 blk.ty n1 d1 n2 d2) hk hc hb hI ha
          · obtain ⟨hk, hr3⟩ := T.of_chk hr2
            cases Option.some.inj hr3
            exact op_core (o16 blk.ty n1 d1 n2 d2) hk hc hb hI ha
          · obtain ⟨hk, hr3⟩ := T.of_chk hr2
            cases Option.some.inj hr3
            exact op_core (o20 blk.ty n1 d1 n2 d2) hk hc hb hI ha
          · simp [T.run] at hr2
    · simp [T.run] at hr
end Go.Proofs.YtbblfgfaoolloaaDoor
