/-
  ScoreTells, THE CARD: WHATEVER THE ARGUMENTS, THE LAW RETURNS TRUE AND LEAVES WHAT IT IS HANDED AS IT WAS. CONDITIONS: the listed package-level variables hold what their initialisers lay (tied to the program's text by the card). Written by program (gen_card.py) but for the one term that names the proof.
-/
import Derived.Test.YtfkpbchdapccmaaDoorBase
import Derived.Test.YtfkpbchdapccmaaDoorG
import Derived.Test.YtfkpbchdapccmaaDoorEvX
namespace Go.Proofs.YtfkpbchdapccmaaDoor.kScoreTells
open Go Go.Ev Go.ChangeShapes Go.WideShapes Go.ChangeAt Go.RowKit

set_option maxRecDepth 100000 in
theorem contract (H : Type) (enc : TypeId × Value → H) (W : World) (base : Nat) (args : Array Value) (ds gs : List (DataW H)) (before : List MemPlace)
    (hval : ∀ (j : Nat) t v, Tryd.f3.params[j]? = some t → args[j]? = some v → Value.okWide Tryd.prog W .any base t v)
    (hW : DataW.Whole enc Tryd.prog Tryd.f3.params.toList Rows.scoreTellsSpec.vars false W args.toList ds gs before) (hL : laidMetH Tryd.prog Rows.scoreTellsRow.laid W) :
    Calls Tryd.prog 3 args W fun e W' => ∃ v, e = .returned v ∧ Rows.scoreTellsSpec.post enc Tryd.prog Tryd.f3 false true false false W args v W' := by
  have hL' : laidMet Tryd.prog laidL W := hL
  have hW' := hW
  obtain ⟨p, q, hA0, hV, rfl, hfz, hnd⟩ := hW
  have hA : DataW.TrodAll enc Tryd.prog W 0 (fun _ => true) true Tryd.f3.params.toList args.toList ds p := hA0
  rw [Tryd.params3] at hA hval
  clear hA0 hfz hnd
  obtain ⟨v0, vs0, d0, ds0, p0, q0, hargs, rfl, rfl, h0, l0⟩ := trodAll_cons hA
  obtain ⟨v1, vs1, d1, ds1, p1, q1, rfl, rfl, rfl, h1, l1⟩ := trodAll_cons l0
  obtain ⟨v2, vs2, d2, ds2, p2, q2, rfl, rfl, rfl, h2, l2⟩ := trodAll_cons l1
  obtain ⟨rfl, rfl, rfl⟩ := trodAll_nil l2
  obtain rfl : args = #[v0, v1, v2] := by cases args; simp_all
  obtain ⟨rfl, rfl⟩ := trodVars_none hV
  obtain ⟨v0_0, v0_1, v0_2, v0_3, y0_0, y0_1, y0_2, y0_3, m0, rfl, rfl, rfl, t0_0, t0_1, t0_2, t0_3⟩ := Go.Joins.open_agg4 Tryd.underlying23 (by kernel_rfl) (by kernel_rfl) (hval 0 23 v0 rfl rfl) h0
  obtain ⟨n0_0, e0_0, -, w0_0⟩ := DataW.trod_int Tryd.underlying5 t0_0
  obtain rfl := (List.cons.inj e0_0).1
  have r0_0 := wf_u8 w0_0
  obtain ⟨n0_1, e0_1, -, w0_1⟩ := DataW.trod_int Tryd.underlying5 t0_1
  obtain rfl := (List.cons.inj e0_1).1
  have r0_1 := wf_u8 w0_1
  obtain ⟨n0_2, e0_2, -, w0_2⟩ := DataW.trod_int Tryd.underlying5 t0_2
  obtain rfl := (List.cons.inj e0_2).1
  have r0_2 := wf_u8 w0_2
  obtain ⟨n0_3, e0_3, -, w0_3⟩ := DataW.trod_int Tryd.underlying5 t0_3
  obtain rfl := (List.cons.inj e0_3).1
  have r0_3 := wf_u8 w0_3
  obtain ⟨n1, rfl, rfl, rfl, w1⟩ := open_int (base := 0) Tryd.underlying3 (hval 1 3 v1 rfl rfl) h1
  have r1 := wf_i64 w1
  obtain ⟨n2, rfl, rfl, rfl, w2⟩ := open_int (base := 0) Tryd.underlying5 (hval 2 5 v2 rfl rfl) h2
  have r2 := wf_u8 w2
  have hc : Calls Tryd.prog 3 #[.agg #[.int .u8 n0_0, .int .u8 n0_1, .int .u8 n0_2, .int .u8 n0_3], .int .i64 n1, .int .u8 n2] W (fun e w' => e = .returned (.bool true) ∧ Below W.heap.size W w') :=
    enter_iso (C := C5) (f := 3) (args := [.agg [.int .u8 n0_0, .int .u8 n0_1, .int .u8 n0_2, .int .u8 n0_3], .int .i64 n1, .int .u8 n2]) (vs := [.agg #[.int .u8 n0_0, .int .u8 n0_1, .int .u8 n0_2, .int .u8 n0_3], .int .i64 n1, .int .u8 n2]) (globs hL') (.cons (.agg (.cons (.int .u8 n0_0) (.cons (.int .u8 n0_1) (.cons (.int .u8 n0_2) (.cons (.int .u8 n0_3) (.nil)))))) (.cons (.int .i64 n1) (.cons (.int .u8 n2) (.nil)))) (calls_iso ok5 (tells_run n0_0 n0_1 n0_2 n0_3 n1 n2 (by simp only [conB, u8B, Bool.and_eq_true, leI_iff]; exact ⟨r0_0, r0_1, r0_2, r0_3⟩) (by simp only [u8B, Bool.and_eq_true, leI_iff]; exact r2)))
  refine hc.mono fun e W' ⟨he, hb⟩ => ⟨_, he, ?_⟩
  exact post_true (tb := 4) (by kernel_rfl) (fun t ht => by
    rw [Tryd.params3] at ht
    have ht' : t ∈ [23, 3, 5] := ht
    simp only [List.mem_cons, List.not_mem_nil, or_false] at ht'
    rcases ht' with rfl | rfl | rfl <;> exact ⟨by kernel_rfl, of_decide_eq_true (by kernel_rfl)⟩) (by kernel_rfl) Tryd.underlying4 rfl rfl hW' hb

theorem reads (os : Os) {H : Type} (enc : TypeId × Value → H) : ∃ places, DataW.whole enc Tryd.prog ((laidWorld os).forCall (fun _ _ => 0) ⟨#[], #[.agg #[.int .u8 0, .int .u8 0, .int .u8 0, .int .u8 0], .int .i64 0, .int .u8 0], []⟩).memory Tryd.f3.params.toList Rows.scoreTellsSpec.vars false (#[.agg #[.int .u8 0, .int .u8 0, .int .u8 0, .int .u8 0], .int .i64 0, .int .u8 0] : Array Value).toList 8 = some ([.agg [.lit (.int .u8 0), .lit (.int .u8 0), .lit (.int .u8 0), .lit (.int .u8 0)], .lit (.int .i64 0), .lit (.int .u8 0)], [], places) :=
  ⟨[], by kernel_rfl⟩
set_option maxRecDepth 100000 in
theorem lifted (os : Os) (started : os.Started) (H : Type) (enc : TypeId × Value → H) (F : Stop.Interp) :
    ReturnsInHanded {} Tryd.checked os 3 .any ((OpenSpec.ofChange Rows.scoreTellsSpec).preRow enc Tryd.prog Tryd.f3 Rows.scoreTellsRow.domain false Rows.scoreTellsRow.laid) (((OpenSpec.ofChange Rows.scoreTellsSpec).at F).post enc Tryd.prog Tryd.f3 false true false false) := by
  obtain ⟨places, hx⟩ := reads os enc
  refine returnsInHanded_of_row (C := Tryd.checked) (s := OpenSpec.ofChange Rows.scoreTellsSpec) own started (by kernel_rfl) Tryd.func3
    (witness_row_atRef (enc := enc) (C := Tryd.checked) false (laidWorld os) #[.agg #[.int .u8 0, .int .u8 0, .int .u8 0, .int .u8 0], .int .i64 0, .int .u8 0] rfl (by kernel_rfl) (by kernel_rfl) (by kernel_rfl)
      (OpenSpec.preRow_of_cond 8 hx (by kernel_rfl) (fun k hk => by cases hk) (by kernel_rfl) (laid_met os _))) ?_
  intro W base args ds gs before hval hW _ _ _ hL _ _
  exact contract H enc W base args ds gs before hval hW hL
theorem said : Rows.ScoreTellsSaid :=
  OpenClaim.holds_of_cond 3 Tryd.f3 rfl rfl rfl rfl rfl rfl rfl ⟨rfl, rfl, rfl, rfl, rfl⟩ rfl rfl rfl rfl rfl (by kernel_rfl) Tryd.func3 (by kernel_rfl)
    (of_decide_eq_true (by kernel_rfl)) (by unfold Func.isWrapper; first | (rw [if_pos (by decide +kernel)]; kernel_rfl) | (rw [if_neg (by decide +kernel)]; exact ⟨rfl, rfl⟩))
    (fun os started H enc _ F => by rw [OpenClaim.pre_eq_preRow]; exact lifted os started H enc F)
theorem plain (f : FuncId) (fn : Func) (hf : Tryd.pinned.checked.prog.funcNamed "finesse/finesselaw17.ScoreTells" = some f) (hfn : Tryd.pinned.checked.prog.funcs[f]? = some fn) :
    true = Tryd.pinned.checked.prog.looks [] ∧ ∀ (j : Nat) t, fn.params[j]? = some t → Tryd.pinned.checked.prog.wantsStandIn t = false := by
  obtain rfl : f = 3 := Option.some.inj ((show Tryd.prog.funcNamed "finesse/finesselaw17.ScoreTells" = some 3 by kernel_rfl).symm.trans hf) |>.symm
  obtain rfl : fn = Tryd.f3 := (Option.some.inj (Tryd.func3.symm.trans hfn)).symm
  refine ⟨by kernel_rfl, fun j t ht => ?_⟩
  rw [Tryd.params3] at ht
  have ht : t ∈ [23, 3, 5] := by
    have := Array.mem_of_getElem? ht
    simpa using this
  simp only [List.mem_cons, List.not_mem_nil, or_false] at ht
  rcases ht with rfl | rfl | rfl
  · exact (show Tryd.prog.wantsStandIn 23 = false by kernel_rfl)
  · exact (show Tryd.prog.wantsStandIn 3 = false by kernel_rfl)
  · exact (show Tryd.prog.wantsStandIn 5 = false by kernel_rfl)
/-- THE CARD. -/
theorem card : Rows.ScoreTellsCardSaid :=
  Claim7.holds_tied_plain_at .later [] _ _ _ _ said (fun _ h => by cases h) (by kernel_rfl) (fun _ h => by cases h) scoreTells_row_tie rfl ⟨rfl, rfl⟩ (by kernel_rfl) rfl plain (by kernel_rfl)
#print axioms card
end Go.Proofs.YtfkpbchdapccmaaDoor.kScoreTells
