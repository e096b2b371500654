/-
  FracWrong, THE CARD: WHATEVER THE ARGUMENTS, THE LAW RETURNS TRUE AND LEAVES WHAT IT IS HANDED AS IT WAS. CONDITIONS: the listed package-level variables hold what their initialisers lay (tied to the program's text by the card). Written by program (gen_card.py) but for the one term that names the proof.
-/
import Derived.Test.YtbblfgfaoolloaaDoorBase
import Derived.Test.YtbblfgfaoolloaaDoorWr5
import Derived.Test.YtbblfgfaoolloaaDoorA2
namespace Go.Proofs.YtbblfgfaoolloaaDoor.kFracWrong
open Go Go.Ev Go.ChangeShapes Go.WideShapes Go.ChangeAt Go.RowKit

set_option maxRecDepth 100000 in
theorem contract (H : Type) (enc : TypeId × Value → H) (W : World) (base : Nat) (args : Array Value) (ds gs : List (DataW H)) (before : List MemPlace)
    (hval : ∀ (j : Nat) t v, Tryd.f9.params[j]? = some t → args[j]? = some v → Value.okWide Tryd.prog W .any base t v)
    (hW : DataW.Whole enc Tryd.prog Tryd.f9.params.toList Rows.fracWrongSpec.vars false W args.toList ds gs before) (hR : (DataW.weightsEach Tryd.prog (Tryd.f9.params.toList ++ (OpenSpec.ofChange Rows.fracWrongSpec).bare.plain.varTypes Tryd.prog) (ds ++ gs)).all (· ≤ reachBytes) = true) (hL : laidMetH Tryd.prog Rows.fracWrongRow.laid W) :
    Calls Tryd.prog 9 args W fun e W' => ∃ v, e = .returned v ∧ Rows.fracWrongSpec.post enc Tryd.prog Tryd.f9 false true false false W args v W' := by
  have hL' : laidMet Tryd.prog laidL W := hL
  have hW' := hW
  obtain ⟨p, q, hA0, hV, rfl, hfz, hnd⟩ := hW
  have hA : DataW.TrodAll enc Tryd.prog W 0 (fun _ => true) true Tryd.f9.params.toList args.toList ds p := hA0
  rw [Tryd.params9] at hA hval
  clear hA0 hfz hnd
  obtain ⟨v0, vs0, d0, ds0, p0, q0, hargs, rfl, rfl, h0, l0⟩ := trodAll_cons hA
  obtain ⟨v1, vs1, d1, ds1, p1, q1, rfl, rfl, rfl, h1, l1⟩ := trodAll_cons l0
  obtain ⟨v2, vs2, d2, ds2, p2, q2, rfl, rfl, rfl, h2, l2⟩ := trodAll_cons l1
  obtain ⟨v3, vs3, d3, ds3, p3, q3, rfl, rfl, rfl, h3, l3⟩ := trodAll_cons l2
  obtain ⟨rfl, rfl, rfl⟩ := trodAll_nil l3
  obtain rfl : args = #[v0, v1, v2, v3] := by cases args; simp_all
  obtain ⟨rfl, rfl⟩ := trodVars_none hV
  obtain ⟨n0, rfl, rfl, rfl, w0⟩ := open_int (base := 0) Tryd.underlying3 (hval 0 3 v0 rfl rfl) h0
  have r0 := wf_i64 w0
  obtain ⟨n1, rfl, rfl, rfl, w1⟩ := open_int (base := 0) Tryd.underlying3 (hval 1 3 v1 rfl rfl) h1
  have r1 := wf_i64 w1
  obtain ⟨n2, rfl, rfl, rfl, w2⟩ := open_int (base := 0) Tryd.underlying24 (hval 2 24 v2 rfl rfl) h2
  have r2 := wf_i16 w2
  obtain ⟨n3, rfl, rfl, rfl, w3⟩ := open_int (base := 0) Tryd.underlying5 (hval 3 5 v3 rfl rfl) h3
  have r3 := wf_u8 w3
  clear hR
  have hc : Calls Tryd.prog 9 #[.int .i64 n0, .int .i64 n1, .int .i16 n2, .int .u8 n3] W (fun e w' => e = .returned (.bool true) ∧ Below W.heap.size W w') :=
    enter_iso (C := CW) (f := 9) (args := [.int .i64 n0, .int .i64 n1, .int .i16 n2, .int .u8 n3]) (vs := [.int .i64 n0, .int .i64 n1, .int .i16 n2, .int .u8 n3]) (globs hL') (.cons (.int .i64 n0) (.cons (.int .i64 n1) (.cons (.int .i16 n2) (.cons (.int .u8 n3) (.nil))))) (callsM_iso okW noZW (wrong_run n0 n1 n2 n3 r0 r1 r2 r3))
  refine hc.mono fun e W' ⟨he, hb⟩ => ⟨_, he, ?_⟩
  exact post_true (tb := 4) (by kernel_rfl) (fun t ht => by
    rw [Tryd.params9] at ht
    have ht' : t ∈ [3, 3, 24, 5] := ht
    simp only [List.mem_cons, List.not_mem_nil, or_false] at ht'
    rcases ht' with rfl | rfl | rfl | rfl <;> exact ⟨by kernel_rfl, of_decide_eq_true (by kernel_rfl)⟩) (by kernel_rfl) Tryd.underlying4 rfl rfl hW' hb

theorem reads (os : Os) {H : Type} (enc : TypeId × Value → H) : ∃ places, DataW.whole enc Tryd.prog ((laidWorld os).forCall (fun _ _ => 0) ⟨#[], #[.int .i64 0, .int .i64 0, .int .i16 0, .int .u8 0], []⟩).memory Tryd.f9.params.toList Rows.fracWrongSpec.vars false (#[.int .i64 0, .int .i64 0, .int .i16 0, .int .u8 0] : Array Value).toList 8 = some ([.lit (.int .i64 0), .lit (.int .i64 0), .lit (.int .i16 0), .lit (.int .u8 0)], [], places) :=
  ⟨[], by kernel_rfl⟩
set_option maxRecDepth 100000 in
theorem lifted (os : Os) (started : os.Started) (H : Type) (enc : TypeId × Value → H) (F : Stop.Interp) :
    ReturnsInHanded {} Tryd.checked os 9 .any ((OpenSpec.ofChange Rows.fracWrongSpec).preRow enc Tryd.prog Tryd.f9 Rows.fracWrongRow.domain false Rows.fracWrongRow.laid) (((OpenSpec.ofChange Rows.fracWrongSpec).at F).post enc Tryd.prog Tryd.f9 false true false false) := by
  obtain ⟨places, hx⟩ := reads os enc
  refine returnsInHanded_of_row (C := Tryd.checked) (s := OpenSpec.ofChange Rows.fracWrongSpec) own started (by kernel_rfl) Tryd.func9
    (witness_row_atRef (enc := enc) (C := Tryd.checked) false (laidWorld os) #[.int .i64 0, .int .i64 0, .int .i16 0, .int .u8 0] rfl (by kernel_rfl) (by kernel_rfl) (by kernel_rfl)
      (OpenSpec.preRow_of_cond 8 hx (by kernel_rfl) (fun k hk => by cases hk) (by kernel_rfl) (laid_met os _))) ?_
  intro W base args ds gs before hval hW _ _ hR hL _ _
  exact contract H enc W base args ds gs before hval hW hR hL
theorem said : Rows.FracWrongSaid :=
  OpenClaim.holds_of_cond 9 Tryd.f9 rfl rfl rfl rfl rfl rfl rfl ⟨rfl, rfl, rfl, rfl, rfl⟩ rfl rfl rfl rfl rfl (by kernel_rfl) Tryd.func9 (by kernel_rfl)
    (of_decide_eq_true (by kernel_rfl)) (by unfold Func.isWrapper; first | (rw [if_pos (by decide +kernel)]; kernel_rfl) | (rw [if_neg (by decide +kernel)]; exact ⟨rfl, rfl⟩))
    (fun os started H enc _ F => by rw [OpenClaim.pre_eq_preRow]; exact lifted os started H enc F)
theorem plain (f : FuncId) (fn : Func) (hf : Tryd.pinned.checked.prog.funcNamed "finesse/finesselaw01.FracWrong" = some f) (hfn : Tryd.pinned.checked.prog.funcs[f]? = some fn) :
    true = Tryd.pinned.checked.prog.looks [] ∧ ∀ (j : Nat) t, fn.params[j]? = some t → Tryd.pinned.checked.prog.wantsStandIn t = false := by
  obtain rfl : f = 9 := Option.some.inj ((show Tryd.prog.funcNamed "finesse/finesselaw01.FracWrong" = some 9 by kernel_rfl).symm.trans hf) |>.symm
  obtain rfl : fn = Tryd.f9 := (Option.some.inj (Tryd.func9.symm.trans hfn)).symm
  refine ⟨by kernel_rfl, fun j t ht => ?_⟩
  rw [Tryd.params9] at ht
  have ht : t ∈ [3, 3, 24, 5] := by
    have := Array.mem_of_getElem? ht
    simpa using this
  simp only [List.mem_cons, List.not_mem_nil, or_false] at ht
  rcases ht with rfl | rfl | rfl | rfl
  · exact (show Tryd.prog.wantsStandIn 3 = false by kernel_rfl)
  · exact (show Tryd.prog.wantsStandIn 3 = false by kernel_rfl)
  · exact (show Tryd.prog.wantsStandIn 24 = false by kernel_rfl)
  · exact (show Tryd.prog.wantsStandIn 5 = false by kernel_rfl)
/-- THE CARD. -/
theorem card : Rows.FracWrongCardSaid :=
  Claim7.holds_tied_plain_at .later [] _ _ _ _ said (fun _ h => by cases h) (by kernel_rfl) (fun _ h => by cases h) fracWrong_row_tie rfl ⟨rfl, rfl⟩ (by kernel_rfl) rfl plain (by kernel_rfl)
#print axioms card
end Go.Proofs.YtbblfgfaoolloaaDoor.kFracWrong
