/-
  FracRing, THE CARD: WHATEVER THE ARGUMENTS, THE LAW RETURNS TRUE AND LEAVES WHAT IT IS HANDED AS IT WAS. CONDITIONS: the listed package-level variables hold what their initialisers lay (tied to the program's text by the card). Written by program (gen_card.py) but for the one term that names the proof.
-/
import Derived.Test.YtbblfgfaoolloaaDoorBase
import Derived.Test.YtbblfgfaoolloaaDoorRi3
import Derived.Test.YtbblfgfaoolloaaDoorA2
namespace Go.Proofs.YtbblfgfaoolloaaDoor.kFracRing
open Go Go.Ev Go.ChangeShapes Go.WideShapes Go.ChangeAt Go.RowKit

set_option maxRecDepth 100000 in
theorem contract (H : Type) (enc : TypeId × Value → H) (W : World) (base : Nat) (args : Array Value) (ds gs : List (DataW H)) (before : List MemPlace)
    (hval : ∀ (j : Nat) t v, Tryd.f8.params[j]? = some t → args[j]? = some v → Value.okWide Tryd.prog W .any base t v)
    (hW : DataW.Whole enc Tryd.prog Tryd.f8.params.toList Rows.fracRingSpec.vars false W args.toList ds gs before) (hR : (DataW.weightsEach Tryd.prog (Tryd.f8.params.toList ++ (OpenSpec.ofChange Rows.fracRingSpec).bare.plain.varTypes Tryd.prog) (ds ++ gs)).all (· ≤ reachBytes) = true) (hL : laidMetH Tryd.prog Rows.fracRingRow.laid W) :
    Calls Tryd.prog 8 args W fun e W' => ∃ v, e = .returned v ∧ Rows.fracRingSpec.post enc Tryd.prog Tryd.f8 false true false false W args v W' := by
  have hL' : laidMet Tryd.prog laidL W := hL
  have hW' := hW
  obtain ⟨p, q, hA0, hV, rfl, hfz, hnd⟩ := hW
  have hA : DataW.TrodAll enc Tryd.prog W 0 (fun _ => true) true Tryd.f8.params.toList args.toList ds p := hA0
  rw [Tryd.params8] at hA hval
  clear hA0 hfz hnd
  obtain ⟨v0, vs0, d0, ds0, p0, q0, hargs, rfl, rfl, h0, l0⟩ := trodAll_cons hA
  obtain ⟨v1, vs1, d1, ds1, p1, q1, rfl, rfl, rfl, h1, l1⟩ := trodAll_cons l0
  obtain ⟨v2, vs2, d2, ds2, p2, q2, rfl, rfl, rfl, h2, l2⟩ := trodAll_cons l1
  obtain ⟨v3, vs3, d3, ds3, p3, q3, rfl, rfl, rfl, h3, l3⟩ := trodAll_cons l2
  obtain ⟨v4, vs4, d4, ds4, p4, q4, rfl, rfl, rfl, h4, l4⟩ := trodAll_cons l3
  obtain ⟨v5, vs5, d5, ds5, p5, q5, rfl, rfl, rfl, h5, l5⟩ := trodAll_cons l4
  obtain ⟨rfl, rfl, rfl⟩ := trodAll_nil l5
  obtain rfl : args = #[v0, v1, v2, v3, v4, v5] := by cases args; simp_all
  obtain ⟨rfl, rfl⟩ := trodVars_none hV
  obtain ⟨n0, rfl, rfl, rfl, w0⟩ := open_int (base := 0) Tryd.underlying24 (hval 0 24 v0 rfl rfl) h0
  have r0 := wf_i16 w0
  obtain ⟨n1, rfl, rfl, rfl, w1⟩ := open_int (base := 0) Tryd.underlying24 (hval 1 24 v1 rfl rfl) h1
  have r1 := wf_i16 w1
  obtain ⟨n2, rfl, rfl, rfl, w2⟩ := open_int (base := 0) Tryd.underlying24 (hval 2 24 v2 rfl rfl) h2
  have r2 := wf_i16 w2
  obtain ⟨n3, rfl, rfl, rfl, w3⟩ := open_int (base := 0) Tryd.underlying24 (hval 3 24 v3 rfl rfl) h3
  have r3 := wf_i16 w3
  obtain ⟨n4, rfl, rfl, rfl, w4⟩ := open_int (base := 0) Tryd.underlying24 (hval 4 24 v4 rfl rfl) h4
  have r4 := wf_i16 w4
  obtain ⟨n5, rfl, rfl, rfl, w5⟩ := open_int (base := 0) Tryd.underlying24 (hval 5 24 v5 rfl rfl) h5
  have r5 := wf_i16 w5
  clear hR
  have hc : Calls Tryd.prog 8 #[.int .i16 n0, .int .i16 n1, .int .i16 n2, .int .i16 n3, .int .i16 n4, .int .i16 n5] W (fun e w' => e = .returned (.bool true) ∧ Below W.heap.size W w') :=
    enter_iso (C := CGr) (f := 8) (args := [.int .i16 n0, .int .i16 n1, .int .i16 n2, .int .i16 n3, .int .i16 n4, .int .i16 n5]) (vs := [.int .i16 n0, .int .i16 n1, .int .i16 n2, .int .i16 n3, .int .i16 n4, .int .i16 n5]) (globs hL') (.cons (.int .i16 n0) (.cons (.int .i16 n1) (.cons (.int .i16 n2) (.cons (.int .i16 n3) (.cons (.int .i16 n4) (.cons (.int .i16 n5) (.nil))))))) (callsM_iso okGr noZGr (ring_run n0 n1 n2 n3 n4 n5 r0 r1 r2 r3 r4 r5))
  refine hc.mono fun e W' ⟨he, hb⟩ => ⟨_, he, ?_⟩
  exact post_true (tb := 4) (by kernel_rfl) (fun t ht => by
    rw [Tryd.params8] at ht
    have ht' : t ∈ [24, 24, 24, 24, 24, 24] := ht
    simp only [List.mem_cons, List.not_mem_nil, or_false] at ht'
    rcases ht' with rfl | rfl | rfl | rfl | rfl | rfl <;> exact ⟨by kernel_rfl, of_decide_eq_true (by kernel_rfl)⟩) (by kernel_rfl) Tryd.underlying4 rfl rfl hW' hb

theorem reads (os : Os) {H : Type} (enc : TypeId × Value → H) : ∃ places, DataW.whole enc Tryd.prog ((laidWorld os).forCall (fun _ _ => 0) ⟨#[], #[.int .i16 0, .int .i16 0, .int .i16 0, .int .i16 0, .int .i16 0, .int .i16 0], []⟩).memory Tryd.f8.params.toList Rows.fracRingSpec.vars false (#[.int .i16 0, .int .i16 0, .int .i16 0, .int .i16 0, .int .i16 0, .int .i16 0] : Array Value).toList 8 = some ([.lit (.int .i16 0), .lit (.int .i16 0), .lit (.int .i16 0), .lit (.int .i16 0), .lit (.int .i16 0), .lit (.int .i16 0)], [], places) :=
  ⟨[], by kernel_rfl⟩
set_option maxRecDepth 100000 in
theorem lifted (os : Os) (started : os.Started) (H : Type) (enc : TypeId × Value → H) (F : Stop.Interp) :
    ReturnsInHanded {} Tryd.checked os 8 .any ((OpenSpec.ofChange Rows.fracRingSpec).preRow enc Tryd.prog Tryd.f8 Rows.fracRingRow.domain false Rows.fracRingRow.laid) (((OpenSpec.ofChange Rows.fracRingSpec).at F).post enc Tryd.prog Tryd.f8 false true false false) := by
  obtain ⟨places, hx⟩ := reads os enc
  refine returnsInHanded_of_row (C := Tryd.checked) (s := OpenSpec.ofChange Rows.fracRingSpec) own started (by kernel_rfl) Tryd.func8
    (witness_row_atRef (enc := enc) (C := Tryd.checked) false (laidWorld os) #[.int .i16 0, .int .i16 0, .int .i16 0, .int .i16 0, .int .i16 0, .int .i16 0] rfl (by kernel_rfl) (by kernel_rfl) (by kernel_rfl)
      (OpenSpec.preRow_of_cond 8 hx (by kernel_rfl) (fun k hk => by cases hk) (by kernel_rfl) (laid_met os _))) ?_
  intro W base args ds gs before hval hW _ _ hR hL _ _
  exact contract H enc W base args ds gs before hval hW hR hL
theorem said : Rows.FracRingSaid :=
  OpenClaim.holds_of_cond 8 Tryd.f8 rfl rfl rfl rfl rfl rfl rfl ⟨rfl, rfl, rfl, rfl, rfl⟩ rfl rfl rfl rfl rfl (by kernel_rfl) Tryd.func8 (by kernel_rfl)
    (of_decide_eq_true (by kernel_rfl)) (by unfold Func.isWrapper; first | (rw [if_pos (by decide +kernel)]; kernel_rfl) | (rw [if_neg (by decide +kernel)]; exact ⟨rfl, rfl⟩))
    (fun os started H enc _ F => by rw [OpenClaim.pre_eq_preRow]; exact lifted os started H enc F)
theorem plain (f : FuncId) (fn : Func) (hf : Tryd.pinned.checked.prog.funcNamed "finesse/finesselaw01.FracRing" = some f) (hfn : Tryd.pinned.checked.prog.funcs[f]? = some fn) :
    true = Tryd.pinned.checked.prog.looks [] ∧ ∀ (j : Nat) t, fn.params[j]? = some t → Tryd.pinned.checked.prog.wantsStandIn t = false := by
  obtain rfl : f = 8 := Option.some.inj ((show Tryd.prog.funcNamed "finesse/finesselaw01.FracRing" = some 8 by kernel_rfl).symm.trans hf) |>.symm
  obtain rfl : fn = Tryd.f8 := (Option.some.inj (Tryd.func8.symm.trans hfn)).symm
  refine ⟨by kernel_rfl, fun j t ht => ?_⟩
  rw [Tryd.params8] at ht
  have ht : t ∈ [24, 24, 24, 24, 24, 24] := by
    have := Array.mem_of_getElem? ht
    simpa using this
  simp only [List.mem_cons, List.not_mem_nil, or_false] at ht
  rcases ht with rfl | rfl | rfl | rfl | rfl | rfl
  · exact (show Tryd.prog.wantsStandIn 24 = false by kernel_rfl)
  · exact (show Tryd.prog.wantsStandIn 24 = false by kernel_rfl)
  · exact (show Tryd.prog.wantsStandIn 24 = false by kernel_rfl)
  · exact (show Tryd.prog.wantsStandIn 24 = false by kernel_rfl)
  · exact (show Tryd.prog.wantsStandIn 24 = false by kernel_rfl)
  · exact (show Tryd.prog.wantsStandIn 24 = false by kernel_rfl)
/-- THE CARD. -/
theorem card : Rows.FracRingCardSaid :=
  Claim7.holds_tied_plain_at .later [] _ _ _ _ said (fun _ h => by cases h) (by kernel_rfl) (fun _ h => by cases h) fracRing_row_tie rfl ⟨rfl, rfl⟩ (by kernel_rfl) rfl plain (by kernel_rfl)
#print axioms card
end Go.Proofs.YtbblfgfaoolloaaDoor.kFracRing
