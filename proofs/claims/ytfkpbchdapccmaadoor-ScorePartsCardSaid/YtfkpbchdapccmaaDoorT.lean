/- Chapter 17: texts of contracts. -/
import Derived.Test.YtfkpbchdapccmaaDoorN
namespace Go.Proofs.YtfkpbchdapccmaaDoor
open Go Go.Ev

def den (b : Int) : UInt8 := ([67, 68, 72, 83, 78] : List UInt8).getD b.toNat 0
def seat (d : Int) : UInt8 := ([78, 69, 83, 87] : List UInt8).getD d.toNat 0
def textR (a b r d : Int) : List UInt8 := bif a == 0 then [112, 97, 115, 115] else
  dig a.toNat :: den b :: ((bif r == 0 then [] else bif r == 1 then [88] else [88, 88]) ++ [32, seat d])
def text (a b r d : Int) : List UInt8 := bif right a b r d then textR a b r d else []
def textE (a b r d : Int) : Int := bif right a b r d then 0 else 2
def txt (s : List UInt8) (e : Int) : AV := .tup [.str s, .int .i64 e]

def domT : List (Int × Int × Int × Int) := (rng 1 7).flatMap fun a => (rng 0 5).flatMap fun b => (rng 0 3).flatMap fun r => (rng 0 4).map fun d => (a, b, r, d)
theorem mem_domT {a b r d : Int} (h1 : 1 ≤ a) (h2 : a ≤ 7) (h3 : 0 ≤ b) (h4 : b ≤ 4) (h5 : 0 ≤ r) (h6 : r ≤ 2) (h7 : 0 ≤ d) (h8 : d ≤ 3) : (a, b, r, d) ∈ domT :=
  List.mem_flatMap.2 ⟨a, mem_rng (by omega) (by omega), List.mem_flatMap.2 ⟨b, mem_rng (by omega) (by omega), List.mem_flatMap.2 ⟨r, mem_rng (by omega) (by omega), List.mem_map.2 ⟨d, mem_rng (by omega) (by omega), rfl⟩⟩⟩⟩

def lim (n : Nat) : Bool := n.ble 9223372036854775807
def cutS (s : List UInt8) (i : Int) : List UInt8 := List.drop i.toNat (List.take (IntKind.u8.wrap (i + 1)).toNat s)
def tree22 (a b r d : Int) : Option AV :=
  bif leI (-13) (IntKind.i64.wrap a) && leI (IntKind.i64.wrap a) 99 then
  bif true && leI 0 b && leI b (IntKind.u8.wrap (b + 1)) && leI (IntKind.u8.wrap (b + 1)) 5 then
  bif lim ((itoaS (IntKind.i64.wrap a)).length + (cutS [67, 68, 72, 83, 78] b).length) then
  bif leI 0 (IntKind.i64.wrap r) && leI (IntKind.i64.wrap r) 9223372036854775807 && (1 * (IntKind.i64.wrap r).toNat).ble 140737488355328 then
  bif lim ((itoaS (IntKind.i64.wrap a) ++ cutS [67, 68, 72, 83, 78] b).length + (Lib.repeatL [88] (IntKind.i64.wrap r).toNat).length) then
  bif lim ((itoaS (IntKind.i64.wrap a) ++ cutS [67, 68, 72, 83, 78] b ++ Lib.repeatL [88] (IntKind.i64.wrap r).toNat).length + 1) then
  bif true && leI 0 d && leI d (IntKind.u8.wrap (d + 1)) && leI (IntKind.u8.wrap (d + 1)) 4 then
  bif lim ((itoaS (IntKind.i64.wrap a) ++ cutS [67, 68, 72, 83, 78] b ++ Lib.repeatL [88] (IntKind.i64.wrap r).toNat ++ [32]).length + (cutS [78, 69, 83, 87] d).length) then
  some (txt (itoaS (IntKind.i64.wrap a) ++ cutS [67, 68, 72, 83, 78] b ++ Lib.repeatL [88] (IntKind.i64.wrap r).toNat ++ [32] ++ cutS [78, 69, 83, 87] d) 0)
  else none else none else none else none else none else none else none else none
theorem t22 (a b r d : Int) : (calls C2 60 22 [con a b r d]).run = bif !right a b r d then some (txt [] 2) else bif a == 0 then some (txt [112, 97, 115, 115] 0) else tree22 a b r d := by kernel_rfl
theorem tree22_dom : domT.map (fun x => tree22 x.1 x.2.1 x.2.2.1 x.2.2.2) = domT.map fun x => some (txt (textR x.1 x.2.1 x.2.2.1 x.2.2.2) 0) := by kernel_rfl
theorem e22 (a b r d : Int) (h : conB a b r d = true) : (calls C2 60 22 [con a b r d]).run = some (txt (text a b r d) (textE a b r d)) := by
  rw [t22]
  unfold text textE
  cases hr : right a b r d
  · rfl
  · rw [bif_f (b := !true) rfl]
    cases h0 : a == 0
    · obtain ⟨ha, hb, hc, hd⟩ := (right_iff h h0).1 hr
      rw [bif_f rfl, allEq tree22_dom _ (mem_domT ha.1 ha.2 hb.1 hb.2 hc.1 hc.2 hd.1 hd.2)]
      rfl
    · unfold textR
      rw [h0]
      rfl

/-- A contract that is not right, as the reference's Text sees it. -/
def sWrongR : List AV → T AV
  | [.agg [.int .u8 a, .int .u8 b, .int .u8 r, .int .u8 d]] => .chk (!right a b r d) (.leaf (.bool false))
  | _ => .fail
theorem sWrongR_run : ∀ args v, (sWrongR args).run = some v → (calls C 60 27 args).run = some v := by
  intro args v hr
  unfold sWrongR at hr
  split at hr
  · obtain ⟨h1, hr⟩ := T.of_chk hr
    cases Option.some.inj hr
    simp only [Bool.not_eq_true'] at h1
    rw [e27, h1]
  · simp [T.run] at hr
noncomputable def tabF : List (Nat × (List AV → T AV)) := [(27, sWrongR)]
theorem allTabF : AllL (SumAt C2) tabF := ⟨⟨(calls_fn ok (e27 0 0 0 0)).at rfl, fun args v hr => (calls_iso ok (sWrongR_run args v hr)).at rfl rfl⟩, trivial⟩
noncomputable def Cf : Ctx := withSum C2 tabF
theorem okf : Ok Cf := ok_with ok2 allTabF
theorem t30f (a b r d : Int) : (calls Cf 60 30 [con a b r d]).run = bif !right a b r d then some (txt [] 2) else none := by kernel_rfl
theorem t30z : (calls C2 60 30 [con 0 0 0 0]).run = some (txt [112, 97, 115, 115] 0) := by kernel_rfl
def domBRD : List (Int × Int × Int) := (rng 0 5).flatMap fun b => (rng 0 3).flatMap fun r => (rng 0 4).map fun d => (b, r, d)
def Text30 (a : Int) : Prop := domBRD.map (fun x => (calls C2 60 30 [con a x.1 x.2.1 x.2.2]).run) = domBRD.map fun x => some (txt (textR a x.1 x.2.1 x.2.2) 0)
theorem Text30.at {a b r d : Int} (h : Text30 a) (h3 : 0 ≤ b) (h4 : b ≤ 4) (h5 : 0 ≤ r) (h6 : r ≤ 2) (h7 : 0 ≤ d) (h8 : d ≤ 3) : (calls C2 60 30 [con a b r d]).run = some (txt (textR a b r d) 0) := by
  have hm : (b, r, d) ∈ domBRD := List.mem_flatMap.2 ⟨b, mem_rng (by omega) (by omega), List.mem_flatMap.2 ⟨r, mem_rng (by omega) (by omega), List.mem_map.2 ⟨d, mem_rng (by omega) (by omega), rfl⟩⟩⟩
  exact List.map_inj_left.1 h (b, r, d) hm
end Go.Proofs.YtfkpbchdapccmaaDoor
