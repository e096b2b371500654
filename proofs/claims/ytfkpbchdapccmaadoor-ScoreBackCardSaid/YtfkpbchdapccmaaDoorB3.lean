import Derived.Test.YtfkpbchdapccmaaDoorB2
import Derived.Test.YtfkpbchdapccmaaDoorA2

/- Chapter 17: the reference's Read. -/
namespace Go.Proofs.YtfkpbchdapccmaaDoor
open Go Go.Ev

def noZ : FuncId → Code → Option SumF := fun _ _ => none
def conE (a b r d e : Int) : AV := .tup [con a b r d, .int .i64 e]
def domR : List (Int × Int × Int × Int) := (0, 0, 0, 0) :: domT
/-- The first contract with a text. -/
def firstC (s : List UInt8) : List (Int × Int × Int × Int) → Option AV
  | [] => some (conE 0 0 0 0 170)
  | x :: l => bif text x.1 x.2.1 x.2.2.1 x.2.2.2 == s then some (conE x.1 x.2.1 x.2.2.1 x.2.2.2 0) else firstC s l
theorem t33 (s : List UInt8) : callsM C5 noZ 100 33 [.str s] = firstC s domR := by kernel_rfl
end Go.Proofs.YtfkpbchdapccmaaDoor

/- Chapter 17: Read, the program's and the reference's. -/
namespace Go.Proofs.YtfkpbchdapccmaaDoor
open Go Go.Ev

def fnd (s : List UInt8) : Option (Int × Int × Int × Int) := domR.find? fun x => text x.1 x.2.1 x.2.2.1 x.2.2.2 == s
def rC (s : List UInt8) : Int × Int × Int × Int := (fnd s).getD (0, 0, 0, 0)
def rE (s : List UInt8) : Int := bif (fnd s).isSome then 0 else 170
def rK (s : List UInt8) : AV := conE (rC s).1 (rC s).2.1 (rC s).2.2.1 (rC s).2.2.2 (rE s)
theorem firstC_eq (s : List UInt8) : firstC s domR = some (rK s) := by
  have key : ∀ l : List (Int × Int × Int × Int), firstC s l = match l.find? (fun x => text x.1 x.2.1 x.2.2.1 x.2.2.2 == s) with | some x => some (conE x.1 x.2.1 x.2.2.1 x.2.2.2 0) | none => some (conE 0 0 0 0 170) := by
    intro l
    induction l with
    | nil => rfl
    | cons x l ih =>
      unfold firstC
      rw [List.find?_cons]
      cases text x.1 x.2.1 x.2.2.1 x.2.2.2 == s
      · exact ih
      · rfl
  rw [key domR]
  unfold rK rC rE fnd
  cases domR.find? fun x => text x.1 x.2.1 x.2.2.1 x.2.2.2 == s <;> rfl

def err23 : Option AV := some (conE 0 0 0 0 170)
def iD (s : List UInt8) : Int := Lib.indexByte [67, 68, 72, 83, 78] ((((s.getD (Int.toNat 1) 0).toNat : Int)).toNat.toUInt8)
def iS (s : List UInt8) : Int := Lib.indexByte [78, 69, 83, 87] ((((s.getD (IntKind.i64.wrap ((s.length : Int) - 1)).toNat 0).toNat : Int)).toNat.toUInt8)
def a23 (s : List UInt8) : Int := IntKind.u8.wrap (((s.getD (Int.toNat 0) 0).toNat : Int) - 48)
def b23 (s : List UInt8) : Int := IntKind.u8.wrap (iD s)
def r23 (s : List UInt8) : Int := IntKind.u8.wrap (IntKind.i64.wrap ((s.length : Int) - 4))
def d23 (s : List UInt8) : Int := IntKind.u8.wrap (iS s)
def tree23 (s : List UInt8) : Option AV :=
  bif s == [112, 97, 115, 115] then some (conE 0 0 0 0 0) else
  bif decide ((s.length : Int) < 4) then err23 else bif decide ((s.length : Int) > 6) then err23 else
  bif true && decide ((0 : Int) < s.length) then bif decide (((s.getD (Int.toNat 0) 0).toNat : Int) < 49) then err23 else
  bif true && decide ((0 : Int) < s.length) then bif decide (((s.getD (Int.toNat 0) 0).toNat : Int) > 55) then err23 else
  bif true && decide ((1 : Int) < s.length) then
  bif true && leI 0 (IntKind.i64.wrap ((s.length : Int) - 1)) && decide (IntKind.i64.wrap ((s.length : Int) - 1) < s.length) then
  bif decide (iD s < 0) then err23 else bif decide (iS s < 0) then err23 else
  bif true && decide ((0 : Int) < s.length) then
  bif conB (a23 s) (b23 s) (r23 s) (d23 s) then
  bif !(text (a23 s) (b23 s) (r23 s) (d23 s) == s) then err23 else some (conE (a23 s) (b23 s) (r23 s) (d23 s) 0)
  else none else none else none else none else none else none
theorem t23 (s : List UInt8) : (calls C5 60 23 [.str s]).run = tree23 s := by kernel_rfl
theorem tree23_dom : domR.map (fun x => tree23 (text x.1 x.2.1 x.2.2.1 x.2.2.2)) = domR.map fun x => some (conE x.1 x.2.1 x.2.2.1 x.2.2.2 0) := by kernel_rfl
theorem u8_b (n : Int) : 0 ≤ IntKind.u8.wrap n ∧ IntKind.u8.wrap n ≤ 255 := by
  have h : IntKind.u8.wrap n = n % 256 := rfl
  rw [h]; omega
theorem tree23_eq (s : List UInt8) : tree23 s = some (rK s) := by
  cases hf : fnd s with
  | some x =>
    have h1 := List.find?_some hf
    have h2 := List.mem_of_find?_eq_some hf
    have h3 := allEq tree23_dom x h2
    simp only [beq_iff_eq] at h1
    rw [h1] at h3
    rw [h3]
    unfold rK rC rE
    rw [hf]
    rfl
  | none =>
    have hn := List.find?_eq_none.1 hf
    have e : rK s = conE 0 0 0 0 170 := by unfold rK rC rE; rw [hf]; rfl
    rw [e]
    show tree23 s = err23
    unfold tree23
    cases h0 : s == [112, 97, 115, 115]
    · rw [cond_false]
      by_cases h1 : (s.length : Int) < 4
      · rw [decide_eq_true h1]; rfl
      rw [decide_eq_false h1, cond_false]
      by_cases h2 : (s.length : Int) > 6
      · rw [decide_eq_true h2]; rfl
      rw [decide_eq_false h2, cond_false, decide_eq_true (by omega : (0 : Int) < s.length), Bool.and_self, cond_true, cond_true]
      cases decide (((s.getD (Int.toNat 0) 0).toNat : Int) < 49)
      · rw [cond_false]
        cases decide (((s.getD (Int.toNat 0) 0).toNat : Int) > 55)
        · rw [cond_false, decide_eq_true (by omega : (1 : Int) < s.length), Bool.and_self, cond_true, IntWalk.i64_in ((s.length : Int) - 1) (by omega), leI_iff.2 (by omega : (0 : Int) ≤ (s.length : Int) - 1), decide_eq_true (by omega : (s.length : Int) - 1 < s.length)]
          rw [Bool.and_self, Bool.and_self, cond_true]
          cases decide (iD s < 0)
          · rw [cond_false]
            cases decide (iS s < 0)
            · rw [cond_false, cond_true, show conB (a23 s) (b23 s) (r23 s) (d23 s) = true from conB_mk (u8_b _) (u8_b _) (u8_b _) (u8_b _), cond_true]
              cases ht : text (a23 s) (b23 s) (r23 s) (d23 s) == s
              · rfl
              · exfalso
                have hc : conB (a23 s) (b23 s) (r23 s) (d23 s) = true := conB_mk (u8_b _) (u8_b _) (u8_b _) (u8_b _)
                generalize a23 s = a at ht hc
                generalize b23 s = b at ht hc
                generalize r23 s = r at ht hc
                generalize d23 s = d at ht hc
                have hs := beq_iff_eq.1 ht
                cases hr : right a b r d
                · have : text a b r d = [] := by unfold text; rw [hr]; rfl
                  rw [this] at hs
                  subst hs
                  simp at h1
                · cases ha : a == 0
                  · obtain ⟨g1, g2, g3, g4⟩ := (right_iff hc ha).1 hr
                    have hm : (a, b, r, d) ∈ domR := List.mem_cons_of_mem _ (mem_domT g1.1 g1.2 g2.1 g2.2 g3.1 g3.2 g4.1 g4.2)
                    exact absurd ht (by simpa using hn _ hm)
                  · have : text a b r d = [112, 97, 115, 115] := by unfold text textR; rw [hr, ha]; rfl
                    rw [this] at hs
                    subst hs
                    simp at h0
            · rfl
          · rfl
        · rfl
      · rfl
    · exfalso
      have hs := beq_iff_eq.1 h0
      have := hn (0, 0, 0, 0) (List.mem_cons_self ..)
      rw [hs] at this
      exact this rfl
theorem e23 (s : List UInt8) : (calls C5 60 23 [.str s]).run = some (rK s) := by rw [t23, tree23_eq]
end Go.Proofs.YtfkpbchdapccmaaDoor

/- Chapter 17: the last space of a string, as the reference looks for it. -/
namespace Go.Proofs.YtfkpbchdapccmaaDoor
open Go Go.Ev

theorem keepOk : ∀ f fd, C5.code f = some fd → fd.keep.Nodup := by
  intro f fd h
  have key : (fdTab.all fun p => nodupB p.2.keep) = true := by kernel_rfl
  have := List.all_eq_true.1 key _ (fdAt_mem (show fdAt fdTab f = some fd from h))
  exact nodupB_ok this
theorem noZ5 : ZOk C5 noZ := noZ_ok keepOk

noncomputable def body34 : Code := Tryd.f34.body.getD .skip
noncomputable def blk34 : Code := piece (isBlk 0) body34
noncomputable def bod34 : Code := unLoop (unBlk blk34)
abbrev kp34 : List Tmp := [0, 2, 3, 4, 5, 6, 7, 8, 9, 10, 11, 13, 18, 24, 27, 37, 40, 55]
abbrev ct34 : List Tmp := [13, 18, 24, 27, 37, 40, 55]
theorem one34 : (pieceL (isBlk 0) body34).length = 1 := by kernel_rfl
theorem is34 : blk34 = .block 0 (.loop bod34) := by kernel_rfl

def rnd34 : SumF := fun vs H => match vs, H with
  | [.str s, x1, x2, x3, .int .i64 a, .int .i64 i, x6, x7, x8, x9, x10, x11, _, x13, x14, x15, x16, x17], H =>
    .br (decide (i < s.length)) (.chk (true && leI 0 i && decide (i < s.length)) (.br (((s.getD i.toNat 0).toNat : Int) == 32)
        (.leaf (.n, [.str s, x1, x2, x3, .int .i64 i, .int .i64 (IntKind.i64.wrap (i + 1)), x6, x7, x8, x9, x10, x11, .undef, .undef, x14, x15, x16, x17], H))
        (.leaf (.n, [.str s, x1, x2, x3, .int .i64 a, .int .i64 (IntKind.i64.wrap (i + 1)), x6, x7, x8, x9, x10, x11, .undef, .undef, x14, x15, x16, x17], H))))
      (.leaf (.ex 0, [.str s, x1, x2, x3, .int .i64 a, .int .i64 i, x6, x7, x8, x9, x10, x11, .undef, x13, x14, x15, x16, x17], H))
  | _, _ => .fail
theorem round34 (s : List UInt8) (a i : Int) (x1 x2 x3 x6 x7 x8 x9 x10 x11 x12 x13 x14 x15 x16 x17 : AV) (H : Heap) (m : Nat) :
    codeM C5 noZ 30 34 kp34 ct34 bod34 [.str s, x1, x2, x3, .int .i64 a, .int .i64 i, x6, x7, x8, x9, x10, x11, x12, x13, x14, x15, x16, x17] H m =
    (rnd34 [.str s, x1, x2, x3, .int .i64 a, .int .i64 i, x6, x7, x8, x9, x10, x11, x12, x13, x14, x15, x16, x17] H).run := by kernel_rfl

/-- The last space, from place 'i' on. -/
def spL : List UInt8 → Int → Int → Int
  | [], a, _ => a
  | c :: l, a, i => spL l (bif ((c.toNat : Int) == 32) then i else a) (i + 1)
theorem rnd34_len : KeepsLen rnd34 := by
  intro vs H q hq
  unfold rnd34 at hq
  split at hq
  · rcases T.of_br hq with ⟨_, hq⟩ | ⟨_, hq⟩
    · obtain ⟨_, hq⟩ := T.of_chk hq
      rcases T.of_br hq with ⟨_, hq⟩ | ⟨_, hq⟩ <;> (cases Option.some.inj hq; rfl)
    · cases Option.some.inj hq; rfl
  · simp [T.run] at hq
theorem loop34 (s : List UInt8) (hs : s.length ≤ 140737488355328) (x1 x2 x3 x6 x7 x8 x9 x10 x11 x14 x15 x16 x17 : AV) (H : Heap) : ∀ (l pre : List UInt8) (a : Int) (x12 x13 : AV), s = pre ++ l → ∃ y13,
    (loopF rnd34 (l.length + 1) [.str s, x1, x2, x3, .int .i64 a, .int .i64 pre.length, x6, x7, x8, x9, x10, x11, x12, x13, x14, x15, x16, x17] H).run =
      some (.ex 0, [.str s, x1, x2, x3, .int .i64 (spL l a pre.length), .int .i64 s.length, x6, x7, x8, x9, x10, x11, .undef, y13, x14, x15, x16, x17], H)
  | [], pre, a, x12, x13, h => by
    refine ⟨x13, ?_⟩
    have e : s.length = pre.length := by rw [h]; simp
    simp only [loopF, rnd34, T.run_bind, T.run, e, decide_eq_false (by omega : ¬ (pre.length : Int) < pre.length), cond_false, Option.bind_some]
    rfl
  | c :: l, pre, a, x12, x13, h => by
    have e : s.length = pre.length + (l.length + 1) := by rw [h]; simp
    have hg : s.getD ((pre.length : Int)).toNat 0 = c := by rw [h]; simp
    obtain ⟨y, ih⟩ := loop34 s hs x1 x2 x3 x6 x7 x8 x9 x10 x11 x14 x15 x16 x17 H l (pre ++ [c]) (bif ((c.toNat : Int) == 32) then (pre.length : Int) else a) .undef .undef (by rw [h]; simp)
    refine ⟨y, ?_⟩
    have hw : IntKind.i64.wrap ((pre.length : Int) + 1) = (pre.length : Int) + 1 := IntWalk.i64_in _ (by omega)
    have el : ((pre ++ [c]).length : Int) = (pre.length : Int) + 1 := by simp
    rw [el] at ih
    rw [loopF]
    have hb : (rnd34 [.str s, x1, x2, x3, .int .i64 a, .int .i64 pre.length, x6, x7, x8, x9, x10, x11, x12, x13, x14, x15, x16, x17] H).run =
        some (.n, [.str s, x1, x2, x3, .int .i64 (bif ((c.toNat : Int) == 32) then (pre.length : Int) else a), .int .i64 ((pre.length : Int) + 1), x6, x7, x8, x9, x10, x11, .undef, .undef, x14, x15, x16, x17], H) := by
      simp only [rnd34, T.run, T.chk, decide_eq_true (by omega : (pre.length : Int) < s.length), leI_iff.2 (by omega : (0 : Int) ≤ pre.length), Bool.and_self, cond_true, hg, hw]
      cases ((c.toNat : Int) == 32) <;> rfl
    rw [T.run_bind, hb]
    exact ih

/-- What the search for the last space gives. -/
def sp34 : SumF := fun vs H => match vs, H with
  | [.str s, x1, x2, x3, .int .i64 a, .int .i64 i, x6, x7, x8, x9, x10, x11, _, _, x14, x15, x16, x17], H =>
    .chk (a == -1 && (i == 0 && Nat.ble s.length 140737488355328)) (.leaf (.n, [.str s, x1, x2, x3, .int .i64 (spL s (-1) 0), .undef, x6, x7, x8, x9, x10, x11, .undef, .undef, x14, x15, x16, x17], H))
  | _, _ => .fail
noncomputable def fd34 : FD := { fn := Tryd.f34, keep := kp34, ct := ct34 }
theorem fdat34 : C5.code 34 = some fd34 := by kernel_rfl
theorem bod34_in : bod34 ∈ subs body34 := by
  have h1 : blk34 ∈ subs body34 := by
    have := one34
    have hm : blk34 ∈ pieceL (isBlk 0) body34 := by
      unfold blk34 piece
      match h : pieceL (isBlk 0) body34, this with
      | [x], _ => simp
    exact (List.mem_filter.1 hm).1
  rw [is34] at h1
  exact subs_trans (by simp [subs, subs_self]) h1
theorem hb34 : fd34.fn.body = some body34 := by kernel_rfl
theorem sum34 : SumC C5 fd34 blk34 sp34 := by
  have h0 : SumC C5 fd34 bod34 rnd34 := sumC_run (C := C5) ok5 noZ5 rfl rfl fdat34 hb34 bod34_in 30 fun vs H m => by
    unfold rnd34
    split
    · left; exact round34 _ _ _ _ _ _ _ _ _ _ _ _ _ _ _ _ _ _ _ m
    · right; rfl
  have h1 := sumC_block (id := 0) (sumC_loop h0 rnd34_len (fun vs => match vs with | .str s :: _ => s.length + 1 | _ => 0))
  rw [is34]
  refine sumC_less h1 fun vs H q hv hr => ?_
  unfold sp34 at hr
  split at hr
  · rename_i s x1 x2 x3 a i x6 x7 x8 x9 x10 x11 x12 x13 x14 x15 x16 x17
    obtain ⟨hc, hr2⟩ := T.of_chk hr
    clear hr
    simp only [Bool.and_eq_true, beq_iff_eq, Nat.ble_eq] at hc
    obtain ⟨rfl, rfl, hs⟩ := hc
    cases Option.some.inj hr2
    obtain ⟨y, hl⟩ := loop34 s hs x1 x2 x3 x6 x7 x8 x9 x10 x11 x14 x15 x16 x17 H s [] (-1) x12 x13 rfl
    refine ⟨_, ?_, less_of (vs1 := [.str s, x1, x2, x3, .int .i64 (spL s (-1) 0), .int .i64 s.length, x6, x7, x8, x9, x10, x11, .undef, y, x14, x15, x16, x17]) rfl rfl fun j => ?_⟩
    · unfold blkF
      rw [T.run_bind]
      have hl' : (loopF rnd34 (s.length + 1) [.str s, x1, x2, x3, .int .i64 (-1), .int .i64 0, x6, x7, x8, x9, x10, x11, x12, x13, x14, x15, x16, x17] H).run = _ := hl
      simp only
      rw [hl']
      rfl
    · match j with
      | 0 | 1 | 2 | 3 | 4 | 6 | 7 | 8 | 9 | 10 | 11 | 14 | 15 | 16 | 17 => exact .inr rfl
      | 5 => exact .inl rfl
      | 12 => exact .inl rfl
      | 13 => exact .inl rfl
      | n + 18 => exact .inr rfl
  · simp [T.run] at hr
theorem sp34_len : KeepsLen sp34 := by
  intro vs H q hq
  unfold sp34 at hq
  split at hq
  · obtain ⟨_, hq⟩ := T.of_chk hq
    cases Option.some.inj hq; rfl
  · simp [T.run] at hq
theorem ent34 : ZEnt C5 (34, isBlk 0, sp34) := by
  refine ⟨sp34_len, fun fd c0 hfd hb c hc hp => ?_⟩
  obtain rfl : fd34 = fd := Option.some.inj (fdat34.symm.trans hfd)
  obtain rfl : body34 = c0 := Option.some.inj (hb34.symm.trans hb)
  rw [piece_one one34 hc hp]
  exact sum34
def z34 : ZTab := [(34, isBlk 0, sp34)]
theorem z34_ok : ZOk C5 (zAt z34) := zAt_ok keepOk fun e he => by
  obtain rfl : e = (34, isBlk 0, sp34) := by simpa [z34] using he
  exact ent34
end Go.Proofs.YtfkpbchdapccmaaDoor

/- Chapter 17: the reference's search for the tricks. -/
namespace Go.Proofs.YtfkpbchdapccmaaDoor
open Go Go.Ev

noncomputable def blk34b : Code := piece (isBlk 2) body34
noncomputable def bod34b : Code := unLoop (unBlk blk34b)
theorem one34b : (pieceL (isBlk 2) body34).length = 1 := by kernel_rfl
theorem is34b : blk34b = .block 2 (.loop bod34b) := by kernel_rfl

def rnd34b : SumF := fun vs H => match vs, H with
  | [.str s, .own 0 0, x2, x3, x4, x5, .own 1 0, x7, .int .i64 tr, x9, x10, x11, x12, x13, x14, x15, _, x17], [some ⟨23, [z0, z1, z2, z3]⟩, some ⟨23, [.int .u8 a, .int .u8 b, .int .u8 r, .int .u8 d]⟩] =>
    .br (decide (tr < 14))
      (.chk (conB a b r d) (.br (writeE a b r d tr == 0)
        (.br (writeK a b r d tr == s)
          (.leaf (.ret, [.str s, .own 0 0, .int .i64 tr, .int .i64 0, x4, x5, .own 1 0, x7, .int .i64 tr, .str (writeK a b r d tr), .int .i64 (writeE a b r d tr), x11, x12, x13, x14, x15, .undef, .undef],
            [some ⟨23, [.int .u8 a, .int .u8 b, .int .u8 r, .int .u8 d]⟩, some ⟨23, [.int .u8 a, .int .u8 b, .int .u8 r, .int .u8 d]⟩]))
          (.leaf (.n, [.str s, .own 0 0, x2, x3, x4, x5, .own 1 0, x7, .int .i64 (IntKind.i64.wrap (tr + 1)), .str (writeK a b r d tr), .int .i64 (writeE a b r d tr), x11, x12, x13, x14, x15, .undef, .undef],
            [some ⟨23, [z0, z1, z2, z3]⟩, some ⟨23, [.int .u8 a, .int .u8 b, .int .u8 r, .int .u8 d]⟩])))
        (.leaf (.n, [.str s, .own 0 0, x2, x3, x4, x5, .own 1 0, x7, .int .i64 (IntKind.i64.wrap (tr + 1)), .str (writeK a b r d tr), .int .i64 (writeE a b r d tr), x11, x12, x13, x14, x15, .undef, .undef],
            [some ⟨23, [z0, z1, z2, z3]⟩, some ⟨23, [.int .u8 a, .int .u8 b, .int .u8 r, .int .u8 d]⟩]))))
      (.leaf (.ex 2, [.str s, .own 0 0, x2, x3, x4, x5, .own 1 0, x7, .int .i64 tr, x9, x10, x11, x12, x13, x14, x15, .undef, x17], [some ⟨23, [z0, z1, z2, z3]⟩, some ⟨23, [.int .u8 a, .int .u8 b, .int .u8 r, .int .u8 d]⟩]))
  | _, _ => .fail
theorem round34b (s : List UInt8) (tr a b r d : Int) (z0 z1 z2 z3 x2 x3 x4 x5 x7 x9 x10 x11 x12 x13 x14 x15 x16 x17 : AV) (m : Nat) :
    codeM C5 noZ 40 34 kp34 ct34 bod34b [.str s, .own 0 0, x2, x3, x4, x5, .own 1 0, x7, .int .i64 tr, x9, x10, x11, x12, x13, x14, x15, x16, x17] [some ⟨23, [z0, z1, z2, z3]⟩, some ⟨23, [.int .u8 a, .int .u8 b, .int .u8 r, .int .u8 d]⟩] m =
    (rnd34b [.str s, .own 0 0, x2, x3, x4, x5, .own 1 0, x7, .int .i64 tr, x9, x10, x11, x12, x13, x14, x15, x16, x17] [some ⟨23, [z0, z1, z2, z3]⟩, some ⟨23, [.int .u8 a, .int .u8 b, .int .u8 r, .int .u8 d]⟩]).run := by kernel_rfl

theorem rnd34b_len : KeepsLen rnd34b := by
  intro vs H q hq
  unfold rnd34b at hq
  split at hq
  · rcases T.of_br hq with ⟨_, hq⟩ | ⟨_, hq⟩
    · obtain ⟨_, hq⟩ := T.of_chk hq
      rcases T.of_br hq with ⟨_, hq⟩ | ⟨_, hq⟩
      · rcases T.of_br hq with ⟨_, hq⟩ | ⟨_, hq⟩ <;> (cases Option.some.inj hq; rfl)
      · cases Option.some.inj hq; rfl
    · cases Option.some.inj hq; rfl
  · simp [T.run] at hq
/-- The first tricks with a text, so many tried from 'tr' on. -/
def fT (s : List UInt8) (a b r d : Int) : Nat → Int → Option Int
  | 0, _ => none
  | m + 1, tr => bif (writeE a b r d tr == 0) && (writeK a b r d tr == s) then some tr else fT s a b r d m (tr + 1)
def okT (s : List UInt8) (a b r d : Int) : Bool := (fT s a b r d 14 0).isSome
def tT (s : List UInt8) (a b r d : Int) : Int := (fT s a b r d 14 0).getD 0
theorem loop34b (s : List UInt8) (a b r d : Int) (hc : conB a b r d = true) (z0 z1 z2 z3 x2 x3 x4 x5 x7 x11 x12 x13 x14 x15 : AV) : ∀ (m : Nat) (tr : Int) (x9 x10 x16 x17 : AV), tr + m = 14 → 0 ≤ tr → ∃ y8 y9 y10 y16 y17,
    (loopF rnd34b (m + 1) [.str s, .own 0 0, x2, x3, x4, x5, .own 1 0, x7, .int .i64 tr, x9, x10, x11, x12, x13, x14, x15, x16, x17] [some ⟨23, [z0, z1, z2, z3]⟩, some ⟨23, [.int .u8 a, .int .u8 b, .int .u8 r, .int .u8 d]⟩]).run =
      bif (fT s a b r d m tr).isSome then some (.ret, [.str s, .own 0 0, .int .i64 ((fT s a b r d m tr).getD 0), .int .i64 0, x4, x5, .own 1 0, x7, y8, y9, y10, x11, x12, x13, x14, x15, y16, y17],
            [some ⟨23, [.int .u8 a, .int .u8 b, .int .u8 r, .int .u8 d]⟩, some ⟨23, [.int .u8 a, .int .u8 b, .int .u8 r, .int .u8 d]⟩])
      else some (.ex 2, [.str s, .own 0 0, x2, x3, x4, x5, .own 1 0, x7, y8, y9, y10, x11, x12, x13, x14, x15, y16, y17], [some ⟨23, [z0, z1, z2, z3]⟩, some ⟨23, [.int .u8 a, .int .u8 b, .int .u8 r, .int .u8 d]⟩])
  | 0, tr, x9, x10, x16, x17, h, _ => by
    refine ⟨.int .i64 tr, x9, x10, .undef, x17, ?_⟩
    simp only [loopF, rnd34b, T.run_bind, T.run, decide_eq_false (by omega : ¬ tr < 14), cond_false, Option.bind_some, fT]
    rfl
  | m + 1, tr, x9, x10, x16, x17, h, h0 => by
    obtain ⟨y8, y9, y10, y16, y17, ih⟩ := loop34b s a b r d hc z0 z1 z2 z3 x2 x3 x4 x5 x7 x11 x12 x13 x14 x15 m (tr + 1) (.str (writeK a b r d tr)) (.int .i64 (writeE a b r d tr)) .undef .undef (by omega) (by omega)
    have hw : IntKind.i64.wrap (tr + 1) = tr + 1 := IntWalk.i64_in _ (by omega)
    cases he : (writeE a b r d tr == 0) && (writeK a b r d tr == s)
    · refine ⟨y8, y9, y10, y16, y17, ?_⟩
      have hf : fT s a b r d (m + 1) tr = fT s a b r d m (tr + 1) := by simp only [fT, he, cond_false]
      rw [hf, ← ih, loopF, T.run_bind]
      have hb : (rnd34b [.str s, .own 0 0, x2, x3, x4, x5, .own 1 0, x7, .int .i64 tr, x9, x10, x11, x12, x13, x14, x15, x16, x17] [some ⟨23, [z0, z1, z2, z3]⟩, some ⟨23, [.int .u8 a, .int .u8 b, .int .u8 r, .int .u8 d]⟩]).run =
          some (.n, [.str s, .own 0 0, x2, x3, x4, x5, .own 1 0, x7, .int .i64 (tr + 1), .str (writeK a b r d tr), .int .i64 (writeE a b r d tr), x11, x12, x13, x14, x15, .undef, .undef],
            [some ⟨23, [z0, z1, z2, z3]⟩, some ⟨23, [.int .u8 a, .int .u8 b, .int .u8 r, .int .u8 d]⟩]) := by
        simp only [rnd34b, T.run, T.chk, decide_eq_true (by omega : tr < 14), hc, cond_true, hw]
        cases h1 : writeE a b r d tr == 0
        · rfl
        · rw [h1, Bool.true_and] at he
          rw [he]
          rfl
      rw [hb]
      rfl
    · refine ⟨.int .i64 tr, .str (writeK a b r d tr), .int .i64 (writeE a b r d tr), .undef, .undef, ?_⟩
      have hf : fT s a b r d (m + 1) tr = some tr := by simp only [fT, he, cond_true]
      simp only [Bool.and_eq_true] at he
      rw [hf, loopF, T.run_bind]
      have hb : (rnd34b [.str s, .own 0 0, x2, x3, x4, x5, .own 1 0, x7, .int .i64 tr, x9, x10, x11, x12, x13, x14, x15, x16, x17] [some ⟨23, [z0, z1, z2, z3]⟩, some ⟨23, [.int .u8 a, .int .u8 b, .int .u8 r, .int .u8 d]⟩]).run =
          some (.ret, [.str s, .own 0 0, .int .i64 tr, .int .i64 0, x4, x5, .own 1 0, x7, .int .i64 tr, .str (writeK a b r d tr), .int .i64 (writeE a b r d tr), x11, x12, x13, x14, x15, .undef, .undef],
            [some ⟨23, [.int .u8 a, .int .u8 b, .int .u8 r, .int .u8 d]⟩, some ⟨23, [.int .u8 a, .int .u8 b, .int .u8 r, .int .u8 d]⟩]) := by
        simp only [rnd34b, T.run, T.chk, decide_eq_true (by omega : tr < 14), hc, cond_true, he.1, he.2]
      rw [hb]
      rfl

/-- What the search for the tricks gives. -/
def sp34b : SumF := fun vs H => match vs, H with
  | [.str s, .own 0 0, x2, x3, x4, x5, .own 1 0, x7, .int .i64 tr, _, _, x11, x12, x13, x14, x15, _, _], [some ⟨23, [z0, z1, z2, z3]⟩, some ⟨23, [.int .u8 a, .int .u8 b, .int .u8 r, .int .u8 d]⟩] =>
    .chk (conB a b r d && tr == 0) (.br (okT s a b r d)
      (.leaf (.ret, [.str s, .own 0 0, .int .i64 (tT s a b r d), .int .i64 0, x4, x5, .own 1 0, x7, .undef, .undef, .undef, x11, x12, x13, x14, x15, .undef, .undef],
            [some ⟨23, [.int .u8 a, .int .u8 b, .int .u8 r, .int .u8 d]⟩, some ⟨23, [.int .u8 a, .int .u8 b, .int .u8 r, .int .u8 d]⟩]))
      (.leaf (.n, [.str s, .own 0 0, x2, x3, x4, x5, .own 1 0, x7, .undef, .undef, .undef, x11, x12, x13, x14, x15, .undef, .undef], [some ⟨23, [z0, z1, z2, z3]⟩, some ⟨23, [.int .u8 a, .int .u8 b, .int .u8 r, .int .u8 d]⟩])))
  | _, _ => .fail
theorem bod34b_in : bod34b ∈ subs body34 := by
  have h1 : blk34b ∈ subs body34 := by
    have := one34b
    have hm : blk34b ∈ pieceL (isBlk 2) body34 := by
      unfold blk34b piece
      match h : pieceL (isBlk 2) body34, this with
      | [x], _ => simp
    exact (List.mem_filter.1 hm).1
  rw [is34b] at h1
  exact subs_trans (by simp [subs, subs_self]) h1
theorem undef_pos {vs vs1 : List AV} (h : ∀ j, j < 18 → nth vs j = .undef ∨ nth vs j = nth vs1 j) (hl : vs.length = 18) : ∀ j, nth vs j = .undef ∨ nth vs j = nth vs1 j := by
  intro j
  rcases Nat.lt_or_ge j 18 with hj | hj
  · exact h j hj
  · left; rw [nth_eq]; simp [List.getD, List.getElem?_eq_none (by omega : vs.length ≤ j)]
theorem sum34b : SumC C5 fd34 blk34b sp34b := by
  have h0 : SumC C5 fd34 bod34b rnd34b := sumC_run (C := C5) ok5 noZ5 rfl rfl fdat34 hb34 bod34b_in 40 fun vs H m => by
    unfold rnd34b
    split
    · left; exact round34b _ _ _ _ _ _ _ _ _ _ _ _ _ _ _ _ _ _ _ _ _ _ _ _ m
    · right; rfl
  have h1 := sumC_block (id := 2) (sumC_loop h0 rnd34b_len (fun _ => 15))
  rw [is34b]
  refine sumC_less h1 fun vs H q hv hr => ?_
  unfold sp34b at hr
  split at hr
  · rename_i s x2 x3 x4 x5 x7 tr x9 x10 x11 x12 x13 x14 x15 x16 x17 z0 z1 z2 z3 a b r d
    obtain ⟨hc, hr2⟩ := T.of_chk hr
    clear hr
    simp only [Bool.and_eq_true, beq_iff_eq] at hc
    obtain ⟨hc, rfl⟩ := hc
    obtain ⟨y8, y9, y10, y16, y17, hl⟩ := loop34b s a b r d hc z0 z1 z2 z3 x2 x3 x4 x5 x7 x11 x12 x13 x14 x15 14 0 x9 x10 x16 x17 (by omega) (by omega)
    rcases T.of_br hr2 with ⟨ho, hr3⟩ | ⟨ho, hr3⟩
    · cases Option.some.inj hr3
      have ho' : (fT s a b r d 14 0).isSome = true := ho
      rw [ho', cond_true] at hl
      refine ⟨_, ?_, less_of (vs1 := [.str s, .own 0 0, .int .i64 (tT s a b r d), .int .i64 0, x4, x5, .own 1 0, x7, y8, y9, y10, x11, x12, x13, x14, x15, y16, y17]) rfl rfl (undef_pos (fun j hj => ?_) rfl)⟩
      · unfold blkF
        rw [T.run_bind]
        simp only
        rw [hl]
        rfl
      · match j, hj with
        | 0, _ | 1, _ | 2, _ | 3, _ | 4, _ | 5, _ | 6, _ | 7, _ | 11, _ | 12, _ | 13, _ | 14, _ | 15, _ => exact .inr rfl
        | 8, _ | 9, _ | 10, _ | 16, _ | 17, _ => exact .inl rfl
        | n + 18, hj => exact absurd hj (by omega)
    · cases Option.some.inj hr3
      have ho' : (fT s a b r d 14 0).isSome = false := ho
      rw [ho', cond_false] at hl
      refine ⟨_, ?_, less_of (vs1 := [.str s, .own 0 0, x2, x3, x4, x5, .own 1 0, x7, y8, y9, y10, x11, x12, x13, x14, x15, y16, y17]) rfl rfl (undef_pos (fun j hj => ?_) rfl)⟩
      · unfold blkF
        rw [T.run_bind]
        simp only
        rw [hl]
        rfl
      · match j, hj with
        | 0, _ | 1, _ | 2, _ | 3, _ | 4, _ | 5, _ | 6, _ | 7, _ | 11, _ | 12, _ | 13, _ | 14, _ | 15, _ => exact .inr rfl
        | 8, _ | 9, _ | 10, _ | 16, _ | 17, _ => exact .inl rfl
        | n + 18, hj => exact absurd hj (by omega)
  · simp [T.run] at hr
theorem sp34b_len : KeepsLen sp34b := by
  intro vs H q hq
  unfold sp34b at hq
  split at hq
  · obtain ⟨_, hq⟩ := T.of_chk hq
    rcases T.of_br hq with ⟨_, hq⟩ | ⟨_, hq⟩ <;> (cases Option.some.inj hq; rfl)
  · simp [T.run] at hq
theorem ent34b : ZEnt C5 (34, isBlk 2, sp34b) := by
  refine ⟨sp34b_len, fun fd c0 hfd hb c hc hp => ?_⟩
  obtain rfl : fd34 = fd := Option.some.inj (fdat34.symm.trans hfd)
  obtain rfl : body34 = c0 := Option.some.inj (hb34.symm.trans hb)
  rw [piece_one one34b hc hp]
  exact sum34b
def z34' : ZTab := [(34, isBlk 0, sp34), (34, isBlk 2, sp34b)]
theorem z34_ok' : ZOk C5 (zAt z34') := zAt_ok keepOk fun e he => by
  simp only [z34', List.mem_cons, List.not_mem_nil, or_false] at he
  rcases he with rfl | rfl
  · exact ent34
  · exact ent34b

/-! ### The context with Read -/
theorem iso33 (s : List UInt8) : Iso C5 33 [.str s] (rK s) := callsM_iso ok5 noZ5 ((t33 s).trans (firstC_eq s))
theorem iso23 (s : List UInt8) : Iso C5 23 [.str s] (rK s) := calls_iso ok5 (e23 s)
def sRead : List AV → T AV
  | [.str s] => .leaf (rK s)
  | _ => .fail
theorem sRead_iso {f : FuncId} (h : ∀ s, Iso C5 f [.str s] (rK s)) : ∀ args v, (sRead args).run = some v → Iso C5 f args v := by
  intro args v hr
  unfold sRead at hr
  split at hr
  · cases Option.some.inj hr; exact h _
  · simp [T.run] at hr
def sLast : List AV → T AV
  | [.str s, .int .u8 c] => .chk (Nat.ble s.length 140737488355328) (.leaf (.int .i64 (Lib.lastIndexByte ⟨s.toArray⟩ c)))
  | _ => .fail
theorem sum39 : SumAt C5 (39, sLast) := by
  refine ⟨⟨_, fn39.1, by kernel_rfl, by kernel_rfl⟩, fun args v hr => ?_⟩
  replace hr : (sLast args).run = some v := hr
  show Iso C5 39 args v
  unfold sLast at hr
  split at hr
  · rename_i s c
    obtain ⟨hs, hr⟩ := T.of_chk hr
    have hs := Nat.le_of_ble_eq_true hs
    cases Option.some.inj hr
    refine Iso.of_same (fun G => .int _ _) fun w vs _ ha => ?_
    obtain ⟨a, b, rfl, h1, h2⟩ := ha.two
    rw [h1.of_str, h2.of_int]
    exact Tryd.strings_LastIndexByte ⟨s.toArray⟩ c (by show s.toArray.size < _; simp; omega) w
  · simp [T.run] at hr
noncomputable def tab6 : List (Nat × (List AV → T AV)) := [(33, sRead), (23, sRead), (39, sLast)]
theorem allTab6 : AllL (SumAt C5) tab6 := ⟨⟨callsM_fn ok5 noZ5 ((t33 []).trans (firstC_eq [])), sRead_iso iso33⟩, ⟨calls_fn ok5 (e23 []), sRead_iso iso23⟩, sum39, trivial⟩
noncomputable def C6 : Ctx := withSum C5 tab6
theorem ok6 : Ok C6 := ok_with ok5 allTab6
theorem z6 : ZOk C6 (zAt z34') := z34_ok'.at rfl rfl rfl
end Go.Proofs.YtfkpbchdapccmaaDoor

/- Chapter 17: the context for Parse. -/
namespace Go.Proofs.YtfkpbchdapccmaaDoor
open Go Go.Ev

def atOk (s : List UInt8) : Bool := match Lib.atoiAll s with | .ok _ => true | _ => false
def atV (s : List UInt8) : Int := match Lib.atoiAll s with | .ok v => v | .syntax => 0 | .range => Lib.atoiSat s
def sAt : List AV → T AV
  | [.str s] => .chk (Nat.ble s.length 281474976710656) (.br (atOk s) (.leaf (.tup [.int .i64 (atV s), .nili])) (.leaf (.tup [.int .i64 (atV s), .ifc 96 .undef])))
  | _ => .fail
theorem sAt_run (args : List AV) (v : AV) (h : (sAt args).run = some v) : (sAtoi 96 args).run = some v := by
  unfold sAt at h
  split at h
  · rename_i s
    obtain ⟨h1, h⟩ := T.of_chk h
    unfold sAtoi T.chk
    simp only [T.run, h1, cond_true]
    unfold atOk atV at h
    cases hs : Lib.atoiAll s <;> rw [hs] at h <;> simpa [T.run] using h
  · simp [T.run] at h
def lastB (s : List UInt8) : Int := Lib.lastIndexByte ⟨s.toArray⟩ 32
def sLastB : List AV → T AV
  | [.str s, .int .u8 c] => .chk (Nat.ble s.length 140737488355328 && c == 32) (.leaf (.int .i64 (lastB s)))
  | _ => .fail
theorem sLastB_run (args : List AV) (v : AV) (h : (sLastB args).run = some v) : (sLast args).run = some v := by
  unfold sLastB at h
  split at h
  · rename_i s c
    obtain ⟨h1, h2⟩ := T.of_chk h
    clear h
    simp only [Bool.and_eq_true, beq_iff_eq] at h1
    obtain ⟨h1, rfl⟩ := h1
    unfold sLast T.chk
    simp only [T.run, h1, cond_true]
    exact h2
  · simp [T.run] at h
noncomputable def tab7 : List (Nat × (List AV → T AV)) := [(40, sAt), (39, sLastB)]
theorem allTab7 : AllL (SumAt C6) tab7 :=
  ⟨⟨(ok6.sum 40 (sAtoi 96) [.str []] (.tup [.int .i64 0, .ifc 96 .undef]) rfl rfl).1, fun args v hr => (ok6.sum 40 (sAtoi 96) args v rfl (sAt_run args v hr)).2⟩,
   ⟨sum39.1.at rfl, fun args v hr => (sum39.2 args v (sLastB_run args v hr)).at rfl rfl⟩, trivial⟩
noncomputable def C7 : Ctx := withSum C6 tab7
theorem ok7 : Ok C7 := ok_with ok6 allTab7
theorem z7 : ZOk C7 (zAt z34') := z34_ok'.at rfl rfl rfl
end Go.Proofs.YtfkpbchdapccmaaDoor

/- Chapter 17: Parse, the program's and the reference's, as trees. -/
namespace Go.Proofs.YtfkpbchdapccmaaDoor
open Go Go.Ev

def par (a b r d t e : Int) : AV := .tup [con a b r d, .int .i64 t, .int .i64 e]
def perr : Option AV := some (par 0 0 0 0 0 170)
def upTo (k : Int) (s : List UInt8) : List UInt8 := List.drop (Int.toNat 0) (List.take k.toNat s)
def behind (k : Int) (s : List UInt8) : List UInt8 := List.drop (IntKind.i64.wrap (k + 1)).toNat (List.take ((s.length : Int)).toNat s)
def clampK (v : Int) : Int := bif decide (13 < bif decide (-13 > v) then -13 else v) then 13 else bif decide (-13 > v) then -13 else v
def pEnd (s u : List UInt8) (m : Int) : Option AV :=
  bif u8B (rC u).1 then bif conB (rC u).1 (rC u).2.1 (rC u).2.2.1 (rC u).2.2.2 then
    bif !(writeK (rC u).1 (rC u).2.1 (rC u).2.2.1 (rC u).2.2.2 (IntKind.i64.wrap (need (rC u).1 (rC u).2.1 (rC u).2.2.1 (rC u).2.2.2 + m)) == s) then perr
    else some (par (rC u).1 (rC u).2.1 (rC u).2.2.1 (rC u).2.2.2 (IntKind.i64.wrap (need (rC u).1 (rC u).2.1 (rC u).2.2.1 (rC u).2.2.2 + m)) 0)
  else none else none
def rest (k : Int) (s : List UInt8) : Bool := true && leI 0 (IntKind.i64.wrap (k + 1)) && leI (IntKind.i64.wrap (k + 1)) s.length && leI s.length s.length
def tree21 (s : List UInt8) : Option AV :=
  bif Nat.ble s.length 140737488355328 && ((32 : Int) == 32) then bif decide (lastB s < 0) then some (par (rC s).1 (rC s).2.1 (rC s).2.2.1 (rC s).2.2.2 0 (rE s)) else
    bif true && leI 0 (lastB s) && leI (lastB s) s.length then bif rest (lastB s) s then
      bif !(behind (lastB s) s == [61]) then
        bif rest (lastB s) s then bif Nat.ble (behind (lastB s) s).length 281474976710656 then
          bif atOk (behind (lastB s) s) then bif rE (upTo (lastB s) s) != 0 then perr else pEnd s (upTo (lastB s) s) (clampK (atV (behind (lastB s) s)))
          else bif rE (upTo (lastB s) s) != 0 then perr else perr
        else none else none
      else bif rE (upTo (lastB s) s) != 0 then perr else pEnd s (upTo (lastB s) s) 0
    else none else none
  else none
theorem t21 (s : List UInt8) : (calls C7 60 21 [.str s]).run = tree21 s := by kernel_rfl
noncomputable def tree34 (s : List UInt8) : Option AV :=
  sel (s == [112, 97, 115, 115]) (some (par 0 0 0 0 0 0)) (ck (((-1 : Int) == -1) && (((0 : Int) == 0) && Nat.ble s.length 140737488355328))
    (sel (decide (spL s (-1) 0 < 0)) perr (ck (true && leI 0 (spL s (-1) 0) && leI (spL s (-1) 0) s.length)
      (sel (rE (upTo (spL s (-1) 0) s) != 0) perr
        (ck (conB (rC (upTo (spL s (-1) 0) s)).1 (rC (upTo (spL s (-1) 0) s)).2.1 (rC (upTo (spL s (-1) 0) s)).2.2.1 (rC (upTo (spL s (-1) 0) s)).2.2.2 && ((0 : Int) == 0))
          (sel (okT s (rC (upTo (spL s (-1) 0) s)).1 (rC (upTo (spL s (-1) 0) s)).2.1 (rC (upTo (spL s (-1) 0) s)).2.2.1 (rC (upTo (spL s (-1) 0) s)).2.2.2)
            (some (par (rC (upTo (spL s (-1) 0) s)).1 (rC (upTo (spL s (-1) 0) s)).2.1 (rC (upTo (spL s (-1) 0) s)).2.2.1 (rC (upTo (spL s (-1) 0) s)).2.2.2
              (tT s (rC (upTo (spL s (-1) 0) s)).1 (rC (upTo (spL s (-1) 0) s)).2.1 (rC (upTo (spL s (-1) 0) s)).2.2.1 (rC (upTo (spL s (-1) 0) s)).2.2.2) 0)) perr))))))
theorem t34 (s : List UInt8) : callsM C7 (zAt z34') 100 34 [.str s] = tree34 s := by kernel_rfl
end Go.Proofs.YtfkpbchdapccmaaDoor

/- Chapter 17: Parse, the program's and the reference's, are one. -/
namespace Go.Proofs.YtfkpbchdapccmaaDoor
open Go Go.Ev

/-! ### The last space -/
theorem spL_snoc (c : UInt8) : ∀ (l : List UInt8) (a i : Int), spL (l ++ [c]) a i = bif ((c.toNat : Int) == 32) then i + l.length else spL l a i
  | [], a, i => by simp [spL]
  | x :: l, a, i => by
    show spL (l ++ [c]) _ (i + 1) = bif _ then _ else spL l _ (i + 1)
    rw [spL_snoc c l]
    have : i + 1 + (l.length : Int) = i + ((x :: l).length : Int) := by simp; omega
    rw [this]
theorem lastIdx_spL (s : List UInt8) : ∀ k, k ≤ s.length → Lib.lastIdx ⟨s.toArray⟩ 32 k = spL (s.take k) (-1) 0
  | 0, _ => rfl
  | k + 1, h => by
    have ih := lastIdx_spL s k (by omega)
    have hk : k < s.length := by omega
    rw [List.take_succ_eq_append_getElem hk, spL_snoc]
    unfold Lib.lastIdx
    have e : (⟨s.toArray⟩ : ByteArray).data[k]! = s[k] := by simp [hk]
    rw [e, ih]
    by_cases h32 : ((s[k].toNat : Nat) : Int) = 32
    · rw [if_pos h32, show (((s[k].toNat : Nat) : Int) == 32) = true by simpa using h32]
      simp [Nat.min_eq_left (Nat.le_of_lt hk)]
    · rw [if_neg h32, show (((s[k].toNat : Nat) : Int) == 32) = false by simpa using h32]
      rfl
theorem lastB_eq (s : List UInt8) : lastB s = spL s (-1) 0 := by
  have := lastIdx_spL s s.length (Nat.le_refl _)
  rw [List.take_length] at this
  rw [← this]
  show Lib.lastIdx ⟨s.toArray⟩ 32 (⟨s.toArray⟩ : ByteArray).size = _
  congr 1
/-- What the last space is. -/
theorem spL_spec : ∀ (l : List UInt8) (a i : Int), (spL l a i = a ∧ (32 : UInt8) ∉ l) ∨ ∃ u v, l = u ++ 32 :: v ∧ (32 : UInt8) ∉ v ∧ spL l a i = i + u.length
  | [], a, i => .inl ⟨rfl, by simp⟩
  | c :: l, a, i => by
    have hc : (((c.toNat : Nat) : Int) == 32) = (c == 32) := by
      rw [Bool.eq_iff_iff]
      simp only [beq_iff_eq]
      constructor
      · intro h; exact UInt8.toNat.inj (by have : c.toNat = 32 := by omega
                                           rw [this]; rfl)
      · intro h; rw [h]; rfl
    show (spL l (bif (((c.toNat : Nat) : Int) == 32) then i else a) (i + 1) = a ∧ _) ∨ ∃ u v, _ ∧ _ ∧ spL l (bif (((c.toNat : Nat) : Int) == 32) then i else a) (i + 1) = _
    rw [hc]
    rcases spL_spec l (bif (c == 32) then i else a) (i + 1) with ⟨h1, h2⟩ | ⟨u, v, h1, h2, h3⟩
    · cases h : c == 32
      · rw [h] at h1
        have hne : c ≠ 32 := by simpa using h
        exact .inl ⟨h1, by simp [h2, Ne.symm hne]⟩
      · rw [h] at h1
        have he : c = 32 := by simpa using h
        exact .inr ⟨[], l, by rw [he]; rfl, h2, by simpa using h1⟩
    · exact .inr ⟨c :: u, v, by rw [h1]; rfl, h2, by rw [h3]; simp; omega⟩

/-! ### The first tricks -/
theorem fT_some {s : List UInt8} {a b r d : Int} : ∀ {m : Nat} {tr t : Int}, fT s a b r d m tr = some t → tr ≤ t ∧ t < tr + m ∧ writeE a b r d t = 0 ∧ writeK a b r d t = s
  | 0, tr, t, h => by cases h
  | m + 1, tr, t, h => by
    simp only [fT] at h
    cases he : (writeE a b r d tr == 0) && (writeK a b r d tr == s)
    · rw [he] at h
      have := fT_some (m := m) h
      refine ⟨by omega, by omega, this.2.2⟩
    · rw [he] at h
      cases h
      simp only [Bool.and_eq_true, beq_iff_eq] at he
      exact ⟨by omega, by omega, he⟩
theorem fT_none {s : List UInt8} {a b r d : Int} : ∀ {m : Nat} {tr : Int}, fT s a b r d m tr = none → ∀ t, tr ≤ t → t < tr + m → writeE a b r d t = 0 → writeK a b r d t = s → False
  | 0, tr, _, t, h1, h2, _, _ => by omega
  | m + 1, tr, h, t, h1, h2, h3, h4 => by
    simp only [fT] at h
    cases he : (writeE a b r d tr == 0) && (writeK a b r d tr == s)
    · rw [he] at h
      by_cases ht : t = tr
      · subst ht
        rw [h3, h4] at he
        simp at he
      · exact fT_none (m := m) h t (by omega) (by omega) h3 h4
    · rw [he] at h; cases h

/-! ### What Read gives -/
theorem domR_con : (domR.all fun x => conB x.1 x.2.1 x.2.2.1 x.2.2.2) = true := by kernel_rfl
theorem rC_con (u : List UInt8) : conB (rC u).1 (rC u).2.1 (rC u).2.2.1 (rC u).2.2.2 = true := by
  unfold rC
  cases h : fnd u with
  | none => rfl
  | some x => exact List.all_eq_true.1 domR_con x (List.mem_of_find?_eq_some h)
theorem rE_zero {u : List UInt8} (h : rE u = 0) : text (rC u).1 (rC u).2.1 (rC u).2.2.1 (rC u).2.2.2 = u ∧ rC u ∈ domR := by
  unfold rE at h
  unfold rC
  cases hf : fnd u with
  | none => rw [hf] at h; cases h
  | some x => exact ⟨by simpa using List.find?_some hf, List.mem_of_find?_eq_some hf⟩
theorem rE_not {u : List UInt8} (h : rE u ≠ 0) : rC u = (0, 0, 0, 0) ∧ rE u = 170 := by
  unfold rE at h ⊢
  unfold rC
  cases hf : fnd u with
  | none => exact ⟨rfl, rfl⟩
  | some x => rw [hf] at h; exact absurd rfl h
/-- A contract's text without a space is that of no contract. -/
theorem domR_sp : (domR.all fun x => (x == (0, 0, 0, 0)) || (text x.1 x.2.1 x.2.2.1 x.2.2.2).contains 32) = true := by kernel_rfl
theorem tailW_at : ((rng 1 13).all fun m => (tailW m == 32 :: (tailW m).drop 1) && atOk ((tailW m).drop 1) && atV ((tailW m).drop 1) == m && !((tailW m).drop 1 == [61]) &&
    ((tailW (-m) == 32 :: (tailW (-m)).drop 1) && atOk ((tailW (-m)).drop 1) && atV ((tailW (-m)).drop 1) == -m && !((tailW (-m)).drop 1 == [61]))) = true := by kernel_rfl
end Go.Proofs.YtfkpbchdapccmaaDoor

/- Chapter 17: Parse, the program's and the reference's, are one: the law. -/
namespace Go.Proofs.YtfkpbchdapccmaaDoor
open Go Go.Ev

def uOf (s : List UInt8) : List UInt8 := upTo (lastB s) s
def okP (s : List UInt8) : Bool := okT s (rC (uOf s)).1 (rC (uOf s)).2.1 (rC (uOf s)).2.2.1 (rC (uOf s)).2.2.2
def pGood (s : List UInt8) : Bool := leI 0 (lastB s) && (rE (uOf s) == 0 && okP s)
def pC (s : List UInt8) : Int × Int × Int × Int := bif pGood s then rC (uOf s) else (0, 0, 0, 0)
def pT (s : List UInt8) : Int := bif pGood s then tT s (rC (uOf s)).1 (rC (uOf s)).2.1 (rC (uOf s)).2.2.1 (rC (uOf s)).2.2.2 else 0
def pE (s : List UInt8) : Int := bif pGood s then 0 else bif s == [112, 97, 115, 115] then 0 else 170
def parK (s : List UInt8) : AV := par (pC s).1 (pC s).2.1 (pC s).2.2.1 (pC s).2.2.2 (pT s) (pE s)

theorem pass_last {s : List UInt8} (h : s = [112, 97, 115, 115]) : lastB s = -1 := by rw [h, lastB_eq]; rfl
theorem parK_good {s : List UInt8} (h : pGood s = true) : parK s = par (rC (uOf s)).1 (rC (uOf s)).2.1 (rC (uOf s)).2.2.1 (rC (uOf s)).2.2.2 (tT s (rC (uOf s)).1 (rC (uOf s)).2.1 (rC (uOf s)).2.2.1 (rC (uOf s)).2.2.2) 0 := by
  unfold parK pC pT pE; rw [h]; rfl
theorem parK_pass {s : List UInt8} (h : s = [112, 97, 115, 115]) : parK s = par 0 0 0 0 0 0 := by
  have hg : pGood s = false := by unfold pGood; rw [pass_last h]; rfl
  unfold parK pC pT pE; rw [hg, h]; rfl
theorem parK_bad {s : List UInt8} (h : pGood s = false) (h2 : (s == [112, 97, 115, 115]) = false) : some (parK s) = perr := by
  unfold parK pC pT pE; rw [h, h2]; rfl

/-- What the last space parts. -/
theorem parts_of {s : List UInt8} (hs : s.length ≤ 140737488355328) (h : 0 ≤ lastB s) : ∃ v, s = uOf s ++ 32 :: v ∧ behind (lastB s) s = v ∧ (s == [112, 97, 115, 115]) = false ∧ lastB s < s.length := by
  rcases spL_spec s (-1) 0 with ⟨h1, _⟩ | ⟨u, v, h1, h2, h3⟩
  · rw [lastB_eq, h1] at h; omega
  · have hk : lastB s = u.length := by rw [lastB_eq, h3]; omega
    have hu : uOf s = u := by unfold uOf upTo; rw [hk, h1]; simp
    have hv : behind (lastB s) s = v := by
      unfold behind
      have hlen : s.length = u.length + (v.length + 1) := by rw [h1]; simp
      rw [hk, IntWalk.i64_in _ (by omega), show ((s.length : Int)).toNat = s.length by omega, List.take_length, show ((u.length : Int) + 1).toNat = u.length + 1 by omega, h1]
      simp [List.drop_append]
    refine ⟨v, by rw [hu]; exact h1, hv, ?_, by rw [hk, h1]; simp; omega⟩
    cases hp : s == [112, 97, 115, 115]
    · rfl
    · have := pass_last (beq_iff_eq.1 hp)
      omega

theorem tree34_eq (s : List UInt8) (hs : s.length ≤ 140737488355328) : tree34 s = some (parK s) := by
  unfold tree34
  simp only [sel_eq, ck_eq, ← lastB_eq]
  cases hp : s == [112, 97, 115, 115]
  · rw [cond_false, show (((-1 : Int) == -1) && (((0 : Int) == 0) && Nat.ble s.length 140737488355328)) = true by simp [hs], cond_true]
    by_cases hk : lastB s < 0
    · have hg : pGood s = false := by unfold pGood; rw [leI_not.2 hk]; rfl
      rw [decide_eq_true hk, cond_true, parK_bad hg hp]
    · obtain ⟨v, h1, h2, h3, h4⟩ := parts_of hs (by omega)
      rw [decide_eq_false hk, cond_false, leI_iff.2 (by omega : 0 ≤ lastB s), leI_iff.2 (by omega : lastB s ≤ s.length), show (true && true && true) = true from rfl, cond_true]
      rw [show upTo (lastB s) s = uOf s from rfl]
      by_cases he : rE (uOf s) = 0
      · rw [show (rE (uOf s) != 0) = false by simp [he], cond_false, rC_con, show (true && ((0 : Int) == 0)) = true from rfl, cond_true]
        cases ho : okT s (rC (uOf s)).1 (rC (uOf s)).2.1 (rC (uOf s)).2.2.1 (rC (uOf s)).2.2.2
        · have hg : pGood s = false := by unfold pGood okP; rw [ho]; simp
          rw [cond_false, parK_bad hg hp]
        · have hg : pGood s = true := by unfold pGood okP; rw [ho, leI_iff.2 (by omega : 0 ≤ lastB s), he]; rfl
          rw [cond_true, parK_good hg]
      · have hg : pGood s = false := by unfold pGood; rw [show (rE (uOf s) == 0) = false by simpa using he]; simp
        rw [show (rE (uOf s) != 0) = true by simpa using he, cond_true, parK_bad hg hp]
  · rw [cond_true, parK_pass (beq_iff_eq.1 hp)]

/-- A text with a space before tricks is that of one number more. -/
theorem tail_of {m : Int} {v : List UInt8} (h1 : -13 ≤ m) (h2 : m ≤ 13) (h : tailW m = 32 :: v) : (m = 0 ∧ v = [61]) ∨ ((v == [61]) = false ∧ atOk v = true ∧ atV v = m) := by
  have key := List.all_eq_true.1 tailW_at
  rcases Int.lt_trichotomy m 0 with hm | hm | hm
  · have := key (-m) (mem_rng (by omega) (by omega))
    simp only [Bool.and_eq_true, Int.neg_neg, beq_iff_eq, Bool.not_eq_true'] at this
    rw [h] at this
    simp only [List.drop_succ_cons, List.drop_zero] at this
    exact .inr ⟨this.2.2, this.2.1.1.2, this.2.1.2⟩
  · subst hm
    left
    refine ⟨rfl, ?_⟩
    have : tailW 0 = [32, 61] := rfl
    rw [this] at h
    exact (List.cons.inj h).2.symm
  · have := key m (mem_rng (by omega) (by omega))
    simp only [Bool.and_eq_true, beq_iff_eq, Bool.not_eq_true'] at this
    rw [h] at this
    simp only [List.drop_succ_cons, List.drop_zero] at this
    exact .inr ⟨this.1.2, this.1.1.1.2, this.1.1.2⟩
theorem clampK_in {m : Int} (h1 : -13 ≤ m) (h2 : m ≤ 13) : clampK m = m := by
  unfold clampK
  rw [decide_eq_false (by omega : ¬ -13 > m), cond_false, decide_eq_false (by omega : ¬ 13 < m)]
  rfl

theorem need_b (a b r d : Int) (h : conB a b r d = true) : 0 ≤ need a b r d ∧ need a b r d ≤ 300 := by
  have := conB_iff h
  unfold need
  cases a == 0 <;> cases right a b r d <;> simp only [cond_true, cond_false] <;> omega
theorem clampK_b (v : Int) : -13 ≤ clampK v ∧ clampK v ≤ 13 := by
  unfold clampK
  by_cases h : -13 > v
  · rw [decide_eq_true h]; simp
  · rw [decide_eq_false h]
    by_cases h2 : 13 < v
    · simp [h2]
    · simp [h2]; omega
theorem writeE_zero {a b r d t : Int} (h : writeE a b r d t = 0) : isRes a b r d t = true := by
  unfold writeE at h
  cases hr : isRes a b r d t
  · rw [hr] at h; cases h
  · rfl

theorem pEnd_eq {s u : List UInt8} (hs : s ≠ []) {m : Int} (hm : -13 ≤ m ∧ m ≤ 13)
    (hg : okT s (rC u).1 (rC u).2.1 (rC u).2.2.1 (rC u).2.2.2 = true → need (rC u).1 (rC u).2.1 (rC u).2.2.1 (rC u).2.2.2 + m = tT s (rC u).1 (rC u).2.1 (rC u).2.2.1 (rC u).2.2.2) :
    pEnd s u m = bif okT s (rC u).1 (rC u).2.1 (rC u).2.2.1 (rC u).2.2.2 then some (par (rC u).1 (rC u).2.1 (rC u).2.2.1 (rC u).2.2.2 (tT s (rC u).1 (rC u).2.1 (rC u).2.2.1 (rC u).2.2.2) 0) else perr := by
  have hc := rC_con u
  unfold pEnd
  generalize (rC u).1 = a at *
  generalize (rC u).2.1 = b at *
  generalize (rC u).2.2.1 = r at *
  generalize (rC u).2.2.2 = d at *
  have hn := need_b a b r d hc
  rw [conB_a hc, cond_true, hc, cond_true, IntWalk.i64_in _ (by omega)]
  cases ho : okT s a b r d
  · rw [cond_false]
    cases hw : writeK a b r d (need a b r d + m) == s
    · rfl
    · exfalso
      have hw := beq_iff_eq.1 hw
      have hres : isRes a b r d (need a b r d + m) = true := by
        cases hr : isRes a b r d (need a b r d + m)
        · unfold writeK at hw; rw [hr] at hw; exact absurd hw.symm hs
        · rfl
      obtain ⟨_, t0, t1, _⟩ := isRes_iff.1 hres
      have hnone : fT s a b r d 14 0 = none := by
        unfold okT at ho
        cases hf : fT s a b r d 14 0 with
        | none => rfl
        | some x => rw [hf] at ho; cases ho
      exact fT_none hnone _ t0 (by omega) (by unfold writeE; rw [hres]; rfl) hw
  · have ht := hg ho
    rw [cond_true, ht]
    have hsome : ∃ t, fT s a b r d 14 0 = some t := by
      unfold okT at ho
      cases hf : fT s a b r d 14 0 with
      | none => rw [hf] at ho; cases ho
      | some x => exact ⟨x, rfl⟩
    obtain ⟨t, hf⟩ := hsome
    have hh := fT_some hf
    have htT : tT s a b r d = t := by unfold tT; rw [hf]; rfl
    rw [htT, show (writeK a b r d t == s) = true by simpa using hh.2.2.2]
    rfl

theorem tree21_eq (s : List UInt8) (hs : s.length ≤ 140737488355328) : tree21 s = some (parK s) := by
  unfold tree21
  rw [show (Nat.ble s.length 140737488355328 && ((32 : Int) == 32)) = true by simp [hs], cond_true]
  by_cases hk : lastB s < 0
  · rw [decide_eq_true hk, cond_true]
    have hg : pGood s = false := by unfold pGood; rw [leI_not.2 hk]; rfl
    have hno : (32 : UInt8) ∉ s := by
      rcases spL_spec s (-1) 0 with ⟨_, h2⟩ | ⟨u, v, _, _, h3⟩
      · exact h2
      · rw [lastB_eq, h3] at hk; omega
    cases hp : s == [112, 97, 115, 115]
    · rw [parK_bad hg hp]
      have hne : rE s ≠ 0 := by
        intro he
        obtain ⟨h1, h2⟩ := rE_zero he
        have := List.all_eq_true.1 domR_sp _ h2
        simp only [Bool.or_eq_true, beq_iff_eq] at this
        rcases this with h0 | h0
        · rw [h0] at h1
          have h1 : s = [112, 97, 115, 115] := h1.symm
          rw [h1] at hp
          cases hp
        · rw [h1] at h0
          exact hno (List.contains_iff_mem.1 h0)
      obtain ⟨h1, h2⟩ := rE_not hne
      rw [h1, h2]; rfl
    · rw [parK_pass (beq_iff_eq.1 hp)]
      have hp := beq_iff_eq.1 hp
      have h1 : rC s = (0, 0, 0, 0) := by rw [hp]; rfl
      have h2 : rE s = 0 := by rw [hp]; rfl
      rw [h1, h2]
  · obtain ⟨v, h1, h2, h3, h4⟩ := parts_of hs (by omega)
    have hrest : rest (lastB s) s = true := by
      unfold rest
      rw [IntWalk.i64_in _ (by omega), leI_iff.2 (by omega : 0 ≤ lastB s + 1), leI_iff.2 (by omega : lastB s + 1 ≤ s.length), leI_iff.2 (by omega : (s.length : Int) ≤ s.length)]
      rfl
    have hvl : v.length ≤ 140737488355328 := by
      have := congrArg List.length h1
      rw [List.length_append, List.length_cons] at this
      omega
    rw [decide_eq_false hk, cond_false, leI_iff.2 (by omega : 0 ≤ lastB s), leI_iff.2 (by omega : lastB s ≤ s.length), show (true && true && true) = true from rfl, cond_true, hrest, cond_true, cond_true, h2,
      show Nat.ble v.length 281474976710656 = true from Nat.ble_eq_true_of_le (by omega), cond_true, show upTo (lastB s) s = uOf s from rfl]
    have hsne : s ≠ [] := by intro h; rw [h] at h1; simp at h1
    by_cases he : rE (uOf s) = 0
    · rw [show (rE (uOf s) != 0) = false by simp [he], cond_false, cond_false, cond_false]
      obtain ⟨ht, hd⟩ := rE_zero he
      have hok : okT s (rC (uOf s)).1 (rC (uOf s)).2.1 (rC (uOf s)).2.2.1 (rC (uOf s)).2.2.2 = true → ∃ m, -13 ≤ m ∧ m ≤ 13 ∧ tailW m = 32 :: v ∧ need (rC (uOf s)).1 (rC (uOf s)).2.1 (rC (uOf s)).2.2.1 (rC (uOf s)).2.2.2 + m = tT s (rC (uOf s)).1 (rC (uOf s)).2.1 (rC (uOf s)).2.2.1 (rC (uOf s)).2.2.2 := by
        intro ho
        have hc := rC_con (uOf s)
        generalize hu : uOf s = u at *
        generalize (rC u).1 = a at *
        generalize (rC u).2.1 = b at *
        generalize (rC u).2.2.1 = r at *
        generalize (rC u).2.2.2 = d at *
        unfold okT at ho
        cases hf : fT s a b r d 14 0 with
        | none => rw [hf] at ho; cases ho
        | some t =>
          have hh := fT_some hf
          have hres := writeE_zero hh.2.2.1
          obtain ⟨hr1, g1, g2, g3⟩ := isRes_iff.1 hres
          have hw := hh.2.2.2
          unfold writeK at hw
          rw [hres, cond_true, ht] at hw
          cases h0 : a == 0
          · rw [h0, cond_false] at hw
            obtain ⟨ha, _⟩ := (right_iff hc h0).1 hr1
            refine ⟨t - (6 + a), by omega, by omega, ?_, ?_⟩
            · have : u ++ tailW (t - (6 + a)) = u ++ 32 :: v := hw.trans h1
              exact List.append_cancel_left this
            · rw [need_eq hr1 h0]
              unfold tT
              rw [hf]
              show 6 + a + (t - (6 + a)) = t
              omega
          · rw [h0, cond_true] at hw
            exfalso
            have := congrArg List.length (hw.trans h1)
            simp at this
      have hfin : pEnd s (uOf s) (bif !(v == [61]) then clampK (atV v) else 0) = (bif okT s (rC (uOf s)).1 (rC (uOf s)).2.1 (rC (uOf s)).2.2.1 (rC (uOf s)).2.2.2 then some (par (rC (uOf s)).1 (rC (uOf s)).2.1 (rC (uOf s)).2.2.1 (rC (uOf s)).2.2.2 (tT s (rC (uOf s)).1 (rC (uOf s)).2.1 (rC (uOf s)).2.2.1 (rC (uOf s)).2.2.2) 0) else perr) := by
        refine pEnd_eq hsne ?_ fun ho => ?_
        · cases !(v == [61])
          · simp
          · exact clampK_b _
        · obtain ⟨m, m1, m2, m3, m4⟩ := hok ho
          rcases tail_of m1 m2 m3 with ⟨rfl, rfl⟩ | ⟨e1, e2, e3⟩
          · exact m4
          · rw [e1, e3, clampK_in m1 m2]; exact m4
      have hbad : atOk v = false → (v == [61]) = false → okT s (rC (uOf s)).1 (rC (uOf s)).2.1 (rC (uOf s)).2.2.1 (rC (uOf s)).2.2.2 = false := by
        intro e1 e2
        cases ho : okT s (rC (uOf s)).1 (rC (uOf s)).2.1 (rC (uOf s)).2.2.1 (rC (uOf s)).2.2.2
        · rfl
        · obtain ⟨m, m1, m2, m3, m4⟩ := hok ho
          rcases tail_of m1 m2 m3 with ⟨_, rfl⟩ | ⟨_, e4, _⟩
          · cases e2
          · rw [e1] at e4; cases e4
      have hres : (bif okT s (rC (uOf s)).1 (rC (uOf s)).2.1 (rC (uOf s)).2.2.1 (rC (uOf s)).2.2.2 then some (par (rC (uOf s)).1 (rC (uOf s)).2.1 (rC (uOf s)).2.2.1 (rC (uOf s)).2.2.2 (tT s (rC (uOf s)).1 (rC (uOf s)).2.1 (rC (uOf s)).2.2.1 (rC (uOf s)).2.2.2) 0) else perr) = some (parK s) := by
        cases ho : okT s (rC (uOf s)).1 (rC (uOf s)).2.1 (rC (uOf s)).2.2.1 (rC (uOf s)).2.2.2
        · have hg : pGood s = false := by unfold pGood okP; rw [ho]; simp
          rw [cond_false, parK_bad hg h3]
        · have hg : pGood s = true := by unfold pGood okP; rw [ho, leI_iff.2 (by omega : 0 ≤ lastB s), he]; rfl
          rw [cond_true, parK_good hg]
      rw [hres] at hfin
      cases hv : v == [61]
      · rw [hv] at hfin
        simp only [Bool.not_false, cond_true] at hfin ⊢
        cases hat : atOk v
        · rw [cond_false, ← hres, hbad hat hv]; rfl
        · rw [cond_true]; exact hfin
      · rw [hv] at hfin
        simp only [Bool.not_true, cond_false] at hfin ⊢
        exact hfin
    · have hg : pGood s = false := by unfold pGood; rw [show (rE (uOf s) == 0) = false by simpa using he]; simp
      rw [show (rE (uOf s) != 0) = true by simpa using he, parK_bad hg h3]
      simp only [cond_true]
      cases !(v == [61]) <;> cases atOk v <;> rfl
end Go.Proofs.YtfkpbchdapccmaaDoor

/- Chapter 17: the context with Parse; ScoreReads. -/
namespace Go.Proofs.YtfkpbchdapccmaaDoor
open Go Go.Ev

def sParse : List AV → T AV
  | [.str s] => .chk (Nat.ble s.length 140737488355328) (.leaf (parK s))
  | _ => .fail
theorem sParse_iso {C : Ctx} {f : FuncId} (h : ∀ s : List UInt8, s.length ≤ 140737488355328 → Iso C f [.str s] (parK s)) : ∀ args v, (sParse args).run = some v → Iso C f args v := by
  intro args v hr
  unfold sParse at hr
  split at hr
  · obtain ⟨h1, hr⟩ := T.of_chk hr
    cases Option.some.inj hr
    exact h _ (Nat.le_of_ble_eq_true h1)
  · simp [T.run] at hr
noncomputable def tab8 : List (Nat × (List AV → T AV)) := [(21, sParse), (34, sParse)]
theorem allTab8 : AllL (SumAt C7) tab8 :=
  ⟨⟨calls_fn ok7 ((t21 []).trans (tree21_eq [] (by decide))), sParse_iso fun s hs => calls_iso ok7 ((t21 s).trans (tree21_eq s hs))⟩,
   ⟨callsM_fn ok7 z7 ((t34 []).trans (tree34_eq [] (by decide))), sParse_iso fun s hs => callsM_iso ok7 z7 ((t34 s).trans (tree34_eq s hs))⟩, trivial⟩
noncomputable def C8 : Ctx := withSum C7 tab8
theorem ok8 : Ok C8 := ok_with ok7 allTab8

theorem t4 (s : List UInt8) : (calls C8 60 4 [.str s]).run = bif decide ((s.length : Int) > 200) then some (.bool true) else bif Nat.ble s.length 140737488355328 then bif Nat.ble s.length 140737488355328 then
    bif (rC s).1 == (rC s).1 && ((rC s).2.1 == (rC s).2.1 && ((rC s).2.2.1 == (rC s).2.2.1 && ((rC s).2.2.2 == (rC s).2.2.2 && true))) then bif rE s == rE s then
    bif (pC s).1 == (pC s).1 && ((pC s).2.1 == (pC s).2.1 && ((pC s).2.2.1 == (pC s).2.2.1 && ((pC s).2.2.2 == (pC s).2.2.2 && true))) then bif pT s == pT s then
    bif pE s == pE s then some (.bool true) else some (.bool false) else some (.bool false) else some (.bool false) else some (.bool false) else some (.bool false) else none else none := by kernel_rfl
/-- **P17.4**: ScoreReads is true. -/
theorem reads_run (s : List UInt8) : (calls C8 60 4 [.str s]).run = some (.bool true) := by
  rw [t4]
  by_cases h : (s.length : Int) > 200
  · rw [decide_eq_true h]; rfl
  · rw [decide_eq_false h, show Nat.ble s.length 140737488355328 = true from Nat.ble_eq_true_of_le (by omega)]
    simp only [cond_false, cond_true, beq_self_eq_true, Bool.and_self]
end Go.Proofs.YtfkpbchdapccmaaDoor
