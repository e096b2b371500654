/- Evaluator: soundness, part 10: one operation. -/
import Derived.Test.YtfkpbchdapccmaaDoorEvL
namespace Go.Ev

/-- What one operation comes to. -/
def OpRes (C : Ctx) (E : Env) (H : Heap) (w : World) (res : Result Next) (v : AV) (H' : Heap) : Prop :=
  (∃ c w' E', res = .ok (.value c) w' ∧ Good C E H w v H' c w' E') ∨ (∃ w' E', res = .ok .skip w' ∧ Good C E H w v H' undef w' E') ∨
  (∃ f vs, res = .ok (.enter f vs) w ∧ Calls C.P f vs w (fun e w' => ∃ c E', e = .returned c ∧ Good C E H w v H' c w' E'))

section
variable {C : Ctx} {E : Env} {H : Heap} {w : World}

theorem OpRes.of_val {s : Sem Value} {v : AV} {H' : Heap} (h : ValOk C E H w s v H') : OpRes C E H w ((do pure (.value (← s)) : Sem Next).run C.P w) v H' := by
  obtain ⟨c, w', E', h1, h2⟩ := h
  exact .inl ⟨c, w', E', by simp [h1], h2⟩

theorem OpRes.of_same {s : Sem Value} {v : AV} {c : Value} (hI : Inv C E H w) (h : s.run C.P w = .ok c w) (hr : R E v c) : OpRes C E H w ((do pure (.value (← s)) : Sem Next).run C.P w) v H :=
  OpRes.of_val (ValOk.same hI h hr)

theorem OpRes.of_call {f : FuncId} {vs : List Value} {v : AV} {H' : Heap} (h1 : FnOk C f) (h2 : CallOk C E H w f vs v H') : OpRes C E H w ((callFunc f vs.toArray).run C.P w) v H' := by
  obtain ⟨fn, h3, h4, h5⟩ := h1
  refine .inr (.inr ⟨f, vs.toArray, ?_, h2⟩)
  have : fn.body.isNone = false := by cases hb : fn.body <;> simp_all
  simp only [callFunc, Sem.run_bind, run_program, Result.andThen_ok, h3, h5, this]
  simp

theorem elem_slice {t : TypeId} {el : TypeId} (h : (C.ty t).desc = .slice el) : elemOf C t = el := by simp [elemOf, h]

theorem arr2 {α : Type} (a b : α) : #[a, b] = [a, b].toArray := rfl

theorem RL.one {v : AV} {cs : List Value} (h : RL E [v] cs) : ∃ c, cs = [c] ∧ R E v c := by
  cases h with
  | cons a h => cases h; exact ⟨_, rfl, a⟩
theorem RL.two {v u : AV} {cs : List Value} (h : RL E [v, u] cs) : ∃ c d, cs = [c, d] ∧ R E v c ∧ R E u d := by
  cases h with
  | cons a h => cases h with
    | cons b h => cases h; exact ⟨_, _, rfl, a, b⟩
theorem arr_one {l : Array Value} {c : Value} (h : l.toList = [c]) : l = #[c] := by
  apply Array.ext'; simpa using h
theorem arr_two {l : Array Value} {c d : Value} (h : l.toList = [c, d]) : l = #[c, d] := by
  apply Array.ext'; simpa using h

theorem map_parts (hI : Inv C E H w) {e : Fr} {a : Act} (hf : FrR E e a) (parts : Array (Nat × Operand)) :
    (parts.toList.map fun p => (p.1, opnd C e p.2)).map (·.1) = ((parts.map fun (i, x) => (i, a.eval x)).toList).map (·.1) ∧
    RL E ((parts.toList.map fun p => (p.1, opnd C e p.2)).map (·.2)) (((parts.map fun (i, x) => (i, a.eval x)).toList).map (·.2)) := by
  rw [Array.toList_map]
  generalize parts.toList = l
  induction l with
  | nil => exact ⟨rfl, .nil⟩
  | cons p l ih => exact ⟨by simp [ih.1], .cons (opnd_ok hI hf p.2) ih.2⟩

theorem evOp_ok {r : EvT} (hT : TyOk C) (hQ : EqOk C) (hr : SoundCall C r) (hs : SumOk C) (hI : Inv C E H w) {e : Fr} {a : Act} (hf : FrR E e a) {draw : Bool} {o : Oper} {v : AV} {H' : Heap}
    (h : (evOp C r draw e H o).run = some (v, H')) : OpRes C E H w ((execOp a.eval o).run C.P w) v H' ∧ True := by
  have hop := fun x => opnd_ok hI hf x
  unfold evOp at h
  unfold execOp
  split at h
  · -- move
    rename_i x ho
    cases Option.some.inj h
    rw [ho]
    exact ⟨.inl ⟨_, w, E, rfl, ⟨ELe.refl E, Stp.refl E H w, hI, hop x⟩⟩, trivial⟩
  · rename_i x ho
    cases Option.some.inj h
    rw [ho]
    exact ⟨.inl ⟨_, w, E, rfl, ⟨ELe.refl E, Stp.refl E H w, hI, hop x⟩⟩, trivial⟩
  · -- pick
    rename_i c x y ho
    rw [ho]
    split at h
    · rename_i b hb
      have hc := hop c
      rw [hb] at hc
      have hc := hc.bool_inv
      rcases T.of_br h with ⟨h1, h2⟩ | ⟨h1, h2⟩
      · cases Option.some.inj h2
        subst h1
        exact ⟨.inl ⟨_, w, E, by simp [hc, asBool], ⟨ELe.refl E, Stp.refl E H w, hI, hop x⟩⟩, trivial⟩
      · cases Option.some.inj h2
        subst h1
        exact ⟨.inl ⟨_, w, E, by simp [hc, asBool], ⟨ELe.refl E, Stp.refl E H w, hI, hop y⟩⟩, trivial⟩
    · simp [T.run] at h
  · -- alloc
    rename_i el ho
    rw [ho]
    split at h
    · simp [T.run] at h
    · split at h
      · rename_i z hz
        obtain ⟨hok, h⟩ := T.of_chk h
        cases Option.some.inj h
        exact ⟨.of_val (alloc_ok hT hI hz hok), trivial⟩
      · simp [T.run] at h
  · -- box
    rename_i el x ho
    rw [ho]
    split at h
    · obtain ⟨h1, h⟩ := T.of_chk h
      cases Option.some.inj h
      simp only [Bool.and_eq_true, Bool.not_eq_true'] at h1
      exact ⟨.of_val (box_draw hI (hop x) h1.1 h1.2), trivial⟩
    · obtain ⟨h1, h⟩ := T.of_chk h
      cases Option.some.inj h
      simp only [Bool.not_eq_true'] at h1
      exact ⟨.of_val (box_ok hI (hop x) h1), trivial⟩
  · -- build
    rename_i t parts ho
    rw [ho]
    obtain ⟨h1, rfl⟩ := withH_eq h
    obtain ⟨m1, m2⟩ := map_parts hI hf parts
    obtain ⟨c, h2, h3⟩ := build_ok (w := w) hT h1 m1 m2
    exact ⟨.of_same hI (by rw [Array.toArray_toList] at h2; exact h2) h3, trivial⟩
  · -- buildSlice
    rename_i t len parts ho
    rw [ho]
    split at h
    · rename_i el z hd hz
      rw [elem_slice hd] at hz
      obtain ⟨cs, h1, h2⟩ := T.of_bind h
      obtain ⟨h3, h4⟩ := T.of_chk h2
      simp only [Bool.and_eq_true, Nat.beq_eq, Nat.ble_eq, Bool.not_eq_true'] at h3
      obtain ⟨⟨⟨⟨⟨hok, hoke⟩, hzl⟩, hz0⟩, hcl⟩, hbig⟩ := h3
      have hz0 : (C.ty el).size ≠ 0 := fun e => by rw [e] at hz0; simp at hz0
      obtain ⟨m1, m2⟩ := map_parts hI hf parts
      have key := buildSlice_ok hT hI hok hoke hd hz hzl hz0 hbig m1 m2 h1 hcl
      simp only [Array.toArray_toList] at key
      split at h4
      · obtain ⟨h5, h6⟩ := T.of_chk h4
        cases Option.some.inj h6
        exact ⟨.of_val (key.2 h5), trivial⟩
      · cases Option.some.inj h4
        exact ⟨.of_val key.1, trivial⟩
    · simp [T.run] at h
  · -- load
    rename_i t x ho
    rw [ho]
    obtain ⟨h1, rfl⟩ := withH_eq h
    obtain ⟨c, h2, h3⟩ := loadA_ok hT hI h1 (hop x)
    exact ⟨.of_same hI h2 h3, trivial⟩
  · -- store
    rename_i t x y ho
    rw [ho]
    obtain ⟨H1, h1, h2⟩ := T.of_bind h
    cases Option.some.inj h2
    obtain ⟨w', h3, h4, h5⟩ := storeA_ok hT hI h1 (hop x) (hop y)
    refine ⟨.inr (.inl ⟨w', E, by simp [h3], ⟨ELe.refl E, h5, h4, ?_⟩⟩), trivial⟩
    exact .tup (cs := []) .nil
  · -- nilCheck
    rename_i x ho
    rw [ho]
    have hx := hop x
    split at h
    · rename_i id off he
      cases Option.some.inj h
      rw [he] at hx
      obtain ⟨b, m, h1, h2⟩ := hx.own_inv
      refine ⟨.inl ⟨_, w, E, ?_, ⟨ELe.refl E, Stp.refl E H w, hI, hx⟩⟩, trivial⟩
      simp [h2]
    · rename_i l he
      cases Option.some.inj h
      rw [he] at hx
      obtain ⟨b, m, h1, h2⟩ := hx.rp_inv
      refine ⟨.inl ⟨_, w, E, ?_, ⟨ELe.refl E, Stp.refl E H w, hI, hx⟩⟩, trivial⟩
      simp [h1]
    · rename_i f l l' he
      cases Option.some.inj h
      rw [he] at hx
      obtain ⟨b, m, h1, h2, h3⟩ := hx.fn_inv
      refine ⟨.inl ⟨_, w, E, ?_, ⟨ELe.refl E, Stp.refl E H w, hI, hx⟩⟩, trivial⟩
      simp [h1]
    · simp [T.run] at h
  · -- binOp
    rename_i op t x y yt ho
    rw [ho]
    have hx := hop x
    have hy := hop y
    split at h
    · rename_i k n k' n' e1 e2
      rw [e1] at hx; rw [e2] at hy
      obtain ⟨h1, rfl⟩ := withH_eq h
      have v1 := hx.int_inv
      have v2 := hy.int_inv
      simp only [v1, v2]
      have hg : ∀ op, (eqGuard op t x y (.int k n) (.int k' n')).run C.P w = .ok () w := fun op => by cases op <;> simp [eqGuard]
      simp only [binA] at h1
      split at h1
      · obtain ⟨c, h2, h3⟩ := shift_ok (w := w) (C := C) (E := E) (t := t) (k' := k') h1
        exact ⟨.of_same hI (by simp [hg, h2]) h3, by simp⟩
      · obtain ⟨c, h2, h3⟩ := shift_ok (w := w) (C := C) (E := E) (t := t) (k' := k') h1
        exact ⟨.of_same hI (by simp [hg, h2]) h3, by simp⟩
      · replace h1 := T.of_chk h1
        obtain ⟨h4, h1⟩ := h1
        simp only [decide_eq_true_eq] at h4
        subst h4
        obtain ⟨c, h2, h3⟩ := arith_ok (w := w) (C := C) (E := E) (t := t) h1
        exact ⟨.of_same hI (by simp [hg, h2]) h3, by simp⟩
    · rename_i s1 s2 e1 e2
      rw [e1] at hx; rw [e2] at hy
      obtain ⟨h1, rfl⟩ := withH_eq h
      have v1 := hx.str_inv
      have v2 := hy.str_inv
      simp only [v1, v2]
      have hg : ∀ op, (eqGuard op t x y (.string ⟨s1.toArray⟩) (.string ⟨s2.toArray⟩)).run C.P w = .ok () w := fun op => by cases op <;> simp [eqGuard]
      obtain ⟨c, h2, h3⟩ := strOp_ok (w := w) (C := C) (E := E) (t := t) h1
      exact ⟨.of_same hI (by simp [hg, h2]) h3, by simp⟩
    · rename_i l l' e1 e2
      rw [e1] at hx; rw [e2] at hy
      obtain ⟨h1, rfl⟩ := withH_eq h
      obtain ⟨cs, v1, r1⟩ := hx.agg_inv
      obtain ⟨cs', v2, r2⟩ := hy.agg_inv
      simp only [v1, v2]
      simp only [binA] at h1
      replace h1 := T.of_chk h1
      obtain ⟨h4, h1⟩ := h1
      simp only [Bool.and_eq_true] at h4
      obtain ⟨⟨⟨hok, heq⟩, t1⟩, t2⟩ := h4
      split at h1
      · rename_i b hb
        cases Option.some.inj h1
        have := agg_eq_ok (w := w) (op := .eql) (x := x) (y := y) hT hQ hok heq t1 t2 hb r1 r2 (.inl rfl)
        exact ⟨.of_same hI this (.pers (.bool _)), by simp⟩
      · rename_i b hb
        cases Option.some.inj h1
        have := agg_eq_ok (w := w) (op := .neq) (x := x) (y := y) hT hQ hok heq t1 t2 hb r1 r2 (.inr rfl)
        exact ⟨.of_same hI this (.pers (.bool _)), by simp⟩
      · simp [T.run] at h1
    · obtain ⟨h1, rfl⟩ := withH_eq h
      unfold eqA at h1
      replace h1 := T.of_chk h1
      obtain ⟨hok, h1⟩ := h1
      split at h1
      · rename_i b hb
        cases Option.some.inj h1
        have := eqT_ok (w := w) (op := .eql) (x := x) (y := y) hT hok (fun hk => by simpa using hk) hb hx hy (.inl rfl)
        exact ⟨.of_same hI this (.pers (.bool _)), by simp⟩
      · rename_i b hb
        cases Option.some.inj h1
        have := eqT_ok (w := w) (op := .neq) (x := x) (y := y) hT hok (fun hk => by simpa using hk) hb hx hy (.inr rfl)
        exact ⟨.of_same hI this (.pers (.bool _)), by simp⟩
      · simp [T.run] at h1
  · -- unOp
    rename_i op t x ho
    rw [ho]
    obtain ⟨h1, rfl⟩ := withH_eq h
    obtain ⟨c, h2, h3⟩ := unA_ok (w := w) (C := C) h1 (hop x)
    exact ⟨.of_same hI h2 h3, by simp⟩
  · -- convert
    rename_i src dst x ho
    rw [ho]
    obtain ⟨h1, rfl⟩ := withH_eq h
    exact ⟨.of_val (convA_ok hT hI h1 (hop x)), by simp⟩
  · -- makeFunc
    rename_i f first caps ho
    rw [ho]
    cases Option.some.inj h
    have r1 := opnds_ok hI hf first
    have r2 := opnds_ok hI hf caps
    have := R.fn (f := f) r1 r2
    simp only [Array.toArray_toList] at this
    exact ⟨.of_same hI rfl this, by simp⟩
  · -- makeSlice
    rename_i t x y ho
    rw [ho]
    have hx := hop x
    have hy := hop y
    split at h
    · rename_i el n n' z hd e1 e2 hz
      rw [elem_slice hd] at hz
      rw [e1] at hx; rw [e2] at hy
      obtain ⟨h3, h4⟩ := T.of_chk h
      simp only [Bool.and_eq_true, Nat.beq_eq, Bool.not_eq_true', leI, decide_eq_true_eq] at h3
      obtain ⟨⟨⟨⟨⟨⟨⟨hok, hoke⟩, hzl⟩, hz0⟩, rfl⟩, hn0⟩, hbig⟩, hmax⟩ := h3
      have hz0 : (C.ty el).size ≠ 0 := fun e => by rw [e] at hz0; simp at hz0
      simp only [hx.int_inv, hy.int_inv]
      have key := makeSlice_ok hT hI hok hoke hd hz hzl hz0 hn0 hbig hmax
      split at h4
      · obtain ⟨h5, h6⟩ := T.of_chk h4
        cases Option.some.inj h6
        exact ⟨.of_val (key.2 h5), by simp⟩
      · cases Option.some.inj h4
        exact ⟨.of_val key.1, by simp⟩
    · simp [T.run] at h
  · -- slice
    rename_i t x lo hi mx ho
    rw [ho]
    obtain ⟨h1, rfl⟩ := withH_eq h
    obtain ⟨c, h2, h3⟩ := sliceA_ok hT hI h1 (hop x) (ro_opnd hI hf lo) (ro_opnd hI hf hi) (ro_opnd hI hf mx)
    exact ⟨.of_same hI h2 h3, by simp⟩
  · -- fieldAddr
    rename_i t x i ho
    rw [ho]
    have hx := hop x
    split at h
    · rename_i fs hd
      split at h
      · rename_i f id off hfi e1
        rw [e1] at hx
        obtain ⟨h1, h2⟩ := T.of_chk h
        cases Option.some.inj h2
        simp only [Bool.and_eq_true, Bool.not_eq_true'] at h1
        obtain ⟨⟨hok, hokf⟩, hsz⟩ := h1
        have hsz : (C.ty f.2).size ≠ 0 := fun e => by rw [e] at hsz; simp at hsz
        obtain ⟨b, m, he, v1⟩ := hx.own_inv
        simp only [v1]
        exact ⟨.of_same hI (fieldAddr_own hT hok hd hfi hokf hsz b off) (.own he), by simp⟩
      · rename_i f l hfi e1
        rw [e1] at hx
        obtain ⟨h1, h2⟩ := T.of_chk h
        cases Option.some.inj h2
        simp only [Bool.and_eq_true, Bool.not_eq_true', Nat.ble_eq] at h1
        obtain ⟨⟨⟨hok, hokf⟩, hsz⟩, hfit⟩ := h1
        have hsz : (C.ty f.2).size ≠ 0 := fun e => by rw [e] at hsz; simp at hsz
        obtain ⟨b, off, v1, hg⟩ := hx.rp_inv
        simp only [v1]
        exact ⟨.of_same hI (fieldAddr_own hT hok hd hfi hokf hsz b off) (.pers (.rp (hg.drop _))), by simp⟩
      · simp [T.run] at h
    · simp [T.run] at h
  · -- field
    rename_i t x i ho
    rw [ho]
    have hx := hop x
    split at h
    · rename_i fs hd
      split at h
      · rename_i f l hfi e1
        rw [e1] at hx
        replace h := T.of_chk h
        obtain ⟨hok, h⟩ := h
        obtain ⟨h1, rfl⟩ := withH_eq h
        obtain ⟨c, h2, h3⟩ := field_ok (w := w) hT hok hd hfi h1 hx
        exact ⟨.of_same hI h2 h3, by simp⟩
      · simp [T.run] at h
    · simp [T.run] at h
  · -- indexAddr
    rename_i t x i ho
    rw [ho]
    have hx := hop x
    have hi := hop i
    split at h
    · rename_i n el id off k i' hd e1 e2
      rw [e1] at hx; rw [e2] at hi
      obtain ⟨h1, h2⟩ := T.of_chk h
      cases Option.some.inj h2
      simp only [Bool.and_eq_true, leI, decide_eq_true_eq] at h1
      obtain ⟨⟨⟨hok, hoke⟩, h0⟩, hn⟩ := h1
      obtain ⟨b, m, he, v1⟩ := hx.own_inv
      simp only [v1, hi.int_inv]
      exact ⟨.of_same hI (indexAt_arr hT hok hoke hd h0 hn) (.own he), by simp⟩
    · rename_i n el l k i' hd e1 e2
      rw [e1] at hx; rw [e2] at hi
      obtain ⟨h1, h2⟩ := T.of_chk h
      cases Option.some.inj h2
      simp only [Bool.and_eq_true, leI, decide_eq_true_eq] at h1
      obtain ⟨⟨⟨hok, hoke⟩, h0⟩, hn⟩ := h1
      obtain ⟨b, off, v1, hg⟩ := hx.rp_inv
      simp only [v1, hi.int_inv]
      exact ⟨.of_same hI (indexAt_arr hT hok hoke hd h0 hn) (.pers (.rp (hg.drop _))), by simp⟩
    · rename_i el sz id off len cap k i' hd e1 e2
      rw [e1] at hx; rw [e2] at hi
      obtain ⟨h1, h2⟩ := T.of_chk h
      cases Option.some.inj h2
      simp only [Bool.and_eq_true, leI, decide_eq_true_eq, Nat.beq_eq] at h1
      obtain ⟨⟨⟨⟨hok, hoke⟩, rfl⟩, h0⟩, hn⟩ := h1
      obtain ⟨b, m, cp, he, v1, _⟩ := hx.sl_inv
      simp only [v1, hi.int_inv]
      exact ⟨.of_same hI (indexAt_sl hT hok hoke hd h0 hn) (.own he), by simp⟩
    · rename_i el full len l k i' hd e1 e2
      rw [e1] at hx; rw [e2] at hi
      obtain ⟨h1, h2⟩ := T.of_chk h
      cases Option.some.inj h2
      simp only [Bool.and_eq_true, leI, decide_eq_true_eq] at h1
      obtain ⟨⟨⟨hok, hoke⟩, h0⟩, hn⟩ := h1
      obtain ⟨b, off, cp, v1, hg, _⟩ := hx.ro_inv
      simp only [v1, hi.int_inv]
      exact ⟨.of_same hI (indexAt_sl hT hok hoke hd h0 hn) (.pers (.rp (hg.drop _))), by simp⟩
    · simp [T.run] at h
  · -- index
    rename_i t x i ho
    rw [ho]
    have hx := hop x
    have hi := hop i
    split at h
    · rename_i n el l k i' hd e1 e2
      rw [e1] at hx; rw [e2] at hi
      obtain ⟨h1, h2⟩ := T.of_chk h
      simp only [Bool.and_eq_true, leI, decide_eq_true_eq] at h1
      obtain ⟨⟨⟨hok, hoke⟩, h0⟩, hn⟩ := h1
      obtain ⟨h5, rfl⟩ := withH_eq h2
      obtain ⟨c, h3, h4⟩ := index_ok (w := w) (k := k) hT hok hoke hd h0 hn h5 hx
      simp only [hi.int_inv]
      exact ⟨.of_same hI h3 h4, by simp⟩
    · rename_i s k i' hd e1 e2
      rw [e1] at hx; rw [e2] at hi
      obtain ⟨h1, h2⟩ := T.of_chk h
      cases Option.some.inj h2
      simp only [Bool.and_eq_true, leI, decide_eq_true_eq] at h1
      obtain ⟨⟨hok, h0⟩, hn⟩ := h1
      simp only [hx.str_inv, hi.int_inv]
      exact ⟨.of_same hI (indexStr_ok hT hok hd h0 hn) (.pers (.int _ _)), by simp⟩
    · simp [T.run] at h
  · -- extract
    rename_i x i ho
    rw [ho]
    have hx := hop x
    split at h
    · rename_i l e1
      rw [e1] at hx
      obtain ⟨h1, h2⟩ := T.of_chk h
      cases Option.some.inj h2
      simp only [Nat.ble_eq] at h1
      obtain ⟨cs, v1, hl⟩ := hx.tup_inv
      obtain ⟨c, h3, h4⟩ := hl.get i (by omega)
      simp only [v1]
      exact ⟨.of_same hI (c := c) (by simp [Instr.extract, h3]) h4, by simp⟩
    · simp [T.run] at h
  · -- call
    rename_i c ho
    rw [ho]
    split at h
    · rename_i f hc
      obtain ⟨h1, h2, h3⟩ := callA_ok hr hs hI h (opnds_ok hI hf c.args)
      refine ⟨?_, trivial⟩
      have := OpRes.of_call h1 h2
      simp only [Array.toArray_toList] at this
      simp only [resolve, hc, Act.eval, Deferred.ofValue, Sem.run_bind, Sem.run_pure, Result.andThen_ok, invoke]
      simpa using this
    · rename_i g hg0 hc
      split at h
      · rename_i f first caps e1
        have hgv := hop g
        rw [e1] at hgv
        obtain ⟨cs, cs', v1, r1, r2⟩ := hgv.fn_inv
        obtain ⟨h1, h2, h3⟩ := callA_ok hr hs hI h ((r1.append (opnds_ok hI hf c.args)).append r2)
        refine ⟨?_, trivial⟩
        have := OpRes.of_call h1 h2
        simp only [resolve, hc, v1, Deferred.ofValue, Sem.run_bind, Sem.run_pure, Result.andThen_ok, invoke]
        have e2 : cs.toArray ++ Array.map a.eval c.args ++ cs'.toArray = (cs ++ (Array.map a.eval c.args).toList ++ cs').toArray := by
          apply Array.ext'; simp
        rw [e2]
        exact this
      · simp [T.run] at h
    · -- len
      rename_i hc
      split at h
      · rename_i x e1
        obtain ⟨h1, rfl⟩ := withH_eq h
        have ha := opnds_ok hI hf c.args
        rw [e1] at ha
        obtain ⟨cx, hcx, rx⟩ := RL.one ha
        obtain ⟨y, h2, h3⟩ := lenA_ok (w := w) hT o.type h1 rx
        refine ⟨.inl ⟨y, w, E, ?_, ⟨ELe.refl E, Stp.refl E _ w, hI, h3⟩⟩, by simp⟩
        simp only [resolve, hc, Sem.run_bind, Sem.run_pure, Result.andThen_ok, invoke, builtin, arr_one hcx]
        simp only [Array.toArray_toList] at h2
        simp [h2]
      · simp [T.run] at h
    · -- append
      rename_i hc
      split at h
      · rename_i x y e1
        have ha := opnds_ok hI hf c.args
        rw [e1] at ha
        obtain ⟨cx, cy, hcx, rx, ry⟩ := RL.two ha
        obtain ⟨h2, h3⟩ := appendA_ok hT hI o.type h rx ry
        refine ⟨?_, trivial⟩
        have := OpRes.of_val h2
        simp only [Array.toArray_toList] at this
        simp only [resolve, hc, Sem.run_bind, Sem.run_pure, Result.andThen_ok, invoke, builtin, arr_two hcx]
        simpa using this
      · simp [T.run] at h
    · -- copy
      rename_i hc
      split at h
      · rename_i x y e1
        have ha := opnds_ok hI hf c.args
        rw [e1] at ha
        obtain ⟨cx, cy, hcx, rx, ry⟩ := RL.two ha
        have h2 := copyA_ok hT hI o.type h rx ry
        refine ⟨?_, by simp⟩
        have := OpRes.of_val h2
        simp only [Array.toArray_toList] at this
        simp only [resolve, hc, Sem.run_bind, Sem.run_pure, Result.andThen_ok, invoke, builtin, arr_two hcx]
        simpa using this
      · simp [T.run] at h
    · -- max
      rename_i hc
      split at h
      · rename_i x l e1
        obtain ⟨h1, rfl⟩ := withH_eq h
        have ha := opnds_ok hI hf c.args
        rw [e1] at ha
        generalize hg : (Array.map a.eval c.args).toList = cs at ha
        cases ha with
        | cons rx rl =>
          rename_i cx cl
          obtain ⟨y, h2, h3⟩ := foldA_ok (w := w) (C := C) (g := Builtin.max2) (fun h a b => max2_ok h a b) rl rx h1
          refine ⟨.inl ⟨y, w, E, ?_, ⟨ELe.refl E, Stp.refl E _ w, hI, h3⟩⟩, by simp⟩
          simp only [resolve, hc, Sem.run_bind, Sem.run_pure, Result.andThen_ok, invoke, builtin, Builtin.max_, hg, h2]
      · simp [T.run] at h
    · -- min
      rename_i hc
      split at h
      · rename_i x l e1
        obtain ⟨h1, rfl⟩ := withH_eq h
        have ha := opnds_ok hI hf c.args
        rw [e1] at ha
        generalize hg : (Array.map a.eval c.args).toList = cs at ha
        cases ha with
        | cons rx rl =>
          rename_i cx cl
          obtain ⟨y, h2, h3⟩ := foldA_ok (w := w) (C := C) (g := Builtin.min2) (fun h a b => min2_ok h a b) rl rx h1
          refine ⟨.inl ⟨y, w, E, ?_, ⟨ELe.refl E, Stp.refl E _ w, hI, h3⟩⟩, by simp⟩
          simp only [resolve, hc, Sem.run_bind, Sem.run_pure, Result.andThen_ok, invoke, builtin, Builtin.min_, hg, h2]
      · simp [T.run] at h
    · simp [T.run] at h
  · simp [T.run] at h
end
end Go.Ev
