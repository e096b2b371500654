/- Evaluator: soundness, part 3: operations. -/
import Derived.Test.YtfkpbchdapccmaaDoorEvE
import Derived.Laws.Entries
import Derived.Laws.Strings
namespace Go.Ev

def FrR (E : Env) (e : Fr) (a : Act) : Prop := ∀ t, R E (look e t) (a.tmps.getD t undef)

structure Good (C : Ctx) (E : Env) (H : Heap) (w : World) (v : AV) (H' : Heap) (c : Value) (w' : World) (E' : Env) : Prop where
  le : ELe E E'
  stp : Stp E H w E' H' w'
  inv : Inv C E' H' w'
  r : R E' v c

/-- An operation's computation gives a value that the abstract one speaks of. -/
def ValOk (C : Ctx) (E : Env) (H : Heap) (w : World) (s : Sem Value) (v : AV) (H' : Heap) : Prop :=
  ∃ c w' E', s.run C.P w = .ok c w' ∧ Good C E H w v H' c w' E'

section
variable {C : Ctx} {E : Env} {H : Heap} {w : World}

theorem ValOk.same {s : Sem Value} {v : AV} {c : Value} (hI : Inv C E H w) (h : s.run C.P w = .ok c w) (hr : R E v c) : ValOk C E H w s v H :=
  ⟨c, w, E, h, ⟨ELe.refl E, Stp.refl E H w, hI, hr⟩⟩

theorem opnd_ok (hI : Inv C E H w) {e : Fr} {a : Act} (hf : FrR E e a) (x : Operand) : R E (opnd C e x) (a.eval x) := by
  cases x with
  | tmp t => exact hf t
  | const v => exact .pers (RP_ofV _ v)
  | global g =>
    simp only [opnd]
    split
    · rename_i l hl; exact .pers (.rp (hI.glob g l hl))
    · exact .pers (.undef _)
  | func f => exact .fn (cs := []) (cs' := []) .nil .nil

theorem opnds_ok (hI : Inv C E H w) {e : Fr} {a : Act} (hf : FrR E e a) (l : Array Operand) : RL E (opnds C e l) (l.map a.eval).toList := by
  unfold opnds
  rw [Array.toList_map]
  generalize l.toList = l
  induction l with
  | nil => exact .nil
  | cons x l ih => exact .cons (opnd_ok hI hf x) ih

theorem binOp_ints (op : BinOp) (t : TypeId) (k : IntKind) (a b : Int) (h1 : op ≠ .shl) (h2 : op ≠ .shr) : binOp op t (.int k a) (.int k b) = match op with
    | .add | .sub | .mul => Op.intArith op k a b
    | .quo | .rem => Op.intDiv op k a b
    | .and | .or | .xor | .andNot => Op.intBits op k a b
    | _ => Op.intCmp op a b := by
  cases op <;> first | (exact absurd rfl h1) | (exact absurd rfl h2) | simp [binOp]

theorem arith_ok {op : BinOp} {t : TypeId} {k : IntKind} {a b : Int} {v : AV} (h : (arith op k a b).run = some v) :
    ∃ c, (binOp op t (.int k a) (.int k b)).run C.P w = .ok c w ∧ R E v c := by
  cases op
  case quo =>
    obtain ⟨h1, h2⟩ := T.of_chk h
    simp only [T.run, Option.some.injEq] at h2; subst h2
    simp at h1
    exact ⟨_, by rw [binOp_ints _ _ _ _ _ (by simp) (by simp)]; simp [Op.intDiv, h1], .pers (.int _ _)⟩
  case rem =>
    obtain ⟨h1, h2⟩ := T.of_chk h
    simp only [T.run, Option.some.injEq] at h2; subst h2
    simp at h1
    exact ⟨_, by rw [binOp_ints _ _ _ _ _ (by simp) (by simp)]; simp [Op.intDiv, h1], .pers (.int _ _)⟩
  case shl => simp [arith, T.run] at h
  case shr => simp [arith, T.run] at h
  all_goals
    cases Option.some.inj h
    exact ⟨_, by rw [binOp_ints _ _ _ _ _ (by simp) (by simp)]; rfl, by first | exact .pers (.int _ _) | exact .pers (.bool _)⟩

theorem shift_ok {op : BinOp} {t : TypeId} {k k' : IntKind} {a b : Int} {v : AV} (h : (shiftA op k a b).run = some v) :
    ∃ c, (binOp op t (.int k a) (.int k' b)).run C.P w = .ok c w ∧ R E v c := by
  cases op <;> simp only [shiftA, T.run] at h <;> try (exact absurd h (by simp))
  all_goals
    obtain ⟨h1, h2⟩ := T.of_chk h
    simp only [T.run, Option.some.injEq] at h2; subst h2
    have : ¬ b < 0 := by simpa using h1
    exact ⟨_, by simp [binOp, Op.shift, this], .pers (.int _ _)⟩

theorem toList_mk (s : List UInt8) : (⟨s.toArray⟩ : ByteArray).toList = s := by
  rw [ByteArray.toList_eq]

theorem strOp_ok {op : BinOp} {t : TypeId} {a b : List UInt8} {v : AV} (h : (strOp op a b).run = some v) :
    ∃ c, (binOp op t (.string ⟨a.toArray⟩) (.string ⟨b.toArray⟩)).run C.P w = .ok c w ∧ R E v c := by
  cases op <;> simp only [strOp, T.run, Option.some.injEq] at h
  case add =>
    obtain ⟨h1, h2⟩ := T.of_chk h
    simp only [T.run, Option.some.injEq] at h2; subst h2
    simp only [Nat.ble_eq] at h1
    refine ⟨.string ⟨(a ++ b).toArray⟩, ?_, .pers (.str _)⟩
    have e1 : ((⟨a.toArray⟩ : ByteArray).size : Nat) = a.length := by simp [ByteArray.size]
    have e2 : ((⟨b.toArray⟩ : ByteArray).size : Nat) = b.length := by simp [ByteArray.size]
    have e3 : (⟨a.toArray⟩ : ByteArray) ++ (⟨b.toArray⟩ : ByteArray) = ⟨(a ++ b).toArray⟩ := by
      apply ByteArray.ext; simp
    have e4 : ¬ (((a.length + b.length : Nat) : Int) > IntKind.i64.max) := by
      have : IntKind.i64.max = 9223372036854775807 := by decide
      omega
    simp [binOp, Op.stringOp, e1, e2, e3]
    omega
  case sub => simp at h
  case mul => simp at h
  case quo => simp at h
  case rem => simp at h
  case and => simp at h
  case or => simp at h
  case xor => simp at h
  case shl => simp at h
  case shr => simp at h
  case andNot => simp at h
  all_goals
    cases h
    refine ⟨_, rfl, ?_⟩
    simp only [toList_mk]
    exact .pers (.bool _)

theorem unA_ok {op : UnOp} {x v : AV} {c : Value} (h : (unA op x).run = some v) (hr : R E x c) : ∃ y, (Op.unary op c).run C.P w = .ok y w ∧ R E v y := by
  unfold unA at h
  split at h
  · cases hr.int_inv
    cases Option.some.inj h
    exact ⟨_, rfl, .pers (.int _ _)⟩
  · cases hr.int_inv
    cases Option.some.inj h
    exact ⟨_, rfl, .pers (.int _ _)⟩
  · cases hr.bool_inv
    cases Option.some.inj h
    exact ⟨_, rfl, .pers (.bool _)⟩
  · simp [T.run] at h

theorem max2_ok {x y v : AV} {c d : Value} (h : (max2 x y).run = some v) (hx : R E x c) (hy : R E y d) : ∃ z, (Builtin.max2 c d).run C.P w = .ok z w ∧ R E v z := by
  unfold max2 at h
  split at h
  · cases hx.int_inv; cases hy.int_inv; cases Option.some.inj h
    refine ⟨_, rfl, ?_⟩
    rename_i k x k' y
    by_cases hh : y > x <;> simp [hh] <;> exact .pers (.int _ _)
  · simp [T.run] at h

theorem min2_ok {x y v : AV} {c d : Value} (h : (min2 x y).run = some v) (hx : R E x c) (hy : R E y d) : ∃ z, (Builtin.min2 c d).run C.P w = .ok z w ∧ R E v z := by
  unfold min2 at h
  split at h
  · cases hx.int_inv; cases hy.int_inv; cases Option.some.inj h
    refine ⟨_, rfl, ?_⟩
    rename_i k x k' y
    by_cases hh : y < x <;> simp [hh] <;> exact .pers (.int _ _)
  · simp [T.run] at h

theorem foldA_ok {f : AV → AV → T AV} {g : Value → Value → Sem Value} (hfg : ∀ {x y v : AV} {c d : Value}, (f x y).run = some v → R E x c → R E y d → ∃ z, (g c d).run C.P w = .ok z w ∧ R E v z) :
    ∀ {l : List AV} {cs : List Value}, RL E l cs → ∀ {x v : AV} {c : Value}, R E x c → (foldA f x l).run = some v → ∃ z, (cs.foldlM g c).run C.P w = .ok z w ∧ R E v z
  | _, _, .nil, x, v, c, hx, h => by cases Option.some.inj h; exact ⟨c, rfl, hx⟩
  | _, _, .cons a l, x, v, c, hx, h => by
    simp only [foldA] at h
    obtain ⟨y, hy, h⟩ := T.of_bind h
    obtain ⟨z, hz, hr⟩ := hfg hy hx a
    obtain ⟨z', hz', hr'⟩ := foldA_ok hfg l hr h
    exact ⟨z', by simp [List.foldlM, hz, hz'], hr'⟩

/-! ### Parts laid over cells -/
theorem setL_eq {α : Type} : ∀ (vs l : List α) (i : Nat), i + vs.length ≤ l.length → setL l i vs = l.take i ++ vs ++ l.drop (i + vs.length)
  | [], l, i, _ => by simp [setL]
  | v :: vs, l, i, h => by
    simp only [setL]
    have hi : i < l.length := by simp at h; omega
    rw [setL_eq vs (l.set i v) (i + 1) (by simp at h ⊢; omega)]
    have e1 : (l.set i v).take (i + 1) = l.take i ++ [v] := by
      rw [List.set_eq_take_append_cons_drop, if_pos hi, List.take_append]
      have : (l.take i).length = i := by simp; omega
      rw [this, List.take_of_length_le (by omega)]
      simp
    have e2 : (l.set i v).drop (i + 1 + vs.length) = l.drop (i + (v :: vs).length) := by
      rw [List.drop_set_of_lt (by omega)]
      congr 1; simp; omega
    rw [e1, e2]
    simp

theorem length_setL {α : Type} : ∀ (vs l : List α) (i : Nat), (setL l i vs).length = l.length
  | [], _, _ => rfl
  | v :: vs, l, i => by simp only [setL]; rw [length_setL vs]; simp

theorem RL.setL : ∀ {vs : List AV} {cs : List Value}, RL E vs cs → ∀ {l : List AV} {ds : List Value} (i : Nat), RL E l ds → RL E (setL l i vs) (setL ds i cs)
  | _, _, .nil, _, _, _, h => h
  | _, _, .cons a r, _, _, i, h => RL.setL r (i + 1) (h.set a i)

theorem fill_fold (cs : List Value) : ∀ (k i : Nat) (ds : List Value), (cs.zipIdx k).foldl (fun (ds : Array Value) (p : Value × Nat) => ds.setIfInBounds (i + p.2) p.1) ds.toArray = (Go.Ev.setL ds (i + k) cs).toArray := by
  induction cs with
  | nil => intro k i ds; rfl
  | cons c cs ih =>
    intro k i ds
    simp only [List.zipIdx_cons, List.foldl_cons, Go.Ev.setL]
    rw [show ds.toArray.setIfInBounds (i + k) c = (ds.set (i + k) c).toArray by simp]
    rw [ih (k + 1) i (ds.set (i + k) c)]
    rfl

theorem fillA_ok {place place' : Nat → Option (Nat × Nat)} (hp : ∀ i x, place i = some x → place' i = some x) : ∀ {parts : List (Nat × AV)} {ps : List (Nat × Value)}, (parts.map (·.1) = ps.map (·.1)) →
    RL E (parts.map (·.2)) (ps.map (·.2)) → ∀ {l r : List AV} {ds : List Value}, RL E l ds → (fillA place l parts).run = some r → ∃ ds', Instr.fill place' ds.toArray ps = some ds'.toArray ∧ RL E r ds'
  | [], [], _, _, l, r, ds, hl, h => by cases Option.some.inj h; exact ⟨ds, rfl, hl⟩
  | [], p :: ps, h, _, _, _, _, _, _ => by simp at h
  | p :: parts, [], h, _, _, _, _, _, _ => by simp at h
  | (i, v) :: parts, (i', c) :: ps, he, hr, l, r, ds, hl, h => by
    simp only [List.map_cons, List.cons.injEq] at he
    obtain ⟨rfl, he⟩ := he
    simp only [List.map_cons] at hr
    cases hr with
    | cons hv hr =>
      simp only [fillA] at h
      split at h
      · rename_i off size hpl
        obtain ⟨h1, h2⟩ := T.of_chk h
        simp only [Bool.and_eq_true, Nat.beq_eq, Nat.ble_eq] at h1
        obtain ⟨⟨hu, h1⟩, h5⟩ := h1
        · have hc := R.cells hv (by rintro rfl; simp [AV.isU] at hu)
          have hlen := hc.length
          have hlen' := hl.length
          obtain ⟨ds', h3, h4⟩ := fillA_ok hp he hr (hc.setL off hl) h2
          refine ⟨ds', ?_, h4⟩
          simp only [Instr.fill, hp _ _ hpl]
          have hs : c.cells.size = v.cells.length := by rw [hlen]; simp
          rw [if_neg (by rw [hs]; simp; omega)]
          have := fill_fold c.cells.toList 0 off ds
          rw [Nat.add_zero] at this
          rw [← h3, ← this]
          congr 1
          rw [← Array.foldl_toList, Array.toList_zipIdx]
      · simp [T.run] at h

theorem RL.free_rpl : ∀ {l : List AV} {cs : List Value}, RL E l cs → freeL l = true → RPL E.G l cs
  | _, _, .nil, _ => .nil
  | _, _, .cons a l, h => by
    simp only [freeL, Bool.and_eq_true] at h
    exact .cons (free_rp a h.1) (RL.free_rpl l h.2)
where
  free_rp : ∀ {v : AV} {c : Value}, R E v c → v.free = true → RP E.G v c
    | _, _, .pers p, _ => p
    | _, _, .agg l, h => .agg (RL.free_rpl l (by simpa [AV.free] using h))
    | _, _, .tup l, h => .tup (RL.free_rpl l (by simpa [AV.free] using h))
    | _, _, .own _, h => by simp [AV.free] at h
    | _, _, .sl _ _ _ _, h => by simp [AV.free] at h
    | _, _, .fn l l', h => by
      simp only [AV.free, Bool.and_eq_true] at h
      exact .fn (RL.free_rpl l h.1) (RL.free_rpl l' h.2)
    | _, _, .ifc v, h => .ifc (free_rp v (by simpa [AV.free] using h))

theorem own_self (hlen : E.ρ.length = H.length) (b m : Nat) (off : Nat) : R (E.more b m) (.own H.length off) (.pointer (some ⟨b, off, none⟩)) :=
  .own (m := m) (by rw [Env.at_get]; simp [Env.more, ← hlen])

/-- A new row of cells, the call's own. -/
theorem newRow_ok (hI : Inv C E H w) {el : TypeId} {l : List AV} {cs rest : List Value} (hr : RL E l cs) :
    ∃ b m E', (newRow el (cs ++ rest).toArray).run C.P w = .ok ⟨b, 0, none⟩ (w.alloc (.cells (cs ++ rest).toArray el)) ∧ ELe E E' ∧ Stp E H w E' (alloc H ⟨el, l⟩) (w.alloc (.cells (cs ++ rest).toArray el)) ∧
      Inv C E' (alloc H ⟨el, l⟩) (w.alloc (.cells (cs ++ rest).toArray el)) ∧ E'.at H.length = some (b, m) ∧ m = (cs ++ rest).length := by
  obtain ⟨h1, h2⟩ := inv_alloc (blk := ⟨el, l⟩) (rest := rest) hI hr
  exact ⟨w.heap.size, _, _, rfl, ELe.more E _ _, h2, h1, by rw [Env.at_get]; simp [Env.more, ← hI.len], rfl⟩

/-- A new row of cells that nobody will write. -/
theorem newRow_ghost (hI : Inv C E H w) {el : TypeId} {l : List AV} {cs rest : List Value} (hr : RL E l cs) (hf : freeL l = true) :
    ∃ b E', (newRow el (cs ++ rest).toArray).run C.P w = .ok ⟨b, 0, none⟩ (w.alloc (.cells (cs ++ rest).toArray el)) ∧ ELe E E' ∧ Stp E H w E' H (w.alloc (.cells (cs ++ rest).toArray el)) ∧
      Inv C E' H (w.alloc (.cells (cs ++ rest).toArray el)) ∧ RG E'.G b 0 l := by
  obtain ⟨h1, h2, h3, h4⟩ := inv_ghost (ty := el) (rest := rest) (fr := (0, 0)) hI (hr.free_rpl hf)
  exact ⟨w.heap.size, _, rfl, h4, h2, h1, h3⟩

theorem box_ok (hI : Inv C E H w) {el : TypeId} {v : AV} {c : Value} (hr : R E v c) (hu : v.isU = false) : ValOk C E H w (Instr.box el c) (.own H.length 0) (alloc H ⟨el, v.cells⟩) := by
  have hc := R.cells hr (by rintro rfl; simp [AV.isU] at hu)
  obtain ⟨b, m, E', h1, h2, h3, h4, h5, _⟩ := newRow_ok (rest := []) (el := el) hI hc
  simp only [List.append_nil, Array.toArray_toList] at h1 h3 h4
  exact ⟨_, _, E', by simp [Instr.box, newVar, h1], h2, h3, h4, .own h5⟩

theorem box_draw (hI : Inv C E H w) {el : TypeId} {v : AV} {c : Value} (hr : R E v c) (hu : v.isU = false) (hf : freeL v.cells = true) : ValOk C E H w (Instr.box el c) (.rp v.cells) H := by
  have hc := R.cells hr (by rintro rfl; simp [AV.isU] at hu)
  obtain ⟨b, E', h1, h2, h3, h4, h5⟩ := newRow_ghost (rest := []) (el := el) hI hc hf
  simp only [List.append_nil, Array.toArray_toList] at h1 h3 h4
  exact ⟨_, _, E', by simp [Instr.box, newVar, h1], h2, h3, h4, .pers (.rp h5)⟩

theorem alloc_ok (hT : TyOk C) (hI : Inv C E H w) {el : TypeId} {z : List AV} (hz : (C.ty el).zero = some z) (hok : (C.ty el).ok = true) :
    ValOk C E H w (Instr.alloc el true (.tuple #[])) (.own H.length 0) (alloc H ⟨el, z⟩) := by
  obtain ⟨i, hi, _, _, _, hzz⟩ := run_info hT hok
  obtain ⟨zv, hzv, rfl⟩ := hzz z hz
  have hc : RL E (ofV zv).cells zv.cells.toList := (RPL_ofV_cells E.G zv).rl
  obtain ⟨b, m, E', h1, h2, h3, h4, h5, _⟩ := newRow_ok (rest := []) (el := el) hI hc
  simp only [List.append_nil, Array.toArray_toList] at h1 h3 h4
  exact ⟨_, _, E', by simp [Instr.alloc, zeroValue, hi, hzv, newVar, h1], h2, h3, h4, .own h5⟩

theorem run_zero (hT : TyOk C) {t : TypeId} {z : List AV} (hz : (C.ty t).zero = some z) (hok : (C.ty t).ok = true) : ∃ zv, (∀ w, (zeroValue t).run C.P w = .ok zv w) ∧ ∀ E : Env, RL E z zv.cells.toList := by
  obtain ⟨i, hi, _, _, _, hzz⟩ := run_info hT hok
  obtain ⟨zv, hzv, rfl⟩ := hzz z hz
  exact ⟨zv, fun w => by simp [zeroValue, hi, hzv], fun E => (RPL_ofV_cells E.G zv).rl⟩

theorem und_of (hT : TyOk C) {t : TypeId} (hok : (C.ty t).ok = true) : ∃ d, C.P.underlying t = some d ∧ D.of d = (C.ty t).desc := (hT t hok).1

theorem und_slice (hT : TyOk C) {t el : TypeId} (hok : (C.ty t).ok = true) (hd : (C.ty t).desc = .slice el) : C.P.underlying t = some (.slice el) := by
  obtain ⟨d, h1, h2⟩ := und_of hT hok
  rw [h1]; rw [hd] at h2
  cases d <;> simp [D.of] at h2
  rw [h2]
theorem und_array (hT : TyOk C) {t el n : Nat} (hok : (C.ty t).ok = true) (hd : (C.ty t).desc = .array n el) : C.P.underlying t = some (.array n el) := by
  obtain ⟨d, h1, h2⟩ := und_of hT hok
  rw [h1]; rw [hd] at h2
  cases d <;> simp [D.of] at h2
  rw [h2.1, h2.2]
theorem und_string (hT : TyOk C) {t : Nat} (hok : (C.ty t).ok = true) (hd : (C.ty t).desc = .string) : C.P.underlying t = some .string := by
  obtain ⟨d, h1, h2⟩ := und_of hT hok
  rw [h1]; rw [hd] at h2
  cases d <;> simp [D.of] at h2
  rfl
theorem und_int (hT : TyOk C) {t : Nat} {k : IntKind} (hok : (C.ty t).ok = true) (hd : (C.ty t).desc = .int k) : C.P.underlying t = some (.int k) := by
  obtain ⟨d, h1, h2⟩ := und_of hT hok
  rw [h1]; rw [hd] at h2
  cases d <;> simp [D.of] at h2
  rw [h2]
theorem und_struct (hT : TyOk C) {t : Nat} {fs : List (Nat × TypeId)} (hok : (C.ty t).ok = true) (hd : (C.ty t).desc = .struct fs) : ∃ ff, C.P.underlying t = some (.struct ff) ∧ ff.toList.map (fun f => (f.offset, f.type)) = fs := by
  obtain ⟨d, h1, h2⟩ := und_of hT hok
  rw [h1]; rw [hd] at h2
  cases d <;> simp [D.of] at h2
  exact ⟨_, rfl, by simpa using h2⟩
end
end Go.Ev
