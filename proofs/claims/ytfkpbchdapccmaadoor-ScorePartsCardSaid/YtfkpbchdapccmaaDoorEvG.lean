/- Evaluator: soundness, part 4: addresses, parts, slices. -/
import Derived.Test.YtfkpbchdapccmaaDoorEvF
namespace Go.Ev

section
variable {C : Ctx} {E : Env} {H : Heap} {w : World}

theorem storeA_ok (hT : TyOk C) (hI : Inv C E H w) {t : TypeId} {p v : AV} {c d : Value} {H' : Heap} (h : (storeA C H t p v).run = some H') (hp : R E p c) (hv : R E v d) :
    ∃ w', (Instr.storeAt t c d).run C.P w = .ok () w' ∧ Inv C E H' w' ∧ Stp E H w E H' w' := by
  unfold storeA at h
  split at h
  · rename_i id off
    split at h
    · rename_i blk hb
      obtain ⟨h1, h2⟩ := T.of_chk h
      cases Option.some.inj h2
      simp only [Bool.and_eq_true, Nat.beq_eq, Nat.ble_eq] at h1
      obtain ⟨⟨⟨hok, hsz⟩, hfit⟩, hone⟩ := h1
      obtain ⟨b, m, e1, rfl⟩ := hp.own_inv
      have hb' := hget_eq hb
      obtain ⟨b', m', cs, rest, e2, hh, hm, hr⟩ := hI.blk id blk hb'
      rw [e1] at e2; cases e2
      have hu : v ≠ .undef := by rintro rfl; simp [AV.cells, oneL, AV.one] at hone
      have hc := hv.cells hu
      have hl := hc.length
      have hlr := hr.length
      have hst := run_storeCells_at C.P b off blk.ty d.cells.toList 0 (cs ++ rest).toArray w hh (by simp at hl ⊢; omega) (hc.oneCells hone)
      have hsz' : d.cells.size = (C.ty t).size := by rw [← hsz, hl]; simp
      have hrun : (Instr.storeAt t (.pointer (some ⟨b, off, none⟩)) d).run C.P w = .ok () (w.setRow b (setL cs off d.cells.toList ++ rest).toArray) := by
        simp only [Instr.storeAt, Instr.sureAddr, storeVar, Sem.run_bind, Sem.run_pure, Result.andThen_ok, run_sizeOf hT hok, hsz', ne_eq, not_true_eq_false, if_false, hst]
        congr 3
        rw [setL_eq _ _ _ (by simp at hl ⊢; omega)]
        simp only [Nat.add_zero, List.append_assoc]
        have : off ≤ cs.length := by omega
        rw [List.take_append_of_le_length this, List.drop_append_of_le_length (by simp at hl ⊢; omega)]
      obtain ⟨h3, h4⟩ := inv_set (cells := setL blk.cells off v.cells) (cs := setL cs off d.cells.toList) (rest := rest) hI hb' e1 (hc.setL off hr) (by simpa [length_setL] using hm)
      exact ⟨_, hrun, h3, h4⟩
    · simp [T.run] at h
  · simp [T.run] at h

theorem withH_eq {t : T AV} {v : AV} {H' : Heap} (h : (withH H t).run = some (v, H')) : t.run = some v ∧ H' = H := by
  obtain ⟨a, h1, h2⟩ := T.of_bind h
  cases Option.some.inj h2
  exact ⟨h1, rfl⟩

theorem fieldAddr_own (hT : TyOk C) {t : TypeId} {i : Nat} {fs : List (Nat × TypeId)} {f : Nat × TypeId} (hok : (C.ty t).ok = true) (hd : (C.ty t).desc = .struct fs) (hf : fs[i]? = some f) (hokf : (C.ty f.2).ok = true) (hsz : (C.ty f.2).size ≠ 0) (b off : Nat) :
    (Instr.fieldAt t (.pointer (some ⟨b, off, none⟩)) i).run C.P w = .ok (.pointer (some ⟨b, off + f.1, none⟩)) w := by
  obtain ⟨ff, h1, h2⟩ := und_struct hT hok hd
  have h3 : (ff.toList.map (fun f => (f.offset, f.type)))[i]? = some f := by rw [h2]; exact hf
  rw [List.getElem?_map] at h3
  obtain ⟨g, hg, rfl⟩ := Option.map_eq_some_iff.1 h3
  have hg' : ff[i]? = some g := by simpa using hg
  simp only at hokf hsz
  simp [Instr.fieldAt, run_underlying h1, hg', Instr.sureAddr, fieldPlace, run_sizeOf hT hokf, hsz, addr_add]

theorem part_ok (hT : TyOk C) {t : TypeId} {l : List AV} {cs : List Value} {off : Nat} {v : AV} (h : (getT (C.ty t) l off).run = some v) (hr : RL E l cs) :
    ∃ c, (part t cs.toArray off).run C.P w = .ok c w ∧ R E v c := by
  obtain ⟨hok, h⟩ := getT_eq h
  rcases h with ⟨ha, hl, rfl⟩ | ⟨ha, hl, rfl⟩
  · refine ⟨.agg ((cs.drop off).take (C.ty t).size).toArray, ?_, .agg ((hr.drop off).take _)⟩
    simp [part, run_isAgg hT hok, ha, run_sizeOf hT hok]
  · obtain ⟨c, h1, h2⟩ := hr.get off hl
    refine ⟨c, ?_, h2⟩
    simp [part, run_isAgg hT hok, ha, h1]

theorem field_ok (hT : TyOk C) {t : TypeId} {i : Nat} {fs : List (Nat × TypeId)} {f : Nat × TypeId} {l : List AV} {c : Value} {v : AV} (hok : (C.ty t).ok = true) (hd : (C.ty t).desc = .struct fs) (hf : fs[i]? = some f)
    (h : (getT (C.ty f.2) l f.1).run = some v) (hr : R E (.agg l) c) : ∃ x, (Instr.field t c i).run C.P w = .ok x w ∧ R E v x := by
  obtain ⟨ff, h1, h2⟩ := und_struct hT hok hd
  have h3 : (ff.toList.map (fun f => (f.offset, f.type)))[i]? = some f := by rw [h2]; exact hf
  rw [List.getElem?_map] at h3
  obtain ⟨g, hg, rfl⟩ := Option.map_eq_some_iff.1 h3
  have hg' : ff[i]? = some g := by simpa using hg
  obtain ⟨cs, rfl, hl⟩ := hr.agg_inv
  obtain ⟨x, h4, h5⟩ := part_ok (w := w) hT h hl
  exact ⟨x, by simp [Instr.field, run_underlying h1, hg', asAgg, h4], h5⟩

theorem index_ok (hT : TyOk C) {t el n : Nat} {k : IntKind} {i : Int} {l : List AV} {c : Value} {v : AV} (hok : (C.ty t).ok = true) (hoke : (C.ty el).ok = true) (hd : (C.ty t).desc = .array n el) (h0 : 0 ≤ i) (hn : i < n)
    (h : (getT (C.ty el) l (i.toNat * (C.ty el).size)).run = some v) (hr : R E (.agg l) c) : ∃ x, (Instr.index t c (.int k i)).run C.P w = .ok x w ∧ R E v x := by
  obtain ⟨cs, rfl, hl⟩ := hr.agg_inv
  obtain ⟨x, h4, h5⟩ := part_ok (w := w) hT h hl
  exact ⟨x, by simp [Instr.index, asIntOf, run_underlying (und_array hT hok hd), h0, hn, run_sizeOf hT hoke, h4], h5⟩

theorem indexStr_ok (hT : TyOk C) {t : Nat} {k : IntKind} {i : Int} {s : List UInt8} (hok : (C.ty t).ok = true) (hd : (C.ty t).desc = .string) (h0 : 0 ≤ i) (hn : i < s.length) :
    (Instr.index t (.string ⟨s.toArray⟩) (.int k i)).run C.P w = .ok (.int .u8 (s.getD i.toNat 0).toNat) w := by
  have hlt : i.toNat < s.length := by omega
  have : (⟨s.toArray⟩ : ByteArray)[i.toNat]? = some (s.getD i.toNat 0) := by
    rw [getElem?_pos (h := by simpa [ByteArray.size] using hlt)]
    simp [List.getD, hlt]
    rfl
  simp [Instr.index, asIntOf, run_underlying (und_string hT hok hd), h0, this]

theorem indexAt_arr (hT : TyOk C) {t el n : Nat} {k : IntKind} {i : Int} {b off : Nat} (hok : (C.ty t).ok = true) (hoke : (C.ty el).ok = true) (hd : (C.ty t).desc = .array n el) (h0 : 0 ≤ i) (hn : i < n) :
    (Instr.indexAt t (.pointer (some ⟨b, off, none⟩)) (.int k i)).run C.P w = .ok (.pointer (some ⟨b, off + i.toNat * (C.ty el).size, none⟩)) w := by
  simp [Instr.indexAt, asIntOf, run_underlying (und_array hT hok hd), Instr.sureAddr, h0, hn, run_sizeOf hT hoke, addr_add]

theorem indexAt_sl (hT : TyOk C) {t el : Nat} {k : IntKind} {i : Int} {b off len cap : Nat} (hok : (C.ty t).ok = true) (hoke : (C.ty el).ok = true) (hd : (C.ty t).desc = .slice el) (h0 : 0 ≤ i) (hn : i < len) :
    (Instr.indexAt t (.slice (some ⟨b, off, none⟩) len cap) (.int k i)).run C.P w = .ok (.pointer (some ⟨b, off + i.toNat * (C.ty el).size, none⟩)) w := by
  simp [Instr.indexAt, asIntOf, run_underlying (und_slice hT hok hd), h0, hn, run_sizeOf hT hoke, addr_add]

theorem build_ok (hT : TyOk C) {t : TypeId} {parts : List (Nat × AV)} {ps : List (Nat × Value)} {v : AV} (h : (buildA C t parts).run = some v) (he : parts.map (·.1) = ps.map (·.1)) (hr : RL E (parts.map (·.2)) (ps.map (·.2))) :
    ∃ c, (Instr.build t ps.toArray).run C.P w = .ok c w ∧ R E v c := by
  unfold buildA at h
  split at h
  · rename_i fs z hd hz
    obtain ⟨h1, h2⟩ := T.of_chk h
    obtain ⟨cs, h3, h4⟩ := T.of_bind h2
    cases Option.some.inj h4
    simp only [Bool.and_eq_true, List.all_eq_true] at h1
    obtain ⟨hok, hall⟩ := h1
    obtain ⟨zv, hzv, hzr⟩ := run_zero hT hz hok
    obtain ⟨ff, hu, hff⟩ := und_struct hT hok hd
    have hplaces : ∀ (fl : List Field) (w : World), (∀ f ∈ fl, (C.ty f.type).ok = true) → (fl.mapM (m := Sem) fun f => Prod.mk f.offset <$> sizeOf f.type).run C.P w = .ok (fl.map fun f => (f.offset, (C.ty f.type).size)) w := by
      intro fl
      induction fl with
      | nil => intro w _; rfl
      | cons f fl ih =>
        intro w hf
        simp [List.mapM_cons, run_sizeOf hT (hf f (by simp)), ih w (fun g hg => hf g (by simp [hg]))]
    have hall' : ∀ f ∈ ff.toList, (C.ty f.type).ok = true := fun f hf => by
      have := hall (f.offset, f.type) (by rw [← hff]; exact List.mem_map.2 ⟨f, hf, rfl⟩)
      exact this
    have hp : (ff.mapM (m := Sem) fun f => Prod.mk f.offset <$> sizeOf f.type).run C.P w = .ok ((ff.toList.map fun f => (f.offset, (C.ty f.type).size)).toArray) w := by
      rw [← Array.toArray_toList (xs := ff), List.mapM_toArray]
      simp only [Sem.run_map, hplaces _ w hall', Result.andThen_ok]
    obtain ⟨ds', h5, h6⟩ := fillA_ok (place := fun i => (fs[i]?).map fun f => (f.1, (C.ty f.2).size)) (place' := fun i => (ff.toList.map fun f => (f.offset, (C.ty f.type).size)).toArray[i]?) (fun i x hx => by
      rw [← hff] at hx
      simp only [List.getElem?_map, List.getElem?_toArray] at hx ⊢
      cases hfi : ff.toList[i]? with
      | none => simp [hfi] at hx
      | some f => simp [hfi] at hx ⊢; exact hx) he hr (hzr E) h3
    refine ⟨.agg ds'.toArray, ?_, .agg h6⟩
    simp at h5
    simp [Instr.build, hzv, run_underlying hu, hp, h5]
  · rename_i n el z hd hz
    obtain ⟨h1, h2⟩ := T.of_chk h
    obtain ⟨cs, h3, h4⟩ := T.of_bind h2
    cases Option.some.inj h4
    simp only [Bool.and_eq_true] at h1
    obtain ⟨hok, hoke⟩ := h1
    obtain ⟨zv, hzv, hzr⟩ := run_zero hT hz hok
    obtain ⟨ds', h5, h6⟩ := fillA_ok (place := fun i => some (i * (C.ty el).size, (C.ty el).size)) (place' := fun i => some (i * (C.ty el).size, (C.ty el).size)) (fun i x hx => hx) he hr (hzr E) h3
    refine ⟨.agg ds'.toArray, ?_, .agg h6⟩
    simp only [Array.toArray_toList] at h5
    simp [Instr.build, hzv, run_underlying (und_array hT hok hd), run_sizeOf hT hoke, h5]
  · simp [T.run] at h

theorem repL_cells {z : List AV} {zv : List Value} (hz : RL E z zv) : ∀ n, RL E (repL n z) (List.replicate n zv).flatten
  | 0 => .nil
  | n + 1 => by simp only [repL, List.replicate_succ, List.flatten_cons]; exact hz.append (repL_cells hz n)

/-- The cells that 'buildSlice' and 'makeSlice' lay first. -/
theorem range_cells (zero : Array Value) (n : Nat) (sz : Nat) (hs : zero.size = sz) : ((Array.range (n * sz)).map (zero[· % zero.size]!)) = (List.replicate n zero.toList).flatten.toArray := by
  subst hs
  apply Array.ext'
  simp only [Array.toList_map, Array.toList_range]
  induction n with
  | zero => simp
  | succ n ih =>
    rw [Nat.succ_mul, List.range_add, List.map_append, ih, List.replicate_succ', List.flatten_append]
    congr 1
    simp only [List.map_map, List.flatten_cons, List.flatten_nil, List.append_nil]
    apply List.ext_getElem?
    intro i
    by_cases hi : i < zero.size
    · simp [hi, Nat.mul_add_mod_self_right, Nat.mod_eq_of_lt hi]
    · simp [hi]

theorem zero_size (_ : TyOk C) {t : TypeId} {z : List AV} {zv : Value} (_ : (C.ty t).zero = some z) (_ : (C.ty t).ok = true) (hr : RL E z zv.cells.toList) : zv.cells.size = z.length := by
  have := hr.length; simpa using this.symm

theorem slice_ok {full : Bool} {b len cap : Nat} {l : List AV} {G : Gh} (h : RG G b 0 l) (hf : full = true → cap = len) (hl : len ≤ cap) : RP G (.ro full len l) (.slice (some ⟨b, 0, none⟩) len cap) := .ro h hf hl

theorem buildSlice_ok (hT : TyOk C) (hI : Inv C E H w) {t el len : Nat} {z cs : List AV} {parts : List (Nat × AV)} {ps : List (Nat × Value)} (hok : (C.ty t).ok = true) (hoke : (C.ty el).ok = true) (hd : (C.ty t).desc = .slice el)
    (hz : (C.ty el).zero = some z) (hzl : z.length = (C.ty el).size) (hz0 : (C.ty el).size ≠ 0) (hbig : len * (C.ty el).size ≤ 16777216) (he : parts.map (·.1) = ps.map (·.1)) (hr : RL E (parts.map (·.2)) (ps.map (·.2)))
    (h : (fillA (fun i => some (i * (C.ty el).size, (C.ty el).size)) (repL len z) parts).run = some cs) (hsize : cs.length = len * (C.ty el).size) :
    (ValOk C E H w (Instr.buildSlice t len ps.toArray) (.sl (C.ty el).size H.length 0 len (some len)) (alloc H ⟨el, cs⟩)) ∧
    (freeL cs = true → ValOk C E H w (Instr.buildSlice t len ps.toArray) (.ro true len cs) H) := by
  obtain ⟨zv, hzv, hzr⟩ := run_zero hT hz hoke
  have hzs : zv.cells.size = (C.ty el).size := by rw [← hzl]; have := (hzr E).length; simpa using this.symm
  obtain ⟨ds', h5, h6⟩ := fillA_ok (place := fun i => some (i * (C.ty el).size, (C.ty el).size)) (place' := fun i => some (i * (C.ty el).size, (C.ty el).size)) (fun i x hx => hx) he hr (repL_cells (hzr E) len) h
  have hrun : ∀ a w1, (newRow el ds'.toArray).run C.P w = .ok a w1 → (Instr.buildSlice t len ps.toArray).run C.P w = .ok (.slice (some a) len len) w1 := by
    intro a w1 ha
    have hr0 : ∀ (f : Nat → Value), (Array.range 0).map f = #[] := fun f => by apply Array.ext'; simp
    by_cases h0 : len = 0
    · subst h0
      simp at h5
      simp [Instr.buildSlice, run_underlying (und_slice hT hok hd), run_sizeOf hT hoke, hr0, h5, ha]
    · have e0 : ¬ (16777216 < len * (C.ty el).size) := by omega
      have e1 : ¬ (len * (C.ty el).size = 0) := fun e => (Nat.mul_eq_zero.1 e).elim h0 hz0
      have hc := range_cells zv.cells len _ hzs
      simp [Instr.buildSlice, run_underlying (und_slice hT hok hd), run_sizeOf hT hoke, e0, hzv, hc, h5, ha]
      exact fun hx => absurd hx e1
  have hl := h6.length
  refine ⟨?_, fun hf => ?_⟩
  · obtain ⟨b, m, E', h1, h2, h3, h4, h7, h8⟩ := newRow_ok (rest := []) (el := el) hI h6
    simp only [List.append_nil] at h1 h3 h4 h8
    exact ⟨_, _, E', hrun _ _ h1, h2, h3, h4, .sl h7 (fun c hc => by cases hc; rfl) (Nat.le_refl _) (by omega)⟩
  · obtain ⟨b, E', h1, h2, h3, h4, h7⟩ := newRow_ghost (rest := []) (el := el) hI h6 hf
    simp only [List.append_nil] at h1 h3 h4
    exact ⟨_, _, E', hrun _ _ h1, h2, h3, h4, .pers (.ro h7 (fun _ => rfl) (Nat.le_refl _))⟩

theorem length_repL (n : Nat) (z : List AV) : (repL n z).length = n * z.length := by
  induction n with
  | zero => simp [repL]
  | succ n ih => simp [repL, ih, Nat.succ_mul, Nat.add_comm]

theorem wrap_i64_id {n : Int} (h0 : 0 ≤ n) (h1 : n ≤ 9223372036854775807) : IntKind.i64.wrap n = n := by
  unfold IntKind.wrap
  simp only [IntKind.bits, IntKind.signed]
  have e : n % 2 ^ 64 = n := Int.emod_eq_of_lt h0 (by omega)
  simp only [e]
  rw [if_neg]
  simp
  omega

theorem makeSlice_ok (hT : TyOk C) (hI : Inv C E H w) {t el : Nat} {n : Int} {z : List AV} (hok : (C.ty t).ok = true) (hoke : (C.ty el).ok = true) (hd : (C.ty t).desc = .slice el)
    (hz : (C.ty el).zero = some z) (hzl : z.length = (C.ty el).size) (hz0 : (C.ty el).size ≠ 0) (hn0 : 0 ≤ n) (hbig : ((C.ty el).bytes : Int) * n ≤ maxBytes) (hmax : n ≤ 9223372036854775807) :
    (ValOk C E H w (Instr.makeSlice t (.int .i64 n) (.int .i64 n)) (.sl (C.ty el).size H.length 0 n.toNat (some n.toNat)) (alloc H ⟨el, repL n.toNat z⟩)) ∧
    (freeL (repL n.toNat z) = true → ValOk C E H w (Instr.makeSlice t (.int .i64 n) (.int .i64 n)) (.ro true n.toNat (repL n.toNat z)) H) := by
  obtain ⟨zv, hzv, hzr⟩ := run_zero hT hz hoke
  obtain ⟨i, hi, hif, his, hib, _⟩ := run_info hT hoke
  have hzs : zv.cells.size = (C.ty el).size := by rw [← hzl]; have := (hzr E).length; simpa using this.symm
  have h6 := repL_cells (hzr E) n.toNat
  have hw := wrap_i64_id hn0 hmax
  have hrun : ∀ a w1, (newRow el (List.replicate n.toNat zv.cells.toList).flatten.toArray).run C.P w = .ok a w1 → (Instr.makeSlice t (.int .i64 n) (.int .i64 n)).run C.P w = .ok (.slice (some a) n.toNat n.toNat) w1 := by
    intro a w1 ha
    have e1 : ¬ (n < 0) := by omega
    have hr0 : ∀ (f : Nat → Value), (Array.range 0).map f = #[] := fun f => by apply Array.ext'; simp
    have e2 : ¬ ((281474976710656 : Int) < (i.bytes : Int) * n) := by rw [hib]; unfold maxBytes at hbig; omega
    by_cases h0 : n.toNat = 0
    · simp only [h0, List.replicate_zero, List.flatten_nil] at ha
      simp [Instr.makeSlice, run_underlying (und_slice hT hok hd), asInt, asIntOf, hi, hw, e1, e2, run_sizeOf hT hoke, h0, hr0, ha]
    · have hc := range_cells zv.cells n.toNat _ hzs
      simp [Instr.makeSlice, run_underlying (und_slice hT hok hd), asInt, asIntOf, hi, hw, e1, e2, run_sizeOf hT hoke, hzv, hc, ha]
      exact fun hx => absurd hx (fun e => (Nat.mul_eq_zero.1 e).elim h0 hz0)
  have hl := h6.length
  rw [length_repL, hzl] at hl
  refine ⟨?_, fun hf => ?_⟩
  · obtain ⟨b, m, E', h1, h2, h3, h4, h7, h8⟩ := newRow_ok (rest := []) (el := el) hI h6
    simp only [List.append_nil] at h1 h3 h4 h8
    exact ⟨_, _, E', hrun _ _ h1, h2, h3, h4, .sl h7 (fun c hc => by cases hc; rfl) (Nat.le_refl _) (by omega)⟩
  · obtain ⟨b, E', h1, h2, h3, h4, h7⟩ := newRow_ghost (rest := []) (el := el) hI h6 hf
    simp only [List.append_nil] at h1 h3 h4
    exact ⟨_, _, E', hrun _ _ h1, h2, h3, h4, .pers (.ro h7 (fun _ => rfl) (Nat.le_refl _))⟩
end
end Go.Ev
