/- Evaluator: soundness, part 7: equality. -/
import Derived.Test.YtfkpbchdapccmaaDoorEvI
import Derived.Laws.StructEq
namespace Go.Ev

def flatF (g : TypeId → Option (List D)) (sz : TypeId → Option Nat) : List Field → Nat → Option (List D)
  | [], _ => some []
  | f :: fs, off => if f.name = "_" ∨ f.offset ≠ off then none else match g f.type with
    | some ds => if sz f.type = some ds.length then (flatF g sz fs (off + ds.length)).map (ds ++ ·) else none
    | none => none

/-- The cells of a type whose values are compared cell by cell. -/
def flatD (P : Program) : Nat → TypeId → Option (List D)
  | 0, _ => none
  | n + 1, t => match P.underlying t with
    | some (.struct fs) => if P.stoodInHeld t then none else flatF (flatD P n) (fun t => (P.info? t).map (·.size)) fs.toList 0
    | some (.array len e) => match flatD P n e with
      | some ds => if (P.info? e).map (·.size) = some ds.length then some (List.replicate len ds).flatten else none
      | none => none
    | some .bool => some [.bool]
    | some .string => some [.string]
    | some (.int k) => some [.int k]
    | _ => none

def EqOk (C : Ctx) : Prop := ∀ t, (C.ty t).eq = true → flatD C.P 8 t = some (C.ty t).cds ∧ C.P.eqGuardType C.P.depth t = false ∧ isAggD (C.ty t).desc = true

section
variable {P : Program} {E : Env} {w : World}

theorem tyL_length : ∀ {ds : List D} {l : List AV}, tyL ds l = true → ds.length = l.length
  | [], [], _ => rfl
  | d :: ds, v :: l, h => by simp only [tyL, Bool.and_eq_true] at h; simp [tyL_length h.2]
  | [], _ :: _, h => by simp [tyL] at h
  | _ :: _, [], h => by simp [tyL] at h

theorem tyL_append : ∀ {ds ds' : List D} {l : List AV}, tyL (ds ++ ds') l = true → tyL ds (l.take ds.length) = true ∧ tyL ds' (l.drop ds.length) = true
  | [], ds', l, h => ⟨by simp [tyL], by simpa using h⟩
  | d :: ds, ds', [], h => by simp [tyL] at h
  | d :: ds, ds', v :: l, h => by
    simp only [List.cons_append, tyL, Bool.and_eq_true] at h
    obtain ⟨h1, h2⟩ := tyL_append h.2
    exact ⟨by simp [tyL, h.1, h1], by simpa using h2⟩

theorem eqL_split : ∀ {n : Nat} {l l' : List AV} {b : Bool}, eqL l l' = some b → ∃ b1 b2, eqL (l.take n) (l'.take n) = some b1 ∧ eqL (l.drop n) (l'.drop n) = some b2 ∧ b = (b1 && b2)
  | 0, l, l', b, h => ⟨true, b, by simp [eqL], by simpa using h, by simp⟩
  | n + 1, [], [], b, h => by simp [eqL] at h; exact ⟨true, true, by simp [eqL], by simp [eqL], by simp [h]⟩
  | n + 1, [], _ :: _, b, h => by simp [eqL] at h
  | n + 1, _ :: _, [], b, h => by simp [eqL] at h
  | n + 1, a :: l, a' :: l', b, h => by
    simp only [eqL] at h
    split at h
    · rename_i x hx
      split at h
      · rename_i y hy
        cases h
        obtain ⟨b1, b2, h1, h2, h3⟩ := eqL_split (n := n) hy
        exact ⟨x && b1, b2, by simp [eqL, hx, h1], by simpa using h2, by rw [h3, Bool.and_assoc]⟩
      · cases h
    · cases h

/-- The value of a type at a place of a row of cells. -/
def valAt (P : Program) (t : TypeId) (n : Nat) (cs : List Value) : Value :=
  match P.underlying t with
  | some (.struct _) | some (.array _ _) => .agg (cs.take n).toArray
  | _ => cs.getD 0 undef

theorem run_part {t : TypeId} {d : TypeDesc} (hd : P.underlying t = some d) {n : Nat} (hs : (P.info? t).map (·.size) = some n) (cs : List Value) (off : Nat) (hl : off + n ≤ cs.length) (hn : isAggD (D.of d) = false → n = 1) :
    (part t cs.toArray off).run P w = .ok (valAt P t n (cs.drop off)) w := by
  obtain ⟨i, hi, hn'⟩ := Option.map_eq_some_iff.1 hs
  have hag : (isAgg t).run P w = .ok (isAggD (D.of d)) w := by cases d <;> simp [isAgg, run_underlying hd, D.of, isAggD]
  have hsz : (sizeOf t).run P w = .ok n w := by simp [sizeOf, typeInfo, hi, hn']
  by_cases h : isAggD (D.of d) = true
  · have : valAt P t n (cs.drop off) = .agg ((cs.drop off).take n).toArray := by
      unfold valAt; rw [hd]; cases d <;> simp_all [D.of, isAggD]
    simp [part, hag, h, hsz, this]
  · have h' : isAggD (D.of d) = false := by simpa using h
    have h1 := hn h'
    subst h1
    have hlt : off < cs.length := by omega
    have : valAt P t 1 (cs.drop off) = cs[off] := by
      unfold valAt; rw [hd]; cases d <;> simp_all [D.of, isAggD, List.getD]
    simp [part, hag, h', this, hlt]

theorem flat_scal {n : Nat} {t : TypeId} {d : TypeDesc} {ds : List D} (hd : P.underlying t = some d) (h : flatD P n t = some ds) (ha : isAggD (D.of d) = false) : ds = [D.of d] := by
  cases n with
  | zero => simp [flatD] at h
  | succ n =>
    simp only [flatD, hd] at h
    cases d <;> simp_all [D.of, isAggD]

theorem flat_und {n : Nat} {t : TypeId} {ds : List D} (h : flatD P n t = some ds) : ∃ d, P.underlying t = some d := by
  cases n with
  | zero => simp [flatD] at h
  | succ n =>
    simp only [flatD] at h
    cases hd : P.underlying t with
    | none => simp [hd] at h
    | some d => exact ⟨d, rfl⟩

theorem eqArr {elem : TypeId} {n : Nat} {d : Nat} {xs ys : Array Value} (f : Nat → Option Bool) (hf : ∀ (i : Nat) (b : Bool) (w : World), f i = some b → ∃ a c, (part elem xs (i * n)).run P w = .ok a w ∧ (part elem ys (i * n)).run P w = .ok c w ∧ (Op.equalIn d elem a c).run P w = .ok b w) :
    ∀ (l : List Nat) (b : Bool) (w : World), (l.foldr (fun i r => match f i, r with | some x, some y => some (x && y) | _, _ => none) (some true)) = some b →
      (forIn (m := Sem) l ((none, ()) : Option Bool × Unit) (fun i _ => do
        let a ← part elem xs (i * n)
        let c ← part elem ys (i * n)
        let r ← Op.equalIn d elem a c
        if (!r) = true then pure (ForInStep.done (some false, ())) else pure (ForInStep.yield (none, ())))).run P w = .ok ((if b then none else some false), ()) w
  | [], b, w, h => by simp at h; subst h; simp
  | i :: l, b, w, h => by
    simp only [List.foldr_cons] at h
    split at h
    · rename_i x y hx hy
      cases h
      obtain ⟨a, c, h1, h2, h3⟩ := hf i x w hx
      have ih := eqArr f hf l y w hy
      simp only [List.forIn_cons, Sem.run_bind, h1, h2, h3, Result.andThen_ok]
      cases x
      · simp
      · simpa using ih
    · cases h

theorem eqL_nil_iff {l l' : List AV} {b : Bool} (h : eqL l l' = some b) : l.length = l'.length := by
  induction l generalizing l' b with
  | nil => cases l' with
    | nil => rfl
    | cons => simp [eqL] at h
  | cons a l ih => cases l' with
    | nil => simp [eqL] at h
    | cons a' l' =>
      simp only [eqL] at h
      split at h
      · split at h
        · rename_i y hy; simp [ih hy]
        · cases h
      · cases h

theorem tyc_inv {d : D} {v : AV} (h : tyc d v = true) : (∃ k n, d = .int k ∧ v = .int k n) ∨ (∃ b, d = .bool ∧ v = .bool b) ∨ (∃ s, d = .string ∧ v = .str s) := by
  cases d <;> simp [tyc] at h
  · cases v <;> simp [AV.isI] at h
    subst h; exact .inl ⟨_, _, rfl, rfl⟩
  · cases v <;> simp [AV.isB] at h
    exact .inr (.inl ⟨_, rfl, rfl⟩)
  · cases v <;> simp [AV.isS] at h
    exact .inr (.inr ⟨_, rfl, rfl⟩)

/-- '==' of two values of a flat type, cell by cell. -/
theorem eqFlat : ∀ (n d : Nat) (t : TypeId) (ds : List D), flatD P n t = some ds → n ≤ d → ∀ (l l' : List AV) (cs cs' : List Value) (b : Bool) (w : World), RL E l cs → RL E l' cs' → tyL ds (l.take ds.length) = true → tyL ds (l'.take ds.length) = true →
    eqL (l.take ds.length) (l'.take ds.length) = some b → (Op.equalIn d t (valAt P t ds.length cs) (valAt P t ds.length cs')).run P w = .ok b w
  | 0, _, _, _, h, _, _, _, _, _, _, _, _, _, _, _, _ => by simp [flatD] at h
  | n + 1, 0, _, _, _, hd, _, _, _, _, _, _, _, _, _, _, _ => by omega
  | n + 1, d + 1, t, ds, h, hd, l, l', cs, cs', b, w, hr, hr', ht, ht', he => by
    obtain ⟨dd, hu⟩ := flat_und h
    have hfl := h
    simp only [flatD, hu] at h
    cases dd with
    | bool =>
      cases h
      have hl1 := tyL_length ht
      have hl2 := tyL_length ht'
      cases hr with
      | nil => simp at hl1
      | cons hv hr =>
        cases hr' with
        | nil => simp at hl2
        | cons hv' hr' =>
          simp only [List.length_singleton, List.take_succ_cons, List.take_zero, tyL, Bool.and_eq_true] at ht ht'
          rcases tyc_inv ht.1 with ⟨_, _, h1, _⟩ | ⟨x, _, rfl⟩ | ⟨_, h1, _⟩
          · cases h1
          · rcases tyc_inv ht'.1 with ⟨_, _, h1, _⟩ | ⟨y, _, rfl⟩ | ⟨_, h1, _⟩
            · cases h1
            · cases hv.bool_inv; cases hv'.bool_inv
              simp [eqL, eq1] at he
              subst he
              simp [valAt, hu, run_equalIn_bool w d t x y hu]
            · cases h1
          · cases h1
    | string =>
      cases h
      have hl1 := tyL_length ht
      have hl2 := tyL_length ht'
      cases hr with
      | nil => simp at hl1
      | cons hv hr =>
        cases hr' with
        | nil => simp at hl2
        | cons hv' hr' =>
          simp only [List.length_singleton, List.take_succ_cons, List.take_zero, tyL, Bool.and_eq_true] at ht ht'
          rcases tyc_inv ht.1 with ⟨_, _, h1, _⟩ | ⟨_, h1, _⟩ | ⟨x, _, rfl⟩
          · cases h1
          · cases h1
          · rcases tyc_inv ht'.1 with ⟨_, _, h1, _⟩ | ⟨_, h1, _⟩ | ⟨y, _, rfl⟩
            · cases h1
            · cases h1
            · cases hv.str_inv; cases hv'.str_inv
              simp [eqL, eq1] at he
              subst he
              simp [valAt, hu, run_equalIn_string w d t _ _ hu]
    | int k =>
      cases h
      have hl1 := tyL_length ht
      have hl2 := tyL_length ht'
      cases hr with
      | nil => simp at hl1
      | cons hv hr =>
        cases hr' with
        | nil => simp at hl2
        | cons hv' hr' =>
          simp only [List.length_singleton, List.take_succ_cons, List.take_zero, tyL, Bool.and_eq_true] at ht ht'
          rcases tyc_inv ht.1 with ⟨k1, x, h1, rfl⟩ | ⟨_, h1, _⟩ | ⟨_, h1, _⟩
          · cases h1
            rcases tyc_inv ht'.1 with ⟨k2, y, h1, rfl⟩ | ⟨_, h1, _⟩ | ⟨_, h1, _⟩
            · cases h1
              cases hv.int_inv; cases hv'.int_inv
              simp [eqL, eq1] at he
              subst he
              simp [valAt, hu, run_equalIn_int w d t k k x y hu]
            · cases h1
            · cases h1
          · cases h1
          · cases h1
    | array len e =>
      simp only at h
      split at h
      · rename_i es hes
        split at h
        · rename_i hsz
          cases h
          have hlen : (List.replicate len es).flatten.length = len * es.length := by simp
          rw [hlen] at ht ht' he ⊢
          have hl1 := tyL_length ht
          have hl2 := tyL_length ht'
          rw [hlen] at hl1 hl2
          obtain ⟨i0, hi0, hi1⟩ := Option.map_eq_some_iff.1 hsz
          have hsize : ∀ w, (sizeOf e).run P w = .ok es.length w := fun w => by simp [sizeOf, typeInfo, hi0, hi1]
          obtain ⟨de, hde⟩ := flat_und hes
          have e1 : valAt P t (len * es.length) cs = .agg (cs.take (len * es.length)).toArray := by simp [valAt, hu]
          have e2 : valAt P t (len * es.length) cs' = .agg (cs'.take (len * es.length)).toArray := by simp [valAt, hu]
          have hc1 := hr.length
          have hc2 := hr'.length
          simp only [List.length_take] at hl1 hl2
          -- element by element
          have key : ∀ (m k : Nat), k + m = len → ∀ b, eqL ((l.take (len * es.length)).drop (k * es.length)) ((l'.take (len * es.length)).drop (k * es.length)) = some b →
              tyL (List.replicate m es).flatten ((l.take (len * es.length)).drop (k * es.length)) = true → tyL (List.replicate m es).flatten ((l'.take (len * es.length)).drop (k * es.length)) = true →
              (List.range' k m).foldr (fun i r => match (eqL (((l.take (len * es.length)).drop (i * es.length)).take es.length) (((l'.take (len * es.length)).drop (i * es.length)).take es.length)), r with | some x, some y => some (x && y) | _, _ => none) (some true) = some b := by
            intro m
            induction m with
            | zero =>
              intro k hk b hb _ _
              have : k = len := by omega
              subst this
              rw [List.drop_of_length_le (by simp; omega), List.drop_of_length_le (by simp; omega)] at hb
              simp [eqL] at hb
              simp [hb]
            | succ m ih =>
              intro k hk b hb h1 h2
              obtain ⟨b1, b2, h3, h4, h5⟩ := eqL_split (n := es.length) hb
              rw [List.drop_drop, List.drop_drop, show k * es.length + es.length = (k + 1) * es.length by rw [Nat.succ_mul]] at h4
              simp only [List.replicate_succ, List.flatten_cons] at h1 h2
              have h1' := (tyL_append h1).2
              have h2' := (tyL_append h2).2
              rw [List.drop_drop, show k * es.length + es.length = (k + 1) * es.length by rw [Nat.succ_mul]] at h1' h2'
              have := ih (k + 1) (by omega) b2 h4 h1' h2'
              simp only [List.range'_succ, List.foldr_cons, h3, this, h5]
          have hfold := key len 0 (by omega) b (by simpa using he) (by simpa using ht) (by simpa using ht')
          have tyAt : ∀ (i : Nat) (ll : List AV), i < len → tyL (List.replicate len es).flatten ll = true → tyL es ((ll.drop (i * es.length)).take es.length) = true := by
            intro i
            have : ∀ (m i : Nat) (ll : List AV), i < m → tyL (List.replicate m es).flatten ll = true → tyL es ((ll.drop (i * es.length)).take es.length) = true := by
              intro m
              induction m with
              | zero => intro i ll hi; omega
              | succ m ih =>
                intro i ll hi h
                simp only [List.replicate_succ, List.flatten_cons] at h
                obtain ⟨h1, h2⟩ := tyL_append h
                cases i with
                | zero => simpa using h1
                | succ i =>
                  have := ih i _ (by omega) h2
                  rw [List.drop_drop] at this
                  rw [Nat.succ_mul, Nat.add_comm]; exact this
            exact this len i
          have hf := eqArr (P := P) (elem := e) (n := es.length) (d := d) (xs := (cs.take (len * es.length)).toArray) (ys := (cs'.take (len * es.length)).toArray)
            (fun i => if i < len then eqL (((l.take (len * es.length)).drop (i * es.length)).take es.length) (((l'.take (len * es.length)).drop (i * es.length)).take es.length) else none)
            (fun i b w hb => by
              split at hb
              · rename_i hi
                have hfit : i * es.length + es.length ≤ len * es.length := by
                  rw [← Nat.succ_mul]; exact Nat.mul_le_mul_right _ hi
                have hone : isAggD (D.of de) = false → es.length = 1 := fun ha => by rw [flat_scal hde hes ha]; rfl
                refine ⟨_, _, run_part hde hsz _ _ (by simp; omega) hone, run_part hde hsz _ _ (by simp; omega) hone, ?_⟩
                exact eqFlat n d e es hes (by omega) _ _ _ _ b w ((hr.take _).drop _) ((hr'.take _).drop _) (tyAt i _ hi ht) (tyAt i _ hi ht') hb
              · cases hb) (List.range' 0 len) b w (by
              rw [← hfold]
              have : ∀ (ll : List Nat), (∀ i ∈ ll, i < len) → ll.foldr (fun i r => match (if i < len then eqL (((l.take (len * es.length)).drop (i * es.length)).take es.length) (((l'.take (len * es.length)).drop (i * es.length)).take es.length) else none), r with | some x, some y => some (x && y) | _, _ => none) (some true) = ll.foldr (fun i r => match (eqL (((l.take (len * es.length)).drop (i * es.length)).take es.length) (((l'.take (len * es.length)).drop (i * es.length)).take es.length)), r with | some x, some y => some (x && y) | _, _ => none) (some true) := by
                intro ll
                induction ll with
                | nil => intro _; rfl
                | cons i ll ih =>
                  intro h
                  simp only [List.foldr_cons]
                  rw [ih (fun j hj => h j (by simp [hj])), if_pos (h i (by simp))]
              exact this _ (fun i hi => by simp at hi; omega))
          rw [e1, e2]
          simp only [Op.equalIn, Sem.run_bind, run_underlying hu, Result.andThen_ok, hsize, Std.Legacy.Range.forIn_eq_forIn_range']
          have hrange : [:len].size = len := by simp [Std.Legacy.Range.size]
          rw [hrange]
          rw [hf]
          cases b <;> simp
        · cases h
      · cases h
    | struct fs =>
      simp only at h
      split at h
      · cases h
      · rename_i hst
        have hst' : P.stoodInHeld t = false := by simpa using hst
        have e1 : ∀ c, valAt P t ds.length c = .agg (c.take ds.length).toArray := fun c => by simp [valAt, hu]
        rw [e1, e1]
        have hfo : P.underlying t = some (.struct (P.fieldsOf t)) := by simp [Program.fieldsOf, hu]
        have hfe : P.fieldsOf t = fs := by simp [Program.fieldsOf, hu]
        rw [run_equalIn_struct w d t _ _ hfo hst', hfe]
        have hc1 := hr.length
        have hc2 := hr'.length
        have hg1 := tyL_length ht
        have hg2 := tyL_length ht'
        simp only [List.length_take] at hg1 hg2
        have key : ∀ (fl : List Field) (off : Nat) (ds2 : List D) (b : Bool), flatF (flatD P n) (fun t => (P.info? t).map (·.size)) fl off = some ds2 → off + ds2.length = ds.length →
            tyL ds2 ((l.take ds.length).drop off) = true → tyL ds2 ((l'.take ds.length).drop off) = true → eqL ((l.take ds.length).drop off) ((l'.take ds.length).drop off) = some b →
            (Op.eqFields d (cs.take ds.length).toArray (cs'.take ds.length).toArray fl).run P w = .ok b w := by
          intro fl
          induction fl with
          | nil =>
            intro off ds2 b hf ho h1 h2 hb
            simp only [flatF, Option.some.injEq] at hf
            subst hf
            have hl1 := tyL_length h1
            have hl2 := tyL_length h2
            have hx1 : (l.take ds.length).drop off = [] := List.eq_nil_of_length_eq_zero hl1.symm
            have hx2 : (l'.take ds.length).drop off = [] := List.eq_nil_of_length_eq_zero hl2.symm
            rw [hx1, hx2] at hb
            simp [eqL] at hb
            simp [Op.eqFields, hb]
          | cons f fl ih =>
            intro off ds2 b hf ho h1 h2 hb
            simp only [flatF] at hf
            split at hf
            · cases hf
            · rename_i hno
              have hnm : f.name ≠ "_" := fun e => hno (.inl e)
              have hof : f.offset = off := by
                rcases Nat.decEq f.offset off with h | h
                · exact absurd (.inr h) hno
                · exact h
              split at hf
              · rename_i es hes
                split at hf
                · rename_i hsz
                  obtain ⟨ds3, h3, h4⟩ := Option.map_eq_some_iff.1 hf
                  subst h4
                  obtain ⟨b1, b2, h5, h6, h7⟩ := eqL_split (n := es.length) hb
                  obtain ⟨h8, h9⟩ := tyL_append h1
                  obtain ⟨h8', h9'⟩ := tyL_append h2
                  rw [List.drop_drop, List.drop_drop] at h6
                  rw [List.drop_drop] at h9 h9'
                  obtain ⟨de, hde⟩ := flat_und hes
                  have hone : isAggD (D.of de) = false → es.length = 1 := fun ha => by rw [flat_scal hde hes ha]; rfl
                  have hl1 := tyL_length h8
                  have hl2 := tyL_length h8'
                  simp only [List.length_append] at ho
                  have p1 := run_part (w := w) hde hsz (cs.take ds.length) off (by simp; omega) hone
                  have p2 := run_part (w := w) hde hsz (cs'.take ds.length) off (by simp; omega) hone
                  have p3 := eqFlat n d f.type es hes (by omega) _ _ _ _ b1 w ((hr.take ds.length).drop off) ((hr'.take ds.length).drop off) h8 h8' h5
                  have p4 := ih (off + es.length) ds3 b2 h3 (by omega) h9 h9' h6
                  simp only [Op.eqFields, hnm, ne_eq, not_false_eq_true, if_true, Sem.run_bind, hof, p1, p2, p3, Result.andThen_ok]
                  cases b1
                  · simp [h7]
                  · simpa [h7] using p4
                · cases hf
              · cases hf
        exact key fs.toList 0 ds b h (by simp) (by simpa using ht) (by simpa using ht') (by simpa using he)
    | _ => cases h
end

section
variable {C : Ctx} {E : Env} {H : Heap} {w : World}
theorem agg_eq_ok (hT : TyOk C) (hQ : EqOk C) {op : BinOp} {t : TypeId} {x y : Operand} {l l' : List AV} {b : Bool} {cs cs' : List Value} (hok : (C.ty t).ok = true) (he : (C.ty t).eq = true) (h1 : tyL (C.ty t).cds l = true) (h2 : tyL (C.ty t).cds l' = true)
    (hb : eqL l l' = some b) (hr : RL E l cs) (hr' : RL E l' cs') (hop : op = .eql ∨ op = .neq) :
    (do eqGuard op t x y (.agg cs.toArray) (.agg cs'.toArray); binOp op t (.agg cs.toArray) (.agg cs'.toArray)).run C.P w = .ok (.bool (if op = .eql then b else !b)) w := by
  obtain ⟨h3, h4, h5⟩ := hQ t he
  obtain ⟨d, hd, hd2⟩ := und_of hT hok
  have hl1 := tyL_length h1
  have hl2 := tyL_length h2
  have hc1 := hr.length
  have hc2 := hr'.length
  have e := eqFlat (E := E) (P := C.P) 8 10000 t _ h3 (by omega) l l' cs cs' b w hr hr' (by rw [take_all hl1.symm]; exact h1) (by rw [take_all hl2.symm]; exact h2) (by rw [take_all hl1.symm, take_all hl2.symm]; exact hb)
  have v1 : ∀ c : List Value, c.length = (C.ty t).cds.length → valAt C.P t (C.ty t).cds.length c = .agg c.toArray := fun c hc => by
    rw [← hd2] at h5
    unfold valAt; rw [hd]; cases d <;> simp [D.of, isAggD] at h5 <;> simp only <;> rw [take_all hc]
  rw [v1 cs (by omega), v1 cs' (by omega)] at e
  rcases hop with rfl | rfl
  · simp [eqGuard, h4, binOp, Op.equal, Op.maxDepth, e]
  · simp [eqGuard, h4, binOp, Op.equal, Op.maxDepth, e]
end
end Go.Ev
