/- Evaluator: soundness, part 12: what is dropped and numbered anew. -/
import Derived.Test.YtfkpbchdapccmaaDoorEvN
import Derived.LoopN
namespace Go.Ev

section
variable {C : Ctx} {E : Env} {H : Heap} {w : World}

mutual
theorem th_ok {E E' : Env} {f : Nat → Option Nat} (hf : ∀ id j x, f id = some j → E.at id = some x → E'.at j = some x) (hG : GLe E.G E'.G) {v : AV} {c : Value} (h : R E v c) : R E' (th f v) c :=
  match h with
  | .pers p => by
    have key : ∀ {v : AV}, RP E.G v c → (∀ {v : AV} {c : Value}, RP E.G v c → RP E'.G (th f v) c) → R E' (th f v) c := fun p k => .pers (k p)
    exact key p (fun p => th_rp hG p)
  | .agg l => by simp only [th]; exact .agg (thL_ok hf hG l)
  | .tup l => by simp only [th]; exact .tup (thL_ok hf hG l)
  | .own e => by
    simp only [th]
    split
    · rename_i j hj; exact .own (hf _ _ _ hj e)
    · exact .pers (.undef _)
  | .sl e a b d => by
    simp only [th]
    split
    · rename_i j hj; exact .sl (hf _ _ _ hj e) a b d
    · exact .pers (.undef _)
  | .fn l l' => by simp only [th]; exact .fn (thL_ok hf hG l) (thL_ok hf hG l')
  | .ifc v => by simp only [th]; exact .ifc (th_ok hf hG v)
theorem thL_ok {E E' : Env} {f : Nat → Option Nat} (hf : ∀ id j x, f id = some j → E.at id = some x → E'.at j = some x) (hG : GLe E.G E'.G) {v : List AV} {c : List Value} (h : RL E v c) : RL E' (thL f v) c :=
  match h with
  | .nil => by simp only [thL]; exact .nil
  | .cons a l => by simp only [thL]; exact .cons (th_ok hf hG a) (thL_ok hf hG l)
theorem th_rp {f : Nat → Option Nat} {G G' : Gh} (hG : GLe G G') {v : AV} {c : Value} (h : RP G v c) : RP G' (th f v) c :=
  match h with
  | .undef c => by simp only [th]; exact .undef c
  | .bool b => by simp only [th]; exact .bool b
  | .int k n => by simp only [th]; exact .int k n
  | .str s => by simp only [th]; exact .str s
  | .agg l => by simp only [th]; exact .agg (thL_rp hG l)
  | .tup l => by simp only [th]; exact .tup (thL_rp hG l)
  | .nilp => by simp only [th]; exact .nilp
  | .rp l => by simp only [th]; exact .rp (l.mono hG)
  | .nils => by simp only [th]; exact .nils
  | .ro l a b => by simp only [th]; exact .ro (l.mono hG) a b
  | .fn l l' => by simp only [th]; exact .fn (thL_rp hG l) (thL_rp hG l')
  | .nilf => by simp only [th]; exact .nilf
  | .nili => by simp only [th]; exact .nili
  | .ifc v => by simp only [th]; exact .ifc (th_rp hG v)
theorem thL_rp {f : Nat → Option Nat} {G G' : Gh} (hG : GLe G G') {v : List AV} {c : List Value} (h : RPL G v c) : RPL G' (thL f v) c :=
  match h with
  | .nil => by simp only [thL]; exact .nil
  | .cons a l => by simp only [thL]; exact .cons (th_rp hG a) (thL_rp hG l)
end

theorem thMap_ok {E E' : Env} {f : Nat → Option Nat} (hf : ∀ id j x, f id = some j → E.at id = some x → E'.at j = some x) (hG : GLe E.G E'.G) : ∀ {v : List AV} {c : List Value}, RL E v c → RL E' (v.map (th f)) c
  | _, _, .nil => .nil
  | _, _, .cons a l => .cons (th_ok hf hG a) (thMap_ok hf hG l)

theorem look_map (g : AV → AV) (hg : g .undef = .undef) (e : Fr) (t : Tmp) : look (e.map fun p => (p.1, g p.2)) t = g (look e t) := by
  induction e with
  | nil => simp [look, hg]
  | cons p e ih =>
    simp only [List.map_cons, look]
    cases hb : Nat.beq p.1 t
    · exact ih
    · rfl

structure PLe (m : Nat) (E E' : Env) : Prop where
  ρ : ∀ (id : Nat) (x : Nat × Nat), id < m → E.at id = some x → E'.at id = some x
  G : GLe E.G E'.G
  len : m ≤ E.ρ.length → m ≤ E'.ρ.length
  un : ∀ (id : Nat), id < m → id < E.ρ.length → E.at id = none → E'.at id = none

theorem PLe.refl (m : Nat) (E : Env) : PLe m E E := ⟨fun _ _ _ h => h, fun _ _ _ h => h, fun h => h, fun _ _ _ h => h⟩
theorem PLe.trans {m : Nat} {a b c : Env} (hm : m ≤ a.ρ.length) (h : PLe m a b) (k : PLe m b c) : PLe m a c :=
  ⟨fun i x hi e => k.ρ i x hi (h.ρ i x hi e), fun _ _ _ e => k.G _ _ _ (h.G _ _ _ e), fun h' => k.len (h.len h'), fun i hi hl e => k.un i hi (by have := h.len hm; omega) (h.un i hi hl e)⟩
theorem ELe.ple {E E' : Env} (h : ELe E E') (m : Nat) : PLe m E E' := ⟨fun id x _ e => h.ρ id x e, h.G, fun h' => Nat.le_trans h' h.len, fun id _ hl e => h.un id hl e⟩
theorem PLe.ele {m : Nat} {E E' : Env} (h : PLe m E E') (hm : E.ρ.length = m) : ELe E E' :=
  ⟨fun id x hx => h.ρ id x (by have := Env.at_lt hx; omega) hx, h.G, by have := h.len (by omega); omega, fun id hi e => h.un id (by omega) hi e⟩

theorem okL_spec {m : Nat} : ∀ {l : List Nat}, okL m l = true → (∀ id ∈ l, m ≤ id) ∧ (∀ (i j : Nat) (x : Nat), l[i]? = some x → l[j]? = some x → i = j)
  | [], _ => ⟨by simp, by simp⟩
  | id :: r, h => by
    simp only [okL, Bool.and_eq_true, Nat.ble_eq, Bool.not_eq_true'] at h
    obtain ⟨⟨h1, h2⟩, h3⟩ := h
    obtain ⟨h4, h5⟩ := okL_spec h3
    have hni : id ∉ r := by simpa using h2
    refine ⟨fun x hx => ?_, fun i j x hi hj => ?_⟩
    · rcases List.mem_cons.1 hx with rfl | hx
      · exact h1
      · exact h4 x hx
    · cases i with
      | zero =>
        cases j with
        | zero => rfl
        | succ j =>
          simp at hi hj
          subst hi
          exact absurd (List.mem_of_getElem? hj) hni
      | succ i =>
        cases j with
        | zero =>
          simp at hi hj
          subst hj
          exact absurd (List.mem_of_getElem? hi) hni
        | succ j =>
          simp at hi hj
          rw [h5 i j x hi hj]

theorem gc_ok {st : St} {a : Act} (hI : Inv C E st.H w) (hf : FrR E st.e a) (hm : st.m ≤ st.H.length) : ∃ E', PLe st.m E E' ∧ Inv C E' (gc st).H w ∧ Stp E st.H w E' (gc st).H w ∧ FrR E' (gc st).e a ∧ (gc st).m = st.m ∧ st.m ≤ (gc st).H.length := by
  unfold gc
  cases h1 : Nat.ble st.H.length st.m
  rotate_left
  · exact ⟨E, PLe.refl _ _, hI, Stp.refl _ _ _, hf, rfl, hm⟩
  cases h2 : okL st.m (gcR st)
  · exact ⟨E, PLe.refl _ _, hI, Stp.refl _ _ _, hf, rfl, hm⟩
  simp only [cond_true, cond_false]
  obtain ⟨hge, hnd⟩ := okL_spec h2
  generalize hl : gcR st = l at *
  have hlen := hI.len
  let E' : Env := { E with ρ := E.ρ.take st.m ++ l.map fun id => E.ρ.getD id none }
  have htl : (E.ρ.take st.m).length = st.m := by simp; omega
  have hρ1 : ∀ id, id < st.m → E'.at id = E.at id := fun id h => by
    show ((E.ρ.take st.m ++ _)[id]?).join = (E.ρ[id]?).join
    rw [List.getElem?_append_left (by omega), List.getElem?_take_of_lt h]
  have hρ2 : ∀ (i id : Nat) (x : Nat × Nat), l[i]? = some id → E.at id = some x → E'.at (st.m + i) = some x := fun i id x h hx => by
    rw [Env.at_get] at hx ⊢
    show (E.ρ.take st.m ++ _)[st.m + i]? = _
    rw [List.getElem?_append_right (by omega), htl, Nat.add_sub_cancel_left, List.getElem?_map, h]
    simp [List.getD, hx]
  have hρ3 : ∀ (i id : Nat) (x : Nat × Nat) (blk : Blk), l[i]? = some id → st.H[id]? = some (some blk) → E'.at (st.m + i) = some x → E.at id = some x := fun i id x blk h hb hx => by
    obtain ⟨b, m, _, _, h5, _⟩ := hI.blk id blk hb
    rw [hρ2 i id _ h h5] at hx
    rw [h5]; exact hx
  have hren : ∀ (id j : Nat) (x : Nat × Nat), ren st.m l id = some j → E.at id = some x → E'.at j = some x := fun id j x h hx => by
    unfold ren at h
    cases hb : Nat.ble st.m id
    · rw [hb] at h
      simp only [cond_false, Option.some.injEq] at h
      subst h
      have : id < st.m := by
        rcases Nat.lt_or_ge id st.m with h | h
        · exact h
        · rw [show Nat.ble st.m id = true by rw [Nat.ble_eq]; exact h] at hb; cases hb
      rw [hρ1 id this]; exact hx
    · rw [hb] at h
      simp only [cond_true] at h
      obtain ⟨i, hi, rfl⟩ := Option.map_eq_some_iff.1 h
      have : l[i]? = some id := by
        have := List.idxOf?_eq_some_iff.1 hi
        obtain ⟨h1, h2, _⟩ := this
        rw [List.getElem?_eq_getElem h1]; simpa using h2
      exact hρ2 i id x this hx
  have hG : GLe E.G E'.G := fun _ _ _ h => h
  -- the blocks that are left
  have hget : ∀ (j : Nat) (bl : Blk), (((st.H.take st.m).map (thB (ren st.m l)) ++ l.map (thAt (ren st.m l) st.H)) : Heap)[j]? = some (some bl) →
      ∃ id blk, st.H[id]? = some (some blk) ∧ bl = { blk with cells := blk.cells.map (th (ren st.m l)) } ∧ ((j < st.m ∧ id = j) ∨ (∃ i, j = st.m + i ∧ l[i]? = some id)) := by
    intro j bl h
    have htH : ((st.H.take st.m).map (thB (ren st.m l))).length = st.m := by simp; omega
    rcases Nat.lt_or_ge j st.m with hj | hj
    · rw [List.getElem?_append_left (by omega), List.getElem?_map, List.getElem?_take_of_lt hj] at h
      obtain ⟨ob, ho, h⟩ := Option.map_eq_some_iff.1 h
      cases ob with
      | none => simp [thB] at h
      | some blk =>
        simp only [thB, Option.some.injEq] at h
        exact ⟨j, blk, ho, h.symm, .inl ⟨hj, rfl⟩⟩
    · rw [List.getElem?_append_right (by omega), htH, List.getElem?_map] at h
      obtain ⟨id, hid, h⟩ := Option.map_eq_some_iff.1 h
      unfold thAt at h
      split at h
      · rename_i ob ho
        cases ob with
        | none => simp [thB] at h
        | some blk =>
          simp only [thB, Option.some.injEq] at h
          exact ⟨id, blk, ho, h.symm, .inr ⟨j - st.m, by omega, hid⟩⟩
      · cases h
  have hback : ∀ (j id : Nat) (blk : Blk) (x : Nat × Nat), st.H[id]? = some (some blk) → ((j < st.m ∧ id = j) ∨ (∃ i, j = st.m + i ∧ l[i]? = some id)) → E'.at j = some x → E.at id = some x := by
    intro j id blk x hb hc hx
    rcases hc with ⟨h, rfl⟩ | ⟨i, rfl, hi⟩
    · rw [← hρ1 _ h]; exact hx
    · exact hρ3 i id x blk hi hb hx
  have hown : ∀ {b}, OwnB E' ((st.H.take st.m).map (thB (ren st.m l)) ++ l.map (thAt (ren st.m l) st.H)) b → OwnB E st.H b := fun {b} ⟨j, bl, m, h1, h2⟩ => by
    obtain ⟨id, blk, h3, _, h4⟩ := hget j bl h1
    exact ⟨id, blk, m, h3, hback j id blk _ h3 h4 h2⟩
  refine ⟨E', ⟨fun id x hi e => by rw [hρ1 id hi]; exact e, hG, fun _ => ?_, fun id hi _ e => by rw [hρ1 id hi]; exact e⟩, ⟨?_, hI.g, fun b o c hg ho => hI.sep b o c hg (hown ho), ?_, ?_, hI.glob⟩, ⟨hG, fun _ _ _ h => .inl h, fun b h => .inl (hown h), fun _ _ _ => rfl, Nat.le_refl _, rfl, rfl, rfl⟩, ?_, by trivial, ?_⟩
  · show _ ≤ (E.ρ.take st.m ++ _).length
    simp; omega
  · show (E.ρ.take st.m ++ _).length = _
    simp; omega
  · intro j bl h
    obtain ⟨id, blk, h3, rfl, h4⟩ := hget j bl h
    obtain ⟨b, m, cs, rest, h5, h6, h7, h8⟩ := hI.blk id blk h3
    refine ⟨b, m, cs, rest, ?_, h6, h7, thMap_ok hren hG h8⟩
    rcases h4 with ⟨h9, rfl⟩ | ⟨i, rfl, hi⟩
    · rw [hρ1 _ h9]; exact h5
    · exact hρ2 i id _ hi h5
  · intro j j' bl bl' b m m' h1 h2 h3 h4
    obtain ⟨id, blk, g1, _, g2⟩ := hget j bl h1
    obtain ⟨id', blk', g1', _, g2'⟩ := hget j' bl' h2
    have e := hI.inj id id' blk blk' b m m' g1 g1' (hback j id blk _ g1 g2 h3) (hback j' id' blk' _ g1' g2' h4)
    subst e
    rcases g2 with ⟨h9, rfl⟩ | ⟨i, rfl, hi⟩
    · rcases g2' with ⟨h9', e⟩ | ⟨i', rfl, hi'⟩
      · exact e
      · have := hge _ (List.mem_of_getElem? hi'); omega
    · rcases g2' with ⟨h9', rfl⟩ | ⟨i', rfl, hi'⟩
      · have := hge _ (List.mem_of_getElem? hi); omega
      · rw [hnd i i' _ hi hi']
  · intro t
    rw [look_map _ (by simp [th])]
    exact th_ok hren hG (hf t)
  · simp; omega
end
end Go.Ev
