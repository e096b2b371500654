/- Evaluator: soundness, part 2: how a world's class goes on: a store, a new block, a new block that is only read, a block given up. -/
import Derived.Test.YtfkpbchdapccmaaDoorEvD
namespace Go.Ev

section
variable {C : Ctx} {E : Env} {H : Heap} {w : World}

theorem heap_setRow_ne {b k : Nat} (cs : Array Value) (h : k ≠ b) : (w.setRow b cs).heap[k]? = w.heap[k]? := by
  unfold World.setRow
  simp [Array.getElem?_modify, Ne.symm h]

theorem size_setRow (b : Nat) (cs : Array Value) : (w.setRow b cs).heap.size = w.heap.size := by
  unfold World.setRow; simp

theorem cell_setRow_ne {b : Nat} {a : Addr} (cs : Array Value) (h : a.block ≠ b) : (w.setRow b cs).cell? a = w.cell? a := by
  unfold World.cell?; rw [heap_setRow_ne cs h]

theorem ownB_set {id b' : Nat} {blk blk' : Blk} (hb : H[id]? = some (some blk)) (h : OwnB E (H.set id (some blk')) b') : OwnB E H b' := by
  obtain ⟨i, bl, m, h1, h2⟩ := h
  by_cases hi : id = i
  · subst hi; exact ⟨id, blk, m, hb, h2⟩
  · rw [List.getElem?_set_ne hi] at h1; exact ⟨i, bl, m, h1, h2⟩

theorem ownB_set' {id b' : Nat} {blk blk' : Blk} (hb : H[id]? = some (some blk)) (h : OwnB E H b') : OwnB E (H.set id (some blk')) b' := by
  obtain ⟨i, bl, m, h1, h2⟩ := h
  by_cases hi : id = i
  · subst hi
    have hlt : id < H.length := by
      rcases Nat.lt_or_ge id H.length with h | h
      · exact h
      · rw [List.getElem?_eq_none h] at hb; cases hb
    exact ⟨id, blk', m, by simp [hlt], h2⟩
  · exact ⟨i, bl, m, by rw [List.getElem?_set_ne hi]; exact h1, h2⟩

/-- A store into a block of the call's own. -/
theorem inv_set (hI : Inv C E H w) {id b m : Nat} {blk : Blk} {cells : List AV} {cs rest : List Value} (hb : H[id]? = some (some blk)) (he : E.at id = some (b, m))
    (hr : RL E cells cs) (hm : (cs ++ rest).length = m) :
    Inv C E (H.set id (some { blk with cells := cells })) (w.setRow b (cs ++ rest).toArray) ∧ Stp E H w E (H.set id (some { blk with cells := cells })) (w.setRow b (cs ++ rest).toArray) := by
  have hown : OwnB E H b := ⟨id, blk, m, hb, he⟩
  have hlt : id < H.length := by
    rcases Nat.lt_or_ge id H.length with h | h
    · exact h
    · rw [List.getElem?_eq_none h] at hb; cases hb
  obtain ⟨b0, m0, cs0, rest0, e0, hh0, hm0, hr0⟩ := hI.blk id blk hb
  rw [he] at e0; cases e0
  refine ⟨⟨by simpa using hI.len, ?_, ?_, ?_, ?_, hI.glob⟩, ⟨fun _ _ _ h => h, fun _ _ _ h => .inl h, fun b' h => .inl (ownB_set hb h), ?_, by rw [size_setRow]; exact Nat.le_refl _, rfl, rfl, rfl⟩⟩
  · intro b' o c hg
    have hne : b' ≠ b := fun e => hI.sep _ _ _ hg (e ▸ hown)
    rw [cell_setRow_ne _ (by exact hne)]; exact hI.g _ _ _ hg
  · intro b' o c hg ho
    exact hI.sep _ _ _ hg (ownB_set hb ho)
  · intro i bl hi
    by_cases e : id = i
    · subst e
      rw [List.getElem?_set_self hlt] at hi
      cases hi
      exact ⟨b, m, cs, rest, he, setRow_heap w b _ _ _ _ hh0, hm, hr⟩
    · rw [List.getElem?_set_ne e] at hi
      obtain ⟨b1, m1, cs1, rest1, e1, hh1, hm1, hr1⟩ := hI.blk i bl hi
      refine ⟨b1, m1, cs1, rest1, e1, ?_, hm1, hr1⟩
      rw [heap_setRow_ne]
      · exact hh1
      · intro hbb; subst hbb; exact e (hI.inj _ _ _ _ _ _ _ hb hi he e1)
  · intro i i' bl bl' b1 m1 m1' hi hi' e1 e1'
    have : ∀ {j : Nat} {x : Blk}, (H.set id (some { blk with cells := cells }))[j]? = some (some x) → ∃ y, H[j]? = some (some y) := fun {j x} hj => by
      by_cases e : id = j
      · subst e; exact ⟨blk, hb⟩
      · rw [List.getElem?_set_ne e] at hj; exact ⟨x, hj⟩
    obtain ⟨y, hy⟩ := this hi
    obtain ⟨y', hy'⟩ := this hi'
    exact hI.inj _ _ _ _ _ _ _ hy hy' e1 e1'
  · intro b' _ hno
    rw [heap_setRow_ne]
    intro e; subst e; exact hno hown

theorem heap_alloc_lt (o : Obj) {k : Nat} (h : k < w.heap.size) : (w.alloc o).heap[k]? = w.heap[k]? := by
  show (w.heap.push o)[k]? = _
  rw [Array.getElem?_push, if_neg (by omega)]
theorem heap_alloc_eq (o : Obj) : (w.alloc o).heap[w.heap.size]? = some o := by
  show (w.heap.push o)[w.heap.size]? = _
  rw [Array.getElem?_push, if_pos rfl]
theorem size_alloc (o : Obj) : (w.alloc o).heap.size = w.heap.size + 1 := by
  show (w.heap.push o).size = _
  simp

theorem lt_of_get {b : Nat} {o : Obj} (h : w.heap[b]? = some o) : b < w.heap.size := (Array.getElem?_eq_some_iff.1 h).1

theorem block_of_cell {b o : Nat} {c : Value} (h : w.cell? ⟨b, o, none⟩ = some c) : b < w.heap.size := by
  unfold World.cell? at h
  split at h
  · rename_i hh; exact lt_of_get hh
  · cases h

theorem cell_alloc_lt (o : Obj) {a : Addr} (h : a.block < w.heap.size) : (w.alloc o).cell? a = w.cell? a := by
  unfold World.cell?; rw [heap_alloc_lt o h]

theorem Inv.own_lt (hI : Inv C E H w) {b : Nat} (h : OwnB E H b) : b < w.heap.size := by
  obtain ⟨id, blk, m, h1, h2⟩ := h
  obtain ⟨b0, m0, cs, rest, e, hh, _⟩ := hI.blk id blk h1
  rw [h2] at e; cases e
  exact lt_of_get hh

/-- The environment with one block of the call's own more. -/
def Env.more (E : Env) (b m : Nat) : Env := { E with ρ := E.ρ ++ [some (b, m)] }

theorem ELe.more (E : Env) (b m : Nat) : ELe E (E.more b m) :=
  ⟨fun id x h => by
    have := Env.at_lt h
    rw [Env.at_get] at h ⊢
    simp [Env.more, List.getElem?_append_left this, h], fun _ _ _ h => h, by simp [Env.more], fun id hi h => by
    unfold Env.at at h ⊢
    simp only [Env.more]
    rw [List.getElem?_append_left hi]; exact h⟩

/-- A new block of the call's own, at block 'b' (its content there already); 'H': what stays. -/
theorem inv_more {w' : World} (hI : Inv C E H w) {blk : Blk} {b m : Nat} {cs rest : List Value}
    (hG : ∀ b' o c, E.G b' o = some c → w'.cell? ⟨b', o, none⟩ = some c)
    (hold : ∀ (id : Nat) (bl : Blk) (b' m' : Nat), H[id]? = some (some bl) → E.at id = some (b', m') → w'.heap[b']? = w.heap[b']? ∧ b' ≠ b)
    (hsep : ∀ o c, E.G b o ≠ some c)
    (hb : w'.heap[b]? = some (.cells (cs ++ rest).toArray blk.ty (0, 0))) (hm : (cs ++ rest).length = m) (hr : RL (E.more b m) blk.cells cs) :
    Inv C (E.more b m) (alloc H blk) w' := by
  have hle := ELe.more E b m
  have hlen := hI.len
  have hget : ∀ {id : Nat} {bl : Blk}, (alloc H blk)[id]? = some (some bl) → (H[id]? = some (some bl) ∧ id < H.length) ∨ (id = H.length ∧ bl = blk) := fun {id bl} h => by
    unfold alloc at h
    rcases Nat.lt_or_ge id H.length with h' | h'
    · rw [List.getElem?_append_left h'] at h; exact .inl ⟨h, h'⟩
    · rw [List.getElem?_append_right h'] at h
      have : id - H.length = 0 := by
        rcases Nat.eq_zero_or_pos (id - H.length) with h0 | h0
        · exact h0
        · rw [List.getElem?_eq_none (by simp; omega)] at h; cases h
      rw [this] at h
      simp at h
      exact .inr ⟨by omega, h.symm⟩
  have hnew : (E.more b m).at H.length = some (b, m) := by rw [Env.at_get]; simp [Env.more, ← hlen]
  have hρ : ∀ {id : Nat} {x : Nat × Nat}, id < H.length → (E.more b m).at id = some x → E.at id = some x := fun {id x} h e => by
    rw [Env.at_get] at e ⊢
    simp only [Env.more] at e
    rwa [List.getElem?_append_left (by omega)] at e
  have hownM : ∀ {b'}, OwnB (E.more b m) (alloc H blk) b' → OwnB E H b' ∨ b' = b := fun {b'} ⟨id, bl, m', h1, h2⟩ => by
    rcases hget h1 with ⟨h3, h4⟩ | ⟨rfl, rfl⟩
    · exact .inl ⟨id, bl, m', h3, hρ h4 h2⟩
    · rw [hnew] at h2; cases h2; exact .inr rfl
  refine ⟨by simp [Env.more, alloc, hlen], hG, ?_, ?_, ?_, fun g l h => hI.glob g l h⟩
  · intro b' o c hg ho
    rcases hownM ho with h | rfl
    · exact hI.sep _ _ _ hg h
    · exact hsep _ _ hg
  · intro id bl h
    rcases hget h with ⟨h1, h2⟩ | ⟨rfl, rfl⟩
    · obtain ⟨b1, m1, cs1, rest1, e1, hh1, hm1, hr1⟩ := hI.blk id bl h1
      exact ⟨b1, m1, cs1, rest1, hle.ρ _ _ e1, by rw [(hold id bl b1 m1 h1 e1).1]; exact hh1, hm1, hr1.mono hle⟩
    · exact ⟨b, m, cs, rest, hnew, hb, hm, hr⟩
  · intro i i' bl bl' b1 m1 m1' hi hi' e1 e1'
    rcases hget hi with ⟨h1, h2⟩ | ⟨rfl, rfl⟩
    · rcases hget hi' with ⟨h1', h2'⟩ | ⟨rfl, rfl⟩
      · exact hI.inj _ _ _ _ _ _ _ h1 h1' (hρ h2 e1) (hρ h2' e1')
      · rw [hnew] at e1'; cases e1'
        exact absurd rfl (hold i bl b m1 h1 (hρ h2 e1)).2
    · rcases hget hi' with ⟨h1', h2'⟩ | ⟨rfl, rfl⟩
      · rw [hnew] at e1; cases e1
        exact absurd rfl (hold i' bl' b m1' h1' (hρ h2' e1')).2
      · rfl

theorem own_more {blk : Blk} {b m b' : Nat} (hlen : E.ρ.length = H.length) (h : OwnB (E.more b m) (alloc H blk) b') : OwnB E H b' ∨ b' = b := by
  obtain ⟨id, bl, m', h1, h2⟩ := h
  unfold alloc at h1
  rcases Nat.lt_or_ge id H.length with h' | h'
  · rw [List.getElem?_append_left h'] at h1
    rw [Env.at_get] at h2
    simp only [Env.more] at h2
    rw [List.getElem?_append_left (by omega)] at h2
    exact .inl ⟨id, bl, m', h1, Env.at_get.2 h2⟩
  · rw [List.getElem?_append_right h'] at h1
    have : id = H.length := by
      rcases Nat.eq_zero_or_pos (id - H.length) with h0 | h0
      · omega
      · rw [List.getElem?_eq_none (by simp; omega)] at h1; cases h1
    subst this
    rw [Env.at_get] at h2
    simp [Env.more, ← hlen] at h2
    exact .inr h2.1.symm

/-- A new block, laid at the heap's end. -/
theorem inv_alloc (hI : Inv C E H w) {blk : Blk} {cs rest : List Value} (hr : RL E blk.cells cs) :
    Inv C (E.more w.heap.size (cs ++ rest).length) (alloc H blk) (w.alloc (.cells (cs ++ rest).toArray blk.ty)) ∧
    Stp E H w (E.more w.heap.size (cs ++ rest).length) (alloc H blk) (w.alloc (.cells (cs ++ rest).toArray blk.ty)) := by
  have hle := ELe.more E w.heap.size (cs ++ rest).length
  refine ⟨inv_more (rest := rest) hI ?_ ?_ ?_ (heap_alloc_eq _) rfl (hr.mono hle), ⟨hle.G, fun _ _ _ h => .inl h, ?_, ?_, by rw [size_alloc]; omega, rfl, rfl, rfl⟩⟩
  · intro b' o c hg
    have h1 := hI.g _ _ _ hg
    rw [cell_alloc_lt _ (block_of_cell h1)]; exact h1
  · intro id bl b' m' h1 h2
    have := hI.own_lt ⟨id, bl, m', h1, h2⟩
    exact ⟨heap_alloc_lt _ this, by omega⟩
  · intro o c hg
    have := block_of_cell (hI.g _ _ _ hg)
    omega
  · intro b' ho
    rcases own_more hI.len ho with h | h
    · exact .inl h
    · exact .inr (by omega)
  · intro b' hb _
    exact heap_alloc_lt _ hb

/-- The ghost cells with one block more. -/
def Env.ghost (E : Env) (b : Nat) (cs : List Value) : Env := { E with G := fun b' o => if b' = b then (match cs[o]? with | some c => some c | none => E.G b' o) else E.G b' o }

theorem RG_ghost {G : Gh} {b : Nat} : ∀ {l : List AV} {cs : List Value} (o : Nat), RPL G l cs → (∀ j x, cs[j]? = some x → G b (o + j) = some x) → RG G b o l
  | _, _, o, .nil, _ => .nil _ _
  | _, _, o, .cons (cs := cs) a l, h => .cons (h 0 _ rfl) a (RG_ghost (o + 1) l fun j x hx => by rw [← h (j + 1) x (by simpa using hx)]; congr 1; omega)

theorem GLe.ghost (E : Env) (b : Nat) (cs : List Value) (h : ∀ o c, E.G b o ≠ some c) : GLe E.G (E.ghost b cs).G := by
  intro b' o c hg
  simp only [Env.ghost]
  split
  · rename_i e; subst e; exact absurd hg (h _ _)
  · exact hg

theorem ELe.ghost (E : Env) (b : Nat) (cs : List Value) (h : ∀ o c, E.G b o ≠ some c) : ELe E (E.ghost b cs) := ⟨fun _ _ h => h, GLe.ghost E b cs h, Nat.le_refl _, fun _ _ h => h⟩

/-- A new block at the heap's end that nobody will write. -/
theorem inv_ghost (hI : Inv C E H w) {ty : TypeId} {l : List AV} {cs rest : List Value} {fr : Nat × Nat} (hr : RPL E.G l cs) :
    Inv C (E.ghost w.heap.size cs) H (w.alloc (.cells (cs ++ rest).toArray ty fr)) ∧
    Stp E H w (E.ghost w.heap.size cs) H (w.alloc (.cells (cs ++ rest).toArray ty fr)) ∧ RG (E.ghost w.heap.size cs).G w.heap.size 0 l ∧ ELe E (E.ghost w.heap.size cs) := by
  have hno : ∀ o c, E.G w.heap.size o ≠ some c := fun o c hg => by
    have := block_of_cell (hI.g _ _ _ hg)
    omega
  have hle := ELe.ghost E w.heap.size cs hno
  have hown : ∀ {b}, OwnB (E.ghost w.heap.size cs) H b → OwnB E H b := fun {b} ⟨i, bl, m, h1, h2⟩ => ⟨i, bl, m, h1, h2⟩
  have hgn : ∀ b o c, (E.ghost w.heap.size cs).G b o = some c → E.G b o = some c ∨ (b = w.heap.size ∧ cs[o]? = some c) := by
    intro b o c hg
    simp only [Env.ghost] at hg
    split at hg
    · rename_i e; subst e
      split at hg
      · rename_i x hx; cases hg; exact .inr ⟨rfl, hx⟩
      · exact absurd hg (hno _ _)
    · exact .inl hg
  refine ⟨⟨hI.len, ?_, ?_, ?_, fun i i' bl bl' b m m' h1 h2 h3 h4 => hI.inj i i' bl bl' b m m' h1 h2 h3 h4, fun g l h => (hI.glob g l h).mono hle.G⟩, ⟨hle.G, ?_, fun b h => .inl (hown h), ?_, by rw [size_alloc]; omega, rfl, rfl, rfl⟩, ?_, hle⟩
  · intro b o c hg
    rcases hgn b o c hg with h | ⟨rfl, h⟩
    · have h1 := hI.g _ _ _ h
      rw [cell_alloc_lt _ (block_of_cell h1)]; exact h1
    · rw [cell_of (heap_alloc_eq _)]
      have ho : o < cs.length := by
        rcases Nat.lt_or_ge o cs.length with h' | h'
        · exact h'
        · rw [List.getElem?_eq_none h'] at h; cases h
      rw [List.getElem?_append_left ho]; exact h
  · intro b o c hg ho
    rcases hgn b o c hg with h | ⟨rfl, _⟩
    · exact hI.sep _ _ _ h (hown ho)
    · have := hI.own_lt (hown ho); omega
  · intro id bl h
    obtain ⟨b1, m1, cs1, rest1, e1, hh1, hm1, hr1⟩ := hI.blk id bl h
    exact ⟨b1, m1, cs1, rest1, e1, by rw [heap_alloc_lt _ (lt_of_get hh1)]; exact hh1, hm1, hr1.mono hle⟩
  · intro b o c hg
    rcases hgn b o c hg with h | ⟨rfl, _⟩
    · exact .inl h
    · exact .inr (.inl (Nat.le_refl _))
  · intro b hb _; exact heap_alloc_lt _ hb
  · refine RG_ghost 0 (hr.mono hle.G) fun j x hx => ?_
    simp [Env.ghost, hx]

/-- A draw of the tape. -/
theorem inv_drawn (hI : Inv C E H w) (n : Nat) : Inv C E H { w with drawn := n } ∧ Stp E H w E H { w with drawn := n } :=
  ⟨⟨hI.len, hI.g, hI.sep, hI.blk, hI.inj, hI.glob⟩, ⟨fun _ _ _ h => h, fun _ _ _ h => .inl h, fun _ h => .inl h, fun _ _ _ => rfl, Nat.le_refl _, rfl, rfl, rfl⟩⟩

/-- A block given up. -/
theorem inv_none (hI : Inv C E H w) (id : Nat) : Inv C E (H.set id none) w ∧ Stp E H w E (H.set id none) w := by
  have hget : ∀ {j : Nat} {x : Blk}, (H.set id none)[j]? = some (some x) → H[j]? = some (some x) := fun {j x} hj => by
    by_cases e : id = j
    · subst e
      rw [List.getElem?_set] at hj
      simp at hj
    · rwa [List.getElem?_set_ne e] at hj
  have hown : ∀ {b}, OwnB E (H.set id none) b → OwnB E H b := fun {b} ⟨i, bl, m, h1, h2⟩ => ⟨i, bl, m, hget h1, h2⟩
  exact ⟨⟨by simpa using hI.len, hI.g, fun b o c hg ho => hI.sep b o c hg (hown ho), fun i bl h => hI.blk i bl (hget h), fun i i' bl bl' b m m' h1 h2 => hI.inj i i' bl bl' b m m' (hget h1) (hget h2), hI.glob⟩,
    ⟨fun _ _ _ h => h, fun _ _ _ h => .inl h, fun b h => .inl (hown h), fun _ _ _ => rfl, Nat.le_refl _, rfl, rfl, rfl⟩⟩
end
end Go.Ev
