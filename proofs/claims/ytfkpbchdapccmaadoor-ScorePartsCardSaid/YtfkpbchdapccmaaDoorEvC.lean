/- Evaluator: what an abstract value says of a value in a world; the class of worlds. -/
import Derived.Test.YtfkpbchdapccmaaDoorEvB
namespace Go.Ev

abbrev Gh := Nat → Nat → Option Value

mutual
/-- What a value without blocks of the call's own says; 'G': the cells that nobody will write again. -/
inductive RP (G : Gh) : AV → Value → Prop
  | undef (c : Value) : RP G .undef c
  | bool (b : Bool) : RP G (.bool b) (.bool b)
  | int (k : IntKind) (n : Int) : RP G (.int k n) (.int k n)
  | str (s : List UInt8) : RP G (.str s) (.string ⟨s.toArray⟩)
  | agg {l : List AV} {cs : List Value} : RPL G l cs → RP G (.agg l) (.agg cs.toArray)
  | tup {l : List AV} {cs : List Value} : RPL G l cs → RP G (.tup l) (.tuple cs.toArray)
  | nilp : RP G .nilp (.pointer none)
  | rp {l : List AV} {b o : Nat} : RG G b o l → RP G (.rp l) (.pointer (some ⟨b, o, none⟩))
  | nils : RP G .nils (.slice none 0 0)
  | ro {full : Bool} {len cap b o : Nat} {l : List AV} : RG G b o l → (full = true → cap = len) → len ≤ cap → RP G (.ro full len l) (.slice (some ⟨b, o, none⟩) len cap)
  | fn {f : FuncId} {l l' : List AV} {cs cs' : List Value} : RPL G l cs → RPL G l' cs' → RP G (.fn f l l') (.func (.func f) cs.toArray cs'.toArray)
  | nilf : RP G .nilf .nilFunc
  | nili : RP G .nili .nilIface
  | ifc {t : TypeId} {v : AV} {c : Value} : RP G v c → RP G (.ifc t v) (.iface t c)
inductive RPL (G : Gh) : List AV → List Value → Prop
  | nil : RPL G [] []
  | cons {v : AV} {c : Value} {l : List AV} {cs : List Value} : RP G v c → RPL G l cs → RPL G (v :: l) (c :: cs)
inductive RG (G : Gh) : Nat → Nat → List AV → Prop
  | nil (b o : Nat) : RG G b o []
  | cons {b o : Nat} {v : AV} {c : Value} {l : List AV} : G b o = some c → RP G v c → RG G b (o + 1) l → RG G b o (v :: l)
end

structure Env where
  ρ : List (Option (Nat × Nat))
  G : Gh

/-- The block of an id; an id may be kept for a block that is not there yet. -/
def Env.at (E : Env) (id : Nat) : Option (Nat × Nat) := (E.ρ[id]?).join

theorem Env.at_lt {E : Env} {id : Nat} {x : Nat × Nat} (h : E.at id = some x) : id < E.ρ.length := by
  rcases Nat.lt_or_ge id E.ρ.length with h' | h'
  · exact h'
  · unfold Env.at at h; rw [List.getElem?_eq_none h'] at h; cases h
theorem Env.at_get {E : Env} {id : Nat} {x : Nat × Nat} : E.at id = some x ↔ E.ρ[id]? = some (some x) := by
  unfold Env.at
  cases E.ρ[id]? with
  | none => simp
  | some y => simp

mutual
inductive R (E : Env) : AV → Value → Prop
  | pers {v : AV} {c : Value} : RP E.G v c → R E v c
  | agg {l : List AV} {cs : List Value} : RL E l cs → R E (.agg l) (.agg cs.toArray)
  | tup {l : List AV} {cs : List Value} : RL E l cs → R E (.tup l) (.tuple cs.toArray)
  | own {id off b m : Nat} : E.at id = some (b, m) → R E (.own id off) (.pointer (some ⟨b, off, none⟩))
  | sl {sz id off len cap b m : Nat} {co : Option Nat} : E.at id = some (b, m) → (∀ c, co = some c → cap = c) → len ≤ cap → off + cap * sz ≤ m → R E (.sl sz id off len co) (.slice (some ⟨b, off, none⟩) len cap)
  | fn {f : FuncId} {l l' : List AV} {cs cs' : List Value} : RL E l cs → RL E l' cs' → R E (.fn f l l') (.func (.func f) cs.toArray cs'.toArray)
  | ifc {t : TypeId} {v : AV} {c : Value} : R E v c → R E (.ifc t v) (.iface t c)
inductive RL (E : Env) : List AV → List Value → Prop
  | nil : RL E [] []
  | cons {v : AV} {c : Value} {l : List AV} {cs : List Value} : R E v c → RL E l cs → RL E (v :: l) (c :: cs)
end

def GLe (G G' : Gh) : Prop := ∀ b o c, G b o = some c → G' b o = some c

mutual
theorem RP.mono {G G' : Gh} (h : GLe G G') {v : AV} {c : Value} (r : RP G v c) : RP G' v c :=
  match r with
  | .undef c => .undef c
  | .bool b => .bool b
  | .int k n => .int k n
  | .str s => .str s
  | .agg l => .agg (RPL.mono h l)
  | .tup l => .tup (RPL.mono h l)
  | .nilp => .nilp
  | .rp l => .rp (RG.mono h l)
  | .nils => .nils
  | .ro l f n => .ro (RG.mono h l) f n
  | .fn l l' => .fn (RPL.mono h l) (RPL.mono h l')
  | .nilf => .nilf
  | .nili => .nili
  | .ifc v => .ifc (RP.mono h v)
theorem RPL.mono {G G' : Gh} (h : GLe G G') {v : List AV} {c : List Value} (r : RPL G v c) : RPL G' v c :=
  match r with
  | .nil => .nil
  | .cons a l => .cons (RP.mono h a) (RPL.mono h l)
theorem RG.mono {G G' : Gh} (h : GLe G G') {b o : Nat} {l : List AV} (r : RG G b o l) : RG G' b o l :=
  match r with
  | .nil b o => .nil b o
  | .cons a v l => .cons (h _ _ _ a) (RP.mono h v) (RG.mono h l)
end

structure ELe (E E' : Env) : Prop where
  ρ : ∀ (id : Nat) (x : Nat × Nat), E.at id = some x → E'.at id = some x
  G : GLe E.G E'.G
  len : E.ρ.length ≤ E'.ρ.length
  un : ∀ (id : Nat), id < E.ρ.length → E.at id = none → E'.at id = none

theorem ELe.refl (E : Env) : ELe E E := ⟨fun _ _ h => h, fun _ _ _ h => h, Nat.le_refl _, fun _ _ h => h⟩
theorem ELe.trans {a b c : Env} (h : ELe a b) (k : ELe b c) : ELe a c :=
  ⟨fun i x e => k.ρ _ _ (h.ρ i x e), fun b o c e => k.G _ _ _ (h.G b o c e), Nat.le_trans h.len k.len, fun i hi e => k.un i (Nat.lt_of_lt_of_le hi h.len) (h.un i hi e)⟩

mutual
theorem R.mono {E E' : Env} (h : ELe E E') {v : AV} {c : Value} (r : R E v c) : R E' v c :=
  match r with
  | .pers p => .pers (p.mono h.G)
  | .agg l => .agg (RL.mono h l)
  | .tup l => .tup (RL.mono h l)
  | .own e => .own (h.ρ _ _ e)
  | .sl e a b c => .sl (h.ρ _ _ e) a b c
  | .fn l l' => .fn (RL.mono h l) (RL.mono h l')
  | .ifc v => .ifc (R.mono h v)
theorem RL.mono {E E' : Env} (h : ELe E E') {v : List AV} {c : List Value} (r : RL E v c) : RL E' v c :=
  match r with
  | .nil => .nil
  | .cons a l => .cons (R.mono h a) (RL.mono h l)
end

theorem RPL.rl {E : Env} : ∀ {l : List AV} {cs : List Value}, RPL E.G l cs → RL E l cs
  | _, _, .nil => .nil
  | _, _, .cons a l => .cons (.pers a) (RPL.rl l)

section inv
variable {E : Env} {c : Value}
theorem R.bool_inv {b : Bool} (h : R E (.bool b) c) : c = .bool b := by cases h with | pers h => cases h; rfl
theorem R.int_inv {k : IntKind} {n : Int} (h : R E (.int k n) c) : c = .int k n := by cases h with | pers h => cases h; rfl
theorem R.str_inv {s : List UInt8} (h : R E (.str s) c) : c = .string ⟨s.toArray⟩ := by cases h with | pers h => cases h; rfl
theorem R.agg_inv {l : List AV} (h : R E (.agg l) c) : ∃ cs, c = .agg cs.toArray ∧ RL E l cs := by
  cases h with
  | pers h => cases h with | agg h => exact ⟨_, rfl, h.rl⟩
  | agg h => exact ⟨_, rfl, h⟩
theorem R.tup_inv {l : List AV} (h : R E (.tup l) c) : ∃ cs, c = .tuple cs.toArray ∧ RL E l cs := by
  cases h with
  | pers h => cases h with | tup h => exact ⟨_, rfl, h.rl⟩
  | tup h => exact ⟨_, rfl, h⟩
theorem R.nilp_inv (h : R E .nilp c) : c = .pointer none := by cases h with | pers h => cases h; rfl
theorem R.nils_inv (h : R E .nils c) : c = .slice none 0 0 := by cases h with | pers h => cases h; rfl
theorem R.nilf_inv (h : R E .nilf c) : c = .nilFunc := by cases h with | pers h => cases h; rfl
theorem R.nili_inv (h : R E .nili c) : c = .nilIface := by cases h with | pers h => cases h; rfl
theorem R.own_inv {id off : Nat} (h : R E (.own id off) c) : ∃ b m, E.at id = some (b, m) ∧ c = .pointer (some ⟨b, off, none⟩) := by
  cases h with
  | pers h => cases h
  | own e => exact ⟨_, _, e, rfl⟩
theorem R.rp_inv {l : List AV} (h : R E (.rp l) c) : ∃ b o, c = .pointer (some ⟨b, o, none⟩) ∧ RG E.G b o l := by
  cases h with | pers h => cases h with | rp h => exact ⟨_, _, rfl, h⟩
theorem R.ro_inv {full : Bool} {len : Nat} {l : List AV} (h : R E (.ro full len l) c) : ∃ b o cap, c = .slice (some ⟨b, o, none⟩) len cap ∧ RG E.G b o l ∧ (full = true → cap = len) ∧ len ≤ cap := by
  cases h with | pers h => cases h with | ro h f n => exact ⟨_, _, _, rfl, h, f, n⟩
theorem R.sl_inv {sz id off len : Nat} {co : Option Nat} (h : R E (.sl sz id off len co) c) : ∃ b m cap, E.at id = some (b, m) ∧ c = .slice (some ⟨b, off, none⟩) len cap ∧ (∀ x, co = some x → cap = x) ∧ len ≤ cap ∧ off + cap * sz ≤ m := by
  cases h with
  | pers h => cases h
  | sl e a b c => exact ⟨_, _, _, e, rfl, a, b, c⟩
theorem R.fn_inv {f : FuncId} {l l' : List AV} (h : R E (.fn f l l') c) : ∃ cs cs', c = .func (.func f) cs.toArray cs'.toArray ∧ RL E l cs ∧ RL E l' cs' := by
  cases h with
  | pers h => cases h with | fn h h' => exact ⟨_, _, rfl, h.rl, h'.rl⟩
  | fn h h' => exact ⟨_, _, rfl, h, h'⟩
theorem R.ifc_inv {t : TypeId} {v : AV} (h : R E (.ifc t v) c) : ∃ c', c = .iface t c' ∧ R E v c' := by
  cases h with
  | pers h => cases h with | ifc h => exact ⟨_, rfl, .pers h⟩
  | ifc h => exact ⟨_, rfl, h⟩
end inv

theorem RL.length {E : Env} : ∀ {l : List AV} {cs : List Value}, RL E l cs → l.length = cs.length
  | _, _, .nil => rfl
  | _, _, .cons _ l => by simp [RL.length l]

theorem RL.get {E : Env} : ∀ {l : List AV} {cs : List Value}, RL E l cs → ∀ i, i < l.length → ∃ c, cs[i]? = some c ∧ R E (l.getD i .undef) c
  | _, _, .nil, i, h => by simp at h
  | _, _, .cons a l, 0, _ => ⟨_, rfl, a⟩
  | _, _, .cons a l, i + 1, h => by
    obtain ⟨c, h1, h2⟩ := RL.get l i (by simpa using h)
    exact ⟨c, by simpa using h1, by simpa using h2⟩

theorem RL.append {E : Env} {l l' : List AV} {cs cs' : List Value} (h : RL E l cs) (h' : RL E l' cs') : RL E (l ++ l') (cs ++ cs') := by
  induction l generalizing cs with
  | nil => cases h; exact h'
  | cons v l ih => cases h with | cons a l => exact .cons a (ih l)

theorem RL.set {E : Env} {v : AV} {c : Value} (hv : R E v c) : ∀ {l : List AV} {cs : List Value}, RL E l cs → ∀ i, RL E (l.set i v) (cs.set i c)
  | _, _, .nil, _ => .nil
  | _, _, .cons _ l, 0 => .cons hv l
  | _, _, .cons a l, i + 1 => .cons a (RL.set hv l i)

theorem RL.drop {E : Env} : ∀ {l : List AV} {cs : List Value}, RL E l cs → ∀ i, RL E (l.drop i) (cs.drop i)
  | _, _, h, 0 => h
  | _, _, .nil, _ + 1 => .nil
  | _, _, .cons _ l, i + 1 => RL.drop l i

theorem RL.take {E : Env} : ∀ {l : List AV} {cs : List Value}, RL E l cs → ∀ i, RL E (l.take i) (cs.take i)
  | _, _, _, 0 => by simp; exact .nil
  | _, _, .nil, _ + 1 => .nil
  | _, _, .cons a l, i + 1 => .cons a (RL.take l i)

theorem RG.get {G : Gh} : ∀ {b o : Nat} {l : List AV}, RG G b o l → ∀ i, i < l.length → ∃ c, G b (o + i) = some c ∧ RP G (l.getD i .undef) c
  | _, _, _, .nil _ _, i, h => by simp at h
  | _, _, _, .cons a v l, 0, _ => ⟨_, a, v⟩
  | _, _, _, .cons a v l, i + 1, h => by
    obtain ⟨c, h1, h2⟩ := RG.get l i (by simpa using h)
    exact ⟨c, by rw [← h1]; congr 1; omega, by simpa using h2⟩

theorem RG.drop {G : Gh} : ∀ {b o : Nat} {l : List AV}, RG G b o l → ∀ i, RG G b (o + i) (l.drop i)
  | _, _, _, h, 0 => h
  | _, _, _, .nil _ _, _ + 1 => .nil _ _
  | b, o, _, .cons _ _ l, i + 1 => by
    have := RG.drop l i
    have e : o + 1 + i = o + (i + 1) := by omega
    rw [e] at this
    exact this

theorem RG.take {G : Gh} : ∀ {b o : Nat} {l : List AV}, RG G b o l → ∀ i, RG G b o (l.take i)
  | _, _, _, _, 0 => by simp; exact .nil _ _
  | _, _, _, .nil _ _, _ + 1 => .nil _ _
  | _, _, _, .cons a v l, i + 1 => .cons a v (RG.take l i)

/-! ### The class of worlds -/

def OwnB (E : Env) (H : Heap) (b : Nat) : Prop := ∃ (id : Nat) (blk : Blk) (m : Nat), H[id]? = some (some blk) ∧ E.at id = some (b, m)

structure Inv (C : Ctx) (E : Env) (H : Heap) (w : World) : Prop where
  len : E.ρ.length = H.length
  g : ∀ b o c, E.G b o = some c → w.cell? ⟨b, o, none⟩ = some c
  sep : ∀ b o c, E.G b o = some c → ¬ OwnB E H b
  blk : ∀ (id : Nat) (blk : Blk), H[id]? = some (some blk) → ∃ (b m : Nat) (cs rest : List Value), E.at id = some (b, m) ∧ w.heap[b]? = some (Obj.cells (cs ++ rest).toArray blk.ty (0, 0)) ∧ (cs ++ rest).length = m ∧ RL E blk.cells cs
  inj : ∀ (id id' : Nat) (blk blk' : Blk) (b m m' : Nat), H[id]? = some (some blk) → H[id']? = some (some blk') → E.at id = some (b, m) → E.at id' = some (b, m') → id = id'
  glob : ∀ g l, C.glob g = some l → RG E.G g 0 l

structure Stp (E : Env) (H : Heap) (w : World) (E' : Env) (H' : Heap) (w' : World) : Prop where
  g : GLe E.G E'.G
  gn : ∀ b o c, E'.G b o = some c → E.G b o = some c ∨ w.heap.size ≤ b ∨ OwnB E H b
  own : ∀ b, OwnB E' H' b → OwnB E H b ∨ w.heap.size ≤ b
  unt : ∀ b, b < w.heap.size → ¬ OwnB E H b → w'.heap[b]? = w.heap[b]?
  size : w.heap.size ≤ w'.heap.size
  os : w'.os = w.os
  tape : w'.tape = w.tape
  output : w'.output = w.output

theorem Stp.refl (E : Env) (H : Heap) (w : World) : Stp E H w E H w :=
  ⟨fun _ _ _ h => h, fun _ _ _ h => .inl h, fun _ h => .inl h, fun _ _ _ => rfl, Nat.le_refl _, rfl, rfl, rfl⟩

theorem Stp.trans {E E' E'' : Env} {H H' H'' : Heap} {w w' w'' : World} (h : Stp E H w E' H' w') (k : Stp E' H' w' E'' H'' w'') : Stp E H w E'' H'' w'' where
  g := fun b o c e => k.g _ _ _ (h.g b o c e)
  gn := fun b o c e => by
    rcases k.gn b o c e with h1 | h1 | h1
    · exact h.gn b o c h1
    · exact .inr (.inl (Nat.le_trans h.size h1))
    · rcases h.own b h1 with h2 | h2
      · exact .inr (.inr h2)
      · exact .inr (.inl h2)
  own := fun b e => by
    rcases k.own b e with h1 | h1
    · exact h.own b h1
    · exact .inr (Nat.le_trans h.size h1)
  unt := fun b hb hn => by
    rw [k.unt b (Nat.lt_of_lt_of_le hb h.size) (fun ho => (h.own b ho).elim hn (fun h2 => by omega)), h.unt b hb hn]
  size := Nat.le_trans h.size k.size
  os := k.os.trans h.os
  tape := k.tape.trans h.tape
  output := k.output.trans h.output
end Go.Ev
