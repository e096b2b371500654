/- Evaluator: soundness, part 13: what an operation touches. -/
import Derived.Test.YtfkpbchdapccmaaDoorEvO
import Derived.Still
namespace Go.Ev

theorem opnds_congr {C : Ctx} {e e' : Fr} {l : Array Operand} (h : ∀ x ∈ l, opnd C e x = opnd C e' x) : opnds C e l = opnds C e' l :=
  List.map_congr_left fun x hx => h x (Array.mem_toList_iff.1 hx)

theorem omap_congr {C : Ctx} {e e' : Fr} {l : Option Operand} (h : ∀ x ∈ l.toArray, opnd C e x = opnd C e' x) : l.map (opnd C e) = l.map (opnd C e') := by
  cases l with
  | none => rfl
  | some x => simp [h x (by simp)]

theorem parts_congr {C : Ctx} {e e' : Fr} {l : Array (Nat × Operand)} (h : ∀ x ∈ (l.toList.map (·.2)).toArray, opnd C e x = opnd C e' x) :
    l.toList.map (fun p => (p.1, opnd C e p.2)) = l.toList.map (fun p => (p.1, opnd C e' p.2)) :=
  List.map_congr_left fun p hp => by rw [h p.2 (by simpa using ⟨p.1, by simpa using hp⟩)]

theorem evOp_congr {C : Ctx} {r : EvT} {draw : Bool} {e e' : Fr} {H : Heap} {o : Oper} (h : ∀ x ∈ o.op.operands, opnd C e x = opnd C e' x) : evOp C r draw e H o = evOp C r draw e' H o := by
  obtain ⟨dst, op, type, pos, after, guard⟩ := o
  unfold evOp
  cases op <;> simp only [Op.operands] at h <;> try rfl
  case move x => simp only [h x (by simp)]
  case assign x => simp only [h x (by simp)]
  case pick c a b => simp only [h c (by simp), h a (by simp), h b (by simp)]
  case box t x => simp only [h x (by simp)]
  case build t ps => simp only [parts_congr h]
  case buildSlice t n ps => simp only [parts_congr h]
  case load t x => simp only [h x (by simp)]
  case store t a x => simp only [h a (by simp), h x (by simp)]
  case nilCheck x => simp only [h x (by simp)]
  case unOp o t x => simp only [h x (by simp)]
  case binOp o t x y z => simp only [h x (by simp), h y (by simp)]
  case convert s d x => simp only [h x (by simp)]
  case makeFunc f a b =>
    cases f <;> try rfl
    simp only [opnds_congr fun x hx => h x (Array.mem_append.2 (.inl hx)), opnds_congr fun x hx => h x (Array.mem_append.2 (.inr hx))]
  case makeSlice t l c => simp only [h l (by simp), h c (by simp)]
  case slice t x l hi m =>
    simp only [h x (by simp), omap_congr (l := l) fun x hx => h x (by simp only [Array.mem_append]; exact .inl (.inl (.inr hx))),
      omap_congr (l := hi) fun x hx => h x (by simp only [Array.mem_append]; exact .inl (.inr hx)), omap_congr (l := m) fun x hx => h x (by simp only [Array.mem_append]; exact .inr hx)]
  case fieldAddr t x i => simp only [h x (by simp)]
  case field t x i => simp only [h x (by simp)]
  case indexAddr t x i => simp only [h x (by simp), h i (by simp)]
  case index t x i => simp only [h x (by simp), h i (by simp)]
  case extract t i => simp only [h t (by simp)]
  case call c =>
    have ha : opnds C e c.args = opnds C e' c.args := opnds_congr fun x hx => h x (by simp [Call.operands, hx])
    simp only [ha]
    cases hc : c.callee with
    | value f =>
      have hf : opnd C e f = opnd C e' f := h f (by simp [Call.operands, hc])
      cases f <;> first | rfl | simp only [hf]
    | invoke r m => rfl
    | builtin b => cases b <;> rfl

/-! ### What an operation has to do with the heap -/
def pureOp : Op → Bool
  | .move _ | .assign _ | .pick .. | .build .. | .nilCheck _ | .binOp .. | .unOp .. | .makeFunc .. | .fieldAddr .. | .field .. | .indexAddr .. | .index .. | .extract .. | .box .. | .buildSlice .. | .makeSlice .. => true
  | .call c => match c.callee with
    | .builtin .append => false
    | _ => true
  | _ => false
def writeOp : Op → Bool
  | .store .. => true
  | _ => false
def heapApart (o o' : Op) : Bool := pureOp o || pureOp o' || (!writeOp o && !writeOp o')

theorem withH_run {H : Heap} {t : T AV} {v : AV} {H' : Heap} (h : (withH H t).run = some (v, H')) : H' = H ∧ ∀ H2, (withH H2 t).run = some (v, H2) := by
  obtain ⟨x, h1, h2⟩ := T.of_bind h
  cases Option.some.inj h2
  exact ⟨rfl, fun H2 => by unfold withH; rw [T.run_bind, h1]; rfl⟩

/-- The same tree over every heap. -/
def Same (t : Heap → T (AV × Heap)) : Prop := ∀ H v H', (t H).run = some (v, H') → H' = H ∧ ∀ H2, (t H2).run = some (v, H2)

theorem Same.leaf (v : AV) : Same fun H => .leaf (v, H) := fun H v' H' h => by cases Option.some.inj h; exact ⟨rfl, fun _ => rfl⟩
theorem Same.fail : Same fun _ => .fail := fun H v H' h => by simp [T.run] at h
theorem Same.withH (t : T AV) : Same fun H => withH H t := fun _ _ _ h => withH_run h
theorem T.run_chk {α : Type} {b : Bool} {t : T α} (hb : b = true) : (T.chk b t).run = t.run := by subst hb; rfl
theorem Same.chk {b : Bool} {t : Heap → T (AV × Heap)} (h : Same t) : Same fun H => .chk b (t H) := fun H v H' hr => by
  obtain ⟨hb, hr⟩ := T.of_chk hr
  obtain ⟨h1, h2⟩ := h H v H' hr
  exact ⟨h1, fun H2 => by rw [T.run_chk hb]; exact h2 H2⟩
theorem Same.br {b : Bool} {t t' : Heap → T (AV × Heap)} (h : Same t) (h' : Same t') : Same fun H => .br b (t H) (t' H) := fun H v H' hr => by
  cases b
  · exact h' H v H' hr
  · exact h H v H' hr
theorem Same.bind {α : Type} {t : T α} {k : Heap → α → T (AV × Heap)} (h : ∀ a, Same fun H => k H a) : Same fun H => t.bind (k H) := fun H v H' hr => by
  obtain ⟨a, h1, h2⟩ := T.of_bind hr
  obtain ⟨h3, h4⟩ := h a H v H' h2
  exact ⟨h3, fun H2 => by rw [T.run_bind, h1]; exact h4 H2⟩

theorem callA_same {C : Ctx} {r : EvT} {f : FuncId} {args : List AV} : Same fun H => callA C r true H f args := by
  unfold callA
  split
  · exact .chk (.bind fun a => .chk (.leaf _))
  · split
    · exact .bind fun a => .chk (.leaf _)
    · exact .fail

theorem evOp_same {C : Ctx} {r : EvT} {e : Fr} {o : Oper} (hp : pureOp o.op = true) : Same fun H => evOp C r true e H o := by
  unfold evOp
  split
  · exact .leaf _
  · exact .leaf _
  · split
    · exact .br (.leaf _) (.leaf _)
    · exact .fail
  · exact .fail
  · exact .chk (.leaf _)
  · exact .withH _
  · split
    · exact .bind fun a => .chk (.chk (.leaf _))
    · exact .fail
  · rename_i ho; rw [ho] at hp; cases hp
  · rename_i ho; rw [ho] at hp; cases hp
  · split <;> first | exact .leaf _ | exact .fail
  · split <;> exact .withH _
  · exact .withH _
  · rename_i ho; rw [ho] at hp; cases hp
  · exact .leaf _
  · split
    · exact .chk (.chk (.leaf _))
    · exact .fail
  · rename_i ho; rw [ho] at hp; cases hp
  · split
    · split <;> first | exact .chk (.leaf _) | exact .fail
    · exact .fail
  · split
    · split
      · exact .chk (.withH _)
      · exact .fail
    · exact .fail
  · split <;> first | exact .chk (.leaf _) | exact .fail
  · split <;> first | exact .chk (.leaf _) | exact .chk (.withH _) | exact .fail
  · split
    · exact .chk (.leaf _)
    · exact .fail
  · rename_i c ho
    split
    · exact callA_same
    · split
      · exact callA_same
      · exact .fail
    · split
      · exact .withH _
      · exact .fail
    · rename_i hc
      rw [ho] at hp
      simp only [pureOp, hc] at hp
      cases hp
    · split
      · rename_i hd _
        cases hd
      · exact .fail
    · split
      · exact .withH _
      · exact .fail
    · split
      · exact .withH _
      · exact .fail
    · exact .fail
  · exact .fail

/-! ### What an operation of a drawn row touches -/
def upd : Option (Nat × Blk) → Heap → Heap
  | none, H => H
  | some (id, b), H => H.set id (some b)

/-- Two heaps that agree on some blocks. -/
def AgreeOn (l : List Nat) (K H : Heap) : Prop := ∀ id ∈ l, K[id]? = H[id]?

theorem hget_agree {l : List Nat} {K H : Heap} (h : AgreeOn l K H) {id : Nat} (hm : id ∈ l) : hget K id = hget H id := by
  unfold hget; rw [h id hm]

theorem cellsOf_agree {l : List Nat} {K H : Heap} (h : AgreeOn l K H) {x : AV} (hm : ∀ id ∈ idsOf x, id ∈ l) (sz : Nat) : cellsOf K sz x = cellsOf H sz x := by
  cases x <;> try rfl
  rename_i z id off len cap
  simp only [cellsOf]
  rw [hget_agree h (hm id (by simp [idsOf]))]

theorem appendA_agree {C : Ctx} {l : List Nat} {K H : Heap} (h : AgreeOn l K H) {ts : List TypeId} {s x : AV} (hx : ∀ id ∈ idsOf x, id ∈ l) {v : AV} {H1 : Heap} (hr : (appendA C true H ts s x).run = some (v, H1)) :
    H1 = H ∧ (appendA C true K ts s x).run = some (v, K) := by
  have hc := cellsOf_agree h hx
  have leaf : ∀ {v' : AV}, (T.leaf (v', H)).run = some (v, H1) → H1 = H ∧ (T.leaf (v', K)).run = some (v, K) := fun h => by cases Option.some.inj h; exact ⟨rfl, rfl⟩
  have nope : ∀ {p : Prop}, (T.fail : T (AV × Heap)).run = some (v, H1) → p := fun h => by simp [T.run] at h
  have chk : ∀ {b : Bool} {t t' : T (AV × Heap)}, (T.chk b t).run = some (v, H1) → (t.run = some (v, H1) → H1 = H ∧ t'.run = some (v, K)) → H1 = H ∧ (T.chk b t').run = some (v, K) := fun h f => by
    obtain ⟨hb, h⟩ := T.of_chk h
    rw [T.run_chk hb]
    exact f h
  have br : ∀ {b : Bool} {t u t' u' : T (AV × Heap)}, (T.br b t u).run = some (v, H1) → (t.run = some (v, H1) → H1 = H ∧ t'.run = some (v, K)) → (u.run = some (v, H1) → H1 = H ∧ u'.run = some (v, K)) → H1 = H ∧ (T.br b t' u').run = some (v, K) := fun {b _ _ _ _} h f g => by
    cases b
    · exact g h
    · exact f h
  unfold appendA at hr ⊢
  split at hr
  · split at hr
    · exact nope hr
    · rename_i hd
      split at hr
      · exact nope hr
      · rename_i k ys hcs
        simp only [hc, hcs]
        dsimp only at hr
        split at hr
        · exact br hr (fun h => chk h leaf) fun h => chk h fun h => chk h leaf
        · exact chk hr fun h => br h (fun h => chk h leaf) fun h => chk h fun h => chk h leaf
        · exact nope hr
        · exact nope hr
        · exact nope hr
    · exact nope hr
  · exact nope hr

theorem evOpX_frame {C : Ctx} {r : EvT} {e : Fr} {H : Heap} {slot : Nat} {o : Oper} {v : AV} {H1 : Heap} (h : (evOpX C r e H slot o).run = some (v, H1)) :
    ∃ u, H1 = upd u H ∧ (∀ id b, u = some (id, b) → id ∈ (fpOf C e slot o).w) ∧ ∀ K, AgreeOn ((fpOf C e slot o).r ++ (fpOf C e slot o).w) K H → (evOpX C r e K slot o).run = some (v, upd u K) := by
  unfold evOpX at h ⊢
  split at h
  · rename_i el ho
    split at h
    · rename_i z hz hs
      obtain ⟨hok, h⟩ := T.of_chk h
      cases Option.some.inj h
      refine ⟨some (slot, ⟨el, z⟩), rfl, fun id b hu => ?_, fun K hK => ?_⟩
      · cases hu; simp [fpOf, ho]
      · have := hK slot (by simp [fpOf, ho])
        simp only [hz, this, hs, T.run_chk hok]
        rfl
    · simp [T.run] at h
  · rename_i hno
    have noth : ∀ {t : Heap → T (AV × Heap)}, ((∀ K, AgreeOn ((fpOf C e slot o).r ++ (fpOf C e slot o).w) K H → H1 = H ∧ (t K).run = some (v, K))) → ∃ u, H1 = upd u H ∧ (∀ id b, u = some (id, b) → id ∈ (fpOf C e slot o).w) ∧ ∀ K, AgreeOn ((fpOf C e slot o).r ++ (fpOf C e slot o).w) K H → (t K).run = some (v, upd u K) := fun hk =>
      ⟨none, (hk H fun _ _ => rfl).1, (fun _ _ h => by cases h), fun K hK => (hk K hK).2⟩
    by_cases hp : pureOp o.op = true
    · obtain ⟨h1, h2⟩ := evOp_same hp H v H1 h
      exact noth fun K _ => ⟨h1, h2 K⟩
    · have nope : ∀ {p : Prop}, (T.fail : T (AV × Heap)).run = some (v, H1) → p := fun h => by simp [T.run] at h
      unfold evOp at h ⊢
      cases hop : o.op with
      | alloc el => exact absurd hop (hno el)
      | load t x =>
        simp only [hop] at h hp ⊢
        refine noth fun K hK => ?_
        obtain ⟨h1, h2⟩ := withH_run h
        have : loadA C K t (opnd C e x) = loadA C H t (opnd C e x) := by
          cases hx : opnd C e x <;> simp only [loadA]
          rw [hget_agree hK (by simp [fpOf, hop, hx, idsOf])]
        rw [this]
        exact ⟨h1, h2 K⟩
      | store t a x =>
        simp only [hop] at h hp ⊢
        obtain ⟨H2, h1, h2⟩ := T.of_bind h
        cases Option.some.inj h2
        cases ha : opnd C e a <;> rw [ha] at h1 <;> simp only [storeA] at h1 <;> try (simp [T.run] at h1; done)
        rename_i id off
        split at h1
        · rename_i b hb
          obtain ⟨hc, h1⟩ := T.of_chk h1
          cases Option.some.inj h1
          refine ⟨some (id, _), rfl, fun id' b' hu => ?_, fun K hK => ?_⟩
          · cases hu; simp [fpOf, hop, ha, idsOf]
          · have := hget_agree hK (id := id) (by simp [fpOf, hop, ha, idsOf])
            rw [T.run_bind]
            simp only [storeA, this, hb, T.run_chk hc]
            rfl
        · simp [T.run] at h1
      | convert src dst x =>
        simp only [hop] at h hp ⊢
        refine noth fun K hK => ?_
        obtain ⟨h1, h2⟩ := withH_run h
        have : convA C K src dst (opnd C e x) = convA C H src dst (opnd C e x) := by
          have hc := cellsOf_agree hK (x := opnd C e x) (fun id hid => by simp [fpOf, hop, hid])
          generalize opnd C e x = y at hc ⊢
          unfold convA
          congr 1
          cases (C.ty dst).desc <;> cases y <;> try rfl
          all_goals cases (C.ty src).desc <;> first | rfl | simp only [hc]
        rw [this]
        exact ⟨h1, h2 K⟩
      | slice t x lo hi mx =>
        simp only [hop] at h hp ⊢
        refine noth fun K hK => ?_
        obtain ⟨h1, h2⟩ := withH_run h
        have : ∀ a b c, sliceA C K t (opnd C e x) a b c = sliceA C H t (opnd C e x) a b c := fun a b c => by
          have hg : ∀ id off, opnd C e x = .own id off → hget K id = hget H id := fun id off hx => hget_agree hK (by simp [fpOf, hop, hx, idsOf])
          generalize opnd C e x = y at hg ⊢
          unfold sliceA
          cases c with
          | some _ => rfl
          | none =>
            cases (C.ty t).desc <;> cases y <;> first | rfl | simp only [hg _ _ rfl]
        rw [this]
        exact ⟨h1, h2 K⟩
      | call c =>
        simp only [hop] at h hp ⊢
        cases hc : c.callee with
        | value g => exact absurd (by simp [pureOp, hc]) hp
        | invoke a b => simp only [hc] at h; exact nope h
        | builtin b =>
          cases b <;> simp only [hc] at h ⊢ <;> first | exact nope h | (refine absurd ?_ hp; simp only [pureOp, hc]; done) | skip
          split at h
          · rename_i s x hargs
            refine noth fun K hK => ?_
            obtain ⟨h1, h2⟩ := appendA_agree hK (fun id hid => by simp [fpOf, hop, hc, hargs, hid]) h
            exact ⟨h1, by simpa only [hargs] using h2⟩
          · exact nope h
      | _ =>
        simp only [hop] at h hp
        first | exact nope h | exact absurd rfl hp

end Go.Ev
