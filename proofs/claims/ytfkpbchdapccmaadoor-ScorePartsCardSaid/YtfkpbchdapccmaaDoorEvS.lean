/- Evaluator: from an evaluation to a row's contract. -/
import Derived.Test.YtfkpbchdapccmaaDoorEvR
import Derived.Carry
import Derived.ChangeSame
import Derived.OpenShut
import Derived.Lib.LaidTab
import Derived.Stop.LaidErr
namespace Go.Ev
open Go.ChangeShapes Go.RowKit

/-- Every cell of the world, as it is. -/
def cellsIn (w : World) : Gh := fun b o => w.cell? ⟨b, o, none⟩

theorem inv_start {C : Ctx} {w : World} (hg : ∀ g l, C.glob g = some l → RG (cellsIn w) g 0 l) : Inv C ⟨[], cellsIn w⟩ [] w :=
  ⟨rfl, fun _ _ _ h => h, fun _ _ _ _ ⟨_, _, _, h, _⟩ => by simp at h, fun _ _ h => by simp at h, fun _ _ _ _ _ _ _ h => by simp at h, hg⟩

theorem own_none {G : Gh} {b : Nat} : ¬ OwnB ⟨[], G⟩ [] b := fun ⟨_, _, _, h, _⟩ => by simp at h

theorem Stp.below {G G' : Gh} {w w' : World} (h : Stp ⟨[], G⟩ [] w ⟨[], G'⟩ [] w') : Below w.heap.size w w' :=
  ⟨h.os, h.tape, h.output, h.size, fun k hk => h.unt k hk own_none⟩

/-- A call from the world in which a contract stands. -/
theorem enter {C : Ctx} (hO : Ok C) {w : World} (hg : ∀ g l, C.glob g = some l → RG (cellsIn w) g 0 l) {n : Nat} {f : FuncId} {args : List AV} {vs : List Value} (ha : RPL (cellsIn w) args vs)
    (h : ((ev C n).call f args []).run = some (.bool true, [])) : Calls C.P f vs.toArray w (fun e w' => e = .returned (.bool true) ∧ Below w.heap.size w w') := by
  refine ((iso_sound hO h).2 (cellsIn w) w vs (inv_start hg) ha).mono fun e w' ⟨c, G', he, hr, hs, _⟩ => ⟨?_, hs.below⟩
  rw [he]
  have hr' : RP G' (.bool true) c := by simpa [frz, AV.free] using hr
  cases hr'
  rfl

theorem Iso.of_below {C : Ctx} {f : FuncId} {args : List AV} {v : AV}
    (h : ∀ (w : World) (vs : List Value), (∀ g l, C.glob g = some l → RG (cellsIn w) g 0 l) → RPL (cellsIn w) args vs → Calls C.P f vs.toArray w (fun e w' => ∃ c, e = .returned c ∧ (∀ G, RP G v c) ∧ Below w.heap.size w w')) : Iso C f args v := by
  intro G w vs hI ha
  have hle : GLe G (cellsIn w) := fun b o c hb => hI.g b o c hb
  refine (h w vs (fun g l hg => (hI.glob g l hg).mono hle) (ha.mono hle)).mono fun e w' ⟨c, he, hc, hb⟩ => ⟨c, G, he, hc G, ?_, ?_⟩
  · exact ⟨fun _ _ _ h => h, fun _ _ _ h => .inl h, fun _ h => .inl h, fun b hb' _ => hb.block b hb', hb.size, hb.os, hb.tape, hb.output⟩
  · refine ⟨rfl, fun b o c hg => ?_, fun _ _ _ _ => own_none, fun _ _ h => by simp at h, fun _ _ _ _ _ _ _ h => by simp at h, hI.glob⟩
    have h1 := hI.g b o c hg
    rw [hb.cell (by
      show b < w.heap.size
      rcases Nat.lt_or_ge b w.heap.size with h | h
      · exact h
      · simp [World.cell?, Array.getElem?_eq_none h] at h1)]
    exact h1

theorem Iso.of_same {C : Ctx} {f : FuncId} {args : List AV} {v : AV} {c : Value} (hc : ∀ G, RP G v c)
    (h : ∀ (w : World) (vs : List Value), (∀ g l, C.glob g = some l → RG (cellsIn w) g 0 l) → RPL (cellsIn w) args vs → Calls C.P f vs.toArray w (fun e w' => e = .returned c ∧ w' = w)) : Iso C f args v :=
  Iso.of_below fun w vs hg ha => (h w vs hg ha).mono fun e w' ⟨he, hw⟩ => ⟨c, he, hc, by rw [hw]; exact Below.refl _ _⟩

/-- Two contexts that see the same of the world. -/
theorem Iso.at {C C' : Ctx} {f : FuncId} {args : List AV} {v : AV} (h : Iso C f args v) (hP : C'.P = C.P) (hg : C'.glob = C.glob) : Iso C' f args v := by
  intro G w vs hI ha
  have hI' : Inv C ⟨[], G⟩ [] w := ⟨hI.len, hI.g, hI.sep, hI.blk, hI.inj, fun g l h => hI.glob g l (by rw [hg]; exact h)⟩
  rw [hP]
  refine (h G w vs hI' ha).mono fun e w' ⟨c, G', he, hc, hs, hi⟩ => ⟨c, G', he, hc, hs, ⟨hi.len, hi.g, hi.sep, hi.blk, hi.inj, fun g l h => hi.glob g l (by rw [← hg]; exact h)⟩⟩
theorem FnOk.at {C C' : Ctx} {f : FuncId} (h : FnOk C f) (hP : C'.P = C.P) : FnOk C' f := by
  unfold FnOk; rw [hP]; exact h

theorem RPL.one {G : Gh} {v : AV} {vs : List Value} (h : RPL G [v] vs) : ∃ c, vs = [c] ∧ RP G v c := by
  cases h with
  | cons a b => cases b; exact ⟨_, rfl, a⟩
theorem RPL.two {G : Gh} {v v' : AV} {vs : List Value} (h : RPL G [v, v'] vs) : ∃ c c', vs = [c, c'] ∧ RP G v c ∧ RP G v' c' := by
  cases h with
  | cons a b =>
    obtain ⟨c', rfl, h'⟩ := b.one
    exact ⟨_, _, rfl, a, h'⟩
theorem RP.of_str {G : Gh} {s : List UInt8} {c : Value} (h : RP G (.str s) c) : c = .string ⟨s.toArray⟩ := by cases h; rfl
theorem RP.of_int {G : Gh} {k : IntKind} {n : Int} {c : Value} (h : RP G (.int k n) c) : c = .int k n := by cases h; rfl

theorem RG.of {G : Gh} : ∀ {l : List AV} {b o : Nat}, (∀ i, i < l.length → ∃ c, G b (o + i) = some c ∧ RP G (l.getD i .undef) c) → RG G b o l
  | [], b, o, _ => .nil b o
  | v :: l, b, o, h => by
    obtain ⟨c, h1, h2⟩ := h 0 (by simp)
    refine .cons h1 h2 (RG.of fun i hi => ?_)
    obtain ⟨c', h3, h4⟩ := h (i + 1) (by simpa using hi)
    exact ⟨c', by rw [show o + 1 + i = o + (i + 1) by omega]; exact h3, by simpa using h4⟩

theorem rg_tab {P : Program} {W : World} {n : String} {k : IntKind} {zs : List Int} {g : Nat} (h : Lib.TabIs P W n k zs) (hg : P.globalNamed n = some g) : RG (cellsIn W) g 0 (zs.map fun z => .int k z) := by
  refine RG.of fun i hi => ⟨_, by rw [Nat.zero_add]; exact h.cell hg i (by simpa using hi), ?_⟩
  have hi' : i < zs.length := by simpa using hi
  have : (zs.map fun z => AV.int k z).getD i .undef = .int k (zs.getD i 0) := by simp [List.getD, hi']
  rw [this]
  exact .int _ _

theorem rg_sentinel {P : Program} {W : World} {n : String} {g : Nat} {t : TypeId} {x : Value} (h : W.var? P n = some #[.iface t x]) (hg : P.globalNamed n = some g) : RG (cellsIn W) g 0 [.ifc t .undef] := by
  refine .cons (c := .iface t x) ?_ (.ifc (.undef _)) (.nil _ _)
  have := World.var?_cell hg h 0
  show W.cell? ⟨g, 0, none⟩ = _
  simpa using this

section
variable {H : Type} {enc : TypeId × Value → H} {P : Program}

theorem trodAll_stays (hl : laidOutB P = true) {W W' : World} {sp' : Nat → Bool} : ∀ {ts : List TypeId} {vs : List Value} {ds : List (DataW H)} {ps : List MemPlace}, (∀ t ∈ ts, P.readableRec t = true ∧ t < P.types.size) →
    DataW.TrodAll enc P W 0 (fun _ => true) true ts vs ds ps → (∀ p ∈ ps, W.sameAt W' p) → (∀ p ∈ ps, sp' p.block = true) → DataW.TrodAll enc P W' 0 sp' true ts vs ds ps
  | [], [], [], ps, _, h, _, _ => h
  | [], _ :: _, _, _, _, h, _, _ => h.elim
  | [], [], _ :: _, _, _, h, _, _ => h.elim
  | _ :: _, [], _, _, _, h, _, _ => h.elim
  | _ :: _, _ :: _, [], _, _, h, _, _ => h.elim
  | t :: ts, v :: vs, d :: ds, ps, ht, h, h1, h2 => by
    obtain ⟨p, q, h3, h4, e⟩ := h
    subst e
    exact ⟨p, q, WideElems.Trod_stays hl (ht t (by simp)).1 (ht t (by simp)).2 h3 (fun x hx => h1 x (by simp [hx])) (fun x hx => h2 x (by simp [hx])),
      trodAll_stays hl (fun t hm => ht t (by simp [hm])) h4 (fun x hx => h1 x (by simp [hx])) (fun x hx => h2 x (by simp [hx])), rfl⟩

/-- A law's contract, where what it calls leaves all that was there as it was. -/
theorem post_true {f : Func} {s : ChangeSpec} {apart fresh handsOn again : Bool} {W W' : World} {args : Array Value} {ds gs : List (DataW H)} {before : List MemPlace} {tb : TypeId}
    (hl : laidOutB P = true) (hrd : ∀ t ∈ f.params.toList, P.readableRec t = true ∧ t < P.types.size) (hres : f.resultTypes = #[tb]) (htb : P.underlying tb = some .bool) (hvars : s.vars = [])
    (hspec : s.fn H ds = { results := [.lit (.bool true)], args := ds }) (hW : DataW.Whole enc P f.params.toList s.vars apart W args.toList ds gs before) (hb : Below W.heap.size W W') :
    s.post enc P f apart fresh handsOn again W args (.bool true) W' := by
  have hW0 := hW
  obtain ⟨p, q, hA, hV, rfl, hfz, hnd⟩ := hW
  rw [hvars] at hV
  obtain ⟨rfl, rfl⟩ : gs = [] ∧ q = [] := by
    cases gs with
    | nil => exact ⟨rfl, hV⟩
    | cons a l => exact hV.elim
  have hlt : ∀ x ∈ p, x.block < W.heap.size := fun x hx => hW0.lt x (by simpa using hx)
  have same : ∀ x ∈ p, W.sameAt W' x := fun x hx => hb.same (hlt x hx)
  simp only [List.append_nil] at hfz hnd hW0
  have hr1 : ∀ (b : Nat) (sp : Nat → Bool) (hd : Bool), DataW.TrodAll enc P W' b sp hd f.resultTypes.toList ((Value.bool true).resultList f.resultTypes.size) [.lit (.bool true)] [] := fun b sp hd => by
    rw [hres]
    exact ⟨[], [], shut_bool htb true, rfl, rfl⟩
  have ha : ∀ sp : Nat → Bool, (∀ x ∈ p, sp x.block = true) → DataW.TrodAll enc P W' 0 sp true f.params.toList args.toList ds p := fun sp hsp => trodAll_stays hl hrd hA same hsp
  refine ⟨ds, [], p, [], p, [], hW0, ?_, ?_, ?_, hb.frame _, fun _ => ⟨?_, f.resultTypes.toList.map (fun _ => .lit (.bool true)) ++ ds, [], p, ?_, ?_⟩⟩
  · rw [List.append_nil, hspec]; exact hr1 _ _ _
  · rw [List.append_nil, hspec]; exact ha _ fun x hx => by simpa using hlt x hx
  · rw [List.append_nil, hspec, hvars]; rfl
  · exact ok_one hres rfl (okWide_bool_mk htb true)
  · refine ⟨p, [], ?_, by rw [hvars]; rfl, by simp, fun b off hx => ?_, hnd⟩
    · have := trodAll_append (ha (fun _ => true) fun _ _ => rfl) (hr1 0 (fun _ => true) true)
      rw [hres] at this ⊢
      simpa using this
    · rw [hb.frozen (by exact hlt _ hx)]; exact hfz b off hx
  · exact fun x hx _ => hx
end
end Go.Ev
