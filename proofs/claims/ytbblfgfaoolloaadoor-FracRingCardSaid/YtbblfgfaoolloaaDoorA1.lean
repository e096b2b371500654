import Derived.Orders
import Derived.Tactics
import Derived.Below
import Derived.Laws.Cells
import Derived.Laws.CopyRow
import Derived.Laws.Tables
import Derived.Laws.NewBlocks
import Derived.Laws.Entries
import Derived.Laws.Strings
import Derived.Laws.StructEq
import Derived.Laws.BytesString
import Derived.Laws.IdiomStrings

/- Evaluator over the model's Code: definitions. Abstract values, decision trees, one step of evaluation. -/
namespace Go.Ev

inductive AV where
  | undef
  | bool (b : Bool)
  | int (k : IntKind) (n : Int)
  | str (s : List UInt8)
  | agg (l : List AV)
  | tup (l : List AV)
  | nilp
  | own (id off : Nat)
  | rp (l : List AV)
  | sl (sz id off len : Nat) (cap : Option Nat)
  | nils
  | ro (full : Bool) (len : Nat) (l : List AV)
  | fn (f : FuncId) (first caps : List AV)
  | nilf
  | nili
  | ifc (t : TypeId) (v : AV)
  deriving Inhabited

def AV.cells : AV → List AV
  | .agg l => l
  | v => [v]

/-- A decision tree: what is known only under tests. -/
inductive T (α : Type) where
  | leaf (a : α)
  | br (b : Bool) (x y : T α)
  | fail

def T.bind {α β : Type} : T α → (α → T β) → T β
  | .leaf a, k => k a
  | .br b x y, k => .br b (x.bind k) (y.bind k)
  | .fail, _ => .fail

def T.run {α : Type} : T α → Option α
  | .leaf a => some a
  | .br b x y => bif b then x.run else y.run
  | .fail => none

def T.chk {α : Type} (b : Bool) (t : T α) : T α := .br b t .fail

theorem T.run_bind {α β : Type} (t : T α) (k : α → T β) : (t.bind k).run = t.run.bind (fun a => (k a).run) := by
  induction t with
  | leaf a => rfl
  | br b x y hx hy => cases b <;> simp [T.bind, T.run, hx, hy]
  | fail => rfl

theorem T.of_bind {α β : Type} {t : T α} {k : α → T β} {r : β} (h : (t.bind k).run = some r) : ∃ a, t.run = some a ∧ (k a).run = some r := by
  rw [T.run_bind] at h
  cases ht : t.run with
  | none => simp [ht] at h
  | some a => exact ⟨a, rfl, by simpa [ht] using h⟩

theorem T.of_chk {α : Type} {b : Bool} {t : T α} {r : α} (h : (T.chk b t).run = some r) : b = true ∧ t.run = some r := by
  cases b
  · simp [T.chk, T.run] at h
  · exact ⟨rfl, h⟩

theorem T.of_br {α : Type} {b : Bool} {x y : T α} {r : α} (h : (T.br b x y).run = some r) : (b = true ∧ x.run = some r) ∨ (b = false ∧ y.run = some r) := by
  cases b
  · exact .inr ⟨rfl, h⟩
  · exact .inl ⟨rfl, h⟩

/-- A type's description, as far as it is wanted. -/
inductive D where
  | int (k : IntKind)
  | bool
  | string
  | ptr (e : TypeId)
  | slice (e : TypeId)
  | array (n : Nat) (e : TypeId)
  | struct (fs : List (Nat × TypeId))
  | func
  | iface
  | other
  deriving Inhabited

def D.of : TypeDesc → D
  | .bool => .bool
  | .int k => .int k
  | .string => .string
  | .pointer e => .ptr e
  | .slice e => .slice e
  | .array n e => .array n e
  | .struct fs => .struct (fs.toList.map fun f => (f.offset, f.type))
  | .func _ _ _ => .func
  | .interface _ => .iface
  | _ => .other

/-- What is known of a type: its description, its size in cells, the descriptions of its cells, its zero value's cells, bytes. -/
structure TI where
  desc : D
  size : Nat
  cds : List D
  zero : Option (List AV)
  bytes : Nat
  ok : Bool
  eq : Bool
  deriving Inhabited

structure Blk where
  ty : TypeId
  cells : List AV

abbrev Heap := List (Option Blk)
abbrev Fr := List (Tmp × AV)

structure FD where
  fn : Func
  keep : List Tmp
  ct : List Tmp := []

structure Ctx where
  P : Program
  code : FuncId → Option FD
  ty : TypeId → TI
  sum : FuncId → Option (List AV → T AV) := fun _ => none
  glob : Nat → Option (List AV) := fun _ => none

def look : Fr → Tmp → AV
  | [], _ => .undef
  | (s, v) :: r, t => bif Nat.beq s t then v else look r t

def ofV1 : Value → AV
  | .bool b => .bool b
  | .int k n => .int k n
  | .string s => .str s.data.toList
  | .pointer none => .nilp
  | .slice none 0 0 => .nils
  | .nilFunc => .nilf
  | .nilIface => .nili
  | _ => .undef

def ofV : Value → AV
  | .agg cs => .agg (cs.toList.map ofV1)
  | .tuple cs => .tup (cs.toList.map ofV1)
  | v => ofV1 v

def opnd (C : Ctx) (e : Fr) : Operand → AV
  | .tmp t => look e t
  | .const v => ofV v
  | .global g => match C.glob g with
    | some l => .rp l
    | none => .undef
  | .func f => .fn f [] []

def AV.isI (k : IntKind) : AV → Bool
  | .int k' _ => decide (k' = k)
  | _ => false
def AV.toI : AV → Int
  | .int _ n => n
  | _ => 0
def AV.isB : AV → Bool
  | .bool _ => true
  | _ => false
def AV.toB : AV → Bool
  | .bool b => b
  | _ => false
def AV.isS : AV → Bool
  | .str _ => true
  | _ => false
def AV.toS : AV → List UInt8
  | .str s => s
  | _ => []
def AV.isRo : AV → Bool
  | .ro .. => true
  | _ => false
def AV.roF : AV → Bool
  | .ro f _ _ => f
  | _ => false
def AV.roN : AV → Nat
  | .ro _ n _ => n
  | _ => 0
def AV.roL : AV → List AV
  | .ro _ _ l => l
  | _ => []
def AV.isU : AV → Bool
  | .undef => true
  | _ => false

/-- The value of one cell, its constructor laid open by its type. -/
def expose (d : D) (v : AV) : T AV :=
  match d with
  | .int k => .chk (v.isI k) (.leaf (.int k v.toI))
  | .bool => .chk v.isB (.leaf (.bool v.toB))
  | .string => .chk v.isS (.leaf (.str v.toS))
  | .slice _ => .br v.isRo (.leaf (.ro v.roF v.roN v.roL)) (.chk (!v.isU) (.leaf v))
  | _ => .chk (!v.isU) (.leaf v)

def exposeL : List D → List AV → Nat → T (List AV)
  | [], _, _ => .leaf []
  | d :: ds, l, i => (expose d (l.getD i .undef)).bind fun v => (exposeL ds l (i + 1)).bind fun vs => .leaf (v :: vs)

def isAggD : D → Bool
  | .struct _ | .array _ _ => true
  | _ => false

/-- The value of a type out of a row of cells, from place 'i' on. -/
def getT (ti : TI) (l : List AV) (i : Nat) : T AV :=
  match isAggD ti.desc with
  | true => .chk (ti.ok && Nat.beq ti.cds.length ti.size && Nat.ble (i + ti.size) l.length) ((exposeL ti.cds l i).bind fun vs => .leaf (.agg vs))
  | false => .chk (ti.ok && Nat.ble (i + 1) l.length) (expose ti.desc (l.getD i .undef))

def setL {α : Type} : List α → Nat → List α → List α
  | l, _, [] => l
  | l, i, v :: r => setL (l.set i v) (i + 1) r

def hget (H : Heap) (id : Nat) : Option Blk :=
  match H[id]? with
  | some (some b) => some b
  | _ => none

def loadA (C : Ctx) (H : Heap) (t : TypeId) : AV → T AV
  | .own id off => match hget H id with
    | some b => getT (C.ty t) b.cells off
    | none => .fail
  | .rp l => getT (C.ty t) l 0
  | _ => .fail

/-- A value that one cell holds. -/
def AV.one : AV → Bool
  | .undef | .agg _ | .tup _ => false
  | _ => true
def oneL : List AV → Bool
  | [] => true
  | v :: l => v.one && oneL l

def storeA (C : Ctx) (H : Heap) (t : TypeId) (p v : AV) : T Heap :=
  match p with
  | .own id off => match hget H id with
    | some b => .chk ((C.ty t).ok && Nat.beq v.cells.length (C.ty t).size && Nat.ble (off + v.cells.length) b.cells.length && oneL v.cells) (.leaf (H.set id (some { b with cells := setL b.cells off v.cells })))
    | none => .fail
  | _ => .fail

def arith (op : BinOp) (k : IntKind) (a b : Int) : T AV :=
  match op with
  | .add => .leaf (.int k (k.wrap (a + b)))
  | .sub => .leaf (.int k (k.wrap (a - b)))
  | .mul => .leaf (.int k (k.wrap (a * b)))
  | .quo => .chk (!(decide (b = 0))) (.leaf (.int k (k.wrap (a.tdiv b))))
  | .rem => .chk (!(decide (b = 0))) (.leaf (.int k (a.tmod b)))
  | .and => .leaf (.int k (k.wrap (BitVec.ofInt k.bits a &&& BitVec.ofInt k.bits b).toNat))
  | .or => .leaf (.int k (k.wrap (BitVec.ofInt k.bits a ||| BitVec.ofInt k.bits b).toNat))
  | .xor => .leaf (.int k (k.wrap (BitVec.ofInt k.bits a ^^^ BitVec.ofInt k.bits b).toNat))
  | .andNot => .leaf (.int k (k.wrap (BitVec.ofInt k.bits a &&& ~~~BitVec.ofInt k.bits b).toNat))
  | .eql => .leaf (.bool (a == b))
  | .neq => .leaf (.bool (a != b))
  | .lss => .leaf (.bool (decide (a < b)))
  | .leq => .leaf (.bool (decide (a ≤ b)))
  | .gtr => .leaf (.bool (decide (a > b)))
  | .geq => .leaf (.bool (decide (a ≥ b)))
  | _ => .fail

def shiftA (op : BinOp) (k : IntKind) (a b : Int) : T AV :=
  match op with
  | .shl => .chk (decide (0 ≤ b)) (.leaf (.int k (k.wrap (a * 2 ^ (min b.toNat k.bits)))))
  | .shr => .chk (decide (0 ≤ b)) (.leaf (.int k (a.fdiv (2 ^ (min b.toNat k.bits)))))
  | _ => .fail

def strOp (op : BinOp) (s t : List UInt8) : T AV :=
  match op with
  | .add => .chk (Nat.ble (s.length + t.length) 9223372036854775807) (.leaf (.str (s ++ t)))
  | .eql => .leaf (.bool (s == t))
  | .neq => .leaf (.bool (!(s == t)))
  | .lss => .leaf (.bool (Op.bytesLess s t))
  | .leq => .leaf (.bool (Op.bytesLess s t || s == t))
  | .gtr => .leaf (.bool (!(Op.bytesLess s t || s == t)))
  | .geq => .leaf (.bool (!(Op.bytesLess s t)))
  | _ => .fail

/-- '==' of two cells of numbers, bools, strings. -/
def eq1 : AV → AV → Option Bool
  | .bool a, .bool b => some (a == b)
  | .int k a, .int k' b => bif decide (k = k') then some (a == b) else none
  | .str a, .str b => some (a == b)
  | _, _ => none

/-- '==' of two cells, by their type; 'k': one of them is a constant. -/
def eqT (k : Bool) : D → AV → AV → Option Bool
  | .bool, .bool a, .bool b => some (a == b)
  | .ptr _, .nilp, .nilp => some true
  | .ptr _, .nilp, .own _ _ => some false
  | .ptr _, .nilp, .rp _ => some false
  | .ptr _, .own _ _, .nilp => some false
  | .ptr _, .rp _, .nilp => some false
  | .slice _, .nils, .nils => some true
  | .slice _, .nils, .sl .. => some false
  | .slice _, .nils, .ro .. => some false
  | .slice _, .sl .., .nils => some false
  | .slice _, .ro .., .nils => some false
  | .func, .nilf, .nilf => some true
  | .func, .nilf, .fn .. => some false
  | .func, .fn .., .nilf => some false
  | .iface, .nili, .nili => bif k then some true else none
  | .iface, .nili, .ifc .. => some false
  | .iface, .ifc .., .nili => some false
  | _, _, _ => none

def isScalD : D → Bool
  | .int _ | .bool | .string => true
  | _ => false

def eqL : List AV → List AV → Option Bool
  | [], [] => some true
  | a :: l, b :: l' => match eq1 a b with
    | some x => match eqL l l' with
      | some y => some (x && y)
      | none => none
    | none => none
  | _, _ => none

def tyc : D → AV → Bool
  | .int k, v => v.isI k
  | .bool, v => v.isB
  | .string, v => v.isS
  | _, _ => false
def tyL : List D → List AV → Bool
  | [], [] => true
  | d :: ds, v :: l => tyc d v && tyL ds l
  | _, _ => false

def notB (neq : Bool) (b : Bool) : Bool := bif neq then !b else b

def binA (C : Ctx) (op : BinOp) (t : TypeId) (x y : AV) : T AV :=
  match x, y with
  | .int k a, .int k' b => match op with
    | .shl => shiftA .shl k a b
    | .shr => shiftA .shr k a b
    | op => .chk (decide (k = k')) (arith op k a b)
  | .str a, .str b => strOp op a b
  | .bool a, .bool b => match op with
    | .eql => .leaf (.bool (a == b))
    | .neq => .leaf (.bool (!(a == b)))
    | _ => .fail
  | .agg l, .agg l' => .chk ((C.ty t).ok && (C.ty t).eq && tyL (C.ty t).cds l && tyL (C.ty t).cds l') (match op, eqL l l' with
    | .eql, some b => .leaf (.bool b)
    | .neq, some b => .leaf (.bool (!b))
    | _, _ => .fail)
  | _, _ => .fail
end Go.Ev

/- Evaluator over the model's Code: operations and code. -/
namespace Go.Ev

/-- Pointer-free values. -/
def AV.scal : AV → Bool
  | .bool _ | .int _ _ | .str _ | .nilp | .nils | .nilf | .nili => true
  | _ => false
def allScal : List AV → Bool
  | [] => true
  | v :: l => v.scal && allScal l
def AV.flat : AV → Bool
  | .agg l => allScal l
  | .tup l => l.all fun v => match v with
    | .agg l' => allScal l'
    | v => v.scal
  | v => v.scal

mutual
/-- No block of the call's own is named. -/
def AV.free : AV → Bool
  | .own .. | .sl .. => false
  | .agg l | .tup l => freeL l
  | .fn _ l l' => freeL l && freeL l'
  | .ifc _ v => v.free
  | _ => true
def freeL : List AV → Bool
  | [] => true
  | v :: l => v.free && freeL l
end

/-- A cell of a block that nobody will write again. -/
def frzCell (H : Heap) (k : Heap → AV → AV) : AV → AV
  | .own id off => match hget H id with
    | some b => .rp ((b.cells.map (k H)).drop off)
    | none => .undef
  | .sl sz id off len cap => match hget H id with
    | some b => .ro (match cap with | some c => Nat.beq c len | none => false) len (((b.cells.map (k H)).drop off).take (len * sz))
    | none => .undef
  | v => match v with
    | .agg _ | .tup _ | .fn _ _ _ | .ifc _ _ => .undef
    | v => v
def frz1 (H : Heap) : AV → AV := frzCell H fun H => frzCell H fun H => frzCell H fun _ v => bif v.scal then v else .undef
def frz (H : Heap) : AV → AV
  | .agg l => .agg (l.map (frz1 H))
  | .tup l => .tup (l.map fun v => match v with
    | .agg l' => .agg (l'.map (frz1 H))
    | v => frz1 H v)
  | v => bif v.free then v else frz1 H v

/-- A function's call, and a code's walk: what a step of evaluation leans on. -/
inductive X where
  | n
  | ex (id : Nat)
  | ret

structure St where
  e : Fr
  H : Heap
  m : Nat

structure EvT where
  call : FuncId → List AV → Heap → T (AV × Heap)
  code : FD → Code → St → T (X × St)

def alloc (H : Heap) (b : Blk) : Heap := H ++ [some b]

def intOf? : AV → Option Int
  | .int _ n => some n
  | _ => none

def elemOf (C : Ctx) (t : TypeId) : TypeId :=
  match (C.ty t).desc with
  | .slice e | .array _ e => e
  | _ => 0

/-- Parts laid over cells. -/
def fillA (place : Nat → Option (Nat × Nat)) : List AV → List (Nat × AV) → T (List AV)
  | cells, [] => .leaf cells
  | cells, (i, v) :: rest => match place i with
    | some (off, size) => .chk (!v.isU && Nat.beq v.cells.length size && Nat.ble (off + v.cells.length) cells.length) (fillA place (setL cells off v.cells) rest)
    | none => .fail

def buildA (C : Ctx) (t : TypeId) (parts : List (Nat × AV)) : T AV :=
  match (C.ty t).desc, (C.ty t).zero with
  | .struct fs, some z => .chk ((C.ty t).ok && fs.all fun f => (C.ty f.2).ok) ((fillA (fun i => (fs[i]?).map fun f => (f.1, (C.ty f.2).size)) z parts).bind fun cs => .leaf (.agg cs))
  | .array _ el, some z => .chk ((C.ty t).ok && (C.ty el).ok) ((fillA (fun i => some (i * (C.ty el).size, (C.ty el).size)) z parts).bind fun cs => .leaf (.agg cs))
  | _, _ => .fail

def repL (n : Nat) (z : List AV) : List AV :=
  match n with
  | 0 => []
  | n + 1 => z ++ repL n z

/-- The cells of a slice or a string, 'n' elements. -/
def cellsOf (H : Heap) (sz : Nat) : AV → Option (Nat × List AV)
  | .sl z id off len _ => match hget H id with
    | some b => bif Nat.beq z sz && Nat.ble (off + len * sz) b.cells.length then some (len, (b.cells.drop off).take (len * sz)) else none
    | none => none
  | .ro _ len l => bif Nat.beq l.length (len * sz) then some (len, l) else none
  | .nils => some (0, [])
  | .str s => bif Nat.beq sz 1 then some (s.length, s.map fun b => .int .u8 b.toNat) else none
  | _ => none

def optI (d : Int) : Option AV → Option Int
  | none => some d
  | some v => intOf? v

def leI (a b : Int) : Bool := decide (a ≤ b)

def sliceA (C : Ctx) (H : Heap) (t : TypeId) (x : AV) (lo hi mx : Option AV) : T AV :=
  match mx with
  | some _ => .fail
  | none => match (C.ty t).desc, x with
  | .string, .str s => match optI 0 lo, optI s.length hi with
    | some l, some h => .chk ((C.ty t).ok && leI 0 l && leI l h && leI h s.length) (.leaf (.str ((s.take h.toNat).drop l.toNat)))
    | _, _ => .fail
  | .slice el, .sl sz id off len cap => match optI 0 lo, optI len hi, cap with
    | some l, some h, some c => .chk ((C.ty t).ok && (C.ty el).ok && Nat.beq sz (C.ty el).size && leI 0 l && leI l h && leI h c)
        (.br (Nat.beq l.toNat c) (.leaf (.ro false 0 [])) (.leaf (.sl sz id (off + l.toNat * sz) (h.toNat - l.toNat) (some (c - l.toNat)))))
    | some l, some h, none => .chk ((C.ty t).ok && (C.ty el).ok && Nat.beq sz (C.ty el).size && leI 0 l && leI l h && leI h len)
        (.br (Nat.beq l.toNat 0) (.leaf (.sl sz id off h.toNat none))
          (.br (Nat.beq l.toNat h.toNat) (.leaf (.ro false 0 [])) (.leaf (.sl sz id (off + l.toNat * sz) (h.toNat - l.toNat) none))))
    | _, _, _ => .fail
  | .slice el, .ro full len cells => match optI 0 lo, optI len hi with
    | some l, some h => .chk ((C.ty t).ok && (C.ty el).ok && Nat.beq cells.length (len * (C.ty el).size) && leI 0 l && leI l h && leI h len)
        (.br (Nat.beq l.toNat len) (.leaf (.ro false 0 []))
          (.leaf (.ro (full && Nat.beq h.toNat len) (h.toNat - l.toNat) ((cells.take (h.toNat * (C.ty el).size)).drop (l.toNat * (C.ty el).size)))))
    | _, _ => .fail
  | .slice el, .nils => match optI 0 lo, optI 0 hi with
    | some l, some h => .chk ((C.ty t).ok && (C.ty el).ok && leI 0 l && leI l h && leI h 0) (.leaf .nils)
    | _, _ => .fail
  | .array n el, .own id off => match hget H id with
    | some b => match optI 0 lo, optI n hi with
      | some l, some h => .chk ((C.ty t).ok && (C.ty el).ok && leI 0 l && leI l h && leI h n && Nat.ble (off + n * (C.ty el).size) b.cells.length)
          (.br (Nat.beq l.toNat n) (.leaf (.ro false 0 [])) (.leaf (.sl (C.ty el).size id (off + l.toNat * (C.ty el).size) (h.toNat - l.toNat) (some (n - l.toNat)))))
      | _, _ => .fail
    | _ => .fail
  | _, _ => .fail

def maxBytes : Nat := 281474976710656

def appendA (C : Ctx) (draw : Bool) (H : Heap) (ts : List TypeId) (s x : AV) : T (AV × Heap) :=
  match ts with
  | [t, t'] =>
    match (C.ty t).desc, (C.ty t').desc with
    | .slice _, .int _ => .fail
    | .slice el, _ => match cellsOf H (C.ty el).size x with
      | none => .fail
      | some (k, ys) =>
        let zok : Bool := (C.ty t).ok && (C.ty t').ok && (C.ty el).ok && (match (C.ty el).zero with | some z => Nat.beq z.length (C.ty el).size | none => false) && oneL ys
        let new (len : Nat) (cs : List AV) : T (AV × Heap) :=
          .chk (zok && Nat.ble ((2 * (len + k) + 1000) * (C.ty el).bytes) maxBytes && Nat.ble (len + k) 9223372036854775807)
            (match draw with
             | true => .chk (freeL (cs ++ ys)) (.leaf (.ro false (len + k) (cs ++ ys), H))
             | false => .leaf (.sl (C.ty el).size H.length 0 (len + k) none, alloc H ⟨el, cs ++ ys⟩))
        match s with
        | .nils => .br (Nat.beq k 0) (.chk zok (.leaf (.nils, H))) (new 0 [])
        | .ro true len l => .chk (Nat.beq l.length (len * (C.ty el).size)) (.br (Nat.beq k 0) (.chk zok (.leaf (.ro true len l, H))) (new len l))
        | .sl sz id off len (some c) => match hget H id with
          | some b => .chk (zok && Nat.beq sz (C.ty el).size && Nat.ble (off + len * sz) b.cells.length)
              (.br (Nat.ble (len + k) c)
                (.chk (Nat.ble (off + (len + k) * sz) b.cells.length) (.leaf (.sl sz id off (len + k) (some c), H.set id (some { b with cells := setL b.cells (off + len * sz) ys }))))
                (new len ((b.cells.drop off).take (len * sz))))
          | none => .fail
        | .sl sz id 0 len none => match draw, hget H id with
          | false, some b => .chk (zok && Nat.beq sz (C.ty el).size && Nat.beq b.ty el && Nat.beq (len * sz) b.cells.length && Nat.ble ((2 * (len + k) + 1000) * (C.ty el).bytes) maxBytes && Nat.ble (len + k) 9223372036854775807)
              (.leaf (.sl sz H.length 0 (len + k) none, alloc (H.set id none) ⟨el, b.cells ++ ys⟩))
          | _, _ => .fail
        | _ => .fail
    | _, _ => .fail
  | _ => .fail

def copyA (C : Ctx) (H : Heap) (ts : List TypeId) (d x : AV) : T (AV × Heap) :=
  match ts with
  | t :: _ => match (C.ty t).desc with
    | .slice el => match cellsOf H (C.ty el).size x, d with
      | some (k, ys), .sl sz id off len _ => match hget H id with
        | some b => .chk ((C.ty t).ok && (C.ty el).ok && oneL ys && Nat.beq sz (C.ty el).size && Nat.ble (off + len * sz) b.cells.length)
            (.leaf (.int .i64 (min k len : Nat), H.set id (some { b with cells := setL b.cells off (ys.take (min k len * sz)) })))
        | none => .fail
      | some (_, _), .nils => .chk ((C.ty t).ok && (C.ty el).ok) (.leaf (.int .i64 0, H))
      | _, _ => .fail
    | _ => .fail
  | _ => .fail

def lenA (C : Ctx) (ts : List TypeId) (x : AV) : T AV :=
  match ts with
  | t :: _ => .chk (C.ty t).ok (match (C.ty t).desc, x with
    | .string, .str s => .leaf (.int .i64 s.length)
    | .array n _, _ => .leaf (.int .i64 n)
    | .slice _, .sl _ _ _ n _ => .leaf (.int .i64 n)
    | .slice _, .ro _ n _ => .leaf (.int .i64 n)
    | .slice _, .nils => .leaf (.int .i64 0)
    | _, _ => .fail)
  | _ => .fail

def max2 : AV → AV → T AV
  | .int k x, .int _ y => .leaf (.int k (bif decide (y > x) then y else x))
  | _, _ => .fail
def min2 : AV → AV → T AV
  | .int k x, .int _ y => .leaf (.int k (bif decide (y < x) then y else x))
  | _, _ => .fail
def foldA (f : AV → AV → T AV) : AV → List AV → T AV
  | x, [] => .leaf x
  | x, y :: l => (f x y).bind fun z => foldA f z l

def withH (H : Heap) (t : T AV) : T (AV × Heap) := t.bind fun v => .leaf (v, H)

def bytesOf : List AV → T (List UInt8)
  | [] => .leaf []
  | v :: l => .chk (v.isI .u8) ((bytesOf l).bind fun r => .leaf (UInt8.ofNat v.toI.toNat :: r))

def convA (C : Ctx) (H : Heap) (src dst : TypeId) (x : AV) : T AV :=
  .chk ((C.ty src).ok && (C.ty dst).ok) (match (C.ty dst).desc, x with
  | .int k, .int _ n => .leaf (.int k (k.wrap n))
  | .string, .str s => .leaf (.str s)
  | .string, .int _ n => .leaf (.str (Utf8.encode n).data.toList)
  | .string, v => match (C.ty src).desc with
    | .slice el => match (C.ty el).desc, cellsOf H 1 v with
      | .int .u8, some (_, ys) => .chk (C.ty el).ok ((bytesOf ys).bind fun l => .leaf (.str l))
      | _, _ => .fail
    | _ => .fail
  | .slice el, .str s => match (C.ty el).desc, (C.ty src).desc with
    | .int .u8, .string => .chk (C.ty el).ok (.leaf (.ro false s.length (s.map fun b => .int .u8 b.toNat)))
    | _, _ => .fail
  | _, _ => .fail)

def unA (op : UnOp) (x : AV) : T AV :=
  match op, x with
  | .neg, .int k n => arith .sub k 0 n
  | .xor, .int k n => arith .xor k (if k.signed then -1 else k.max) n
  | .not, .bool b => .leaf (.bool (!b))
  | _, _ => .fail

/-- '==' and '!=' of cells that are no numbers. -/
def eqA (C : Ctx) (k : Bool) (op : BinOp) (t : TypeId) (x y : AV) : T AV :=
  .chk (C.ty t).ok (match op, eqT k (C.ty t).desc x y with
  | .eql, some b => .leaf (.bool b)
  | .neq, some b => .leaf (.bool (!b))
  | _, _ => .fail)

def isK : Operand → Bool
  | .const _ => true
  | _ => false

/-- An argument as it stands: cells of a block of the call's own, laid open. -/
def AV.off0 : AV → Bool
  | .own _ off => Nat.beq off 0
  | _ => true
def frzA (H : Heap) (v : AV) : AV := bif v.free then v else bif v.off0 then frzCell H (fun _ v => bif v.scal then v else .undef) v else .undef

/-- Does no argument point to something? -/
def noRp : List AV → Bool
  | [] => true
  | .rp _ :: _ => false
  | _ :: l => noRp l
/-- A summary on arguments of their own. -/
def apF (F : List AV → T AV) (args : List AV) : T AV := match noRp args with
  | true => F args
  | false => .fail
/-- A call in a state: a summary; a call of its own on what names no own block, or on what it names as it stands; else inline. -/
def callA (C : Ctx) (r : EvT) (draw : Bool) (H : Heap) (f : FuncId) (args : List AV) : T (AV × Heap) :=
  match C.sum f with
  | some F => match freeL args with
    | true => (apF F args).bind fun v => .chk v.free (.leaf (v, H))
    | false => (F (args.map (frzA H))).bind fun v => .chk v.flat (.leaf (v, H))
  | none => match freeL args with
    | true => (r.call f args []).bind fun p => .chk (frz p.2 p.1).free (.leaf (frz p.2 p.1, H))
    | false => match draw with
      | true => (r.call f (args.map (frzA H)) []).bind fun p => .chk p.1.scal (.leaf (p.1, H))
      | false => r.call f args H

def opnds (C : Ctx) (e : Fr) (l : Array Operand) : List AV := l.toList.map (opnd C e)

def evOp (C : Ctx) (r : EvT) (draw : Bool) (e : Fr) (H : Heap) (o : Oper) : T (AV × Heap) :=
  match o.op with
  | .move x | .assign x => .leaf (opnd C e x, H)
  | .pick c a b => match opnd C e c with
    | .bool x => .br x (.leaf (opnd C e a, H)) (.leaf (opnd C e b, H))
    | _ => .fail
  | .alloc el => match draw with
    | true => .fail
    | false => match (C.ty el).zero with
      | some z => .chk (C.ty el).ok (.leaf (.own H.length 0, alloc H ⟨el, z⟩))
      | none => .fail
  | .box el x => match draw with
    | true => .chk (!(opnd C e x).isU && freeL (opnd C e x).cells) (.leaf (.rp (opnd C e x).cells, H))
    | false => .chk (!(opnd C e x).isU) (.leaf (.own H.length 0, alloc H ⟨el, (opnd C e x).cells⟩))
  | .build t parts => withH H (buildA C t (parts.toList.map fun p => (p.1, opnd C e p.2)))
  | .buildSlice t len parts => match (C.ty t).desc, (C.ty (elemOf C t)).zero with
    | .slice el, some z => (fillA (fun i => some (i * (C.ty el).size, (C.ty el).size)) (repL len z) (parts.toList.map fun p => (p.1, opnd C e p.2))).bind fun cs =>
        .chk ((C.ty t).ok && (C.ty el).ok && Nat.beq z.length (C.ty el).size && !(Nat.beq (C.ty el).size 0) && Nat.beq cs.length (len * (C.ty el).size) && Nat.ble (len * (C.ty el).size) 16777216) (match draw with
        | true => .chk (freeL cs) (.leaf (.ro true len cs, H))
        | false => .leaf (.sl (C.ty el).size H.length 0 len (some len), alloc H ⟨el, cs⟩))
    | _, _ => .fail
  | .load t a => withH H (loadA C H t (opnd C e a))
  | .store t a x => (storeA C H t (opnd C e a) (opnd C e x)).bind fun H' => .leaf (.tup [], H')
  | .nilCheck x => match opnd C e x with
    | .own id off => .leaf (.own id off, H)
    | .rp l => .leaf (.rp l, H)
    | .fn f l l' => .leaf (.fn f l l', H)
    | _ => .fail
  | .binOp op t x y _ => match opnd C e x, opnd C e y with
    | .int k a, .int k' b => withH H (binA C op t (.int k a) (.int k' b))
    | .str a, .str b => withH H (binA C op t (.str a) (.str b))
    | .agg l, .agg l' => withH H (binA C op t (.agg l) (.agg l'))
    | a, b => withH H (eqA C (isK x || isK y) op t a b)
  | .unOp op _ x => withH H (unA op (opnd C e x))
  | .convert src dst x => withH H (convA C H src dst (opnd C e x))
  | .makeFunc (.func f) first captured => .leaf (.fn f (opnds C e first) (opnds C e captured), H)
  | .makeSlice t l c => match (C.ty t).desc, opnd C e l, opnd C e c, (C.ty (elemOf C t)).zero with
    | .slice el, .int .i64 n, .int .i64 n', some z => .chk ((C.ty t).ok && (C.ty el).ok && Nat.beq z.length (C.ty el).size && !(Nat.beq (C.ty el).size 0) && decide (n = n') && leI 0 n && leI ((C.ty el).bytes * n) maxBytes && leI n 9223372036854775807)
        (match draw with
        | true => .chk (freeL (repL n.toNat z)) (.leaf (.ro true n.toNat (repL n.toNat z), H))
        | false => .leaf (.sl (C.ty el).size H.length 0 n.toNat (some n.toNat), alloc H ⟨el, repL n.toNat z⟩))
    | _, _, _, _ => .fail
  | .slice t x lo hi mx => withH H (sliceA C H t (opnd C e x) (lo.map (opnd C e)) (hi.map (opnd C e)) (mx.map (opnd C e)))
  | .fieldAddr t x i => match (C.ty t).desc with
    | .struct fs => match fs[i]?, opnd C e x with
      | some f, .own id off => .chk ((C.ty t).ok && (C.ty f.2).ok && !(Nat.beq (C.ty f.2).size 0)) (.leaf (.own id (off + f.1), H))
      | some f, .rp l => .chk ((C.ty t).ok && (C.ty f.2).ok && !(Nat.beq (C.ty f.2).size 0) && Nat.ble f.1 l.length) (.leaf (.rp (l.drop f.1), H))
      | _, _ => .fail
    | _ => .fail
  | .field t x i => match (C.ty t).desc with
    | .struct fs => match fs[i]?, opnd C e x with
      | some f, .agg l => .chk (C.ty t).ok (withH H (getT (C.ty f.2) l f.1))
      | _, _ => .fail
    | _ => .fail
  | .indexAddr t x i => match (C.ty t).desc, opnd C e x, opnd C e i with
    | .array n el, .own id off, .int _ i => .chk ((C.ty t).ok && (C.ty el).ok && leI 0 i && decide (i < n)) (.leaf (.own id (off + i.toNat * (C.ty el).size), H))
    | .array n el, .rp l, .int _ i => .chk ((C.ty t).ok && (C.ty el).ok && leI 0 i && decide (i < n)) (.leaf (.rp (l.drop (i.toNat * (C.ty el).size)), H))
    | .slice el, .sl sz id off len _, .int _ i => .chk ((C.ty t).ok && (C.ty el).ok && Nat.beq sz (C.ty el).size && leI 0 i && decide (i < len)) (.leaf (.own id (off + i.toNat * sz), H))
    | .slice el, .ro _ len l, .int _ i => .chk ((C.ty t).ok && (C.ty el).ok && leI 0 i && decide (i < len)) (.leaf (.rp (l.drop (i.toNat * (C.ty el).size)), H))
    | _, _, _ => .fail
  | .index t x i => match (C.ty t).desc, opnd C e x, opnd C e i with
    | .array n el, .agg l, .int _ i => .chk ((C.ty t).ok && (C.ty el).ok && leI 0 i && decide (i < n)) (withH H (getT (C.ty el) l (i.toNat * (C.ty el).size)))
    | .string, .str s, .int _ i => .chk ((C.ty t).ok && leI 0 i && decide (i < s.length)) (.leaf (.int .u8 (s.getD i.toNat 0).toNat, H))
    | _, _, _ => .fail
  | .extract t i => match opnd C e t with
    | .tup l => .chk (Nat.ble (i + 1) l.length) (.leaf (l.getD i .undef, H))
    | _ => .fail
  | .call c => match c.callee with
    | .value (.func f) => callA C r draw H f (opnds C e c.args)
    | .value g => match opnd C e g with
      | .fn f first caps => callA C r draw H f (first ++ opnds C e c.args ++ caps)
      | _ => .fail
    | .builtin .len => match opnds C e c.args with
      | [x] => withH H (lenA C c.argTypes.toList x)
      | _ => .fail
    | .builtin .append => match opnds C e c.args with
      | [s, x] => appendA C draw H c.argTypes.toList s x
      | _ => .fail
    | .builtin .copy => match draw, opnds C e c.args with
      | false, [d, x] => copyA C H c.argTypes.toList d x
      | _, _ => .fail
    | .builtin .max => match opnds C e c.args with
      | x :: l => withH H (foldA max2 x l)
      | _ => .fail
    | .builtin .min => match opnds C e c.args with
      | x :: l => withH H (foldA min2 x l)
      | _ => .fail
    | _ => .fail
  | _ => .fail

def putE (e : Fr) (d : Option Tmp) (v : AV) : Fr :=
  match d with
  | some t => (t, v) :: e
  | none => e

/-- A row of operations in the order of the text; a guard's test parts the ways. -/
def evOps (C : Ctx) (r : EvT) (draw : Bool) (all : Array Oper) : List Oper → Fr → Heap → T (Fr × Heap)
  | [], e, H => .leaf (e, H)
  | o :: rest, e, H =>
    match o.guard with
    | none => (evOp C r draw e H o).bind fun p => evOps C r draw all rest (putE e o.dst p.1) p.2
    | some (j, want) =>
      match (all[j]?).bind (·.dst) with
      | none => .fail
      | some s =>
        let yes : T (Fr × Heap) := (evOp C r draw ((s, .bool want) :: e) H o).bind fun p => evOps C r draw all rest (putE ((s, .bool want) :: e) o.dst p.1) p.2
        let no : T (Fr × Heap) := evOps C r draw all rest (putE ((s, .bool (!want)) :: e) o.dst (.tup [])) H
        match look e s, want with
        | .bool b, true => .br b yes no
        | .bool b, false => .br b no yes
        | .tup [], _ => evOps C r draw all rest (putE e o.dst (.tup [])) H
        | _, _ => .fail

/-- Which blocks an operation reads, which it writes. -/
structure FP where
  r : List Nat
  w : List Nat
def idsOf : AV → List Nat
  | .own id _ => [id]
  | .sl _ id _ _ _ => [id]
  | _ => []
def fpOf (C : Ctx) (e : Fr) (slot : Nat) (o : Oper) : FP :=
  match o.op with
  | .load _ a => ⟨idsOf (opnd C e a), []⟩
  | .store _ a _ => ⟨[], idsOf (opnd C e a)⟩
  | .alloc _ => ⟨[], [slot]⟩
  | .convert _ _ x => ⟨idsOf (opnd C e x), []⟩
  | .slice _ x _ _ _ => ⟨idsOf (opnd C e x), []⟩
  | .call c => match c.callee with
    | .builtin .append => ⟨(opnds C e c.args).flatMap idsOf, ((opnds C e c.args).take 1).flatMap idsOf⟩
    | .value (.func _) => ⟨(opnds C e c.args).flatMap idsOf, []⟩
    | .value g => match opnd C e g with
      | .fn _ first caps => ⟨(first ++ opnds C e c.args ++ caps).flatMap idsOf, []⟩
      | _ => ⟨[], []⟩
    | _ => ⟨[], []⟩
  | _ => ⟨[], []⟩
def meets (a b : List Nat) : Bool := a.any fun x => b.contains x
def clash (a b : FP) : Bool := meets a.w (b.r ++ b.w) || meets b.w a.r

/-- An operation waits for another one, on a road of at most so many edges. -/
def onPath (ops : Array Oper) : Nat → Nat → Nat → Bool
  | 0, _, _ => false
  | n + 1, i, j => match ops[i]? with
    | some o => o.after.any fun e => Region.binds .any e && (Nat.beq e.on j || onPath ops n e.on j)
    | none => false
/-- Two operations of which one writes what the other touches stand in an order. -/
def fpsB (ops : Array Oper) (F : List FP) : Bool :=
  (List.range ops.size).all fun i => (List.range ops.size).all fun j => match ops[i]?, ops[j]?, F[i]?, F[j]? with
    | some _, some _, some a, some b => Nat.beq i j || !(clash a b) || onPath ops 4 j i || onPath ops 4 i j
    | _, _, _, _ => false

/-- An operation of a row that draws its order: a new block goes to the id that was kept for it. -/
def evOpX (C : Ctx) (r : EvT) (e : Fr) (H : Heap) (slot : Nat) (o : Oper) : T (AV × Heap) :=
  match o.op with
  | .alloc el => match (C.ty el).zero, H[slot]? with
    | some z, some none => .chk (C.ty el).ok (.leaf (.own slot 0, H.set slot (some ⟨el, z⟩)))
    | _, _ => .fail
  | _ => evOp C r true e H o

def withFP (a : FP) (t : T (Fr × Heap × List FP)) : T (Fr × Heap × List FP) := t.bind fun q => .leaf (q.1, q.2.1, a :: q.2.2)

def evOpsD (C : Ctx) (r : EvT) (n0 : Nat) (all : Array Oper) : List Oper → Fr → Heap → T (Fr × Heap × List FP)
  | [], e, H => .leaf (e, H, [])
  | o :: rest, e, H =>
    match o.guard with
    | none => (evOpX C r e H (n0 + (all.size - (rest.length + 1))) o).bind fun p => withFP (fpOf C e (n0 + (all.size - (rest.length + 1))) o) (evOpsD C r n0 all rest (putE e o.dst p.1) p.2)
    | some (j, want) =>
      match (all[j]?).bind (·.dst) with
      | none => .fail
      | some s =>
        let yes : T (Fr × Heap × List FP) := (evOpX C r ((s, .bool want) :: e) H (n0 + (all.size - (rest.length + 1))) o).bind fun p => withFP (fpOf C ((s, .bool want) :: e) (n0 + (all.size - (rest.length + 1))) o) (evOpsD C r n0 all rest (putE ((s, .bool want) :: e) o.dst p.1) p.2)
        let no : T (Fr × Heap × List FP) := withFP ⟨[], []⟩ (evOpsD C r n0 all rest (putE ((s, .bool (!want)) :: e) o.dst (.tup [])) H)
        match look e s, want with
        | .bool b, true => .br b yes no
        | .bool b, false => .br b no yes
        | .tup [], _ => withFP ⟨[], []⟩ (evOpsD C r n0 all rest (putE e o.dst (.tup [])) H)
        | _, _ => .fail

def isAlloc (o : Oper) : Bool := match o.op with | .alloc _ => true | _ => false
/-- Ids kept for the blocks that a drawn row may lay. -/
def resv (ops : Array Oper) (H : Heap) : Heap := bif ops.any isAlloc then H ++ List.replicate ops.size none else H
def evDraw (C : Ctx) (r : EvT) (ops : Array Oper) (e : Fr) (H : Heap) : T (Fr × Heap) :=
  (evOpsD C r H.length ops ops.toList e (resv ops H)).bind fun q => .chk (fpsB ops q.2.2) (.leaf (q.1, q.2.1))

def keepF (l : List Tmp) (e : Fr) : Fr := l.map fun t => (t, look e t)

def initE : Nat → List AV → Fr
  | _, [] => []
  | i, v :: l => (i, v) :: initE (i + 1) l

def resA (C : Ctx) (st : St) : List ResultVar → T (List AV)
  | [] => .leaf []
  | .tmp t :: l => (resA C st l).bind fun vs => .leaf (look st.e t :: vs)
  | .cell a ty :: l => (loadA C st.H ty (look st.e a)).bind fun v => (resA C st l).bind fun vs => .leaf (v :: vs)

def tupA : List AV → AV
  | [v] => v
  | l => .tup l

/-! ### What is no longer reached is dropped, what is left is numbered anew -/
def ids1 (m : Nat) : AV → List Nat
  | .own id _ => bif Nat.ble m id then [id] else []
  | .sl _ id _ _ _ => bif Nat.ble m id then [id] else []
  | _ => []
def ids2 (m : Nat) : AV → List Nat
  | .agg l | .tup l => l.flatMap (ids1 m)
  | .fn _ l l' => l.flatMap (ids1 m) ++ l'.flatMap (ids1 m)
  | v => ids1 m v
def cellsAt (H : Heap) (id : Nat) : List AV :=
  match hget H id with
  | some b => b.cells
  | none => []
def reach (m : Nat) (H : Heap) : Nat → List Nat → List Nat → List Nat
  | 0, _, seen => seen
  | _ + 1, [], seen => seen
  | n + 1, id :: todo, seen =>
    bif seen.contains id then reach m H n todo seen else reach m H n (todo ++ (cellsAt H id).flatMap (ids2 m)) (seen ++ [id])
def ren (m : Nat) (l : List Nat) (id : Nat) : Option Nat :=
  bif Nat.ble m id then (l.idxOf? id).map (m + ·) else some id
mutual
def th (f : Nat → Option Nat) : AV → AV
  | .own id off => match f id with
    | some j => .own j off
    | none => .undef
  | .sl sz id off len cap => match f id with
    | some j => .sl sz j off len cap
    | none => .undef
  | .agg l => .agg (thL f l)
  | .tup l => .tup (thL f l)
  | .fn g l l' => .fn g (thL f l) (thL f l')
  | .ifc t v => .ifc t (th f v)
  | v => v
def thL (f : Nat → Option Nat) : List AV → List AV
  | [] => []
  | v :: l => th f v :: thL f l
end
def thB (f : Nat → Option Nat) : Option Blk → Option Blk
  | some b => some { b with cells := b.cells.map (th f) }
  | none => none
def okL (m : Nat) : List Nat → Bool
  | [] => true
  | id :: r => Nat.ble m id && !(r.contains id) && okL m r
def thAt (f : Nat → Option Nat) (H : Heap) (id : Nat) : Option Blk :=
  match H[id]? with
  | some b => thB f b
  | none => none
def gcR (st : St) : List Nat :=
  reach st.m st.H (st.H.length + 100) (st.e.flatMap (fun p => ids2 st.m p.2) ++ (st.H.take st.m).flatMap (fun b => match b with | some b => b.cells.flatMap (ids2 st.m) | none => [])) []
def gc (st : St) : St :=
  bif Nat.ble st.H.length st.m then st else
  bif okL st.m (gcR st) then
    { st with e := st.e.map fun p => (p.1, th (ren st.m (gcR st)) p.2), H := (st.H.take st.m).map (thB (ren st.m (gcR st))) ++ (gcR st).map (thAt (ren st.m (gcR st)) st.H) }
  else st

/-- A test's slot is forgotten where nothing looks at it again. -/
def testF (fd : FD) (c : Operand) (st : St) : St :=
  match c with
  | .tmp s => bif fd.ct.contains s then { st with e := st.e.map fun p => bif Nat.beq p.1 s then (p.1, .undef) else p } else st
  | _ => st

def step (C : Ctx) (r : EvT) : EvT where
  code fd c st :=
    match c with
    | .skip => .leaf (.n, st)
    | .region _ ops draw => (match draw with
      | true => evDraw C r ops st.e st.H
      | false => evOps C r false ops ops.toList st.e st.H).bind fun p => .leaf (.n, { st with e := keepF fd.keep p.1, H := p.2 })
    | .seq a b => (r.code fd a st).bind fun p => match p.1 with
      | .n => r.code fd b p.2
      | x => .leaf (x, p.2)
    | .cond c a b => match opnd C st.e c with
      | .bool t =>
        .br t (r.code fd a (testF fd c st)) (r.code fd b (testF fd c st))
      | _ => .fail
    | .block id b => (r.code fd b st).bind fun p => match p.1 with
      | .ex j => bif Nat.beq j id then .leaf (.n, p.2) else .leaf (.ex j, p.2)
      | x => .leaf (x, p.2)
    | .loop b => (r.code fd b st).bind fun p => match p.1 with
      | .n => r.code fd (.loop b) (gc p.2)
      | x => .leaf (x, p.2)
    | .exit id => .leaf (.ex id, st)
    | .ret => .leaf (.ret, st)
    | _ => .fail
  call f args H :=
    match C.code f with
    | none => .fail
    | some fd => match fd.fn.body with
      | none => .fail
      | some c => .chk (Nat.ble args.length fd.fn.ntmps) ((r.code fd c { e := keepF fd.keep (initE 0 args), H, m := H.length }).bind fun p => match p.1 with
        | .ex _ => .fail
        | _ => (resA C p.2 fd.fn.results.toList).bind fun vs => .leaf (tupA vs, p.2.H))

def ev (C : Ctx) : Nat → EvT
  | 0 => { call := fun _ _ _ => .fail, code := fun _ _ _ => .fail }
  | n + 1 => step C (ev C n)
end Go.Ev

/- Evaluator: what an abstract value says of a value in a world; the class of worlds. -/
namespace Go.Ev

abbrev Gh := Nat → Nat → Option Value

mutual
/-- What a value without blocks of the call's own says; 'G': the cells that nobody will write again. -/
inductive RP (G : Gh) : AV → Value → Prop
  | undef (c : Value) : RP G .undef c
  | bool (b : Bool) : RP G (.bool b) (.bool b)
  | int (k : IntKind) (n : Int) : RP G (.int k n) (.int k n)
  | str (s : List UInt8) : RP G (.str s) (.string ⟨s.toArray⟩)
  | agg {l : List AV} {cs : List Value} : RPL G l cs → RP G (.agg l) (.agg cs.toArray)
  | tup {l : List AV} {cs : List Value} : RPL G l cs → RP G (.tup l) (.tuple cs.toArray)
  | nilp : RP G .nilp (.pointer none)
  | rp {l : List AV} {b o : Nat} : RG G b o l → RP G (.rp l) (.pointer (some ⟨b, o, none⟩))
  | nils : RP G .nils (.slice none 0 0)
  | ro {full : Bool} {len cap b o : Nat} {l : List AV} : RG G b o l → (full = true → cap = len) → len ≤ cap → RP G (.ro full len l) (.slice (some ⟨b, o, none⟩) len cap)
  | fn {f : FuncId} {l l' : List AV} {cs cs' : List Value} : RPL G l cs → RPL G l' cs' → RP G (.fn f l l') (.func (.func f) cs.toArray cs'.toArray)
  | nilf : RP G .nilf .nilFunc
  | nili : RP G .nili .nilIface
  | ifc {t : TypeId} {v : AV} {c : Value} : RP G v c → RP G (.ifc t v) (.iface t c)
inductive RPL (G : Gh) : List AV → List Value → Prop
  | nil : RPL G [] []
  | cons {v : AV} {c : Value} {l : List AV} {cs : List Value} : RP G v c → RPL G l cs → RPL G (v :: l) (c :: cs)
inductive RG (G : Gh) : Nat → Nat → List AV → Prop
  | nil (b o : Nat) : RG G b o []
  | cons {b o : Nat} {v : AV} {c : Value} {l : List AV} : G b o = some c → RP G v c → RG G b (o + 1) l → RG G b o (v :: l)
end

structure Env where
  ρ : List (Option (Nat × Nat))
  G : Gh

/-- The block of an id; an id may be kept for a block that is not there yet. -/
def Env.at (E : Env) (id : Nat) : Option (Nat × Nat) := (E.ρ[id]?).join

theorem Env.at_lt {E : Env} {id : Nat} {x : Nat × Nat} (h : E.at id = some x) : id < E.ρ.length := by
  rcases Nat.lt_or_ge id E.ρ.length with h' | h'
  · exact h'
  · unfold Env.at at h; rw [List.getElem?_eq_none h'] at h; cases h
theorem Env.at_get {E : Env} {id : Nat} {x : Nat × Nat} : E.at id = some x ↔ E.ρ[id]? = some (some x) := by
  unfold Env.at
  cases E.ρ[id]? with
  | none => simp
  | some y => simp

mutual
inductive R (E : Env) : AV → Value → Prop
  | pers {v : AV} {c : Value} : RP E.G v c → R E v c
  | agg {l : List AV} {cs : List Value} : RL E l cs → R E (.agg l) (.agg cs.toArray)
  | tup {l : List AV} {cs : List Value} : RL E l cs → R E (.tup l) (.tuple cs.toArray)
  | own {id off b m : Nat} : E.at id = some (b, m) → R E (.own id off) (.pointer (some ⟨b, off, none⟩))
  | sl {sz id off len cap b m : Nat} {co : Option Nat} : E.at id = some (b, m) → (∀ c, co = some c → cap = c) → len ≤ cap → off + cap * sz ≤ m → R E (.sl sz id off len co) (.slice (some ⟨b, off, none⟩) len cap)
  | fn {f : FuncId} {l l' : List AV} {cs cs' : List Value} : RL E l cs → RL E l' cs' → R E (.fn f l l') (.func (.func f) cs.toArray cs'.toArray)
  | ifc {t : TypeId} {v : AV} {c : Value} : R E v c → R E (.ifc t v) (.iface t c)
inductive RL (E : Env) : List AV → List Value → Prop
  | nil : RL E [] []
  | cons {v : AV} {c : Value} {l : List AV} {cs : List Value} : R E v c → RL E l cs → RL E (v :: l) (c :: cs)
end

def GLe (G G' : Gh) : Prop := ∀ b o c, G b o = some c → G' b o = some c

mutual
theorem RP.mono {G G' : Gh} (h : GLe G G') {v : AV} {c : Value} (r : RP G v c) : RP G' v c :=
  match r with
  | .undef c => .undef c
  | .bool b => .bool b
  | .int k n => .int k n
  | .str s => .str s
  | .agg l => .agg (RPL.mono h l)
  | .tup l => .tup (RPL.mono h l)
  | .nilp => .nilp
  | .rp l => .rp (RG.mono h l)
  | .nils => .nils
  | .ro l f n => .ro (RG.mono h l) f n
  | .fn l l' => .fn (RPL.mono h l) (RPL.mono h l')
  | .nilf => .nilf
  | .nili => .nili
  | .ifc v => .ifc (RP.mono h v)
theorem RPL.mono {G G' : Gh} (h : GLe G G') {v : List AV} {c : List Value} (r : RPL G v c) : RPL G' v c :=
  match r with
  | .nil => .nil
  | .cons a l => .cons (RP.mono h a) (RPL.mono h l)
theorem RG.mono {G G' : Gh} (h : GLe G G') {b o : Nat} {l : List AV} (r : RG G b o l) : RG G' b o l :=
  match r with
  | .nil b o => .nil b o
  | .cons a v l => .cons (h _ _ _ a) (RP.mono h v) (RG.mono h l)
end

structure ELe (E E' : Env) : Prop where
  ρ : ∀ (id : Nat) (x : Nat × Nat), E.at id = some x → E'.at id = some x
  G : GLe E.G E'.G
  len : E.ρ.length ≤ E'.ρ.length
  un : ∀ (id : Nat), id < E.ρ.length → E.at id = none → E'.at id = none

theorem ELe.refl (E : Env) : ELe E E := ⟨fun _ _ h => h, fun _ _ _ h => h, Nat.le_refl _, fun _ _ h => h⟩
theorem ELe.trans {a b c : Env} (h : ELe a b) (k : ELe b c) : ELe a c :=
  ⟨fun i x e => k.ρ _ _ (h.ρ i x e), fun b o c e => k.G _ _ _ (h.G b o c e), Nat.le_trans h.len k.len, fun i hi e => k.un i (Nat.lt_of_lt_of_le hi h.len) (h.un i hi e)⟩

mutual
theorem R.mono {E E' : Env} (h : ELe E E') {v : AV} {c : Value} (r : R E v c) : R E' v c :=
  match r with
  | .pers p => .pers (p.mono h.G)
  | .agg l => .agg (RL.mono h l)
  | .tup l => .tup (RL.mono h l)
  | .own e => .own (h.ρ _ _ e)
  | .sl e a b c => .sl (h.ρ _ _ e) a b c
  | .fn l l' => .fn (RL.mono h l) (RL.mono h l')
  | .ifc v => .ifc (R.mono h v)
theorem RL.mono {E E' : Env} (h : ELe E E') {v : List AV} {c : List Value} (r : RL E v c) : RL E' v c :=
  match r with
  | .nil => .nil
  | .cons a l => .cons (R.mono h a) (RL.mono h l)
end

theorem RPL.rl {E : Env} : ∀ {l : List AV} {cs : List Value}, RPL E.G l cs → RL E l cs
  | _, _, .nil => .nil
  | _, _, .cons a l => .cons (.pers a) (RPL.rl l)

section inv
variable {E : Env} {c : Value}
theorem R.bool_inv {b : Bool} (h : R E (.bool b) c) : c = .bool b := by cases h with | pers h => cases h; rfl
theorem R.int_inv {k : IntKind} {n : Int} (h : R E (.int k n) c) : c = .int k n := by cases h with | pers h => cases h; rfl
theorem R.str_inv {s : List UInt8} (h : R E (.str s) c) : c = .string ⟨s.toArray⟩ := by cases h with | pers h => cases h; rfl
theorem R.agg_inv {l : List AV} (h : R E (.agg l) c) : ∃ cs, c = .agg cs.toArray ∧ RL E l cs := by
  cases h with
  | pers h => cases h with | agg h => exact ⟨_, rfl, h.rl⟩
  | agg h => exact ⟨_, rfl, h⟩
theorem R.tup_inv {l : List AV} (h : R E (.tup l) c) : ∃ cs, c = .tuple cs.toArray ∧ RL E l cs := by
  cases h with
  | pers h => cases h with | tup h => exact ⟨_, rfl, h.rl⟩
  | tup h => exact ⟨_, rfl, h⟩
theorem R.nilp_inv (h : R E .nilp c) : c = .pointer none := by cases h with | pers h => cases h; rfl
theorem R.nils_inv (h : R E .nils c) : c = .slice none 0 0 := by cases h with | pers h => cases h; rfl
theorem R.nilf_inv (h : R E .nilf c) : c = .nilFunc := by cases h with | pers h => cases h; rfl
theorem R.nili_inv (h : R E .nili c) : c = .nilIface := by cases h with | pers h => cases h; rfl
theorem R.own_inv {id off : Nat} (h : R E (.own id off) c) : ∃ b m, E.at id = some (b, m) ∧ c = .pointer (some ⟨b, off, none⟩) := by
  cases h with
  | pers h => cases h
  | own e => exact ⟨_, _, e, rfl⟩
theorem R.rp_inv {l : List AV} (h : R E (.rp l) c) : ∃ b o, c = .pointer (some ⟨b, o, none⟩) ∧ RG E.G b o l := by
  cases h with | pers h => cases h with | rp h => exact ⟨_, _, rfl, h⟩
theorem R.ro_inv {full : Bool} {len : Nat} {l : List AV} (h : R E (.ro full len l) c) : ∃ b o cap, c = .slice (some ⟨b, o, none⟩) len cap ∧ RG E.G b o l ∧ (full = true → cap = len) ∧ len ≤ cap := by
  cases h with | pers h => cases h with | ro h f n => exact ⟨_, _, _, rfl, h, f, n⟩
theorem R.sl_inv {sz id off len : Nat} {co : Option Nat} (h : R E (.sl sz id off len co) c) : ∃ b m cap, E.at id = some (b, m) ∧ c = .slice (some ⟨b, off, none⟩) len cap ∧ (∀ x, co = some x → cap = x) ∧ len ≤ cap ∧ off + cap * sz ≤ m := by
  cases h with
  | pers h => cases h
  | sl e a b c => exact ⟨_, _, _, e, rfl, a, b, c⟩
theorem R.fn_inv {f : FuncId} {l l' : List AV} (h : R E (.fn f l l') c) : ∃ cs cs', c = .func (.func f) cs.toArray cs'.toArray ∧ RL E l cs ∧ RL E l' cs' := by
  cases h with
  | pers h => cases h with | fn h h' => exact ⟨_, _, rfl, h.rl, h'.rl⟩
  | fn h h' => exact ⟨_, _, rfl, h, h'⟩
theorem R.ifc_inv {t : TypeId} {v : AV} (h : R E (.ifc t v) c) : ∃ c', c = .iface t c' ∧ R E v c' := by
  cases h with
  | pers h => cases h with | ifc h => exact ⟨_, rfl, .pers h⟩
  | ifc h => exact ⟨_, rfl, h⟩
end inv

theorem RL.length {E : Env} : ∀ {l : List AV} {cs : List Value}, RL E l cs → l.length = cs.length
  | _, _, .nil => rfl
  | _, _, .cons _ l => by simp [RL.length l]

theorem RL.get {E : Env} : ∀ {l : List AV} {cs : List Value}, RL E l cs → ∀ i, i < l.length → ∃ c, cs[i]? = some c ∧ R E (l.getD i .undef) c
  | _, _, .nil, i, h => by simp at h
  | _, _, .cons a l, 0, _ => ⟨_, rfl, a⟩
  | _, _, .cons a l, i + 1, h => by
    obtain ⟨c, h1, h2⟩ := RL.get l i (by simpa using h)
    exact ⟨c, by simpa using h1, by simpa using h2⟩

theorem RL.append {E : Env} {l l' : List AV} {cs cs' : List Value} (h : RL E l cs) (h' : RL E l' cs') : RL E (l ++ l') (cs ++ cs') := by
  induction l generalizing cs with
  | nil => cases h; exact h'
  | cons v l ih => cases h with | cons a l => exact .cons a (ih l)

theorem RL.set {E : Env} {v : AV} {c : Value} (hv : R E v c) : ∀ {l : List AV} {cs : List Value}, RL E l cs → ∀ i, RL E (l.set i v) (cs.set i c)
  | _, _, .nil, _ => .nil
  | _, _, .cons _ l, 0 => .cons hv l
  | _, _, .cons a l, i + 1 => .cons a (RL.set hv l i)

theorem RL.drop {E : Env} : ∀ {l : List AV} {cs : List Value}, RL E l cs → ∀ i, RL E (l.drop i) (cs.drop i)
  | _, _, h, 0 => h
  | _, _, .nil, _ + 1 => .nil
  | _, _, .cons _ l, i + 1 => RL.drop l i

theorem RL.take {E : Env} : ∀ {l : List AV} {cs : List Value}, RL E l cs → ∀ i, RL E (l.take i) (cs.take i)
  | _, _, _, 0 => by simp; exact .nil
  | _, _, .nil, _ + 1 => .nil
  | _, _, .cons a l, i + 1 => .cons a (RL.take l i)

theorem RG.get {G : Gh} : ∀ {b o : Nat} {l : List AV}, RG G b o l → ∀ i, i < l.length → ∃ c, G b (o + i) = some c ∧ RP G (l.getD i .undef) c
  | _, _, _, .nil _ _, i, h => by simp at h
  | _, _, _, .cons a v l, 0, _ => ⟨_, a, v⟩
  | _, _, _, .cons a v l, i + 1, h => by
    obtain ⟨c, h1, h2⟩ := RG.get l i (by simpa using h)
    exact ⟨c, by rw [← h1]; congr 1; omega, by simpa using h2⟩

theorem RG.drop {G : Gh} : ∀ {b o : Nat} {l : List AV}, RG G b o l → ∀ i, RG G b (o + i) (l.drop i)
  | _, _, _, h, 0 => h
  | _, _, _, .nil _ _, _ + 1 => .nil _ _
  | b, o, _, .cons _ _ l, i + 1 => by
    have := RG.drop l i
    have e : o + 1 + i = o + (i + 1) := by omega
    rw [e] at this
    exact this

theorem RG.take {G : Gh} : ∀ {b o : Nat} {l : List AV}, RG G b o l → ∀ i, RG G b o (l.take i)
  | _, _, _, _, 0 => by simp; exact .nil _ _
  | _, _, _, .nil _ _, _ + 1 => .nil _ _
  | _, _, _, .cons a v l, i + 1 => .cons a v (RG.take l i)

/-! ### The class of worlds -/

def OwnB (E : Env) (H : Heap) (b : Nat) : Prop := ∃ (id : Nat) (blk : Blk) (m : Nat), H[id]? = some (some blk) ∧ E.at id = some (b, m)

/-- A variable's block has no more cells than the table says. -/
def ExG (w : World) (g : Nat) (l : List AV) : Prop := l ≠ [] → ∃ cs ty fr, w.heap[g]? = some (Obj.cells cs ty fr) ∧ cs.size = l.length

structure Inv (C : Ctx) (E : Env) (H : Heap) (w : World) : Prop where
  len : E.ρ.length = H.length
  g : ∀ b o c, E.G b o = some c → w.cell? ⟨b, o, none⟩ = some c
  sep : ∀ b o c, E.G b o = some c → ¬ OwnB E H b
  blk : ∀ (id : Nat) (blk : Blk), H[id]? = some (some blk) → ∃ (b m : Nat) (cs rest : List Value), E.at id = some (b, m) ∧ w.heap[b]? = some (Obj.cells (cs ++ rest).toArray blk.ty (0, 0)) ∧ (cs ++ rest).length = m ∧ RL E blk.cells cs
  inj : ∀ (id id' : Nat) (blk blk' : Blk) (b m m' : Nat), H[id]? = some (some blk) → H[id']? = some (some blk') → E.at id = some (b, m) → E.at id' = some (b, m') → id = id'
  glob : ∀ g l, C.glob g = some l → RG E.G g 0 l
  ex : ∀ g l, C.glob g = some l → ExG w g l

structure Stp (E : Env) (H : Heap) (w : World) (E' : Env) (H' : Heap) (w' : World) : Prop where
  g : GLe E.G E'.G
  gn : ∀ b o c, E'.G b o = some c → E.G b o = some c ∨ w.heap.size ≤ b ∨ OwnB E H b
  own : ∀ b, OwnB E' H' b → OwnB E H b ∨ w.heap.size ≤ b
  unt : ∀ b, b < w.heap.size → ¬ OwnB E H b → w'.heap[b]? = w.heap[b]?
  size : w.heap.size ≤ w'.heap.size
  os : w'.os = w.os
  tape : w'.tape = w.tape
  output : w'.output = w.output

theorem Stp.refl (E : Env) (H : Heap) (w : World) : Stp E H w E H w :=
  ⟨fun _ _ _ h => h, fun _ _ _ h => .inl h, fun _ h => .inl h, fun _ _ _ => rfl, Nat.le_refl _, rfl, rfl, rfl⟩

theorem Stp.trans {E E' E'' : Env} {H H' H'' : Heap} {w w' w'' : World} (h : Stp E H w E' H' w') (k : Stp E' H' w' E'' H'' w'') : Stp E H w E'' H'' w'' where
  g := fun b o c e => k.g _ _ _ (h.g b o c e)
  gn := fun b o c e => by
    rcases k.gn b o c e with h1 | h1 | h1
    · exact h.gn b o c h1
    · exact .inr (.inl (Nat.le_trans h.size h1))
    · rcases h.own b h1 with h2 | h2
      · exact .inr (.inr h2)
      · exact .inr (.inl h2)
  own := fun b e => by
    rcases k.own b e with h1 | h1
    · exact h.own b h1
    · exact .inr (Nat.le_trans h.size h1)
  unt := fun b hb hn => by
    rw [k.unt b (Nat.lt_of_lt_of_le hb h.size) (fun ho => (h.own b ho).elim hn (fun h2 => by omega)), h.unt b hb hn]
  size := Nat.le_trans h.size k.size
  os := k.os.trans h.os
  tape := k.tape.trans h.tape
  output := k.output.trans h.output
end Go.Ev

/- Evaluator: soundness, part 1: cells, loads, stores, new blocks. -/
namespace Go.Ev

/-- What the tables say of the program's types. -/
def TyOk (C : Ctx) : Prop := ∀ t, (C.ty t).ok = true →
  (∃ d, C.P.underlying t = some d ∧ D.of d = (C.ty t).desc) ∧
  ∃ i, C.P.info? t = some i ∧ i.size = (C.ty t).size ∧ i.bytes = (C.ty t).bytes ∧ ∀ z, (C.ty t).zero = some z → ∃ zv, i.zero = some zv ∧ (ofV zv).cells = z

section
variable {C : Ctx} {E : Env} {H : Heap} {w : World}

theorem cell_of {l : List Value} {b o : Nat} {ty : TypeId} {fr : Nat × Nat} (hb : w.heap[b]? = some (.cells l.toArray ty fr)) : w.cell? ⟨b, o, none⟩ = l[o]? := by
  simp [World.cell?, hb]

theorem addr_add (b o i : Nat) : (⟨b, o, none⟩ : Addr).add i = ⟨b, o + i, none⟩ := by
  unfold Addr.add; split
  · simp_all
  · rfl

theorem expose_eq {d : D} {x v : AV} (h : (expose d x).run = some v) : v = x := by
  unfold expose at h
  split at h
  · obtain ⟨h1, h2⟩ := T.of_chk h
    cases x <;> simp [AV.isI] at h1
    subst h1; simpa [T.run, AV.toI] using h2.symm
  · obtain ⟨h1, h2⟩ := T.of_chk h
    cases x <;> simp [AV.isB] at h1
    simpa [T.run, AV.toB] using h2.symm
  · obtain ⟨h1, h2⟩ := T.of_chk h
    cases x <;> simp [AV.isS] at h1
    simpa [T.run, AV.toS] using h2.symm
  · rcases T.of_br h with ⟨h1, h2⟩ | ⟨_, h2⟩
    · cases x <;> simp [AV.isRo] at h1
      simpa [T.run, AV.roF, AV.roN, AV.roL] using h2.symm
    · simpa [T.run] using (T.of_chk h2).2.symm
  · simpa [T.run] using (T.of_chk h).2.symm

theorem exposeL_eq : ∀ (ds : List D) (l : List AV) (i : Nat) {vs : List AV}, (exposeL ds l i).run = some vs → i + ds.length ≤ l.length → vs = (l.drop i).take ds.length
  | [], l, i, vs, h, _ => by simp [exposeL, T.run] at h; simp [← h]
  | d :: ds, l, i, vs, h, hl => by
    simp only [exposeL] at h
    obtain ⟨v, hv, h⟩ := T.of_bind h
    obtain ⟨vs', hvs, h⟩ := T.of_bind h
    simp only [T.run, Option.some.injEq] at h
    subst h
    have e1 := expose_eq hv
    have e2 := exposeL_eq ds l (i + 1) hvs (by simp at hl; omega)
    have hi : i < l.length := by simp at hl; omega
    subst e1 e2
    rw [List.length_cons, List.drop_eq_getElem_cons hi, List.take_succ_cons]
    congr 1
    simp [List.getD, hi]

theorem getT_eq {ti : TI} {l : List AV} {i : Nat} {v : AV} (h : (getT ti l i).run = some v) :
    ti.ok = true ∧ ((isAggD ti.desc = true ∧ i + ti.size ≤ l.length ∧ v = .agg ((l.drop i).take ti.size)) ∨ (isAggD ti.desc = false ∧ i < l.length ∧ v = l.getD i .undef)) := by
  unfold getT at h
  split at h
  · rename_i ha
    obtain ⟨h1, h2⟩ := T.of_chk h
    simp only [Bool.and_eq_true, Nat.beq_eq, Nat.ble_eq] at h1
    obtain ⟨⟨h0, h1⟩, h3⟩ := h1
    obtain ⟨vs, hvs, h2⟩ := T.of_bind h2
    simp only [T.run, Option.some.injEq] at h2
    have := exposeL_eq _ _ _ hvs (by omega)
    rw [h1] at this
    exact ⟨h0, .inl ⟨ha, h3, by rw [← h2, this]⟩⟩
  · rename_i ha
    obtain ⟨h1, h2⟩ := T.of_chk h
    simp only [Bool.and_eq_true, Nat.ble_eq] at h1
    exact ⟨h1.1, .inr ⟨ha, h1.2, expose_eq h2⟩⟩

theorem run_isAgg (hT : TyOk C) {t : TypeId} (h : (C.ty t).ok = true) : (isAgg t).run C.P w = .ok (isAggD (C.ty t).desc) w := by
  obtain ⟨⟨d, hd, he⟩, _⟩ := hT t h
  rw [← he]
  cases d <;> simp [isAgg, run_underlying hd, D.of, isAggD]

theorem run_sizeOf (hT : TyOk C) {t : TypeId} (h : (C.ty t).ok = true) : (sizeOf t).run C.P w = .ok (C.ty t).size w := by
  obtain ⟨_, i, hi, hs, _⟩ := hT t h
  simp [sizeOf, typeInfo, hi, hs]

theorem run_info (hT : TyOk C) {t : TypeId} (h : (C.ty t).ok = true) : ∃ i, (∀ w, (typeInfo t).run C.P w = .ok i w) ∧ C.P.info? t = some i ∧ i.size = (C.ty t).size ∧ i.bytes = (C.ty t).bytes ∧ ∀ z, (C.ty t).zero = some z → ∃ zv, i.zero = some zv ∧ (ofV zv).cells = z := by
  obtain ⟨_, i, hi, hs, hb, hz⟩ := hT t h
  exact ⟨i, fun w => by simp [typeInfo, hi], hi, hs, hb, hz⟩

theorem RP_ofV1 (G : Gh) (c : Value) : RP G (ofV1 c) c := by
  unfold ofV1
  split
  · exact .bool _
  · exact .int _ _
  · rename_i s
    have := RP.str (G := G) s.data.toList
    simpa using this
  · exact .nilp
  · exact .nils
  · exact .nilf
  · exact .nili
  · exact .undef _

theorem RPL_ofV1 (G : Gh) : ∀ (cs : List Value), RPL G (cs.map ofV1) cs
  | [] => .nil
  | c :: cs => .cons (RP_ofV1 G c) (RPL_ofV1 G cs)

theorem RP_ofV (G : Gh) (c : Value) : RP G (ofV c) c := by
  unfold ofV
  split
  · rename_i cs
    have := RP.agg (RPL_ofV1 G cs.toList)
    simpa using this
  · rename_i cs
    have := RP.tup (RPL_ofV1 G cs.toList)
    simpa using this
  · exact RP_ofV1 G c

theorem ofV1_cells (c : Value) : (ofV1 c).cells = [ofV1 c] := by
  unfold ofV1; split <;> rfl

theorem RPL_ofV_cells (G : Gh) (c : Value) : RPL G (ofV c).cells c.cells.toList := by
  cases c with
  | agg cs => simpa [ofV, AV.cells, Value.cells] using RPL_ofV1 G cs.toList
  | tuple cs =>
    have := RP_ofV G (.tuple cs)
    simpa [ofV, AV.cells, Value.cells] using RPL.cons this .nil
  | _ => 
    simp only [ofV, ofV1_cells, Value.cells]
    exact .cons (RP_ofV1 G _) .nil

/-- The cells of a value. -/
theorem R.cells {v : AV} {c : Value} (h : R E v c) (hu : v ≠ .undef) : RL E v.cells c.cells.toList := by
  cases v with
  | undef => exact absurd rfl hu
  | agg l => obtain ⟨cs, rfl, hl⟩ := h.agg_inv; simpa [AV.cells, Value.cells] using hl
  | bool b => cases h.bool_inv; exact .cons h .nil
  | int k n => cases h.int_inv; exact .cons h .nil
  | str s => cases h.str_inv; exact .cons h .nil
  | tup l => obtain ⟨cs, rfl, _⟩ := h.tup_inv; exact .cons h .nil
  | nilp => cases h.nilp_inv; exact .cons h .nil
  | own id off => obtain ⟨b, m, _, rfl⟩ := h.own_inv; exact .cons h .nil
  | rp l => obtain ⟨b, m, rfl, _⟩ := h.rp_inv; exact .cons h .nil
  | sl sz id off len cap => obtain ⟨b, m, c, _, rfl, _⟩ := h.sl_inv; exact .cons h .nil
  | nils => cases h.nils_inv; exact .cons h .nil
  | ro f n l => obtain ⟨b, m, c, rfl, _⟩ := h.ro_inv; exact .cons h .nil
  | fn f l l' => obtain ⟨b, m, rfl, _⟩ := h.fn_inv; exact .cons h .nil
  | nilf => cases h.nilf_inv; exact .cons h .nil
  | nili => cases h.nili_inv; exact .cons h .nil
  | ifc t v => obtain ⟨c, rfl, _⟩ := h.ifc_inv; exact .cons h .nil

theorem R.oneCell {v : AV} {c : Value} (h : R E v c) (ho : v.one = true) : c.oneCell' = true := by
  cases v with
  | undef => simp [AV.one] at ho
  | agg l => simp [AV.one] at ho
  | tup l => simp [AV.one] at ho
  | bool b => cases h.bool_inv; rfl
  | int k n => cases h.int_inv; rfl
  | str s => cases h.str_inv; rfl
  | nilp => cases h.nilp_inv; rfl
  | own id off => obtain ⟨b, m, _, rfl⟩ := h.own_inv; rfl
  | rp l => obtain ⟨b, m, rfl, _⟩ := h.rp_inv; rfl
  | sl sz id off len cap => obtain ⟨b, m, c, _, rfl, _⟩ := h.sl_inv; rfl
  | nils => cases h.nils_inv; rfl
  | ro f n l => obtain ⟨b, m, c, rfl, _⟩ := h.ro_inv; rfl
  | fn f l l' => obtain ⟨b, m, rfl, _⟩ := h.fn_inv; rfl
  | nilf => cases h.nilf_inv; rfl
  | nili => cases h.nili_inv; rfl
  | ifc t v => obtain ⟨c, rfl, _⟩ := h.ifc_inv; rfl

theorem RL.oneCells : ∀ {l : List AV} {cs : List Value}, RL E l cs → oneL l = true → ∀ c ∈ cs, c.oneCell' = true
  | _, _, .nil, _ => by simp
  | _, _, .cons a l, h => by
    simp only [oneL, Bool.and_eq_true] at h
    intro c hc
    rcases List.mem_cons.1 hc with rfl | hc
    · exact a.oneCell h.1
    · exact RL.oneCells l h.2 c hc

theorem hget_eq {id : Nat} {b : Blk} (h : hget H id = some b) : H[id]? = some (some b) := by
  unfold hget at h
  split at h
  · rename_i b' hb; rw [hb]; simp at h; rw [h]
  · simp at h

/-- A load of a type out of a row of cells. -/
theorem load_row (hT : TyOk C) {t : TypeId} {l : List AV} {cs rest : List Value} {off b : Nat} {v : AV} (h : (getT (C.ty t) l off).run = some v) (hr : RL E l cs)
    (hc : ∀ j x, cs[j]? = some x → w.cell? ⟨b, j + rest.length, none⟩ = some x) :
    ∃ c, (loadVar t ⟨b, off + rest.length, none⟩).run C.P w = .ok c w ∧ R E v c := by
  obtain ⟨hok, h⟩ := getT_eq h
  have hlen := hr.length
  rcases h with ⟨ha, hl, rfl⟩ | ⟨ha, hl, rfl⟩
  · refine ⟨.agg ((cs.drop off).take (C.ty t).size).toArray, ?_, .agg ((hr.drop off).take _)⟩
    have hlc := run_loadCells_list (P := C.P) w ⟨b, off + rest.length, none⟩ ((cs.drop off).take (C.ty t).size) (fun j x hx => by
      rw [addr_add]
      have hj : j < (C.ty t).size := by
        rcases Nat.lt_or_ge j (C.ty t).size with h | h
        · exact h
        · rw [List.getElem?_eq_none (by simp; omega)] at hx; cases hx
      rw [List.getElem?_take_of_lt hj, List.getElem?_drop] at hx
      have := hc _ _ hx
      rwa [show off + rest.length + j = off + j + rest.length by omega])
    have e : ((cs.drop off).take (C.ty t).size).length = (C.ty t).size := by simp; omega
    rw [e] at hlc
    simp [loadVar, run_isAgg hT hok, ha, run_sizeOf hT hok, hlc]
  · obtain ⟨c, h1, h2⟩ := hr.get off hl
    refine ⟨c, ?_, h2⟩
    simp [loadVar, run_isAgg hT hok, ha, hc _ _ h1]

theorem RG.rl {b : Nat} : ∀ {l : List AV} {o : Nat}, RG E.G b o l → ∃ cs : List Value, RL E l cs ∧ ∀ j x, cs[j]? = some x → E.G b (o + j) = some x
  | _, _, .nil _ _ => ⟨[], .nil, by simp⟩
  | _, _, .cons (c := c) a v l => by
    obtain ⟨cs, h1, h2⟩ := RG.rl l
    refine ⟨c :: cs, .cons (.pers v) h1, fun j x hx => ?_⟩
    cases j with
    | zero => simp at hx; subst hx; exact a
    | succ j => simp at hx; rw [← h2 j x hx]; congr 1; omega

theorem loadA_ok (hT : TyOk C) (hI : Inv C E H w) {t : TypeId} {p v : AV} {c : Value} (h : (loadA C H t p).run = some v) (hp : R E p c) :
    ∃ x, (Instr.loadAt t c).run C.P w = .ok x w ∧ R E v x := by
  unfold loadA at h
  split at h
  · rename_i id off
    split at h
    · rename_i blk hb
      obtain ⟨b, m, e1, rfl⟩ := hp.own_inv
      obtain ⟨b', m', cs, rest, e2, hh, hm, hr⟩ := hI.blk id blk (hget_eq hb)
      rw [e1] at e2; cases e2
      obtain ⟨x, h1, h2⟩ := load_row (rest := []) (b := b) (w := w) hT h hr (fun j x hx => by
        have hj : j < cs.length := by
          rcases Nat.lt_or_ge j cs.length with h | h
          · exact h
          · rw [List.getElem?_eq_none h] at hx; cases hx
        rw [cell_of hh]; simp [List.getElem?_append_left hj, hx])
      exact ⟨x, by simpa [Instr.loadAt, Instr.sureAddr] using h1, h2⟩
    · simp [T.run] at h
  · rename_i l
    obtain ⟨b, o, rfl, hg⟩ := hp.rp_inv
    obtain ⟨cs, hr, hc⟩ := RG.rl hg
    obtain ⟨x, h1, h2⟩ := load_row (rest := List.replicate o (.bool true)) (b := b) (w := w) hT h hr (fun j x hx => by
      have := hI.g _ _ _ (hc j x hx)
      simpa [Nat.add_comm] using this)
    exact ⟨x, by simpa [Instr.loadAt, Instr.sureAddr] using h1, h2⟩
  · simp [T.run] at h
end
end Go.Ev

/- Evaluator: soundness, part 2: how a world's class goes on: a store, a new block, a new block that is only read, a block given up. -/
namespace Go.Ev

section
variable {C : Ctx} {E : Env} {H : Heap} {w : World}

theorem heap_setRow_ne {b k : Nat} (cs : Array Value) (h : k ≠ b) : (w.setRow b cs).heap[k]? = w.heap[k]? := by
  unfold World.setRow
  simp [Array.getElem?_modify, Ne.symm h]

theorem size_setRow (b : Nat) (cs : Array Value) : (w.setRow b cs).heap.size = w.heap.size := by
  unfold World.setRow; simp

theorem cell_setRow_ne {b : Nat} {a : Addr} (cs : Array Value) (h : a.block ≠ b) : (w.setRow b cs).cell? a = w.cell? a := by
  unfold World.cell?; rw [heap_setRow_ne cs h]

theorem ownB_set {id b' : Nat} {blk blk' : Blk} (hb : H[id]? = some (some blk)) (h : OwnB E (H.set id (some blk')) b') : OwnB E H b' := by
  obtain ⟨i, bl, m, h1, h2⟩ := h
  by_cases hi : id = i
  · subst hi; exact ⟨id, blk, m, hb, h2⟩
  · rw [List.getElem?_set_ne hi] at h1; exact ⟨i, bl, m, h1, h2⟩

theorem ownB_set' {id b' : Nat} {blk blk' : Blk} (hb : H[id]? = some (some blk)) (h : OwnB E H b') : OwnB E (H.set id (some blk')) b' := by
  obtain ⟨i, bl, m, h1, h2⟩ := h
  by_cases hi : id = i
  · subst hi
    have hlt : id < H.length := by
      rcases Nat.lt_or_ge id H.length with h | h
      · exact h
      · rw [List.getElem?_eq_none h] at hb; cases hb
    exact ⟨id, blk', m, by simp [hlt], h2⟩
  · exact ⟨i, bl, m, by rw [List.getElem?_set_ne hi]; exact h1, h2⟩

/-- A store into a block of the call's own. -/
theorem Inv.ex_of (hI : Inv C E H w) {w' : World} (h : ∀ b, b < w.heap.size → ¬ OwnB E H b → w'.heap[b]? = w.heap[b]?) : ∀ g l, C.glob g = some l → ExG w' g l := by
  intro g l hg hl
  obtain ⟨cs, ty, fr, h1, h2⟩ := hI.ex g l hg hl
  have h3 := hI.glob g l hg
  cases h3 with
  | nil => exact absurd rfl hl
  | cons hc _ _ =>
    refine ⟨cs, ty, fr, ?_, h2⟩
    rw [h g ?_ (hI.sep _ _ _ hc)]
    · exact h1
    · rcases Nat.lt_or_ge g w.heap.size with h | h
      · exact h
      · rw [Array.getElem?_eq_none h] at h1; cases h1
theorem inv_set (hI : Inv C E H w) {id b m : Nat} {blk : Blk} {cells : List AV} {cs rest : List Value} (hb : H[id]? = some (some blk)) (he : E.at id = some (b, m))
    (hr : RL E cells cs) (hm : (cs ++ rest).length = m) :
    Inv C E (H.set id (some { blk with cells := cells })) (w.setRow b (cs ++ rest).toArray) ∧ Stp E H w E (H.set id (some { blk with cells := cells })) (w.setRow b (cs ++ rest).toArray) := by
  have hown : OwnB E H b := ⟨id, blk, m, hb, he⟩
  have hlt : id < H.length := by
    rcases Nat.lt_or_ge id H.length with h | h
    · exact h
    · rw [List.getElem?_eq_none h] at hb; cases hb
  obtain ⟨b0, m0, cs0, rest0, e0, hh0, hm0, hr0⟩ := hI.blk id blk hb
  rw [he] at e0; cases e0
  refine ⟨⟨by simpa using hI.len, ?_, ?_, ?_, ?_, hI.glob, hI.ex_of fun b' _ hno => by rw [heap_setRow_ne]; intro e; subst e; exact hno hown⟩, ⟨fun _ _ _ h => h, fun _ _ _ h => .inl h, fun b' h => .inl (ownB_set hb h), ?_, by rw [size_setRow]; exact Nat.le_refl _, rfl, rfl, rfl⟩⟩
  · intro b' o c hg
    have hne : b' ≠ b := fun e => hI.sep _ _ _ hg (e ▸ hown)
    rw [cell_setRow_ne _ (by exact hne)]; exact hI.g _ _ _ hg
  · intro b' o c hg ho
    exact hI.sep _ _ _ hg (ownB_set hb ho)
  · intro i bl hi
    by_cases e : id = i
    · subst e
      rw [List.getElem?_set_self hlt] at hi
      cases hi
      exact ⟨b, m, cs, rest, he, setRow_heap w b _ _ _ _ hh0, hm, hr⟩
    · rw [List.getElem?_set_ne e] at hi
      obtain ⟨b1, m1, cs1, rest1, e1, hh1, hm1, hr1⟩ := hI.blk i bl hi
      refine ⟨b1, m1, cs1, rest1, e1, ?_, hm1, hr1⟩
      rw [heap_setRow_ne]
      · exact hh1
      · intro hbb; subst hbb; exact e (hI.inj _ _ _ _ _ _ _ hb hi he e1)
  · intro i i' bl bl' b1 m1 m1' hi hi' e1 e1'
    have : ∀ {j : Nat} {x : Blk}, (H.set id (some { blk with cells := cells }))[j]? = some (some x) → ∃ y, H[j]? = some (some y) := fun {j x} hj => by
      by_cases e : id = j
      · subst e; exact ⟨blk, hb⟩
      · rw [List.getElem?_set_ne e] at hj; exact ⟨x, hj⟩
    obtain ⟨y, hy⟩ := this hi
    obtain ⟨y', hy'⟩ := this hi'
    exact hI.inj _ _ _ _ _ _ _ hy hy' e1 e1'
  · intro b' _ hno
    rw [heap_setRow_ne]
    intro e; subst e; exact hno hown

theorem heap_alloc_lt (o : Obj) {k : Nat} (h : k < w.heap.size) : (w.alloc o).heap[k]? = w.heap[k]? := by
  show (w.heap.push o)[k]? = _
  rw [Array.getElem?_push, if_neg (by omega)]
theorem heap_alloc_eq (o : Obj) : (w.alloc o).heap[w.heap.size]? = some o := by
  show (w.heap.push o)[w.heap.size]? = _
  rw [Array.getElem?_push, if_pos rfl]
theorem size_alloc (o : Obj) : (w.alloc o).heap.size = w.heap.size + 1 := by
  show (w.heap.push o).size = _
  simp

theorem lt_of_get {b : Nat} {o : Obj} (h : w.heap[b]? = some o) : b < w.heap.size := (Array.getElem?_eq_some_iff.1 h).1

theorem block_of_cell {b o : Nat} {c : Value} (h : w.cell? ⟨b, o, none⟩ = some c) : b < w.heap.size := by
  unfold World.cell? at h
  split at h
  · rename_i hh; exact lt_of_get hh
  · cases h

theorem cell_alloc_lt (o : Obj) {a : Addr} (h : a.block < w.heap.size) : (w.alloc o).cell? a = w.cell? a := by
  unfold World.cell?; rw [heap_alloc_lt o h]

theorem Inv.own_lt (hI : Inv C E H w) {b : Nat} (h : OwnB E H b) : b < w.heap.size := by
  obtain ⟨id, blk, m, h1, h2⟩ := h
  obtain ⟨b0, m0, cs, rest, e, hh, _⟩ := hI.blk id blk h1
  rw [h2] at e; cases e
  exact lt_of_get hh

/-- The environment with one block of the call's own more. -/
def Env.more (E : Env) (b m : Nat) : Env := { E with ρ := E.ρ ++ [some (b, m)] }

theorem ELe.more (E : Env) (b m : Nat) : ELe E (E.more b m) :=
  ⟨fun id x h => by
    have := Env.at_lt h
    rw [Env.at_get] at h ⊢
    simp [Env.more, List.getElem?_append_left this, h], fun _ _ _ h => h, by simp [Env.more], fun id hi h => by
    unfold Env.at at h ⊢
    simp only [Env.more]
    rw [List.getElem?_append_left hi]; exact h⟩

/-- A new block of the call's own, at block 'b' (its content there already); 'H': what stays. -/
theorem inv_more {w' : World} (hI : Inv C E H w) {blk : Blk} {b m : Nat} {cs rest : List Value}
    (hG : ∀ b' o c, E.G b' o = some c → w'.cell? ⟨b', o, none⟩ = some c)
    (hold : ∀ (id : Nat) (bl : Blk) (b' m' : Nat), H[id]? = some (some bl) → E.at id = some (b', m') → w'.heap[b']? = w.heap[b']? ∧ b' ≠ b)
    (hsep : ∀ o c, E.G b o ≠ some c)
    (hb : w'.heap[b]? = some (.cells (cs ++ rest).toArray blk.ty (0, 0))) (hm : (cs ++ rest).length = m) (hr : RL (E.more b m) blk.cells cs) (hx : ∀ g l, C.glob g = some l → ExG w' g l) :
    Inv C (E.more b m) (alloc H blk) w' := by
  have hle := ELe.more E b m
  have hlen := hI.len
  have hget : ∀ {id : Nat} {bl : Blk}, (alloc H blk)[id]? = some (some bl) → (H[id]? = some (some bl) ∧ id < H.length) ∨ (id = H.length ∧ bl = blk) := fun {id bl} h => by
    unfold alloc at h
    rcases Nat.lt_or_ge id H.length with h' | h'
    · rw [List.getElem?_append_left h'] at h; exact .inl ⟨h, h'⟩
    · rw [List.getElem?_append_right h'] at h
      have : id - H.length = 0 := by
        rcases Nat.eq_zero_or_pos (id - H.length) with h0 | h0
        · exact h0
        · rw [List.getElem?_eq_none (by simp; omega)] at h; cases h
      rw [this] at h
      simp at h
      exact .inr ⟨by omega, h.symm⟩
  have hnew : (E.more b m).at H.length = some (b, m) := by rw [Env.at_get]; simp [Env.more, ← hlen]
  have hρ : ∀ {id : Nat} {x : Nat × Nat}, id < H.length → (E.more b m).at id = some x → E.at id = some x := fun {id x} h e => by
    rw [Env.at_get] at e ⊢
    simp only [Env.more] at e
    rwa [List.getElem?_append_left (by omega)] at e
  have hownM : ∀ {b'}, OwnB (E.more b m) (alloc H blk) b' → OwnB E H b' ∨ b' = b := fun {b'} ⟨id, bl, m', h1, h2⟩ => by
    rcases hget h1 with ⟨h3, h4⟩ | ⟨rfl, rfl⟩
    · exact .inl ⟨id, bl, m', h3, hρ h4 h2⟩
    · rw [hnew] at h2; cases h2; exact .inr rfl
  refine ⟨by simp [Env.more, alloc, hlen], hG, ?_, ?_, ?_, fun g l h => hI.glob g l h, hx⟩
  · intro b' o c hg ho
    rcases hownM ho with h | rfl
    · exact hI.sep _ _ _ hg h
    · exact hsep _ _ hg
  · intro id bl h
    rcases hget h with ⟨h1, h2⟩ | ⟨rfl, rfl⟩
    · obtain ⟨b1, m1, cs1, rest1, e1, hh1, hm1, hr1⟩ := hI.blk id bl h1
      exact ⟨b1, m1, cs1, rest1, hle.ρ _ _ e1, by rw [(hold id bl b1 m1 h1 e1).1]; exact hh1, hm1, hr1.mono hle⟩
    · exact ⟨b, m, cs, rest, hnew, hb, hm, hr⟩
  · intro i i' bl bl' b1 m1 m1' hi hi' e1 e1'
    rcases hget hi with ⟨h1, h2⟩ | ⟨rfl, rfl⟩
    · rcases hget hi' with ⟨h1', h2'⟩ | ⟨rfl, rfl⟩
      · exact hI.inj _ _ _ _ _ _ _ h1 h1' (hρ h2 e1) (hρ h2' e1')
      · rw [hnew] at e1'; cases e1'
        exact absurd rfl (hold i bl b m1 h1 (hρ h2 e1)).2
    · rcases hget hi' with ⟨h1', h2'⟩ | ⟨rfl, rfl⟩
      · rw [hnew] at e1; cases e1
        exact absurd rfl (hold i' bl' b m1' h1' (hρ h2' e1')).2
      · rfl

theorem own_more {blk : Blk} {b m b' : Nat} (hlen : E.ρ.length = H.length) (h : OwnB (E.more b m) (alloc H blk) b') : OwnB E H b' ∨ b' = b := by
  obtain ⟨id, bl, m', h1, h2⟩ := h
  unfold alloc at h1
  rcases Nat.lt_or_ge id H.length with h' | h'
  · rw [List.getElem?_append_left h'] at h1
    rw [Env.at_get] at h2
    simp only [Env.more] at h2
    rw [List.getElem?_append_left (by omega)] at h2
    exact .inl ⟨id, bl, m', h1, Env.at_get.2 h2⟩
  · rw [List.getElem?_append_right h'] at h1
    have : id = H.length := by
      rcases Nat.eq_zero_or_pos (id - H.length) with h0 | h0
      · omega
      · rw [List.getElem?_eq_none (by simp; omega)] at h1; cases h1
    subst this
    rw [Env.at_get] at h2
    simp [Env.more, ← hlen] at h2
    exact .inr h2.1.symm

/-- A new block, laid at the heap's end. -/
theorem inv_alloc (hI : Inv C E H w) {blk : Blk} {cs rest : List Value} (hr : RL E blk.cells cs) :
    Inv C (E.more w.heap.size (cs ++ rest).length) (alloc H blk) (w.alloc (.cells (cs ++ rest).toArray blk.ty)) ∧
    Stp E H w (E.more w.heap.size (cs ++ rest).length) (alloc H blk) (w.alloc (.cells (cs ++ rest).toArray blk.ty)) := by
  have hle := ELe.more E w.heap.size (cs ++ rest).length
  refine ⟨inv_more (rest := rest) hI ?_ ?_ ?_ (heap_alloc_eq _) rfl (hr.mono hle) (hI.ex_of fun b hb _ => heap_alloc_lt _ hb), ⟨hle.G, fun _ _ _ h => .inl h, ?_, ?_, by rw [size_alloc]; omega, rfl, rfl, rfl⟩⟩
  · intro b' o c hg
    have h1 := hI.g _ _ _ hg
    rw [cell_alloc_lt _ (block_of_cell h1)]; exact h1
  · intro id bl b' m' h1 h2
    have := hI.own_lt ⟨id, bl, m', h1, h2⟩
    exact ⟨heap_alloc_lt _ this, by omega⟩
  · intro o c hg
    have := block_of_cell (hI.g _ _ _ hg)
    omega
  · intro b' ho
    rcases own_more hI.len ho with h | h
    · exact .inl h
    · exact .inr (by omega)
  · intro b' hb _
    exact heap_alloc_lt _ hb

/-- The ghost cells with one block more. -/
def Env.ghost (E : Env) (b : Nat) (cs : List Value) : Env := { E with G := fun b' o => if b' = b then (match cs[o]? with | some c => some c | none => E.G b' o) else E.G b' o }

theorem RG_ghost {G : Gh} {b : Nat} : ∀ {l : List AV} {cs : List Value} (o : Nat), RPL G l cs → (∀ j x, cs[j]? = some x → G b (o + j) = some x) → RG G b o l
  | _, _, o, .nil, _ => .nil _ _
  | _, _, o, .cons (cs := cs) a l, h => .cons (h 0 _ rfl) a (RG_ghost (o + 1) l fun j x hx => by rw [← h (j + 1) x (by simpa using hx)]; congr 1; omega)

theorem GLe.ghost (E : Env) (b : Nat) (cs : List Value) (h : ∀ o c, E.G b o ≠ some c) : GLe E.G (E.ghost b cs).G := by
  intro b' o c hg
  simp only [Env.ghost]
  split
  · rename_i e; subst e; exact absurd hg (h _ _)
  · exact hg

theorem ELe.ghost (E : Env) (b : Nat) (cs : List Value) (h : ∀ o c, E.G b o ≠ some c) : ELe E (E.ghost b cs) := ⟨fun _ _ h => h, GLe.ghost E b cs h, Nat.le_refl _, fun _ _ h => h⟩

/-- A new block at the heap's end that nobody will write. -/
theorem inv_ghost (hI : Inv C E H w) {ty : TypeId} {l : List AV} {cs rest : List Value} {fr : Nat × Nat} (hr : RPL E.G l cs) :
    Inv C (E.ghost w.heap.size cs) H (w.alloc (.cells (cs ++ rest).toArray ty fr)) ∧
    Stp E H w (E.ghost w.heap.size cs) H (w.alloc (.cells (cs ++ rest).toArray ty fr)) ∧ RG (E.ghost w.heap.size cs).G w.heap.size 0 l ∧ ELe E (E.ghost w.heap.size cs) := by
  have hno : ∀ o c, E.G w.heap.size o ≠ some c := fun o c hg => by
    have := block_of_cell (hI.g _ _ _ hg)
    omega
  have hle := ELe.ghost E w.heap.size cs hno
  have hown : ∀ {b}, OwnB (E.ghost w.heap.size cs) H b → OwnB E H b := fun {b} ⟨i, bl, m, h1, h2⟩ => ⟨i, bl, m, h1, h2⟩
  have hgn : ∀ b o c, (E.ghost w.heap.size cs).G b o = some c → E.G b o = some c ∨ (b = w.heap.size ∧ cs[o]? = some c) := by
    intro b o c hg
    simp only [Env.ghost] at hg
    split at hg
    · rename_i e; subst e
      split at hg
      · rename_i x hx; cases hg; exact .inr ⟨rfl, hx⟩
      · exact absurd hg (hno _ _)
    · exact .inl hg
  refine ⟨⟨hI.len, ?_, ?_, ?_, fun i i' bl bl' b m m' h1 h2 h3 h4 => hI.inj i i' bl bl' b m m' h1 h2 h3 h4, fun g l h => (hI.glob g l h).mono hle.G, hI.ex_of fun b hb _ => heap_alloc_lt _ hb⟩, ⟨hle.G, ?_, fun b h => .inl (hown h), ?_, by rw [size_alloc]; omega, rfl, rfl, rfl⟩, ?_, hle⟩
  · intro b o c hg
    rcases hgn b o c hg with h | ⟨rfl, h⟩
    · have h1 := hI.g _ _ _ h
      rw [cell_alloc_lt _ (block_of_cell h1)]; exact h1
    · rw [cell_of (heap_alloc_eq _)]
      have ho : o < cs.length := by
        rcases Nat.lt_or_ge o cs.length with h' | h'
        · exact h'
        · rw [List.getElem?_eq_none h'] at h; cases h
      rw [List.getElem?_append_left ho]; exact h
  · intro b o c hg ho
    rcases hgn b o c hg with h | ⟨rfl, _⟩
    · exact hI.sep _ _ _ h (hown ho)
    · have := hI.own_lt (hown ho); omega
  · intro id bl h
    obtain ⟨b1, m1, cs1, rest1, e1, hh1, hm1, hr1⟩ := hI.blk id bl h
    exact ⟨b1, m1, cs1, rest1, e1, by rw [heap_alloc_lt _ (lt_of_get hh1)]; exact hh1, hm1, hr1.mono hle⟩
  · intro b o c hg
    rcases hgn b o c hg with h | ⟨rfl, _⟩
    · exact .inl h
    · exact .inr (.inl (Nat.le_refl _))
  · intro b hb _; exact heap_alloc_lt _ hb
  · refine RG_ghost 0 (hr.mono hle.G) fun j x hx => ?_
    simp [Env.ghost, hx]

/-- A draw of the tape. -/
theorem inv_drawn (hI : Inv C E H w) (n : Nat) : Inv C E H { w with drawn := n } ∧ Stp E H w E H { w with drawn := n } :=
  ⟨⟨hI.len, hI.g, hI.sep, hI.blk, hI.inj, hI.glob, hI.ex⟩, ⟨fun _ _ _ h => h, fun _ _ _ h => .inl h, fun _ h => .inl h, fun _ _ _ => rfl, Nat.le_refl _, rfl, rfl, rfl⟩⟩

/-- A block given up. -/
theorem inv_none (hI : Inv C E H w) (id : Nat) : Inv C E (H.set id none) w ∧ Stp E H w E (H.set id none) w := by
  have hget : ∀ {j : Nat} {x : Blk}, (H.set id none)[j]? = some (some x) → H[j]? = some (some x) := fun {j x} hj => by
    by_cases e : id = j
    · subst e
      rw [List.getElem?_set] at hj
      simp at hj
    · rwa [List.getElem?_set_ne e] at hj
  have hown : ∀ {b}, OwnB E (H.set id none) b → OwnB E H b := fun {b} ⟨i, bl, m, h1, h2⟩ => ⟨i, bl, m, hget h1, h2⟩
  exact ⟨⟨by simpa using hI.len, hI.g, fun b o c hg ho => hI.sep b o c hg (hown ho), fun i bl h => hI.blk i bl (hget h), fun i i' bl bl' b m m' h1 h2 => hI.inj i i' bl bl' b m m' (hget h1) (hget h2), hI.glob, hI.ex⟩,
    ⟨fun _ _ _ h => h, fun _ _ _ h => .inl h, fun b h => .inl (hown h), fun _ _ _ => rfl, Nat.le_refl _, rfl, rfl, rfl⟩⟩
end
end Go.Ev

/- Evaluator: soundness, part 3: operations. -/
namespace Go.Ev

def FrR (E : Env) (e : Fr) (a : Act) : Prop := ∀ t, R E (look e t) (a.tmps.getD t undef)

structure Good (C : Ctx) (E : Env) (H : Heap) (w : World) (v : AV) (H' : Heap) (c : Value) (w' : World) (E' : Env) : Prop where
  le : ELe E E'
  stp : Stp E H w E' H' w'
  inv : Inv C E' H' w'
  r : R E' v c

/-- An operation's computation gives a value that the abstract one speaks of. -/
def ValOk (C : Ctx) (E : Env) (H : Heap) (w : World) (s : Sem Value) (v : AV) (H' : Heap) : Prop :=
  ∃ c w' E', s.run C.P w = .ok c w' ∧ Good C E H w v H' c w' E'

section
variable {C : Ctx} {E : Env} {H : Heap} {w : World}

theorem ValOk.same {s : Sem Value} {v : AV} {c : Value} (hI : Inv C E H w) (h : s.run C.P w = .ok c w) (hr : R E v c) : ValOk C E H w s v H :=
  ⟨c, w, E, h, ⟨ELe.refl E, Stp.refl E H w, hI, hr⟩⟩

theorem opnd_ok (hI : Inv C E H w) {e : Fr} {a : Act} (hf : FrR E e a) (x : Operand) : R E (opnd C e x) (a.eval x) := by
  cases x with
  | tmp t => exact hf t
  | const v => exact .pers (RP_ofV _ v)
  | global g =>
    simp only [opnd]
    split
    · rename_i l hl; exact .pers (.rp (hI.glob g l hl))
    · exact .pers (.undef _)
  | func f => exact .fn (cs := []) (cs' := []) .nil .nil

theorem opnds_ok (hI : Inv C E H w) {e : Fr} {a : Act} (hf : FrR E e a) (l : Array Operand) : RL E (opnds C e l) (l.map a.eval).toList := by
  unfold opnds
  rw [Array.toList_map]
  generalize l.toList = l
  induction l with
  | nil => exact .nil
  | cons x l ih => exact .cons (opnd_ok hI hf x) ih

theorem binOp_ints (op : BinOp) (t : TypeId) (k : IntKind) (a b : Int) (h1 : op ≠ .shl) (h2 : op ≠ .shr) : binOp op t (.int k a) (.int k b) = match op with
    | .add | .sub | .mul => Op.intArith op k a b
    | .quo | .rem => Op.intDiv op k a b
    | .and | .or | .xor | .andNot => Op.intBits op k a b
    | _ => Op.intCmp op a b := by
  cases op <;> first | (exact absurd rfl h1) | (exact absurd rfl h2) | simp [binOp]

theorem arith_ok {op : BinOp} {t : TypeId} {k : IntKind} {a b : Int} {v : AV} (h : (arith op k a b).run = some v) :
    ∃ c, (binOp op t (.int k a) (.int k b)).run C.P w = .ok c w ∧ R E v c := by
  cases op
  case quo =>
    obtain ⟨h1, h2⟩ := T.of_chk h
    simp only [T.run, Option.some.injEq] at h2; subst h2
    simp at h1
    exact ⟨_, by rw [binOp_ints _ _ _ _ _ (by simp) (by simp)]; simp [Op.intDiv, h1], .pers (.int _ _)⟩
  case rem =>
    obtain ⟨h1, h2⟩ := T.of_chk h
    simp only [T.run, Option.some.injEq] at h2; subst h2
    simp at h1
    exact ⟨_, by rw [binOp_ints _ _ _ _ _ (by simp) (by simp)]; simp [Op.intDiv, h1], .pers (.int _ _)⟩
  case shl => simp [arith, T.run] at h
  case shr => simp [arith, T.run] at h
  all_goals
    cases Option.some.inj h
    exact ⟨_, by rw [binOp_ints _ _ _ _ _ (by simp) (by simp)]; rfl, by first | exact .pers (.int _ _) | exact .pers (.bool _)⟩

theorem shift_ok {op : BinOp} {t : TypeId} {k k' : IntKind} {a b : Int} {v : AV} (h : (shiftA op k a b).run = some v) :
    ∃ c, (binOp op t (.int k a) (.int k' b)).run C.P w = .ok c w ∧ R E v c := by
  cases op <;> simp only [shiftA, T.run] at h <;> try (exact absurd h (by simp))
  all_goals
    obtain ⟨h1, h2⟩ := T.of_chk h
    simp only [T.run, Option.some.injEq] at h2; subst h2
    have : ¬ b < 0 := by simpa using h1
    exact ⟨_, by simp [binOp, Op.shift, this], .pers (.int _ _)⟩

theorem toList_mk (s : List UInt8) : (⟨s.toArray⟩ : ByteArray).toList = s := by
  rw [ByteArray.toList_eq]

theorem strOp_ok {op : BinOp} {t : TypeId} {a b : List UInt8} {v : AV} (h : (strOp op a b).run = some v) :
    ∃ c, (binOp op t (.string ⟨a.toArray⟩) (.string ⟨b.toArray⟩)).run C.P w = .ok c w ∧ R E v c := by
  cases op <;> simp only [strOp, T.run, Option.some.injEq] at h
  case add =>
    obtain ⟨h1, h2⟩ := T.of_chk h
    simp only [T.run, Option.some.injEq] at h2; subst h2
    simp only [Nat.ble_eq] at h1
    refine ⟨.string ⟨(a ++ b).toArray⟩, ?_, .pers (.str _)⟩
    have e1 : ((⟨a.toArray⟩ : ByteArray).size : Nat) = a.length := by simp [ByteArray.size]
    have e2 : ((⟨b.toArray⟩ : ByteArray).size : Nat) = b.length := by simp [ByteArray.size]
    have e3 : (⟨a.toArray⟩ : ByteArray) ++ (⟨b.toArray⟩ : ByteArray) = ⟨(a ++ b).toArray⟩ := by
      apply ByteArray.ext; simp
    have e4 : ¬ (((a.length + b.length : Nat) : Int) > IntKind.i64.max) := by
      have : IntKind.i64.max = 9223372036854775807 := by decide
      omega
    simp [binOp, Op.stringOp, e1, e2, e3]
    omega
  case sub => simp at h
  case mul => simp at h
  case quo => simp at h
  case rem => simp at h
  case and => simp at h
  case or => simp at h
  case xor => simp at h
  case shl => simp at h
  case shr => simp at h
  case andNot => simp at h
  all_goals
    cases h
    refine ⟨_, rfl, ?_⟩
    simp only [toList_mk]
    exact .pers (.bool _)

theorem unA_ok {op : UnOp} {x v : AV} {c : Value} (h : (unA op x).run = some v) (hr : R E x c) : ∃ y, (Op.unary op c).run C.P w = .ok y w ∧ R E v y := by
  unfold unA at h
  split at h
  · cases hr.int_inv
    cases Option.some.inj h
    exact ⟨_, rfl, .pers (.int _ _)⟩
  · cases hr.int_inv
    cases Option.some.inj h
    exact ⟨_, rfl, .pers (.int _ _)⟩
  · cases hr.bool_inv
    cases Option.some.inj h
    exact ⟨_, rfl, .pers (.bool _)⟩
  · simp [T.run] at h

theorem max2_ok {x y v : AV} {c d : Value} (h : (max2 x y).run = some v) (hx : R E x c) (hy : R E y d) : ∃ z, (Builtin.max2 c d).run C.P w = .ok z w ∧ R E v z := by
  unfold max2 at h
  split at h
  · cases hx.int_inv; cases hy.int_inv; cases Option.some.inj h
    refine ⟨_, rfl, ?_⟩
    rename_i k x k' y
    by_cases hh : y > x <;> simp [hh] <;> exact .pers (.int _ _)
  · simp [T.run] at h

theorem min2_ok {x y v : AV} {c d : Value} (h : (min2 x y).run = some v) (hx : R E x c) (hy : R E y d) : ∃ z, (Builtin.min2 c d).run C.P w = .ok z w ∧ R E v z := by
  unfold min2 at h
  split at h
  · cases hx.int_inv; cases hy.int_inv; cases Option.some.inj h
    refine ⟨_, rfl, ?_⟩
    rename_i k x k' y
    by_cases hh : y < x <;> simp [hh] <;> exact .pers (.int _ _)
  · simp [T.run] at h

theorem foldA_ok {f : AV → AV → T AV} {g : Value → Value → Sem Value} (hfg : ∀ {x y v : AV} {c d : Value}, (f x y).run = some v → R E x c → R E y d → ∃ z, (g c d).run C.P w = .ok z w ∧ R E v z) :
    ∀ {l : List AV} {cs : List Value}, RL E l cs → ∀ {x v : AV} {c : Value}, R E x c → (foldA f x l).run = some v → ∃ z, (cs.foldlM g c).run C.P w = .ok z w ∧ R E v z
  | _, _, .nil, x, v, c, hx, h => by cases Option.some.inj h; exact ⟨c, rfl, hx⟩
  | _, _, .cons a l, x, v, c, hx, h => by
    simp only [foldA] at h
    obtain ⟨y, hy, h⟩ := T.of_bind h
    obtain ⟨z, hz, hr⟩ := hfg hy hx a
    obtain ⟨z', hz', hr'⟩ := foldA_ok hfg l hr h
    exact ⟨z', by simp [List.foldlM, hz, hz'], hr'⟩

/-! ### Parts laid over cells -/
theorem setL_eq {α : Type} : ∀ (vs l : List α) (i : Nat), i + vs.length ≤ l.length → setL l i vs = l.take i ++ vs ++ l.drop (i + vs.length)
  | [], l, i, _ => by simp [setL]
  | v :: vs, l, i, h => by
    simp only [setL]
    have hi : i < l.length := by simp at h; omega
    rw [setL_eq vs (l.set i v) (i + 1) (by simp at h ⊢; omega)]
    have e1 : (l.set i v).take (i + 1) = l.take i ++ [v] := by
      rw [List.set_eq_take_append_cons_drop, if_pos hi, List.take_append]
      have : (l.take i).length = i := by simp; omega
      rw [this, List.take_of_length_le (by omega)]
      simp
    have e2 : (l.set i v).drop (i + 1 + vs.length) = l.drop (i + (v :: vs).length) := by
      rw [List.drop_set_of_lt (by omega)]
      congr 1; simp; omega
    rw [e1, e2]
    simp

theorem length_setL {α : Type} : ∀ (vs l : List α) (i : Nat), (setL l i vs).length = l.length
  | [], _, _ => rfl
  | v :: vs, l, i => by simp only [setL]; rw [length_setL vs]; simp

theorem RL.setL : ∀ {vs : List AV} {cs : List Value}, RL E vs cs → ∀ {l : List AV} {ds : List Value} (i : Nat), RL E l ds → RL E (setL l i vs) (setL ds i cs)
  | _, _, .nil, _, _, _, h => h
  | _, _, .cons a r, _, _, i, h => RL.setL r (i + 1) (h.set a i)

theorem fill_fold (cs : List Value) : ∀ (k i : Nat) (ds : List Value), (cs.zipIdx k).foldl (fun (ds : Array Value) (p : Value × Nat) => ds.setIfInBounds (i + p.2) p.1) ds.toArray = (Go.Ev.setL ds (i + k) cs).toArray := by
  induction cs with
  | nil => intro k i ds; rfl
  | cons c cs ih =>
    intro k i ds
    simp only [List.zipIdx_cons, List.foldl_cons, Go.Ev.setL]
    rw [show ds.toArray.setIfInBounds (i + k) c = (ds.set (i + k) c).toArray by simp]
    rw [ih (k + 1) i (ds.set (i + k) c)]
    rfl

theorem fillA_ok {place place' : Nat → Option (Nat × Nat)} (hp : ∀ i x, place i = some x → place' i = some x) : ∀ {parts : List (Nat × AV)} {ps : List (Nat × Value)}, (parts.map (·.1) = ps.map (·.1)) →
    RL E (parts.map (·.2)) (ps.map (·.2)) → ∀ {l r : List AV} {ds : List Value}, RL E l ds → (fillA place l parts).run = some r → ∃ ds', Instr.fill place' ds.toArray ps = some ds'.toArray ∧ RL E r ds'
  | [], [], _, _, l, r, ds, hl, h => by cases Option.some.inj h; exact ⟨ds, rfl, hl⟩
  | [], p :: ps, h, _, _, _, _, _, _ => by simp at h
  | p :: parts, [], h, _, _, _, _, _, _ => by simp at h
  | (i, v) :: parts, (i', c) :: ps, he, hr, l, r, ds, hl, h => by
    simp only [List.map_cons, List.cons.injEq] at he
    obtain ⟨rfl, he⟩ := he
    simp only [List.map_cons] at hr
    cases hr with
    | cons hv hr =>
      simp only [fillA] at h
      split at h
      · rename_i off size hpl
        obtain ⟨h1, h2⟩ := T.of_chk h
        simp only [Bool.and_eq_true, Nat.beq_eq, Nat.ble_eq] at h1
        obtain ⟨⟨hu, h1⟩, h5⟩ := h1
        · have hc := R.cells hv (by rintro rfl; simp [AV.isU] at hu)
          have hlen := hc.length
          have hlen' := hl.length
          obtain ⟨ds', h3, h4⟩ := fillA_ok hp he hr (hc.setL off hl) h2
          refine ⟨ds', ?_, h4⟩
          simp only [Instr.fill, hp _ _ hpl]
          have hs : c.cells.size = v.cells.length := by rw [hlen]; simp
          rw [if_neg (by rw [hs]; simp; omega)]
          have := fill_fold c.cells.toList 0 off ds
          rw [Nat.add_zero] at this
          rw [← h3, ← this]
          congr 1
          rw [← Array.foldl_toList, Array.toList_zipIdx]
      · simp [T.run] at h

theorem RL.free_rpl : ∀ {l : List AV} {cs : List Value}, RL E l cs → freeL l = true → RPL E.G l cs
  | _, _, .nil, _ => .nil
  | _, _, .cons a l, h => by
    simp only [freeL, Bool.and_eq_true] at h
    exact .cons (free_rp a h.1) (RL.free_rpl l h.2)
where
  free_rp : ∀ {v : AV} {c : Value}, R E v c → v.free = true → RP E.G v c
    | _, _, .pers p, _ => p
    | _, _, .agg l, h => .agg (RL.free_rpl l (by simpa [AV.free] using h))
    | _, _, .tup l, h => .tup (RL.free_rpl l (by simpa [AV.free] using h))
    | _, _, .own _, h => by simp [AV.free] at h
    | _, _, .sl _ _ _ _, h => by simp [AV.free] at h
    | _, _, .fn l l', h => by
      simp only [AV.free, Bool.and_eq_true] at h
      exact .fn (RL.free_rpl l h.1) (RL.free_rpl l' h.2)
    | _, _, .ifc v, h => .ifc (free_rp v (by simpa [AV.free] using h))

theorem own_self (hlen : E.ρ.length = H.length) (b m : Nat) (off : Nat) : R (E.more b m) (.own H.length off) (.pointer (some ⟨b, off, none⟩)) :=
  .own (m := m) (by rw [Env.at_get]; simp [Env.more, ← hlen])

/-- A new row of cells, the call's own. -/
theorem newRow_ok (hI : Inv C E H w) {el : TypeId} {l : List AV} {cs rest : List Value} (hr : RL E l cs) :
    ∃ b m E', (newRow el (cs ++ rest).toArray).run C.P w = .ok ⟨b, 0, none⟩ (w.alloc (.cells (cs ++ rest).toArray el)) ∧ ELe E E' ∧ Stp E H w E' (alloc H ⟨el, l⟩) (w.alloc (.cells (cs ++ rest).toArray el)) ∧
      Inv C E' (alloc H ⟨el, l⟩) (w.alloc (.cells (cs ++ rest).toArray el)) ∧ E'.at H.length = some (b, m) ∧ m = (cs ++ rest).length := by
  obtain ⟨h1, h2⟩ := inv_alloc (blk := ⟨el, l⟩) (rest := rest) hI hr
  exact ⟨w.heap.size, _, _, rfl, ELe.more E _ _, h2, h1, by rw [Env.at_get]; simp [Env.more, ← hI.len], rfl⟩

/-- A new row of cells that nobody will write. -/
theorem newRow_ghost (hI : Inv C E H w) {el : TypeId} {l : List AV} {cs rest : List Value} (hr : RL E l cs) (hf : freeL l = true) :
    ∃ b E', (newRow el (cs ++ rest).toArray).run C.P w = .ok ⟨b, 0, none⟩ (w.alloc (.cells (cs ++ rest).toArray el)) ∧ ELe E E' ∧ Stp E H w E' H (w.alloc (.cells (cs ++ rest).toArray el)) ∧
      Inv C E' H (w.alloc (.cells (cs ++ rest).toArray el)) ∧ RG E'.G b 0 l := by
  obtain ⟨h1, h2, h3, h4⟩ := inv_ghost (ty := el) (rest := rest) (fr := (0, 0)) hI (hr.free_rpl hf)
  exact ⟨w.heap.size, _, rfl, h4, h2, h1, h3⟩

theorem box_ok (hI : Inv C E H w) {el : TypeId} {v : AV} {c : Value} (hr : R E v c) (hu : v.isU = false) : ValOk C E H w (Instr.box el c) (.own H.length 0) (alloc H ⟨el, v.cells⟩) := by
  have hc := R.cells hr (by rintro rfl; simp [AV.isU] at hu)
  obtain ⟨b, m, E', h1, h2, h3, h4, h5, _⟩ := newRow_ok (rest := []) (el := el) hI hc
  simp only [List.append_nil, Array.toArray_toList] at h1 h3 h4
  exact ⟨_, _, E', by simp [Instr.box, newVar, h1], h2, h3, h4, .own h5⟩

theorem box_draw (hI : Inv C E H w) {el : TypeId} {v : AV} {c : Value} (hr : R E v c) (hu : v.isU = false) (hf : freeL v.cells = true) : ValOk C E H w (Instr.box el c) (.rp v.cells) H := by
  have hc := R.cells hr (by rintro rfl; simp [AV.isU] at hu)
  obtain ⟨b, E', h1, h2, h3, h4, h5⟩ := newRow_ghost (rest := []) (el := el) hI hc hf
  simp only [List.append_nil, Array.toArray_toList] at h1 h3 h4
  exact ⟨_, _, E', by simp [Instr.box, newVar, h1], h2, h3, h4, .pers (.rp h5)⟩

theorem alloc_ok (hT : TyOk C) (hI : Inv C E H w) {el : TypeId} {z : List AV} (hz : (C.ty el).zero = some z) (hok : (C.ty el).ok = true) :
    ValOk C E H w (Instr.alloc el true (.tuple #[])) (.own H.length 0) (alloc H ⟨el, z⟩) := by
  obtain ⟨i, hi, _, _, _, hzz⟩ := run_info hT hok
  obtain ⟨zv, hzv, rfl⟩ := hzz z hz
  have hc : RL E (ofV zv).cells zv.cells.toList := (RPL_ofV_cells E.G zv).rl
  obtain ⟨b, m, E', h1, h2, h3, h4, h5, _⟩ := newRow_ok (rest := []) (el := el) hI hc
  simp only [List.append_nil, Array.toArray_toList] at h1 h3 h4
  exact ⟨_, _, E', by simp [Instr.alloc, zeroValue, hi, hzv, newVar, h1], h2, h3, h4, .own h5⟩

theorem run_zero (hT : TyOk C) {t : TypeId} {z : List AV} (hz : (C.ty t).zero = some z) (hok : (C.ty t).ok = true) : ∃ zv, (∀ w, (zeroValue t).run C.P w = .ok zv w) ∧ ∀ E : Env, RL E z zv.cells.toList := by
  obtain ⟨i, hi, _, _, _, hzz⟩ := run_info hT hok
  obtain ⟨zv, hzv, rfl⟩ := hzz z hz
  exact ⟨zv, fun w => by simp [zeroValue, hi, hzv], fun E => (RPL_ofV_cells E.G zv).rl⟩

theorem und_of (hT : TyOk C) {t : TypeId} (hok : (C.ty t).ok = true) : ∃ d, C.P.underlying t = some d ∧ D.of d = (C.ty t).desc := (hT t hok).1

theorem und_slice (hT : TyOk C) {t el : TypeId} (hok : (C.ty t).ok = true) (hd : (C.ty t).desc = .slice el) : C.P.underlying t = some (.slice el) := by
  obtain ⟨d, h1, h2⟩ := und_of hT hok
  rw [h1]; rw [hd] at h2
  cases d <;> simp [D.of] at h2
  rw [h2]
theorem und_array (hT : TyOk C) {t el n : Nat} (hok : (C.ty t).ok = true) (hd : (C.ty t).desc = .array n el) : C.P.underlying t = some (.array n el) := by
  obtain ⟨d, h1, h2⟩ := und_of hT hok
  rw [h1]; rw [hd] at h2
  cases d <;> simp [D.of] at h2
  rw [h2.1, h2.2]
theorem und_string (hT : TyOk C) {t : Nat} (hok : (C.ty t).ok = true) (hd : (C.ty t).desc = .string) : C.P.underlying t = some .string := by
  obtain ⟨d, h1, h2⟩ := und_of hT hok
  rw [h1]; rw [hd] at h2
  cases d <;> simp [D.of] at h2
  rfl
theorem und_int (hT : TyOk C) {t : Nat} {k : IntKind} (hok : (C.ty t).ok = true) (hd : (C.ty t).desc = .int k) : C.P.underlying t = some (.int k) := by
  obtain ⟨d, h1, h2⟩ := und_of hT hok
  rw [h1]; rw [hd] at h2
  cases d <;> simp [D.of] at h2
  rw [h2]
theorem und_struct (hT : TyOk C) {t : Nat} {fs : List (Nat × TypeId)} (hok : (C.ty t).ok = true) (hd : (C.ty t).desc = .struct fs) : ∃ ff, C.P.underlying t = some (.struct ff) ∧ ff.toList.map (fun f => (f.offset, f.type)) = fs := by
  obtain ⟨d, h1, h2⟩ := und_of hT hok
  rw [h1]; rw [hd] at h2
  cases d <;> simp [D.of] at h2
  exact ⟨_, rfl, by simpa using h2⟩
end
end Go.Ev

/- Evaluator: soundness, part 4: addresses, parts, slices. -/
namespace Go.Ev

section
variable {C : Ctx} {E : Env} {H : Heap} {w : World}

theorem storeA_ok (hT : TyOk C) (hI : Inv C E H w) {t : TypeId} {p v : AV} {c d : Value} {H' : Heap} (h : (storeA C H t p v).run = some H') (hp : R E p c) (hv : R E v d) :
    ∃ w', (Instr.storeAt t c d).run C.P w = .ok () w' ∧ Inv C E H' w' ∧ Stp E H w E H' w' := by
  unfold storeA at h
  split at h
  · rename_i id off
    split at h
    · rename_i blk hb
      obtain ⟨h1, h2⟩ := T.of_chk h
      cases Option.some.inj h2
      simp only [Bool.and_eq_true, Nat.beq_eq, Nat.ble_eq] at h1
      obtain ⟨⟨⟨hok, hsz⟩, hfit⟩, hone⟩ := h1
      obtain ⟨b, m, e1, rfl⟩ := hp.own_inv
      have hb' := hget_eq hb
      obtain ⟨b', m', cs, rest, e2, hh, hm, hr⟩ := hI.blk id blk hb'
      rw [e1] at e2; cases e2
      have hu : v ≠ .undef := by rintro rfl; simp [AV.cells, oneL, AV.one] at hone
      have hc := hv.cells hu
      have hl := hc.length
      have hlr := hr.length
      have hst := run_storeCells_at C.P b off blk.ty d.cells.toList 0 (cs ++ rest).toArray w hh (by simp at hl ⊢; omega) (hc.oneCells hone)
      have hsz' : d.cells.size = (C.ty t).size := by rw [← hsz, hl]; simp
      have hrun : (Instr.storeAt t (.pointer (some ⟨b, off, none⟩)) d).run C.P w = .ok () (w.setRow b (setL cs off d.cells.toList ++ rest).toArray) := by
        simp only [Instr.storeAt, Instr.sureAddr, storeVar, Sem.run_bind, Sem.run_pure, Result.andThen_ok, run_sizeOf hT hok, hsz', ne_eq, not_true_eq_false, if_false, hst]
        congr 3
        rw [setL_eq _ _ _ (by simp at hl ⊢; omega)]
        simp only [Nat.add_zero, List.append_assoc]
        have : off ≤ cs.length := by omega
        rw [List.take_append_of_le_length this, List.drop_append_of_le_length (by simp at hl ⊢; omega)]
      obtain ⟨h3, h4⟩ := inv_set (cells := setL blk.cells off v.cells) (cs := setL cs off d.cells.toList) (rest := rest) hI hb' e1 (hc.setL off hr) (by simpa [length_setL] using hm)
      exact ⟨_, hrun, h3, h4⟩
    · simp [T.run] at h
  · simp [T.run] at h

theorem withH_eq {t : T AV} {v : AV} {H' : Heap} (h : (withH H t).run = some (v, H')) : t.run = some v ∧ H' = H := by
  obtain ⟨a, h1, h2⟩ := T.of_bind h
  cases Option.some.inj h2
  exact ⟨h1, rfl⟩

theorem fieldAddr_own (hT : TyOk C) {t : TypeId} {i : Nat} {fs : List (Nat × TypeId)} {f : Nat × TypeId} (hok : (C.ty t).ok = true) (hd : (C.ty t).desc = .struct fs) (hf : fs[i]? = some f) (hokf : (C.ty f.2).ok = true) (hsz : (C.ty f.2).size ≠ 0) (b off : Nat) :
    (Instr.fieldAt t (.pointer (some ⟨b, off, none⟩)) i).run C.P w = .ok (.pointer (some ⟨b, off + f.1, none⟩)) w := by
  obtain ⟨ff, h1, h2⟩ := und_struct hT hok hd
  have h3 : (ff.toList.map (fun f => (f.offset, f.type)))[i]? = some f := by rw [h2]; exact hf
  rw [List.getElem?_map] at h3
  obtain ⟨g, hg, rfl⟩ := Option.map_eq_some_iff.1 h3
  have hg' : ff[i]? = some g := by simpa using hg
  simp only at hokf hsz
  simp [Instr.fieldAt, run_underlying h1, hg', Instr.sureAddr, fieldPlace, run_sizeOf hT hokf, hsz, addr_add]

theorem part_ok (hT : TyOk C) {t : TypeId} {l : List AV} {cs : List Value} {off : Nat} {v : AV} (h : (getT (C.ty t) l off).run = some v) (hr : RL E l cs) :
    ∃ c, (part t cs.toArray off).run C.P w = .ok c w ∧ R E v c := by
  obtain ⟨hok, h⟩ := getT_eq h
  rcases h with ⟨ha, hl, rfl⟩ | ⟨ha, hl, rfl⟩
  · refine ⟨.agg ((cs.drop off).take (C.ty t).size).toArray, ?_, .agg ((hr.drop off).take _)⟩
    simp [part, run_isAgg hT hok, ha, run_sizeOf hT hok]
  · obtain ⟨c, h1, h2⟩ := hr.get off hl
    refine ⟨c, ?_, h2⟩
    simp [part, run_isAgg hT hok, ha, h1]

theorem field_ok (hT : TyOk C) {t : TypeId} {i : Nat} {fs : List (Nat × TypeId)} {f : Nat × TypeId} {l : List AV} {c : Value} {v : AV} (hok : (C.ty t).ok = true) (hd : (C.ty t).desc = .struct fs) (hf : fs[i]? = some f)
    (h : (getT (C.ty f.2) l f.1).run = some v) (hr : R E (.agg l) c) : ∃ x, (Instr.field t c i).run C.P w = .ok x w ∧ R E v x := by
  obtain ⟨ff, h1, h2⟩ := und_struct hT hok hd
  have h3 : (ff.toList.map (fun f => (f.offset, f.type)))[i]? = some f := by rw [h2]; exact hf
  rw [List.getElem?_map] at h3
  obtain ⟨g, hg, rfl⟩ := Option.map_eq_some_iff.1 h3
  have hg' : ff[i]? = some g := by simpa using hg
  obtain ⟨cs, rfl, hl⟩ := hr.agg_inv
  obtain ⟨x, h4, h5⟩ := part_ok (w := w) hT h hl
  exact ⟨x, by simp [Instr.field, run_underlying h1, hg', asAgg, h4], h5⟩

theorem index_ok (hT : TyOk C) {t el n : Nat} {k : IntKind} {i : Int} {l : List AV} {c : Value} {v : AV} (hok : (C.ty t).ok = true) (hoke : (C.ty el).ok = true) (hd : (C.ty t).desc = .array n el) (h0 : 0 ≤ i) (hn : i < n)
    (h : (getT (C.ty el) l (i.toNat * (C.ty el).size)).run = some v) (hr : R E (.agg l) c) : ∃ x, (Instr.index t c (.int k i)).run C.P w = .ok x w ∧ R E v x := by
  obtain ⟨cs, rfl, hl⟩ := hr.agg_inv
  obtain ⟨x, h4, h5⟩ := part_ok (w := w) hT h hl
  exact ⟨x, by simp [Instr.index, asIntOf, run_underlying (und_array hT hok hd), h0, hn, run_sizeOf hT hoke, h4], h5⟩

theorem indexStr_ok (hT : TyOk C) {t : Nat} {k : IntKind} {i : Int} {s : List UInt8} (hok : (C.ty t).ok = true) (hd : (C.ty t).desc = .string) (h0 : 0 ≤ i) (hn : i < s.length) :
    (Instr.index t (.string ⟨s.toArray⟩) (.int k i)).run C.P w = .ok (.int .u8 (s.getD i.toNat 0).toNat) w := by
  have hlt : i.toNat < s.length := by omega
  have : (⟨s.toArray⟩ : ByteArray)[i.toNat]? = some (s.getD i.toNat 0) := by
    rw [getElem?_pos (h := by simpa [ByteArray.size] using hlt)]
    simp [List.getD, hlt]
    rfl
  simp [Instr.index, asIntOf, run_underlying (und_string hT hok hd), h0, this]

theorem indexAt_arr (hT : TyOk C) {t el n : Nat} {k : IntKind} {i : Int} {b off : Nat} (hok : (C.ty t).ok = true) (hoke : (C.ty el).ok = true) (hd : (C.ty t).desc = .array n el) (h0 : 0 ≤ i) (hn : i < n) :
    (Instr.indexAt t (.pointer (some ⟨b, off, none⟩)) (.int k i)).run C.P w = .ok (.pointer (some ⟨b, off + i.toNat * (C.ty el).size, none⟩)) w := by
  simp [Instr.indexAt, asIntOf, run_underlying (und_array hT hok hd), Instr.sureAddr, h0, hn, run_sizeOf hT hoke, addr_add]

theorem indexAt_sl (hT : TyOk C) {t el : Nat} {k : IntKind} {i : Int} {b off len cap : Nat} (hok : (C.ty t).ok = true) (hoke : (C.ty el).ok = true) (hd : (C.ty t).desc = .slice el) (h0 : 0 ≤ i) (hn : i < len) :
    (Instr.indexAt t (.slice (some ⟨b, off, none⟩) len cap) (.int k i)).run C.P w = .ok (.pointer (some ⟨b, off + i.toNat * (C.ty el).size, none⟩)) w := by
  simp [Instr.indexAt, asIntOf, run_underlying (und_slice hT hok hd), h0, hn, run_sizeOf hT hoke, addr_add]

theorem build_ok (hT : TyOk C) {t : TypeId} {parts : List (Nat × AV)} {ps : List (Nat × Value)} {v : AV} (h : (buildA C t parts).run = some v) (he : parts.map (·.1) = ps.map (·.1)) (hr : RL E (parts.map (·.2)) (ps.map (·.2))) :
    ∃ c, (Instr.build t ps.toArray).run C.P w = .ok c w ∧ R E v c := by
  unfold buildA at h
  split at h
  · rename_i fs z hd hz
    obtain ⟨h1, h2⟩ := T.of_chk h
    obtain ⟨cs, h3, h4⟩ := T.of_bind h2
    cases Option.some.inj h4
    simp only [Bool.and_eq_true, List.all_eq_true] at h1
    obtain ⟨hok, hall⟩ := h1
    obtain ⟨zv, hzv, hzr⟩ := run_zero hT hz hok
    obtain ⟨ff, hu, hff⟩ := und_struct hT hok hd
    have hplaces : ∀ (fl : List Field) (w : World), (∀ f ∈ fl, (C.ty f.type).ok = true) → (fl.mapM (m := Sem) fun f => Prod.mk f.offset <$> sizeOf f.type).run C.P w = .ok (fl.map fun f => (f.offset, (C.ty f.type).size)) w := by
      intro fl
      induction fl with
      | nil => intro w _; rfl
      | cons f fl ih =>
        intro w hf
        simp [List.mapM_cons, run_sizeOf hT (hf f (by simp)), ih w (fun g hg => hf g (by simp [hg]))]
    have hall' : ∀ f ∈ ff.toList, (C.ty f.type).ok = true := fun f hf => by
      have := hall (f.offset, f.type) (by rw [← hff]; exact List.mem_map.2 ⟨f, hf, rfl⟩)
      exact this
    have hp : (ff.mapM (m := Sem) fun f => Prod.mk f.offset <$> sizeOf f.type).run C.P w = .ok ((ff.toList.map fun f => (f.offset, (C.ty f.type).size)).toArray) w := by
      rw [← Array.toArray_toList (xs := ff), List.mapM_toArray]
      simp only [Sem.run_map, hplaces _ w hall', Result.andThen_ok]
    obtain ⟨ds', h5, h6⟩ := fillA_ok (place := fun i => (fs[i]?).map fun f => (f.1, (C.ty f.2).size)) (place' := fun i => (ff.toList.map fun f => (f.offset, (C.ty f.type).size)).toArray[i]?) (fun i x hx => by
      rw [← hff] at hx
      simp only [List.getElem?_map, List.getElem?_toArray] at hx ⊢
      cases hfi : ff.toList[i]? with
      | none => simp [hfi] at hx
      | some f => simp [hfi] at hx ⊢; exact hx) he hr (hzr E) h3
    refine ⟨.agg ds'.toArray, ?_, .agg h6⟩
    simp at h5
    simp [Instr.build, hzv, run_underlying hu, hp, h5]
  · rename_i n el z hd hz
    obtain ⟨h1, h2⟩ := T.of_chk h
    obtain ⟨cs, h3, h4⟩ := T.of_bind h2
    cases Option.some.inj h4
    simp only [Bool.and_eq_true] at h1
    obtain ⟨hok, hoke⟩ := h1
    obtain ⟨zv, hzv, hzr⟩ := run_zero hT hz hok
    obtain ⟨ds', h5, h6⟩ := fillA_ok (place := fun i => some (i * (C.ty el).size, (C.ty el).size)) (place' := fun i => some (i * (C.ty el).size, (C.ty el).size)) (fun i x hx => hx) he hr (hzr E) h3
    refine ⟨.agg ds'.toArray, ?_, .agg h6⟩
    simp only [Array.toArray_toList] at h5
    simp [Instr.build, hzv, run_underlying (und_array hT hok hd), run_sizeOf hT hoke, h5]
  · simp [T.run] at h

theorem repL_cells {z : List AV} {zv : List Value} (hz : RL E z zv) : ∀ n, RL E (repL n z) (List.replicate n zv).flatten
  | 0 => .nil
  | n + 1 => by simp only [repL, List.replicate_succ, List.flatten_cons]; exact hz.append (repL_cells hz n)

/-- The cells that 'buildSlice' and 'makeSlice' lay first. -/
theorem range_cells (zero : Array Value) (n : Nat) (sz : Nat) (hs : zero.size = sz) : ((Array.range (n * sz)).map (zero[· % zero.size]!)) = (List.replicate n zero.toList).flatten.toArray := by
  subst hs
  apply Array.ext'
  simp only [Array.toList_map, Array.toList_range]
  induction n with
  | zero => simp
  | succ n ih =>
    rw [Nat.succ_mul, List.range_add, List.map_append, ih, List.replicate_succ', List.flatten_append]
    congr 1
    simp only [List.map_map, List.flatten_cons, List.flatten_nil, List.append_nil]
    apply List.ext_getElem?
    intro i
    by_cases hi : i < zero.size
    · simp [hi, Nat.mul_add_mod_self_right, Nat.mod_eq_of_lt hi]
    · simp [hi]

theorem zero_size (_ : TyOk C) {t : TypeId} {z : List AV} {zv : Value} (_ : (C.ty t).zero = some z) (_ : (C.ty t).ok = true) (hr : RL E z zv.cells.toList) : zv.cells.size = z.length := by
  have := hr.length; simpa using this.symm

theorem slice_ok {full : Bool} {b len cap : Nat} {l : List AV} {G : Gh} (h : RG G b 0 l) (hf : full = true → cap = len) (hl : len ≤ cap) : RP G (.ro full len l) (.slice (some ⟨b, 0, none⟩) len cap) := .ro h hf hl

theorem buildSlice_ok (hT : TyOk C) (hI : Inv C E H w) {t el len : Nat} {z cs : List AV} {parts : List (Nat × AV)} {ps : List (Nat × Value)} (hok : (C.ty t).ok = true) (hoke : (C.ty el).ok = true) (hd : (C.ty t).desc = .slice el)
    (hz : (C.ty el).zero = some z) (hzl : z.length = (C.ty el).size) (hz0 : (C.ty el).size ≠ 0) (hbig : len * (C.ty el).size ≤ 16777216) (he : parts.map (·.1) = ps.map (·.1)) (hr : RL E (parts.map (·.2)) (ps.map (·.2)))
    (h : (fillA (fun i => some (i * (C.ty el).size, (C.ty el).size)) (repL len z) parts).run = some cs) (hsize : cs.length = len * (C.ty el).size) :
    (ValOk C E H w (Instr.buildSlice t len ps.toArray) (.sl (C.ty el).size H.length 0 len (some len)) (alloc H ⟨el, cs⟩)) ∧
    (freeL cs = true → ValOk C E H w (Instr.buildSlice t len ps.toArray) (.ro true len cs) H) := by
  obtain ⟨zv, hzv, hzr⟩ := run_zero hT hz hoke
  have hzs : zv.cells.size = (C.ty el).size := by rw [← hzl]; have := (hzr E).length; simpa using this.symm
  obtain ⟨ds', h5, h6⟩ := fillA_ok (place := fun i => some (i * (C.ty el).size, (C.ty el).size)) (place' := fun i => some (i * (C.ty el).size, (C.ty el).size)) (fun i x hx => hx) he hr (repL_cells (hzr E) len) h
  have hrun : ∀ a w1, (newRow el ds'.toArray).run C.P w = .ok a w1 → (Instr.buildSlice t len ps.toArray).run C.P w = .ok (.slice (some a) len len) w1 := by
    intro a w1 ha
    have hr0 : ∀ (f : Nat → Value), (Array.range 0).map f = #[] := fun f => by apply Array.ext'; simp
    by_cases h0 : len = 0
    · subst h0
      simp at h5
      simp [Instr.buildSlice, run_underlying (und_slice hT hok hd), run_sizeOf hT hoke, hr0, h5, ha]
    · have e0 : ¬ (16777216 < len * (C.ty el).size) := by omega
      have e1 : ¬ (len * (C.ty el).size = 0) := fun e => (Nat.mul_eq_zero.1 e).elim h0 hz0
      have hc := range_cells zv.cells len _ hzs
      simp [Instr.buildSlice, run_underlying (und_slice hT hok hd), run_sizeOf hT hoke, e0, hzv, hc, h5, ha]
      exact fun hx => absurd hx e1
  have hl := h6.length
  refine ⟨?_, fun hf => ?_⟩
  · obtain ⟨b, m, E', h1, h2, h3, h4, h7, h8⟩ := newRow_ok (rest := []) (el := el) hI h6
    simp only [List.append_nil] at h1 h3 h4 h8
    exact ⟨_, _, E', hrun _ _ h1, h2, h3, h4, .sl h7 (fun c hc => by cases hc; rfl) (Nat.le_refl _) (by omega)⟩
  · obtain ⟨b, E', h1, h2, h3, h4, h7⟩ := newRow_ghost (rest := []) (el := el) hI h6 hf
    simp only [List.append_nil] at h1 h3 h4
    exact ⟨_, _, E', hrun _ _ h1, h2, h3, h4, .pers (.ro h7 (fun _ => rfl) (Nat.le_refl _))⟩

theorem length_repL (n : Nat) (z : List AV) : (repL n z).length = n * z.length := by
  induction n with
  | zero => simp [repL]
  | succ n ih => simp [repL, ih, Nat.succ_mul, Nat.add_comm]

theorem wrap_i64_id {n : Int} (h0 : 0 ≤ n) (h1 : n ≤ 9223372036854775807) : IntKind.i64.wrap n = n := by
  unfold IntKind.wrap
  simp only [IntKind.bits, IntKind.signed]
  have e : n % 2 ^ 64 = n := Int.emod_eq_of_lt h0 (by omega)
  simp only [e]
  rw [if_neg]
  simp
  omega

theorem makeSlice_ok (hT : TyOk C) (hI : Inv C E H w) {t el : Nat} {n : Int} {z : List AV} (hok : (C.ty t).ok = true) (hoke : (C.ty el).ok = true) (hd : (C.ty t).desc = .slice el)
    (hz : (C.ty el).zero = some z) (hzl : z.length = (C.ty el).size) (hz0 : (C.ty el).size ≠ 0) (hn0 : 0 ≤ n) (hbig : ((C.ty el).bytes : Int) * n ≤ maxBytes) (hmax : n ≤ 9223372036854775807) :
    (ValOk C E H w (Instr.makeSlice t (.int .i64 n) (.int .i64 n)) (.sl (C.ty el).size H.length 0 n.toNat (some n.toNat)) (alloc H ⟨el, repL n.toNat z⟩)) ∧
    (freeL (repL n.toNat z) = true → ValOk C E H w (Instr.makeSlice t (.int .i64 n) (.int .i64 n)) (.ro true n.toNat (repL n.toNat z)) H) := by
  obtain ⟨zv, hzv, hzr⟩ := run_zero hT hz hoke
  obtain ⟨i, hi, hif, his, hib, _⟩ := run_info hT hoke
  have hzs : zv.cells.size = (C.ty el).size := by rw [← hzl]; have := (hzr E).length; simpa using this.symm
  have h6 := repL_cells (hzr E) n.toNat
  have hw := wrap_i64_id hn0 hmax
  have hrun : ∀ a w1, (newRow el (List.replicate n.toNat zv.cells.toList).flatten.toArray).run C.P w = .ok a w1 → (Instr.makeSlice t (.int .i64 n) (.int .i64 n)).run C.P w = .ok (.slice (some a) n.toNat n.toNat) w1 := by
    intro a w1 ha
    have e1 : ¬ (n < 0) := by omega
    have hr0 : ∀ (f : Nat → Value), (Array.range 0).map f = #[] := fun f => by apply Array.ext'; simp
    have e2 : ¬ ((281474976710656 : Int) < (i.bytes : Int) * n) := by rw [hib]; unfold maxBytes at hbig; omega
    by_cases h0 : n.toNat = 0
    · simp only [h0, List.replicate_zero, List.flatten_nil] at ha
      simp [Instr.makeSlice, run_underlying (und_slice hT hok hd), asInt, asIntOf, hi, hw, e1, e2, run_sizeOf hT hoke, h0, hr0, ha]
    · have hc := range_cells zv.cells n.toNat _ hzs
      simp [Instr.makeSlice, run_underlying (und_slice hT hok hd), asInt, asIntOf, hi, hw, e1, e2, run_sizeOf hT hoke, hzv, hc, ha]
      exact fun hx => absurd hx (fun e => (Nat.mul_eq_zero.1 e).elim h0 hz0)
  have hl := h6.length
  rw [length_repL, hzl] at hl
  refine ⟨?_, fun hf => ?_⟩
  · obtain ⟨b, m, E', h1, h2, h3, h4, h7, h8⟩ := newRow_ok (rest := []) (el := el) hI h6
    simp only [List.append_nil] at h1 h3 h4 h8
    exact ⟨_, _, E', hrun _ _ h1, h2, h3, h4, .sl h7 (fun c hc => by cases hc; rfl) (Nat.le_refl _) (by omega)⟩
  · obtain ⟨b, E', h1, h2, h3, h4, h7⟩ := newRow_ghost (rest := []) (el := el) hI h6 hf
    simp only [List.append_nil] at h1 h3 h4
    exact ⟨_, _, E', hrun _ _ h1, h2, h3, h4, .pers (.ro h7 (fun _ => rfl) (Nat.le_refl _))⟩
end
end Go.Ev

/- Evaluator: soundness, part 5: slices of slices, lengths, append, copy, conversions. -/
namespace Go.Ev

section
variable {C : Ctx} {E : Env} {H : Heap} {w : World}

inductive RO (E : Env) : Option AV → Option Value → Prop
  | none : RO E none none
  | some {v : AV} {c : Value} : R E v c → RO E (some v) (some c)

theorem ro_opnd (hI : Inv C E H w) {e : Fr} {a : Act} (hf : FrR E e a) (x : Option Operand) : RO E (x.map (opnd C e)) (x.map a.eval) := by
  cases x with
  | none => exact .none
  | some x => exact .some (opnd_ok hI hf x)

theorem bound_ok {v : AV} {c : Value} {i : Int} {y : Nat} {code : BoundsCode} (h : intOf? v = some i) (hr : R E v c) (h0 : 0 ≤ i) (hy : i ≤ y) : (Instr.sliceBound c y code).run C.P w = .ok i.toNat w := by
  cases v <;> simp [intOf?] at h
  subst h
  cases hr.int_inv
  simp [Instr.sliceBound, asIntOf, h0, hy]

theorem bounds_ok {isS : Bool} {len cap : Nat} {lo hi : Option AV} {lo' hi' : Option Value} {l h : Int} (rl : RO E lo lo') (rh : RO E hi hi') (hl : optI 0 lo = some l) (hh : optI len hi = some h) (h0 : 0 ≤ l) (h1 : l ≤ h) (h2 : hi ≠ none → h ≤ cap) :
    (Instr.sliceBounds isS len cap lo' hi' none).run C.P w = .ok (l.toNat, h.toNat, cap) w := by
  cases rh with
  | none =>
    simp only [optI, Option.some.injEq] at hh; subst hh
    cases rl with
    | none => simp only [optI, Option.some.injEq] at hl; subst hl; simp [Instr.sliceBounds]
    | some r =>
      simp only [optI] at hl
      have := bound_ok (w := w) (C := C) (y := len) (code := .sliceB) hl r h0 (by omega)
      simp [Instr.sliceBounds, this]
  | some r =>
    simp only [optI] at hh
    have h3 : h ≤ cap := h2 (by simp)
    have b1 := fun code => bound_ok (w := w) (C := C) (y := cap) (code := code) hh r (by omega) h3
    cases rl with
    | none => simp only [optI, Option.some.injEq] at hl; subst hl; simp [Instr.sliceBounds, b1]
    | some r =>
      simp only [optI] at hl
      have b2 := bound_ok (w := w) (C := C) (y := h.toNat) (code := .sliceB) hl r h0 (by omega)
      simp [Instr.sliceBounds, b1, b2]

theorem and3 {a b c : Bool} (h : (a && b && c) = true) : a = true ∧ b = true ∧ c = true := by
  simp only [Bool.and_eq_true] at h; exact ⟨h.1.1, h.1.2, h.2⟩

theorem extract_str (s : List UInt8) (l h : Nat) : (⟨s.toArray⟩ : ByteArray).extract l h = ⟨((s.take h).drop l).toArray⟩ := by
  apply ByteArray.ext
  simp [ByteArray.data_extract, List.drop_take]

theorem sliceA_ok (hT : TyOk C) (hI : Inv C E H w) {t : TypeId} {x v : AV} {c : Value} {lo hi mx : Option AV} {lo' hi' mx' : Option Value}
    (h : (sliceA C H t x lo hi mx).run = some v) (hx : R E x c) (rl : RO E lo lo') (rh : RO E hi hi') (rm : RO E mx mx') :
    ∃ y, (Instr.sliceAt t c lo' hi' mx').run C.P w = .ok y w ∧ R E v y := by
  unfold sliceA at h
  split at h
  · simp [T.run] at h
  cases rm
  split at h
  · rename_i s hd
    cases hx.str_inv
    split at h
    · rename_i l hh hlo hhi
      obtain ⟨h1, h2⟩ := T.of_chk h
      cases Option.some.inj h2
      simp only [Bool.and_eq_true, leI, decide_eq_true_eq] at h1
      obtain ⟨⟨⟨hok, h3⟩, h4⟩, h5⟩ := h1
      have hb := bounds_ok (C := C) (w := w) (isS := false) (cap := s.length) rl rh hlo hhi h3 h4 (fun _ => h5)
      have e1 : (⟨s.toArray⟩ : ByteArray).size = s.length := by simp [ByteArray.size]
      exact ⟨_, by simp [Instr.sliceAt, Instr.slice, run_underlying (und_string hT hok hd), e1, hb, extract_str], .pers (.str _)⟩
    · simp [T.run] at h
  · rename_i el sz id off len cap hd
    obtain ⟨b, m, cp, he, rfl, hcap, hlen, hm⟩ := hx.sl_inv
    split at h
    · rename_i l hh cc hlo hhi
      obtain ⟨h1, h2⟩ := T.of_chk h
      simp only [Bool.and_eq_true, leI, decide_eq_true_eq, Nat.beq_eq] at h1
      obtain ⟨⟨⟨⟨⟨hok, hoke⟩, hsz⟩, h3⟩, h4⟩, h5⟩ := h1
      obtain rfl := hcap _ rfl
      have hb := bounds_ok (C := C) (w := w) (isS := true) (cap := cp) rl rh hlo hhi h3 h4 (fun _ => h5)
      refine ⟨_, by simp [Instr.sliceAt, Instr.slice, run_underlying (und_slice hT hok hd), hb, run_sizeOf hT hoke]; rfl, ?_⟩
      rcases T.of_br h2 with ⟨h6, h7⟩ | ⟨h6, h7⟩
      · simp only [Nat.beq_eq] at h6
        cases Option.some.inj h7
        rw [if_pos h6.symm]
        have : hh.toNat - l.toNat = 0 := by omega
        rw [this]
        exact .pers (.ro (.nil _ _) (by simp) (Nat.zero_le _))
      · have h6 : l.toNat ≠ cp := fun e => by rw [e] at h6; simp at h6
        cases Option.some.inj h7
        rw [if_neg (fun e => h6 e.symm), addr_add, ← hsz]
        refine .sl he (fun x hx => by cases hx; rfl) (by omega) ?_
        have : l.toNat ≤ cp := by omega
        rw [Nat.add_assoc, ← Nat.add_mul]
        rw [show l.toNat + (cp - l.toNat) = cp by omega]
        exact hm
    · rename_i l hh hlo hhi
      obtain ⟨h1, h2⟩ := T.of_chk h
      simp only [Bool.and_eq_true, leI, decide_eq_true_eq, Nat.beq_eq] at h1
      obtain ⟨⟨⟨⟨⟨hok, hoke⟩, hsz⟩, h3⟩, h4⟩, h5⟩ := h1
      have hb := bounds_ok (C := C) (w := w) (isS := true) (cap := cp) rl rh hlo hhi h3 h4 (fun _ => by omega)
      refine ⟨_, by simp [Instr.sliceAt, Instr.slice, run_underlying (und_slice hT hok hd), hb, run_sizeOf hT hoke]; rfl, ?_⟩
      rcases T.of_br h2 with ⟨h6, h7⟩ | ⟨h6, h7⟩
      · simp only [Nat.beq_eq] at h6
        cases Option.some.inj h7
        have : (if cp = l.toNat then some (⟨b, off, none⟩ : Addr) else some ((⟨b, off, none⟩ : Addr).add (l.toNat * (C.ty el).size))) = some ⟨b, off, none⟩ := by
          rw [h6]; split <;> simp [addr_add]
        rw [this, h6]
        exact .sl he (fun x hx => by cases hx) (by omega) hm
      · rcases T.of_br h7 with ⟨h8, h9⟩ | ⟨h8, h9⟩
        · simp only [Nat.beq_eq] at h8
          cases Option.some.inj h9
          have : hh.toNat - l.toNat = 0 := by omega
          rw [this]
          split
          · exact .pers (.ro (.nil _ _) (by simp) (Nat.zero_le _))
          · rw [addr_add]; exact .pers (.ro (.nil _ _) (by simp) (Nat.zero_le _))
        · have h8 : l.toNat ≠ hh.toNat := fun e => by rw [e] at h8; simp at h8
          cases Option.some.inj h9
          rw [if_neg (by omega), addr_add, ← hsz]
          refine .sl he (fun x hx => by cases hx) (by omega) ?_
          rw [Nat.add_assoc, ← Nat.add_mul]
          rw [show l.toNat + (cp - l.toNat) = cp by omega]
          exact hm
    · simp [T.run] at h
  · rename_i el full len cells hd
    obtain ⟨b, o, cp, rfl, hg, hful, hlen⟩ := hx.ro_inv
    split at h
    · rename_i l hh hlo hhi
      obtain ⟨h1, h2⟩ := T.of_chk h
      simp only [Bool.and_eq_true, leI, decide_eq_true_eq, Nat.beq_eq] at h1
      obtain ⟨⟨⟨⟨⟨hok, hoke⟩, hsz⟩, h3⟩, h4⟩, h5⟩ := h1
      have hb := bounds_ok (C := C) (w := w) (isS := true) (cap := cp) rl rh hlo hhi h3 h4 (fun _ => by omega)
      refine ⟨_, by simp [Instr.sliceAt, Instr.slice, run_underlying (und_slice hT hok hd), hb, run_sizeOf hT hoke]; rfl, ?_⟩
      rcases T.of_br h2 with ⟨h6, h7⟩ | ⟨h6, h7⟩
      · simp only [Nat.beq_eq] at h6
        cases Option.some.inj h7
        have : hh.toNat - l.toNat = 0 := by omega
        rw [this]
        split
        · exact .pers (.ro (.nil _ _) (by simp) (Nat.zero_le _))
        · rw [addr_add]; exact .pers (.ro (.nil _ _) (by simp) (Nat.zero_le _))
      · have h6 : l.toNat ≠ len := fun e => by rw [e] at h6; simp at h6
        cases Option.some.inj h7
        rw [if_neg (by omega), addr_add]
        refine .pers (.ro ((hg.take _).drop _) (fun hf => ?_) (by omega))
        simp only [Bool.and_eq_true, Nat.beq_eq] at hf
        rw [hful hf.1]; omega
    · simp [T.run] at h
  · rename_i el hd
    cases hx.nils_inv
    split at h
    · rename_i l hh hlo hhi
      obtain ⟨h1, h2⟩ := T.of_chk h
      simp only [Bool.and_eq_true, leI, decide_eq_true_eq] at h1
      obtain ⟨⟨⟨⟨hok, hoke⟩, h3⟩, h4⟩, h5⟩ := h1
      cases Option.some.inj h2
      have hb := bounds_ok (C := C) (w := w) (isS := true) (len := 0) (cap := 0) rl rh hlo hhi h3 h4 (fun _ => by simpa using h5)
      have e1 : l = 0 := by omega
      have e2 : hh = 0 := by omega
      subst e1 e2
      exact ⟨_, by simp [Instr.sliceAt, Instr.slice, run_underlying (und_slice hT hok hd), hb, run_sizeOf hT hoke], .pers .nils⟩
    · simp [T.run] at h
  · rename_i n el id off hd
    split at h
    · rename_i blk hbk
      obtain ⟨b, m, he, rfl⟩ := hx.own_inv
      split at h
      · rename_i l hh hlo hhi
        obtain ⟨h1, h2⟩ := T.of_chk h
        simp only [Bool.and_eq_true, leI, decide_eq_true_eq, Nat.ble_eq] at h1
        obtain ⟨⟨⟨⟨⟨hok, hoke⟩, h3⟩, h4⟩, h5⟩, hfit⟩ := h1
        have hb := bounds_ok (C := C) (w := w) (isS := false) (cap := n) rl rh hlo hhi h3 h4 (fun _ => h5)
        obtain ⟨b', m', cs, rest, e2, hh', hm, hr⟩ := hI.blk id blk (hget_eq hbk)
        rw [he] at e2; cases e2
        have hlr := hr.length
        refine ⟨_, by simp [Instr.sliceAt, run_underlying (und_array hT hok hd), Instr.sureAddr, hb, run_sizeOf hT hoke]; rfl, ?_⟩
        rcases T.of_br h2 with ⟨h6, h7⟩ | ⟨h6, h7⟩
        · simp only [Nat.beq_eq] at h6
          cases Option.some.inj h7
          rw [if_pos h6.symm]
          have : hh.toNat - l.toNat = 0 := by omega
          rw [this]
          exact .pers (.ro (.nil _ _) (by simp) (Nat.zero_le _))
        · have h6 : l.toNat ≠ n := fun e => by rw [e] at h6; simp at h6
          cases Option.some.inj h7
          rw [if_neg (fun e => h6 e.symm), addr_add]
          refine .sl he (fun x hx => by cases hx; rfl) (by omega) ?_
          rw [Nat.add_assoc, ← Nat.add_mul]
          rw [show l.toNat + (n - l.toNat) = n by omega]
          simp at hm
          omega
      · simp [T.run] at h
    · simp [T.run] at h
  · simp [T.run] at h

theorem lenA_ok (hT : TyOk C) {ts : List TypeId} {x v : AV} {c : Value} (type : TypeId) (h : (lenA C ts x).run = some v) (hx : R E x c) : ∃ y, (Builtin.len_ ts.toArray type #[c]).run C.P w = .ok y w ∧ R E v y := by
  unfold lenA at h
  split at h
  · rename_i t rest
    replace h := T.of_chk h
    obtain ⟨hok, h⟩ := h
    split at h
    · rename_i s hd
      cases hx.str_inv
      cases Option.some.inj h
      have e1 : (⟨s.toArray⟩ : ByteArray).size = s.length := by simp [ByteArray.size]
      exact ⟨_, by simp [Builtin.len_, run_underlying (und_string hT hok hd), goInt, e1], .pers (.int _ _)⟩
    · rename_i n el hd
      cases Option.some.inj h
      exact ⟨_, by simp [Builtin.len_, run_underlying (und_array hT hok hd), goInt], .pers (.int _ _)⟩
    · rename_i el sz id off n cap hd
      obtain ⟨b, m, cp, he, rfl, hcap, hlen, hm⟩ := hx.sl_inv
      cases Option.some.inj h
      exact ⟨_, by simp [Builtin.len_, run_underlying (und_slice hT hok hd), goInt], .pers (.int _ _)⟩
    · rename_i el f n l hd
      obtain ⟨b, o, cp, rfl, hg, hful, hlen⟩ := hx.ro_inv
      cases Option.some.inj h
      exact ⟨_, by simp [Builtin.len_, run_underlying (und_slice hT hok hd), goInt], .pers (.int _ _)⟩
    · rename_i el hd
      cases hx.nils_inv
      cases Option.some.inj h
      exact ⟨_, by simp [Builtin.len_, run_underlying (und_slice hT hok hd), goInt], .pers (.int _ _)⟩
    · simp [T.run] at h
  · simp [T.run] at h

/-- The elements of a slice or a string, as the model reads them. -/
theorem cells_ok (hI : Inv C E H w) {sz k : Nat} {x : AV} {ys : List AV} {c : Value} (h : cellsOf H sz x = some (k, ys)) (hx : R E x c) :
    ys.length = k * sz ∧ (∀ w', w'.heap = w.heap → (Builtin.lenOf c).run C.P w' = .ok k w') ∧ ∃ cs, RL E ys cs ∧
      ∀ n, n ≤ k → ∀ w', w'.heap = w.heap → (Builtin.firstCells sz n c).run C.P w' = .ok (cs.take (n * sz)).toArray w' := by
  unfold cellsOf at h
  split at h
  · rename_i z id off len cap
    split at h
    · rename_i blk hbk
      cases hq : (Nat.beq z sz && Nat.ble (off + len * sz) blk.cells.length)
      · rw [hq] at h; simp at h
      · rw [hq] at h
        simp only [cond_true, Option.some.injEq, Prod.mk.injEq] at h
        obtain ⟨rfl, rfl⟩ := h
        simp only [Bool.and_eq_true, Nat.beq_eq, Nat.ble_eq] at hq
        obtain ⟨rfl, hfit⟩ := hq
        obtain ⟨b, m, cp, he, rfl, hcap, hlen, hm⟩ := hx.sl_inv
        obtain ⟨b', m', cs, rest, e2, hh', hm', hr⟩ := hI.blk id blk (hget_eq hbk)
        rw [he] at e2; cases e2
        have hlr := hr.length
        refine ⟨by simp; omega, fun w' _ => by simp [Builtin.lenOf], (cs.drop off).take (len * z), (hr.drop _).take _, fun n hn w' hw' => ?_⟩
        have hnz : n * z ≤ len * z := Nat.mul_le_mul_right _ hn
        have hl := run_loadCells_list (P := C.P) w' ⟨b, off, none⟩ ((cs.drop off).take (n * z)) (fun j x hj => by
          rw [addr_add]
          have hj' : j < n * z := by
            rcases Nat.lt_or_ge j (n * z) with h | h
            · exact h
            · rw [List.getElem?_eq_none (by simp; omega)] at hj; cases hj
          rw [List.getElem?_take_of_lt hj', List.getElem?_drop] at hj
          have hb : w'.heap[b]? = some (.cells (cs ++ rest).toArray blk.ty (0, 0)) := by rw [hw']; exact hh'
          rw [cell_of hb, List.getElem?_append_left (by omega)]; exact hj)
        have e : ((cs.drop off).take (n * z)).length = n * z := by simp; omega
        rw [e] at hl
        simp only [Builtin.firstCells, hl]
        rw [List.take_take, Nat.min_eq_left hnz]
    · cases h
  · rename_i f len l
    cases hq : Nat.beq l.length (len * sz)
    · rw [hq] at h; simp at h
    · rw [hq] at h
      simp only [cond_true, Option.some.injEq, Prod.mk.injEq] at h
      obtain ⟨rfl, rfl⟩ := h
      simp only [Nat.beq_eq] at hq
      obtain ⟨b, o, cp, rfl, hg, hful, hlen⟩ := hx.ro_inv
      obtain ⟨cs, hr, hc⟩ := RG.rl hg
      have hlr := hr.length
      refine ⟨hq, fun w' _ => by simp [Builtin.lenOf], cs, hr, fun n hn w' hw' => ?_⟩
      have hnz : n * sz ≤ len * sz := Nat.mul_le_mul_right _ hn
      have hl := run_loadCells_list (P := C.P) w' ⟨b, o, none⟩ (cs.take (n * sz)) (fun j x hj => by
        rw [addr_add]
        have hj' : j < n * sz := by
          rcases Nat.lt_or_ge j (n * sz) with h | h
          · exact h
          · rw [List.getElem?_eq_none (by simp; omega)] at hj; cases hj
        rw [List.getElem?_take_of_lt hj'] at hj
        have := hI.g _ _ _ (hc j x hj)
        unfold World.cell? at this ⊢
        rw [hw']; exact this)
      have e : (cs.take (n * sz)).length = n * sz := by simp; omega
      rw [e] at hl
      simp only [Builtin.firstCells, hl]
  · simp only [Option.some.injEq, Prod.mk.injEq] at h
    obtain ⟨rfl, rfl⟩ := h
    cases hx.nils_inv
    exact ⟨by simp, fun w' _ => by simp [Builtin.lenOf], [], .nil, fun n hn w' _ => by simp [Builtin.firstCells]⟩
  · rename_i s
    cases hq : Nat.beq sz 1
    · rw [hq] at h; simp at h
    · rw [hq] at h
      simp only [cond_true, Option.some.injEq, Prod.mk.injEq] at h
      obtain ⟨rfl, rfl⟩ := h
      simp only [Nat.beq_eq] at hq
      subst hq
      cases hx.str_inv
      refine ⟨by simp, fun w' _ => by have e1 : (⟨s.toArray⟩ : ByteArray).size = s.length := by { simp [ByteArray.size] }; simp [Builtin.lenOf, e1], s.map fun b => .int .u8 b.toNat, ?_, fun n hn w' _ => ?_⟩
      · clear hx
        induction s with
        | nil => exact .nil
        | cons b s ih => exact .cons (.pers (.int _ _)) ih
      · simp only [Builtin.firstCells, extract_str, Sem.run_pure]
        congr 1
        simp [List.map_take]
  · cases h
end
end Go.Ev

/- Evaluator: soundness, part 6: append, copy. -/
namespace Go.Ev

section
variable {C : Ctx} {E : Env} {H : Heap} {w : World}

theorem growBy_le (need : Nat) : ∀ (r c : Nat), c ≤ need + (need + 768) / 4 → Builtin.growBy need r c ≤ need + (need + 768) / 4
  | 0, c, h => h
  | r + 1, c, h => by
    simp only [Builtin.growBy]
    split
    · exact h
    · exact growBy_le need r _ (by omega)

theorem nextcap_le {need cap : Nat} (h : cap < need) : Builtin.nextslicecap need cap ≤ 2 * need + 1000 := by
  unfold Builtin.nextslicecap
  split
  · omega
  · split
    · omega
    · have := growBy_le need 4 cap (by omega)
      omega

theorem und_notInt (hT : TyOk C) {t : TypeId} (hok : (C.ty t).ok = true) (hd : ∀ k, (C.ty t).desc ≠ .int k) : ∃ d, C.P.underlying t = some d ∧ (∀ k, d ≠ .int k) := by
  obtain ⟨d, h1, h2⟩ := und_of hT hok
  refine ⟨d, h1, fun k e => ?_⟩
  subst e
  exact hd k h2.symm

/-- append where there is room. -/
theorem append_fits (hT : TyOk C) {t t' el k sLen sCap : Nat} {a : Option Addr} {x : Value} {news : List Value} {type : TypeId} (hok : (C.ty t).ok = true) (hok' : (C.ty t').ok = true) (hoke : (C.ty el).ok = true)
    (hd : (C.ty t).desc = .slice el) (hd' : ∀ k, (C.ty t').desc ≠ .int k)
    (hlen : ∀ w' : World, w'.heap = w.heap → (Builtin.lenOf x).run C.P w' = .ok k w') (hnew : ∀ w' : World, w'.heap = w.heap → (Builtin.firstCells (C.ty el).size k x).run C.P w' = .ok news.toArray w')
    (hfit : sLen + k ≤ sCap) {w' : World} (hst : ∀ ad, a = some ad → (storeCells (ad.add (sLen * (C.ty el).size)) news).run C.P w = .ok () w') (hn : a = none → w' = w) :
    (Builtin.append_ #[t, t'] type #[.slice a sLen sCap, x]).run C.P w = .ok (.slice a (sLen + k) sCap) w' := by
  obtain ⟨d, h1, h2⟩ := und_notInt hT hok' hd'
  cases a with
  | none =>
    rw [hn rfl]
    simp [Builtin.append_, run_underlying (und_slice hT hok hd), run_sizeOf hT hoke, run_underlying h1, hlen w rfl, hfit, hnew w rfl]
  | some ad =>
    have := hst ad rfl
    simp [Builtin.append_, run_underlying (und_slice hT hok hd), run_sizeOf hT hoke, run_underlying h1, hlen w rfl, hfit, hnew w rfl, this]

/-- append where there is no room: a new row. -/
theorem append_grows (hT : TyOk C) {t t' el k sLen sCap : Nat} {a : Option Addr} {x : Value} {olds news : List Value} {z : List AV} {type : TypeId} (hok : (C.ty t).ok = true) (hok' : (C.ty t').ok = true) (hoke : (C.ty el).ok = true)
    (hz : (C.ty el).zero = some z) (hd : (C.ty t).desc = .slice el) (hd' : ∀ k, (C.ty t').desc ≠ .int k)
    (hlen : ∀ w' : World, w'.heap = w.heap → (Builtin.lenOf x).run C.P w' = .ok k w') (hnew : ∀ w' : World, w'.heap = w.heap → (Builtin.firstCells (C.ty el).size k x).run C.P w' = .ok news.toArray w')
    (hold : ∀ w' : World, w'.heap = w.heap → (Builtin.firstCells (C.ty el).size sLen (.slice a sLen sCap)).run C.P w' = .ok olds.toArray w')
    (hzl : z.length = (C.ty el).size) (hfit : sCap < sLen + k) (hmax : sLen + k ≤ 9223372036854775807) (hbytes : (2 * (sLen + k) + 1000) * (C.ty el).bytes ≤ maxBytes) :
    ∃ cap rest, sLen + k ≤ cap ∧ rest.length = (cap - (sLen + k)) * (C.ty el).size ∧
      (Builtin.append_ #[t, t'] type #[.slice a sLen sCap, x]).run C.P w = .ok (.slice (some ⟨w.heap.size, 0, none⟩) (sLen + k) cap) (World.alloc { w with drawn := w.drawn + 1 } (.cells (olds ++ news ++ rest).toArray el)) := by
  obtain ⟨d, h1, h2⟩ := und_notInt hT hok' hd'
  obtain ⟨i, hi, hif, his, hib, _⟩ := run_info hT hoke
  obtain ⟨zv, hzv, hzr⟩ := run_zero hT hz hoke
  have e1 : ¬ (sLen + k ≤ sCap) := by omega
  have e2 : ¬ (9223372036854775807 < ((sLen : Int) + (k : Int)) ∧ i.bytes = 0) := by omega
  have e3 : ¬ (281474976710656 < Builtin.nextslicecap (sLen + k) sCap * i.bytes) := by
    have := nextcap_le hfit
    have h4 : Builtin.nextslicecap (sLen + k) sCap * i.bytes ≤ (2 * (sLen + k) + 1000) * i.bytes := Nat.mul_le_mul_right _ this
    rw [← hib] at hbytes
    unfold maxBytes at hbytes
    omega
  have hcap := fun t => (show sLen + k ≤ Question.cut (.appendCap (sLen + k) sCap el) t by simp [Question.cut])
  generalize hc : Question.cut (.appendCap (sLen + k) sCap el) (w.tape w.drawn (.appendCap (sLen + k) sCap el)) = cap
  refine ⟨cap, (Builtin.zeroCells zv.cells (cap - (sLen + k))).toList, hc ▸ hcap _, by have := (hzr ⟨[], fun _ _ => none⟩).length; rw [hzl] at this; simp at this; simp [Builtin.zeroCells, this], ?_⟩
  have hforced : (Question.appendCap (sLen + k) sCap el).forced = false := rfl
  simp [Builtin.append_, run_underlying (und_slice hT hok hd), run_sizeOf hT hoke, run_underlying h1, hlen w rfl, e1, e3, hi, hforced, hc]
  rw [if_neg e2, hold w.drew rfl]
  simp [hnew w.drew rfl, hzv, newRow]
  congr 2
  apply Array.ext'
  simp

theorem notint_of {C : Ctx} {t' : TypeId} (h : ∀ k, (C.ty t').desc = .int k → False) : ∀ k, (C.ty t').desc ≠ .int k := fun k e => h k e

theorem inv_drew (hI : Inv C E H w) : Inv C E H w.drew ∧ Stp E H w E H w.drew := inv_drawn hI _

/-- The new row of an append, the call's own. -/
theorem grown_own (hI : Inv C E H w) {el : TypeId} {l : List AV} {cs rest : List Value} (hr : RL E l cs) :
    ∃ b m E', ELe E E' ∧ Stp E H w E' (alloc H ⟨el, l⟩) (World.alloc { w with drawn := w.drawn + 1 } (.cells (cs ++ rest).toArray el)) ∧
      Inv C E' (alloc H ⟨el, l⟩) (World.alloc { w with drawn := w.drawn + 1 } (.cells (cs ++ rest).toArray el)) ∧ E'.at H.length = some (b, m) ∧ b = w.heap.size ∧ m = (cs ++ rest).length := by
  obtain ⟨h1, h2⟩ := inv_drew hI
  obtain ⟨b, m, E', h3, h4, h5, h6, h7, h8⟩ := newRow_ok (rest := rest) (el := el) h1 hr
  refine ⟨w.heap.size, m, E', h4, h2.trans h5, h6, ?_, rfl, h8⟩
  have : (newRow el (cs ++ rest).toArray).run C.P w.drew = .ok ⟨w.heap.size, 0, none⟩ (w.drew.alloc (.cells (cs ++ rest).toArray el)) := rfl
  rw [this] at h3
  cases h3
  exact h7

theorem grown_ghost (hI : Inv C E H w) {el : TypeId} {l : List AV} {cs rest : List Value} (hr : RL E l cs) (hf : freeL l = true) :
    ∃ E', ELe E E' ∧ Stp E H w E' H (World.alloc { w with drawn := w.drawn + 1 } (.cells (cs ++ rest).toArray el)) ∧
      Inv C E' H (World.alloc { w with drawn := w.drawn + 1 } (.cells (cs ++ rest).toArray el)) ∧ RG E'.G w.heap.size 0 l := by
  obtain ⟨h1, h2⟩ := inv_drew hI
  obtain ⟨b, E', h3, h4, h5, h6, h7⟩ := newRow_ghost (rest := rest) (el := el) h1 hr hf
  have : (newRow el (cs ++ rest).toArray).run C.P w.drew = .ok ⟨w.heap.size, 0, none⟩ (w.drew.alloc (.cells (cs ++ rest).toArray el)) := rfl
  rw [this] at h3
  cases h3
  exact ⟨E', h4, h2.trans h5, h6, h7⟩

theorem take_all {α : Type} {l : List α} {n : Nat} (h : l.length = n) : l.take n = l := List.take_of_length_le (by omega)

/-- What follows an append that grows, in both manners of keeping the row. -/
theorem append_new (hT : TyOk C) (hI : Inv C E H w) {draw : Bool} {t t' el k sLen sCap : Nat} {a : Option Addr} {x : Value} {l ys : List AV} {olds news : List Value} {z : List AV} {type : TypeId} {v : AV} {H' : Heap}
    (hok : (C.ty t).ok = true) (hok' : (C.ty t').ok = true) (hoke : (C.ty el).ok = true)
    (hz : (C.ty el).zero = some z) (hd : (C.ty t).desc = .slice el) (hd' : ∀ k, (C.ty t').desc ≠ .int k) (hzl : z.length = (C.ty el).size)
    (hlen : ∀ w' : World, w'.heap = w.heap → (Builtin.lenOf x).run C.P w' = .ok k w') (hnew : ∀ w' : World, w'.heap = w.heap → (Builtin.firstCells (C.ty el).size k x).run C.P w' = .ok news.toArray w')
    (hold : ∀ w' : World, w'.heap = w.heap → (Builtin.firstCells (C.ty el).size sLen (.slice a sLen sCap)).run C.P w' = .ok olds.toArray w')
    (hro : RL E l olds) (hrn : RL E ys news) (hll : l.length = sLen * (C.ty el).size) (hly : ys.length = k * (C.ty el).size) (hfit : sCap < sLen + k)
    (h : (T.chk (Nat.ble ((2 * (sLen + k) + 1000) * (C.ty el).bytes) maxBytes && Nat.ble (sLen + k) 9223372036854775807)
            (match draw with
             | true => .chk (freeL (l ++ ys)) (.leaf (.ro false (sLen + k) (l ++ ys), H))
             | false => .leaf (.sl (C.ty el).size H.length 0 (sLen + k) none, alloc H ⟨el, l ++ ys⟩))).run = some (v, H')) :
    ValOk C E H w (Builtin.append_ #[t, t'] type #[.slice a sLen sCap, x]) v H' := by
  obtain ⟨h1, h2⟩ := T.of_chk h
  simp only [Bool.and_eq_true, Nat.ble_eq] at h1
  obtain ⟨cap, rest, hcap, hrl, hrun⟩ := append_grows (w := w) (type := type) hT hok hok' hoke hz hd hd' hlen hnew hold hzl hfit h1.2 h1.1
  have hr := hro.append hrn
  have l1 := hro.length
  have l2 := hrn.length
  cases draw with
  | true =>
    obtain ⟨hf, h3⟩ := T.of_chk h2
    simp only [T.run, Option.some.injEq, Prod.mk.injEq] at h3
    obtain ⟨rfl, rfl⟩ := h3
    obtain ⟨E', g1, g2, g3, g4⟩ := grown_ghost (rest := rest) (el := el) hI hr hf
    exact ⟨_, _, E', hrun, g1, g2, g3, .pers (.ro g4 (by simp) hcap)⟩
  | false =>
    simp only [T.run, Option.some.injEq, Prod.mk.injEq] at h2
    obtain ⟨rfl, rfl⟩ := h2
    obtain ⟨b, m, E', g1, g2, g3, g4, rfl, rfl⟩ := grown_own (rest := rest) (el := el) hI hr
    refine ⟨_, _, E', hrun, g1, g2, g3, .sl g4 (by simp) hcap ?_⟩
    rw [List.length_append, List.length_append, ← l1, ← l2, hll, hly, hrl, ← Nat.add_mul, ← Nat.add_mul, show sLen + k + (cap - (sLen + k)) = cap by omega]
    omega

theorem zok_of {C : Ctx} {t t' el : TypeId} {ys : List AV} (h : ((C.ty t).ok && (C.ty t').ok && (C.ty el).ok && (match (C.ty el).zero with | some z => Nat.beq z.length (C.ty el).size | none => false) && oneL ys) = true) :
    (C.ty t).ok = true ∧ (C.ty t').ok = true ∧ (C.ty el).ok = true ∧ (∃ z, (C.ty el).zero = some z ∧ z.length = (C.ty el).size) ∧ oneL ys = true := by
  simp only [Bool.and_eq_true] at h
  obtain ⟨⟨⟨⟨h1, h2⟩, h3⟩, h4⟩, h5⟩ := h
  refine ⟨h1, h2, h3, ?_, h5⟩
  split at h4
  · rename_i z hz; exact ⟨z, hz, by simpa using h4⟩
  · cases h4

theorem hget_set_none {id : Nat} {j : Nat} {x : Blk} (hj : (H.set id none)[j]? = some (some x)) : H[j]? = some (some x) ∧ j ≠ id := by
  by_cases e : id = j
  · subst e
    rw [List.getElem?_set] at hj
    simp at hj
  · rw [List.getElem?_set_ne e] at hj; exact ⟨hj, fun h => e h.symm⟩

theorem appendA_ok (hT : TyOk C) (hI : Inv C E H w) {draw : Bool} {ts : List TypeId} {s x v : AV} {c d : Value} {H' : Heap} (type : TypeId) (h : (appendA C draw H ts s x).run = some (v, H')) (hs : R E s c) (hx : R E x d) :
    ValOk C E H w (Builtin.append_ ts.toArray type #[c, d]) v H' ∧ True := by
  unfold appendA at h
  split at h
  rotate_left
  · simp [T.run] at h
  rename_i t t'
  split at h
  · simp [T.run] at h
  rotate_left
  · simp [T.run] at h
  rename_i el hd hd'
  have hdn : ∀ k, (C.ty t').desc ≠ .int k := fun k e => hd' _ e
  split at h
  · simp [T.run] at h
  rename_i k ys hce
  obtain ⟨hyl, hlen, news, hrn, hfc⟩ := cells_ok hI hce hx
  have hnl := hrn.length
  have hnew : ∀ w' : World, w'.heap = w.heap → (Builtin.firstCells (C.ty el).size k d).run C.P w' = .ok news.toArray w' := fun w' hw' => by
    rw [hfc k (Nat.le_refl _) w' hw', take_all (by omega)]
  simp only at h
  split at h
  · -- a nil slice
    cases hs.nils_inv
    rcases T.of_br h with ⟨h1, h2⟩ | ⟨h1, h2⟩
    · simp only [Nat.beq_eq] at h1
      subst h1
      obtain ⟨hz, h2⟩ := T.of_chk h2
      simp only [T.run, Option.some.injEq, Prod.mk.injEq] at h2
      obtain ⟨rfl, rfl⟩ := h2
      obtain ⟨hok, hok', hoke, ⟨z, hz, hzl⟩, hone⟩ := zok_of hz
      refine ⟨ValOk.same hI (append_fits (news := news) hT hok hok' hoke hd hdn hlen hnew (by simp) (w' := w) (by simp) (fun _ => rfl)) (.pers .nils), trivial⟩
    · have hk : k ≠ 0 := fun e => by subst e; simp at h1
      obtain ⟨h3, h4⟩ := T.of_chk h2
      rw [Bool.and_assoc, Bool.and_eq_true] at h3
      obtain ⟨hok, hok', hoke, ⟨z, hz, hzl⟩, hone⟩ := zok_of h3.1
      refine ⟨append_new (olds := []) (news := news) (l := []) (ys := ys) (sLen := 0) (sCap := 0) hT hI hok hok' hoke hz hd hdn hzl hlen hnew (fun w' _ => by simp [Builtin.firstCells]) .nil hrn (by simp) hyl (by omega) (T_chk h3.2 h4), trivial⟩
  · -- a row that is only read, and full
    rename_i len l
    obtain ⟨hl, h⟩ := T.of_chk h
    simp only [Nat.beq_eq] at hl
    obtain ⟨b, o, cap, rfl, hg, hful, hlc⟩ := hs.ro_inv
    obtain rfl := hful rfl
    obtain ⟨cs, hr, hc⟩ := RG.rl hg
    rcases T.of_br h with ⟨h1, h2⟩ | ⟨h1, h2⟩
    · simp only [Nat.beq_eq] at h1
      subst h1
      obtain ⟨hz, h2⟩ := T.of_chk h2
      simp only [T.run, Option.some.injEq, Prod.mk.injEq] at h2
      obtain ⟨rfl, rfl⟩ := h2
      obtain ⟨hok, hok', hoke, ⟨z, hz, hzl⟩, hone⟩ := zok_of hz
      have hn0 : news = [] := List.eq_nil_of_length_eq_zero (by omega)
      subst hn0
      refine ⟨ValOk.same hI (append_fits (news := []) hT hok hok' hoke hd hdn hlen hnew (by simp) (w' := w) (fun ad _ => by simp [storeCells]) (fun _ => rfl)) hs, trivial⟩
    · have hk : k ≠ 0 := fun e => by subst e; simp at h1
      obtain ⟨h3, h4⟩ := T.of_chk h2
      rw [Bool.and_assoc, Bool.and_eq_true] at h3
      obtain ⟨hok, hok', hoke, ⟨z, hz, hzl⟩, hone⟩ := zok_of h3.1
      obtain ⟨_, _, cs', hr', hold⟩ := cells_ok (sz := (C.ty el).size) (k := cap) (ys := l) hI (by simp [cellsOf, hl]) hs
      have hcl := hr'.length
      refine ⟨append_new (olds := cs') (news := news) (l := l) (ys := ys) (sLen := cap) (sCap := cap) hT hI hok hok' hoke hz hd hdn hzl hlen hnew
        (fun w' hw' => by rw [hold cap (Nat.le_refl _) w' hw', take_all (by omega)]) hr' hrn hl hyl (by omega) (T_chk h3.2 h4), trivial⟩
  · -- a row of the call's own, its capacity known
    rename_i sz id off len cc
    split at h
    rotate_left
    · simp [T.run] at h
    rename_i blk hbk
    refine ⟨?_, trivial⟩
    obtain ⟨h1, h⟩ := T.of_chk h
    rw [Bool.and_assoc, Bool.and_eq_true] at h1
    obtain ⟨hok, hok', hoke, ⟨z, hz, hzl⟩, hone⟩ := zok_of h1.1
    have h1' := h1.2
    simp only [Bool.and_eq_true, Nat.beq_eq, Nat.ble_eq] at h1'
    obtain ⟨rfl, hfit⟩ := h1'
    obtain ⟨b, m, cap, he, rfl, hcap, hlc, hm⟩ := hs.sl_inv
    obtain rfl := hcap _ rfl
    obtain ⟨b', m', cs, rest', e2, hh', hm', hr⟩ := hI.blk id blk (hget_eq hbk)
    rw [he] at e2; cases e2
    have hlr := hr.length
    rcases T.of_br h with ⟨h2, h3⟩ | ⟨h2, h3⟩
    · simp only [Nat.ble_eq] at h2
      obtain ⟨h4, h5⟩ := T.of_chk h3
      simp only [Nat.ble_eq] at h4
      simp only [T.run, Option.some.injEq, Prod.mk.injEq] at h5
      obtain ⟨rfl, rfl⟩ := h5
      have hnl' : off + len * (C.ty el).size + news.length ≤ cs.length := by rw [← hnl, hyl, ← hlr, Nat.add_assoc, ← Nat.add_mul]; exact h4
      have hst := run_storeCells_at C.P b (off + len * (C.ty el).size) blk.ty news 0 (cs ++ rest').toArray w hh' (by simp; omega) (hrn.oneCells hone)
      have e1 : ((cs ++ rest').toArray.toList.take (off + len * (C.ty el).size + 0) ++ news ++ (cs ++ rest').toArray.toList.drop (off + len * (C.ty el).size + 0 + news.length)) = setL cs (off + len * (C.ty el).size) news ++ rest' := by
        rw [setL_eq _ _ _ hnl']
        simp only [Nat.add_zero, List.append_assoc]
        rw [List.take_append_of_le_length (by omega), List.drop_append_of_le_length (by omega)]
      rw [e1] at hst
      obtain ⟨g1, g2⟩ := inv_set (cells := setL blk.cells (off + len * (C.ty el).size) ys) (cs := setL cs (off + len * (C.ty el).size) news) (rest := rest') hI (hget_eq hbk) he (hrn.setL _ hr) (by simpa [length_setL] using hm')
      refine ⟨_, _, E, append_fits (news := news) hT hok hok' hoke hd hdn hlen hnew h2 (w' := w.setRow b (setL cs (off + len * (C.ty el).size) news ++ rest').toArray) (fun ad had => ?_) (fun hn => by cases hn), ⟨ELe.refl E, g2, g1, .sl he (fun c hc => by cases hc; rfl) h2 hm⟩⟩
      cases had
      rw [addr_add]; exact hst
    · have h2' : cap < len + k := by
        rcases Nat.lt_or_ge cap (len + k) with h | h
        · exact h
        · rw [show Nat.ble (len + k) cap = true by rw [Nat.ble_eq]; exact h] at h2; cases h2
      obtain ⟨h4, h5⟩ := T.of_chk h3
      rw [Bool.and_assoc, Bool.and_eq_true] at h4
      obtain ⟨_, _, cs', hr', hold⟩ := cells_ok (sz := (C.ty el).size) (k := len) (ys := (blk.cells.drop off).take (len * (C.ty el).size)) hI (by simp [cellsOf, hbk, show Nat.ble (off + len * (C.ty el).size) blk.cells.length = true by rw [Nat.ble_eq]; exact hfit]) hs
      have hcl := hr'.length
      have hll : ((blk.cells.drop off).take (len * (C.ty el).size)).length = len * (C.ty el).size := by simp; omega
      exact append_new (draw := draw) (olds := cs') (news := news) (ys := ys) (sLen := len) (sCap := cap) hT hI hok hok' hoke hz hd hdn hzl hlen hnew
        (fun w' hw' => by rw [hold len (Nat.le_refl _) w' hw', take_all (by omega)]) hr' hrn hll hyl h2' (T_chk h4.2 h5)
  · -- a row of the call's own, its capacity not known
    rename_i sz id len
    split at h
    rotate_left
    · simp [T.run] at h
    rename_i blk hbk
    refine ⟨?_, trivial⟩
    obtain ⟨h1, h⟩ := T.of_chk h
    simp only [T.run, Option.some.injEq, Prod.mk.injEq] at h
    obtain ⟨rfl, rfl⟩ := h
    rw [Bool.and_assoc, Bool.and_assoc, Bool.and_assoc, Bool.and_assoc, Bool.and_eq_true] at h1
    obtain ⟨hok, hok', hoke, ⟨z, hz, hzl⟩, hone⟩ := zok_of h1.1
    have h1' := h1.2
    simp only [Bool.and_eq_true, Nat.beq_eq, Nat.ble_eq] at h1'
    obtain ⟨rfl, hty, hfit, hby, hmx⟩ := h1'
    obtain ⟨bty, bcells⟩ := blk
    simp only at hty hfit
    replace hty := hty.symm
    subst hty
    obtain ⟨b, m, cap, he, rfl, hcap, hlc, hm⟩ := hs.sl_inv
    obtain ⟨b', m', cs, rest', e2, hh', hm', hr⟩ := hI.blk id _ (hget_eq hbk)
    rw [he] at e2; cases e2
    simp only at hr hh'
    have hlr := hr.length
    obtain ⟨_, _, cs', hr', hold⟩ := cells_ok (sz := (C.ty el).size) (k := len) (ys := bcells) hI (by simp [cellsOf, hbk, show Nat.ble (len * (C.ty el).size) bcells.length = true by rw [Nat.ble_eq]; omega, take_all hfit.symm]) hs
    have hcl := hr'.length
    obtain ⟨hI0, hS0⟩ := inv_none hI id
    have hlen0 : (H.set id none).length = H.length := by simp
    by_cases hroom : len + k ≤ cap
    · have hnl' : len * (C.ty el).size + news.length ≤ (cs ++ rest').length := by
        rw [← hnl, hyl, ← Nat.add_mul, hm']
        have : (len + k) * (C.ty el).size ≤ cap * (C.ty el).size := Nat.mul_le_mul_right _ hroom
        omega
      have hst := run_storeCells_at C.P b (0 + len * (C.ty el).size) el news 0 (cs ++ rest').toArray w hh' (by simp at hnl' ⊢; omega) (hrn.oneCells hone)
      have e1 : ((cs ++ rest').toArray.toList.take (0 + len * (C.ty el).size + 0) ++ news ++ (cs ++ rest').toArray.toList.drop (0 + len * (C.ty el).size + 0 + news.length)) = (cs ++ news) ++ rest'.drop news.length := by
        simp only [Nat.add_zero, Nat.zero_add]
        rw [List.take_append_of_le_length (by omega), take_all (by omega), List.drop_append, List.drop_of_length_le (by omega)]
        simp
        congr 1
        omega
      rw [e1] at hst
      have hblk : (World.setRow w b ((cs ++ news) ++ rest'.drop news.length).toArray).heap[b]? = some (.cells ((cs ++ news) ++ rest'.drop news.length).toArray el (0, 0)) := setRow_heap w b _ _ _ _ hh'
      have hlm : ((cs ++ news) ++ rest'.drop news.length).length = m := by simp at hm' hnl' ⊢; omega
      have hown : OwnB E H b := ⟨id, _, m, hget_eq hbk, he⟩
      have hin : Inv C (E.more b m) (alloc (H.set id none) ⟨el, bcells ++ ys⟩) (w.setRow b ((cs ++ news) ++ rest'.drop news.length).toArray) := by
        refine inv_more (cs := cs ++ news) (rest := rest'.drop news.length) hI0 ?_ ?_ ?_ hblk hlm ((hr.append hrn).mono (ELe.more E b m)) (hI.ex_of fun b1 _ hno => by rw [heap_setRow_ne]; intro e; subst e; exact hno hown)
        · intro b1 o c hg
          have hne : b1 ≠ b := fun e => hI.sep _ _ _ hg (e ▸ hown)
          rw [cell_setRow_ne _ (by exact hne)]; exact hI.g _ _ _ hg
        · intro j bl b1 m1 hj hj1
          obtain ⟨hj', hji⟩ := hget_set_none hj
          have hne : b1 ≠ b := fun e => by subst e; exact hji (hI.inj _ _ _ _ _ _ _ hj' (hget_eq hbk) hj1 he)
          exact ⟨heap_setRow_ne _ hne, hne⟩
        · intro o c hg; exact hI.sep _ _ _ hg hown
      have hstp : Stp E H w (E.more b m) (alloc (H.set id none) ⟨el, bcells ++ ys⟩) (w.setRow b ((cs ++ news) ++ rest'.drop news.length).toArray) := by
        refine ⟨(ELe.more E b m).G, fun _ _ _ h => .inl h, ?_, ?_, by rw [size_setRow]; exact Nat.le_refl _, rfl, rfl, rfl⟩
        · intro b1 ho
          rcases own_more (by rw [hlen0]; exact hI.len) ho with h | rfl
          · exact hS0.own _ h
          · exact .inl hown
        · intro b1 _ hno
          rw [heap_setRow_ne]
          intro e; subst e; exact hno hown
      have hρ : (E.more b m).at H.length = some (b, m) := by rw [Env.at_get]; simp [Env.more, ← hI.len]
      refine ⟨_, _, _, append_fits (news := news) hT hok hok' hoke hd hdn hlen hnew hroom (w' := w.setRow b ((cs ++ news) ++ rest'.drop news.length).toArray) (fun ad had => ?_) (fun hn => by cases hn), ⟨ELe.more E b m, hstp, hin, .sl hρ (fun c hc => by cases hc) hroom hm⟩⟩
      cases had
      rw [addr_add]; exact hst
    · have h2' : cap < len + k := by omega
      have key := append_new (w := w) (draw := false) (type := type) (v := .sl (C.ty el).size (H.set id none).length 0 (len + k) none) (H' := alloc (H.set id none) ⟨el, bcells ++ ys⟩) (olds := cs') (news := news) (l := bcells) (ys := ys) (sLen := len) (sCap := cap) hT hI0 hok hok' hoke hz hd hdn hzl hlen hnew
        (fun w' hw' => by rw [hold len (Nat.le_refl _) w' hw', take_all (by omega)]) hr' hrn (by omega) hyl h2' (by simp only [T.chk, T.run]; rw [show (Nat.ble ((2 * (len + k) + 1000) * (C.ty el).bytes) maxBytes && Nat.ble (len + k) 9223372036854775807) = true by rw [Bool.and_eq_true, Nat.ble_eq, Nat.ble_eq]; exact ⟨hby, hmx⟩]; rfl)
      rw [hlen0] at key
      obtain ⟨c, w', E', k1, k2⟩ := key
      exact ⟨c, w', E', k1, ⟨k2.le, hS0.trans k2.stp, k2.inv, k2.r⟩⟩
  · simp [T.run] at h
where
  T_chk {α : Type} {b : Bool} {t : T α} {r : α} (h : b = true) (h' : t.run = some r) : (T.chk b t).run = some r := by subst h; exact h'
end
end Go.Ev

/- Evaluator: soundness, part 7: equality. -/
namespace Go.Ev

def flatF (g : TypeId → Option (List D)) (sz : TypeId → Option Nat) : List Field → Nat → Option (List D)
  | [], _ => some []
  | f :: fs, off => if f.name = "_" ∨ f.offset ≠ off then none else match g f.type with
    | some ds => if sz f.type = some ds.length then (flatF g sz fs (off + ds.length)).map (ds ++ ·) else none
    | none => none

/-- The cells of a type whose values are compared cell by cell. -/
def flatD (P : Program) : Nat → TypeId → Option (List D)
  | 0, _ => none
  | n + 1, t => match P.underlying t with
    | some (.struct fs) => if P.stoodInHeld t then none else flatF (flatD P n) (fun t => (P.info? t).map (·.size)) fs.toList 0
    | some (.array len e) => match flatD P n e with
      | some ds => if (P.info? e).map (·.size) = some ds.length then some (List.replicate len ds).flatten else none
      | none => none
    | some .bool => some [.bool]
    | some .string => some [.string]
    | some (.int k) => some [.int k]
    | _ => none

def EqOk (C : Ctx) : Prop := ∀ t, (C.ty t).eq = true → flatD C.P 8 t = some (C.ty t).cds ∧ C.P.eqGuardType C.P.depth t = false ∧ isAggD (C.ty t).desc = true

section
variable {P : Program} {E : Env} {w : World}

theorem tyL_length : ∀ {ds : List D} {l : List AV}, tyL ds l = true → ds.length = l.length
  | [], [], _ => rfl
  | d :: ds, v :: l, h => by simp only [tyL, Bool.and_eq_true] at h; simp [tyL_length h.2]
  | [], _ :: _, h => by simp [tyL] at h
  | _ :: _, [], h => by simp [tyL] at h

theorem tyL_append : ∀ {ds ds' : List D} {l : List AV}, tyL (ds ++ ds') l = true → tyL ds (l.take ds.length) = true ∧ tyL ds' (l.drop ds.length) = true
  | [], ds', l, h => ⟨by simp [tyL], by simpa using h⟩
  | d :: ds, ds', [], h => by simp [tyL] at h
  | d :: ds, ds', v :: l, h => by
    simp only [List.cons_append, tyL, Bool.and_eq_true] at h
    obtain ⟨h1, h2⟩ := tyL_append h.2
    exact ⟨by simp [tyL, h.1, h1], by simpa using h2⟩

theorem eqL_split : ∀ {n : Nat} {l l' : List AV} {b : Bool}, eqL l l' = some b → ∃ b1 b2, eqL (l.take n) (l'.take n) = some b1 ∧ eqL (l.drop n) (l'.drop n) = some b2 ∧ b = (b1 && b2)
  | 0, l, l', b, h => ⟨true, b, by simp [eqL], by simpa using h, by simp⟩
  | n + 1, [], [], b, h => by simp [eqL] at h; exact ⟨true, true, by simp [eqL], by simp [eqL], by simp [h]⟩
  | n + 1, [], _ :: _, b, h => by simp [eqL] at h
  | n + 1, _ :: _, [], b, h => by simp [eqL] at h
  | n + 1, a :: l, a' :: l', b, h => by
    simp only [eqL] at h
    split at h
    · rename_i x hx
      split at h
      · rename_i y hy
        cases h
        obtain ⟨b1, b2, h1, h2, h3⟩ := eqL_split (n := n) hy
        exact ⟨x && b1, b2, by simp [eqL, hx, h1], by simpa using h2, by rw [h3, Bool.and_assoc]⟩
      · cases h
    · cases h

/-- The value of a type at a place of a row of cells. -/
def valAt (P : Program) (t : TypeId) (n : Nat) (cs : List Value) : Value :=
  match P.underlying t with
  | some (.struct _) | some (.array _ _) => .agg (cs.take n).toArray
  | _ => cs.getD 0 undef

theorem run_part {t : TypeId} {d : TypeDesc} (hd : P.underlying t = some d) {n : Nat} (hs : (P.info? t).map (·.size) = some n) (cs : List Value) (off : Nat) (hl : off + n ≤ cs.length) (hn : isAggD (D.of d) = false → n = 1) :
    (part t cs.toArray off).run P w = .ok (valAt P t n (cs.drop off)) w := by
  obtain ⟨i, hi, hn'⟩ := Option.map_eq_some_iff.1 hs
  have hag : (isAgg t).run P w = .ok (isAggD (D.of d)) w := by cases d <;> simp [isAgg, run_underlying hd, D.of, isAggD]
  have hsz : (sizeOf t).run P w = .ok n w := by simp [sizeOf, typeInfo, hi, hn']
  by_cases h : isAggD (D.of d) = true
  · have : valAt P t n (cs.drop off) = .agg ((cs.drop off).take n).toArray := by
      unfold valAt; rw [hd]; cases d <;> simp_all [D.of, isAggD]
    simp [part, hag, h, hsz, this]
  · have h' : isAggD (D.of d) = false := by simpa using h
    have h1 := hn h'
    subst h1
    have hlt : off < cs.length := by omega
    have : valAt P t 1 (cs.drop off) = cs[off] := by
      unfold valAt; rw [hd]; cases d <;> simp_all [D.of, isAggD, List.getD]
    simp [part, hag, h', this, hlt]

theorem flat_scal {n : Nat} {t : TypeId} {d : TypeDesc} {ds : List D} (hd : P.underlying t = some d) (h : flatD P n t = some ds) (ha : isAggD (D.of d) = false) : ds = [D.of d] := by
  cases n with
  | zero => simp [flatD] at h
  | succ n =>
    simp only [flatD, hd] at h
    cases d <;> simp_all [D.of, isAggD]

theorem flat_und {n : Nat} {t : TypeId} {ds : List D} (h : flatD P n t = some ds) : ∃ d, P.underlying t = some d := by
  cases n with
  | zero => simp [flatD] at h
  | succ n =>
    simp only [flatD] at h
    cases hd : P.underlying t with
    | none => simp [hd] at h
    | some d => exact ⟨d, rfl⟩

theorem eqArr {elem : TypeId} {n : Nat} {d : Nat} {xs ys : Array Value} (f : Nat → Option Bool) (hf : ∀ (i : Nat) (b : Bool) (w : World), f i = some b → ∃ a c, (part elem xs (i * n)).run P w = .ok a w ∧ (part elem ys (i * n)).run P w = .ok c w ∧ (Op.equalIn d elem a c).run P w = .ok b w) :
    ∀ (l : List Nat) (b : Bool) (w : World), (l.foldr (fun i r => match f i, r with | some x, some y => some (x && y) | _, _ => none) (some true)) = some b →
      (forIn (m := Sem) l ((none, ()) : Option Bool × Unit) (fun i _ => do
        let a ← part elem xs (i * n)
        let c ← part elem ys (i * n)
        let r ← Op.equalIn d elem a c
        if (!r) = true then pure (ForInStep.done (some false, ())) else pure (ForInStep.yield (none, ())))).run P w = .ok ((if b then none else some false), ()) w
  | [], b, w, h => by simp at h; subst h; simp
  | i :: l, b, w, h => by
    simp only [List.foldr_cons] at h
    split at h
    · rename_i x y hx hy
      cases h
      obtain ⟨a, c, h1, h2, h3⟩ := hf i x w hx
      have ih := eqArr f hf l y w hy
      simp only [List.forIn_cons, Sem.run_bind, h1, h2, h3, Result.andThen_ok]
      cases x
      · simp
      · simpa using ih
    · cases h

theorem eqL_nil_iff {l l' : List AV} {b : Bool} (h : eqL l l' = some b) : l.length = l'.length := by
  induction l generalizing l' b with
  | nil => cases l' with
    | nil => rfl
    | cons => simp [eqL] at h
  | cons a l ih => cases l' with
    | nil => simp [eqL] at h
    | cons a' l' =>
      simp only [eqL] at h
      split at h
      · split at h
        · rename_i y hy; simp [ih hy]
        · cases h
      · cases h

theorem tyc_inv {d : D} {v : AV} (h : tyc d v = true) : (∃ k n, d = .int k ∧ v = .int k n) ∨ (∃ b, d = .bool ∧ v = .bool b) ∨ (∃ s, d = .string ∧ v = .str s) := by
  cases d <;> simp [tyc] at h
  · cases v <;> simp [AV.isI] at h
    subst h; exact .inl ⟨_, _, rfl, rfl⟩
  · cases v <;> simp [AV.isB] at h
    exact .inr (.inl ⟨_, rfl, rfl⟩)
  · cases v <;> simp [AV.isS] at h
    exact .inr (.inr ⟨_, rfl, rfl⟩)

/-- '==' of two values of a flat type, cell by cell. -/
theorem eqFlat : ∀ (n d : Nat) (t : TypeId) (ds : List D), flatD P n t = some ds → n ≤ d → ∀ (l l' : List AV) (cs cs' : List Value) (b : Bool) (w : World), RL E l cs → RL E l' cs' → tyL ds (l.take ds.length) = true → tyL ds (l'.take ds.length) = true →
    eqL (l.take ds.length) (l'.take ds.length) = some b → (Op.equalIn d t (valAt P t ds.length cs) (valAt P t ds.length cs')).run P w = .ok b w
  | 0, _, _, _, h, _, _, _, _, _, _, _, _, _, _, _, _ => by simp [flatD] at h
  | n + 1, 0, _, _, _, hd, _, _, _, _, _, _, _, _, _, _, _ => by omega
  | n + 1, d + 1, t, ds, h, hd, l, l', cs, cs', b, w, hr, hr', ht, ht', he => by
    obtain ⟨dd, hu⟩ := flat_und h
    have hfl := h
    simp only [flatD, hu] at h
    cases dd with
    | bool =>
      cases h
      have hl1 := tyL_length ht
      have hl2 := tyL_length ht'
      cases hr with
      | nil => simp at hl1
      | cons hv hr =>
        cases hr' with
        | nil => simp at hl2
        | cons hv' hr' =>
          simp only [List.length_singleton, List.take_succ_cons, List.take_zero, tyL, Bool.and_eq_true] at ht ht'
          rcases tyc_inv ht.1 with ⟨_, _, h1, _⟩ | ⟨x, _, rfl⟩ | ⟨_, h1, _⟩
          · cases h1
          · rcases tyc_inv ht'.1 with ⟨_, _, h1, _⟩ | ⟨y, _, rfl⟩ | ⟨_, h1, _⟩
            · cases h1
            · cases hv.bool_inv; cases hv'.bool_inv
              simp [eqL, eq1] at he
              subst he
              simp [valAt, hu, run_equalIn_bool w d t x y hu]
            · cases h1
          · cases h1
    | string =>
      cases h
      have hl1 := tyL_length ht
      have hl2 := tyL_length ht'
      cases hr with
      | nil => simp at hl1
      | cons hv hr =>
        cases hr' with
        | nil => simp at hl2
        | cons hv' hr' =>
          simp only [List.length_singleton, List.take_succ_cons, List.take_zero, tyL, Bool.and_eq_true] at ht ht'
          rcases tyc_inv ht.1 with ⟨_, _, h1, _⟩ | ⟨_, h1, _⟩ | ⟨x, _, rfl⟩
          · cases h1
          · cases h1
          · rcases tyc_inv ht'.1 with ⟨_, _, h1, _⟩ | ⟨_, h1, _⟩ | ⟨y, _, rfl⟩
            · cases h1
            · cases h1
            · cases hv.str_inv; cases hv'.str_inv
              simp [eqL, eq1] at he
              subst he
              simp [valAt, hu, run_equalIn_string w d t _ _ hu]
    | int k =>
      cases h
      have hl1 := tyL_length ht
      have hl2 := tyL_length ht'
      cases hr with
      | nil => simp at hl1
      | cons hv hr =>
        cases hr' with
        | nil => simp at hl2
        | cons hv' hr' =>
          simp only [List.length_singleton, List.take_succ_cons, List.take_zero, tyL, Bool.and_eq_true] at ht ht'
          rcases tyc_inv ht.1 with ⟨k1, x, h1, rfl⟩ | ⟨_, h1, _⟩ | ⟨_, h1, _⟩
          · cases h1
            rcases tyc_inv ht'.1 with ⟨k2, y, h1, rfl⟩ | ⟨_, h1, _⟩ | ⟨_, h1, _⟩
            · cases h1
              cases hv.int_inv; cases hv'.int_inv
              simp [eqL, eq1] at he
              subst he
              simp [valAt, hu, run_equalIn_int w d t k k x y hu]
            · cases h1
            · cases h1
          · cases h1
          · cases h1
    | array len e =>
      simp only at h
      split at h
      · rename_i es hes
        split at h
        · rename_i hsz
          cases h
          have hlen : (List.replicate len es).flatten.length = len * es.length := by simp
          rw [hlen] at ht ht' he ⊢
          have hl1 := tyL_length ht
          have hl2 := tyL_length ht'
          rw [hlen] at hl1 hl2
          obtain ⟨i0, hi0, hi1⟩ := Option.map_eq_some_iff.1 hsz
          have hsize : ∀ w, (sizeOf e).run P w = .ok es.length w := fun w => by simp [sizeOf, typeInfo, hi0, hi1]
          obtain ⟨de, hde⟩ := flat_und hes
          have e1 : valAt P t (len * es.length) cs = .agg (cs.take (len * es.length)).toArray := by simp [valAt, hu]
          have e2 : valAt P t (len * es.length) cs' = .agg (cs'.take (len * es.length)).toArray := by simp [valAt, hu]
          have hc1 := hr.length
          have hc2 := hr'.length
          simp only [List.length_take] at hl1 hl2
          -- element by element
          have key : ∀ (m k : Nat), k + m = len → ∀ b, eqL ((l.take (len * es.length)).drop (k * es.length)) ((l'.take (len * es.length)).drop (k * es.length)) = some b →
              tyL (List.replicate m es).flatten ((l.take (len * es.length)).drop (k * es.length)) = true → tyL (List.replicate m es).flatten ((l'.take (len * es.length)).drop (k * es.length)) = true →
              (List.range' k m).foldr (fun i r => match (eqL (((l.take (len * es.length)).drop (i * es.length)).take es.length) (((l'.take (len * es.length)).drop (i * es.length)).take es.length)), r with | some x, some y => some (x && y) | _, _ => none) (some true) = some b := by
            intro m
            induction m with
            | zero =>
              intro k hk b hb _ _
              have : k = len := by omega
              subst this
              rw [List.drop_of_length_le (by simp; omega), List.drop_of_length_le (by simp; omega)] at hb
              simp [eqL] at hb
              simp [hb]
            | succ m ih =>
              intro k hk b hb h1 h2
              obtain ⟨b1, b2, h3, h4, h5⟩ := eqL_split (n := es.length) hb
              rw [List.drop_drop, List.drop_drop, show k * es.length + es.length = (k + 1) * es.length by rw [Nat.succ_mul]] at h4
              simp only [List.replicate_succ, List.flatten_cons] at h1 h2
              have h1' := (tyL_append h1).2
              have h2' := (tyL_append h2).2
              rw [List.drop_drop, show k * es.length + es.length = (k + 1) * es.length by rw [Nat.succ_mul]] at h1' h2'
              have := ih (k + 1) (by omega) b2 h4 h1' h2'
              simp only [List.range'_succ, List.foldr_cons, h3, this, h5]
          have hfold := key len 0 (by omega) b (by simpa using he) (by simpa using ht) (by simpa using ht')
          have tyAt : ∀ (i : Nat) (ll : List AV), i < len → tyL (List.replicate len es).flatten ll = true → tyL es ((ll.drop (i * es.length)).take es.length) = true := by
            intro i
            have : ∀ (m i : Nat) (ll : List AV), i < m → tyL (List.replicate m es).flatten ll = true → tyL es ((ll.drop (i * es.length)).take es.length) = true := by
              intro m
              induction m with
              | zero => intro i ll hi; omega
              | succ m ih =>
                intro i ll hi h
                simp only [List.replicate_succ, List.flatten_cons] at h
                obtain ⟨h1, h2⟩ := tyL_append h
                cases i with
                | zero => simpa using h1
                | succ i =>
                  have := ih i _ (by omega) h2
                  rw [List.drop_drop] at this
                  rw [Nat.succ_mul, Nat.add_comm]; exact this
            exact this len i
          have hf := eqArr (P := P) (elem := e) (n := es.length) (d := d) (xs := (cs.take (len * es.length)).toArray) (ys := (cs'.take (len * es.length)).toArray)
            (fun i => if i < len then eqL (((l.take (len * es.length)).drop (i * es.length)).take es.length) (((l'.take (len * es.length)).drop (i * es.length)).take es.length) else none)
            (fun i b w hb => by
              split at hb
              · rename_i hi
                have hfit : i * es.length + es.length ≤ len * es.length := by
                  rw [← Nat.succ_mul]; exact Nat.mul_le_mul_right _ hi
                have hone : isAggD (D.of de) = false → es.length = 1 := fun ha => by rw [flat_scal hde hes ha]; rfl
                refine ⟨_, _, run_part hde hsz _ _ (by simp; omega) hone, run_part hde hsz _ _ (by simp; omega) hone, ?_⟩
                exact eqFlat n d e es hes (by omega) _ _ _ _ b w ((hr.take _).drop _) ((hr'.take _).drop _) (tyAt i _ hi ht) (tyAt i _ hi ht') hb
              · cases hb) (List.range' 0 len) b w (by
              rw [← hfold]
              have : ∀ (ll : List Nat), (∀ i ∈ ll, i < len) → ll.foldr (fun i r => match (if i < len then eqL (((l.take (len * es.length)).drop (i * es.length)).take es.length) (((l'.take (len * es.length)).drop (i * es.length)).take es.length) else none), r with | some x, some y => some (x && y) | _, _ => none) (some true) = ll.foldr (fun i r => match (eqL (((l.take (len * es.length)).drop (i * es.length)).take es.length) (((l'.take (len * es.length)).drop (i * es.length)).take es.length)), r with | some x, some y => some (x && y) | _, _ => none) (some true) := by
                intro ll
                induction ll with
                | nil => intro _; rfl
                | cons i ll ih =>
                  intro h
                  simp only [List.foldr_cons]
                  rw [ih (fun j hj => h j (by simp [hj])), if_pos (h i (by simp))]
              exact this _ (fun i hi => by simp at hi; omega))
          rw [e1, e2]
          simp only [Op.equalIn, Sem.run_bind, run_underlying hu, Result.andThen_ok, hsize, Std.Legacy.Range.forIn_eq_forIn_range']
          have hrange : [:len].size = len := by simp [Std.Legacy.Range.size]
          rw [hrange]
          rw [hf]
          cases b <;> simp
        · cases h
      · cases h
    | struct fs =>
      simp only at h
      split at h
      · cases h
      · rename_i hst
        have hst' : P.stoodInHeld t = false := by simpa using hst
        have e1 : ∀ c, valAt P t ds.length c = .agg (c.take ds.length).toArray := fun c => by simp [valAt, hu]
        rw [e1, e1]
        have hfo : P.underlying t = some (.struct (P.fieldsOf t)) := by simp [Program.fieldsOf, hu]
        have hfe : P.fieldsOf t = fs := by simp [Program.fieldsOf, hu]
        rw [run_equalIn_struct w d t _ _ hfo hst', hfe]
        have hc1 := hr.length
        have hc2 := hr'.length
        have hg1 := tyL_length ht
        have hg2 := tyL_length ht'
        simp only [List.length_take] at hg1 hg2
        have key : ∀ (fl : List Field) (off : Nat) (ds2 : List D) (b : Bool), flatF (flatD P n) (fun t => (P.info? t).map (·.size)) fl off = some ds2 → off + ds2.length = ds.length →
            tyL ds2 ((l.take ds.length).drop off) = true → tyL ds2 ((l'.take ds.length).drop off) = true → eqL ((l.take ds.length).drop off) ((l'.take ds.length).drop off) = some b →
            (Op.eqFields d (cs.take ds.length).toArray (cs'.take ds.length).toArray fl).run P w = .ok b w := by
          intro fl
          induction fl with
          | nil =>
            intro off ds2 b hf ho h1 h2 hb
            simp only [flatF, Option.some.injEq] at hf
            subst hf
            have hl1 := tyL_length h1
            have hl2 := tyL_length h2
            have hx1 : (l.take ds.length).drop off = [] := List.eq_nil_of_length_eq_zero hl1.symm
            have hx2 : (l'.take ds.length).drop off = [] := List.eq_nil_of_length_eq_zero hl2.symm
            rw [hx1, hx2] at hb
            simp [eqL] at hb
            simp [Op.eqFields, hb]
          | cons f fl ih =>
            intro off ds2 b hf ho h1 h2 hb
            simp only [flatF] at hf
            split at hf
            · cases hf
            · rename_i hno
              have hnm : f.name ≠ "_" := fun e => hno (.inl e)
              have hof : f.offset = off := by
                rcases Nat.decEq f.offset off with h | h
                · exact absurd (.inr h) hno
                · exact h
              split at hf
              · rename_i es hes
                split at hf
                · rename_i hsz
                  obtain ⟨ds3, h3, h4⟩ := Option.map_eq_some_iff.1 hf
                  subst h4
                  obtain ⟨b1, b2, h5, h6, h7⟩ := eqL_split (n := es.length) hb
                  obtain ⟨h8, h9⟩ := tyL_append h1
                  obtain ⟨h8', h9'⟩ := tyL_append h2
                  rw [List.drop_drop, List.drop_drop] at h6
                  rw [List.drop_drop] at h9 h9'
                  obtain ⟨de, hde⟩ := flat_und hes
                  have hone : isAggD (D.of de) = false → es.length = 1 := fun ha => by rw [flat_scal hde hes ha]; rfl
                  have hl1 := tyL_length h8
                  have hl2 := tyL_length h8'
                  simp only [List.length_append] at ho
                  have p1 := run_part (w := w) hde hsz (cs.take ds.length) off (by simp; omega) hone
                  have p2 := run_part (w := w) hde hsz (cs'.take ds.length) off (by simp; omega) hone
                  have p3 := eqFlat n d f.type es hes (by omega) _ _ _ _ b1 w ((hr.take ds.length).drop off) ((hr'.take ds.length).drop off) h8 h8' h5
                  have p4 := ih (off + es.length) ds3 b2 h3 (by omega) h9 h9' h6
                  simp only [Op.eqFields, hnm, ne_eq, not_false_eq_true, if_true, Sem.run_bind, hof, p1, p2, p3, Result.andThen_ok]
                  cases b1
                  · simp [h7]
                  · simpa [h7] using p4
                · cases hf
              · cases hf
        exact key fs.toList 0 ds b h (by simp) (by simpa using ht) (by simpa using ht') (by simpa using he)
    | _ => cases h
end

section
variable {C : Ctx} {E : Env} {H : Heap} {w : World}
theorem agg_eq_ok (hT : TyOk C) (hQ : EqOk C) {op : BinOp} {t : TypeId} {x y : Operand} {l l' : List AV} {b : Bool} {cs cs' : List Value} (hok : (C.ty t).ok = true) (he : (C.ty t).eq = true) (h1 : tyL (C.ty t).cds l = true) (h2 : tyL (C.ty t).cds l' = true)
    (hb : eqL l l' = some b) (hr : RL E l cs) (hr' : RL E l' cs') (hop : op = .eql ∨ op = .neq) :
    (do eqGuard op t x y (.agg cs.toArray) (.agg cs'.toArray); binOp op t (.agg cs.toArray) (.agg cs'.toArray)).run C.P w = .ok (.bool (if op = .eql then b else !b)) w := by
  obtain ⟨h3, h4, h5⟩ := hQ t he
  obtain ⟨d, hd, hd2⟩ := und_of hT hok
  have hl1 := tyL_length h1
  have hl2 := tyL_length h2
  have hc1 := hr.length
  have hc2 := hr'.length
  have e := eqFlat (E := E) (P := C.P) 8 10000 t _ h3 (by omega) l l' cs cs' b w hr hr' (by rw [take_all hl1.symm]; exact h1) (by rw [take_all hl2.symm]; exact h2) (by rw [take_all hl1.symm, take_all hl2.symm]; exact hb)
  have v1 : ∀ c : List Value, c.length = (C.ty t).cds.length → valAt C.P t (C.ty t).cds.length c = .agg c.toArray := fun c hc => by
    rw [← hd2] at h5
    unfold valAt; rw [hd]; cases d <;> simp [D.of, isAggD] at h5 <;> simp only <;> rw [take_all hc]
  rw [v1 cs (by omega), v1 cs' (by omega)] at e
  rcases hop with rfl | rfl
  · simp [eqGuard, h4, binOp, Op.equal, Op.maxDepth, e]
  · simp [eqGuard, h4, binOp, Op.equal, Op.maxDepth, e]
end
end Go.Ev

/- Evaluator: soundness, part 8: copy, conversions, '==' with nil. -/
namespace Go.Ev

section
variable {C : Ctx} {E : Env} {H : Heap} {w : World}

theorem copyA_ok (hT : TyOk C) (hI : Inv C E H w) {ts : List TypeId} {s x v : AV} {c d : Value} {H' : Heap} (type : TypeId) (h : (copyA C H ts s x).run = some (v, H')) (hs : R E s c) (hx : R E x d) :
    ValOk C E H w (Builtin.copy_ ts.toArray type #[c, d]) v H' := by
  unfold copyA at h
  split at h
  rotate_left
  · simp [T.run] at h
  rename_i t rest
  split at h
  rotate_left
  · simp [T.run] at h
  rename_i el hd
  split at h
  · rename_i k ys sz id off len cap hce
    split at h
    rotate_left
    · simp [T.run] at h
    rename_i blk hbk
    obtain ⟨h1, h2⟩ := T.of_chk h
    simp only [T.run, Option.some.injEq, Prod.mk.injEq] at h2
    obtain ⟨rfl, rfl⟩ := h2
    simp only [Bool.and_eq_true, Nat.beq_eq, Nat.ble_eq] at h1
    obtain ⟨⟨⟨⟨hok, hoke⟩, hone⟩, rfl⟩, hfit⟩ := h1
    obtain ⟨hyl, hlen, news, hrn, hfc⟩ := cells_ok hI hce hx
    obtain ⟨b, m, cp, he, rfl, hcap, hlc, hm⟩ := hs.sl_inv
    obtain ⟨b', m', cs, rest', e2, hh', hm', hr⟩ := hI.blk id blk (hget_eq hbk)
    rw [he] at e2; cases e2
    have hlr := hr.length
    have hnl := hrn.length
    have hmn : min k len * (C.ty el).size ≤ len * (C.ty el).size := Nat.mul_le_mul_right _ (Nat.min_le_right _ _)
    have hmn' : min k len * (C.ty el).size ≤ k * (C.ty el).size := Nat.mul_le_mul_right _ (Nat.min_le_left _ _)
    have hrt := hrn.take (min k len * (C.ty el).size)
    have hlt : (news.take (min k len * (C.ty el).size)).length = min k len * (C.ty el).size := by simp; omega
    have honet : oneL (ys.take (min k len * (C.ty el).size)) = true := by
      have : ∀ (l : List AV) (n : Nat), oneL l = true → oneL (l.take n) = true := by
        intro l
        induction l with
        | nil => intro n _; simp [oneL]
        | cons v l ih =>
          intro n h
          simp only [oneL, Bool.and_eq_true] at h
          cases n with
          | zero => rfl
          | succ n => simp [oneL, h.1, ih n h.2]
      exact this _ _ hone
    have hst := run_storeCells_at C.P b off blk.ty (news.take (min k len * (C.ty el).size)) 0 (cs ++ rest').toArray w hh' (by rw [hlt]; simp; omega) (hrt.oneCells honet)
    have e1 : ((cs ++ rest').toArray.toList.take (off + 0) ++ news.take (min k len * (C.ty el).size) ++ (cs ++ rest').toArray.toList.drop (off + 0 + (news.take (min k len * (C.ty el).size)).length)) = setL cs off (news.take (min k len * (C.ty el).size)) ++ rest' := by
      rw [setL_eq _ _ _ (by rw [hlt]; omega)]
      simp only [Nat.add_zero, List.append_assoc]
      rw [List.take_append_of_le_length (by omega), List.drop_append_of_le_length (by rw [hlt]; omega)]
    rw [e1] at hst
    obtain ⟨g1, g2⟩ := inv_set (cells := setL blk.cells off (ys.take (min k len * (C.ty el).size))) (cs := setL cs off (news.take (min k len * (C.ty el).size))) (rest := rest') hI (hget_eq hbk) he (hrt.setL _ hr) (by simpa [length_setL] using hm')
    refine ⟨.int .i64 (min k len : Nat), _, E, ?_, ⟨ELe.refl E, g2, g1, .pers (.int _ _)⟩⟩
    have hf := hfc (min k len) (Nat.min_le_left _ _) w rfl
    simp [Builtin.copy_, run_underlying (und_slice hT hok hd), run_sizeOf hT hoke, hlen w rfl, hf, hst, goInt]
  · rename_i k ys hce
    obtain ⟨h1, h2⟩ := T.of_chk h
    simp only [T.run, Option.some.injEq, Prod.mk.injEq] at h2
    obtain ⟨rfl, rfl⟩ := h2
    simp only [Bool.and_eq_true] at h1
    obtain ⟨hok, hoke⟩ := h1
    obtain ⟨hyl, hlen, news, hrn, hfc⟩ := cells_ok hI hce hx
    cases hs.nils_inv
    have hf := hfc 0 (Nat.zero_le _) w rfl
    refine ValOk.same hI (c := .int .i64 0) ?_ (.pers (.int _ _))
    simp [Builtin.copy_, run_underlying (und_slice hT hok hd), run_sizeOf hT hoke, hlen w rfl, hf, goInt]
  · simp [T.run] at h

theorem bytesOf_ok : ∀ {l : List AV} {s : List UInt8} {cs : List Value}, (bytesOf l).run = some s → RL E l cs → ∃ ns : List Int, cs = ns.map (Value.int .u8) ∧ s = ns.map fun n => UInt8.ofNat n.toNat
  | [], s, cs, h, hr => by cases hr; simp [bytesOf, T.run] at h; exact ⟨[], rfl, by simp [← h]⟩
  | v :: l, s, cs, h, hr => by
    simp only [bytesOf] at h
    obtain ⟨h1, h2⟩ := T.of_chk h
    obtain ⟨r, h3, h4⟩ := T.of_bind h2
    simp only [T.run, Option.some.injEq] at h4
    cases hr with
    | cons hv hr =>
      cases v <;> simp [AV.isI] at h1
      rename_i kk nn
      subst h1
      cases hv.int_inv
      obtain ⟨ns, h5, h6⟩ := bytesOf_ok h3 hr
      exact ⟨nn :: ns, by simp [h5], by simp [← h4, h6, AV.toI]⟩

theorem foldl_push (l : List Int) : ∀ (r : List UInt8), l.foldl (fun (r : ByteArray) n => r.push (UInt8.ofNat n.toNat)) ⟨r.toArray⟩ = ⟨(r ++ l.map fun n => UInt8.ofNat n.toNat).toArray⟩ := by
  induction l with
  | nil => intro r; simp
  | cons n l ih =>
    intro r
    simp only [List.foldl_cons]
    have : (⟨r.toArray⟩ : ByteArray).push (UInt8.ofNat n.toNat) = ⟨(r ++ [UInt8.ofNat n.toNat]).toArray⟩ := by
      apply ByteArray.ext; simp [ByteArray.push]
    rw [this, ih]
    simp

theorem RPL_bytes (G : Gh) : ∀ s : List UInt8, RPL G (s.map fun b => AV.int .u8 b.toNat) (s.map fun b => Value.int .u8 b.toNat)
  | [] => .nil
  | _ :: s => .cons (.int _ _) (RPL_bytes G s)

theorem slice_of {x : AV} {c : Value} {sz : Nat} {r : Nat × List AV} (h : cellsOf H sz x = some r) (hns : ∀ s, x = .str s → False) (hx : R E x c) : ∃ a l cap, c = .slice a l cap := by
  unfold cellsOf at h
  split at h
  · obtain ⟨_, _, _, _, e, _⟩ := hx.sl_inv; exact ⟨_, _, _, e⟩
  · obtain ⟨_, _, _, e, _⟩ := hx.ro_inv; exact ⟨_, _, _, e⟩
  · exact ⟨_, _, _, hx.nils_inv⟩
  · exact absurd rfl (hns _)
  · cases h

theorem convA_ok (hT : TyOk C) (hI : Inv C E H w) {src dst : TypeId} {x v : AV} {c : Value} (h : (convA C H src dst x).run = some v) (hx : R E x c) : ValOk C E H w (convert src dst c) v H := by
  unfold convA at h
  replace h := T.of_chk h
  obtain ⟨hok, h⟩ := h
  simp only [Bool.and_eq_true] at hok
  obtain ⟨hs, hd⟩ := hok
  obtain ⟨ds, hus, hds⟩ := und_of hT hs
  split at h
  · rename_i k k' n he
    cases hx.int_inv
    cases Option.some.inj h
    exact ValOk.same hI (by simp [convert, run_underlying hus, run_underlying (und_int hT hd he), Conv.intToInt]) (.pers (.int _ _))
  · rename_i s he
    cases hx.str_inv
    cases Option.some.inj h
    exact ValOk.same hI (by simp [convert, run_underlying hus, run_underlying (und_string hT hd he)]) (.pers (.str _))
  · rename_i k n he
    cases hx.int_inv
    cases Option.some.inj h
    refine ValOk.same hI (c := .string (Utf8.encode n)) (by simp [convert, run_underlying hus, run_underlying (und_string hT hd he), Conv.intToString]) ?_
    have := RP.str (G := E.G) (Utf8.encode n).data.toList
    exact .pers (by simpa using this)
  · rename_i he hns hni
    split at h
    rotate_left
    · simp [T.run] at h
    rename_i el hel
    split at h
    rotate_left
    · simp [T.run] at h
    rename_i k ys hk hce
    obtain ⟨hoke, h⟩ := T.of_chk h
    obtain ⟨l, h1, h2⟩ := T.of_bind h
    cases Option.some.inj h2
    obtain ⟨hyl, hlen, cs, hrn, hfc⟩ := cells_ok hI hce hx
    obtain ⟨ns, rfl, rfl⟩ := bytesOf_ok h1 hrn
    have hl := hrn.length
    simp only [Nat.mul_one] at hyl hfc
    have hf := hfc k (Nat.le_refl _) w rfl
    rw [take_all (by omega)] at hf
    refine ValOk.same hI (c := .string ⟨(ns.map fun n => UInt8.ofNat n.toNat).toArray⟩) ?_ (.pers (.str _))
    obtain ⟨a, len, cap, rfl⟩ := slice_of hce hns hx
    have hconv : (convert src dst (.slice a len cap)).run C.P w = (Conv.bytesToString (.slice a len cap)).run C.P w := by
      simp [convert, run_underlying (und_slice hT hs hel), run_underlying (und_string hT hd he), run_underlying (und_int hT hoke hk)]
    rw [hconv]
    have hk' : len = k := by
      have := hlen w rfl
      simpa [Builtin.lenOf] using this
    subst hk'
    cases a with
    | none =>
      simp [Builtin.firstCells] at hf
      subst hf
      simp [Conv.bytesToString]
      rfl
    | some a =>
      have hf' : (loadCells a len).run C.P w = .ok (ns.map (Value.int .u8)).toArray w := by simpa [Builtin.firstCells] using hf
      rw [run_bytesToString w a len cap ns hf']
      have := foldl_push ns []
      simp only [List.nil_append] at this
      rw [show (ByteArray.empty) = ⟨([] : List UInt8).toArray⟩ from rfl, this]
  · rename_i el s he
    cases hx.str_inv
    split at h
    rotate_left
    · simp [T.run] at h
    rename_i hk hsd
    obtain ⟨hoke, h⟩ := T.of_chk h
    cases Option.some.inj h
    have hrun := run_bytes_of_string (P := C.P) w src dst el ⟨s.toArray⟩ (und_string hT hs hsd) (und_slice hT hd he) (und_int hT hoke hk)
    have e1 : (⟨s.toArray⟩ : ByteArray).size = s.length := by simp [ByteArray.size]
    obtain ⟨hI1, hS1⟩ := inv_drew hI
    have hr := RPL_bytes E.G s
    have hrow : ∀ cap, bytesRow ⟨s.toArray⟩ cap = ((s.map fun (b : UInt8) => Value.int .u8 b.toNat) ++ List.replicate (cap - s.length) (Value.int .u8 0)).toArray := fun cap => by
      simp [bytesRow, e1]
    rw [hrow, e1] at hrun
    obtain ⟨g1, g2, g3, g4⟩ := inv_ghost (ty := el) (rest := List.replicate (grownCap w s.length 0 el - s.length) (Value.int .u8 0)) (fr := _) hI1 hr
    exact ⟨_, _, _, hrun, ⟨g4, hS1.trans g2, g1, .pers (.ro g3 (by simp) (by simp [grownCap, Question.cut]))⟩⟩
  · simp [T.run] at h

theorem und_ptr (hT : TyOk C) {t e : Nat} (hok : (C.ty t).ok = true) (hd : (C.ty t).desc = .ptr e) : C.P.underlying t = some (.pointer e) := by
  obtain ⟨d, h1, h2⟩ := und_of hT hok
  rw [h1]; rw [hd] at h2
  cases d <;> simp [D.of] at h2
  rw [h2]
theorem und_bool (hT : TyOk C) {t : Nat} (hok : (C.ty t).ok = true) (hd : (C.ty t).desc = .bool) : C.P.underlying t = some .bool := by
  obtain ⟨d, h1, h2⟩ := und_of hT hok
  rw [h1]; rw [hd] at h2
  cases d <;> simp [D.of] at h2
  rfl
theorem und_func (hT : TyOk C) {t : Nat} (hok : (C.ty t).ok = true) (hd : (C.ty t).desc = .func) : ∃ a b c, C.P.underlying t = some (.func a b c) := by
  obtain ⟨d, h1, h2⟩ := und_of hT hok
  rw [hd] at h2
  cases d <;> simp [D.of] at h2
  exact ⟨_, _, _, h1⟩
theorem und_iface (hT : TyOk C) {t : Nat} (hok : (C.ty t).ok = true) (hd : (C.ty t).desc = .iface) : ∃ a, C.P.underlying t = some (.interface a) := by
  obtain ⟨d, h1, h2⟩ := und_of hT hok
  rw [hd] at h2
  cases d <;> simp [D.of] at h2
  exact ⟨_, h1⟩

/-- What the comparison comes to once 'equal' and the guard are known. -/
theorem cmp_of {op : BinOp} {t : TypeId} {x y : Operand} {c d : Value} {r : Bool} (hop : op = .eql ∨ op = .neq) (h1 : (eqGuard op t x y c d).run C.P w = .ok () w) (h2 : binOp .eql t c d = (do pure (.bool (← Op.equal t c d)))) (h2' : binOp .neq t c d = (do pure (.bool (!(← Op.equal t c d)))))
    (h3 : ∀ n, (Op.equalIn (n + 1) t c d).run C.P w = .ok r w) :
    (do eqGuard op t x y c d; binOp op t c d).run C.P w = .ok (.bool (if op = .eql then r else !r)) w := by
  have h4 : (Op.equal t c d).run C.P w = .ok r w := h3 9999
  rcases hop with rfl | rfl
  · rw [h2]; simp [h1, h4]
  · rw [h2']; simp [h1, h4]

theorem isK_inv {x : Operand} (h : isK x = true) : ∃ v, x = .const v := by
  cases x <;> simp [isK] at h
  exact ⟨_, rfl⟩

theorem guard_nili {op : BinOp} {t : TypeId} {x y : Operand} (hop : op = .eql ∨ op = .neq) (h : isK x = true ∨ isK y = true) : (eqGuard op t x y .nilIface .nilIface).run C.P w = .ok () w := by
  rcases h with h | h
  · obtain ⟨v, rfl⟩ := isK_inv h
    rcases hop with rfl | rfl <;> simp [eqGuard]
  · obtain ⟨v, rfl⟩ := isK_inv h
    rcases hop with rfl | rfl <;> simp [eqGuard]

theorem guard_free {op : BinOp} {t : TypeId} {x y : Operand} {c d : Value} (hop : op = .eql ∨ op = .neq) (h1 : c ≠ .nilIface ∨ d ≠ .nilIface) (h2 : ∀ z, c ≠ .agg z) : (eqGuard op t x y c d).run C.P w = .ok () w := by
  rcases hop with rfl | rfl
  · cases c <;> first | (simp [eqGuard]; done) | (exact absurd rfl (h2 _)) | (cases d <;> first | (simp [eqGuard]; done) | (simp at h1))
  · cases c <;> first | (simp [eqGuard]; done) | (exact absurd rfl (h2 _)) | (cases d <;> first | (simp [eqGuard]; done) | (simp at h1))

set_option maxHeartbeats 1000000 in
theorem eqT_ok (hT : TyOk C) {k : Bool} {op : BinOp} {t : TypeId} {x y : Operand} {a b : AV} {c d : Value} {r : Bool} (hok : (C.ty t).ok = true) (hk : k = true → isK x = true ∨ isK y = true) (h : eqT k (C.ty t).desc a b = some r) (ha : R E a c) (hb : R E b d) (hop : op = .eql ∨ op = .neq) :
    (do eqGuard op t x y c d; binOp op t c d).run C.P w = .ok (.bool (if op = .eql then r else !r)) w := by
  have gd : ∀ {c d : Value}, (c ≠ .nilIface ∨ d ≠ .nilIface) → (∀ z, c ≠ .agg z) → (eqGuard op t x y c d).run C.P w = .ok () w := fun h1 h2 => guard_free hop h1 h2
  unfold eqT at h
  split at h
  · rename_i hd
    cases ha.bool_inv; cases hb.bool_inv; cases h
    exact cmp_of hop (gd (by simp) (by simp)) rfl rfl (fun n => run_equalIn_bool w n t _ _ (und_bool hT hok hd))
  · rename_i hd
    cases ha.nilp_inv; cases hb.nilp_inv; cases h
    exact cmp_of hop (gd (by simp) (by simp)) rfl rfl (fun n => by simp [Op.equalIn, run_underlying (und_ptr hT hok hd)])
  · rename_i hd
    cases ha.nilp_inv; obtain ⟨_, _, _, rfl⟩ := hb.own_inv; cases h
    exact cmp_of hop (gd (by simp) (by simp)) rfl rfl (fun n => by simp [Op.equalIn, run_underlying (und_ptr hT hok hd)])
  · rename_i hd
    cases ha.nilp_inv; obtain ⟨_, _, rfl, _⟩ := hb.rp_inv; cases h
    exact cmp_of hop (gd (by simp) (by simp)) rfl rfl (fun n => by simp [Op.equalIn, run_underlying (und_ptr hT hok hd)])
  · rename_i hd
    cases hb.nilp_inv; obtain ⟨_, _, _, rfl⟩ := ha.own_inv; cases h
    exact cmp_of hop (gd (by simp) (by simp)) rfl rfl (fun n => by simp [Op.equalIn, run_underlying (und_ptr hT hok hd)])
  · rename_i hd
    cases hb.nilp_inv; obtain ⟨_, _, rfl, _⟩ := ha.rp_inv; cases h
    exact cmp_of hop (gd (by simp) (by simp)) rfl rfl (fun n => by simp [Op.equalIn, run_underlying (und_ptr hT hok hd)])
  · rename_i hd
    cases ha.nils_inv; cases hb.nils_inv; cases h
    exact cmp_of hop (gd (by simp) (by simp)) rfl rfl (fun n => by simp [Op.equalIn, run_underlying (und_slice hT hok hd)])
  · rename_i hd
    cases ha.nils_inv; obtain ⟨_, _, _, _, rfl, _⟩ := hb.sl_inv; cases h
    exact cmp_of hop (gd (by simp) (by simp)) rfl rfl (fun n => by simp [Op.equalIn, run_underlying (und_slice hT hok hd)])
  · rename_i hd
    cases ha.nils_inv; obtain ⟨_, _, _, rfl, _⟩ := hb.ro_inv; cases h
    exact cmp_of hop (gd (by simp) (by simp)) rfl rfl (fun n => by simp [Op.equalIn, run_underlying (und_slice hT hok hd)])
  · rename_i hd
    cases hb.nils_inv; obtain ⟨_, _, _, _, rfl, _⟩ := ha.sl_inv; cases h
    exact cmp_of hop (gd (by simp) (by simp)) rfl rfl (fun n => by simp [Op.equalIn, run_underlying (und_slice hT hok hd)])
  · rename_i hd
    cases hb.nils_inv; obtain ⟨_, _, _, rfl, _⟩ := ha.ro_inv; cases h
    exact cmp_of hop (gd (by simp) (by simp)) rfl rfl (fun n => by simp [Op.equalIn, run_underlying (und_slice hT hok hd)])
  · rename_i hd
    obtain ⟨_, _, _, hu⟩ := und_func hT hok hd
    cases ha.nilf_inv; cases hb.nilf_inv; cases h
    exact cmp_of hop (gd (by simp) (by simp)) rfl rfl (fun n => by simp [Op.equalIn, run_underlying hu])
  · rename_i hd
    obtain ⟨_, _, _, hu⟩ := und_func hT hok hd
    cases ha.nilf_inv; obtain ⟨_, _, rfl, _⟩ := hb.fn_inv; cases h
    exact cmp_of hop (gd (by simp) (by simp)) rfl rfl (fun n => by simp [Op.equalIn, run_underlying hu])
  · rename_i hd
    obtain ⟨_, _, _, hu⟩ := und_func hT hok hd
    cases hb.nilf_inv; obtain ⟨_, _, rfl, _⟩ := ha.fn_inv; cases h
    exact cmp_of hop (gd (by simp) (by simp)) rfl rfl (fun n => by simp [Op.equalIn, run_underlying hu])
  · rename_i hd
    obtain ⟨_, hu⟩ := und_iface hT hok hd
    cases ha.nili_inv; cases hb.nili_inv
    cases hkk : k
    · rw [hkk] at h; simp at h
    · rw [hkk] at h; simp at h; subst h
      refine cmp_of hop ?_ rfl rfl (fun n => by simp [Op.equalIn, run_underlying hu])
      exact guard_nili hop (hk hkk)
  · rename_i hd
    obtain ⟨_, hu⟩ := und_iface hT hok hd
    cases ha.nili_inv; obtain ⟨_, rfl, _⟩ := hb.ifc_inv; cases h
    exact cmp_of hop (gd (by simp) (by simp)) rfl rfl (fun n => by simp [Op.equalIn, run_underlying hu])
  · rename_i hd
    obtain ⟨_, hu⟩ := und_iface hT hok hd
    cases hb.nili_inv; obtain ⟨_, rfl, _⟩ := ha.ifc_inv; cases h
    exact cmp_of hop (gd (by simp) (by simp)) rfl rfl (fun n => by simp [Op.equalIn, run_underlying hu])
  · cases h
end
end Go.Ev

/- Evaluator: soundness, part 9: calls; one operation. -/
namespace Go.Ev

/-- A function with a body. -/
def FnOk (C : Ctx) (f : FuncId) : Prop := ∃ fn, C.P.funcs[f]? = some fn ∧ fn.body.isSome = true ∧ (fn.name == "runtime.NumGoroutine") = false

def SoundCall (C : Ctx) (r : EvT) : Prop := ∀ (f : FuncId) (args : List AV) (H : Heap) (v : AV) (H' : Heap), (r.call f args H).run = some (v, H') → FnOk C f ∧ ∀ (E : Env) (w : World) (vs : List Value), Inv C E H w → RL E args vs →
  Calls C.P f vs.toArray w (fun e w' => ∃ c E', e = .returned c ∧ Good C E H w v H' c w' E')

/-- A call on what names no block of the caller's own. -/
def Iso (C : Ctx) (f : FuncId) (args : List AV) (v : AV) : Prop := ∀ (G : Gh) (w : World) (vs : List Value), Inv C ⟨[], G⟩ [] w → RPL G args vs →
  Calls C.P f vs.toArray w (fun e w' => ∃ c G', e = .returned c ∧ RP G' v c ∧ Stp ⟨[], G⟩ [] w ⟨[], G'⟩ [] w' ∧ Inv C ⟨[], G'⟩ [] w')


section
variable {C : Ctx} {E : Env} {H : Heap} {w : World}

theorem Inv.iso (hI : Inv C E H w) : Inv C ⟨[], E.G⟩ [] w :=
  ⟨rfl, hI.g, fun _ _ _ _ ⟨_, _, _, h, _⟩ => by simp at h, fun _ _ h => by simp at h, fun _ _ _ _ _ _ _ h => by simp at h, hI.glob, hI.ex⟩

/-- Back from a call on what names no block of the caller's own. -/
theorem iso_back (hI : Inv C E H w) {G' : Gh} {w' : World} {v : AV} {c : Value} (hr : RP G' v c) (hS : Stp ⟨[], E.G⟩ [] w ⟨[], G'⟩ [] w') (hI' : Inv C ⟨[], G'⟩ [] w') :
    Good C E H w v H c w' ⟨E.ρ, G'⟩ := by
  have noO : ∀ {G : Gh} {b}, ¬ OwnB ⟨[], G⟩ [] b := fun ⟨_, _, _, h, _⟩ => by simp at h
  have hheap : ∀ b, b < w.heap.size → w'.heap[b]? = w.heap[b]? := fun b hb => hS.unt b hb noO
  have hle : ELe E ⟨E.ρ, G'⟩ := ⟨fun _ _ h => h, hS.g, Nat.le_refl _, fun _ _ h => h⟩
  have hown : ∀ {b}, OwnB ⟨E.ρ, G'⟩ H b ↔ OwnB E H b := fun {b} => Iff.rfl
  refine ⟨hle, ⟨hS.g, fun b o c hg => ?_, fun b h => .inl h, fun b hb _ => hheap b hb, hS.size, hS.os, hS.tape, hS.output⟩, ⟨hI.len, hI'.g, fun b o c hg ho => ?_, fun id blk h => ?_, hI.inj, hI'.glob, hI'.ex⟩, .pers hr⟩
  · rcases hS.gn b o c hg with h | h | h
    · exact .inl h
    · exact .inr (.inl h)
    · exact absurd h noO
  · rcases hS.gn b o c hg with h | h | h
    · exact hI.sep b o c h ho
    · have := hI.own_lt (b := b) ho; omega
    · exact absurd h noO
  · obtain ⟨b, m, cs, rest, h1, h2, h3, h4⟩ := hI.blk id blk h
    exact ⟨b, m, cs, rest, h1, by rw [hheap b (lt_of_get h2)]; exact h2, h3, h4.mono hle⟩

/-! ### What a call leaves is frozen -/
open Classical in
noncomputable def Env.froz (E : Env) (H : Heap) (w : World) : Gh := fun b o => if OwnB E H b then w.cell? ⟨b, o, none⟩ else E.G b o

theorem froz_le (hI : Inv C E H w) : GLe E.G (E.froz H w) := fun b o c h => by
  unfold Env.froz
  rw [if_neg (hI.sep b o c h)]; exact h

theorem froz_inv (hI : Inv C E H w) : Inv C ⟨[], E.froz H w⟩ [] w := by
  refine ⟨rfl, fun b o c h => ?_, fun _ _ _ _ ⟨_, _, _, h, _⟩ => by simp at h, fun _ _ h => by simp at h, fun _ _ _ _ _ _ _ h => by simp at h, fun g l h => (hI.glob g l h).mono (froz_le hI), hI.ex⟩
  have h : E.froz H w b o = some c := h
  unfold Env.froz at h
  split at h
  · exact h
  · exact hI.g b o c h

theorem froz_row (hI : Inv C E H w) {id : Nat} {blk : Blk} {b m : Nat} (hb : H[id]? = some (some blk)) (he : E.at id = some (b, m)) {k : AV → AV} (hk : ∀ x c, R E x c → RP (E.froz H w) (k x) c) : RG (E.froz H w) b 0 (blk.cells.map k) := by
  obtain ⟨b0, m0, cs, rest, h1, h2, h3, h4⟩ := hI.blk id blk hb
  rw [he] at h1; cases h1
  have hown : OwnB E H b := ⟨id, blk, m, hb, he⟩
  have hcell : ∀ o, E.froz H w b o = (cs ++ rest)[o]? := fun o => by
    unfold Env.froz; rw [if_pos hown]; exact cell_of h2
  have : ∀ (l : List AV) (cs' : List Value) (o : Nat), RL E l cs' → (∀ j x, cs'[j]? = some x → E.froz H w b (o + j) = some x) → RG (E.froz H w) b o (l.map k) := by
    intro l
    induction l with
    | nil => intro _ o _ _; exact .nil _ _
    | cons v l ih =>
      intro cs' o hr hc
      cases hr with
      | cons a hr =>
        exact .cons (hc 0 _ rfl) (hk _ _ a) (ih _ (o + 1) hr fun j x hx => by rw [← hc (j + 1) x (by simpa using hx)]; congr 1; omega)
  refine this _ cs 0 h4 fun j x hx => ?_
  rw [hcell, Nat.zero_add]
  have hj : j < cs.length := by
    rcases Nat.lt_or_ge j cs.length with h | h
    · exact h
    · rw [List.getElem?_eq_none h] at hx; cases hx
  rw [List.getElem?_append_left hj]; exact hx

theorem frzCell_ok (hI : Inv C E H w) {k : Heap → AV → AV} (hk : ∀ x c, R E x c → RP (E.froz H w) (k H x) c) : ∀ v c, R E v c → RP (E.froz H w) (frzCell H k v) c := by
  intro v c hr
  unfold frzCell
  split
  · rename_i id off
    split
    · rename_i b hb
      obtain ⟨b', m, he, rfl⟩ := hr.own_inv
      have := (froz_row hI (hget_eq hb) he hk).drop off
      rw [Nat.zero_add] at this
      exact .rp this
    · exact .undef _
  · rename_i sz id off len cap
    split
    · rename_i b hb
      obtain ⟨b', m, cp, he, rfl, hcap, hlen, hm⟩ := hr.sl_inv
      have := ((froz_row hI (hget_eq hb) he hk).drop off).take (len * sz)
      rw [Nat.zero_add] at this
      refine .ro this (fun hf => ?_) hlen
      cases cap with
      | none => cases hf
      | some x => simp at hf; rw [hcap _ rfl, hf]
    · exact .undef _
  · split
    · exact .undef _
    · exact .undef _
    · exact .undef _
    · exact .undef _
    · rename_i h1 h2 _ h3 h4 h5 h6
      cases hr with
      | pers h => exact h.mono (froz_le hI)
      | agg _ => exact absurd rfl (h3 _)
      | tup _ => exact absurd rfl (h4 _)
      | own _ => exact absurd rfl (h1 _ _)
      | sl _ _ _ _ => exact absurd rfl (h2 _ _ _ _ _)
      | fn _ _ => exact absurd rfl (h5 _ _ _)
      | ifc _ => exact absurd rfl (h6 _ _)

theorem scal_rp (hI : Inv C E H w) {v : AV} {c : Value} (hr : R E v c) : RP (E.froz H w) (bif v.scal then v else .undef) c := by
  cases hs : v.scal
  · exact .undef _
  · simp only [cond_true]
    cases hr with
    | pers h => exact h.mono (froz_le hI)
    | _ => simp [AV.scal] at hs

theorem frz1_ok (hI : Inv C E H w) : ∀ v c, R E v c → RP (E.froz H w) (frz1 H v) c :=
  frzCell_ok hI (frzCell_ok hI (frzCell_ok hI (fun _ _ h => scal_rp hI h)))

theorem frzL_ok (hI : Inv C E H w) {k : AV → AV} (hk : ∀ x c, R E x c → RP (E.froz H w) (k x) c) : ∀ {l : List AV} {cs : List Value}, RL E l cs → RPL (E.froz H w) (l.map k) cs
  | _, _, .nil => .nil
  | _, _, .cons a l => .cons (hk _ _ a) (frzL_ok hI hk l)

theorem frz_ok (hI : Inv C E H w) {v : AV} {c : Value} (hr : R E v c) : RP (E.froz H w) (frz H v) c := by
  unfold frz
  split
  · obtain ⟨cs, rfl, hl⟩ := hr.agg_inv
    exact .agg (frzL_ok hI (frz1_ok hI) hl)
  · obtain ⟨cs, rfl, hl⟩ := hr.tup_inv
    refine .tup (frzL_ok hI (fun x c h => ?_) hl)
    split
    · obtain ⟨cs', rfl, hl'⟩ := h.agg_inv
      exact .agg (frzL_ok hI (frz1_ok hI) hl')
    · exact frz1_ok hI _ _ h
  · rename_i _ _
    cases hf : v.free
    · exact frz1_ok hI _ _ hr
    · exact (RL.free_rpl.free_rp hr hf).mono (froz_le hI)

/-- A call evaluated on its own heap. -/
theorem iso_of_call {r : EvT} (hr : SoundCall C r) {f : FuncId} {args : List AV} {v : AV} {Hf : Heap} (h : (r.call f args []).run = some (v, Hf)) : Iso C f args (frz Hf v) := by
  intro G w vs hI hargs
  refine ((hr f args [] v Hf h).2 ⟨[], G⟩ w vs hI hargs.rl).mono fun e w' ⟨c, E', he, hg⟩ => ?_
  refine ⟨c, E'.froz Hf w', he, frz_ok hg.inv hg.r, ?_, froz_inv hg.inv⟩
  have noO : ∀ {b}, ¬ OwnB ⟨[], G⟩ [] b := fun ⟨_, _, _, h, _⟩ => by simp at h
  refine ⟨fun b o c h => froz_le hg.inv _ _ _ (hg.stp.g _ _ _ h), fun b o c h => ?_, fun b ⟨_, _, _, h, _⟩ => by simp at h, hg.stp.unt, hg.stp.size, hg.stp.os, hg.stp.tape, hg.stp.output⟩
  have h : E'.froz Hf w' b o = some c := h
  unfold Env.froz at h
  split at h
  · rename_i ho
    rcases hg.stp.own b ho with h1 | h1
    · exact absurd h1 noO
    · exact .inr (.inl h1)
  · exact hg.stp.gn b o c h

/-- What a call comes to. -/
def CallOk (C : Ctx) (E : Env) (H : Heap) (w : World) (f : FuncId) (vs : List Value) (v : AV) (H' : Heap) : Prop :=
  Calls C.P f vs.toArray w (fun e w' => ∃ c E', e = .returned c ∧ Good C E H w v H' c w' E')

theorem frzA_ok (hI : Inv C E H w) : ∀ v c, R E v c → RP (E.froz H w) (frzA H v) c := by
  intro v c hr
  unfold frzA
  cases hf : v.free
  · cases v.off0
    · exact .undef c
    · exact frzCell_ok (k := fun _ v => bif v.scal then v else .undef) hI (fun _ _ h => scal_rp hI h) v c hr
  · exact (RL.free_rpl.free_rp hr hf).mono (froz_le hI)
theorem frz_scal {H : Heap} {v : AV} (h : v.scal = true) : frz H v = v := by
  cases v <;> first | (cases h; done) | rfl
theorem scal_any {G G' : Gh} {v : AV} {c : Value} (h : v.scal = true) (hr : RP G v c) : RP G' v c := by
  cases hr <;> first | (cases h; done) | constructor
theorem scalL_any {G G' : Gh} : ∀ {l : List AV} {cs : List Value}, allScal l = true → RPL G l cs → RPL G' l cs
  | [], _, _, h => by cases h; exact .nil
  | v :: l, _, hs, h => by
    cases h with
    | cons a b =>
      simp only [allScal, Bool.and_eq_true] at hs
      exact .cons (scal_any hs.1 a) (scalL_any hs.2 b)
theorem scal_flat {v : AV} (h : v.scal = true) : v.flat = true := by
  cases v <;> first | (cases h; done) | rfl
theorem flat1_any {G G' : Gh} {v : AV} {c : Value} (h : (match v with | .agg l' => allScal l' | v => v.scal) = true) (hr : RP G v c) : RP G' v c := by
  cases v <;> first | exact scal_any h hr | skip
  cases hr with
  | agg l => exact .agg (scalL_any h l)
theorem flatL_any {G G' : Gh} : ∀ {l : List AV} {cs : List Value}, (l.all fun v => match v with | .agg l' => allScal l' | v => v.scal) = true → RPL G l cs → RPL G' l cs
  | [], _, _, h => by cases h; exact .nil
  | v :: l, _, hs, h => by
    cases h with
    | cons a b =>
      simp only [List.all_cons, Bool.and_eq_true] at hs
      exact .cons (flat1_any hs.1 a) (flatL_any hs.2 b)
theorem flat_any {G G' : Gh} {v : AV} {c : Value} (h : v.flat = true) (hr : RP G v c) : RP G' v c := by
  cases v <;> first | exact scal_any h hr | skip
  · cases hr with
    | agg l => exact .agg (scalL_any h l)
  · cases hr with
    | tup l => exact .tup (flatL_any h l)
/-- Back from a call on what its arguments name, as it stands. -/
theorem frz_back (hI : Inv C E H w) {G' : Gh} {w' : World} {v : AV} {c : Value} (hr : RP G' v c) (hv : v.flat = true) (hS : Stp ⟨[], E.froz H w⟩ [] w ⟨[], G'⟩ [] w') (hI' : Inv C ⟨[], G'⟩ [] w') :
    Good C E H w v H c w' E := by
  have noO : ∀ {G : Gh} {b}, ¬ OwnB ⟨[], G⟩ [] b := fun ⟨_, _, _, h, _⟩ => by simp at h
  have hheap : ∀ b, b < w.heap.size → w'.heap[b]? = w.heap[b]? := fun b hb => hS.unt b hb noO
  refine ⟨ELe.refl E, ⟨fun _ _ _ h => h, fun _ _ _ h => .inl h, fun _ h => .inl h, fun b hb _ => hheap b hb, hS.size, hS.os, hS.tape, hS.output⟩, ⟨hI.len, fun b o c hg => hI'.g b o c (hS.g b o c (froz_le hI b o c hg)), hI.sep, fun id blk h => ?_, hI.inj, hI.glob, hI'.ex⟩, .pers (flat_any hv hr)⟩
  obtain ⟨b, m, cs, rest, h1, h2, h3, h4⟩ := hI.blk id blk h
  exact ⟨b, m, cs, rest, h1, by rw [hheap b (lt_of_get h2)]; exact h2, h3, h4⟩

theorem iso_frz {f : FuncId} {args : List AV} {vs : List Value} {v : AV} (hiso : Iso C f (args.map (frzA H)) v) (hv : v.flat = true) (hI : Inv C E H w) (ha : RL E args vs) : CallOk C E H w f vs v H :=
  (hiso (E.froz H w) w vs (froz_inv hI) (frzL_ok hI (frzA_ok hI) ha)).mono fun _ _ ⟨c, _, he, h1, h2, h3⟩ => ⟨c, E, he, frz_back hI h1 hv h2 h3⟩
/-- A summary holds: on what names no own block, and on what does, if all stays as it was. -/
def SumOk (C : Ctx) : Prop := ∀ (f : FuncId) (F : List AV → T AV), C.sum f = some F → FnOk C f ∧ (∀ (args : List AV) (v : AV), (F args).run = some v → freeL args = true → noRp args = true → Iso C f args v) ∧
  (∀ (E : Env) (H : Heap) (w : World) (args : List AV) (vs : List Value) (v : AV), Inv C E H w → RL E args vs → freeL args = false → (F (args.map (frzA H))).run = some v → v.flat = true → CallOk C E H w f vs v H)
theorem callA_ok {r : EvT} (hr : SoundCall C r) (hs : SumOk C) (hI : Inv C E H w) {draw : Bool} {f : FuncId} {args : List AV} {vs : List Value} {v : AV} {H' : Heap} (h : (callA C r draw H f args).run = some (v, H')) (ha : RL E args vs) :
    FnOk C f ∧ CallOk C E H w f vs v H' ∧ (draw = true → H' = H) := by
  have fromIso : ∀ {v : AV}, Iso C f args v → freeL args = true → CallOk C E H w f vs v H := fun hiso hf => by
    refine (hiso E.G w vs hI.iso (ha.free_rpl hf)).mono fun e w' ⟨c, G', he, h1, h2, h3⟩ => ⟨c, _, he, iso_back hI h1 h2 h3⟩
  have fromFrz : ∀ {v : AV}, Iso C f (args.map (frzA H)) v → v.scal = true → CallOk C E H w f vs v H := fun {v} hiso hv => by
    have hv := scal_flat hv
    refine (hiso (E.froz H w) w vs (froz_inv hI) (frzL_ok hI (frzA_ok hI) ha)).mono fun e w' ⟨c, G', he, h1, h2, h3⟩ => ⟨c, E, he, frz_back hI h1 hv h2 h3⟩
  unfold callA at h
  split at h
  · rename_i F hF
    split at h
    · rename_i hf
      obtain ⟨v', h1, h2⟩ := T.of_bind h
      obtain ⟨hv, h2⟩ := T.of_chk h2
      cases Option.some.inj h2
      unfold apF at h1
      split at h1
      · rename_i hn
        exact ⟨(hs f F hF).1, fromIso ((hs f F hF).2.1 args _ h1 hf hn) hf, fun _ => rfl⟩
      · simp [T.run] at h1
    · rename_i hf
      obtain ⟨v', h1, h2⟩ := T.of_bind h
      obtain ⟨hv, h2⟩ := T.of_chk h2
      cases Option.some.inj h2
      exact ⟨(hs f F hF).1, (hs f F hF).2.2 E H w args vs _ hI ha hf h1 hv, fun _ => rfl⟩
  · split at h
    · rename_i hf
      obtain ⟨⟨v', Hf⟩, h1, h2⟩ := T.of_bind h
      obtain ⟨hv, h2⟩ := T.of_chk h2
      cases Option.some.inj h2
      exact ⟨(hr f args [] _ _ h1).1, fromIso (iso_of_call hr h1) hf, fun _ => rfl⟩
    · split at h
      · obtain ⟨⟨v', Hf⟩, h1, h2⟩ := T.of_bind h
        obtain ⟨hv, h2⟩ := T.of_chk h2
        cases Option.some.inj h2
        have := iso_of_call hr h1
        rw [frz_scal hv] at this
        exact ⟨(hr f _ [] _ _ h1).1, fromFrz this hv, fun _ => rfl⟩
      · exact ⟨(hr f args H v H' h).1, (hr f args H v H' h).2 E w vs hI ha, fun hd => by cases hd⟩
end
end Go.Ev

/- Evaluator: soundness, part 10: one operation. -/
namespace Go.Ev

/-- What one operation comes to. -/
def OpRes (C : Ctx) (E : Env) (H : Heap) (w : World) (res : Result Next) (v : AV) (H' : Heap) : Prop :=
  (∃ c w' E', res = .ok (.value c) w' ∧ Good C E H w v H' c w' E') ∨ (∃ w' E', res = .ok .skip w' ∧ Good C E H w v H' undef w' E') ∨
  (∃ f vs, res = .ok (.enter f vs) w ∧ Calls C.P f vs w (fun e w' => ∃ c E', e = .returned c ∧ Good C E H w v H' c w' E'))

section
variable {C : Ctx} {E : Env} {H : Heap} {w : World}

theorem OpRes.of_val {s : Sem Value} {v : AV} {H' : Heap} (h : ValOk C E H w s v H') : OpRes C E H w ((do pure (.value (← s)) : Sem Next).run C.P w) v H' := by
  obtain ⟨c, w', E', h1, h2⟩ := h
  exact .inl ⟨c, w', E', by simp [h1], h2⟩

theorem OpRes.of_same {s : Sem Value} {v : AV} {c : Value} (hI : Inv C E H w) (h : s.run C.P w = .ok c w) (hr : R E v c) : OpRes C E H w ((do pure (.value (← s)) : Sem Next).run C.P w) v H :=
  OpRes.of_val (ValOk.same hI h hr)

theorem OpRes.of_call {f : FuncId} {vs : List Value} {v : AV} {H' : Heap} (h1 : FnOk C f) (h2 : CallOk C E H w f vs v H') : OpRes C E H w ((callFunc f vs.toArray).run C.P w) v H' := by
  obtain ⟨fn, h3, h4, h5⟩ := h1
  refine .inr (.inr ⟨f, vs.toArray, ?_, h2⟩)
  have : fn.body.isNone = false := by cases hb : fn.body <;> simp_all
  simp only [callFunc, Sem.run_bind, run_program, Result.andThen_ok, h3, h5, this]
  simp

theorem elem_slice {t : TypeId} {el : TypeId} (h : (C.ty t).desc = .slice el) : elemOf C t = el := by simp [elemOf, h]

theorem arr2 {α : Type} (a b : α) : #[a, b] = [a, b].toArray := rfl

theorem RL.one {v : AV} {cs : List Value} (h : RL E [v] cs) : ∃ c, cs = [c] ∧ R E v c := by
  cases h with
  | cons a h => cases h; exact ⟨_, rfl, a⟩
theorem RL.two {v u : AV} {cs : List Value} (h : RL E [v, u] cs) : ∃ c d, cs = [c, d] ∧ R E v c ∧ R E u d := by
  cases h with
  | cons a h => cases h with
    | cons b h => cases h; exact ⟨_, _, rfl, a, b⟩
theorem arr_one {l : Array Value} {c : Value} (h : l.toList = [c]) : l = #[c] := by
  apply Array.ext'; simpa using h
theorem arr_two {l : Array Value} {c d : Value} (h : l.toList = [c, d]) : l = #[c, d] := by
  apply Array.ext'; simpa using h

theorem map_parts (hI : Inv C E H w) {e : Fr} {a : Act} (hf : FrR E e a) (parts : Array (Nat × Operand)) :
    (parts.toList.map fun p => (p.1, opnd C e p.2)).map (·.1) = ((parts.map fun (i, x) => (i, a.eval x)).toList).map (·.1) ∧
    RL E ((parts.toList.map fun p => (p.1, opnd C e p.2)).map (·.2)) (((parts.map fun (i, x) => (i, a.eval x)).toList).map (·.2)) := by
  rw [Array.toList_map]
  generalize parts.toList = l
  induction l with
  | nil => exact ⟨rfl, .nil⟩
  | cons p l ih => exact ⟨by simp [ih.1], .cons (opnd_ok hI hf p.2) ih.2⟩

theorem evOp_ok {r : EvT} (hT : TyOk C) (hQ : EqOk C) (hr : SoundCall C r) (hs : SumOk C) (hI : Inv C E H w) {e : Fr} {a : Act} (hf : FrR E e a) {draw : Bool} {o : Oper} {v : AV} {H' : Heap}
    (h : (evOp C r draw e H o).run = some (v, H')) : OpRes C E H w ((execOp a.eval o).run C.P w) v H' ∧ True := by
  have hop := fun x => opnd_ok hI hf x
  unfold evOp at h
  unfold execOp
  split at h
  · -- move
    rename_i x ho
    cases Option.some.inj h
    rw [ho]
    exact ⟨.inl ⟨_, w, E, rfl, ⟨ELe.refl E, Stp.refl E H w, hI, hop x⟩⟩, trivial⟩
  · rename_i x ho
    cases Option.some.inj h
    rw [ho]
    exact ⟨.inl ⟨_, w, E, rfl, ⟨ELe.refl E, Stp.refl E H w, hI, hop x⟩⟩, trivial⟩
  · -- pick
    rename_i c x y ho
    rw [ho]
    split at h
    · rename_i b hb
      have hc := hop c
      rw [hb] at hc
      have hc := hc.bool_inv
      rcases T.of_br h with ⟨h1, h2⟩ | ⟨h1, h2⟩
      · cases Option.some.inj h2
        subst h1
        exact ⟨.inl ⟨_, w, E, by simp [hc, asBool], ⟨ELe.refl E, Stp.refl E H w, hI, hop x⟩⟩, trivial⟩
      · cases Option.some.inj h2
        subst h1
        exact ⟨.inl ⟨_, w, E, by simp [hc, asBool], ⟨ELe.refl E, Stp.refl E H w, hI, hop y⟩⟩, trivial⟩
    · simp [T.run] at h
  · -- alloc
    rename_i el ho
    rw [ho]
    split at h
    · simp [T.run] at h
    · split at h
      · rename_i z hz
        obtain ⟨hok, h⟩ := T.of_chk h
        cases Option.some.inj h
        exact ⟨.of_val (alloc_ok hT hI hz hok), trivial⟩
      · simp [T.run] at h
  · -- box
    rename_i el x ho
    rw [ho]
    split at h
    · obtain ⟨h1, h⟩ := T.of_chk h
      cases Option.some.inj h
      simp only [Bool.and_eq_true, Bool.not_eq_true'] at h1
      exact ⟨.of_val (box_draw hI (hop x) h1.1 h1.2), trivial⟩
    · obtain ⟨h1, h⟩ := T.of_chk h
      cases Option.some.inj h
      simp only [Bool.not_eq_true'] at h1
      exact ⟨.of_val (box_ok hI (hop x) h1), trivial⟩
  · -- build
    rename_i t parts ho
    rw [ho]
    obtain ⟨h1, rfl⟩ := withH_eq h
    obtain ⟨m1, m2⟩ := map_parts hI hf parts
    obtain ⟨c, h2, h3⟩ := build_ok (w := w) hT h1 m1 m2
    exact ⟨.of_same hI (by rw [Array.toArray_toList] at h2; exact h2) h3, trivial⟩
  · -- buildSlice
    rename_i t len parts ho
    rw [ho]
    split at h
    · rename_i el z hd hz
      rw [elem_slice hd] at hz
      obtain ⟨cs, h1, h2⟩ := T.of_bind h
      obtain ⟨h3, h4⟩ := T.of_chk h2
      simp only [Bool.and_eq_true, Nat.beq_eq, Nat.ble_eq, Bool.not_eq_true'] at h3
      obtain ⟨⟨⟨⟨⟨hok, hoke⟩, hzl⟩, hz0⟩, hcl⟩, hbig⟩ := h3
      have hz0 : (C.ty el).size ≠ 0 := fun e => by rw [e] at hz0; simp at hz0
      obtain ⟨m1, m2⟩ := map_parts hI hf parts
      have key := buildSlice_ok hT hI hok hoke hd hz hzl hz0 hbig m1 m2 h1 hcl
      simp only [Array.toArray_toList] at key
      split at h4
      · obtain ⟨h5, h6⟩ := T.of_chk h4
        cases Option.some.inj h6
        exact ⟨.of_val (key.2 h5), trivial⟩
      · cases Option.some.inj h4
        exact ⟨.of_val key.1, trivial⟩
    · simp [T.run] at h
  · -- load
    rename_i t x ho
    rw [ho]
    obtain ⟨h1, rfl⟩ := withH_eq h
    obtain ⟨c, h2, h3⟩ := loadA_ok hT hI h1 (hop x)
    exact ⟨.of_same hI h2 h3, trivial⟩
  · -- store
    rename_i t x y ho
    rw [ho]
    obtain ⟨H1, h1, h2⟩ := T.of_bind h
    cases Option.some.inj h2
    obtain ⟨w', h3, h4, h5⟩ := storeA_ok hT hI h1 (hop x) (hop y)
    refine ⟨.inr (.inl ⟨w', E, by simp [h3], ⟨ELe.refl E, h5, h4, ?_⟩⟩), trivial⟩
    exact .tup (cs := []) .nil
  · -- nilCheck
    rename_i x ho
    rw [ho]
    have hx := hop x
    split at h
    · rename_i id off he
      cases Option.some.inj h
      rw [he] at hx
      obtain ⟨b, m, h1, h2⟩ := hx.own_inv
      refine ⟨.inl ⟨_, w, E, ?_, ⟨ELe.refl E, Stp.refl E H w, hI, hx⟩⟩, trivial⟩
      simp [h2]
    · rename_i l he
      cases Option.some.inj h
      rw [he] at hx
      obtain ⟨b, m, h1, h2⟩ := hx.rp_inv
      refine ⟨.inl ⟨_, w, E, ?_, ⟨ELe.refl E, Stp.refl E H w, hI, hx⟩⟩, trivial⟩
      simp [h1]
    · rename_i f l l' he
      cases Option.some.inj h
      rw [he] at hx
      obtain ⟨b, m, h1, h2, h3⟩ := hx.fn_inv
      refine ⟨.inl ⟨_, w, E, ?_, ⟨ELe.refl E, Stp.refl E H w, hI, hx⟩⟩, trivial⟩
      simp [h1]
    · simp [T.run] at h
  · -- binOp
    rename_i op t x y yt ho
    rw [ho]
    have hx := hop x
    have hy := hop y
    split at h
    · rename_i k n k' n' e1 e2
      rw [e1] at hx; rw [e2] at hy
      obtain ⟨h1, rfl⟩ := withH_eq h
      have v1 := hx.int_inv
      have v2 := hy.int_inv
      simp only [v1, v2]
      have hg : ∀ op, (eqGuard op t x y (.int k n) (.int k' n')).run C.P w = .ok () w := fun op => by cases op <;> simp [eqGuard]
      simp only [binA] at h1
      split at h1
      · obtain ⟨c, h2, h3⟩ := shift_ok (w := w) (C := C) (E := E) (t := t) (k' := k') h1
        exact ⟨.of_same hI (by simp [hg, h2]) h3, by simp⟩
      · obtain ⟨c, h2, h3⟩ := shift_ok (w := w) (C := C) (E := E) (t := t) (k' := k') h1
        exact ⟨.of_same hI (by simp [hg, h2]) h3, by simp⟩
      · replace h1 := T.of_chk h1
        obtain ⟨h4, h1⟩ := h1
        simp only [decide_eq_true_eq] at h4
        subst h4
        obtain ⟨c, h2, h3⟩ := arith_ok (w := w) (C := C) (E := E) (t := t) h1
        exact ⟨.of_same hI (by simp [hg, h2]) h3, by simp⟩
    · rename_i s1 s2 e1 e2
      rw [e1] at hx; rw [e2] at hy
      obtain ⟨h1, rfl⟩ := withH_eq h
      have v1 := hx.str_inv
      have v2 := hy.str_inv
      simp only [v1, v2]
      have hg : ∀ op, (eqGuard op t x y (.string ⟨s1.toArray⟩) (.string ⟨s2.toArray⟩)).run C.P w = .ok () w := fun op => by cases op <;> simp [eqGuard]
      obtain ⟨c, h2, h3⟩ := strOp_ok (w := w) (C := C) (E := E) (t := t) h1
      exact ⟨.of_same hI (by simp [hg, h2]) h3, by simp⟩
    · rename_i l l' e1 e2
      rw [e1] at hx; rw [e2] at hy
      obtain ⟨h1, rfl⟩ := withH_eq h
      obtain ⟨cs, v1, r1⟩ := hx.agg_inv
      obtain ⟨cs', v2, r2⟩ := hy.agg_inv
      simp only [v1, v2]
      simp only [binA] at h1
      replace h1 := T.of_chk h1
      obtain ⟨h4, h1⟩ := h1
      simp only [Bool.and_eq_true] at h4
      obtain ⟨⟨⟨hok, heq⟩, t1⟩, t2⟩ := h4
      split at h1
      · rename_i b hb
        cases Option.some.inj h1
        have := agg_eq_ok (w := w) (op := .eql) (x := x) (y := y) hT hQ hok heq t1 t2 hb r1 r2 (.inl rfl)
        exact ⟨.of_same hI this (.pers (.bool _)), by simp⟩
      · rename_i b hb
        cases Option.some.inj h1
        have := agg_eq_ok (w := w) (op := .neq) (x := x) (y := y) hT hQ hok heq t1 t2 hb r1 r2 (.inr rfl)
        exact ⟨.of_same hI this (.pers (.bool _)), by simp⟩
      · simp [T.run] at h1
    · obtain ⟨h1, rfl⟩ := withH_eq h
      unfold eqA at h1
      replace h1 := T.of_chk h1
      obtain ⟨hok, h1⟩ := h1
      split at h1
      · rename_i b hb
        cases Option.some.inj h1
        have := eqT_ok (w := w) (op := .eql) (x := x) (y := y) hT hok (fun hk => by simpa using hk) hb hx hy (.inl rfl)
        exact ⟨.of_same hI this (.pers (.bool _)), by simp⟩
      · rename_i b hb
        cases Option.some.inj h1
        have := eqT_ok (w := w) (op := .neq) (x := x) (y := y) hT hok (fun hk => by simpa using hk) hb hx hy (.inr rfl)
        exact ⟨.of_same hI this (.pers (.bool _)), by simp⟩
      · simp [T.run] at h1
  · -- unOp
    rename_i op t x ho
    rw [ho]
    obtain ⟨h1, rfl⟩ := withH_eq h
    obtain ⟨c, h2, h3⟩ := unA_ok (w := w) (C := C) h1 (hop x)
    exact ⟨.of_same hI h2 h3, by simp⟩
  · -- convert
    rename_i src dst x ho
    rw [ho]
    obtain ⟨h1, rfl⟩ := withH_eq h
    exact ⟨.of_val (convA_ok hT hI h1 (hop x)), by simp⟩
  · -- makeFunc
    rename_i f first caps ho
    rw [ho]
    cases Option.some.inj h
    have r1 := opnds_ok hI hf first
    have r2 := opnds_ok hI hf caps
    have := R.fn (f := f) r1 r2
    simp only [Array.toArray_toList] at this
    exact ⟨.of_same hI rfl this, by simp⟩
  · -- makeSlice
    rename_i t x y ho
    rw [ho]
    have hx := hop x
    have hy := hop y
    split at h
    · rename_i el n n' z hd e1 e2 hz
      rw [elem_slice hd] at hz
      rw [e1] at hx; rw [e2] at hy
      obtain ⟨h3, h4⟩ := T.of_chk h
      simp only [Bool.and_eq_true, Nat.beq_eq, Bool.not_eq_true', leI, decide_eq_true_eq] at h3
      obtain ⟨⟨⟨⟨⟨⟨⟨hok, hoke⟩, hzl⟩, hz0⟩, rfl⟩, hn0⟩, hbig⟩, hmax⟩ := h3
      have hz0 : (C.ty el).size ≠ 0 := fun e => by rw [e] at hz0; simp at hz0
      simp only [hx.int_inv, hy.int_inv]
      have key := makeSlice_ok hT hI hok hoke hd hz hzl hz0 hn0 hbig hmax
      split at h4
      · obtain ⟨h5, h6⟩ := T.of_chk h4
        cases Option.some.inj h6
        exact ⟨.of_val (key.2 h5), by simp⟩
      · cases Option.some.inj h4
        exact ⟨.of_val key.1, by simp⟩
    · simp [T.run] at h
  · -- slice
    rename_i t x lo hi mx ho
    rw [ho]
    obtain ⟨h1, rfl⟩ := withH_eq h
    obtain ⟨c, h2, h3⟩ := sliceA_ok hT hI h1 (hop x) (ro_opnd hI hf lo) (ro_opnd hI hf hi) (ro_opnd hI hf mx)
    exact ⟨.of_same hI h2 h3, by simp⟩
  · -- fieldAddr
    rename_i t x i ho
    rw [ho]
    have hx := hop x
    split at h
    · rename_i fs hd
      split at h
      · rename_i f id off hfi e1
        rw [e1] at hx
        obtain ⟨h1, h2⟩ := T.of_chk h
        cases Option.some.inj h2
        simp only [Bool.and_eq_true, Bool.not_eq_true'] at h1
        obtain ⟨⟨hok, hokf⟩, hsz⟩ := h1
        have hsz : (C.ty f.2).size ≠ 0 := fun e => by rw [e] at hsz; simp at hsz
        obtain ⟨b, m, he, v1⟩ := hx.own_inv
        simp only [v1]
        exact ⟨.of_same hI (fieldAddr_own hT hok hd hfi hokf hsz b off) (.own he), by simp⟩
      · rename_i f l hfi e1
        rw [e1] at hx
        obtain ⟨h1, h2⟩ := T.of_chk h
        cases Option.some.inj h2
        simp only [Bool.and_eq_true, Bool.not_eq_true', Nat.ble_eq] at h1
        obtain ⟨⟨⟨hok, hokf⟩, hsz⟩, hfit⟩ := h1
        have hsz : (C.ty f.2).size ≠ 0 := fun e => by rw [e] at hsz; simp at hsz
        obtain ⟨b, off, v1, hg⟩ := hx.rp_inv
        simp only [v1]
        exact ⟨.of_same hI (fieldAddr_own hT hok hd hfi hokf hsz b off) (.pers (.rp (hg.drop _))), by simp⟩
      · simp [T.run] at h
    · simp [T.run] at h
  · -- field
    rename_i t x i ho
    rw [ho]
    have hx := hop x
    split at h
    · rename_i fs hd
      split at h
      · rename_i f l hfi e1
        rw [e1] at hx
        replace h := T.of_chk h
        obtain ⟨hok, h⟩ := h
        obtain ⟨h1, rfl⟩ := withH_eq h
        obtain ⟨c, h2, h3⟩ := field_ok (w := w) hT hok hd hfi h1 hx
        exact ⟨.of_same hI h2 h3, by simp⟩
      · simp [T.run] at h
    · simp [T.run] at h
  · -- indexAddr
    rename_i t x i ho
    rw [ho]
    have hx := hop x
    have hi := hop i
    split at h
    · rename_i n el id off k i' hd e1 e2
      rw [e1] at hx; rw [e2] at hi
      obtain ⟨h1, h2⟩ := T.of_chk h
      cases Option.some.inj h2
      simp only [Bool.and_eq_true, leI, decide_eq_true_eq] at h1
      obtain ⟨⟨⟨hok, hoke⟩, h0⟩, hn⟩ := h1
      obtain ⟨b, m, he, v1⟩ := hx.own_inv
      simp only [v1, hi.int_inv]
      exact ⟨.of_same hI (indexAt_arr hT hok hoke hd h0 hn) (.own he), by simp⟩
    · rename_i n el l k i' hd e1 e2
      rw [e1] at hx; rw [e2] at hi
      obtain ⟨h1, h2⟩ := T.of_chk h
      cases Option.some.inj h2
      simp only [Bool.and_eq_true, leI, decide_eq_true_eq] at h1
      obtain ⟨⟨⟨hok, hoke⟩, h0⟩, hn⟩ := h1
      obtain ⟨b, off, v1, hg⟩ := hx.rp_inv
      simp only [v1, hi.int_inv]
      exact ⟨.of_same hI (indexAt_arr hT hok hoke hd h0 hn) (.pers (.rp (hg.drop _))), by simp⟩
    · rename_i el sz id off len cap k i' hd e1 e2
      rw [e1] at hx; rw [e2] at hi
      obtain ⟨h1, h2⟩ := T.of_chk h
      cases Option.some.inj h2
      simp only [Bool.and_eq_true, leI, decide_eq_true_eq, Nat.beq_eq] at h1
      obtain ⟨⟨⟨⟨hok, hoke⟩, rfl⟩, h0⟩, hn⟩ := h1
      obtain ⟨b, m, cp, he, v1, _⟩ := hx.sl_inv
      simp only [v1, hi.int_inv]
      exact ⟨.of_same hI (indexAt_sl hT hok hoke hd h0 hn) (.own he), by simp⟩
    · rename_i el full len l k i' hd e1 e2
      rw [e1] at hx; rw [e2] at hi
      obtain ⟨h1, h2⟩ := T.of_chk h
      cases Option.some.inj h2
      simp only [Bool.and_eq_true, leI, decide_eq_true_eq] at h1
      obtain ⟨⟨⟨hok, hoke⟩, h0⟩, hn⟩ := h1
      obtain ⟨b, off, cp, v1, hg, _⟩ := hx.ro_inv
      simp only [v1, hi.int_inv]
      exact ⟨.of_same hI (indexAt_sl hT hok hoke hd h0 hn) (.pers (.rp (hg.drop _))), by simp⟩
    · simp [T.run] at h
  · -- index
    rename_i t x i ho
    rw [ho]
    have hx := hop x
    have hi := hop i
    split at h
    · rename_i n el l k i' hd e1 e2
      rw [e1] at hx; rw [e2] at hi
      obtain ⟨h1, h2⟩ := T.of_chk h
      simp only [Bool.and_eq_true, leI, decide_eq_true_eq] at h1
      obtain ⟨⟨⟨hok, hoke⟩, h0⟩, hn⟩ := h1
      obtain ⟨h5, rfl⟩ := withH_eq h2
      obtain ⟨c, h3, h4⟩ := index_ok (w := w) (k := k) hT hok hoke hd h0 hn h5 hx
      simp only [hi.int_inv]
      exact ⟨.of_same hI h3 h4, by simp⟩
    · rename_i s k i' hd e1 e2
      rw [e1] at hx; rw [e2] at hi
      obtain ⟨h1, h2⟩ := T.of_chk h
      cases Option.some.inj h2
      simp only [Bool.and_eq_true, leI, decide_eq_true_eq] at h1
      obtain ⟨⟨hok, h0⟩, hn⟩ := h1
      simp only [hx.str_inv, hi.int_inv]
      exact ⟨.of_same hI (indexStr_ok hT hok hd h0 hn) (.pers (.int _ _)), by simp⟩
    · simp [T.run] at h
  · -- extract
    rename_i x i ho
    rw [ho]
    have hx := hop x
    split at h
    · rename_i l e1
      rw [e1] at hx
      obtain ⟨h1, h2⟩ := T.of_chk h
      cases Option.some.inj h2
      simp only [Nat.ble_eq] at h1
      obtain ⟨cs, v1, hl⟩ := hx.tup_inv
      obtain ⟨c, h3, h4⟩ := hl.get i (by omega)
      simp only [v1]
      exact ⟨.of_same hI (c := c) (by simp [Instr.extract, h3]) h4, by simp⟩
    · simp [T.run] at h
  · -- call
    rename_i c ho
    rw [ho]
    split at h
    · rename_i f hc
      obtain ⟨h1, h2, h3⟩ := callA_ok hr hs hI h (opnds_ok hI hf c.args)
      refine ⟨?_, trivial⟩
      have := OpRes.of_call h1 h2
      simp only [Array.toArray_toList] at this
      simp only [resolve, hc, Act.eval, Deferred.ofValue, Sem.run_bind, Sem.run_pure, Result.andThen_ok, invoke]
      simpa using this
    · rename_i g hg0 hc
      split at h
      · rename_i f first caps e1
        have hgv := hop g
        rw [e1] at hgv
        obtain ⟨cs, cs', v1, r1, r2⟩ := hgv.fn_inv
        obtain ⟨h1, h2, h3⟩ := callA_ok hr hs hI h ((r1.append (opnds_ok hI hf c.args)).append r2)
        refine ⟨?_, trivial⟩
        have := OpRes.of_call h1 h2
        simp only [resolve, hc, v1, Deferred.ofValue, Sem.run_bind, Sem.run_pure, Result.andThen_ok, invoke]
        have e2 : cs.toArray ++ Array.map a.eval c.args ++ cs'.toArray = (cs ++ (Array.map a.eval c.args).toList ++ cs').toArray := by
          apply Array.ext'; simp
        rw [e2]
        exact this
      · simp [T.run] at h
    · -- len
      rename_i hc
      split at h
      · rename_i x e1
        obtain ⟨h1, rfl⟩ := withH_eq h
        have ha := opnds_ok hI hf c.args
        rw [e1] at ha
        obtain ⟨cx, hcx, rx⟩ := RL.one ha
        obtain ⟨y, h2, h3⟩ := lenA_ok (w := w) hT o.type h1 rx
        refine ⟨.inl ⟨y, w, E, ?_, ⟨ELe.refl E, Stp.refl E _ w, hI, h3⟩⟩, by simp⟩
        simp only [resolve, hc, Sem.run_bind, Sem.run_pure, Result.andThen_ok, invoke, builtin, arr_one hcx]
        simp only [Array.toArray_toList] at h2
        simp [h2]
      · simp [T.run] at h
    · -- append
      rename_i hc
      split at h
      · rename_i x y e1
        have ha := opnds_ok hI hf c.args
        rw [e1] at ha
        obtain ⟨cx, cy, hcx, rx, ry⟩ := RL.two ha
        obtain ⟨h2, _⟩ := appendA_ok hT hI o.type h rx ry
        refine ⟨?_, trivial⟩
        have := OpRes.of_val h2
        simp only [Array.toArray_toList] at this
        simp only [resolve, hc, Sem.run_bind, Sem.run_pure, Result.andThen_ok, invoke, builtin, arr_two hcx]
        simpa using this
      · simp [T.run] at h
    · -- copy
      rename_i hc
      split at h
      · rename_i x y e1
        have ha := opnds_ok hI hf c.args
        rw [e1] at ha
        obtain ⟨cx, cy, hcx, rx, ry⟩ := RL.two ha
        have h2 := copyA_ok hT hI o.type h rx ry
        refine ⟨?_, by simp⟩
        have := OpRes.of_val h2
        simp only [Array.toArray_toList] at this
        simp only [resolve, hc, Sem.run_bind, Sem.run_pure, Result.andThen_ok, invoke, builtin, arr_two hcx]
        simpa using this
      · simp [T.run] at h
    · -- max
      rename_i hc
      split at h
      · rename_i x l e1
        obtain ⟨h1, rfl⟩ := withH_eq h
        have ha := opnds_ok hI hf c.args
        rw [e1] at ha
        generalize hg : (Array.map a.eval c.args).toList = cs at ha
        cases ha with
        | cons rx rl =>
          rename_i cx cl
          obtain ⟨y, h2, h3⟩ := foldA_ok (w := w) (C := C) (g := Builtin.max2) (fun h a b => max2_ok h a b) rl rx h1
          refine ⟨.inl ⟨y, w, E, ?_, ⟨ELe.refl E, Stp.refl E _ w, hI, h3⟩⟩, by simp⟩
          simp only [resolve, hc, Sem.run_bind, Sem.run_pure, Result.andThen_ok, invoke, builtin, Builtin.max_, hg, h2]
      · simp [T.run] at h
    · -- min
      rename_i hc
      split at h
      · rename_i x l e1
        obtain ⟨h1, rfl⟩ := withH_eq h
        have ha := opnds_ok hI hf c.args
        rw [e1] at ha
        generalize hg : (Array.map a.eval c.args).toList = cs at ha
        cases ha with
        | cons rx rl =>
          rename_i cx cl
          obtain ⟨y, h2, h3⟩ := foldA_ok (w := w) (C := C) (g := Builtin.min2) (fun h a b => min2_ok h a b) rl rx h1
          refine ⟨.inl ⟨y, w, E, ?_, ⟨ELe.refl E, Stp.refl E _ w, hI, h3⟩⟩, by simp⟩
          simp only [resolve, hc, Sem.run_bind, Sem.run_pure, Result.andThen_ok, invoke, builtin, Builtin.min_, hg, h2]
      · simp [T.run] at h
    · simp [T.run] at h
  · simp [T.run] at h
end
end Go.Ev
