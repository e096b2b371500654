/- Evaluator over the model's Code: operations and code. -/
import Derived.Test.YtfkpbchdapccmaaDoorEvA
namespace Go.Ev

/-- Pointer-free values. -/
def AV.scal : AV → Bool
  | .bool _ | .int _ _ | .str _ | .nilp | .nils | .nilf | .nili => true
  | _ => false
def allScal : List AV → Bool
  | [] => true
  | v :: l => v.scal && allScal l
def AV.flat : AV → Bool
  | .agg l => allScal l
  | .tup l => l.all fun v => match v with
    | .agg l' => allScal l'
    | v => v.scal
  | v => v.scal

mutual
/-- No block of the call's own is named. -/
def AV.free : AV → Bool
  | .own .. | .sl .. => false
  | .agg l | .tup l => freeL l
  | .fn _ l l' => freeL l && freeL l'
  | .ifc _ v => v.free
  | _ => true
def freeL : List AV → Bool
  | [] => true
  | v :: l => v.free && freeL l
end

/-- A cell of a block that nobody will write again. -/
def frzCell (H : Heap) (k : Heap → AV → AV) : AV → AV
  | .own id off => match hget H id with
    | some b => .rp ((b.cells.map (k H)).drop off)
    | none => .undef
  | .sl sz id off len cap => match hget H id with
    | some b => .ro (match cap with | some c => Nat.beq c len | none => false) len (((b.cells.map (k H)).drop off).take (len * sz))
    | none => .undef
  | v => match v with
    | .agg _ | .tup _ | .fn _ _ _ | .ifc _ _ => .undef
    | v => v
def frz1 (H : Heap) : AV → AV := frzCell H fun H => frzCell H fun H => frzCell H fun _ v => bif v.scal then v else .undef
def frz (H : Heap) : AV → AV
  | .agg l => .agg (l.map (frz1 H))
  | .tup l => .tup (l.map fun v => match v with
    | .agg l' => .agg (l'.map (frz1 H))
    | v => frz1 H v)
  | v => bif v.free then v else frz1 H v

/-- A function's call, and a code's walk: what a step of evaluation leans on. -/
inductive X where
  | n
  | ex (id : Nat)
  | ret

structure St where
  e : Fr
  H : Heap
  m : Nat

structure EvT where
  call : FuncId → List AV → Heap → T (AV × Heap)
  code : FD → Code → St → T (X × St)

def alloc (H : Heap) (b : Blk) : Heap := H ++ [some b]

def intOf? : AV → Option Int
  | .int _ n => some n
  | _ => none

def elemOf (C : Ctx) (t : TypeId) : TypeId :=
  match (C.ty t).desc with
  | .slice e | .array _ e => e
  | _ => 0

/-- Parts laid over cells. -/
def fillA (place : Nat → Option (Nat × Nat)) : List AV → List (Nat × AV) → T (List AV)
  | cells, [] => .leaf cells
  | cells, (i, v) :: rest => match place i with
    | some (off, size) => .chk (!v.isU && Nat.beq v.cells.length size && Nat.ble (off + v.cells.length) cells.length) (fillA place (setL cells off v.cells) rest)
    | none => .fail

def buildA (C : Ctx) (t : TypeId) (parts : List (Nat × AV)) : T AV :=
  match (C.ty t).desc, (C.ty t).zero with
  | .struct fs, some z => .chk ((C.ty t).ok && fs.all fun f => (C.ty f.2).ok) ((fillA (fun i => (fs[i]?).map fun f => (f.1, (C.ty f.2).size)) z parts).bind fun cs => .leaf (.agg cs))
  | .array _ el, some z => .chk ((C.ty t).ok && (C.ty el).ok) ((fillA (fun i => some (i * (C.ty el).size, (C.ty el).size)) z parts).bind fun cs => .leaf (.agg cs))
  | _, _ => .fail

def repL (n : Nat) (z : List AV) : List AV :=
  match n with
  | 0 => []
  | n + 1 => z ++ repL n z

/-- The cells of a slice or a string, 'n' elements. -/
def cellsOf (H : Heap) (sz : Nat) : AV → Option (Nat × List AV)
  | .sl z id off len _ => match hget H id with
    | some b => bif Nat.beq z sz && Nat.ble (off + len * sz) b.cells.length then some (len, (b.cells.drop off).take (len * sz)) else none
    | none => none
  | .ro _ len l => bif Nat.beq l.length (len * sz) then some (len, l) else none
  | .nils => some (0, [])
  | .str s => bif Nat.beq sz 1 then some (s.length, s.map fun b => .int .u8 b.toNat) else none
  | _ => none

def optI (d : Int) : Option AV → Option Int
  | none => some d
  | some v => intOf? v

def leI (a b : Int) : Bool := decide (a ≤ b)

def sliceA (C : Ctx) (H : Heap) (t : TypeId) (x : AV) (lo hi mx : Option AV) : T AV :=
  match mx with
  | some _ => .fail
  | none => match (C.ty t).desc, x with
  | .string, .str s => match optI 0 lo, optI s.length hi with
    | some l, some h => .chk ((C.ty t).ok && leI 0 l && leI l h && leI h s.length) (.leaf (.str ((s.take h.toNat).drop l.toNat)))
    | _, _ => .fail
  | .slice el, .sl sz id off len cap => match optI 0 lo, optI len hi, cap with
    | some l, some h, some c => .chk ((C.ty t).ok && (C.ty el).ok && Nat.beq sz (C.ty el).size && leI 0 l && leI l h && leI h c)
        (.br (Nat.beq l.toNat c) (.leaf (.ro false 0 [])) (.leaf (.sl sz id (off + l.toNat * sz) (h.toNat - l.toNat) (some (c - l.toNat)))))
    | some l, some h, none => .chk ((C.ty t).ok && (C.ty el).ok && Nat.beq sz (C.ty el).size && leI 0 l && leI l h && leI h len)
        (.br (Nat.beq l.toNat 0) (.leaf (.sl sz id off h.toNat none))
          (.br (Nat.beq l.toNat h.toNat) (.leaf (.ro false 0 [])) (.leaf (.sl sz id (off + l.toNat * sz) (h.toNat - l.toNat) none))))
    | _, _, _ => .fail
  | .slice el, .ro full len cells => match optI 0 lo, optI len hi with
    | some l, some h => .chk ((C.ty t).ok && (C.ty el).ok && Nat.beq cells.length (len * (C.ty el).size) && leI 0 l && leI l h && leI h len)
        (.br (Nat.beq l.toNat len) (.leaf (.ro false 0 []))
          (.leaf (.ro (full && Nat.beq h.toNat len) (h.toNat - l.toNat) ((cells.take (h.toNat * (C.ty el).size)).drop (l.toNat * (C.ty el).size)))))
    | _, _ => .fail
  | .slice el, .nils => match optI 0 lo, optI 0 hi with
    | some l, some h => .chk ((C.ty t).ok && (C.ty el).ok && leI 0 l && leI l h && leI h 0) (.leaf .nils)
    | _, _ => .fail
  | .array n el, .own id off => match hget H id with
    | some b => match optI 0 lo, optI n hi with
      | some l, some h => .chk ((C.ty t).ok && (C.ty el).ok && leI 0 l && leI l h && leI h n && Nat.ble (off + n * (C.ty el).size) b.cells.length)
          (.br (Nat.beq l.toNat n) (.leaf (.ro false 0 [])) (.leaf (.sl (C.ty el).size id (off + l.toNat * (C.ty el).size) (h.toNat - l.toNat) (some (n - l.toNat)))))
      | _, _ => .fail
    | _ => .fail
  | _, _ => .fail

def maxBytes : Nat := 281474976710656

def appendA (C : Ctx) (draw : Bool) (H : Heap) (ts : List TypeId) (s x : AV) : T (AV × Heap) :=
  match ts with
  | [t, t'] =>
    match (C.ty t).desc, (C.ty t').desc with
    | .slice _, .int _ => .fail
    | .slice el, _ => match cellsOf H (C.ty el).size x with
      | none => .fail
      | some (k, ys) =>
        let zok : Bool := (C.ty t).ok && (C.ty t').ok && (C.ty el).ok && (match (C.ty el).zero with | some z => Nat.beq z.length (C.ty el).size | none => false) && oneL ys
        let new (len : Nat) (cs : List AV) : T (AV × Heap) :=
          .chk (zok && Nat.ble ((2 * (len + k) + 1000) * (C.ty el).bytes) maxBytes && Nat.ble (len + k) 9223372036854775807)
            (match draw with
             | true => .chk (freeL (cs ++ ys)) (.leaf (.ro false (len + k) (cs ++ ys), H))
             | false => .leaf (.sl (C.ty el).size H.length 0 (len + k) none, alloc H ⟨el, cs ++ ys⟩))
        match s with
        | .nils => .br (Nat.beq k 0) (.chk zok (.leaf (.nils, H))) (new 0 [])
        | .ro true len l => .chk (Nat.beq l.length (len * (C.ty el).size)) (.br (Nat.beq k 0) (.chk zok (.leaf (.ro true len l, H))) (new len l))
        | .sl sz id off len (some c) => match draw, hget H id with
          | false, some b => .chk (zok && Nat.beq sz (C.ty el).size && Nat.ble (off + len * sz) b.cells.length)
              (.br (Nat.ble (len + k) c)
                (.chk (Nat.ble (off + (len + k) * sz) b.cells.length) (.leaf (.sl sz id off (len + k) (some c), H.set id (some { b with cells := setL b.cells (off + len * sz) ys }))))
                (new len ((b.cells.drop off).take (len * sz))))
          | _, _ => .fail
        | .sl sz id 0 len none => match draw, hget H id with
          | false, some b => .chk (zok && Nat.beq sz (C.ty el).size && Nat.beq b.ty el && Nat.beq (len * sz) b.cells.length && Nat.ble ((2 * (len + k) + 1000) * (C.ty el).bytes) maxBytes && Nat.ble (len + k) 9223372036854775807)
              (.leaf (.sl sz H.length 0 (len + k) none, alloc (H.set id none) ⟨el, b.cells ++ ys⟩))
          | _, _ => .fail
        | _ => .fail
    | _, _ => .fail
  | _ => .fail

def copyA (C : Ctx) (H : Heap) (ts : List TypeId) (d x : AV) : T (AV × Heap) :=
  match ts with
  | t :: _ => match (C.ty t).desc with
    | .slice el => match cellsOf H (C.ty el).size x, d with
      | some (k, ys), .sl sz id off len _ => match hget H id with
        | some b => .chk ((C.ty t).ok && (C.ty el).ok && oneL ys && Nat.beq sz (C.ty el).size && Nat.ble (off + len * sz) b.cells.length)
            (.leaf (.int .i64 (min k len : Nat), H.set id (some { b with cells := setL b.cells off (ys.take (min k len * sz)) })))
        | none => .fail
      | some (_, _), .nils => .chk ((C.ty t).ok && (C.ty el).ok) (.leaf (.int .i64 0, H))
      | _, _ => .fail
    | _ => .fail
  | _ => .fail

def lenA (C : Ctx) (ts : List TypeId) (x : AV) : T AV :=
  match ts with
  | t :: _ => .chk (C.ty t).ok (match (C.ty t).desc, x with
    | .string, .str s => .leaf (.int .i64 s.length)
    | .array n _, _ => .leaf (.int .i64 n)
    | .slice _, .sl _ _ _ n _ => .leaf (.int .i64 n)
    | .slice _, .ro _ n _ => .leaf (.int .i64 n)
    | .slice _, .nils => .leaf (.int .i64 0)
    | _, _ => .fail)
  | _ => .fail

def max2 : AV → AV → T AV
  | .int k x, .int _ y => .leaf (.int k (bif decide (y > x) then y else x))
  | _, _ => .fail
def min2 : AV → AV → T AV
  | .int k x, .int _ y => .leaf (.int k (bif decide (y < x) then y else x))
  | _, _ => .fail
def foldA (f : AV → AV → T AV) : AV → List AV → T AV
  | x, [] => .leaf x
  | x, y :: l => (f x y).bind fun z => foldA f z l

def withH (H : Heap) (t : T AV) : T (AV × Heap) := t.bind fun v => .leaf (v, H)

def bytesOf : List AV → T (List UInt8)
  | [] => .leaf []
  | v :: l => .chk (v.isI .u8) ((bytesOf l).bind fun r => .leaf (UInt8.ofNat v.toI.toNat :: r))

def convA (C : Ctx) (H : Heap) (src dst : TypeId) (x : AV) : T AV :=
  .chk ((C.ty src).ok && (C.ty dst).ok) (match (C.ty dst).desc, x with
  | .int k, .int _ n => .leaf (.int k (k.wrap n))
  | .string, .str s => .leaf (.str s)
  | .string, .int _ n => .leaf (.str (Utf8.encode n).data.toList)
  | .string, v => match (C.ty src).desc with
    | .slice el => match (C.ty el).desc, cellsOf H 1 v with
      | .int .u8, some (_, ys) => .chk (C.ty el).ok ((bytesOf ys).bind fun l => .leaf (.str l))
      | _, _ => .fail
    | _ => .fail
  | .slice el, .str s => match (C.ty el).desc, (C.ty src).desc with
    | .int .u8, .string => .chk (C.ty el).ok (.leaf (.ro false s.length (s.map fun b => .int .u8 b.toNat)))
    | _, _ => .fail
  | _, _ => .fail)

def unA (op : UnOp) (x : AV) : T AV :=
  match op, x with
  | .neg, .int k n => arith .sub k 0 n
  | .xor, .int k n => arith .xor k (if k.signed then -1 else k.max) n
  | .not, .bool b => .leaf (.bool (!b))
  | _, _ => .fail

/-- '==' and '!=' of cells that are no numbers. -/
def eqA (C : Ctx) (k : Bool) (op : BinOp) (t : TypeId) (x y : AV) : T AV :=
  .chk (C.ty t).ok (match op, eqT k (C.ty t).desc x y with
  | .eql, some b => .leaf (.bool b)
  | .neq, some b => .leaf (.bool (!b))
  | _, _ => .fail)

def isK : Operand → Bool
  | .const _ => true
  | _ => false

/-- A call in a state: a summary; a call of its own on what names no own block; else inline. -/
def callA (C : Ctx) (r : EvT) (draw : Bool) (H : Heap) (f : FuncId) (args : List AV) : T (AV × Heap) :=
  match C.sum f with
  | some F => .chk (freeL args) ((F args).bind fun v => .chk v.free (.leaf (v, H)))
  | none => match freeL args with
    | true => (r.call f args []).bind fun p => .chk (frz p.2 p.1).free (.leaf (frz p.2 p.1, H))
    | false => match draw with
      | true => .fail
      | false => r.call f args H

def opnds (C : Ctx) (e : Fr) (l : Array Operand) : List AV := l.toList.map (opnd C e)

def evOp (C : Ctx) (r : EvT) (draw : Bool) (e : Fr) (H : Heap) (o : Oper) : T (AV × Heap) :=
  match o.op with
  | .move x | .assign x => .leaf (opnd C e x, H)
  | .pick c a b => match opnd C e c with
    | .bool x => .br x (.leaf (opnd C e a, H)) (.leaf (opnd C e b, H))
    | _ => .fail
  | .alloc el => match draw with
    | true => .fail
    | false => match (C.ty el).zero with
      | some z => .chk (C.ty el).ok (.leaf (.own H.length 0, alloc H ⟨el, z⟩))
      | none => .fail
  | .box el x => match draw with
    | true => .chk (!(opnd C e x).isU && freeL (opnd C e x).cells) (.leaf (.rp (opnd C e x).cells, H))
    | false => .chk (!(opnd C e x).isU) (.leaf (.own H.length 0, alloc H ⟨el, (opnd C e x).cells⟩))
  | .build t parts => withH H (buildA C t (parts.toList.map fun p => (p.1, opnd C e p.2)))
  | .buildSlice t len parts => match (C.ty t).desc, (C.ty (elemOf C t)).zero with
    | .slice el, some z => (fillA (fun i => some (i * (C.ty el).size, (C.ty el).size)) (repL len z) (parts.toList.map fun p => (p.1, opnd C e p.2))).bind fun cs =>
        .chk ((C.ty t).ok && (C.ty el).ok && Nat.beq z.length (C.ty el).size && !(Nat.beq (C.ty el).size 0) && Nat.beq cs.length (len * (C.ty el).size) && Nat.ble (len * (C.ty el).size) 16777216) (match draw with
        | true => .chk (freeL cs) (.leaf (.ro true len cs, H))
        | false => .leaf (.sl (C.ty el).size H.length 0 len (some len), alloc H ⟨el, cs⟩))
    | _, _ => .fail
  | .load t a => withH H (loadA C H t (opnd C e a))
  | .store t a x => (storeA C H t (opnd C e a) (opnd C e x)).bind fun H' => .leaf (.tup [], H')
  | .nilCheck x => match opnd C e x with
    | .own id off => .leaf (.own id off, H)
    | .rp l => .leaf (.rp l, H)
    | .fn f l l' => .leaf (.fn f l l', H)
    | _ => .fail
  | .binOp op t x y _ => match opnd C e x, opnd C e y with
    | .int k a, .int k' b => withH H (binA C op t (.int k a) (.int k' b))
    | .str a, .str b => withH H (binA C op t (.str a) (.str b))
    | .agg l, .agg l' => withH H (binA C op t (.agg l) (.agg l'))
    | a, b => withH H (eqA C (isK x || isK y) op t a b)
  | .unOp op _ x => withH H (unA op (opnd C e x))
  | .convert src dst x => withH H (convA C H src dst (opnd C e x))
  | .makeFunc (.func f) first captured => .leaf (.fn f (opnds C e first) (opnds C e captured), H)
  | .makeSlice t l c => match (C.ty t).desc, opnd C e l, opnd C e c, (C.ty (elemOf C t)).zero with
    | .slice el, .int .i64 n, .int .i64 n', some z => .chk ((C.ty t).ok && (C.ty el).ok && Nat.beq z.length (C.ty el).size && !(Nat.beq (C.ty el).size 0) && decide (n = n') && leI 0 n && leI ((C.ty el).bytes * n) maxBytes && leI n 9223372036854775807)
        (match draw with
        | true => .chk (freeL (repL n.toNat z)) (.leaf (.ro true n.toNat (repL n.toNat z), H))
        | false => .leaf (.sl (C.ty el).size H.length 0 n.toNat (some n.toNat), alloc H ⟨el, repL n.toNat z⟩))
    | _, _, _, _ => .fail
  | .slice t x lo hi mx => withH H (sliceA C H t (opnd C e x) (lo.map (opnd C e)) (hi.map (opnd C e)) (mx.map (opnd C e)))
  | .fieldAddr t x i => match (C.ty t).desc with
    | .struct fs => match fs[i]?, opnd C e x with
      | some f, .own id off => .chk ((C.ty t).ok && (C.ty f.2).ok && !(Nat.beq (C.ty f.2).size 0)) (.leaf (.own id (off + f.1), H))
      | some f, .rp l => .chk ((C.ty t).ok && (C.ty f.2).ok && !(Nat.beq (C.ty f.2).size 0) && Nat.ble f.1 l.length) (.leaf (.rp (l.drop f.1), H))
      | _, _ => .fail
    | _ => .fail
  | .field t x i => match (C.ty t).desc with
    | .struct fs => match fs[i]?, opnd C e x with
      | some f, .agg l => .chk (C.ty t).ok (withH H (getT (C.ty f.2) l f.1))
      | _, _ => .fail
    | _ => .fail
  | .indexAddr t x i => match (C.ty t).desc, opnd C e x, opnd C e i with
    | .array n el, .own id off, .int _ i => .chk ((C.ty t).ok && (C.ty el).ok && leI 0 i && decide (i < n)) (.leaf (.own id (off + i.toNat * (C.ty el).size), H))
    | .array n el, .rp l, .int _ i => .chk ((C.ty t).ok && (C.ty el).ok && leI 0 i && decide (i < n)) (.leaf (.rp (l.drop (i.toNat * (C.ty el).size)), H))
    | .slice el, .sl sz id off len _, .int _ i => .chk ((C.ty t).ok && (C.ty el).ok && Nat.beq sz (C.ty el).size && leI 0 i && decide (i < len)) (.leaf (.own id (off + i.toNat * sz), H))
    | .slice el, .ro _ len l, .int _ i => .chk ((C.ty t).ok && (C.ty el).ok && leI 0 i && decide (i < len)) (.leaf (.rp (l.drop (i.toNat * (C.ty el).size)), H))
    | _, _, _ => .fail
  | .index t x i => match (C.ty t).desc, opnd C e x, opnd C e i with
    | .array n el, .agg l, .int _ i => .chk ((C.ty t).ok && (C.ty el).ok && leI 0 i && decide (i < n)) (withH H (getT (C.ty el) l (i.toNat * (C.ty el).size)))
    | .string, .str s, .int _ i => .chk ((C.ty t).ok && leI 0 i && decide (i < s.length)) (.leaf (.int .u8 (s.getD i.toNat 0).toNat, H))
    | _, _, _ => .fail
  | .extract t i => match opnd C e t with
    | .tup l => .chk (Nat.ble (i + 1) l.length) (.leaf (l.getD i .undef, H))
    | _ => .fail
  | .call c => match c.callee with
    | .value (.func f) => callA C r draw H f (opnds C e c.args)
    | .value g => match opnd C e g with
      | .fn f first caps => callA C r draw H f (first ++ opnds C e c.args ++ caps)
      | _ => .fail
    | .builtin .len => match opnds C e c.args with
      | [x] => withH H (lenA C c.argTypes.toList x)
      | _ => .fail
    | .builtin .append => match opnds C e c.args with
      | [s, x] => appendA C draw H c.argTypes.toList s x
      | _ => .fail
    | .builtin .copy => match draw, opnds C e c.args with
      | false, [d, x] => copyA C H c.argTypes.toList d x
      | _, _ => .fail
    | .builtin .max => match opnds C e c.args with
      | x :: l => withH H (foldA max2 x l)
      | _ => .fail
    | .builtin .min => match opnds C e c.args with
      | x :: l => withH H (foldA min2 x l)
      | _ => .fail
    | _ => .fail
  | _ => .fail

def putE (e : Fr) (d : Option Tmp) (v : AV) : Fr :=
  match d with
  | some t => (t, v) :: e
  | none => e

/-- A row of operations in the order of the text; a guard's test parts the ways. -/
def evOps (C : Ctx) (r : EvT) (draw : Bool) (all : Array Oper) : List Oper → Fr → Heap → T (Fr × Heap)
  | [], e, H => .leaf (e, H)
  | o :: rest, e, H =>
    match o.guard with
    | none => (evOp C r draw e H o).bind fun p => evOps C r draw all rest (putE e o.dst p.1) p.2
    | some (j, want) =>
      match (all[j]?).bind (·.dst) with
      | none => .fail
      | some s =>
        let yes : T (Fr × Heap) := (evOp C r draw ((s, .bool want) :: e) H o).bind fun p => evOps C r draw all rest (putE ((s, .bool want) :: e) o.dst p.1) p.2
        let no : T (Fr × Heap) := evOps C r draw all rest (putE ((s, .bool (!want)) :: e) o.dst (.tup [])) H
        match look e s, want with
        | .bool b, true => .br b yes no
        | .bool b, false => .br b no yes
        | .tup [], _ => evOps C r draw all rest (putE e o.dst (.tup [])) H
        | _, _ => .fail

/-- Which blocks an operation reads, which it writes. -/
structure FP where
  r : List Nat
  w : List Nat
def idsOf : AV → List Nat
  | .own id _ => [id]
  | .sl _ id _ _ _ => [id]
  | _ => []
def fpOf (C : Ctx) (e : Fr) (slot : Nat) (o : Oper) : FP :=
  match o.op with
  | .load _ a => ⟨idsOf (opnd C e a), []⟩
  | .store _ a _ => ⟨[], idsOf (opnd C e a)⟩
  | .alloc _ => ⟨[], [slot]⟩
  | .convert _ _ x => ⟨idsOf (opnd C e x), []⟩
  | .slice _ x _ _ _ => ⟨idsOf (opnd C e x), []⟩
  | .call c => match c.callee with
    | .builtin .append => ⟨(opnds C e c.args).flatMap idsOf, []⟩
    | _ => ⟨[], []⟩
  | _ => ⟨[], []⟩
def meets (a b : List Nat) : Bool := a.any fun x => b.contains x
def clash (a b : FP) : Bool := meets a.w (b.r ++ b.w) || meets b.w a.r

def onEdge (o : Oper) (i : Nat) : Bool := o.after.any fun e => Region.binds .any e && e.on == i
/-- Two operations of which one writes what the other touches stand in an order. -/
def fpsB (ops : Array Oper) (F : List FP) : Bool :=
  (List.range ops.size).all fun i => (List.range ops.size).all fun j => match ops[i]?, ops[j]?, F[i]?, F[j]? with
    | some oi, some oj, some a, some b => Nat.beq i j || !(clash a b) || onEdge oj i || onEdge oi j
    | _, _, _, _ => false

/-- An operation of a row that draws its order: a new block goes to the id that was kept for it. -/
def evOpX (C : Ctx) (r : EvT) (e : Fr) (H : Heap) (slot : Nat) (o : Oper) : T (AV × Heap) :=
  match o.op with
  | .alloc el => match (C.ty el).zero, H[slot]? with
    | some z, some none => .chk (C.ty el).ok (.leaf (.own slot 0, H.set slot (some ⟨el, z⟩)))
    | _, _ => .fail
  | _ => evOp C r true e H o

def withFP (a : FP) (t : T (Fr × Heap × List FP)) : T (Fr × Heap × List FP) := t.bind fun q => .leaf (q.1, q.2.1, a :: q.2.2)

def evOpsD (C : Ctx) (r : EvT) (n0 : Nat) (all : Array Oper) : List Oper → Fr → Heap → T (Fr × Heap × List FP)
  | [], e, H => .leaf (e, H, [])
  | o :: rest, e, H =>
    match o.guard with
    | none => (evOpX C r e H (n0 + (all.size - (rest.length + 1))) o).bind fun p => withFP (fpOf C e (n0 + (all.size - (rest.length + 1))) o) (evOpsD C r n0 all rest (putE e o.dst p.1) p.2)
    | some (j, want) =>
      match (all[j]?).bind (·.dst) with
      | none => .fail
      | some s =>
        let yes : T (Fr × Heap × List FP) := (evOpX C r ((s, .bool want) :: e) H (n0 + (all.size - (rest.length + 1))) o).bind fun p => withFP (fpOf C ((s, .bool want) :: e) (n0 + (all.size - (rest.length + 1))) o) (evOpsD C r n0 all rest (putE ((s, .bool want) :: e) o.dst p.1) p.2)
        let no : T (Fr × Heap × List FP) := withFP ⟨[], []⟩ (evOpsD C r n0 all rest (putE ((s, .bool (!want)) :: e) o.dst (.tup [])) H)
        match look e s, want with
        | .bool b, true => .br b yes no
        | .bool b, false => .br b no yes
        | .tup [], _ => withFP ⟨[], []⟩ (evOpsD C r n0 all rest (putE e o.dst (.tup [])) H)
        | _, _ => .fail

def isAlloc (o : Oper) : Bool := match o.op with | .alloc _ => true | _ => false
/-- Ids kept for the blocks that a drawn row may lay. -/
def resv (ops : Array Oper) (H : Heap) : Heap := bif ops.any isAlloc then H ++ List.replicate ops.size none else H
def evDraw (C : Ctx) (r : EvT) (ops : Array Oper) (e : Fr) (H : Heap) : T (Fr × Heap) :=
  (evOpsD C r H.length ops ops.toList e (resv ops H)).bind fun q => .chk (fpsB ops q.2.2) (.leaf (q.1, q.2.1))

def keepF (l : List Tmp) (e : Fr) : Fr := l.map fun t => (t, look e t)

def initE : Nat → List AV → Fr
  | _, [] => []
  | i, v :: l => (i, v) :: initE (i + 1) l

def resA (C : Ctx) (st : St) : List ResultVar → T (List AV)
  | [] => .leaf []
  | .tmp t :: l => (resA C st l).bind fun vs => .leaf (look st.e t :: vs)
  | .cell a ty :: l => (loadA C st.H ty (look st.e a)).bind fun v => (resA C st l).bind fun vs => .leaf (v :: vs)

def tupA : List AV → AV
  | [v] => v
  | l => .tup l

/-! ### What is no longer reached is dropped, what is left is numbered anew -/
def ids1 (m : Nat) : AV → List Nat
  | .own id _ => bif Nat.ble m id then [id] else []
  | .sl _ id _ _ _ => bif Nat.ble m id then [id] else []
  | _ => []
def ids2 (m : Nat) : AV → List Nat
  | .agg l | .tup l => l.flatMap (ids1 m)
  | .fn _ l l' => l.flatMap (ids1 m) ++ l'.flatMap (ids1 m)
  | v => ids1 m v
def cellsAt (H : Heap) (id : Nat) : List AV :=
  match hget H id with
  | some b => b.cells
  | none => []
def reach (m : Nat) (H : Heap) : Nat → List Nat → List Nat → List Nat
  | 0, _, seen => seen
  | _ + 1, [], seen => seen
  | n + 1, id :: todo, seen =>
    bif seen.contains id then reach m H n todo seen else reach m H n (todo ++ (cellsAt H id).flatMap (ids2 m)) (seen ++ [id])
def ren (m : Nat) (l : List Nat) (id : Nat) : Option Nat :=
  bif Nat.ble m id then (l.idxOf? id).map (m + ·) else some id
mutual
def th (f : Nat → Option Nat) : AV → AV
  | .own id off => match f id with
    | some j => .own j off
    | none => .undef
  | .sl sz id off len cap => match f id with
    | some j => .sl sz j off len cap
    | none => .undef
  | .agg l => .agg (thL f l)
  | .tup l => .tup (thL f l)
  | .fn g l l' => .fn g (thL f l) (thL f l')
  | .ifc t v => .ifc t (th f v)
  | v => v
def thL (f : Nat → Option Nat) : List AV → List AV
  | [] => []
  | v :: l => th f v :: thL f l
end
def thB (f : Nat → Option Nat) : Option Blk → Option Blk
  | some b => some { b with cells := b.cells.map (th f) }
  | none => none
def okL (m : Nat) : List Nat → Bool
  | [] => true
  | id :: r => Nat.ble m id && !(r.contains id) && okL m r
def thAt (f : Nat → Option Nat) (H : Heap) (id : Nat) : Option Blk :=
  match H[id]? with
  | some b => thB f b
  | none => none
def gcR (st : St) : List Nat :=
  reach st.m st.H (st.H.length + 100) (st.e.flatMap (fun p => ids2 st.m p.2) ++ (st.H.take st.m).flatMap (fun b => match b with | some b => b.cells.flatMap (ids2 st.m) | none => [])) []
def gc (st : St) : St :=
  bif Nat.ble st.H.length st.m then st else
  bif okL st.m (gcR st) then
    { st with e := st.e.map fun p => (p.1, th (ren st.m (gcR st)) p.2), H := (st.H.take st.m).map (thB (ren st.m (gcR st))) ++ (gcR st).map (thAt (ren st.m (gcR st)) st.H) }
  else st

/-- A test's slot is forgotten where nothing looks at it again. -/
def testF (fd : FD) (c : Operand) (st : St) : St :=
  match c with
  | .tmp s => bif fd.ct.contains s then { st with e := st.e.map fun p => bif Nat.beq p.1 s then (p.1, .undef) else p } else st
  | _ => st

def step (C : Ctx) (r : EvT) : EvT where
  code fd c st :=
    match c with
    | .skip => .leaf (.n, st)
    | .region _ ops draw => (match draw with
      | true => evDraw C r ops st.e st.H
      | false => evOps C r false ops ops.toList st.e st.H).bind fun p => .leaf (.n, { st with e := keepF fd.keep p.1, H := p.2 })
    | .seq a b => (r.code fd a st).bind fun p => match p.1 with
      | .n => r.code fd b p.2
      | x => .leaf (x, p.2)
    | .cond c a b => match opnd C st.e c with
      | .bool t =>
        .br t (r.code fd a (testF fd c st)) (r.code fd b (testF fd c st))
      | _ => .fail
    | .block id b => (r.code fd b st).bind fun p => match p.1 with
      | .ex j => bif Nat.beq j id then .leaf (.n, p.2) else .leaf (.ex j, p.2)
      | x => .leaf (x, p.2)
    | .loop b => (r.code fd b st).bind fun p => match p.1 with
      | .n => r.code fd (.loop b) (gc p.2)
      | x => .leaf (x, p.2)
    | .exit id => .leaf (.ex id, st)
    | .ret => .leaf (.ret, st)
    | _ => .fail
  call f args H :=
    match C.code f with
    | none => .fail
    | some fd => match fd.fn.body with
      | none => .fail
      | some c => .chk (Nat.ble args.length fd.fn.ntmps) ((r.code fd c { e := keepF fd.keep (initE 0 args), H, m := H.length }).bind fun p => match p.1 with
        | .ex _ => .fail
        | _ => (resA C p.2 fd.fn.results.toList).bind fun vs => .leaf (tupA vs, p.2.H))

def ev (C : Ctx) : Nat → EvT
  | 0 => { call := fun _ _ _ => .fail, code := fun _ _ _ => .fail }
  | n + 1 => step C (ev C n)
end Go.Ev
