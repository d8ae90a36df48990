/- The abstract machine: what each operation does to plain states. -/
import Derived.Test.YtlfafgmhjplbeaaSymA
namespace Go.Sym

/-- a piece of memory of the call's own: cells, or a slice's row -/
inductive Box : Type 1
  | cells (cs : List AV) (T : TypeId)
  | row (sz : Nat) {α : Type} (enc : α → List AV) (l : List α) (E : TypeId)
  /-- it is no longer known -/
  | dead

def look {β : Type 1} : List (Nat × β) → Nat → Option β
  | [], _ => none
  | (k, v) :: r, i => bif Nat.beq k i then some v else look r i

/-- a state: the frame's size, what is known of its slots, of the own memory; the first name that is free -/
structure St : Type 1 where
  n : Nat
  fr : List (Nat × AV)
  hp : List (Nat × Box)
  nx : Nat

/-- what the derivation tells at an operation -/
inductive D : Type 1
  | none
  | b (d : Bool)
  | cs (x : List AV)
  | row (b : Box)
  /-- a call that changes its one own slice in place: what the slice holds then -/
  | inp (b : Box)
  /-- a call: its arguments seen as data (b: own slices too), its result, the memory that it hands over -/
  | res (b : Bool) (xs : List AV) (r : AV) (hp : List (Nat × Box))

def Alls : List Prop → Prop
  | [] => True
  | p :: ps => p ∧ Alls ps

def ofVal : Value → AV
  | .bool b => .bool b
  | .int .u8 n => bif decide (0 ≤ n) && decide (n < 256) then .byte (UInt8.ofNat n.toNat) else .val (.int .u8 n)
  | .int k n => .int k n
  | .string s => .str s.data.toList
  | v => .val v
def ofVals : List Value → List AV
  | [] => []
  | v :: vs => ofVal v :: ofVals vs

/-- one cell holds it -/
def AV.one : AV → Bool
  | .undef | .agg _ | .tup _ | .val _ => false
  | _ => true
def Value.one : Value → Bool
  | .agg _ | .tuple _ => false
  | _ => true
def AV.one' : AV → Bool
  | .undef | .agg _ | .tup _ => false
  | .val v => Value.one v
  | _ => true
def AV.ones : List AV → Bool
  | [] => true
  | x :: xs => x.one' && AV.ones xs
def AV.cells : AV → List AV
  | .agg cs => cs
  | x => [x]

def St.ev (s : St) : Operand → Option AV
  | .tmp t => look s.fr t
  | .const v => some (ofVal v)
  | .func f => some (.fn (.func f) [] [])
  | .global _ => none
def St.evs (s : St) : List Operand → Option (List AV)
  | [] => some []
  | x :: xs => match s.ev x with
    | none => none
    | some v => match s.evs xs with
      | none => none
      | some vs => some (v :: vs)

def St.put (s : St) (dst : Option Tmp) (x : AV) : Option St :=
  match dst with
  | none => some s
  | some d => bif Nat.blt d s.n then some { s with fr := (d, x) :: s.fr } else none

def u8shl (c : UInt8) (n : Nat) : UInt8 := UInt8.ofNat (c.toNat * 2 ^ n)
def u8shr (c : UInt8) (n : Nat) : UInt8 := UInt8.ofNat (c.toNat / 2 ^ n)
def toU8 (n : Int) : UInt8 := UInt8.ofNat (n % 256).toNat

/-- operators on integers of one kind -/
def abinI (op : BinOp) (k : IntKind) (a b : Int) : Option (List Prop × AV) :=
  match op with
  | .add => some ([], .int k (k.wrap (a + b)))
  | .sub => some ([], .int k (k.wrap (a - b)))
  | .mul => some ([], .int k (k.wrap (a * b)))
  | .quo => some ([b ≠ 0], .int k (k.wrap (a.tdiv b)))
  | .rem => some ([b ≠ 0], .int k (a.tmod b))
  | .and => some ([], .int k (k.wrap (BitVec.ofInt k.bits a &&& BitVec.ofInt k.bits b).toNat))
  | .or => some ([], .int k (k.wrap (BitVec.ofInt k.bits a ||| BitVec.ofInt k.bits b).toNat))
  | .xor => some ([], .int k (k.wrap (BitVec.ofInt k.bits a ^^^ BitVec.ofInt k.bits b).toNat))
  | .eql => some ([], .bool (a == b))
  | .neq => some ([], .bool (a != b))
  | .lss => some ([], .bool (decide (a < b)))
  | .leq => some ([], .bool (decide (a ≤ b)))
  | .gtr => some ([], .bool (decide (b < a)))
  | .geq => some ([], .bool (decide (b ≤ a)))
  | .shl => some ([0 ≤ b], .int k (k.wrap (a * 2 ^ min b.toNat k.bits)))
  | .shr => some ([0 ≤ b], .int k (a.fdiv (2 ^ min b.toNat k.bits)))
  | _ => none
def abin8 (op : BinOp) (a b : UInt8) : Option (List Prop × AV) :=
  match op with
  | .add => some ([], .byte (a + b))
  | .sub => some ([], .byte (a - b))
  | .mul => some ([], .byte (a * b))
  | .quo => some ([b ≠ 0], .byte (a / b))
  | .rem => some ([b ≠ 0], .byte (a % b))
  | .and => some ([], .byte (a &&& b))
  | .or => some ([], .byte (a ||| b))
  | .xor => some ([], .byte (a ^^^ b))
  | .eql => some ([], .bool (a == b))
  | .neq => some ([], .bool (a != b))
  | .lss => some ([], .bool (decide (a < b)))
  | .leq => some ([], .bool (decide (a ≤ b)))
  | .gtr => some ([], .bool (decide (b < a)))
  | .geq => some ([], .bool (decide (b ≤ a)))
  | .shl => some ([], .byte (u8shl a (min b.toNat 8)))
  | .shr => some ([], .byte (u8shr a (min b.toNat 8)))
  | _ => none
def strMax : Nat := 4611686018427387904
def abinS (op : BinOp) (a b : List UInt8) : Option (List Prop × AV) :=
  match op with
  | .add => some ([a.length + b.length ≤ strMax], .str (a ++ b))
  | .eql => some ([], .bool (a == b))
  | .neq => some ([], .bool (!(a == b)))
  | .lss => some ([], .bool (Op.bytesLess a b))
  | .leq => some ([], .bool (Op.bytesLess a b || a == b))
  | .gtr => some ([], .bool (!(Op.bytesLess a b || a == b)))
  | .geq => some ([], .bool (!Op.bytesLess a b))
  | _ => none

/-- == of two values of one cell, of a basic type -/
def aeq1 (P : Program) (t : TypeId) (x y : AV) : Option Bool :=
  match P.underlying t, x, y with
  | some (.int _), .int k a, .int k' b => bif decide (k = k') then some (a == b) else none
  | some (.int _), .byte a, .byte b => some (a == b)
  | some .bool, .bool a, .bool b => some (a == b)
  | some .string, .str a, .str b => some (a == b)
  | _, _, _ => none
/-- == of structs all of whose fields are of basic types -/
def aeqFields (P : Program) (xs ys : List AV) : List Field → Option Bool
  | [] => some true
  | f :: fs => bif f.name == "_" then none else
    match xs[f.offset]?, ys[f.offset]? with
    | some x, some y => match aeq1 P f.type x y with
      | none => none
      | some b => match aeqFields P xs ys fs with
        | none => none
        | some r => some (b && r)
    | _, _ => none
def aeq (P : Program) (t : TypeId) (x y : AV) : Option Bool :=
  match x, y with
  | .agg xs, .agg ys =>
    match P.underlying t with
    | some (.struct fields) => bif P.stoodInHeld t || P.eqGuardType P.depth t then none else aeqFields P xs ys fields.toList
    | _ => none
  | x, y => aeq1 P t x y

def abin (P : Program) (op : BinOp) (t : TypeId) (x y : AV) : Option (List Prop × AV) :=
  match x, y with
  | .int k a, .int k' b => bif decide (op = .shl) || decide (op = .shr) || decide (k = k') then (bif decide (k = .u8) || decide (k' = .u8) then none else abinI op k a b) else none
  | .byte a, .byte b => abin8 op a b
  | .byte a, .int k b => match op with
    | .shl => some ([0 ≤ b], .byte (u8shl a (min b.toNat 8)))
    | .shr => some ([0 ≤ b], .byte (u8shr a (min b.toNat 8)))
    | _ => none
  | .int k a, .byte b => bif decide (k = .u8) then none else match op with
    | .shl => some ([], .int k (k.wrap (a * 2 ^ min b.toNat k.bits)))
    | .shr => some ([], .int k (a.fdiv (2 ^ min b.toNat k.bits)))
    | _ => none
  | .str a, .str b => abinS op a b
  | x, y => match op with
    | .eql => match aeq P t x y with | some b => some ([], .bool b) | none => none
    | .neq => match aeq P t x y with | some b => some ([], .bool (!b)) | none => none
    | _ => none
def aun (op : UnOp) (x : AV) : Option AV :=
  match op, x with
  | .not, .bool b => some (.bool (!b))
  | .neg, .int k n => bif decide (k = .u8) then none else some (.int k (k.wrap (0 - n)))
  | _, _ => none

def tSize (P : Program) (t : TypeId) : Option Nat := match P.info? t with | some i => some i.size | none => none
def tAgg (P : Program) (t : TypeId) : Option Bool := match P.underlying t with
  | some (.struct _) => some true | some (.array _ _) => some true | some _ => some false | none => none
def tZero (P : Program) (t : TypeId) : Option (List AV) := match P.info? t with
  | some i => match i.zero with | some z => some (ofVals z.cells.toList) | none => none
  | none => none
/-- the part of cells that a variable of the type takes -/
def aload (P : Program) (t : TypeId) (cs : List AV) (off : Nat) : Option AV :=
  match tAgg P t with
  | some true => match tSize P t with
    | some n => bif Nat.ble (off + n) cs.length then some (.agg ((cs.drop off).take n)) else none
    | none => none
  | some false => cs[off]?
  | none => none
def splice (cs : List AV) (off : Nat) : List AV → List AV
  | [] => cs
  | x :: xs => splice (cs.set off x) (off + 1) xs
def afill (place : Nat → Option (Nat × Nat)) (cs : List AV) : List (Nat × AV) → Option (List AV)
  | [] => some cs
  | (i, x) :: rest => match place i with
    | none => none
    | some (off, size) => bif Nat.beq x.cells.length size && Nat.ble (off + size) cs.length && AV.ones x.cells then afill place (splice cs off x.cells) rest else none
def aparts (s : St) : List (Nat × Operand) → Option (List (Nat × AV))
  | [] => some []
  | (i, x) :: rest => match s.ev x with
    | none => none
    | some v => match aparts s rest with
      | none => none
      | some vs => some ((i, v) :: vs)
def fplaces (P : Program) : List Field → Option (List (Nat × Nat))
  | [] => some []
  | f :: fs => match tSize P f.type with
    | none => none
    | some n => match fplaces P fs with
      | none => none
      | some r => some ((f.offset, n) :: r)
def reps {β : Type 1} (l : List β) : Nat → List β
  | 0 => []
  | n + 1 => l ++ reps l n

/-- what a slice (or a string) holds: its cells, one after the other, and how many elements -/
def srcOf (s : St) : AV → Option (List AV × Nat)
  | .sl _ enc l => some (l.flatMap enc, l.length)
  | .str b => some (b.map .byte, b.length)
  | .val (.slice none 0 0) => some ([], 0)
  | .own k => match look s.hp k with
    | some (.row _ enc l _) => some (l.flatMap enc, l.length)
    | _ => none
  | _ => none
def rowMax : Nat := 4294967296
def undefs : Nat → List AV
  | 0 => []
  | n + 1 => .undef :: undefs n
def encB (c : UInt8) : List AV := [.byte c]

/- x seen as y -/
mutual
def vw (b : Bool) (hp : List (Nat × Box)) : AV → AV → Option (List Prop)
  | .agg xs, .agg ys => vws b hp xs ys
  | .tup xs, .tup ys => vws b hp xs ys
  | .own k, .sl sz enc l => bif b then match look hp k with
      | some (.row sz' enc' l' _) => some [AV.sl sz enc l = AV.sl sz' enc' l']
      | _ => none
    else none
  | .val v, .sl sz enc l => match v with
    | .slice none 0 0 => some [l.length = 0]
    | _ => none
  | _, .undef => some []
  | x, y => some [y = x]
def vws (b : Bool) (hp : List (Nat × Box)) : List AV → List AV → Option (List Prop)
  | [], [] => some []
  | x :: xs, y :: ys => match vw b hp x y with
    | some ps => match vws b hp xs ys with
      | some qs => some (ps ++ qs)
      | none => none
    | none => none
  | _, _ => none
end
/- nothing in it refers to memory that others may own -/
mutual
def noRef : AV → Bool
  | .sl _ _ _ => false
  | .rop _ => false
  | .agg xs => noRefs xs
  | .tup xs => noRefs xs
  | .fn _ xs ys => noRefs xs && noRefs ys
  | .iface _ x => noRef x
  | _ => true
def noRefs : List AV → Bool
  | [] => true
  | x :: xs => noRef x && noRefs xs
end
def noRefHp : List (Nat × Box) → List Prop
  | [] => []
  | (_, .cells cs _) :: r => (noRefs cs = true) :: noRefHp r
  | (_, .row _ enc l _) :: r => (∀ x ∈ l, noRefs (enc x) = true) :: noRefHp r
  | (_, .dead) :: r => noRefHp r
/- an own slice turned into data -/
mutual
def AV.frz (k : Nat) (y : AV) : AV → AV
  | .agg cs => .agg (AV.frzs k y cs)
  | .tup cs => .tup (AV.frzs k y cs)
  | .own n => bif Nat.beq n k then y else .own n
  | .fn f first cap => .fn f (AV.frzs k y first) (AV.frzs k y cap)
  | .iface t x => .iface t (AV.frz k y x)
  | .ptr b off => .ptr b off
  | .oel n sz i off => .oel n sz i off
  | .undef => .undef | .int k n => .int k n | .byte c => .byte c | .bool b => .bool b | .str s => .str s | .sl sz enc l => .sl sz enc l | .rop cs => .rop cs | .val v => .val v
def AV.frzs (k : Nat) (y : AV) : List AV → List AV
  | [] => []
  | x :: xs => AV.frz k y x :: AV.frzs k y xs
end
def frzHp (k : Nat) (y : AV) : List (Nat × Box) → List (Nat × Box)
  | [] => []
  | (n, .cells cs T) :: r => (n, .cells (AV.frzs k y cs) T) :: frzHp k y r
  | (n, b) :: r => (n, b) :: frzHp k y r
def frzFr (k : Nat) (y : AV) : List (Nat × AV) → List (Nat × AV)
  | [] => []
  | (n, x) :: r => (n, AV.frz k y x) :: frzFr k y r
/-- the own slice k is data from now on -/
def St.freeze (s : St) (k : Nat) : Option St := match look s.hp k with
  | some (.row sz enc l _) => some { s with fr := frzFr k (.sl sz enc l) s.fr, hp := (k, .dead) :: frzHp k (.sl sz enc l) s.hp }
  | _ => none
end Go.Sym
