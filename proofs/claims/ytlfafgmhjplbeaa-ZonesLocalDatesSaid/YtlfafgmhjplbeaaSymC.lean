/- What ties plain states to the machine's memory; what each operation does to plain states. -/
import Derived.Test.YtlfafgmhjplbeaaSymB
import Derived.Orders
import Derived.Laws.StructEq
import Derived.Laws.Tables
namespace Go.Sym
open Go.RowKit

/-- the block where a piece of own memory lies -/
def Gh.at (G : Gh) (n : Nat) : Box → Option Nat
  | .cells _ _ => G.box n
  | .row _ _ _ _ => match G.own n with
    | some (some a, _, _) => some a.block
    | _ => none
  | .dead => none
def blocks (G : Gh) (hp : List (Nat × Box)) (b : Nat) : Prop := ∃ n bx, look hp n = some bx ∧ G.at n bx = some b

def BoxOk (G : Gh) (w : World) (n : Nat) : Box → Prop
  | .cells cs T => ∃ B vs, G.box n = some B ∧ w.heap[B]? = some (.cells vs T (0, 0)) ∧ Reps cs G vs.toList ∧ (∀ v ∈ vs.toList, v.oneCell' = true) ∧ ∀ o, G.imm B o = none
  | .row sz enc l E => ∃ a c, G.own n = some (a, l.length, c) ∧ (∀ x ∈ l, (enc x).length = sz) ∧
      ((a = none ∧ l = [] ∧ c = 0) ∨ ∃ g vs fz, a = some ⟨g, 0, none⟩ ∧ w.heap[g]? = some (.cells vs E fz) ∧ (fz = (0, 0) ∨ vs.size ≤ fz.1) ∧ l.length ≤ c ∧ c ≤ maxLen ∧ vs.size = c * sz ∧
        Reps (l.flatMap enc) G.data (vs.toList.take (l.length * sz)) ∧ (∀ v ∈ vs.toList, v.oneCell' = true) ∧ ∀ o, G.imm g o = none)
  | .dead => True

structure Mem (G : Gh) (hp : List (Nat × Box)) (w : World) : Prop where
  agree : ∀ b o v, G.imm b o = some v → w.cell? ⟨b, o, none⟩ = some v
  one : ∀ b o v, G.imm b o = some v → v.oneCell' = true
  holds : ∀ n bx, look hp n = some bx → BoxOk G w n bx
  apart : ∀ n m bx bx' b, look hp n = some bx → look hp m = some bx' → G.at n bx = some b → G.at m bx' = some b → n = m

/-- of what was there only the blocks of S may have turned -/
structure Bel (S : Nat → Prop) (w w' : World) : Prop where
  os : w'.os = w.os
  tape : w'.tape = w.tape
  output : w'.output = w.output
  size : w.heap.size ≤ w'.heap.size
  block : ∀ k, k < w.heap.size → ¬ S k → w'.heap[k]? = w.heap[k]?

/-- a slice value and its row (nil: the empty one) -/
def RowAt (w : World) (E : TypeId) (sz : Nat) (ad : Option Addr) (n c : Nat) (us : List Value) : Prop :=
  us.length = n * sz ∧ ((ad = none ∧ n = 0 ∧ c = 0) ∨ ∃ g vs fz, ad = some ⟨g, 0, none⟩ ∧ w.heap[g]? = some (.cells vs E fz) ∧ (fz = (0, 0) ∨ vs.size ≤ fz.1) ∧ n ≤ c ∧ c ≤ maxLen ∧ vs.size = c * sz ∧ vs.toList.take (n * sz) = us ∧ (∀ v ∈ vs.toList, v.oneCell' = true))

def blkOf : Option Addr → Option Nat
  | some a => some a.block
  | none => none

/-- the memory part of what holds in the middle of a call that began at w₀, with G₀ and hp₀ -/
structure Fin (w₀ : World) (G₀ : Gh) (hp₀ : List (Nat × Box)) (G : Gh) (hp : List (Nat × Box)) (w : World) : Prop where
  mem : Mem G hp w
  bel : Bel (blocks G₀ hp₀) w₀ w
  imm_le : ∀ b o v, G₀.imm b o = some v → G.imm b o = some v
  imm_new : ∀ b o v, G.imm b o = some v → G₀.imm b o = some v ∨ w₀.heap.size ≤ b ∨ blocks G₀ hp₀ b
  base : ∀ n bx b, look hp n = some bx → G.at n bx = some b → w₀.heap.size ≤ b ∨ blocks G₀ hp₀ b
  keep : ∀ n bx B, look hp₀ n = some bx → G₀.box n = some B → G.box n = some B

structure Rel (w₀ : World) (G₀ : Gh) (hp₀ : List (Nat × Box)) (G : Gh) (s : St) (a : Act) (w : World) : Prop where
  defers : a.defers = []
  size : a.tmps.size = s.n
  frame : ∀ i x, look s.fr i = some x → ∃ v, a.tmps[i]? = some v ∧ Rep x G v
  fresh : ∀ m, s.nx ≤ m → look s.hp m = none → G.box m = none ∧ G.own m = none
  fin : Fin w₀ G₀ hp₀ G s.hp w

def Post (w₀ : World) (G₀ : Gh) (hp₀ : List (Nat × Box)) (r : AV) (hp : List (Nat × Box)) (e : Ending) (w : World) : Prop :=
  ∃ v G, e = .returned v ∧ Fin w₀ G₀ hp₀ G hp w ∧ Rep r G v

/-- a call at these arguments hands r back, and the own memory hp' -/
def CallsTo (P : Program) (f : FuncId) (xs : List AV) (hp : List (Nat × Box)) (r : AV) (hp' : List (Nat × Box)) : Prop :=
  ∀ (w : World) (G : Gh) (vs : List Value), Mem G hp w → Reps xs G vs → Calls P f vs.toArray w (Post w G hp r hp')

/-- f is a function with a body -/
def Plain (P : Program) (f : FuncId) : Prop := ∀ (args : Array Value) (w : World), (callFunc f args).run P w = .ok (.enter f args) w

def renB (ρ : Nat → Option Nat) : Box → Box
  | .cells cs T => .cells (AV.rens ρ cs) T
  | .row sz enc l E => .row sz enc l E
  | .dead => .dead
/-- the new names of what a callee hands back -/
def shift (hp : List (Nat × Box)) (k : Nat) (n : Nat) : Option Nat := match look hp n with
  | some _ => some (k + n)
  | none => none
def shiftHp (ρ : Nat → Option Nat) (k : Nat) : List (Nat × Box) → List (Nat × Box)
  | [] => []
  | (n, b) :: r => (k + n, renB ρ b) :: shiftHp ρ k r
def namesLt (m : Nat) : List (Nat × Box) → Bool
  | [] => true
  | (n, _) :: r => Nat.blt n m && namesLt m r
/-- no name from lo on, below lo + 16, is in use -/
def noRange (lo : Nat) : List (Nat × Box) → Bool
  | [] => true
  | (n, _) :: r => (Nat.blt n lo || Nat.ble (lo + 16) n) && noRange lo r

/- operations that leave all memory as it is -/
def aLoad (P : Program) (s : St) (t : TypeId) (x : Operand) (d : D) : Option (List Prop × AV) :=
  match s.ev x with
  | some (.ptr b off) => match look s.hp b with
    | some (.cells cs _) => match aload P t cs off with
      | some v => some ([], v)
      | none => none
    | _ => none
  | some (.rop cs) => match aload P t cs 0 with
    | some v => some ([], v)
    | none => none
  | some (.oel k sz i off) => match look s.hp k, d with
    | some (.row sz' enc l _), .cs cs => bif Nat.beq sz sz' then match aload P t cs off with
        | some v => some ([∃ x, l[i]? = some x ∧ enc x = cs], v)
        | none => none
      else none
    | _, _ => none
  | _ => none
/-- the bounds of a slice expression, and what is left -/
def cut {α : Type} (l : List α) (lo hi : Option Int) : List Prop × List α :=
  match lo, hi with
  | none, none => ([], l)
  | some a, none => ([0 ≤ a ∧ a ≤ l.length], l.drop a.toNat)
  | none, some b => ([0 ≤ b ∧ b ≤ l.length], l.take b.toNat)
  | some a, some b => ([0 ≤ a ∧ a ≤ b ∧ b ≤ l.length], (l.drop a.toNat).take (b.toNat - a.toNat))
def evInt (s : St) : Option Operand → Option (Option Int)
  | none => some none
  | some x => match s.ev x with
    | some (.int _ n) => some (some n)
    | _ => none
def aSlice (P : Program) (s : St) (t : TypeId) (x : Operand) (lo hi mx : Option Operand) : Option (List Prop × AV) :=
  match mx, evInt s lo, evInt s hi, s.ev x with
  | none, some a, some b, some (.str l) => match P.underlying t with
    | some .string => some ((cut l a b).1, .str (cut l a b).2)
    | _ => none
  | none, some a, some b, some (.sl sz enc l) => match P.underlying t with
    | some (.slice E) => match tSize P E with
      | some sz' => bif Nat.beq sz sz' then some ((cut l a b).1, .sl sz enc (cut l a b).2) else none
      | none => none
    | _ => none
  | _, _, _, _ => none
/-- bytes to string -/
def aStr (P : Program) (s : St) (src : TypeId) (x : AV) (d : D) : Option (List Prop × AV) :=
  match P.underlying src, srcOf s x, d with
  | some (.slice E), some (flat, n), .cs [.str b] => match P.underlying E, x with
    | some (.int .u8), .str _ => none
    | some (.int .u8), _ => some ([flat = b.map AV.byte, n = b.length], .str b)
    | _, _ => none
  | _, _, _ => none
def aBuild (P : Program) (s : St) (T : TypeId) (parts : List (Nat × Operand)) : Option (List Prop × AV) :=
  match tZero P T, aparts s parts with
  | some z, some ps => match P.underlying T with
    | some (.struct fs) => match fplaces P fs.toList with
      | some places => match afill (fun i => places[i]?) z ps with
        | some cs => some ([], .agg cs)
        | none => none
      | none => none
    | some (.array _ e) => match tSize P e with
      | some sz => match afill (fun i => some (i * sz, sz)) z ps with
        | some cs => some ([], .agg cs)
        | none => none
      | none => none
    | _ => none
  | _, _ => none
def aConv (P : Program) (dst : TypeId) (x : AV) : Option (List Prop × AV) :=
  match P.underlying dst, x with
  | some (.int k), .int _ n => bif decide (k = .u8) then some ([], .byte (toU8 n)) else some ([], .int k (k.wrap n))
  | some (.int k), .byte c => bif decide (k = .u8) then some ([], .byte c) else bif decide (k = .i8) then none else some ([], .int k c.toNat)
  | some .string, .str l => some ([], .str l)
  | _, _ => none
def aField (P : Program) (t : TypeId) (x : AV) (f : Nat) : Option (List Prop × AV) :=
  match P.underlying t, x with
  | some (.struct fs), .agg cs => match fs[f]? with
    | some fd => match aload P fd.type cs fd.offset with
      | some v => some ([], v)
      | none => none
    | none => none
  | _, _ => none
def aFieldAddr (P : Program) (t : TypeId) (x : AV) (f : Nat) : Option (List Prop × AV) :=
  match P.underlying t with
  | some (.struct fs) => match fs[f]? with
    | some fd => match tSize P fd.type with
      | some sz => bif Nat.beq sz 0 then none else match x with
        | .ptr b off => some ([], .ptr b (off + fd.offset))
        | .rop cs => bif Nat.ble fd.offset cs.length then some ([], .rop (cs.drop fd.offset)) else none
        | .oel k sz i off => some ([], .oel k sz i (off + fd.offset))
        | _ => none
      | none => none
    | none => none
  | _ => none
def aIndex (P : Program) (t : TypeId) (x i : AV) (d : D) : Option (List Prop × AV) :=
  match P.underlying t, x, i, d with
  | some .string, .str b, .int _ n, .cs [.byte c] => some ([0 ≤ n ∧ b[n.toNat]? = some c], .byte c)
  | some .string, .str b, .byte n, .cs [.byte c] => some ([b[n.toNat]? = some c], .byte c)
  | some (.array len E), .agg cs, .int _ n, .cs [x] => match tAgg P E, tSize P E with
    | some false, some 1 => bif Nat.beq cs.length len then some ([0 ≤ n ∧ cs[n.toNat]? = some x], x) else none
    | _, _ => none
  | _, _, _, _ => none
def aIndexAddr (P : Program) (s : St) (t : TypeId) (x i : AV) (d : D) : Option (List Prop × AV) :=
  match P.underlying t with
  | some (.slice E) => match tSize P E, i with
    | some sz', .int _ n => match x, d with
      | .sl sz enc l, .cs cs => bif Nat.beq sz sz' then some ([0 ≤ n ∧ ∃ x, l[n.toNat]? = some x ∧ enc x = cs], .rop cs) else none
      | .own k, _ => match look s.hp k with
        | some (.row sz _ l _) => bif Nat.beq sz sz' then some ([0 ≤ n ∧ n.toNat < l.length], .oel k sz n.toNat 0) else none
        | _ => none
      | _, _ => none
    | _, _ => none
  | some (.array len E) => match tSize P E, i, x with
    | some sz, .int _ n, .ptr b off => some ([0 ≤ n ∧ n < len], .ptr b (off + n.toNat * sz))
    | _, _, _ => none
  | _ => none
def aLen (P : Program) (s : St) (t : TypeId) (x : AV) : Option (List Prop × AV) :=
  match P.underlying t, x with
  | some .string, .str b => some ([], .int .i64 b.length)
  | some (.slice _), .sl _ _ l => some ([], .int .i64 l.length)
  | some (.slice _), .own k => match look s.hp k with
    | some (.row _ _ l _) => some ([], .int .i64 l.length)
    | _ => none
  | some (.slice _), .val (.slice none 0 0) => some ([], .int .i64 0)
  | _, _ => none
def aMax (x y : AV) : Option (List Prop × AV) := match x, y with
  | .int k a, .int k' b => bif decide (k = k') then some ([], .int k (if b > a then b else a)) else none
  | _, _ => none
def aMin (x y : AV) : Option (List Prop × AV) := match x, y with
  | .int k a, .int k' b => bif decide (k = k') then some ([], .int k (if b < a then b else a)) else none
  | _, _ => none
def aval (P : Program) (s : St) (d : D) (op : Op) : Option (List Prop × AV) :=
  match op with
  | .move x => match s.ev x with
    | some v => some ([], v)
    | none => none
  | .assign x => match s.ev x with
    | some v => some ([], v)
    | none => none
  | .pick c x y => match s.ev c, d with
    | some (.bool b), .b t => match s.ev (bif t then x else y) with
      | some v => some ([b = t], v)
      | none => none
    | _, _ => none
  | .build T parts => aBuild P s T parts.toList
  | .load t x => aLoad P s t x d
  | .slice t x lo hi mx => aSlice P s t x lo hi mx
  | .binOp op t x y _ => match s.ev x, s.ev y with
    | some a, some b => abin P op t a b
    | _, _ => none
  | .unOp op _ x => match s.ev x with
    | some a => match aun op a with
      | some v => some ([], v)
      | none => none
    | none => none
  | .convert src dst x => match P.underlying src, s.ev x with
    | some _, some v => match aConv P dst v with
      | some r => some r
      | none => match P.underlying dst with
        | some .string => aStr P s src v d
        | _ => none
    | _, _ => none
  | .field t x f => match s.ev x with
    | some v => aField P t v f
    | none => none
  | .fieldAddr t x f => match s.ev x with
    | some v => aFieldAddr P t v f
    | none => none
  | .extract x i => match s.ev x with
    | some (.tup vs) => match vs[i]? with
      | some v => some ([], v)
      | none => none
    | _ => none
  | .index t x i => match s.ev x, s.ev i with
    | some v, some j => aIndex P t v j d
    | _, _ => none
  | .indexAddr t x i => match s.ev x, s.ev i with
    | some v, some j => aIndexAddr P s t v j d
    | _, _ => none
  | .makeFunc f first cap => match s.evs first.toList, s.evs cap.toList with
    | some fs, some cs => some ([], .fn f fs cs)
    | _, _ => none
  | .call { callee := .builtin .len, args, argTypes } => match args.toList, argTypes.toList with
    | [x], [t] => match s.ev x with
      | some v => aLen P s t v
      | none => none
    | _, _ => none
  | .call { callee := .builtin .max, args, argTypes := _ } => match args.toList with
    | [x, y] => match s.ev x, s.ev y with
      | some a, some b => aMax a b
      | _, _ => none
    | _ => none
  | .call { callee := .builtin .min, args, argTypes := _ } => match args.toList with
    | [x, y] => match s.ev x, s.ev y with
      | some a, some b => aMin a b
      | _, _ => none
    | _ => none
  | _ => none

/-- the element type is fit for a row of its own -/
def zeroFine (P : Program) (E : TypeId) : Bool := match P.info? E with
  | some i => match i.zero with
    | some z => Nat.beq z.cells.size i.size && Nat.blt 0 i.size && Nat.ble i.bytes 32768 && z.cells.toList.all (·.oneCell')
    | none => false
  | none => false
def notInt (P : Program) (t : TypeId) : Bool := match P.underlying t with
  | some (.int _) => false
  | some _ => true
  | none => false
/-- append: what comes behind the old cells -/
def aAppend (P : Program) (s : St) (d : D) (t t2 : TypeId) (old : List AV) (n : Nat) (y : AV) : Option (List Prop × Box) :=
  match P.underlying t, d with
  | some (.slice E), .row (.row sz enc l E') => match tSize P E, srcOf s y with
    | some sz', some (flat, m) => bif Nat.beq sz sz' && Nat.beq E E' && zeroFine P E && notInt P t2 then
        some ([l.flatMap enc = old ++ flat, l.length = n + m, ∀ x ∈ l, (enc x).length = sz, l.length ≤ rowMax], .row sz enc l E') else none
    | _, _ => none
  | _, _ => none
def aBuildSlice (P : Program) (s : St) (d : D) (t : TypeId) (len : Nat) (parts : List (Nat × Operand)) : Option (List Prop × Box) :=
  match P.underlying t, d with
  | some (.slice E), .row (.row sz enc l E') => match tSize P E, aparts s parts with
    | some sz', some ps => match afill (fun i => some (i * sz', sz')) (undefs (len * sz')) ps with
      | some cs => bif Nat.beq sz sz' && Nat.beq E E' && zeroFine P E && Nat.ble (len * sz) 16777216 && AV.ones cs then
          some ([l.flatMap enc = cs, l.length = len, ∀ x ∈ l, (enc x).length = sz, AV.rens (fun _ => none) cs = cs], .row sz enc l E') else none
      | none => none
    | _, _ => none
  | _, _ => none
/-- operations that make new memory -/
def anew (P : Program) (s : St) (d : D) (o : Oper) : Option (List Prop × AV × List (Nat × Box)) :=
  match o.op, o.dst with
  | .alloc T, some t => match tZero P T with
    | some cs => bif AV.ones cs && noRange (s.nx + 16 * t) s.hp then some ([], .ptr (s.nx + 16 * t) 0, [(s.nx + 16 * t, .cells cs T)]) else none
    | none => none
  | .box T x, some t => match s.ev x with
    | some v => bif AV.ones v.cells && noRange (s.nx + 16 * t) s.hp then some ([], .ptr (s.nx + 16 * t) 0, [(s.nx + 16 * t, .cells v.cells T)]) else none
    | none => none
  | .call { callee := .value g, args, argTypes := _ }, some t => match s.ev g, s.evs args.toList, d with
    | some (.fn (.func f) [] cap), some xs, .res b xs' r hp' => match vws b s.hp (xs ++ cap) xs' with
      | some ps => bif namesLt 16 hp' && noRange (s.nx + 16 * t) s.hp && (!b || noRef r) then
          some (Plain P f :: CallsTo P f xs' [] r hp' :: (ps ++ (bif b then noRefHp hp' else [])), AV.ren (shift hp' (s.nx + 16 * t)) r, shiftHp (shift hp' (s.nx + 16 * t)) (s.nx + 16 * t) hp') else none
      | none => none
    | _, _, _ => none
  | .call { callee := .builtin .append, args, argTypes }, some tt => match args.toList, argTypes.toList with
    | [x, y], [t, t2] => match s.ev x, s.ev y with
      | some (.val (.slice none 0 0)), some v => match aAppend P s d t t2 [] 0 v with
        | some (ps, b) => bif noRange (s.nx + 16 * tt) s.hp then some (ps, .own (s.nx + 16 * tt), [(s.nx + 16 * tt, b)]) else none
        | none => none
      | _, _ => none
    | _, _ => none
  | .buildSlice t len parts, some tt => match aBuildSlice P s d t len parts.toList with
    | some (ps, b) => bif noRange (s.nx + 16 * tt) s.hp then some (ps, .own (s.nx + 16 * tt), [(s.nx + 16 * tt, b)]) else none
    | none => none
  | .convert src dst x, some tt => match P.underlying src, P.underlying dst, s.ev x with
    | some _, some (.slice E), some (.str b) => match P.underlying E with
      | some (.int .u8) => bif noRange (s.nx + 16 * tt) s.hp then some ([b.length ≤ rowMax], .own (s.nx + 16 * tt), [(s.nx + 16 * tt, .row 1 encB b E)]) else none
      | _ => none
    | _, _, _ => none
  | _, _ => none

def aadd (P : Program) (s : St) (d : D) (o : Oper) : Option (List Prop × AV × List (Nat × Box)) :=
  match aval P s d o.op with
  | some (ps, v) => some (ps, v, [])
  | none => anew P s d o
def St.add (s : St) (dst : Option Tmp) (v : AV) (new : List (Nat × Box)) : Option St :=
  match dst with
  | none => some { s with hp := new ++ s.hp }
  | some d => bif Nat.blt d s.n then some { s with fr := (d, v) :: s.fr, hp := new ++ s.hp } else none

/-- a call of f at an own slice leaves the slice where it is, with other contents -/
def InPlace (P : Program) (f : FuncId) : Box → Box → Prop
  | .row sz enc l E, .row sz' enc' l' E' => sz' = sz ∧ E' = E ∧ l'.length = l.length ∧ (∀ x ∈ l', (enc' x).length = sz) ∧ ∀ (w : World) (G : Gh) (ad : Option Addr) (c : Nat) (us : List Value), RowAt w E sz ad l.length c us → Reps (l.flatMap enc) G.data us →
      Calls P f #[.slice ad l.length c] w fun e w' => e = .returned (.tuple #[]) ∧ ∃ us', RowAt w' E sz ad l.length c us' ∧ Reps (l'.flatMap enc') G.data us' ∧ Bel (fun b => blkOf ad = some b) w w'
  | _, _ => False
def setHp (hp : List (Nat × Box)) (n : Nat) (b : Box) : List (Nat × Box) := (n, b) :: hp

/-- operations that change own memory -/
def amod (P : Program) (s : St) (d : D) (o : Oper) : Option (List Prop × St) :=
  match o.op with
  | .store t x y => match s.ev x, s.ev y, tSize P t, o.dst with
    | some (.ptr b off), some v, some n, none => match look s.hp b with
      | some (.cells cs T) => bif Nat.beq v.cells.length n && AV.ones v.cells && Nat.ble (off + n) cs.length then
          some ([], { s with hp := setHp s.hp b (.cells (splice cs off v.cells) T) }) else none
      | _ => none
    | some (.oel k sz i off), some v, some n, none => match look s.hp k, d with
      | some (.row sz0 enc0 l0 E0), .row (.row sz1 enc l E) => bif Nat.beq v.cells.length n && AV.ones v.cells && Nat.beq sz sz0 && Nat.beq sz1 sz0 && Nat.beq E E0 then
          some ([i * sz + off + n ≤ l0.length * sz, l.flatMap enc = splice (l0.flatMap enc0) (i * sz + off) v.cells, l.length = l0.length, ∀ x ∈ l, (enc x).length = sz, AV.rens (fun _ => none) v.cells = v.cells], { s with hp := setHp s.hp k (.row sz1 enc l E) }) else none
      | _, _ => none
    | _, _, _, _ => none
  | .call { callee := .builtin .append, args, argTypes } => match args.toList, argTypes.toList, o.dst with
    | [x, y], [t, t2], some tt => match s.ev x, s.ev y with
      | some (.own k), some v => match look s.hp k with
        | some (.row sz0 enc0 l0 E0) => match aAppend P s d t t2 (l0.flatMap enc0) l0.length v with
          | some (ps, .row sz enc l E) => bif noRange (s.nx + 16 * tt) s.hp && Nat.beq sz sz0 && Nat.beq E E0 && Nat.blt tt s.n then
              some (ps, { s with fr := (tt, .own (s.nx + 16 * tt)) :: s.fr, hp := (s.nx + 16 * tt, .row sz enc l E) :: (k, .dead) :: s.hp }) else none
          | _ => none
        | _ => none
      | _, _ => none
    | _, _, _ => none
  | .call { callee := .value g, args, argTypes := _ } => match s.ev g, args.toList, d with
    | some (.fn (.func f) [] []), [x], .inp b => match s.ev x with
      | some (.own k) => match look s.hp k with
        | some (.row sz0 enc0 l0 E0) => match s.add o.dst (.val (.tuple #[])) [] with
          | some s' => some ([Plain P f, InPlace P f (.row sz0 enc0 l0 E0) b], { s' with hp := setHp s.hp k b })
          | none => none
        | _ => none
      | _ => none
    | _, _, _ => none
  | _ => none
end Go.Sym
