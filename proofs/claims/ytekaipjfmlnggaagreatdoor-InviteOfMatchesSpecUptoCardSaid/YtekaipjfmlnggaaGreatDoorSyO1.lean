/- What the claim rests on, part 1: gathered texts. -/
import Derived.Below
import Derived.Calls
import Derived.KernelRfl
import Derived.Orders
import Derived.Laws.StructEq
import Derived.Laws.Tables
import Derived.ChangeKeysEq
import Derived.Laws.Cover4
import Derived.Laws.BytesString
import Derived.Laws.BytesArg
import Derived.Laws.Append
import Derived.AtR
import Derived.Defers
set_option linter.defProp false
set_option linter.unusedSimpArgs false
set_option linter.unusedVariables false
namespace Go.Sym
def Ta{p:Prop}(h:p:=by omega):p:=h
def Tc{p:Prop}(h:p:=by kernel_rfl):p:=h
def Td{p:Prop}(h:p:=by simp;omega):p:=h
def Te{p:Prop}(h:p:=by simp):p:=h
def Tf{p:Prop}(h:p:=by decide):p:=h
def Tg{p:Prop}(h:p:=by simp[Op.operands]):p:=h
def Th{p:Prop}(h:p:=by simp only[qM,qL];omega):p:=h
def Ti{p:Prop}(h:p:=by simp only[bg,qL,qZ];omega):p:=h
def Tj{p:Prop}(h:p:=by simp only[ax,qM,qL,qZ];omega):p:=h
def Tk{p:Prop}(h:p:=by simp only[bg,qM,qL,qZ];omega):p:=h
def Tl{p:Prop}(h:p:=by simp only[bg];omega):p:=h
def Tm{p:Prop}(h:p:=by simp only[FU];omega):p:=h
def Tn{p:Prop}(h:p:=by rw[qM];omega):p:=h
def To{p:Prop}(h:p:=by simp[ax];omega):p:=h
def Tp{p:Prop}(h:p:=by simp only[maxLen];omega):p:=h
def Tq{p:Prop}(h:p:=by simp only;omega):p:=h
def Ts{p:Prop}(h:p:=by simp only[];omega):p:=h
def Tt{p:Prop}(h:p:=by simp only[qM,qL,qZ];omega):p:=h
def Tu{p:Prop}(h:p:=by simp only[qM,qL,qZ,bg];omega):p:=h
def Tv{p:Prop}(h:p:=by simp[ag.noLoop]):p:=h
def Tw{p:Prop}(h:p:=by simp[c1]):p:=h
def Tx{p:Prop}(h:p:=by simp[Op.operands,Call.operands]):p:=h
def Tz{p:Prop}(h:p:=by simp[List.map_cons,List.map_nil,B.cons,B.nil];omega):p:=h
def TA{p:Prop}(h:p:=by simp only[qL,qZ];omega):p:=h
def TB{p:Prop}(h:p:=by simp[ax]):p:=h
def TC{p:Prop}(h:p:=by simp[ng];omega):p:=h
def qI{α : Type _}(a b : α) : (some a = some b) = (a = b) := Option.some.injEq a b
def qP{α : Type _}{β : Type _}(a : α)(b : β)(c : α)(d : β) : ((a, b) = (c, d)) = (a = c ∧ b = d) := Prod.mk.injEq a b c d
def qN{n m : Nat}(h : Nat.beq n m = true) : n = m := Nat.eq_of_beq_eq_true h
def qA(a b : Bool) : ((a && b) = true) = (a = true ∧ b = true) := Bool.and_eq_true a b
def qB{α : Type _}{β : Type _}(a : α)(f : α → Option β) : (some a).bind f = f a := rfl
def qL{α : Type _}{a : α}{l : List α} : (a :: l).length = l.length + 1 := rfl
def qM{α : Type _}{a b : List α} : (a ++ b).length = a.length + b.length := List.length_append
def qZ{α : Type _} : ([] : List α).length = 0 := rfl
def qS{α : Type _}(a b c : List α) : a ++ b ++ c = a ++ (b ++ c) := List.append_assoc a b c
def qE{α : Type _}{a : α}(b : α){l : List α}(h : a ∈ l) : a ∈ b :: l := List.mem_cons_of_mem b h
def qH{α : Type _}{a : α}{l : List α} : a ∈ a :: l := List.mem_cons_self
def qJ{α : Type _}{a b : α}(h : some a = some b) : a = b := Option.some.inj h
def qW{c : Prop}{h : Decidable c}(a : ¬c:=by first|omega|simp;done|simp;omega){α : Sort _}{t e : α} : ite c t e = e := if_neg a
def qX{c : Prop}{h : Decidable c}(a : c:=by first|omega|simp;done|simp;omega){α : Sort _}{t e : α} : ite c t e = t := if_pos a
def qY(n : Nat) : ((n : Int)).toNat = n := Int.toNat_natCast n
def wA{α : Type _}{a : α}{s t : List α} : a ∈ s ++ t ↔ a ∈ s ∨ a ∈ t := List.mem_append
def wC{α : Type _}{β : Type _}{a : List α}(f : α → β) : (a.map f).length = a.length := List.length_map f
def wD{α : Type _}{a : α} : [a].length = 1 := rfl
def wE{α : Type _}{a b : α}{l : List α} : a ∈ b :: l ↔ a = b ∨ a ∈ l := List.mem_cons
def wF(n : Nat) : n ≤ n := Nat.le_refl n
def wJ : (false = true) = False := Bool.false_eq_true
def wK{α : Type _}{a : α}{b bs : List α} : (a :: b) ++ bs = a :: (b ++ bs) := rfl
def wM{α : Type _}{x : α}{a : List α} : [x] ++ a = x :: a := rfl
def wO(n : Nat) : 0 + n = n := Nat.zero_add n
def wQ{α : Type _}{β : Type _}{x : α}{f : α → β} : (some x).map f = some (f x) := rfl
def qT{α : Sort _}(a b : α) : cond true a b = a := rfl
def qF{α : Sort _}(a b : α) : cond false a b = b := rfl
open Go.RowKit
inductive Tree(α:Type):Type
 |node (a:α) (l:List (Tree α))
def Tree.val{α:Type}:Tree α->α|.node a _=>a
def Tree.kids{α:Type}:Tree α->List (Tree α)|.node _ l=>l
inductive Ty:Type
 |int (k:IntKind)
 |byte
 |bool
 |str
 |unit
 |prod (a b:Ty)
 |list (a:Ty)
 |tree (a:Ty)
def Ty.den:Ty->Type|.int _=>Int|.byte=>UInt8|.bool=>Bool|.str=>List UInt8|.unit=>Unit|.prod a b=>a.den×b.den|.list a=>List a.den|.tree a=>Tree a.den
def Ty.sz:Ty->Nat|.unit=>0|.prod a b=>a.sz+b.sz|.tree a=>a.sz+1|_=>1
def Ty.eq? : (a b:Ty)->Option (PLift (a=b))
 |.int k,.int k'=>if h:k=k' then some ⟨by rw[h]⟩ else none|.byte,.byte=>some ⟨rfl⟩|.bool,.bool=>some ⟨rfl⟩|.str,.str=>some ⟨rfl⟩|.unit,.unit=>some ⟨rfl⟩|.prod a b,.prod a' b'=>match Ty.eq? a a',Ty.eq? b b' with|some ⟨h⟩,some ⟨c⟩=>some ⟨by rw[h,c]⟩|_,_=>none
 |.list a,.list a'=>match Ty.eq? a a' with|some ⟨h⟩=>some ⟨by rw[h]⟩|none=>none
 |.tree a,.tree a'=>match Ty.eq? a a' with|some ⟨h⟩=>some ⟨by rw[h]⟩|none=>none
 |_,_=>none
inductive AV:Type
 |undef
 |int (k:IntKind) (n:Int)
 |byte (c:UInt8)
 |bool (b:Bool)
 |str (s:List UInt8)
 |sl (τ:Ty) (l:List τ.den)
 |agg (cs:List AV)
 |tup (vs:List AV)
 |ptr (b off:Nat)
 |rop (cs:List AV)
 |own (k:Nat)
 |oel (k sz i off:Nat)
 |osl (k sz lo:Nat)
 |asl (b n c:Nat)
 |arr (τ:Ty) (l:List τ.den)
 |val (v:Value)
 |fn (f:Fn) (first cap:List AV)
 |iface (t:TypeId) (x:AV)
 |yld (n:Nat)
 |pn (n:Nat)
def Ty.enc:(τ:Ty)->τ.den->List AV|.int k,n=>[.int k n]|.byte,c=>[.byte c]|.bool,b=>[.bool b]|.str,s=>[.str s]|.unit,_=>[]|.prod a b,x=>a.enc x.1++b.enc x.2|.list a,l=>[.sl a l]|.tree a,x=>a.enc x.val++[.sl (.tree a) x.kids]
def Ty.enc_length:∀(τ:Ty)(x:τ.den),(τ.enc x).length=τ.sz|.int _,_=>rfl|.byte,_=>rfl|.bool,_=>rfl|.str,_=>rfl|.unit,_=>rfl|.prod a b,x=>by simp[Ty.enc,Ty.sz,Ty.enc_length a,Ty.enc_length b]|.list _,_=>rfl|.tree a,x=>by simp[Ty.enc,Ty.sz,Ty.enc_length a]
structure Gh where
 imm:Nat->Nat->Option Value
 box:Nat->Option Nat
 own:Nat->Option (Option Addr×Nat×Nat)
def Gh.data(G:Gh):Gh:={ imm:=G.imm,box:=fun _=>none,own:=fun _=>none }
@[simp] def Gh.data_data(G:Gh):G.data.data=G.data:=rfl
@[simp] def Gh.data_imm(G:Gh):G.data.imm=G.imm:=rfl
def pu{α:Type}(sz:Nat)(D:α->Nat->Nat->Prop)(l:List α)(v:Value):Prop:=
 ∃a c,v = .slice a l.length c/\l.length<=c/\(l=[]\/∃b o,a=some ⟨b,o,none⟩/\∀(j:Nat)(x:α),l[j]? = some x->D x b (o+j*sz))
inductive Jp{α:Type}(m:Nat->Nat->Option Value)(sz:Nat)(D:α->Nat->Nat->Prop):Tree α->Nat->Nat->Prop
 |mk (a:α) (l:List (Tree α)) (b o:Nat) (ad:Option Addr) (c b' o':Nat):D a b o->m b (o+sz)=some (.slice ad l.length c)->l.length<=c ->
   (l≠[]->ad=some ⟨b',o',none⟩)->(∀(j:Nat)(x:Tree α),l[j]? = some x->Jp m sz D x b' (o'+j*(sz+1)))->Jp m sz D (.node a l) b o
def Ty.At(m:Nat->Nat->Option Value):(τ:Ty)->τ.den->Nat->Nat->Prop|.int k,n,b,o=>m b o=some (.int k n)|.byte,c,b,o=>m b o=some (.int .u8 (c.toNat:Int))|.bool,x,b,o=>m b o=some (.bool x)|.str,s,b,o=>m b o=some (.string ⟨s.toArray⟩)|.unit,_,_,_=>True|.prod x y,p,b,o=>x.At m p.1 b o/\y.At m p.2 b (o+x.sz)|.list x,l,b,o=>∃v,m b o=some v/\pu x.sz (x.At m) l v|.tree x,t,b,o=>Jp m x.sz (x.At m) t b o
def Ty.At.mono{m m':Nat->Nat->Option Value}(h:∀b o v,m b o=some v->m' b o=some v):∀{τ:Ty}{x:τ.den}{b o:Nat},τ.At m x b o->τ.At m' x b o
 |.int _,_,_,_,k=>h _ _ _ k|.byte,_,_,_,k=>h _ _ _ k|.bool,_,_,_,k=>h _ _ _ k|.str,_,_,_,k=>h _ _ _ k|.unit,_,_,_,_=>trivial|.prod _ _,_,_,_,⟨d,f⟩=>⟨Ty.At.mono h d,Ty.At.mono h f⟩|.list x,l,_,_,⟨v,d,a,c,f,g,i⟩=>⟨v,h _ _ _ d,a,c,f,g,i.imp id fun⟨b,o,e,k⟩=>⟨b,o,e,fun j y n=>Ty.At.mono h (k j y n)⟩⟩
 |.tree x,t,b,o,k=>by
  simp only[Ty.At]at k ⊢
  induction k with|mk a l b o ad c b' o' d f g i _ ih=>exact .mk a l b o ad c b' o' (Ty.At.mono h d) (h _ _ _ f) g i ih
def Ty.V1(m:Nat->Nat->Option Value):(τ:Ty)->τ.den->Value->Prop|.int k,n,v=>v = .int k n|.byte,c,v=>v = .int .u8 (c.toNat:Int)|.bool,b,v=>v = .bool b|.str,s,v=>v = .string ⟨s.toArray⟩|.list x,l,v=>pu x.sz (x.At m) l v|_,_,_=>False
def Ty.V1.mono{m m':Nat->Nat->Option Value}(h:∀b o v,m b o=some v->m' b o=some v):∀{τ:Ty}{x:τ.den}{v:Value},τ.V1 m x v->τ.V1 m' x v|.int _,_,_,k=>k|.byte,_,_,k=>k|.bool,_,_,k=>k|.str,_,_,k=>k|.list _x,_,_,⟨a,c,d,f,g⟩=>⟨a,c,d,f,g.imp id fun⟨b,o,e,k⟩=>⟨b,o,e,fun j y i=>Ty.At.mono h (k j y i)⟩⟩
mutual
def ai:AV->Gh->Value->Prop
 |.undef,_,_=>True|.int k n,_,v=>v = .int k n|.byte c,_,v=>v = .int .u8 c.toNat|.bool b,_,v=>v = .bool b|.str s,_,v=>v = .string ⟨s.toArray⟩|.sl τ l,G,v=>pu τ.sz (τ.At G.imm) l v|.agg cs,G,v=>∃vs,v = .agg vs/\ao cs G vs.toList|.tup cs,G,v=>∃vs,v = .tuple vs/\ao cs G vs.toList|.ptr b off,G,v=>∃B,G.box b=some B/\v = .pointer (some ⟨B,off,none⟩)|.rop cs,G,v=>∃b o,v = .pointer (some ⟨b,o,none⟩)/\de cs G b o|.own k,G,v=>∃a n c,G.own k=some (a,n,c)/\v = .slice a n c|.oel k sz i off,G,v=>∃b n c,G.own k=some (some ⟨b,0,none⟩,n,c)/\v = .pointer (some ⟨b,i*sz+off,none⟩)|.osl k sz lo,G,v=>∃b n c,G.own k=some (some ⟨b,0,none⟩,n,c)/\lo<n/\v = .slice (some ⟨b,lo*sz,none⟩) (n-lo) (c-lo)|.asl k n c,G,v=>∃B,G.box k=some B/\n<=c/\v = .slice (some ⟨B,0,none⟩) n c|.arr τ l,G,v=>∃vs:Array Value,v = .agg vs/\vs.size=l.length/\∀(j:Nat)(x:τ.den),l[j]? = some x->∃u,vs[j]? = some u/\τ.V1 G.imm x u|.val u,_,v=>v=u|.fn f first cap,G,v=>∃d cs,v = .func f d cs/\ao first G d.toList/\ao cap G cs.toList
 |.iface t x,G,v=>∃u,v = .iface t u/\ai x G u|.yld n,G,v=>∃B,G.box n=some B/\v = .func (.yield B) #[] #[]|.pn n,G,v=>∃B,G.box n=some B/\(v = .pointer none\/v = .pointer (some ⟨B,0,none⟩))
def ao:List AV->Gh->List Value->Prop|[],_,[]=>True|x::xs,G,v::vs=>ai x G v/\ao xs G vs|_,_,_=>False
def de:List AV->Gh->Nat->Nat->Prop|[],_,_,_=>True|x::xs,G,b,o=>(∃u,G.imm b o=some u/\ai x G.data u)/\de xs G b (o+1)
end
def de.append{G:Gh}:∀{xs a:List AV}{b o:Nat},de xs G b o->de a G b (o+xs.length)->de (xs++a) G b o|[],_,_,_,_,h=>h|_::xs,_,b,o,h,k=>⟨h.1,de.append h.2 (by rw[qL]at k;rw[show o+1+xs.length=o+(xs.length+1) by omega];exact k)⟩
def de.of_append{G:Gh}:∀{xs a:List AV}{b o:Nat},de (xs++a) G b o->de xs G b o/\de a G b (o+xs.length)
 |[],_,_,_,h=>⟨trivial,h⟩|_::xs,_,b,o,h=>by
  obtain⟨c,d⟩:=de.of_append (xs:=xs) h.2;exact⟨⟨h.1,c⟩,by rw[qL,show o+(xs.length+1)=o+1+xs.length by omega];exact d⟩
def qgj{m:Nat->Nat->Option Value}{x:Ty}{t:Tree x.den}{b o:Nat}:(Ty.tree x).At m t b o↔x.At m t.val b o/\∃v,m b (o+x.sz)=some v/\pu (Ty.tree x).sz ((Ty.tree x).At m) t.kids v:=by
 constructor
 ·intro h;simp only[Ty.At]at h
  cases h with
  |mk a l _ _ f c g i k1 k2 k3 k4 k5=>
   refine⟨k1,_,k2,f,c,rfl,k3,?_⟩;by_cases q:l=[]
   ·exact .inl q
   ·exact .inr ⟨g,i,k4 q,k5⟩
 ·rintro⟨k,v,n,f,c,rfl,p,d⟩
  cases t with
  |node a l=>
   simp only[Ty.At];simp only[Tree.kids]at *;rcases d with d|⟨g,i,e,d⟩
   ·subst d;exact .mk a [] b o f c 0 0 k n p (fun h=>absurd rfl h) (fun j x r=>by simp at r)
   ·exact .mk a l b o f c g i k n p (fun _=>e) d
def xu{G:Gh}:∀{τ:Ty}{x:τ.den}{b o:Nat},de (τ.enc x) G b o↔τ.At G.imm x b o
 |.int _,_,_,_=>by simp[Ty.enc,de,ai,Ty.At]|.byte,_,_,_=>by simp[Ty.enc,de,ai,Ty.At]|.bool,_,_,_=>by simp[Ty.enc,de,ai,Ty.At]|.str,_,_,_=>by simp[Ty.enc,de,ai,Ty.At]|.unit,_,_,_=>by simp[Ty.enc,de,Ty.At]|.prod a c,x,b,o=>by
  simp only[Ty.enc,Ty.At];rw[← xu (τ:=a),← xu (τ:=c),← Ty.enc_length a x.1];exact⟨de.of_append,fun h=>de.append h.1 h.2⟩
 |.list a,l,b,o=>by simp[Ty.enc,de,ai,Ty.At]|.tree a,t,b,o=>by
  refine Iff.trans ?_ (qgj (x:=a) (t:=t)).symm;rw[← xu (τ:=a),← Ty.enc_length a (Tree.val t)];simp only[Ty.enc];constructor
  ·intro h;obtain⟨d,⟨v,e,f⟩,_⟩:=de.of_append h;exact⟨d,v,e,f⟩
  ·rintro⟨d,v,e,f⟩
   exact de.append d ⟨⟨v,e,f⟩,trivial⟩
structure Gh.le(G G':Gh):Prop where
 imm:∀b o v,G.imm b o=some v->G'.imm b o=some v
 box:∀n B,G.box n=some B->G'.box n=some B
 own:∀n s,G.own n=some s->G'.own n=some s
def Gh.le.refl(G:Gh):G.le G:=⟨fun _ _ _ h=>h,fun _ _ h=>h,fun _ _ h=>h⟩
def Gh.le.trans{G G' a:Gh}(h:G.le G')(k:G'.le a):G.le a:=
 ⟨fun _ _ _ x=>k.imm _ _ _ (h.imm _ _ _ x),fun _ _ x=>k.box _ _ (h.box _ _ x),fun _ _ x=>k.own _ _ (h.own _ _ x)⟩
def Gh.le.data{G G':Gh}(h:G.le G'):G.data.le G'.data:=⟨h.imm,fun _ _ x=>(by cases x),fun _ _ x=>(by cases x)⟩
def pu.mono{α:Type}{sz:Nat}{D d:α->Nat->Nat->Prop}(h:∀x b o,D x b o->d x b o){l:List α}{v:Value}:pu sz D l v->pu sz d l v:=
 fun⟨a,c,f,g,i⟩=>⟨a,c,f,g,i.imp id fun⟨b,o,e,k⟩=>⟨b,o,e,fun j x m=>h _ _ _ (k j x m)⟩⟩
mutual
def AV.ren(ρ:Nat->Option Nat):AV->AV
 |.agg cs => .agg (AV.rens ρ cs)|.tup cs => .tup (AV.rens ρ cs)|.ptr b off=>match ρ b with|some b' => .ptr b' off|none => .undef
 |.own k=>match ρ k with|some k' => .own k'|none => .undef
 |.oel k sz i off=>match ρ k with|some k' => .oel k' sz i off|none => .undef
 |.osl k sz lo=>match ρ k with|some k' => .osl k' sz lo|none => .undef
 |.asl k n c=>match ρ k with|some k' => .asl k' n c|none => .undef
 |.yld n=>match ρ n with|some n' => .yld n'|none => .undef
 |.pn n=>match ρ n with|some n' => .pn n'|none => .undef
 |.fn f first cap => .fn f (AV.rens ρ first) (AV.rens ρ cap)
 |.iface t x => .iface t (AV.ren ρ x)|.undef => .undef | .int k n => .int k n | .byte c => .byte c | .bool b => .bool b | .str s => .str s | .sl τ l => .sl τ l | .arr τ l => .arr τ l | .rop cs => .rop cs | .val v => .val v
def AV.rens(ρ:Nat->Option Nat):List AV->List AV|[]=>[]|x::xs=>AV.ren ρ x::AV.rens ρ xs
end
def AV.rens_append(ρ:Nat->Option Nat):∀(xs a:List AV),AV.rens ρ (xs++a)=AV.rens ρ xs++AV.rens ρ a|[],_=>rfl|x::xs,a=>by simp[AV.rens,AV.rens_append ρ xs a]
def Ty.enc_ren(ρ:Nat->Option Nat):∀(τ:Ty)(x:τ.den),AV.rens ρ (τ.enc x)=τ.enc x|.int _,_=>rfl|.byte,_=>rfl|.bool,_=>rfl|.str,_=>rfl|.unit,_=>rfl|.prod a b,x=>by simp[Ty.enc,AV.rens_append,Ty.enc_ren ρ a,Ty.enc_ren ρ b]|.list _,_=>rfl|.tree a,x=>by simp[Ty.enc,AV.rens_append,Ty.enc_ren ρ a,AV.rens,AV.ren]
def ao.length:∀{xs:List AV}{G:Gh}{vs:List Value},ao xs G vs->xs.length=vs.length|[],_,[],_=>rfl|_::xs,_,_::vs,h=>by simp[ao.length (xs:=xs) (vs:=vs) h.2]|[],_,_::_,h=>h.elim|_::_,_,[],h=>h.elim
mutual
def ai.ren{ρ:Nat->Option Nat}:∀{x:AV}{G G':Gh}{v:Value},(∀b o v,G.imm b o=some v->G'.imm b o=some v) ->
  (∀n p B,ρ n=some p->G.box n=some B->G'.box p=some B)->(∀n p s,ρ n=some p->G.own n=some s->G'.own p=some s)->ai x G v->ai (x.ren ρ) G' v
 |.undef,_,_,_,_,_,_,_=>trivial|.int _ _,_,_,_,_,_,_,h=>h|.byte _,_,_,_,_,_,_,h=>h|.bool _,_,_,_,_,_,_,h=>h|.str _,_,_,_,_,_,_,h=>h|.val _,_,_,_,_,_,_,h=>h|.sl τ l,G,G',v,hi,_,_,h=>pu.mono (fun x b o=>Ty.At.mono hi) h
 |.agg cs,G,G',v,hi,hb,ho,h=>by
   obtain⟨vs,d,e⟩:=h;exact⟨vs,d,ao.ren hi hb ho e⟩
 |.tup cs,G,G',v,hi,hb,ho,h=>by
   obtain⟨vs,d,e⟩:=h;exact⟨vs,d,ao.ren hi hb ho e⟩
 |.ptr b off,G,G',v,hi,hb,ho,h=>by
   obtain⟨B,d,e⟩:=h;simp only[AV.ren]
   cases g:ρ b with|none=>trivial|some b'=>exact⟨B,hb _ _ _ g d,e⟩
 |.yld b,G,G',v,hi,hb,ho,h=>by
   obtain⟨B,d,e⟩:=h;simp only[AV.ren]
   cases g:ρ b with|none=>trivial|some b'=>exact⟨B,hb _ _ _ g d,e⟩
 |.pn b,G,G',v,hi,hb,ho,h=>by
   obtain⟨B,d,e⟩:=h;simp only[AV.ren]
   cases g:ρ b with|none=>trivial|some b'=>exact⟨B,hb _ _ _ g d,e⟩
 |.rop cs,G,G',v,hi,_,_,h=>by
   obtain⟨b,o,d,e⟩:=h;exact⟨b,o,d,de.le hi e⟩
 |.own k,G,G',v,hi,hb,ho,h=>by
   obtain⟨a,n,c,d,e⟩:=h;simp only[AV.ren]
   cases g:ρ k with|none=>trivial|some b'=>exact⟨a,n,c,ho _ _ _ g d,e⟩
 |.oel k sz i off,G,G',v,hi,hb,ho,h=>by
   obtain⟨b,n,c,d,e⟩:=h;simp only[AV.ren]
   cases g:ρ k with|none=>trivial|some b'=>exact⟨b,n,c,ho _ _ _ g d,e⟩
 |.osl k sz lo,G,G',v,hi,hb,ho,h=>by
   obtain⟨b,n,c,d,e,m⟩:=h;simp only[AV.ren]
   cases g:ρ k with|none=>trivial|some b'=>exact⟨b,n,c,ho _ _ _ g d,e,m⟩
 |.asl k n c,G,G',v,hi,hb,ho,h=>by
   obtain⟨B,d,e⟩:=h;simp only[AV.ren]
   cases g:ρ k with|none=>trivial|some b'=>exact⟨B,hb _ _ _ g d,e⟩
 |.arr τ l,G,G',v,hi,_,_,h=>by
   obtain⟨vs,d,e,m⟩:=h;exact⟨vs,d,e,fun j x r=>by obtain⟨u,w,y⟩:=m j x r;exact⟨u,w,y.mono hi⟩⟩
 |.fn f first cap,G,G',v,hi,hb,ho,h=>by
   obtain⟨q,cs,d,e,m⟩:=h;exact⟨q,cs,d,ao.ren hi hb ho e,ao.ren hi hb ho m⟩
 |.iface t x,G,G',v,hi,hb,ho,h=>by
   obtain⟨u,d,e⟩:=h;exact⟨u,d,ai.ren hi hb ho e⟩
def ao.ren{ρ:Nat->Option Nat}:∀{xs:List AV}{G G':Gh}{vs:List Value},(∀b o v,G.imm b o=some v->G'.imm b o=some v) ->
  (∀n a B,ρ n=some a->G.box n=some B->G'.box a=some B)->(∀n a s,ρ n=some a->G.own n=some s->G'.own a=some s)->ao xs G vs->ao (AV.rens ρ xs) G' vs
 |[],_,_,[],_,_,_,_=>trivial|_x::_xs,_G,_G',_v::_vs,hi,hb,ho,h=>⟨ai.ren hi hb ho h.1,ao.ren hi hb ho h.2⟩|[],_,_,_::_,_,_,_,h=>h.elim|_::_,_,_,[],_,_,_,h=>h.elim
def de.le:∀{xs:List AV}{G G':Gh}{b o:Nat},(∀b o v,G.imm b o=some v->G'.imm b o=some v)->de xs G b o->de xs G' b o|[],_,_,_,_,_,_=>trivial|_x::_xs,_G,_G',_b,_o,hi,⟨⟨u,a,c⟩,d⟩=>⟨⟨u,hi _ _ _ a,ai.data_le hi c⟩,de.le hi d⟩
def ai.data_le:∀{x:AV}{G G':Gh}{v:Value},(∀b o v,G.imm b o=some v->G'.imm b o=some v)->ai x G.data v->ai x G'.data v
 |.undef,_,_,_,_,_=>trivial|.int _ _,_,_,_,_,h=>h|.byte _,_,_,_,_,h=>h|.bool _,_,_,_,_,h=>h|.str _,_,_,_,_,h=>h|.val _,_,_,_,_,h=>h|.sl τ l,G,G',v,hi,h=>pu.mono (fun x b o=>Ty.At.mono (m:=G.imm) (m':=G'.imm) hi) h
 |.agg cs,G,G',v,hi,h=>by
   obtain⟨vs,d,e⟩:=h;exact⟨vs,d,ao.data_le hi e⟩
 |.tup cs,G,G',v,hi,h=>by
   obtain⟨vs,d,e⟩:=h;exact⟨vs,d,ao.data_le hi e⟩
 |.ptr b off,G,G',v,hi,h=>by
   obtain⟨B,d,e⟩:=h;cases d
 |.yld b,G,G',v,hi,h=>by
   obtain⟨B,d,e⟩:=h;cases d
 |.pn b,G,G',v,hi,h=>by
   obtain⟨B,d,e⟩:=h;cases d
 |.rop cs,G,G',v,hi,h=>by
   obtain⟨b,o,d,e⟩:=h;exact⟨b,o,d,de.le (G:=G.data) (G':=G'.data) hi e⟩
 |.own k,G,G',v,hi,h=>by
   obtain⟨a,n,c,d,e⟩:=h;cases d
 |.oel k sz i off,G,G',v,hi,h=>by
   obtain⟨b,n,c,d,e⟩:=h;cases d
 |.osl k sz lo,G,G',v,hi,h=>by
   obtain⟨b,n,c,d,_⟩:=h;cases d
 |.asl k n c,G,G',v,hi,h=>by
   obtain⟨B,d,_⟩:=h;cases d
 |.arr τ l,G,G',v,hi,h=>by
   obtain⟨vs,d,e,g⟩:=h;exact⟨vs,d,e,fun j x q=>by obtain⟨u,r,s⟩:=g j x q;exact⟨u,r,s.mono hi⟩⟩
 |.fn f first cap,G,G',v,hi,h=>by
   obtain⟨p,cs,d,e,g⟩:=h;exact⟨p,cs,d,ao.data_le hi e,ao.data_le hi g⟩
 |.iface t x,G,G',v,hi,h=>by
   obtain⟨u,d,e⟩:=h;exact⟨u,d,ai.data_le hi e⟩
def ao.data_le:∀{xs:List AV}{G G':Gh}{vs:List Value},(∀b o v,G.imm b o=some v->G'.imm b o=some v)->ao xs G.data vs->ao xs G'.data vs|[],_,_,[],_,_=>trivial|_x::_xs,_G,_G',_v::_vs,hi,h=>⟨ai.data_le hi h.1,ao.data_le hi h.2⟩|[],_,_,_::_,_,h=>h.elim|_::_,_,_,[],_,h=>h.elim
end
mutual
def AV.ren_some:∀(x:AV),AV.ren some x=x|.agg cs=>by rw[AV.ren,AV.rens_some]|.tup cs=>by rw[AV.ren,AV.rens_some]|.ptr _ _=>rfl|.own _=>rfl|.oel _ _ _ _=>rfl|.osl _ _ _=>rfl|.asl _ _ _=>rfl|.yld _=>rfl|.pn _=>rfl|.fn _ _ _=>by rw[AV.ren,AV.rens_some,AV.rens_some]|.iface _ x=>by rw[AV.ren,AV.ren_some]|.undef=>rfl | .int _ _=>rfl | .byte _=>rfl | .bool _=>rfl | .str _=>rfl | .sl _ _=>rfl | .arr _ _=>rfl | .rop _=>rfl | .val _=>rfl
def AV.rens_some:∀(xs:List AV),AV.rens some xs=xs|[]=>rfl|x::xs=>by rw[AV.rens,AV.ren_some,AV.rens_some]
end
end Go.Sym
namespace Go.Sym
inductive er:Type
 |ret
 |exit (id:Nat)
def er.code:er->Code|.ret => .ret|.exit id => .exit id
class LC where
 lc:Nat->Option (Code×Code)
 glob:Nat->Option ((τ:Ty)×List τ.den)
 ints:List Nat
 ifs:List Nat
 sizes:List (Nat×Nat)
 base:List Deferred
class HB where
 b:List Deferred
instance:HB:=⟨[]⟩
structure LC.Same(L L':LC):Prop where
 lc:L'.lc=L.lc
 glob:L'.glob=L.glob
 ints:L'.ints=L.ints
 ifs:L'.ifs=L.ifs
 sizes:L'.sizes=L.sizes
def LC.tab[LC](m:Nat->Nat->Option Value)(w:World):Prop:=
 (∀g τ l,LC.glob g=some ⟨τ,l⟩->∀(j:Nat)(x:τ.den),l[j]? = some x->τ.At m x g (j*τ.sz)) /\
 (∀g∈LC.ints,∃k,m g 0=some (.int .i64 k))/\(∀g∈LC.ifs,∃t v,m g 0=some (.iface t v)) /\
 ∀e∈LC.sizes,(∃o v,m e.1 o=some v)/\∃a t b,w.heap[e.1]? = some (.cells a t b)/\a.size=e.2
def LC.mix[LC]{m n i:Nat->Nat->Option Value}{w w':World}(h:∀b o v,m b o=some v->i b o=some v)(t:LC.tab m w)(p:LC.tab n w'):LC.tab i w':=
 ⟨fun g τ l a j x k=>Ty.At.mono h (t.1 g τ l a j x k),fun g a=>(t.2.1 g a).imp fun _ c=>h _ _ _ c,fun g a=>(t.2.2.1 g a).imp fun _ d=>d.imp fun _ c=>h _ _ _ c,
  fun e f=>⟨(t.2.2.2 e f).1.imp fun _ d=>d.imp fun _ c=>h _ _ _ c,(p.2.2.2 e f).2⟩⟩
def LC.mono[LC]{m m':Nat->Nat->Option Value}{w w':World}(h:∀b o v,m b o=some v->m' b o=some v)(k:∀b o v,m b o=some v->w'.heap[b]? = w.heap[b]?)(t:LC.tab m w):LC.tab m' w':=
 ⟨fun g τ l a j x n=>Ty.At.mono h (t.1 g τ l a j x n),fun g a=>(t.2.1 g a).imp fun _ d=>h _ _ _ d,fun g a=>(t.2.2.1 g a).imp fun _ c=>c.imp fun _ d=>h _ _ _ d,
  fun e i=>by
   obtain⟨⟨o,v,c⟩,f⟩:=t.2.2.2 e i;exact⟨⟨o,v,h _ _ _ c⟩,by rw[k _ _ _ c];exact f⟩⟩
inductive ag:Type
 |cells (cs:List AV) (T:TypeId)
 |row (τ:Ty) (l:List τ.den) (E:TypeId)
 |loop (st:LoopState) (pend:Option er) (f:FuncId) (n:Nat) (fr:List (Nat×AV)) (ps:List Tmp) (tag:Nat) (D:Nat)
 |dfr
 |it (s:List UInt8) (pos:Nat)
 |dead
def af{β:Type}:List (Nat×β)->Nat->Option β|[],_=>none|(k,v)::r,i=>bif Nat.beq k i then some v else af r i
structure St:Type where
 n:Nat
 fr:List (Nat×AV)
 hp:List (Nat×ag)
 nx:Nat
 df:List Nat
inductive D:Type
 |none
 |b (d:Bool)
 |cs (x:List AV)
 |row (b:ag)
 |put (ys:List AV) (b:ag)
 |mem (names:List (Nat×Nat)) (xs:List AV) (hp:List (Nat×ag)) (r:AV) (hp':List (Nat×ag))
 |res (b:Bool) (xs:List AV) (r:AV) (hp:List (Nat×ag))
def ay:List Prop->Prop|[]=>True|p::ps=>p/\ay ps
def pb:Value->AV|.bool b => .bool b|.int .u8 n=>bif decide (0<=n)&&decide (n<256) then .byte (UInt8.ofNat n.toNat) else .val (.int .u8 n)|.int k n => .int k n|.string s => .str s.data.toList|v => .val v
def nW:List Value->List AV|[]=>[]|v::vs=>pb v::nW vs
def AV.one:AV->Bool
 |.undef | .agg _ | .tup _ | .val _ | .arr _ _=>false
 |_=>true
def Value.one:Value->Bool
 |.agg _ | .tuple _=>false
 |_=>true
def AV.one':AV->Bool
 |.undef | .agg _ | .tup _ | .arr _ _=>false
 |.val v=>Value.one v|_=>true
def AV.ones:List AV->Bool|[]=>true|x::xs=>x.one'&&AV.ones xs
def AV.cells:AV->List AV|.agg cs=>cs|x=>[x]
def S5:Value->AV|.int k n => .val (.int k n)|.bool b => .val (.bool b)|v=>pb v
def AV.sym:AV->AV|.val v=>pb v|x=>x
def Kd:AV->AV|.int k n => .val (.int k n)|.byte c => .val (.int .u8 c.toNat)|.bool b => .val (.bool b)|x=>x
def St.ev(s:St):Operand->Option AV|.tmp t=>af s.fr t|.const v=>some (S5 v)|.func f=>some (.fn (.func f) [] [])|.global _=>none
def St.evy(s:St)(x:Operand):Option AV:=match s.ev x with|some v=>some v.sym|none=>none
def St.evs(s:St):List Operand->Option (List AV)
 |[]=>some []|x::xs=>match s.ev x with
  |none=>none|some v=>match s.evs xs with|none=>none|some vs=>some (v::vs)
def St.put(s:St)(dst:Option Tmp)(x:AV):Option St:=
 match dst with|none=>some s|some d=>bif Nat.blt d s.n then some { s with fr:=(d,x)::s.fr } else none
def dM(c:UInt8)(n:Nat):UInt8:=UInt8.ofNat (c.toNat*2 ^ n)
def Fm(c:UInt8)(n:Nat):UInt8:=UInt8.ofNat (c.toNat/2 ^ n)
def kw(n:Int):UInt8:=UInt8.ofNat (n%256).toNat
def lZ(c:BinOp)(k:IntKind)(a b:Int):Option (List Prop×AV):=
 match c with
 |.add=>some ([],.int k (k.wrap (a+b)))|.sub=>some ([],.int k (k.wrap (a-b)))|.mul=>some ([],.int k (k.wrap (a*b)))|.quo=>some ([b≠0],.int k (k.wrap (a.tdiv b)))|.rem=>some ([b≠0],.int k (a.tmod b))|.and=>some ([],.int k (k.wrap (BitVec.ofInt k.bits a&&&BitVec.ofInt k.bits b).toNat))|.or=>some ([],.int k (k.wrap (BitVec.ofInt k.bits a|||BitVec.ofInt k.bits b).toNat))
 |.xor=>some ([],.int k (k.wrap (BitVec.ofInt k.bits a ^^^ BitVec.ofInt k.bits b).toNat))|.andNot=>some ([],.int k (k.wrap (BitVec.ofInt k.bits a &&& ~~~ BitVec.ofInt k.bits b).toNat))|.eql=>some ([],.bool (a==b))|.neq=>some ([],.bool (a != b))|.lss=>some ([],.bool (decide (a<b)))|.leq=>some ([],.bool (decide (a<=b)))|.gtr=>some ([],.bool (decide (b<a)))|.geq=>some ([],.bool (decide (b<=a)))|.shl=>some ([0<=b],.int k (k.wrap (a*2 ^ min b.toNat k.bits)))|.shr=>some ([0<=b],.int k (a.fdiv (2 ^ min b.toNat k.bits)))
def Dh(c:BinOp)(a b:UInt8):Option (List Prop×AV):=
 match c with
 |.add=>some ([],.byte (a+b))|.sub=>some ([],.byte (a-b))|.mul=>some ([],.byte (a*b))|.quo=>some ([b≠0],.byte (a/b))|.rem=>some ([b≠0],.byte (a%b))|.and=>some ([],.byte (a&&&b))|.or=>some ([],.byte (a|||b))
 |.xor=>some ([],.byte (a ^^^ b))|.eql=>some ([],.bool (a==b))|.neq=>some ([],.bool (a != b))|.lss=>some ([],.bool (decide (a<b)))|.leq=>some ([],.bool (decide (a<=b)))|.gtr=>some ([],.bool (decide (b<a)))|.geq=>some ([],.bool (decide (b<=a)))|.shl=>some ([],.byte (dM a (min b.toNat 8)))|.shr=>some ([],.byte (Fm a (min b.toNat 8)))|_=>none
def bg:Nat:=4611686018427387904
def Dj(c:BinOp)(a b:List UInt8):Option (List Prop×AV):=
 match c with|.add=>some ([a.length+b.length<=bg],.str (a++b))|.eql=>some ([],.bool (a==b))|.neq=>some ([],.bool (!(a==b)))|.lss=>some ([],.bool (Op.bytesLess a b))|.leq=>some ([],.bool (Op.bytesLess a b||a==b))|.gtr=>some ([],.bool (!(Op.bytesLess a b||a==b)))|.geq=>some ([],.bool (!Op.bytesLess a b))|_=>none
def yz(P:Program)(t:TypeId)(x y:AV):Option Bool:=
 match P.underlying t,x,y with|some (.int _),.int k a,.int k' b=>bif decide (k=k') then some (a==b) else none|some (.int _),.byte a,.byte b=>some (a==b)|some .bool,.bool a,.bool b=>some (a==b)|some .string,.str a,.str b=>some (a==b)|_,_,_=>none
def xW(P:Program)(xs ys:List AV):List Field->Option Bool
 |[]=>some true
 | f :: fs => bif f.name == "_" then none else
  match xs[f.offset]?,ys[f.offset]? with
  |some x,some y=>match yz P f.type x.sym y.sym with
   |none=>none|some b=>match xW P xs ys fs with|none=>none|some r=>some (b&&r)
  |_,_=>none
def xV(P:Program)(E:TypeId):List AV->List AV->Option Bool
 |[],[]=>some true|x::xs,y::ys=>match yz P E x.sym y.sym with
  |none=>none|some b=>match xV P E xs ys with|none=>none|some r=>some (b&&r)
 |_,_=>none
def yy(P:Program)(t:TypeId)(x y:AV):Option Bool:=
 match x,y with
 |.agg xs,.agg ys=>
  match P.underlying t with
  |some (.struct fields)=>bif P.stoodInHeld t||P.eqGuardType P.depth t then none else xW P xs ys fields.toList|some (.array n E)=>bif P.eqGuardType P.depth t || !(Nat.beq xs.length n) then none else match P.info? E with|some i=>bif Nat.beq i.size 1 then xV P E xs ys else none|none=>none
  |_=>none
 |x,y=>yz P t x y
def yw(P:Program)(c:BinOp)(t:TypeId)(x y:AV):Option (List Prop×AV):=
 match x,y with
 |.int k a,.int k' b=>bif decide (c = .shl)||decide (c = .shr)||decide (k=k') then(bif decide (k = .u8)||decide (k' = .u8) then none else lZ c k a b) else none|.byte a,.byte b=>Dh c a b|.byte a,.int _k b=>match c with|.shl=>some ([0<=b],.byte (dM a (min b.toNat 8)))|.shr=>some ([0<=b],.byte (Fm a (min b.toNat 8)))|_=>none
 |.int k a,.byte b=>bif decide (k = .u8) then none else match c with|.shl=>some ([],.int k (k.wrap (a*2 ^ min b.toNat k.bits)))|.shr=>some ([],.int k (a.fdiv (2 ^ min b.toNat k.bits)))|_=>none
 |.str a,.str b=>Dj c a b|x,y=>match c with
  |.eql=>match yy P t x y with|some b=>some ([],.bool b)|none=>none
  |.neq=>match yy P t x y with|some b=>some ([],.bool (!b))|none=>none
  |_=>none
def Di(P:Program)(a:BinOp)(t:TypeId)(x y:AV):Option (List Prop×AV):=
 match x,y with
 |.val (.int _ _),.val (.int _ _)=>match yw P a t x.sym y.sym with|some ([],r)=>some ([],Kd r)|r=>r
 |x,y=>yw P a t x.sym y.sym
def JI(a:UnOp)(x:AV):Option AV:=
 match a,x with|.not,.bool b=>some (.bool (!b))|.not,.val (.bool b)=>some (.val (.bool (!b)))|.neg,.int k n=>bif decide (k = .u8) then none else some (.int k (k.wrap (0-n)))|.neg,.val (.int k n)=>some (.val (.int k (k.wrap (0-n))))|_,_=>none
def gw(P:Program)(t:TypeId):Option Nat:=match P.info? t with|some i=>some i.size|none=>none
def iJ(P:Program)(t:TypeId):Option Bool:=match P.underlying t with|some (.struct _)=>some true|some (.array _ _)=>some true|some _=>some false|none=>none
def iK(P:Program)(t:TypeId):Option (List AV):=match P.info? t with
 |some i=>match i.zero with|some z=>some (nW z.cells.toList)|none=>none
 |none=>none
def l8(P:Program)(t:TypeId)(cs:List AV)(a:Nat):Option AV:=
 match iJ P t with
 |some true=>match gw P t with|some n=>bif Nat.ble (a+n) cs.length then some (.agg ((cs.drop a).take n)) else none|none=>none
 |some false=>cs[a]?|none=>none
def g9(cs:List AV)(a:Nat):List AV->List AV|[]=>cs|x::xs=>g9 (cs.set a x) (a+1) xs
def y4(a:Nat->Option (Nat×Nat))(cs:List AV):List (Nat×AV)->Option (List AV)
 |[]=>some cs|(i,x)::rest=>match a i with|none=>none|some (off,size)=>bif Nat.beq x.cells.length size&&Nat.ble (off+size) cs.length&&AV.ones x.cells then y4 a (g9 cs off x.cells) rest else none
def ua(s:St):List (Nat×Operand)->Option (List (Nat×AV))
 |[]=>some []|(i,x)::rest=>match s.ev x with
  |none=>none|some v=>match ua s rest with|none=>none|some vs=>some ((i,v)::vs)
def yY(P:Program):List Field->Option (List (Nat×Nat))
 |[]=>some []|f::fs=>match gw P f.type with
  |none=>none|some n=>match yY P fs with|none=>none|some r=>some ((f.offset,n)::r)
def zh:AV->Bool|.int _ _=>true|.byte _=>true|.bool _=>true|.str _=>true|.sl _ _=>true|_=>false
def allData:List AV->Bool|[]=>true|x::xs=>zh x&&allData xs
def ia(s:St):AV->Option (List AV×Nat)
 |.sl τ l=>some (l.flatMap τ.enc,l.length)|.str b=>some (b.map .byte,b.length)|.val (.slice none 0 0)=>some ([],0)|.own k=>match af s.hp k with|some (.row τ l _)=>some (l.flatMap τ.enc,l.length)|_=>none
 |.asl b n c=>match af s.hp b with|some (.cells cs _)=>bif Nat.beq n c&&Nat.beq cs.length n&&allData (cs.map AV.sym) then some (cs.map AV.sym,n) else none|_=>none
 |_=>none
def ax:Nat:=4294967296
def Ax:Nat->List AV|0=>[]|n+1 => .undef::Ax n
mutual
def vw(b:Bool)(hp:List (Nat×ag)):AV->AV->Option (List Prop)
 |.agg xs,.agg ys=>ci b hp xs ys|.tup xs,.tup ys=>ci b hp xs ys|.fn f xs ys,.fn f' xs' ys'=>match ci b hp xs xs',ci b hp ys ys' with|some ps,some qs=>some ((f'=f)::(ps++qs))|_,_=>none
 |.iface t x,.iface t' y=>match vw b hp x y with|some ps=>some ((t'=t)::ps)|none=>none
 |.own k,.sl τ l=>bif b then match af hp k with|some (.row τ' l' _)=>some [AV.sl τ l=AV.sl τ' l']|_=>none
  else none
 |.val v,.sl _ l=>match v with|.slice none 0 0=>some [l.length=0]|_=>none
 |_,.undef=>some []|.val v,.val u=>some [AV.val u=AV.val v]|.val v,y=>some [y=pb v]|x,y=>some [y=x]
def ci(b:Bool)(hp:List (Nat×ag)):List AV->List AV->Option (List Prop)
 |[],[]=>some []|x::xs,y::ys=>match vw b hp x y with
  |some ps=>match ci b hp xs ys with|some qs=>some (ps++qs)|none=>none
  |none=>none
 |_,_=>none
end
mutual
def noRef:AV->Bool|.sl _ _=>false|.arr _ _=>false|.rop _=>false|.agg xs=>jq xs|.tup xs=>jq xs|.fn _ xs ys=>jq xs&&jq ys|.iface _ x=>noRef x|_=>true
def jq:List AV->Bool|[]=>true|x::xs=>noRef x&&jq xs
end
def oa:List (Nat×ag)->List Prop|[]=>[]|(_,.cells cs _)::r=>(jq cs=true)::oa r|(_,.row τ l _)::r=>(∀x∈l,jq (τ.enc x)=true)::oa r|(_,.loop _ _ _ _ _ _ _ _)::_=>[False]|(_,.dfr)::r=>oa r|(_,.it _ _)::r=>oa r|(_,.dead)::r=>oa r
mutual
def AV.frz(k:Nat)(y:AV):AV->AV
 |.agg cs => .agg (AV.frzs k y cs)|.tup cs => .tup (AV.frzs k y cs)|.own n=>bif Nat.beq n k then y else .own n|.fn f first cap => .fn f (AV.frzs k y first) (AV.frzs k y cap)
 |.iface t x => .iface t (AV.frz k y x)|.ptr b off => .ptr b off|.oel n sz i off => .oel n sz i off|.osl n sz lo => .osl n sz lo|.asl b n c => .asl b n c|.yld n => .yld n|.pn n => .pn n|.undef => .undef | .int k n => .int k n | .byte c => .byte c | .bool b => .bool b | .str s => .str s | .sl τ l => .sl τ l | .arr τ l => .arr τ l | .rop cs => .rop cs | .val v => .val v
def AV.frzs(k:Nat)(y:AV):List AV->List AV|[]=>[]|x::xs=>AV.frz k y x::AV.frzs k y xs
end
def yZ(k:Nat)(y:AV):List (Nat×AV)->List (Nat×AV)|[]=>[]|(n,x)::r=>(n,AV.frz k y x)::yZ k y r
def Ed(k:Nat)(y:AV):ag->ag|.cells cs T => .cells (AV.frzs k y cs) T|.loop st pe f n fr ps tag D => .loop st pe f n (yZ k y fr) ps tag D|b=>b
def zA(k:Nat)(y:AV):List (Nat×ag)->List (Nat×ag)|[]=>[]|(n,b)::r=>(n,Ed k y b)::zA k y r
def St.freeze(s:St)(k:Nat):Option St:=match af s.hp k with|some (.row τ l _)=>some { s with fr:=yZ k (.sl τ l) s.fr,hp:=(k,.dead)::zA k (.sl τ l) s.hp }|_=>none
open Go.RowKit
def Gh.at(G:Gh)(n:Nat):ag->Option Nat
 |.cells _ _=>G.box n|.row _ _ _=>match G.own n with|some (some a,_,_)=>some a.block|_=>none
 |.loop _ _ _ _ _ _ _ _=>G.box n|.dfr=>G.box n|.it _ _=>G.box n|.dead=>none
def qv(G:Gh)(hp:List (Nat×ag))(b:Nat):Prop:=∃n bx,af hp n=some bx/\G.at n bx=some b
variable[LC]
def IW(o:Option Obj)(st:LoopState)(e:Option er)(f:FuncId)(tmps:Array Value)(ps:List Tmp)(b d:Nat):Prop:=
 ∃a c,LC.lc b=some (a,c)/\o=some (.loop { state:=st,pending:=e.map er.code,fn:=f,tmps:=tmps,params:=ps.toArray,assign:=a,body:=c,defers:=d })
def IW.lt{w:World}{B:Nat}{st:LoopState}{d:Option er}{f:FuncId}{a:Array Value}{ps:List Tmp}{b c:Nat}(h:IW w.heap[B]? st d f a ps b c):B<w.heap.size:=by
 obtain⟨_,_,_,h⟩:=h;exact(Array.getElem?_eq_some_iff.1 h).1
def dv(G:Gh)(w:World)(n:Nat):ag->Prop
 |.cells cs T=>∃B vs,G.box n=some B/\w.heap[B]? = some (.cells vs T (0,0))/\ao cs G vs.toList/\(∀v∈vs.toList,v.oneCell'=true)/\∀o,G.imm B o=none|.row τ l E=>∃a c,G.own n=some (a,l.length,c) /\
   ((a=none/\l=[]/\c=0)\/∃g vs d,a=some ⟨g,0,none⟩/\w.heap[g]? = some (.cells vs E d)/\(d=(0,0)\/vs.size<=d.1)/\l.length<=c/\c<=maxLen/\vs.size=c*τ.sz /\
    ao (l.flatMap τ.enc) G.data (vs.toList.take (l.length*τ.sz))/\(∀v∈vs.toList,v.oneCell'=true)/\∀o,G.imm g o=none)
 |.loop st pe f m fr ps tag D=>∃B b e,G.box n=some B/\G.box D=some e/\IW w.heap[B]? st pe f b ps tag e /\
   b.size=m/\(∀i x,af fr i=some x->∃v,b[i]? = some v/\ai x G v)/\∀o,G.imm B o=none
 |.dfr=>∃B,G.box n=some B/\w.heap[B]? = some (.deferred (some []))/\∀o,G.imm B o=none|.it s p=>∃B,G.box n=some B/\w.heap[B]? = some (.stringIter ⟨s.toArray⟩ p)/\∀o,G.imm B o=none|.dead=>True
structure c8(G:Gh)(hp:List (Nat×ag))(w:World):Prop where
 agree:∀b o v,G.imm b o=some v->w.cell? ⟨b,o,none⟩=some v
 one:∀b o v,G.imm b o=some v->v.oneCell'=true
 holds:∀n bx,af hp n=some bx->dv G w n bx
 apart:∀n m bx bx' b,af hp n=some bx->af hp m=some bx'->G.at n bx=some b->G.at m bx'=some b->n=m
 tab:LC.tab G.imm w
structure cr(S:Nat->Prop)(w w':World):Prop where
 os:w'.os=w.os
 tape:w'.tape=w.tape
 output:w'.output=w.output
 size:w.heap.size<=w'.heap.size
 block:∀k,k<w.heap.size->¬S k->w'.heap[k]? = w.heap[k]?
def ld(w:World)(E:TypeId)(sz:Nat)(ad:Option Addr)(n c:Nat)(us:List Value):Prop:=
 us.length=n*sz/\((ad=none/\n=0/\c=0)\/∃g a b,ad=some ⟨g,0,none⟩/\w.heap[g]? = some (.cells a E b)/\(b=(0,0)\/a.size<=b.1)/\n<=c/\c<=maxLen/\a.size=c*sz/\a.toList.take (n*sz)=us/\(∀v∈a.toList,v.oneCell'=true))
def eu:Option Addr->Option Nat|some a=>some a.block|none=>none
structure Fin(q72:World)(q7w:Gh)(q7z:List (Nat×ag))(G:Gh)(hp:List (Nat×ag))(w:World):Prop where
 mem:c8 G hp w
 bel:cr (qv q7w q7z) q72 w
 imm_le:∀b o v,q7w.imm b o=some v->G.imm b o=some v
 imm_new:∀b o v,G.imm b o=some v->q7w.imm b o=some v\/q72.heap.size<=b\/qv q7w q7z b
 base:∀n bx b,af hp n=some bx->G.at n bx=some b->q72.heap.size<=b\/qv q7w q7z b
 keep:∀n bx B,af q7z n=some bx->q7w.box n=some B->G.box n=some B
 keepOwn:∀n bx v,af q7z n=some bx->q7w.own n=some v->G.own n=some v
structure aj(q72:World)(q7w:Gh)(q7z:List (Nat×ag))(G:Gh)(s:St)(a:Act)(w:World):Prop where
 defers:∃bs:List Nat,a.defers=bs.map (fun b=>{ target := .collected b,args:=#[] })/\bs.map some=s.df.map G.box
 size:a.tmps.size=s.n
 frame:∀i x,af s.fr i=some x->∃v,a.tmps[i]? = some v/\ai x G v
 fresh:∀m,s.nx<=m->af s.hp m=none->G.box m=none/\G.own m=none
 fin:Fin q72 q7w q7z G s.hp w
def ny(q72:World)(q7w:Gh)(q7z:List (Nat×ag))(r:AV)(hp:List (Nat×ag))(e:Ending)(w:World):Prop:=
 ∃v G,e = .returned v/\Fin q72 q7w q7z G hp w/\ai r G v
def di(P:Program)(f:FuncId)(xs:List AV)(hp:List (Nat×ag))(r:AV)(hp':List (Nat×ag)):Prop:=
 ∀(w:World)(G:Gh)(a:List Value),c8 G hp w->ao xs G a->Calls P f a.toArray w (ny w G hp r hp')
def Plain(P:Program)(f:FuncId):Prop:=∀(a:Array Value)(w:World),(callFunc f a).run P w = .ok (.enter f a) w
def rt(ρ:Nat->Option Nat):List (Nat×AV)->List (Nat×AV)|[]=>[]|(i,x)::r=>(i,x.ren ρ)::rt ρ r
def fk(ρ:Nat->Option Nat):ag->ag
 |.cells cs T => .cells (AV.rens ρ cs) T|.row τ l E => .row τ l E|.loop st pe f n fr ps tag D=>match ρ D with|some D' => .loop st pe f n (rt ρ fr) ps tag D'|none => .dead
 |.dfr => .dfr|.it s p => .it s p|.dead => .dead
def shift(hp:List (Nat×ag))(k:Nat)(n:Nat):Option Nat:=match af hp n with|some _=>some (k+n)|none=>none
def pd(ρ:Nat->Option Nat)(k:Nat):List (Nat×ag)->List (Nat×ag)|[]=>[]|(n,b)::r=>(k+n,fk ρ b)::pd ρ k r
def ag.noLoop:ag->Bool|.loop _ _ _ _ _ _ _ _=>false|.dfr=>false|.it _ _=>false|_=>true
def wy(m:Nat):List (Nat×ag)->Bool|[]=>true|(n,b)::r=>Nat.blt n m&&b.noLoop&&wy m r
def bq(lo:Nat):List (Nat×ag)->Bool|[]=>true|(n,_)::r=>(Nat.blt n lo||Nat.ble (lo+32) n)&&bq lo r
def lY(P:Program)(s:St)(t:TypeId)(x:Operand)(d:D):Option (List Prop×AV):=
 match s.ev x with
 |some (.ptr b off)=>match af s.hp b with
  |some (.cells cs _)=>match l8 P t cs off with|some v=>some ([],v)|none=>none
  |_=>none
 |some (.rop cs)=>match l8 P t cs 0 with|some v=>some ([],v)|none=>none
 |some (.oel k sz i off)=>match af s.hp k,d with
  |some (.row τ l _),.cs cs=>bif Nat.beq sz τ.sz then match l8 P t cs off with|some v=>some ([∃x,l[i]? = some x/\τ.enc x=cs],v)|none=>none
   else none
  |_,_=>none
 |_=>none
def cut{α:Type}(l:List α)(lo c:Option Int):List Prop×List α:=
 match lo,c with|none,none=>([],l)|some a,none=>([0<=a/\a<=l.length],l.drop a.toNat)|none,some b=>([0<=b/\b<=l.length],l.take b.toNat)|some a,some b=>([0<=a/\a<=b/\b<=l.length],(l.drop a.toNat).take (b.toNat-a.toNat))
def lj(s:St):Option Operand->Option (Option Int)
 |none=>some none|some x=>match s.evy x with|some (.int _ n)=>some (some n)|some (.byte c)=>some (some c.toNat)|_=>none
def qbd:AV->Option Ty|.int k _=>some (.int k)|.byte _=>some .byte|.bool _=>some .bool|.str _=>some .str|_=>none
def qbe:List AV->Option Ty
 |[]=>none|[c]=>qbd c|c::d::cs=>match qbd c,qbe (d::cs) with|some a,some b=>some (.prod a b)|_,_=>none
def Aw:(τ:Ty)->List AV->Option (τ.den×List AV)
 |.str,.str x::r=>some (x,r)|.int k,.int k' n::r=>bif decide (k=k') then some (n,r) else none|.bool,.bool x::r=>some (x,r)|.byte,.byte x::r=>some (x,r)|.prod a b,cs=>match Aw a cs with
  |some (x,r)=>match Aw b r with|some (y,r')=>some ((x,y),r')|none=>none
  |none=>none
 |_,_=>none
def Fo(τ:Ty):Nat->List AV->Option (List τ.den)
 |0,[]=>some []|0,_::_=>none|n+1,cs=>match Aw τ cs with
  |some (x,r)=>match Fo τ n r with|some l=>some (x::l)|none=>none
  |none=>none
def xP(P:Program)(s:St)(t:TypeId)(x:Operand)(lo c d:Option Operand):Option (List Prop×AV):=
 match d,lj s lo,lj s c,s.ev x with
 |none,some a,some b,some (.str l)=>match P.underlying t with|some .string=>some ((cut l a b).1,.str (cut l a b).2)|_=>none
 |none,some a,some b,some (.sl τ l)=>match P.underlying t with
  |some (.slice E)=>match gw P E with|some sz'=>bif Nat.beq τ.sz sz' then some ((cut l a b).1,.sl τ (cut l a b).2) else none|none=>none
  |_=>none
 |none,some none,some none,some (.ptr b 0)=>match P.underlying t with
  |some (.array n E)=>match gw P E with|some _=>some ([],.asl b n n)|none=>none
  |_=>none
 |none,some none,some none,some (.rop cs)=>match P.underlying t with
  |some (.array n E)=>match gw P E with
   |some sz=>match qbe (cs.take sz) with
    |some τ=>match Fo τ n cs with|some l=>bif Nat.beq τ.sz sz then some ([],.sl τ l) else none|none=>none
    |none=>none
   |none=>none
  |_=>none
 |_,_,_,_=>none
def w8(n:Int):List UInt8:=(Utf8.encode n).data.toList
def kq(l:List Int):List UInt8:=l.flatMap w8
def xQ(P:Program)(s:St)(src:TypeId)(x:AV)(d:D):Option (List Prop×AV):=
 match P.underlying src,ia s x,d with
 |some (.slice E),some (flat,n),.cs [.str b]=>match P.underlying E,x with|some (.int .u8),.str _=>none|some (.int .u8),_=>some ([flat=b.map AV.byte,n=b.length],.str b)|_,_=>none
 |some (.slice E),some (flat,n),.cs [.sl (.int .i32) l]=>match P.underlying E,x with|some (.int .i32),.str _=>none|some (.int .i32),_=>some ([flat=List.flatMap (β:=AV) (Ty.int .i32).enc l,n=List.length l],.str (kq l))|_,_=>none
 |_,_,_=>none
def lV(P:Program)(s:St)(T:TypeId)(a:List (Nat×Operand)):Option (List Prop×AV):=
 match iK P T,ua s a with
 |some z,some ps=>match P.underlying T with
  |some (.struct fs)=>match yY P fs.toList with
   |some places=>match y4 (fun i=>places[i]?) z ps with|some cs=>some ([],.agg cs)|none=>none
   |none=>none
  |some (.array _ e)=>match gw P e with
   |some sz=>match y4 (fun i=>some (i*sz,sz)) z ps with|some cs=>some ([],.agg cs)|none=>none
   |none=>none
  |_=>none
 |_,_=>none
def we(P:Program)(dst:TypeId)(x:AV):Option (List Prop×AV):=
 match P.underlying dst,x with|some (.int k),.int _ n=>bif decide (k = .u8) then some ([],.byte (kw n)) else some ([],.int k (k.wrap n))|some (.int k),.byte c=>bif decide (k = .u8) then some ([],.byte c) else bif decide (k = .i8) then none else some ([],.int k c.toNat)|some .string,.str l=>some ([],.str l)|_,_=>none
def bU(P:Program)(dst:TypeId)(x:AV):Option (List Prop×AV):=
 match x with
 |.val (.int _ _)=>match we P dst x.sym with|some ([],r)=>some ([],Kd r)|r=>r
 |x=>we P dst x.sym
def Df(P:Program)(t:TypeId)(x:AV)(f:Nat):Option (List Prop×AV):=
 match P.underlying t,x with
 |some (.struct fs),.agg cs=>match fs[f]? with
  |some fd=>match l8 P fd.type cs fd.offset with|some v=>some ([],v)|none=>none
  |none=>none
 |_,_=>none
def Dg(P:Program)(t:TypeId)(x:AV)(f:Nat):Option (List Prop×AV):=
 match P.underlying t with
 |some (.struct fs)=>match fs[f]? with
  |some fd=>match gw P fd.type with
   |some sz=>bif Nat.beq sz 0 then none else match x with|.ptr b off=>some ([],.ptr b (off+fd.offset))|.rop cs=>bif Nat.ble fd.offset cs.length then some ([],.rop (cs.drop fd.offset)) else none|.oel k sz i off=>some ([],.oel k sz i (off+fd.offset))|_=>none
   |none=>none
  |none=>none
 |_=>none
def xN(P:Program)(t:TypeId)(x i:AV)(d:D):Option (List Prop×AV):=
 match P.underlying t,x,i,d with
 |some .string,.str b,.int _ n,.cs [.byte c]=>some ([0<=n/\b[n.toNat]? = some c],.byte c)|some .string,.str b,.byte n,.cs [.byte c]=>some ([b[n.toNat]? = some c],.byte c)|some (.array len E),.agg cs,.int _ n,.cs [x]=>match iJ P E,gw P E with|some false,some 1=>bif Nat.beq cs.length len then some ([0<=n/\(cs.map AV.sym)[n.toNat]? = some x],x) else none|_,_=>none
 |_,_,_,_=>none
def lX(P:Program)(s:St)(t:TypeId)(x i:AV)(d:D):Option (List Prop×AV):=
 match P.underlying t with
 |some (.slice E)=>match gw P E,i with
  |some sz',.int _ n=>match x,d with
   |.sl τ l,.cs cs=>bif Nat.beq τ.sz sz' then some ([0<=n/\∃x,l[n.toNat]? = some x/\τ.enc x=cs],.rop cs) else none|.own k,_=>match af s.hp k with|some (.row τ l _)=>bif Nat.beq τ.sz sz' then some ([0<=n/\n.toNat<l.length],.oel k τ.sz n.toNat 0) else none|_=>none
   |.asl b m _,_=>some ([0<=n/\n.toNat<m],.ptr b (n.toNat*sz'))|_,_=>none
  |_,_=>none
 |some (.array len E)=>match gw P E,i,x with|some sz,.int _ n,.ptr b off=>some ([0<=n/\n<len],.ptr b (off+n.toNat*sz))|_,_,_=>none
 |_=>none
def xO(P:Program)(s:St)(t:TypeId)(x:AV):Option (List Prop×AV):=
 match P.underlying t,x with
 |some .string,.str b=>some ([],.int .i64 b.length)|some (.slice _),.sl _ l=>some ([],.int .i64 l.length)|some (.slice _),.own k=>match af s.hp k with|some (.row _ l _)=>some ([],.int .i64 l.length)|_=>none
 |some (.slice _),.val (.slice none 0 0)=>some ([],.int .i64 0)|some (.slice _),.asl _ n _=>some ([],.val (.int .i64 n))|_,_=>none
def Jt(x y:AV):Option (List Prop×AV):=match x,y with|.int k a,.int k' b=>bif decide (k=k') then some ([],.int k (if b>a then b else a)) else none|_,_=>none
def Ju(x y:AV):Option (List Prop×AV):=match x,y with|.int k a,.int k' b=>bif decide (k=k') then some ([],.int k (if b<a then b else a)) else none|_,_=>none
def S4:AV->Bool|.ptr _ _=>true|.rop _=>true|.oel _ _ _ _=>true|_=>false
def d6(P:Program)(s:St)(d:D)(e:Op):Option (List Prop×AV):=
 match e with
 |.move x=>match s.ev x with|some v=>some ([],v)|none=>none
 |.assign x=>match s.ev x with|some v=>some ([],v)|none=>none
 |.pick c x y=>match s.ev c,d with
  |some (.bool b),.b t=>match s.ev (bif t then x else y) with|some v=>some ([b=t],v)|none=>none
  |some (.val (.bool b)),_=>match s.ev (bif b then x else y) with|some v=>some ([],v)|none=>none
  |_,_=>none
 |.build T parts=>lV P s T parts.toList|.load t x=>lY P s t x d|.slice t x lo hi mx=>xP P s t x lo hi mx|.binOp e t x y _=>match s.ev x,s.ev y with|some a,some b=>Di P e t a b|_,_=>none
 |.unOp e _ x=>match s.ev x with
  |some a=>match JI e a with|some v=>some ([],v)|none=>none
  |none=>none
 |.convert src dst x=>match P.underlying src,s.ev x with
  |some _,some v=>match bU P dst v with
   |some r=>some r|none=>match P.underlying dst with|some .string=>xQ P s src v d|_=>none
  |_,_=>none
 |.field t x f=>match s.ev x with|some v=>Df P t v f|none=>none
 |.fieldAddr t x f=>match s.ev x with|some v=>Dg P t v f|none=>none
 |.extract x i=>match s.ev x with
  |some (.tup vs)=>match vs[i]? with|some v=>some ([],v)|none=>none
  |_=>none
 |.index t x i=>match s.ev x,s.evy i with|some v,some j=>xN P t v j d|_,_=>none
 |.indexAddr t x i=>match s.ev x,s.evy i with|some v,some j=>lX P s t v j d|_,_=>none
 |.makeFunc f first cap=>match s.evs first.toList,s.evs cap.toList with|some fs,some cs=>some ([],.fn f fs cs)|_,_=>none
 |.call { callee := .builtin .len,args,argTypes }=>match args.toList,argTypes.toList with
  |[x],[t]=>match s.ev x with|some v=>xO P s t v|none=>none
  |_,_=>none
 |.call { callee := .builtin .max,args,argTypes:=_ }=>match args.toList with
  |[x,y]=>match s.evy x,s.evy y with|some a,some b=>Jt a b|_,_=>none
  |_=>none
 |.call { callee := .builtin .min,args,argTypes:=_ }=>match args.toList with
  |[x,y]=>match s.evy x,s.evy y with|some a,some b=>Ju a b|_,_=>none
  |_=>none
 |.nilCheck x=>match s.ev x with|some v=>bif S4 v then some ([],v) else none|none=>none
 |_=>none
def qj(P:Program)(E:TypeId):Bool:=match P.info? E with
 |some i=>match i.zero with|some z=>Nat.beq z.cells.size i.size&&Nat.blt 0 i.size&&Nat.ble i.bytes 32768&&z.cells.toList.all (·.oneCell')|none=>false
 |none=>false
def nV(P:Program)(t:TypeId):Bool:=match P.underlying t with|some (.int _)=>false|some _=>true|none=>false
def qt(P:Program)(s:St)(d:D)(t b:TypeId)(a:List AV)(n:Nat)(y:AV):Option (List Prop×ag):=
 match P.underlying t,d with
 |some (.slice E),.row (.row τ l E')=>match gw P E,ia s y with
  |some sz',some (flat,m)=>bif Nat.beq τ.sz sz'&&Nat.beq E E'&&qj P E&&nV P b then
    some ([l.flatMap τ.enc=a++flat,l.length=n+m,l.length<=ax],.row τ l E') else none
  |_,_=>none
 |_,_=>none
def bT(P:Program)(s:St)(d:D)(t:TypeId)(a:Nat)(b:List (Nat×Operand)):Option (List Prop×ag):=
 match P.underlying t,d with
 |some (.slice E),.row (.row τ l E')=>match gw P E,ua s b with
  |some sz',some ps=>match y4 (fun i=>some (i*sz',sz')) (Ax (a*sz')) ps with
   |some cs=>bif Nat.beq τ.sz sz'&&Nat.beq E E'&&qj P E&&Nat.ble (a*τ.sz) 16777216&&AV.ones cs then
     match ci false [] cs (l.flatMap τ.enc) with
     |some ps=>some (ps++[l.length=a,AV.rens (fun _=>none) cs=cs],.row τ l E')
     |none=>none
    else none
   |none=>none
  |_,_=>none
 |_,_=>none
def lW(P:Program)(s:St)(d:D)(t:TypeId)(a:Nat)(c:List (Nat×Operand)):Option (List AV×TypeId):=
 match P.underlying t,d with
 |some (.slice E),.b true=>match gw P E,ua s c with
  |some sz,some ps=>match y4 (fun i=>some (i*sz,sz)) (Ax (a*sz)) ps with|some cs=>bif qj P E&&Nat.blt 0 a&&Nat.ble (a*sz) 16777216&&AV.ones cs then some (cs,E) else none|none=>none
  |_,_=>none
 |_,_=>none
def lg(P:Program)(s:St)(d:D)(o:Oper):Option (List Prop×AV×List (Nat×ag)):=
 match o.op,o.dst with
 |.alloc T,some t=>match iK P T with|some cs=>bif AV.ones cs&&bq (s.nx+32*t) s.hp then some ([],.ptr (s.nx+32*t) 0,[(s.nx+32*t,.cells cs T)]) else none|none=>none
 |.box T x,some t=>match s.ev x with|some v=>bif AV.ones v.cells&&bq (s.nx+32*t) s.hp then some ([],.ptr (s.nx+32*t) 0,[(s.nx+32*t,.cells v.cells T)]) else none|none=>none
 |.call { callee := .value g,args,argTypes:=_ },some t=>match s.ev g,s.evs args.toList,d with
  |some (.fn (.func f) fst cap),some xs,.res b xs' r hp'=>match ci b s.hp ((fst++xs)++cap) xs' with
   |some ps=>bif wy 32 hp'&&bq (s.nx+32*t) s.hp&&(!b||noRef r) then
     some (Plain P f::di P f xs' [] r hp'::(ps++(bif b then oa hp' else[])),AV.ren (shift hp' (s.nx+32*t)) r,pd (shift hp' (s.nx+32*t)) (s.nx+32*t) hp') else none
   |none=>none
  |_,_,_=>none
 |.call { callee := .builtin .append,args,argTypes },some tt=>match args.toList,argTypes.toList with
  |[x,y],[t,t2]=>match s.ev x,s.ev y with
   |some (.val (.slice none 0 0)),some v=>match qt P s d t t2 [] 0 v with|some (ps,b)=>bif bq (s.nx+32*tt) s.hp then some (ps,.own (s.nx+32*tt),[(s.nx+32*tt,b)]) else none|none=>none
   |_,_=>none
  |_,_=>none
 |.buildSlice t len parts,some tt=>match bT P s d t len parts.toList with
  |some (ps,b)=>bif bq (s.nx+32*tt) s.hp then some (ps,.own (s.nx+32*tt),[(s.nx+32*tt,b)]) else none|none=>match lW P s d t len parts.toList with|some (cs,E)=>bif bq (s.nx+32*tt) s.hp then some ([],.asl (s.nx+32*tt) len len,[(s.nx+32*tt,.cells cs E)]) else none|none=>none
 |.convert src dst x,some tt=>match P.underlying src,P.underlying dst,s.ev x with
  |some _,some (.slice E),some (.str b)=>match P.underlying E with|some (.int .u8)=>bif bq (s.nx+32*tt) s.hp then some ([b.length<=maxLen],.own (s.nx+32*tt),[(s.nx+32*tt,.row .byte b E)]) else none|_=>none
  |_,_,_=>none
 |_,_=>none
def gq(P:Program)(s:St)(d:D)(o:Oper):Option (List Prop×AV×List (Nat×ag)):=
 match d6 P s d o.op with|some (ps,v)=>some (ps,v,[])|none=>lg P s d o
def St.add(s:St)(dst:Option Tmp)(v:AV)(new:List (Nat×ag)):Option St:=
 match dst with|none=>some { s with hp:=new++s.hp }|some d=>bif Nat.blt d s.n then some { s with fr:=(d,v)::s.fr,hp:=new++s.hp } else none
def xf(hp:List (Nat×ag))(n:Nat)(b:ag):List (Nat×ag):=(n,b)::hp
def bm:List (Nat×Nat)->Nat->Option Nat|[],_=>none|(k,v)::r,i=>bif Nat.beq k i then some v else bm r i
def ul:List (Nat×Nat)->Nat->Option Nat|[],_=>none|(k,v)::r,i=>bif Nat.beq v i then some k else ul r i
def bf(names:List (Nat×Nat))(n:Nat):Option Nat:=
 match ul names n with
 |some m=>match bm names m with|some n'=>bif Nat.beq n' n then some m else none|none=>none
 |none=>none
def ja(ρ:Nat->Option Nat)(hp:List (Nat×ag)):List (Nat×Nat)->Option (List (Nat×ag))
 |[]=>some []|(m,n)::r=>match af hp n,ja ρ hp r with|some b,some l=>some ((m,fk ρ b)::l)|_,_=>none
def eh:List (Nat×Nat)->Bool|[]=>true|(_,n)::r=>(match ul r n with|some _=>false|none=>true)&&eh r
def qz:List (Nat×Nat)->Bool|[]=>true|(m,_)::r=>(match bm r m with|some _=>false|none=>true)&&qz r
def iQ(fr:List (Nat×AV)):List (Nat×AV)->Option (List Prop)
 |[]=>some []|(i,y)::r=>match af fr i with
  |some x=>match vw false [] x y,iQ fr r with|some ps,some qs=>some (ps++qs)|_,_=>none
  |none=>none
def dO:ag->ag->Option (List Prop)
 |_,.dead=>some []|.cells xs T,.cells ys T'=>bif Nat.beq T T' then ci false [] xs ys else none|.row τ l E,b=>some [b = .row τ l E]|.loop st pe f n fr ps tag D,.loop st' pe' f' n' fr' ps' tag' D'=>match iQ fr fr' with|some qs=>some (([st'=st,pe'=pe,f'=f,n'=n,ps'=ps,tag'=tag,D'=D]:List Prop)++qs)|none=>none
 |.dfr,.dfr=>some []|.it s p,.it s' p'=>some [s'=s,p'=p]|_,_=>none
def lz:List (Nat×ag)->List (Nat×ag)->Option (List Prop)
 |[],[]=>some []| (n,b)::r,(n',b')::r'=>bif Nat.beq n n' then(match dO b b',lz r r' with
   |some ps,some qs=>some (ps++qs)| _,_=>none) else none
 |_,_=>none
def iq(names:List (Nat×Nat))(hp:List (Nat×ag))(base:Nat)(n:Nat):Option Nat:=
 match bm names n with
 |some old=>some old|none=>match af hp n with|some _=>bif Nat.blt n 32 then some (base+n) else none|none=>none
def ow(ρ:Nat->Option Nat):List (Nat×ag)->List (Nat×ag)
 |[]=>[]|(n,b)::r=>match ρ n with|some m=>(m,fk ρ b)::ow ρ r|none=>ow ρ r
def pz:List (Nat×Nat)->List (Nat×ag)|[]=>[]|(_,n)::r=>(n,.dead)::pz r
def Pf(P:Program)(m:Nat)(xs:List AV)(hp:List (Nat×ag))(r:AV)(hp':List (Nat×ag)):Prop:=
 ∀(w:World)(G:Gh)(d:List Value)(B:Nat),c8 G hp w->ao xs G d->G.box m=some B->∃lp:Loop,w.heap[B]? = some (.loop lp) /\
  ∀(c:Frame)(e:List Frame),d.length=lp.params.size/\∃v f,ny w G hp r hp' (.returned v) f /\
   Steps P (lone (Frame.round B lp.fn ((lp.params.zip d.toArray).foldl (fun b(t,a)=>b.setIfInBounds t a) lp.tmps) lp.assign lp.body .normal) (c::e) w) (lone (c.finish v) e f)
def uo(s:St)(q:Prop)(a:List AV)(names:List (Nat×Nat))(xs:List AV)(hp:List (Nat×ag))(r:AV)(hp':List (Nat×ag))(t:Nat):Option (List Prop×St):=
 bif eh names&&qz names&&bq (s.nx+32*t) s.hp&&Nat.blt t s.n then
  match ja (bf names) s.hp names,ci false [] (AV.rens (bf names) a) xs with
  |some hpv,some ps1=>match lz hpv hp with
   | some ps2=>some (q::(ps1++ps2),{ s with
     fr:=(t,r.ren (iq names hp' (s.nx+32*t)))::s.fr,
     hp:=ow (iq names hp' (s.nx+32*t)) hp'++(pz names++s.hp) })
   |none=>none
  |_,_=>none
 else none
def t8(P:Program)(s:St)(d:D)(o:Oper):Option (List Prop×St):=
 match o.op with
 |.store t x y=>match s.ev x,s.ev y,gw P t,o.dst with
  |some (.ptr b off),some v,some n,none=>match af s.hp b with
   |some (.cells cs T)=>bif Nat.beq v.cells.length n&&AV.ones v.cells&&Nat.ble (off+n) cs.length then
     some ([],{ s with hp:=xf s.hp b (.cells (g9 cs off v.cells) T) }) else none
   |_=>none
  |some (.oel k sz i off),some v,some n,none=>match af s.hp k,d with
   |some (.row τ0 l0 E0),.put ys (.row τ l E)=>bif Nat.beq v.cells.length n&&AV.ones v.cells&&Nat.beq sz τ0.sz&&Nat.beq τ.sz τ0.sz&&Nat.beq E E0 then
     match ci false [] v.cells ys with
     |some ps=>some (ps++[i*sz+off+n<=l0.length*sz,l.flatMap τ.enc=g9 (l0.flatMap τ0.enc) (i*sz+off) ys,l.length=l0.length,AV.rens (fun _=>none) v.cells=v.cells],{ s with hp:=xf s.hp k (.row τ l E) })
     |none=>none
    else none
   |_,_=>none
  |_,_,_,_=>none
 |.call { callee := .builtin .append,args,argTypes }=>match args.toList,argTypes.toList,o.dst with
  |[x,y],[t,t2],some tt=>match s.ev x,s.ev y with
   |some (.own k),some v=>match af s.hp k with
    |some (.row τ0 l0 E0)=>match qt P s d t t2 (l0.flatMap τ0.enc) l0.length v with
     |some (ps,.row τ l E)=>bif bq (s.nx+32*tt) s.hp&&Nat.beq τ.sz τ0.sz&&Nat.beq E E0&&Nat.blt tt s.n then
       some (ps,{ s with fr:=(tt,.own (s.nx+32*tt))::s.fr,hp:=(s.nx+32*tt,.row τ l E)::(k,.dead)::s.hp }) else none
     |_=>none
    |_=>none
   |_,_=>none
  |_,_,_=>none
 |.call { callee := .value g,args,argTypes:=_ }=>match s.ev g,s.evs args.toList,d,o.dst with
  |some (.fn (.func f) fst cap),some ys,.mem names xs hp r hp',some t=>uo s (Plain P f/\di P f xs hp r hp') ((fst++ys)++cap) names xs hp r hp' t|some (.yld m),some ys,.mem names xs hp r hp',some t=>match bf names m with|some m'=>uo s (Pf P m' xs hp r hp') ys names xs hp r hp' t|none=>none
  |_,_,_,_=>none
 |_=>none
def Fi(n:Nat)(h:n<256:=by omega):(UInt8.ofNat n).toNat=n:=by simp[UInt8.toNat_ofNat'];omega
def EK(G:Gh)(c:Value):ai (pb c) G c:=by
 cases c with
 |int k n=>
  cases k<;>try rfl
  simp[pb];by_cases h:decide (0<=n)&&decide (n<256)
  ·rw[h];simp at h;simp only[qT,ai];rw[Fi _]
   congr 1;omega
  ·simp only[Bool.not_eq_true]at h;rw[h];rfl
 |string s=>simp[pb,ai]|_=>rfl
def qq4(G:Gh)(c:Value):ai (S5 c) G c:=by
 cases c<;>first|rfl|exact EK G _
def ix{G:Gh}{x:AV}{v:Value}(h:ai x G v):ai x.sym G v:=by
 cases x<;>try exact h
 simp[ai]at h;subst h;exact EK G _
def qac{G:Gh}{x:AV}{v:Value}(h:ai x G v):ai (Kd x) G v:=by
 cases x<;>exact h
def LV(G:Gh):∀(l:List Value),ao (nW l) G l|[]=>trivial|v::vs=>⟨EK G v,LV G vs⟩
def qad{G:Gh}{x:AV}{v:Value}(h:ai x G v)(a:x.one'=true):v.oneCell'=true:=by
 cases x<;>simp[AV.one',wJ]at a<;>simp only[ai]at h
 case int=>subst h;rfl
 case byte=>subst h;rfl
 case bool=>subst h;rfl
 case str=>subst h;rfl
 case sl=>obtain⟨_,_,h,_⟩:=h;subst h;rfl
 case yld=>obtain⟨_,_,h⟩:=h;subst h;rfl
 case pn=>obtain⟨_,_,h|h⟩:=h<;>subst h<;>rfl
 case ptr=>obtain⟨_,_,h⟩:=h;subst h;rfl
 case rop=>obtain⟨_,_,h,_⟩:=h;subst h;rfl
 case own=>obtain⟨_,_,_,_,h⟩:=h;subst h;rfl
 case asl=>obtain⟨_,_,_,h⟩:=h;subst h;rfl
 case oel=>obtain⟨_,_,_,_,h⟩:=h;subst h;rfl
 case osl=>obtain⟨_,_,_,_,_,h⟩:=h;subst h;rfl
 case val u=>subst h;cases v<;>first|rfl|cases a
 case fn=>obtain⟨_,_,h,_⟩:=h;subst h;rfl
 case iface=>obtain⟨_,h,_⟩:=h;subst h;rfl
def xa{G:Gh}:∀{xs:List AV}{vs:List Value},ao xs G vs->AV.ones xs=true->∀v∈vs,v.oneCell'=true
 |[],[],_,_=>by simp|x::xs,v::vs,h,ho=>by
  simp[AV.ones,qA]at ho;intro u a;rcases List.mem_cons.1 a with rfl|a
  ·exact qad h.1 ho.1
  ·exact xa h.2 ho.2 u a
 |[],_::_,h,_=>h.elim|_::_,[],h,_=>h.elim
def ni{G:Gh}:∀{xs:List AV}{vs:List Value},ao xs G vs->∀{i:Nat}{x:AV},xs[i]? = some x->∃v,vs[i]? = some v/\ai x G v
 |[],[],_,i,x,hx=>by simp at hx|x::xs,v::vs,h,i,y,hy=>by
  cases i with|zero=>simp at hy;subst hy;exact⟨v,rfl,h.1⟩|succ i=>simp at hy ⊢;exact ni h.2 hy
 |[],_::_,h,_,_,_=>h.elim|_::_,[],h,_,_,_=>h.elim
def nZ{G:Gh}:∀{xs:List AV}{vs:List Value}(n:Nat),ao xs G vs->ao (xs.take n) G (vs.take n)|_,_,0,_=>by simp[ao]|[],[],n+1,_=>by simp[ao]|x::xs,v::vs,n+1,h=>⟨h.1,nZ n h.2⟩|[],_::_,_+1,h=>h.elim|_::_,[],_+1,h=>h.elim
def Ai{G:Gh}:∀{xs:List AV}{vs:List Value}(n:Nat),ao xs G vs->ao (xs.drop n) G (vs.drop n)|_,_,0,h=>h|[],[],n+1,_=>by simp[ao]|x::xs,v::vs,n+1,h=>Ai (xs:=xs) (vs:=vs) n h.2|[],_::_,_+1,h=>h.elim|_::_,[],_+1,h=>h.elim
def w9{G:Gh}:∀{xs a:List AV}{vs us:List Value},ao xs G vs->ao a G us->ao (xs++a) G (vs++us)|[],_,[],_,_,h=>h|_x::_xs,_,_v::_vs,_,h,k=>⟨h.1,w9 h.2 k⟩|[],_,_::_,_,h,_=>h.elim|_::_,_,[],_,h,_=>h.elim
def Aj{G:Gh}:∀{xs:List AV}{vs:List Value}{x:AV}{v:Value}(i:Nat),ao xs G vs->ai x G v->ao (xs.set i x) G (vs.set i v)|[],[],_,_,_,_,_=>by simp[ao]|_::_,_::_,_,_,0,h,hx=>⟨hx,h.2⟩|_::_,_::_,_,_,i+1,h,hx=>⟨h.1,Aj i h.2 hx⟩|[],_::_,_,_,_,h,_=>h.elim|_::_,[],_,_,_,h,_=>h.elim
def ai.le{x:AV}{G G':Gh}{v:Value}(h:ai x G v)(a:G.le G'):ai x G' v:=by
 have:=ai.ren (ρ:=some) (x:=x) a.imm (fun n b B e h=>by injection e with e;subst e;exact a.box _ _ h) (fun n b B e h=>by injection e with e;subst e;exact a.own _ _ h) h
 rwa [AV.ren_some]at this
def ao.le{x:List AV}{G G':Gh}{v:List Value}(h:ao x G v)(a:G.le G'):ao x G' v:=by
 have:=ao.ren (ρ:=some) (xs:=x) a.imm (fun n b B e h=>by injection e with e;subst e;exact a.box _ _ h) (fun n b B e h=>by injection e with e;subst e;exact a.own _ _ h) h
 rwa [AV.rens_some]at this
section
variable{P:Program}{q72:World}{q7w:Gh}{q7z:List (Nat×ag)}{G:Gh}{s:St}{a:Act}{w:World}
def cm(e:aj q72 q7w q7z G s a w){x:Operand}{v:AV}(h:s.ev x=some v):ai v G (a.eval x):=by
 cases x with
 |tmp t=>
  obtain⟨u,b,d⟩:=e.frame t v h;have:a.eval (.tmp t)=u:=by simp[Act.eval,Array.getD_eq_getD_getElem?,b]
  rw[this];exact d
 |const c=>simp[St.ev,qI]at h;subst h;exact qq4 G c|func f=>simp[St.ev,qI]at h;subst h;exact⟨#[],#[],rfl,trivial,trivial⟩|global g=>cases h
def p8(b:aj q72 q7w q7z G s a w){x:Operand}{v:AV}(h:s.evy x=some v):ai v G (a.eval x):=by
 unfold St.evy at h;split at h
 ·rename_i u c;simp at h;subst h;exact ix (cm b c)
 ·cases h
def cE(c:aj q72 q7w q7z G s a w):∀{xs:List Operand}{vs:List AV},s.evs xs=some vs->ao vs G (xs.map a.eval)
 |[],vs,h=>by simp[St.evs,qI]at h;subst h;trivial|x::xs,vs,h=>by
  simp[St.evs]at h;split at h
  ·cases h
  ·rename_i v d;split at h
   ·cases h
   ·rename_i us b;simp at h;subst h;exact⟨cm c d,cE c b⟩
def Pi(P:Program)(G:Gh)(a:Act)(w:World)(o:Oper)(v:AV):Prop:=∃u,(execOp a.eval o).run P w = .ok (.value u) w/\ai v G u
def ce{t:TypeId}{d:TypeDesc}(h:P.underlying t=some d)(w:World):(underlying t).run P w = .ok d w:=by
 simp[underlying,h]
def xe{t:TypeId}{d:TypeInfo}(h:P.info? t=some d)(w:World):(typeInfo t).run P w = .ok d w:=by
 simp[typeInfo,h]
def ku{t:TypeId}{n:Nat}(h:gw P t=some n)(w:World):(Go.sizeOf t).run P w = .ok n w:=by
 unfold gw at h
 cases b:P.info? t with
 |none=>rw[b]at h;cases h
 |some i=>rw[b]at h;simp at h;subst h;simp[Go.sizeOf,xe b]
def zu{t:TypeId}{b:Bool}(h:iJ P t=some b)(w:World):(isAgg t).run P w = .ok b w:=by
 unfold iJ at h;split at h<;>simp at h<;>subst h
 ·rename_i c;simp[isAgg,ce c]
 ·rename_i c;simp[isAgg,ce c]
 ·rename_i d e f c;simp[isAgg,ce c]
def Mc{t:TypeId}{cs:List AV}(h:iK P t=some cs)(w:World)(G:Gh):∃z,(zeroValue t).run P w = .ok z w/\ao cs G z.cells.toList:=by
 unfold iK at h;split at h
 ·rename_i i b;split at h
  ·rename_i z c;simp at h;subst h;exact⟨z,by simp[zeroValue,xe b,c],LV G _⟩
  ·cases h
 ·cases h
def Ma(b o:Nat):∀(vs:List Value)(i:Nat)(c:Array Value),(∀j v,vs[j]? = some v->w.cell? ⟨b,o+i+j,none⟩=some v) ->
  (loadCellsFrom ⟨b,o,none⟩ i vs.length c).run P w = .ok (c++vs.toArray) w
 |[],i,c,_=>by simp[loadCellsFrom]|v::vs,i,c,h=>by
  have d:=h 0 v rfl;have e:(Addr.add ⟨b,o,none⟩ i)=⟨b,o+i,none⟩:=by unfold Addr.add;split<;>simp_all
  rw[qL,loadCellsFrom];have f:(load (Addr.add ⟨b,o,none⟩ i)).run P w = .ok v w:=by
   rw[e];simp[load,Sem.run];rw[show o+i=o+i+0 by rfl,d]
  simp[Sem.run_bind,f,Result.andThen_ok];rw[Ma b o vs (i+1) (c.push v) (fun j u g=>by have:=h (j+1) u (by simpa using g);rw[← this];congr 2;omega)]
  simp
def cell_of_heap{B i:Nat}{vs:Array Value}{T:TypeId}{b:Nat×Nat}{v:Value}(h:w.heap[B]? = some (.cells vs T b))(c:vs.toList[i]? = some v):w.cell? ⟨B,i,none⟩=some v:=by
 simp[World.cell?,h];simpa using c
def oA{t:TypeId}{cs:List AV}{b:Nat}{v:AV}(h:l8 P t cs b=some v){B o:Nat}{vs:List Value}(g:ao cs G vs)(k:∀j u,vs[j]? = some u->w.cell? ⟨B,o+j,none⟩=some u) :
  ∃u,(loadVar t ⟨B,o+b,none⟩).run P w = .ok u w/\ai v G u:=by
 unfold l8 at h;split at h
 ·rename_i d;split at h
  ·rename_i n m;cases e:Nat.ble (b+n) cs.length
   ·rw[e]at h;cases h
   ·rw[e]at h;simp at h;subst h;have l:b+n<=cs.length:=by simpa using e
    have p:=g.length;have i:((vs.drop b).take n).length=n:=by simp;omega
    refine⟨.agg ((vs.drop b).take n).toArray,?_,_,rfl,by simpa using nZ n (Ai b g)⟩
    have:=Ma (P:=P) (w:=w) B (o+b) ((vs.drop b).take n) 0 #[] (fun j u c=>by
     rw[List.getElem?_take]at c;split at c
     ·rw[List.getElem?_drop]at c;rw[show o+b+0+j=o+(b+j) by omega];exact k _ _ c
     ·cases c)
    rw[i]at this;simp[loadVar,zu d,ku m,loadCells,this]
  ·cases h
 ·rename_i d;obtain⟨u,c,f⟩:=ni g h;refine⟨u,?_,f⟩;simp[loadVar,zu d,load,Sem.run,k _ _ c]
 ·cases h
def Gh.data_le_self(G:Gh):G.data.le G:=⟨fun _ _ _ h=>h,fun _ _ h=>(by cases h),fun _ _ h=>(by cases h)⟩
def de.values:∀{xs:List AV}{b o:Nat},de xs G b o->∃vs:List Value,ao xs G vs/\∀j u,vs[j]? = some u->G.imm b (o+j)=some u
 |[],_,_,_=>⟨[],trivial,fun j u h=>by simp at h⟩
 |x::xs,b,o,⟨⟨u,d,e⟩,f⟩=>by
  obtain⟨vs,g,i⟩:=de.values f;refine⟨u::vs,⟨e.le (Gh.data_le_self G),g⟩,fun j v c => ?_⟩
  cases j with|zero=>simp at c;subst c;exact d|succ j=>simp at c;rw[show o+(j+1)=o+1+j by omega];exact i j v c
def de.drop:∀{xs:List AV}{b o:Nat}(n:Nat),n<=xs.length->de xs G b o->de (xs.drop n) G b (o+n)
 |_,_,_,0,_,h=>h|[],_,_,n+1,h,_=>by simp at h|x::xs,b,o,n+1,hn,⟨_,c⟩=>by
  rw[show o+(n+1)=o+1+n by omega];exact de.drop n (by simpa using hn) c
def K8{α:Type}{enc:α->List AV}{sz:Nat}:∀{l:List α}{i:Nat}{x:α},(∀y∈l,(enc y).length=sz)->l[i]? = some x->((l.flatMap enc).drop (i*sz)).take sz=enc x
 |[],i,x,_,h=>by simp at h|y::l,0,x,hl,h=>by
  simp at h;subst h;rw[List.flatMap_cons,Nat.zero_mul,List.drop_zero,← hl y qH,List.take_left]
 |y::l,i+1,x,hl,h=>by
  have:=K8 (l:=l) (i:=i) (x:=x) (fun z b=>hl z (qE _ b)) (by simpa using h)
  rw[List.flatMap_cons,Nat.add_mul,Nat.one_mul,Nat.add_comm,← List.drop_drop,← hl y qH,List.drop_left];rw[hl y qH];exact this
def qhn(r:aj q72 q7w q7z G s a w){t:TypeId}{x:Operand}{d:D}{ps:List Prop}{v:AV}(h:lY P s t x d=some (ps,v))(hp:ay ps):∃u,(Instr.loadAt t (a.eval x)).run P w = .ok u w/\ai v G u:=by
 unfold lY at h;split at h
 ·rename_i b L q;have q:=cm r q;obtain⟨B,H,m⟩:=q;split at h
  ·rename_i M T J;split at h
   ·rename_i O C;simp at h;obtain⟨_,rfl⟩:=h;obtain⟨B',Q,p,z,A,_⟩:=r.fin.mem.holds _ _ J;rw[p]at H;injection H with H;subst H
    obtain⟨u,e,f⟩:=oA (P:=P) (w:=w) C (o:=0) A (fun j u e=>by rw[wO];exact cell_of_heap z e)
    rw[wO]at e;exact⟨u,by rw[m];simp[Instr.loadAt,Instr.sureAddr,e],f⟩
   ·cases h
  ·cases h
 ·rename_i M q;obtain⟨b,o,m,R⟩:=cm r q;split at h
  ·rename_i O C;simp at h;obtain⟨_,rfl⟩:=h;obtain⟨Q,p,z⟩:=R.values;obtain⟨u,e,f⟩:=oA (P:=P) (w:=w) C (o:=o) p (fun j u e=>r.fin.mem.agree _ _ _ (z j u e))
   exact⟨u,by rw[m];simpa [Instr.loadAt,Instr.sureAddr] using e,f⟩
  ·cases h
 ·rename_i k W i L q;obtain⟨b,n,c,S,m⟩:=cm r q;split at h
  ·rename_i τ l E M J;cases I:Nat.beq W τ.sz<;>rw[I]at h<;>simp at h
   have I:=qN I;subst I;split at h
   ·rename_i O C;simp at h;obtain⟨rfl,rfl⟩:=h;simp[ay,and_true]at hp;obtain⟨x0,K,rfl⟩:=hp;obtain⟨X,Y,p,A⟩:=r.fin.mem.holds _ _ J;have z:∀y∈l,(τ.enc y).length=τ.sz:=fun y _=>τ.enc_length y
    rw[S]at p;simp at p;obtain⟨rfl,rfl,rfl⟩:=p;rcases A with⟨A,_⟩|⟨g,Q,Z,N,U,k3,k4,k5,k6,V,k8,k9⟩
    ·cases A
    ·simp at N;subst N;have F:=nZ τ.sz (Ai (i*τ.sz) V);rw[K8 z K]at F;obtain⟨u,e,f⟩:=oA (P:=P) (w:=w) C (o:=i*τ.sz) F (fun j u e=>by
      rw[List.getElem?_take]at e;split at e
      ·rw[List.getElem?_drop,List.getElem?_take]at e;split at e
       ·exact cell_of_heap U e
       ·cases e
      ·cases e)
     exact⟨u,by rw[m];simpa [Instr.loadAt,Instr.sureAddr] using e,f.le (Gh.data_le_self G)⟩
   ·cases h
  ·cases h
 ·cases h
def qc8(k:IntKind)(b:k ≠ .i8)(c:UInt8):k.wrap (c.toNat:Int)=c.toNat:=by
 have:=c.toNat_lt;cases k<;>simp[IntKind.wrap,IntKind.bits,IntKind.signed]at *<;>omega
def qu0(n:Int):IntKind.u8.wrap n=((kw n).toNat:Int):=by
 have b:(n%256).toNat<256:=Ta
 unfold kw;rw[Fi _ b];simp[IntKind.wrap,IntKind.bits,IntKind.signed];omega
def Js{src dst:TypeId}{x:AV}{c:Value}{ps:List Prop}{v:AV}(e:P.underlying src≠none)(f:ai x G c)(h:we P dst x=some (ps,v)):∃u,(convert src dst c).run P w = .ok u w/\ai v G u:=by
 obtain⟨o,e⟩:=Option.ne_none_iff_exists'.1 e;unfold we at h;split at h
 ·rename_i k j n b;simp[ai]at f;subst f;cases g:decide (k = .u8)<;>rw[g]at h<;>simp at h<;>obtain⟨_,rfl⟩:=h
  ·exact⟨_,by simp[convert,ce e,ce b,Conv.intToInt],rfl⟩
  ·have d:k = .u8:=by simpa using g
   subst d;exact⟨.int .u8 (IntKind.u8.wrap n),by simp[convert,ce e,ce b,Conv.intToInt],by simp[ai];rw[qu0]⟩
 ·rename_i k m b;simp[ai]at f;subst f;cases g:decide (k = .u8)<;>rw[g]at h<;>simp only[qT,qF]at h
  ·cases i:decide (k = .i8)<;>rw[i]at h<;>simp only[qT,qF]at h
   ·simp only[qI,qP]at h;obtain⟨_,rfl⟩:=h;refine⟨.int k (k.wrap m.toNat),by simp[convert,ce e,ce b,Conv.intToInt],?_⟩
    simp only[ai];rw[qc8 _ (by simpa using i)]
   ·cases h
  ·simp only[qI,qP]at h;obtain⟨_,rfl⟩:=h;have d:k = .u8:=by simpa using g
   subst d;refine⟨.int .u8 (IntKind.u8.wrap m.toNat),by simp[convert,ce e,ce b,Conv.intToInt],?_⟩
   simp[ai];rw[qc8 _ Te]
 ·rename_i l b;simp[ai]at f;subst f;simp at h;obtain⟨_,rfl⟩:=h;exact⟨_,by simp[convert,ce e,ce b],rfl⟩
 ·cases h
def qhj{t:TypeId}{x:AV}{c:Value}{f:Nat}{ps:List Prop}{v:AV}(r:ai x G c)(h:Df P t x f=some (ps,v)):∃u,(Instr.field t c f).run P w = .ok u w/\ai v G u:=by
 unfold Df at h;split at h
 ·rename_i y o k;obtain⟨m,rfl,l⟩:=r;split at h
  ·rename_i d j;split at h
   ·rename_i z b;simp at h;obtain⟨_,rfl⟩:=h;unfold l8 at b;split at b
    ·rename_i e;split at b
     ·rename_i n q;cases p:Nat.ble (d.offset+n) o.length<;>rw[p]at b<;>simp at b
      subst b;refine⟨.agg (m.extract d.offset (d.offset+n)),by simp[Instr.field,ce k,j,asAgg,part,zu e,ku q],_,rfl,?_⟩
      have:=nZ n (Ai d.offset l);simpa [List.extract_eq_take_drop] using this
     ·cases b
    ·rename_i e;obtain⟨u,i,g⟩:=ni l b;refine⟨u,?_,g⟩;have:m[d.offset]? = some u:=by simpa using i
     simp[Instr.field,ce k,j,asAgg,part,zu e,this]
    ·cases b
   ·cases h
  ·cases h
 ·cases h
def qhi{t:TypeId}{x:AV}{c:Value}{f:Nat}{ps:List Prop}{v:AV}(q:ai x G c)(h:Dg P t x f=some (ps,v)):∃u,(Instr.fieldAt t c f).run P w = .ok u w/\ai v G u:=by
 unfold Dg at h;split at h
 ·rename_i I p;split at h
  ·rename_i y l;split at h
   ·rename_i C m;cases A:Nat.beq C 0<;>rw[A]at h<;>simp at h
    have g:C≠0:=by intro e;subst e;simp at A
    have d:∀(b o n:Nat),Addr.add ⟨b,o,none⟩ n=⟨b,o+n,none⟩:=fun b o n=>by unfold Addr.add;split<;>simp_all
    split at h
    ·rename_i b r;obtain⟨B,j,rfl⟩:=q;simp at h;obtain⟨_,rfl⟩:=h;exact⟨_,by simp[Instr.fieldAt,ce p,l,Instr.sureAddr,fieldPlace,ku m,g,d],B,j,rfl⟩
    ·rename_i E;obtain⟨b,o,rfl,F⟩:=q;cases z:Nat.ble y.offset E.length<;>rw[z]at h<;>simp at h
     obtain⟨_,rfl⟩:=h;exact⟨_,by simp[Instr.fieldAt,ce p,l,Instr.sureAddr,fieldPlace,ku m,g,d],b,o+y.offset,rfl,F.drop _ (by simpa using z)⟩
    ·rename_i k H i r;obtain⟨b,n,c,j,rfl⟩:=q;simp at h;obtain⟨_,rfl⟩:=h;exact⟨_,by simp[Instr.fieldAt,ce p,l,Instr.sureAddr,fieldPlace,ku m,g,d];rfl,b,n,c,j,Td⟩
    ·cases h
   ·cases h
  ·cases h
 ·cases h
end
section
variable{P:Program}{q72:World}{q7w:Gh}{q7z:List (Nat×ag)}{G:Gh}{s:St}{a:Act}{w:World}
def qhs{b:BinOp}{k:IntKind}{x y:Int}{t:TypeId}{ps:List Prop}{v:AV}(h:lZ b k x y=some (ps,v))(hp:ay ps):∃u,(binOp b t (.int k x) (.int k y)).run P w = .ok u w/\ai v G u:=by
 cases b<;>simp[lZ,qI,qP]at h<;>obtain⟨rfl,rfl⟩:=h<;>simp[ay,and_true]at hp
 case quo=>exact⟨_,by simp[binOp,Op.intDiv,hp],rfl⟩
 case rem=>exact⟨_,by simp[binOp,Op.intDiv,hp],rfl⟩
 case shl=>exact⟨_,by simp[binOp,Op.shift,show ¬y<0 by omega],rfl⟩
 case shr=>exact⟨_,by simp[binOp,Op.shift,show ¬y<0 by omega],rfl⟩
 all_goals first
  |exact⟨_,by simp[binOp,Op.intArith,Op.intBits,Op.intCmp],rfl⟩
  |exact⟨_,by simp[binOp,Op.intArith,Op.intBits,Op.intCmp];rfl,rfl⟩
def zz(n:Int)(c:UInt8)(h:n%256=c.toNat):IntKind.u8.wrap n=c.toNat:=by
 simp[IntKind.wrap,IntKind.bits,IntKind.signed];omega
def qhq{d:BinOp}{x y:UInt8}{t:TypeId}{ps:List Prop}{v:AV}(h:Dh d x y=some (ps,v))(hp:ay ps):∃u,(binOp d t (.int .u8 x.toNat) (.int .u8 y.toNat)).run P w = .ok u w/\ai v G u:=by
 have g:=x.toNat_lt;have i:=y.toNat_lt;cases d<;>simp only[Dh,qI,qP,reduceCtorEq]at h<;>obtain⟨rfl,rfl⟩:=h<;>simp only[ay,and_true]at hp
 case add=>exact⟨.int .u8 (IntKind.u8.wrap (x.toNat+y.toNat)),by simp[binOp,Op.intArith],by simp only[ai];rw[zz _ (x+y) (by rw[UInt8.toNat_add];omega)]⟩
 case sub=>exact⟨.int .u8 (IntKind.u8.wrap (x.toNat-y.toNat)),by simp[binOp,Op.intArith],by simp only[ai];rw[zz _ (x-y) (by rw[UInt8.toNat_sub];omega)]⟩
 case mul=>exact⟨.int .u8 (IntKind.u8.wrap (x.toNat*y.toNat)),by simp[binOp,Op.intArith],by simp only[ai];rw[zz _ (x*y) (by rw[UInt8.toNat_mul];simp)]⟩
 case quo=>
  have c:(y.toNat:Int)≠0:=by intro e;apply hp;apply UInt8.toNat_inj.1;simp;omega
  refine⟨.int .u8 (IntKind.u8.wrap ((x.toNat:Int).tdiv y.toNat)),by simp[binOp,Op.intDiv];omega,?_⟩
  simp only[ai];rw[zz _ (x/y)];rw[UInt8.toNat_div,Int.tdiv_eq_ediv_of_nonneg Ta]
  have:x.toNat/y.toNat<=x.toNat:=Nat.div_le_self _ _;rw[← Int.natCast_ediv];generalize x.toNat/y.toNat=q at *;omega
 case rem=>
  have c:(y.toNat:Int)≠0:=by intro e;apply hp;apply UInt8.toNat_inj.1;simp;omega
  refine⟨.int .u8 ((x.toNat:Int).tmod y.toNat),by simp[binOp,Op.intDiv];omega,?_⟩
  simp only[ai];rw[UInt8.toNat_mod,Int.tmod_eq_emod_of_nonneg Ta];simp
 case eql=>exact⟨.bool ((x.toNat:Int)==y.toNat),by simp[binOp,Op.intCmp],by simp only[ai];congr 1;rw[Bool.eq_iff_iff];simp[← UInt8.toNat_inj];omega⟩
 case neq=>exact⟨.bool ((x.toNat:Int) != y.toNat),by simp[binOp,Op.intCmp],by simp only[ai];congr 1;rw[Bool.eq_iff_iff];simp[← UInt8.toNat_inj];omega⟩
 case lss=>exact⟨.bool (decide ((x.toNat:Int)<y.toNat)),by simp[binOp,Op.intCmp],by simp only[ai];congr 1;rw[Bool.eq_iff_iff];simp[UInt8.lt_iff_toNat_lt]⟩
 case leq=>exact⟨.bool (decide ((x.toNat:Int)<=y.toNat)),by simp[binOp,Op.intCmp],by simp only[ai];congr 1;rw[Bool.eq_iff_iff];simp[UInt8.le_iff_toNat_le]⟩
 case gtr=>exact⟨.bool (decide ((x.toNat:Int)>y.toNat)),by simp[binOp,Op.intCmp],by simp only[ai];congr 1;rw[Bool.eq_iff_iff];simp[UInt8.lt_iff_toNat_lt]⟩
 case geq=>exact⟨.bool (decide ((x.toNat:Int) ≥ y.toNat)),by simp[binOp,Op.intCmp],by simp only[ai];congr 1;rw[Bool.eq_iff_iff];simp[UInt8.le_iff_toNat_le]⟩
 case and=>
  refine⟨_,by simp[binOp,Op.intBits];rfl,?_⟩
  simp only[ai];rw[zz _ (x&&&y)];have b:=(x&&&y).toNat_lt;rw[UInt8.toNat_and]at b;simp[IntKind.bits];omega
 case or=>
  refine⟨_,by simp[binOp,Op.intBits];rfl,?_⟩
  simp only[ai];rw[zz _ (x|||y)];have b:=(x|||y).toNat_lt;rw[UInt8.toNat_or]at b;simp[IntKind.bits];omega
 case xor=>
  refine⟨_,by simp[binOp,Op.intBits];rfl,?_⟩
  simp only[ai];rw[zz _ (x ^^^ y)];have b:=(x ^^^ y).toNat_lt;rw[UInt8.toNat_xor]at b;simp[IntKind.bits];omega
 case shl=>
  refine⟨.int .u8 (IntKind.u8.wrap (x.toNat*2 ^ min y.toNat 8)),by simp[binOp,Op.shift,IntKind.bits,show ¬(y.toNat:Int)<0 by omega],?_⟩
  simp[ai];rw[zz _ (dM x (min y.toNat 8))];simp[dM,UInt8.toNat_ofNat']
 case shr=>
  refine⟨.int .u8 ((x.toNat:Int).fdiv (2 ^ min y.toNat 8)),by simp[binOp,Op.shift,IntKind.bits,show ¬(y.toNat:Int)<0 by omega],?_⟩
  simp[ai];congr 1;have f:x.toNat/2 ^ min y.toNat 8<=x.toNat:=Nat.div_le_self _ _;unfold Fm;rw[Fi _,Int.fdiv_eq_ediv_of_nonneg _ (by exact Int.le_of_lt (Int.pow_pos Ta))]
  simp
def qht{b:BinOp}{x y:List UInt8}{t:TypeId}{ps:List Prop}{v:AV}(h:Dj b x y=some (ps,v))(hp:ay ps):∃u,(binOp b t (.string ⟨x.toArray⟩) (.string ⟨y.toArray⟩)).run P w = .ok u w/\ai v G u:=by
 cases b<;>simp[Dj,qI,qP,reduceCtorEq]at h<;>obtain⟨rfl,rfl⟩:=h<;>simp[ay,and_true]at hp
 case add=>
  unfold bg at hp;refine⟨.string (⟨x.toArray⟩++⟨y.toArray⟩),?_,?_⟩
  ·have c:(⟨x.toArray⟩:ByteArray).size=x.length:=by simp[ByteArray.size]
   have d:(⟨y.toArray⟩:ByteArray).size=y.length:=by simp[ByteArray.size]
   have:¬((x.length+y.length:Nat):Int)>IntKind.i64.max:=by simp[IntKind.max,IntKind.signed,IntKind.bits];omega
   simp[binOp,Op.stringOp,c,d];simpa using this
  ·simp[ai];congr 1
 all_goals exact⟨_,by simp[binOp,Op.stringOp],rfl⟩
def J6{t:TypeId}{x y:AV}{u v:Value}{b:Bool}{d:Nat}(h:yz P t x y=some b)(c:ai x G u)(e:ai y G v):(Op.equalIn (d+1) t u v).run P w = .ok b w:=by
 unfold yz at h;split at h
 ·rename_i l k a j g f;simp[ai]at c e;subst c e;cases i:decide (k=j)<;>rw[i]at h<;>simp at h
  subst h;have:k=j:=by simpa using i
  subst this;simp[Op.equalIn,ce f]
 ·rename_i l a g f;simp[ai]at c e;subst c e;simp at h;subst h;simp[Op.equalIn,ce f];rw[Bool.eq_iff_iff];simp[← UInt8.toNat_inj];omega
 ·rename_i a g f;simp[ai]at c e;subst c e;simp at h;subst h;simp[Op.equalIn,ce f]
 ·rename_i a g f;simp[ai]at c e;subst c e;simp at h;subst h;simp[Op.equalIn,ce f,beq_toListBytes]
 ·cases h
def qb3{t:TypeId}{x y:AV}{b:Bool}(h:yz P t x y=some b):iJ P t=some false:=by
 unfold yz at h;unfold iJ;split at h<;>first|(rename_i c;rw[c])|cases h
def P4{xs ys:List AV}{us vs:Array Value}(hx:ao xs G us.toList)(hy:ao ys G vs.toList){d:Nat}:∀{fs:List Field}{b:Bool},xW P xs ys fs=some b->(Op.eqFields (d+1) us vs fs).run P w = .ok b w
 |[],b,h=>by simp[xW]at h;subst h;simp[Op.eqFields]|f::fs,b,h=>by
  simp[xW]at h;cases hn : f.name == "_" <;> rw [hn] at h <;> simp at h
  split at h
  ·rename_i x y hxx hyy;split at h
   ·cases h
   ·rename_i b1 hb1;split at h
    ·cases h
    ·rename_i r hrr;simp at h;subst h;obtain⟨u,hu,hru⟩:=ni hx hxx;obtain⟨v,hv,hrv⟩:=ni hy hyy;have hagg:=qb3 hb1;have p1:(part f.type us f.offset).run P w = .ok u w:=by
      have:us[f.offset]? = some u:=by simpa using hu
      simp[part,zu hagg,this]
     have p2:(part f.type vs f.offset).run P w = .ok v w:=by
      have:vs[f.offset]? = some v:=by simpa using hv
      simp[part,zu hagg,this]
     have ih:=P4 hx hy (d:=d) hrr;have hn' : ¬ f.name = "_" := by simpa using hn
     have he:=J6 (P:=P) (w:=w) (d:=d) hb1 (ix hru) (ix hrv);simp only[Op.eqFields,hn',ne_eq,not_false_eq_true,if_true,Sem.run_bind,p1,p2,Result.andThen_ok,he];cases b1<;>simp[ih]
  ·cases h
def P3{us vs:Array Value}{d:Nat}{E:TypeId}:∀{xs o:List AV}{b:Bool}{k:Nat},xV P E xs o=some b->ao xs G (us.toList.drop k)->ao o G (vs.toList.drop k)->(Op.eqItems (d+1) E 1 us vs (List.range' k xs.length)).run P w = .ok b w
 |[],[],b,k,h,_,_=>by simp only[xV,qI]at h;subst h;simp[Op.eqItems]|x::xs,y::o,b,k,h,hx,hy=>by
  simp only[xV]at h;split at h
  ·cases h
  ·rename_i z e;split at h
   ·cases h
   ·rename_i r f;simp only[qI]at h;subst h;obtain⟨u,p,g⟩:=ni hx (i:=0) (x:=x) rfl;obtain⟨v,q,j⟩:=ni hy (i:=0) (x:=y) rfl;rw[List.getElem?_drop,Nat.add_zero]at p q;have m:us[k]? = some u:=by simpa using p
    have n:vs[k]? = some v:=by simpa using q
    have c:=qb3 e;have C:(part E us (k*1)).run P w = .ok u w:=by simp[part,zu c,m]
    have F:(part E vs (k*1)).run P w = .ok v w:=by simp[part,zu c,n]
    have A:=J6 (P:=P) (w:=w) (d:=d) e (ix g) (ix j);have t:∀{x:AV}{xs:List AV}{l:List Value},ao (x::xs) G l->ao xs G (l.drop 1):=fun{x xs l} h=>by
     match l,h with|_::_,h=>exact h.2
    have B:=P3 (d:=d) (k:=k+1) f (by have:=t hx;rwa [List.drop_drop]at this) (by have:=t hy;rwa [List.drop_drop]at this)
    simp only[qL,List.range'_succ,Op.eqItems,Sem.run_bind,C,F,Result.andThen_ok,A];cases z<;>simp[B]
 |[],_::_,_,_,h,_,_=>by cases h
 |_::_,[],_,_,h,_,_=>by cases h
def qh2{t:TypeId}{x y:AV}{u v:Value}{b:Bool}(h:yy P t x y=some b)(l:ai x G u)(m:ai y G v):(Op.equal t u v).run P w = .ok b w:=by
 unfold yy at h;split at h
 ·rename_i B C;split at h
  ·rename_i c j;obtain⟨o,rfl,f⟩:=l;obtain⟨p,rfl,g⟩:=m;cases e:P.stoodInHeld t||P.eqGuardType P.depth t<;>rw[e]at h<;>simp at h
   simp at e;have q:P.fieldsOf t=c:=by simp[Program.fieldsOf,j]
   unfold Op.equal Op.maxDepth;rw[show 10000=9998+1+1 by rfl,run_equalIn_struct w _ t o p (by rw[q,j]) e.1,q]
   exact P4 f g h
  ·rename_i n E j;obtain⟨o,rfl,f⟩:=l;obtain⟨p,rfl,g⟩:=m;cases e:P.eqGuardType P.depth t || !(Nat.beq B.length n)<;>rw[e]at h<;>simp at h
   simp only[Bool.or_eq_false_iff,Bool.not_eq_false']at e;have A:=qN e.2;split at h
   ·rename_i i r;cases k:Nat.beq i.size 1<;>rw[k]at h<;>simp at h
    have k:=qN k;unfold Op.equal Op.maxDepth;have z:P.cellsOf E=1:=by simp[Program.cellsOf,r,k]
    rw[show 10000=9998+1+1 by rfl,run_equalIn_array w _ o p j r,z,← A,List.range_eq_range']
    exact P3 h (by simpa using f) (by simpa using g)
   ·cases h
  ·cases h
 ·unfold Op.equal Op.maxDepth;exact J6 (d:=9999) h l m
end
section
variable{P:Program}{q72:World}{q7w:Gh}{q7z:List (Nat×ag)}{G:Gh}{s:St}{a:Act}{w:World}
def ql0{g:BinOp}{t:TypeId}{x y:Operand}{c e:Value}(d:∀xs b,c = .agg xs->e = .agg b->P.eqGuardType P.depth t=false)(f:c ≠ .nilIface):(eqGuard g t x y c e).run P w = .ok () w:=by
 cases c with
 |agg xs=>
  cases e with|agg b=>have h:=d xs b rfl rfl;simp[eqGuard,h]|_=>simp[eqGuard]
 |nilIface=>exact absurd rfl f|_=>simp[eqGuard]
def Kw{j:BinOp}{t:TypeId}{x y:Operand}{u v:AV}{c e:Value}(d:ai u G c)(o:ai v G e){ps:List Prop}{r:AV}(h:yw P j t u v=some (ps,r)):(eqGuard j t x y c e).run P w = .ok () w:=by
 have i:(∀k l,c = .agg k->e = .agg l->P.eqGuardType P.depth t=false)/\c ≠ .nilIface:=by
   unfold yw at h;split at h
   ·simp[ai]at d;subst d;exact⟨Te,Te⟩
   ·simp[ai]at d;subst d;exact⟨Te,Te⟩
   ·simp[ai]at d;subst d;exact⟨Te,Te⟩
   ·simp[ai]at d;subst d;exact⟨Te,Te⟩
   ·simp[ai]at d;subst d;exact⟨Te,Te⟩
   ·have m:∃b,yy P t u v=some b:=by
     cases n:yy P t u v with|some b=>exact⟨b,rfl⟩|none=>rw[n]at h;revert h;cases j<;>simp
    obtain⟨b,f⟩:=m;unfold yy at f;split at f
    ·obtain⟨p,rfl,_⟩:=d;refine⟨fun k l _ _ => ?_,Te⟩
     split at f
     ·cases g:P.stoodInHeld t||P.eqGuardType P.depth t<;>rw[g]at f<;>simp at f
      simp at g;exact g.2
     ·cases g:P.eqGuardType P.depth t
      ·rfl
      ·rw[g]at f;cases f
     ·cases f
    ·unfold yz at f;split at f<;>first|(simp[ai]at d;subst d;exact⟨Te,Te⟩)|cases f
 exact ql0 i.1 i.2
def Jx{j:BinOp}{t:TypeId}{x y:AV}{u v:Value}(c:ai x G u)(d:ai y G v){ps:List Prop}{r:AV}(h:yw P j t x y=some (ps,r))(hp:ay ps):∃z,(binOp j t u v).run P w = .ok z w/\ai r G z:=by
 unfold yw at h;split at h
 ·rename_i k a m b;simp[ai]at c d;subst c d;cases l:decide (j = .shl)||decide (j = .shr)||decide (k=m)<;>rw[l]at h<;>simp at h
  cases g:decide (k = .u8)||decide (m = .u8)<;>rw[g]at h<;>simp at h
  by_cases f:k=m
  ·subst f;exact qhs h hp
  ·simp only[f,decide_false,Bool.or_false,Bool.or_eq_true,decide_eq_true_eq]at l;rcases l with rfl|rfl
   ·simp[lZ,qI,qP]at h;obtain⟨rfl,rfl⟩:=h;simp[ay,and_true]at hp;exact⟨_,by simp[binOp,Op.shift,show ¬b<0 by omega],rfl⟩
   ·simp[lZ,qI,qP]at h;obtain⟨rfl,rfl⟩:=h;simp[ay,and_true]at hp;exact⟨_,by simp[binOp,Op.shift,show ¬b<0 by omega],rfl⟩
 ·simp[ai]at c d;subst c d;exact qhq h hp
 ·rename_i a k b;simp[ai]at c d;subst c d;split at h
  ·simp at h;obtain⟨rfl,rfl⟩:=h;simp[ay,and_true]at hp;refine⟨.int .u8 (IntKind.u8.wrap (a.toNat*2 ^ min b.toNat 8)),by simp[binOp,Op.shift,IntKind.bits,show ¬b<0 by omega],?_⟩
   simp[ai];rw[zz _ (dM a (min b.toNat 8))];simp[dM,UInt8.toNat_ofNat']
  ·simp at h;obtain⟨rfl,rfl⟩:=h;simp[ay,and_true]at hp;refine⟨.int .u8 ((a.toNat:Int).fdiv (2 ^ min b.toNat 8)),by simp[binOp,Op.shift,IntKind.bits,show ¬b<0 by omega],?_⟩
   simp[ai];congr 1;have p:a.toNat/2 ^ min b.toNat 8<=a.toNat:=Nat.div_le_self _ _;have:=a.toNat_lt;unfold Fm;rw[Fi _,Int.fdiv_eq_ediv_of_nonneg _ (by exact Int.le_of_lt (Int.pow_pos Ta))]
   simp
  ·cases h
 ·rename_i k a b;simp[ai]at c d;subst c d;cases g:decide (k = .u8)<;>rw[g]at h<;>simp at h
  split at h
  ·simp at h;obtain⟨rfl,rfl⟩:=h;exact⟨_,by simp[binOp,Op.shift,show ¬(b.toNat:Int)<0 by omega],rfl⟩
  ·simp at h;obtain⟨rfl,rfl⟩:=h;exact⟨_,by simp[binOp,Op.shift,show ¬(b.toNat:Int)<0 by omega],rfl⟩
  ·cases h
 ·simp[ai]at c d;subst c d;exact qht h hp
 ·rename_i n n2 q n4 o
  --==and != of other values
  have i:∀b,yy P t x y=some b->(binOp .eql t u v).run P w = .ok (.bool b) w/\(binOp .neq t u v).run P w = .ok (.bool (!b)) w:=by
   intro b e;have f:=qh2 (w:=w) e c d;unfold yy at e;split at e
   ·obtain⟨A,rfl,_⟩:=c;obtain⟨B,rfl,_⟩:=d;exact⟨by simp[binOp,f],by simp[binOp,f]⟩
   ·unfold yz at e;split at e
    ·exact absurd rfl (n _ _ _ _ rfl)
    ·exact absurd rfl (n2 _ _ rfl)
    ·simp[ai]at c d;subst c d;exact⟨by simp[binOp,f],by simp[binOp,f]⟩
    ·exact absurd rfl (o _ _ rfl)
    ·cases e
  split at h
  ·split at h
   ·rename_i b e;simp at h;obtain⟨rfl,rfl⟩:=h;exact⟨_,(i b e).1,rfl⟩
   ·cases h
  ·split at h
   ·rename_i b e;simp at h;obtain⟨rfl,rfl⟩:=h;exact⟨_,(i b e).2,rfl⟩
   ·cases h
  ·cases h
def qhr{f:BinOp}{t:TypeId}{x y:AV}{u v:Value}(b:ai x G u)(c:ai y G v){ps:List Prop}{r:AV}(h:Di P f t x y=some (ps,r))(hp:ay ps):(∃z,(binOp f t u v).run P w = .ok z w/\ai r G z)/\∀(d e:Operand),(eqGuard f t d e u v).run P w = .ok () w:=by
 unfold Di at h;split at h
 ·split at h
  ·rename_i k g;simp at h;obtain⟨rfl,rfl⟩:=h;obtain⟨z,i,j⟩:=Jx (w:=w) (ix b) (ix c) g hp;exact⟨⟨z,i,qac j⟩,fun d e=>Kw (ix b) (ix c) g⟩
  ·exact⟨Jx (ix b) (ix c) h hp,fun d e=>Kw (ix b) (ix c) h⟩
 ·exact⟨Jx (ix b) (ix c) h hp,fun d e=>Kw (ix b) (ix c) h⟩
def qiv{d:UnOp}{x:AV}{u:Value}(b:ai x G u){r:AV}(h:JI d x=some r):∃z,(Op.unary d u).run P w = .ok z w/\ai r G z:=by
 unfold JI at h;split at h
 ·simp[ai]at b;subst b;simp at h;subst h;exact⟨_,by simp[Op.unary],rfl⟩
 ·simp[ai]at b;subst b;simp at h;subst h;exact⟨_,by simp[Op.unary],rfl⟩
 ·rename_i k n;simp[ai]at b;subst b;cases c:decide (k = .u8)<;>rw[c]at h<;>simp only[qT,qF,reduceCtorEq,qI]at h
  subst h;exact⟨.int k (k.wrap (0-n)),by simp[Op.unary,Op.intArith],rfl⟩
 ·rename_i k n;simp[ai]at b;subst b;simp only[qI]at h;subst h;exact⟨.int k (k.wrap (0-n)),by simp[Op.unary,Op.intArith],rfl⟩
 ·cases h
def EL:∀{xs:List AV}{vs:List Value},ao xs G vs->ao (xs.map AV.sym) G vs|[],[],_=>trivial|_::_,_::_,h=>⟨ix h.1,EL h.2⟩|[],_::_,h=>h.elim|_::_,[],h=>h.elim
def qhl{t:TypeId}{x i:AV}{u j:Value}{d:D}(g:ai x G u)(e:ai i G j){ps:List Prop}{r:AV}(h:xN P t x i d=some (ps,r))(hp:ay ps):∃z,(Instr.index t u j).run P w = .ok z w/\ai r G z:=by
 unfold xN at h;split at h
 ·rename_i b k n c f;simp[ai]at g e;subst g e;simp at h;obtain⟨rfl,rfl⟩:=h;simp[ay,and_true]at hp;obtain⟨o,m⟩:=hp;refine⟨.int .u8 c.toNat,?_,rfl⟩;have:(⟨b.toArray⟩:ByteArray)[n.toNat]? = some c:=by
   rw[show(⟨b.toArray⟩:ByteArray)[n.toNat]? = b.toArray[n.toNat]? from rfl];simpa using m
  simp[Instr.index,asIntOf,ce f,o,this]
 ·rename_i b n c f;simp[ai]at g e;subst g e;simp at h;obtain⟨rfl,rfl⟩:=h;simp[ay,and_true]at hp;refine⟨.int .u8 c.toNat,?_,rfl⟩;have:(⟨b.toArray⟩:ByteArray)[n.toNat]? = some c:=by
   rw[show(⟨b.toArray⟩:ByteArray)[n.toNat]? = b.toArray[n.toNat]? from rfl];simpa using hp
  simp[Instr.index,asIntOf,ce f,this]
 ·rename_i l E B k n x f;obtain⟨I,rfl,H⟩:=g;simp[ai]at e;subst e;split at h
  ·rename_i F v;cases A:Nat.beq B.length l<;>rw[A]at h<;>simp only[qT,qF,reduceCtorEq,qI,qP]at h
   obtain⟨rfl,rfl⟩:=h;simp only[ay,and_true]at hp;obtain⟨o,m⟩:=hp;have p:=(List.getElem?_eq_some_iff.1 m).1;rw[wC]at p;have J:=qN A;obtain⟨u,y,q⟩:=ni (EL H) m;refine⟨u,?_,q⟩;have C:I[n.toNat]? = some u:=by simpa using y
   simp[Instr.index,asIntOf,ce f,o,show n<(l:Int) by omega,part,zu F,ku v,C]
  ·cases h
 ·cases h
def qhh{src dst:TypeId}{x:AV}{c:Value}{ps:List Prop}{v:AV}(b:P.underlying src≠none)(d:ai x G c)(h:bU P dst x=some (ps,v)):∃u,(convert src dst c).run P w = .ok u w/\ai v G u:=by
 unfold bU at h;split at h
 ·split at h
  ·rename_i i g;simp at h;obtain⟨rfl,rfl⟩:=h;obtain⟨z,e,f⟩:=Js (w:=w) b (ix d) g;exact⟨z,e,qac f⟩
  ·exact Js b (ix d) h
 ·exact Js b (ix d) h
end
section
variable{P:Program}{q72:World}{q7w:Gh}{q7z:List (Nat×ag)}{G:Gh}{s:St}{a:Act}{w:World}
def qu(b o n:Nat):Addr.add ⟨b,o,none⟩ n=⟨b,o+n,none⟩:=by unfold Addr.add;split<;>simp_all
def qhk(S:aj q72 q7w q7z G s a w){t:TypeId}{x i:AV}{u j:Value}{d:D}(J:ai x G u)(I:ai i G j){ps:List Prop}{r:AV}(h:lX P s t x i d=some (ps,r))(hp:ay ps) :
  ∃z,(Instr.indexAt t u j).run P w = .ok z w/\ai r G z:=by
 unfold lX at h;split at h
 ·rename_i E H;split at h
  ·rename_i f k n e;simp[ai]at I;subst I;split at h
   ·rename_i τ l Y;cases F:Nat.beq τ.sz f<;>rw[F]at h<;>simp at h
    have y:τ.sz=f:=by simpa using F
    subst y;obtain⟨rfl,rfl⟩:=h;simp[ay,and_true]at hp;obtain⟨C,x,A,rfl⟩:=hp;obtain⟨O,c,rfl,hc,L⟩:=J;have q:n.toNat<l.length:=(List.getElem?_eq_some_iff.1 A).1;rcases L with rfl|⟨b,o,rfl,p⟩
    ·simp at A
    ·refine⟨.pointer (some ⟨b,o+n.toNat*τ.sz,none⟩),?_,b,o+n.toNat*τ.sz,rfl,xu.2 (p _ _ A)⟩;simp[Instr.indexAt,asIntOf,ce H,C,show n<(l.length:Int) by omega,ku e,qu]
   ·rename_i kk Z;split at h
    ·rename_i τ l V R;cases F:Nat.beq τ.sz f<;>rw[F]at h<;>simp at h
     have y:τ.sz=f:=by simpa using F
     subst y;obtain⟨rfl,rfl⟩:=h;simp[ay,and_true]at hp;obtain⟨C,q⟩:=hp;obtain⟨O,c,N,L⟩:=S.fin.mem.holds _ _ R;obtain⟨Q,n',W,v,rfl⟩:=J;rw[N]at v;simp at v;obtain⟨rfl,rfl,rfl⟩:=v;rcases L with⟨_,rfl,_⟩|⟨g,vs,fz,rfl,_⟩
     ·simp at q
     ·refine⟨.pointer (some ⟨g,n.toNat*τ.sz,none⟩),?_,g,_,_,N,Te⟩
      simp[Instr.indexAt,asIntOf,ce H,C,show n<(l.length:Int) by omega,ku e,qu]
    ·cases h
   ·rename_i kb m X;simp at h;obtain⟨rfl,rfl⟩:=h;simp[ay,and_true]at hp;obtain⟨C,q⟩:=hp;obtain⟨B,K,_,rfl⟩:=J;refine⟨.pointer (some ⟨B,n.toNat*f,none⟩),?_,B,K,rfl⟩;simp[Instr.indexAt,asIntOf,ce H,C,show n<(m:Int) by omega,ku e,qu]
   ·cases h
  ·cases h
 ·rename_i T E H;split at h
  ·rename_i U k n b M e;simp[ai]at I;subst I;simp at h;obtain⟨rfl,rfl⟩:=h;simp[ay,and_true]at hp;obtain⟨B,K,rfl⟩:=J;refine⟨.pointer (some ⟨B,M+n.toNat*U,none⟩),?_,B,K,rfl⟩;simp[Instr.indexAt,asIntOf,ce H,hp,ku e,qu,Instr.sureAddr]
  ·cases h
 ·cases h
def qhm(o:aj q72 q7w q7z G s a w){t ty:TypeId}{x:AV}{u:Value}(f:ai x G u){ps:List Prop}{r:AV}(h:xO P s t x=some (ps,r)):∃z,(Builtin.len_ #[t] ty #[u]).run P w = .ok z w/\ai r G z:=by
 unfold xO at h;split at h
 ·rename_i b d;simp[ai]at f;subst f;simp at h;obtain⟨_,rfl⟩:=h;have g:(⟨b.toArray⟩:ByteArray).size=b.length:=by simp[ByteArray.size]
  exact⟨goInt b.length,by simp[Builtin.len_,ce d,g],rfl⟩
 ·rename_i E τ l d;obtain⟨i,c,rfl,_⟩:=f;simp at h;obtain⟨_,rfl⟩:=h;exact⟨goInt l.length,by simp[Builtin.len_,ce d],rfl⟩
 ·rename_i E k d;split at h
  ·rename_i τ l p g;obtain⟨i,c,m,v⟩:=o.fin.mem.holds _ _ g;obtain⟨j,y,q,e,rfl⟩:=f;rw[m]at e;simp at e;obtain⟨rfl,rfl,rfl⟩:=e;simp at h;obtain⟨_,rfl⟩:=h;exact⟨goInt l.length,by simp[Builtin.len_,ce d],rfl⟩
  ·cases h
 ·rename_i E d;simp[ai]at f;subst f;simp at h;obtain⟨_,rfl⟩:=h;exact⟨goInt 0,by simp[Builtin.len_,ce d],rfl⟩
 ·rename_i E b n c d;obtain⟨B,_,_,rfl⟩:=f;simp at h;obtain⟨_,rfl⟩:=h;exact⟨goInt n,by simp[Builtin.len_,ce d],rfl⟩
 ·cases h
def Re:∀{c:List Field}{r:List (Nat×Nat)},yY P c=some r->c.mapM (fun f=>(P.info? f.type).map fun i=>(f.offset,i.size))=some r
 |[],r,h=>by simp[yY,qI]at h;subst h;rfl|f::c,r,h=>by
  simp[yY]at h;split at h
  ·cases h
  ·rename_i n b;split at h
   ·cases h
   ·rename_i g d;simp at h;subst h;unfold gw at b;split at b
    ·rename_i i e;simp at b;subst b;simp[List.mapM_cons,e,Re d]
    ·cases b
def Ja(G:Gh):List (Nat×AV)->List (Nat×Value)->Prop|[],[]=>True|x::xs,y::ys=>(x.1=y.1/\ai x.2 G y.2)/\Ja G xs ys|_,_=>False
def Dq(c:aj q72 q7w q7z G s a w):∀{ps:List (Nat×Operand)}{vs:List (Nat×AV)},ua s ps=some vs->Ja G vs (ps.map fun p=>(p.1,a.eval p.2))
 |[],vs,h=>by simp[ua,qI]at h;subst h;trivial|(i,x)::ps,vs,h=>by
  simp[ua]at h;split at h
  ·cases h
  ·rename_i v d;split at h
   ·cases h
   ·rename_i us b;simp at h;subst h;exact⟨⟨rfl,cm c d⟩,Dq c b⟩
def Rd(cs:Array Value)(b:Nat):∀(vs:List Value)(k:Nat),((vs.zipIdx k).foldl (fun(cs:Array Value)(p:Value×Nat)=>cs.setIfInBounds (b+p.2) p.1) cs).toList=(vs.zipIdx k).foldl (fun(l:List Value) p=>l.set (b+p.2) p.1) cs.toList
 |[],k=>rfl|v::vs,k=>by
  simp;rw[Rd _ b vs (k+1)];simp
def qam:∀{xs cs:List AV}{us vs:List Value}(b k:Nat),ao cs G us->ao xs G vs->ao (g9 cs (b+k) xs) G ((vs.zipIdx k).foldl (fun(l:List Value) p=>l.set (b+p.2) p.1) us)
 |[],_,_,[],_,_,h,_=>h|x::xs,cs,us,v::vs,b,k,h,hx=>by
  simp[List.zipIdx_cons,List.foldl_cons,g9];have:=qam (xs:=xs) (vs:=vs) b (k+1) (Aj (b+k) h hx.1) hx.2;simpa [Nat.add_assoc] using this
 |[],_,_,_::_,_,_,_,h=>h.elim|_::_,_,_,[],_,_,_,h=>h.elim
def ai.cells{x:AV}{u:Value}(h:ai x G u)(d:AV.ones x.cells=true):ao x.cells G u.cells.toList:=by
 cases x with
 |agg f=>obtain⟨g,rfl,e⟩:=h;exact e
 |_=>
  have b:=qad h (by simpa [AV.ones,AV.cells] using d)
  have c:u.cells.toList=[u]:=by cases u<;>first|rfl|cases b
  rw[c];exact⟨h,trivial⟩
def xX{b:Nat->Option (Nat×Nat)}:∀{ps:List (Nat×AV)}{vs:List (Nat×Value)}{cs:List AV}{us:Array Value}{e:List AV},
  Ja G ps vs->ao cs G us.toList->y4 b cs ps=some e->∃g,Instr.fill b us vs=some g/\ao e G g.toList
 |[],[],cs,us,e,_,h,hf=>by simp[y4,qI]at hf;subst hf;exact⟨us,rfl,h⟩|[],_::_,_,_,_,h,_,_=>h.elim|_::_,[],_,_,_,h,_,_=>h.elim|(i,x)::ps,(j,v)::vs,cs,us,e,hxt,h,hf=>by
  obtain⟨⟨l,B⟩,C⟩:=hxt;simp only at l B;subst l;simp[y4]at hf;split at hf
  ·cases hf
  ·rename_i f d t;cases m:Nat.beq x.cells.length d&&Nat.ble (f+d) cs.length&&AV.ones x.cells<;>rw[m]at hf<;>simp at hf
   simp only[qA,Nat.ble_eq]at m;obtain⟨⟨n,o⟩,p⟩:=m;have k:=B.cells p;have q:=k.length;have r:=h.length;have u:=qam (G:=G) f 0 h k;obtain⟨g,y,z⟩:=xX (us:=(v.cells.zipIdx.foldl (fun cs(c,j)=>cs.setIfInBounds (f+j) c) us)) C (by
    rw[← Array.foldl_toList,Array.toList_zipIdx,Rd];exact u) hf
   refine⟨g,?_,z⟩;have A:v.cells.size=d:=by rw[← qN n,q,Array.length_toList]
   have E:f+v.cells.size<=us.size:=by rw[A,← Array.length_toList,← r];exact o
   rw[Instr.fill,t];simp only[A,ne_eq,not_true_eq_false,decide_false,Bool.false_or,decide_eq_true_eq];rw[qW]
   exact y
def Pl(y:aj q72 q7w q7z G s a w){T:TypeId}{b:Array (Nat×Operand)}{ps:List Prop}{r:AV}(h:lV P s T b.toList=some (ps,r)):∃z,(Instr.build T (b.map fun(i,x)=>(i,a.eval x))).run P w = .ok z w/\ai r G z:=by
 unfold lV at h;split at h
 ·rename_i z C B q;obtain⟨H,k,j⟩:=Mc B w G;have g:=Dq y q;have u:(b.map fun(i,x)=>(i,a.eval x)).toList=b.toList.map fun p=>(p.1,a.eval p.2):=Te
  split at h
  ·rename_i E t;split at h
   ·rename_i l o;split at h
    ·rename_i v m;simp at h;obtain⟨_,rfl⟩:=h;obtain⟨d,c,f⟩:=xX g j m;refine⟨.agg d,?_,d,rfl,f⟩;rw[← u]at c;simp[Instr.build,k,ce t,Array.mapM_eq_mapM_toList,run_places w _ _ (Re o)];simp at c;rw[c];simp
    ·cases h
   ·cases h
  ·rename_i n e t;split at h
   ·rename_i F A;split at h
    ·rename_i v m;simp at h;obtain⟨_,rfl⟩:=h;obtain⟨d,c,f⟩:=xX g j m;refine⟨.agg d,?_,d,rfl,f⟩;rw[← u]at c;simp[Instr.build,k,ce t,ku A];simp at c;rw[c];simp
    ·cases h
   ·cases h
  ·cases h
 ·cases h
def ug(d:aj q72 q7w q7z G s a w){x:Option Operand}{n:Option Int}(h:lj s x=some n):(x=none/\n=none)\/∃y k m,x=some y/\n=some m/\a.eval y = .int k m:=by
 cases x with
 |none=>simp[lj,qI]at h;exact .inl ⟨rfl,h.symm⟩|some y=>
  simp[lj]at h;split at h
  ·rename_i k m b;simp at h;have:=p8 d b;simp[ai]at this;exact .inr ⟨y,k,m,rfl,h.symm,this⟩
  ·rename_i c b;simp at h;have:=p8 d b;simp[ai]at this;exact .inr ⟨y,.u8,c.toNat,rfl,h.symm,this⟩
  ·cases h
def ut{k:IntKind}{i:Int}{y:Nat}{b:BoundsCode}(c:0<=i)(d:i<=y):(Instr.sliceBound (.int k i) y b).run P w = .ok i.toNat w:=by
 simp[Instr.sliceBound,asIntOf,c,d]
def qa0(k:aj q72 q7w q7z G s a w){lo h:Option Operand}{x y:Option Int}(f:lj s lo=some x)(e:lj s h=some y){α:Type}{l:List α}(hp:ay (cut l x y).1)(b:Bool){c:Nat}(o:l.length<=c) :
  ∃i j,(Instr.sliceBounds b l.length c (lo.map a.eval) (h.map a.eval) none).run P w = .ok (i,j,c) w/\i<=j/\j<=l.length/\(cut l x y).2=(l.drop i).take (j-i):=by
 rcases ug k f with⟨rfl,rfl⟩|⟨r,p,g,rfl,rfl,m⟩<;>rcases ug k e with⟨rfl,rfl⟩|⟨t,q,d,rfl,rfl,n⟩
 ·exact⟨0,l.length,by simp[Instr.sliceBounds],Ta,wF _,by simp[cut]⟩
 ·simp[cut,ay,and_true]at hp;refine⟨0,d.toNat,?_,Ta,Ta,by simp[cut]⟩
  simp[Instr.sliceBounds,n,ut (P:=P) (w:=w) hp.1 (show d<=(c:Int) by omega)]
 ·simp[cut,ay,and_true]at hp;refine⟨g.toNat,l.length,?_,Ta,wF _,?_⟩
  ·simp[Instr.sliceBounds,m,ut (P:=P) (w:=w) hp.1 hp.2]
  ·simp[cut];rw[List.take_of_length_le Te]
 ·simp[cut,ay,and_true]at hp;refine⟨g.toNat,d.toNat,?_,Ta,Ta,by simp[cut]⟩
  simp[Instr.sliceBounds,m,n,ut (P:=P) (w:=w) (show 0<=d by omega) (show d<=(c:Int) by omega),ut (P:=P) (w:=w) hp.1 (show g<=(d.toNat:Int) by omega)]
def qt6:∀{τ:Ty}{cs:List AV}{x:τ.den}{r:List AV},Aw τ cs=some (x,r)->cs=τ.enc x++r:=by
 intro τ
 induction τ with
 |prod a b d f=>
  intro cs x r h;unfold Aw at h;split at h
  ·rename_i y l i;split at h
   ·rename_i z m j;cases h
    rw[d i,f j];exact(qS _ _ _).symm
   ·cases h
  ·cases h
 |str=>
  intro cs x r h
  cases cs with
  |nil=>cases h
  |cons c cs=>cases c<;>cases h<;>rfl
 |int k=>
  intro cs x r h
  cases cs with
  |nil=>cases h
  |cons c cs=>
   cases c with
   |int g n=>
    have h:(bif decide (k=g) then some (n,cs) else none:Option (Int×List AV))=some (x,r):=h
    by_cases e:k=g
    ·subst e;rw[decide_eq_true rfl]at h;cases h;rfl
    ·rw[decide_eq_false e]at h;cases h
   |_=>cases h
 |bool=>
  intro cs x r h
  cases cs with
  |nil=>cases h
  |cons c cs=>cases c<;>cases h<;>rfl
 |byte=>
  intro cs x r h
  cases cs with
  |nil=>cases h
  |cons c cs=>cases c<;>cases h<;>rfl
 |_=>intro cs x r h;cases h
def qav{G:Gh}{τ:Ty}{b:Nat}:∀{n:Nat}{cs:List AV}{l:List τ.den}{o:Nat},Fo τ n cs=some l->de cs G b o->l.length=n/\∀(j:Nat)(x:τ.den),l[j]? = some x->τ.At G.imm x b (o+j*τ.sz)
 |0,[],l,o,h,_=>by cases h;exact⟨rfl,fun j x f=>by cases f⟩
 |0,_::_,_,_,h,_=>by cases h
 |n+1,cs,l,o,h,hc=>by
  unfold Fo at h;split at h
  ·rename_i x r d;split at h
   ·rename_i l' e;cases h
    rw[qt6 d]at hc;obtain⟨c1,c2⟩:=de.of_append hc;rw[Ty.enc_length]at c2;obtain⟨g,i⟩:=qav e c2;refine⟨by rw[qL,g],fun j y c => ?_⟩
    cases j with
    |zero=>simp at c;subst c;rw[Nat.zero_mul,Nat.add_zero];exact xu.1 c1|succ j=>
     have:=i j y (by simpa using c)
     rw[show o+(j+1)*τ.sz=o+τ.sz+j*τ.sz by rw[Nat.add_mul];omega];exact this
   ·cases h
  ·cases h
def qho(p:aj q72 q7w q7z G s a w){t:TypeId}{x:Operand}{lo O Q:Option Operand}{ps:List Prop}{r:AV}(h:xP P s t x lo O Q=some (ps,r))(hp:ay ps) :
  ∃z,(Instr.sliceAt t (a.eval x) (lo.map a.eval) (O.map a.eval) (Q.map a.eval)).run P w = .ok z w/\ai r G z:=by
 unfold xP at h;split at h
 ·rename_i x1 Y l g f q;split at h
  ·rename_i v;simp at h;obtain⟨rfl,rfl⟩:=h;have q:=cm p q;simp[ai]at q;obtain⟨i,j,H,S,T,I⟩:=qa0 (P:=P) p g f hp false (wF _);have m:(⟨l.toArray⟩:ByteArray).size=l.length:=by simp[ByteArray.size]
   refine⟨.string ((⟨l.toArray⟩:ByteArray).extract i j),?_,?_⟩
   ·simp[Instr.sliceAt,Instr.slice,ce v,q,m,H]
   ·simp[ai];congr 1;rw[I];apply ByteArray.ext;simp[ByteArray.data_extract,List.extract_eq_take_drop]
  ·cases h
 ·rename_i x1 Y τ l g f q;split at h
  ·rename_i E v;split at h
   ·rename_i M m;cases u:Nat.beq τ.sz M<;>rw[u]at h<;>simp at h
    have u:=qN u;subst u;obtain⟨rfl,rfl⟩:=h;obtain⟨N,c,C,V,L⟩:=cm p q;obtain⟨i,j,H,S,T,I⟩:=qa0 (P:=P) p g f hp true V
    refine⟨.slice (if c=i then N else N.map (·.add (i*τ.sz))) (j-i) (c-i),?_,?_⟩
    ·simp[Instr.sliceAt,Instr.slice,ce v,C,H,ku m]
    ·rw[I];have A:((l.drop i).take (j-i)).length=j-i:=by simp;omega
     refine⟨_,_,by rw[A],by rw[A];omega,?_⟩
     rcases L with rfl|⟨b,o,rfl,d⟩
     ·exact .inl Te
     ·by_cases K:c=i
      ·exact .inl (List.eq_nil_of_length_eq_zero (by rw[A];omega))
      ·refine .inr ⟨b,o+i*τ.sz,by rw[qW K];simp[qu],fun k y F => ?_⟩
       rw[List.getElem?_take]at F;split at F
       ·rw[List.getElem?_drop]at F;have:=d _ _ F
        rwa [show o+i*τ.sz+k*τ.sz=o+(i+k)*τ.sz by rw[Nat.add_mul];omega]
       ·cases F
   ·cases h
  ·cases h
 ·rename_i kb g f q;split at h
  ·rename_i n E v;split at h
   ·rename_i R m;simp at h;obtain⟨rfl,rfl⟩:=h;obtain⟨B,U,C⟩:=cm p q;rcases ug p g with⟨rfl,_⟩|⟨_,_,_,_,e,_⟩
    rotate_left
    ·cases e
    rcases ug p f with⟨rfl,_⟩|⟨_,_,_,_,e,_⟩
    rotate_left
    ·cases e
    refine⟨.slice (some ⟨B,0,none⟩) n n,?_,B,U,wF _,rfl⟩;simp[Instr.sliceAt,ce v,C,Instr.sliceBounds,ku m,Instr.sureAddr,qu]
   ·cases h
  ·cases h
 ·rename_i Z g f q;split at h
  ·rename_i n E v;split at h
   ·rename_i R m;split at h
    ·rename_i τ X;split at h
     ·rename_i l L;cases u:Nat.beq τ.sz R<;>rw[u]at h<;>simp at h
      obtain⟨rfl,rfl⟩:=h;have W:=qN u;subst W;obtain⟨b,o,C,d⟩:=cm p q;obtain⟨A,J⟩:=qav L d;subst A;rcases ug p g with⟨rfl,_⟩|⟨_,_,_,_,e,_⟩
      rotate_left
      ·cases e
      rcases ug p f with⟨rfl,_⟩|⟨_,_,_,_,e,_⟩
      rotate_left
      ·cases e
      refine⟨.slice (some ⟨b,o,none⟩) l.length l.length,?_,some ⟨b,o,none⟩,l.length,rfl,wF _,.inr ⟨b,o,rfl,J⟩⟩;simp[Instr.sliceAt,ce v,C,Instr.sliceBounds,ku m,Instr.sureAddr,qu]
     ·cases h
    ·cases h
   ·cases h
  ·cases h
 ·cases h
def de.flat{α:Type}{enc:α->List AV}{sz b:Nat}:∀{l:List α}{o:Nat},(∀x∈l,(enc x).length=sz)->(∀j x,l[j]? = some x->de (enc x) G b (o+j*sz))->de (l.flatMap enc) G b o
 |[],_,_,_=>trivial|x::l,o,hl,h=>by
  rw[List.flatMap_cons];refine de.append (by simpa using h 0 x rfl) ?_
  rw[hl x qH];refine de.flat (fun y c=>hl y (qE _ c)) (fun j y c => ?_)
  have:=h (j+1) y (by simpa using c)
  rwa [Nat.add_mul,Nat.one_mul,← Nat.add_assoc,Nat.add_right_comm]at this
def de.values':∀{xs:List AV}{b o:Nat},de xs G b o->∃vs:List Value,ao xs G.data vs/\∀j u,vs[j]? = some u->G.imm b (o+j)=some u
 |[],_,_,_=>⟨[],trivial,fun j u h=>by simp at h⟩
 |x::xs,b,o,⟨⟨u,d,e⟩,f⟩=>by
  obtain⟨vs,g,i⟩:=de.values' f;refine⟨u::vs,⟨e,g⟩,fun j v c => ?_⟩
  cases j with|zero=>simp at c;subst c;exact d|succ j=>simp at c;rw[show o+(j+1)=o+1+j by omega];exact i j v c
def QZ{α:Type}{enc:α->List AV}{sz:Nat}:∀{l:List α},(∀x∈l,(enc x).length=sz)->(l.flatMap enc).length=l.length*sz
 |[],_=>by simp|x::l,h=>by
  rw[List.flatMap_cons,qM,h x qH,QZ (l:=l) (fun y b=>h y (qE _ b)),qL,Nat.add_mul];omega
def qq1:∀{x:AV}{v:Value},zh x=true->ai x G v->ai x G.data v:=fun{x v} hd h=>by
 cases x<;>first|exact h|simp[zh]at hd
def LR:∀{xs:List AV}{vs:List Value},allData xs=true->ao xs G vs->ao xs G.data vs
 |[],[],_,_=>trivial|[],_::_,_,h=>by simp[ao]at h|_::_,[],_,h=>by simp[ao]at h|x::xs,v::vs,hd,h=>by
  simp[allData,qA]at hd;exact⟨qq1 hd.1 h.1,LR hd.2 h.2⟩
def Fd(r:aj q72 q7w q7z G s a w){x:AV}{v:Value}{e:List AV}{n:Nat}(i:ai x G v)(h:ia s x=some (e,n)) :
  (∃b:List UInt8,x = .str b/\v = .string ⟨b.toArray⟩/\e=b.map AV.byte/\n=b.length) \/
  ∃ad c us,v = .slice ad n c/\ao e G.data us/\(∀u∈us,u.oneCell'=true)/\(us=[]\/∃b o,ad=some ⟨b,o,none⟩/\∀j u,us[j]? = some u->w.cell? ⟨b,o+j,none⟩=some u):=by
 unfold ia at h;split at h
 ·rename_i τ l;simp at h;obtain⟨rfl,rfl⟩:=h;obtain⟨ad,c,rfl,W,Q⟩:=i;rcases Q with rfl|⟨b,o,rfl,f⟩
  ·exact .inr ⟨ad,c,[],rfl,trivial,Te,.inl rfl⟩
  ·obtain⟨us,p,F⟩:=(de.flat (G:=G) (enc:=τ.enc) (sz:=τ.sz) (fun x _=>τ.enc_length x) (fun j x i=>xu.2 (f j x i))).values'
   exact .inr ⟨_,c,us,rfl,p,fun u d=>by
    obtain⟨j,O⟩:=List.mem_iff_getElem?.1 d;exact r.fin.mem.one _ _ _ (F j u O),.inr ⟨b,o,rfl,fun j u d=>r.fin.mem.agree _ _ _ (F j u d)⟩⟩
 ·rename_i b;simp at h;obtain⟨rfl,rfl⟩:=h;simp[ai]at i;exact .inl ⟨b,rfl,i,rfl,rfl⟩
 ·simp at h;obtain⟨rfl,rfl⟩:=h;simp[ai]at i;exact .inr ⟨none,0,[],i,trivial,Te,.inl rfl⟩
 ·rename_i k;split at h
  ·rename_i τ l E t;simp at h;obtain⟨rfl,rfl⟩:=h;obtain⟨ad,n',L,R,rfl⟩:=i;obtain⟨K,c,p,M⟩:=r.fin.mem.holds _ _ t;rw[R]at p;simp at p;obtain⟨rfl,rfl,rfl⟩:=p;rcases M with⟨rfl,rfl,rfl⟩|⟨g,J,V,q,z,H,I,X,Y,S,U,Z⟩
   ·exact .inr ⟨none,0,[],rfl,trivial,Te,.inl rfl⟩
   ·refine .inr ⟨ad,L,_,rfl,S,fun u d=>U u (List.mem_of_mem_take d),.inr ⟨g,0,q,fun j u d => ?_⟩⟩
    rw[List.getElem?_take]at d;split at d
    ·rw[wO];exact cell_of_heap z d
    ·cases d
  ·cases h
 ·rename_i kb m A;split at h
  ·rename_i C T t;cases y:Nat.beq m A&&Nat.beq C.length m&&allData (C.map AV.sym)<;>rw[y]at h<;>simp at h
   obtain⟨rfl,rfl⟩:=h;simp at y;obtain⟨B,N,_,rfl⟩:=i;obtain⟨B',J,q,z,H,I,_⟩:=r.fin.mem.holds _ _ t;rw[N]at q;simp at q;subst q;refine .inr ⟨_,A,J.toList,rfl,LR y.2 (EL H),I,.inr ⟨B,0,rfl,fun j u d => ?_⟩⟩
   rw[wO];exact cell_of_heap z d
  ·cases h
 ·cases h
def qaj:∀{b:List UInt8}{us:List Value},ao (b.map AV.byte) G us->us=b.map fun c=>Value.int .u8 c.toNat
 |[],[],_=>rfl|c::b,u::us,h=>by
  have d:u = .int .u8 c.toNat:=h.1;rw[List.map_cons,← qaj h.2,d]
 |[],_::_,h=>h.elim|_::_,[],h=>h.elim
def An{ad:Addr}{us:List Value}(h:us=[]\/∃b o,some ad=some (⟨b,o,none⟩:Addr)/\∀j u,us[j]? = some u->w.cell? ⟨b,o+j,none⟩=some u):(loadCells ad us.length).run P w = .ok us.toArray w:=by
 rcases h with rfl|⟨b,o,c,d⟩
 ·simp[loadCells,loadCellsFrom]
 ·injection c with c;subst c
  have:=Ma (P:=P) (w:=w) b o us 0 #[] (fun j v e=>by rw[Nat.add_zero];exact d j v e)
  simpa [loadCells] using this
def qa3(l:List Int):(runesBytes l)=⟨(kq l).toArray⟩:=by
 have b:∀(l:List Int)(s:List UInt8),l.foldl (fun r n=>r++Utf8.encode n) (⟨s.toArray⟩:ByteArray)=⟨(s++kq l).toArray⟩:=by
  intro l
  induction l with
  |nil=>intro s;simp[kq]|cons n l ih=>
   intro s;rw[List.foldl_cons,show(⟨s.toArray⟩:ByteArray)++Utf8.encode n=⟨(s++w8 n).toArray⟩ by
    apply ByteArray.ext;simp[w8,ByteArray.data_append],ih]
   simp[kq]
 exact b l []
def LW{G:Gh}:∀{l:List Int}{us:List Value},ao (List.flatMap (β:=AV) (Ty.int .i32).enc l) G us->us=l.map (Value.int .i32)
 |[],[],_=>rfl|n::l,u::us,h=>by
  have b:u = .int .i32 n:=h.1;rw[b,LW (l:=l) (us:=us) h.2];rfl
 |[],_::_,h=>h.elim|_::_,[],h=>h.elim
def qr7{src dst E:TypeId}(i:P.underlying src=some (.slice E))(h:P.underlying E=some (.int .i32))(g:P.underlying dst=some .string)(l:List Int){ad:Option Addr}{c:Nat}{us:List Value}
  (m:ao (List.flatMap (β:=AV) (Ty.int .i32).enc l) G.data us) (d:us=[]\/∃b o,ad=some ⟨b,o,none⟩/\∀j u,us[j]? = some u->w.cell? ⟨b,o+j,none⟩=some u) :
  ∃z,(convert src dst (.slice ad l.length c)).run P w = .ok z w/\ai (.str (kq l)) G z:=by
 have e:=LW m;refine⟨.string ⟨(kq l).toArray⟩,?_,rfl⟩
 cases ad with
 |none=>
  have:l=[]:=by
   rcases d with d|⟨_,_,d,_⟩
   ·rw[e]at d;simpa using d
   ·cases d
  subst this;rw[run_convert_runes_nil w src dst E _ c i h g];rfl
 |some ad=>
  have f:=An (P:=P) (w:=w) (ad:=ad) d;have k:us.length=l.length:=by rw[e];simp
  rw[k,e]at f;exact(run_convert_runes_string w src dst E _ _ _ i h g).trans ((run_runesToString w ad l.length c l f).trans (by rw[qa3]))
def qhp(u:aj q72 q7w q7z G s a w){src dst:TypeId}{x:AV}{v:Value}{d:D}{ps:List Prop}{r:AV}(q:P.underlying dst=some .string)(y:ai x G v)(h:xQ P s src x d=some (ps,r))(hp:ay ps):∃z,(convert src dst v).run P w = .ok z w/\ai r G z:=by
 unfold xQ at h;split at h
 ·rename_i E j n b p e;split at h
  ·cases h
  ·rename_i o g;simp at h;obtain⟨rfl,rfl⟩:=h;simp[ay,and_true]at hp;obtain⟨rfl,rfl⟩:=hp;rcases Fd u y e with⟨k,rfl,_⟩|⟨ad,c,A,rfl,m,C,f⟩
   ·exact(g k rfl).elim
   ·have i:=qaj m;refine⟨.string ⟨b.toArray⟩,?_,rfl⟩;rw[run_convert_bytes_string w src dst E ad _ c p o q]
    cases ad with
    |none=>
     have:b=[]:=by
      rcases f with f|⟨_,_,f,_⟩
      ·rw[i]at f;simpa using f
      ·cases f
     subst this;simp[Conv.bytesToString,ByteArray.empty,ByteArray.emptyWithCapacity];rfl
    |some ad=>
     have t:=An (P:=P) (w:=w) (ad:=ad) f;have B:A.length=b.length:=by rw[i];simp
     rw[B,i]at t;have:=run_bytesToString (P:=P) w ad b.length c (b.map fun c=>(c.toNat:Int)) (by simpa [Function.comp_def] using t)
     rw[this,foldl_push_bytes];congr 2;simp[Function.comp_def]
  ·cases h
 ·rename_i E j n l p e;split at h
  ·cases h
  ·rename_i o g;simp at h;obtain⟨rfl,rfl⟩:=h;simp[ay,and_true]at hp;obtain⟨rfl,rfl⟩:=hp;rcases Fd u y e with⟨k,rfl,_⟩|⟨ad,c,A,rfl,m,C,f⟩
   ·exact(g k rfl).elim
   ·exact qr7 p o q l m f
  ·cases h
 ·cases h
def qi0(p:aj q72 q7w q7z G s a w){o:Oper}{d:D}{ps:List Prop}{v:AV}(h:d6 P s d o.op=some (ps,v))(hp:ay ps):Pi P G a w o v:=by
 obtain⟨X,op,ty,aa,N,guard⟩:=o;unfold Pi;have q:∀{x:Sem Value}{u:Value},x.run P w = .ok u w->(do pure (.value (← x)):Sem Next).run P w = .ok (.value u) w:=fun l=>by simp[l]
 simp only at h;unfold d6 at h;split at h
 ·split at h
  ·rename_i x F l;simp only[qI,qP]at h;obtain⟨rfl,rfl⟩:=h;exact⟨_,by simp[execOp],cm p l⟩
  ·cases h
 ·split at h
  ·rename_i x F l;simp only[qI,qP]at h;obtain⟨rfl,rfl⟩:=h;exact⟨_,by simp[execOp],cm p l⟩
  ·cases h
 ·split at h
  ·rename_i c x y b t I;split at h
   ·rename_i F l;simp only[qI,qP]at h;obtain⟨rfl,rfl⟩:=h;simp only[ay,and_true]at hp;subst hp;have E:=cm p I;simp only[ai]at E;have m:=cm p l;cases b
    ·exact⟨_,by simp[execOp,E,asBool],m⟩
    ·exact⟨_,by simp[execOp,E,asBool],m⟩
   ·cases h
  ·rename_i c x y b I;split at h
   ·rename_i F l;simp only[qI,qP]at h;obtain⟨rfl,rfl⟩:=h;have E:=cm p I;simp only[ai]at E;have m:=cm p l;cases b
    ·exact⟨_,by simp[execOp,E,asBool],m⟩
    ·exact⟨_,by simp[execOp,E,asBool],m⟩
   ·cases h
  ·cases h
 ·obtain⟨z,A,g⟩:=Pl p h;exact⟨z,q A,g⟩
 ·obtain⟨z,A,g⟩:=qhn p h hp;exact⟨z,q A,g⟩
 ·obtain⟨z,A,g⟩:=qho p h hp;exact⟨z,q A,g⟩
 ·split at h
  ·rename_i M V l L;obtain⟨⟨z,A,g⟩,he⟩:=qhr (w:=w) (cm p l) (cm p L) h hp;exact⟨z,q (by simp[Sem.run_bind,he,Result.andThen_ok,A]),g⟩
  ·cases h
 ·split at h
  ·rename_i op t x M l;split at h
   ·rename_i F T;simp at h;obtain⟨rfl,rfl⟩:=h;obtain⟨z,A,g⟩:=qiv (P:=P) (w:=w) (cm p l) T;exact⟨z,q A,g⟩
   ·cases h
  ·cases h
 ·split at h
  ·rename_i F hs l;split at h
   ·rename_i r' I;simp at h;subst h;obtain⟨z,A,g⟩:=qhh (w:=w) (Option.ne_none_iff_exists'.2 ⟨_,hs⟩) (cm p l) I;exact⟨z,q A,g⟩
   ·split at h
    ·rename_i Z;obtain⟨z,A,g⟩:=qhp p Z (cm p l) h hp;exact⟨z,q A,g⟩
    ·cases h
  ·cases h
 ·split at h
  ·rename_i t x f F l;obtain⟨z,A,g⟩:=qhj (w:=w) (cm p l) h;exact⟨z,q A,g⟩
  ·cases h
 ·split at h
  ·rename_i t x f F l;obtain⟨z,A,g⟩:=qhi (w:=w) (cm p l) h;exact⟨z,q A,g⟩
  ·cases h
 ·split at h
  ·rename_i i _ vs l;split at h
   ·rename_i F T;simp at h;obtain⟨rfl,rfl⟩:=h;obtain⟨us,S,g⟩:=cm p l;obtain⟨u,hu,R⟩:=ni g T;refine⟨u,q ?_,R⟩;have:us[i]? = some u:=by simpa using hu
    simp[S,Instr.extract,this]
   ·cases h
  ·cases h
 ·split at h
  ·rename_i t x i F j l O;obtain⟨z,A,g⟩:=qhl (w:=w) (cm p l) (p8 p O) h hp;exact⟨z,q A,g⟩
  ·cases h
 ·split at h
  ·rename_i t x i F j l O;obtain⟨z,A,g⟩:=qhk p (cm p l) (p8 p O) h hp;exact⟨z,q A,g⟩
  ·cases h
 ·split at h
  ·rename_i f first cap _ _ fs cs hf I
   simp at h;obtain⟨rfl,rfl⟩:=h;refine⟨.func f (first.map a.eval) (cap.map a.eval),q (by simp[Instr.makeFunc]),_,_,rfl,by simpa using cE p hf,by simpa using cE p I⟩
  ·cases h
 ·split at h
  ·rename_i r C _ _ x t K ht;split at h
   ·rename_i F l;obtain⟨z,A,g⟩:=qhm p (ty:=ty) (cm p l) h;refine⟨z,?_,g⟩;have J:r=#[x]:=by rw[← Array.toArray_toList (xs:=r),K]
    have Y:C=#[t]:=by rw[← Array.toArray_toList (xs:=C),ht]
    subst J Y;simp[execOp,resolve,invoke,builtin,A]
   ·cases h
  ·cases h
 ·split at h
  ·rename_i r _ _ x y K;split at h
   ·rename_i u v l L;have J:r=#[x,y]:=by rw[← Array.toArray_toList (xs:=r),K]
    subst J;unfold Jt at h;split at h
    ·rename_i k M U V;have m:=p8 p l;have H:=p8 p L;simp[ai]at m H;cases Q:decide (k=U)<;>rw[Q]at h<;>simp at h
     obtain⟨rfl,rfl⟩:=h;exact⟨_,by simp[execOp,resolve,invoke,builtin,Builtin.max_,Builtin.max2,m,H],rfl⟩
    ·cases h
   ·cases h
  ·cases h
 ·split at h
  ·rename_i r _ _ x y K;split at h
   ·rename_i u v l L;have J:r=#[x,y]:=by rw[← Array.toArray_toList (xs:=r),K]
    subst J;unfold Ju at h;split at h
    ·rename_i k M U V;have m:=p8 p l;have H:=p8 p L;simp[ai]at m H;cases Q:decide (k=U)<;>rw[Q]at h<;>simp at h
     obtain⟨rfl,rfl⟩:=h;exact⟨_,by simp[execOp,resolve,invoke,builtin,Builtin.min_,Builtin.min2,m,H],rfl⟩
    ·cases h
   ·cases h
  ·cases h
 ·split at h
  ·rename_i x F l;cases W:S4 F<;>rw[W]at h<;>simp at h
   obtain⟨rfl,rfl⟩:=h;have m:=cm p l;refine⟨_,?_,m⟩;cases F<;>first|cases W|skip
   ·obtain⟨B,_,e⟩:=m;simp[execOp,e]
   ·obtain⟨b,o,e,_⟩:=m;simp[execOp,e]
   ·obtain⟨b,n,c,_,e⟩:=m;simp[execOp,e]
  ·cases h
 ·cases h
end
def um(l r:List (Nat×ag))(n:Nat):af (l++r) n=match af l n with|some b=>some b|none=>af r n:=by
 induction l with
 |nil=>rfl|cons x l ih=>
  obtain⟨k,v⟩:=x;simp[wK,af];cases Nat.beq k n<;>simp[ih]
def o9{lo:Nat}:∀{hp:List (Nat×ag)},bq lo hp=true->∀m,lo<=m->m<lo+32->af hp m=none
 |[],_,m,_,_=>rfl|(n,b)::r,h,m,h1,h2=>by
  simp only[bq,qA,Bool.or_eq_true,Nat.blt_eq,Nat.ble_eq]at h;simp[af];cases a:Nat.beq n m
  ·simpa using o9 h.2 m h1 h2
  ·have:=qN a;omega
section
variable{P:Program}{q72:World}{q7w:Gh}{q7z:List (Nat×ag)}{G:Gh}{s:St}{a:Act}{w:World}
def dv.mono{G':Gh}{w':World}(d:G.le G')(e:∀b,b<w.heap.size->w'.heap[b]? = w.heap[b]?)(K:∀b o v,G'.imm b o=some v->G.imm b o=some v\/w.heap.size<=b){n:Nat}{bx:ag}(h:dv G w n bx):dv G' w' n bx:=by
 have j:∀{B:Nat}{o:Obj},w.heap[B]? = some o->B<w.heap.size:=fun h=>(Array.getElem?_eq_some_iff.1 h).1
 have q:∀B,B<w.heap.size->(∀o,G.imm B o=none)->∀o,G'.imm B o=none:=fun B Z I o=>by
  cases L:G'.imm B o with
  |none=>rfl|some v=>
   rcases K _ _ _ L with h|h
   ·rw[I]at h;cases h
   ·omega
 cases bx with
 |cells X T=>
  obtain⟨B,C,r,k,p,y,z⟩:=h;exact⟨B,C,d.box _ _ r,by rw[e _ (j k)];exact k,p.le d,y,q _ (j k) z⟩
 |row τ l E=>
  obtain⟨F,c,r,p⟩:=h;refine⟨F,c,d.own _ _ r,?_⟩;rcases p with p|⟨g,C,H,A,t,N,O,Q,R,S,U,V⟩
  ·exact .inl p
  ·exact .inr ⟨g,C,H,A,by rw[e _ (j t)];exact t,N,O,Q,R,ao.data_le d.imm S,U,q _ (j t) V⟩
 |loop st pe f m Y ps W D=>
  obtain⟨B,u,DB,r,k,p,y,z,J⟩:=h;exact⟨B,u,DB,d.box _ _ r,d.box _ _ k,by rw[e _ p.lt];exact p,y,fun i x M=>by obtain⟨v,A,t⟩:=z i x M;exact⟨v,A,t.le d⟩,q _ p.lt J⟩
 |dfr=>
  obtain⟨B,r,k,p⟩:=h;exact⟨B,d.box _ _ r,by rw[e _ (j k)];exact k,q _ (j k) p⟩
 |it s0 p0=>
  obtain⟨B,r,k,p⟩:=h;exact⟨B,d.box _ _ r,by rw[e _ (j k)];exact k,q _ (j k) p⟩
 |dead=>trivial
def dv.at_some{n:Nat}{bx:ag}(h:dv G w n bx){b:Nat}(d:G.at n bx=some b):b<w.heap.size:=by
 have i:∀{B:Nat}{o:Obj},w.heap[B]? = some o->B<w.heap.size:=fun h=>(Array.getElem?_eq_some_iff.1 h).1
 cases bx with
 |cells x T=>
  obtain⟨B,u,e,j,_⟩:=h;simp[Gh.at,e,qI]at d;subst d;exact i j
 |row τ l E=>
  obtain⟨v,c,e,k⟩:=h;rcases k with⟨k,_⟩|⟨g,u,z,q,r,_⟩
  ·subst k;simp only[Gh.at,e]at d;cases d
  ·subst q;simp[Gh.at,e,qI]at d;subst d;exact i r
 |loop I C f m y F t D=>
  obtain⟨B,p,DB,e,j,k,_⟩:=h;simp[Gh.at,e,qI]at d;subst d;exact k.lt
 |dfr=>
  obtain⟨B,e,j,_⟩:=h;simp[Gh.at,e,qI]at d;subst d;exact i j
 |it H A=>
  obtain⟨B,e,j,_⟩:=h;simp[Gh.at,e,qI]at d;subst d;exact i j
 |dead=>cases d
def dv.at_le{G':Gh}{n:Nat}{bx:ag}(h:dv G w n bx)(d:G.le G'):G'.at n bx=G.at n bx:=by
 cases bx with
 |cells j T=>
  obtain⟨B,u,b,_⟩:=h;simp[Gh.at,b,d.box _ _ b]
 |row τ l E=>
  obtain⟨i,c,b,_⟩:=h;simp[Gh.at,b,d.own _ _ b]
 |loop t p f m k q g D=>
  obtain⟨B,e,DB,b,_⟩:=h;simp[Gh.at,b,d.box _ _ b]
 |dfr=>
  obtain⟨B,b,_⟩:=h;simp[Gh.at,b,d.box _ _ b]
 |it r o=>
  obtain⟨B,b,_⟩:=h;simp[Gh.at,b,d.box _ _ b]
 |dead=>rfl
def d7(w w':World):Prop:=cr (fun _=>False) w w'
def Fin.extend{hp new:List (Nat×ag)}(c:Fin q72 q7w q7z G hp w){G':Gh}{w':World}(d:G.le G')(j:d7 w w')(z:∀b o v,G'.imm b o=some v->G.imm b o=some v\/w.heap.size<=b)
  (x:∀b o v,G'.imm b o=some v->w'.cell? ⟨b,o,none⟩=some v) (t:∀b o v,G'.imm b o=some v->v.oneCell'=true)
  (u:∀n bx,af new n=some bx->af hp n=none)
  (g:∀n bx,af new n=some bx->dv G' w' n bx/\∀b,G'.at n bx=some b->w.heap.size<=b)
  (y:∀n m bx bx' b,af new n=some bx->af new m=some bx'->G'.at n bx=some b->G'.at m bx'=some b->n=m):Fin q72 q7w q7z G' (new++hp) w':=by
 have i:∀b,b<w.heap.size->w'.heap[b]? = w.heap[b]? := fun b F=>j.block b F (fun h=>h)
 have l:∀n bx,af (new++hp) n=some bx->af new n=some bx\/(af new n=none/\af hp n=some bx):=fun n bx h=>by
  rw[um]at h
  cases C:af new n with|some b'=>rw[C]at h;exact .inl h|none=>rw[C]at h;exact .inr ⟨rfl,h⟩
 have p:=c.bel.size;refine⟨⟨x,t,?_,?_,LC.mono d.imm (fun b o v h=>i b (World.block_lt_of_cell? _ _ (c.mem.agree b o v h))) c.mem.tab⟩,?_,fun b o v h=>d.imm _ _ _ (c.imm_le _ _ _ h),?_,?_,fun n bx B e f=>d.box _ _ (c.keep n bx B e f),fun n bx B e f=>d.own _ _ (c.keepOwn n bx B e f)⟩
 ·intro n bx h;rcases l n bx h with h|⟨_,h⟩
  ·exact(g n bx h).1
  ·exact(c.mem.holds n bx h).mono d i z
 ·intro n m bx bx' b e f q r;rcases l n bx e with e|⟨_,e⟩<;>rcases l m bx' f with f|⟨_,f⟩
  ·exact y n m bx bx' b e f q r
  ·have H:=(g n bx e).2 b q;rw[(c.mem.holds m bx' f).at_le d]at r;have I:=(c.mem.holds m bx' f).at_some r;omega
  ·have H:=(g m bx' f).2 b r;rw[(c.mem.holds n bx e).at_le d]at q;have I:=(c.mem.holds n bx e).at_some q;omega
  ·rw[(c.mem.holds n bx e).at_le d]at q;rw[(c.mem.holds m bx' f).at_le d]at r;exact c.mem.apart n m bx bx' b e f q r
 ·exact⟨j.os.trans c.bel.os,j.tape.trans c.bel.tape,j.output.trans c.bel.output,Nat.le_trans p j.size,fun k A E=>by
   rw[i k (Nat.lt_of_lt_of_le A p)];exact c.bel.block k A E⟩
 ·intro b o v h;rcases z b o v h with h|h
  ·exact c.imm_new b o v h
  ·exact .inr (.inl (Nat.le_trans p h))
 ·intro n bx b e f;rcases l n bx e with e|⟨_,e⟩
  ·exact .inl (Nat.le_trans p ((g n bx e).2 b f))
  ·rw[(c.mem.holds n bx e).at_le d]at f;exact c.base n bx b e f
def wo{G':Gh}(d:∀n B,G.box n=some B->G'.box n=some B):∀{c bs:List Nat},bs.map some=c.map G.box->bs.map some=c.map G'.box
 |[],[],_=>rfl|n::c,b::bs,h=>by
  simp at h ⊢;exact⟨(d n b h.1.symm).symm,wo d h.2⟩
 |[],_::_,h=>by simp at h|_::_,[],h=>by simp at h
def aj.put(h:aj q72 q7w q7z G s a w){G':Gh}{w':World}{dst:Option Tmp}{v:AV}{u:Value}{new:List (Nat×ag)}{s':St}(j:s.add dst v new=some s')(b:G.le G')
  (k:∀m,s.nx<=m->af (new++s.hp) m=none->G'.box m=none/\G'.own m=none) (t:ai v G' u) (q:Fin q72 q7w q7z G' (new++s.hp) w'):aj q72 q7w q7z G' s' (a.put dst u) w':=by
 cases dst with
 |none=>
  simp[St.add,qI]at j;subst j;exact⟨by obtain⟨n,f,g⟩:=h.defers;exact⟨n,f,wo b.box g⟩,h.size,fun i x c=>by obtain⟨v,f,g⟩:=h.frame i x c;exact⟨v,f,g.le b⟩,k,q⟩
 |some d=>
  simp[St.add]at j;cases p:Nat.blt d s.n<;>rw[p]at j<;>simp at j
  subst j;have r:d<s.n:=by simpa using p
  refine⟨by obtain⟨n,f,g⟩:=h.defers;exact⟨n,f,wo b.box g⟩,by simp[Act.put,h.size],fun i x c => ?_,k,q⟩
  simp[af]at c;cases l:Nat.beq d i
  ·rw[l]at c;simp at c;have o:d≠i:=fun e=>by subst e;simp at l
   obtain⟨v,f,g⟩:=h.frame i x c;exact⟨v,by simp[Act.put,o,f],g.le b⟩
  ·rw[l]at c;simp at c;subst c;have:=qN l;subst this;exact⟨u,by simp[Act.put,h.size,r],t⟩
def jv(b:aj q72 q7w q7z G s a w){dst:Option Tmp}{v:AV}{u:Value}{s':St}(c:s.add dst v []=some s')(d:ai v G u):aj q72 q7w q7z G s' (a.put dst u) w:=
 b.put c (Gh.le.refl G) b.fresh d b.fin
end
def eq:∀{ps a:List Prop},ay (ps++a)↔ay ps/\ay a|[],a=>by simp[ay]|p::ps,a=>by simp[ay,eq (ps:=ps),and_assoc]
mutual
def Fr{b:Bool}{hp:List (Nat×ag)}{G G':Gh}(c:G.le G')(a:b=true->∀k τ l E v,af hp k=some (.row τ l E)->ai (.own k) G v->ai (.sl τ l) G' v) :
  ∀{x y:AV}{ps:List Prop}{v:Value},vw b hp x y=some ps->ay ps->ai x G v->ai y G' v:=by
 intro x y ps v h hp d;unfold vw at h;split at h
 ·obtain⟨p,g,i⟩:=d;exact⟨p,g,nk c a h hp i⟩
 ·obtain⟨p,g,i⟩:=d;exact⟨p,g,nk c a h hp i⟩
 ·split at h
  ·rename_i f L M r H I _ _ j o g i;simp at h;subst h;obtain⟨A,B,C⟩:=(show(r=f)/\ay j/\ay o from⟨hp.1,eq.1 hp.2⟩)
   subst A;obtain⟨s,q,m,n,z⟩:=d;exact⟨s,q,m,nk c a g B n,nk c a i C z⟩
  ·cases h
 ·split at h
  ·rename_i t x F y _ j g;simp at h;subst h;obtain⟨u,m,n⟩:=d;have e:F=t:=hp.1;subst e;exact⟨u,m,Fr c a g hp.2 n⟩
  ·cases h
 ·rename_i k τ l;cases b
  ·cases h
  ·simp only[qT]at h;split at h
   ·rename_i J K E w;simp only[qI]at h;subst h;simp only[ay,and_true]at hp;rw[hp];exact a rfl _ _ _ _ _ w d
   ·cases h
 ·split at h
  ·simp only[qI]at h;subst h;simp only[ay,and_true]at hp;rename_i τ l _;have:l=[]:=List.eq_nil_of_length_eq_zero hp;subst this;simp[ai]at d;subst d;exact⟨none,0,rfl,Te,.inl rfl⟩
  ·cases h
 ·exact trivial
 ·simp at h;subst h;simp[ay,and_true]at hp;rw[hp];exact d.le c
 ·simp at h;subst h;simp[ay,and_true]at hp;rw[hp];exact(ix d).le c
 ·simp at h;subst h;simp[ay,and_true]at hp;rw[hp];exact d.le c
def nk{b:Bool}{hp:List (Nat×ag)}{G G':Gh}(c:G.le G')(a:b=true->∀k τ l E v,af hp k=some (.row τ l E)->ai (.own k) G v->ai (.sl τ l) G' v) :
  ∀{xs e:List AV}{ps:List Prop}{vs:List Value},ci b hp xs e=some ps->ay ps->ao xs G vs->ao e G' vs:=by
 intro xs e ps vs h hp d;unfold ci at h;split at h
 ·match vs,d with|[],_=>trivial
 ·split at h
  ·rename_i m f;split at h
   ·rename_i n g;simp at h;subst h;obtain⟨i,j⟩:=eq.1 hp
    match vs,d with|v::vs,d=>exact⟨Fr c a f i d.1,nk c a g j d.2⟩
   ·cases h
  ·cases h
 ·cases h
end
def qc2{b:Bool}{hp:List (Nat×ag)}:∀{xs a:List AV}{ps:List Prop},ci b hp xs a=some ps->xs.length=a.length
 |[],[],_,_=>rfl|x::xs,y::a,ps,h=>by
  simp[ci]at h;split at h
  ·split at h
   ·rename_i c;simp[qc2 c]
   ·cases h
  ·cases h
 |[],_::_,_,h=>by simp[ci]at h|_::_,[],_,h=>by simp[ci]at h
def pg(cs:List Value)(a:Nat):List Value->List Value|[]=>cs|x::xs=>pg (cs.set a x) (a+1) xs
def A0:∀(xs cs:List Value)(a:Nat),(pg cs a xs).length=cs.length|[],_,_=>rfl|x::xs,cs,a=>by rw[pg,A0];simp
def A1:∀(xs cs:List Value)(a:Nat)(v:Value),v∈pg cs a xs->v∈cs\/v∈xs
 |[],_,_,v,h => .inl h|x::xs,cs,a,v,h=>by
  rcases A1 xs _ _ v h with h|h
  ·rcases List.mem_or_eq_of_mem_set h with h|h
   ·exact .inl h
   ·exact .inr (by simp[h])
  ·exact .inr (by simp[h])
def EM{G:Gh}:∀{xs cs:List AV}{us vs:List Value}(a:Nat),ao cs G us->ao xs G vs->ao (g9 cs a xs) G (pg us a vs)|[],_,_,[],_,h,_=>h|_x::xs,_cs,_us,_v::vs,a,h,hx=>EM (xs:=xs) (vs:=vs) (a+1) (Aj a h hx.1) hx.2|[],_,_,_::_,_,_,h=>h.elim|_::_,_,_,[],_,_,h=>h.elim
section
variable{P:Program}{q72:World}{q7w:Gh}{q7z:List (Nat×ag)}{G:Gh}{s:St}{a:Act}{w:World}
def Fe(w:World)(o:Obj):d7 w (w.alloc o):=
 ⟨rfl,rfl,rfl,Te,fun k b _=>Below.heap_alloc _ _ _ b⟩
def wu(w:World)(o:Obj):(w.alloc o).heap[w.heap.size]? = some o:=by
 show(w.heap.push o)[w.heap.size]? = _;simp
def Ao(g o:Nat)(T:TypeId)(e:Nat×Nat):∀(vs:List Value)(i:Nat)(c:Array Value)(w:World),w.heap[g]? = some (.cells c T e)->o+i+vs.length<=c.size->(e=(0,0)\/c.size<=e.1)->(∀v∈vs,v.oneCell'=true) ->
  ∃w' d,(storeCells ⟨g,o,none⟩ vs i).run P w = .ok () w'/\w'.heap[g]? = some (.cells d T e)/\d.toList=pg c.toList (o+i) vs/\cr (fun b=>b=g) w w'
 |[],i,c,w,hg,_,_,_=>⟨w,c,by simp[storeCells],hg,rfl,rfl,rfl,rfl,wF _,fun _ _ _=>rfl⟩
 |v::vs,i,c,w,hg,hl,hz,ho=>by
  simp at hl;have r:w.cell? ⟨g,o+i,none⟩=some c[o+i]:=by simp[World.cell?,hg]
  have j:w.frozen? ⟨g,o+i,none⟩=false:=by
   simp only[World.frozen?,hg];rcases hz with rfl|hz
   ·simp
   ·simp;omega
  have y:=ho v Te
  have m:(store (Addr.add ⟨g,o,none⟩ i) v).run P w = .ok () (w.setCell ⟨g,o+i,none⟩ v):=by
   rw[qu,run_store P w _ v _ y];simp[r,j]
  have l:(w.setCell ⟨g,o+i,none⟩ v).heap[g]? = some (.cells (c.setIfInBounds (o+i) v) T e):=by
   simp[World.setCell,Array.getElem?_modify,hg]
  obtain⟨w',d,n,p,q,f⟩:=Ao g o T e vs (i+1) (c.setIfInBounds (o+i) v) (w.setCell ⟨g,o+i,none⟩ v) l Td (by simpa using hz) (fun u x=>ho u (by simp[x]))
  refine⟨w',d,?_,p,?_,?_⟩
  ·simp[storeCells,Sem.run_bind,m,Result.andThen_ok];exact n
  ·rw[q,pg];simp[Nat.add_assoc]
  ·refine⟨f.os,f.tape,f.output,by simpa using f.size,fun k t h => ?_⟩
   rw[f.block k (by simpa using t) h]
   exact Below.heap_setCell _ _ _ _ h
def qcx:∀(xs cs:List Value)(b:Nat),b+xs.length<=cs.length->(pg cs b xs).take (b+xs.length)=cs.take b++xs
 |[],cs,b,_=>by simp[pg]|x::xs,cs,b,h=>by
  simp at h;have:=qcx xs (cs.set b x) (b+1) Td
  rw[pg,qL,show b+(xs.length+1)=b+1+xs.length by omega,this]
  have c:(cs.set b x).take (b+1)=cs.take b++[x]:=by
   rw[List.take_succ_eq_append_getElem Td]
   simp[List.take_set_of_le]
  rw[c];simp
def M5:∀(xs cs:List Value)(b n:Nat),n<=cs.length->(pg cs b xs).take n=pg (cs.take n) b xs
 |[],cs,b,n,_=>rfl|x::xs,cs,b,n,h=>by
  rw[pg,M5 xs _ (b+1) n (by simpa using h),pg,List.take_set]
def qrq{t t2 ty E:TypeId}{i:TypeInfo}{z:Value}(ht:P.underlying t=some (.slice E))(hi:P.info? E=some i)(hz:i.zero=some z)(a4:z.cells.size=i.size)(a8:0<i.size)(ah:i.bytes<=32768)(a3:∀v∈z.cells.toList,v.oneCell'=true)(C:nV P t2=true)
  {ad:Option Addr} {n c:Nat} {us:List Value} (r:ld w E i.size ad n c us)
  {x:Value} {m:Nat} {f:List Value} (ac:∀w,(Builtin.lenOf x).run P w = .ok m w) (o:∀w',w'.heap=w.heap->(Builtin.firstCells i.size m x).run P w' = .ok f.toArray w') (A:f.length=m*i.size) (K:∀v∈f,v.oneCell'=true)
  (W:n+m<=ax) :
  ∃l N w',(Builtin.append_ #[t,t2] ty #[.slice ad n c,x]).run P w = .ok (.slice l (n+m) N) w'/\ld w' E i.size l (n+m) N (us++f)/\(eu l=eu ad\/∃g,eu l=some g/\w.heap.size<=g)/\cr (fun b=>eu ad=some b) w w':=by
 unfold ax at W;obtain⟨O,J,R⟩:∃O,P.underlying t2=some O/\∀k,O ≠ .int k:=by
  unfold nV at C;split at C
  ·cases C
  ·rename_i d h1 h2;exact⟨d,h2,fun k e=>h1 k e⟩
  ·cases C
 have aa:(O matches .int _)=false:=by
  cases O<;>first|rfl|exact absurd rfl (R _)
 obtain⟨B,r⟩:=r;have h:(us++f).length=(n+m)*i.size:=by rw[qM,B,A,Nat.add_mul]
 -- growing
 have H:∀(M:List Value),M=us->n+m>c->(∀w',w'.heap=w.heap->(Builtin.firstCells i.size n (.slice ad n c)).run P w' = .ok M.toArray w') ->
   ∃l N w',(Builtin.append_ #[t,t2] ty #[.slice ad n c,x]).run P w = .ok (.slice l (n+m) N) w'/\ld w' E i.size l (n+m) N (us++f)/\(eu l=eu ad\/∃g,eu l=some g/\w.heap.size<=g)/\cr (fun b=>eu ad=some b) w w':=by
  intro M I a6 S;rw[I]at S;clear I;have Q:Builtin.nextslicecap (n+m) c<=2*(n+m):=by
   exact nextslicecap_le Ta
  have a5:¬Builtin.nextslicecap (n+m) c*i.bytes>2 ^ 48:=by
   have:Builtin.nextslicecap (n+m) c*i.bytes<=2*(n+m)*32768:=Nat.mul_le_mul Q ah;omega
  let L:=Question.cut (.appendCap (n+m) c E) (w.tape w.drawn (.appendCap (n+m) c E))
  have X:n+m<=L:=by simp[L,Question.cut]
  have Y:L<=maxLen:=by
   have:=Nat.mod_lt (w.tape w.drawn (.appendCap (n+m) c E)) (show 0<2 ^ 63-(n+m) by omega)
   simp only[L,Question.cut,maxLen];omega
  refine⟨some ⟨w.heap.size,0,none⟩,L,w.drew.alloc (.cells (us.toArray++f.toArray++Builtin.zeroCells z.cells (L-(n+m))) E),?_,?_,.inr ⟨w.heap.size,rfl,wF _⟩,?_⟩
  ·have T:=S w.drew rfl;have av:=o w.drew rfl;have V:¬(9223372036854775807<(n:Int)+m):=Ta
   have ab:¬281474976710656<Builtin.nextslicecap (n+m) c*i.bytes:=Ta
   have y:(Question.appendCap (n+m) c E).forced=false:=rfl;have a7:w.drew.heap=w.heap:=rfl;simp[Builtin.append_];simp[ce ht,ce J,Go.sizeOf,xe hi,ac,show ¬n+m<=c by omega,zeroValue,hz,V,ab,y,T,av,newRow,L]
   simp[← Array.append_assoc]
  ·refine⟨h,.inr ⟨w.heap.size,_,(0,0),rfl,wu w.drew _,.inl rfl,X,Y,?_,?_,?_⟩⟩
   ·simp only[Array.size_append,List.size_toArray,Builtin.zeroCells,Array.size_map,Array.size_range,a4,B,A,← Nat.add_mul];congr 1;omega
   ·simp;rw[← qS,← h];exact List.take_left
   ·intro v p;simp only[Array.toList_append,wA]at p;rcases p with(p|p)|p
    ·rcases r with⟨_,rfl,_⟩|⟨g,vs,fz,_,_,_,_,_,_,h7,h8⟩
     ·have:us=[]:=List.eq_nil_of_length_eq_zero (by simpa using B)
      subst this;simp at p
     ·rw[← h7]at p;exact h8 v (List.mem_of_mem_take (by simpa using p))
    ·exact K v (by simpa using p)
    ·simp only[Builtin.zeroCells,Array.toList_map,List.mem_map,Array.toList_range,List.mem_range]at p;obtain⟨k,hk,rfl⟩:=p;have:k%z.cells.size<z.cells.size:=Nat.mod_lt _ Ta
     rw[getElem!_pos z.cells _ this];exact a3 _ Te
  ·exact⟨rfl,rfl,rfl,Te,fun k hk _=>Below.heap_alloc w.drew _ k hk⟩
 rcases r with⟨rfl,rfl,rfl⟩|⟨g,vs,fz,rfl,h2,h3,h4,h5,h6,h7,h8⟩
 ·have Z:us=[]:=List.eq_nil_of_length_eq_zero (by simpa using B)
  by_cases hm:m=0
  ·subst hm;have a1:f=[]:=List.eq_nil_of_length_eq_zero (by simpa using A)
   subst a1 Z;refine⟨none,0,w,?_,⟨Te,.inl ⟨rfl,rfl,rfl⟩⟩,.inl rfl,⟨rfl,rfl,rfl,wF _,fun _ _ _=>rfl⟩⟩
   simp[Builtin.append_,ce ht,ce J,Go.sizeOf,xe hi,ac,o w rfl]
  ·exact H us rfl Ta (fun w' _=>by subst Z;simp[Builtin.firstCells])
 ·by_cases q:n+m<=c
  ·have U:n*i.size+f.length<=vs.size:=by rw[A,h6,← Nat.add_mul];exact Nat.mul_le_mul_right _ q
   obtain⟨w',F,k1,k2,k3,k4⟩:=Ao (P:=P) g (n*i.size) E fz f 0 vs w h2 Ta h3 K
   refine⟨some ⟨g,0,none⟩,c,w',?_,⟨h,.inr ⟨g,F,fz,rfl,k2,?_,q,h5,?_,?_,?_⟩⟩,.inl rfl,⟨k4.os,k4.tape,k4.output,k4.size,fun k hk a0=>k4.block k hk (fun e=>a0 (by subst e;rfl))⟩⟩
   ·simp[Builtin.append_,ce ht,ce J,Go.sizeOf,xe hi,ac,o w rfl,q,qu,k1]
   ·have hs:F.size=vs.size:=by rw[← Array.length_toList,k3,A0,Array.length_toList]
    rw[hs];exact h3
   ·rw[← Array.length_toList,k3,A0,Array.length_toList,h6]
   ·rw[k3,Nat.add_zero,Nat.add_mul,← A,qcx f vs.toList (n*i.size) (by rw[Array.length_toList];exact U),h7]
   ·intro v p;rw[k3]at p;rcases A1 _ _ _ _ p with p|p
    ·exact h8 v p
    ·exact K v p
  ·refine H us rfl Ta (fun w' a2 => ?_)
   have an:∀j u,us[j]? = some u->w'.cell? ⟨g,0+j,none⟩=some u:=fun j u hu=>by
    rw[← h7,List.getElem?_take]at hu;split at hu
    ·rw[wO];exact cell_of_heap (by rw[a2];exact h2) hu
    ·cases hu
   have:=An (P:=P) (w:=w') (ad:=⟨g,0,none⟩) (us:=us) (.inr ⟨g,0,rfl,an⟩);rw[B]at this;simp[Builtin.firstCells,this]
def dv.row{n:Nat}{τ:Ty}{l:List τ.den}{E:TypeId}{ad:Option Addr}{c:Nat}{us:List Value}(u:G.own n=some (ad,l.length,c))(e:ld w E τ.sz ad l.length c us)
  (d:ao (l.flatMap τ.enc) G.data us) (t:∀b,eu ad=some b->∀o,G.imm b o=none):dv G w n (.row τ l E):=by
 refine⟨ad,c,u,?_⟩;obtain⟨v,h⟩:=e;rcases h with⟨rfl,f,rfl⟩|⟨g,x,i,rfl,f,j,k,m,p,q,r⟩
 ·exact .inl ⟨rfl,List.eq_nil_of_length_eq_zero f,rfl⟩
 ·exact .inr ⟨g,x,i,rfl,f,j,k,m,p,by rw[q];exact d,r,t g rfl⟩
def cK{τ:Ty}(l:List τ.den):(l.flatMap τ.enc).length=l.length*τ.sz:=QZ (fun x _=>τ.enc_length x)
def dv.rowAt{n:Nat}{τ:Ty}{l:List τ.den}{E:TypeId}(h:dv G w n (.row τ l E)) :
  ∃ad c us,G.own n=some (ad,l.length,c)/\ld w E τ.sz ad l.length c us/\ao (l.flatMap τ.enc) G.data us/\(∀b,eu ad=some b->∀o,G.imm b o=none):=by
 obtain⟨ad,c,e,j⟩:=h;rcases j with⟨rfl,rfl,rfl⟩|⟨g,v,i,rfl,k,m,p,q,r,f,t,u⟩
 ·exact⟨none,0,[],e,⟨Te,.inl ⟨rfl,rfl,rfl⟩⟩,trivial,fun b d=>by cases d⟩
 ·refine⟨_,c,_,e,⟨?_,.inr ⟨g,v,i,rfl,k,m,p,q,r,rfl,t⟩⟩,f,fun b d=>by injection d with d;subst d;exact u⟩
  rw[← f.length,cK]
def Gh.addOwn(G:Gh)(k:Nat)(v:Option Addr×Nat×Nat):Gh:={ imm:=G.imm,box:=G.box,own:=fun m=>bif Nat.beq m k then some v else G.own m }
def Gh.addOwn_le{k:Nat}{v:Option Addr×Nat×Nat}(h:G.own k=none):G.le (G.addOwn k v):=
 ⟨fun _ _ _ h=>h,fun _ _ h=>h,fun n x b=>by
  show(bif Nat.beq n k then some v else G.own n)=_
  cases c:Nat.beq n k
  ·exact b
  ·have:=qN c;subst this;rw[h]at b;cases b⟩
def Gh.addOwn_self{k:Nat}{v:Option Addr×Nat×Nat}:(G.addOwn k v).own k=some v:=by
 show(bif Nat.beq k k then some v else G.own k)=_;simp
def Rw(c:aj q72 q7w q7z G s a w){b o:Nat}{v:Value}(h:G.imm b o=some v):b<w.heap.size:=World.block_lt_of_cell? _ _ (c.fin.mem.agree _ _ _ h)
def qrm(i:aj q72 q7w q7z G s a w){t:Tmp}{τ:Ty}{l:List τ.den}{E:TypeId}{ad:Option Addr}{c:Nat}{us:List Value}{w':World}{s':St}{v:AV}{u:Value}(O:bq (s.nx+32*t) s.hp=true)(z:d7 w w')
  (y:ld w' E τ.sz ad l.length c us) (j:ao (l.flatMap τ.enc) G.data us) (g:∀b,eu ad=some b->w.heap.size<=b)
  (R:∀G':Gh,G'.own (s.nx+32*t)=some (ad,l.length,c)->ai v G' u) (Q:s.add (some t) v [(s.nx+32*t,.row τ l E)]=some s') :
  ∃G',aj q72 q7w q7z G' s' (a.put (some t) u) w':=by
 let k:=s.nx+32*t
 have K:af s.hp k=none:=o9 O k (wF _) Ta
 obtain⟨M,H⟩:=i.fresh k Ta K
 have q:G.le (G.addOwn k (ad,l.length,c)):=Gh.addOwn_le H;have f:∀n bx,af [(k,ag.row τ l E)] n=some bx->n=k/\bx = .row τ l E:=fun n bx h=>by
  simp[af]at h;cases d:Nat.beq k n
  ·rw[d]at h;cases h
  ·rw[d]at h;simp at h;exact⟨(qN d).symm,h.symm⟩
 have p:∀b,eu ad=some b->∀o,(G.addOwn k (ad,l.length,c)).imm b o=none:=fun b d o=>by
  cases L:G.imm b o with|none=>exact L|some v=>have:=Rw i L;have:=g b d;omega
 refine⟨G.addOwn k (ad,l.length,c),i.put Q q ?_ (R _ Gh.addOwn_self) ?_⟩
 ·intro m N A;rw[um]at A;have r:k≠m:=fun e=>by
   subst e;have:Nat.beq (s.nx+32*t) k=true:=by simp[k]
   simp[af,this,qT,reduceCtorEq]at A
  have I:af s.hp m=none:=by
   have:af [(k,ag.row τ l E)] m=none:=by
    simp[af];cases d:Nat.beq k m
    ·rfl
    ·exact absurd (qN d) r
   rw[this]at A;exact A
  obtain⟨C,F⟩:=i.fresh m N I;refine⟨C,?_⟩;show(bif Nat.beq m k then some _ else G.own m)=_
  cases d:Nat.beq m k
  ·exact F
  ·exact absurd (qN d).symm r
 ·refine i.fin.extend q z (fun _ _ _ h => .inl h) (fun b o v h => ?_) i.fin.mem.one ?_ ?_ ?_
  ·have J:=Rw i h;rw[World.cell?_of_block (w:=w) (z.block b J (fun h=>h))];exact i.fin.mem.agree _ _ _ h
  ·intro n bx h;obtain⟨rfl,_⟩:=f n bx h;exact K
  ·intro n bx h;obtain⟨rfl,rfl⟩:=f n bx h;refine⟨dv.row Gh.addOwn_self y (ao.data_le (fun _ _ _ h=>h) j) p,fun b d => ?_⟩
   simp[Gh.at,Gh.addOwn_self]at d
   cases ad with
   |none=>cases d
   |some x=>exact g b d
  ·intro n m bx B b C F _ _;obtain⟨rfl,_⟩:=f n bx C;obtain⟨rfl,_⟩:=f m B F;rfl
def Am(j:aj q72 q7w q7z G s a w){t:Tmp}{τ:Ty}{l:List τ.den}{E:TypeId}{ad:Option Addr}{c:Nat}{us:List Value}{w':World}{s':St}(i:bq (s.nx+32*t) s.hp=true)(g:d7 w w')
  (f:ld w' E τ.sz ad l.length c us) (d:ao (l.flatMap τ.enc) G.data us) (e:∀b,eu ad=some b->w.heap.size<=b)
  (k:s.add (some t) (.own (s.nx+32*t)) [(s.nx+32*t,.row τ l E)]=some s') :
  ∃G',aj q72 q7w q7z G' s' (a.put (some t) (.slice ad l.length c)) w':=
 qrm (v := .own (s.nx+32*t)) (u := .slice ad l.length c) j i g f d e (fun _ h=>⟨ad,l.length,c,h,rfl⟩) k
def Fin.take{hp:List (Nat×ag)}(q:Fin q72 q7w q7z G hp w){k k':Nat}{τ F:Ty}{l:List τ.den}{E Y:TypeId}{l':List F.den}{ad u:Option Addr}{c Z:Nat}{an:List Value}{w':World}
  (hk:af hp k=some (.row τ l E)) (V:G.own k=some (ad,l.length,c)) (a0:af hp k'=none) (av:G.own k'=none) (hi:∀b,eu ad=some b->∀o,G.imm b o=none)
  (d:cr (fun b=>eu ad=some b) w w') (H:eu u=eu ad\/∃g,eu u=some g/\w.heap.size<=g)
  (ac:ld w' Y F.sz u l'.length Z an) (W:ao (l'.flatMap F.enc) G.data an) :
  Fin q72 q7w q7z (G.addOwn k' (u,l'.length,Z)) ((k',.row F l' Y)::(k,.dead)::hp) w':=by
 have z:G.le (G.addOwn k' (u,l'.length,Z)):=Gh.addOwn_le av;have M:∀{b:Nat}{o:Obj},w.heap[b]? = some o->b<w.heap.size:=fun h=>(Array.getElem?_eq_some_iff.1 h).1
 have J:G.at k (.row τ l E)=eu ad:=by
  simp[Gh.at,V];cases ad<;>rfl
 have B:(G.addOwn k' (u,l'.length,Z)).at k' (.row F l' Y)=eu u:=by
  simp[Gh.at,Gh.addOwn_self];cases u<;>rfl
 have K:∀m b,af ((k',ag.row F l' Y)::(k,.dead)::hp) m=some b->(m=k'/\b = .row F l' Y)\/b = .dead\/(m≠k/\m≠k'/\af hp m=some b):=fun m b h=>by
  simp[af]at h;cases y:Nat.beq k' m
  ·rw[y]at h;simp at h;cases R:Nat.beq k m
   ·rw[R]at h;exact .inr (.inr ⟨fun e=>by subst e;simp at R,fun e=>by subst e;simp at y,h⟩)
   ·rw[R]at h;simp at h;exact .inr (.inl h.symm)
  ·rw[y]at h;simp at h;exact .inl ⟨(qN y).symm,h.symm⟩
 have C:∀m b x,m≠k->af hp m=some b->G.at m b=some x->eu ad≠some x:=fun m b x I t p e=>by
  rw[← J]at e;exact I (q.mem.apart m k b _ x t hk p e)
 have ab:∀m b,m≠k->af hp m=some b->dv (G.addOwn k' (u,l'.length,Z)) w' m b:=fun m b I h=>by
  have y:=q.mem.holds m b h;have V:=C m b
  cases b with
  |cells cs T=>
   obtain⟨B1,vs,t,p,r,A,L⟩:=y;exact⟨B1,vs,t,by rw[d.block _ (M p) (V B1 I h (by simp[Gh.at,t]))];exact p,r.le z,A,L⟩
  |loop st pe f O fr ps a2 D=>
   obtain⟨B1,ah,DB,t,p,r,A,L,h6⟩:=y;exact⟨B1,ah,DB,t,p,by rw[d.block _ r.lt (V B1 I h (by simp[Gh.at,t]))];exact r,A,fun i x hx=>by obtain⟨v,k1,k2⟩:=L i x hx;exact⟨v,k1,k2.le z⟩,h6⟩
  |dfr=>
   obtain⟨B1,t,p,r⟩:=y;exact⟨B1,t,by rw[d.block _ (M p) (V B1 I h (by simp[Gh.at,t]))];exact p,r⟩
  |it s0 p0=>
   obtain⟨B1,t,p,r⟩:=y;exact⟨B1,t,by rw[d.block _ (M p) (V B1 I h (by simp[Gh.at,t]))];exact p,r⟩
  |row τ l E=>
   obtain⟨ad,c,t,r⟩:=y;refine⟨ad,c,z.own _ _ t,?_⟩;rcases r with r|⟨g,vs,fz,k1,k2,k3,k4,k5,k6,k7,k8⟩
   ·exact .inl r
   ·exact .inr ⟨g,vs,fz,k1,by rw[d.block _ (M k2) (V g I h (by subst k1;simp[Gh.at,t]))];exact k2,k3,k4,k5,k6,ao.data_le (fun _ _ _ h=>h) k7,k8⟩
  |dead=>trivial
 have S:∀b,eu u=some b->∀o,G.imm b o=none:=fun b y o=>by
  rcases H with h|⟨g,t,p⟩
  ·rw[h]at y;exact hi b y o
  ·rw[t]at y;injection y with y;subst y
   cases hq:G.imm g o with|none=>rfl|some v=>have:=World.block_lt_of_cell? _ _ (q.mem.agree _ _ _ hq);simp at this;omega
 refine⟨⟨?_,q.mem.one,?_,?_,LC.mono (fun _ _ _ h=>h) (fun b o v h=>d.block b (World.block_lt_of_cell? _ _ (q.mem.agree b o v h)) fun e=>by have:=hi b e o;rw[show G.imm b o=some v from h]at this;cases this) q.mem.tab⟩,?_,q.imm_le,q.imm_new,?_,q.keep,fun n bx v t p=>z.own _ _ (q.keepOwn n bx v t p)⟩
 ·intro b o v h;have hc:=q.mem.agree b o v h;have y:=World.block_lt_of_cell? _ _ hc;have U:¬eu ad=some b:=fun e=>by have:=hi b e o;rw[show G.imm b o=some v from h]at this;cases this
  rw[World.cell?_of_block (w:=w) (d.block b y U)];exact hc
 ·intro m b h;rcases K m b h with⟨rfl,rfl⟩|rfl|⟨I,_,h⟩
  ·exact dv.row Gh.addOwn_self ac (ao.data_le (fun _ _ _ h=>h) W) S
  ·trivial
  ·exact ab m b I h
 ·intro m O b Q x t p r A;rcases K m b t with⟨rfl,rfl⟩|rfl|⟨I,a1,N⟩
  ·rcases K O Q p with⟨rfl,rfl⟩|rfl|⟨aa,_,X⟩
   ·rfl
   ·cases A
   ·rw[B]at r;rw[(q.mem.holds O Q X).at_le z]at A;rcases H with h|⟨g,L,h6⟩
    ·rw[h]at r;exact absurd r (C O Q x aa X A)
    ·rw[L]at r;injection r with r;subst r
     have:=(q.mem.holds O Q X).at_some A;omega
  ·cases r
  ·rcases K O Q p with⟨rfl,rfl⟩|rfl|⟨aa,_,X⟩
   ·rw[B]at A;rw[(q.mem.holds m b N).at_le z]at r;rcases H with h|⟨g,L,h6⟩
    ·rw[h]at A;exact absurd A (C m b x I N r)
    ·rw[L]at A;injection A with A;subst A
     have:=(q.mem.holds m b N).at_some r;omega
   ·cases A
   ·rw[(q.mem.holds m b N).at_le z]at r;rw[(q.mem.holds O Q X).at_le z]at A;exact q.mem.apart m O b Q x N X r A
 ·refine⟨d.os.trans q.bel.os,d.tape.trans q.bel.tape,d.output.trans q.bel.output,Nat.le_trans q.bel.size d.size,fun j hj hS => ?_⟩
  have U:¬eu ad=some j:=fun e=>by
   rw[← J]at e;rcases q.base k _ j hk e with h|h
   ·omega
   ·exact hS h
  rw[d.block j (Nat.lt_of_lt_of_le hj q.bel.size) U];exact q.bel.block j hj hS
 ·intro m b x t p;rcases K m b t with⟨rfl,rfl⟩|rfl|⟨I,_,N⟩
  ·rw[B]at p;rcases H with h|⟨g,L,h6⟩
   ·rw[h,← J]at p;exact q.base k _ x hk p
   ·rw[L]at p;injection p with p;subst p
    exact .inl (Nat.le_trans q.bel.size h6)
  ·cases p
  ·rw[(q.mem.holds m b N).at_le z]at p;exact q.base m b x N p
def qhe(B:aj q72 q7w q7z G s a w){y:AV}{v:Value}(r:ai y G v){d:List AV}{m sz:Nat}(q:ia s y=some (d,m))(g:d.length=m*sz) :
  ∃e,(∀w,(Builtin.lenOf v).run P w = .ok m w)/\(∀w',w'.heap=w.heap->(Builtin.firstCells sz m v).run P w' = .ok e.toArray w')/\ao d G.data e/\∀u∈e,u.oneCell'=true:=by
 rcases Fd B r q with⟨b,rfl,rfl,rfl,rfl⟩|⟨ad,c,h,rfl,p,t,f⟩
 ·refine⟨b.map fun c=>Value.int .u8 c.toNat,fun w => ?_,fun w' _ => ?_,?_,fun u i => ?_⟩
  ·have A:(⟨b.toArray⟩:ByteArray).size=b.length:=by simp[ByteArray.size]
   simp[Builtin.lenOf,A]
  ·have:((⟨b.toArray⟩:ByteArray).extract 0 b.length)=⟨b.toArray⟩:=by
    apply ByteArray.ext;simp[ByteArray.data_extract]
   simp[Builtin.firstCells,this]
  ·clear q g r
   induction b with|nil=>trivial|cons c b ih=>exact⟨rfl,ih⟩
  ·simp at i;obtain⟨c,_,rfl⟩:=i;rfl
 ·refine⟨h,fun w=>by simp[Builtin.lenOf],fun w' n => ?_,p,t⟩
  have l:h.length=m*sz:=by rw[← p.length,g]
  cases ad with
  |none=>
   have:h=[]:=by
    rcases f with f|⟨_,_,f,_⟩
    ·exact f
    ·cases f
   subst this;simp[Builtin.firstCells]
  |some ad=>
   have k:h=[]\/∃b o,some ad=some (⟨b,o,none⟩:Addr)/\∀j u,h[j]? = some u->w'.cell? ⟨b,o+j,none⟩=some u:=by
    rcases f with f|⟨b,o,x,z⟩
    ·exact .inl f
    ·refine .inr ⟨b,o,x,fun j u i => ?_⟩
     rw[World.cell?_of_block (w:=w) (by rw[n])];exact z j u i
   have:=An (P:=P) (w:=w') (ad:=ad) k;rw[l]at this;simp[Builtin.firstCells,this]
def FJ{E:TypeId}{sz:Nat}(h:qj P E=true)(b:gw P E=some sz):∃i z,P.info? E=some i/\i.zero=some z/\z.cells.size=i.size/\0<i.size/\i.bytes<=32768/\(∀v∈z.cells.toList,v.oneCell'=true)/\i.size=sz:=by
 unfold qj at h;unfold gw at b
 cases d:P.info? E with
 |none=>rw[d]at h;cases h
 |some i=>
  rw[d]at h b;simp at b
  cases c:i.zero with
  |none=>simp only[c]at h;cases h
  |some z=>
   simp only[c,qA,Nat.blt_eq,Nat.ble_eq,List.all_eq_true]at h;obtain⟨⟨⟨e,f⟩,g⟩,j⟩:=h;exact⟨i,z,rfl,c,qN e,f,g,j,b⟩
def qak{cs:List AV}{us:List Value}(h:AV.rens (fun _=>none) cs=cs)(b:ao cs G us):ao cs G.data us:=by
 have:=ao.ren (ρ:=fun _=>none) (G:=G) (G':=G.data) (fun _ _ _ h=>h) (fun _ _ _ e=>by cases e) (fun _ _ _ e=>by cases e) b
 rwa [h]at this
def Pj(T:aj q72 q7w q7z G s a w){d:D}{t I ty:TypeId}{u:List AV}{n:Nat}{y:AV}{v:Value}{ps:List Prop}{b:ag}(h:qt P s d t I u n y=some (ps,b))(hp:ay ps)(V:ai y G v)
  {_sz0:Nat} {_E0:TypeId} {ad:Option Addr} {c:Nat} {us:List Value} (j:ao u G.data us) :
  ∃(τ:Ty)(l:List τ.den)(E:TypeId),b = .row τ l E/\n<=l.length /\
   (ld w E τ.sz ad n c us->∃e A x w',(Builtin.append_ #[t,I] ty #[.slice ad n c,v]).run P w = .ok (.slice e l.length A) w'/\ld w' E τ.sz e l.length A x/\ao (l.flatMap τ.enc) G.data x /\
    (eu e=eu ad\/∃g,eu e=some g/\w.heap.size<=g)/\cr (fun b=>eu ad=some b) w w'):=by
 unfold qt at h;split at h
 ·rename_i E τ l R U;split at h
  ·rename_i H k m q p;cases B:Nat.beq τ.sz H&&Nat.beq E R&&qj P E&&nV P I<;>rw[B]at h<;>simp at h
   obtain⟨rfl,rfl⟩:=h;simp only[qA]at B;obtain⟨⟨⟨C,F⟩,q3⟩,q4⟩:=B;have C:=qN C;have F:=qN F;subst F;rw[← C]at q;simp[ay,and_true]at hp;obtain⟨L,M,p4⟩:=hp;refine⟨τ,l,E,rfl,Ta,fun f => ?_⟩
   obtain⟨i,z,S,W,z1,z2,z3,z4,Q⟩:=FJ q3 q;rw[← Q]at f ⊢;have o:k.length=m*i.size:=by
    have J:=cK l;rw[← Q]at J;rw[L,qM,j.length,f.1,M,Nat.add_mul]at J;omega
   obtain⟨r,X,Y,K,Z⟩:=qhe (P:=P) T V p o;obtain⟨e,A,w',N,O,r3,r4⟩:=qrq (ty:=ty) U S W z1 z2 z3 z4 q4 f X Y (by rw[← K.length,o]) Z Ta
   rw[← M]at N O;exact⟨e,A,us++r,w',N,O,by rw[L];exact w9 j K,r3,r4⟩
  ·cases h
 ·cases h
def LX:∀{vs:List Value},ao (Ax vs.length) G vs|[]=>trivial|_::vs=>⟨trivial,LX (vs:=vs)⟩
def qhg(S:aj q72 q7w q7z G s a w){d:D}{t:TypeId}{c:Nat}{f:Array (Nat×Operand)}{ps:List Prop}{b:ag}(h:bT P s d t c f.toList=some (ps,b))(hp:ay ps) :
  ∃(τ:Ty)(l:List τ.den)(E:TypeId),b = .row τ l E /\
   ∃us w',(Instr.buildSlice t c (f.map fun(i,x)=>(i,a.eval x))).run P w = .ok (.slice (some ⟨w.heap.size,0,none⟩) l.length l.length) w'/\ld w' E τ.sz (some ⟨w.heap.size,0,none⟩) l.length l.length us/\ao (l.flatMap τ.enc) G.data us/\d7 w w':=by
 unfold bT at h;split at h
 ·rename_i E τ l N M;split at h
  ·rename_i K W I C;split at h
   ·rename_i O Q;cases F:Nat.beq τ.sz K&&Nat.beq E N&&qj P E&&Nat.ble (c*τ.sz) 16777216&&AV.ones O<;>rw[F]at h<;>simp at h
    split at h
    rotate_left
    ·cases h
    rename_i X y;simp at h;obtain⟨rfl,rfl⟩:=h;simp only[qA,Nat.ble_eq]at F;obtain⟨⟨⟨⟨A,J⟩,Y⟩,Z⟩,q5⟩:=F;have A:=qN A;have J:=qN J;subst J;obtain⟨U,o,V,_⟩:=eq.1 hp;obtain⟨i,z,L,T,z1,z2,z3,z4,zs⟩:=FJ Y I;subst zs;refine⟨τ,l,E,rfl,?_⟩;rw[A];rw[A]at Z;have B:=Dq S C;have R:(f.map fun(i,x)=>(i,a.eval x)).toList=f.toList.map fun p=>(p.1,a.eval p.2):=Te
    let r:Array Value:=if c*i.size=0 then #[] else z.cells
    let q:Array Value:=(Array.range (c*i.size)).map (r[· % r.size]!)
    have H:q.size=c*i.size:=by simp[q]
    obtain⟨k,g,m⟩:=xX B (us:=q) (by have:=LX (G:=G) (vs:=q.toList);rwa [Array.length_toList,H]at this) Q
    have j:k.size=c*i.size:=by
     have:=m.length;rw[qc2 y,cK,A,o,Array.length_toList]at this;exact this.symm
    refine⟨k.toList,w.alloc (.cells k E),?_,⟨?_,.inr ⟨w.heap.size,k,(0,0),rfl,wu _ _,.inl rfl,wF _,?_,?_,?_,?_⟩⟩,nk (G:=G.data) (Gh.le.refl _) (fun e=>by cases e) y U (qak V m),Fe _ _⟩
    ·rw[← R]at g;have v:¬c*i.size>2 ^ 24:=Ta
     rw[o];by_cases u:c*i.size=0
     ·have n:r=#[]:=by simp[r,u]
      simp[q,n]at g;simp[Instr.buildSlice,ce M,Go.sizeOf,xe L,u];simp[u]at g;rw[g];simp[newRow]
     ·have n:r=z.cells:=by simp[r,u]
      simp only[q,n]at g;simp only[Instr.buildSlice,Sem.run_bind,ce M,Result.andThen_ok,Go.sizeOf,xe L,Sem.run_pure,v,if_false,u,zeroValue,T,g,newRow,run_newObj];rfl
    ·rw[Array.length_toList,j,o]
    ·rw[o];simp[maxLen];have:c<=c*i.size:=Nat.le_mul_of_pos_right _ z2;omega
    ·rw[j,o]
    ·rw[o,← j,← Array.length_toList,List.take_length]
    ·exact xa m q5
   ·cases h
  ·cases h
 ·cases h
def qhf(F:aj q72 q7w q7z G s a w){d:D}{t:TypeId}{b:Nat}{c:Array (Nat×Operand)}{cs:List AV}{E:TypeId}(h:lW P s d t b c.toList=some (cs,E)) :
  ∃us,(Instr.buildSlice t b (c.map fun(i,x)=>(i,a.eval x))).run P w = .ok (.slice (some ⟨w.heap.size,0,none⟩) b b) (w.alloc (.cells us E))/\ao cs G us.toList/\∀v∈us.toList,v.oneCell'=true:=by
 unfold lW at h;split at h
 ·rename_i u H;split at h
  ·rename_i N J q m;split at h
   ·rename_i k A;cases n:qj P u&&Nat.blt 0 b&&Nat.ble (b*N) 16777216&&AV.ones k<;>rw[n]at h<;>simp at h
    obtain⟨rfl,rfl⟩:=h;simp at n;obtain⟨⟨⟨L,K⟩,R⟩,M⟩:=n;obtain⟨i,z,B,I,z1,O,S,T,Q⟩:=FJ L q;subst Q;have l:=Dq F m;have C:(c.map fun(i,x)=>(i,a.eval x)).toList=c.toList.map fun p=>(p.1,a.eval p.2):=Te
    let j:Array Value:=(Array.range (b*i.size)).map (z.cells[· % z.cells.size]!)
    have o:j.size=b*i.size:=by simp[j]
    obtain⟨r,e,g⟩:=xX l (us:=j) (by have:=LX (G:=G) (vs:=j.toList);rwa [Array.length_toList,o]at this) A
    refine⟨r,?_,g,xa g M⟩;rw[← C]at e;have f:¬b*i.size>2 ^ 24:=Ta
    have y:¬b*i.size=0:=by
     have:=Nat.mul_pos K O;omega
    simp only[j]at e;simp only[Instr.buildSlice,Sem.run_bind,ce H,Result.andThen_ok,Go.sizeOf,xe B,Sem.run_pure,f,if_false,y,zeroValue,I,e,newRow,run_newObj];rfl
   ·cases h
  ·cases h
 ·cases h
def yX:∀(b:List UInt8),List.flatMap (β:=AV) Ty.byte.enc b=b.map AV.byte
 |[]=>rfl|c::b=>congrArg (AV.byte c::·) (yX b)
def qrz{src dst E:TypeId}{u:TypeDesc}(A:P.underlying src=some u)(x:P.underlying dst=some (.slice E))(y:P.underlying E=some (.int .u8))(b:List UInt8)(r:b.length<=maxLen) :
  ∃c us w',(convert src dst (.string ⟨b.toArray⟩)).run P w = .ok (.slice (some ⟨w.heap.size,0,none⟩) b.length c) w'/\ld w' E 1 (some ⟨w.heap.size,0,none⟩) b.length c us/\ao (List.flatMap (β:=AV) Ty.byte.enc b) G us/\d7 w w':=by
 simp[maxLen]at r;have l:(⟨b.toArray⟩:ByteArray).size=b.length:=by simp[ByteArray.size]
 let e:=Question.cut (.appendCap b.length 0 E) (w.tape w.drawn (.appendCap b.length 0 E))
 have i:b.length<=e:=by simp[e,Question.cut]
 have j:e<=maxLen:=by
  have:=Nat.mod_lt (w.tape w.drawn (.appendCap b.length 0 E)) (show 0<2 ^ 63-b.length by omega)
  simp only[e,Question.cut,maxLen];omega
 let d:Array Value:=(b.map fun c=>Value.int .u8 c.toNat).toArray++Array.replicate (e-b.length) (.int .u8 0)
 have g:d.size=e:=by simp[d];omega
 let n:=w.drew.alloc (.cells d E)
 have m:(n.freeze ⟨w.heap.size,e,none⟩ 1).heap[w.heap.size]? = some (.cells d E (e,e+1)):=by
  have:n.heap[w.heap.size]? = some (.cells d E):=wu w.drew _;simp only[World.freeze,Nat.one_ne_zero,if_false,Array.getElem?_modify,this];simp
 refine⟨e,b.map fun c=>Value.int .u8 c.toNat,n.freeze ⟨w.heap.size,e,none⟩ 1,?_,⟨Te,.inr ⟨w.heap.size,d,(e,e+1),rfl,m,.inr (by rw[g];exact wF _),i,j,by rw[g,Nat.mul_one],?_,?_⟩⟩,?_,?_⟩
 ·have h:(w.drew.alloc (.cells d E)).shape? w.heap.size=some (E,d.size):=by
   simp only[World.shape?,show(w.drew.alloc (.cells d E)).heap[w.heap.size]? = some (.cells d E) from wu w.drew _]
  have f:(Question.appendCap b.length 0 E).forced=false:=rfl;have p:(convert src dst (.string ⟨b.toArray⟩)).run P w=(Conv.stringToBytes E ⟨b.toArray⟩).run P w:=by
   cases u<;>simp[convert,ce A,ce x,ce y]
  rw[p];simp only[Conv.stringToBytes,l,Sem.run_bind,run_choose,f,wJ,if_false,Result.andThen_ok,newRow,run_newObj,Sem.run_pure,markStringish,run_shape];have o:(Array.map (fun(b:UInt8)=>Value.int IntKind.u8 b.toNat) b.toArray++Array.replicate (Question.cut (.appendCap b.length 0 E) (w.tape w.drawn (.appendCap b.length 0 E))-b.length) (Value.int .u8 0))=d:=by simp[d,e]
  simp only[o];have q:({ heap:=w.heap.push (Obj.cells d E),tape:=w.tape,drawn:=w.drawn+1,os:=w.os,output:=w.output }:World).shape? w.heap.size=some (E,d.size):=h;simp only[q,g];rfl
 ·simp[d]
 ·intro v t;simp only[d,Array.toList_append,wA,List.mem_map,Array.toList_replicate,List.mem_replicate]at t;rcases t with⟨c,_,rfl⟩|⟨_,rfl⟩<;>rfl
 ·clear r l i j g m;clear n d e;rw[yX]
  induction b with|nil=>trivial|cons c b ih=>exact⟨rfl,ih⟩
 ·refine⟨rfl,rfl,rfl,by simp[World.freeze,n],fun k z _ => ?_⟩
  simp only[World.freeze,Nat.one_ne_zero,if_false,Array.getElem?_modify];rw[qW]
  exact Below.heap_alloc w.drew _ k z
end
mutual
def E6{G G':Gh}(g:∀n B,G.box n=some B->G'.box n=some B)(i:∀n B,G.own n=some B->G'.own n=some B):∀{x:AV}{v:Value},noRef x=true->ai x G v->ai x G' v
 |.undef,_,_,_=>trivial|.int _ _,_,_,h=>h|.byte _,_,_,h=>h|.bool _,_,_,h=>h|.str _,_,_,h=>h|.val _,_,_,h=>h|.sl _ _,_,hn,_=>by simp[noRef]at hn|.rop _,_,hn,_=>by simp[noRef]at hn|.arr _ _,_,hn,_=>by simp[noRef]at hn|.agg cs,_,hn,⟨vs,d,e⟩=>⟨vs,d,hJ g i (by simpa [noRef] using hn) e⟩|.tup cs,_,hn,⟨vs,d,e⟩=>⟨vs,d,hJ g i (by simpa [noRef] using hn) e⟩|.ptr _ _,_,_,⟨B,d,e⟩=>⟨B,g _ _ d,e⟩|.yld _,_,_,⟨B,d,e⟩=>⟨B,g _ _ d,e⟩|.pn _,_,_,⟨B,d,e⟩=>⟨B,g _ _ d,e⟩|.own _,_,_,⟨a,n,c,d,e⟩=>⟨a,n,c,i _ _ d,e⟩|.oel _ _ _ _,_,_,⟨b,n,c,d,e⟩=>⟨b,n,c,i _ _ d,e⟩|.osl _ _ _,_,_,⟨b,n,c,d,e⟩=>⟨b,n,c,i _ _ d,e⟩|.asl _ _ _,_,_,⟨B,d,e⟩=>⟨B,g _ _ d,e⟩|.fn f first cap,_,hn,⟨j,cs,d,e,k⟩=>by
  simp[noRef,qA]at hn;exact⟨j,cs,d,hJ g i hn.1 e,hJ g i hn.2 k⟩
 |.iface t x,_,hn,⟨u,d,e⟩=>⟨u,d,E6 g i (by simpa [noRef] using hn) e⟩
def hJ{G G':Gh}(a:∀n B,G.box n=some B->G'.box n=some B)(b:∀n B,G.own n=some B->G'.own n=some B):∀{xs:List AV}{vs:List Value},jq xs=true->ao xs G vs->ao xs G' vs
 |[],[],_,_=>trivial|x::xs,v::vs,hn,h=>by
  simp[jq,qA]at hn;exact⟨E6 a b hn.1 h.1,hJ a b hn.2 h.2⟩
 |[],_::_,_,h=>h.elim|_::_,[],_,h=>h.elim
end
def S2{α:Type}{enc:α->List AV}:∀{l:List α},(∀x∈l,jq (enc x)=true)->jq (l.flatMap enc)=true
 |[],_=>rfl|x::l,h=>by
  have a:=h x qH;have b:=S2 (l:=l) (fun y c=>h y (qE _ c))
  rw[List.flatMap_cons];revert a;generalize enc x=xs
  induction xs with
  |nil=>intro _;exact b|cons y ys ih=>
   intro a;simp[jq,qA]at a;simp[wK,jq,qA];exact⟨a.1,ih a.2⟩
def S0:∀{hp:List (Nat×ag)},ay (oa hp)->∀n bx,af hp n=some bx->(match bx with | .cells cs _=>jq cs=true | .row τ l _=>∀x∈l,jq (τ.enc x)=true | .loop _ _ _ _ _ _ _ _=>False | .dfr=>True | .it _ _=>True | .dead=>True)
 |[],_,n,bx,h=>by cases h
 |(k,b)::r,ha,n,bx,h=>by
  simp[af]at h;cases a:Nat.beq k n
  ·rw[a]at h;have:ay (oa r):=by cases b<;>simp[oa,ay]at ha<;>first|exact ha.2|exact ha|exact ha.1.elim
   exact S0 this n bx h
  ·rw[a]at h;simp at h;subst h;cases b<;>simp only[oa,ay]at ha
   ·exact ha.1
   ·exact ha.1
   ·exact ha.1.elim
   ·trivial
   ·trivial
   ·trivial
section
variable{P:Program}{q72:World}{q7w:Gh}{q7z:List (Nat×ag)}{G:Gh}{s:St}{a:Act}{w:World}
def ny.unfreeze{z:Gh}{r:AV}{hp':List (Nat×ag)}{e:Ending}{w':World}{w0:World}(X:LC.tab G.imm w0)(Z:∀b o,z.imm b o≠G.imm b o->∀u,G.imm b u=none)(h:ny w z [] r hp' e w')(V:noRef r=true)(K:ay (oa hp')):ny w G [] r hp' e w':=by
 obtain⟨v,G1,S,q,Y⟩:=h;have A:∀(G:Gh) b,¬qv G [] b:=fun G b⟨n,bx,h,_⟩=>by cases h
 let j:Gh:={ imm:=fun b o=>open Classical in if ∃u,z.imm b u≠G.imm b u then none else G1.imm b o,box:=G1.box,own:=G1.own }
 have i:∀b o v,j.imm b o=some v->G1.imm b o=some v/\¬ ∃u,z.imm b u≠G.imm b u:=fun b o v h=>by
  simp only[j]at h;split at h
  ·cases h
  ·rename_i y;exact⟨h,y⟩
 have F:∀b o v,G.imm b o=some v->j.imm b o=some v:=fun b o v h=>by
  have y:¬ ∃u,z.imm b u≠G.imm b u:=fun⟨u,L⟩=>by rw[Z b u L o]at h;cases h
  have:z.imm b o=some v:=by
   have:¬z.imm b o≠G.imm b o:=fun e=>y ⟨o,e⟩
   rw[Classical.not_not.1 this];exact h
  have f:j.imm b o=G1.imm b o:=by simp only[j];rw[qW y]
  rw[f];exact q.imm_le b o v this
 refine⟨v,j,S,⟨⟨fun b o v h=>q.mem.agree b o v (i b o v h).1,fun b o v h=>q.mem.one b o v (i b o v h).1,fun n bx N => ?_,fun n m bx I b p f t H => ?_,LC.mix F X q.mem.tab⟩,⟨q.bel.os,q.bel.tape,q.bel.output,q.bel.size,fun k U _=>q.bel.block k U (A _ k)⟩,F,fun b o v h => ?_,fun n bx b p f => ?_,fun n bx B h=>(by cases h),fun n bx B h=>(by cases h)⟩,E6 (G:=G1) (G':=j) (fun _ _ h=>h) (fun _ _ h=>h) V Y⟩
 ·have x:=q.mem.holds n bx N;have C:=S0 K n bx N;have d:∀B,(∀o,G1.imm B o=none)->∀o,j.imm B o=none:=fun B h o=>by
   cases W:j.imm B o with|none=>rfl|some v=>have:=(i B o v W).1;rw[h]at this;cases this
  cases bx with
  |cells cs T=>
   obtain⟨B,M,p,f,t,H,R⟩:=x;exact⟨B,M,p,f,hJ (G:=G1) (G':=j) (fun _ _ h=>h) (fun _ _ h=>h) C t,H,d B R⟩
  |loop=>exact C.elim|dfr=>
   obtain⟨B,p,f,t⟩:=x;exact⟨B,p,f,d B t⟩
  |it s0 p0=>
   obtain⟨B,p,f,t⟩:=x;exact⟨B,p,f,d B t⟩
  |row τ l E=>
   obtain⟨O,c,p,t⟩:=x;refine⟨O,c,p,?_⟩;rcases t with t|⟨g,M,Q,k1,k2,k3,k4,k5,k6,k7,k8,k9⟩
   ·exact .inl t
   ·exact .inr ⟨g,M,Q,k1,k2,k3,k4,k5,k6,hJ (G:=G1.data) (G':=j.data) (fun _ _ h=>h) (fun _ _ h=>h) (S2 C) k7,k8,d g k9⟩
  |dead=>trivial
 ·have J:∀n bx,j.at n bx=G1.at n bx:=fun n bx=>by cases bx<;>rfl
  rw[J]at t H;exact q.mem.apart n m bx I b p f t H
 ·obtain⟨p,f⟩:=i b o v h;rcases q.imm_new b o v p with h|h|h
  ·have:¬z.imm b o≠G.imm b o:=fun e=>f ⟨o,e⟩
   rw[Classical.not_not.1 this]at h;exact .inl h
  ·exact .inr (.inl h)
  ·exact absurd h (A _ b)
 ·have J:j.at n bx=G1.at n bx:=by cases bx<;>rfl
  rw[J]at f;rcases q.base n bx b p f with h|h
  ·exact .inl h
  ·exact absurd h (A _ b)
def El(G:Gh)(hp:List (Nat×ag))(b o:Nat):Prop:=∃n,∃(τ:Ty)(l:List τ.den)(E:TypeId),af hp n=some (.row τ l E)/\G.at n (.row τ l E)=some b/\o<l.length*τ.sz
noncomputable def Gh.allData(G:Gh)(hp:List (Nat×ag))(w:World):Gh:=
 { imm:=fun b o=>open Classical in match G.imm b o with|some v=>some v|none=>if El G hp b o then w.cell? ⟨b,o,none⟩ else none,box:=G.box,own:=G.own }
def LO{d:Gh}(c:∀b o v,G.imm b o=some v->d.imm b o=some v):∀{xs:List AV}{us:List Value}{b o:Nat},ao xs G.data us->(∀i u,us[i]? = some u->d.imm b (o+i)=some u)->de xs d b o
 |[],_,_,_,_,_=>trivial|x::xs,u::us,b,o,h,hc=>⟨⟨u,by simpa using hc 0 u rfl,ai.data_le c h.1⟩,LO c h.2 (fun i v e=>by rw[show o+1+i=o+(i+1) by omega];exact hc (i+1) v (by simpa using e))⟩
 |_::_,[],_,_,h,_=>h.elim
def J7(A:Fin q72 q7w q7z G s.hp w):G.le (G.allData s.hp w)/\c8 (G.allData s.hp w) [] w/\(∀b o,(G.allData s.hp w).imm b o≠G.imm b o->∀M,G.imm b M=none) /\
  (∀k τ l E v,af s.hp k=some (.row τ l E)->ai (.own k) G v->ai (.sl τ l) (G.allData s.hp w) v):=by
 have e:∀b o v,G.imm b o=some v->(G.allData s.hp w).imm b o=some v:=fun b o v h=>by
  show(match G.imm b o with|some v=>some v|none=>_)=_;rw[h]
 have t:∀b o,El G s.hp b o->(∀M,G.imm b M=none)/\∃v,w.cell? ⟨b,o,none⟩=some v/\v.oneCell'=true:=fun b o⟨n,τ,l,E,Z,F,h3⟩=>by
  obtain⟨V,c,z,I⟩:=A.mem.holds _ _ Z;rcases I with⟨rfl,_⟩|⟨g,N,Y,rfl,J,m3,K,m5,S,T,U,L⟩
  ·simp only[Gh.at,z]at F;cases F
  ·simp[Gh.at,z,qI]at F;subst F;have B:o<N.size:=by rw[S];exact Nat.lt_of_lt_of_le h3 (Nat.mul_le_mul_right _ K)
   exact⟨L,N[o],cell_of_heap J (by simp[B]),U _ Te⟩
 have p:∀b o v,(G.allData s.hp w).imm b o=some v->G.imm b o=some v\/(G.imm b o=none/\El G s.hp b o/\w.cell? ⟨b,o,none⟩=some v):=fun b o v h=>by
  simp[Gh.allData]at h
  cases r:G.imm b o with
  |some u=>rw[r]at h;exact .inl h|none=>
   rw[r]at h;simp only at h;split at h
   ·rename_i d;exact .inr ⟨rfl,d,h⟩
   ·cases h
 refine⟨⟨e,fun _ _ h=>h,fun _ _ h=>h⟩,⟨fun b o v h => ?_,fun b o v h => ?_,fun n bx h=>(by cases h),fun n m bx X b h=>(by cases h),LC.mono e (fun _ _ _ _=>rfl) A.mem.tab⟩,fun b o q => ?_,?_⟩
 ·rcases p b o v h with h|⟨_,_,h⟩
  ·exact A.mem.agree b o v h
  ·exact h
 ·rcases p b o v h with h|⟨_,d,h⟩
  ·exact A.mem.one b o v h
  ·obtain⟨u,f,H⟩:=(t b o d).2;rw[h]at f;injection f with f;subst f;exact H
 ·cases r:(G.allData s.hp w).imm b o with
  |none=>
   cases O:G.imm b o with|none=>rw[r,O]at q;exact absurd rfl q|some v=>rw[e b o v O]at r;cases r
  |some v=>
   rcases p b o v r with h|⟨_,d,_⟩
   ·rw[r,h]at q;exact absurd rfl q
   ·exact(t b o d).1
 ·intro k τ l E v Q hv;obtain⟨V,n,c,R,rfl⟩:=hv;obtain⟨W,c',z,I⟩:=A.mem.holds _ _ Q;have k2:∀y∈l,(τ.enc y).length=τ.sz:=fun y _=>τ.enc_length y
  rw[R]at z;simp at z;obtain⟨rfl,rfl,rfl⟩:=z;rcases I with⟨rfl,rfl,rfl⟩|⟨g,N,Y,rfl,J,m3,K,m5,S,T,U,L⟩
  ·exact⟨none,0,rfl,Te,.inl rfl⟩
  ·refine⟨_,c,rfl,K,.inr ⟨g,0,rfl,fun j x hx => ?_⟩⟩
   have C:=nZ τ.sz (Ai (j*τ.sz) T);rw[K8 k2 hx]at C;refine xu.1 (LO e C (fun i u f => ?_))
   rw[List.getElem?_take]at f;split at f
   ·rename_i hi;rw[List.getElem?_drop,List.getElem?_take]at f;split at f
    ·rename_i B;have hc:=cell_of_heap J f;have d:El G s.hp g (0+j*τ.sz+i):=⟨k,τ,l,E,Q,by simp[Gh.at,R],Ta⟩
     show(match G.imm g (0+j*τ.sz+i) with|some v=>some v|none=>_)=_
     rw[L];simp only;rw[qX d,wO];exact hc
    ·cases f
   ·cases f
end
end Go.Sym
namespace Go.Sym
open Go.RowKit
variable[LC]
section
variable{P:Program}{q72:World}{q7w:Gh}{q7z:List (Nat×ag)}{G:Gh}{s:St}{a:Act}{w:World}
def Qc(i:aj q72 q7w q7z G s a w){t:Tmp}{cs:List AV}{T:TypeId}{vs:Array Value}{s':St}(I:bq (s.nx+32*t) s.hp=true)(z:ao cs G vs.toList)(p:∀v∈vs.toList,v.oneCell'=true)
  {v:AV} {u:Value} (L:∀G':Gh,G'.box (s.nx+32*t)=some w.heap.size->ai v G' u) (K:s.add (some t) v [(s.nx+32*t,.cells cs T)]=some s') :
  ∃G',aj q72 q7w q7z G' s' (a.put (some t) u) (w.alloc (.cells vs T)):=by
 let k:=s.nx+32*t
 let G':Gh:={ imm:=G.imm,box:=fun m=>bif Nat.beq m k then some w.heap.size else G.box m,own:=G.own }
 have E:af s.hp k=none:=o9 I k (wF _) Ta
 obtain⟨A,F⟩:=i.fresh k Ta E
 have g:G.le G':=⟨fun _ _ _ h=>h,fun n B h=>by
  show(bif Nat.beq n k then some w.heap.size else G.box n)=_
  cases c:Nat.beq n k
  ·exact h
  ·(have:=qN c;subst this;rw[A]at h;cases h),fun _ _ h=>h⟩
 have d:G'.box k=some w.heap.size:=by show(bif Nat.beq k k then some w.heap.size else G.box k)=_;simp
 have f:∀n bx,af [(k,ag.cells cs T)] n=some bx->n=k/\bx = .cells cs T:=fun n bx h=>by
  simp[af]at h;cases c:Nat.beq k n
  ·rw[c]at h;cases h
  ·rw[c]at h;simp at h;exact⟨(qN c).symm,h.symm⟩
 have j:∀b o v,G.imm b o=some v->b<w.heap.size:=fun b o v h=>by
  have:=i.fin.mem.agree _ _ _ h;exact World.block_lt_of_cell? _ _ this
 refine⟨G',i.put K g ?_ (L G' d) ?_⟩
 ·intro m H q;rw[um]at q;have l:k≠m:=fun e=>by
   subst e;have:Nat.beq (s.nx+32*t) k=true:=by simp[k]
   simp[af,this,qT,reduceCtorEq]at q
  have C:af s.hp m=none:=by
   have:af [(k,ag.cells cs T)] m=none:=by
    simp[af];cases c:Nat.beq k m;· rfl
    ·exact absurd (qN c) l
   rw[this]at q;exact q
  obtain⟨x,y⟩:=i.fresh m H C;refine⟨?_,y⟩;show(bif Nat.beq m k then some w.heap.size else G.box m)=_
  cases c:Nat.beq m k
  ·exact x
  ·exact absurd (qN c).symm l
 ·refine i.fin.extend g (Fe _ _) (fun _ _ _ h => .inl h) (fun b o v h => ?_) i.fin.mem.one ?_ ?_ ?_
  ·rw[World.cell?_alloc_lt _ _ _ (j b o v h)];exact i.fin.mem.agree _ _ _ h
  ·intro n bx h;obtain⟨rfl,_⟩:=f n bx h;exact E
  ·intro n bx h;obtain⟨rfl,rfl⟩:=f n bx h;refine⟨⟨w.heap.size,vs,d,wu _ _,z.le g,p,fun o => ?_⟩,fun b c => ?_⟩
   ·cases J:G'.imm w.heap.size o with|none=>rfl|some v=>have:=j _ _ _ J;omega
   ·simp[Gh.at,d,qI]at c;omega
  ·intro n m bx r b x y _ _;obtain⟨rfl,_⟩:=f n bx x;obtain⟨rfl,_⟩:=f m r y;rfl
def Qb(e:aj q72 q7w q7z G s a w){t:Tmp}{cs:List AV}{T:TypeId}{vs:Array Value}{s':St}(d:bq (s.nx+32*t) s.hp=true)(c:ao cs G vs.toList)(b:∀v∈vs.toList,v.oneCell'=true)
  (f:s.add (some t) (.ptr (s.nx+32*t) 0) [(s.nx+32*t,.cells cs T)]=some s') :
  ∃G',aj q72 q7w q7z G' s' (a.put (some t) (.pointer (some ⟨w.heap.size,0,none⟩))) (w.alloc (.cells vs T)):=
 Qc (v := .ptr (s.nx+32*t) 0) (u := .pointer (some ⟨w.heap.size,0,none⟩)) e d c b (fun _ h=>⟨w.heap.size,h,rfl⟩) f
def Lf(ρ:Nat->Option Nat)(k:Nat):∀(l:List (Nat×ag))(m:Nat),af (pd ρ k l) m=if k<=m then(af l (m-k)).map (fk ρ) else none
 |[],m=>by simp[pd,af]|(n,b)::r,m=>by
  simp only[pd,af,Lf ρ k r m];by_cases g:k<=m
  ·simp only[g,if_true];by_cases f:k+n=m
   ·have c:Nat.beq (k+n) m=true:=by simpa using f
    have e:Nat.beq n (m-k)=true:=by simp;omega
    rw[c,e];rfl
   ·have c:Nat.beq (k+n) m=false:=by
     cases d:Nat.beq (k+n) m;· rfl
     ·exact absurd (qN d) f
    have e:Nat.beq n (m-k)=false:=by
     cases d:Nat.beq n (m-k);· rfl
     ·have:=qN d;omega
    rw[c,e];rfl
  ·simp[g,if_false];have c:Nat.beq (k+n) m=false:=by
    cases d:Nat.beq (k+n) m;· rfl
    ·have:=qN d;omega
   rw[c];rfl
def dA{m:Nat}:∀{hp:List (Nat×ag)},wy m hp=true->∀n bx,af hp n=some bx->n<m/\bx.noLoop=true
 |[],_,n,bx,h=>by cases h
 |(k,b)::r,h,n,bx,hl=>by
  simp[wy,qA,Nat.blt_eq]at h;simp[af]at hl;cases c:Nat.beq k n
  ·rw[c]at hl;exact dA h.2 n bx hl
  ·rw[c]at hl;simp at hl;subst hl;have:=qN c;exact⟨Ta,h.1.2⟩
def qjx(S:aj q72 q7w q7z G s a w){t:Tmp}{r:AV}{hp':List (Nat×ag)}{s':St}(hn:bq (s.nx+32*t) s.hp=true)(J:wy 32 hp'=true)
  {e:Ending} {w':World} (L:ny w G [] r hp' e w')
  (hs:s.add (some t) (AV.ren (shift hp' (s.nx+32*t)) r) (pd (shift hp' (s.nx+32*t)) (s.nx+32*t) hp')=some s') :
  ∃G' v,e = .returned v/\aj q72 q7w q7z G' s' (a.put (some t) v) w':=by
 obtain⟨v,G1,rfl,q,hv⟩:=L
 let k:=s.nx+32*t
 let G':Gh:={ imm:=G1.imm,box:=fun m=>match G.box m with|some B=>some B|none=>if k<=m/\(af hp' (m-k)).isSome then G1.box (m-k) else none,own:=fun m=>match G.own m with|some B=>some B|none=>if k<=m/\(af hp' (m-k)).isSome then G1.own (m-k) else none }
 have O:G.le G':=⟨q.imm_le,fun n B h=>by show(match G.box n with|some B=>some B|none=>_)=_;rw[h],fun n B h=>by show(match G.own n with|some B=>some B|none=>_)=_;rw[h]⟩
 have p:∀n bx,af hp' n=some bx->af s.hp (k+n)=none/\G.box (k+n)=none/\G.own (k+n)=none:=fun n bx h=>by
  have aa:=(dA J n bx h).1;have f:=o9 hn (k+n) Ta Ta
  exact⟨f,S.fresh _ Ta f⟩
 have u:∀n bx,af hp' n=some bx->G'.box (k+n)=G1.box n:=fun n bx h=>by
  obtain⟨_,C,_⟩:=p n bx h;show(match G.box (k+n) with|some B=>some B|none=>_)=_
  rw[C];simp[h]
 have y:∀n bx,af hp' n=some bx->G'.own (k+n)=G1.own n:=fun n bx h=>by
  obtain⟨_,_,C⟩:=p n bx h;show(match G.own (k+n) with|some B=>some B|none=>_)=_
  rw[C];simp[h]
 have z:∀n i,shift hp' k n=some i->i=k+n/\∃bx,af hp' n=some bx:=fun n i h=>by
  unfold shift at h
  cases d:af hp' n with
  |none=>rw[d]at h;cases h
  |some bx=>rw[d]at h;simp only[qI]at h;exact⟨h.symm,bx,rfl⟩
 have Z:∀n i B,shift hp' k n=some i->G1.box n=some B->G'.box i=some B:=fun n i B h f=>by
  obtain⟨rfl,bx,F⟩:=z n i h;rw[u n bx F];exact f
 have ro:∀n i B,shift hp' k n=some i->G1.own n=some B->G'.own i=some B:=fun n i B h f=>by
  obtain⟨rfl,bx,F⟩:=z n i h;rw[y n bx F];exact f
 have I:∀n bx,af hp' n=some bx->G'.at (k+n) (fk (shift hp' k) bx)=G1.at n bx:=fun n bx h=>by
  cases bx with|cells cs T=>simp only[fk,Gh.at];exact u n _ h|row τ l E=>simp only[fk,Gh.at];rw[y n _ h]|loop=>exact absurd (dA J n _ h).2 Tv|dfr=>exact absurd (dA J n _ h).2 Tv|it s0 p0=>exact absurd (dA J n _ h).2 Tv|dead=>rfl
 have K:∀b,¬qv G [] b:=fun b⟨n,bx,h,_⟩=>by cases h
 have V:d7 w w':=⟨q.bel.os,q.bel.tape,q.bel.output,q.bel.size,fun j hj _=>q.bel.block j hj (K j)⟩
 have H:∀m bx,af (pd (shift hp' k) k hp') m=some bx->∃n b0,m=k+n/\af hp' n=some b0/\bx=fk (shift hp' k) b0:=fun m bx h=>by
  rw[Lf]at h;split at h
  ·rename_i Y
   cases d:af hp' (m-k) with
   |none=>rw[d]at h;cases h
   |some b0=>rw[d]at h;simp only[wQ,qI]at h;exact⟨m-k,b0,Ta,d,h.symm⟩
  ·cases h
 refine⟨G',v,rfl,S.put hs O ?_ (ai.ren (G:=G1) (G':=G') (fun _ _ _ h=>h) Z ro hv) ?_⟩
 ·intro m Y x;rw[um]at x;have f:af (pd (shift hp' k) k hp') m=none:=by
   cases d:af (pd (shift hp' k) k hp') m with|none=>rfl|some b=>rw[show pd (shift hp' (s.nx+32*t)) (s.nx+32*t) hp'=pd (shift hp' k) k hp' from rfl,d]at x;cases x
  have C:af s.hp m=none:=by
   rw[show pd (shift hp' (s.nx+32*t)) (s.nx+32*t) hp'=pd (shift hp' k) k hp' from rfl,f]at x;exact x
  obtain⟨A,M⟩:=S.fresh m Y C;rw[Lf]at f;have R:¬(k<=m/\(af hp' (m-k)).isSome):=fun⟨h6,X⟩=>by
   rw[qX h6]at f
   cases d:af hp' (m-k) with
   |none=>rw[d]at X;cases X
   |some b=>rw[d]at f;cases f
  constructor
  ·show(match G.box m with|some B=>some B|none=>_)=_;rw[A];simp only[R,if_false]
  ·show(match G.own m with|some B=>some B|none=>_)=_;rw[M];simp[R,if_false]
 ·refine S.fin.extend O V (fun b o v h => ?_) q.mem.agree q.mem.one ?_ ?_ ?_
  ·rcases q.imm_new b o v h with h|h|h
   ·exact .inl h
   ·exact .inr h
   ·exact absurd h (K b)
  ·intro m bx h;obtain⟨n,b0,rfl,d,_⟩:=H m bx h;exact(p n b0 d).1
  ·intro m bx h;obtain⟨n,b0,rfl,d,rfl⟩:=H m bx h;refine⟨?_,fun b F => ?_⟩
   ·have F:=q.mem.holds n b0 d
    cases b0 with
    |cells cs T=>
     obtain⟨B,W,f,C,A,M,R⟩:=F;exact⟨B,W,by rw[u n _ d];exact f,C,ao.ren (G:=G1) (G':=G') (fun _ _ _ h=>h) Z ro A,M,R⟩
    |loop=>exact absurd (dA J n _ d).2 Tv|dfr=>exact absurd (dA J n _ d).2 Tv|it s0 p0=>exact absurd (dA J n _ d).2 Tv|row τ l E=>
     obtain⟨ad,c,f,A⟩:=F;refine⟨ad,c,by rw[y n _ d];exact f,?_⟩
     rcases A with A|⟨g,W,fz,k1,k2,k3,k4,k5,k6,k7,k8,k9⟩
     ·exact .inl A
     ·exact .inr ⟨g,W,fz,k1,k2,k3,k4,k5,k6,k7,k8,k9⟩
    |dead=>trivial
   ·rw[I n b0 d]at F;rcases q.base n b0 b d F with h|h
    ·exact h
    ·exact absurd h (K b)
  ·intro m m' bx U b f C A M;obtain⟨n,b0,rfl,d,rfl⟩:=H m bx f;obtain⟨i,N,rfl,Q,rfl⟩:=H m' U C;rw[I n b0 d]at A;rw[I i N Q]at M;rw[q.mem.apart n i b0 N b d Q A M]
def Jw(p:aj q72 q7w q7z G s a w){o:Oper}{d:D}{ps:List Prop}{v:AV}{new:List (Nat×ag)}{s':St}(h:gq P s d o=some (ps,v,new))(hp:ay ps)(S:s.add o.dst v new=some s')
  {N:Act->World->Prop} {Q:Exit->Act->World->Prop} (V:∀G' a' w',aj q72 q7w q7z G' s' a' w'->N a' w'):o.wp P a w N Q:=by
 unfold gq at h;split at h
 ·rename_i b4 v' hv;simp at h;obtain⟨rfl,rfl,rfl⟩:=h;obtain⟨u,hu,be⟩:=qi0 p hv hp;unfold Oper.wp;rw[hu];exact V _ _ _ (jv p S be)
 ·obtain⟨aa,op,ty,H,j,guard⟩:=o;simp only at S;unfold lg at h;split at h
  ·rename_i T t B A;simp only at B A;subst B A;split at h
   ·rename_i U hz;cases i:AV.ones U&&bq (s.nx+32*t) s.hp<;>rw[i]at h<;>simp at h
    obtain⟨rfl,rfl,rfl⟩:=h;simp at i;obtain⟨z,bs,L⟩:=Mc hz w G;obtain⟨G',I⟩:=Qb p i.2 L (xa L i.1) S;have q:(execOp a.eval ⟨some t,.alloc T,ty,H,j,guard⟩).run P w = .ok (.value (.pointer (some ⟨w.heap.size,0,none⟩))) (w.alloc (.cells z.cells T)):=by
     simp[execOp,Instr.alloc,bs,newVar,newRow]
    unfold Oper.wp;rw[q];exact V _ _ _ I
   ·cases h
  ·rename_i T x t B A;simp only at B A;subst B A;split at h
   ·rename_i v' hx;cases i:AV.ones v'.cells&&bq (s.nx+32*t) s.hp<;>rw[i]at h<;>simp at h
    obtain⟨rfl,rfl,rfl⟩:=h;simp at i;have L:=(cm p hx).cells i.1;obtain⟨G',I⟩:=Qb p i.2 L (xa L i.1) S;have q:(execOp a.eval ⟨some t,.box T x,ty,H,j,guard⟩).run P w = .ok (.value (.pointer (some ⟨w.heap.size,0,none⟩))) (w.alloc (.cells (a.eval x).cells T)):=by
     simp[execOp,Instr.box,newVar,newRow]
    unfold Oper.wp;rw[q];exact V _ _ _ I
   ·cases h
  ·rename_i g args b2 t B A;simp only at B A;subst B A;split at h
   ·rename_i f a1 a0 xs bb b6 r ac hg Z _;split at h
    ·rename_i pv an;cases i:wy 32 ac&&bq (s.nx+32*t) s.hp&&(!bb||noRef r)<;>rw[i]at h<;>simp at h
     obtain⟨rfl,rfl,rfl⟩:=h;simp at i;obtain⟨ba,hc,a9⟩:=hp;obtain⟨ah,bd⟩:=eq.1 a9;obtain⟨fs,U,a7,a6,a4⟩:=cm p hg;have q:(execOp a.eval ⟨some t,.call { callee := .value g,args:=args,argTypes:=b2 },ty,H,j,guard⟩).run P w = .ok (.enter f (fs++args.map a.eval++U)) w:=by
      simp[execOp,resolve,a7,Deferred.ofValue,invoke,ba _ w]
     unfold Oper.wp;rw[q];have J:ao ((a1++xs)++a0) G ((fs.toList++args.toList.map a.eval)++U.toList):=w9 (w9 a6 (cE p Z)) a4;have e1:((fs.toList++args.toList.map a.eval)++U.toList).toArray=fs++args.map a.eval++U:=Te
     have F:Calls P f (fs++args.map a.eval++U) w (ny w G [] r ac):=by
      cases bb
      ·have:=hc w G _ ⟨p.fin.mem.agree,p.fin.mem.one,fun n bx h=>(by cases h),fun n m bx b3 b h=>(by cases h),p.fin.mem.tab⟩ (nk (Gh.le.refl G) (fun e=>by cases e) an ah J)
       rwa [e1]at this
      ·obtain⟨z1,z2,z3,z4⟩:=J7 p.fin;have:=hc w (G.allData s.hp w) _ z2 (nk z1 (fun _=>z4) an ah J)
       rw[e1]at this;refine this.mono (fun e w' hp => ?_)
       exact ny.unfreeze p.fin.mem.tab z3 hp (by simpa using i.2) bd
     refine F.mono ?_;intro e w' F;obtain⟨G',v,rfl,I⟩:=qjx p i.1.2 i.1.1 F S;exact V _ _ _ I
    ·cases h
   ·cases h
  ·rename_i args argTypes O B A;simp only at B A;subst B A;split at h
   ·rename_i x y t t2 ha br;split at h
    ·rename_i v hx hy;split at h
     ·rename_i ps b ab;cases i:bq (s.nx+32*O) s.hp<;>rw[i]at h<;>simp at h
      obtain⟨rfl,rfl,rfl⟩:=h;have e1:args=#[x,y]:=by rw[← Array.toArray_toList (xs:=args),ha]
      have e2:argTypes=#[t,t2]:=by rw[← Array.toArray_toList (xs:=argTypes),br]
      subst e1 e2;obtain⟨τ,l,E,rfl,_,a8⟩:=Pj p (ty:=ty) (_sz0:=0) (_E0:=0) (ad:=none) (c:=0) (us:=[]) ab hp (cm p hy) trivial;obtain⟨av,c',b5,w',W,X,Y,R,h5⟩:=a8 ⟨Te,.inl ⟨rfl,rfl,rfl⟩⟩
      have K:=cm p hx;simp[ai]at K;obtain⟨G',I⟩:=Am p i ⟨h5.os,h5.tape,h5.output,h5.size,fun k hk _=>h5.block k hk (by simp[eu])⟩ X Y (fun b i=>by
       rcases R with R|⟨g,R,h6⟩
       ·rw[R]at i;cases i
       ·rw[R]at i;injection i with i;omega) S
      have q:(execOp a.eval ⟨some O,.call { callee := .builtin .append,args:=#[x,y],argTypes:=#[t,t2] },ty,H,j,guard⟩).run P w = .ok (.value (.slice av l.length c')) w':=by
       simp[execOp,resolve,invoke,builtin,K,W]
      unfold Oper.wp;rw[q];exact V _ _ _ I
     ·cases h
    ·cases h
   ·cases h
  ·rename_i t C M O B A;simp only at B A;subst B A;split at h
   ·rename_i ps b a3;cases i:bq (s.nx+32*O) s.hp<;>rw[i]at h<;>simp at h
    obtain⟨rfl,rfl,rfl⟩:=h;obtain⟨τ,l,E,rfl,us,w',W,X,Y,R⟩:=qhg p a3 hp;obtain⟨G',I⟩:=Am p i R X Y (fun b i=>by injection i with i;simp at i;omega) S
    unfold Oper.wp;rw[show(execOp a.eval ⟨some O,.buildSlice t C M,ty,H,j,guard⟩).run P w = .ok (.value (.slice (some ⟨w.heap.size,0,none⟩) l.length l.length)) w' by simp[execOp,W]]
    exact V _ _ _ I
   ·split at h
    ·rename_i U E a2;cases i:bq (s.nx+32*O) s.hp<;>rw[i]at h<;>simp at h
     obtain⟨rfl,rfl,rfl⟩:=h;obtain⟨us,W,X,Y⟩:=qhf p a2;obtain⟨G',I⟩:=Qc (v := .asl (s.nx+32*O) C C) (u := .slice (some ⟨w.heap.size,0,none⟩) C C) p i X Y (fun _ h=>⟨w.heap.size,h,wF _,rfl⟩) S
     unfold Oper.wp;rw[show(execOp a.eval ⟨some O,.buildSlice t C M,ty,H,j,guard⟩).run P w = .ok (.value (.slice (some ⟨w.heap.size,0,none⟩) C C)) (w.alloc (.cells us E)) by simp[execOp,W]]
     exact V _ _ _ I
    ·cases h
  ·rename_i b1 aa x O B A;simp only at B A;subst B A;split at h
   ·rename_i sd E b bk a5 hx;split at h
    ·rename_i he;cases i:bq (s.nx+32*O) s.hp<;>rw[i]at h<;>simp at h
     obtain⟨rfl,rfl,rfl⟩:=h;simp[ay,and_true]at hp;obtain⟨c,us,w',W,X,Y,R⟩:=qrz (P:=P) (w:=w) (G:=G.data) bk a5 he b hp;have K:=cm p hx;simp[ai]at K;obtain⟨G',I⟩:=Am (τ := .byte) (l:=b) (E:=E) p i R X Y (fun b i=>by injection i with i;simp at i;omega) S
     unfold Oper.wp;rw[show(execOp a.eval ⟨some O,.convert b1 aa x,ty,H,j,guard⟩).run P w = .ok (.value (.slice (some ⟨w.heap.size,0,none⟩) b.length c)) w' by simp[execOp,K,W]]
     exact V _ _ _ I
    ·cases h
   ·cases h
  ·cases h
end
def xd{names:List (Nat×Nat)}{n m:Nat}(h:bf names n=some m):bm names m=some n:=by
 unfold bf at h;split at h
 ·rename_i e d;split at h
  ·rename_i c b;cases a:Nat.beq c n<;>rw[a]at h<;>simp at h
   subst h;have:=qN a;subst this;exact b
  ·cases h
 ·cases h
def oI{ρ:Nat->Option Nat}{hp:List (Nat×ag)}:∀{names:List (Nat×Nat)}{l:List (Nat×ag)},ja ρ hp names=some l->∀m,(∀c,af l m=some c->∃n b,bm names m=some n/\af hp n=some b/\c=fk ρ b)/\(af l m=none->bm names m=none)
 |[],l,h,m=>by simp[ja,qI]at h;subst h;exact⟨fun c d=>(by cases d),fun _=>rfl⟩
 |(k,n)::r,l,h,m=>by
  simp[ja]at h;split at h
  ·rename_i b g d e;simp at h;subst h;simp only[af,bm];cases f:Nat.beq k m
   ·simpa using oI e m
   ·simp only[qT];exact⟨fun c a=>by injection a with a;exact⟨n,b,rfl,d,a.symm⟩,fun h=>(by cases h)⟩
  ·cases h
def gV:∀{names:List (Nat×Nat)}{n:Nat},ul names n=none->∀m,bm names m≠some n
 |[],n,_,m=>by simp[bm]|(k,v)::r,n,h,m=>by
  simp[ul]at h;cases a:Nat.beq v n
  ·rw[a]at h;simp at h;simp[bm];cases b:Nat.beq k m
   ·exact gV h m
   ·simp;intro e;subst e;simp at a
  ·rw[a]at h;cases h
def cC:∀{names:List (Nat×Nat)},eh names=true->∀m m' n,bm names m=some n->bm names m'=some n->m=m'
 |[],_,m,m',n,h,_=>by cases h
 |(k,v)::r,hd,m,m',n,h,h'=>by
  simp[eh,qA]at hd;have c:ul r v=none:=by
   obtain⟨b,_⟩:=hd;split at b
   ·cases b
   ·assumption
  simp[bm]at h h';cases d:Nat.beq k m<;>cases a:Nat.beq k m'<;>rw[d]at h<;>rw[a]at h'<;>simp at h h'
  ·exact cC hd.2 m m' n h h'
  ·subst h';exact absurd h (gV c m)
  ·subst h;exact absurd h' (gV c m')
  ·rw[← qN d,← qN a]
def zp{names:List (Nat×Nat)}(d:eh names=true){n m:Nat}(h:bm names n=some m):bf names m=some n:=by
 unfold bf
 cases i:ul names m with
 |none=>exact absurd h (gV i n)|some e=>
  have j:∀{names:List (Nat×Nat)},eh names=true->∀{n e},ul names m=some e->bm names n=some m->e=n:=by
   intro names
   induction names with
   |nil=>intro _ n e h;cases h
   |cons x r ih=>
    obtain⟨k,v⟩:=x;intro d n e c b;simp[eh,qA]at d;simp[ul]at c;simp[bm]at b;cases f:Nat.beq v m
    ·rw[f]at c;cases a:Nat.beq k n
     ·rw[a]at b;exact ih d.2 c b
     ·rw[a]at b;simp at b;subst b;simp at f
    ·rw[f]at c;simp at c;subst c;have o:=qN f;subst o;cases a:Nat.beq k n
     ·rw[a]at b;simp at b;obtain⟨g,_⟩:=d;split at g
      ·cases g
      ·rename_i l;exact absurd b (gV l n)
     ·exact qN a
  have:=j d i h;subst this;simp[h]
def Gh.view(G:Gh)(names:List (Nat×Nat)):Gh:={ imm:=G.imm,box:=fun m=>(bm names m).bind G.box,own:=fun m=>(bm names m).bind G.own }
def qaa{ρ:Nat->Option Nat}:∀{fr:List (Nat×AV)}{i:Nat}{x:AV},af (rt ρ fr) i=some x->∃y,af fr i=some y/\x=y.ren ρ
 |[],_,_,h=>by cases h
 |(j,y)::r,i,x,h=>by
  simp[rt,af]at h ⊢;cases a:Nat.beq j i
  ·rw[a]at h;simpa using qaa h
  ·rw[a]at h;simp at h;exact⟨y,Te,h.symm⟩
section
variable{P:Program}{q72:World}{q7w:Gh}{q7z:List (Nat×ag)}{G:Gh}{s:St}{a:Act}{w:World}
def uz(names:List (Nat×Nat)):∀n b B,bf names n=some b->G.box n=some B->(G.view names).box b=some B:=fun n b B h c=>by
 show(bm names b).bind G.box=_;rw[xd h];exact c
def xm(names:List (Nat×Nat)):∀n b B,bf names n=some b->G.own n=some B->(G.view names).own b=some B:=fun n b B h c=>by
 show(bm names b).bind G.own=_;rw[xd h];exact c
def dv.ren{G':Gh}{ρ:Nat->Option Nat}{n m:Nat}(z:∀b o v,G.imm b o=some v->G'.imm b o=some v)(A:∀b o v,G'.imm b o=some v->G.imm b o=some v)
  (u:∀n r B,ρ n=some r->G.box n=some B->G'.box r=some B) (J:∀n r B,ρ n=some r->G.own n=some B->G'.own r=some B)
  (k:∀B,G.box n=some B->G'.box m=some B) (C:∀v,G.own n=some v->G'.own m=some v) {b:ag} (h:dv G w n b):dv G' w m (fk ρ b):=by
 have d:∀B,(∀o,G.imm B o=none)->∀o,G'.imm B o=none:=fun B h o=>by
  cases N:G'.imm B o with|none=>rfl|some v=>have:=A B o v N;rw[h]at this;cases this
 cases b with
 |cells cs T=>
  obtain⟨B,I,p,q,e,F,H⟩:=h;exact⟨B,I,k _ p,q,ao.ren z u J e,F,d B H⟩
 |row τ l E=>
  obtain⟨K,c,p,e⟩:=h;refine⟨K,c,C _ p,?_⟩;rcases e with e|⟨g,I,L,S,U,V,W,X,Y,Z,m8,m9⟩
  ·exact .inl e
  ·exact .inr ⟨g,I,L,S,U,V,W,X,Y,ao.data_le z Z,m8,d g m9⟩
 |loop st pe f j fr ps aa D=>
  obtain⟨B,t,DB,p,q,e,F,H,R⟩:=h;simp[fk];split
  ·rename_i D' M;refine⟨B,t,DB,k _ p,u _ _ _ M q,e,F,fun i x O => ?_,d B R⟩
   obtain⟨y,Q,rfl⟩:=qaa O;obtain⟨v,q1,q2⟩:=H i y Q;exact⟨v,q1,ai.ren z u J q2⟩
  ·trivial
 |dfr=>
  obtain⟨B,p,q,e⟩:=h;exact⟨B,k _ p,q,d B e⟩
 |it s0 p0=>
  obtain⟨B,p,q,e⟩:=h;exact⟨B,k _ p,q,d B e⟩
 |dead=>trivial
def wh{G':Gh}{ρ:Nat->Option Nat}{n m:Nat}(d:G'.box m=G.box n)(e:G'.own m=G.own n){b:ag}{c:Nat}(h:G'.at m (fk ρ b)=some c):G.at n b=some c:=by
 cases b with
 |cells i T=>simp[fk,Gh.at]at h ⊢;rw[← d];exact h|row τ l E=>simp[fk,Gh.at]at h ⊢;rw[← e];exact h|loop t p f j k q g D=>
  simp[fk]at h;split at h
  ·simp[Gh.at]at h ⊢;rw[← d];exact h
  ·cases h
 |dfr=>simp[fk,Gh.at]at h ⊢;rw[← d];exact h|it r o=>simp[fk,Gh.at]at h ⊢;rw[← d];exact h|dead=>cases h
def c8.view{hp l:List (Nat×ag)}(d:c8 G hp w){names:List (Nat×Nat)}(h:ja (bf names) hp names=some l)(e:∀m m' n,bm names m=some n->bm names m'=some n->m=m'):c8 (G.view names) l w:=by
 have j:∀m n,bm names m=some n->(G.view names).box m=G.box n:=fun m n d=>by simp[Gh.view,d]
 have k:∀m n,bm names m=some n->(G.view names).own m=G.own n:=fun m n d=>by simp[Gh.view,d]
 refine⟨d.agree,d.one,?_,?_,d.tab⟩
 ·intro m g q;obtain⟨n,b,f,o,rfl⟩:=(oI h m).1 g q;exact dv.ren (G:=G) (G':=G.view names) (ρ:=bf names) (n:=n) (fun _ _ _ h=>h) (fun _ _ _ h=>h) (uz names) (xm names) (fun B p=>by rw[j m n f];exact p) (fun B p=>by rw[k m n f];exact p) (d.holds n b o)
 ·intro m m' b g c f o v x;obtain⟨n,b0,r,y,rfl⟩:=(oI h m).1 b f;obtain⟨u,i,t,z,rfl⟩:=(oI h m').1 g o;have:=d.apart n u b0 i c y z (wh (j m n r) (k m n r) v) (wh (j m' u t) (k m' u t) x);subst this;exact e m m' n r t
def qcy:∀{fr fr':List (Nat×AV)}{ps:List Prop},iQ fr fr'=some ps->ay ps->∀i y,af fr' i=some y->∃x d,af fr i=some x/\vw false [] x y=some d/\ay d
 |_,[],_,_,_,i,y,h=>by cases h
 |fr,(j,z)::r,ps,h,hp,i,y,hy=>by
  simp[iQ]at h;split at h
  ·rename_i x g;split at h
   ·rename_i c m e f;simp at h;subst h;obtain⟨k,l⟩:=eq.1 hp;simp[af]at hy;cases b:Nat.beq j i
    ·rw[b]at hy;exact qcy f l i y hy
    ·rw[b]at hy;simp at hy;subst hy;have:=qN b;subst this;exact⟨x,c,g,e,k⟩
   ·cases h
  ·cases h
def oJ{b j:ag}{ps:List Prop}(h:dO b j=some ps)(hp:ay ps){n:Nat}(f:dv G w n b):dv G w n j/\∀c,G.at n j=some c->G.at n b=some c:=by
 unfold dO at h;split at h
 ·exact⟨trivial,fun c d=>by cases d⟩
 ·rename_i N T O u;cases t:Nat.beq T u<;>rw[t]at h<;>simp at h
  have:=qN t;subst this;obtain⟨B,L,l,m,o,p,r⟩:=f;exact⟨⟨B,L,l,m,nk (Gh.le.refl G) (fun e=>by cases e) h hp o,p,r⟩,fun c d=>d⟩
 ·simp at h;subst h;simp[ay,and_true]at hp;subst hp;exact⟨f,fun c d=>d⟩
 ·split at h
  ·rename_i M k;simp only[qI]at h;subst h;obtain⟨z,A⟩:=eq.1 hp;obtain⟨rfl,rfl,rfl,rfl,rfl,rfl,rfl,_⟩:=z;obtain⟨B,g,DB,l,m,o,p,r,K⟩:=f;refine⟨⟨B,g,DB,l,m,o,p,fun i y J => ?_,K⟩,fun c d=>d⟩
   obtain⟨x,q,C,E,F⟩:=qcy k A i y J;obtain⟨v,H,I⟩:=r i x C;exact⟨v,H,Fr (Gh.le.refl G) (fun e=>by cases e) E F I⟩
  ·cases h
 ·exact⟨f,fun c d=>d⟩
 ·simp at h;subst h;obtain⟨rfl,rfl,_⟩:=hp;exact⟨f,fun c d=>d⟩
 ·cases h
def oK:∀{l l':List (Nat×ag)}{ps:List Prop},lz l l'=some ps->ay ps->∀n,(∀c,af l' n=some c->∃b g,af l n=some b/\dO b c=some g/\ay g)/\((af l n).isSome->(af l' n).isSome)
 |[],[],_,_,_,n=>⟨fun c h=>(by cases h),fun h=>h⟩
 |(m,b)::r,(m',c)::r',ps,h,hp,n=>by
  simp[lz]at h;cases f:Nat.beq m m'<;>rw[f]at h<;>simp at h
  have:=qN f;subst this;split at h
  ·rename_i d p i j;simp at h;subst h;obtain⟨k,o⟩:=eq.1 hp;simp only[af];cases t:Nat.beq m n
   ·simpa using oK j o n
   ·simp only[qT,qI,Option.isSome_some,imp_self,and_true];intro q e;subst e;exact⟨b,d,rfl,i,k⟩
  ·cases h
 |[],_::_,_,h,_,_=>by simp[lz]at h|_::_,[],_,h,_,_=>by simp[lz]at h
def c8.vw{hp l:List (Nat×ag)}(d:c8 G hp w){ps:List Prop}(h:lz hp l=some ps)(e:ay ps):c8 G l w:=by
 refine⟨d.agree,d.one,fun n b x => ?_,fun n m b q c r t u v => ?_,d.tab⟩
 ·obtain⟨b0,y,i,j,o⟩:=(oK h e n).1 b x;exact(oJ j o (d.holds n b0 i)).1
 ·obtain⟨b0,y,i,j,o⟩:=(oK h e n).1 b r;obtain⟨f,z,g,k,p⟩:=(oK h e m).1 q t;exact d.apart n m b0 f c i g ((oJ j o (d.holds n b0 i)).2 c u) ((oJ k p (d.holds m f g)).2 c v)
def JL{names:List (Nat×Nat)}{hp:List (Nat×ag)}{k n m:Nat}(h:iq names hp k n=some m):bm names n=some m\/(bm names n=none/\(af hp n).isSome/\n<32/\m=k+n):=by
 unfold iq at h;split at h
 ·rename_i g f;simp at h;subst h;exact .inl f
 ·rename_i e;split at h
  ·rename_i b d;cases c:Nat.blt n 32<;>rw[c]at h<;>simp at h
   exact .inr ⟨e,by rw[d];rfl,by simpa using c,h.symm⟩
  ·cases h
def JK{ρ:Nat->Option Nat}(l:∀n f m,ρ n=some m->ρ f=some m->n=f):∀{hp:List (Nat×ag)}{m:Nat},(∀i,af (ow ρ hp) m=some i->∃n b,ρ n=some m/\af hp n=some b/\i=fk ρ b)/\(af (ow ρ hp) m=none->∀n,ρ n=some m->af hp n=none)
 |[],m=>⟨fun i h=>(by cases h),fun _ _ _=>rfl⟩
 |(n,b)::r,m=>by
  have q:=JK l (hp:=r) (m:=m);simp only[ow]
  cases p:ρ n with
  |none=>
   simp only;refine⟨fun i c => ?_,fun h f d => ?_⟩
   ·obtain⟨f,b0,g,t,u⟩:=q.1 i c;refine⟨f,b0,g,?_,u⟩;simp[af];cases k:Nat.beq n f
    ·exact t
    ·have:=qN k;subst this;rw[p]at g;cases g
   ·simp[af];cases k:Nat.beq n f
    ·exact q.2 h f d
    ·have:=qN k;subst this;rw[p]at d;cases d
  |some m'=>
   simp only[af];cases k:Nat.beq m' m
   ·simp only[qF];have o:m'≠m:=fun e=>by subst e;simp at k
    refine⟨fun i c => ?_,fun h f d => ?_⟩
    ·obtain⟨f,b0,g,t,u⟩:=q.1 i c;refine⟨f,b0,g,?_,u⟩;cases j:Nat.beq n f
     ·exact t
     ·have:=qN j;subst this;rw[p]at g;injection g with g;exact absurd g o
    ·cases j:Nat.beq n f
     ·exact q.2 h f d
     ·have:=qN j;subst this;rw[p]at d;injection d with g;exact absurd g o
   ·simp only[qT];have:=qN k;subst this;refine⟨fun i c => ?_,fun h=>(by cases h)⟩
    injection c with c
    exact⟨n,b,p,Te,c.symm⟩
def DK:∀{names:List (Nat×Nat)}{m:Nat},(∀b,af (pz names) m=some b->b = .dead)/\(af (pz names) m=none->ul names m=none)
 |[],m=>⟨fun b h=>(by cases h),fun _=>rfl⟩
 |(n,v)::r,m=>by
  simp[pz,af,ul];cases c:Nat.beq v m
  ·exact DK (names:=r)
  ·exact⟨fun b h=>by simp at h;exact h.symm,fun h=>(by cases h)⟩
def zS(y:aj q72 q7w q7z G s a w){k:Nat}{r:AV}{names:List (Nat×Nat)}{hpv hp hp':List (Nat×ag)}{ps:List Prop}(hd:eh names=true)(hn:bq k s.hp=true)(b5:s.nx<=k)
  (hv:ja (bf names) s.hp names=some hpv) (a9:lz hpv hp=some ps) (a6:ay ps) {e:Ending} {w':World} (a2:ny w (G.view names) hp r hp' e w') :
  ∃G' v,e = .returned v/\ai (r.ren (iq names hp' k)) G' v/\G.le G'/\aj q72 q7w q7z G' { s with hp:=ow (iq names hp' k) hp'++(pz names++s.hp) } a w':=by
 obtain⟨v,G1,rfl,M,br⟩:=a2;obtain⟨ρ,hρ⟩:∃ρ,ρ=iq names hp' k:=⟨_,rfl⟩;rw[← hρ];have ab:=cC hd
 -- what was handed in
 have X:∀n m,bm names n=some m->(∃b,af s.hp m=some b)/\(af hp n).isSome:=fun n m h=>by
  have d:=oI hv n;have:(af hpv n).isSome:=by
   cases A:af hpv n with
   |none=>have:=d.2 A;rw[h]at this;cases this
   |some b=>rfl
  refine⟨?_,(oK a9 a6 n).2 this⟩
  cases A:af hpv n with
  |none=>rw[A]at this;cases this
  |some b=>obtain⟨C,b0,I,K,_⟩:=d.1 b A;rw[h]at I;injection I with I;subst I;exact⟨b0,K⟩
 have be:∀n U c,af hp n=some U->(G.view names).at n U=some c->∃m b,bm names n=some m/\af s.hp m=some b/\G.at m b=some c:=fun n U c d p=>by
  obtain⟨b1,qs,I,K,i3⟩:=(oK a9 a6 n).1 U d;have hm:c8 (G.view names) hpv w:=y.fin.mem.view hv ab;have z:=(oJ K i3 (hm.holds n b1 I)).2 c p;obtain⟨m,b,j1,j2,rfl⟩:=(oI hv n).1 b1 I;exact⟨m,b,j1,j2,wh (G:=G) (by simp[Gh.view,j1]) (by simp[Gh.view,j1]) z⟩
 have Z:∀c,qv (G.view names) hp c->∃n m b,bm names n=some m/\af s.hp m=some b/\G.at m b=some c:=fun c⟨n,U,d,p⟩=>by
  obtain⟨m,b,q⟩:=be n U c d p;exact⟨n,m,b,q⟩
 have a5:∀j,j<32->af s.hp (k+j)=none/\G.box (k+j)=none/\G.own (k+j)=none:=fun j hj=>by
  have d:=o9 hn (k+j) Ta Ta
  exact⟨d,y.fresh _ Ta d⟩
 have a1:∀j n,j<32->bm names n≠some (k+j):=fun j n hj h=>by
  obtain⟨⟨b,S⟩,_⟩:=X n _ h;rw[(a5 j hj).1]at S;cases S
 have bk:∀j,j<32->bf names (k+j)=none:=fun j hj=>by
  cases A:bf names (k+j) with|none=>rfl|some n=>exact absurd (xd A) (a1 j n hj)
 have aa:∀n C m,ρ n=some m->ρ C=some m->n=C:=fun n C m h h'=>by
  subst hρ;rcases JL h with h|⟨d,p,z,W⟩<;>rcases JL h' with h'|⟨b3,b4,bb,bd⟩
  ·exact ab n C m h h'
  ·subst bd;exact absurd h (a1 C n bb)
  ·subst W;exact absurd h' (a1 n C z)
  ·omega
 let N:Gh:={ imm:=G1.imm,box:=fun m=>match bf names m with|some n=>G1.box n|none=>match G.box m with|some B=>some B|none=>if k<=m/\m<k+32/\bm names (m-k)=none/\(af hp' (m-k)).isSome then G1.box (m-k) else none,own:=fun m=>match bf names m with|some n=>G1.own n|none=>match G.own m with|some B=>some B|none=>if k<=m/\m<k+32/\bm names (m-k)=none/\(af hp' (m-k)).isSome then G1.own (m-k) else none }
 have V:∀n m,bm names n=some m->N.box m=G1.box n/\N.own m=G1.own n:=fun n m h=>by
  have:=zp hd h;exact⟨by show(match bf names m with|some n=>G1.box n|none=>_)=_;rw[this],by show(match bf names m with|some n=>G1.own n|none=>_)=_;rw[this]⟩
 have a4:∀n,bm names n=none->(af hp' n).isSome->n<32->N.box (k+n)=G1.box n/\N.own (k+n)=G1.own n:=fun n d p z=>by
  obtain⟨_,f1,f2⟩:=a5 n z;have a7:=bk n z;have hc:k<=k+n/\k+n<k+32/\bm names (k+n-k)=none/\(af hp' (k+n-k)).isSome:=by
   rw[Nat.add_sub_cancel_left];exact⟨Ta,Ta,d,p⟩
  constructor
  ·show(match bf names (k+n) with|some n=>G1.box n|none=>match G.box (k+n) with|some B=>some B|none=>_)=_
   rw[a7,f1];exact(qX hc).trans (by rw[Nat.add_sub_cancel_left])
  ·show(match bf names (k+n) with|some n=>G1.own n|none=>match G.own (k+n) with|some B=>some B|none=>_)=_
   rw[a7,f2];exact(qX hc).trans (by rw[Nat.add_sub_cancel_left])
 have H:∀n m,ρ n=some m->N.box m=G1.box n/\N.own m=G1.own n:=fun n m h=>by
  subst hρ;rcases JL h with h|⟨d,p,z,rfl⟩
  ·exact V n m h
  ·exact a4 n d p z
 have an:∀m,bf names m=none->(∀B,G.box m=some B->N.box m=some B)/\(∀B,G.own m=some B->N.own m=some B):=fun m h=>by
  refine⟨fun B R => ?_,fun B R => ?_⟩
  ·show(match bf names m with|some n=>G1.box n|none=>match G.box m with|some B=>some B|none=>_)=_
   rw[h,R]
  ·show(match bf names m with|some n=>G1.own n|none=>match G.own m with|some B=>some B|none=>_)=_
   rw[h,R]
 have t:G.le N:=by
  refine⟨M.imm_le,fun m B R => ?_,fun m B R => ?_⟩
  ·cases A:bf names m with
   |none=>exact(an m A).1 B R|some n=>
    have d:=xd A;rw[(V n m d).1];obtain⟨_,p⟩:=X n m d;obtain⟨b,S⟩:=Option.isSome_iff_exists.1 p;exact M.keep n b B S (by simp[Gh.view,d,R])
  ·cases A:bf names m with
   |none=>exact(an m A).2 B R|some n=>
    have d:=xd A;rw[(V n m d).2];obtain⟨_,p⟩:=X n m d;obtain⟨b,S⟩:=Option.isSome_iff_exists.1 p;exact M.keepOwn n b B S (by simp[Gh.view,d,R])
 have rb:∀n C B,ρ n=some C->G1.box n=some B->N.box C=some B:=fun n C B h d=>by rw[(H n C h).1];exact d
 have ro:∀n C B,ρ n=some C->G1.own n=some B->N.own C=some B:=fun n C B h d=>by rw[(H n C h).2];exact d
 have Q:∀{B:Nat}{o:Obj},w.heap[B]? = some o->B<w.heap.size:=fun h=>(Array.getElem?_eq_some_iff.1 h).1
 -- what lies under a name: one of three
 have ac:∀m b,af (ow ρ hp'++(pz names++s.hp)) m=some b->(∃n b0,ρ n=some m/\af hp' n=some b0/\b=fk ρ b0)\/b = .dead\/((∀n,bm names n≠some m)/\af s.hp m=some b):=fun m b h=>by
  rw[um]at h
  cases A:af (ow ρ hp') m with
  |some b1=>
   rw[A]at h;simp at h;subst h;obtain⟨n,b0,d,p,z⟩:=(JK aa).1 b1 A;exact .inl ⟨n,b0,d,p,z⟩
  |none=>
   rw[A]at h;simp only at h;rw[um]at h
   cases ah:af (pz names) m with|some b1=>rw[ah]at h;simp at h;subst h;exact .inr (.inl (DK.1 b1 ah))|none=>rw[ah]at h;exact .inr (.inr ⟨fun n=>gV (DK.2 ah) n,h⟩)
 have a3:∀m b c,(∀n,bm names n≠some m)->af s.hp m=some b->G.at m b=some c->¬qv (G.view names) hp c:=fun m b c d p z W=>by
  obtain⟨n,m',U,I,K,i3⟩:=Z c W;have:=y.fin.mem.apart m m' b U c p K z i3;subst this;exact d n I
 have a8:∀m b,(∀n,bm names n≠some m)->af s.hp m=some b->dv N w' m b:=fun m b d p=>by
  have S:=y.fin.mem.holds m b p;have b6:bf names m=none:=by
   cases A:bf names m with|none=>rfl|some n=>exact absurd (xd A) (d n)
  have F:∀B,B<w.heap.size->G.at m b=some B->w'.heap[B]? = w.heap[B]? := fun B R h=>M.bel.block B R (a3 m b B d p h)
  have O:∀B,B<w.heap.size->G.at m b=some B->(∀o,G.imm B o=none)->∀o,N.imm B o=none:=fun B R h h0 o=>by
   cases A:N.imm B o with
   |none=>rfl|some u=>
    rcases M.imm_new B o u A with z|z|z
    ·rw[show(G.view names).imm B o=G.imm B o from rfl,h0]at z;cases z
    ·omega
    ·exact absurd z (a3 m b B d p h)
  cases b with
  |cells cs T=>
   obtain⟨B,vs,k1,k2,k3,k4,k5⟩:=S;have Y:G.at m (.cells cs T)=some B:=k1;exact⟨B,vs,t.box _ _ k1,by rw[F B (Q k2) Y];exact k2,k3.le t,k4,O B (Q k2) Y k5⟩
  |row τ l E=>
   obtain⟨ad,c,k1,k3⟩:=S;refine⟨ad,c,t.own _ _ k1,?_⟩;rcases k3 with k3|⟨g,vs,fz,rfl,m2,m3,m4,m5,m6,m7,m8,m9⟩
   ·exact .inl k3
   ·have Y:G.at m (.row τ l E)=some g:=by simp[Gh.at,k1]
    exact .inr ⟨g,vs,fz,rfl,by rw[F g (Q m2) Y];exact m2,m3,m4,m5,m6,ao.data_le t.imm m7,m8,O g (Q m2) Y m9⟩
  |loop st pe f j fr ps b2 D=>
   obtain⟨B,ba,DB,k1,k2,k3,k4,k5,k6⟩:=S;have Y:G.at m (.loop st pe f j fr ps b2 D)=some B:=k1;exact⟨B,ba,DB,t.box _ _ k1,t.box _ _ k2,by rw[F B k3.lt Y];exact k3,k4,fun i x hx=>by obtain⟨u,q1,q2⟩:=k5 i x hx;exact⟨u,q1,q2.le t⟩,O B k3.lt Y k6⟩
  |dfr=>
   obtain⟨B,k1,k2,k3⟩:=S;have Y:G.at m .dfr=some B:=k1;exact⟨B,t.box _ _ k1,by rw[F B (Q k2) Y];exact k2,O B (Q k2) Y k3⟩
  |it s0 p0=>
   obtain⟨B,k1,k2,k3⟩:=S;have Y:G.at m (.it s0 p0)=some B:=k1;exact⟨B,t.box _ _ k1,by rw[F B (Q k2) Y];exact k2,O B (Q k2) Y k3⟩
  |dead=>trivial
 refine⟨N,v,rfl,ai.ren (G:=G1) (G':=N) (fun _ _ _ h=>h) rb ro br,t,⟨?_,y.size,fun i x hx => ?_,fun m hm hl => ?_,⟨⟨M.mem.agree,M.mem.one,?_,?_,M.mem.tab⟩,?_,fun b o u h=>t.imm _ _ _ (y.fin.imm_le _ _ _ h),?_,?_,fun n bx B d p=>t.box _ _ (y.fin.keep n bx B d p),fun n bx B d p=>t.own _ _ (y.fin.keepOwn n bx B d p)⟩⟩⟩
 ·obtain⟨bs,d,p⟩:=y.defers;exact⟨bs,d,wo t.box p⟩
 ·obtain⟨u,d,p⟩:=y.frame i x hx;exact⟨u,d,p.le t⟩
 ·rw[um]at hl;have d:af (ow ρ hp') m=none:=by
   cases A:af (ow ρ hp') m with|none=>rfl|some b=>rw[A]at hl;cases hl
  rw[d]at hl;simp only at hl;rw[um]at hl;have p:af (pz names) m=none:=by
   cases A:af (pz names) m with|none=>rfl|some b=>rw[A]at hl;cases hl
  rw[p]at hl;simp only at hl;obtain⟨f1,f2⟩:=y.fresh m hm hl;have z:bf names m=none:=by
   cases A:bf names m with|none=>rfl|some n=>exact absurd (xd A) (gV (DK.2 p) n)
  have W:¬(k<=m/\m<k+32/\bm names (m-k)=none/\(af hp' (m-k)).isSome):=fun⟨q1,q2,q3,q4⟩=>by
   have:ρ (m-k)=some m:=by
    subst hρ;unfold iq;rw[q3];obtain⟨b,S⟩:=Option.isSome_iff_exists.1 q4;simp[S];have:Nat.blt (m-k) 32=true:=by simp;omega
    rw[this];simp only[qT,qI];omega
   have:=(JK aa).2 d _ this;rw[this]at q4;cases q4
  constructor
  ·show(match bf names m with|some n=>G1.box n|none=>match G.box m with|some B=>some B|none=>_)=_
   rw[z,f1];exact qW W
  ·show(match bf names m with|some n=>G1.own n|none=>match G.own m with|some B=>some B|none=>_)=_
   rw[z,f2];exact qW W
 ·intro m b h;rcases ac m b h with⟨n,b0,d,p,rfl⟩|rfl|⟨d,p⟩
  ·exact dv.ren (G:=G1) (G':=N) (ρ:=ρ) (n:=n) (fun _ _ _ h=>h) (fun _ _ _ h=>h) rb ro (fun B R=>rb n m B d R) (fun B R=>ro n m B d R) (M.mem.holds n b0 p)
  ·trivial
  ·exact a8 m b d p
 ·intro m m' b U c d p z W;have av:∀n b0 m b,af hp' n=some b0->G1.at n b0=some c->(∀n,bm names n≠some m)->af s.hp m=some b->G.at m b=some c->False:=fun n b0 m b q1 q2 q3 q4 q5=>by
   rcases M.base n b0 c q1 q2 with h|h
   ·have:=(y.fin.mem.holds m b q4).at_some q5;omega
   ·exact a3 m b c q3 q4 q5 h
  rcases ac m b d with⟨n,b0,I,K,rfl⟩|rfl|⟨I,K⟩
  ·have j3:=wh (G:=G1) (H n m I).1 (H n m I).2 z;rcases ac m' U p with⟨C,a0,J,L,rfl⟩|rfl|⟨J,L⟩
   ·have j4:=wh (G:=G1) (H C m' J).1 (H C m' J).2 W;have:=M.mem.apart n C b0 a0 c K L j3 j4;subst this;rw[I]at J;injection J
   ·cases W
   ·rw[(y.fin.mem.holds m' U L).at_le t]at W;exact(av n b0 m' U K j3 J L W).elim
  ·cases z
  ·rw[(y.fin.mem.holds m b K).at_le t]at z;rcases ac m' U p with⟨C,a0,J,L,rfl⟩|rfl|⟨J,L⟩
   ·have j4:=wh (G:=G1) (H C m' J).1 (H C m' J).2 W;exact(av C a0 m b L j4 I K z).elim
   ·cases W
   ·rw[(y.fin.mem.holds m' U L).at_le t]at W;exact y.fin.mem.apart m m' b U c K L z W
 ·refine⟨M.bel.os.trans y.fin.bel.os,M.bel.tape.trans y.fin.bel.tape,M.bel.output.trans y.fin.bel.output,Nat.le_trans y.fin.bel.size M.bel.size,fun j hj hS => ?_⟩
  rw[M.bel.block j (Nat.lt_of_lt_of_le hj y.fin.bel.size) (fun S=>by
   obtain⟨n,m,b,I,K,i3⟩:=Z j S;rcases y.fin.base m b j K i3 with h|h
   ·omega
   ·exact hS h)]
  exact y.fin.bel.block j hj hS
 ·intro b o u h;rcases M.imm_new b o u h with h|h|h
  ·exact y.fin.imm_new b o u h
  ·exact .inr (.inl (Nat.le_trans y.fin.bel.size h))
  ·obtain⟨n,m,b0,I,K,i3⟩:=Z b h;exact .inr (y.fin.base m b0 b K i3)
 ·intro m b c d p;rcases ac m b d with⟨n,b0,I,K,rfl⟩|rfl|⟨I,K⟩
  ·have j3:=wh (G:=G1) (H n m I).1 (H n m I).2 p;rcases M.base n b0 c K j3 with h|h
   ·exact .inl (Nat.le_trans y.fin.bel.size h)
   ·obtain⟨n,m,b0,q1,q2,q3⟩:=Z c h;exact y.fin.base m b0 c q2 q3
  ·cases p
  ·rw[(y.fin.mem.holds m b K).at_le t]at p;exact y.fin.base m b c K p
def Li(k:aj q72 q7w q7z G s a w){t:Tmp}{r:AV}{names:List (Nat×Nat)}{hpv hp hp':List (Nat×ag)}{ps:List Prop}(i:eh names=true)(j:bq (s.nx+32*t) s.hp=true)(l:t<s.n)
  (m:ja (bf names) s.hp names=some hpv) (d:lz hpv hp=some ps) (c:ay ps) {e:Ending} {w':World} (b:ny w (G.view names) hp r hp' e w') :
  ∃G' v,e = .returned v/\aj q72 q7w q7z G' { s with fr:=(t,r.ren (iq names hp' (s.nx+32*t)))::s.fr,hp:=ow (iq names hp' (s.nx+32*t)) hp'++(pz names++s.hp) } (a.put (some t) v) w':=by
 obtain⟨G',v,f,g,_,h⟩:=zS k i j Ta m d c b
 refine⟨G',v,f,jv h ?_ g⟩;have:Nat.blt t s.n=true:=by simpa using l
 simp[St.add,this,qT,List.nil_append]
end
def _root_.Go.Act.bs(a:Act):Act:={ a with defers:=a.defers++LC.base }
def _root_.Go.Act.bs_put(a:Act)(d:Option Tmp)(v:Value):a.bs.put d v=(a.put d v).bs:=by cases d<;>rfl
def _root_.Go.Act.bs_eval(a:Act):a.bs.eval=a.eval:=rfl
def iw(P:Program)(o:Oper)(a:Act)(w:World)(N:Act->World->Prop):Prop:=
 ∀(c:Array Oper)(i:Nat)(b:Frame)(d:List Nat)(k:List Item)(f:List Frame),c[i]? = some o->Region.wanted o (yielded c a.tmps)=true->b.kind = .normal ->
  ∃e g,N e g/\Steps P (lone (b.atR a.bs (.inRegion c (i::d)::k)) f w) (lone (b.atR e.bs (.inRegion c d::k)) f g)
def lf(P:Program)(f:FuncId)(T:List PanicEntry->Act->World->Prop)(x:Machine)(cs:List Frame):Prop:=
 ∃b d c a,T b a d/\Steps P x (lone c cs d)/\c.fn=f/\c.mode = .panicking b/\c.kind = .normal/\c.defers=a.defers++LC.base/\c.tmps=a.tmps
def lf.head{P:Program}{f:FuncId}{T:List PanicEntry->Act->World->Prop}{x y:Machine}{cs:List Frame}(h:Steps P x y)(k:lf P f T y cs):lf P f T x cs:=by
 obtain⟨c,w,b,a,d,e,g⟩:=k;exact⟨c,w,b,a,d,h.trans e,g⟩
def uw(P:Program)(T:List PanicEntry->Act->World->Prop)(o:Oper)(a:Act)(w:World)(N:Act->World->Prop):Prop:=
 ∀(c:Array Oper)(i:Nat)(b:Frame)(d:List Nat)(k:List Item)(e:List Frame),c[i]? = some o->Region.wanted o (yielded c a.tmps)=true->b.kind = .normal ->
  (∃f g,N f g/\Steps P (lone (b.atR a.bs (.inRegion c (i::d)::k)) e w) (lone (b.atR f.bs (.inRegion c d::k)) e g))\/lf P b.fn T (lone (b.atR a.bs (.inRegion c (i::d)::k)) e w) e
def ue(P:Program)(T:List PanicEntry->Act->World->Prop)(ops:Array Oper)(i:Nat)(N:Act->World->Prop)(a:Act)(w:World):Prop:=
 ∀(b:Frame)(c:List Nat)(k:List Item)(d:List Frame),b.kind = .normal ->
  (∃e f,N e f/\Steps P (lone (b.atR a.bs (.inRegion ops (i::c)::k)) d w) (lone (b.atR e.bs (.inRegion ops c::k)) d f))\/lf P b.fn T (lone (b.atR a.bs (.inRegion ops (i::c)::k)) d w) d
def za(P:Program)(T:List PanicEntry->Act->World->Prop)(ops:Array Oper)(N:Act->World->Prop):List Nat->Act->World->Prop|[],a,w=>N a w|i::rest,a,w=>ue P T ops i (za P T ops N rest) a w
section
variable{P:Program}{a:Act}{w:World}{T:List PanicEntry->Act->World->Prop}
def g8{o:Oper}{N:Act->World->Prop}(B:∀c,o.op ≠ .defer c)(h:o.wp P a w N (fun _ _ _=>False)):iw P o a w N:=by
 intro g i b rest k cs y E F;have t:=stepGR_op (P:=P) (b:=b) (a:=a.bs) (k:=k) (cs:=cs) (w:=w) (rest:=rest) y E;rw[Oper.semAt_eq _ _ _ B,Act.bs_eval]at t;have n:∀v,(b.atR a.bs (.inRegion g (i::rest)::k)).finish v=b.atR (a.put o.dst v).bs (.inRegion g rest::k):=by
  intro v;rw[Frame.finish_atR,y];exact congrArg (fun x=>b.atR x _) (Act.bs_put _ _ _)
 unfold Oper.wp Oper.upon at h;split at h
 ·rename_i v s l;refine⟨_,_,h,.one (step_lone_go ?_)⟩;rw[t,← n];simp[stepG.apply,l]
 ·rename_i s l;refine⟨_,_,h,.one (step_lone_go ?_)⟩;rw[t,← n];simp[stepG.apply,l]
 ·rename_i d s l;refine⟨_,_,h,.one (step_lone_go ?_)⟩;have:({ b.atR a.bs (.inRegion g (i::rest)::k) with defers:=d::a.bs.defers }:Frame).finish undef =
    b.atR ({ a with defers:=d::a.defers }.put o.dst undef).bs (.inRegion g rest::k):=by
   have:=Frame.finish_atR b { a with defers:=d::a.defers }.bs g i rest k undef
   rw[y]at this;exact this.trans (congrArg (fun x=>b.atR x _) (Act.bs_put _ _ _))
  rw[t];simp only[stepG.apply,Sem.runT_eq,l,GStep.bare_after];exact congrArg (fun A=>GStep.go { frame:=A,callers:=cs,status := .running,dying:=none } s) this
 ·rename_i f p s l;obtain⟨e,w'',A,r,m,C,q⟩:=h (b.atR a.bs (.inRegion g (i::rest)::k)::cs);have j:step P (lone (b.atR a.bs (.inRegion g (i::rest)::k)) cs w) =
    .next (lone (Frame.enter P f p .normal) (b.atR a.bs (.inRegion g (i::rest)::k)::cs) s):=
   step_lone_go (by rw[t];simp[stepG.apply,l,Frame.atR])
  cases e with
  |returned v=>
   refine⟨_,_,r,(Steps.one j).trans (Steps.trans m (.one ?_))⟩;rw[← n];exact step_leave_returned q
  |panicked u=>exact r.elim|outgrown=>obtain⟨_,_,r⟩:=r;exact r.elim
 ·rename_i z p s l;obtain⟨v,w'',r,m⟩:=h (b.atR a.bs (.inRegion g (i::rest)::k)) cs;have j:step P (lone (b.atR a.bs (.inRegion g (i::rest)::k)) cs w) =
    .next (lone (Frame.ofRow P z p .normal) (b.atR a.bs (.inRegion g (i::rest)::k)::cs) s):=
   step_lone_go (by rw[t];simp[stepG.apply,l,Frame.atR])
  refine⟨_,_,r,(Steps.one j).trans ?_⟩;rw[← n];exact m
 ·exact h.elim
 ·exact h.elim
def qpp{o:Oper}{N:Act->World->Prop}(t:∀c,o.op ≠ .defer c){l:Nat}{f:FuncId}{j:Array Value}{d e:Code}{w':World}(u:(execOp a.eval o).run P w = .ok (.round l f j d e) w')
  (h:∀(c:Frame)(cs:List Frame),∃v n,N (a.put o.dst v) n/\Steps P (lone (Frame.round l f j d e .normal) (c::cs) w') (lone (c.finish v) cs n)):iw P o a w N:=by
 intro g i b rest k cs r z A;have q:=stepGR_op (P:=P) (b:=b) (a:=a.bs) (k:=k) (cs:=cs) (w:=w) (rest:=rest) r z;rw[Oper.semAt_eq _ _ _ t,Act.bs_eval]at q;have p:∀v,(b.atR a.bs (.inRegion g (i::rest)::k)).finish v=b.atR (a.put o.dst v).bs (.inRegion g rest::k):=by
  intro v;rw[Frame.finish_atR,r];exact congrArg (fun x=>b.atR x _) (Act.bs_put _ _ _)
 obtain⟨v,n,s,y⟩:=h (b.atR a.bs (.inRegion g (i::rest)::k)) cs;have m:step P (lone (b.atR a.bs (.inRegion g (i::rest)::k)) cs w) =
   .next (lone (Frame.round l f j d e .normal) (b.atR a.bs (.inRegion g (i::rest)::k)::cs) w'):=
  step_lone_go (by rw[q];simp[stepG.apply,u,Frame.atR])
 refine⟨_,_,s,(Steps.one m).trans ?_⟩;rw[← p];exact y
def qb4{o:Oper}{N:Act->World->Prop}(G:∀c,o.op ≠ .defer c)(h:o.wp P a w N (fun e F w=>∃n,e = .panic n/\T n F w)):uw P T o a w N:=by
 intro g i b rest k cs A I E;have y:=stepGR_op (P:=P) (b:=b) (a:=a.bs) (k:=k) (cs:=cs) (w:=w) (rest:=rest) A I;rw[Oper.semAt_eq _ _ _ G,Act.bs_eval]at y;have p:∀v,(b.atR a.bs (.inRegion g (i::rest)::k)).finish v=b.atR (a.put o.dst v).bs (.inRegion g rest::k):=by
  intro v;rw[Frame.finish_atR,A];exact congrArg (fun x=>b.atR x _) (Act.bs_put _ _ _)
 unfold Oper.wp Oper.upon at h;split at h
 ·rename_i v s m;refine .inl ⟨_,_,h,.one (step_lone_go ?_)⟩;rw[y,← p];simp[stepG.apply,m]
 ·rename_i s m;refine .inl ⟨_,_,h,.one (step_lone_go ?_)⟩;rw[y,← p];simp[stepG.apply,m]
 ·rename_i d s m;refine .inl ⟨_,_,h,.one (step_lone_go ?_)⟩;have:({ b.atR a.bs (.inRegion g (i::rest)::k) with defers:=d::a.bs.defers }:Frame).finish undef =
    b.atR ({ a with defers:=d::a.defers }.put o.dst undef).bs (.inRegion g rest::k):=by
   have:=Frame.finish_atR b { a with defers:=d::a.defers }.bs g i rest k undef
   rw[A]at this;exact this.trans (congrArg (fun x=>b.atR x _) (Act.bs_put _ _ _))
  rw[y];simp only[stepG.apply,Sem.runT_eq,m,GStep.bare_after];exact congrArg (fun C=>GStep.go { frame:=C,callers:=cs,status := .running,dying:=none } s) this
 ·rename_i f r s m;obtain⟨e,w'',C,u,l,H,q⟩:=h (b.atR a.bs (.inRegion g (i::rest)::k)::cs);have j:step P (lone (b.atR a.bs (.inRegion g (i::rest)::k)) cs w) =
    .next (lone (Frame.enter P f r .normal) (b.atR a.bs (.inRegion g (i::rest)::k)::cs) s):=
   step_lone_go (by rw[y];simp[stepG.apply,m,Frame.atR])
  cases e with
  |returned v=>
   refine .inl ⟨_,_,u,(Steps.one j).trans (Steps.trans l (.one ?_))⟩;rw[← p];exact step_leave_returned q
  |panicked n=>
   obtain⟨_,t,z⟩:=u;injection t with t;subst t
   exact .inr ⟨n,w'',_,a,z,(Steps.one j).trans (Steps.trans l (.one (step_leave_panicked q))),rfl,rfl,E,rfl,rfl⟩
  |outgrown=>obtain⟨_,_,_,u,_⟩:=u;cases u
 ·rename_i B r s m;obtain⟨v,w'',u,l⟩:=h (b.atR a.bs (.inRegion g (i::rest)::k)) cs;have j:step P (lone (b.atR a.bs (.inRegion g (i::rest)::k)) cs w) =
    .next (lone (Frame.ofRow P B r .normal) (b.atR a.bs (.inRegion g (i::rest)::k)::cs) s):=
   step_lone_go (by rw[y];simp[stepG.apply,m,Frame.atR])
  refine .inl ⟨_,_,u,(Steps.one j).trans ?_⟩;rw[← p];exact l
 ·rename_i v s m;obtain⟨J,t,z⟩:=h;injection t with t;subst t
  refine .inr ⟨_,s,(b.atR a.bs (.inRegion g (i::rest)::k)).raise [{ v,recovered:=false }],a,z,.one (step_lone_go ?_),rfl,rfl,E,rfl,rfl⟩;rw[y];simp[stepG.apply,m,Sem.runT_eq];try rfl
 ·exact h.elim
def Kg{ops:Array Oper}{i:Nat}{o:Oper}{N:Act->World->Prop}(f:ops[i]? = some o)(g:Region.wanted o (yielded ops a.tmps)=true)(h:iw P o a w N):ue P T ops i N a w:=
 fun b c k d e => .inl (h ops i b c k d f g e)
def DF{ops:Array Oper}{i:Nat}{o:Oper}{N:Act->World->Prop}(f:ops[i]? = some o)(g:Region.wanted o (yielded ops a.tmps)=true)(h:uw P T o a w N):ue P T ops i N a w:=
 fun b c k d e=>h ops i b c k d f g e
def Kh{ops:Array Oper}{i:Nat}{o:Oper}{N:Act->World->Prop}(c:ops[i]? = some o)(e:¬Region.wanted o (yielded ops a.tmps)=true)(h:N (a.put o.dst undef) w):ue P T ops i N a w:=by
 intro b rest k cs f;have d:=stepR_op_skip (P:=P) (b:=b) (a:=a.bs) (k:=k) (cs:=cs) (w:=w) (ops:=ops) (i:=i) (rest:=rest) (by simp[c];simpa [Act.bs] using e)
 simp only[c,qB,Act.bs_put]at d;exact .inl ⟨_,_,h,.one d⟩
def Q6{ops:Array Oper}{i:Nat}{N d:Act->World->Prop}(m:∀a w,N a w->d a w)(h:ue P T ops i N a w):ue P T ops i d a w:=fun b c k f l=>by
 rcases h b c k f l with⟨e,n,g,j⟩|h
 ·exact .inl ⟨e,n,m _ _ g,j⟩
 ·exact .inr h
def Ki{ops:Array Oper}{N:Act->World->Prop}:∀(l:List Nat){a:Act}{w:World},za P T ops N l a w->∀(b:Frame)(k:List Item)(cs:List Frame),b.kind = .normal ->
  (∃d w',N d w'/\Steps P (lone (b.atR a.bs (.inRegion ops l::k)) cs w) (lone (b.atR d.bs k) cs w'))\/lf P b.fn T (lone (b.atR a.bs (.inRegion ops l::k)) cs w) cs
 |[],a,w,h,b,k,cs,_ => .inl ⟨a,w,h,.one stepR_region_end⟩|i::rest,a,w,h,b,k,cs,hk=>by
  rcases h b rest k cs hk with⟨n,o,g,e⟩|h
  ·rcases Ki rest g b k cs hk with⟨f,m,j,c⟩|c
   ·exact .inl ⟨f,m,j,e.trans c⟩
   ·exact .inr (c.head e)
  ·exact .inr h
def qky{ops:Array Oper}{id:Nat}{N:Act->World->Prop}(h:za P T ops N (List.range ops.size) a w)(b:Frame)(k:List Item)(cs:List Frame)(f:b.kind = .normal) :
  (∃c w',N c w'/\Steps P (lone (b.atR a.bs (.code (.region id ops false)::k)) cs w) (lone (b.atR c.bs k) cs w'))\/lf P b.fn T (lone (b.atR a.bs (.code (.region id ops false)::k)) cs w) cs:=by
 rcases Ki _ h b k cs f with⟨c,w',d,e⟩|h
 ·exact .inl ⟨c,w',d,(Steps.one stepR_region).trans e⟩
 ·exact .inr (h.head (.one stepR_region))
def mv(P:Program)(T:List PanicEntry->Act->World->Prop)(ops:Array Oper)(N:Act->World->Prop):Nat->Array Bool->Act->World->Prop
 |0,listed,a,w=>Region.ready .any ops listed=[]/\N a w|fuel+1,listed,a,w=>
  (Region.ready .any ops listed=[]->N a w) /\
  ∀i∈Region.ready .any ops listed,ue P T ops i (mv P T ops N fuel (listed.setIfInBounds i true)) a w
def qkx{ops:Array Oper}{N:Act->World->Prop}:∀(c t:Nat)(b:Array Bool)(a:Act)(w:World),mv P T ops N c b a w ->
  za P T ops N (Region.linearise.go .any ops c t b []) a w:=by
 intro c
 induction c with
 |zero=>intro t b a w h;simpa [Region.linearise.go,za] using h.2|succ c ih=>
  intro t b a w h;obtain⟨g,j⟩:=h;simp only[Region.linearise.go];change za P T ops N (match(Region.ready .any ops b)[t%(Region.ready .any ops b).length]? with
   |some i=>Region.linearise.go .any ops c (t/(Region.ready .any ops b).length) (b.setIfInBounds i true) [i]| none=>[].reverse) a w
  cases e:(Region.ready .any ops b)[t%(Region.ready .any ops b).length]? with
  |none=>
   have d:Region.ready .any ops b=[]:=by
    cases k:Region.ready .any ops b with
    |nil=>rfl|cons x xs=>
     rw[k]at e;have f:t%(x::xs).length<(x::xs).length:=Nat.mod_lt _ Te
     simp at e;simp at f;omega
   simpa [za] using g d
  |some i=>
   simp only[];rw[linearise_go_acc,List.reverse_singleton,wM];exact Q6 (fun a w=>ih _ _ a w) (j i (List.mem_of_getElem? e))
def Q7{ops:Array Oper}{id:Nat}{N:Act->World->Prop}(i:P.follows .mixedOrders=true)(h:mv P T ops N ops.size (Array.replicate ops.size false) a { w with drawn:=w.drawn+1 })(b:Frame)(k:List Item)(cs:List Frame)(g:b.kind = .normal) :
  (∃c w',N c w'/\Steps P (lone (b.atR a.bs (.code (.region id ops true)::k)) cs w) (lone (b.atR c.bs k) cs w'))\/lf P b.fn T (lone (b.atR a.bs (.code (.region id ops true)::k)) cs w) cs:=by
 have d:za P T ops N (Region.schedule (P.follows .mixedOrders) ops (w.tape w.drawn (.order b.fn id))) a { w with drawn:=w.drawn+1 }:=by
  simp only[Region.schedule,i,Bool.true_or,if_true];exact qkx ops.size _ _ a _ h
 rcases Ki _ d b k cs g with⟨c,w',e,f⟩|h
 ·exact .inl ⟨c,w',e,(Steps.one stepR_region_draw).trans f⟩
 ·exact .inr (h.head (.one stepR_region_draw))
end
section
variable{P:Program}{q72:World}{q7w:Gh}{q7z:List (Nat×ag)}{G:Gh}{s:St}{a:Act}{w:World}
def Fin.update'{hp:List (Nat×ag)}(p:Fin q72 q7w q7z G hp w){n:Nat}{bx bx':ag}{B:Nat}(N:af hp n=some bx)(L:G.at n bx=some B)(C:∀c,G.at n bx'=some c->c=B){w':World}(I:cr (fun b=>b=B) w w')
  (O:dv G w' n bx') (V:∀o,G.imm B o=none):Fin q72 q7w q7z G (xf hp n bx') w':=by
 have d:∀b,b<w.heap.size->b≠B->w'.heap[b]? = w.heap[b]? := fun b i q=>I.block b i q
 have z:∀{b:Nat}{o:Obj},w.heap[b]? = some o->b<w.heap.size:=fun h=>(Array.getElem?_eq_some_iff.1 h).1
 have y:∀m b,af (xf hp n bx') m=some b->(m=n/\b=bx')\/(m≠n/\af hp m=some b):=fun m b h=>by
  simp[xf,af]at h;cases u:Nat.beq n m
  ·rw[u]at h;exact .inr ⟨fun e=>by subst e;simp at u,h⟩
  ·rw[u]at h;simp at h;exact .inl ⟨(qN u).symm,h.symm⟩
 have t:∀m b c,m≠n->af hp m=some b->G.at m b=some c->c≠B:=fun m b c x i q e=>by
  subst e;exact x (p.mem.apart m n b bx c i N q L)
 refine⟨⟨?_,p.mem.one,?_,?_,LC.mono (fun _ _ _ h=>h) (fun b o v h=>d b (World.block_lt_of_cell? _ _ (p.mem.agree b o v h)) fun e=>by subst e;rw[V]at h;cases h) p.mem.tab⟩,?_,p.imm_le,p.imm_new,?_,p.keep,p.keepOwn⟩
 ·intro b o v h;have F:b≠B:=fun e=>by subst e;rw[V]at h;cases h
  have U:=p.mem.agree b o v h;have:=World.block_lt_of_cell? _ _ U;rw[World.cell?_of_block (w:=w) (d b this F)];exact U
 ·intro m b h;rcases y m b h with⟨rfl,rfl⟩|⟨x,h⟩
  ·exact O
  ·have u:=p.mem.holds m b h;have H:=t m b
   cases b with
   |cells cs T=>
    obtain⟨B1,R,i,q,r,A,h5⟩:=u;exact⟨B1,R,i,by rw[d _ (z q) (H B1 x h (by simp[Gh.at,i]))];exact q,r,A,h5⟩
   |loop st pe f j fr ps aa D=>
    obtain⟨B1,J,DB,i,q,r,A⟩:=u;exact⟨B1,J,DB,i,q,by rw[d _ r.lt (H B1 x h (by simp[Gh.at,i]))];exact r,A⟩
   |dfr=>
    obtain⟨B1,i,q,r⟩:=u;exact⟨B1,i,by rw[d _ (z q) (H B1 x h (by simp[Gh.at,i]))];exact q,r⟩
   |it s0 p0=>
    obtain⟨B1,i,q,r⟩:=u;exact⟨B1,i,by rw[d _ (z q) (H B1 x h (by simp[Gh.at,i]))];exact q,r⟩
   |row τ l E=>
    obtain⟨ad,c,i,r⟩:=u;refine⟨ad,c,i,?_⟩;rcases r with r|⟨g,R,fz,Z,k2,k3⟩
    ·exact .inl r
    ·exact .inr ⟨g,R,fz,Z,by rw[d _ (z k2) (H g x h (by subst Z;simp[Gh.at,i]))];exact k2,k3⟩
   |dead=>trivial
 ·intro m Q b K c i q r A;rcases y m b i with⟨rfl,rfl⟩|⟨x,X⟩<;>rcases y Q K q with⟨rfl,rfl⟩|⟨M,Y⟩
  ·rfl
  ·exact absurd (C _ r) (t Q K _ M Y A)
  ·exact absurd (C _ A) (t m b _ x X r)
  ·exact p.mem.apart m Q b K c X Y r A
 ·refine⟨I.os.trans p.bel.os,I.tape.trans p.bel.tape,I.output.trans p.bel.output,Nat.le_trans p.bel.size I.size,fun k W S => ?_⟩
  have F:k≠B:=fun e=>by
   subst e;rcases p.base n bx k N L with h|h
   ·omega
   ·exact S h
  rw[d k (Nat.lt_of_lt_of_le W p.bel.size) F];exact p.bel.block k W S
 ·intro m b c i q;rcases y m b i with⟨rfl,rfl⟩|⟨x,i⟩
  ·rw[C _ q];exact p.base _ _ _ N L
  ·exact p.base m b c i q
def Fin.update{hp:List (Nat×ag)}(h:Fin q72 q7w q7z G hp w){n:Nat}{bx bx':ag}{B:Nat}(j:af hp n=some bx)(g:G.at n bx=some B)(e:G.at n bx'=some B){w':World}(k:cr (fun b=>b=B) w w')
  (f:dv G w' n bx') (i:∀o,G.imm B o=none):Fin q72 q7w q7z G (xf hp n bx') w':=
 h.update' j g (fun c d=>by rw[e]at d;injection d with d;exact d.symm) k f i
def qid(p:aj q72 q7w q7z G s a w){o:Oper}{d:D}{ps:List Prop}{s':St}(h:t8 P s d o=some (ps,s'))(hp:ay ps){N:Act->World->Prop}(hN:∀G' a' w',aj q72 q7w q7z G' s' a' w'->N a' w'):iw P o a w N:=by
 obtain⟨cv,op,ty,ab,I,guard⟩:=o;unfold t8 at h;split at h
 ·rename_i t x y ho;simp only at ho;subst ho;split at h
  ·rename_i b an v n hx hy hn U;simp only at U;subst U;split at h
   ·rename_i cs T hb;cases L:Nat.beq v.cells.length n&&AV.ones v.cells&&Nat.ble (an+n) cs.length<;>rw[L]at h<;>simp at h
    obtain⟨rfl,rfl⟩:=h;simp only[qA,Nat.ble_eq]at L;obtain⟨⟨q,A⟩,H⟩:=L;have q:=qN q;obtain⟨B,hB,aa⟩:=cm p hx;have K:=(cm p hy).cells A;obtain⟨B',vs,V,h2,h3,h4,h5⟩:=p.fin.mem.holds _ _ hb;rw[V]at hB;injection hB with hB;subst hB
    have a2:(a.eval y).cells.size=n:=by rw[← q,K.length,Array.length_toList]
    have cw:cs.length=vs.size:=by rw[h3.length,Array.length_toList]
    obtain⟨w',S,k1,k2,k3,k4⟩:=Ao (P:=P) B' an T (0,0) (a.eval y).cells.toList 0 vs w h2 (by rw[Array.length_toList];omega) (.inl rfl) (xa K A)
    have F:(execOp a.eval ⟨none,.store t x y,ty,ab,I,guard⟩).run P w = .ok .skip w':=by
     simp[execOp,Instr.storeAt,aa,Instr.sureAddr,storeVar,ku hn,a2,k1]
    refine g8 Te ?_
    unfold Oper.wp;rw[F];refine hN G _ _ ⟨p.defers,p.size,p.frame,fun m hm J=>p.fresh m hm ?_,?_⟩
    ·simp[xf,af]at J;cases C:Nat.beq b m
     ·rw[C]at J;exact J
     ·rw[C]at J;cases J
    ·refine p.fin.update hb (by simp[Gh.at,V]) (by simp[Gh.at,V]) k4 ⟨B',S,V,k2,?_,?_,h5⟩ h5
     ·rw[k3];exact EM _ h3 K
     ·intro u X;rw[k3]at X;rcases A1 _ _ _ _ X with X|X
      ·exact h4 u X
      ·exact xa K A u X
   ·cases h
  ·rename_i k sz i an v n hx hy hn U;simp only at U;subst U;split at h
   ·rename_i Y l0 E0 ys τ l E hb;cases L:Nat.beq v.cells.length n&&AV.ones v.cells&&Nat.beq sz Y.sz&&Nat.beq τ.sz Y.sz&&Nat.beq E E0<;>rw[L]at h<;>simp at h
    split at h
    rotate_left
    ·cases h
    rename_i cz R;simp at h;obtain⟨rfl,rfl⟩:=h;simp only[qA]at L;obtain⟨⟨⟨⟨q,A⟩,H⟩,W⟩,a6⟩:=L;have q:=qN q;have H:=qN H;have W:=qN W;have a6:=qN a6;subst a6;rw[H]at hx;obtain⟨pv,p1,p2,p3,p5,_⟩:=eq.1 hp;rw[H]at p1 p2;obtain⟨B,n0,c0,O,aa⟩:=cm p hx;have K:=(cm p hy).cells A;have a2:(a.eval y).cells.size=n:=by rw[← q,K.length,Array.length_toList]
    obtain⟨ad,c,V,h3⟩:=p.fin.mem.holds _ _ hb;rw[O]at V;simp at V;obtain⟨rfl,rfl,rfl⟩:=V;rcases h3 with⟨h3,_⟩|⟨g,vs,fz,k1,k2,k3,k4,k5,k6,k7,k8,k9⟩
    ·cases h3
    ·simp at k1;subst k1;have a1:l0.length*Y.sz<=vs.size:=by rw[k6];exact Nat.mul_le_mul_right _ k4
     obtain⟨w',S,m1,m2,m3,m4⟩:=Ao (P:=P) B (i*Y.sz+an) E fz (a.eval y).cells.toList 0 vs w k2 (by rw[Array.length_toList];omega) k3 (xa K A)
     have F:(execOp a.eval ⟨none,.store t x y,ty,ab,I,guard⟩).run P w = .ok .skip w':=by
      simp[execOp,Instr.storeAt,aa,Instr.sureAddr,storeVar,ku hn,a2,m1]
     refine g8 Te ?_
     unfold Oper.wp;rw[F];have ah:S.size=vs.size:=by rw[← Array.length_toList,m3,A0,Array.length_toList]
     refine hN G _ _ ⟨p.defers,p.size,p.frame,fun m hm J=>p.fresh m hm ?_,?_⟩
     ·simp[xf,af]at J;cases C:Nat.beq k m
      ·rw[C]at J;exact J
      ·rw[C]at J;cases J
     ·refine p.fin.update hb (B:=B) (by simp[Gh.at,O]) (by simp[Gh.at,O]) m4 ⟨some ⟨B,0,none⟩,c0,by rw[p3];exact O,.inr ⟨B,S,fz,rfl,m2,by rw[ah];exact k3,by rw[p3];exact k4,k5,by rw[ah,W];exact k6,?_,?_,k9⟩⟩ k9
      ·rw[p3,p2,m3,W,Nat.add_zero,M5 _ _ _ _ (by rw[Array.length_toList];omega)]
       exact EM _ k7 (nk (G:=G.data) (Gh.le.refl _) (fun e=>by cases e) R pv (qak p5 K))
      ·intro u X;rw[m3]at X;rcases A1 _ _ _ _ X with X|X
       ·exact k8 u X
       ·exact xa K A u X
   ·cases h
  ·cases h
 ·rename_i args argTypes ho;simp only at ho;subst ho;split at h
  ·rename_i x y t t2 tt ha cj U;simp only at U;subst U;split at h
   ·rename_i k v hx hy;split at h
    ·rename_i Y l0 E0 hb;split at h
     ·rename_i cx τ l E ba;cases L:bq (s.nx+32*tt) s.hp&&Nat.beq τ.sz Y.sz&&Nat.beq E E0&&Nat.blt tt s.n<;>rw[L]at h<;>simp at h
      obtain⟨rfl,rfl⟩:=h;simp only[qA,Nat.blt_eq]at L;obtain⟨⟨⟨q,A⟩,H⟩,W⟩:=L;have A:=qN A;have H:=qN H;have e1:args=#[x,y]:=by rw[← Array.toArray_toList (xs:=args),ha]
      have e2:argTypes=#[t,t2]:=by rw[← Array.toArray_toList (xs:=argTypes),cj]
      subst e1 e2;obtain⟨ad,c,us,V,h3,h4,h5⟩:=(p.fin.mem.holds _ _ hb).rowAt;obtain⟨ct,n0,c0,O,aa⟩:=cm p hx;rw[V]at O;simp at O;obtain⟨rfl,rfl,rfl⟩:=O;obtain⟨τ',l',E',b4,_,b6⟩:=Pj p (ty:=ty) (_sz0:=0) (_E0:=0) (ad:=ad) (c:=c) ba hp (cm p hy) h4;cases b4
      subst H;rw[← A]at h3;obtain⟨av,c',c4,w',r1,r2,r3,r4,r5⟩:=b6 h3;have F:(execOp a.eval ⟨some tt,.call { callee := .builtin .append,args:=#[x,y],argTypes:=#[t,t2] },ty,ab,I,guard⟩).run P w = .ok (.value (.slice av l.length c')) w':=by
       simp[execOp,resolve,invoke,builtin,aa,r1]
      refine g8 Te ?_
      unfold Oper.wp;rw[F];have bk:=o9 q (s.nx+32*tt) (wF _) Ta
      obtain⟨f1,f2⟩:=p.fresh _ Ta bk
      have be:=p.fin.take hb V bk f2 h5 r5 r4 r2 r3;have a1:G.le (G.addOwn (s.nx+32*tt) (av,l.length,c')):=Gh.addOwn_le f2;refine hN _ _ _ ⟨by obtain⟨bs,q1,q2⟩:=p.defers;exact⟨bs,q1,wo a1.box q2⟩,by simp[Act.put,p.size],fun i z hz => ?_,fun m hm J => ?_,be⟩
      ·simp[af]at hz;cases C:Nat.beq tt i
       ·rw[C]at hz;simp at hz;have ca:tt≠i:=fun e=>by subst e;simp at C
        obtain⟨u,u1,u2⟩:=p.frame i z hz;exact⟨u,by simp[Act.put,ca,u1],u2.le a1⟩
       ·rw[C]at hz;simp at hz;subst hz;have:=qN C;subst this;exact⟨_,by simp[Act.put,p.size,W],av,l.length,c',Gh.addOwn_self,rfl⟩
      ·simp[af]at J;cases C:Nat.beq (s.nx+32*tt) m
       ·rw[C]at J;simp at J;cases bb:Nat.beq k m
        ·rw[bb]at J;obtain⟨g1,g2⟩:=p.fresh m hm J;refine⟨g1,?_⟩;show(bif Nat.beq m (s.nx+32*tt) then some _ else G.own m)=none
         cases b3:Nat.beq m (s.nx+32*tt)
         ·exact g2
         ·have:=qN b3;subst this;simp at C
        ·rw[bb]at J;cases J
       ·rw[C]at J;cases J
     ·cases h
    ·cases h
   ·cases h
  ·cases h
 ·rename_i g args b1 ho;simp only at ho;subst ho;split at h
  ·rename_i f a9 a8 ys j xs a3 r cb t hg Q U;simp only at U;subst U;unfold uo at h;cases L:eh j&&qz j&&bq (s.nx+32*t) s.hp&&Nat.blt t s.n<;>rw[L]at h<;>simp at h
   simp at L;obtain⟨⟨⟨q,_⟩,A⟩,H⟩:=L;split at h
   ·rename_i ch cl hv a7;split at h
    ·rename_i cp R;simp at h;obtain⟨rfl,rfl⟩:=h;obtain⟨⟨cc,hc⟩,a4⟩:=hp;obtain⟨p1,p2⟩:=eq.1 a4;obtain⟨fs,cs,a0,b5,ah⟩:=cm p hg;have F:(execOp a.eval ⟨some t,.call { callee := .value g,args:=args,argTypes:=b1 },ty,ab,I,guard⟩).run P w = .ok (.enter f (fs++args.map a.eval++cs)) w:=by
      simp[execOp,resolve,a0,Deferred.ofValue,invoke,cc _ w]
     refine g8 Te ?_
     unfold Oper.wp;rw[F];have Z:ao ((a9++ys)++a8) G ((fs.toList++args.toList.map a.eval)++cs.toList):=w9 (w9 b5 (cE p Q)) ah;have e1:((fs.toList++args.toList.map a.eval)++cs.toList).toArray=fs++args.map a.eval++cs:=Te
     rw[qS a9 ys a8]at Z;have hm:c8 (G.view j) a3 w:=(p.fin.mem.view hv (cC q)).vw R p2;have M:=nk (Gh.le.refl _) (fun e=>by cases e) a7 p1 (ao.ren (G:=G) (G':=G.view j) (fun _ _ _ h=>h) (uz j) (xm j) Z)
     have:=hc w (G.view j) _ hm M;rw[e1]at this;refine this.mono ?_;intro e w' a5;obtain⟨G',v,rfl,hG⟩:=Li p q A H hv R p2 a5;exact hN _ _ _ hG
    ·cases h
   ·cases h
  ·rename_i m ys j xs a3 r cb t hg Q U;simp only at U;subst U;split at h
   ·rename_i m' b8;unfold uo at h;cases L:eh j&&qz j&&bq (s.nx+32*t) s.hp&&Nat.blt t s.n<;>rw[L]at h<;>simp at h
    simp at L;obtain⟨⟨⟨q,_⟩,A⟩,H⟩:=L;split at h
    ·rename_i ch cl hv a7;split at h
     ·rename_i cp R;simp at h;obtain⟨rfl,rfl⟩:=h;obtain⟨hc,a4⟩:=hp;obtain⟨p1,p2⟩:=eq.1 a4;obtain⟨B,hB,a0⟩:=cm p hg;have hm:c8 (G.view j) a3 w:=(p.fin.mem.view hv (cC q)).vw R p2;have M:=nk (Gh.le.refl _) (fun e=>by cases e) a7 p1 (ao.ren (G:=G) (G':=G.view j) (fun _ _ _ h=>h) (uz j) (xm j) (cE p Q))
      have b2:=uz (G:=G) j m m' B b8 hB;obtain⟨lp,b7,bd⟩:=hc w (G.view j) _ B hm M b2;have ac:(args.map a.eval).size=lp.params.size:=by
       have:=(bd default []).1;simpa using this
      have F:(execOp a.eval ⟨some t,.call { callee := .value g,args:=args,argTypes:=b1 },ty,ab,I,guard⟩).run P w = .ok (.round B lp.fn ((lp.params.zip (args.map a.eval)).foldl (fun br(t,a)=>br.setIfInBounds t a) lp.tmps) lp.assign lp.body) w:=by
       simp at ac;simp[execOp,resolve,a0,Deferred.ofValue,invoke,Instr.yield,Instr.getLoop,getObj,b7,ac,Sem.run]
      refine qpp Te F (fun c cs => ?_)
      obtain⟨_,v,w',V,h2⟩:=bd c cs;obtain⟨G',v',e,hG⟩:=Li p q A H hv R p2 V;cases e
      have e2:(args.toList.map a.eval).toArray=args.map a.eval:=by rw[← Array.toList_map]
      rw[e2]at h2;exact⟨v,w',hN _ _ _ hG,h2⟩
     ·cases h
    ·cases h
   ·cases h
  ·cases h
 ·cases h
end
abbrev xw:=Bool×D
def t7(P:Program)(s:St)(d:D)(o:Oper):Option (List Prop×St):=
 match gq P s d o with
 |some (ps,v,new)=>match s.add o.dst v new with|some s'=>some (ps,s')|none=>none
 |none=>t8 P s d o
def ze(ops:Array Oper)(s:St)(j:Nat):Option (Option Bool):=
 match ops[j]? with
 |some oj=>match oj.dst with
  |some t=>match af s.fr t with|some (.bool b)=>some (some b)|some (.val (.bool b))=>some (some b)|some (.val (.tuple _))=>some none|_=>none
  |none=>none
 |none=>none
def St.bump(s:St):St:={ s with nx:=s.nx+32*s.n }
section
variable{P:Program}{q72:World}{q7w:Gh}{q7z:List (Nat×ag)}{G:Gh}{s:St}{a:Act}{w:World}
def Jv{o:Oper}{d:D}{r:List Prop×AV×List (Nat×ag)}(h:gq P s d o=some r):∀c,o.op ≠ .defer c:=fun c e=>by
 obtain⟨f,i,j,g,b,guard⟩:=o;simp only at e;subst e;simp only[gq,d6,lg]at h;cases h
def Dm(f:aj q72 q7w q7z G s a w){o:Oper}{d:D}{ps:List Prop}{s':St}(h:t7 P s d o=some (ps,s'))(hp:ay ps){N:Act->World->Prop}(c:∀G' b w',aj q72 q7w q7z G' s' b w'->N b w'):iw P o a w N:=by
 unfold t7 at h;split at h
 ·rename_i j v i e;split at h
  ·rename_i k g;simp at h;obtain⟨rfl,rfl⟩:=h;exact g8 (Jv e) (Jw f e hp g c)
  ·cases h
 ·exact qid f h hp c
def Ef(g:aj q72 q7w q7z G s a w){ops:Array Oper}{j:Nat}{b:Option Bool}(h:ze ops s j=some b):yielded ops a.tmps j=b:=by
 unfold ze at h;split at h
 ·rename_i l f;split at h
  ·rename_i t i;split at h
   ·rename_i k e;simp at h;subst h;obtain⟨v,d,c⟩:=g.frame _ _ e;simp[ai]at c;subst c;simp[yielded,f,i,d]
   ·rename_i k e;simp at h;subst h;obtain⟨v,d,c⟩:=g.frame _ _ e;simp[ai]at c;subst c;simp[yielded,f,i,d]
   ·rename_i m e;simp at h;subst h;obtain⟨v,d,c⟩:=g.frame _ _ e;simp[ai]at c;subst c;simp[yielded,f,i,d]
   ·cases h
  ·cases h
 ·cases h
end
def cg:List Nat->Nat->Bool|[],_=>false|x::xs,i=>Nat.beq x i||cg xs i
def oH:List Nat->List Nat->List Nat|[],l=>l|x::xs,l=>bif cg l x then oH xs l else oH xs (x::l)
structure HR:Type where
 dst:Nat
 v:AV
 new:List (Nat×ag)
 pred:List Nat
def St.addR(s:St)(r:HR):St:={ s with fr:=(r.dst,r.v)::s.fr,hp:=r.new++s.hp }
def wg(sel:List Nat):List HR->Nat->St->St|[],_,t=>t|r::rs,j,t=>wg sel rs (j+1) (bif cg sel j then t.addR r else t)
def ov:List HR->St->St|[],t=>t|r::rs,t=>ov rs (t.addR r)
def mq(P:Program)(ops:Array Oper)(t:St)(c:xw)(o:Oper):Option (List Prop×AV×List (Nat×ag)):=
 match o.guard with
 |none=>gq P t c.2 o|some (j,want)=>match ze ops t j with
  |none=>none|some none=>some ([],.val undef,[])| some (some b)=>bif c.1==want then(match gq P t c.2 o with
    |some (ps,v,new)=>some ((b=c.1)::ps,v,new)| none=>none)
   else some ([b=c.1],.val undef,[])
def pc(Rs:List HR):List Edge->Option (List Nat)
 |[]=>some []|e::es=>bif Region.binds .any e then
   match Rs[e.on]?,pc Rs es with|some r,some l=>some (oH (e.on::r.pred) l)|_,_=>none
  else pc Rs es
def rh(d:Nat):List HR->Bool|[]=>true|r::rs => !Nat.beq r.dst d&&rh d rs
def lv(ops:Array Oper)(o:Oper):List Nat:=
 o.op.operands.toList.filterMap (fun x=>match x with | .tmp t=>some t|_=>none) ++
 (match o.guard with
  |some (j,_)=>match ops[j]? with|some oj=>oj.dst.toList|none=>[]
  | none=>[])
def uq(b a:List Nat):List HR->Nat->Bool|[],_=>true|r::rs,j=>(cg b j || !cg a r.dst)&&uq b a rs (j+1)
def vc(ops:Array Oper)(d:Nat)(a:List Nat):Nat->Bool|0=>true|j+1=>(cg a j||(match ops[j]? with|some o => !cg (lv ops o) d|none=>true))&&vc ops d a j
def A2(o:Oper)(j:Nat):Bool:=o.after.toList.any (fun e=>Nat.beq e.on j&&Region.binds .any e)
def D5:List Oper->Nat->Bool|[],_=>true|o::l,i=>A2 o (i-1)&&D5 l (i+1)
def mX:List Edge->List Nat|[]=>[]|e::es=>bif Region.binds .any e then e.on::mX es else mX es
def EJ(ops:Array Oper):Nat->List Nat->List Nat
 |0,S=>S| j+1,S=>EJ ops j (bif cg S j then(match ops[j]? with
  |some o=>mX o.after.toList++S| none=>S) else S)
def Dn(S:List Nat):Nat->Bool|0=>true|j+1=>cg S j&&Dn S j
def SY(ops:Array Oper)(o:Oper)(n:Nat):Bool:=Dn (EJ ops n (mX o.after.toList)) n
def qh(ops:Array Oper)(n:Nat):Bool:=match ops.toList.drop n with|[]=>true|o::l=>SY ops o n&&D5 l (n+1)
def nz:List Oper->Nat->Bool|[],_=>true|o::l,i=>o.after.toList.all (fun e => !Region.binds .any e||Nat.blt e.on i)&&nz l (i+1)
def gu:∀{l:List Nat}{i:Nat},cg l i=true↔i∈l
 |[],i=>by simp[cg]|x::xs,i=>by
  simp only[cg,Bool.or_eq_true,wE,gu (l:=xs)];constructor
  ·rintro (h|h)
   ·exact .inl (qN h).symm
   ·exact .inr h
  ·rintro (rfl|h)
   ·exact .inl Te
   ·exact .inr h
def zT:∀{l m:List Nat}{i:Nat},i∈oH l m↔i∈l\/i∈m
 |[],m,i=>by simp[oH]|x::xs,m,i=>by
  simp[oH];cases h:cg m x
  ·simp only[qF,zT (l:=xs),wE];constructor
   ·rintro (h|h|h)
    ·exact .inl (.inr h)
    ·exact .inl (.inl h)
    ·exact .inr h
   ·rintro ((h|h)|h)
    ·exact .inr (.inl h)
    ·exact .inl h
    ·exact .inr (.inr h)
  ·have a:=gu.1 h;simp[qT,zT (l:=xs),wE];constructor
   ·rintro (h|h)
    ·exact .inl (.inr h)
    ·exact .inr h
   ·rintro ((rfl|h)|h)
    ·exact .inr a
    ·exact .inl h
    ·exact .inr h
structure tw(o:Oper)(t st:St):Prop where
 nx:t.nx=st.nx
 ev:∀x∈o.op.operands.toList,t.ev x=st.ev x
 hp:∀n b,af t.hp n=some b->af st.hp n=some b
 room:∀d,o.dst=some d->bq (st.nx+32*d) st.hp=true
def nF{t st:St}:∀{xs:List Operand},(∀x∈xs,t.ev x=st.ev x)->t.evs xs=st.evs xs|[],_=>rfl|x::xs,h=>by simp only[St.evs,h x Te,nF (xs:=xs) (fun y a=>h y (by simp[a]))]
def cF{t st:St}{x:Operand}(h:t.ev x=st.ev x):t.evy x=st.evy x:=by unfold St.evy;rw[h]
def Dr{t st:St}:∀{ps:List (Nat×Operand)},(∀x∈ps.map (·.2),t.ev x=st.ev x)->ua t ps=ua st ps|[],_=>rfl|(i,x)::ps,h=>by simp only[ua,h x Te,Dr (ps:=ps) (fun y a=>h y (by simp at a ⊢;exact .inr a))]
def qi1{P:Program}{o:Oper}{t st:St}{d:D}{R:List Prop×AV}(I:tw o t st)(h:d6 P t d o.op=some R):d6 P st d o.op=some R:=by
 obtain⟨N,K,s,V,G,guard⟩:=o;have e:=I.ev;have l:=I.hp;simp only at h e ⊢;cases K
 case move x=>simpa [d6,← e x Tg] using h
 case assign x=>simpa [d6,← e x Tg] using h
 case nilCheck x=>simpa [d6,← e x Tg] using h
 case pick c x y=>
  simp[d6]at h ⊢;rw[← e c Tg]
  split at h
  ·rename_i b L H;have:st.ev (bif L then x else y)=t.ev (bif L then x else y):=by cases L<;>exact(e _ Tg).symm
   rw[this];exact h
  ·rename_i b H;have:st.ev (bif b then x else y)=t.ev (bif b then x else y):=by cases b<;>exact(e _ Tg).symm
   rw[this];exact h
  ·cases h
 case build T parts=>
  simp[d6,lV]at h ⊢;rw[← Dr (t:=t) (st:=st) (fun x q=>e x (by simpa [Op.operands] using q))]
  exact h
 case load s x=>
  simp[d6,lY]at h ⊢;rw[← e x Tg]
  split at h
  ·rename_i b J q;split at h
   ·rename_i X T m;simp[l _ _ m];exact h
   ·cases h
  ·exact h
  ·rename_i k W i J q;split at h
   ·rename_i m;simp[l _ _ m];exact h
   ·cases h
  ·cases h
 case slice s x lo hi mx=>
  simp[d6,xP]at h ⊢;have O:lj st lo=lj t lo:=by cases lo with|none=>rfl|some y=>simp[lj];rw[← cF (e y Tg)]
  have Q:lj st hi=lj t hi:=by cases hi with|none=>rfl|some y=>simp[lj];rw[← cF (e y Tg)]
  rw[O,Q,← e x Tg];exact h
 case binOp K s x y _=>
  simp[d6]at h ⊢;rw[← e x Tg,← e y Tg];exact h
 case unOp K s x=>
  simp[d6]at h ⊢;rw[← e x Tg];exact h
 case convert a b x=>
  simp[d6]at h ⊢;rw[← e x Tg]
  split at h
  ·rename_i v I q;split at h
   ·rename_i r H;exact h
   ·rename_i H;split at h
    ·rename_i Y;unfold xQ at h ⊢;split at h
     ·rename_i E B n M F g;have:ia st v=ia t v:=by
       unfold ia at g ⊢;split at g
       ·rfl
       ·rfl
       ·rfl
       ·split at g
        ·rename_i m;simp[l _ _ m]
        ·cases g
       ·split at g
        ·rename_i m;simp[l _ _ m]
        ·cases g
       ·cases g
      rw[this,g];simp[F];exact h
     ·rename_i E B n M F g;have:ia st v=ia t v:=by
       unfold ia at g ⊢;split at g
       ·rfl
       ·rfl
       ·rfl
       ·split at g
        ·rename_i m;simp[l _ _ m]
        ·cases g
       ·split at g
        ·rename_i m;simp[l _ _ m]
        ·cases g
       ·cases g
      rw[this,g];simp[F];exact h
     ·cases h
    ·cases h
  ·cases h
 case field s x f=>
  simp[d6]at h ⊢;rw[← e x Tg];exact h
 case fieldAddr s x f=>
  simp[d6]at h ⊢;rw[← e x Tg];exact h
 case extract x i=>
  simp[d6]at h ⊢;rw[← e x Tg];exact h
 case index s x i=>
  simp[d6]at h ⊢;rw[← e x Tg,← cF (e i Tg)];exact h
 case indexAddr s x i=>
  simp[d6]at h ⊢;rw[← e x Tg,← cF (e i Tg)]
  split at h
  ·rename_i v j q Z;simp[lX]at h ⊢;split at h
   ·rename_i E F;split at h
    ·rename_i W kk n S;split at h
     ·exact h
     ·split at h
      ·rename_i m;simp[l _ _ m];exact h
      ·cases h
     ·exact h
     ·cases h
    ·cases h
   ·exact h
   ·cases h
  ·cases h
 case makeFunc f first cap=>
  simp[d6]at h ⊢;rw[← nF (t:=t) (st:=st) (xs:=first.toList) (fun x q=>e x (by simp[Op.operands];exact .inl (by simpa using q))),← nF (t:=t) (st:=st) (xs:=cap.toList) (fun x q=>e x (by simp[Op.operands];exact .inr (by simpa using q)))]
  exact h
 case call c=>
  obtain⟨p,A,w⟩:=c;cases p
  case builtin b=>
   have C:∀z∈A.toList,t.ev z=st.ev z:=fun z U=>e z (by simp[Op.operands,Call.operands];simpa using U)
   cases b<;>try (simp[d6]at h;done)
   case len=>
    simp[d6]at h ⊢;split at h
    ·rename_i x s u ht;rw[← C x (by rw[u];simp)]
     split at h
     ·rename_i v hv;simp[xO]at h ⊢;split at h
      ·exact h
      ·exact h
      ·split at h
       ·rename_i m;simp only[l _ _ m];exact h
       ·cases h
      ·exact h
      ·exact h
      ·cases h
     ·cases h
    ·cases h
   case max=>
    simp[d6]at h ⊢;split at h
    ·rename_i x y u;rw[← cF (C x (by rw[u];simp)),← cF (C y (by rw[u];simp))];exact h
    ·cases h
   case min=>
    simp[d6]at h ⊢;split at h
    ·rename_i x y u;rw[← cF (C x (by rw[u];simp)),← cF (C y (by rw[u];simp))];exact h
    ·cases h
  all_goals (simp[d6]at h)
 all_goals (simp[d6]at h)
end Go.Sym
namespace Go.Sym
open Go.RowKit
variable{TT:List PanicEntry->Act->World->Prop}[LC]
def qiz{P:Program}{o:Oper}{t st:St}{d:D}{R:List Prop×AV×List (Nat×ag)}(h:lg P t d o=some R):d6 P st d o.op=none:=by
 obtain⟨c,n,r,j,e,guard⟩:=o;unfold lg at h;split at h
 ·rename_i a _;simp only at a;subst a;rfl
 ·rename_i a _;simp only at a;subst a;rfl
 ·rename_i a _;simp only at a;subst a;rfl
 ·rename_i a _;simp only at a;subst a;rfl
 ·rename_i a _;simp only at a;subst a;rfl
 ·rename_i k c x q a _;simp only at a;subst a;split at h
  ·rename_i p E b i f m;simp only[d6,i];split
   ·rename_i v _ l;have g:∀v,we P c v=none:=fun v=>by unfold we;rw[f]
    have:bU P c v=none:=by unfold bU;split<;>simp[g]
    rw[this];simp[f]
   ·rfl
  ·cases h
 ·cases h
def qsy{t st:St}{y:AV}{r:List AV×Nat}(a:∀n b,af t.hp n=some b->af st.hp n=some b)(h:ia t y=some r):ia st y=some r:=by
 unfold ia at h ⊢;split at h
 ·exact h
 ·exact h
 ·exact h
 ·split at h
  ·rename_i c;simp only[a _ _ c];exact h
  ·cases h
 ·split at h
  ·rename_i c;simp[a _ _ c];exact h
  ·cases h
 ·cases h
def Pk{P:Program}{t st:St}{d:D}{ty e:TypeId}{c:List AV}{n:Nat}{y:AV}{r:List Prop×ag}(f:∀n b,af t.hp n=some b->af st.hp n=some b)(h:qt P t d ty e c n y=some r):qt P st d ty e c n y=some r:=by
 unfold qt at h ⊢;split at h
 ·split at h
  ·rename_i g a;rw[qsy f a,g];exact h
  ·cases h
 ·cases h
mutual
def qcz{b:Bool}{hp hp':List (Nat×ag)}(a:∀n b,af hp n=some b->af hp' n=some b){x y:AV}{ps:List Prop}(h:vw b hp x y=some ps):vw b hp' x y=some ps:=by
 unfold vw at h ⊢;split at h
 ·exact oM a h
 ·exact oM a h
 ·split at h
  ·rename_i c d;rw[oM a c,oM a d];exact h
  ·cases h
 ·split at h
  ·rename_i c;rw[qcz a c];exact h
  ·cases h
 ·cases b
  ·cases h
  ·simp at h ⊢;split at h
   ·rename_i e;rw[a _ _ e];exact h
   ·cases h
 ·exact h
 ·exact h
 ·exact h
 ·exact h
 ·exact h
def oM{b:Bool}{hp hp':List (Nat×ag)}(a:∀n b,af hp n=some b->af hp' n=some b){xs c:List AV}{ps:List Prop}(h:ci b hp xs c=some ps):ci b hp' xs c=some ps:=by
 unfold ci at h ⊢;split at h
 ·exact h
 ·split at h
  ·rename_i d;split at h
   ·rename_i e;rw[qcz a d,oM a e];exact h
   ·cases h
  ·cases h
 ·cases h
end
def qif{P:Program}{o:Oper}{t st:St}{d:D}{R:List Prop×AV×List (Nat×ag)}(B:tw o t st)(h:lg P t d o=some R):lg P st d o=some R:=by
 have j:=B.ev;have a:=B.room;have c:=B.nx;obtain⟨H,op,ty,X,F,guard⟩:=o;unfold lg at h ⊢;simp only at j a h ⊢;split at h
 ·rename_i T i;split at h
  ·rename_i G N;cases e:AV.ones G&&bq (t.nx+32*i) t.hp<;>rw[e]at h<;>simp only[qT,qF,reduceCtorEq]at h
   simp only[qA]at e;rw[e.1,a i rfl,← c];exact h
  ·cases h
 ·rename_i T x i;rw[← j x Tg]
  split at h
  ·rename_i v q;cases e:AV.ones v.cells&&bq (t.nx+32*i) t.hp<;>rw[e]at h<;>simp at h
   simp at e;have k:=a i rfl;rw[← c]at k;simp[e.1,k,← c,Bool.and_self,qT];exact h
  ·cases h
 ·rename_i g m aa i;have U:t.ev g=st.ev g:=j g Tx
  have V:t.evs m.toList=st.evs m.toList:=nF (fun x q=>j x (by simp[Op.operands,Call.operands];exact .inr (by simpa using q)))
  rw[← U,← V];split at h
  ·rename_i f S xs Q ab r J hg I;split at h
   ·rename_i pv K;cases e:wy 32 J&&bq (t.nx+32*i) t.hp&&(!Q||noRef r)<;>rw[e]at h<;>simp only[qT,qF,reduceCtorEq]at h
    simp only[qA]at e;have k:=a i rfl;rw[← c]at k;rw[oM B.hp K];simp only[e.1.1,e.2,k,← c,Bool.and_self,qT];exact h
   ·cases h
  ·cases h
 ·rename_i m u i;split at h
  ·rename_i x y p Z L ht;have M:∀z∈m.toList,t.ev z=st.ev z:=fun z N=>j z (by simp[Op.operands,Call.operands];simpa using N)
   rw[← M x (by rw[L];simp),← M y (by rw[L];simp)]
   split at h
   ·rename_i v q hy;split at h
    ·rename_i O b w;cases e:bq (t.nx+32*i) t.hp<;>rw[e]at h<;>simp at h
     have k:=a i rfl;rw[← c]at k;simp[Pk B.hp w,k,← c,qT];exact h
    ·cases h
   ·cases h
  ·cases h
 ·rename_i p s l i;split at h
  ·rename_i O b A;have:bT P st d p s l.toList=some (O,b):=by
    unfold bT at A ⊢;rw[← Dr (t:=t) (st:=st) (fun x q=>j x (by simpa [Op.operands] using q))];exact A
   cases e:bq (t.nx+32*i) t.hp<;>rw[e]at h<;>simp at h
   have k:=a i rfl;rw[← c]at k;simp[this,k,← c,qT];exact h
  ·split at h
   ·rename_i G E n;have this:lW P st d p s l.toList=some (G,E):=by
     unfold lW at n ⊢;rw[← Dr (t:=t) (st:=st) (fun x q=>j x (by simpa [Op.operands] using q))];exact n
    have C:bT P st d p s l.toList=none:=by
     unfold lW at n;split at n
     ·simp[bT]
     ·cases n
    cases e:bq (t.nx+32*i) t.hp<;>rw[e]at h<;>simp at h
    have k:=a i rfl;rw[← c]at k;simp[this,C,k,← c,qT];exact h
   ·cases h
 ·rename_i Y H x i;rw[← j x Tg]
  split at h
  ·rename_i sd E b W hd q;split at h
   ·rename_i he;cases e:bq (t.nx+32*i) t.hp<;>rw[e]at h<;>simp at h
    have k:=a i rfl;rw[← c]at k;simp[k,← c,qT];exact h
   ·cases h
  ·cases h
 ·cases h
def Po{P:Program}{o:Oper}{t st:St}{d:D}{R:List Prop×AV×List (Nat×ag)}(a:tw o t st)(h:gq P t d o=some R):gq P st d o=some R:=by
 unfold gq at h ⊢;split at h
 ·rename_i c v b;rw[qi1 a b];exact h
 ·rw[qiz h];exact qif a h
def qmv{ops:Array Oper}{o:Oper}{t st:St}{j:Nat}{a:Bool}(c:o.guard=some (j,a))(f:∀d∈lv ops o,af t.fr d=af st.fr d):ze ops t j=ze ops st j:=by
 unfold ze
 cases e:ops[j]? with
 |none=>rfl|some oj=>
  simp only
  cases b:oj.dst with|none=>rfl|some d=>simp only;rw[f d (by simp[lv,c,e,b])]
def PN{P:Program}{ops:Array Oper}{o:Oper}{t st:St}{c:xw}{R:List Prop×AV×List (Nat×ag)}(e:tw o t st)(k:∀d∈lv ops o,af t.fr d=af st.fr d)(h:mq P ops t c o=some R):mq P ops st c o=some R:=by
 unfold mq at h ⊢;split at h
 ·exact Po e h
 ·rename_i j a g;rw[← qmv g k];split at h
  ·cases h
  ·exact h
  ·rename_i b m;cases i:c.1==a<;>rw[i]at h<;>simp at h ⊢
   ·exact h
   ·split at h
    ·rename_i n v l f;rw[Po e f];exact h
    ·cases h
section
variable{P:Program}{q72:World}{q7w:Gh}{q7z:List (Nat×ag)}{G:Gh}{s:St}{a:Act}{w:World}
def JE(d:aj q72 q7w q7z G s a w){ops:Array Oper}{i:Nat}{o:Oper}{c:xw}{ps:List Prop}{v:AV}{new:List (Nat×ag)}{s':St}(k:ops[i]? = some o)(h:mq P ops s c o=some (ps,v,new))(hp:ay ps)(m:s.add o.dst v new=some s')
  {N:Act->World->Prop} (g:∀G' t w',aj q72 q7w q7z G' s' t w'->N t w'):ue P TT ops i N a w:=by
 unfold mq at h;split at h
 ·rename_i e;exact Kg k (by simp[Region.wanted,e]) (g8 (Jv h) (Jw d h hp m g))
 ·rename_i j f e;split at h
  ·cases h
  ·rename_i p;have n:=Ef d p;simp at h;obtain⟨rfl,rfl,rfl⟩:=h;exact Kh k (by simp[Region.wanted,e,n]) (g _ _ _ (jv d m rfl))
  ·rename_i b p;have n:=Ef d p;cases l:c.1==f<;>rw[l]at h<;>simp only[qT,qF]at h
   ·simp only[qI,qP]at h;obtain⟨rfl,rfl,rfl⟩:=h;simp[ay,and_true]at hp;exact Kh k (by
     simp[Region.wanted,e,n,hp];simp only[beq_eq_false_iff_ne,ne_eq]at l;simpa using l) (g _ _ _ (jv d m rfl))
   ·split at h
    ·rename_i y z x u;simp at h;obtain⟨rfl,rfl,rfl⟩:=h;obtain⟨q,r⟩:=hp;exact Kg k (by simp[Region.wanted,e,n,q];simpa using l) (g8 (Jv u) (Jw d u r m g))
    ·cases h
structure St.eqv(s t:St):Prop where
 n:s.n=t.n
 nx:s.nx=t.nx
 fr:∀i,af s.fr i=af t.fr i
 hp:∀i,af s.hp i=af t.hp i
 df:s.df=t.df
def aj.eqv(c:aj q72 q7w q7z G s a w){t:St}(h:s.eqv t):aj q72 q7w q7z G t a w:=by
 refine⟨by rw[← h.df];exact c.defers,by rw[c.size,h.n],fun i x l=>c.frame i x (by rw[h.fr];exact l),fun m k j=>c.fresh m (by rw[h.nx];exact k) (by rw[h.hp];exact j),⟨⟨c.fin.mem.agree,c.fin.mem.one,fun n bx g=>c.fin.mem.holds n bx (by rw[h.hp];exact g),fun n m bx d b e f=>c.fin.mem.apart n m bx d b (by rw[h.hp];exact e) (by rw[h.hp];exact f),c.fin.mem.tab⟩,c.fin.bel,c.fin.imm_le,c.fin.imm_new,fun n bx b e=>c.fin.base n bx b (by rw[h.hp];exact e),c.fin.keep,c.fin.keepOwn⟩⟩
def zH(lo:Nat)(l:List (Nat×ag)):Prop:=∀e∈l,lo<=e.1/\e.1<lo+32
def qbf{ρ:Nat->Option Nat}{k:Nat}:∀{l:List (Nat×ag)},wy 32 l=true->zH k (pd ρ k l)
 |[],_=>by intro e c;cases c
 |(n,b)::r,h=>by
  simp[wy,qA,Nat.blt_eq]at h;intro e c;rcases List.mem_cons.1 c with rfl|c
  ·exact⟨Te,Td⟩
  ·exact qbf h.2 e c
def qie{o:Oper}{t:St}{d:D}{ps:List Prop}{v:AV}{new:List (Nat×ag)}{k:Nat}(y:o.dst=some k)(h:lg P t d o=some (ps,v,new)):zH (t.nx+32*k) new:=by
 obtain⟨n,L,M,C,m,guard⟩:=o;simp only at y;subst y;unfold lg at h;simp only at h;split at h
 ·rename_i T l b;injection b with b;subst b
  split at h
  ·rename_i A K;cases f:AV.ones A&&bq (t.nx+32*k) t.hp<;>rw[f]at h<;>simp at h
   obtain⟨_,_,rfl⟩:=h;intro e c;simp at c;subst c;exact⟨Te,Te⟩
  ·cases h
 ·rename_i T x l b;injection b with b;subst b
  split at h
  ·rename_i v J;cases f:AV.ones v.cells&&bq (t.nx+32*k) t.hp<;>rw[f]at h<;>simp at h
   obtain⟨_,_,rfl⟩:=h;intro e c;simp at c;subst c;exact⟨Te,Te⟩
  ·cases h
 ·rename_i g j H l b;injection b with b;subst b
  split at h
  ·rename_i z _ r q I p;split at h
   ·cases f:wy 32 q&&bq (t.nx+32*k) t.hp&&(!z||noRef r)<;>rw[f]at h<;>simp at h
    obtain⟨_,_,rfl⟩:=h;simp at f;exact qbf f.1.1
   ·cases h
  ·cases h
 ·rename_i j i l b;injection b with b;subst b
  split at h
  ·split at h
   ·split at h
    ·cases f:bq (t.nx+32*k) t.hp<;>rw[f]at h<;>simp at h
     obtain⟨_,_,rfl⟩:=h;intro e c;simp at c;subst c;exact⟨Te,Te⟩
    ·cases h
   ·cases h
  ·cases h
 ·rename_i F B u l b;injection b with b;subst b
  split at h
  ·cases f:bq (t.nx+32*k) t.hp<;>rw[f]at h<;>simp at h
   obtain⟨_,_,rfl⟩:=h;intro e c;simp at c;subst c;exact⟨Te,Te⟩
  ·split at h
   ·cases f:bq (t.nx+32*k) t.hp<;>rw[f]at h<;>simp at h
    obtain⟨_,_,rfl⟩:=h;intro e c;simp at c;subst c;exact⟨Te,Te⟩
   ·cases h
 ·rename_i E n x l b;injection b with b;subst b
  split at h
  ·split at h
   ·cases f:bq (t.nx+32*k) t.hp<;>rw[f]at h<;>simp at h
    obtain⟨_,_,rfl⟩:=h;intro e c;simp at c;subst c;exact⟨Te,Te⟩
   ·cases h
  ·cases h
 ·cases h
def Pn{o:Oper}{t:St}{d:D}{ps:List Prop}{v:AV}{new:List (Nat×ag)}{k:Nat}(b:o.dst=some k)(h:gq P t d o=some (ps,v,new)):zH (t.nx+32*k) new:=by
 unfold gq at h;split at h
 ·simp at h;obtain⟨_,_,rfl⟩:=h;intro e c;cases c
 ·exact qie b h
def PM{ops:Array Oper}{o:Oper}{t:St}{c:xw}{ps:List Prop}{v:AV}{new:List (Nat×ag)}{k:Nat}(g:o.dst=some k)(h:mq P ops t c o=some (ps,v,new)):zH (t.nx+32*k) new:=by
 unfold mq at h;split at h
 ·exact Pn g h
 ·split at h
  ·cases h
  ·simp at h;obtain⟨_,_,rfl⟩:=h;intro e f;cases f
  ·rename_i j d _ _ b _;cases l:c.1==d<;>rw[l]at h<;>simp only[qT,qF]at h
   ·simp only[qI,qP]at h;obtain⟨_,_,rfl⟩:=h;intro e f;cases f
   ·split at h
    ·rename_i i;simp at h;obtain⟨_,_,rfl⟩:=h;exact Pn g i
    ·cases h
def gW:∀{l:List (Nat×ag)}{m:Nat}{b:ag},af l m=some b->(m,b)∈l
 |[],m,b,h=>by cases h
 |(k,v)::r,m,b,h=>by
  simp[af]at h;cases c:Nat.beq k m
  ·rw[c]at h;exact qE _ (gW h)
  ·rw[c]at h;simp at h;subst h;rw[← qN c];exact qH
def dC{lo:Nat}:∀{l:List (Nat×ag)},bq lo l=true↔∀e∈l,e.1<lo\/lo+32<=e.1
 |[]=>by simp[bq]|(n,b)::r=>by
  simp only[bq,qA,Bool.or_eq_true,Nat.blt_eq,Nat.ble_eq,dC (l:=r),wE,forall_eq_or_imp]
def d5(Rs:List HR):List Nat->St->St
 |[],s=>s|i::L,s=>match Rs[i]? with|some r=>(d5 Rs L s).addR r|none=>d5 Rs L s
def Jy(Rs:List HR):∀(A B:List Nat)(s:St),d5 Rs (A++B) s=d5 Rs A (d5 Rs B s)|[],B,s=>rfl|i::A,B,s=>by simp[wK,d5,Jy Rs A B s]
def J5{Rs:List HR}{sel:List Nat}:∀(rs:List HR)(j:Nat)(t:St),(∀k,k<rs.length->Rs[j+k]? = rs[k]?)->wg sel rs j t=d5 Rs (((List.range' j rs.length).filter (cg sel)).reverse) t
 |[],j,t,_=>rfl|r::rs,j,t,h=>by
  have c:Rs[j]? = some r:=by simpa using h 0 Te
  rw[wg,J5 rs (j+1) _ (fun k d=>by have:=h (k+1) Td;rw[show j+1+k=j+(k+1) by omega,this];simp),qL,List.range'_succ]
  cases b:cg sel j
  ·rw[List.filter_cons_of_neg (by simp[b])];rfl
  ·rw[List.filter_cons_of_pos b,List.reverse_cons,Jy];simp[d5,c,qT]
def Pp{Rs:List HR}:∀(rs:List HR)(j:Nat)(t:St),(∀k,k<rs.length->Rs[j+k]? = rs[k]?)->ov rs t=d5 Rs ((List.range' j rs.length).reverse) t
 |[],j,t,_=>rfl|r::rs,j,t,h=>by
  have b:Rs[j]? = some r:=by simpa using h 0 Te
  rw[ov,Pp rs (j+1) _ (fun k c=>by have:=h (k+1) Td;rw[show j+1+k=j+(k+1) by omega,this];simp),qL,List.range'_succ,List.reverse_cons,Jy]
  simp[d5,b]
def t6(Rs:List HR):∀(L:List Nat)(s:St),(d5 Rs L s).n=s.n/\(d5 Rs L s).nx=s.nx
 |[],s=>⟨rfl,rfl⟩|i::L,s=>by
  simp[d5];split
  ·exact t6 Rs L s
  ·exact t6 Rs L s
def Dl(Rs:List HR):∀(L:List Nat)(s:St),(d5 Rs L s).df=s.df
 |[],s=>rfl|i::L,s=>by
  simp[d5];split
  ·exact Dl Rs L s
  ·exact Dl Rs L s
structure fV(s:St)(Rs:List HR):Prop where
 dst:∀(i j:Nat)(r r':HR),Rs[i]? = some r->Rs[j]? = some r'->r.dst=r'.dst->i=j
 names:∀(i:Nat)(r:HR),Rs[i]? = some r->zH (s.nx+32*r.dst) r.new
 room:∀(i:Nat)(r:HR),Rs[i]? = some r->bq (s.nx+32*r.dst) s.hp=true
def mA{Rs:List HR}(d:fV s Rs):∀{L:List Nat}{i:Nat}{r:HR},i∈L->Rs[i]? = some r->af (d5 Rs L s).fr r.dst=some r.v
 |j::L,i,r,hi,hr=>by
  simp[d5];by_cases b:j=i
  ·subst b;rw[hr];simp only[St.addR,af];rw[show Nat.beq r.dst r.dst=true by simp];rfl
  ·have c:i∈L:=by
    rcases List.mem_cons.1 hi with h|h;· exact absurd h.symm b
    ·exact h
   split
   ·rename_i g f;have e:Nat.beq g.dst r.dst=false:=by
     cases k:Nat.beq g.dst r.dst
     ·rfl
     ·exact absurd (d.dst _ _ _ _ f hr (qN k)) b
    simp[St.addR,af,e,qF];exact mA d c hr
   ·exact mA d c hr
def xS{Rs:List HR}{d:Nat}:∀{L:List Nat},(∀i∈L,∀r:HR,Rs[i]? = some r->r.dst≠d)->af (d5 Rs L s).fr d=af s.fr d
 |[],_=>rfl|j::L,h=>by
  simp[d5];have c:=xS (L:=L) (fun i f=>h i (qE _ f))
  split
  ·rename_i r g;have b:Nat.beq r.dst d=false:=by
    cases e:Nat.beq r.dst d
    ·rfl
    ·exact absurd (qN e) (h j qH r g)
   simp[St.addR,af,b,qF];exact c
  ·exact c
def Jz{Rs:List HR}(f:fV s Rs):∀{L:List Nat}{i:Nat}{r:HR}{m:Nat}{b:ag},i∈L->Rs[i]? = some r->af r.new m=some b->af (d5 Rs L s).hp m=some b
 |j::L,i,r,m,b,hi,hr,hb=>by
  simp[d5];by_cases c:j=i
  ·subst c;rw[hr];simp[St.addR];rw[um,hb]
  ·have g:i∈L:=by
    rcases List.mem_cons.1 hi with h|h;· exact absurd h.symm c
    ·exact h
   have k:=Jz f g hr hb;split
   ·rename_i l d;have p:l.dst≠r.dst:=fun e=>c (f.dst _ _ _ _ d hr e)
    simp[St.addR];rw[um]
    cases q:af l.new m with
    |none=>exact k|some b'=>
     have n:=f.names _ _ d _ (gW q);have o:=f.names _ _ hr _ (gW hb);simp only at n o;omega
   ·exact k
def J1{Rs:List HR}{m:Nat}:∀{L:List Nat},(∀i∈L,∀r:HR,Rs[i]? = some r->af r.new m=none)->af (d5 Rs L s).hp m=af s.hp m
 |[],_=>rfl|j::L,h=>by
  simp[d5];have b:=J1 (L:=L) (fun i c=>h i (qE _ c))
  split
  ·rename_i r d;simp[St.addR];rw[um,h j qH r d];exact b
  ·exact b
def J0{Rs:List HR}(j:fV s Rs){L l:List Nat}(p:∀i∈L,i∈l){m:Nat}{b:ag}(h:af (d5 Rs L s).hp m=some b):af (d5 Rs l s).hp m=some b:=by
 by_cases f:∃i∈L,∃r:HR,Rs[i]? = some r/\∃d,af r.new m=some d
 ·obtain⟨i,g,r,c,d,e⟩:=f;rw[Jz j g c e]at h;injection h with h;subst h
  exact Jz j (p i g) c e
 ·rw[J1 (fun i g r c=>by cases k:af r.new m with|none=>rfl|some d=>exact absurd ⟨i,g,r,c,d,k⟩ f)]at h
  rw[J1]
  ·exact h
  ·intro i g r c
   cases k:af r.new m with
   |none=>rfl|some d=>
    have n:=j.names _ _ c _ (gW k);have o:=dC.1 (j.room _ _ c) _ (gW h);simp only at n o;omega
def Pv{Rs:List HR}(d:fV s Rs){i:Nat}{r:HR}(f:Rs[i]? = some r):∀{L:List Nat},i∉L->bq (s.nx+32*r.dst) (d5 Rs L s).hp=true
 |[],_=>d.room i r f|j::L,hi=>by
  simp[d5];have g:=Pv d f (L:=L) (fun h=>hi (qE _ h))
  split
  ·rename_i l c;have k:l.dst≠r.dst:=fun e=>hi (by rw[← d.dst _ _ _ _ c f e];exact qH)
   simp[St.addR];rw[dC];intro e b;rcases List.mem_append.1 b with b|b
   ·have:=d.names _ _ c _ b;omega
   ·exact dC.1 g e b
  ·exact g
end
end Go.Sym
namespace Go.Sym
open Go.RowKit
variable{TT:List PanicEntry->Act->World->Prop}[LC]
section
variable{P:Program}{q72:World}{q7w:Gh}{q7z:List (Nat×ag)}{s:St}
def wZ(P:Program)(ops:Array Oper)(s:St)(Rs:List HR)(i:Nat)(o:Oper):Prop:=
 ∃r a,∃c:xw,Rs[i]? = some r/\o.dst=some r.dst/\r.dst<s.n/\bq (s.nx+32*r.dst) s.hp=true/\pc (Rs.take i) o.after.toList=some r.pred/\rh r.dst (Rs.take i)=true /\
  uq r.pred (lv ops o) (Rs.take i) 0=true/\vc ops r.dst r.pred i=true/\mq P ops (wg r.pred (Rs.take i) 0 s) c o=some (a,r.v,r.new)/\ay a
def cM{d:Nat}:∀{rs:List HR},rh d rs=true↔∀r∈rs,r.dst≠d
 |[]=>by simp[rh]|r::rs=>by
  simp only[rh,qA,Bool.not_eq_true',cM (rs:=rs),wE,forall_eq_or_imp];constructor
  ·rintro⟨a,b⟩;exact⟨fun e=>by subst e;simp at a,b⟩
  ·rintro⟨a,b⟩
   refine⟨?_,b⟩;cases c:Nat.beq r.dst d
   ·rfl
   ·exact absurd (qN c) a
def Ae{Rs:List HR}:∀{f:List Edge}{l:List Nat},pc Rs f=some l ->
  (∀e∈f,Region.binds .any e=true->e.on∈l)/\(∀j∈l,∃e∈f,Region.binds .any e=true/\(j=e.on\/∃r,Rs[e.on]? = some r/\j∈r.pred))
 |[],l,h=>by simp[pc,qI]at h;subst h;exact⟨fun e n=>(by cases n),fun j b=>(by cases b)⟩
 |e::f,l,h=>by
  simp[pc]at h;cases g:Region.binds .any e<;>rw[g]at h<;>simp at h
  ·obtain⟨i,k⟩:=Ae h;refine⟨fun d a c => ?_,fun j b => ?_⟩
   ·rcases List.mem_cons.1 a with rfl|a
    ·rw[g]at c;cases c
    ·exact i d a c
   ·obtain⟨d,a,r⟩:=k j b;exact⟨d,qE _ a,r⟩
  ·split at h
   ·rename_i r p o m;simp at h;subst h;obtain⟨i,k⟩:=Ae m;refine⟨fun d a c => ?_,fun j b => ?_⟩
    ·rw[zT];rcases List.mem_cons.1 a with rfl|a
     ·exact .inl qH
     ·exact .inr (i d a c)
    ·rw[zT]at b;rcases b with b|b
     ·rcases List.mem_cons.1 b with rfl|b
      ·exact⟨e,qH,g,.inl rfl⟩
      ·exact⟨e,qH,g,.inr ⟨r,o,b⟩⟩
     ·obtain⟨d,a,r⟩:=k j b;exact⟨d,qE _ a,r⟩
   ·cases h
def LM{b a:List Nat}:∀{rs:List HR}{j:Nat},uq b a rs j=true->∀k r,rs[k]? = some r->j+k∈b\/r.dst∉a
 |[],j,_,k,r,hr=>by simp at hr|r0::rs,j,h,k,r,hr=>by
  simp only[uq,qA,Bool.or_eq_true,Bool.not_eq_true']at h
  cases k with
  |zero=>
   simp at hr;subst hr;rcases h.1 with h|h
   ·exact .inl (gu.1 h)
   ·exact .inr (fun c=>by rw[gu.2 c]at h;cases h)
  |succ k=>
   have:=LM h.2 k r (by simpa using hr)
   rwa [show j+(k+1)=j+1+k by omega]
def MB{ops:Array Oper}{d:Nat}{a:List Nat}:∀{i:Nat},vc ops d a i=true->∀j o,j<i->ops[j]? = some o->j∈a\/d∉lv ops o
 |0,_,j,o,hj,_=>by omega|i+1,h,j,o,hj,ho=>by
  simp[vc,qA,Bool.or_eq_true]at h;by_cases b:j=i
  ·subst b;rcases h.1 with h|h
   ·exact .inl (gu.1 h)
   ·rw[ho]at h;simp at h;exact .inr (fun c=>by rw[gu.2 c]at h;cases h)
  ·exact MB h.2 j o Ta ho
def M8{o:Oper}{j:Nat}(h:A2 o j=true):∃e∈o.after,e.on=j/\Region.binds .any e=true:=by
 obtain⟨e,b,a⟩:=List.any_eq_true.1 h;simp only[qA]at a;exact⟨e,by simpa using b,qN a.1,a.2⟩
def Qr:∀{l:List Oper}{i:Nat},D5 l i=true->∀j o,l[j]? = some o->A2 o (i+j-1)=true
 |[],i,_,j,o,ho=>by simp at ho|o0::l,i,h,j,o,ho=>by
  simp[D5,qA]at h
  cases j with|zero=>simp at ho;subst ho;exact h.1|succ j=>have:=Qr h.2 j o (by simpa using ho);rwa [show i+(j+1)-1=i+1+j-1 by omega]
def DM{L:List Nat}:∀{a:List Edge},(∀e∈a,Region.binds .any e=true->e.on∈L)->∀j∈mX a,j∈L
 |[],_,j,h=>by cases h
 |e::a,hL,j,h=>by
  simp[mX]at h;cases c:Region.binds .any e<;>rw[c]at h<;>simp only[qT,qF]at h
  ·exact DM (fun e b=>hL e (qE _ b)) j h
  ·rcases List.mem_cons.1 h with rfl|h
   ·exact hL e qH c
   ·exact DM (fun e b=>hL e (qE _ b)) j h
def SZ{ops:Array Oper}{L:List Nat}(b:∀i∈L,∀o,ops[i]? = some o->∀e∈o.after,Region.binds .any e=true->e.on∈L):∀{n:Nat}{S:List Nat},(∀j∈S,j∈L)->∀j∈EJ ops n S,j∈L
 |0,S,hS,j,h=>hS j h|n+1,S,hS,j,h=>by
  simp[EJ]at h;refine SZ b (fun i a => ?_) j h
  cases d:cg S n<;>rw[d]at a<;>simp at a
  ·exact hS i a
  ·split at a
   ·rename_i o g;rcases List.mem_append.1 a with a|a
    ·exact DM (fun e f c=>b n (hS n (gu.1 d)) o g e (by simpa using f) c) i a
    ·exact hS i a
   ·exact hS i a
def P9{S:List Nat}:∀{n:Nat},Dn S n=true->∀j,j<n->j∈S
 |0,_,j,h=>by omega|n+1,h,j,hj=>by
  simp[Dn,qA]at h;by_cases e:j=n
  ·subst e;exact gu.1 h.1
  ·exact P9 h.2 j Ta
def qb5{ops:Array Oper}{n:Nat}(h:qh ops n=true){o:Oper}(c:ops[n]? = some o){L:List Nat}(a:∀i∈L,∀o,ops[i]? = some o->∀e∈o.after,Region.binds .any e=true->e.on∈L)
  (d:∀e∈o.after,Region.binds .any e=true->e.on∈L):∀j,j<n->j∈L:=fun j g=>by
 unfold qh at h;split at h
 ·rename_i b;have:n<ops.size:=(Array.getElem?_eq_some_iff.1 c).1;have:=congrArg List.length b;simp at this;omega
 ·rename_i k l b;have:k=o:=by
   have:=congrArg (fun l=>l[0]?) b
   simp at this;rw[c]at this;injection this with this;exact this.symm
  subst this;simp at h;exact SZ a (DM fun e f=>d e (by simpa using f)) j (P9 h.1 j g)
def Mx{ops:Array Oper}{n:Nat}(h:qh ops n=true){i:Nat}{o:Oper}(d:n<i)(b:ops[i]? = some o):A2 o (i-1)=true:=by
 unfold qh at h;split at h
 ·rename_i a;have:i<ops.size:=(Array.getElem?_eq_some_iff.1 b).1;have:=congrArg List.length a;simp at this;omega
 ·rename_i e l a;simp at h;have c:l[i-(n+1)]? = some o:=by
   have:=congrArg (fun l=>l[i-n]?) a
   simp at this;rw[show n+(i-n)=i by omega,b,show i-n=(i-(n+1))+1 by omega,List.getElem?_cons_succ]at this
   exact this.symm
  have:=Qr h.2 (i-(n+1)) o c
  rwa [show n+1+(i-(n+1))-1=i-1 by omega]at this
def q9:∀{l:List Oper}{i:Nat},nz l i=true->∀j o,l[j]? = some o->∀e∈o.after,Region.binds .any e=true->e.on<i+j
 |[],i,_,j,o,ho=>by simp at ho|o0::l,i,h,j,o,ho=>by
  simp only[nz,qA]at h
  cases j with
  |zero=>
   simp at ho;subst ho;intro e b a;have:=List.all_eq_true.1 h.1 e (by simpa using b)
   simp[a,Bool.not_true,Bool.false_or,Nat.blt_eq]at this;exact this
  |succ j=>have:=q9 h.2 j o (by simpa using ho);rwa [show i+(j+1)=i+1+j by omega]
def gX{ops:Array Oper}{a:Array Bool}{i:Nat}:i∈Region.ready .any ops a↔i<ops.size/\a.getD i true=false/\∃o,ops[i]? = some o/\∀e∈o.after,Region.binds .any e=true->a.getD e.on false=true:=by
 unfold Region.ready;simp only[List.mem_filter,List.mem_range,qA,Bool.not_eq_true'];constructor
 ·rintro⟨c,f,b⟩
  obtain⟨o,d⟩:∃o,ops[i]? = some o:=⟨ops[i],by simp[c]⟩
  refine⟨c,f,o,d,fun e h g => ?_⟩
  rw[d]at b;simp only[wQ,Option.getD_some]at b;have:=Array.all_eq_true'.1 b e h;simpa [g] using this
 ·rintro⟨c,f,o,d,b⟩
  refine⟨c,f,?_⟩;rw[d];simp only[wQ,Option.getD_some];refine Array.all_eq_true'.2 (fun e h => ?_)
  cases g:Region.binds .any e
  ·simp
  ·simp[b e h g]
def dD:∀(n:Nat)(L:List Nat),L.Nodup->(∀i∈L,i<n)->L.length<=n
 |0,L,_,h=>by
  cases L with|nil=>simp|cons x L=>have:=h x qH;omega
 |n+1,L,hd,h=>by
  by_cases b:n∈L
  ·have:=dD n (L.erase n) (hd.erase n) (fun i a=>by
    have c:=h i (List.mem_of_mem_erase a);have d:i≠n:=fun e=>by subst e;exact(hd.not_mem_erase) a
    omega)
   rw[List.length_erase_of_mem b]at this;omega
  ·have:=dD n L hd (fun i a=>by
    have c:=h i a;have d:i≠n:=fun e=>b (e▸a)
    omega)
   omega
def KY:∀(n:Nat)(L:List Nat),(∀i,i<n->i∈L)->n<=L.length
 |0,L,_=>Nat.zero_le _|n+1,L,h=>by
  have a:n∈L:=h n Ta
  have:=KY n (L.erase n) (fun i b=>(List.mem_erase_of_ne Ta).2 (h i Ta))
  rw[List.length_erase_of_mem a]at this;have:0<L.length:=List.length_pos_of_mem a;omega
structure bS(ops:Array Oper)(m:Nat)(listed:Array Bool):Prop where
 size:listed.size=ops.size
 iff:∀j,j<ops.size->(listed.getD j true=true↔j<m)
def qtm{ops:Array Oper}{N:Act->World->Prop}{b:Array Bool}{a:Act}{w:World}(g:bS ops ops.size b)(h:N a w):mv P TT ops N (ops.size-ops.size) b a w:=by
 rw[Nat.sub_self];refine⟨?_,h⟩
 cases f:Region.ready .any ops b with
 |nil=>rfl|cons i r=>
  have e:i∈Region.ready .any ops b:=by rw[f];exact qH
  obtain⟨c,d,_⟩:=gX.1 e;rw[(g.iff i c).2 c]at d;cases d
def qtn{ops:Array Oper}{N:Act->World->Prop}{n m:Nat}(H:nz ops.toList 0=true)(L:qh ops n=true)(S:n<=m)(f:m<ops.size){b:Array Bool}{a:Act}{w:World}(C:bS ops m b)
  (h:ue P TT ops m (fun a w=>∀b,bS ops (m+1) b->mv P TT ops N (ops.size-(m+1)) b a w) a w):mv P TT ops N (ops.size-m) b a w:=by
 obtain⟨k,K⟩:∃k,ops.size-m=k+1:=⟨ops.size-m-1,Ta⟩
 obtain⟨o,B⟩:∃o,ops[m]? = some o:=⟨ops[m],by simp[f]⟩
 have c:=C.iff;have A:=C.size;rw[K];have p:m∈Region.ready .any ops b:=by
  refine gX.2 ⟨f,?_,o,B,fun e x G => ?_⟩
  ·cases z:b.getD m true
   ·rfl
   ·have:=(c m f).1 z;omega
  ·have:=q9 H m o (by simpa using B) e x G
   have d:e.on<m:=Ta
   have r:=(c e.on Ta).2 d
   rw[Array.getD_eq_getD_getElem?]at r ⊢;have:b[e.on]? = some b[e.on]:=by simp[show e.on<b.size by omega]
   rw[this]at r ⊢;exact r
 refine⟨fun q=>(by rw[q]at p;cases p),fun i I => ?_⟩
 have y:i=m:=by
  obtain⟨O,E,T,Q,R⟩:=gX.1 I;rcases Nat.lt_trichotomy i m with d|heq|hgt
  ·rw[(c i O).2 d]at E;cases E
  ·exact heq
  ·have M:=Mx L (show n<i by omega) Q
   obtain⟨e,t,u,v⟩:=M8 M;have:=R e t v;rw[u]at this;have g:b.getD (i-1) true=false:=by
    cases z:b.getD (i-1) true
    ·rfl
    ·have:=(c (i-1) Ta).1 z;omega
   rw[Array.getD_eq_getD_getElem?]at this g;have F:b[i-1]? = some b[i-1]:=by simp[show i-1<b.size by omega]
   rw[F]at this g;simp at this g;rw[this]at g;cases g
 subst y;refine Q6 (fun a w h => ?_) h
 have:=h (b.setIfInBounds i true) ⟨by simp[A],fun j J => ?_⟩
 ·rwa [show ops.size-(i+1)=k by omega]at this
 ·rw[Array.getD_eq_getD_getElem?,Array.getElem?_setIfInBounds];by_cases l:i=j
  ·subst l;simp[show i<b.size by omega]
  ·rw[qW l];have:=c j J;rw[Array.getD_eq_getD_getElem?]at this;rw[this];omega
structure Inv(ops:Array Oper)(n:Nat)(L:List Nat)(listed:Array Bool):Prop where
 nodup:L.Nodup
 lt:∀i∈L,i<n
 size:listed.size=ops.size
 iff:∀j,j<ops.size->(listed.getD j true=true↔j∈L)
 closed:∀i∈L,∀o,ops[i]? = some o->∀e∈o.after,Region.binds .any e=true->e.on∈L
def Inv.getD_false{ops:Array Oper}{n:Nat}{L:List Nat}{a:Array Bool}(h:Inv ops n L a){j:Nat}(c:j<ops.size):a.getD j false=true↔j∈L:=by
 rw[← h.iff j c,Array.getD_eq_getD_getElem?,Array.getD_eq_getD_getElem?];have b:j<a.size:=by rw[h.size];exact c
 have:a[j]? = some a[j]:=by simp[b]
 rw[this];simp
def Pu{Rs:List HR}(o:fV s Rs){n:Nat}(u:Rs.length=n){L:List Nat}(p:∀i∈L,i<n)(l:∀i,i<n->i∈L):(d5 Rs L s).eqv (ov Rs s):=by
 have v:=Pp (Rs:=Rs) Rs 0 s (fun k _=>by rw[wO])
 rw[v];have a:∀j,j∈(List.range' 0 Rs.length).reverse↔j∈L:=fun j=>by
  rw[List.mem_reverse,List.mem_range'_1,u];exact⟨fun h=>l j Ta,fun h=>⟨Ta,by have:=p j h;omega⟩⟩
 refine⟨by rw[(t6 Rs _ s).1,(t6 Rs _ s).1],by rw[(t6 Rs _ s).2,(t6 Rs _ s).2],fun d => ?_,fun m => ?_,by rw[Dl,Dl]⟩
 ·by_cases t:∃j,j∈L/\∃g:HR,Rs[j]? = some g/\g.dst=d
  ·obtain⟨j,f,g,c,rfl⟩:=t;rw[mA o f c,mA o ((a j).2 f) c]
  ·rw[xS (fun j f g c e=>t ⟨j,f,g,c,e⟩),xS (fun j f g c e=>t ⟨j,(a j).1 f,g,c,e⟩)]
 ·cases q:af (d5 Rs L s).hp m with
  |some b=>exact(J0 o (fun j f=>(a j).2 f) q).symm
  |none=>
   cases r:af (d5 Rs (List.range' 0 Rs.length).reverse s).hp m with|none=>rfl|some b=>rw[J0 o (fun j f=>(a j).1 f) r]at q;cases q
def SK{ops:Array Oper}{n:Nat}{Rs:List HR}(C:n<=ops.size)(m:nz ops.toList 0=true)(w:∀i o,i<n->ops[i]? = some o->wZ P ops s Rs i o){L:List Nat}
  (l:∀i∈L,∀o,ops[i]? = some o->∀e∈o.after,Region.binds .any e=true->e.on∈L):∀(i:Nat)(o:Oper)(r:HR),i<n->ops[i]? = some o->Rs[i]? = some r->(∀e∈o.after,Region.binds .any e=true->e.on∈L)->(∀j∈r.pred,j∈L/\j<i):=by
 intro i
 induction i using Nat.strongRecOn with
 |ind i B=>
  intro o r x t A d j y;obtain⟨F,E,_,k,_,_,_,v,_⟩:=w i o x t;rw[A]at k;injection k with k;subst k
  obtain⟨e,q,p,b⟩:=(Ae v).2 j y;have z:=q9 m i o (by simpa using t) e (by simpa using q) p
  have a:e.on<i:=Ta
  have f:=d e (by simpa using q) p
  rcases b with rfl|⟨u,c,b⟩
  ·exact⟨f,a⟩
  ·have h:Rs[e.on]? = some u:=by rw[List.getElem?_take]at c;rw[qX a]at c;exact c
   have g:ops[e.on]? = some ops[e.on]:=Te
   have:=B e.on a ops[e.on] u Ta g h (l e.on f _ g) j b
   exact⟨this.1,Ta⟩
def qm1{ops:Array Oper}{n:Nat}{Rs:List HR}{N:Act->World->Prop}(hn:n<=ops.size)(A:nz ops.toList 0=true)(ht:qh ops n=true)(ac:Rs.length=n)
  (hH:∀i o,i<n->ops[i]? = some o->wZ P ops s Rs i o) (W:fV s Rs)
  (F:∀(G:Gh)(a:Act)(w:World)(l:Array Bool),aj q72 q7w q7z G (ov Rs s) a w->bS ops n l->mv P TT ops N (ops.size-n) l a w) :
  ∀(g:Nat)(L:List Nat)(l:Array Bool)(G:Gh)(a:Act)(w:World),ops.size=g+L.length->Inv ops n L l->aj q72 q7w q7z G (d5 Rs L s) a w->mv P TT ops N g l a w:=by
 intro g
 induction g with
 |zero=>
  intro L l G a w hg f hr;have Y:=dD n L f.nodup f.lt;have bb:n=ops.size:=Ta
  have q:∀i,i<n->i∈L:=fun i hi=>by
   by_cases hm:i∈L
   ·exact hm
   ·have:=dD n (i::L) (List.nodup_cons.2 ⟨hm,f.nodup⟩) (fun j p=>by
     rcases List.mem_cons.1 p with rfl|p;· exact hi
     ·exact f.lt j p)
    simp at this;omega
  have:=F G a w l (hr.eqv (Pu W ac f.lt q)) ⟨f.size,fun j p=>by rw[f.iff j p];exact⟨fun h=>f.lt j h,fun h=>q j h⟩⟩
  rwa [bb,Nat.sub_self]at this
 |succ g ih=>
  intro L l G a w hg f hr;by_cases q:∀i,i<n->i∈L
  ·have Y:=dD n L f.nodup f.lt;have h2:=KY n L q;have:=F G a w l (hr.eqv (Pu W ac f.lt q)) ⟨f.size,fun j p=>by rw[f.iff j p];exact⟨fun h=>f.lt j h,fun h=>q j h⟩⟩
   rwa [show ops.size-n=g+1 by omega]at this
  ·
   have a6:∃i,i<n/\i∉L/\∀j,j<i->j∈L:=by
    have:∃i,i<n/\i∉L:=by
     simpa using q
    obtain⟨i,hi,hm⟩:=this;clear q
    induction i using Nat.strongRecOn with
    |ind i ih=>
     by_cases an:∀j,j<i->j∈L
     ·exact⟨i,hi,hm,an⟩
     ·have:∃j,j<i/\j∉L:=by simpa using an
      obtain⟨j,p,ba⟩:=this;exact ih j p Ta ba
   obtain⟨J,a7,ad,av⟩:=a6;have O:J<ops.size:=Ta
   have X:J∈Region.ready .any ops l:=by
    refine gX.2 ⟨O,?_,ops[J],Te,fun e H z => ?_⟩
    ·cases hq:l.getD J true
     ·rfl
     ·exact absurd ((f.iff J O).1 hq) ad
    ·have:=q9 A J ops[J] Te e H z
     have C:e.on<J:=Ta
     exact(f.getD_false Ta).2 (av _ C)
   refine⟨fun ah=>(by rw[ah]at X;cases X),fun i hi => ?_⟩
   obtain⟨i1,i2,o,K,i4⟩:=gX.1 hi;have I:i∉L:=fun h=>by rw[(f.iff i i1).2 h]at i2;cases i2
   have S:i<n:=by
    rcases Nat.lt_or_ge i n with h|h
    ·exact h
    ·rcases Nat.lt_or_ge n i with h|h
     ·obtain⟨e,a3,a4,a5⟩:=M8 (Mx ht h K);have:=i4 e a3 a5;rw[a4,f.getD_false Ta]at this
      have:=f.lt _ this;omega
     ·have:i=n:=Ta
      subst this;exact absurd (qb5 ht K f.closed (fun e H z=>by
       have C:=q9 A i o (by simpa using K) e H z
       exact(f.getD_false Ta).1 (i4 e H z)) J a7) ad
   have B:∀e∈o.after,Region.binds .any e=true->e.on∈L:=fun e H z=>by
    have C:=q9 A i o (by simpa using K) e H z
    exact(f.getD_false Ta).1 (i4 e H z)
   obtain⟨r,ps,c,Y,h2,h3,h4,h5,h6,h7,h8,h9,a0⟩:=hH i o S K;have v:=SK hn A hH f.closed i o r S K Y B;have T:∀k,k<(Rs.take i).length->Rs[0+k]? = (Rs.take i)[k]? := fun k hk=>by
    rw[List.getElem?_take,qX (by simp at hk;omega),wO]
   have be:(Rs.take i).length=i:=by simp;omega
   rw[J5 (Rs:=Rs) (Rs.take i) 0 s T,be]at h9
   -- which slots and boxes the operation sees
   have E:∀j,j∈((List.range' 0 i).filter (cg r.pred)).reverse↔j∈r.pred:=fun j=>by
    rw[List.mem_reverse,List.mem_filter,gu];constructor
    ·exact fun h=>h.2
    ·intro h;refine⟨?_,h⟩;rw[List.mem_range'_1];exact⟨Ta,by have:=(v j h).2;omega⟩
   have y:∀d∈lv ops o,af (d5 Rs ((List.range' 0 i).filter (cg r.pred)).reverse s).fr d=af (d5 Rs L s).fr d:=fun d Q=>by
    by_cases hw:∃j M,Rs[j]? = some M/\M.dst=d/\(j∈r.pred\/j∈L)
    ·obtain⟨j,M,p,rfl,a9⟩:=hw;have ab:j∈r.pred:=by
      rcases a9 with h|h
      ·exact h
      ·
       have aa:=f.lt j h;have a8:j≠i:=fun e=>I (e▸h)
       rcases Nat.lt_or_gt_of_ne a8 with C|hgt
       ·rcases LM h7 j M (by rw[List.getElem?_take,qX C];exact p) with h'|h'
        ·simpa using h'
        ·exact absurd Q h'
       ·have u:ops[j]? = some ops[j]:=Te
        obtain⟨br,bk,cj,k1,k2,_,_,_,_,_,k8,_⟩:=hH j ops[j] aa u;rw[p]at k1;injection k1 with k1;subst k1
        rcases MB k8 i o hgt K with h'|h'
        ·have:=SK hn A hH f.closed j ops[j] M aa u p (f.closed j h _ u) i h';exact absurd this.1 I
        ·exact absurd Q h'
     rw[mA W ((E j).2 ab) p,mA W (v j ab).1 p]
    ·rw[xS (fun j p M U e=>hw ⟨j,M,U,e,.inl ((E j).1 p)⟩),xS (fun j p M U e=>hw ⟨j,M,U,e,.inr p⟩)]
   have V:tw o (d5 Rs ((List.range' 0 i).filter (cg r.pred)).reverse s) (d5 Rs L s):=by
    refine⟨by rw[(t6 Rs _ s).2,(t6 Rs _ s).2],fun x hx => ?_,fun m b z=>J0 W (fun j p=>(v j ((E j).1 p)).1) z,fun d Q => ?_⟩
    ·cases x with
     |tmp t=>
      exact y t (by simp only[lv];refine List.mem_append.2 (.inl ?_);rw[List.mem_filterMap];exact⟨.tmp t,hx,rfl⟩)
     |_=>rfl
    ·rw[h2]at Q;injection Q with Q;subst Q
     rw[(t6 Rs _ s).2];exact Pv W Y I
   have a1:=PN V y h9;have Z:(d5 Rs L s).add o.dst r.v r.new=some (d5 Rs (i::L) s):=by
    rw[h2];have a2:Nat.blt r.dst s.n=true:=by simpa using h3
    simp only[St.add,(t6 Rs L s).1,a2,qT,d5,Y,St.addR]
   refine JE hr K a1 a0 Z (fun G' a' w' bd=>ih (i::L) _ G' a' w' Td ?_ bd)
   refine⟨List.nodup_cons.2 ⟨I,f.nodup⟩,fun j p => ?_,by simp[f.size],fun j p => ?_,fun j p oj u e H z => ?_⟩
   ·rcases List.mem_cons.1 p with rfl|p
    ·exact S
    ·exact f.lt j p
   ·rw[Array.getD_eq_getD_getElem?,Array.getElem?_setIfInBounds];by_cases R:i=j
    ·subst R;simp[f.size,i1]
    ·rw[qW R];have:=f.iff j p;rw[Array.getD_eq_getD_getElem?]at this;rw[this,wE];exact⟨fun h => .inr h,fun h=>h.resolve_left (fun e=>R e.symm)⟩
   ·rcases List.mem_cons.1 p with rfl|p
    ·rw[K]at u;injection u with u;subst u
     exact qE _ (B e H z)
    ·exact qE _ (f.closed j p oj u e H z)
def qlt{ops:Array Oper}{n:Nat}{Rs:List HR}{N:Act->World->Prop}(F:n<=ops.size)(v:nz ops.toList 0=true)(H:qh ops n=true)(E:P.follows .mixedOrders=true)(B:Rs.length=n)
  (p:∀i o,i<n->ops[i]? = some o->wZ P ops s Rs i o)
  (m:∀(G:Gh)(a:Act)(w:World)(g:Array Bool),aj q72 q7w q7z G (ov Rs s) a w->bS ops n g->mv P TT ops N (ops.size-n) g a w) {G:Gh} {a:Act} {w:World} (c:aj q72 q7w q7z G s a w) (id:Nat)
  (b:Frame) (k:List Item) (cs:List Frame) (x:b.kind = .normal) :
  (∃y w',N y w'/\Steps P (lone (b.atR a.bs (.code (.region id ops true)::k)) cs w) (lone (b.atR y.bs k) cs w'))\/lf P b.fn TT (lone (b.atR a.bs (.code (.region id ops true)::k)) cs w) cs:=by
 have h:∀i,i<n->ops[i]? = some (ops[i]?.getD default):=fun i e=>by
  have:i<ops.size:=Ta
  simp[this]
 have C:fV s Rs:=by
  refine⟨fun i j r O e q z => ?_,fun i r e => ?_,fun i r e => ?_⟩
  ·have d:i<n:=by have:=(List.getElem?_eq_some_iff.1 e).1;omega
   have t:j<n:=by have:=(List.getElem?_eq_some_iff.1 q).1;omega
   obtain⟨A,_,_,f,_,_,_,_,K,_⟩:=p i _ d (h i d);obtain⟨R,_,_,u,_,_,_,_,M,_⟩:=p j _ t (h j t);rw[e]at f;injection f with f;subst f
   rw[q]at u;injection u with u;subst u
   rcases Nat.lt_trichotomy i j with hlt|heq|hgt
   ·exact absurd z (cM.1 M r (List.mem_of_getElem? (i:=i) (by rw[List.getElem?_take,qX hlt];exact e)))
   ·exact heq
   ·exact absurd z.symm (cM.1 K O (List.mem_of_getElem? (i:=j) (by rw[List.getElem?_take,qX hgt];exact q)))
  ·have d:i<n:=by have:=(List.getElem?_eq_some_iff.1 e).1;omega
   obtain⟨A,Q,_,f,I,_,_,_,_,_,_,L,_⟩:=p i _ d (h i d);rw[e]at f;injection f with f;subst f
   have:=PM I L;have l:∀k,k<(Rs.take i).length->Rs[0+k]? = (Rs.take i)[k]? := fun k x=>by
    rw[List.getElem?_take,qX (by simp at x;omega),wO]
   rw[J5 (Rs:=Rs) (Rs.take i) 0 s l,(t6 Rs _ s).2]at this;exact this
  ·have d:i<n:=by have:=(List.getElem?_eq_some_iff.1 e).1;omega
   obtain⟨A,_,_,f,_,_,J,_⟩:=p i _ d (h i d);rw[e]at f;injection f with f;subst f
   exact J
 refine Q7 E ?_ b k cs x;refine qm1 (q72:=q72) (q7w:=q7w) (q7z:=q7z) (N:=N) F v H B p C m ops.size [] _ G a _ Te ?_ ?_
 ·refine⟨List.nodup_nil,fun i e=>(by cases e),Te,fun j q => ?_,fun i e=>(by cases e)⟩
  rw[Array.getD_eq_getD_getElem?];simp[q]
 ·exact⟨c.defers,c.size,c.frame,c.fresh,⟨⟨c.fin.mem.agree,c.fin.mem.one,c.fin.mem.holds,c.fin.mem.apart,c.fin.mem.tab⟩,⟨c.fin.bel.os,c.fin.bel.tape,c.fin.bel.output,c.fin.bel.size,c.fin.bel.block⟩,c.fin.imm_le,c.fin.imm_new,c.fin.base,c.fin.keep,c.fin.keepOwn⟩⟩
end
end Go.Sym
