/- What the claim rests on, part 1: gathered texts. -/
import Derived.Below
import Derived.Calls
import Derived.KernelRfl
import Derived.Orders
import Derived.Laws.StructEq
import Derived.Laws.Tables
import Derived.Laws.Cover4
import Derived.Laws.BytesString
import Derived.Laws.BytesArg
import Derived.Laws.Append
import Derived.AtR
set_option linter.defProp false
namespace Go.Sym
def qI{α : Type _}(a b : α) : (some a = some b) = (a = b) := Option.some.injEq a b
def qP{α : Type _}{β : Type _}(a : α)(b : β)(c : α)(d : β) : ((a, b) = (c, d)) = (a = c ∧ b = d) := Prod.mk.injEq a b c d
def qN{n m : Nat}(h : Nat.beq n m = true) : n = m := Nat.eq_of_beq_eq_true h
def qA(a b : Bool) : ((a && b) = true) = (a = true ∧ b = true) := Bool.and_eq_true a b
def qB{α : Type _}{β : Type _}(a : α)(f : α → Option β) : (some a).bind f = f a := rfl
def qL{α : Type _}{a : α}{l : List α} : (a :: l).length = l.length + 1 := rfl
def qM{α : Type _}{a b : List α} : (a ++ b).length = a.length + b.length := List.length_append
def qZ{α : Type _} : ([] : List α).length = 0 := rfl
def qS{α : Type _}(a b c : List α) : a ++ b ++ c = a ++ (b ++ c) := List.append_assoc a b c
def qE{α : Type _}{a : α}(b : α){l : List α}(h : a ∈ l) : a ∈ b :: l := List.mem_cons_of_mem b h
def qH{α : Type _}{a : α}{l : List α} : a ∈ a :: l := List.mem_cons_self
def qJ{α : Type _}{a b : α}(h : some a = some b) : a = b := Option.some.inj h
def qW{c : Prop}{h : Decidable c}(hnc : ¬c){α : Sort _}{t e : α} : ite c t e = e := if_neg hnc
def qX{c : Prop}{h : Decidable c}(hc : c){α : Sort _}{t e : α} : ite c t e = t := if_pos hc
def qY(n : Nat) : ((n : Int)).toNat = n := Int.toNat_natCast n
def wA{α : Type _}{a : α}{s t : List α} : a ∈ s ++ t ↔ a ∈ s ∨ a ∈ t := List.mem_append
def wC{α : Type _}{β : Type _}{as : List α}(f : α → β) : (as.map f).length = as.length := List.length_map f
def wD{α : Type _}{a : α} : [a].length = 1 := rfl
def wE{α : Type _}{a b : α}{l : List α} : a ∈ b :: l ↔ a = b ∨ a ∈ l := List.mem_cons
def wF(n : Nat) : n ≤ n := Nat.le_refl n
def wJ : (false = true) = False := Bool.false_eq_true
def wK{α : Type _}{a : α}{as bs : List α} : (a :: as) ++ bs = a :: (as ++ bs) := rfl
def wM{α : Type _}{x : α}{ys : List α} : [x] ++ ys = x :: ys := rfl
def wO(n : Nat) : 0 + n = n := Nat.zero_add n
def wQ{α : Type _}{β : Type _}{x : α}{f : α → β} : (some x).map f = some (f x) := rfl
def qT{α : Sort _}(a b : α) : cond true a b = a := rfl
def qF{α : Sort _}(a b : α) : cond false a b = b := rfl
open Go.RowKit
inductive Tree(α:Type):Type
 |node (a:α) (l:List (Tree α))
def Tree.val{α:Type}:Tree α->α|.node a _=>a
def Tree.kids{α:Type}:Tree α->List (Tree α)|.node _ l=>l
inductive Ty:Type
 |int (k:IntKind)
 |byte
 |bool
 |str
 |unit
 |prod (a b:Ty)
 |list (a:Ty)
 |tree (a:Ty)
def Ty.den:Ty->Type|.int _=>Int|.byte=>UInt8|.bool=>Bool|.str=>List UInt8|.unit=>Unit|.prod a b=>a.den×b.den|.list a=>List a.den|.tree a=>Tree a.den
def Ty.sz:Ty->Nat|.unit=>0|.prod a b=>a.sz+b.sz|.tree a=>a.sz+1|_=>1
def Ty.eq? : (a b:Ty)->Option (PLift (a=b))
 |.int k,.int k'=>if h:k=k' then some ⟨by rw[h]⟩ else none|.byte,.byte=>some ⟨rfl⟩|.bool,.bool=>some ⟨rfl⟩|.str,.str=>some ⟨rfl⟩|.unit,.unit=>some ⟨rfl⟩|.prod a b,.prod a' b'=>match Ty.eq? a a',Ty.eq? b b' with|some ⟨h⟩,some ⟨h'⟩=>some ⟨by rw[h,h']⟩|_,_=>none
 |.list a,.list a'=>match Ty.eq? a a' with|some ⟨h⟩=>some ⟨by rw[h]⟩|none=>none
 |.tree a,.tree a'=>match Ty.eq? a a' with|some ⟨h⟩=>some ⟨by rw[h]⟩|none=>none
 |_,_=>none
inductive AV:Type
 |undef
 |int (k:IntKind) (n:Int)
 |byte (c:UInt8)
 |bool (b:Bool)
 |str (s:List UInt8)
 |sl (τ:Ty) (l:List τ.den)
 |agg (cs:List AV)
 |tup (vs:List AV)
 |ptr (b off:Nat)
 |rop (cs:List AV)
 |own (k:Nat)
 |oel (k sz i off:Nat)
 |osl (k sz lo:Nat)
 |asl (b n c:Nat)
 |arr (τ:Ty) (l:List τ.den)
 |val (v:Value)
 |fn (f:Fn) (first cap:List AV)
 |iface (t:TypeId) (x:AV)
 |yld (n:Nat)
 |pn (n:Nat)
def Ty.enc:(τ:Ty)->τ.den->List AV|.int k,n=>[.int k n]|.byte,c=>[.byte c]|.bool,b=>[.bool b]|.str,s=>[.str s]|.unit,_=>[]|.prod a b,x=>a.enc x.1++b.enc x.2|.list a,l=>[.sl a l]|.tree a,x=>a.enc x.val++[.sl (.tree a) x.kids]
def Ty.enc_length:∀(τ:Ty)(x:τ.den),(τ.enc x).length=τ.sz|.int _,_=>rfl|.byte,_=>rfl|.bool,_=>rfl|.str,_=>rfl|.unit,_=>rfl|.prod a b,x=>by simp[Ty.enc,Ty.sz,Ty.enc_length a,Ty.enc_length b]|.list _,_=>rfl|.tree a,x=>by simp[Ty.enc,Ty.sz,Ty.enc_length a]
structure Gh where
 imm:Nat->Nat->Option Value
 box:Nat->Option Nat
 own:Nat->Option (Option Addr×Nat×Nat)
def Gh.data(G:Gh):Gh:={ imm:=G.imm,box:=fun _=>none,own:=fun _=>none }
@[simp] def Gh.data_data(G:Gh):G.data.data=G.data:=rfl
@[simp] def Gh.data_imm(G:Gh):G.data.imm=G.imm:=rfl
def ja{α:Type}(sz:Nat)(D:α->Nat->Nat->Prop)(l:List α)(v:Value):Prop:=
 ∃a c,v = .slice a l.length c/\l.length<=c/\(l=[]\/∃b o,a=some ⟨b,o,none⟩/\∀(j:Nat)(x:α),l[j]? = some x->D x b (o+j*sz))
inductive qx7{α:Type}(m:Nat->Nat->Option Value)(sz:Nat)(D:α->Nat->Nat->Prop):Tree α->Nat->Nat->Prop
 |mk (a:α) (l:List (Tree α)) (b o:Nat) (ad:Option Addr) (c b' o':Nat):D a b o->m b (o+sz)=some (.slice ad l.length c)->l.length<=c ->
   (l≠[]->ad=some ⟨b',o',none⟩)->(∀(j:Nat)(x:Tree α),l[j]? = some x->qx7 m sz D x b' (o'+j*(sz+1)))->qx7 m sz D (.node a l) b o
def Ty.At(m:Nat->Nat->Option Value):(τ:Ty)->τ.den->Nat->Nat->Prop|.int k,n,b,o=>m b o=some (.int k n)|.byte,c,b,o=>m b o=some (.int .u8 (c.toNat:Int))|.bool,x,b,o=>m b o=some (.bool x)|.str,s,b,o=>m b o=some (.string ⟨s.toArray⟩)|.unit,_,_,_=>True|.prod x y,p,b,o=>x.At m p.1 b o/\y.At m p.2 b (o+x.sz)|.list x,l,b,o=>∃v,m b o=some v/\ja x.sz (x.At m) l v|.tree x,t,b,o=>qx7 m x.sz (x.At m) t b o
def Ty.At.mono{m m':Nat->Nat->Option Value}(h:∀b o v,m b o=some v->m' b o=some v):∀{τ:Ty}{x:τ.den}{b o:Nat},τ.At m x b o->τ.At m' x b o
 |.int _,_,_,_,k=>h _ _ _ k|.byte,_,_,_,k=>h _ _ _ k|.bool,_,_,_,k=>h _ _ _ k|.str,_,_,_,k=>h _ _ _ k|.unit,_,_,_,_=>trivial|.prod _ _,_,_,_,⟨k1,k2⟩=>⟨Ty.At.mono h k1,Ty.At.mono h k2⟩|.list x,l,_,_,⟨v,k1,a,c,k2,k3,k4⟩=>⟨v,h _ _ _ k1,a,c,k2,k3,k4.imp id fun⟨b,o,e,k⟩=>⟨b,o,e,fun j y hy=>Ty.At.mono h (k j y hy)⟩⟩
 |.tree x,t,b,o,k=>by
  simp only[Ty.At]at k ⊢
  induction k with|mk a l b o ad c b' o' k1 k2 k3 k4 _ ih=>exact .mk a l b o ad c b' o' (Ty.At.mono h k1) (h _ _ _ k2) k3 k4 ih
def Ty.V1(m:Nat->Nat->Option Value):(τ:Ty)->τ.den->Value->Prop|.int k,n,v=>v = .int k n|.byte,c,v=>v = .int .u8 (c.toNat:Int)|.bool,b,v=>v = .bool b|.str,s,v=>v = .string ⟨s.toArray⟩|.list x,l,v=>ja x.sz (x.At m) l v|_,_,_=>False
def Ty.V1.mono{m m':Nat->Nat->Option Value}(h:∀b o v,m b o=some v->m' b o=some v):∀{τ:Ty}{x:τ.den}{v:Value},τ.V1 m x v->τ.V1 m' x v|.int _,_,_,k=>k|.byte,_,_,k=>k|.bool,_,_,k=>k|.str,_,_,k=>k|.list _x,_,_,⟨a,c,h1,h2,h3⟩=>⟨a,c,h1,h2,h3.imp id fun⟨b,o,e,k⟩=>⟨b,o,e,fun j y hy=>Ty.At.mono h (k j y hy)⟩⟩
mutual
def ak:AV->Gh->Value->Prop
 |.undef,_,_=>True|.int k n,_,v=>v = .int k n|.byte c,_,v=>v = .int .u8 c.toNat|.bool b,_,v=>v = .bool b|.str s,_,v=>v = .string ⟨s.toArray⟩|.sl τ l,G,v=>ja τ.sz (τ.At G.imm) l v|.agg cs,G,v=>∃vs,v = .agg vs/\al cs G vs.toList|.tup cs,G,v=>∃vs,v = .tuple vs/\al cs G vs.toList|.ptr b off,G,v=>∃B,G.box b=some B/\v = .pointer (some ⟨B,off,none⟩)|.rop cs,G,v=>∃b o,v = .pointer (some ⟨b,o,none⟩)/\ce cs G b o|.own k,G,v=>∃a n c,G.own k=some (a,n,c)/\v = .slice a n c|.oel k sz i off,G,v=>∃b n c,G.own k=some (some ⟨b,0,none⟩,n,c)/\v = .pointer (some ⟨b,i*sz+off,none⟩)|.osl k sz lo,G,v=>∃b n c,G.own k=some (some ⟨b,0,none⟩,n,c)/\lo<n/\v = .slice (some ⟨b,lo*sz,none⟩) (n-lo) (c-lo)|.asl k n c,G,v=>∃B,G.box k=some B/\n<=c/\v = .slice (some ⟨B,0,none⟩) n c|.arr τ l,G,v=>∃vs:Array Value,v = .agg vs/\vs.size=l.length/\∀(j:Nat)(x:τ.den),l[j]? = some x->∃u,vs[j]? = some u/\τ.V1 G.imm x u|.val u,_,v=>v=u|.fn f first cap,G,v=>∃fs cs,v = .func f fs cs/\al first G fs.toList/\al cap G cs.toList
 |.iface t x,G,v=>∃u,v = .iface t u/\ak x G u|.yld n,G,v=>∃B,G.box n=some B/\v = .func (.yield B) #[] #[]|.pn n,G,v=>∃B,G.box n=some B/\(v = .pointer none\/v = .pointer (some ⟨B,0,none⟩))
def al:List AV->Gh->List Value->Prop|[],_,[]=>True|x::xs,G,v::vs=>ak x G v/\al xs G vs|_,_,_=>False
def ce:List AV->Gh->Nat->Nat->Prop|[],_,_,_=>True|x::xs,G,b,o=>(∃u,G.imm b o=some u/\ak x G.data u)/\ce xs G b (o+1)
end
def ce.append{G:Gh}:∀{xs ys:List AV}{b o:Nat},ce xs G b o->ce ys G b (o+xs.length)->ce (xs++ys) G b o|[],_,_,_,_,h=>h|_::xs,_,b,o,h,k=>⟨h.1,ce.append h.2 (by rw[qL]at k;rw[show o+1+xs.length=o+(xs.length+1) by omega];exact k)⟩
def ce.of_append{G:Gh}:∀{xs ys:List AV}{b o:Nat},ce (xs++ys) G b o->ce xs G b o/\ce ys G b (o+xs.length)
 |[],_,_,_,h=>⟨trivial,h⟩|_::xs,_,b,o,h=>by
  obtain⟨h1,h2⟩:=ce.of_append (xs:=xs) h.2;exact⟨⟨h.1,h1⟩,by rw[qL,show o+(xs.length+1)=o+1+xs.length by omega];exact h2⟩
def zj2{m:Nat->Nat->Option Value}{x:Ty}{t:Tree x.den}{b o:Nat}:(Ty.tree x).At m t b o↔x.At m t.val b o/\∃v,m b (o+x.sz)=some v/\ja (Ty.tree x).sz ((Ty.tree x).At m) t.kids v:=by
 constructor
 ·intro h;simp only[Ty.At]at h
  cases h with
  |mk a l _ _ ad c b' o' k1 k2 k3 k4 k5=>
   refine⟨k1,_,k2,ad,c,rfl,k3,?_⟩;by_cases hl:l=[]
   ·exact .inl hl
   ·exact .inr ⟨b',o',k4 hl,k5⟩
 ·rintro⟨h1,v,h2,ad,c,rfl,h3,h4⟩
  cases t with
  |node a l=>
   simp only[Ty.At];simp only[Tree.kids]at *;rcases h4 with h4|⟨b',o',e,h4⟩
   ·subst h4;exact .mk a [] b o ad c 0 0 h1 h2 h3 (fun h=>absurd rfl h) (fun j x hx=>by simp at hx)
   ·exact .mk a l b o ad c b' o' h1 h2 h3 (fun _=>e) h4
def ss{G:Gh}:∀{τ:Ty}{x:τ.den}{b o:Nat},ce (τ.enc x) G b o↔τ.At G.imm x b o
 |.int _,_,_,_=>by simp[Ty.enc,ce,ak,Ty.At]|.byte,_,_,_=>by simp[Ty.enc,ce,ak,Ty.At]|.bool,_,_,_=>by simp[Ty.enc,ce,ak,Ty.At]|.str,_,_,_=>by simp[Ty.enc,ce,ak,Ty.At]|.unit,_,_,_=>by simp[Ty.enc,ce,Ty.At]|.prod a c,x,b,o=>by
  simp only[Ty.enc,Ty.At];rw[← ss (τ:=a),← ss (τ:=c),← Ty.enc_length a x.1];exact⟨ce.of_append,fun h=>ce.append h.1 h.2⟩
 |.list a,l,b,o=>by simp[Ty.enc,ce,ak,Ty.At]|.tree a,t,b,o=>by
  refine Iff.trans ?_ (zj2 (x:=a) (t:=t)).symm;rw[← ss (τ:=a),← Ty.enc_length a (Tree.val t)];simp only[Ty.enc];constructor
  ·intro h;obtain⟨h1,⟨v,h2,h3⟩,_⟩:=ce.of_append h;exact⟨h1,v,h2,h3⟩
  ·rintro⟨h1,v,h2,h3⟩
   exact ce.append h1 ⟨⟨v,h2,h3⟩,trivial⟩
structure Gh.le(G G':Gh):Prop where
 imm:∀b o v,G.imm b o=some v->G'.imm b o=some v
 box:∀n B,G.box n=some B->G'.box n=some B
 own:∀n s,G.own n=some s->G'.own n=some s
def Gh.le.refl(G:Gh):G.le G:=⟨fun _ _ _ h=>h,fun _ _ h=>h,fun _ _ h=>h⟩
def Gh.le.trans{G G' G'':Gh}(h:G.le G')(k:G'.le G''):G.le G'':=
 ⟨fun _ _ _ x=>k.imm _ _ _ (h.imm _ _ _ x),fun _ _ x=>k.box _ _ (h.box _ _ x),fun _ _ x=>k.own _ _ (h.own _ _ x)⟩
def Gh.le.data{G G':Gh}(h:G.le G'):G.data.le G'.data:=⟨h.imm,fun _ _ x=>(by cases x),fun _ _ x=>(by cases x)⟩
def ja.mono{α:Type}{sz:Nat}{D D':α->Nat->Nat->Prop}(h:∀x b o,D x b o->D' x b o){l:List α}{v:Value}:ja sz D l v->ja sz D' l v:=
 fun⟨a,c,h1,h2,h3⟩=>⟨a,c,h1,h2,h3.imp id fun⟨b,o,e,k⟩=>⟨b,o,e,fun j x hx=>h _ _ _ (k j x hx)⟩⟩
mutual
def AV.ren(ρ:Nat->Option Nat):AV->AV
 |.agg cs => .agg (AV.rens ρ cs)|.tup cs => .tup (AV.rens ρ cs)|.ptr b off=>match ρ b with|some b' => .ptr b' off|none => .undef
 |.own k=>match ρ k with|some k' => .own k'|none => .undef
 |.oel k sz i off=>match ρ k with|some k' => .oel k' sz i off|none => .undef
 |.osl k sz lo=>match ρ k with|some k' => .osl k' sz lo|none => .undef
 |.asl k n c=>match ρ k with|some k' => .asl k' n c|none => .undef
 |.yld n=>match ρ n with|some n' => .yld n'|none => .undef
 |.pn n=>match ρ n with|some n' => .pn n'|none => .undef
 |.fn f first cap => .fn f (AV.rens ρ first) (AV.rens ρ cap)
 |.iface t x => .iface t (AV.ren ρ x)|.undef => .undef | .int k n => .int k n | .byte c => .byte c | .bool b => .bool b | .str s => .str s | .sl τ l => .sl τ l | .arr τ l => .arr τ l | .rop cs => .rop cs | .val v => .val v
def AV.rens(ρ:Nat->Option Nat):List AV->List AV|[]=>[]|x::xs=>AV.ren ρ x::AV.rens ρ xs
end
def AV.rens_append(ρ:Nat->Option Nat):∀(xs ys:List AV),AV.rens ρ (xs++ys)=AV.rens ρ xs++AV.rens ρ ys|[],_=>rfl|x::xs,ys=>by simp[AV.rens,AV.rens_append ρ xs ys]
def Ty.enc_ren(ρ:Nat->Option Nat):∀(τ:Ty)(x:τ.den),AV.rens ρ (τ.enc x)=τ.enc x|.int _,_=>rfl|.byte,_=>rfl|.bool,_=>rfl|.str,_=>rfl|.unit,_=>rfl|.prod a b,x=>by simp[Ty.enc,AV.rens_append,Ty.enc_ren ρ a,Ty.enc_ren ρ b]|.list _,_=>rfl|.tree a,x=>by simp[Ty.enc,AV.rens_append,Ty.enc_ren ρ a,AV.rens,AV.ren]
def al.length:∀{xs:List AV}{G:Gh}{vs:List Value},al xs G vs->xs.length=vs.length|[],_,[],_=>rfl|_::xs,_,_::vs,h=>by simp[al.length (xs:=xs) (vs:=vs) h.2]|[],_,_::_,h=>h.elim|_::_,_,[],h=>h.elim
mutual
def ak.ren{ρ:Nat->Option Nat}:∀{x:AV}{G G':Gh}{v:Value},(∀b o v,G.imm b o=some v->G'.imm b o=some v) ->
  (∀n n' B,ρ n=some n'->G.box n=some B->G'.box n'=some B)->(∀n n' s,ρ n=some n'->G.own n=some s->G'.own n'=some s)->ak x G v->ak (x.ren ρ) G' v
 |.undef,_,_,_,_,_,_,_=>trivial|.int _ _,_,_,_,_,_,_,h=>h|.byte _,_,_,_,_,_,_,h=>h|.bool _,_,_,_,_,_,_,h=>h|.str _,_,_,_,_,_,_,h=>h|.val _,_,_,_,_,_,_,h=>h|.sl τ l,G,G',v,hi,_,_,h=>ja.mono (fun x b o=>Ty.At.mono hi) h
 |.agg cs,G,G',v,hi,hb,ho,h=>by
   obtain⟨vs,h1,h2⟩:=h;exact⟨vs,h1,al.ren hi hb ho h2⟩
 |.tup cs,G,G',v,hi,hb,ho,h=>by
   obtain⟨vs,h1,h2⟩:=h;exact⟨vs,h1,al.ren hi hb ho h2⟩
 |.ptr b off,G,G',v,hi,hb,ho,h=>by
   obtain⟨B,h1,h2⟩:=h;simp only[AV.ren]
   cases hr:ρ b with|none=>trivial|some b'=>exact⟨B,hb _ _ _ hr h1,h2⟩
 |.yld b,G,G',v,hi,hb,ho,h=>by
   obtain⟨B,h1,h2⟩:=h;simp only[AV.ren]
   cases hr:ρ b with|none=>trivial|some b'=>exact⟨B,hb _ _ _ hr h1,h2⟩
 |.pn b,G,G',v,hi,hb,ho,h=>by
   obtain⟨B,h1,h2⟩:=h;simp only[AV.ren]
   cases hr:ρ b with|none=>trivial|some b'=>exact⟨B,hb _ _ _ hr h1,h2⟩
 |.rop cs,G,G',v,hi,_,_,h=>by
   obtain⟨b,o,h1,h2⟩:=h;exact⟨b,o,h1,ce.le hi h2⟩
 |.own k,G,G',v,hi,hb,ho,h=>by
   obtain⟨a,n,c,h1,h2⟩:=h;simp only[AV.ren]
   cases hr:ρ k with|none=>trivial|some b'=>exact⟨a,n,c,ho _ _ _ hr h1,h2⟩
 |.oel k sz i off,G,G',v,hi,hb,ho,h=>by
   obtain⟨b,n,c,h1,h2⟩:=h;simp only[AV.ren]
   cases hr:ρ k with|none=>trivial|some b'=>exact⟨b,n,c,ho _ _ _ hr h1,h2⟩
 |.osl k sz lo,G,G',v,hi,hb,ho,h=>by
   obtain⟨b,n,c,h1,h2,h3⟩:=h;simp only[AV.ren]
   cases hr:ρ k with|none=>trivial|some b'=>exact⟨b,n,c,ho _ _ _ hr h1,h2,h3⟩
 |.asl k n c,G,G',v,hi,hb,ho,h=>by
   obtain⟨B,h1,h2⟩:=h;simp only[AV.ren]
   cases hr:ρ k with|none=>trivial|some b'=>exact⟨B,hb _ _ _ hr h1,h2⟩
 |.arr τ l,G,G',v,hi,_,_,h=>by
   obtain⟨vs,h1,h2,h3⟩:=h;exact⟨vs,h1,h2,fun j x hx=>by obtain⟨u,k1,k2⟩:=h3 j x hx;exact⟨u,k1,k2.mono hi⟩⟩
 |.fn f first cap,G,G',v,hi,hb,ho,h=>by
   obtain⟨fs,cs,h1,h2,h3⟩:=h;exact⟨fs,cs,h1,al.ren hi hb ho h2,al.ren hi hb ho h3⟩
 |.iface t x,G,G',v,hi,hb,ho,h=>by
   obtain⟨u,h1,h2⟩:=h;exact⟨u,h1,ak.ren hi hb ho h2⟩
def al.ren{ρ:Nat->Option Nat}:∀{xs:List AV}{G G':Gh}{vs:List Value},(∀b o v,G.imm b o=some v->G'.imm b o=some v) ->
  (∀n n' B,ρ n=some n'->G.box n=some B->G'.box n'=some B)->(∀n n' s,ρ n=some n'->G.own n=some s->G'.own n'=some s)->al xs G vs->al (AV.rens ρ xs) G' vs
 |[],_,_,[],_,_,_,_=>trivial|_x::_xs,_G,_G',_v::_vs,hi,hb,ho,h=>⟨ak.ren hi hb ho h.1,al.ren hi hb ho h.2⟩|[],_,_,_::_,_,_,_,h=>h.elim|_::_,_,_,[],_,_,_,h=>h.elim
def ce.le:∀{xs:List AV}{G G':Gh}{b o:Nat},(∀b o v,G.imm b o=some v->G'.imm b o=some v)->ce xs G b o->ce xs G' b o|[],_,_,_,_,_,_=>trivial|_x::_xs,_G,_G',_b,_o,hi,⟨⟨u,h1,h2⟩,h3⟩=>⟨⟨u,hi _ _ _ h1,ak.data_le hi h2⟩,ce.le hi h3⟩
def ak.data_le:∀{x:AV}{G G':Gh}{v:Value},(∀b o v,G.imm b o=some v->G'.imm b o=some v)->ak x G.data v->ak x G'.data v
 |.undef,_,_,_,_,_=>trivial|.int _ _,_,_,_,_,h=>h|.byte _,_,_,_,_,h=>h|.bool _,_,_,_,_,h=>h|.str _,_,_,_,_,h=>h|.val _,_,_,_,_,h=>h|.sl τ l,G,G',v,hi,h=>ja.mono (fun x b o=>Ty.At.mono (m:=G.imm) (m':=G'.imm) hi) h
 |.agg cs,G,G',v,hi,h=>by
   obtain⟨vs,h1,h2⟩:=h;exact⟨vs,h1,al.data_le hi h2⟩
 |.tup cs,G,G',v,hi,h=>by
   obtain⟨vs,h1,h2⟩:=h;exact⟨vs,h1,al.data_le hi h2⟩
 |.ptr b off,G,G',v,hi,h=>by
   obtain⟨B,h1,h2⟩:=h;cases h1
 |.yld b,G,G',v,hi,h=>by
   obtain⟨B,h1,h2⟩:=h;cases h1
 |.pn b,G,G',v,hi,h=>by
   obtain⟨B,h1,h2⟩:=h;cases h1
 |.rop cs,G,G',v,hi,h=>by
   obtain⟨b,o,h1,h2⟩:=h;exact⟨b,o,h1,ce.le (G:=G.data) (G':=G'.data) hi h2⟩
 |.own k,G,G',v,hi,h=>by
   obtain⟨a,n,c,h1,h2⟩:=h;cases h1
 |.oel k sz i off,G,G',v,hi,h=>by
   obtain⟨b,n,c,h1,h2⟩:=h;cases h1
 |.osl k sz lo,G,G',v,hi,h=>by
   obtain⟨b,n,c,h1,_⟩:=h;cases h1
 |.asl k n c,G,G',v,hi,h=>by
   obtain⟨B,h1,_⟩:=h;cases h1
 |.arr τ l,G,G',v,hi,h=>by
   obtain⟨vs,h1,h2,h3⟩:=h;exact⟨vs,h1,h2,fun j x hx=>by obtain⟨u,k1,k2⟩:=h3 j x hx;exact⟨u,k1,k2.mono hi⟩⟩
 |.fn f first cap,G,G',v,hi,h=>by
   obtain⟨fs,cs,h1,h2,h3⟩:=h;exact⟨fs,cs,h1,al.data_le hi h2,al.data_le hi h3⟩
 |.iface t x,G,G',v,hi,h=>by
   obtain⟨u,h1,h2⟩:=h;exact⟨u,h1,ak.data_le hi h2⟩
def al.data_le:∀{xs:List AV}{G G':Gh}{vs:List Value},(∀b o v,G.imm b o=some v->G'.imm b o=some v)->al xs G.data vs->al xs G'.data vs|[],_,_,[],_,_=>trivial|_x::_xs,_G,_G',_v::_vs,hi,h=>⟨ak.data_le hi h.1,al.data_le hi h.2⟩|[],_,_,_::_,_,h=>h.elim|_::_,_,_,[],_,h=>h.elim
end
mutual
def AV.ren_some:∀(x:AV),AV.ren some x=x|.agg cs=>by rw[AV.ren,AV.rens_some]|.tup cs=>by rw[AV.ren,AV.rens_some]|.ptr _ _=>rfl|.own _=>rfl|.oel _ _ _ _=>rfl|.osl _ _ _=>rfl|.asl _ _ _=>rfl|.yld _=>rfl|.pn _=>rfl|.fn _ _ _=>by rw[AV.ren,AV.rens_some,AV.rens_some]|.iface _ x=>by rw[AV.ren,AV.ren_some]|.undef=>rfl | .int _ _=>rfl | .byte _=>rfl | .bool _=>rfl | .str _=>rfl | .sl _ _=>rfl | .arr _ _=>rfl | .rop _=>rfl | .val _=>rfl
def AV.rens_some:∀(xs:List AV),AV.rens some xs=xs|[]=>rfl|x::xs=>by rw[AV.rens,AV.ren_some,AV.rens_some]
end
end Go.Sym
namespace Go.Sym
inductive du:Type
 |ret
 |exit (id:Nat)
def du.code:du->Code|.ret => .ret|.exit id => .exit id
class LC where
 lc:Nat->Option (Code×Code)
 glob:Nat->Option ((τ:Ty)×List τ.den)
 ints:List Nat
 ifs:List Nat
 sizes:List (Nat×Nat)
def LC.tab[LC](m:Nat->Nat->Option Value)(w:World):Prop:=
 (∀g τ l,LC.glob g=some ⟨τ,l⟩->∀(j:Nat)(x:τ.den),l[j]? = some x->τ.At m x g (j*τ.sz)) /\
 (∀g∈LC.ints,∃k,m g 0=some (.int .i64 k))/\(∀g∈LC.ifs,∃t v,m g 0=some (.iface t v)) /\
 ∀e∈LC.sizes,(∃o v,m e.1 o=some v)/\∃cs t fr,w.heap[e.1]? = some (.cells cs t fr)/\cs.size=e.2
def LC.mix[LC]{m m1 m2:Nat->Nat->Option Value}{w w':World}(h:∀b o v,m b o=some v->m2 b o=some v)(t:LC.tab m w)(t':LC.tab m1 w'):LC.tab m2 w':=
 ⟨fun g τ l hg j x hx=>Ty.At.mono h (t.1 g τ l hg j x hx),fun g hg=>(t.2.1 g hg).imp fun _ hk=>h _ _ _ hk,fun g hg=>(t.2.2.1 g hg).imp fun _ h1=>h1.imp fun _ hk=>h _ _ _ hk,
  fun e he=>⟨(t.2.2.2 e he).1.imp fun _ h1=>h1.imp fun _ hk=>h _ _ _ hk,(t'.2.2.2 e he).2⟩⟩
def LC.mono[LC]{m m':Nat->Nat->Option Value}{w w':World}(h:∀b o v,m b o=some v->m' b o=some v)(hw:∀b o v,m b o=some v->w'.heap[b]? = w.heap[b]?)(t:LC.tab m w):LC.tab m' w':=
 ⟨fun g τ l hg j x hx=>Ty.At.mono h (t.1 g τ l hg j x hx),fun g hg=>(t.2.1 g hg).imp fun _ hk=>h _ _ _ hk,fun g hg=>(t.2.2.1 g hg).imp fun _ h1=>h1.imp fun _ hk=>h _ _ _ hk,
  fun e he=>by
   obtain⟨⟨o,v,h1⟩,h2⟩:=t.2.2.2 e he;exact⟨⟨o,v,h _ _ _ h1⟩,by rw[hw _ _ _ h1];exact h2⟩⟩
inductive ah:Type
 |cells (cs:List AV) (T:TypeId)
 |row (τ:Ty) (l:List τ.den) (E:TypeId)
 |loop (st:LoopState) (pend:Option du) (f:FuncId) (n:Nat) (fr:List (Nat×AV)) (ps:List Tmp) (tag:Nat) (D:Nat)
 |dfr
 |it (s:List UInt8) (pos:Nat)
 |dead
def ae{β:Type}:List (Nat×β)->Nat->Option β|[],_=>none|(k,v)::r,i=>bif Nat.beq k i then some v else ae r i
structure St:Type where
 n:Nat
 fr:List (Nat×AV)
 hp:List (Nat×ah)
 nx:Nat
 df:List Nat
inductive D:Type
 |none
 |b (d:Bool)
 |cs (x:List AV)
 |row (b:ah)
 |put (ys:List AV) (b:ah)
 |mem (names:List (Nat×Nat)) (xs:List AV) (hp:List (Nat×ah)) (r:AV) (hp':List (Nat×ah))
 |res (b:Bool) (xs:List AV) (r:AV) (hp:List (Nat×ah))
def ar:List Prop->Prop|[]=>True|p::ps=>p/\ar ps
def n7:Value->AV|.bool b => .bool b|.int .u8 n=>bif decide (0<=n)&&decide (n<256) then .byte (UInt8.ofNat n.toNat) else .val (.int .u8 n)|.int k n => .int k n|.string s => .str s.data.toList|v => .val v
def qje:List Value->List AV|[]=>[]|v::vs=>n7 v::qje vs
def AV.one:AV->Bool
 |.undef | .agg _ | .tup _ | .val _ | .arr _ _=>false
 |_=>true
def Value.one:Value->Bool
 |.agg _ | .tuple _=>false
 |_=>true
def AV.one':AV->Bool
 |.undef | .agg _ | .tup _ | .arr _ _=>false
 |.val v=>Value.one v|_=>true
def AV.ones:List AV->Bool|[]=>true|x::xs=>x.one'&&AV.ones xs
def AV.cells:AV->List AV|.agg cs=>cs|x=>[x]
def ofC:Value->AV|.int k n => .val (.int k n)|.bool b => .val (.bool b)|v=>n7 v
def AV.sym:AV->AV|.val v=>n7 v|x=>x
def qzb:AV->AV|.int k n => .val (.int k n)|.byte c => .val (.int .u8 c.toNat)|.bool b => .val (.bool b)|x=>x
def St.ev(s:St):Operand->Option AV|.tmp t=>ae s.fr t|.const v=>some (ofC v)|.func f=>some (.fn (.func f) [] [])|.global _=>none
def St.evy(s:St)(x:Operand):Option AV:=match s.ev x with|some v=>some v.sym|none=>none
def St.evs(s:St):List Operand->Option (List AV)
 |[]=>some []|x::xs=>match s.ev x with
  |none=>none|some v=>match s.evs xs with|none=>none|some vs=>some (v::vs)
def St.put(s:St)(dst:Option Tmp)(x:AV):Option St:=
 match dst with|none=>some s|some d=>bif Nat.blt d s.n then some { s with fr:=(d,x)::s.fr } else none
def py(c:UInt8)(n:Nat):UInt8:=UInt8.ofNat (c.toNat*2 ^ n)
def sg(c:UInt8)(n:Nat):UInt8:=UInt8.ofNat (c.toNat/2 ^ n)
def gl(n:Int):UInt8:=UInt8.ofNat (n%256).toNat
def qb8(op:BinOp)(k:IntKind)(a b:Int):Option (List Prop×AV):=
 match op with
 |.add=>some ([],.int k (k.wrap (a+b)))|.sub=>some ([],.int k (k.wrap (a-b)))|.mul=>some ([],.int k (k.wrap (a*b)))|.quo=>some ([b≠0],.int k (k.wrap (a.tdiv b)))|.rem=>some ([b≠0],.int k (a.tmod b))|.and=>some ([],.int k (k.wrap (BitVec.ofInt k.bits a&&&BitVec.ofInt k.bits b).toNat))|.or=>some ([],.int k (k.wrap (BitVec.ofInt k.bits a|||BitVec.ofInt k.bits b).toNat))
 |.xor=>some ([],.int k (k.wrap (BitVec.ofInt k.bits a ^^^ BitVec.ofInt k.bits b).toNat))|.andNot=>some ([],.int k (k.wrap (BitVec.ofInt k.bits a &&& ~~~ BitVec.ofInt k.bits b).toNat))|.eql=>some ([],.bool (a==b))|.neq=>some ([],.bool (a != b))|.lss=>some ([],.bool (decide (a<b)))|.leq=>some ([],.bool (decide (a<=b)))|.gtr=>some ([],.bool (decide (b<a)))|.geq=>some ([],.bool (decide (b<=a)))|.shl=>some ([0<=b],.int k (k.wrap (a*2 ^ min b.toNat k.bits)))|.shr=>some ([0<=b],.int k (a.fdiv (2 ^ min b.toNat k.bits)))
def qnq(op:BinOp)(a b:UInt8):Option (List Prop×AV):=
 match op with
 |.add=>some ([],.byte (a+b))|.sub=>some ([],.byte (a-b))|.mul=>some ([],.byte (a*b))|.quo=>some ([b≠0],.byte (a/b))|.rem=>some ([b≠0],.byte (a%b))|.and=>some ([],.byte (a&&&b))|.or=>some ([],.byte (a|||b))
 |.xor=>some ([],.byte (a ^^^ b))|.eql=>some ([],.bool (a==b))|.neq=>some ([],.bool (a != b))|.lss=>some ([],.bool (decide (a<b)))|.leq=>some ([],.bool (decide (a<=b)))|.gtr=>some ([],.bool (decide (b<a)))|.geq=>some ([],.bool (decide (b<=a)))|.shl=>some ([],.byte (py a (min b.toNat 8)))|.shr=>some ([],.byte (sg a (min b.toNat 8)))|_=>none
def ap:Nat:=4611686018427387904
def qns(op:BinOp)(a b:List UInt8):Option (List Prop×AV):=
 match op with|.add=>some ([a.length+b.length<=ap],.str (a++b))|.eql=>some ([],.bool (a==b))|.neq=>some ([],.bool (!(a==b)))|.lss=>some ([],.bool (Op.bytesLess a b))|.leq=>some ([],.bool (Op.bytesLess a b||a==b))|.gtr=>some ([],.bool (!(Op.bytesLess a b||a==b)))|.geq=>some ([],.bool (!Op.bytesLess a b))|_=>none
def vd(P:Program)(t:TypeId)(x y:AV):Option Bool:=
 match P.underlying t,x,y with|some (.int _),.int k a,.int k' b=>bif decide (k=k') then some (a==b) else none|some (.int _),.byte a,.byte b=>some (a==b)|some .bool,.bool a,.bool b=>some (a==b)|some .string,.str a,.str b=>some (a==b)|_,_,_=>none
def qh6(P:Program)(xs ys:List AV):List Field->Option Bool
 |[]=>some true
 | f :: fs => bif f.name == "_" then none else
  match xs[f.offset]?,ys[f.offset]? with
  |some x,some y=>match vd P f.type x.sym y.sym with
   |none=>none|some b=>match qh6 P xs ys fs with|none=>none|some r=>some (b&&r)
  |_,_=>none
def tf(P:Program)(t:TypeId)(x y:AV):Option Bool:=
 match x,y with
 |.agg xs,.agg ys=>
  match P.underlying t with|some (.struct fields)=>bif P.stoodInHeld t||P.eqGuardType P.depth t then none else qh6 P xs ys fields.toList|_=>none
 |x,y=>vd P t x y
def tc(P:Program)(op:BinOp)(t:TypeId)(x y:AV):Option (List Prop×AV):=
 match x,y with
 |.int k a,.int k' b=>bif decide (op = .shl)||decide (op = .shr)||decide (k=k') then(bif decide (k = .u8)||decide (k' = .u8) then none else qb8 op k a b) else none|.byte a,.byte b=>qnq op a b|.byte a,.int _k b=>match op with|.shl=>some ([0<=b],.byte (py a (min b.toNat 8)))|.shr=>some ([0<=b],.byte (sg a (min b.toNat 8)))|_=>none
 |.int k a,.byte b=>bif decide (k = .u8) then none else match op with|.shl=>some ([],.int k (k.wrap (a*2 ^ min b.toNat k.bits)))|.shr=>some ([],.int k (a.fdiv (2 ^ min b.toNat k.bits)))|_=>none
 |.str a,.str b=>qns op a b|x,y=>match op with
  |.eql=>match tf P t x y with|some b=>some ([],.bool b)|none=>none
  |.neq=>match tf P t x y with|some b=>some ([],.bool (!b))|none=>none
  |_=>none
def qnr(P:Program)(op:BinOp)(t:TypeId)(x y:AV):Option (List Prop×AV):=
 match x,y with
 |.val (.int _ _),.val (.int _ _)=>match tc P op t x.sym y.sym with|some ([],r)=>some ([],qzb r)|r=>r
 |x,y=>tc P op t x.sym y.sym
def aun(op:UnOp)(x:AV):Option AV:=
 match op,x with|.not,.bool b=>some (.bool (!b))|.not,.val (.bool b)=>some (.val (.bool (!b)))|.neg,.int k n=>bif decide (k = .u8) then none else some (.int k (k.wrap (0-n)))|.neg,.val (.int k n)=>some (.val (.int k (k.wrap (0-n))))|_,_=>none
def ef(P:Program)(t:TypeId):Option Nat:=match P.info? t with|some i=>some i.size|none=>none
def wi(P:Program)(t:TypeId):Option Bool:=match P.underlying t with|some (.struct _)=>some true|some (.array _ _)=>some true|some _=>some false|none=>none
def wj(P:Program)(t:TypeId):Option (List AV):=match P.info? t with
 |some i=>match i.zero with|some z=>some (qje z.cells.toList)|none=>none
 |none=>none
def np(P:Program)(t:TypeId)(cs:List AV)(off:Nat):Option AV:=
 match wi P t with
 |some true=>match ef P t with|some n=>bif Nat.ble (off+n) cs.length then some (.agg ((cs.drop off).take n)) else none|none=>none
 |some false=>cs[off]?|none=>none
def fa(cs:List AV)(off:Nat):List AV->List AV|[]=>cs|x::xs=>fa (cs.set off x) (off+1) xs
def tg(place:Nat->Option (Nat×Nat))(cs:List AV):List (Nat×AV)->Option (List AV)
 |[]=>some cs|(i,x)::rest=>match place i with|none=>none|some (off,size)=>bif Nat.beq x.cells.length size&&Nat.ble (off+size) cs.length&&AV.ones x.cells then tg place (fa cs off x.cells) rest else none
def oy(s:St):List (Nat×Operand)->Option (List (Nat×AV))
 |[]=>some []|(i,x)::rest=>match s.ev x with
  |none=>none|some v=>match oy s rest with|none=>none|some vs=>some ((i,v)::vs)
def qis(P:Program):List Field->Option (List (Nat×Nat))
 |[]=>some []|f::fs=>match ef P f.type with
  |none=>none|some n=>match qis P fs with|none=>none|some r=>some ((f.offset,n)::r)
def tw:AV->Bool|.int _ _=>true|.byte _=>true|.bool _=>true|.str _=>true|.sl _ _=>true|_=>false
def allData:List AV->Bool|[]=>true|x::xs=>tw x&&allData xs
def fb(s:St):AV->Option (List AV×Nat)
 |.sl τ l=>some (l.flatMap τ.enc,l.length)|.str b=>some (b.map .byte,b.length)|.val (.slice none 0 0)=>some ([],0)|.own k=>match ae s.hp k with|some (.row τ l _)=>some (l.flatMap τ.enc,l.length)|_=>none
 |.asl b n c=>match ae s.hp b with|some (.cells cs _)=>bif Nat.beq n c&&Nat.beq cs.length n&&allData (cs.map AV.sym) then some (cs.map AV.sym,n) else none|_=>none
 |_=>none
def a7:Nat:=4294967296
def qj3:Nat->List AV|0=>[]|n+1 => .undef::qj3 n
mutual
def vw(b:Bool)(hp:List (Nat×ah)):AV->AV->Option (List Prop)
 |.agg xs,.agg ys=>bj b hp xs ys|.tup xs,.tup ys=>bj b hp xs ys|.fn f xs ys,.fn f' xs' ys'=>match bj b hp xs xs',bj b hp ys ys' with|some ps,some qs=>some ((f'=f)::(ps++qs))|_,_=>none
 |.own k,.sl τ l=>bif b then match ae hp k with|some (.row τ' l' _)=>some [AV.sl τ l=AV.sl τ' l']|_=>none
  else none
 |.val v,.sl _ l=>match v with|.slice none 0 0=>some [l.length=0]|_=>none
 |_,.undef=>some []|.val v,.val u=>some [AV.val u=AV.val v]|.val v,y=>some [y=n7 v]|x,y=>some [y=x]
def bj(b:Bool)(hp:List (Nat×ah)):List AV->List AV->Option (List Prop)
 |[],[]=>some []|x::xs,y::ys=>match vw b hp x y with
  |some ps=>match bj b hp xs ys with|some qs=>some (ps++qs)|none=>none
  |none=>none
 |_,_=>none
end
mutual
def noRef:AV->Bool|.sl _ _=>false|.arr _ _=>false|.rop _=>false|.agg xs=>gw xs|.tup xs=>gw xs|.fn _ xs ys=>gw xs&&gw ys|.iface _ x=>noRef x|_=>true
def gw:List AV->Bool|[]=>true|x::xs=>noRef x&&gw xs
end
def jw:List (Nat×ah)->List Prop|[]=>[]|(_,.cells cs _)::r=>(gw cs=true)::jw r|(_,.row τ l _)::r=>(∀x∈l,gw (τ.enc x)=true)::jw r|(_,.loop _ _ _ _ _ _ _ _)::_=>[False]|(_,.dfr)::r=>jw r|(_,.it _ _)::r=>jw r|(_,.dead)::r=>jw r
mutual
def AV.frz(k:Nat)(y:AV):AV->AV
 |.agg cs => .agg (AV.frzs k y cs)|.tup cs => .tup (AV.frzs k y cs)|.own n=>bif Nat.beq n k then y else .own n|.fn f first cap => .fn f (AV.frzs k y first) (AV.frzs k y cap)
 |.iface t x => .iface t (AV.frz k y x)|.ptr b off => .ptr b off|.oel n sz i off => .oel n sz i off|.osl n sz lo => .osl n sz lo|.asl b n c => .asl b n c|.yld n => .yld n|.pn n => .pn n|.undef => .undef | .int k n => .int k n | .byte c => .byte c | .bool b => .bool b | .str s => .str s | .sl τ l => .sl τ l | .arr τ l => .arr τ l | .rop cs => .rop cs | .val v => .val v
def AV.frzs(k:Nat)(y:AV):List AV->List AV|[]=>[]|x::xs=>AV.frz k y x::AV.frzs k y xs
end
def qit(k:Nat)(y:AV):List (Nat×AV)->List (Nat×AV)|[]=>[]|(n,x)::r=>(n,AV.frz k y x)::qit k y r
def qpf(k:Nat)(y:AV):ah->ah|.cells cs T => .cells (AV.frzs k y cs) T|.loop st pe f n fr ps tag D => .loop st pe f n (qit k y fr) ps tag D|b=>b
def qiu(k:Nat)(y:AV):List (Nat×ah)->List (Nat×ah)|[]=>[]|(n,b)::r=>(n,qpf k y b)::qiu k y r
def St.freeze(s:St)(k:Nat):Option St:=match ae s.hp k with|some (.row τ l _)=>some { s with fr:=qit k (.sl τ l) s.fr,hp:=(k,.dead)::qiu k (.sl τ l) s.hp }|_=>none
open Go.RowKit
def Gh.at(G:Gh)(n:Nat):ah->Option Nat
 |.cells _ _=>G.box n|.row _ _ _=>match G.own n with|some (some a,_,_)=>some a.block|_=>none
 |.loop _ _ _ _ _ _ _ _=>G.box n|.dfr=>G.box n|.it _ _=>G.box n|.dead=>none
def o7(G:Gh)(hp:List (Nat×ah))(b:Nat):Prop:=∃n bx,ae hp n=some bx/\G.at n bx=some b
variable[LC]
def qxx(o:Option Obj)(st:LoopState)(pe:Option du)(f:FuncId)(tmps:Array Value)(ps:List Tmp)(tag DB:Nat):Prop:=
 ∃asn bo,LC.lc tag=some (asn,bo)/\o=some (.loop { state:=st,pending:=pe.map du.code,fn:=f,tmps:=tmps,params:=ps.toArray,assign:=asn,body:=bo,defers:=DB })
def qxx.lt{w:World}{B:Nat}{st:LoopState}{pe:Option du}{f:FuncId}{tmps:Array Value}{ps:List Tmp}{tag DB:Nat}(h:qxx w.heap[B]? st pe f tmps ps tag DB):B<w.heap.size:=by
 obtain⟨_,_,_,h⟩:=h;exact(Array.getElem?_eq_some_iff.1 h).1
def dj(G:Gh)(w:World)(n:Nat):ah->Prop
 |.cells cs T=>∃B vs,G.box n=some B/\w.heap[B]? = some (.cells vs T (0,0))/\al cs G vs.toList/\(∀v∈vs.toList,v.oneCell'=true)/\∀o,G.imm B o=none|.row τ l E=>∃a c,G.own n=some (a,l.length,c) /\
   ((a=none/\l=[]/\c=0)\/∃g vs fz,a=some ⟨g,0,none⟩/\w.heap[g]? = some (.cells vs E fz)/\(fz=(0,0)\/vs.size<=fz.1)/\l.length<=c/\c<=maxLen/\vs.size=c*τ.sz /\
    al (l.flatMap τ.enc) G.data (vs.toList.take (l.length*τ.sz))/\(∀v∈vs.toList,v.oneCell'=true)/\∀o,G.imm g o=none)
 |.loop st pe f m fr ps tag D=>∃B tmps DB,G.box n=some B/\G.box D=some DB/\qxx w.heap[B]? st pe f tmps ps tag DB /\
   tmps.size=m/\(∀i x,ae fr i=some x->∃v,tmps[i]? = some v/\ak x G v)/\∀o,G.imm B o=none
 |.dfr=>∃B,G.box n=some B/\w.heap[B]? = some (.deferred (some []))/\∀o,G.imm B o=none|.it s p=>∃B,G.box n=some B/\w.heap[B]? = some (.stringIter ⟨s.toArray⟩ p)/\∀o,G.imm B o=none|.dead=>True
structure cn(G:Gh)(hp:List (Nat×ah))(w:World):Prop where
 agree:∀b o v,G.imm b o=some v->w.cell? ⟨b,o,none⟩=some v
 one:∀b o v,G.imm b o=some v->v.oneCell'=true
 holds:∀n bx,ae hp n=some bx->dj G w n bx
 apart:∀n m bx bx' b,ae hp n=some bx->ae hp m=some bx'->G.at n bx=some b->G.at m bx'=some b->n=m
 tab:LC.tab G.imm w
structure ei(S:Nat->Prop)(w w':World):Prop where
 os:w'.os=w.os
 tape:w'.tape=w.tape
 output:w'.output=w.output
 size:w.heap.size<=w'.heap.size
 block:∀k,k<w.heap.size->¬S k->w'.heap[k]? = w.heap[k]?
def fe(w:World)(E:TypeId)(sz:Nat)(ad:Option Addr)(n c:Nat)(us:List Value):Prop:=
 us.length=n*sz/\((ad=none/\n=0/\c=0)\/∃g vs fz,ad=some ⟨g,0,none⟩/\w.heap[g]? = some (.cells vs E fz)/\(fz=(0,0)\/vs.size<=fz.1)/\n<=c/\c<=maxLen/\vs.size=c*sz/\vs.toList.take (n*sz)=us/\(∀v∈vs.toList,v.oneCell'=true))
def cv:Option Addr->Option Nat|some a=>some a.block|none=>none
structure Fin(vj6:World)(vj1:Gh)(vj3:List (Nat×ah))(G:Gh)(hp:List (Nat×ah))(w:World):Prop where
 mem:cn G hp w
 bel:ei (o7 vj1 vj3) vj6 w
 imm_le:∀b o v,vj1.imm b o=some v->G.imm b o=some v
 imm_new:∀b o v,G.imm b o=some v->vj1.imm b o=some v\/vj6.heap.size<=b\/o7 vj1 vj3 b
 base:∀n bx b,ae hp n=some bx->G.at n bx=some b->vj6.heap.size<=b\/o7 vj1 vj3 b
 keep:∀n bx B,ae vj3 n=some bx->vj1.box n=some B->G.box n=some B
 keepOwn:∀n bx v,ae vj3 n=some bx->vj1.own n=some v->G.own n=some v
structure aj(vj6:World)(vj1:Gh)(vj3:List (Nat×ah))(G:Gh)(s:St)(a:Act)(w:World):Prop where
 defers:∃bs:List Nat,a.defers=bs.map (fun b=>{ target := .collected b,args:=#[] })/\bs.map some=s.df.map G.box
 size:a.tmps.size=s.n
 frame:∀i x,ae s.fr i=some x->∃v,a.tmps[i]? = some v/\ak x G v
 fresh:∀m,s.nx<=m->ae s.hp m=none->G.box m=none/\G.own m=none
 fin:Fin vj6 vj1 vj3 G s.hp w
def ng(vj6:World)(vj1:Gh)(vj3:List (Nat×ah))(r:AV)(hp:List (Nat×ah))(e:Ending)(w:World):Prop:=
 ∃v G,e = .returned v/\Fin vj6 vj1 vj3 G hp w/\ak r G v
def dd(P:Program)(f:FuncId)(xs:List AV)(hp:List (Nat×ah))(r:AV)(hp':List (Nat×ah)):Prop:=
 ∀(w:World)(G:Gh)(vs:List Value),cn G hp w->al xs G vs->Calls P f vs.toArray w (ng w G hp r hp')
def ta(P:Program)(f:FuncId):Prop:=∀(args:Array Value)(w:World),(callFunc f args).run P w = .ok (.enter f args) w
def ob(ρ:Nat->Option Nat):List (Nat×AV)->List (Nat×AV)|[]=>[]|(i,x)::r=>(i,x.ren ρ)::ob ρ r
def dy(ρ:Nat->Option Nat):ah->ah
 |.cells cs T => .cells (AV.rens ρ cs) T|.row τ l E => .row τ l E|.loop st pe f n fr ps tag D=>match ρ D with|some D' => .loop st pe f n (ob ρ fr) ps tag D'|none => .dead
 |.dfr => .dfr|.it s p => .it s p|.dead => .dead
def shift(hp:List (Nat×ah))(k:Nat)(n:Nat):Option Nat:=match ae hp n with|some _=>some (k+n)|none=>none
def l5(ρ:Nat->Option Nat)(k:Nat):List (Nat×ah)->List (Nat×ah)|[]=>[]|(n,b)::r=>(k+n,dy ρ b)::l5 ρ k r
def ah.noLoop:ah->Bool|.loop _ _ _ _ _ _ _ _=>false|.dfr=>false|.it _ _=>false|_=>true
def rt(m:Nat):List (Nat×ah)->Bool|[]=>true|(n,b)::r=>Nat.blt n m&&b.noLoop&&rt m r
def a8(lo:Nat):List (Nat×ah)->Bool|[]=>true|(n,_)::r=>(Nat.blt n lo||Nat.ble (lo+32) n)&&a8 lo r
def qh2(P:Program)(s:St)(t:TypeId)(x:Operand)(d:D):Option (List Prop×AV):=
 match s.ev x with
 |some (.ptr b off)=>match ae s.hp b with
  |some (.cells cs _)=>match np P t cs off with|some v=>some ([],v)|none=>none
  |_=>none
 |some (.rop cs)=>match np P t cs 0 with|some v=>some ([],v)|none=>none
 |some (.oel k sz i off)=>match ae s.hp k,d with
  |some (.row τ l _),.cs cs=>bif Nat.beq sz τ.sz then match np P t cs off with|some v=>some ([∃x,l[i]? = some x/\τ.enc x=cs],v)|none=>none
   else none
  |_,_=>none
 |_=>none
def cut{α:Type}(l:List α)(lo hi:Option Int):List Prop×List α:=
 match lo,hi with|none,none=>([],l)|some a,none=>([0<=a/\a<=l.length],l.drop a.toNat)|none,some b=>([0<=b/\b<=l.length],l.take b.toNat)|some a,some b=>([0<=a/\a<=b/\b<=l.length],(l.drop a.toNat).take (b.toNat-a.toNat))
def iw(s:St):Option Operand->Option (Option Int)
 |none=>some none|some x=>match s.evy x with|some (.int _ n)=>some (some n)|some (.byte c)=>some (some c.toNat)|_=>none
def qh3(P:Program)(s:St)(t:TypeId)(x:Operand)(lo hi mx:Option Operand):Option (List Prop×AV):=
 match mx,iw s lo,iw s hi,s.ev x with
 |none,some a,some b,some (.str l)=>match P.underlying t with|some .string=>some ((cut l a b).1,.str (cut l a b).2)|_=>none
 |none,some a,some b,some (.sl τ l)=>match P.underlying t with
  |some (.slice E)=>match ef P E with|some sz'=>bif Nat.beq τ.sz sz' then some ((cut l a b).1,.sl τ (cut l a b).2) else none|none=>none
  |_=>none
 |none,some none,some none,some (.ptr b 0)=>match P.underlying t with
  |some (.array n E)=>match ef P E with|some _=>some ([],.asl b n n)|none=>none
  |_=>none
 |_,_,_,_=>none
def oc(n:Int):List UInt8:=(Utf8.encode n).data.toList
def pt(l:List Int):List UInt8:=l.flatMap oc
def qh4(P:Program)(s:St)(src:TypeId)(x:AV)(d:D):Option (List Prop×AV):=
 match P.underlying src,fb s x,d with
 |some (.slice E),some (flat,n),.cs [.str b]=>match P.underlying E,x with|some (.int .u8),.str _=>none|some (.int .u8),_=>some ([flat=b.map AV.byte,n=b.length],.str b)|_,_=>none
 |some (.slice E),some (flat,n),.cs [.sl (.int .i32) l]=>match P.underlying E,x with|some (.int .i32),.str _=>none|some (.int .i32),_=>some ([flat=List.flatMap (β:=AV) (Ty.int .i32).enc l,n=List.length l],.str (pt l))|_,_=>none
 |_,_,_=>none
def qb5(P:Program)(s:St)(T:TypeId)(parts:List (Nat×Operand)):Option (List Prop×AV):=
 match wj P T,oy s parts with
 |some z,some ps=>match P.underlying T with
  |some (.struct fs)=>match qis P fs.toList with
   |some places=>match tg (fun i=>places[i]?) z ps with|some cs=>some ([],.agg cs)|none=>none
   |none=>none
  |some (.array _ e)=>match ef P e with
   |some sz=>match tg (fun i=>some (i*sz,sz)) z ps with|some cs=>some ([],.agg cs)|none=>none
   |none=>none
  |_=>none
 |_,_=>none
def qg(P:Program)(dst:TypeId)(x:AV):Option (List Prop×AV):=
 match P.underlying dst,x with|some (.int k),.int _ n=>bif decide (k = .u8) then some ([],.byte (gl n)) else some ([],.int k (k.wrap n))|some (.int k),.byte c=>bif decide (k = .u8) then some ([],.byte c) else bif decide (k = .i8) then none else some ([],.int k c.toNat)|some .string,.str l=>some ([],.str l)|_,_=>none
def vc(P:Program)(dst:TypeId)(x:AV):Option (List Prop×AV):=
 match x with
 |.val (.int _ _)=>match qg P dst x.sym with|some ([],r)=>some ([],qzb r)|r=>r
 |x=>qg P dst x.sym
def qno(P:Program)(t:TypeId)(x:AV)(f:Nat):Option (List Prop×AV):=
 match P.underlying t,x with
 |some (.struct fs),.agg cs=>match fs[f]? with
  |some fd=>match np P fd.type cs fd.offset with|some v=>some ([],v)|none=>none
  |none=>none
 |_,_=>none
def qnp(P:Program)(t:TypeId)(x:AV)(f:Nat):Option (List Prop×AV):=
 match P.underlying t with
 |some (.struct fs)=>match fs[f]? with
  |some fd=>match ef P fd.type with
   |some sz=>bif Nat.beq sz 0 then none else match x with|.ptr b off=>some ([],.ptr b (off+fd.offset))|.rop cs=>bif Nat.ble fd.offset cs.length then some ([],.rop (cs.drop fd.offset)) else none|.oel k sz i off=>some ([],.oel k sz i (off+fd.offset))|_=>none
   |none=>none
  |none=>none
 |_=>none
def qh0(P:Program)(t:TypeId)(x i:AV)(d:D):Option (List Prop×AV):=
 match P.underlying t,x,i,d with
 |some .string,.str b,.int _ n,.cs [.byte c]=>some ([0<=n/\b[n.toNat]? = some c],.byte c)|some .string,.str b,.byte n,.cs [.byte c]=>some ([b[n.toNat]? = some c],.byte c)|some (.array len E),.agg cs,.int _ n,.cs [x]=>match wi P E,ef P E with|some false,some 1=>bif Nat.beq cs.length len then some ([0<=n/\(cs.map AV.sym)[n.toNat]? = some x],x) else none|_,_=>none
 |_,_,_,_=>none
def qb7(P:Program)(s:St)(t:TypeId)(x i:AV)(d:D):Option (List Prop×AV):=
 match P.underlying t with
 |some (.slice E)=>match ef P E,i with
  |some sz',.int _ n=>match x,d with
   |.sl τ l,.cs cs=>bif Nat.beq τ.sz sz' then some ([0<=n/\∃x,l[n.toNat]? = some x/\τ.enc x=cs],.rop cs) else none|.own k,_=>match ae s.hp k with|some (.row τ l _)=>bif Nat.beq τ.sz sz' then some ([0<=n/\n.toNat<l.length],.oel k τ.sz n.toNat 0) else none|_=>none
   |.asl b m _,_=>some ([0<=n/\n.toNat<m],.ptr b (n.toNat*sz'))|_,_=>none
  |_,_=>none
 |some (.array len E)=>match ef P E,i,x with|some sz,.int _ n,.ptr b off=>some ([0<=n/\n<len],.ptr b (off+n.toNat*sz))|_,_,_=>none
 |_=>none
def qh1(P:Program)(s:St)(t:TypeId)(x:AV):Option (List Prop×AV):=
 match P.underlying t,x with
 |some .string,.str b=>some ([],.int .i64 b.length)|some (.slice _),.sl _ l=>some ([],.int .i64 l.length)|some (.slice _),.own k=>match ae s.hp k with|some (.row _ l _)=>some ([],.int .i64 l.length)|_=>none
 |some (.slice _),.val (.slice none 0 0)=>some ([],.int .i64 0)|some (.slice _),.asl _ n _=>some ([],.val (.int .i64 n))|_,_=>none
def qya(x y:AV):Option (List Prop×AV):=match x,y with|.int k a,.int k' b=>bif decide (k=k') then some ([],.int k (if b>a then b else a)) else none|_,_=>none
def qyb(x y:AV):Option (List Prop×AV):=match x,y with|.int k a,.int k' b=>bif decide (k=k') then some ([],.int k (if b<a then b else a)) else none|_,_=>none
def zc1:AV->Bool|.ptr _ _=>true|.rop _=>true|.oel _ _ _ _=>true|_=>false
def de(P:Program)(s:St)(d:D)(op:Op):Option (List Prop×AV):=
 match op with
 |.move x=>match s.ev x with|some v=>some ([],v)|none=>none
 |.assign x=>match s.ev x with|some v=>some ([],v)|none=>none
 |.pick c x y=>match s.ev c,d with
  |some (.bool b),.b t=>match s.ev (bif t then x else y) with|some v=>some ([b=t],v)|none=>none
  |some (.val (.bool b)),_=>match s.ev (bif b then x else y) with|some v=>some ([],v)|none=>none
  |_,_=>none
 |.build T parts=>qb5 P s T parts.toList|.load t x=>qh2 P s t x d|.slice t x lo hi mx=>qh3 P s t x lo hi mx|.binOp op t x y _=>match s.ev x,s.ev y with|some a,some b=>qnr P op t a b|_,_=>none
 |.unOp op _ x=>match s.ev x with
  |some a=>match aun op a with|some v=>some ([],v)|none=>none
  |none=>none
 |.convert src dst x=>match P.underlying src,s.ev x with
  |some _,some v=>match vc P dst v with
   |some r=>some r|none=>match P.underlying dst with|some .string=>qh4 P s src v d|_=>none
  |_,_=>none
 |.field t x f=>match s.ev x with|some v=>qno P t v f|none=>none
 |.fieldAddr t x f=>match s.ev x with|some v=>qnp P t v f|none=>none
 |.extract x i=>match s.ev x with
  |some (.tup vs)=>match vs[i]? with|some v=>some ([],v)|none=>none
  |_=>none
 |.index t x i=>match s.ev x,s.evy i with|some v,some j=>qh0 P t v j d|_,_=>none
 |.indexAddr t x i=>match s.ev x,s.evy i with|some v,some j=>qb7 P s t v j d|_,_=>none
 |.makeFunc f first cap=>match s.evs first.toList,s.evs cap.toList with|some fs,some cs=>some ([],.fn f fs cs)|_,_=>none
 |.call { callee := .builtin .len,args,argTypes }=>match args.toList,argTypes.toList with
  |[x],[t]=>match s.ev x with|some v=>qh1 P s t v|none=>none
  |_,_=>none
 |.call { callee := .builtin .max,args,argTypes:=_ }=>match args.toList with
  |[x,y]=>match s.evy x,s.evy y with|some a,some b=>qya a b|_,_=>none
  |_=>none
 |.call { callee := .builtin .min,args,argTypes:=_ }=>match args.toList with
  |[x,y]=>match s.evy x,s.evy y with|some a,some b=>qyb a b|_,_=>none
  |_=>none
 |.nilCheck x=>match s.ev x with|some v=>bif zc1 v then some ([],v) else none|none=>none
 |_=>none
def mb(P:Program)(E:TypeId):Bool:=match P.info? E with
 |some i=>match i.zero with|some z=>Nat.beq z.cells.size i.size&&Nat.blt 0 i.size&&Nat.ble i.bytes 32768&&z.cells.toList.all (·.oneCell')|none=>false
 |none=>false
def zk(P:Program)(t:TypeId):Bool:=match P.underlying t with|some (.int _)=>false|some _=>true|none=>false
def nk(P:Program)(s:St)(d:D)(t t2:TypeId)(old:List AV)(n:Nat)(y:AV):Option (List Prop×ah):=
 match P.underlying t,d with
 |some (.slice E),.row (.row τ l E')=>match ef P E,fb s y with
  |some sz',some (flat,m)=>bif Nat.beq τ.sz sz'&&Nat.beq E E'&&mb P E&&zk P t2 then
    some ([l.flatMap τ.enc=old++flat,l.length=n+m,l.length<=a7],.row τ l E') else none
  |_,_=>none
 |_,_=>none
def vb(P:Program)(s:St)(d:D)(t:TypeId)(len:Nat)(parts:List (Nat×Operand)):Option (List Prop×ah):=
 match P.underlying t,d with
 |some (.slice E),.row (.row τ l E')=>match ef P E,oy s parts with
  |some sz',some ps=>match tg (fun i=>some (i*sz',sz')) (qj3 (len*sz')) ps with
   |some cs=>bif Nat.beq τ.sz sz'&&Nat.beq E E'&&mb P E&&Nat.ble (len*τ.sz) 16777216&&AV.ones cs then
     match bj false [] cs (l.flatMap τ.enc) with
     |some ps=>some (ps++[l.length=len,AV.rens (fun _=>none) cs=cs],.row τ l E')
     |none=>none
    else none
   |none=>none
  |_,_=>none
 |_,_=>none
def qb6(P:Program)(s:St)(d:D)(t:TypeId)(len:Nat)(parts:List (Nat×Operand)):Option (List AV×TypeId):=
 match P.underlying t,d with
 |some (.slice E),.b true=>match ef P E,oy s parts with
  |some sz,some ps=>match tg (fun i=>some (i*sz,sz)) (qj3 (len*sz)) ps with|some cs=>bif mb P E&&Nat.blt 0 len&&Nat.ble (len*sz) 16777216&&AV.ones cs then some (cs,E) else none|none=>none
  |_,_=>none
 |_,_=>none
def ip(P:Program)(s:St)(d:D)(o:Oper):Option (List Prop×AV×List (Nat×ah)):=
 match o.op,o.dst with
 |.alloc T,some t=>match wj P T with|some cs=>bif AV.ones cs&&a8 (s.nx+32*t) s.hp then some ([],.ptr (s.nx+32*t) 0,[(s.nx+32*t,.cells cs T)]) else none|none=>none
 |.box T x,some t=>match s.ev x with|some v=>bif AV.ones v.cells&&a8 (s.nx+32*t) s.hp then some ([],.ptr (s.nx+32*t) 0,[(s.nx+32*t,.cells v.cells T)]) else none|none=>none
 |.call { callee := .value g,args,argTypes:=_ },some t=>match s.ev g,s.evs args.toList,d with
  |some (.fn (.func f) [] cap),some xs,.res b xs' r hp'=>match bj b s.hp (xs++cap) xs' with
   |some ps=>bif rt 32 hp'&&a8 (s.nx+32*t) s.hp&&(!b||noRef r) then
     some (ta P f::dd P f xs' [] r hp'::(ps++(bif b then jw hp' else[])),AV.ren (shift hp' (s.nx+32*t)) r,l5 (shift hp' (s.nx+32*t)) (s.nx+32*t) hp') else none
   |none=>none
  |_,_,_=>none
 |.call { callee := .builtin .append,args,argTypes },some tt=>match args.toList,argTypes.toList with
  |[x,y],[t,t2]=>match s.ev x,s.ev y with
   |some (.val (.slice none 0 0)),some v=>match nk P s d t t2 [] 0 v with|some (ps,b)=>bif a8 (s.nx+32*tt) s.hp then some (ps,.own (s.nx+32*tt),[(s.nx+32*tt,b)]) else none|none=>none
   |_,_=>none
  |_,_=>none
 |.buildSlice t len parts,some tt=>match vb P s d t len parts.toList with
  |some (ps,b)=>bif a8 (s.nx+32*tt) s.hp then some (ps,.own (s.nx+32*tt),[(s.nx+32*tt,b)]) else none|none=>match qb6 P s d t len parts.toList with|some (cs,E)=>bif a8 (s.nx+32*tt) s.hp then some ([],.asl (s.nx+32*tt) len len,[(s.nx+32*tt,.cells cs E)]) else none|none=>none
 |.convert src dst x,some tt=>match P.underlying src,P.underlying dst,s.ev x with
  |some _,some (.slice E),some (.str b)=>match P.underlying E with|some (.int .u8)=>bif a8 (s.nx+32*tt) s.hp then some ([b.length<=maxLen],.own (s.nx+32*tt),[(s.nx+32*tt,.row .byte b E)]) else none|_=>none
  |_,_,_=>none
 |_,_=>none
def e8(P:Program)(s:St)(d:D)(o:Oper):Option (List Prop×AV×List (Nat×ah)):=
 match de P s d o.op with|some (ps,v)=>some (ps,v,[])|none=>ip P s d o
def St.add(s:St)(dst:Option Tmp)(v:AV)(new:List (Nat×ah)):Option St:=
 match dst with|none=>some { s with hp:=new++s.hp }|some d=>bif Nat.blt d s.n then some { s with fr:=(d,v)::s.fr,hp:=new++s.hp } else none
def r7(hp:List (Nat×ah))(n:Nat)(b:ah):List (Nat×ah):=(n,b)::hp
def a6:List (Nat×Nat)->Nat->Option Nat|[],_=>none|(k,v)::r,i=>bif Nat.beq k i then some v else a6 r i
def nz:List (Nat×Nat)->Nat->Option Nat|[],_=>none|(k,v)::r,i=>bif Nat.beq v i then some k else nz r i
def ax(names:List (Nat×Nat))(n:Nat):Option Nat:=
 match nz names n with
 |some m=>match a6 names m with|some n'=>bif Nat.beq n' n then some m else none|none=>none
 |none=>none
def io(ρ:Nat->Option Nat)(hp:List (Nat×ah)):List (Nat×Nat)->Option (List (Nat×ah))
 |[]=>some []|(m,n)::r=>match ae hp n,io ρ hp r with|some b,some l=>some ((m,dy ρ b)::l)|_,_=>none
def d7:List (Nat×Nat)->Bool|[]=>true|(_,n)::r=>(match nz r n with|some _=>false|none=>true)&&d7 r
def qt:List (Nat×Nat)->Bool|[]=>true|(m,_)::r=>(match a6 r m with|some _=>false|none=>true)&&qt r
def qab(fr:List (Nat×AV)):List (Nat×AV)->Option (List Prop)
 |[]=>some []|(i,y)::r=>match ae fr i with
  |some x=>match vw false [] x y,qab fr r with|some ps,some qs=>some (ps++qs)|_,_=>none
  |none=>none
def wt:ah->ah->Option (List Prop)
 |_,.dead=>some []|.cells xs T,.cells ys T'=>bif Nat.beq T T' then bj false [] xs ys else none|.row τ l E,b=>some [b = .row τ l E]|.loop st pe f n fr ps tag D,.loop st' pe' f' n' fr' ps' tag' D'=>match qab fr fr' with|some qs=>some (([st'=st,pe'=pe,f'=f,n'=n,ps'=ps,tag'=tag,D'=D]:List Prop)++qs)|none=>none
 |.dfr,.dfr=>some []|.it s p,.it s' p'=>some [s'=s,p'=p]|_,_=>none
def jt:List (Nat×ah)->List (Nat×ah)->Option (List Prop)
 |[],[]=>some []| (n,b)::r,(n',b')::r'=>bif Nat.beq n n' then(match wt b b',jt r r' with
   |some ps,some qs=>some (ps++qs)| _,_=>none) else none
 |_,_=>none
def ld(names:List (Nat×Nat))(hp:List (Nat×ah))(base:Nat)(n:Nat):Option Nat:=
 match a6 names n with
 |some old=>some old|none=>match ae hp n with|some _=>bif Nat.blt n 32 then some (base+n) else none|none=>none
def lf(ρ:Nat->Option Nat):List (Nat×ah)->List (Nat×ah)
 |[]=>[]|(n,b)::r=>match ρ n with|some m=>(m,dy ρ b)::lf ρ r|none=>lf ρ r
def mj:List (Nat×Nat)->List (Nat×ah)|[]=>[]|(_,n)::r=>(n,.dead)::mj r
def q76(P:Program)(m:Nat)(xs:List AV)(hp:List (Nat×ah))(r:AV)(hp':List (Nat×ah)):Prop:=
 ∀(w:World)(G:Gh)(vs:List Value)(B:Nat),cn G hp w->al xs G vs->G.box m=some B->∃lp:Loop,w.heap[B]? = some (.loop lp) /\
  ∀(c:Frame)(cs:List Frame),vs.length=lp.params.size/\∃v w',ng w G hp r hp' (.returned v) w' /\
   Steps P (lone (Frame.round B lp.fn ((lp.params.zip vs.toArray).foldl (fun tmps(t,a)=>tmps.setIfInBounds t a) lp.tmps) lp.assign lp.body .normal) (c::cs) w) (lone (c.finish v) cs w')
def vt(s:St)(q:Prop)(ys:List AV)(names:List (Nat×Nat))(xs:List AV)(hp:List (Nat×ah))(r:AV)(hp':List (Nat×ah))(t:Nat):Option (List Prop×St):=
 bif d7 names&&qt names&&a8 (s.nx+32*t) s.hp&&Nat.blt t s.n then
  match io (ax names) s.hp names,bj false [] (AV.rens (ax names) ys) xs with
  |some hpv,some ps1=>match jt hpv hp with
   | some ps2=>some (q::(ps1++ps2),{ s with
     fr:=(t,r.ren (ld names hp' (s.nx+32*t)))::s.fr,
     hp:=lf (ld names hp' (s.nx+32*t)) hp'++(mj names++s.hp) })
   |none=>none
  |_,_=>none
 else none
def ox(P:Program)(s:St)(d:D)(o:Oper):Option (List Prop×St):=
 match o.op with
 |.store t x y=>match s.ev x,s.ev y,ef P t,o.dst with
  |some (.ptr b off),some v,some n,none=>match ae s.hp b with
   |some (.cells cs T)=>bif Nat.beq v.cells.length n&&AV.ones v.cells&&Nat.ble (off+n) cs.length then
     some ([],{ s with hp:=r7 s.hp b (.cells (fa cs off v.cells) T) }) else none
   |_=>none
  |some (.oel k sz i off),some v,some n,none=>match ae s.hp k,d with
   |some (.row τ0 l0 E0),.put ys (.row τ l E)=>bif Nat.beq v.cells.length n&&AV.ones v.cells&&Nat.beq sz τ0.sz&&Nat.beq τ.sz τ0.sz&&Nat.beq E E0 then
     match bj false [] v.cells ys with
     |some ps=>some (ps++[i*sz+off+n<=l0.length*sz,l.flatMap τ.enc=fa (l0.flatMap τ0.enc) (i*sz+off) ys,l.length=l0.length,AV.rens (fun _=>none) v.cells=v.cells],{ s with hp:=r7 s.hp k (.row τ l E) })
     |none=>none
    else none
   |_,_=>none
  |_,_,_,_=>none
 |.call { callee := .builtin .append,args,argTypes }=>match args.toList,argTypes.toList,o.dst with
  |[x,y],[t,t2],some tt=>match s.ev x,s.ev y with
   |some (.own k),some v=>match ae s.hp k with
    |some (.row τ0 l0 E0)=>match nk P s d t t2 (l0.flatMap τ0.enc) l0.length v with
     |some (ps,.row τ l E)=>bif a8 (s.nx+32*tt) s.hp&&Nat.beq τ.sz τ0.sz&&Nat.beq E E0&&Nat.blt tt s.n then
       some (ps,{ s with fr:=(tt,.own (s.nx+32*tt))::s.fr,hp:=(s.nx+32*tt,.row τ l E)::(k,.dead)::s.hp }) else none
     |_=>none
    |_=>none
   |_,_=>none
  |_,_,_=>none
 |.call { callee := .value g,args,argTypes:=_ }=>match s.ev g,s.evs args.toList,d,o.dst with
  |some (.fn (.func f) [] cap),some ys,.mem names xs hp r hp',some t=>vt s (ta P f/\dd P f xs hp r hp') (ys++cap) names xs hp r hp' t|some (.yld m),some ys,.mem names xs hp r hp',some t=>match ax names m with|some m'=>vt s (q76 P m' xs hp r hp') ys names xs hp r hp' t|none=>none
  |_,_,_,_=>none
 |_=>none
def qq0(n:Nat)(h:n<256:=by omega):(UInt8.ofNat n).toNat=n:=by simp[UInt8.toNat_ofNat'];omega
def qqg(G:Gh)(c:Value):ak (n7 c) G c:=by
 cases c with
 |int k n=>
  cases k<;>try rfl
  simp only[n7];by_cases h:decide (0<=n)&&decide (n<256)
  ·rw[h];simp only[qA,decide_eq_true_eq]at h;simp only[qT,ak];rw[qq0 _]
   congr 1;omega
  ·simp only[Bool.not_eq_true]at h;rw[h];rfl
 |string s=>simp only[n7,ak]|_=>rfl
def zt4(G:Gh)(c:Value):ak (ofC c) G c:=by
 cases c<;>first|rfl|exact qqg G _
def g7{G:Gh}{x:AV}{v:Value}(h:ak x G v):ak x.sym G v:=by
 cases x<;>try exact h
 simp only[ak]at h;subst h;exact qqg G _
def zee{G:Gh}{x:AV}{v:Value}(h:ak x G v):ak (qzb x) G v:=by
 cases x<;>exact h
def zem(G:Gh):∀(l:List Value),al (qje l) G l|[]=>trivial|v::vs=>⟨qqg G v,zem G vs⟩
def zef{G:Gh}{x:AV}{v:Value}(h:ak x G v)(hx:x.one'=true):v.oneCell'=true:=by
 cases x<;>simp only[AV.one',wJ]at hx<;>simp only[ak]at h
 case int=>subst h;rfl
 case byte=>subst h;rfl
 case bool=>subst h;rfl
 case str=>subst h;rfl
 case sl=>obtain⟨_,_,h,_⟩:=h;subst h;rfl
 case yld=>obtain⟨_,_,h⟩:=h;subst h;rfl
 case pn=>obtain⟨_,_,h|h⟩:=h<;>subst h<;>rfl
 case ptr=>obtain⟨_,_,h⟩:=h;subst h;rfl
 case rop=>obtain⟨_,_,h,_⟩:=h;subst h;rfl
 case own=>obtain⟨_,_,_,_,h⟩:=h;subst h;rfl
 case asl=>obtain⟨_,_,_,h⟩:=h;subst h;rfl
 case oel=>obtain⟨_,_,_,_,h⟩:=h;subst h;rfl
 case osl=>obtain⟨_,_,_,_,_,h⟩:=h;subst h;rfl
 case val u=>subst h;cases v<;>first|rfl|cases hx
 case fn=>obtain⟨_,_,h,_⟩:=h;subst h;rfl
 case iface=>obtain⟨_,h,_⟩:=h;subst h;rfl
def od{G:Gh}:∀{xs:List AV}{vs:List Value},al xs G vs->AV.ones xs=true->∀v∈vs,v.oneCell'=true
 |[],[],_,_=>by simp|x::xs,v::vs,h,ho=>by
  simp only[AV.ones,qA]at ho;intro u hu;rcases List.mem_cons.1 hu with rfl|hu
  ·exact zef h.1 ho.1
  ·exact od h.2 ho.2 u hu
 |[],_::_,h,_=>h.elim|_::_,[],h,_=>h.elim
def jy{G:Gh}:∀{xs:List AV}{vs:List Value},al xs G vs->∀{i:Nat}{x:AV},xs[i]? = some x->∃v,vs[i]? = some v/\ak x G v
 |[],[],_,i,x,hx=>by simp at hx|x::xs,v::vs,h,i,y,hy=>by
  cases i with|zero=>simp at hy;subst hy;exact⟨v,rfl,h.1⟩|succ i=>simp only[List.getElem?_cons_succ]at hy ⊢;exact jy h.2 hy
 |[],_::_,h,_,_,_=>h.elim|_::_,[],h,_,_,_=>h.elim
def qdp{G:Gh}:∀{xs:List AV}{vs:List Value}(n:Nat),al xs G vs->al (xs.take n) G (vs.take n)|_,_,0,_=>by simp[al]|[],[],n+1,_=>by simp[al]|x::xs,v::vs,n+1,h=>⟨h.1,qdp n h.2⟩|[],_::_,_+1,h=>h.elim|_::_,[],_+1,h=>h.elim
def qjk{G:Gh}:∀{xs:List AV}{vs:List Value}(n:Nat),al xs G vs->al (xs.drop n) G (vs.drop n)|_,_,0,h=>h|[],[],n+1,_=>by simp[al]|x::xs,v::vs,n+1,h=>qjk (xs:=xs) (vs:=vs) n h.2|[],_::_,_+1,h=>h.elim|_::_,[],_+1,h=>h.elim
def we{G:Gh}:∀{xs ys:List AV}{vs us:List Value},al xs G vs->al ys G us->al (xs++ys) G (vs++us)|[],_,[],_,_,h=>h|_x::_xs,_,_v::_vs,_,h,k=>⟨h.1,we h.2 k⟩|[],_,_::_,_,h,_=>h.elim|_::_,_,[],_,h,_=>h.elim
def qjl{G:Gh}:∀{xs:List AV}{vs:List Value}{x:AV}{v:Value}(i:Nat),al xs G vs->ak x G v->al (xs.set i x) G (vs.set i v)|[],[],_,_,_,_,_=>by simp[al]|_::_,_::_,_,_,0,h,hx=>⟨hx,h.2⟩|_::_,_::_,_,_,i+1,h,hx=>⟨h.1,qjl i h.2 hx⟩|[],_::_,_,_,_,h,_=>h.elim|_::_,[],_,_,_,h,_=>h.elim
def ak.le{x:AV}{G G':Gh}{v:Value}(h:ak x G v)(hle:G.le G'):ak x G' v:=by
 have:=ak.ren (ρ:=some) (x:=x) hle.imm (fun n n' B e h=>by injection e with e;subst e;exact hle.box _ _ h) (fun n n' B e h=>by injection e with e;subst e;exact hle.own _ _ h) h
 rwa [AV.ren_some]at this
def al.le{x:List AV}{G G':Gh}{v:List Value}(h:al x G v)(hle:G.le G'):al x G' v:=by
 have:=al.ren (ρ:=some) (xs:=x) hle.imm (fun n n' B e h=>by injection e with e;subst e;exact hle.box _ _ h) (fun n n' B e h=>by injection e with e;subst e;exact hle.own _ _ h) h
 rwa [AV.rens_some]at this
section
variable{P:Program}{vj6:World}{vj1:Gh}{vj3:List (Nat×ah)}{G:Gh}{s:St}{a:Act}{w:World}
def bm(hr:aj vj6 vj1 vj3 G s a w){x:Operand}{v:AV}(h:s.ev x=some v):ak v G (a.eval x):=by
 cases x with
 |tmp t=>
  obtain⟨u,h1,h2⟩:=hr.frame t v h;have:a.eval (.tmp t)=u:=by simp[Act.eval,Array.getD_eq_getD_getElem?,h1]
  rw[this];exact h2
 |const c=>simp only[St.ev,qI]at h;subst h;exact zt4 G c|func f=>simp only[St.ev,qI]at h;subst h;exact⟨#[],#[],rfl,trivial,trivial⟩|global g=>cases h
def je(hr:aj vj6 vj1 vj3 G s a w){x:Operand}{v:AV}(h:s.evy x=some v):ak v G (a.eval x):=by
 unfold St.evy at h;split at h
 ·rename_i u hu;simp only[qI]at h;subst h;exact g7 (bm hr hu)
 ·cases h
def y6(hr:aj vj6 vj1 vj3 G s a w):∀{xs:List Operand}{vs:List AV},s.evs xs=some vs->al vs G (xs.map a.eval)
 |[],vs,h=>by simp only[St.evs,qI]at h;subst h;trivial|x::xs,vs,h=>by
  simp only[St.evs]at h;split at h
  ·cases h
  ·rename_i v hv;split at h
   ·cases h
   ·rename_i us hus;simp only[qI]at h;subst h;exact⟨bm hr hv,y6 hr hus⟩
def q77(P:Program)(G:Gh)(a:Act)(w:World)(o:Oper)(v:AV):Prop:=∃u,(execOp a.eval o).run P w = .ok (.value u) w/\ak v G u
def bn{t:TypeId}{d:TypeDesc}(h:P.underlying t=some d)(w:World):(underlying t).run P w = .ok d w:=by
 simp[underlying,h]
def wg{t:TypeId}{d:TypeInfo}(h:P.info? t=some d)(w:World):(typeInfo t).run P w = .ok d w:=by
 simp[typeInfo,h]
def gg{t:TypeId}{n:Nat}(h:ef P t=some n)(w:World):(Go.sizeOf t).run P w = .ok n w:=by
 unfold ef at h
 cases hi:P.info? t with
 |none=>rw[hi]at h;cases h
 |some i=>rw[hi]at h;simp at h;subst h;simp[Go.sizeOf,wg hi]
def zw{t:TypeId}{b:Bool}(h:wi P t=some b)(w:World):(isAgg t).run P w = .ok b w:=by
 unfold wi at h;split at h<;>simp at h<;>subst h
 ·rename_i hu;simp[isAgg,bn hu]
 ·rename_i hu;simp[isAgg,bn hu]
 ·rename_i d h1 h2 hu;simp[isAgg,bn hu]
def qqr{t:TypeId}{cs:List AV}(h:wj P t=some cs)(w:World)(G:Gh):∃z,(zeroValue t).run P w = .ok z w/\al cs G z.cells.toList:=by
 unfold wj at h;split at h
 ·rename_i i hi;split at h
  ·rename_i z hz;simp at h;subst h;exact⟨z,by simp[zeroValue,wg hi,hz],zem G _⟩
  ·cases h
 ·cases h
def q2c(b o:Nat):∀(vs:List Value)(i:Nat)(acc:Array Value),(∀j v,vs[j]? = some v->w.cell? ⟨b,o+i+j,none⟩=some v) ->
  (loadCellsFrom ⟨b,o,none⟩ i vs.length acc).run P w = .ok (acc++vs.toArray) w
 |[],i,acc,_=>by simp[loadCellsFrom]|v::vs,i,acc,h=>by
  have h0:=h 0 v rfl;have ha:(Addr.add ⟨b,o,none⟩ i)=⟨b,o+i,none⟩:=by unfold Addr.add;split<;>simp_all
  rw[qL,loadCellsFrom];have hl:(load (Addr.add ⟨b,o,none⟩ i)).run P w = .ok v w:=by
   rw[ha];simp[load,Sem.run];rw[show o+i=o+i+0 by rfl,h0]
  simp only[Sem.run_bind,hl,Result.andThen_ok];rw[q2c b o vs (i+1) (acc.push v) (fun j u hu=>by have:=h (j+1) u (by simpa using hu);rw[← this];congr 2;omega)]
  simp
def cell_of_heap{B i:Nat}{vs:Array Value}{T:TypeId}{fz:Nat×Nat}{v:Value}(h:w.heap[B]? = some (.cells vs T fz))(hv:vs.toList[i]? = some v):w.cell? ⟨B,i,none⟩=some v:=by
 simp[World.cell?,h];simpa using hv
def qds{t:TypeId}{cs:List AV}{off:Nat}{v:AV}(h:np P t cs off=some v){B o:Nat}{vs:List Value}(hv:al cs G vs)(hc:∀j u,vs[j]? = some u->w.cell? ⟨B,o+j,none⟩=some u) :
  ∃u,(loadVar t ⟨B,o+off,none⟩).run P w = .ok u w/\ak v G u:=by
 unfold np at h;split at h
 ·rename_i ha;split at h
  ·rename_i n hn;cases hb:Nat.ble (off+n) cs.length
   ·rw[hb]at h;cases h
   ·rw[hb]at h;simp only[qT,qI]at h;subst h;have hle:off+n<=cs.length:=by simpa using hb
    have ac:=hv.length;have hvs:((vs.drop off).take n).length=n:=by simp;omega
    refine⟨.agg ((vs.drop off).take n).toArray,?_,_,rfl,by simpa using qdp n (qjk off hv)⟩
    have:=q2c (P:=P) (w:=w) B (o+off) ((vs.drop off).take n) 0 #[] (fun j u hu=>by
     rw[List.getElem?_take]at hu;split at hu
     ·rw[List.getElem?_drop]at hu;rw[show o+off+0+j=o+(off+j) by omega];exact hc _ _ hu
     ·cases hu)
    rw[hvs]at this;simp[loadVar,zw ha,gg hn,loadCells,this]
  ·cases h
 ·rename_i ha;obtain⟨u,hu,hru⟩:=jy hv h;refine⟨u,?_,hru⟩;simp[loadVar,zw ha,load,Sem.run,hc _ _ hu]
 ·cases h
def Gh.data_le_self(G:Gh):G.data.le G:=⟨fun _ _ _ h=>h,fun _ _ h=>(by cases h),fun _ _ h=>(by cases h)⟩
def ce.values:∀{xs:List AV}{b o:Nat},ce xs G b o->∃vs:List Value,al xs G vs/\∀j u,vs[j]? = some u->G.imm b (o+j)=some u
 |[],_,_,_=>⟨[],trivial,fun j u h=>by simp at h⟩
 |x::xs,b,o,⟨⟨u,h1,h2⟩,h3⟩=>by
  obtain⟨vs,k1,k2⟩:=ce.values h3;refine⟨u::vs,⟨h2.le (Gh.data_le_self G),k1⟩,fun j v hv => ?_⟩
  cases j with|zero=>simp at hv;subst hv;exact h1|succ j=>simp at hv;rw[show o+(j+1)=o+1+j by omega];exact k2 j v hv
def ce.drop:∀{xs:List AV}{b o:Nat}(n:Nat),n<=xs.length->ce xs G b o->ce (xs.drop n) G b (o+n)
 |_,_,_,0,_,h=>h|[],_,_,n+1,h,_=>by simp at h|x::xs,b,o,n+1,hn,⟨_,h3⟩=>by
  rw[show o+(n+1)=o+1+n by omega];exact ce.drop n (by simpa using hn) h3
def qz3{α:Type}{enc:α->List AV}{sz:Nat}:∀{l:List α}{i:Nat}{x:α},(∀y∈l,(enc y).length=sz)->l[i]? = some x->((l.flatMap enc).drop (i*sz)).take sz=enc x
 |[],i,x,_,h=>by simp at h|y::l,0,x,hl,h=>by
  simp at h;subst h;rw[List.flatMap_cons,Nat.zero_mul,List.drop_zero,← hl y qH,List.take_left]
 |y::l,i+1,x,hl,h=>by
  have:=qz3 (l:=l) (i:=i) (x:=x) (fun z hz=>hl z (qE _ hz)) (by simpa using h)
  rw[List.flatMap_cons,Nat.add_mul,Nat.one_mul,Nat.add_comm,← List.drop_drop,← hl y qH,List.drop_left];rw[hl y qH];exact this
def zk3(hr:aj vj6 vj1 vj3 G s a w){t:TypeId}{x:Operand}{d:D}{ps:List Prop}{v:AV}(h:qh2 P s t x d=some (ps,v))(hp:ar ps):∃u,(Instr.loadAt t (a.eval x)).run P w = .ok u w/\ak v G u:=by
 unfold qh2 at h;split at h
 ·rename_i b off hx;have hx:=bm hr hx;obtain⟨B,hB,hxe⟩:=hx;split at h
  ·rename_i cs T hb;split at h
   ·rename_i v' hl;simp only[qI,qP]at h;obtain⟨_,rfl⟩:=h;obtain⟨B',vs,h1,h2,h3,_⟩:=hr.fin.mem.holds _ _ hb;rw[h1]at hB;injection hB with hB;subst hB
    obtain⟨u,hu,hru⟩:=qds (P:=P) (w:=w) hl (o:=0) h3 (fun j u hu=>by rw[wO];exact cell_of_heap h2 hu)
    rw[wO]at hu;exact⟨u,by rw[hxe];simp[Instr.loadAt,Instr.sureAddr,hu],hru⟩
   ·cases h
  ·cases h
 ·rename_i cs hx;obtain⟨b,o,hxe,hc⟩:=bm hr hx;split at h
  ·rename_i v' hl;simp only[qI,qP]at h;obtain⟨_,rfl⟩:=h;obtain⟨vs,h1,h2⟩:=hc.values;obtain⟨u,hu,hru⟩:=qds (P:=P) (w:=w) hl (o:=o) h1 (fun j u hu=>hr.fin.mem.agree _ _ _ (h2 j u hu))
   exact⟨u,by rw[hxe];simpa [Instr.loadAt,Instr.sureAddr] using hu,hru⟩
  ·cases h
 ·rename_i k sz i off hx;obtain⟨b,n,c,ho,hxe⟩:=bm hr hx;split at h
  ·rename_i τ l E cs hb;cases hq:Nat.beq sz τ.sz<;>rw[hq]at h<;>simp only[qT,qF,reduceCtorEq]at h
   have hq:=qN hq;subst hq;split at h
   ·rename_i v' hl;simp only[qI,qP]at h;obtain⟨rfl,rfl⟩:=h;simp only[ar,and_true]at hp;obtain⟨x0,hx0,rfl⟩:=hp;obtain⟨ad,c',h1,h3⟩:=hr.fin.mem.holds _ _ hb;have h2:∀y∈l,(τ.enc y).length=τ.sz:=fun y _=>τ.enc_length y
    rw[ho]at h1;simp only[qI,qP]at h1;obtain⟨rfl,rfl,rfl⟩:=h1;rcases h3 with⟨h3,_⟩|⟨g,vs,fz,k1,k2,k3,k4,k5,k6,k7,k8,k9⟩
    ·cases h3
    ·simp only[qI,Addr.mk.injEq,and_true]at k1;subst k1;have hr1:=qdp τ.sz (qjk (i*τ.sz) k7);rw[qz3 h2 hx0]at hr1;obtain⟨u,hu,hru⟩:=qds (P:=P) (w:=w) hl (o:=i*τ.sz) hr1 (fun j u hu=>by
      rw[List.getElem?_take]at hu;split at hu
      ·rw[List.getElem?_drop,List.getElem?_take]at hu;split at hu
       ·exact cell_of_heap k2 hu
       ·cases hu
      ·cases hu)
     exact⟨u,by rw[hxe];simpa [Instr.loadAt,Instr.sureAddr] using hu,hru.le (Gh.data_le_self G)⟩
   ·cases h
  ·cases h
 ·cases h
def zg0(k:IntKind)(h8:k ≠ .i8)(c:UInt8):k.wrap (c.toNat:Int)=c.toNat:=by
 have:=c.toNat_lt;cases k<;>simp[IntKind.wrap,IntKind.bits,IntKind.signed]at *<;>omega
def zx0(n:Int):IntKind.u8.wrap n=((gl n).toNat:Int):=by
 have h1:(n%256).toNat<256:=by omega
 unfold gl;rw[qq0 _ h1];simp[IntKind.wrap,IntKind.bits,IntKind.signed];omega
def qx9{src dst:TypeId}{x:AV}{c:Value}{ps:List Prop}{v:AV}(hs:P.underlying src≠none)(hx:ak x G c)(h:qg P dst x=some (ps,v)):∃u,(convert src dst c).run P w = .ok u w/\ak v G u:=by
 obtain⟨sd,hs⟩:=Option.ne_none_iff_exists'.1 hs;unfold qg at h;split at h
 ·rename_i k j n hd;simp only[ak]at hx;subst hx;cases hk:decide (k = .u8)<;>rw[hk]at h<;>simp only[qT,qF,qI,qP]at h<;>obtain⟨_,rfl⟩:=h
  ·exact⟨_,by simp[convert,bn hs,bn hd,Conv.intToInt],rfl⟩
  ·have hk':k = .u8:=by simpa using hk
   subst hk';exact⟨.int .u8 (IntKind.u8.wrap n),by simp[convert,bn hs,bn hd,Conv.intToInt],by simp only[ak];rw[zx0]⟩
 ·rename_i k c' hd;simp only[ak]at hx;subst hx;cases hk:decide (k = .u8)<;>rw[hk]at h<;>simp only[qT,qF]at h
  ·cases hk2:decide (k = .i8)<;>rw[hk2]at h<;>simp only[qT,qF]at h
   ·simp only[qI,qP]at h;obtain⟨_,rfl⟩:=h;refine⟨.int k (k.wrap c'.toNat),by simp[convert,bn hs,bn hd,Conv.intToInt],?_⟩
    simp only[ak];rw[zg0 _ (by simpa using hk2)]
   ·cases h
  ·simp only[qI,qP]at h;obtain⟨_,rfl⟩:=h;have hk':k = .u8:=by simpa using hk
   subst hk';refine⟨.int .u8 (IntKind.u8.wrap c'.toNat),by simp[convert,bn hs,bn hd,Conv.intToInt],?_⟩
   simp only[ak];rw[zg0 _ (by simp)]
 ·rename_i l hd;simp only[ak]at hx;subst hx;simp only[qI,qP]at h;obtain⟨_,rfl⟩:=h;exact⟨_,by simp[convert,bn hs,bn hd],rfl⟩
 ·cases h
def zkz{t:TypeId}{x:AV}{c:Value}{f:Nat}{ps:List Prop}{v:AV}(hx:ak x G c)(h:qno P t x f=some (ps,v)):∃u,(Instr.field t c f).run P w = .ok u w/\ak v G u:=by
 unfold qno at h;split at h
 ·rename_i fs cs hu;obtain⟨vs,rfl,hv⟩:=hx;split at h
  ·rename_i fd hf;split at h
   ·rename_i v' hl;simp only[qI,qP]at h;obtain⟨_,rfl⟩:=h;unfold np at hl;split at hl
    ·rename_i ha;split at hl
     ·rename_i n hn;cases hb:Nat.ble (fd.offset+n) cs.length<;>rw[hb]at hl<;>simp only[qT,qF,qI,reduceCtorEq]at hl
      subst hl;refine⟨.agg (vs.extract fd.offset (fd.offset+n)),by simp[Instr.field,bn hu,hf,asAgg,part,zw ha,gg hn],_,rfl,?_⟩
      have:=qdp n (qjk fd.offset hv);simpa [List.extract_eq_take_drop] using this
     ·cases hl
    ·rename_i ha;obtain⟨u,hu',hru⟩:=jy hv hl;refine⟨u,?_,hru⟩;have:vs[fd.offset]? = some u:=by simpa using hu'
     simp[Instr.field,bn hu,hf,asAgg,part,zw ha,this]
    ·cases hl
   ·cases h
  ·cases h
 ·cases h
def zky{t:TypeId}{x:AV}{c:Value}{f:Nat}{ps:List Prop}{v:AV}(hx:ak x G c)(h:qnp P t x f=some (ps,v)):∃u,(Instr.fieldAt t c f).run P w = .ok u w/\ak v G u:=by
 unfold qnp at h;split at h
 ·rename_i fs hu;split at h
  ·rename_i fd hf;split at h
   ·rename_i sz hs;cases hz:Nat.beq sz 0<;>rw[hz]at h<;>simp only[qT,qF,reduceCtorEq]at h
    have hz':sz≠0:=by intro e;subst e;simp at hz
    have add0:∀(b o n:Nat),Addr.add ⟨b,o,none⟩ n=⟨b,o+n,none⟩:=fun b o n=>by unfold Addr.add;split<;>simp_all
    split at h
    ·rename_i b off;obtain⟨B,hB,rfl⟩:=hx;simp only[qI,qP]at h;obtain⟨_,rfl⟩:=h;exact⟨_,by simp[Instr.fieldAt,bn hu,hf,Instr.sureAddr,fieldPlace,gg hs,hz',add0],B,hB,rfl⟩
    ·rename_i cs;obtain⟨b,o,rfl,hc⟩:=hx;cases hl:Nat.ble fd.offset cs.length<;>rw[hl]at h<;>simp only[qT,qF,qI,qP,reduceCtorEq]at h
     obtain⟨_,rfl⟩:=h;exact⟨_,by simp[Instr.fieldAt,bn hu,hf,Instr.sureAddr,fieldPlace,gg hs,hz',add0],b,o+fd.offset,rfl,hc.drop _ (by simpa using hl)⟩
    ·rename_i k sz' i off;obtain⟨b,n,c,hB,rfl⟩:=hx;simp only[qI,qP]at h;obtain⟨_,rfl⟩:=h;exact⟨_,by simp[Instr.fieldAt,bn hu,hf,Instr.sureAddr,fieldPlace,gg hs,hz',add0];rfl,b,n,c,hB,by simp;omega⟩
    ·cases h
   ·cases h
  ·cases h
 ·cases h
end
section
variable{P:Program}{vj6:World}{vj1:Gh}{vj3:List (Nat×ah)}{G:Gh}{s:St}{a:Act}{w:World}
def zk8{op:BinOp}{k:IntKind}{x y:Int}{t:TypeId}{ps:List Prop}{v:AV}(h:qb8 op k x y=some (ps,v))(hp:ar ps):∃u,(binOp op t (.int k x) (.int k y)).run P w = .ok u w/\ak v G u:=by
 cases op<;>simp only[qb8,qI,qP]at h<;>obtain⟨rfl,rfl⟩:=h<;>simp only[ar,and_true]at hp
 case quo=>exact⟨_,by simp[binOp,Op.intDiv,hp],rfl⟩
 case rem=>exact⟨_,by simp[binOp,Op.intDiv,hp],rfl⟩
 case shl=>exact⟨_,by simp[binOp,Op.shift,show ¬y<0 by omega],rfl⟩
 case shr=>exact⟨_,by simp[binOp,Op.shift,show ¬y<0 by omega],rfl⟩
 all_goals first
  |exact⟨_,by simp[binOp,Op.intArith,Op.intBits,Op.intCmp],rfl⟩
  |exact⟨_,by simp[binOp,Op.intArith,Op.intBits,Op.intCmp];rfl,rfl⟩
def uf(n:Int)(c:UInt8)(h:n%256=c.toNat):IntKind.u8.wrap n=c.toNat:=by
 simp[IntKind.wrap,IntKind.bits,IntKind.signed];omega
def zk6{op:BinOp}{x y:UInt8}{t:TypeId}{ps:List Prop}{v:AV}(h:qnq op x y=some (ps,v))(hp:ar ps):∃u,(binOp op t (.int .u8 x.toNat) (.int .u8 y.toNat)).run P w = .ok u w/\ak v G u:=by
 have hx:=x.toNat_lt;have hy:=y.toNat_lt;cases op<;>simp only[qnq,qI,qP,reduceCtorEq]at h<;>obtain⟨rfl,rfl⟩:=h<;>simp only[ar,and_true]at hp
 case add=>exact⟨.int .u8 (IntKind.u8.wrap (x.toNat+y.toNat)),by simp[binOp,Op.intArith],by simp only[ak];rw[uf _ (x+y) (by rw[UInt8.toNat_add];omega)]⟩
 case sub=>exact⟨.int .u8 (IntKind.u8.wrap (x.toNat-y.toNat)),by simp[binOp,Op.intArith],by simp only[ak];rw[uf _ (x-y) (by rw[UInt8.toNat_sub];omega)]⟩
 case mul=>exact⟨.int .u8 (IntKind.u8.wrap (x.toNat*y.toNat)),by simp[binOp,Op.intArith],by simp only[ak];rw[uf _ (x*y) (by rw[UInt8.toNat_mul];simp)]⟩
 case quo=>
  have hy0:(y.toNat:Int)≠0:=by intro e;apply hp;apply UInt8.toNat_inj.1;simp;omega
  refine⟨.int .u8 (IntKind.u8.wrap ((x.toNat:Int).tdiv y.toNat)),by simp[binOp,Op.intDiv];omega,?_⟩
  simp only[ak];rw[uf _ (x/y)];rw[UInt8.toNat_div,Int.tdiv_eq_ediv_of_nonneg (by omega)]
  have:x.toNat/y.toNat<=x.toNat:=Nat.div_le_self _ _;rw[← Int.natCast_ediv];generalize x.toNat/y.toNat=q at *;omega
 case rem=>
  have hy0:(y.toNat:Int)≠0:=by intro e;apply hp;apply UInt8.toNat_inj.1;simp;omega
  refine⟨.int .u8 ((x.toNat:Int).tmod y.toNat),by simp[binOp,Op.intDiv];omega,?_⟩
  simp only[ak];rw[UInt8.toNat_mod,Int.tmod_eq_emod_of_nonneg (by omega)];simp
 case eql=>exact⟨.bool ((x.toNat:Int)==y.toNat),by simp[binOp,Op.intCmp],by simp only[ak];congr 1;rw[Bool.eq_iff_iff];simp[← UInt8.toNat_inj];omega⟩
 case neq=>exact⟨.bool ((x.toNat:Int) != y.toNat),by simp[binOp,Op.intCmp],by simp only[ak];congr 1;rw[Bool.eq_iff_iff];simp[← UInt8.toNat_inj];omega⟩
 case lss=>exact⟨.bool (decide ((x.toNat:Int)<y.toNat)),by simp[binOp,Op.intCmp],by simp only[ak];congr 1;rw[Bool.eq_iff_iff];simp[UInt8.lt_iff_toNat_lt]⟩
 case leq=>exact⟨.bool (decide ((x.toNat:Int)<=y.toNat)),by simp[binOp,Op.intCmp],by simp only[ak];congr 1;rw[Bool.eq_iff_iff];simp[UInt8.le_iff_toNat_le]⟩
 case gtr=>exact⟨.bool (decide ((x.toNat:Int)>y.toNat)),by simp[binOp,Op.intCmp],by simp only[ak];congr 1;rw[Bool.eq_iff_iff];simp[UInt8.lt_iff_toNat_lt]⟩
 case geq=>exact⟨.bool (decide ((x.toNat:Int) ≥ y.toNat)),by simp[binOp,Op.intCmp],by simp only[ak];congr 1;rw[Bool.eq_iff_iff];simp[UInt8.le_iff_toNat_le]⟩
 case and=>
  refine⟨_,by simp[binOp,Op.intBits];rfl,?_⟩
  simp only[ak];rw[uf _ (x&&&y)];have hb:=(x&&&y).toNat_lt;rw[UInt8.toNat_and]at hb;simp[IntKind.bits];omega
 case or=>
  refine⟨_,by simp[binOp,Op.intBits];rfl,?_⟩
  simp only[ak];rw[uf _ (x|||y)];have hb:=(x|||y).toNat_lt;rw[UInt8.toNat_or]at hb;simp[IntKind.bits];omega
 case xor=>
  refine⟨_,by simp[binOp,Op.intBits];rfl,?_⟩
  simp only[ak];rw[uf _ (x ^^^ y)];have hb:=(x ^^^ y).toNat_lt;rw[UInt8.toNat_xor]at hb;simp[IntKind.bits];omega
 case shl=>
  refine⟨.int .u8 (IntKind.u8.wrap (x.toNat*2 ^ min y.toNat 8)),by simp[binOp,Op.shift,IntKind.bits,show ¬(y.toNat:Int)<0 by omega],?_⟩
  simp only[ak];rw[uf _ (py x (min y.toNat 8))];simp[py,UInt8.toNat_ofNat']
 case shr=>
  refine⟨.int .u8 ((x.toNat:Int).fdiv (2 ^ min y.toNat 8)),by simp[binOp,Op.shift,IntKind.bits,show ¬(y.toNat:Int)<0 by omega],?_⟩
  simp only[ak];congr 1;have h1:x.toNat/2 ^ min y.toNat 8<=x.toNat:=Nat.div_le_self _ _;unfold sg;rw[qq0 _,Int.fdiv_eq_ediv_of_nonneg _ (by exact Int.le_of_lt (Int.pow_pos (by omega)))]
  simp
def zk9{op:BinOp}{x y:List UInt8}{t:TypeId}{ps:List Prop}{v:AV}(h:qns op x y=some (ps,v))(hp:ar ps):∃u,(binOp op t (.string ⟨x.toArray⟩) (.string ⟨y.toArray⟩)).run P w = .ok u w/\ak v G u:=by
 cases op<;>simp only[qns,qI,qP,reduceCtorEq]at h<;>obtain⟨rfl,rfl⟩:=h<;>simp only[ar,and_true]at hp
 case add=>
  unfold ap at hp;refine⟨.string (⟨x.toArray⟩++⟨y.toArray⟩),?_,?_⟩
  ·have h1:(⟨x.toArray⟩:ByteArray).size=x.length:=by simp[ByteArray.size]
   have h2:(⟨y.toArray⟩:ByteArray).size=y.length:=by simp[ByteArray.size]
   have:¬((x.length+y.length:Nat):Int)>IntKind.i64.max:=by simp[IntKind.max,IntKind.signed,IntKind.bits];omega
   simp[binOp,Op.stringOp,h1,h2];simpa using this
  ·simp only[ak];congr 1
 all_goals exact⟨_,by simp[binOp,Op.stringOp],rfl⟩
def q8o{t:TypeId}{x y:AV}{u v:Value}{b:Bool}{d:Nat}(h:vd P t x y=some b)(hx:ak x G u)(hy:ak y G v):(Op.equalIn (d+1) t u v).run P w = .ok b w:=by
 unfold vd at h;split at h
 ·rename_i k0 k a k' b' hu;simp only[ak]at hx hy;subst hx hy;cases hk:decide (k=k')<;>rw[hk]at h<;>simp only[qT,qF,qI,reduceCtorEq]at h
  subst h;have:k=k':=by simpa using hk
  subst this;simp[Op.equalIn,bn hu]
 ·rename_i k0 a b' hu;simp only[ak]at hx hy;subst hx hy;simp only[qI]at h;subst h;simp[Op.equalIn,bn hu];rw[Bool.eq_iff_iff];simp[← UInt8.toNat_inj];omega
 ·rename_i a b' hu;simp only[ak]at hx hy;subst hx hy;simp only[qI]at h;subst h;simp[Op.equalIn,bn hu]
 ·rename_i a b' hu;simp only[ak]at hx hy;subst hx hy;simp only[qI]at h;subst h;simp[Op.equalIn,bn hu,beq_toListBytes]
 ·cases h
def zwe{t:TypeId}{x y:AV}{b:Bool}(h:vd P t x y=some b):wi P t=some false:=by
 unfold vd at h;unfold wi;split at h<;>first|(rename_i hu;rw[hu])|cases h
def q8p{xs ys:List AV}{us vs:Array Value}(hx:al xs G us.toList)(hy:al ys G vs.toList){d:Nat}:∀{fs:List Field}{b:Bool},qh6 P xs ys fs=some b->(Op.eqFields (d+1) us vs fs).run P w = .ok b w
 |[],b,h=>by simp[qh6]at h;subst h;simp[Op.eqFields]|f::fs,b,h=>by
  simp only[qh6]at h;cases hn : f.name == "_" <;> rw [hn] at h <;> simp only [qT, qF, reduceCtorEq] at h
  split at h
  ·rename_i x y hxx hyy;split at h
   ·cases h
   ·rename_i b1 hb1;split at h
    ·cases h
    ·rename_i r hrr;simp only[qI]at h;subst h;obtain⟨u,hu,hru⟩:=jy hx hxx;obtain⟨v,hv,hrv⟩:=jy hy hyy;have hagg:=zwe hb1;have p1:(part f.type us f.offset).run P w = .ok u w:=by
      have:us[f.offset]? = some u:=by simpa using hu
      simp[part,zw hagg,this]
     have p2:(part f.type vs f.offset).run P w = .ok v w:=by
      have:vs[f.offset]? = some v:=by simpa using hv
      simp[part,zw hagg,this]
     have ih:=q8p hx hy (d:=d) hrr;have hn' : ¬ f.name = "_" := by simpa using hn
     have he:=q8o (P:=P) (w:=w) (d:=d) hb1 (g7 hru) (g7 hrv);simp only[Op.eqFields,hn',ne_eq,not_false_eq_true,if_true,Sem.run_bind,p1,p2,Result.andThen_ok,he];cases b1<;>simp[ih]
  ·cases h
def zlg{t:TypeId}{x y:AV}{u v:Value}{b:Bool}(h:tf P t x y=some b)(hx:ak x G u)(hy:ak y G v):(Op.equal t u v).run P w = .ok b w:=by
 unfold tf at h;split at h
 ·rename_i xs ys;split at h
  ·rename_i fields hu;obtain⟨us,rfl,hus⟩:=hx;obtain⟨vs,rfl,hvs⟩:=hy;cases hs:P.stoodInHeld t||P.eqGuardType P.depth t<;>rw[hs]at h<;>simp only[qT,qF,reduceCtorEq]at h
   simp only[Bool.or_eq_false_iff]at hs;have hf:P.fieldsOf t=fields:=by simp[Program.fieldsOf,hu]
   unfold Op.equal Op.maxDepth;rw[show 10000=9998+1+1 by rfl,run_equalIn_struct w _ t us vs (by rw[hf,hu]) hs.1,hf]
   exact q8p hus hvs h
  ·cases h
 ·unfold Op.equal Op.maxDepth;exact q8o (d:=9999) h hx hy
end
section
variable{P:Program}{vj6:World}{vj1:Gh}{vj3:List (Nat×ah)}{G:Gh}{s:St}{a:Act}{w:World}
def zog{op:BinOp}{t:TypeId}{x y:Operand}{c e:Value}(k1:∀xs ys,c = .agg xs->e = .agg ys->P.eqGuardType P.depth t=false)(k2:c ≠ .nilIface):(eqGuard op t x y c e).run P w = .ok () w:=by
 cases c with
 |agg xs=>
  cases e with|agg ys=>have h:=k1 xs ys rfl rfl;simp[eqGuard,h]|_=>simp[eqGuard]
 |nilIface=>exact absurd rfl k2|_=>simp[eqGuard]
def qzt{op:BinOp}{t:TypeId}{x y:Operand}{u v:AV}{c e:Value}(hx:ak u G c)(hy:ak v G e){ps:List Prop}{r:AV}(h:tc P op t u v=some (ps,r)):(eqGuard op t x y c e).run P w = .ok () w:=by
 have key:(∀xs ys,c = .agg xs->e = .agg ys->P.eqGuardType P.depth t=false)/\c ≠ .nilIface:=by
   unfold tc at h;split at h
   ·simp only[ak]at hx;subst hx;exact⟨by simp,by simp⟩
   ·simp only[ak]at hx;subst hx;exact⟨by simp,by simp⟩
   ·simp only[ak]at hx;subst hx;exact⟨by simp,by simp⟩
   ·simp only[ak]at hx;subst hx;exact⟨by simp,by simp⟩
   ·simp only[ak]at hx;subst hx;exact⟨by simp,by simp⟩
   ·have ha:∃b,tf P t u v=some b:=by
     cases hq:tf P t u v with|some b=>exact⟨b,rfl⟩|none=>rw[hq]at h;revert h;cases op<;>simp
    obtain⟨b,hb⟩:=ha;unfold tf at hb;split at hb
    ·obtain⟨us,rfl,_⟩:=hx;refine⟨fun xs ys _ _ => ?_,by simp⟩
     split at hb
     ·cases hs:P.stoodInHeld t||P.eqGuardType P.depth t<;>rw[hs]at hb<;>simp only[qT,qF,reduceCtorEq]at hb
      simp only[Bool.or_eq_false_iff]at hs;exact hs.2
     ·cases hb
    ·unfold vd at hb;split at hb<;>first|(simp only[ak]at hx;subst hx;exact⟨by simp,by simp⟩)|cases hb
 exact zog key.1 key.2
def qye{op:BinOp}{t:TypeId}{x y:AV}{u v:Value}(hx:ak x G u)(hy:ak y G v){ps:List Prop}{r:AV}(h:tc P op t x y=some (ps,r))(hp:ar ps):∃z,(binOp op t u v).run P w = .ok z w/\ak r G z:=by
 unfold tc at h;split at h
 ·rename_i k a k' b;simp only[ak]at hx hy;subst hx hy;cases hk:decide (op = .shl)||decide (op = .shr)||decide (k=k')<;>rw[hk]at h<;>simp only[qT,qF,reduceCtorEq]at h
  cases hk8:decide (k = .u8)||decide (k' = .u8)<;>rw[hk8]at h<;>simp only[qT,qF,reduceCtorEq]at h
  by_cases he:k=k'
  ·subst he;exact zk8 h hp
  ·simp only[he,decide_false,Bool.or_false,Bool.or_eq_true,decide_eq_true_eq]at hk;rcases hk with rfl|rfl
   ·simp only[qb8,qI,qP]at h;obtain⟨rfl,rfl⟩:=h;simp only[ar,and_true]at hp;exact⟨_,by simp[binOp,Op.shift,show ¬b<0 by omega],rfl⟩
   ·simp only[qb8,qI,qP]at h;obtain⟨rfl,rfl⟩:=h;simp only[ar,and_true]at hp;exact⟨_,by simp[binOp,Op.shift,show ¬b<0 by omega],rfl⟩
 ·simp only[ak]at hx hy;subst hx hy;exact zk6 h hp
 ·rename_i a k b;simp only[ak]at hx hy;subst hx hy;split at h
  ·simp only[qI,qP]at h;obtain⟨rfl,rfl⟩:=h;simp only[ar,and_true]at hp;refine⟨.int .u8 (IntKind.u8.wrap (a.toNat*2 ^ min b.toNat 8)),by simp[binOp,Op.shift,IntKind.bits,show ¬b<0 by omega],?_⟩
   simp only[ak];rw[uf _ (py a (min b.toNat 8))];simp[py,UInt8.toNat_ofNat']
  ·simp only[qI,qP]at h;obtain⟨rfl,rfl⟩:=h;simp only[ar,and_true]at hp;refine⟨.int .u8 ((a.toNat:Int).fdiv (2 ^ min b.toNat 8)),by simp[binOp,Op.shift,IntKind.bits,show ¬b<0 by omega],?_⟩
   simp only[ak];congr 1;have h1:a.toNat/2 ^ min b.toNat 8<=a.toNat:=Nat.div_le_self _ _;have:=a.toNat_lt;unfold sg;rw[qq0 _,Int.fdiv_eq_ediv_of_nonneg _ (by exact Int.le_of_lt (Int.pow_pos (by omega)))]
   simp
  ·cases h
 ·rename_i k a b;simp only[ak]at hx hy;subst hx hy;cases hk8:decide (k = .u8)<;>rw[hk8]at h<;>simp only[qT,qF,reduceCtorEq]at h
  split at h
  ·simp only[qI,qP]at h;obtain⟨rfl,rfl⟩:=h;exact⟨_,by simp[binOp,Op.shift,show ¬(b.toNat:Int)<0 by omega],rfl⟩
  ·simp only[qI,qP]at h;obtain⟨rfl,rfl⟩:=h;exact⟨_,by simp[binOp,Op.shift,show ¬(b.toNat:Int)<0 by omega],rfl⟩
  ·cases h
 ·simp only[ak]at hx hy;subst hx hy;exact zk9 h hp
 ·rename_i n1 n2 n3 n4 n5
  --==and != of other values
  have fin:∀b,tf P t x y=some b->(binOp .eql t u v).run P w = .ok (.bool b) w/\(binOp .neq t u v).run P w = .ok (.bool (!b)) w:=by
   intro b hb;have he:=zlg (w:=w) hb hx hy;unfold tf at hb;split at hb
   ·obtain⟨us,rfl,_⟩:=hx;obtain⟨vs,rfl,_⟩:=hy;exact⟨by simp[binOp,he],by simp[binOp,he]⟩
   ·unfold vd at hb;split at hb
    ·exact absurd rfl (n1 _ _ _ _ rfl)
    ·exact absurd rfl (n2 _ _ rfl)
    ·simp only[ak]at hx hy;subst hx hy;exact⟨by simp[binOp,he],by simp[binOp,he]⟩
    ·exact absurd rfl (n5 _ _ rfl)
    ·cases hb
  split at h
  ·split at h
   ·rename_i b hb;simp only[qI,qP]at h;obtain⟨rfl,rfl⟩:=h;exact⟨_,(fin b hb).1,rfl⟩
   ·cases h
  ·split at h
   ·rename_i b hb;simp only[qI,qP]at h;obtain⟨rfl,rfl⟩:=h;exact⟨_,(fin b hb).2,rfl⟩
   ·cases h
  ·cases h
def zk7{op:BinOp}{t:TypeId}{x y:AV}{u v:Value}(hx:ak x G u)(hy:ak y G v){ps:List Prop}{r:AV}(h:qnr P op t x y=some (ps,r))(hp:ar ps):(∃z,(binOp op t u v).run P w = .ok z w/\ak r G z)/\∀(xo yo:Operand),(eqGuard op t xo yo u v).run P w = .ok () w:=by
 unfold qnr at h;split at h
 ·split at h
  ·rename_i r' hb;simp only[qI,qP]at h;obtain⟨rfl,rfl⟩:=h;obtain⟨z,h1,h2⟩:=qye (w:=w) (g7 hx) (g7 hy) hb hp;exact⟨⟨z,h1,zee h2⟩,fun xo yo=>qzt (g7 hx) (g7 hy) hb⟩
  ·exact⟨qye (g7 hx) (g7 hy) h hp,fun xo yo=>qzt (g7 hx) (g7 hy) h⟩
 ·exact⟨qye (g7 hx) (g7 hy) h hp,fun xo yo=>qzt (g7 hx) (g7 hy) h⟩
def zma{op:UnOp}{x:AV}{u:Value}(hx:ak x G u){r:AV}(h:aun op x=some r):∃z,(Op.unary op u).run P w = .ok z w/\ak r G z:=by
 unfold aun at h;split at h
 ·simp only[ak]at hx;subst hx;simp only[qI]at h;subst h;exact⟨_,by simp[Op.unary],rfl⟩
 ·simp only[ak]at hx;subst hx;simp only[qI]at h;subst h;exact⟨_,by simp[Op.unary],rfl⟩
 ·rename_i k n;simp only[ak]at hx;subst hx;cases hk8:decide (k = .u8)<;>rw[hk8]at h<;>simp only[qT,qF,reduceCtorEq,qI]at h
  subst h;exact⟨.int k (k.wrap (0-n)),by simp[Op.unary,Op.intArith],rfl⟩
 ·rename_i k n;simp only[ak]at hx;subst hx;simp only[qI]at h;subst h;exact⟨.int k (k.wrap (0-n)),by simp[Op.unary,Op.intArith],rfl⟩
 ·cases h
def q12:∀{xs:List AV}{vs:List Value},al xs G vs->al (xs.map AV.sym) G vs|[],[],_=>trivial|_::_,_::_,h=>⟨g7 h.1,q12 h.2⟩|[],_::_,h=>h.elim|_::_,[],h=>h.elim
def zk1{t:TypeId}{x i:AV}{u j:Value}{d:D}(hx:ak x G u)(hi:ak i G j){ps:List Prop}{r:AV}(h:qh0 P t x i d=some (ps,r))(hp:ar ps):∃z,(Instr.index t u j).run P w = .ok z w/\ak r G z:=by
 unfold qh0 at h;split at h
 ·rename_i b k n c hu;simp only[ak]at hx hi;subst hx hi;simp only[qI,qP]at h;obtain⟨rfl,rfl⟩:=h;simp only[ar,and_true]at hp;obtain⟨h0,h1⟩:=hp;refine⟨.int .u8 c.toNat,?_,rfl⟩;have:(⟨b.toArray⟩:ByteArray)[n.toNat]? = some c:=by
   rw[show(⟨b.toArray⟩:ByteArray)[n.toNat]? = b.toArray[n.toNat]? from rfl];simpa using h1
  simp[Instr.index,asIntOf,bn hu,h0,this]
 ·rename_i b n c hu;simp only[ak]at hx hi;subst hx hi;simp only[qI,qP]at h;obtain⟨rfl,rfl⟩:=h;simp only[ar,and_true]at hp;refine⟨.int .u8 c.toNat,?_,rfl⟩;have:(⟨b.toArray⟩:ByteArray)[n.toNat]? = some c:=by
   rw[show(⟨b.toArray⟩:ByteArray)[n.toNat]? = b.toArray[n.toNat]? from rfl];simpa using hp
  simp[Instr.index,asIntOf,bn hu,this]
 ·rename_i len E cs k n x hu;obtain⟨vs,rfl,hv⟩:=hx;simp only[ak]at hi;subst hi;split at h
  ·rename_i ha hsz;cases hq:Nat.beq cs.length len<;>rw[hq]at h<;>simp only[qT,qF,reduceCtorEq,qI,qP]at h
   obtain⟨rfl,rfl⟩:=h;simp only[ar,and_true]at hp;obtain⟨h0,h1⟩:=hp;have hlt:=(List.getElem?_eq_some_iff.1 h1).1;rw[wC]at hlt;have ac:=qN hq;obtain⟨u,hu',hru⟩:=jy (q12 hv) h1;refine⟨u,?_,hru⟩;have h2:vs[n.toNat]? = some u:=by simpa using hu'
   simp[Instr.index,asIntOf,bn hu,h0,show n<(len:Int) by omega,part,zw ha,gg hsz,h2]
  ·cases h
 ·cases h
def zkx{src dst:TypeId}{x:AV}{c:Value}{ps:List Prop}{v:AV}(hs:P.underlying src≠none)(hx:ak x G c)(h:vc P dst x=some (ps,v)):∃u,(convert src dst c).run P w = .ok u w/\ak v G u:=by
 unfold vc at h;split at h
 ·split at h
  ·rename_i r' hb;simp only[qI,qP]at h;obtain⟨rfl,rfl⟩:=h;obtain⟨z,h1,h2⟩:=qx9 (w:=w) hs (g7 hx) hb;exact⟨z,h1,zee h2⟩
  ·exact qx9 hs (g7 hx) h
 ·exact qx9 hs (g7 hx) h
end
section
variable{P:Program}{vj6:World}{vj1:Gh}{vj3:List (Nat×ah)}{G:Gh}{s:St}{a:Act}{w:World}
def mg(b o n:Nat):Addr.add ⟨b,o,none⟩ n=⟨b,o+n,none⟩:=by unfold Addr.add;split<;>simp_all
def zk0(hr:aj vj6 vj1 vj3 G s a w){t:TypeId}{x i:AV}{u j:Value}{d:D}(hx:ak x G u)(hi:ak i G j){ps:List Prop}{r:AV}(h:qb7 P s t x i d=some (ps,r))(hp:ar ps) :
  ∃z,(Instr.indexAt t u j).run P w = .ok z w/\ak r G z:=by
 unfold qb7 at h;split at h
 ·rename_i E hu;split at h
  ·rename_i sz' k n hsz;simp only[ak]at hi;subst hi;split at h
   ·rename_i τ l cs;cases hq:Nat.beq τ.sz sz'<;>rw[hq]at h<;>simp only[qT,qF,reduceCtorEq,qI,qP]at h
    have hq':τ.sz=sz':=by simpa using hq
    subst hq';obtain⟨rfl,rfl⟩:=h;simp only[ar,and_true]at hp;obtain⟨h0,x,hx1,rfl⟩:=hp;obtain⟨ad,c,rfl,hc,hl⟩:=hx;have hlt:n.toNat<l.length:=(List.getElem?_eq_some_iff.1 hx1).1;rcases hl with rfl|⟨b,o,rfl,hcells⟩
    ·simp at hx1
    ·refine⟨.pointer (some ⟨b,o+n.toNat*τ.sz,none⟩),?_,b,o+n.toNat*τ.sz,rfl,ss.2 (hcells _ _ hx1)⟩;simp[Instr.indexAt,asIntOf,bn hu,h0,show n<(l.length:Int) by omega,gg hsz,mg]
   ·rename_i kk d';split at h
    ·rename_i τ l E' hb;cases hq:Nat.beq τ.sz sz'<;>rw[hq]at h<;>simp only[qT,qF,reduceCtorEq,qI,qP]at h
     have hq':τ.sz=sz':=by simpa using hq
     subst hq';obtain⟨rfl,rfl⟩:=h;simp only[ar,and_true]at hp;obtain⟨h0,hlt⟩:=hp;obtain⟨ad,c,ho,hl⟩:=hr.fin.mem.holds _ _ hb;obtain⟨ad',n',c',ho',rfl⟩:=hx;rw[ho]at ho';simp only[qI,qP]at ho';obtain⟨rfl,rfl,rfl⟩:=ho';rcases hl with⟨_,rfl,_⟩|⟨g,vs,fz,rfl,_⟩
     ·simp at hlt
     ·refine⟨.pointer (some ⟨g,n.toNat*τ.sz,none⟩),?_,g,_,_,ho,by simp⟩
      simp[Instr.indexAt,asIntOf,bn hu,h0,show n<(l.length:Int) by omega,gg hsz,mg]
    ·cases h
   ·rename_i kb m cc;simp only[qI,qP]at h;obtain⟨rfl,rfl⟩:=h;simp only[ar,and_true]at hp;obtain⟨h0,hlt⟩:=hp;obtain⟨B,hB,_,rfl⟩:=hx;refine⟨.pointer (some ⟨B,n.toNat*sz',none⟩),?_,B,hB,rfl⟩;simp[Instr.indexAt,asIntOf,bn hu,h0,show n<(m:Int) by omega,gg hsz,mg]
   ·cases h
  ·cases h
 ·rename_i len E hu;split at h
  ·rename_i sz k n b off hsz;simp only[ak]at hi;subst hi;simp only[qI,qP]at h;obtain⟨rfl,rfl⟩:=h;simp only[ar,and_true]at hp;obtain⟨B,hB,rfl⟩:=hx;refine⟨.pointer (some ⟨B,off+n.toNat*sz,none⟩),?_,B,hB,rfl⟩;simp[Instr.indexAt,asIntOf,bn hu,hp,gg hsz,mg,Instr.sureAddr]
  ·cases h
 ·cases h
def zk2(hr:aj vj6 vj1 vj3 G s a w){t ty:TypeId}{x:AV}{u:Value}(hx:ak x G u){ps:List Prop}{r:AV}(h:qh1 P s t x=some (ps,r)):∃z,(Builtin.len_ #[t] ty #[u]).run P w = .ok z w/\ak r G z:=by
 unfold qh1 at h;split at h
 ·rename_i b hu;simp only[ak]at hx;subst hx;simp only[qI,qP]at h;obtain⟨_,rfl⟩:=h;have hb:(⟨b.toArray⟩:ByteArray).size=b.length:=by simp[ByteArray.size]
  exact⟨goInt b.length,by simp[Builtin.len_,bn hu,hb],rfl⟩
 ·rename_i E τ l hu;obtain⟨ad,c,rfl,_⟩:=hx;simp only[qI,qP]at h;obtain⟨_,rfl⟩:=h;exact⟨goInt l.length,by simp[Builtin.len_,bn hu],rfl⟩
 ·rename_i E k hu;split at h
  ·rename_i τ l E' hb;obtain⟨ad,c,ho,hl⟩:=hr.fin.mem.holds _ _ hb;obtain⟨ad',n',c',ho',rfl⟩:=hx;rw[ho]at ho';simp only[qI,qP]at ho';obtain⟨rfl,rfl,rfl⟩:=ho';simp only[qI,qP]at h;obtain⟨_,rfl⟩:=h;exact⟨goInt l.length,by simp[Builtin.len_,bn hu],rfl⟩
  ·cases h
 ·rename_i E hu;simp only[ak]at hx;subst hx;simp only[qI,qP]at h;obtain⟨_,rfl⟩:=h;exact⟨goInt 0,by simp[Builtin.len_,bn hu],rfl⟩
 ·rename_i E b n c hu;obtain⟨B,_,_,rfl⟩:=hx;simp only[qI,qP]at h;obtain⟨_,rfl⟩:=h;exact⟨goInt n,by simp[Builtin.len_,bn hu],rfl⟩
 ·cases h
def zba:∀{fs:List Field}{r:List (Nat×Nat)},qis P fs=some r->fs.mapM (fun f=>(P.info? f.type).map fun i=>(f.offset,i.size))=some r
 |[],r,h=>by simp only[qis,qI]at h;subst h;rfl|f::fs,r,h=>by
  simp only[qis]at h;split at h
  ·cases h
  ·rename_i n hn;split at h
   ·cases h
   ·rename_i r' hr';simp only[qI]at h;subst h;unfold ef at hn;split at hn
    ·rename_i i hi;simp only[qI]at hn;subst hn;simp[List.mapM_cons,hi,zba hr']
    ·cases hn
def qxy(G:Gh):List (Nat×AV)->List (Nat×Value)->Prop|[],[]=>True|x::xs,y::ys=>(x.1=y.1/\ak x.2 G y.2)/\qxy G xs ys|_,_=>False
def qnw(hr:aj vj6 vj1 vj3 G s a w):∀{ps:List (Nat×Operand)}{vs:List (Nat×AV)},oy s ps=some vs->qxy G vs (ps.map fun p=>(p.1,a.eval p.2))
 |[],vs,h=>by simp only[oy,qI]at h;subst h;trivial|(i,x)::ps,vs,h=>by
  simp only[oy]at h;split at h
  ·cases h
  ·rename_i v hv;split at h
   ·cases h
   ·rename_i us hus;simp only[qI]at h;subst h;exact⟨⟨rfl,bm hr hv⟩,qnw hr hus⟩
def za7(cs:Array Value)(off:Nat):∀(vs:List Value)(k:Nat),((vs.zipIdx k).foldl (fun(cs:Array Value)(p:Value×Nat)=>cs.setIfInBounds (off+p.2) p.1) cs).toList=(vs.zipIdx k).foldl (fun(l:List Value) p=>l.set (off+p.2) p.1) cs.toList
 |[],k=>rfl|v::vs,k=>by
  simp only[List.zipIdx_cons,List.foldl_cons];rw[za7 _ off vs (k+1)];simp
def zeq:∀{xs cs:List AV}{us vs:List Value}(off k:Nat),al cs G us->al xs G vs->al (fa cs (off+k) xs) G ((vs.zipIdx k).foldl (fun(l:List Value) p=>l.set (off+p.2) p.1) us)
 |[],_,_,[],_,_,h,_=>h|x::xs,cs,us,v::vs,off,k,h,hx=>by
  simp only[List.zipIdx_cons,List.foldl_cons,fa];have:=zeq (xs:=xs) (vs:=vs) off (k+1) (qjl (off+k) h hx.1) hx.2;simpa [Nat.add_assoc] using this
 |[],_,_,_::_,_,_,_,h=>h.elim|_::_,_,_,[],_,_,_,h=>h.elim
def ak.cells{x:AV}{u:Value}(h:ak x G u)(ho:AV.ones x.cells=true):al x.cells G u.cells.toList:=by
 cases x with
 |agg cs=>obtain⟨vs,rfl,hv⟩:=h;exact hv
 |_=>
  have h1:=zef h (by simpa [AV.ones,AV.cells] using ho)
  have h2:u.cells.toList=[u]:=by cases u<;>first|rfl|cases h1
  rw[h2];exact⟨h,trivial⟩
def qh7{place:Nat->Option (Nat×Nat)}:∀{ps:List (Nat×AV)}{vs:List (Nat×Value)}{cs:List AV}{us:Array Value}{cs':List AV},
  qxy G ps vs->al cs G us.toList->tg place cs ps=some cs'->∃us',Instr.fill place us vs=some us'/\al cs' G us'.toList
 |[],[],cs,us,cs',_,h,hf=>by simp only[tg,qI]at hf;subst hf;exact⟨us,rfl,h⟩|[],_::_,_,_,_,h,_,_=>h.elim|_::_,[],_,_,_,h,_,_=>h.elim|(i,x)::ps,(j,v)::vs,cs,us,cs',hxt,h,hf=>by
  obtain⟨⟨hij,hx⟩,ht⟩:=hxt;simp only at hij hx;subst hij;simp only[tg]at hf;split at hf
  ·cases hf
  ·rename_i off size hpl;cases hb:Nat.beq x.cells.length size&&Nat.ble (off+size) cs.length&&AV.ones x.cells<;>rw[hb]at hf<;>simp only[qT,qF,reduceCtorEq]at hf
   simp only[qA,Nat.ble_eq]at hb;obtain⟨⟨hb1,hb2⟩,hb3⟩:=hb;have hcs:=hx.cells hb3;have hl1:=hcs.length;have hl2:=h.length;have hr2:=zeq (G:=G) off 0 h hcs;obtain⟨us',hu1,hu2⟩:=qh7 (us:=(v.cells.zipIdx.foldl (fun cs(c,j)=>cs.setIfInBounds (off+j) c) us)) ht (by
    rw[← Array.foldl_toList,Array.toList_zipIdx,za7];exact hr2) hf
   refine⟨us',?_,hu2⟩;have e1:v.cells.size=size:=by rw[← qN hb1,hl1,Array.length_toList]
   have e2:off+v.cells.size<=us.size:=by rw[e1,← Array.length_toList,← hl2];exact hb2
   rw[Instr.fill,hpl];simp only[e1,ne_eq,not_true_eq_false,decide_false,Bool.false_or,decide_eq_true_eq];rw[qW (by omega)]
   exact hu1
def q8a(hr:aj vj6 vj1 vj3 G s a w){T:TypeId}{parts:Array (Nat×Operand)}{ps:List Prop}{r:AV}(h:qb5 P s T parts.toList=some (ps,r)):∃z,(Instr.build T (parts.map fun(i,x)=>(i,a.eval x))).run P w = .ok z w/\ak r G z:=by
 unfold qb5 at h;split at h
 ·rename_i z ps' hz hps;obtain⟨zv,hzv,hzr⟩:=qqr hz w G;have hpp:=qnw hr hps;have hm:(parts.map fun(i,x)=>(i,a.eval x)).toList=parts.toList.map fun p=>(p.1,a.eval p.2):=by simp
  split at h
  ·rename_i fs hu;split at h
   ·rename_i places hpl;split at h
    ·rename_i cs hf;simp only[qI,qP]at h;obtain⟨_,rfl⟩:=h;obtain⟨us',hu1,hu2⟩:=qh7 hpp hzr hf;refine⟨.agg us',?_,us',rfl,hu2⟩;rw[← hm]at hu1;simp[Instr.build,hzv,bn hu,Array.mapM_eq_mapM_toList,run_places w _ _ (zba hpl)];simp at hu1;rw[hu1];simp
    ·cases h
   ·cases h
  ·rename_i n e hu;split at h
   ·rename_i sz hs;split at h
    ·rename_i cs hf;simp only[qI,qP]at h;obtain⟨_,rfl⟩:=h;obtain⟨us',hu1,hu2⟩:=qh7 hpp hzr hf;refine⟨.agg us',?_,us',rfl,hu2⟩;rw[← hm]at hu1;simp[Instr.build,hzv,bn hu,gg hs];simp at hu1;rw[hu1];simp
    ·cases h
   ·cases h
  ·cases h
 ·cases h
def tu(hr:aj vj6 vj1 vj3 G s a w){x:Option Operand}{n:Option Int}(h:iw s x=some n):(x=none/\n=none)\/∃y k m,x=some y/\n=some m/\a.eval y = .int k m:=by
 cases x with
 |none=>simp only[iw,qI]at h;exact .inl ⟨rfl,h.symm⟩|some y=>
  simp only[iw]at h;split at h
  ·rename_i k m hy;simp only[qI]at h;have:=je hr hy;simp only[ak]at this;exact .inr ⟨y,k,m,rfl,h.symm,this⟩
  ·rename_i c hy;simp only[qI]at h;have:=je hr hy;simp only[ak]at this;exact .inr ⟨y,.u8,c.toNat,rfl,h.symm,this⟩
  ·cases h
def pu{k:IntKind}{i:Int}{y:Nat}{code:BoundsCode}(h0:0<=i)(h1:i<=y):(Instr.sliceBound (.int k i) y code).run P w = .ok i.toNat w:=by
 simp[Instr.sliceBound,asIntOf,h0,h1]
def zfc(hr:aj vj6 vj1 vj3 G s a w){lo hi:Option Operand}{x y:Option Int}(hlo:iw s lo=some x)(hhi:iw s hi=some y){α:Type}{l:List α}(hp:ar (cut l x y).1)(b:Bool){c:Nat}(hc:l.length<=c) :
  ∃i j,(Instr.sliceBounds b l.length c (lo.map a.eval) (hi.map a.eval) none).run P w = .ok (i,j,c) w/\i<=j/\j<=l.length/\(cut l x y).2=(l.drop i).take (j-i):=by
 rcases tu hr hlo with⟨rfl,rfl⟩|⟨xo,kx,mx,rfl,rfl,hx⟩<;>rcases tu hr hhi with⟨rfl,rfl⟩|⟨yo,ky,my,rfl,rfl,hy⟩
 ·exact⟨0,l.length,by simp[Instr.sliceBounds],by omega,wF _,by simp[cut]⟩
 ·simp only[cut,ar,and_true]at hp;refine⟨0,my.toNat,?_,by omega,by omega,by simp[cut]⟩
  simp[Instr.sliceBounds,hy,pu (P:=P) (w:=w) hp.1 (show my<=(c:Int) by omega)]
 ·simp only[cut,ar,and_true]at hp;refine⟨mx.toNat,l.length,?_,by omega,wF _,?_⟩
  ·simp[Instr.sliceBounds,hx,pu (P:=P) (w:=w) hp.1 hp.2]
  ·simp only[cut];rw[List.take_of_length_le (by simp)]
 ·simp only[cut,ar,and_true]at hp;refine⟨mx.toNat,my.toNat,?_,by omega,by omega,by simp[cut]⟩
  simp[Instr.sliceBounds,hx,hy,pu (P:=P) (w:=w) (show 0<=my by omega) (show my<=(c:Int) by omega),pu (P:=P) (w:=w) hp.1 (show mx<=(my.toNat:Int) by omega)]
def zk4(hr:aj vj6 vj1 vj3 G s a w){t:TypeId}{x:Operand}{lo hi mx:Option Operand}{ps:List Prop}{r:AV}(h:qh3 P s t x lo hi mx=some (ps,r))(hp:ar ps) :
  ∃z,(Instr.sliceAt t (a.eval x) (lo.map a.eval) (hi.map a.eval) (mx.map a.eval)).run P w = .ok z w/\ak r G z:=by
 unfold qh3 at h;split at h
 ·rename_i x1 y1 l hlo hhi hx;split at h
  ·rename_i hu;simp only[qI,qP]at h;obtain⟨rfl,rfl⟩:=h;have hx:=bm hr hx;simp only[ak]at hx;obtain⟨i,j,h1,h2,h3,h4⟩:=zfc (P:=P) hr hlo hhi hp false (wF _);have hsz:(⟨l.toArray⟩:ByteArray).size=l.length:=by simp[ByteArray.size]
   refine⟨.string ((⟨l.toArray⟩:ByteArray).extract i j),?_,?_⟩
   ·simp[Instr.sliceAt,Instr.slice,bn hu,hx,hsz,h1]
   ·simp only[ak];congr 1;rw[h4];apply ByteArray.ext;simp[ByteArray.data_extract,List.extract_eq_take_drop]
  ·cases h
 ·rename_i x1 y1 τ l hlo hhi hx;split at h
  ·rename_i E hu;split at h
   ·rename_i sz' hsz;cases hq:Nat.beq τ.sz sz'<;>rw[hq]at h<;>simp only[qT,qF,reduceCtorEq,qI,qP]at h
    have hq:=qN hq;subst hq;obtain⟨rfl,rfl⟩:=h;obtain⟨ad,c,hv,hc,hl⟩:=bm hr hx;obtain⟨i,j,h1,h2,h3,h4⟩:=zfc (P:=P) hr hlo hhi hp true hc
    refine⟨.slice (if c=i then ad else ad.map (·.add (i*τ.sz))) (j-i) (c-i),?_,?_⟩
    ·simp[Instr.sliceAt,Instr.slice,bn hu,hv,h1,gg hsz]
    ·rw[h4];have ac:((l.drop i).take (j-i)).length=j-i:=by simp;omega
     refine⟨_,_,by rw[ac],by rw[ac];omega,?_⟩
     rcases hl with rfl|⟨b,o,rfl,hcells⟩
     ·exact .inl (by simp)
     ·by_cases hci:c=i
      ·exact .inl (List.eq_nil_of_length_eq_zero (by rw[ac];omega))
      ·refine .inr ⟨b,o+i*τ.sz,by rw[qW hci];simp[mg],fun k y hy => ?_⟩
       rw[List.getElem?_take]at hy;split at hy
       ·rw[List.getElem?_drop]at hy;have:=hcells _ _ hy
        rwa [show o+i*τ.sz+k*τ.sz=o+(i+k)*τ.sz by rw[Nat.add_mul];omega]
       ·cases hy
   ·cases h
  ·cases h
 ·rename_i kb hlo hhi hx;split at h
  ·rename_i n E hu;split at h
   ·rename_i sz hsz;simp only[qI,qP]at h;obtain⟨rfl,rfl⟩:=h;obtain⟨B,hB,hv⟩:=bm hr hx;rcases tu hr hlo with⟨rfl,_⟩|⟨_,_,_,_,e,_⟩
    rotate_left
    ·cases e
    rcases tu hr hhi with⟨rfl,_⟩|⟨_,_,_,_,e,_⟩
    rotate_left
    ·cases e
    refine⟨.slice (some ⟨B,0,none⟩) n n,?_,B,hB,wF _,rfl⟩;simp[Instr.sliceAt,bn hu,hv,Instr.sliceBounds,gg hsz,Instr.sureAddr,mg]
   ·cases h
  ·cases h
 ·cases h
def ce.flat{α:Type}{enc:α->List AV}{sz b:Nat}:∀{l:List α}{o:Nat},(∀x∈l,(enc x).length=sz)->(∀j x,l[j]? = some x->ce (enc x) G b (o+j*sz))->ce (l.flatMap enc) G b o
 |[],_,_,_=>trivial|x::l,o,hl,h=>by
  rw[List.flatMap_cons];refine ce.append (by simpa using h 0 x rfl) ?_
  rw[hl x qH];refine ce.flat (fun y hy=>hl y (qE _ hy)) (fun j y hy => ?_)
  have:=h (j+1) y (by simpa using hy)
  rwa [Nat.add_mul,Nat.one_mul,← Nat.add_assoc,Nat.add_right_comm]at this
def ce.values':∀{xs:List AV}{b o:Nat},ce xs G b o->∃vs:List Value,al xs G.data vs/\∀j u,vs[j]? = some u->G.imm b (o+j)=some u
 |[],_,_,_=>⟨[],trivial,fun j u h=>by simp at h⟩
 |x::xs,b,o,⟨⟨u,h1,h2⟩,h3⟩=>by
  obtain⟨vs,k1,k2⟩:=ce.values' h3;refine⟨u::vs,⟨h2,k1⟩,fun j v hv => ?_⟩
  cases j with|zero=>simp at hv;subst hv;exact h1|succ j=>simp at hv;rw[show o+(j+1)=o+1+j by omega];exact k2 j v hv
def za2{α:Type}{enc:α->List AV}{sz:Nat}:∀{l:List α},(∀x∈l,(enc x).length=sz)->(l.flatMap enc).length=l.length*sz
 |[],_=>by simp|x::l,h=>by
  rw[List.flatMap_cons,qM,h x qH,za2 (l:=l) (fun y hy=>h y (qE _ hy)),qL,Nat.add_mul];omega
def zt2:∀{x:AV}{v:Value},tw x=true->ak x G v->ak x G.data v:=fun{x v} hd h=>by
 cases x<;>first|exact h|simp[tw]at hd
def zek:∀{xs:List AV}{vs:List Value},allData xs=true->al xs G vs->al xs G.data vs
 |[],[],_,_=>trivial|[],_::_,_,h=>by simp[al]at h|_::_,[],_,h=>by simp[al]at h|x::xs,v::vs,hd,h=>by
  simp only[allData,qA]at hd;exact⟨zt2 hd.1 h.1,zek hd.2 h.2⟩
def qjt(hr:aj vj6 vj1 vj3 G s a w){x:AV}{v:Value}{flat:List AV}{n:Nat}(hx:ak x G v)(h:fb s x=some (flat,n)) :
  (∃b:List UInt8,x = .str b/\v = .string ⟨b.toArray⟩/\flat=b.map AV.byte/\n=b.length) \/
  ∃ad c us,v = .slice ad n c/\al flat G.data us/\(∀u∈us,u.oneCell'=true)/\(us=[]\/∃b o,ad=some ⟨b,o,none⟩/\∀j u,us[j]? = some u->w.cell? ⟨b,o+j,none⟩=some u):=by
 unfold fb at h;split at h
 ·rename_i τ l;simp only[qI,qP]at h;obtain⟨rfl,rfl⟩:=h;obtain⟨ad,c,rfl,hc,hl⟩:=hx;rcases hl with rfl|⟨b,o,rfl,hcells⟩
  ·exact .inr ⟨ad,c,[],rfl,trivial,by simp,.inl rfl⟩
  ·obtain⟨us,h1,h2⟩:=(ce.flat (G:=G) (enc:=τ.enc) (sz:=τ.sz) (fun x _=>τ.enc_length x) (fun j x hx=>ss.2 (hcells j x hx))).values'
   exact .inr ⟨_,c,us,rfl,h1,fun u hu=>by
    obtain⟨j,hj⟩:=List.mem_iff_getElem?.1 hu;exact hr.fin.mem.one _ _ _ (h2 j u hj),.inr ⟨b,o,rfl,fun j u hu=>hr.fin.mem.agree _ _ _ (h2 j u hu)⟩⟩
 ·rename_i b;simp only[qI,qP]at h;obtain⟨rfl,rfl⟩:=h;simp only[ak]at hx;exact .inl ⟨b,rfl,hx,rfl,rfl⟩
 ·simp only[qI,qP]at h;obtain⟨rfl,rfl⟩:=h;simp only[ak]at hx;exact .inr ⟨none,0,[],hx,trivial,by simp,.inl rfl⟩
 ·rename_i k;split at h
  ·rename_i τ l E hb;simp only[qI,qP]at h;obtain⟨rfl,rfl⟩:=h;obtain⟨ad,n',c',ho,rfl⟩:=hx;obtain⟨ad',c,h1,h3⟩:=hr.fin.mem.holds _ _ hb;rw[ho]at h1;simp only[qI,qP]at h1;obtain⟨rfl,rfl,rfl⟩:=h1;rcases h3 with⟨rfl,rfl,rfl⟩|⟨g,vs,fz,k1,k2,k3,k4,k5,k6,k7,k8,k9⟩
   ·exact .inr ⟨none,0,[],rfl,trivial,by simp,.inl rfl⟩
   ·refine .inr ⟨ad,c',_,rfl,k7,fun u hu=>k8 u (List.mem_of_mem_take hu),.inr ⟨g,0,k1,fun j u hu => ?_⟩⟩
    rw[List.getElem?_take]at hu;split at hu
    ·rw[wO];exact cell_of_heap k2 hu
    ·cases hu
  ·cases h
 ·rename_i kb m cc;split at h
  ·rename_i cs T hb;cases hq:Nat.beq m cc&&Nat.beq cs.length m&&allData (cs.map AV.sym)<;>rw[hq]at h<;>simp only[qT,qF,reduceCtorEq,qI,qP]at h
   obtain⟨rfl,rfl⟩:=h;simp only[qA]at hq;obtain⟨B,hB,_,rfl⟩:=hx;obtain⟨B',vs,k1,k2,k3,k4,_⟩:=hr.fin.mem.holds _ _ hb;rw[hB]at k1;simp only[qI]at k1;subst k1;refine .inr ⟨_,cc,vs.toList,rfl,zek hq.2 (q12 k3),k4,.inr ⟨B,0,rfl,fun j u hu => ?_⟩⟩
   rw[wO];exact cell_of_heap k2 hu
  ·cases h
 ·cases h
def zej:∀{b:List UInt8}{us:List Value},al (b.map AV.byte) G us->us=b.map fun c=>Value.int .u8 c.toNat
 |[],[],_=>rfl|c::b,u::us,h=>by
  have h1:u = .int .u8 c.toNat:=h.1;rw[List.map_cons,← zej h.2,h1]
 |[],_::_,h=>h.elim|_::_,[],h=>h.elim
def qdr{ad:Addr}{us:List Value}(h:us=[]\/∃b o,some ad=some (⟨b,o,none⟩:Addr)/\∀j u,us[j]? = some u->w.cell? ⟨b,o+j,none⟩=some u):(loadCells ad us.length).run P w = .ok us.toArray w:=by
 rcases h with rfl|⟨b,o,he,hc⟩
 ·simp[loadCells,loadCellsFrom]
 ·injection he with he;subst he
  have:=q2c (P:=P) (w:=w) b o us 0 #[] (fun j v hv=>by rw[Nat.add_zero];exact hc j v hv)
  simpa [loadCells] using this
def zff(l:List Int):(runesBytes l)=⟨(pt l).toArray⟩:=by
 have key:∀(l:List Int)(s:List UInt8),l.foldl (fun r n=>r++Utf8.encode n) (⟨s.toArray⟩:ByteArray)=⟨(s++pt l).toArray⟩:=by
  intro l
  induction l with
  |nil=>intro s;simp[pt]|cons n l ih=>
   intro s;rw[List.foldl_cons,show(⟨s.toArray⟩:ByteArray)++Utf8.encode n=⟨(s++oc n).toArray⟩ by
    apply ByteArray.ext;simp[oc,ByteArray.data_append],ih]
   simp[pt]
 exact key l []
def q11{G:Gh}:∀{l:List Int}{us:List Value},al (List.flatMap (β:=AV) (Ty.int .i32).enc l) G us->us=l.map (Value.int .i32)
 |[],[],_=>rfl|n::l,u::us,h=>by
  have h1:u = .int .i32 n:=h.1;rw[h1,q11 (l:=l) (us:=us) h.2];rfl
 |[],_::_,h=>h.elim|_::_,[],h=>h.elim
def zvn{src dst E:TypeId}(hs:P.underlying src=some (.slice E))(he:P.underlying E=some (.int .i32))(hd:P.underlying dst=some .string)(l:List Int){ad:Option Addr}{c:Nat}{us:List Value}
  (h1:al (List.flatMap (β:=AV) (Ty.int .i32).enc l) G.data us) (h3:us=[]\/∃b o,ad=some ⟨b,o,none⟩/\∀j u,us[j]? = some u->w.cell? ⟨b,o+j,none⟩=some u) :
  ∃z,(convert src dst (.slice ad l.length c)).run P w = .ok z w/\ak (.str (pt l)) G z:=by
 have hus:=q11 h1;refine⟨.string ⟨(pt l).toArray⟩,?_,rfl⟩
 cases ad with
 |none=>
  have:l=[]:=by
   rcases h3 with h3|⟨_,_,h3,_⟩
   ·rw[hus]at h3;simpa using h3
   ·cases h3
  subst this;rw[run_convert_runes_nil w src dst E _ c hs he hd];rfl
 |some ad=>
  have hlc:=qdr (P:=P) (w:=w) (ad:=ad) h3;have ac:us.length=l.length:=by rw[hus];simp
  rw[ac,hus]at hlc;exact(run_convert_runes_string w src dst E _ _ _ hs he hd).trans ((run_runesToString w ad l.length c l hlc).trans (by rw[zff]))
def zk5(hr:aj vj6 vj1 vj3 G s a w){src dst:TypeId}{x:AV}{v:Value}{d:D}{ps:List Prop}{r:AV}(hd:P.underlying dst=some .string)(hx:ak x G v)(h:qh4 P s src x d=some (ps,r))(hp:ar ps):∃z,(convert src dst v).run P w = .ok z w/\ak r G z:=by
 unfold qh4 at h;split at h
 ·rename_i E flat n b hs hsrc;split at h
  ·cases h
  ·rename_i he hne;simp only[qI,qP]at h;obtain⟨rfl,rfl⟩:=h;simp only[ar,and_true]at hp;obtain⟨rfl,rfl⟩:=hp;rcases qjt hr hx hsrc with⟨b',rfl,_⟩|⟨ad,c,us,rfl,h1,h2,h3⟩
   ·exact(hne b' rfl).elim
   ·have hus:=zej h1;refine⟨.string ⟨b.toArray⟩,?_,rfl⟩;rw[run_convert_bytes_string w src dst E ad _ c hs he hd]
    cases ad with
    |none=>
     have:b=[]:=by
      rcases h3 with h3|⟨_,_,h3,_⟩
      ·rw[hus]at h3;simpa using h3
      ·cases h3
     subst this;simp[Conv.bytesToString,ByteArray.empty,ByteArray.emptyWithCapacity];rfl
    |some ad=>
     have hl:=qdr (P:=P) (w:=w) (ad:=ad) h3;have ac:us.length=b.length:=by rw[hus];simp
     rw[ac,hus]at hl;have:=run_bytesToString (P:=P) w ad b.length c (b.map fun c=>(c.toNat:Int)) (by simpa [Function.comp_def] using hl)
     rw[this,foldl_push_bytes];congr 2;simp[Function.comp_def]
  ·cases h
 ·rename_i E flat n l hs hsrc;split at h
  ·cases h
  ·rename_i he hne;simp only[qI,qP]at h;obtain⟨rfl,rfl⟩:=h;simp only[ar,and_true]at hp;obtain⟨rfl,rfl⟩:=hp;rcases qjt hr hx hsrc with⟨b',rfl,_⟩|⟨ad,c,us,rfl,h1,h2,h3⟩
   ·exact(hne b' rfl).elim
   ·exact zvn hs he hd l h1 h3
  ·cases h
 ·cases h
def zmd(hr:aj vj6 vj1 vj3 G s a w){o:Oper}{d:D}{ps:List Prop}{v:AV}(h:de P s d o.op=some (ps,v))(hp:ar ps):q77 P G a w o v:=by
 obtain⟨dst,op,ty,pos,after,guard⟩:=o;unfold q77;have val:∀{x:Sem Value}{u:Value},x.run P w = .ok u w->(do pure (.value (← x)):Sem Next).run P w = .ok (.value u) w:=fun hx=>by simp[hx]
 simp only at h;unfold de at h;split at h
 ·split at h
  ·rename_i x v' hx;simp only[qI,qP]at h;obtain⟨rfl,rfl⟩:=h;exact⟨_,by simp[execOp],bm hr hx⟩
  ·cases h
 ·split at h
  ·rename_i x v' hx;simp only[qI,qP]at h;obtain⟨rfl,rfl⟩:=h;exact⟨_,by simp[execOp],bm hr hx⟩
  ·cases h
 ·split at h
  ·rename_i c x y b t hc;split at h
   ·rename_i v' hx;simp only[qI,qP]at h;obtain⟨rfl,rfl⟩:=h;simp only[ar,and_true]at hp;subst hp;have hc':=bm hr hc;simp only[ak]at hc';have hx':=bm hr hx;cases b
    ·exact⟨_,by simp[execOp,hc',asBool],hx'⟩
    ·exact⟨_,by simp[execOp,hc',asBool],hx'⟩
   ·cases h
  ·rename_i c x y b hc;split at h
   ·rename_i v' hx;simp only[qI,qP]at h;obtain⟨rfl,rfl⟩:=h;have hc':=bm hr hc;simp only[ak]at hc';have hx':=bm hr hx;cases b
    ·exact⟨_,by simp[execOp,hc',asBool],hx'⟩
    ·exact⟨_,by simp[execOp,hc',asBool],hx'⟩
   ·cases h
  ·cases h
 ·obtain⟨z,hz,hr'⟩:=q8a hr h;exact⟨z,val hz,hr'⟩
 ·obtain⟨z,hz,hr'⟩:=zk3 hr h hp;exact⟨z,val hz,hr'⟩
 ·obtain⟨z,hz,hr'⟩:=zk4 hr h hp;exact⟨z,val hz,hr'⟩
 ·split at h
  ·rename_i a' b' hx hy;obtain⟨⟨z,hz,hr'⟩,he⟩:=zk7 (w:=w) (bm hr hx) (bm hr hy) h hp;exact⟨z,val (by simp only[Sem.run_bind,he,Result.andThen_ok,hz]),hr'⟩
  ·cases h
 ·split at h
  ·rename_i op t x a' hx;split at h
   ·rename_i v' hv;simp only[qI,qP]at h;obtain⟨rfl,rfl⟩:=h;obtain⟨z,hz,hr'⟩:=zma (P:=P) (w:=w) (bm hr hx) hv;exact⟨z,val hz,hr'⟩
   ·cases h
  ·cases h
 ·split at h
  ·rename_i v' hs hx;split at h
   ·rename_i r' hc;simp only[qI]at h;subst h;obtain⟨z,hz,hr'⟩:=zkx (w:=w) (Option.ne_none_iff_exists'.2 ⟨_,hs⟩) (bm hr hx) hc;exact⟨z,val hz,hr'⟩
   ·split at h
    ·rename_i hd;obtain⟨z,hz,hr'⟩:=zk5 hr hd (bm hr hx) h hp;exact⟨z,val hz,hr'⟩
    ·cases h
  ·cases h
 ·split at h
  ·rename_i t x f v' hx;obtain⟨z,hz,hr'⟩:=zkz (w:=w) (bm hr hx) h;exact⟨z,val hz,hr'⟩
  ·cases h
 ·split at h
  ·rename_i t x f v' hx;obtain⟨z,hz,hr'⟩:=zky (w:=w) (bm hr hx) h;exact⟨z,val hz,hr'⟩
  ·cases h
 ·split at h
  ·rename_i i _ vs hx;split at h
   ·rename_i v' hv;simp only[qI,qP]at h;obtain⟨rfl,rfl⟩:=h;obtain⟨us,hus,hr'⟩:=bm hr hx;obtain⟨u,hu,hru⟩:=jy hr' hv;refine⟨u,val ?_,hru⟩;have:us[i]? = some u:=by simpa using hu
    simp[hus,Instr.extract,this]
   ·cases h
  ·cases h
 ·split at h
  ·rename_i t x i v' j hx hj;obtain⟨z,hz,hr'⟩:=zk1 (w:=w) (bm hr hx) (je hr hj) h hp;exact⟨z,val hz,hr'⟩
  ·cases h
 ·split at h
  ·rename_i t x i v' j hx hj;obtain⟨z,hz,hr'⟩:=zk0 hr (bm hr hx) (je hr hj) h hp;exact⟨z,val hz,hr'⟩
  ·cases h
 ·split at h
  ·rename_i f first cap _ _ fs cs hf hc
   simp only[qI,qP]at h;obtain⟨rfl,rfl⟩:=h;refine⟨.func f (first.map a.eval) (cap.map a.eval),val (by simp[Instr.makeFunc]),_,_,rfl,by simpa using y6 hr hf,by simpa using y6 hr hc⟩
  ·cases h
 ·split at h
  ·rename_i args argTypes _ _ x t ha ht;split at h
   ·rename_i v' hx;obtain⟨z,hz,hr'⟩:=zk2 hr (ty:=ty) (bm hr hx) h;refine⟨z,?_,hr'⟩;have e1:args=#[x]:=by rw[← Array.toArray_toList (xs:=args),ha]
    have e2:argTypes=#[t]:=by rw[← Array.toArray_toList (xs:=argTypes),ht]
    subst e1 e2;simp[execOp,resolve,invoke,builtin,hz]
   ·cases h
  ·cases h
 ·split at h
  ·rename_i args _ _ x y ha;split at h
   ·rename_i u v hx hy;have e1:args=#[x,y]:=by rw[← Array.toArray_toList (xs:=args),ha]
    subst e1;unfold qya at h;split at h
    ·rename_i k a' k' b';have hx':=je hr hx;have hy':=je hr hy;simp only[ak]at hx' hy';cases hk:decide (k=k')<;>rw[hk]at h<;>simp only[qT,qF,reduceCtorEq,qI,qP]at h
     obtain⟨rfl,rfl⟩:=h;exact⟨_,by simp[execOp,resolve,invoke,builtin,Builtin.max_,Builtin.max2,hx',hy'],rfl⟩
    ·cases h
   ·cases h
  ·cases h
 ·split at h
  ·rename_i args _ _ x y ha;split at h
   ·rename_i u v hx hy;have e1:args=#[x,y]:=by rw[← Array.toArray_toList (xs:=args),ha]
    subst e1;unfold qyb at h;split at h
    ·rename_i k a' k' b';have hx':=je hr hx;have hy':=je hr hy;simp only[ak]at hx' hy';cases hk:decide (k=k')<;>rw[hk]at h<;>simp only[qT,qF,reduceCtorEq,qI,qP]at h
     obtain⟨rfl,rfl⟩:=h;exact⟨_,by simp[execOp,resolve,invoke,builtin,Builtin.min_,Builtin.min2,hx',hy'],rfl⟩
    ·cases h
   ·cases h
  ·cases h
 ·split at h
  ·rename_i x v' hx;cases hb:zc1 v'<;>rw[hb]at h<;>simp only[qT,qF,reduceCtorEq,qI,qP]at h
   obtain⟨rfl,rfl⟩:=h;have hx':=bm hr hx;refine⟨_,?_,hx'⟩;cases v'<;>first|cases hb|skip
   ·obtain⟨B,_,e⟩:=hx';simp[execOp,e]
   ·obtain⟨b,o,e,_⟩:=hx';simp[execOp,e]
   ·obtain⟨b,n,c,_,e⟩:=hx';simp[execOp,e]
  ·cases h
 ·cases h
end
def pm(l r:List (Nat×ah))(n:Nat):ae (l++r) n=match ae l n with|some b=>some b|none=>ae r n:=by
 induction l with
 |nil=>rfl|cons x l ih=>
  obtain⟨k,v⟩:=x;simp only[wK,ae];cases Nat.beq k n<;>simp[ih]
def lx{lo:Nat}:∀{hp:List (Nat×ah)},a8 lo hp=true->∀m,lo<=m->m<lo+32->ae hp m=none
 |[],_,m,_,_=>rfl|(n,b)::r,h,m,h1,h2=>by
  simp only[a8,qA,Bool.or_eq_true,Nat.blt_eq,Nat.ble_eq]at h;simp only[ae];cases hb:Nat.beq n m
  ·simpa using lx h.2 m h1 h2
  ·have:=qN hb;omega
section
variable{P:Program}{vj6:World}{vj1:Gh}{vj3:List (Nat×ah)}{G:Gh}{s:St}{a:Act}{w:World}
def dj.mono{G':Gh}{w':World}(hle:G.le G')(hblk:∀b,b<w.heap.size->w'.heap[b]? = w.heap[b]?)(hi:∀b o v,G'.imm b o=some v->G.imm b o=some v\/w.heap.size<=b){n:Nat}{bx:ah}(h:dj G w n bx):dj G' w' n bx:=by
 have hlt:∀{B:Nat}{o:Obj},w.heap[B]? = some o->B<w.heap.size:=fun h=>(Array.getElem?_eq_some_iff.1 h).1
 have him:∀B,B<w.heap.size->(∀o,G.imm B o=none)->∀o,G'.imm B o=none:=fun B hB h0 o=>by
  cases hq:G'.imm B o with
  |none=>rfl|some v=>
   rcases hi _ _ _ hq with h|h
   ·rw[h0]at h;cases h
   ·omega
 cases bx with
 |cells cs T=>
  obtain⟨B,vs,h1,h2,h3,h4,h5⟩:=h;exact⟨B,vs,hle.box _ _ h1,by rw[hblk _ (hlt h2)];exact h2,h3.le hle,h4,him _ (hlt h2) h5⟩
 |row τ l E=>
  obtain⟨ad,c,h1,h3⟩:=h;refine⟨ad,c,hle.own _ _ h1,?_⟩;rcases h3 with h3|⟨g,vs,fz,k1,k2,k3,k4,k5,k6,k7,k8,k9⟩
  ·exact .inl h3
  ·exact .inr ⟨g,vs,fz,k1,by rw[hblk _ (hlt k2)];exact k2,k3,k4,k5,k6,al.data_le hle.imm k7,k8,him _ (hlt k2) k9⟩
 |loop st pe f m fr ps tag D=>
  obtain⟨B,tmps,DB,h1,h2,h3,h4,h5,h6⟩:=h;exact⟨B,tmps,DB,hle.box _ _ h1,hle.box _ _ h2,by rw[hblk _ h3.lt];exact h3,h4,fun i x hx=>by obtain⟨v,k1,k2⟩:=h5 i x hx;exact⟨v,k1,k2.le hle⟩,him _ h3.lt h6⟩
 |dfr=>
  obtain⟨B,h1,h2,h3⟩:=h;exact⟨B,hle.box _ _ h1,by rw[hblk _ (hlt h2)];exact h2,him _ (hlt h2) h3⟩
 |it s0 p0=>
  obtain⟨B,h1,h2,h3⟩:=h;exact⟨B,hle.box _ _ h1,by rw[hblk _ (hlt h2)];exact h2,him _ (hlt h2) h3⟩
 |dead=>trivial
def dj.at_some{n:Nat}{bx:ah}(h:dj G w n bx){b:Nat}(hb:G.at n bx=some b):b<w.heap.size:=by
 have hlt:∀{B:Nat}{o:Obj},w.heap[B]? = some o->B<w.heap.size:=fun h=>(Array.getElem?_eq_some_iff.1 h).1
 cases bx with
 |cells cs T=>
  obtain⟨B,vs,h1,h2,_⟩:=h;simp only[Gh.at,h1,qI]at hb;subst hb;exact hlt h2
 |row τ l E=>
  obtain⟨ad,c,h1,h3⟩:=h;rcases h3 with⟨h3,_⟩|⟨g,vs,fz,k1,k2,_⟩
  ·subst h3;simp only[Gh.at,h1]at hb;cases hb
  ·subst k1;simp only[Gh.at,h1,qI]at hb;subst hb;exact hlt k2
 |loop st pe f m fr ps tag D=>
  obtain⟨B,tmps,DB,h1,h2,h3,_⟩:=h;simp only[Gh.at,h1,qI]at hb;subst hb;exact h3.lt
 |dfr=>
  obtain⟨B,h1,h2,_⟩:=h;simp only[Gh.at,h1,qI]at hb;subst hb;exact hlt h2
 |it s0 p0=>
  obtain⟨B,h1,h2,_⟩:=h;simp only[Gh.at,h1,qI]at hb;subst hb;exact hlt h2
 |dead=>cases hb
def dj.at_le{G':Gh}{n:Nat}{bx:ah}(h:dj G w n bx)(hle:G.le G'):G'.at n bx=G.at n bx:=by
 cases bx with
 |cells cs T=>
  obtain⟨B,vs,h1,_⟩:=h;simp only[Gh.at,h1,hle.box _ _ h1]
 |row τ l E=>
  obtain⟨ad,c,h1,_⟩:=h;simp only[Gh.at,h1,hle.own _ _ h1]
 |loop st pe f m fr ps tag D=>
  obtain⟨B,tmps,DB,h1,_⟩:=h;simp only[Gh.at,h1,hle.box _ _ h1]
 |dfr=>
  obtain⟨B,h1,_⟩:=h;simp only[Gh.at,h1,hle.box _ _ h1]
 |it s0 p0=>
  obtain⟨B,h1,_⟩:=h;simp only[Gh.at,h1,hle.box _ _ h1]
 |dead=>rfl
def cd(w w':World):Prop:=ei (fun _=>False) w w'
def Fin.extend{hp new:List (Nat×ah)}(hf:Fin vj6 vj1 vj3 G hp w){G':Gh}{w':World}(hle:G.le G')(hst:cd w w')(hi:∀b o v,G'.imm b o=some v->G.imm b o=some v\/w.heap.size<=b)
  (hag:∀b o v,G'.imm b o=some v->w'.cell? ⟨b,o,none⟩=some v) (hone:∀b o v,G'.imm b o=some v->v.oneCell'=true)
  (_hdis:∀n bx,ae new n=some bx->ae hp n=none)
  (hnew:∀n bx,ae new n=some bx->dj G' w' n bx/\∀b,G'.at n bx=some b->w.heap.size<=b)
  (hap:∀n m bx bx' b,ae new n=some bx->ae new m=some bx'->G'.at n bx=some b->G'.at m bx'=some b->n=m):Fin vj6 vj1 vj3 G' (new++hp) w':=by
 have hblk:∀b,b<w.heap.size->w'.heap[b]? = w.heap[b]? := fun b hb=>hst.block b hb (fun h=>h)
 have hlk:∀n bx,ae (new++hp) n=some bx->ae new n=some bx\/(ae new n=none/\ae hp n=some bx):=fun n bx h=>by
  rw[pm]at h
  cases hq:ae new n with|some b'=>rw[hq]at h;exact .inl h|none=>rw[hq]at h;exact .inr ⟨rfl,h⟩
 have hsz:=hf.bel.size;refine⟨⟨hag,hone,?_,?_,LC.mono hle.imm (fun b o v h=>hblk b (World.block_lt_of_cell? _ _ (hf.mem.agree b o v h))) hf.mem.tab⟩,?_,fun b o v h=>hle.imm _ _ _ (hf.imm_le _ _ _ h),?_,?_,fun n bx B h1 h2=>hle.box _ _ (hf.keep n bx B h1 h2),fun n bx B h1 h2=>hle.own _ _ (hf.keepOwn n bx B h1 h2)⟩
 ·intro n bx h;rcases hlk n bx h with h|⟨_,h⟩
  ·exact(hnew n bx h).1
  ·exact(hf.mem.holds n bx h).mono hle hblk hi
 ·intro n m bx bx' b h1 h2 h3 h4;rcases hlk n bx h1 with h1|⟨_,h1⟩<;>rcases hlk m bx' h2 with h2|⟨_,h2⟩
  ·exact hap n m bx bx' b h1 h2 h3 h4
  ·have k1:=(hnew n bx h1).2 b h3;rw[(hf.mem.holds m bx' h2).at_le hle]at h4;have k2:=(hf.mem.holds m bx' h2).at_some h4;omega
  ·have k1:=(hnew m bx' h2).2 b h4;rw[(hf.mem.holds n bx h1).at_le hle]at h3;have k2:=(hf.mem.holds n bx h1).at_some h3;omega
  ·rw[(hf.mem.holds n bx h1).at_le hle]at h3;rw[(hf.mem.holds m bx' h2).at_le hle]at h4;exact hf.mem.apart n m bx bx' b h1 h2 h3 h4
 ·exact⟨hst.os.trans hf.bel.os,hst.tape.trans hf.bel.tape,hst.output.trans hf.bel.output,Nat.le_trans hsz hst.size,fun k hk hS=>by
   rw[hblk k (Nat.lt_of_lt_of_le hk hsz)];exact hf.bel.block k hk hS⟩
 ·intro b o v h;rcases hi b o v h with h|h
  ·exact hf.imm_new b o v h
  ·exact .inr (.inl (Nat.le_trans hsz h))
 ·intro n bx b h1 h2;rcases hlk n bx h1 with h1|⟨_,h1⟩
  ·exact .inl (Nat.le_trans hsz ((hnew n bx h1).2 b h2))
  ·rw[(hf.mem.holds n bx h1).at_le hle]at h2;exact hf.base n bx b h1 h2
def qr{G':Gh}(hb:∀n B,G.box n=some B->G'.box n=some B):∀{df bs:List Nat},bs.map some=df.map G.box->bs.map some=df.map G'.box
 |[],[],_=>rfl|n::df,b::bs,h=>by
  simp only[List.map_cons,List.cons.injEq]at h ⊢;exact⟨(hb n b h.1.symm).symm,qr hb h.2⟩
 |[],_::_,h=>by simp at h|_::_,[],h=>by simp at h
def aj.put(hr:aj vj6 vj1 vj3 G s a w){G':Gh}{w':World}{dst:Option Tmp}{v:AV}{u:Value}{new:List (Nat×ah)}{s':St}(hs:s.add dst v new=some s')(hle:G.le G')
  (hfr:∀m,s.nx<=m->ae (new++s.hp) m=none->G'.box m=none/\G'.own m=none) (hv:ak v G' u) (hf:Fin vj6 vj1 vj3 G' (new++s.hp) w'):aj vj6 vj1 vj3 G' s' (a.put dst u) w':=by
 cases dst with
 |none=>
  simp only[St.add,qI]at hs;subst hs;exact⟨by obtain⟨bs,h1,h2⟩:=hr.defers;exact⟨bs,h1,qr hle.box h2⟩,hr.size,fun i x hx=>by obtain⟨v,h1,h2⟩:=hr.frame i x hx;exact⟨v,h1,h2.le hle⟩,hfr,hf⟩
 |some d=>
  simp only[St.add]at hs;cases hb:Nat.blt d s.n<;>rw[hb]at hs<;>simp only[qT,qF,reduceCtorEq,qI]at hs
  subst hs;have hd:d<s.n:=by simpa using hb
  refine⟨by obtain⟨bs,h1,h2⟩:=hr.defers;exact⟨bs,h1,qr hle.box h2⟩,by simp[Act.put,hr.size],fun i x hx => ?_,hfr,hf⟩
  simp only[ae]at hx;cases he:Nat.beq d i
  ·rw[he]at hx;simp only[qF]at hx;have hne:d≠i:=fun e=>by subst e;simp at he
   obtain⟨v,h1,h2⟩:=hr.frame i x hx;exact⟨v,by simp[Act.put,hne,h1],h2.le hle⟩
  ·rw[he]at hx;simp only[qT,qI]at hx;subst hx;have:=qN he;subst this;exact⟨u,by simp[Act.put,hr.size,hd],hv⟩
def gn(hr:aj vj6 vj1 vj3 G s a w){dst:Option Tmp}{v:AV}{u:Value}{s':St}(hs:s.add dst v []=some s')(hv:ak v G u):aj vj6 vj1 vj3 G s' (a.put dst u) w:=
 hr.put hs (Gh.le.refl G) hr.fresh hv hr.fin
end
def dt:∀{ps qs:List Prop},ar (ps++qs)↔ar ps/\ar qs|[],qs=>by simp[ar]|p::ps,qs=>by simp[ar,dt (ps:=ps),and_assoc]
mutual
def q20{b:Bool}{hp:List (Nat×ah)}{G G':Gh}(hle:G.le G')(hown:b=true->∀k τ l E v,ae hp k=some (.row τ l E)->ak (.own k) G v->ak (.sl τ l) G' v) :
  ∀{x y:AV}{ps:List Prop}{v:Value},vw b hp x y=some ps->ar ps->ak x G v->ak y G' v:=by
 intro x y ps v h hp hx;unfold vw at h;split at h
 ·obtain⟨vs,h1,h2⟩:=hx;exact⟨vs,h1,kh hle hown h hp h2⟩
 ·obtain⟨vs,h1,h2⟩:=hx;exact⟨vs,h1,kh hle hown h hp h2⟩
 ·split at h
  ·rename_i f xs ys f' xs' ys' _ _ ps1 ps2 h1 h2;simp only[qI]at h;subst h;obtain⟨p0,p1,p2⟩:=(show(f'=f)/\ar ps1/\ar ps2 from⟨hp.1,dt.1 hp.2⟩)
   subst p0;obtain⟨fs,cs,k1,k2,k3⟩:=hx;exact⟨fs,cs,k1,kh hle hown h1 p1 k2,kh hle hown h2 p2 k3⟩
  ·cases h
 ·rename_i k τ l;cases b
  ·cases h
  ·simp only[qT]at h;split at h
   ·rename_i τ' l' E hl;simp only[qI]at h;subst h;simp only[ar,and_true]at hp;rw[hp];exact hown rfl _ _ _ _ _ hl hx
   ·cases h
 ·split at h
  ·simp only[qI]at h;subst h;simp only[ar,and_true]at hp;rename_i τ l _;have:l=[]:=List.eq_nil_of_length_eq_zero hp;subst this;simp only[ak]at hx;subst hx;exact⟨none,0,rfl,by simp,.inl rfl⟩
  ·cases h
 ·exact trivial
 ·simp only[qI]at h;subst h;simp only[ar,and_true]at hp;rw[hp];exact hx.le hle
 ·simp only[qI]at h;subst h;simp only[ar,and_true]at hp;rw[hp];exact(g7 hx).le hle
 ·simp only[qI]at h;subst h;simp only[ar,and_true]at hp;rw[hp];exact hx.le hle
def kh{b:Bool}{hp:List (Nat×ah)}{G G':Gh}(hle:G.le G')(hown:b=true->∀k τ l E v,ae hp k=some (.row τ l E)->ak (.own k) G v->ak (.sl τ l) G' v) :
  ∀{xs ys:List AV}{ps:List Prop}{vs:List Value},bj b hp xs ys=some ps->ar ps->al xs G vs->al ys G' vs:=by
 intro xs ys ps vs h hp hx;unfold bj at h;split at h
 ·match vs,hx with|[],_=>trivial
 ·split at h
  ·rename_i ps1 h1;split at h
   ·rename_i ps2 h2;simp only[qI]at h;subst h;obtain⟨p1,p2⟩:=dt.1 hp
    match vs,hx with|v::vs,hx=>exact⟨q20 hle hown h1 p1 hx.1,kh hle hown h2 p2 hx.2⟩
   ·cases h
  ·cases h
 ·cases h
end
def zgx{b:Bool}{hp:List (Nat×ah)}:∀{xs ys:List AV}{ps:List Prop},bj b hp xs ys=some ps->xs.length=ys.length
 |[],[],_,_=>rfl|x::xs,y::ys,ps,h=>by
  simp only[bj]at h;split at h
  ·split at h
   ·rename_i h2;simp[zgx h2]
   ·cases h
  ·cases h
 |[],_::_,_,h=>by simp[bj]at h|_::_,[],_,h=>by simp[bj]at h
def l7(cs:List Value)(off:Nat):List Value->List Value|[]=>cs|x::xs=>l7 (cs.set off x) (off+1) xs
def qd1:∀(xs cs:List Value)(off:Nat),(l7 cs off xs).length=cs.length|[],_,_=>rfl|x::xs,cs,off=>by rw[l7,qd1];simp
def qd2:∀(xs cs:List Value)(off:Nat)(v:Value),v∈l7 cs off xs->v∈cs\/v∈xs
 |[],_,_,v,h => .inl h|x::xs,cs,off,v,h=>by
  rcases qd2 xs _ _ v h with h|h
  ·rcases List.mem_or_eq_of_mem_set h with h|h
   ·exact .inl h
   ·exact .inr (by simp[h])
  ·exact .inr (by simp[h])
def qqh{G:Gh}:∀{xs cs:List AV}{us vs:List Value}(off:Nat),al cs G us->al xs G vs->al (fa cs off xs) G (l7 us off vs)|[],_,_,[],_,h,_=>h|_x::xs,_cs,_us,_v::vs,off,h,hx=>qqh (xs:=xs) (vs:=vs) (off+1) (qjl off h hx.1) hx.2|[],_,_,_::_,_,_,h=>h.elim|_::_,_,_,[],_,_,h=>h.elim
section
variable{P:Program}{vj6:World}{vj1:Gh}{vj3:List (Nat×ah)}{G:Gh}{s:St}{a:Act}{w:World}
def qjv(w:World)(o:Obj):cd w (w.alloc o):=
 ⟨rfl,rfl,rfl,by simp,fun k hk _=>Below.heap_alloc _ _ _ hk⟩
def pd(w:World)(o:Obj):(w.alloc o).heap[w.heap.size]? = some o:=by
 show(w.heap.push o)[w.heap.size]? = _;simp
def qdt(g o:Nat)(T:TypeId)(fz:Nat×Nat):∀(vs:List Value)(i:Nat)(cur:Array Value)(w:World),w.heap[g]? = some (.cells cur T fz)->o+i+vs.length<=cur.size->(fz=(0,0)\/cur.size<=fz.1)->(∀v∈vs,v.oneCell'=true) ->
  ∃w' cur',(storeCells ⟨g,o,none⟩ vs i).run P w = .ok () w'/\w'.heap[g]? = some (.cells cur' T fz)/\cur'.toList=l7 cur.toList (o+i) vs/\ei (fun b=>b=g) w w'
 |[],i,cur,w,hg,_,_,_=>⟨w,cur,by simp[storeCells],hg,rfl,rfl,rfl,rfl,wF _,fun _ _ _=>rfl⟩
 |v::vs,i,cur,w,hg,hl,hz,ho=>by
  simp only[qL]at hl;have hc:w.cell? ⟨g,o+i,none⟩=some cur[o+i]:=by simp[World.cell?,hg]
  have hfz:w.frozen? ⟨g,o+i,none⟩=false:=by
   simp only[World.frozen?,hg];rcases hz with rfl|hz
   ·simp
   ·simp;omega
  have hv:=ho v (by simp)
  have hst:(store (Addr.add ⟨g,o,none⟩ i) v).run P w = .ok () (w.setCell ⟨g,o+i,none⟩ v):=by
   rw[mg,run_store P w _ v _ hv];simp[hc,hfz]
  have hg':(w.setCell ⟨g,o+i,none⟩ v).heap[g]? = some (.cells (cur.setIfInBounds (o+i) v) T fz):=by
   simp[World.setCell,Array.getElem?_modify,hg]
  obtain⟨w',cur',h1,h2,h3,h4⟩:=qdt g o T fz vs (i+1) (cur.setIfInBounds (o+i) v) (w.setCell ⟨g,o+i,none⟩ v) hg' (by simp;omega) (by simpa using hz) (fun u hu=>ho u (by simp[hu]))
  refine⟨w',cur',?_,h2,?_,?_⟩
  ·simp only[storeCells,Sem.run_bind,hst,Result.andThen_ok];exact h1
  ·rw[h3,l7];simp[Nat.add_assoc]
  ·refine⟨h4.os,h4.tape,h4.output,by simpa using h4.size,fun k hk hne => ?_⟩
   rw[h4.block k (by simpa using hk) hne]
   exact Below.heap_setCell _ _ _ _ hne
def q2x:∀(xs cs:List Value)(off:Nat),off+xs.length<=cs.length->(l7 cs off xs).take (off+xs.length)=cs.take off++xs
 |[],cs,off,_=>by simp[l7]|x::xs,cs,off,h=>by
  simp only[qL]at h;have:=q2x xs (cs.set off x) (off+1) (by simp;omega)
  rw[l7,qL,show off+(xs.length+1)=off+1+xs.length by omega,this]
  have h2:(cs.set off x).take (off+1)=cs.take off++[x]:=by
   rw[List.take_succ_eq_append_getElem (by simp;omega)]
   simp[List.take_set_of_le]
  rw[h2];simp
def q2y:∀(xs cs:List Value)(off n:Nat),n<=cs.length->(l7 cs off xs).take n=l7 (cs.take n) off xs
 |[],cs,off,n,_=>rfl|x::xs,cs,off,n,h=>by
  rw[l7,q2y xs _ (off+1) n (by simpa using h),l7,List.take_set]
def zfb{t t2 ty E:TypeId}{i:TypeInfo}{z:Value}(ht:P.underlying t=some (.slice E))(hi:P.info? E=some i)(hz:i.zero=some z)(hzs:z.cells.size=i.size)(hsz:0<i.size)(hby:i.bytes<=32768)(hz1:∀v∈z.cells.toList,v.oneCell'=true)(ht2:zk P t2=true)
  {ad:Option Addr} {n c:Nat} {us:List Value} (hrow:fe w E i.size ad n c us)
  {x:Value} {m:Nat} {news:List Value} (ac:∀w,(Builtin.lenOf x).run P w = .ok m w) (hcells:∀w',w'.heap=w.heap->(Builtin.firstCells i.size m x).run P w' = .ok news.toArray w') (hnl:news.length=m*i.size) (hn1:∀v∈news,v.oneCell'=true)
  (hmax:n+m<=a7) :
  ∃ad' c' w',(Builtin.append_ #[t,t2] ty #[.slice ad n c,x]).run P w = .ok (.slice ad' (n+m) c') w'/\fe w' E i.size ad' (n+m) c' (us++news)/\(cv ad'=cv ad\/∃g,cv ad'=some g/\w.heap.size<=g)/\ei (fun b=>cv ad=some b) w w':=by
 unfold a7 at hmax;obtain⟨d2,hd2,hd2'⟩:∃d2,P.underlying t2=some d2/\∀k,d2 ≠ .int k:=by
  unfold zk at ht2;split at ht2
  ·cases ht2
  ·rename_i d h1 h2;exact⟨d,h2,fun k e=>h1 k e⟩
  ·cases ht2
 have hzeros:(d2 matches .int _)=false:=by
  cases d2<;>first|rfl|exact absurd rfl (hd2' _)
 obtain⟨hul,hrow⟩:=hrow;have hlenall:(us++news).length=(n+m)*i.size:=by rw[qM,hul,hnl,Nat.add_mul]
 -- growing
 have grow:∀(old:List Value),old=us->n+m>c->(∀w',w'.heap=w.heap->(Builtin.firstCells i.size n (.slice ad n c)).run P w' = .ok old.toArray w') ->
   ∃ad' c' w',(Builtin.append_ #[t,t2] ty #[.slice ad n c,x]).run P w = .ok (.slice ad' (n+m) c') w'/\fe w' E i.size ad' (n+m) c' (us++news)/\(cv ad'=cv ad\/∃g,cv ad'=some g/\w.heap.size<=g)/\ei (fun b=>cv ad=some b) w w':=by
  intro old hold hgt hfc;rw[hold]at hfc;clear hold;have hcap:Builtin.nextslicecap (n+m) c<=2*(n+m):=by
   exact nextslicecap_le (by omega)
  have hb1:¬Builtin.nextslicecap (n+m) c*i.bytes>2 ^ 48:=by
   have:Builtin.nextslicecap (n+m) c*i.bytes<=2*(n+m)*32768:=Nat.mul_le_mul hcap hby;omega
  let nc:=Question.cut (.appendCap (n+m) c E) (w.tape w.drawn (.appendCap (n+m) c E))
  have hnc1:n+m<=nc:=by simp[nc,Question.cut]
  have hnc2:nc<=maxLen:=by
   have:=Nat.mod_lt (w.tape w.drawn (.appendCap (n+m) c E)) (show 0<2 ^ 63-(n+m) by omega)
   simp only[nc,Question.cut,maxLen];omega
  refine⟨some ⟨w.heap.size,0,none⟩,nc,w.drew.alloc (.cells (us.toArray++news.toArray++Builtin.zeroCells z.cells (nc-(n+m))) E),?_,?_,.inr ⟨w.heap.size,rfl,wF _⟩,?_⟩
  ·have hfc':=hfc w.drew rfl;have hcc:=hcells w.drew rfl;have hi64:¬(9223372036854775807<(n:Int)+m):=by omega
   have hb2:¬281474976710656<Builtin.nextslicecap (n+m) c*i.bytes:=by omega
   have hforced:(Question.appendCap (n+m) c E).forced=false:=rfl;have hhp:w.drew.heap=w.heap:=rfl;simp only[Builtin.append_];simp[bn ht,bn hd2,Go.sizeOf,wg hi,ac,show ¬n+m<=c by omega,zeroValue,hz,hi64,hb2,hforced,hfc',hcc,newRow,nc]
   simp[← Array.append_assoc]
  ·refine⟨hlenall,.inr ⟨w.heap.size,_,(0,0),rfl,pd w.drew _,.inl rfl,hnc1,hnc2,?_,?_,?_⟩⟩
   ·simp only[Array.size_append,List.size_toArray,Builtin.zeroCells,Array.size_map,Array.size_range,hzs,hul,hnl,← Nat.add_mul];congr 1;omega
   ·simp only[Array.toList_append,qS];rw[← qS,← hlenall];exact List.take_left
   ·intro v hv;simp only[Array.toList_append,wA]at hv;rcases hv with(hv|hv)|hv
    ·rcases hrow with⟨_,rfl,_⟩|⟨g,vs,fz,_,_,_,_,_,_,h7,h8⟩
     ·have:us=[]:=List.eq_nil_of_length_eq_zero (by simpa using hul)
      subst this;simp at hv
     ·rw[← h7]at hv;exact h8 v (List.mem_of_mem_take (by simpa using hv))
    ·exact hn1 v (by simpa using hv)
    ·simp only[Builtin.zeroCells,Array.toList_map,List.mem_map,Array.toList_range,List.mem_range]at hv;obtain⟨k,hk,rfl⟩:=hv;have:k%z.cells.size<z.cells.size:=Nat.mod_lt _ (by omega)
     rw[getElem!_pos z.cells _ this];exact hz1 _ (by simp)
  ·exact⟨rfl,rfl,rfl,by simp,fun k hk _=>Below.heap_alloc w.drew _ k hk⟩
 rcases hrow with⟨rfl,rfl,rfl⟩|⟨g,vs,fz,rfl,h2,h3,h4,h5,h6,h7,h8⟩
 ·have hus:us=[]:=List.eq_nil_of_length_eq_zero (by simpa using hul)
  by_cases hm:m=0
  ·subst hm;have hnn:news=[]:=List.eq_nil_of_length_eq_zero (by simpa using hnl)
   subst hnn hus;refine⟨none,0,w,?_,⟨by simp,.inl ⟨rfl,rfl,rfl⟩⟩,.inl rfl,⟨rfl,rfl,rfl,wF _,fun _ _ _=>rfl⟩⟩
   simp[Builtin.append_,bn ht,bn hd2,Go.sizeOf,wg hi,ac,hcells w rfl]
  ·exact grow us rfl (by omega) (fun w' _=>by subst hus;simp[Builtin.firstCells])
 ·by_cases hroom:n+m<=c
  ·have hfit:n*i.size+news.length<=vs.size:=by rw[hnl,h6,← Nat.add_mul];exact Nat.mul_le_mul_right _ hroom
   obtain⟨w',cur',k1,k2,k3,k4⟩:=qdt (P:=P) g (n*i.size) E fz news 0 vs w h2 (by omega) h3 hn1
   refine⟨some ⟨g,0,none⟩,c,w',?_,⟨hlenall,.inr ⟨g,cur',fz,rfl,k2,?_,hroom,h5,?_,?_,?_⟩⟩,.inl rfl,⟨k4.os,k4.tape,k4.output,k4.size,fun k hk hne=>k4.block k hk (fun e=>hne (by subst e;rfl))⟩⟩
   ·simp[Builtin.append_,bn ht,bn hd2,Go.sizeOf,wg hi,ac,hcells w rfl,hroom,mg,k1]
   ·have hs:cur'.size=vs.size:=by rw[← Array.length_toList,k3,qd1,Array.length_toList]
    rw[hs];exact h3
   ·rw[← Array.length_toList,k3,qd1,Array.length_toList,h6]
   ·rw[k3,Nat.add_zero,Nat.add_mul,← hnl,q2x news vs.toList (n*i.size) (by rw[Array.length_toList];exact hfit),h7]
   ·intro v hv;rw[k3]at hv;rcases qd2 _ _ _ _ hv with hv|hv
    ·exact h8 v hv
    ·exact hn1 v hv
  ·refine grow us rfl (by omega) (fun w' hw' => ?_)
   have hc':∀j u,us[j]? = some u->w'.cell? ⟨g,0+j,none⟩=some u:=fun j u hu=>by
    rw[← h7,List.getElem?_take]at hu;split at hu
    ·rw[wO];exact cell_of_heap (by rw[hw'];exact h2) hu
    ·cases hu
   have:=qdr (P:=P) (w:=w') (ad:=⟨g,0,none⟩) (us:=us) (.inr ⟨g,0,rfl,hc'⟩);rw[hul]at this;simp[Builtin.firstCells,this]
def dj.row{n:Nat}{τ:Ty}{l:List τ.den}{E:TypeId}{ad:Option Addr}{c:Nat}{us:List Value}(ho:G.own n=some (ad,l.length,c))(hrow:fe w E τ.sz ad l.length c us)
  (hreps:al (l.flatMap τ.enc) G.data us) (hi:∀b,cv ad=some b->∀o,G.imm b o=none):dj G w n (.row τ l E):=by
 refine⟨ad,c,ho,?_⟩;obtain⟨hul,h⟩:=hrow;rcases h with⟨rfl,h2,rfl⟩|⟨g,vs,fz,rfl,h2,h3,h4,h5,h6,h7,h8⟩
 ·exact .inl ⟨rfl,List.eq_nil_of_length_eq_zero h2,rfl⟩
 ·exact .inr ⟨g,vs,fz,rfl,h2,h3,h4,h5,h6,by rw[h7];exact hreps,h8,hi g rfl⟩
def ll{τ:Ty}(l:List τ.den):(l.flatMap τ.enc).length=l.length*τ.sz:=za2 (fun x _=>τ.enc_length x)
def dj.rowAt{n:Nat}{τ:Ty}{l:List τ.den}{E:TypeId}(h:dj G w n (.row τ l E)) :
  ∃ad c us,G.own n=some (ad,l.length,c)/\fe w E τ.sz ad l.length c us/\al (l.flatMap τ.enc) G.data us/\(∀b,cv ad=some b->∀o,G.imm b o=none):=by
 obtain⟨ad,c,h1,h3⟩:=h;rcases h3 with⟨rfl,rfl,rfl⟩|⟨g,vs,fz,rfl,k2,k3,k4,k5,k6,k7,k8,k9⟩
 ·exact⟨none,0,[],h1,⟨by simp,.inl ⟨rfl,rfl,rfl⟩⟩,trivial,fun b hb=>by cases hb⟩
 ·refine⟨_,c,_,h1,⟨?_,.inr ⟨g,vs,fz,rfl,k2,k3,k4,k5,k6,rfl,k8⟩⟩,k7,fun b hb=>by injection hb with hb;subst hb;exact k9⟩
  rw[← k7.length,ll]
def Gh.addOwn(G:Gh)(k:Nat)(v:Option Addr×Nat×Nat):Gh:={ imm:=G.imm,box:=G.box,own:=fun m=>bif Nat.beq m k then some v else G.own m }
def Gh.addOwn_le{k:Nat}{v:Option Addr×Nat×Nat}(h:G.own k=none):G.le (G.addOwn k v):=
 ⟨fun _ _ _ h=>h,fun _ _ h=>h,fun n x hx=>by
  show(bif Nat.beq n k then some v else G.own n)=_
  cases hb:Nat.beq n k
  ·exact hx
  ·have:=qN hb;subst this;rw[h]at hx;cases hx⟩
def Gh.addOwn_self{k:Nat}{v:Option Addr×Nat×Nat}:(G.addOwn k v).own k=some v:=by
 show(bif Nat.beq k k then some v else G.own k)=_;simp
def zbq(hr:aj vj6 vj1 vj3 G s a w){b o:Nat}{v:Value}(h:G.imm b o=some v):b<w.heap.size:=World.block_lt_of_cell? _ _ (hr.fin.mem.agree _ _ _ h)
def zex(hr:aj vj6 vj1 vj3 G s a w){t:Tmp}{τ:Ty}{l:List τ.den}{E:TypeId}{ad:Option Addr}{c:Nat}{us:List Value}{w':World}{s':St}{v:AV}{u:Value}(hn:a8 (s.nx+32*t) s.hp=true)(hst:cd w w')
  (hrow:fe w' E τ.sz ad l.length c us) (hreps:al (l.flatMap τ.enc) G.data us) (hnew:∀b,cv ad=some b->w.heap.size<=b)
  (hv:∀G':Gh,G'.own (s.nx+32*t)=some (ad,l.length,c)->ak v G' u) (hs:s.add (some t) v [(s.nx+32*t,.row τ l E)]=some s') :
  ∃G',aj vj6 vj1 vj3 G' s' (a.put (some t) u) w':=by
 let k:=s.nx+32*t
 have hk:ae s.hp k=none:=lx hn k (wF _) (by omega)
 obtain⟨hkb,hko⟩:=hr.fresh k (by omega) hk
 have hle:G.le (G.addOwn k (ad,l.length,c)):=Gh.addOwn_le hko;have hl1:∀n bx,ae [(k,ah.row τ l E)] n=some bx->n=k/\bx = .row τ l E:=fun n bx h=>by
  simp only[ae]at h;cases hb:Nat.beq k n
  ·rw[hb]at h;cases h
  ·rw[hb]at h;simp only[qT,qI]at h;exact⟨(qN hb).symm,h.symm⟩
 have himm:∀b,cv ad=some b->∀o,(G.addOwn k (ad,l.length,c)).imm b o=none:=fun b hb o=>by
  cases hq:G.imm b o with|none=>exact hq|some v=>have:=zbq hr hq;have:=hnew b hb;omega
 refine⟨G.addOwn k (ad,l.length,c),hr.put hs hle ?_ (hv _ Gh.addOwn_self) ?_⟩
 ·intro m hm hl;rw[pm]at hl;have hne:k≠m:=fun e=>by
   subst e;have:Nat.beq (s.nx+32*t) k=true:=by simp[k]
   simp only[ae,this,qT,reduceCtorEq]at hl
  have hl2:ae s.hp m=none:=by
   have:ae [(k,ah.row τ l E)] m=none:=by
    simp only[ae];cases hb:Nat.beq k m
    ·rfl
    ·exact absurd (qN hb) hne
   rw[this]at hl;exact hl
  obtain⟨h1,h2⟩:=hr.fresh m hm hl2;refine⟨h1,?_⟩;show(bif Nat.beq m k then some _ else G.own m)=_
  cases hb:Nat.beq m k
  ·exact h2
  ·exact absurd (qN hb).symm hne
 ·refine hr.fin.extend hle hst (fun _ _ _ h => .inl h) (fun b o v h => ?_) hr.fin.mem.one ?_ ?_ ?_
  ·have hlt:=zbq hr h;rw[World.cell?_of_block (w:=w) (hst.block b hlt (fun h=>h))];exact hr.fin.mem.agree _ _ _ h
  ·intro n bx h;obtain⟨rfl,_⟩:=hl1 n bx h;exact hk
  ·intro n bx h;obtain⟨rfl,rfl⟩:=hl1 n bx h;refine⟨dj.row Gh.addOwn_self hrow (al.data_le (fun _ _ _ h=>h) hreps) himm,fun b hb => ?_⟩
   simp only[Gh.at,Gh.addOwn_self]at hb
   cases ad with
   |none=>cases hb
   |some x=>exact hnew b hb
  ·intro n m bx bx' b h1 h2 _ _;obtain⟨rfl,_⟩:=hl1 n bx h1;obtain⟨rfl,_⟩:=hl1 m bx' h2;rfl
def qjn(hr:aj vj6 vj1 vj3 G s a w){t:Tmp}{τ:Ty}{l:List τ.den}{E:TypeId}{ad:Option Addr}{c:Nat}{us:List Value}{w':World}{s':St}(hn:a8 (s.nx+32*t) s.hp=true)(hst:cd w w')
  (hrow:fe w' E τ.sz ad l.length c us) (hreps:al (l.flatMap τ.enc) G.data us) (hnew:∀b,cv ad=some b->w.heap.size<=b)
  (hs:s.add (some t) (.own (s.nx+32*t)) [(s.nx+32*t,.row τ l E)]=some s') :
  ∃G',aj vj6 vj1 vj3 G' s' (a.put (some t) (.slice ad l.length c)) w':=
 zex (v := .own (s.nx+32*t)) (u := .slice ad l.length c) hr hn hst hrow hreps hnew (fun _ h=>⟨ad,l.length,c,h,rfl⟩) hs
def Fin.take{hp:List (Nat×ah)}(hf:Fin vj6 vj1 vj3 G hp w){k k':Nat}{τ τ':Ty}{l:List τ.den}{E E':TypeId}{l':List τ'.den}{ad ad':Option Addr}{c c':Nat}{us':List Value}{w':World}
  (hk:ae hp k=some (.row τ l E)) (ho:G.own k=some (ad,l.length,c)) (hk':ae hp k'=none) (hko:G.own k'=none) (hi:∀b,cv ad=some b->∀o,G.imm b o=none)
  (hbel:ei (fun b=>cv ad=some b) w w') (hblk:cv ad'=cv ad\/∃g,cv ad'=some g/\w.heap.size<=g)
  (hrow:fe w' E' τ'.sz ad' l'.length c' us') (hreps:al (l'.flatMap τ'.enc) G.data us') :
  Fin vj6 vj1 vj3 (G.addOwn k' (ad',l'.length,c')) ((k',.row τ' l' E')::(k,.dead)::hp) w':=by
 have hle:G.le (G.addOwn k' (ad',l'.length,c')):=Gh.addOwn_le hko;have hlt:∀{b:Nat}{o:Obj},w.heap[b]? = some o->b<w.heap.size:=fun h=>(Array.getElem?_eq_some_iff.1 h).1
 have hatk:G.at k (.row τ l E)=cv ad:=by
  simp only[Gh.at,ho];cases ad<;>rfl
 have hatk':(G.addOwn k' (ad',l'.length,c')).at k' (.row τ' l' E')=cv ad':=by
  simp only[Gh.at,Gh.addOwn_self];cases ad'<;>rfl
 have hlk:∀m b,ae ((k',ah.row τ' l' E')::(k,.dead)::hp) m=some b->(m=k'/\b = .row τ' l' E')\/b = .dead\/(m≠k/\m≠k'/\ae hp m=some b):=fun m b h=>by
  simp only[ae]at h;cases hb:Nat.beq k' m
  ·rw[hb]at h;simp only[qF]at h;cases hb2:Nat.beq k m
   ·rw[hb2]at h;exact .inr (.inr ⟨fun e=>by subst e;simp at hb2,fun e=>by subst e;simp at hb,h⟩)
   ·rw[hb2]at h;simp only[qT,qI]at h;exact .inr (.inl h.symm)
  ·rw[hb]at h;simp only[qT,qI]at h;exact .inl ⟨(qN hb).symm,h.symm⟩
 have other:∀m b x,m≠k->ae hp m=some b->G.at m b=some x->cv ad≠some x:=fun m b x hm h1 h2 e=>by
  rw[← hatk]at e;exact hm (hf.mem.apart m k b _ x h1 hk h2 e)
 have hold:∀m b,m≠k->ae hp m=some b->dj (G.addOwn k' (ad',l'.length,c')) w' m b:=fun m b hm h=>by
  have hb:=hf.mem.holds m b h;have ho:=other m b
  cases b with
  |cells cs T=>
   obtain⟨B1,vs,h1,h2,h3,h4,h5⟩:=hb;exact⟨B1,vs,h1,by rw[hbel.block _ (hlt h2) (ho B1 hm h (by simp[Gh.at,h1]))];exact h2,h3.le hle,h4,h5⟩
  |loop st pe f m' fr ps tag D=>
   obtain⟨B1,tmps,DB,h1,h2,h3,h4,h5,h6⟩:=hb;exact⟨B1,tmps,DB,h1,h2,by rw[hbel.block _ h3.lt (ho B1 hm h (by simp[Gh.at,h1]))];exact h3,h4,fun i x hx=>by obtain⟨v,k1,k2⟩:=h5 i x hx;exact⟨v,k1,k2.le hle⟩,h6⟩
  |dfr=>
   obtain⟨B1,h1,h2,h3⟩:=hb;exact⟨B1,h1,by rw[hbel.block _ (hlt h2) (ho B1 hm h (by simp[Gh.at,h1]))];exact h2,h3⟩
  |it s0 p0=>
   obtain⟨B1,h1,h2,h3⟩:=hb;exact⟨B1,h1,by rw[hbel.block _ (hlt h2) (ho B1 hm h (by simp[Gh.at,h1]))];exact h2,h3⟩
  |row τ l E=>
   obtain⟨ad,c,h1,h3⟩:=hb;refine⟨ad,c,hle.own _ _ h1,?_⟩;rcases h3 with h3|⟨g,vs,fz,k1,k2,k3,k4,k5,k6,k7,k8⟩
   ·exact .inl h3
   ·exact .inr ⟨g,vs,fz,k1,by rw[hbel.block _ (hlt k2) (ho g hm h (by subst k1;simp[Gh.at,h1]))];exact k2,k3,k4,k5,k6,al.data_le (fun _ _ _ h=>h) k7,k8⟩
  |dead=>trivial
 have himm':∀b,cv ad'=some b->∀o,G.imm b o=none:=fun b hb o=>by
  rcases hblk with h|⟨g,h1,h2⟩
  ·rw[h]at hb;exact hi b hb o
  ·rw[h1]at hb;injection hb with hb;subst hb
   cases hq:G.imm g o with|none=>rfl|some v=>have:=World.block_lt_of_cell? _ _ (hf.mem.agree _ _ _ hq);simp at this;omega
 refine⟨⟨?_,hf.mem.one,?_,?_,LC.mono (fun _ _ _ h=>h) (fun b o v h=>hbel.block b (World.block_lt_of_cell? _ _ (hf.mem.agree b o v h)) fun e=>by have:=hi b e o;rw[show G.imm b o=some v from h]at this;cases this) hf.mem.tab⟩,?_,hf.imm_le,hf.imm_new,?_,hf.keep,fun n bx v h1 h2=>hle.own _ _ (hf.keepOwn n bx v h1 h2)⟩
 ·intro b o v h;have hc:=hf.mem.agree b o v h;have hb:=World.block_lt_of_cell? _ _ hc;have hne:¬cv ad=some b:=fun e=>by have:=hi b e o;rw[show G.imm b o=some v from h]at this;cases this
  rw[World.cell?_of_block (w:=w) (hbel.block b hb hne)];exact hc
 ·intro m b h;rcases hlk m b h with⟨rfl,rfl⟩|rfl|⟨hm,_,h⟩
  ·exact dj.row Gh.addOwn_self hrow (al.data_le (fun _ _ _ h=>h) hreps) himm'
  ·trivial
  ·exact hold m b hm h
 ·intro m m' b b' x h1 h2 h3 h4;rcases hlk m b h1 with⟨rfl,rfl⟩|rfl|⟨hm,hmk,i1⟩
  ·rcases hlk m' b' h2 with⟨rfl,rfl⟩|rfl|⟨hm',_,i2⟩
   ·rfl
   ·cases h4
   ·rw[hatk']at h3;rw[(hf.mem.holds m' b' i2).at_le hle]at h4;rcases hblk with h|⟨g,h5,h6⟩
    ·rw[h]at h3;exact absurd h3 (other m' b' x hm' i2 h4)
    ·rw[h5]at h3;injection h3 with h3;subst h3
     have:=(hf.mem.holds m' b' i2).at_some h4;omega
  ·cases h3
  ·rcases hlk m' b' h2 with⟨rfl,rfl⟩|rfl|⟨hm',_,i2⟩
   ·rw[hatk']at h4;rw[(hf.mem.holds m b i1).at_le hle]at h3;rcases hblk with h|⟨g,h5,h6⟩
    ·rw[h]at h4;exact absurd h4 (other m b x hm i1 h3)
    ·rw[h5]at h4;injection h4 with h4;subst h4
     have:=(hf.mem.holds m b i1).at_some h3;omega
   ·cases h4
   ·rw[(hf.mem.holds m b i1).at_le hle]at h3;rw[(hf.mem.holds m' b' i2).at_le hle]at h4;exact hf.mem.apart m m' b b' x i1 i2 h3 h4
 ·refine⟨hbel.os.trans hf.bel.os,hbel.tape.trans hf.bel.tape,hbel.output.trans hf.bel.output,Nat.le_trans hf.bel.size hbel.size,fun j hj hS => ?_⟩
  have hne:¬cv ad=some j:=fun e=>by
   rw[← hatk]at e;rcases hf.base k _ j hk e with h|h
   ·omega
   ·exact hS h
  rw[hbel.block j (Nat.lt_of_lt_of_le hj hf.bel.size) hne];exact hf.bel.block j hj hS
 ·intro m b x h1 h2;rcases hlk m b h1 with⟨rfl,rfl⟩|rfl|⟨hm,_,i1⟩
  ·rw[hatk']at h2;rcases hblk with h|⟨g,h5,h6⟩
   ·rw[h,← hatk]at h2;exact hf.base k _ x hk h2
   ·rw[h5]at h2;injection h2 with h2;subst h2
    exact .inl (Nat.le_trans hf.bel.size h6)
  ·cases h2
  ·rw[(hf.mem.holds m b i1).at_le hle]at h2;exact hf.base m b x i1 h2
def zku(hr:aj vj6 vj1 vj3 G s a w){y:AV}{v:Value}(hy:ak y G v){flat:List AV}{m sz:Nat}(hs:fb s y=some (flat,m))(hfl:flat.length=m*sz) :
  ∃news,(∀w,(Builtin.lenOf v).run P w = .ok m w)/\(∀w',w'.heap=w.heap->(Builtin.firstCells sz m v).run P w' = .ok news.toArray w')/\al flat G.data news/\∀u∈news,u.oneCell'=true:=by
 rcases qjt hr hy hs with⟨b,rfl,rfl,rfl,rfl⟩|⟨ad,c,us,rfl,h1,h2,h3⟩
 ·refine⟨b.map fun c=>Value.int .u8 c.toNat,fun w => ?_,fun w' _ => ?_,?_,fun u hu => ?_⟩
  ·have hb:(⟨b.toArray⟩:ByteArray).size=b.length:=by simp[ByteArray.size]
   simp[Builtin.lenOf,hb]
  ·have:((⟨b.toArray⟩:ByteArray).extract 0 b.length)=⟨b.toArray⟩:=by
    apply ByteArray.ext;simp[ByteArray.data_extract]
   simp[Builtin.firstCells,this]
  ·clear hs hfl hy
   induction b with|nil=>trivial|cons c b ih=>exact⟨rfl,ih⟩
  ·simp only[List.mem_map]at hu;obtain⟨c,_,rfl⟩:=hu;rfl
 ·refine⟨us,fun w=>by simp[Builtin.lenOf],fun w' hw' => ?_,h1,h2⟩
  have hul:us.length=m*sz:=by rw[← h1.length,hfl]
  cases ad with
  |none=>
   have:us=[]:=by
    rcases h3 with h3|⟨_,_,h3,_⟩
    ·exact h3
    ·cases h3
   subst this;simp[Builtin.firstCells]
  |some ad=>
   have h3':us=[]\/∃b o,some ad=some (⟨b,o,none⟩:Addr)/\∀j u,us[j]? = some u->w'.cell? ⟨b,o+j,none⟩=some u:=by
    rcases h3 with h3|⟨b,o,h4,h5⟩
    ·exact .inl h3
    ·refine .inr ⟨b,o,h4,fun j u hu => ?_⟩
     rw[World.cell?_of_block (w:=w) (by rw[hw'])];exact h5 j u hu
   have:=qdr (P:=P) (w:=w') (ad:=ad) h3';rw[hul]at this;simp[Builtin.firstCells,this]
def qkv{E:TypeId}{sz:Nat}(h:mb P E=true)(hs:ef P E=some sz):∃i z,P.info? E=some i/\i.zero=some z/\z.cells.size=i.size/\0<i.size/\i.bytes<=32768/\(∀v∈z.cells.toList,v.oneCell'=true)/\i.size=sz:=by
 unfold mb at h;unfold ef at hs
 cases hi:P.info? E with
 |none=>rw[hi]at h;cases h
 |some i=>
  rw[hi]at h hs;simp only[qI]at hs
  cases hz:i.zero with
  |none=>simp only[hz]at h;cases h
  |some z=>
   simp only[hz,qA,Nat.blt_eq,Nat.ble_eq,List.all_eq_true]at h;obtain⟨⟨⟨h1,h2⟩,h3⟩,h4⟩:=h;exact⟨i,z,rfl,hz,qN h1,h2,h3,h4,hs⟩
def zel{cs:List AV}{us:List Value}(h:AV.rens (fun _=>none) cs=cs)(hr:al cs G us):al cs G.data us:=by
 have:=al.ren (ρ:=fun _=>none) (G:=G) (G':=G.data) (fun _ _ _ h=>h) (fun _ _ _ e=>by cases e) (fun _ _ _ e=>by cases e) hr
 rwa [h]at this
def q78(hr:aj vj6 vj1 vj3 G s a w){d:D}{t t2 ty:TypeId}{old:List AV}{n:Nat}{y:AV}{v:Value}{ps:List Prop}{b:ah}(h:nk P s d t t2 old n y=some (ps,b))(hp:ar ps)(hy:ak y G v)
  {_sz0:Nat} {_E0:TypeId} {ad:Option Addr} {c:Nat} {us:List Value} (hold:al old G.data us) :
  ∃(τ:Ty)(l:List τ.den)(E:TypeId),b = .row τ l E/\n<=l.length /\
   (fe w E τ.sz ad n c us->∃ad' c' us' w',(Builtin.append_ #[t,t2] ty #[.slice ad n c,v]).run P w = .ok (.slice ad' l.length c') w'/\fe w' E τ.sz ad' l.length c' us'/\al (l.flatMap τ.enc) G.data us' /\
    (cv ad'=cv ad\/∃g,cv ad'=some g/\w.heap.size<=g)/\ei (fun b=>cv ad=some b) w w'):=by
 unfold nk at h;split at h
 ·rename_i E τ l E' ht;split at h
  ·rename_i sz' flat m hsz hsrc;cases hq:Nat.beq τ.sz sz'&&Nat.beq E E'&&mb P E&&zk P t2<;>rw[hq]at h<;>simp only[qT,qF,reduceCtorEq,qI,qP]at h
   obtain⟨rfl,rfl⟩:=h;simp only[qA]at hq;obtain⟨⟨⟨q1,q2⟩,q3⟩,q4⟩:=hq;have q1:=qN q1;have q2:=qN q2;subst q2;rw[← q1]at hsz;simp only[ar,and_true]at hp;obtain⟨p1,p2,p4⟩:=hp;refine⟨τ,l,E,rfl,by omega,fun hrow => ?_⟩
   obtain⟨i,z,hi,hz,z1,z2,z3,z4,zs⟩:=qkv q3 hsz;rw[← zs]at hrow ⊢;have hfl:flat.length=m*i.size:=by
    have h1:=ll l;rw[← zs]at h1;rw[p1,qM,hold.length,hrow.1,p2,Nat.add_mul]at h1;omega
   obtain⟨news,k1,k2,k3,k4⟩:=zku (P:=P) hr hy hsrc hfl;obtain⟨ad',c',w',r1,r2,r3,r4⟩:=zfb (ty:=ty) ht hi hz z1 z2 z3 z4 q4 hrow k1 k2 (by rw[← k3.length,hfl]) k4 (by omega)
   rw[← p2]at r1 r2;exact⟨ad',c',us++news,w',r1,r2,by rw[p1];exact we hold k3,r3,r4⟩
  ·cases h
 ·cases h
def q13:∀{vs:List Value},al (qj3 vs.length) G vs|[]=>trivial|_::vs=>⟨trivial,q13 (vs:=vs)⟩
def zkw(hr:aj vj6 vj1 vj3 G s a w){d:D}{t:TypeId}{len:Nat}{parts:Array (Nat×Operand)}{ps:List Prop}{b:ah}(h:vb P s d t len parts.toList=some (ps,b))(hp:ar ps) :
  ∃(τ:Ty)(l:List τ.den)(E:TypeId),b = .row τ l E /\
   ∃us w',(Instr.buildSlice t len (parts.map fun(i,x)=>(i,a.eval x))).run P w = .ok (.slice (some ⟨w.heap.size,0,none⟩) l.length l.length) w'/\fe w' E τ.sz (some ⟨w.heap.size,0,none⟩) l.length l.length us/\al (l.flatMap τ.enc) G.data us/\cd w w':=by
 unfold vb at h;split at h
 ·rename_i E τ l E' ht;split at h
  ·rename_i sz' pss hsz hps;split at h
   ·rename_i cs hf;cases hq:Nat.beq τ.sz sz'&&Nat.beq E E'&&mb P E&&Nat.ble (len*τ.sz) 16777216&&AV.ones cs<;>rw[hq]at h<;>simp only[qT,qF,reduceCtorEq]at h
    split at h
    rotate_left
    ·cases h
    rename_i psv hvw;simp only[qI,qP]at h;obtain⟨rfl,rfl⟩:=h;simp only[qA,Nat.ble_eq]at hq;obtain⟨⟨⟨⟨q1,q2⟩,q3⟩,q4⟩,q5⟩:=hq;have q1:=qN q1;have q2:=qN q2;subst q2;obtain⟨p1,p2,p4,_⟩:=dt.1 hp;obtain⟨i,z,hi,hz,z1,z2,z3,z4,zs⟩:=qkv q3 hsz;subst zs;refine⟨τ,l,E,rfl,?_⟩;rw[q1];rw[q1]at q4;have hpp:=qnw hr hps;have hm:(parts.map fun(i,x)=>(i,a.eval x)).toList=parts.toList.map fun p=>(p.1,a.eval p.2):=by simp
    let zc:Array Value:=if len*i.size=0 then #[] else z.cells
    let st:Array Value:=(Array.range (len*i.size)).map (zc[· % zc.size]!)
    have hst:st.size=len*i.size:=by simp[st]
    obtain⟨us',hu1,hu2⟩:=qh7 hpp (us:=st) (by have:=q13 (G:=G) (vs:=st.toList);rwa [Array.length_toList,hst]at this) hf
    have hsz':us'.size=len*i.size:=by
     have:=hu2.length;rw[zgx hvw,ll,q1,p2,Array.length_toList]at this;exact this.symm
    refine⟨us'.toList,w.alloc (.cells us' E),?_,⟨?_,.inr ⟨w.heap.size,us',(0,0),rfl,pd _ _,.inl rfl,wF _,?_,?_,?_,?_⟩⟩,kh (G:=G.data) (Gh.le.refl _) (fun e=>by cases e) hvw p1 (zel p4 hu2),qjv _ _⟩
    ·rw[← hm]at hu1;have hcap:¬len*i.size>2 ^ 24:=by omega
     rw[p2];by_cases h0:len*i.size=0
     ·have hzc:zc=#[]:=by simp[zc,h0]
      simp only[st,hzc]at hu1;simp[Instr.buildSlice,bn ht,Go.sizeOf,wg hi,h0];simp[h0]at hu1;rw[hu1];simp[newRow]
     ·have hzc:zc=z.cells:=by simp[zc,h0]
      simp only[st,hzc]at hu1;simp only[Instr.buildSlice,Sem.run_bind,bn ht,Result.andThen_ok,Go.sizeOf,wg hi,Sem.run_pure,hcap,if_false,h0,zeroValue,hz,hu1,newRow,run_newObj];rfl
    ·rw[Array.length_toList,hsz',p2]
    ·rw[p2];simp only[maxLen];have:len<=len*i.size:=Nat.le_mul_of_pos_right _ z2;omega
    ·rw[hsz',p2]
    ·rw[p2,← hsz',← Array.length_toList,List.take_length]
    ·exact od hu2 q5
   ·cases h
  ·cases h
 ·cases h
def zkv(hr:aj vj6 vj1 vj3 G s a w){d:D}{t:TypeId}{len:Nat}{parts:Array (Nat×Operand)}{cs:List AV}{E:TypeId}(h:qb6 P s d t len parts.toList=some (cs,E)) :
  ∃us,(Instr.buildSlice t len (parts.map fun(i,x)=>(i,a.eval x))).run P w = .ok (.slice (some ⟨w.heap.size,0,none⟩) len len) (w.alloc (.cells us E))/\al cs G us.toList/\∀v∈us.toList,v.oneCell'=true:=by
 unfold qb6 at h;split at h
 ·rename_i E' ht;split at h
  ·rename_i sz pss hsz hps;split at h
   ·rename_i cs' hf;cases hq:mb P E'&&Nat.blt 0 len&&Nat.ble (len*sz) 16777216&&AV.ones cs'<;>rw[hq]at h<;>simp only[qT,qF,reduceCtorEq,qI,qP]at h
    obtain⟨rfl,rfl⟩:=h;simp only[qA,Nat.ble_eq,Nat.blt_eq]at hq;obtain⟨⟨⟨q3,q0⟩,q4⟩,q5⟩:=hq;obtain⟨i,z,hi,hz,z1,z2,z3,z4,zs⟩:=qkv q3 hsz;subst zs;have hpp:=qnw hr hps;have hm:(parts.map fun(i,x)=>(i,a.eval x)).toList=parts.toList.map fun p=>(p.1,a.eval p.2):=by simp
    let st:Array Value:=(Array.range (len*i.size)).map (z.cells[· % z.cells.size]!)
    have hst:st.size=len*i.size:=by simp[st]
    obtain⟨us',hu1,hu2⟩:=qh7 hpp (us:=st) (by have:=q13 (G:=G) (vs:=st.toList);rwa [Array.length_toList,hst]at this) hf
    refine⟨us',?_,hu2,od hu2 q5⟩;rw[← hm]at hu1;have hcap:¬len*i.size>2 ^ 24:=by omega
    have h0:¬len*i.size=0:=by
     have:=Nat.mul_pos q0 z2;omega
    simp only[st]at hu1;simp only[Instr.buildSlice,Sem.run_bind,bn ht,Result.andThen_ok,Go.sizeOf,wg hi,Sem.run_pure,hcap,if_false,h0,zeroValue,hz,hu1,newRow,run_newObj];rfl
   ·cases h
  ·cases h
 ·cases h
def qir:∀(b:List UInt8),List.flatMap (β:=AV) Ty.byte.enc b=b.map AV.byte
 |[]=>rfl|c::b=>congrArg (AV.byte c::·) (qir b)
def zvh{src dst E:TypeId}{sd:TypeDesc}(hs:P.underlying src=some sd)(hd:P.underlying dst=some (.slice E))(he:P.underlying E=some (.int .u8))(b:List UInt8)(hb:b.length<=maxLen) :
  ∃c us w',(convert src dst (.string ⟨b.toArray⟩)).run P w = .ok (.slice (some ⟨w.heap.size,0,none⟩) b.length c) w'/\fe w' E 1 (some ⟨w.heap.size,0,none⟩) b.length c us/\al (List.flatMap (β:=AV) Ty.byte.enc b) G us/\cd w w':=by
 simp only[maxLen]at hb;have hsz:(⟨b.toArray⟩:ByteArray).size=b.length:=by simp[ByteArray.size]
 let nc:=Question.cut (.appendCap b.length 0 E) (w.tape w.drawn (.appendCap b.length 0 E))
 have hnc1:b.length<=nc:=by simp[nc,Question.cut]
 have hnc2:nc<=maxLen:=by
  have:=Nat.mod_lt (w.tape w.drawn (.appendCap b.length 0 E)) (show 0<2 ^ 63-b.length by omega)
  simp only[nc,Question.cut,maxLen];omega
 let cells:Array Value:=(b.map fun c=>Value.int .u8 c.toNat).toArray++Array.replicate (nc-b.length) (.int .u8 0)
 have hcs:cells.size=nc:=by simp[cells];omega
 let w1:=w.drew.alloc (.cells cells E)
 have hw1:(w1.freeze ⟨w.heap.size,nc,none⟩ 1).heap[w.heap.size]? = some (.cells cells E (nc,nc+1)):=by
  have:w1.heap[w.heap.size]? = some (.cells cells E):=pd w.drew _;simp only[World.freeze,Nat.one_ne_zero,if_false,Array.getElem?_modify,this];simp
 refine⟨nc,b.map fun c=>Value.int .u8 c.toNat,w1.freeze ⟨w.heap.size,nc,none⟩ 1,?_,⟨by simp,.inr ⟨w.heap.size,cells,(nc,nc+1),rfl,hw1,.inr (by rw[hcs];exact wF _),hnc1,hnc2,by rw[hcs,Nat.mul_one],?_,?_⟩⟩,?_,?_⟩
 ·have hshape:(w.drew.alloc (.cells cells E)).shape? w.heap.size=some (E,cells.size):=by
   simp only[World.shape?,show(w.drew.alloc (.cells cells E)).heap[w.heap.size]? = some (.cells cells E) from pd w.drew _]
  have hforced:(Question.appendCap b.length 0 E).forced=false:=rfl;have hcv:(convert src dst (.string ⟨b.toArray⟩)).run P w=(Conv.stringToBytes E ⟨b.toArray⟩).run P w:=by
   cases sd<;>simp[convert,bn hs,bn hd,bn he]
  rw[hcv];simp only[Conv.stringToBytes,hsz,Sem.run_bind,run_choose,hforced,wJ,if_false,Result.andThen_ok,newRow,run_newObj,Sem.run_pure,markStringish,run_shape];have hce:(Array.map (fun(b:UInt8)=>Value.int IntKind.u8 b.toNat) b.toArray++Array.replicate (Question.cut (.appendCap b.length 0 E) (w.tape w.drawn (.appendCap b.length 0 E))-b.length) (Value.int .u8 0))=cells:=by simp[cells,nc]
  simp only[hce];have hsh:({ heap:=w.heap.push (Obj.cells cells E),tape:=w.tape,drawn:=w.drawn+1,os:=w.os,output:=w.output }:World).shape? w.heap.size=some (E,cells.size):=hshape;simp only[hsh,hcs];rfl
 ·simp[cells]
 ·intro v hv;simp only[cells,Array.toList_append,wA,List.mem_map,Array.toList_replicate,List.mem_replicate]at hv;rcases hv with⟨c,_,rfl⟩|⟨_,rfl⟩<;>rfl
 ·clear hb hsz hnc1 hnc2 hcs hw1;clear w1 cells nc;rw[qir]
  induction b with|nil=>trivial|cons c b ih=>exact⟨rfl,ih⟩
 ·refine⟨rfl,rfl,rfl,by simp[World.freeze,w1],fun k hk _ => ?_⟩
  simp only[World.freeze,Nat.one_ne_zero,if_false,Array.getElem?_modify];rw[qW (by omega)]
  exact Below.heap_alloc w.drew _ k hk
end
mutual
def qp5{G G':Gh}(hb:∀n B,G.box n=some B->G'.box n=some B)(ho:∀n B,G.own n=some B->G'.own n=some B):∀{x:AV}{v:Value},noRef x=true->ak x G v->ak x G' v
 |.undef,_,_,_=>trivial|.int _ _,_,_,h=>h|.byte _,_,_,h=>h|.bool _,_,_,h=>h|.str _,_,_,h=>h|.val _,_,_,h=>h|.sl _ _,_,hn,_=>by simp[noRef]at hn|.rop _,_,hn,_=>by simp[noRef]at hn|.arr _ _,_,hn,_=>by simp[noRef]at hn|.agg cs,_,hn,⟨vs,h1,h2⟩=>⟨vs,h1,zj hb ho (by simpa [noRef] using hn) h2⟩|.tup cs,_,hn,⟨vs,h1,h2⟩=>⟨vs,h1,zj hb ho (by simpa [noRef] using hn) h2⟩|.ptr _ _,_,_,⟨B,h1,h2⟩=>⟨B,hb _ _ h1,h2⟩|.yld _,_,_,⟨B,h1,h2⟩=>⟨B,hb _ _ h1,h2⟩|.pn _,_,_,⟨B,h1,h2⟩=>⟨B,hb _ _ h1,h2⟩|.own _,_,_,⟨a,n,c,h1,h2⟩=>⟨a,n,c,ho _ _ h1,h2⟩|.oel _ _ _ _,_,_,⟨b,n,c,h1,h2⟩=>⟨b,n,c,ho _ _ h1,h2⟩|.osl _ _ _,_,_,⟨b,n,c,h1,h2⟩=>⟨b,n,c,ho _ _ h1,h2⟩|.asl _ _ _,_,_,⟨B,h1,h2⟩=>⟨B,hb _ _ h1,h2⟩|.fn f first cap,_,hn,⟨fs,cs,h1,h2,h3⟩=>by
  simp only[noRef,qA]at hn;exact⟨fs,cs,h1,zj hb ho hn.1 h2,zj hb ho hn.2 h3⟩
 |.iface t x,_,hn,⟨u,h1,h2⟩=>⟨u,h1,qp5 hb ho (by simpa [noRef] using hn) h2⟩
def zj{G G':Gh}(hb:∀n B,G.box n=some B->G'.box n=some B)(ho:∀n B,G.own n=some B->G'.own n=some B):∀{xs:List AV}{vs:List Value},gw xs=true->al xs G vs->al xs G' vs
 |[],[],_,_=>trivial|x::xs,v::vs,hn,h=>by
  simp only[gw,qA]at hn;exact⟨qp5 hb ho hn.1 h.1,zj hb ho hn.2 h.2⟩
 |[],_::_,_,h=>h.elim|_::_,[],_,h=>h.elim
end
def zcy{α:Type}{enc:α->List AV}:∀{l:List α},(∀x∈l,gw (enc x)=true)->gw (l.flatMap enc)=true
 |[],_=>rfl|x::l,h=>by
  have h1:=h x qH;have h2:=zcy (l:=l) (fun y hy=>h y (qE _ hy))
  rw[List.flatMap_cons];revert h1;generalize enc x=xs
  induction xs with
  |nil=>intro _;exact h2|cons y ys ih=>
   intro h1;simp only[gw,qA]at h1;simp only[wK,gw,qA];exact⟨h1.1,ih h1.2⟩
def zcw:∀{hp:List (Nat×ah)},ar (jw hp)->∀n bx,ae hp n=some bx->(match bx with | .cells cs _=>gw cs=true | .row τ l _=>∀x∈l,gw (τ.enc x)=true | .loop _ _ _ _ _ _ _ _=>False | .dfr=>True | .it _ _=>True | .dead=>True)
 |[],_,n,bx,h=>by cases h
 |(k,b)::r,ha,n,bx,h=>by
  simp only[ae]at h;cases hb:Nat.beq k n
  ·rw[hb]at h;have:ar (jw r):=by cases b<;>simp only[jw,ar]at ha<;>first|exact ha.2|exact ha|exact ha.1.elim
   exact zcw this n bx h
  ·rw[hb]at h;simp only[qT,qI]at h;subst h;cases b<;>simp only[jw,ar]at ha
   ·exact ha.1
   ·exact ha.1
   ·exact ha.1.elim
   ·trivial
   ·trivial
   ·trivial
section
variable{P:Program}{vj6:World}{vj1:Gh}{vj3:List (Nat×ah)}{G:Gh}{s:St}{a:Act}{w:World}
def ng.unfreeze{Gz:Gh}{r:AV}{hp':List (Nat×ah)}{e:Ending}{w':World}{w0:World}(ht:LC.tab G.imm w0)(hz:∀b o,Gz.imm b o≠G.imm b o->∀o',G.imm b o'=none)(h:ng w Gz [] r hp' e w')(hn:noRef r=true)(hnp:ar (jw hp')):ng w G [] r hp' e w':=by
 obtain⟨v,G1,he,hf,hv⟩:=h;have hnb:∀(G:Gh) b,¬o7 G [] b:=fun G b⟨n,bx,h,_⟩=>by cases h
 let G2:Gh:={ imm:=fun b o=>open Classical in if ∃o',Gz.imm b o'≠G.imm b o' then none else G1.imm b o,box:=G1.box,own:=G1.own }
 have himm:∀b o v,G2.imm b o=some v->G1.imm b o=some v/\¬ ∃o',Gz.imm b o'≠G.imm b o':=fun b o v h=>by
  simp only[G2]at h;split at h
  ·cases h
  ·rename_i hne;exact⟨h,hne⟩
 have hle:∀b o v,G.imm b o=some v->G2.imm b o=some v:=fun b o v h=>by
  have hne:¬ ∃o',Gz.imm b o'≠G.imm b o':=fun⟨o',ho'⟩=>by rw[hz b o' ho' o]at h;cases h
  have:Gz.imm b o=some v:=by
   have:¬Gz.imm b o≠G.imm b o:=fun e=>hne ⟨o,e⟩
   rw[Classical.not_not.1 this];exact h
  have h2:G2.imm b o=G1.imm b o:=by simp only[G2];rw[qW hne]
  rw[h2];exact hf.imm_le b o v this
 refine⟨v,G2,he,⟨⟨fun b o v h=>hf.mem.agree b o v (himm b o v h).1,fun b o v h=>hf.mem.one b o v (himm b o v h).1,fun n bx hb => ?_,fun n m bx bx' b h1 h2 h3 h4 => ?_,LC.mix hle ht hf.mem.tab⟩,⟨hf.bel.os,hf.bel.tape,hf.bel.output,hf.bel.size,fun k hk _=>hf.bel.block k hk (hnb _ k)⟩,hle,fun b o v h => ?_,fun n bx b h1 h2 => ?_,fun n bx B h=>(by cases h),fun n bx B h=>(by cases h)⟩,qp5 (G:=G1) (G':=G2) (fun _ _ h=>h) (fun _ _ h=>h) hn hv⟩
 ·have hb':=hf.mem.holds n bx hb;have hnr:=zcw hnp n bx hb;have hnone:∀B,(∀o,G1.imm B o=none)->∀o,G2.imm B o=none:=fun B h o=>by
   cases hq:G2.imm B o with|none=>rfl|some v=>have:=(himm B o v hq).1;rw[h]at this;cases this
  cases bx with
  |cells cs T=>
   obtain⟨B,vs,h1,h2,h3,h4,h5⟩:=hb';exact⟨B,vs,h1,h2,zj (G:=G1) (G':=G2) (fun _ _ h=>h) (fun _ _ h=>h) hnr h3,h4,hnone B h5⟩
  |loop=>exact hnr.elim|dfr=>
   obtain⟨B,h1,h2,h3⟩:=hb';exact⟨B,h1,h2,hnone B h3⟩
  |it s0 p0=>
   obtain⟨B,h1,h2,h3⟩:=hb';exact⟨B,h1,h2,hnone B h3⟩
  |row τ l E=>
   obtain⟨ad,c,h1,h3⟩:=hb';refine⟨ad,c,h1,?_⟩;rcases h3 with h3|⟨g,vs,fz,k1,k2,k3,k4,k5,k6,k7,k8,k9⟩
   ·exact .inl h3
   ·exact .inr ⟨g,vs,fz,k1,k2,k3,k4,k5,k6,zj (G:=G1.data) (G':=G2.data) (fun _ _ h=>h) (fun _ _ h=>h) (zcy hnr) k7,k8,hnone g k9⟩
  |dead=>trivial
 ·have e1:∀n bx,G2.at n bx=G1.at n bx:=fun n bx=>by cases bx<;>rfl
  rw[e1]at h3 h4;exact hf.mem.apart n m bx bx' b h1 h2 h3 h4
 ·obtain⟨h1,h2⟩:=himm b o v h;rcases hf.imm_new b o v h1 with h|h|h
  ·have:¬Gz.imm b o≠G.imm b o:=fun e=>h2 ⟨o,e⟩
   rw[Classical.not_not.1 this]at h;exact .inl h
  ·exact .inr (.inl h)
  ·exact absurd h (hnb _ b)
 ·have e1:G2.at n bx=G1.at n bx:=by cases bx<;>rfl
  rw[e1]at h2;rcases hf.base n bx b h1 h2 with h|h
  ·exact .inl h
  ·exact absurd h (hnb _ b)
def qpp(G:Gh)(hp:List (Nat×ah))(b o:Nat):Prop:=∃n,∃(τ:Ty)(l:List τ.den)(E:TypeId),ae hp n=some (.row τ l E)/\G.at n (.row τ l E)=some b/\o<l.length*τ.sz
noncomputable def Gh.allData(G:Gh)(hp:List (Nat×ah))(w:World):Gh:=
 { imm:=fun b o=>open Classical in match G.imm b o with|some v=>some v|none=>if qpp G hp b o then w.cell? ⟨b,o,none⟩ else none,box:=G.box,own:=G.own }
def zed{Gz:Gh}(hle:∀b o v,G.imm b o=some v->Gz.imm b o=some v):∀{xs:List AV}{us:List Value}{b o:Nat},al xs G.data us->(∀i u,us[i]? = some u->Gz.imm b (o+i)=some u)->ce xs Gz b o
 |[],_,_,_,_,_=>trivial|x::xs,u::us,b,o,h,hc=>⟨⟨u,by simpa using hc 0 u rfl,ak.data_le hle h.1⟩,zed hle h.2 (fun i v hv=>by rw[show o+1+i=o+(i+1) by omega];exact hc (i+1) v (by simpa using hv))⟩
 |_::_,[],_,_,h,_=>h.elim
def qyn(hf:Fin vj6 vj1 vj3 G s.hp w):G.le (G.allData s.hp w)/\cn (G.allData s.hp w) [] w/\(∀b o,(G.allData s.hp w).imm b o≠G.imm b o->∀o',G.imm b o'=none) /\
  (∀k τ l E v,ae s.hp k=some (.row τ l E)->ak (.own k) G v->ak (.sl τ l) (G.allData s.hp w) v):=by
 have himm:∀b o v,G.imm b o=some v->(G.allData s.hp w).imm b o=some v:=fun b o v h=>by
  show(match G.imm b o with|some v=>some v|none=>_)=_;rw[h]
 have hrow:∀b o,qpp G s.hp b o->(∀o',G.imm b o'=none)/\∃v,w.cell? ⟨b,o,none⟩=some v/\v.oneCell'=true:=fun b o⟨n,τ,l,E,h1,h2,h3⟩=>by
  obtain⟨ad,c,k1,k3⟩:=hf.mem.holds _ _ h1;rcases k3 with⟨rfl,_⟩|⟨g,vs,fz,rfl,m2,m3,m4,m5,m6,m7,m8,m9⟩
  ·simp only[Gh.at,k1]at h2;cases h2
  ·simp only[Gh.at,k1,qI]at h2;subst h2;have hlt:o<vs.size:=by rw[m6];exact Nat.lt_of_lt_of_le h3 (Nat.mul_le_mul_right _ m4)
   exact⟨m9,vs[o],cell_of_heap m2 (by simp[hlt]),m8 _ (by simp)⟩
 have hget:∀b o v,(G.allData s.hp w).imm b o=some v->G.imm b o=some v\/(G.imm b o=none/\qpp G s.hp b o/\w.cell? ⟨b,o,none⟩=some v):=fun b o v h=>by
  simp only[Gh.allData]at h
  cases hq:G.imm b o with
  |some u=>rw[hq]at h;exact .inl h|none=>
   rw[hq]at h;simp only at h;split at h
   ·rename_i hin;exact .inr ⟨rfl,hin,h⟩
   ·cases h
 refine⟨⟨himm,fun _ _ h=>h,fun _ _ h=>h⟩,⟨fun b o v h => ?_,fun b o v h => ?_,fun n bx h=>(by cases h),fun n m bx bx' b h=>(by cases h),LC.mono himm (fun _ _ _ _=>rfl) hf.mem.tab⟩,fun b o hne => ?_,?_⟩
 ·rcases hget b o v h with h|⟨_,_,h⟩
  ·exact hf.mem.agree b o v h
  ·exact h
 ·rcases hget b o v h with h|⟨_,hin,h⟩
  ·exact hf.mem.one b o v h
  ·obtain⟨u,hu,hu1⟩:=(hrow b o hin).2;rw[h]at hu;injection hu with hu;subst hu;exact hu1
 ·cases hq:(G.allData s.hp w).imm b o with
  |none=>
   cases hg:G.imm b o with|none=>rw[hq,hg]at hne;exact absurd rfl hne|some v=>rw[himm b o v hg]at hq;cases hq
  |some v=>
   rcases hget b o v hq with h|⟨_,hin,_⟩
   ·rw[hq,h]at hne;exact absurd rfl hne
   ·exact(hrow b o hin).1
 ·intro k τ l E v hl hv;obtain⟨ad,n,c,ho,rfl⟩:=hv;obtain⟨ad',c',k1,k3⟩:=hf.mem.holds _ _ hl;have k2:∀y∈l,(τ.enc y).length=τ.sz:=fun y _=>τ.enc_length y
  rw[ho]at k1;simp only[qI,qP]at k1;obtain⟨rfl,rfl,rfl⟩:=k1;rcases k3 with⟨rfl,rfl,rfl⟩|⟨g,vs,fz,rfl,m2,m3,m4,m5,m6,m7,m8,m9⟩
  ·exact⟨none,0,rfl,by simp,.inl rfl⟩
  ·refine⟨_,c,rfl,m4,.inr ⟨g,0,rfl,fun j x hx => ?_⟩⟩
   have hr1:=qdp τ.sz (qjk (j*τ.sz) m7);rw[qz3 k2 hx]at hr1;refine ss.1 (zed himm hr1 (fun i u hu => ?_))
   rw[List.getElem?_take]at hu;split at hu
   ·rename_i hi;rw[List.getElem?_drop,List.getElem?_take]at hu;split at hu
    ·rename_i hlt;have hc:=cell_of_heap m2 hu;have hin:qpp G s.hp g (0+j*τ.sz+i):=⟨k,τ,l,E,hl,by simp[Gh.at,ho],by omega⟩
     show(match G.imm g (0+j*τ.sz+i) with|some v=>some v|none=>_)=_
     rw[m9];simp only;rw[qX hin,wO];exact hc
    ·cases hu
   ·cases hu
end
end Go.Sym
namespace Go.Sym
open Go.RowKit
variable[LC]
section
variable{P:Program}{vj6:World}{vj1:Gh}{vj3:List (Nat×ah)}{G:Gh}{s:St}{a:Act}{w:World}
def q9k(hr:aj vj6 vj1 vj3 G s a w){t:Tmp}{cs:List AV}{T:TypeId}{vs:Array Value}{s':St}(hn:a8 (s.nx+32*t) s.hp=true)(hcs:al cs G vs.toList)(hone:∀v∈vs.toList,v.oneCell'=true)
  {v:AV} {u:Value} (hv:∀G':Gh,G'.box (s.nx+32*t)=some w.heap.size->ak v G' u) (hs:s.add (some t) v [(s.nx+32*t,.cells cs T)]=some s') :
  ∃G',aj vj6 vj1 vj3 G' s' (a.put (some t) u) (w.alloc (.cells vs T)):=by
 let k:=s.nx+32*t
 let G':Gh:={ imm:=G.imm,box:=fun m=>bif Nat.beq m k then some w.heap.size else G.box m,own:=G.own }
 have hk:ae s.hp k=none:=lx hn k (wF _) (by omega)
 obtain⟨hkb,hko⟩:=hr.fresh k (by omega) hk
 have hle:G.le G':=⟨fun _ _ _ h=>h,fun n B h=>by
  show(bif Nat.beq n k then some w.heap.size else G.box n)=_
  cases hb:Nat.beq n k
  ·exact h
  ·(have:=qN hb;subst this;rw[hkb]at h;cases h),fun _ _ h=>h⟩
 have hbox:G'.box k=some w.heap.size:=by show(bif Nat.beq k k then some w.heap.size else G.box k)=_;simp
 have hl1:∀n bx,ae [(k,ah.cells cs T)] n=some bx->n=k/\bx = .cells cs T:=fun n bx h=>by
  simp only[ae]at h;cases hb:Nat.beq k n
  ·rw[hb]at h;cases h
  ·rw[hb]at h;simp only[qT,qI]at h;exact⟨(qN hb).symm,h.symm⟩
 have hlt:∀b o v,G.imm b o=some v->b<w.heap.size:=fun b o v h=>by
  have:=hr.fin.mem.agree _ _ _ h;exact World.block_lt_of_cell? _ _ this
 refine⟨G',hr.put hs hle ?_ (hv G' hbox) ?_⟩
 ·intro m hm hl;rw[pm]at hl;have hne:k≠m:=fun e=>by
   subst e;have:Nat.beq (s.nx+32*t) k=true:=by simp[k]
   simp only[ae,this,qT,reduceCtorEq]at hl
  have hl2:ae s.hp m=none:=by
   have:ae [(k,ah.cells cs T)] m=none:=by
    simp only[ae];cases hb:Nat.beq k m;· rfl
    ·exact absurd (qN hb) hne
   rw[this]at hl;exact hl
  obtain⟨h1,h2⟩:=hr.fresh m hm hl2;refine⟨?_,h2⟩;show(bif Nat.beq m k then some w.heap.size else G.box m)=_
  cases hb:Nat.beq m k
  ·exact h1
  ·exact absurd (qN hb).symm hne
 ·refine hr.fin.extend hle (qjv _ _) (fun _ _ _ h => .inl h) (fun b o v h => ?_) hr.fin.mem.one ?_ ?_ ?_
  ·rw[World.cell?_alloc_lt _ _ _ (hlt b o v h)];exact hr.fin.mem.agree _ _ _ h
  ·intro n bx h;obtain⟨rfl,_⟩:=hl1 n bx h;exact hk
  ·intro n bx h;obtain⟨rfl,rfl⟩:=hl1 n bx h;refine⟨⟨w.heap.size,vs,hbox,pd _ _,hcs.le hle,hone,fun o => ?_⟩,fun b hb => ?_⟩
   ·cases hq:G'.imm w.heap.size o with|none=>rfl|some v=>have:=hlt _ _ _ hq;omega
   ·simp only[Gh.at,hbox,qI]at hb;omega
  ·intro n m bx bx' b h1 h2 _ _;obtain⟨rfl,_⟩:=hl1 n bx h1;obtain⟨rfl,_⟩:=hl1 m bx' h2;rfl
def q9j(hr:aj vj6 vj1 vj3 G s a w){t:Tmp}{cs:List AV}{T:TypeId}{vs:Array Value}{s':St}(hn:a8 (s.nx+32*t) s.hp=true)(hcs:al cs G vs.toList)(hone:∀v∈vs.toList,v.oneCell'=true)
  (hs:s.add (some t) (.ptr (s.nx+32*t) 0) [(s.nx+32*t,.cells cs T)]=some s') :
  ∃G',aj vj6 vj1 vj3 G' s' (a.put (some t) (.pointer (some ⟨w.heap.size,0,none⟩))) (w.alloc (.cells vs T)):=
 q9k (v := .ptr (s.nx+32*t) 0) (u := .pointer (some ⟨w.heap.size,0,none⟩)) hr hn hcs hone (fun _ h=>⟨w.heap.size,h,rfl⟩) hs
def q0t(ρ:Nat->Option Nat)(k:Nat):∀(l:List (Nat×ah))(m:Nat),ae (l5 ρ k l) m=if k<=m then(ae l (m-k)).map (dy ρ) else none
 |[],m=>by simp[l5,ae]|(n,b)::r,m=>by
  simp only[l5,ae,q0t ρ k r m];by_cases hm:k<=m
  ·simp only[hm,if_true];by_cases he:k+n=m
   ·have h1:Nat.beq (k+n) m=true:=by simpa using he
    have h2:Nat.beq n (m-k)=true:=by simp;omega
    rw[h1,h2];rfl
   ·have h1:Nat.beq (k+n) m=false:=by
     cases hb:Nat.beq (k+n) m;· rfl
     ·exact absurd (qN hb) he
    have h2:Nat.beq n (m-k)=false:=by
     cases hb:Nat.beq n (m-k);· rfl
     ·have:=qN hb;omega
    rw[h1,h2];rfl
  ·simp only[hm,if_false];have h1:Nat.beq (k+n) m=false:=by
    cases hb:Nat.beq (k+n) m;· rfl
    ·have:=qN hb;omega
   rw[h1];rfl
def vx{m:Nat}:∀{hp:List (Nat×ah)},rt m hp=true->∀n bx,ae hp n=some bx->n<m/\bx.noLoop=true
 |[],_,n,bx,h=>by cases h
 |(k,b)::r,h,n,bx,hl=>by
  simp only[rt,qA,Nat.blt_eq]at h;simp only[ae]at hl;cases hb:Nat.beq k n
  ·rw[hb]at hl;exact vx h.2 n bx hl
  ·rw[hb]at hl;simp only[qT,qI]at hl;subst hl;have:=qN hb;exact⟨by omega,h.1.2⟩
def zm2(hr:aj vj6 vj1 vj3 G s a w){t:Tmp}{r:AV}{hp':List (Nat×ah)}{s':St}(hn:a8 (s.nx+32*t) s.hp=true)(hl:rt 32 hp'=true)
  {e:Ending} {w':World} (hpost:ng w G [] r hp' e w')
  (hs:s.add (some t) (AV.ren (shift hp' (s.nx+32*t)) r) (l5 (shift hp' (s.nx+32*t)) (s.nx+32*t) hp')=some s') :
  ∃G' v,e = .returned v/\aj vj6 vj1 vj3 G' s' (a.put (some t) v) w':=by
 obtain⟨v,G1,rfl,hf,hv⟩:=hpost
 let k:=s.nx+32*t
 let G':Gh:={ imm:=G1.imm,box:=fun m=>match G.box m with|some B=>some B|none=>if k<=m/\(ae hp' (m-k)).isSome then G1.box (m-k) else none,own:=fun m=>match G.own m with|some B=>some B|none=>if k<=m/\(ae hp' (m-k)).isSome then G1.own (m-k) else none }
 have hle:G.le G':=⟨hf.imm_le,fun n B h=>by show(match G.box n with|some B=>some B|none=>_)=_;rw[h],fun n B h=>by show(match G.own n with|some B=>some B|none=>_)=_;rw[h]⟩
 have hfree:∀n bx,ae hp' n=some bx->ae s.hp (k+n)=none/\G.box (k+n)=none/\G.own (k+n)=none:=fun n bx h=>by
  have hlt:=(vx hl n bx h).1;have h1:=lx hn (k+n) (by omega) (by omega)
  exact⟨h1,hr.fresh _ (by omega) h1⟩
 have hbox:∀n bx,ae hp' n=some bx->G'.box (k+n)=G1.box n:=fun n bx h=>by
  obtain⟨_,h2,_⟩:=hfree n bx h;show(match G.box (k+n) with|some B=>some B|none=>_)=_
  rw[h2];simp[h]
 have hown:∀n bx,ae hp' n=some bx->G'.own (k+n)=G1.own n:=fun n bx h=>by
  obtain⟨_,_,h2⟩:=hfree n bx h;show(match G.own (k+n) with|some B=>some B|none=>_)=_
  rw[h2];simp[h]
 have hsome:∀n n',shift hp' k n=some n'->n'=k+n/\∃bx,ae hp' n=some bx:=fun n n' h=>by
  unfold shift at h
  cases hq:ae hp' n with
  |none=>rw[hq]at h;cases h
  |some bx=>rw[hq]at h;simp only[qI]at h;exact⟨h.symm,bx,rfl⟩
 have rb:∀n n' B,shift hp' k n=some n'->G1.box n=some B->G'.box n'=some B:=fun n n' B h h1=>by
  obtain⟨rfl,bx,hb⟩:=hsome n n' h;rw[hbox n bx hb];exact h1
 have ro:∀n n' B,shift hp' k n=some n'->G1.own n=some B->G'.own n'=some B:=fun n n' B h h1=>by
  obtain⟨rfl,bx,hb⟩:=hsome n n' h;rw[hown n bx hb];exact h1
 have hat:∀n bx,ae hp' n=some bx->G'.at (k+n) (dy (shift hp' k) bx)=G1.at n bx:=fun n bx h=>by
  cases bx with|cells cs T=>simp only[dy,Gh.at];exact hbox n _ h|row τ l E=>simp only[dy,Gh.at];rw[hown n _ h]|loop=>exact absurd (vx hl n _ h).2 (by simp[ah.noLoop])|dfr=>exact absurd (vx hl n _ h).2 (by simp[ah.noLoop])|it s0 p0=>exact absurd (vx hl n _ h).2 (by simp[ah.noLoop])|dead=>rfl
 have hnb:∀b,¬o7 G [] b:=fun b⟨n,bx,h,_⟩=>by cases h
 have hst:cd w w':=⟨hf.bel.os,hf.bel.tape,hf.bel.output,hf.bel.size,fun j hj _=>hf.bel.block j hj (hnb j)⟩
 have hlk:∀m bx,ae (l5 (shift hp' k) k hp') m=some bx->∃n b0,m=k+n/\ae hp' n=some b0/\bx=dy (shift hp' k) b0:=fun m bx h=>by
  rw[q0t]at h;split at h
  ·rename_i hm
   cases hq:ae hp' (m-k) with
   |none=>rw[hq]at h;cases h
   |some b0=>rw[hq]at h;simp only[wQ,qI]at h;exact⟨m-k,b0,by omega,hq,h.symm⟩
  ·cases h
 refine⟨G',v,rfl,hr.put hs hle ?_ (ak.ren (G:=G1) (G':=G') (fun _ _ _ h=>h) rb ro hv) ?_⟩
 ·intro m hm hlm;rw[pm]at hlm;have h1:ae (l5 (shift hp' k) k hp') m=none:=by
   cases hq:ae (l5 (shift hp' k) k hp') m with|none=>rfl|some b=>rw[show l5 (shift hp' (s.nx+32*t)) (s.nx+32*t) hp'=l5 (shift hp' k) k hp' from rfl,hq]at hlm;cases hlm
  have h2:ae s.hp m=none:=by
   rw[show l5 (shift hp' (s.nx+32*t)) (s.nx+32*t) hp'=l5 (shift hp' k) k hp' from rfl,h1]at hlm;exact hlm
  obtain⟨h3,h4⟩:=hr.fresh m hm h2;rw[q0t]at h1;have h5:¬(k<=m/\(ae hp' (m-k)).isSome):=fun⟨h6,h7⟩=>by
   rw[qX h6]at h1
   cases hq:ae hp' (m-k) with
   |none=>rw[hq]at h7;cases h7
   |some b=>rw[hq]at h1;cases h1
  constructor
  ·show(match G.box m with|some B=>some B|none=>_)=_;rw[h3];simp only[h5,if_false]
  ·show(match G.own m with|some B=>some B|none=>_)=_;rw[h4];simp only[h5,if_false]
 ·refine hr.fin.extend hle hst (fun b o v h => ?_) hf.mem.agree hf.mem.one ?_ ?_ ?_
  ·rcases hf.imm_new b o v h with h|h|h
   ·exact .inl h
   ·exact .inr h
   ·exact absurd h (hnb b)
  ·intro m bx h;obtain⟨n,b0,rfl,hq,_⟩:=hlk m bx h;exact(hfree n b0 hq).1
  ·intro m bx h;obtain⟨n,b0,rfl,hq,rfl⟩:=hlk m bx h;refine⟨?_,fun b hb => ?_⟩
   ·have hb:=hf.mem.holds n b0 hq
    cases b0 with
    |cells cs T=>
     obtain⟨B,vs,h1,h2,h3,h4,h5⟩:=hb;exact⟨B,vs,by rw[hbox n _ hq];exact h1,h2,al.ren (G:=G1) (G':=G') (fun _ _ _ h=>h) rb ro h3,h4,h5⟩
    |loop=>exact absurd (vx hl n _ hq).2 (by simp[ah.noLoop])|dfr=>exact absurd (vx hl n _ hq).2 (by simp[ah.noLoop])|it s0 p0=>exact absurd (vx hl n _ hq).2 (by simp[ah.noLoop])|row τ l E=>
     obtain⟨ad,c,h1,h3⟩:=hb;refine⟨ad,c,by rw[hown n _ hq];exact h1,?_⟩
     rcases h3 with h3|⟨g,vs,fz,k1,k2,k3,k4,k5,k6,k7,k8,k9⟩
     ·exact .inl h3
     ·exact .inr ⟨g,vs,fz,k1,k2,k3,k4,k5,k6,k7,k8,k9⟩
    |dead=>trivial
   ·rw[hat n b0 hq]at hb;rcases hf.base n b0 b hq hb with h|h
    ·exact h
    ·exact absurd h (hnb b)
  ·intro m m' bx bx' b h1 h2 h3 h4;obtain⟨n,b0,rfl,hq,rfl⟩:=hlk m bx h1;obtain⟨n',b0',rfl,hq',rfl⟩:=hlk m' bx' h2;rw[hat n b0 hq]at h3;rw[hat n' b0' hq']at h4;rw[hf.mem.apart n n' b0 b0' b hq hq' h3 h4]
def qyd(hr:aj vj6 vj1 vj3 G s a w){o:Oper}{d:D}{ps:List Prop}{v:AV}{new:List (Nat×ah)}{s':St}(h:e8 P s d o=some (ps,v,new))(hp:ar ps)(hs:s.add o.dst v new=some s')
  {N:Act->World->Prop} {Q:Exit->Act->World->Prop} (hN:∀G' a' w',aj vj6 vj1 vj3 G' s' a' w'->N a' w'):o.wp P a w N Q:=by
 unfold e8 at h;split at h
 ·rename_i ps' v' hv;simp only[qI,qP]at h;obtain⟨rfl,rfl,rfl⟩:=h;obtain⟨u,hu,hru⟩:=zmd hr hv hp;unfold Oper.wp;rw[hu];exact hN _ _ _ (gn hr hs hru)
 ·obtain⟨dst,op,ty,pos,after,guard⟩:=o;simp only at hs;unfold ip at h;split at h
  ·rename_i T t ho hd;simp only at ho hd;subst ho hd;split at h
   ·rename_i cs hz;cases hb:AV.ones cs&&a8 (s.nx+32*t) s.hp<;>rw[hb]at h<;>simp only[qT,qF,reduceCtorEq,qI,qP]at h
    obtain⟨rfl,rfl,rfl⟩:=h;simp only[qA]at hb;obtain⟨z,hz1,hz2⟩:=qqr hz w G;obtain⟨G',hG⟩:=q9j hr hb.2 hz2 (od hz2 hb.1) hs;have hrun:(execOp a.eval ⟨some t,.alloc T,ty,pos,after,guard⟩).run P w = .ok (.value (.pointer (some ⟨w.heap.size,0,none⟩))) (w.alloc (.cells z.cells T)):=by
     simp[execOp,Instr.alloc,hz1,newVar,newRow]
    unfold Oper.wp;rw[hrun];exact hN _ _ _ hG
   ·cases h
  ·rename_i T x t ho hd;simp only at ho hd;subst ho hd;split at h
   ·rename_i v' hx;cases hb:AV.ones v'.cells&&a8 (s.nx+32*t) s.hp<;>rw[hb]at h<;>simp only[qT,qF,reduceCtorEq,qI,qP]at h
    obtain⟨rfl,rfl,rfl⟩:=h;simp only[qA]at hb;have hz2:=(bm hr hx).cells hb.1;obtain⟨G',hG⟩:=q9j hr hb.2 hz2 (od hz2 hb.1) hs;have hrun:(execOp a.eval ⟨some t,.box T x,ty,pos,after,guard⟩).run P w = .ok (.value (.pointer (some ⟨w.heap.size,0,none⟩))) (w.alloc (.cells (a.eval x).cells T)):=by
     simp[execOp,Instr.box,newVar,newRow]
    unfold Oper.wp;rw[hrun];exact hN _ _ _ hG
   ·cases h
  ·rename_i g args tys t ho hd;simp only at ho hd;subst ho hd;split at h
   ·rename_i f cap xs bb xs' r hp' hg hargs _;split at h
    ·rename_i pv hvw;cases hb:rt 32 hp'&&a8 (s.nx+32*t) s.hp&&(!bb||noRef r)<;>rw[hb]at h<;>simp only[qT,qF,reduceCtorEq,qI,qP]at h
     obtain⟨rfl,rfl,rfl⟩:=h;simp only[qA]at hb;obtain⟨hpl,hc,hp2⟩:=hp;obtain⟨hpv,hpn⟩:=dt.1 hp2;obtain⟨fs,cs,hge,hfs,hcs⟩:=bm hr hg;have hfs0:fs=#[]:=by
      have h0:=hfs.length;exact Array.eq_empty_of_size_eq_zero (by simpa using h0.symm)
     subst hfs0;have hrun:(execOp a.eval ⟨some t,.call { callee := .value g,args:=args,argTypes:=tys },ty,pos,after,guard⟩).run P w = .ok (.enter f (args.map a.eval++cs)) w:=by
      simp[execOp,resolve,hge,Deferred.ofValue,invoke,hpl _ w]
     unfold Oper.wp;rw[hrun];have hreps:al (xs++cap) G ((args.toList.map a.eval)++cs.toList):=we (y6 hr hargs) hcs;have e1:((args.toList.map a.eval)++cs.toList).toArray=args.map a.eval++cs:=by simp
     have hpost:Calls P f (args.map a.eval++cs) w (ng w G [] r hp'):=by
      cases bb
      ·have:=hc w G _ ⟨hr.fin.mem.agree,hr.fin.mem.one,fun n bx h=>(by cases h),fun n m bx bx' b h=>(by cases h),hr.fin.mem.tab⟩ (kh (Gh.le.refl G) (fun e=>by cases e) hvw hpv hreps)
       rwa [e1]at this
      ·obtain⟨z1,z2,z3,z4⟩:=qyn hr.fin;have:=hc w (G.allData s.hp w) _ z2 (kh z1 (fun _=>z4) hvw hpv hreps)
       rw[e1]at this;refine this.mono (fun e w' hp => ?_)
       exact ng.unfreeze hr.fin.mem.tab z3 hp (by simpa using hb.2) hpn
     refine hpost.mono ?_;intro e w' hpost;obtain⟨G',v,rfl,hG⟩:=zm2 hr hb.1.2 hb.1.1 hpost hs;exact hN _ _ _ hG
    ·cases h
   ·cases h
  ·rename_i args argTypes tt ho hd;simp only at ho hd;subst ho hd;split at h
   ·rename_i x y t t2 ha hty;split at h
    ·rename_i v hx hy;split at h
     ·rename_i ps b happ;cases hb:a8 (s.nx+32*tt) s.hp<;>rw[hb]at h<;>simp only[qT,qF,reduceCtorEq,qI,qP]at h
      obtain⟨rfl,rfl,rfl⟩:=h;have e1:args=#[x,y]:=by rw[← Array.toArray_toList (xs:=args),ha]
      have e2:argTypes=#[t,t2]:=by rw[← Array.toArray_toList (xs:=argTypes),hty]
      subst e1 e2;obtain⟨τ,l,E,rfl,_,hgo⟩:=q78 hr (ty:=ty) (_sz0:=0) (_E0:=0) (ad:=none) (c:=0) (us:=[]) happ hp (bm hr hy) trivial;obtain⟨ad',c',us',w',h1,h2,h3,h4,h5⟩:=hgo ⟨by simp,.inl ⟨rfl,rfl,rfl⟩⟩
      have hx':=bm hr hx;simp only[ak]at hx';obtain⟨G',hG⟩:=qjn hr hb ⟨h5.os,h5.tape,h5.output,h5.size,fun k hk _=>h5.block k hk (by simp[cv])⟩ h2 h3 (fun b hb=>by
       rcases h4 with h4|⟨g,h4,h6⟩
       ·rw[h4]at hb;cases hb
       ·rw[h4]at hb;injection hb with hb;omega) hs
      have hrun:(execOp a.eval ⟨some tt,.call { callee := .builtin .append,args:=#[x,y],argTypes:=#[t,t2] },ty,pos,after,guard⟩).run P w = .ok (.value (.slice ad' l.length c')) w':=by
       simp[execOp,resolve,invoke,builtin,hx',h1]
      unfold Oper.wp;rw[hrun];exact hN _ _ _ hG
     ·cases h
    ·cases h
   ·cases h
  ·rename_i t len parts tt ho hd;simp only at ho hd;subst ho hd;split at h
   ·rename_i ps b hbs;cases hb:a8 (s.nx+32*tt) s.hp<;>rw[hb]at h<;>simp only[qT,qF,reduceCtorEq,qI,qP]at h
    obtain⟨rfl,rfl,rfl⟩:=h;obtain⟨τ,l,E,rfl,us,w',h1,h2,h3,h4⟩:=zkw hr hbs hp;obtain⟨G',hG⟩:=qjn hr hb h4 h2 h3 (fun b hb=>by injection hb with hb;simp at hb;omega) hs
    unfold Oper.wp;rw[show(execOp a.eval ⟨some tt,.buildSlice t len parts,ty,pos,after,guard⟩).run P w = .ok (.value (.slice (some ⟨w.heap.size,0,none⟩) l.length l.length)) w' by simp[execOp,h1]]
    exact hN _ _ _ hG
   ·split at h
    ·rename_i cs E hbc;cases hb:a8 (s.nx+32*tt) s.hp<;>rw[hb]at h<;>simp only[qT,qF,reduceCtorEq,qI,qP]at h
     obtain⟨rfl,rfl,rfl⟩:=h;obtain⟨us,h1,h2,h3⟩:=zkv hr hbc;obtain⟨G',hG⟩:=q9k (v := .asl (s.nx+32*tt) len len) (u := .slice (some ⟨w.heap.size,0,none⟩) len len) hr hb h2 h3 (fun _ h=>⟨w.heap.size,h,wF _,rfl⟩) hs
     unfold Oper.wp;rw[show(execOp a.eval ⟨some tt,.buildSlice t len parts,ty,pos,after,guard⟩).run P w = .ok (.value (.slice (some ⟨w.heap.size,0,none⟩) len len)) (w.alloc (.cells us E)) by simp[execOp,h1]]
     exact hN _ _ _ hG
    ·cases h
  ·rename_i src dst x tt ho hd;simp only at ho hd;subst ho hd;split at h
   ·rename_i sd E b hsd hdd hx;split at h
    ·rename_i he;cases hb:a8 (s.nx+32*tt) s.hp<;>rw[hb]at h<;>simp only[qT,qF,reduceCtorEq,qI,qP]at h
     obtain⟨rfl,rfl,rfl⟩:=h;simp only[ar,and_true]at hp;obtain⟨c,us,w',h1,h2,h3,h4⟩:=zvh (P:=P) (w:=w) (G:=G.data) hsd hdd he b hp;have hx':=bm hr hx;simp only[ak]at hx';obtain⟨G',hG⟩:=qjn (τ := .byte) (l:=b) (E:=E) hr hb h4 h2 h3 (fun b hb=>by injection hb with hb;simp at hb;omega) hs
     unfold Oper.wp;rw[show(execOp a.eval ⟨some tt,.convert src dst x,ty,pos,after,guard⟩).run P w = .ok (.value (.slice (some ⟨w.heap.size,0,none⟩) b.length c)) w' by simp[execOp,hx',h1]]
     exact hN _ _ _ hG
    ·cases h
   ·cases h
  ·cases h
end
def rz{names:List (Nat×Nat)}{n m:Nat}(h:ax names n=some m):a6 names m=some n:=by
 unfold ax at h;split at h
 ·rename_i m' hm;split at h
  ·rename_i n' hn;cases hb:Nat.beq n' n<;>rw[hb]at h<;>simp only[qT,qF,reduceCtorEq,qI]at h
   subst h;have:=qN hb;subst this;exact hn
  ·cases h
 ·cases h
def qd0{ρ:Nat->Option Nat}{hp:List (Nat×ah)}:∀{names:List (Nat×Nat)}{l:List (Nat×ah)},io ρ hp names=some l->∀m,(∀b',ae l m=some b'->∃n b,a6 names m=some n/\ae hp n=some b/\b'=dy ρ b)/\(ae l m=none->a6 names m=none)
 |[],l,h,m=>by simp only[io,qI]at h;subst h;exact⟨fun b' hb=>(by cases hb),fun _=>rfl⟩
 |(k,n)::r,l,h,m=>by
  simp only[io]at h;split at h
  ·rename_i b l1 hb hl1;simp only[qI]at h;subst h;simp only[ae,a6];cases hq:Nat.beq k m
   ·simpa using qd0 hl1 m
   ·simp only[qT];exact⟨fun b' hb'=>by injection hb' with hb';exact⟨n,b,rfl,hb,hb'.symm⟩,fun h=>(by cases h)⟩
  ·cases h
def ze:∀{names:List (Nat×Nat)}{n:Nat},nz names n=none->∀m,a6 names m≠some n
 |[],n,_,m=>by simp[a6]|(k,v)::r,n,h,m=>by
  simp only[nz]at h;cases hb:Nat.beq v n
  ·rw[hb]at h;simp only[qF]at h;simp only[a6];cases hq:Nat.beq k m
   ·exact ze h m
   ·simp only[qT,ne_eq,qI];intro e;subst e;simp at hb
  ·rw[hb]at h;cases h
def qcz:∀{names:List (Nat×Nat)},d7 names=true->∀m m' n,a6 names m=some n->a6 names m'=some n->m=m'
 |[],_,m,m',n,h,_=>by cases h
 |(k,v)::r,hd,m,m',n,h,h'=>by
  simp only[d7,qA]at hd;have hn:nz r v=none:=by
   obtain⟨h1,_⟩:=hd;split at h1
   ·cases h1
   ·assumption
  simp only[a6]at h h';cases hq:Nat.beq k m<;>cases hq':Nat.beq k m'<;>rw[hq]at h<;>rw[hq']at h'<;>simp only[qT,qF,qI]at h h'
  ·exact qcz hd.2 m m' n h h'
  ·subst h';exact absurd h (ze hn m)
  ·subst h;exact absurd h' (ze hn m')
  ·rw[← qN hq,← qN hq']
def uc{names:List (Nat×Nat)}(hd:d7 names=true){n m:Nat}(h:a6 names n=some m):ax names m=some n:=by
 unfold ax
 cases hq:nz names m with
 |none=>exact absurd h (ze hq n)|some n'=>
  have h':∀{names:List (Nat×Nat)},d7 names=true->∀{n n'},nz names m=some n'->a6 names n=some m->n'=n:=by
   intro names
   induction names with
   |nil=>intro _ n n' h;cases h
   |cons x r ih=>
    obtain⟨k,v⟩:=x;intro hd n n' h1 h2;simp only[d7,qA]at hd;simp only[nz]at h1;simp only[a6]at h2;cases hb:Nat.beq v m
    ·rw[hb]at h1;cases hb2:Nat.beq k n
     ·rw[hb2]at h2;exact ih hd.2 h1 h2
     ·rw[hb2]at h2;simp only[qT,qI]at h2;subst h2;simp at hb
    ·rw[hb]at h1;simp only[qT,qI]at h1;subst h1;have hv:=qN hb;subst hv;cases hb2:Nat.beq k n
     ·rw[hb2]at h2;simp only[qF]at h2;obtain⟨h3,_⟩:=hd;split at h3
      ·cases h3
      ·rename_i h4;exact absurd h2 (ze h4 n)
     ·exact qN hb2
  have:=h' hd hq h;subst this;simp[h]
def Gh.view(G:Gh)(names:List (Nat×Nat)):Gh:={ imm:=G.imm,box:=fun m=>(a6 names m).bind G.box,own:=fun m=>(a6 names m).bind G.own }
def zeb{ρ:Nat->Option Nat}:∀{fr:List (Nat×AV)}{i:Nat}{x:AV},ae (ob ρ fr) i=some x->∃y,ae fr i=some y/\x=y.ren ρ
 |[],_,_,h=>by cases h
 |(j,y)::r,i,x,h=>by
  simp only[ob,ae]at h ⊢;cases hb:Nat.beq j i
  ·rw[hb]at h;simpa using zeb h
  ·rw[hb]at h;simp only[qT,qI]at h;exact⟨y,by simp,h.symm⟩
section
variable{P:Program}{vj6:World}{vj1:Gh}{vj3:List (Nat×ah)}{G:Gh}{s:St}{a:Act}{w:World}
def sh(names:List (Nat×Nat)):∀n n' B,ax names n=some n'->G.box n=some B->(G.view names).box n'=some B:=fun n n' B h h1=>by
 show(a6 names n').bind G.box=_;rw[rz h];exact h1
def ug(names:List (Nat×Nat)):∀n n' B,ax names n=some n'->G.own n=some B->(G.view names).own n'=some B:=fun n n' B h h1=>by
 show(a6 names n').bind G.own=_;rw[rz h];exact h1
def dj.ren{G':Gh}{ρ:Nat->Option Nat}{n m:Nat}(hi:∀b o v,G.imm b o=some v->G'.imm b o=some v)(hi':∀b o v,G'.imm b o=some v->G.imm b o=some v)
  (hb:∀n n' B,ρ n=some n'->G.box n=some B->G'.box n'=some B) (ho:∀n n' B,ρ n=some n'->G.own n=some B->G'.own n'=some B)
  (hnb:∀B,G.box n=some B->G'.box m=some B) (hno:∀v,G.own n=some v->G'.own m=some v) {b:ah} (h:dj G w n b):dj G' w m (dy ρ b):=by
 have hnone:∀B,(∀o,G.imm B o=none)->∀o,G'.imm B o=none:=fun B h o=>by
  cases hq:G'.imm B o with|none=>rfl|some v=>have:=hi' B o v hq;rw[h]at this;cases this
 cases b with
 |cells cs T=>
  obtain⟨B,vs,k1,k2,k3,k4,k5⟩:=h;exact⟨B,vs,hnb _ k1,k2,al.ren hi hb ho k3,k4,hnone B k5⟩
 |row τ l E=>
  obtain⟨ad,c,k1,k3⟩:=h;refine⟨ad,c,hno _ k1,?_⟩;rcases k3 with k3|⟨g,vs,fz,m1,m2,m3,m4,m5,m6,m7,m8,m9⟩
  ·exact .inl k3
  ·exact .inr ⟨g,vs,fz,m1,m2,m3,m4,m5,m6,al.data_le hi m7,m8,hnone g m9⟩
 |loop st pe f j fr ps tag D=>
  obtain⟨B,tmps,DB,k1,k2,k3,k4,k5,k6⟩:=h;simp only[dy];split
  ·rename_i D' hD;refine⟨B,tmps,DB,hnb _ k1,hb _ _ _ hD k2,k3,k4,fun i x hx => ?_,hnone B k6⟩
   obtain⟨y,hy,rfl⟩:=zeb hx;obtain⟨v,q1,q2⟩:=k5 i y hy;exact⟨v,q1,ak.ren hi hb ho q2⟩
  ·trivial
 |dfr=>
  obtain⟨B,k1,k2,k3⟩:=h;exact⟨B,hnb _ k1,k2,hnone B k3⟩
 |it s0 p0=>
  obtain⟨B,k1,k2,k3⟩:=h;exact⟨B,hnb _ k1,k2,hnone B k3⟩
 |dead=>trivial
def qj{G':Gh}{ρ:Nat->Option Nat}{n m:Nat}(hb:G'.box m=G.box n)(ho:G'.own m=G.own n){b:ah}{c:Nat}(h:G'.at m (dy ρ b)=some c):G.at n b=some c:=by
 cases b with
 |cells cs T=>simp only[dy,Gh.at]at h ⊢;rw[← hb];exact h|row τ l E=>simp only[dy,Gh.at]at h ⊢;rw[← ho];exact h|loop st pe f j fr ps tag D=>
  simp only[dy]at h;split at h
  ·simp only[Gh.at]at h ⊢;rw[← hb];exact h
  ·cases h
 |dfr=>simp only[dy,Gh.at]at h ⊢;rw[← hb];exact h|it s0 p0=>simp only[dy,Gh.at]at h ⊢;rw[← hb];exact h|dead=>cases h
def cn.view{hp l:List (Nat×ah)}(hm:cn G hp w){names:List (Nat×Nat)}(h:io (ax names) hp names=some l)(hinj:∀m m' n,a6 names m=some n->a6 names m'=some n->m=m'):cn (G.view names) l w:=by
 have eb:∀m n,a6 names m=some n->(G.view names).box m=G.box n:=fun m n hm=>by simp[Gh.view,hm]
 have eo:∀m n,a6 names m=some n->(G.view names).own m=G.own n:=fun m n hm=>by simp[Gh.view,hm]
 refine⟨hm.agree,hm.one,?_,?_,hm.tab⟩
 ·intro m b' hb';obtain⟨n,b,h1,h2,rfl⟩:=(qd0 h m).1 b' hb';exact dj.ren (G:=G) (G':=G.view names) (ρ:=ax names) (n:=n) (fun _ _ _ h=>h) (fun _ _ _ h=>h) (sh names) (ug names) (fun B hB=>by rw[eb m n h1];exact hB) (fun B hB=>by rw[eo m n h1];exact hB) (hm.holds n b h2)
 ·intro m m' b b' c h1 h2 h3 h4;obtain⟨n,b0,i1,i2,rfl⟩:=(qd0 h m).1 b h1;obtain⟨n',b0',j1,j2,rfl⟩:=(qd0 h m').1 b' h2;have:=hm.apart n n' b0 b0' c i2 j2 (qj (eb m n i1) (eo m n i1) h3) (qj (eb m' n' j1) (eo m' n' j1) h4);subst this;exact hinj m m' n i1 j1
def zgu:∀{fr fr':List (Nat×AV)}{ps:List Prop},qab fr fr'=some ps->ar ps->∀i y,ae fr' i=some y->∃x qs,ae fr i=some x/\vw false [] x y=some qs/\ar qs
 |_,[],_,_,_,i,y,h=>by cases h
 |fr,(j,z)::r,ps,h,hp,i,y,hy=>by
  simp only[qab]at h;split at h
  ·rename_i x hx;split at h
   ·rename_i ps1 ps2 h1 h2;simp only[qI]at h;subst h;obtain⟨p1,p2⟩:=dt.1 hp;simp only[ae]at hy;cases hb:Nat.beq j i
    ·rw[hb]at hy;exact zgu h2 p2 i y hy
    ·rw[hb]at hy;simp only[qT,qI]at hy;subst hy;have:=qN hb;subst this;exact⟨x,ps1,hx,h1,p1⟩
   ·cases h
  ·cases h
def qd4{b b':ah}{ps:List Prop}(h:wt b b'=some ps)(hp:ar ps){n:Nat}(hb:dj G w n b):dj G w n b'/\∀c,G.at n b'=some c->G.at n b=some c:=by
 unfold wt at h;split at h
 ·exact⟨trivial,fun c hc=>by cases hc⟩
 ·rename_i xs T ys T';cases hq:Nat.beq T T'<;>rw[hq]at h<;>simp only[qT,qF,reduceCtorEq]at h
  have:=qN hq;subst this;obtain⟨B,vs,k1,k2,k3,k4,k5⟩:=hb;exact⟨⟨B,vs,k1,k2,kh (Gh.le.refl G) (fun e=>by cases e) h hp k3,k4,k5⟩,fun c hc=>hc⟩
 ·simp only[qI]at h;subst h;simp only[ar,and_true]at hp;subst hp;exact⟨hb,fun c hc=>hc⟩
 ·split at h
  ·rename_i qs hqs;simp only[qI]at h;subst h;obtain⟨e1,e2⟩:=dt.1 hp;obtain⟨rfl,rfl,rfl,rfl,rfl,rfl,rfl,_⟩:=e1;obtain⟨B,tmps,DB,k1,k2,k3,k4,k5,k6⟩:=hb;refine⟨⟨B,tmps,DB,k1,k2,k3,k4,fun i y hy => ?_,k6⟩,fun c hc=>hc⟩
   obtain⟨x,q,h1,h2,h3⟩:=zgu hqs e2 i y hy;obtain⟨v,h4,h5⟩:=k5 i x h1;exact⟨v,h4,q20 (Gh.le.refl G) (fun e=>by cases e) h2 h3 h5⟩
  ·cases h
 ·exact⟨hb,fun c hc=>hc⟩
 ·simp only[qI]at h;subst h;obtain⟨rfl,rfl,_⟩:=hp;exact⟨hb,fun c hc=>hc⟩
 ·cases h
def qd5:∀{l l':List (Nat×ah)}{ps:List Prop},jt l l'=some ps->ar ps->∀n,(∀b',ae l' n=some b'->∃b qs,ae l n=some b/\wt b b'=some qs/\ar qs)/\((ae l n).isSome->(ae l' n).isSome)
 |[],[],_,_,_,n=>⟨fun b' h=>(by cases h),fun h=>h⟩
 |(m,b)::r,(m',b')::r',ps,h,hp,n=>by
  simp only[jt]at h;cases hq:Nat.beq m m'<;>rw[hq]at h<;>simp only[qT,qF,reduceCtorEq]at h
  have:=qN hq;subst this;split at h
  ·rename_i ps1 ps2 h1 h2;simp only[qI]at h;subst h;obtain⟨p1,p2⟩:=dt.1 hp;simp only[ae];cases hb:Nat.beq m n
   ·simpa using qd5 h2 p2 n
   ·simp only[qT,qI,Option.isSome_some,imp_self,and_true];intro b2 e;subst e;exact⟨b,ps1,rfl,h1,p1⟩
  ·cases h
 |[],_::_,_,h,_,_=>by simp[jt]at h|_::_,[],_,h,_,_=>by simp[jt]at h
def cn.vw{hp l:List (Nat×ah)}(hm:cn G hp w){ps:List Prop}(h:jt hp l=some ps)(hps:ar ps):cn G l w:=by
 refine⟨hm.agree,hm.one,fun n b hb => ?_,fun n m b b' c h1 h2 h3 h4 => ?_,hm.tab⟩
 ·obtain⟨b0,qs,k1,k2,k3⟩:=(qd5 h hps n).1 b hb;exact(qd4 k2 k3 (hm.holds n b0 k1)).1
 ·obtain⟨b0,qs,k1,k2,k3⟩:=(qd5 h hps n).1 b h1;obtain⟨b0',qs',k1',k2',k3'⟩:=(qd5 h hps m).1 b' h2;exact hm.apart n m b0 b0' c k1 k1' ((qd4 k2 k3 (hm.holds n b0 k1)).2 c h3) ((qd4 k2' k3' (hm.holds m b0' k1')).2 c h4)
def qyx{names:List (Nat×Nat)}{hp:List (Nat×ah)}{k n m:Nat}(h:ld names hp k n=some m):a6 names n=some m\/(a6 names n=none/\(ae hp n).isSome/\n<32/\m=k+n):=by
 unfold ld at h;split at h
 ·rename_i old ho;simp only[qI]at h;subst h;exact .inl ho
 ·rename_i hn;split at h
  ·rename_i b hb;cases hq:Nat.blt n 32<;>rw[hq]at h<;>simp only[qT,qF,reduceCtorEq,qI]at h
   exact .inr ⟨hn,by rw[hb];rfl,by simpa using hq,h.symm⟩
  ·cases h
def qyw{ρ:Nat->Option Nat}(hinj:∀n n' m,ρ n=some m->ρ n'=some m->n=n'):∀{hp:List (Nat×ah)}{m:Nat},(∀b',ae (lf ρ hp) m=some b'->∃n b,ρ n=some m/\ae hp n=some b/\b'=dy ρ b)/\(ae (lf ρ hp) m=none->∀n,ρ n=some m->ae hp n=none)
 |[],m=>⟨fun b' h=>(by cases h),fun _ _ _=>rfl⟩
 |(n,b)::r,m=>by
  have ih:=qyw hinj (hp:=r) (m:=m);simp only[lf]
  cases hq:ρ n with
  |none=>
   simp only;refine⟨fun b' hb' => ?_,fun h n' hn' => ?_⟩
   ·obtain⟨n',b0,h1,h2,h3⟩:=ih.1 b' hb';refine⟨n',b0,h1,?_,h3⟩;simp only[ae];cases hb:Nat.beq n n'
    ·exact h2
    ·have:=qN hb;subst this;rw[hq]at h1;cases h1
   ·simp only[ae];cases hb:Nat.beq n n'
    ·exact ih.2 h n' hn'
    ·have:=qN hb;subst this;rw[hq]at hn';cases hn'
  |some m'=>
   simp only[ae];cases hb:Nat.beq m' m
   ·simp only[qF];have hne:m'≠m:=fun e=>by subst e;simp at hb
    refine⟨fun b' hb' => ?_,fun h n' hn' => ?_⟩
    ·obtain⟨n',b0,h1,h2,h3⟩:=ih.1 b' hb';refine⟨n',b0,h1,?_,h3⟩;cases hb2:Nat.beq n n'
     ·exact h2
     ·have:=qN hb2;subst this;rw[hq]at h1;injection h1 with h1;exact absurd h1 hne
    ·cases hb2:Nat.beq n n'
     ·exact ih.2 h n' hn'
     ·have:=qN hb2;subst this;rw[hq]at hn';injection hn' with h1;exact absurd h1 hne
   ·simp only[qT];have:=qN hb;subst this;refine⟨fun b' hb' => ?_,fun h=>(by cases h)⟩
    injection hb' with hb'
    exact⟨n,b,hq,by simp,hb'.symm⟩
def qon:∀{names:List (Nat×Nat)}{m:Nat},(∀b,ae (mj names) m=some b->b = .dead)/\(ae (mj names) m=none->nz names m=none)
 |[],m=>⟨fun b h=>(by cases h),fun _=>rfl⟩
 |(n,v)::r,m=>by
  simp only[mj,ae,nz];cases hb:Nat.beq v m
  ·exact qon (names:=r)
  ·exact⟨fun b h=>by simp only[qT,qI]at h;exact h.symm,fun h=>(by cases h)⟩
def zcn(hr:aj vj6 vj1 vj3 G s a w){k:Nat}{r:AV}{names:List (Nat×Nat)}{hpv hp hp':List (Nat×ah)}{ps:List Prop}(hd:d7 names=true)(hn:a8 k s.hp=true)(hkx:s.nx<=k)
  (hv:io (ax names) s.hp names=some hpv) (hvw:jt hpv hp=some ps) (hps:ar ps) {e:Ending} {w':World} (hpost:ng w (G.view names) hp r hp' e w') :
  ∃G' v,e = .returned v/\ak (r.ren (ld names hp' k)) G' v/\G.le G'/\aj vj6 vj1 vj3 G' { s with hp:=lf (ld names hp' k) hp'++(mj names++s.hp) } a w':=by
 obtain⟨v,G1,rfl,hf,hrv⟩:=hpost;obtain⟨ρ,hρ⟩:∃ρ,ρ=ld names hp' k:=⟨_,rfl⟩;rw[← hρ];have hinjN:=qcz hd
 -- what was handed in
 have hpass:∀n m,a6 names n=some m->(∃b,ae s.hp m=some b)/\(ae hp n).isSome:=fun n m h=>by
  have h1:=qd0 hv n;have:(ae hpv n).isSome:=by
   cases hq:ae hpv n with
   |none=>have:=h1.2 hq;rw[h]at this;cases this
   |some b=>rfl
  refine⟨?_,(qd5 hvw hps n).2 this⟩
  cases hq:ae hpv n with
  |none=>rw[hq]at this;cases this
  |some b=>obtain⟨n',b0,i1,i2,_⟩:=h1.1 b hq;rw[h]at i1;injection i1 with i1;subst i1;exact⟨b0,i2⟩
 have hat:∀n b' c,ae hp n=some b'->(G.view names).at n b'=some c->∃m b,a6 names n=some m/\ae s.hp m=some b/\G.at m b=some c:=fun n b' c h1 h2=>by
  obtain⟨b1,qs,i1,i2,i3⟩:=(qd5 hvw hps n).1 b' h1;have hm:cn (G.view names) hpv w:=hr.fin.mem.view hv hinjN;have h3:=(qd4 i2 i3 (hm.holds n b1 i1)).2 c h2;obtain⟨m,b,j1,j2,rfl⟩:=(qd0 hv n).1 b1 i1;exact⟨m,b,j1,j2,qj (G:=G) (by simp[Gh.view,j1]) (by simp[Gh.view,j1]) h3⟩
 have hblk:∀c,o7 (G.view names) hp c->∃n m b,a6 names n=some m/\ae s.hp m=some b/\G.at m b=some c:=fun c⟨n,b',h1,h2⟩=>by
  obtain⟨m,b,q⟩:=hat n b' c h1 h2;exact⟨n,m,b,q⟩
 have hfr:∀j,j<32->ae s.hp (k+j)=none/\G.box (k+j)=none/\G.own (k+j)=none:=fun j hj=>by
  have h1:=lx hn (k+j) (by omega) (by omega)
  exact⟨h1,hr.fresh _ (by omega) h1⟩
 have hnp:∀j n,j<32->a6 names n≠some (k+j):=fun j n hj h=>by
  obtain⟨⟨b,hb⟩,_⟩:=hpass n _ h;rw[(hfr j hj).1]at hb;cases hb
 have hrn:∀j,j<32->ax names (k+j)=none:=fun j hj=>by
  cases hq:ax names (k+j) with|none=>rfl|some n=>exact absurd (rz hq) (hnp j n hj)
 have hρinj:∀n n' m,ρ n=some m->ρ n'=some m->n=n':=fun n n' m h h'=>by
  subst hρ;rcases qyx h with h|⟨h1,h2,h3,h4⟩<;>rcases qyx h' with h'|⟨h1',h2',h3',h4'⟩
  ·exact hinjN n n' m h h'
  ·subst h4';exact absurd h (hnp n' n h3')
  ·subst h4;exact absurd h' (hnp n n' h3)
  ·omega
 let G2:Gh:={ imm:=G1.imm,box:=fun m=>match ax names m with|some n=>G1.box n|none=>match G.box m with|some B=>some B|none=>if k<=m/\m<k+32/\a6 names (m-k)=none/\(ae hp' (m-k)).isSome then G1.box (m-k) else none,own:=fun m=>match ax names m with|some n=>G1.own n|none=>match G.own m with|some B=>some B|none=>if k<=m/\m<k+32/\a6 names (m-k)=none/\(ae hp' (m-k)).isSome then G1.own (m-k) else none }
 have bpass:∀n m,a6 names n=some m->G2.box m=G1.box n/\G2.own m=G1.own n:=fun n m h=>by
  have:=uc hd h;exact⟨by show(match ax names m with|some n=>G1.box n|none=>_)=_;rw[this],by show(match ax names m with|some n=>G1.own n|none=>_)=_;rw[this]⟩
 have bnew:∀n,a6 names n=none->(ae hp' n).isSome->n<32->G2.box (k+n)=G1.box n/\G2.own (k+n)=G1.own n:=fun n h1 h2 h3=>by
  obtain⟨_,f1,f2⟩:=hfr n h3;have hr0:=hrn n h3;have hc:k<=k+n/\k+n<k+32/\a6 names (k+n-k)=none/\(ae hp' (k+n-k)).isSome:=by
   rw[Nat.add_sub_cancel_left];exact⟨by omega,by omega,h1,h2⟩
  constructor
  ·show(match ax names (k+n) with|some n=>G1.box n|none=>match G.box (k+n) with|some B=>some B|none=>_)=_
   rw[hr0,f1];exact(qX hc).trans (by rw[Nat.add_sub_cancel_left])
  ·show(match ax names (k+n) with|some n=>G1.own n|none=>match G.own (k+n) with|some B=>some B|none=>_)=_
   rw[hr0,f2];exact(qX hc).trans (by rw[Nat.add_sub_cancel_left])
 have bρ:∀n m,ρ n=some m->G2.box m=G1.box n/\G2.own m=G1.own n:=fun n m h=>by
  subst hρ;rcases qyx h with h|⟨h1,h2,h3,rfl⟩
  ·exact bpass n m h
  ·exact bnew n h1 h2 h3
 have bold:∀m,ax names m=none->(∀B,G.box m=some B->G2.box m=some B)/\(∀B,G.own m=some B->G2.own m=some B):=fun m h=>by
  refine⟨fun B hB => ?_,fun B hB => ?_⟩
  ·show(match ax names m with|some n=>G1.box n|none=>match G.box m with|some B=>some B|none=>_)=_
   rw[h,hB]
  ·show(match ax names m with|some n=>G1.own n|none=>match G.own m with|some B=>some B|none=>_)=_
   rw[h,hB]
 have hle:G.le G2:=by
  refine⟨hf.imm_le,fun m B hB => ?_,fun m B hB => ?_⟩
  ·cases hq:ax names m with
   |none=>exact(bold m hq).1 B hB|some n=>
    have h1:=rz hq;rw[(bpass n m h1).1];obtain⟨_,h2⟩:=hpass n m h1;obtain⟨b,hb⟩:=Option.isSome_iff_exists.1 h2;exact hf.keep n b B hb (by simp[Gh.view,h1,hB])
  ·cases hq:ax names m with
   |none=>exact(bold m hq).2 B hB|some n=>
    have h1:=rz hq;rw[(bpass n m h1).2];obtain⟨_,h2⟩:=hpass n m h1;obtain⟨b,hb⟩:=Option.isSome_iff_exists.1 h2;exact hf.keepOwn n b B hb (by simp[Gh.view,h1,hB])
 have rb:∀n n' B,ρ n=some n'->G1.box n=some B->G2.box n'=some B:=fun n n' B h h1=>by rw[(bρ n n' h).1];exact h1
 have ro:∀n n' B,ρ n=some n'->G1.own n=some B->G2.own n'=some B:=fun n n' B h h1=>by rw[(bρ n n' h).2];exact h1
 have hlt:∀{B:Nat}{o:Obj},w.heap[B]? = some o->B<w.heap.size:=fun h=>(Array.getElem?_eq_some_iff.1 h).1
 -- what lies under a name: one of three
 have hlk:∀m b,ae (lf ρ hp'++(mj names++s.hp)) m=some b->(∃n b0,ρ n=some m/\ae hp' n=some b0/\b=dy ρ b0)\/b = .dead\/((∀n,a6 names n≠some m)/\ae s.hp m=some b):=fun m b h=>by
  rw[pm]at h
  cases hq:ae (lf ρ hp') m with
  |some b1=>
   rw[hq]at h;simp only[qI]at h;subst h;obtain⟨n,b0,h1,h2,h3⟩:=(qyw hρinj).1 b1 hq;exact .inl ⟨n,b0,h1,h2,h3⟩
  |none=>
   rw[hq]at h;simp only at h;rw[pm]at h
   cases hq2:ae (mj names) m with|some b1=>rw[hq2]at h;simp only[qI]at h;subst h;exact .inr (.inl (qon.1 b1 hq2))|none=>rw[hq2]at h;exact .inr (.inr ⟨fun n=>ze (qon.2 hq2) n,h⟩)
 have hun:∀m b c,(∀n,a6 names n≠some m)->ae s.hp m=some b->G.at m b=some c->¬o7 (G.view names) hp c:=fun m b c h1 h2 h3 h4=>by
  obtain⟨n,m',b',i1,i2,i3⟩:=hblk c h4;have:=hr.fin.mem.apart m m' b b' c h2 i2 h3 i3;subst this;exact h1 n i1
 have hun2:∀m b,(∀n,a6 names n≠some m)->ae s.hp m=some b->dj G2 w' m b:=fun m b h1 h2=>by
  have hb:=hr.fin.mem.holds m b h2;have hrm:ax names m=none:=by
   cases hq:ax names m with|none=>rfl|some n=>exact absurd (rz hq) (h1 n)
  have hsame:∀B,B<w.heap.size->G.at m b=some B->w'.heap[B]? = w.heap[B]? := fun B hB h=>hf.bel.block B hB (hun m b B h1 h2 h)
  have himm:∀B,B<w.heap.size->G.at m b=some B->(∀o,G.imm B o=none)->∀o,G2.imm B o=none:=fun B hB h h0 o=>by
   cases hq:G2.imm B o with
   |none=>rfl|some u=>
    rcases hf.imm_new B o u hq with h3|h3|h3
    ·rw[show(G.view names).imm B o=G.imm B o from rfl,h0]at h3;cases h3
    ·omega
    ·exact absurd h3 (hun m b B h1 h2 h)
  cases b with
  |cells cs T=>
   obtain⟨B,vs,k1,k2,k3,k4,k5⟩:=hb;have ha:G.at m (.cells cs T)=some B:=k1;exact⟨B,vs,hle.box _ _ k1,by rw[hsame B (hlt k2) ha];exact k2,k3.le hle,k4,himm B (hlt k2) ha k5⟩
  |row τ l E=>
   obtain⟨ad,c,k1,k3⟩:=hb;refine⟨ad,c,hle.own _ _ k1,?_⟩;rcases k3 with k3|⟨g,vs,fz,rfl,m2,m3,m4,m5,m6,m7,m8,m9⟩
   ·exact .inl k3
   ·have ha:G.at m (.row τ l E)=some g:=by simp[Gh.at,k1]
    exact .inr ⟨g,vs,fz,rfl,by rw[hsame g (hlt m2) ha];exact m2,m3,m4,m5,m6,al.data_le hle.imm m7,m8,himm g (hlt m2) ha m9⟩
  |loop st pe f j fr ps tag D=>
   obtain⟨B,tmps,DB,k1,k2,k3,k4,k5,k6⟩:=hb;have ha:G.at m (.loop st pe f j fr ps tag D)=some B:=k1;exact⟨B,tmps,DB,hle.box _ _ k1,hle.box _ _ k2,by rw[hsame B k3.lt ha];exact k3,k4,fun i x hx=>by obtain⟨u,q1,q2⟩:=k5 i x hx;exact⟨u,q1,q2.le hle⟩,himm B k3.lt ha k6⟩
  |dfr=>
   obtain⟨B,k1,k2,k3⟩:=hb;have ha:G.at m .dfr=some B:=k1;exact⟨B,hle.box _ _ k1,by rw[hsame B (hlt k2) ha];exact k2,himm B (hlt k2) ha k3⟩
  |it s0 p0=>
   obtain⟨B,k1,k2,k3⟩:=hb;have ha:G.at m (.it s0 p0)=some B:=k1;exact⟨B,hle.box _ _ k1,by rw[hsame B (hlt k2) ha];exact k2,himm B (hlt k2) ha k3⟩
  |dead=>trivial
 refine⟨G2,v,rfl,ak.ren (G:=G1) (G':=G2) (fun _ _ _ h=>h) rb ro hrv,hle,⟨?_,hr.size,fun i x hx => ?_,fun m hm hl => ?_,⟨⟨hf.mem.agree,hf.mem.one,?_,?_,hf.mem.tab⟩,?_,fun b o u h=>hle.imm _ _ _ (hr.fin.imm_le _ _ _ h),?_,?_,fun n bx B h1 h2=>hle.box _ _ (hr.fin.keep n bx B h1 h2),fun n bx B h1 h2=>hle.own _ _ (hr.fin.keepOwn n bx B h1 h2)⟩⟩⟩
 ·obtain⟨bs,h1,h2⟩:=hr.defers;exact⟨bs,h1,qr hle.box h2⟩
 ·obtain⟨u,h1,h2⟩:=hr.frame i x hx;exact⟨u,h1,h2.le hle⟩
 ·rw[pm]at hl;have h1:ae (lf ρ hp') m=none:=by
   cases hq:ae (lf ρ hp') m with|none=>rfl|some b=>rw[hq]at hl;cases hl
  rw[h1]at hl;simp only at hl;rw[pm]at hl;have h2:ae (mj names) m=none:=by
   cases hq:ae (mj names) m with|none=>rfl|some b=>rw[hq]at hl;cases hl
  rw[h2]at hl;simp only at hl;obtain⟨f1,f2⟩:=hr.fresh m hm hl;have h3:ax names m=none:=by
   cases hq:ax names m with|none=>rfl|some n=>exact absurd (rz hq) (ze (qon.2 h2) n)
  have h4:¬(k<=m/\m<k+32/\a6 names (m-k)=none/\(ae hp' (m-k)).isSome):=fun⟨q1,q2,q3,q4⟩=>by
   have:ρ (m-k)=some m:=by
    subst hρ;unfold ld;rw[q3];obtain⟨b,hb⟩:=Option.isSome_iff_exists.1 q4;simp only[hb];have:Nat.blt (m-k) 32=true:=by simp;omega
    rw[this];simp only[qT,qI];omega
   have:=(qyw hρinj).2 h1 _ this;rw[this]at q4;cases q4
  constructor
  ·show(match ax names m with|some n=>G1.box n|none=>match G.box m with|some B=>some B|none=>_)=_
   rw[h3,f1];exact qW h4
  ·show(match ax names m with|some n=>G1.own n|none=>match G.own m with|some B=>some B|none=>_)=_
   rw[h3,f2];exact qW h4
 ·intro m b h;rcases hlk m b h with⟨n,b0,h1,h2,rfl⟩|rfl|⟨h1,h2⟩
  ·exact dj.ren (G:=G1) (G':=G2) (ρ:=ρ) (n:=n) (fun _ _ _ h=>h) (fun _ _ _ h=>h) rb ro (fun B hB=>rb n m B h1 hB) (fun B hB=>ro n m B h1 hB) (hf.mem.holds n b0 h2)
  ·trivial
  ·exact hun2 m b h1 h2
 ·intro m m' b b' c h1 h2 h3 h4;have hmix:∀n b0 m b,ae hp' n=some b0->G1.at n b0=some c->(∀n,a6 names n≠some m)->ae s.hp m=some b->G.at m b=some c->False:=fun n b0 m b q1 q2 q3 q4 q5=>by
   rcases hf.base n b0 c q1 q2 with h|h
   ·have:=(hr.fin.mem.holds m b q4).at_some q5;omega
   ·exact hun m b c q3 q4 q5 h
  rcases hlk m b h1 with⟨n,b0,i1,i2,rfl⟩|rfl|⟨i1,i2⟩
  ·have j3:=qj (G:=G1) (bρ n m i1).1 (bρ n m i1).2 h3;rcases hlk m' b' h2 with⟨n',b0',i1',i2',rfl⟩|rfl|⟨i1',i2'⟩
   ·have j4:=qj (G:=G1) (bρ n' m' i1').1 (bρ n' m' i1').2 h4;have:=hf.mem.apart n n' b0 b0' c i2 i2' j3 j4;subst this;rw[i1]at i1';injection i1'
   ·cases h4
   ·rw[(hr.fin.mem.holds m' b' i2').at_le hle]at h4;exact(hmix n b0 m' b' i2 j3 i1' i2' h4).elim
  ·cases h3
  ·rw[(hr.fin.mem.holds m b i2).at_le hle]at h3;rcases hlk m' b' h2 with⟨n',b0',i1',i2',rfl⟩|rfl|⟨i1',i2'⟩
   ·have j4:=qj (G:=G1) (bρ n' m' i1').1 (bρ n' m' i1').2 h4;exact(hmix n' b0' m b i2' j4 i1 i2 h3).elim
   ·cases h4
   ·rw[(hr.fin.mem.holds m' b' i2').at_le hle]at h4;exact hr.fin.mem.apart m m' b b' c i2 i2' h3 h4
 ·refine⟨hf.bel.os.trans hr.fin.bel.os,hf.bel.tape.trans hr.fin.bel.tape,hf.bel.output.trans hr.fin.bel.output,Nat.le_trans hr.fin.bel.size hf.bel.size,fun j hj hS => ?_⟩
  rw[hf.bel.block j (Nat.lt_of_lt_of_le hj hr.fin.bel.size) (fun hb=>by
   obtain⟨n,m,b,i1,i2,i3⟩:=hblk j hb;rcases hr.fin.base m b j i2 i3 with h|h
   ·omega
   ·exact hS h)]
  exact hr.fin.bel.block j hj hS
 ·intro b o u h;rcases hf.imm_new b o u h with h|h|h
  ·exact hr.fin.imm_new b o u h
  ·exact .inr (.inl (Nat.le_trans hr.fin.bel.size h))
  ·obtain⟨n,m,b0,i1,i2,i3⟩:=hblk b h;exact .inr (hr.fin.base m b0 b i2 i3)
 ·intro m b c h1 h2;rcases hlk m b h1 with⟨n,b0,i1,i2,rfl⟩|rfl|⟨i1,i2⟩
  ·have j3:=qj (G:=G1) (bρ n m i1).1 (bρ n m i1).2 h2;rcases hf.base n b0 c i2 j3 with h|h
   ·exact .inl (Nat.le_trans hr.fin.bel.size h)
   ·obtain⟨n,m,b0,q1,q2,q3⟩:=hblk c h;exact hr.fin.base m b0 c q2 q3
  ·cases h2
  ·rw[(hr.fin.mem.holds m b i2).at_le hle]at h2;exact hr.fin.base m b c i2 h2
def qi7(hr:aj vj6 vj1 vj3 G s a w){t:Tmp}{r:AV}{names:List (Nat×Nat)}{hpv hp hp':List (Nat×ah)}{ps:List Prop}(hd:d7 names=true)(hn:a8 (s.nx+32*t) s.hp=true)(ht:t<s.n)
  (hv:io (ax names) s.hp names=some hpv) (hvw:jt hpv hp=some ps) (hps:ar ps) {e:Ending} {w':World} (hpost:ng w (G.view names) hp r hp' e w') :
  ∃G' v,e = .returned v/\aj vj6 vj1 vj3 G' { s with fr:=(t,r.ren (ld names hp' (s.nx+32*t)))::s.fr,hp:=lf (ld names hp' (s.nx+32*t)) hp'++(mj names++s.hp) } (a.put (some t) v) w':=by
 obtain⟨G',v,h1,h2,_,h3⟩:=zcn hr hd hn (by omega) hv hvw hps hpost
 refine⟨G',v,h1,gn h3 ?_ h2⟩;have:Nat.blt t s.n=true:=by simpa using ht
 simp only[St.add,this,qT,List.nil_append]
end
def ii(P:Program)(o:Oper)(a:Act)(w:World)(N:Act->World->Prop):Prop:=
 ∀(ops:Array Oper)(i:Nat)(b:Frame)(rest:List Nat)(k:List Item)(cs:List Frame),ops[i]? = some o->Region.wanted o (yielded ops a.tmps)=true->b.kind = .normal ->
  ∃a' w',N a' w'/\Steps P (lone (b.atR a (.inRegion ops (i::rest)::k)) cs w) (lone (b.atR a' (.inRegion ops rest::k)) cs w')
def qn(P:Program)(ops:Array Oper)(i:Nat)(N:Act->World->Prop)(a:Act)(w:World):Prop:=
 ∀(b:Frame)(rest:List Nat)(k:List Item)(cs:List Frame),b.kind = .normal ->
  ∃a' w',N a' w'/\Steps P (lone (b.atR a (.inRegion ops (i::rest)::k)) cs w) (lone (b.atR a' (.inRegion ops rest::k)) cs w')
def qo(P:Program)(ops:Array Oper)(N:Act->World->Prop):List Nat->Act->World->Prop|[],a,w=>N a w|i::rest,a,w=>qn P ops i (qo P ops N rest) a w
section
variable{P:Program}{a:Act}{w:World}
def eq{o:Oper}{N:Act->World->Prop}(hd:∀c,o.op ≠ .defer c)(h:o.wp P a w N (fun _ _ _=>False)):ii P o a w N:=by
 intro ops i b rest k cs ho hw hk;have hg:=stepGR_op (P:=P) (b:=b) (k:=k) (cs:=cs) (w:=w) (rest:=rest) ho hw;rw[Oper.semAt_eq _ _ _ hd]at hg;have hfin:∀v,(b.atR a (.inRegion ops (i::rest)::k)).finish v=b.atR (a.put o.dst v) (.inRegion ops rest::k):=by
  intro v;rw[Frame.finish_atR,ho];rfl
 unfold Oper.wp Oper.upon at h;split at h
 ·rename_i v w' hr';refine⟨_,_,h,.one (step_lone_go ?_)⟩;rw[hg,← hfin];simp[stepG.apply,hr']
 ·rename_i w' hr';refine⟨_,_,h,.one (step_lone_go ?_)⟩;rw[hg,← hfin];simp[stepG.apply,hr']
 ·rename_i d w' hr';refine⟨_,_,h,.one (step_lone_go ?_)⟩;have:({ b.atR a (.inRegion ops (i::rest)::k) with defers:=d::a.defers }:Frame).finish undef =
    b.atR ({ a with defers:=d::a.defers }.put o.dst undef) (.inRegion ops rest::k):=by
   have:=Frame.finish_atR b { a with defers:=d::a.defers } ops i rest k undef
   rw[ho]at this;exact this
  rw[hg];simp only[stepG.apply,Sem.runT_eq,hr',GStep.bare_after];exact congrArg (fun fr=>GStep.go { frame:=fr,callers:=cs,status := .running,dying:=none } w') this
 ·rename_i f args w' hr';obtain⟨e,w'',fr,hR,hsteps,hfn,hleave⟩:=h (b.atR a (.inRegion ops (i::rest)::k)::cs);have henter:step P (lone (b.atR a (.inRegion ops (i::rest)::k)) cs w) =
    .next (lone (Frame.enter P f args .normal) (b.atR a (.inRegion ops (i::rest)::k)::cs) w'):=
   step_lone_go (by rw[hg];simp[stepG.apply,hr',Frame.atR])
  cases e with
  |returned v=>
   refine⟨_,_,hR,(Steps.one henter).trans (Steps.trans hsteps (.one ?_))⟩;rw[← hfin];exact step_leave_returned hleave
  |panicked chain=>exact hR.elim|outgrown=>obtain⟨_,_,hR⟩:=hR;exact hR.elim
 ·rename_i row args w' hr';obtain⟨v,w'',hR,hsteps⟩:=h (b.atR a (.inRegion ops (i::rest)::k)) cs;have henter:step P (lone (b.atR a (.inRegion ops (i::rest)::k)) cs w) =
    .next (lone (Frame.ofRow P row args .normal) (b.atR a (.inRegion ops (i::rest)::k)::cs) w'):=
   step_lone_go (by rw[hg];simp[stepG.apply,hr',Frame.atR])
  refine⟨_,_,hR,(Steps.one henter).trans ?_⟩;rw[← hfin];exact hsteps
 ·exact h.elim
 ·exact h.elim
def zr3{o:Oper}{N:Act->World->Prop}(hd:∀c,o.op ≠ .defer c){l:Nat}{f:FuncId}{tmps:Array Value}{assign body:Code}{w':World}(hr:(execOp a.eval o).run P w = .ok (.round l f tmps assign body) w')
  (h:∀(c:Frame)(cs:List Frame),∃v w'',N (a.put o.dst v) w''/\Steps P (lone (Frame.round l f tmps assign body .normal) (c::cs) w') (lone (c.finish v) cs w'')):ii P o a w N:=by
 intro ops i b rest k cs ho hw hk;have hg:=stepGR_op (P:=P) (b:=b) (k:=k) (cs:=cs) (w:=w) (rest:=rest) ho hw;rw[Oper.semAt_eq _ _ _ hd]at hg;have hfin:∀v,(b.atR a (.inRegion ops (i::rest)::k)).finish v=b.atR (a.put o.dst v) (.inRegion ops rest::k):=by
  intro v;rw[Frame.finish_atR,ho];rfl
 obtain⟨v,w'',hN,hs⟩:=h (b.atR a (.inRegion ops (i::rest)::k)) cs;have henter:step P (lone (b.atR a (.inRegion ops (i::rest)::k)) cs w) =
   .next (lone (Frame.round l f tmps assign body .normal) (b.atR a (.inRegion ops (i::rest)::k)::cs) w'):=
  step_lone_go (by rw[hg];simp[stepG.apply,hr,Frame.atR])
 refine⟨_,_,hN,(Steps.one henter).trans ?_⟩;rw[← hfin];exact hs
def qcq{ops:Array Oper}{i:Nat}{o:Oper}{N:Act->World->Prop}(ho:ops[i]? = some o)(hw:Region.wanted o (yielded ops a.tmps)=true)(h:ii P o a w N):qn P ops i N a w:=
 fun b rest k cs hk=>h ops i b rest k cs ho hw hk
def qzh{ops:Array Oper}{i:Nat}{o:Oper}{N:Act->World->Prop}(ho:ops[i]? = some o)(hw:¬Region.wanted o (yielded ops a.tmps)=true)(h:N (a.put o.dst undef) w):qn P ops i N a w:=by
 intro b rest k cs hk;have hs:=stepR_op_skip (P:=P) (b:=b) (a:=a) (k:=k) (cs:=cs) (w:=w) (ops:=ops) (i:=i) (rest:=rest) (by simp[ho];simpa using hw)
 simp only[ho,qB]at hs;exact⟨_,_,h,.one hs⟩
def q97{ops:Array Oper}{i:Nat}{N N':Act->World->Prop}(hn:∀a w,N a w->N' a w)(h:qn P ops i N a w):qn P ops i N' a w:=fun b rest k cs hk=>by
 obtain⟨a',w',h1,h2⟩:=h b rest k cs hk;exact⟨a',w',hn _ _ h1,h2⟩
def qzi{ops:Array Oper}{N:Act->World->Prop}:∀(l:List Nat){a:Act}{w:World},qo P ops N l a w->∀(b:Frame)(k:List Item)(cs:List Frame),b.kind = .normal ->
  ∃a' w',N a' w'/\Steps P (lone (b.atR a (.inRegion ops l::k)) cs w) (lone (b.atR a' k) cs w')
 |[],a,w,h,b,k,cs,_=>⟨a,w,h,.one stepR_region_end⟩|i::rest,a,w,h,b,k,cs,hk=>by
  obtain⟨a1,w1,h1,h2⟩:=h b rest k cs hk;obtain⟨a2,w2,h3,h4⟩:=qzi rest h1 b k cs hk;exact⟨a2,w2,h3,h2.trans h4⟩
def znq{ops:Array Oper}{id:Nat}{N:Act->World->Prop}(h:qo P ops N (List.range ops.size) a w)(b:Frame)(k:List Item)(cs:List Frame)(hk:b.kind = .normal) :
  ∃a' w',N a' w'/\Steps P (lone (b.atR a (.code (.region id ops false)::k)) cs w) (lone (b.atR a' k) cs w'):=by
 obtain⟨a',w',h1,h2⟩:=qzi _ h b k cs hk;exact⟨a',w',h1,(Steps.one stepR_region).trans h2⟩
def mi(P:Program)(ops:Array Oper)(N:Act->World->Prop):Nat->Array Bool->Act->World->Prop
 |0,listed,a,w=>Region.ready .any ops listed=[]/\N a w|fuel+1,listed,a,w=>
  (Region.ready .any ops listed=[]->N a w) /\
  ∀i∈Region.ready .any ops listed,qn P ops i (mi P ops N fuel (listed.setIfInBounds i true)) a w
def znp{ops:Array Oper}{N:Act->World->Prop}:∀(fuel t:Nat)(listed:Array Bool)(a:Act)(w:World),mi P ops N fuel listed a w ->
  qo P ops N (Region.linearise.go .any ops fuel t listed []) a w:=by
 intro fuel
 induction fuel with
 |zero=>intro t listed a w h;simpa [Region.linearise.go,qo] using h.2|succ fuel ih=>
  intro t listed a w h;obtain⟨vj4,vj5⟩:=h;simp only[Region.linearise.go];change qo P ops N (match(Region.ready .any ops listed)[t%(Region.ready .any ops listed).length]? with
   |some i=>Region.linearise.go .any ops fuel (t/(Region.ready .any ops listed).length) (listed.setIfInBounds i true) [i]| none=>[].reverse) a w
  cases hi:(Region.ready .any ops listed)[t%(Region.ready .any ops listed).length]? with
  |none=>
   have hnil:Region.ready .any ops listed=[]:=by
    cases hr:Region.ready .any ops listed with
    |nil=>rfl|cons x xs=>
     rw[hr]at hi;have hlt:t%(x::xs).length<(x::xs).length:=Nat.mod_lt _ (by simp)
     simp at hi;simp at hlt;omega
   simpa [qo] using vj4 hnil
  |some i=>
   simp only[];rw[linearise_go_acc,List.reverse_singleton,wM];exact q97 (fun a w=>ih _ _ a w) (vj5 i (List.mem_of_getElem? hi))
def q98{ops:Array Oper}{id:Nat}{N:Act->World->Prop}(hm:P.follows .mixedOrders=true)(h:mi P ops N ops.size (Array.replicate ops.size false) a { w with drawn:=w.drawn+1 })(b:Frame)(k:List Item)(cs:List Frame)(hk:b.kind = .normal) :
  ∃a' w',N a' w'/\Steps P (lone (b.atR a (.code (.region id ops true)::k)) cs w) (lone (b.atR a' k) cs w'):=by
 have h1:qo P ops N (Region.schedule (P.follows .mixedOrders) ops (w.tape w.drawn (.order b.fn id))) a { w with drawn:=w.drawn+1 }:=by
  simp only[Region.schedule,hm,Bool.true_or,if_true];exact znp ops.size _ _ a _ h
 obtain⟨a',w',h2,h3⟩:=qzi _ h1 b k cs hk;exact⟨a',w',h2,(Steps.one stepR_region_draw).trans h3⟩
end
section
variable{P:Program}{vj6:World}{vj1:Gh}{vj3:List (Nat×ah)}{G:Gh}{s:St}{a:Act}{w:World}
def Fin.update'{hp:List (Nat×ah)}(hf:Fin vj6 vj1 vj3 G hp w){n:Nat}{bx bx':ah}{B:Nat}(hn:ae hp n=some bx)(hB:G.at n bx=some B)(hB':∀c,G.at n bx'=some c->c=B){w':World}(hw:ei (fun b=>b=B) w w')
  (hok:dj G w' n bx') (hi:∀o,G.imm B o=none):Fin vj6 vj1 vj3 G (r7 hp n bx') w':=by
 have hblk:∀b,b<w.heap.size->b≠B->w'.heap[b]? = w.heap[b]? := fun b h1 h2=>hw.block b h1 h2
 have hlt:∀{b:Nat}{o:Obj},w.heap[b]? = some o->b<w.heap.size:=fun h=>(Array.getElem?_eq_some_iff.1 h).1
 have hlk:∀m b,ae (r7 hp n bx') m=some b->(m=n/\b=bx')\/(m≠n/\ae hp m=some b):=fun m b h=>by
  simp only[r7,ae]at h;cases hb:Nat.beq n m
  ·rw[hb]at h;exact .inr ⟨fun e=>by subst e;simp at hb,h⟩
  ·rw[hb]at h;simp only[qT,qI]at h;exact .inl ⟨(qN hb).symm,h.symm⟩
 have other:∀m b c,m≠n->ae hp m=some b->G.at m b=some c->c≠B:=fun m b c hm h1 h2 e=>by
  subst e;exact hm (hf.mem.apart m n b bx c h1 hn h2 hB)
 refine⟨⟨?_,hf.mem.one,?_,?_,LC.mono (fun _ _ _ h=>h) (fun b o v h=>hblk b (World.block_lt_of_cell? _ _ (hf.mem.agree b o v h)) fun e=>by subst e;rw[hi]at h;cases h) hf.mem.tab⟩,?_,hf.imm_le,hf.imm_new,?_,hf.keep,hf.keepOwn⟩
 ·intro b o v h;have hne:b≠B:=fun e=>by subst e;rw[hi]at h;cases h
  have hc:=hf.mem.agree b o v h;have:=World.block_lt_of_cell? _ _ hc;rw[World.cell?_of_block (w:=w) (hblk b this hne)];exact hc
 ·intro m b h;rcases hlk m b h with⟨rfl,rfl⟩|⟨hm,h⟩
  ·exact hok
  ·have hb:=hf.mem.holds m b h;have ho:=other m b
   cases b with
   |cells cs T=>
    obtain⟨B1,vs,h1,h2,h3,h4,h5⟩:=hb;exact⟨B1,vs,h1,by rw[hblk _ (hlt h2) (ho B1 hm h (by simp[Gh.at,h1]))];exact h2,h3,h4,h5⟩
   |loop st pe f j fr ps tag D=>
    obtain⟨B1,tmps,DB,h1,h2,h3,h4⟩:=hb;exact⟨B1,tmps,DB,h1,h2,by rw[hblk _ h3.lt (ho B1 hm h (by simp[Gh.at,h1]))];exact h3,h4⟩
   |dfr=>
    obtain⟨B1,h1,h2,h3⟩:=hb;exact⟨B1,h1,by rw[hblk _ (hlt h2) (ho B1 hm h (by simp[Gh.at,h1]))];exact h2,h3⟩
   |it s0 p0=>
    obtain⟨B1,h1,h2,h3⟩:=hb;exact⟨B1,h1,by rw[hblk _ (hlt h2) (ho B1 hm h (by simp[Gh.at,h1]))];exact h2,h3⟩
   |row τ l E=>
    obtain⟨ad,c,h1,h3⟩:=hb;refine⟨ad,c,h1,?_⟩;rcases h3 with h3|⟨g,vs,fz,k1,k2,k3⟩
    ·exact .inl h3
    ·exact .inr ⟨g,vs,fz,k1,by rw[hblk _ (hlt k2) (ho g hm h (by subst k1;simp[Gh.at,h1]))];exact k2,k3⟩
   |dead=>trivial
 ·intro m m' b b' c h1 h2 h3 h4;rcases hlk m b h1 with⟨rfl,rfl⟩|⟨hm,i1⟩<;>rcases hlk m' b' h2 with⟨rfl,rfl⟩|⟨hm',i2⟩
  ·rfl
  ·exact absurd (hB' _ h3) (other m' b' _ hm' i2 h4)
  ·exact absurd (hB' _ h4) (other m b _ hm i1 h3)
  ·exact hf.mem.apart m m' b b' c i1 i2 h3 h4
 ·refine⟨hw.os.trans hf.bel.os,hw.tape.trans hf.bel.tape,hw.output.trans hf.bel.output,Nat.le_trans hf.bel.size hw.size,fun k hk hS => ?_⟩
  have hne:k≠B:=fun e=>by
   subst e;rcases hf.base n bx k hn hB with h|h
   ·omega
   ·exact hS h
  rw[hblk k (Nat.lt_of_lt_of_le hk hf.bel.size) hne];exact hf.bel.block k hk hS
 ·intro m b c h1 h2;rcases hlk m b h1 with⟨rfl,rfl⟩|⟨hm,h1⟩
  ·rw[hB' _ h2];exact hf.base _ _ _ hn hB
  ·exact hf.base m b c h1 h2
def Fin.update{hp:List (Nat×ah)}(hf:Fin vj6 vj1 vj3 G hp w){n:Nat}{bx bx':ah}{B:Nat}(hn:ae hp n=some bx)(hB:G.at n bx=some B)(hB':G.at n bx'=some B){w':World}(hw:ei (fun b=>b=B) w w')
  (hok:dj G w' n bx') (hi:∀o,G.imm B o=none):Fin vj6 vj1 vj3 G (r7 hp n bx') w':=
 hf.update' hn hB (fun c hc=>by rw[hB']at hc;injection hc with hc;exact hc.symm) hw hok hi
def zlm(hr:aj vj6 vj1 vj3 G s a w){o:Oper}{d:D}{ps:List Prop}{s':St}(h:ox P s d o=some (ps,s'))(hp:ar ps){N:Act->World->Prop}(hN:∀G' a' w',aj vj6 vj1 vj3 G' s' a' w'->N a' w'):ii P o a w N:=by
 obtain⟨dst,op,ty,pos,after,guard⟩:=o;unfold ox at h;split at h
 ·rename_i t x y ho;simp only at ho;subst ho;split at h
  ·rename_i b off v n hx hy hn hd;simp only at hd;subst hd;split at h
   ·rename_i cs T hb;cases hq:Nat.beq v.cells.length n&&AV.ones v.cells&&Nat.ble (off+n) cs.length<;>rw[hq]at h<;>simp only[qT,qF,reduceCtorEq,qI,qP]at h
    obtain⟨rfl,rfl⟩:=h;simp only[qA,Nat.ble_eq]at hq;obtain⟨⟨hq1,hq2⟩,hq3⟩:=hq;have hq1:=qN hq1;obtain⟨B,hB,hxe⟩:=bm hr hx;have hcy:=(bm hr hy).cells hq2;obtain⟨B',vs,h1,h2,h3,h4,h5⟩:=hr.fin.mem.holds _ _ hb;rw[h1]at hB;injection hB with hB;subst hB
    have hlv:(a.eval y).cells.size=n:=by rw[← hq1,hcy.length,Array.length_toList]
    have hlc:cs.length=vs.size:=by rw[h3.length,Array.length_toList]
    obtain⟨w',cur',k1,k2,k3,k4⟩:=qdt (P:=P) B' off T (0,0) (a.eval y).cells.toList 0 vs w h2 (by rw[Array.length_toList];omega) (.inl rfl) (od hcy hq2)
    have hrun:(execOp a.eval ⟨none,.store t x y,ty,pos,after,guard⟩).run P w = .ok .skip w':=by
     simp[execOp,Instr.storeAt,hxe,Instr.sureAddr,storeVar,gg hn,hlv,k1]
    refine eq (by simp) ?_
    unfold Oper.wp;rw[hrun];refine hN G _ _ ⟨hr.defers,hr.size,hr.frame,fun m hm hl=>hr.fresh m hm ?_,?_⟩
    ·simp only[r7,ae]at hl;cases hbq:Nat.beq b m
     ·rw[hbq]at hl;exact hl
     ·rw[hbq]at hl;cases hl
    ·refine hr.fin.update hb (by simp[Gh.at,h1]) (by simp[Gh.at,h1]) k4 ⟨B',cur',h1,k2,?_,?_,h5⟩ h5
     ·rw[k3];exact qqh _ h3 hcy
     ·intro u hu;rw[k3]at hu;rcases qd2 _ _ _ _ hu with hu|hu
      ·exact h4 u hu
      ·exact od hcy hq2 u hu
   ·cases h
  ·rename_i k sz i off v n hx hy hn hd;simp only at hd;subst hd;split at h
   ·rename_i τ0 l0 E0 ys τ l E hb;cases hq:Nat.beq v.cells.length n&&AV.ones v.cells&&Nat.beq sz τ0.sz&&Nat.beq τ.sz τ0.sz&&Nat.beq E E0<;>rw[hq]at h<;>simp only[qT,qF,reduceCtorEq]at h
    split at h
    rotate_left
    ·cases h
    rename_i psv hvw;simp only[qI,qP]at h;obtain⟨rfl,rfl⟩:=h;simp only[qA]at hq;obtain⟨⟨⟨⟨hq1,hq2⟩,hq3⟩,hq4⟩,hq5⟩:=hq;have hq1:=qN hq1;have hq3:=qN hq3;have hq4:=qN hq4;have hq5:=qN hq5;subst hq5;rw[hq3]at hx;obtain⟨pv,p1,p2,p3,p5,_⟩:=dt.1 hp;rw[hq3]at p1 p2;obtain⟨B,n0,c0,ho0,hxe⟩:=bm hr hx;have hcy:=(bm hr hy).cells hq2;have hlv:(a.eval y).cells.size=n:=by rw[← hq1,hcy.length,Array.length_toList]
    obtain⟨ad,c,h1,h3⟩:=hr.fin.mem.holds _ _ hb;rw[ho0]at h1;simp only[qI,qP]at h1;obtain⟨rfl,rfl,rfl⟩:=h1;rcases h3 with⟨h3,_⟩|⟨g,vs,fz,k1,k2,k3,k4,k5,k6,k7,k8,k9⟩
    ·cases h3
    ·simp only[qI,Addr.mk.injEq,and_true]at k1;subst k1;have hle:l0.length*τ0.sz<=vs.size:=by rw[k6];exact Nat.mul_le_mul_right _ k4
     obtain⟨w',cur',m1,m2,m3,m4⟩:=qdt (P:=P) B (i*τ0.sz+off) E fz (a.eval y).cells.toList 0 vs w k2 (by rw[Array.length_toList];omega) k3 (od hcy hq2)
     have hrun:(execOp a.eval ⟨none,.store t x y,ty,pos,after,guard⟩).run P w = .ok .skip w':=by
      simp[execOp,Instr.storeAt,hxe,Instr.sureAddr,storeVar,gg hn,hlv,m1]
     refine eq (by simp) ?_
     unfold Oper.wp;rw[hrun];have hcs:cur'.size=vs.size:=by rw[← Array.length_toList,m3,qd1,Array.length_toList]
     refine hN G _ _ ⟨hr.defers,hr.size,hr.frame,fun m hm hl=>hr.fresh m hm ?_,?_⟩
     ·simp only[r7,ae]at hl;cases hbq:Nat.beq k m
      ·rw[hbq]at hl;exact hl
      ·rw[hbq]at hl;cases hl
     ·refine hr.fin.update hb (B:=B) (by simp[Gh.at,ho0]) (by simp[Gh.at,ho0]) m4 ⟨some ⟨B,0,none⟩,c0,by rw[p3];exact ho0,.inr ⟨B,cur',fz,rfl,m2,by rw[hcs];exact k3,by rw[p3];exact k4,k5,by rw[hcs,hq4];exact k6,?_,?_,k9⟩⟩ k9
      ·rw[p3,p2,m3,hq4,Nat.add_zero,q2y _ _ _ _ (by rw[Array.length_toList];omega)]
       exact qqh _ k7 (kh (G:=G.data) (Gh.le.refl _) (fun e=>by cases e) hvw pv (zel p5 hcy))
      ·intro u hu;rw[m3]at hu;rcases qd2 _ _ _ _ hu with hu|hu
       ·exact k8 u hu
       ·exact od hcy hq2 u hu
   ·cases h
  ·cases h
 ·rename_i args argTypes ho;simp only at ho;subst ho;split at h
  ·rename_i x y t t2 tt ha hty hd;simp only at hd;subst hd;split at h
   ·rename_i k v hx hy;split at h
    ·rename_i τ0 l0 E0 hb;split at h
     ·rename_i ps' τ l E happ;cases hq:a8 (s.nx+32*tt) s.hp&&Nat.beq τ.sz τ0.sz&&Nat.beq E E0&&Nat.blt tt s.n<;>rw[hq]at h<;>simp only[qT,qF,reduceCtorEq,qI,qP]at h
      obtain⟨rfl,rfl⟩:=h;simp only[qA,Nat.blt_eq]at hq;obtain⟨⟨⟨hq1,hq2⟩,hq3⟩,hq4⟩:=hq;have hq2:=qN hq2;have hq3:=qN hq3;have e1:args=#[x,y]:=by rw[← Array.toArray_toList (xs:=args),ha]
      have e2:argTypes=#[t,t2]:=by rw[← Array.toArray_toList (xs:=argTypes),hty]
      subst e1 e2;obtain⟨ad,c,us,h1,h3,h4,h5⟩:=(hr.fin.mem.holds _ _ hb).rowAt;obtain⟨ad0,n0,c0,ho0,hxe⟩:=bm hr hx;rw[h1]at ho0;simp only[qI,qP]at ho0;obtain⟨rfl,rfl,rfl⟩:=ho0;obtain⟨τ',l',E',hbx,_,hgo⟩:=q78 hr (ty:=ty) (_sz0:=0) (_E0:=0) (ad:=ad) (c:=c) happ hp (bm hr hy) h4;cases hbx
      subst hq3;rw[← hq2]at h3;obtain⟨ad',c',us',w',r1,r2,r3,r4,r5⟩:=hgo h3;have hrun:(execOp a.eval ⟨some tt,.call { callee := .builtin .append,args:=#[x,y],argTypes:=#[t,t2] },ty,pos,after,guard⟩).run P w = .ok (.value (.slice ad' l.length c')) w':=by
       simp[execOp,resolve,invoke,builtin,hxe,r1]
      refine eq (by simp) ?_
      unfold Oper.wp;rw[hrun];have hk':=lx hq1 (s.nx+32*tt) (wF _) (by omega)
      obtain⟨f1,f2⟩:=hr.fresh _ (by omega) hk'
      have hfin:=hr.fin.take hb h1 hk' f2 h5 r5 r4 r2 r3;have hle:G.le (G.addOwn (s.nx+32*tt) (ad',l.length,c')):=Gh.addOwn_le f2;refine hN _ _ _ ⟨by obtain⟨bs,q1,q2⟩:=hr.defers;exact⟨bs,q1,qr hle.box q2⟩,by simp[Act.put,hr.size],fun i z hz => ?_,fun m hm hl => ?_,hfin⟩
      ·simp only[ae]at hz;cases hbq:Nat.beq tt i
       ·rw[hbq]at hz;simp only[qF]at hz;have hne:tt≠i:=fun e=>by subst e;simp at hbq
        obtain⟨u,u1,u2⟩:=hr.frame i z hz;exact⟨u,by simp[Act.put,hne,u1],u2.le hle⟩
       ·rw[hbq]at hz;simp only[qT,qI]at hz;subst hz;have:=qN hbq;subst this;exact⟨_,by simp[Act.put,hr.size,hq4],ad',l.length,c',Gh.addOwn_self,rfl⟩
      ·simp only[ae]at hl;cases hbq:Nat.beq (s.nx+32*tt) m
       ·rw[hbq]at hl;simp only[qF]at hl;cases hbk:Nat.beq k m
        ·rw[hbk]at hl;obtain⟨g1,g2⟩:=hr.fresh m hm hl;refine⟨g1,?_⟩;show(bif Nat.beq m (s.nx+32*tt) then some _ else G.own m)=none
         cases hbm:Nat.beq m (s.nx+32*tt)
         ·exact g2
         ·have:=qN hbm;subst this;simp at hbq
        ·rw[hbk]at hl;cases hl
       ·rw[hbq]at hl;cases hl
     ·cases h
    ·cases h
   ·cases h
  ·cases h
 ·rename_i g args tys ho;simp only at ho;subst ho;split at h
  ·rename_i f cap ys names xs hp1 r hp2 t hg hargs hd;simp only at hd;subst hd;unfold vt at h;cases hq:d7 names&&qt names&&a8 (s.nx+32*t) s.hp&&Nat.blt t s.n<;>rw[hq]at h<;>simp only[qT,qF,reduceCtorEq]at h
   simp only[qA,Nat.blt_eq]at hq;obtain⟨⟨⟨hq1,_⟩,hq2⟩,hq3⟩:=hq;split at h
   ·rename_i hpv ps1 hv hvs;split at h
    ·rename_i ps2 hvw;simp only[qI,qP]at h;obtain⟨rfl,rfl⟩:=h;obtain⟨⟨hpl,hc⟩,hp3⟩:=hp;obtain⟨p1,p2⟩:=dt.1 hp3;obtain⟨fs,cs,hge,hfs,hcs⟩:=bm hr hg;have hfs0:fs=#[]:=Array.eq_empty_of_size_eq_zero (by simpa using hfs.length.symm)
     subst hfs0;have hrun:(execOp a.eval ⟨some t,.call { callee := .value g,args:=args,argTypes:=tys },ty,pos,after,guard⟩).run P w = .ok (.enter f (args.map a.eval++cs)) w:=by
      simp[execOp,resolve,hge,Deferred.ofValue,invoke,hpl _ w]
     refine eq (by simp) ?_
     unfold Oper.wp;rw[hrun];have hreps:al (ys++cap) G ((args.toList.map a.eval)++cs.toList):=we (y6 hr hargs) hcs;have e1:((args.toList.map a.eval)++cs.toList).toArray=args.map a.eval++cs:=by simp
     have hm:cn (G.view names) hp1 w:=(hr.fin.mem.view hv (qcz hq1)).vw hvw p2;have hreps2:=kh (Gh.le.refl _) (fun e=>by cases e) hvs p1 (al.ren (G:=G) (G':=G.view names) (fun _ _ _ h=>h) (sh names) (ug names) hreps)
     have:=hc w (G.view names) _ hm hreps2;rw[e1]at this;refine this.mono ?_;intro e w' hpost;obtain⟨G',v,rfl,hG⟩:=qi7 hr hq1 hq2 hq3 hv hvw p2 hpost;exact hN _ _ _ hG
    ·cases h
   ·cases h
  ·rename_i m ys names xs hp1 r hp2 t hg hargs hd;simp only at hd;subst hd;split at h
   ·rename_i m' hm';unfold vt at h;cases hq:d7 names&&qt names&&a8 (s.nx+32*t) s.hp&&Nat.blt t s.n<;>rw[hq]at h<;>simp only[qT,qF,reduceCtorEq]at h
    simp only[qA,Nat.blt_eq]at hq;obtain⟨⟨⟨hq1,_⟩,hq2⟩,hq3⟩:=hq;split at h
    ·rename_i hpv ps1 hv hvs;split at h
     ·rename_i ps2 hvw;simp only[qI,qP]at h;obtain⟨rfl,rfl⟩:=h;obtain⟨hc,hp3⟩:=hp;obtain⟨p1,p2⟩:=dt.1 hp3;obtain⟨B,hB,hge⟩:=bm hr hg;have hm:cn (G.view names) hp1 w:=(hr.fin.mem.view hv (qcz hq1)).vw hvw p2;have hreps2:=kh (Gh.le.refl _) (fun e=>by cases e) hvs p1 (al.ren (G:=G) (G':=G.view names) (fun _ _ _ h=>h) (sh names) (ug names) (y6 hr hargs))
      have hB':=sh (G:=G) names m m' B hm' hB;obtain⟨lp,hlp,hc'⟩:=hc w (G.view names) _ B hm hreps2 hB';have ac:(args.map a.eval).size=lp.params.size:=by
       have:=(hc' default []).1;simpa using this
      have hrun:(execOp a.eval ⟨some t,.call { callee := .value g,args:=args,argTypes:=tys },ty,pos,after,guard⟩).run P w = .ok (.round B lp.fn ((lp.params.zip (args.map a.eval)).foldl (fun tmps(t,a)=>tmps.setIfInBounds t a) lp.tmps) lp.assign lp.body) w:=by
       simp at ac;simp[execOp,resolve,hge,Deferred.ofValue,invoke,Instr.yield,Instr.getLoop,getObj,hlp,ac,Sem.run]
      refine zr3 (by simp) hrun (fun c cs => ?_)
      obtain⟨_,v,w',h1,h2⟩:=hc' c cs;obtain⟨G',v',e,hG⟩:=qi7 hr hq1 hq2 hq3 hv hvw p2 h1;cases e
      have e2:(args.toList.map a.eval).toArray=args.map a.eval:=by rw[← Array.toList_map]
      rw[e2]at h2;exact⟨v,w',hN _ _ _ hG,h2⟩
     ·cases h
    ·cases h
   ·cases h
  ·cases h
 ·cases h
end
abbrev uk:=Bool×D
def qi(P:Program)(s:St)(d:D)(o:Oper):Option (List Prop×St):=
 match e8 P s d o with
 |some (ps,v,new)=>match s.add o.dst v new with|some s'=>some (ps,s')|none=>none
 |none=>ox P s d o
def tv(ops:Array Oper)(s:St)(j:Nat):Option (Option Bool):=
 match ops[j]? with
 |some oj=>match oj.dst with
  |some t=>match ae s.fr t with|some (.bool b)=>some (some b)|some (.val (.bool b))=>some (some b)|some (.val (.tuple _))=>some none|_=>none
  |none=>none
 |none=>none
def St.bump(s:St):St:={ s with nx:=s.nx+32*s.n }
section
variable{P:Program}{vj6:World}{vj1:Gh}{vj3:List (Nat×ah)}{G:Gh}{s:St}{a:Act}{w:World}
def qyc{o:Oper}{d:D}{r:List Prop×AV×List (Nat×ah)}(h:e8 P s d o=some r):∀c,o.op ≠ .defer c:=fun c e=>by
 obtain⟨dst,op,ty,pos,after,guard⟩:=o;simp only at e;subst e;simp only[e8,de,ip]at h;cases h
def qym(hr:aj vj6 vj1 vj3 G s a w){o:Oper}{d:D}{ps:List Prop}{s':St}(h:qi P s d o=some (ps,s'))(hp:ar ps){N:Act->World->Prop}(hN:∀G' a' w',aj vj6 vj1 vj3 G' s' a' w'->N a' w'):ii P o a w N:=by
 unfold qi at h;split at h
 ·rename_i ps' v new ha;split at h
  ·rename_i s1 hs;simp only[qI,qP]at h;obtain⟨rfl,rfl⟩:=h;exact eq (qyc ha) (qyd hr ha hp hs hN)
  ·cases h
 ·exact zlm hr h hp hN
def qpj(hr:aj vj6 vj1 vj3 G s a w){ops:Array Oper}{j:Nat}{b:Option Bool}(h:tv ops s j=some b):yielded ops a.tmps j=b:=by
 unfold tv at h;split at h
 ·rename_i oj hj;split at h
  ·rename_i t ht;split at h
   ·rename_i b' hl;simp only[qI]at h;subst h;obtain⟨v,h1,h2⟩:=hr.frame _ _ hl;simp only[ak]at h2;subst h2;simp[yielded,hj,ht,h1]
   ·rename_i b' hl;simp only[qI]at h;subst h;obtain⟨v,h1,h2⟩:=hr.frame _ _ hl;simp only[ak]at h2;subst h2;simp[yielded,hj,ht,h1]
   ·rename_i vs hl;simp only[qI]at h;subst h;obtain⟨v,h1,h2⟩:=hr.frame _ _ hl;simp only[ak]at h2;subst h2;simp[yielded,hj,ht,h1]
   ·cases h
  ·cases h
 ·cases h
end
def bi:List Nat->Nat->Bool|[],_=>false|x::xs,i=>Nat.beq x i||bi xs i
def qdz:List Nat->List Nat->List Nat|[],l=>l|x::xs,l=>bif bi l x then qdz xs l else qdz xs (x::l)
structure HR:Type where
 dst:Nat
 v:AV
 new:List (Nat×ah)
 pred:List Nat
def St.addR(s:St)(r:HR):St:={ s with fr:=(r.dst,r.v)::s.fr,hp:=r.new++s.hp }
def qh(sel:List Nat):List HR->Nat->St->St|[],_,t=>t|r::rs,j,t=>qh sel rs (j+1) (bif bi sel j then t.addR r else t)
def kw:List HR->St->St|[],t=>t|r::rs,t=>kw rs (t.addR r)
def mh(P:Program)(ops:Array Oper)(t:St)(c:uk)(o:Oper):Option (List Prop×AV×List (Nat×ah)):=
 match o.guard with
 |none=>e8 P t c.2 o|some (j,want)=>match tv ops t j with
  |none=>none|some none=>some ([],.val undef,[])| some (some b)=>bif c.1==want then(match e8 P t c.2 o with
    |some (ps,v,new)=>some ((b=c.1)::ps,v,new)| none=>none)
   else some ([b=c.1],.val undef,[])
def mu(Rs:List HR):List Edge->Option (List Nat)
 |[]=>some []|e::es=>bif Region.binds .any e then
   match Rs[e.on]?,mu Rs es with|some r,some l=>some (qdz (e.on::r.pred) l)|_,_=>none
  else mu Rs es
def pc(d:Nat):List HR->Bool|[]=>true|r::rs => !Nat.beq r.dst d&&pc d rs
def jh(ops:Array Oper)(o:Oper):List Nat:=
 o.op.operands.toList.filterMap (fun x=>match x with | .tmp t=>some t|_=>none) ++
 (match o.guard with
  |some (j,_)=>match ops[j]? with|some oj=>oj.dst.toList|none=>[]
  | none=>[])
def ry(pred reads:List Nat):List HR->Nat->Bool|[],_=>true|r::rs,j=>(bi pred j || !bi reads r.dst)&&ry pred reads rs (j+1)
def si(ops:Array Oper)(d:Nat)(pred:List Nat):Nat->Bool|0=>true|j+1=>(bi pred j||(match ops[j]? with|some o => !bi (jh ops o) d|none=>true))&&si ops d pred j
def qj4(o:Oper)(j:Nat):Bool:=o.after.toList.any (fun e=>Nat.beq e.on j&&Region.binds .any e)
def qoi:List Oper->Nat->Bool|[],_=>true|o::l,i=>qj4 o (i-1)&&qoi l (i+1)
def qcy:List Edge->List Nat|[]=>[]|e::es=>bif Region.binds .any e then e.on::qcy es else qcy es
def qqf(ops:Array Oper):Nat->List Nat->List Nat
 |0,S=>S| j+1,S=>qqf ops j (bif bi S j then(match ops[j]? with
  |some o=>qcy o.after.toList++S| none=>S) else S)
def qnv(S:List Nat):Nat->Bool|0=>true|j+1=>bi S j&&qnv S j
def zd9(ops:Array Oper)(o:Oper)(n:Nat):Bool:=qnv (qqf ops n (qcy o.after.toList)) n
def mz(ops:Array Oper)(n:Nat):Bool:=match ops.toList.drop n with|[]=>true|o::l=>zd9 ops o n&&qoi l (n+1)
def ml:List Oper->Nat->Bool|[],_=>true|o::l,i=>o.after.toList.all (fun e => !Region.binds .any e||Nat.blt e.on i)&&ml l (i+1)
def fj:∀{l:List Nat}{i:Nat},bi l i=true↔i∈l
 |[],i=>by simp[bi]|x::xs,i=>by
  simp only[bi,Bool.or_eq_true,wE,fj (l:=xs)];constructor
  ·rintro (h|h)
   ·exact .inl (qN h).symm
   ·exact .inr h
  ·rintro (rfl|h)
   ·exact .inl (by simp)
   ·exact .inr h
def qi8:∀{l m:List Nat}{i:Nat},i∈qdz l m↔i∈l\/i∈m
 |[],m,i=>by simp[qdz]|x::xs,m,i=>by
  simp only[qdz];cases h:bi m x
  ·simp only[qF,qi8 (l:=xs),wE];constructor
   ·rintro (h|h|h)
    ·exact .inl (.inr h)
    ·exact .inl (.inl h)
    ·exact .inr h
   ·rintro ((h|h)|h)
    ·exact .inr (.inl h)
    ·exact .inl h
    ·exact .inr (.inr h)
  ·have hx:=fj.1 h;simp only[qT,qi8 (l:=xs),wE];constructor
   ·rintro (h|h)
    ·exact .inl (.inr h)
    ·exact .inr h
   ·rintro ((rfl|h)|h)
    ·exact .inr hx
    ·exact .inl h
    ·exact .inr h
structure yn(o:Oper)(t st:St):Prop where
 nx:t.nx=st.nx
 ev:∀x∈o.op.operands.toList,t.ev x=st.ev x
 hp:∀n b,ae t.hp n=some b->ae st.hp n=some b
 room:∀d,o.dst=some d->a8 (st.nx+32*d) st.hp=true
def qin{t st:St}:∀{xs:List Operand},(∀x∈xs,t.ev x=st.ev x)->t.evs xs=st.evs xs|[],_=>rfl|x::xs,h=>by simp only[St.evs,h x (by simp),qin (xs:=xs) (fun y hy=>h y (by simp[hy]))]
def vi{t st:St}{x:Operand}(h:t.ev x=st.ev x):t.evy x=st.evy x:=by unfold St.evy;rw[h]
def qnx{t st:St}:∀{ps:List (Nat×Operand)},(∀x∈ps.map (·.2),t.ev x=st.ev x)->oy t ps=oy st ps|[],_=>rfl|(i,x)::ps,h=>by simp only[oy,h x (by simp),qnx (ps:=ps) (fun y hy=>h y (by simp at hy ⊢;exact .inr hy))]
def zme{P:Program}{o:Oper}{t st:St}{d:D}{R:List Prop×AV}(hs:yn o t st)(h:de P t d o.op=some R):de P st d o.op=some R:=by
 obtain⟨dst,op,ty,pos,after,guard⟩:=o;have hev:=hs.ev;have hhp:=hs.hp;simp only at h hev ⊢;cases op
 case move x=>simpa [de,← hev x (by simp[Op.operands])] using h
 case assign x=>simpa [de,← hev x (by simp[Op.operands])] using h
 case nilCheck x=>simpa [de,← hev x (by simp[Op.operands])] using h
 case pick c x y=>
  simp only[de]at h ⊢;rw[← hev c (by simp[Op.operands])]
  split at h
  ·rename_i b tt hc;have:st.ev (bif tt then x else y)=t.ev (bif tt then x else y):=by cases tt<;>exact(hev _ (by simp[Op.operands])).symm
   rw[this];exact h
  ·rename_i b hc;have:st.ev (bif b then x else y)=t.ev (bif b then x else y):=by cases b<;>exact(hev _ (by simp[Op.operands])).symm
   rw[this];exact h
  ·cases h
 case build T parts=>
  simp only[de,qb5]at h ⊢;rw[← qnx (t:=t) (st:=st) (fun x hx=>hev x (by simpa [Op.operands] using hx))]
  exact h
 case load ty x=>
  simp only[de,qh2]at h ⊢;rw[← hev x (by simp[Op.operands])]
  split at h
  ·rename_i b off hx;split at h
   ·rename_i cs T hb;simp only[hhp _ _ hb];exact h
   ·cases h
  ·exact h
  ·rename_i k sz i off hx;split at h
   ·rename_i hb;simp only[hhp _ _ hb];exact h
   ·cases h
  ·cases h
 case slice ty x lo hi mx=>
  simp only[de,qh3]at h ⊢;have e1:iw st lo=iw t lo:=by cases lo with|none=>rfl|some y=>simp only[iw];rw[← vi (hev y (by simp[Op.operands]))]
  have e2:iw st hi=iw t hi:=by cases hi with|none=>rfl|some y=>simp only[iw];rw[← vi (hev y (by simp[Op.operands]))]
  rw[e1,e2,← hev x (by simp[Op.operands])];exact h
 case binOp op ty x y _=>
  simp only[de]at h ⊢;rw[← hev x (by simp[Op.operands]),← hev y (by simp[Op.operands])];exact h
 case unOp op ty x=>
  simp only[de]at h ⊢;rw[← hev x (by simp[Op.operands])];exact h
 case convert a b x=>
  simp only[de]at h ⊢;rw[← hev x (by simp[Op.operands])]
  split at h
  ·rename_i v hs hx;split at h
   ·rename_i r hc;exact h
   ·rename_i hc;split at h
    ·rename_i hd;unfold qh4 at h ⊢;split at h
     ·rename_i E flat n bb hu hsrc;have:fb st v=fb t v:=by
       unfold fb at hsrc ⊢;split at hsrc
       ·rfl
       ·rfl
       ·rfl
       ·split at hsrc
        ·rename_i hb;simp only[hhp _ _ hb]
        ·cases hsrc
       ·split at hsrc
        ·rename_i hb;simp only[hhp _ _ hb]
        ·cases hsrc
       ·cases hsrc
      rw[this,hsrc];simp only[hu];exact h
     ·rename_i E flat n bb hu hsrc;have:fb st v=fb t v:=by
       unfold fb at hsrc ⊢;split at hsrc
       ·rfl
       ·rfl
       ·rfl
       ·split at hsrc
        ·rename_i hb;simp only[hhp _ _ hb]
        ·cases hsrc
       ·split at hsrc
        ·rename_i hb;simp only[hhp _ _ hb]
        ·cases hsrc
       ·cases hsrc
      rw[this,hsrc];simp only[hu];exact h
     ·cases h
    ·cases h
  ·cases h
 case field ty x f=>
  simp only[de]at h ⊢;rw[← hev x (by simp[Op.operands])];exact h
 case fieldAddr ty x f=>
  simp only[de]at h ⊢;rw[← hev x (by simp[Op.operands])];exact h
 case extract x i=>
  simp only[de]at h ⊢;rw[← hev x (by simp[Op.operands])];exact h
 case index ty x i=>
  simp only[de]at h ⊢;rw[← hev x (by simp[Op.operands]),← vi (hev i (by simp[Op.operands]))];exact h
 case indexAddr ty x i=>
  simp only[de]at h ⊢;rw[← hev x (by simp[Op.operands]),← vi (hev i (by simp[Op.operands]))]
  split at h
  ·rename_i v j hx hj;simp only[qb7]at h ⊢;split at h
   ·rename_i E hu;split at h
    ·rename_i sz kk n hsz;split at h
     ·exact h
     ·split at h
      ·rename_i hb;simp only[hhp _ _ hb];exact h
      ·cases h
     ·exact h
     ·cases h
    ·cases h
   ·exact h
   ·cases h
  ·cases h
 case makeFunc f first cap=>
  simp only[de]at h ⊢;rw[← qin (t:=t) (st:=st) (xs:=first.toList) (fun x hx=>hev x (by simp[Op.operands];exact .inl (by simpa using hx))),← qin (t:=t) (st:=st) (xs:=cap.toList) (fun x hx=>hev x (by simp[Op.operands];exact .inr (by simpa using hx)))]
  exact h
 case call c=>
  obtain⟨callee,args,argTypes⟩:=c;cases callee
  case builtin b=>
   have hm:∀z∈args.toList,t.ev z=st.ev z:=fun z hz=>hev z (by simp[Op.operands,Call.operands];simpa using hz)
   cases b<;>try (simp[de]at h;done)
   case len=>
    simp only[de]at h ⊢;split at h
    ·rename_i x ty ha ht;rw[← hm x (by rw[ha];simp)]
     split at h
     ·rename_i v hv;simp only[qh1]at h ⊢;split at h
      ·exact h
      ·exact h
      ·split at h
       ·rename_i hb;simp only[hhp _ _ hb];exact h
       ·cases h
      ·exact h
      ·exact h
      ·cases h
     ·cases h
    ·cases h
   case max=>
    simp only[de]at h ⊢;split at h
    ·rename_i x y ha;rw[← vi (hm x (by rw[ha];simp)),← vi (hm y (by rw[ha];simp))];exact h
    ·cases h
   case min=>
    simp only[de]at h ⊢;split at h
    ·rename_i x y ha;rw[← vi (hm x (by rw[ha];simp)),← vi (hm y (by rw[ha];simp))];exact h
    ·cases h
  all_goals (simp[de]at h)
 all_goals (simp[de]at h)
def zmc{P:Program}{o:Oper}{t st:St}{d:D}{R:List Prop×AV×List (Nat×ah)}(h:ip P t d o=some R):de P st d o.op=none:=by
 obtain⟨dst,op,ty,pos,after,guard⟩:=o;unfold ip at h;split at h
 ·rename_i ho _;simp only at ho;subst ho;rfl
 ·rename_i ho _;simp only at ho;subst ho;rfl
 ·rename_i ho _;simp only at ho;subst ho;rfl
 ·rename_i ho _;simp only at ho;subst ho;rfl
 ·rename_i ho _;simp only at ho;subst ho;rfl
 ·rename_i src dst x tt ho _;simp only at ho;subst ho;split at h
  ·rename_i sd E b hs hd hx;simp only[de,hs];split
   ·rename_i v _ hv;have h0:∀v,qg P dst v=none:=fun v=>by unfold qg;rw[hd]
    have:vc P dst v=none:=by unfold vc;split<;>simp[h0]
    rw[this];simp only[hd]
   ·rfl
  ·cases h
 ·cases h
def zv1{t st:St}{y:AV}{r:List AV×Nat}(hhp:∀n b,ae t.hp n=some b->ae st.hp n=some b)(h:fb t y=some r):fb st y=some r:=by
 unfold fb at h ⊢;split at h
 ·exact h
 ·exact h
 ·exact h
 ·split at h
  ·rename_i hb;simp only[hhp _ _ hb];exact h
  ·cases h
 ·split at h
  ·rename_i hb;simp only[hhp _ _ hb];exact h
  ·cases h
 ·cases h
def q79{P:Program}{t st:St}{d:D}{ty ty2:TypeId}{old:List AV}{n:Nat}{y:AV}{r:List Prop×ah}(hhp:∀n b,ae t.hp n=some b->ae st.hp n=some b)(h:nk P t d ty ty2 old n y=some r):nk P st d ty ty2 old n y=some r:=by
 unfold nk at h ⊢;split at h
 ·split at h
  ·rename_i hsz hsrc;rw[zv1 hhp hsrc,hsz];exact h
  ·cases h
 ·cases h
mutual
def zxr{b:Bool}{hp hp':List (Nat×ah)}(hhp:∀n b,ae hp n=some b->ae hp' n=some b){x y:AV}{ps:List Prop}(h:vw b hp x y=some ps):vw b hp' x y=some ps:=by
 unfold vw at h ⊢;split at h
 ·exact qd7 hhp h
 ·exact qd7 hhp h
 ·split at h
  ·rename_i h1 h2;rw[qd7 hhp h1,qd7 hhp h2];exact h
  ·cases h
 ·cases b
  ·cases h
  ·simp only[qT]at h ⊢;split at h
   ·rename_i hl;rw[hhp _ _ hl];exact h
   ·cases h
 ·exact h
 ·exact h
 ·exact h
 ·exact h
 ·exact h
def qd7{b:Bool}{hp hp':List (Nat×ah)}(hhp:∀n b,ae hp n=some b->ae hp' n=some b){xs ys:List AV}{ps:List Prop}(h:bj b hp xs ys=some ps):bj b hp' xs ys=some ps:=by
 unfold bj at h ⊢;split at h
 ·exact h
 ·split at h
  ·rename_i h1;split at h
   ·rename_i h2;rw[zxr hhp h1,qd7 hhp h2];exact h
   ·cases h
  ·cases h
 ·cases h
end
def zlo{P:Program}{o:Oper}{t st:St}{d:D}{R:List Prop×AV×List (Nat×ah)}(hs:yn o t st)(h:ip P t d o=some R):ip P st d o=some R:=by
 have hev:=hs.ev;have hroom:=hs.room;have hnx:=hs.nx;obtain⟨dst,op,ty,pos,after,guard⟩:=o;unfold ip at h ⊢;simp only at hev hroom h ⊢;split at h
 ·rename_i T tt;split at h
  ·rename_i cs hz;cases hb:AV.ones cs&&a8 (t.nx+32*tt) t.hp<;>rw[hb]at h<;>simp only[qT,qF,reduceCtorEq]at h
   simp only[qA]at hb;rw[hb.1,hroom tt rfl,← hnx];exact h
  ·cases h
 ·rename_i T x tt;rw[← hev x (by simp[Op.operands])]
  split at h
  ·rename_i v hx;cases hb:AV.ones v.cells&&a8 (t.nx+32*tt) t.hp<;>rw[hb]at h<;>simp only[qT,qF,reduceCtorEq]at h
   simp only[qA]at hb;have hr:=hroom tt rfl;rw[← hnx]at hr;simp only[hb.1,hr,← hnx,Bool.and_self,qT];exact h
  ·cases h
 ·rename_i g args tys tt;have h1:t.ev g=st.ev g:=hev g (by simp[Op.operands,Call.operands])
  have h2:t.evs args.toList=st.evs args.toList:=qin (fun x hx=>hev x (by simp[Op.operands,Call.operands];exact .inr (by simpa using hx)))
  rw[← h1,← h2];split at h
  ·rename_i f cap xs bb xs' r hp' hg hargs;split at h
   ·rename_i pv hvw;cases hb:rt 32 hp'&&a8 (t.nx+32*tt) t.hp&&(!bb||noRef r)<;>rw[hb]at h<;>simp only[qT,qF,reduceCtorEq]at h
    simp only[qA]at hb;have hr:=hroom tt rfl;rw[← hnx]at hr;rw[qd7 hs.hp hvw];simp only[hb.1.1,hb.2,hr,← hnx,Bool.and_self,qT];exact h
   ·cases h
  ·cases h
 ·rename_i args argTypes tt;split at h
  ·rename_i x y ty1 ty2 ha ht;have hm:∀z∈args.toList,t.ev z=st.ev z:=fun z hz=>hev z (by simp[Op.operands,Call.operands];simpa using hz)
   rw[← hm x (by rw[ha];simp),← hm y (by rw[ha];simp)]
   split at h
   ·rename_i v hx hy;split at h
    ·rename_i ps b happ;cases hb:a8 (t.nx+32*tt) t.hp<;>rw[hb]at h<;>simp only[qT,qF,reduceCtorEq]at h
     have hr:=hroom tt rfl;rw[← hnx]at hr;simp only[q79 hs.hp happ,hr,← hnx,qT];exact h
    ·cases h
   ·cases h
  ·cases h
 ·rename_i ty1 len parts tt;split at h
  ·rename_i ps b hbs;have:vb P st d ty1 len parts.toList=some (ps,b):=by
    unfold vb at hbs ⊢;rw[← qnx (t:=t) (st:=st) (fun x hx=>hev x (by simpa [Op.operands] using hx))];exact hbs
   cases hb:a8 (t.nx+32*tt) t.hp<;>rw[hb]at h<;>simp only[qT,qF,reduceCtorEq]at h
   have hr:=hroom tt rfl;rw[← hnx]at hr;simp only[this,hr,← hnx,qT];exact h
  ·split at h
   ·rename_i cs E hbc;have this:qb6 P st d ty1 len parts.toList=some (cs,E):=by
     unfold qb6 at hbc ⊢;rw[← qnx (t:=t) (st:=st) (fun x hx=>hev x (by simpa [Op.operands] using hx))];exact hbc
    have that:vb P st d ty1 len parts.toList=none:=by
     unfold qb6 at hbc;split at hbc
     ·simp[vb]
     ·cases hbc
    cases hb:a8 (t.nx+32*tt) t.hp<;>rw[hb]at h<;>simp only[qT,qF,reduceCtorEq]at h
    have hr:=hroom tt rfl;rw[← hnx]at hr;simp only[this,that,hr,← hnx,qT];exact h
   ·cases h
 ·rename_i src dst x tt;rw[← hev x (by simp[Op.operands])]
  split at h
  ·rename_i sd E b hs1 hd hx;split at h
   ·rename_i he;cases hb:a8 (t.nx+32*tt) t.hp<;>rw[hb]at h<;>simp only[qT,qF,reduceCtorEq]at h
    have hr:=hroom tt rfl;rw[← hnx]at hr;simp only[hr,← hnx,qT];exact h
   ·cases h
  ·cases h
 ·cases h
def q8c{P:Program}{o:Oper}{t st:St}{d:D}{R:List Prop×AV×List (Nat×ah)}(hs:yn o t st)(h:e8 P t d o=some R):e8 P st d o=some R:=by
 unfold e8 at h ⊢;split at h
 ·rename_i ps v hv;rw[zme hs hv];exact h
 ·rw[zmc h];exact zlo hs h
def zpb{ops:Array Oper}{o:Oper}{t st:St}{j:Nat}{want:Bool}(hg:o.guard=some (j,want))(hr:∀d∈jh ops o,ae t.fr d=ae st.fr d):tv ops t j=tv ops st j:=by
 unfold tv
 cases hj:ops[j]? with
 |none=>rfl|some oj=>
  simp only
  cases hd:oj.dst with|none=>rfl|some d=>simp only;rw[hr d (by simp[jh,hg,hj,hd])]
def q84{P:Program}{ops:Array Oper}{o:Oper}{t st:St}{c:uk}{R:List Prop×AV×List (Nat×ah)}(hs:yn o t st)(hr:∀d∈jh ops o,ae t.fr d=ae st.fr d)(h:mh P ops t c o=some R):mh P ops st c o=some R:=by
 unfold mh at h ⊢;split at h
 ·exact q8c hs h
 ·rename_i j want hg;rw[← zpb hg hr];split at h
  ·cases h
  ·exact h
  ·rename_i b hb;cases hq:c.1==want<;>rw[hq]at h<;>simp only[qT,qF]at h ⊢
   ·exact h
   ·split at h
    ·rename_i ps v new ha;rw[q8c hs ha];exact h
    ·cases h
section
variable{P:Program}{vj6:World}{vj1:Gh}{vj3:List (Nat×ah)}{G:Gh}{s:St}{a:Act}{w:World}
def q83(hr:aj vj6 vj1 vj3 G s a w){ops:Array Oper}{i:Nat}{o:Oper}{c:uk}{ps:List Prop}{v:AV}{new:List (Nat×ah)}{s':St}(ho:ops[i]? = some o)(h:mh P ops s c o=some (ps,v,new))(hp:ar ps)(hs:s.add o.dst v new=some s')
  {N:Act->World->Prop} (hN:∀G' a' w',aj vj6 vj1 vj3 G' s' a' w'->N a' w'):qn P ops i N a w:=by
 unfold mh at h;split at h
 ·rename_i hg;exact qcq ho (by simp[Region.wanted,hg]) (eq (qyc h) (qyd hr h hp hs hN))
 ·rename_i j want hg;split at h
  ·cases h
  ·rename_i hb;have hy:=qpj hr hb;simp only[qI,qP]at h;obtain⟨rfl,rfl,rfl⟩:=h;exact qzh ho (by simp[Region.wanted,hg,hy]) (hN _ _ _ (gn hr hs rfl))
  ·rename_i b hb;have hy:=qpj hr hb;cases hq:c.1==want<;>rw[hq]at h<;>simp only[qT,qF]at h
   ·simp only[qI,qP]at h;obtain⟨rfl,rfl,rfl⟩:=h;simp only[ar,and_true]at hp;exact qzh ho (by
     simp only[Region.wanted,hg,hy,hp];simp only[beq_eq_false_iff_ne,ne_eq]at hq;simpa using hq) (hN _ _ _ (gn hr hs rfl))
   ·split at h
    ·rename_i ps' v' new' ha;simp only[qI,qP]at h;obtain⟨rfl,rfl,rfl⟩:=h;obtain⟨hp1,hp2⟩:=hp;exact qcq ho (by simp only[Region.wanted,hg,hy,hp1];simpa using hq) (eq (qyc ha) (qyd hr ha hp2 hs hN))
    ·cases h
structure St.eqv(s t:St):Prop where
 n:s.n=t.n
 nx:s.nx=t.nx
 fr:∀i,ae s.fr i=ae t.fr i
 hp:∀i,ae s.hp i=ae t.hp i
 df:s.df=t.df
def aj.eqv(hr:aj vj6 vj1 vj3 G s a w){t:St}(h:s.eqv t):aj vj6 vj1 vj3 G t a w:=by
 refine⟨by rw[← h.df];exact hr.defers,by rw[hr.size,h.n],fun i x hx=>hr.frame i x (by rw[h.fr];exact hx),fun m hm hl=>hr.fresh m (by rw[h.nx];exact hm) (by rw[h.hp];exact hl),⟨⟨hr.fin.mem.agree,hr.fin.mem.one,fun n bx hb=>hr.fin.mem.holds n bx (by rw[h.hp];exact hb),fun n m bx bx' b h1 h2=>hr.fin.mem.apart n m bx bx' b (by rw[h.hp];exact h1) (by rw[h.hp];exact h2),hr.fin.mem.tab⟩,hr.fin.bel,hr.fin.imm_le,hr.fin.imm_new,fun n bx b h1=>hr.fin.base n bx b (by rw[h.hp];exact h1),hr.fin.keep,hr.fin.keepOwn⟩⟩
def inR(lo:Nat)(l:List (Nat×ah)):Prop:=∀e∈l,lo<=e.1/\e.1<lo+32
def zfl{ρ:Nat->Option Nat}{k:Nat}:∀{l:List (Nat×ah)},rt 32 l=true->inR k (l5 ρ k l)
 |[],_=>by intro e he;cases he
 |(n,b)::r,h=>by
  simp only[rt,qA,Nat.blt_eq]at h;intro e he;rcases List.mem_cons.1 he with rfl|he
  ·exact⟨by simp,by simp;omega⟩
  ·exact zfl h.2 e he
def zln{o:Oper}{t:St}{d:D}{ps:List Prop}{v:AV}{new:List (Nat×ah)}{k:Nat}(hd:o.dst=some k)(h:ip P t d o=some (ps,v,new)):inR (t.nx+32*k) new:=by
 obtain⟨dst,op,ty,pos,after,guard⟩:=o;simp only at hd;subst hd;unfold ip at h;simp only at h;split at h
 ·rename_i T tt hh;injection hh with hh;subst hh
  split at h
  ·rename_i cs hz;cases hb:AV.ones cs&&a8 (t.nx+32*k) t.hp<;>rw[hb]at h<;>simp only[qT,qF,reduceCtorEq,qI,qP]at h
   obtain⟨_,_,rfl⟩:=h;intro e he;simp at he;subst he;exact⟨by simp,by simp⟩
  ·cases h
 ·rename_i T x tt hh;injection hh with hh;subst hh
  split at h
  ·rename_i v hx;cases hb:AV.ones v.cells&&a8 (t.nx+32*k) t.hp<;>rw[hb]at h<;>simp only[qT,qF,reduceCtorEq,qI,qP]at h
   obtain⟨_,_,rfl⟩:=h;intro e he;simp at he;subst he;exact⟨by simp,by simp⟩
  ·cases h
 ·rename_i g args tys tt hh;injection hh with hh;subst hh
  split at h
  ·rename_i bb _ r hp' hg hargs;split at h
   ·cases hb:rt 32 hp'&&a8 (t.nx+32*k) t.hp&&(!bb||noRef r)<;>rw[hb]at h<;>simp only[qT,qF,reduceCtorEq,qI,qP]at h
    obtain⟨_,_,rfl⟩:=h;simp only[qA]at hb;exact zfl hb.1.1
   ·cases h
  ·cases h
 ·rename_i args argTypes tt hh;injection hh with hh;subst hh
  split at h
  ·split at h
   ·split at h
    ·cases hb:a8 (t.nx+32*k) t.hp<;>rw[hb]at h<;>simp only[qT,qF,reduceCtorEq,qI,qP]at h
     obtain⟨_,_,rfl⟩:=h;intro e he;simp at he;subst he;exact⟨by simp,by simp⟩
    ·cases h
   ·cases h
  ·cases h
 ·rename_i ty1 len parts tt hh;injection hh with hh;subst hh
  split at h
  ·cases hb:a8 (t.nx+32*k) t.hp<;>rw[hb]at h<;>simp only[qT,qF,reduceCtorEq,qI,qP]at h
   obtain⟨_,_,rfl⟩:=h;intro e he;simp at he;subst he;exact⟨by simp,by simp⟩
  ·split at h
   ·cases hb:a8 (t.nx+32*k) t.hp<;>rw[hb]at h<;>simp only[qT,qF,reduceCtorEq,qI,qP]at h
    obtain⟨_,_,rfl⟩:=h;intro e he;simp at he;subst he;exact⟨by simp,by simp⟩
   ·cases h
 ·rename_i src dst x tt hh;injection hh with hh;subst hh
  split at h
  ·split at h
   ·cases hb:a8 (t.nx+32*k) t.hp<;>rw[hb]at h<;>simp only[qT,qF,reduceCtorEq,qI,qP]at h
    obtain⟨_,_,rfl⟩:=h;intro e he;simp at he;subst he;exact⟨by simp,by simp⟩
   ·cases h
  ·cases h
 ·cases h
def q8b{o:Oper}{t:St}{d:D}{ps:List Prop}{v:AV}{new:List (Nat×ah)}{k:Nat}(hd:o.dst=some k)(h:e8 P t d o=some (ps,v,new)):inR (t.nx+32*k) new:=by
 unfold e8 at h;split at h
 ·simp only[qI,qP]at h;obtain⟨_,_,rfl⟩:=h;intro e he;cases he
 ·exact zln hd h
def q82{ops:Array Oper}{o:Oper}{t:St}{c:uk}{ps:List Prop}{v:AV}{new:List (Nat×ah)}{k:Nat}(hd:o.dst=some k)(h:mh P ops t c o=some (ps,v,new)):inR (t.nx+32*k) new:=by
 unfold mh at h;split at h
 ·exact q8b hd h
 ·split at h
  ·cases h
  ·simp only[qI,qP]at h;obtain⟨_,_,rfl⟩:=h;intro e he;cases he
  ·rename_i j want _ _ b _;cases hq:c.1==want<;>rw[hq]at h<;>simp only[qT,qF]at h
   ·simp only[qI,qP]at h;obtain⟨_,_,rfl⟩:=h;intro e he;cases he
   ·split at h
    ·rename_i ha;simp only[qI,qP]at h;obtain⟨_,_,rfl⟩:=h;exact q8b hd ha
    ·cases h
def zf:∀{l:List (Nat×ah)}{m:Nat}{b:ah},ae l m=some b->(m,b)∈l
 |[],m,b,h=>by cases h
 |(k,v)::r,m,b,h=>by
  simp only[ae]at h;cases hb:Nat.beq k m
  ·rw[hb]at h;exact qE _ (zf h)
  ·rw[hb]at h;simp only[qT,qI]at h;subst h;rw[← qN hb];exact qH
def v7{lo:Nat}:∀{l:List (Nat×ah)},a8 lo l=true↔∀e∈l,e.1<lo\/lo+32<=e.1
 |[]=>by simp[a8]|(n,b)::r=>by
  simp only[a8,qA,Bool.or_eq_true,Nat.blt_eq,Nat.ble_eq,v7 (l:=r),wE,forall_eq_or_imp]
def dc(Rs:List HR):List Nat->St->St
 |[],s=>s|i::L,s=>match Rs[i]? with|some r=>(dc Rs L s).addR r|none=>dc Rs L s
def qyf(Rs:List HR):∀(A B:List Nat)(s:St),dc Rs (A++B) s=dc Rs A (dc Rs B s)|[],B,s=>rfl|i::A,B,s=>by simp only[wK,dc,qyf Rs A B s]
def qyl{Rs:List HR}{sel:List Nat}:∀(rs:List HR)(j:Nat)(t:St),(∀k,k<rs.length->Rs[j+k]? = rs[k]?)->qh sel rs j t=dc Rs (((List.range' j rs.length).filter (bi sel)).reverse) t
 |[],j,t,_=>rfl|r::rs,j,t,h=>by
  have h0:Rs[j]? = some r:=by simpa using h 0 (by simp)
  rw[qh,qyl rs (j+1) _ (fun k hk=>by have:=h (k+1) (by simp;omega);rw[show j+1+k=j+(k+1) by omega,this];simp),qL,List.range'_succ]
  cases hm:bi sel j
  ·rw[List.filter_cons_of_neg (by simp[hm])];rfl
  ·rw[List.filter_cons_of_pos hm,List.reverse_cons,qyf];simp only[dc,h0,qT]
def q8f{Rs:List HR}:∀(rs:List HR)(j:Nat)(t:St),(∀k,k<rs.length->Rs[j+k]? = rs[k]?)->kw rs t=dc Rs ((List.range' j rs.length).reverse) t
 |[],j,t,_=>rfl|r::rs,j,t,h=>by
  have h0:Rs[j]? = some r:=by simpa using h 0 (by simp)
  rw[kw,q8f rs (j+1) _ (fun k hk=>by have:=h (k+1) (by simp;omega);rw[show j+1+k=j+(k+1) by omega,this];simp),qL,List.range'_succ,List.reverse_cons,qyf]
  simp only[dc,h0]
def ow(Rs:List HR):∀(L:List Nat)(s:St),(dc Rs L s).n=s.n/\(dc Rs L s).nx=s.nx
 |[],s=>⟨rfl,rfl⟩|i::L,s=>by
  simp only[dc];split
  ·exact ow Rs L s
  ·exact ow Rs L s
def qnt(Rs:List HR):∀(L:List Nat)(s:St),(dc Rs L s).df=s.df
 |[],s=>rfl|i::L,s=>by
  simp only[dc];split
  ·exact qnt Rs L s
  ·exact qnt Rs L s
structure yh(s:St)(Rs:List HR):Prop where
 dst:∀(i j:Nat)(r r':HR),Rs[i]? = some r->Rs[j]? = some r'->r.dst=r'.dst->i=j
 names:∀(i:Nat)(r:HR),Rs[i]? = some r->inR (s.nx+32*r.dst) r.new
 room:∀(i:Nat)(r:HR),Rs[i]? = some r->a8 (s.nx+32*r.dst) s.hp=true
def qca{Rs:List HR}(hh:yh s Rs):∀{L:List Nat}{i:Nat}{r:HR},i∈L->Rs[i]? = some r->ae (dc Rs L s).fr r.dst=some r.v
 |j::L,i,r,hi,hr=>by
  simp only[dc];by_cases hij:j=i
  ·subst hij;rw[hr];simp only[St.addR,ae];rw[show Nat.beq r.dst r.dst=true by simp];rfl
  ·have hi':i∈L:=by
    rcases List.mem_cons.1 hi with h|h;· exact absurd h.symm hij
    ·exact h
   split
   ·rename_i r' hr';have hne:Nat.beq r'.dst r.dst=false:=by
     cases hb:Nat.beq r'.dst r.dst
     ·rfl
     ·exact absurd (hh.dst _ _ _ _ hr' hr (qN hb)) hij
    simp only[St.addR,ae,hne,qF];exact qca hh hi' hr
   ·exact qca hh hi' hr
def qh5{Rs:List HR}{d:Nat}:∀{L:List Nat},(∀i∈L,∀r:HR,Rs[i]? = some r->r.dst≠d)->ae (dc Rs L s).fr d=ae s.fr d
 |[],_=>rfl|j::L,h=>by
  simp only[dc];have ih:=qh5 (L:=L) (fun i hi=>h i (qE _ hi))
  split
  ·rename_i r hr;have hne:Nat.beq r.dst d=false:=by
    cases hb:Nat.beq r.dst d
    ·rfl
    ·exact absurd (qN hb) (h j qH r hr)
   simp only[St.addR,ae,hne,qF];exact ih
  ·exact ih
def qyg{Rs:List HR}(hh:yh s Rs):∀{L:List Nat}{i:Nat}{r:HR}{m:Nat}{b:ah},i∈L->Rs[i]? = some r->ae r.new m=some b->ae (dc Rs L s).hp m=some b
 |j::L,i,r,m,b,hi,hr,hb=>by
  simp only[dc];by_cases hij:j=i
  ·subst hij;rw[hr];simp only[St.addR];rw[pm,hb]
  ·have hi':i∈L:=by
    rcases List.mem_cons.1 hi with h|h;· exact absurd h.symm hij
    ·exact h
   have ih:=qyg hh hi' hr hb;split
   ·rename_i r' hr';have hne:r'.dst≠r.dst:=fun e=>hij (hh.dst _ _ _ _ hr' hr e)
    simp only[St.addR];rw[pm]
    cases hq:ae r'.new m with
    |none=>exact ih|some b'=>
     have h1:=hh.names _ _ hr' _ (zf hq);have h2:=hh.names _ _ hr _ (zf hb);simp only at h1 h2;omega
   ·exact ih
def qyi{Rs:List HR}{m:Nat}:∀{L:List Nat},(∀i∈L,∀r:HR,Rs[i]? = some r->ae r.new m=none)->ae (dc Rs L s).hp m=ae s.hp m
 |[],_=>rfl|j::L,h=>by
  simp only[dc];have ih:=qyi (L:=L) (fun i hi=>h i (qE _ hi))
  split
  ·rename_i r hr;simp only[St.addR];rw[pm,h j qH r hr];exact ih
  ·exact ih
def qyh{Rs:List HR}(hh:yh s Rs){L L':List Nat}(hs:∀i∈L,i∈L'){m:Nat}{b:ah}(h:ae (dc Rs L s).hp m=some b):ae (dc Rs L' s).hp m=some b:=by
 by_cases hex:∃i∈L,∃r:HR,Rs[i]? = some r/\∃b',ae r.new m=some b'
 ·obtain⟨i,hi,r,hr,b',hb'⟩:=hex;rw[qyg hh hi hr hb']at h;injection h with h;subst h
  exact qyg hh (hs i hi) hr hb'
 ·rw[qyi (fun i hi r hr=>by cases hq:ae r.new m with|none=>rfl|some b'=>exact absurd ⟨i,hi,r,hr,b',hq⟩ hex)]at h
  rw[qyi]
  ·exact h
  ·intro i hi r hr
   cases hq:ae r.new m with
   |none=>rfl|some b'=>
    have h1:=hh.names _ _ hr _ (zf hq);have h2:=v7.1 (hh.room _ _ hr) _ (zf h);simp only at h1 h2;omega
def q8j{Rs:List HR}(hh:yh s Rs){i:Nat}{r:HR}(hr:Rs[i]? = some r):∀{L:List Nat},i∉L->a8 (s.nx+32*r.dst) (dc Rs L s).hp=true
 |[],_=>hh.room i r hr|j::L,hi=>by
  simp only[dc];have ih:=q8j hh hr (L:=L) (fun h=>hi (qE _ h))
  split
  ·rename_i r' hr';have hne:r'.dst≠r.dst:=fun e=>hi (by rw[← hh.dst _ _ _ _ hr' hr e];exact qH)
   simp only[St.addR];rw[v7];intro e he;rcases List.mem_append.1 he with he|he
   ·have:=hh.names _ _ hr' _ he;omega
   ·exact v7.1 ih e he
  ·exact ih
end
end Go.Sym
namespace Go.Sym
open Go.RowKit
variable[LC]
section
variable{P:Program}{vj6:World}{vj1:Gh}{vj3:List (Nat×ah)}{s:St}
def HOk(P:Program)(ops:Array Oper)(s:St)(Rs:List HR)(i:Nat)(o:Oper):Prop:=
 ∃r ps,∃c:uk,Rs[i]? = some r/\o.dst=some r.dst/\r.dst<s.n/\a8 (s.nx+32*r.dst) s.hp=true/\mu (Rs.take i) o.after.toList=some r.pred/\pc r.dst (Rs.take i)=true /\
  ry r.pred (jh ops o) (Rs.take i) 0=true/\si ops r.dst r.pred i=true/\mh P ops (qh r.pred (Rs.take i) 0 s) c o=some (ps,r.v,r.new)/\ar ps
def vk{d:Nat}:∀{rs:List HR},pc d rs=true↔∀r∈rs,r.dst≠d
 |[]=>by simp[pc]|r::rs=>by
  simp only[pc,qA,Bool.not_eq_true',vk (rs:=rs),wE,forall_eq_or_imp];constructor
  ·rintro⟨h1,h2⟩;exact⟨fun e=>by subst e;simp at h1,h2⟩
  ·rintro⟨h1,h2⟩
   refine⟨?_,h2⟩;cases hb:Nat.beq r.dst d
   ·rfl
   ·exact absurd (qN hb) h1
def qjh{Rs:List HR}:∀{es:List Edge}{l:List Nat},mu Rs es=some l ->
  (∀e∈es,Region.binds .any e=true->e.on∈l)/\(∀j∈l,∃e∈es,Region.binds .any e=true/\(j=e.on\/∃r,Rs[e.on]? = some r/\j∈r.pred))
 |[],l,h=>by simp only[mu,qI]at h;subst h;exact⟨fun e he=>(by cases he),fun j hj=>(by cases hj)⟩
 |e::es,l,h=>by
  simp only[mu]at h;cases hb:Region.binds .any e<;>rw[hb]at h<;>simp only[qT,qF]at h
  ·obtain⟨h1,h2⟩:=qjh h;refine⟨fun e' he' hbe => ?_,fun j hj => ?_⟩
   ·rcases List.mem_cons.1 he' with rfl|he'
    ·rw[hb]at hbe;cases hbe
    ·exact h1 e' he' hbe
   ·obtain⟨e',he',r⟩:=h2 j hj;exact⟨e',qE _ he',r⟩
  ·split at h
   ·rename_i r l' hr hl';simp only[qI]at h;subst h;obtain⟨h1,h2⟩:=qjh hl';refine⟨fun e' he' hbe => ?_,fun j hj => ?_⟩
    ·rw[qi8];rcases List.mem_cons.1 he' with rfl|he'
     ·exact .inl qH
     ·exact .inr (h1 e' he' hbe)
    ·rw[qi8]at hj;rcases hj with hj|hj
     ·rcases List.mem_cons.1 hj with rfl|hj
      ·exact⟨e,qH,hb,.inl rfl⟩
      ·exact⟨e,qH,hb,.inr ⟨r,hr,hj⟩⟩
     ·obtain⟨e',he',r⟩:=h2 j hj;exact⟨e',qE _ he',r⟩
   ·cases h
def q1z{pred reads:List Nat}:∀{rs:List HR}{j:Nat},ry pred reads rs j=true->∀k r,rs[k]? = some r->j+k∈pred\/r.dst∉reads
 |[],j,_,k,r,hr=>by simp at hr|r0::rs,j,h,k,r,hr=>by
  simp only[ry,qA,Bool.or_eq_true,Bool.not_eq_true']at h
  cases k with
  |zero=>
   simp at hr;subst hr;rcases h.1 with h|h
   ·exact .inl (fj.1 h)
   ·exact .inr (fun hm=>by rw[fj.2 hm]at h;cases h)
  |succ k=>
   have:=q1z h.2 k r (by simpa using hr)
   rwa [show j+(k+1)=j+1+k by omega]
def q26{ops:Array Oper}{d:Nat}{pred:List Nat}:∀{i:Nat},si ops d pred i=true->∀j o,j<i->ops[j]? = some o->j∈pred\/d∉jh ops o
 |0,_,j,o,hj,_=>by omega|i+1,h,j,o,hj,ho=>by
  simp only[si,qA,Bool.or_eq_true]at h;by_cases hij:j=i
  ·subst hij;rcases h.1 with h|h
   ·exact .inl (fj.1 h)
   ·rw[ho]at h;simp only[Bool.not_eq_true']at h;exact .inr (fun hm=>by rw[fj.2 hm]at h;cases h)
  ·exact q26 h.2 j o (by omega) ho
def q23{o:Oper}{j:Nat}(h:qj4 o j=true):∃e∈o.after,e.on=j/\Region.binds .any e=true:=by
 obtain⟨e,he,hb⟩:=List.any_eq_true.1 h;simp only[qA]at hb;exact⟨e,by simpa using he,qN hb.1,hb.2⟩
def q9w:∀{l:List Oper}{i:Nat},qoi l i=true->∀j o,l[j]? = some o->qj4 o (i+j-1)=true
 |[],i,_,j,o,ho=>by simp at ho|o0::l,i,h,j,o,ho=>by
  simp only[qoi,qA]at h
  cases j with|zero=>simp at ho;subst ho;exact h.1|succ j=>have:=q9w h.2 j o (by simpa using ho);rwa [show i+(j+1)-1=i+1+j-1 by omega]
def qop{L:List Nat}:∀{es:List Edge},(∀e∈es,Region.binds .any e=true->e.on∈L)->∀j∈qcy es,j∈L
 |[],_,j,h=>by cases h
 |e::es,hL,j,h=>by
  simp only[qcy]at h;cases hb:Region.binds .any e<;>rw[hb]at h<;>simp only[qT,qF]at h
  ·exact qop (fun e he=>hL e (qE _ he)) j h
  ·rcases List.mem_cons.1 h with rfl|h
   ·exact hL e qH hb
   ·exact qop (fun e he=>hL e (qE _ he)) j h
def zea{ops:Array Oper}{L:List Nat}(hcl:∀i∈L,∀o,ops[i]? = some o->∀e∈o.after,Region.binds .any e=true->e.on∈L):∀{n:Nat}{S:List Nat},(∀j∈S,j∈L)->∀j∈qqf ops n S,j∈L
 |0,S,hS,j,h=>hS j h|n+1,S,hS,j,h=>by
  simp only[qqf]at h;refine zea hcl (fun i hi => ?_) j h
  cases hb:bi S n<;>rw[hb]at hi<;>simp only[qT,qF]at hi
  ·exact hS i hi
  ·split at hi
   ·rename_i o ho;rcases List.mem_append.1 hi with hi|hi
    ·exact qop (fun e he hb'=>hcl n (hS n (fj.1 hb)) o ho e (by simpa using he) hb') i hi
    ·exact hS i hi
   ·exact hS i hi
def q8r{S:List Nat}:∀{n:Nat},qnv S n=true->∀j,j<n->j∈S
 |0,_,j,h=>by omega|n+1,h,j,hj=>by
  simp only[qnv,qA]at h;by_cases e:j=n
  ·subst e;exact fj.1 h.1
  ·exact q8r h.2 j (by omega)
def zf2{ops:Array Oper}{n:Nat}(h:mz ops n=true){o:Oper}(ho:ops[n]? = some o){L:List Nat}(hcl:∀i∈L,∀o,ops[i]? = some o->∀e∈o.after,Region.binds .any e=true->e.on∈L)
  (hL:∀e∈o.after,Region.binds .any e=true->e.on∈L):∀j,j<n->j∈L:=fun j hj=>by
 unfold mz at h;split at h
 ·rename_i hd;have:n<ops.size:=(Array.getElem?_eq_some_iff.1 ho).1;have:=congrArg List.length hd;simp at this;omega
 ·rename_i o' l hd;have:o'=o:=by
   have:=congrArg (fun l=>l[0]?) hd
   simp only[List.getElem?_drop,Nat.add_zero,List.getElem?_cons_zero,Array.getElem?_toList]at this;rw[ho]at this;injection this with this;exact this.symm
  subst this;simp only[qA]at h;exact zea hcl (qop fun e he=>hL e (by simpa using he)) j (q8r h.1 j hj)
def q2q{ops:Array Oper}{n:Nat}(h:mz ops n=true){i:Nat}{o:Oper}(hi:n<i)(ho:ops[i]? = some o):qj4 o (i-1)=true:=by
 unfold mz at h;split at h
 ·rename_i hd;have:i<ops.size:=(Array.getElem?_eq_some_iff.1 ho).1;have:=congrArg List.length hd;simp at this;omega
 ·rename_i o' l hd;simp only[qA]at h;have hl:l[i-(n+1)]? = some o:=by
   have:=congrArg (fun l=>l[i-n]?) hd
   simp only[List.getElem?_drop,Array.getElem?_toList]at this;rw[show n+(i-n)=i by omega,ho,show i-n=(i-(n+1))+1 by omega,List.getElem?_cons_succ]at this
   exact this.symm
  have:=q9w h.2 (i-(n+1)) o hl
  rwa [show n+1+(i-(n+1))-1=i-1 by omega]at this
def mn:∀{l:List Oper}{i:Nat},ml l i=true->∀j o,l[j]? = some o->∀e∈o.after,Region.binds .any e=true->e.on<i+j
 |[],i,_,j,o,ho=>by simp at ho|o0::l,i,h,j,o,ho=>by
  simp only[ml,qA]at h
  cases j with
  |zero=>
   simp at ho;subst ho;intro e he hb;have:=List.all_eq_true.1 h.1 e (by simpa using he)
   simp only[hb,Bool.not_true,Bool.false_or,Nat.blt_eq]at this;exact this
  |succ j=>have:=mn h.2 j o (by simpa using ho);rwa [show i+(j+1)=i+1+j by omega]
def zg{ops:Array Oper}{listed:Array Bool}{i:Nat}:i∈Region.ready .any ops listed↔i<ops.size/\listed.getD i true=false/\∃o,ops[i]? = some o/\∀e∈o.after,Region.binds .any e=true->listed.getD e.on false=true:=by
 unfold Region.ready;simp only[List.mem_filter,List.mem_range,qA,Bool.not_eq_true'];constructor
 ·rintro⟨h1,h2,h3⟩
  obtain⟨o,ho⟩:∃o,ops[i]? = some o:=⟨ops[i],by simp[h1]⟩
  refine⟨h1,h2,o,ho,fun e he hb => ?_⟩
  rw[ho]at h3;simp only[wQ,Option.getD_some]at h3;have:=Array.all_eq_true'.1 h3 e he;simpa [hb] using this
 ·rintro⟨h1,h2,o,ho,h3⟩
  refine⟨h1,h2,?_⟩;rw[ho];simp only[wQ,Option.getD_some];refine Array.all_eq_true'.2 (fun e he => ?_)
  cases hb:Region.binds .any e
  ·simp
  ·simp[h3 e he hb]
def v8:∀(n:Nat)(L:List Nat),L.Nodup->(∀i∈L,i<n)->L.length<=n
 |0,L,_,h=>by
  cases L with|nil=>simp|cons x L=>have:=h x qH;omega
 |n+1,L,hd,h=>by
  by_cases hm:n∈L
  ·have:=v8 n (L.erase n) (hd.erase n) (fun i hi=>by
    have h1:=h i (List.mem_of_mem_erase hi);have h2:i≠n:=fun e=>by subst e;exact(hd.not_mem_erase) hi
    omega)
   rw[List.length_erase_of_mem hm]at this;omega
  ·have:=v8 n L hd (fun i hi=>by
    have h1:=h i hi;have h2:i≠n:=fun e=>hm (e▸hi)
    omega)
   omega
def q0m:∀(n:Nat)(L:List Nat),(∀i,i<n->i∈L)->n<=L.length
 |0,L,_=>Nat.zero_le _|n+1,L,h=>by
  have hm:n∈L:=h n (by omega)
  have:=q0m n (L.erase n) (fun i hi=>(List.mem_erase_of_ne (by omega)).2 (h i (by omega)))
  rw[List.length_erase_of_mem hm]at this;have:0<L.length:=List.length_pos_of_mem hm;omega
structure yq(ops:Array Oper)(m:Nat)(listed:Array Bool):Prop where
 size:listed.size=ops.size
 iff:∀j,j<ops.size->(listed.getD j true=true↔j<m)
def zwh{ops:Array Oper}{N:Act->World->Prop}{listed:Array Bool}{a:Act}{w:World}(hu:yq ops ops.size listed)(h:N a w):mi P ops N (ops.size-ops.size) listed a w:=by
 rw[Nat.sub_self];refine⟨?_,h⟩
 cases hq:Region.ready .any ops listed with
 |nil=>rfl|cons i r=>
  have hi:i∈Region.ready .any ops listed:=by rw[hq];exact qH
  obtain⟨h1,h2,_⟩:=zg.1 hi;rw[(hu.iff i h1).2 h1]at h2;cases h2
def zwi{ops:Array Oper}{N:Act->World->Prop}{n m:Nat}(he:ml ops.toList 0=true)(ht:mz ops n=true)(hn:n<=m)(hms:m<ops.size){listed:Array Bool}{a:Act}{w:World}(hu:yq ops m listed)
  (h:qn P ops m (fun a w=>∀listed,yq ops (m+1) listed->mi P ops N (ops.size-(m+1)) listed a w) a w):mi P ops N (ops.size-m) listed a w:=by
 obtain⟨k,hk⟩:∃k,ops.size-m=k+1:=⟨ops.size-m-1,by omega⟩
 obtain⟨o,ho⟩:∃o,ops[m]? = some o:=⟨ops[m],by simp[hms]⟩
 have hli:=hu.iff;have hsz:=hu.size;rw[hk];have hmr:m∈Region.ready .any ops listed:=by
  refine zg.2 ⟨hms,?_,o,ho,fun e hee hb => ?_⟩
  ·cases hq:listed.getD m true
   ·rfl
   ·have:=(hli m hms).1 hq;omega
  ·have:=mn he m o (by simpa using ho) e hee hb
   have hlt:e.on<m:=by omega
   have h5:=(hli e.on (by omega)).2 hlt
   rw[Array.getD_eq_getD_getElem?]at h5 ⊢;have:listed[e.on]? = some listed[e.on]:=by simp[show e.on<listed.size by omega]
   rw[this]at h5 ⊢;exact h5
 refine⟨fun hnil=>(by rw[hnil]at hmr;cases hmr),fun i hi => ?_⟩
 have him:i=m:=by
  obtain⟨i1,i2,oi,i3,i4⟩:=zg.1 hi;rcases Nat.lt_trichotomy i m with hlt|heq|hgt
  ·rw[(hli i i1).2 hlt]at i2;cases i2
  ·exact heq
  ·have hw:=q2q ht (show n<i by omega) i3
   obtain⟨e,he1,he2,he3⟩:=q23 hw;have:=i4 e he1 he3;rw[he2]at this;have hf:listed.getD (i-1) true=false:=by
    cases hq:listed.getD (i-1) true
    ·rfl
    ·have:=(hli (i-1) (by omega)).1 hq;omega
   rw[Array.getD_eq_getD_getElem?]at this hf;have h6:listed[i-1]? = some listed[i-1]:=by simp[show i-1<listed.size by omega]
   rw[h6]at this hf;simp only[Option.getD_some]at this hf;rw[this]at hf;cases hf
 subst him;refine q97 (fun a w h => ?_) h
 have:=h (listed.setIfInBounds i true) ⟨by simp[hsz],fun j hj => ?_⟩
 ·rwa [show ops.size-(i+1)=k by omega]at this
 ·rw[Array.getD_eq_getD_getElem?,Array.getElem?_setIfInBounds];by_cases hij:i=j
  ·subst hij;simp[show i<listed.size by omega]
  ·rw[qW hij];have:=hli j hj;rw[Array.getD_eq_getD_getElem?]at this;rw[this];omega
structure Inv(ops:Array Oper)(n:Nat)(L:List Nat)(listed:Array Bool):Prop where
 nodup:L.Nodup
 lt:∀i∈L,i<n
 size:listed.size=ops.size
 iff:∀j,j<ops.size->(listed.getD j true=true↔j∈L)
 closed:∀i∈L,∀o,ops[i]? = some o->∀e∈o.after,Region.binds .any e=true->e.on∈L
def Inv.getD_false{ops:Array Oper}{n:Nat}{L:List Nat}{listed:Array Bool}(h:Inv ops n L listed){j:Nat}(hj:j<ops.size):listed.getD j false=true↔j∈L:=by
 rw[← h.iff j hj,Array.getD_eq_getD_getElem?,Array.getD_eq_getD_getElem?];have hj':j<listed.size:=by rw[h.size];exact hj
 have:listed[j]? = some listed[j]:=by simp[hj']
 rw[this];simp
def q8i{Rs:List HR}(hh:yh s Rs){n:Nat}(ac:Rs.length=n){L:List Nat}(hlt:∀i∈L,i<n)(hall:∀i,i<n->i∈L):(dc Rs L s).eqv (kw Rs s):=by
 have he:=q8f (Rs:=Rs) Rs 0 s (fun k _=>by rw[wO])
 rw[he];have hmem:∀j,j∈(List.range' 0 Rs.length).reverse↔j∈L:=fun j=>by
  rw[List.mem_reverse,List.mem_range'_1,ac];exact⟨fun h=>hall j (by omega),fun h=>⟨by omega,by have:=hlt j h;omega⟩⟩
 refine⟨by rw[(ow Rs _ s).1,(ow Rs _ s).1],by rw[(ow Rs _ s).2,(ow Rs _ s).2],fun d => ?_,fun m => ?_,by rw[qnt,qnt]⟩
 ·by_cases hw:∃j,j∈L/\∃rj:HR,Rs[j]? = some rj/\rj.dst=d
  ·obtain⟨j,hj,rj,hrj,rfl⟩:=hw;rw[qca hh hj hrj,qca hh ((hmem j).2 hj) hrj]
  ·rw[qh5 (fun j hj rj hrj e=>hw ⟨j,hj,rj,hrj,e⟩),qh5 (fun j hj rj hrj e=>hw ⟨j,(hmem j).1 hj,rj,hrj,e⟩)]
 ·cases hq:ae (dc Rs L s).hp m with
  |some b=>exact(qyh hh (fun j hj=>(hmem j).2 hj) hq).symm
  |none=>
   cases hq':ae (dc Rs (List.range' 0 Rs.length).reverse s).hp m with|none=>rfl|some b=>rw[qyh hh (fun j hj=>(hmem j).1 hj) hq']at hq;cases hq
def zdw{ops:Array Oper}{n:Nat}{Rs:List HR}(hn:n<=ops.size)(hed:ml ops.toList 0=true)(hH:∀i o,i<n->ops[i]? = some o->HOk P ops s Rs i o){L:List Nat}
  (hcl:∀i∈L,∀o,ops[i]? = some o->∀e∈o.after,Region.binds .any e=true->e.on∈L):∀(i:Nat)(o:Oper)(r:HR),i<n->ops[i]? = some o->Rs[i]? = some r->(∀e∈o.after,Region.binds .any e=true->e.on∈L)->(∀j∈r.pred,j∈L/\j<i):=by
 intro i
 induction i using Nat.strongRecOn with
 |ind i ih=>
  intro o r hi ho hr hall j hj;obtain⟨r',ps,_,h1,_,_,_,h5,_⟩:=hH i o hi ho;rw[hr]at h1;injection h1 with h1;subst h1
  obtain⟨e,he,hb,hje⟩:=(qjh h5).2 j hj;have hlt:=mn hed i o (by simpa using ho) e (by simpa using he) hb
  have hlt':e.on<i:=by omega
  have heL:=hall e (by simpa using he) hb
  rcases hje with rfl|⟨re,hre,hje⟩
  ·exact⟨heL,hlt'⟩
  ·have hre':Rs[e.on]? = some re:=by rw[List.getElem?_take]at hre;rw[qX hlt']at hre;exact hre
   have hoe:ops[e.on]? = some ops[e.on]:=by simp
   have:=ih e.on hlt' ops[e.on] re (by omega) hoe hre' (hcl e.on heL _ hoe) j hje
   exact⟨this.1,by omega⟩
def zph{ops:Array Oper}{n:Nat}{Rs:List HR}{N:Act->World->Prop}(hn:n<=ops.size)(hed:ml ops.toList 0=true)(ht:mz ops n=true)(ac:Rs.length=n)
  (hH:∀i o,i<n->ops[i]? = some o->HOk P ops s Rs i o) (hh:yh s Rs)
  (htail:∀(G:Gh)(a:Act)(w:World)(listed:Array Bool),aj vj6 vj1 vj3 G (kw Rs s) a w->yq ops n listed->mi P ops N (ops.size-n) listed a w) :
  ∀(g:Nat)(L:List Nat)(listed:Array Bool)(G:Gh)(a:Act)(w:World),ops.size=g+L.length->Inv ops n L listed->aj vj6 vj1 vj3 G (dc Rs L s) a w->mi P ops N g listed a w:=by
 intro g
 induction g with
 |zero=>
  intro L listed G a w hg hinv hr;have h1:=v8 n L hinv.nodup hinv.lt;have hnn:n=ops.size:=by omega
  have hall:∀i,i<n->i∈L:=fun i hi=>by
   by_cases hm:i∈L
   ·exact hm
   ·have:=v8 n (i::L) (List.nodup_cons.2 ⟨hm,hinv.nodup⟩) (fun j hj=>by
     rcases List.mem_cons.1 hj with rfl|hj;· exact hi
     ·exact hinv.lt j hj)
    simp at this;omega
  have:=htail G a w listed (hr.eqv (q8i hh ac hinv.lt hall)) ⟨hinv.size,fun j hj=>by rw[hinv.iff j hj];exact⟨fun h=>hinv.lt j h,fun h=>hall j h⟩⟩
  rwa [hnn,Nat.sub_self]at this
 |succ g ih=>
  intro L listed G a w hg hinv hr;by_cases hall:∀i,i<n->i∈L
  ·have h1:=v8 n L hinv.nodup hinv.lt;have h2:=q0m n L hall;have:=htail G a w listed (hr.eqv (q8i hh ac hinv.lt hall)) ⟨hinv.size,fun j hj=>by rw[hinv.iff j hj];exact⟨fun h=>hinv.lt j h,fun h=>hall j h⟩⟩
   rwa [show ops.size-n=g+1 by omega]at this
  ·
   have hex:∃i,i<n/\i∉L/\∀j,j<i->j∈L:=by
    have:∃i,i<n/\i∉L:=by
     simpa using hall
    obtain⟨i,hi,hm⟩:=this;clear hall
    induction i using Nat.strongRecOn with
    |ind i ih=>
     by_cases hsm:∀j,j<i->j∈L
     ·exact⟨i,hi,hm,hsm⟩
     ·have:∃j,j<i/\j∉L:=by simpa using hsm
      obtain⟨j,hj,hjm⟩:=this;exact ih j hj (by omega) hjm
   obtain⟨i0,hi0,hm0,hsm0⟩:=hex;have hi0s:i0<ops.size:=by omega
   have h0r:i0∈Region.ready .any ops listed:=by
    refine zg.2 ⟨hi0s,?_,ops[i0],by simp,fun e he hb => ?_⟩
    ·cases hq:listed.getD i0 true
     ·rfl
     ·exact absurd ((hinv.iff i0 hi0s).1 hq) hm0
    ·have:=mn hed i0 ops[i0] (by simp) e he hb
     have hlt:e.on<i0:=by omega
     exact(hinv.getD_false (by omega)).2 (hsm0 _ hlt)
   refine⟨fun hnil=>(by rw[hnil]at h0r;cases h0r),fun i hi => ?_⟩
   obtain⟨i1,i2,o,i3,i4⟩:=zg.1 hi;have hiL:i∉L:=fun h=>by rw[(hinv.iff i i1).2 h]at i2;cases i2
   have hin:i<n:=by
    rcases Nat.lt_or_ge i n with h|h
    ·exact h
    ·rcases Nat.lt_or_ge n i with h|h
     ·obtain⟨e,he1,he2,he3⟩:=q23 (q2q ht h i3);have:=i4 e he1 he3;rw[he2,hinv.getD_false (by omega)]at this
      have:=hinv.lt _ this;omega
     ·have:i=n:=by omega
      subst this;exact absurd (zf2 ht i3 hinv.closed (fun e he hb=>by
       have hlt:=mn hed i o (by simpa using i3) e he hb
       exact(hinv.getD_false (by omega)).1 (i4 e he hb)) i0 hi0) hm0
   have hedge:∀e∈o.after,Region.binds .any e=true->e.on∈L:=fun e he hb=>by
    have hlt:=mn hed i o (by simpa using i3) e he hb
    exact(hinv.getD_false (by omega)).1 (i4 e he hb)
   obtain⟨r,ps,c,h1,h2,h3,h4,h5,h6,h7,h8,h9,h10⟩:=hH i o hin i3;have hpred:=zdw hn hed hH hinv.closed i o r hin i3 h1 hedge;have hlen':∀k,k<(Rs.take i).length->Rs[0+k]? = (Rs.take i)[k]? := fun k hk=>by
    rw[List.getElem?_take,qX (by simp at hk;omega),wO]
   have htk:(Rs.take i).length=i:=by simp;omega
   rw[qyl (Rs:=Rs) (Rs.take i) 0 s hlen',htk]at h9
   -- which slots and boxes the operation sees
   have hsel:∀j,j∈((List.range' 0 i).filter (bi r.pred)).reverse↔j∈r.pred:=fun j=>by
    rw[List.mem_reverse,List.mem_filter,fj];constructor
    ·exact fun h=>h.2
    ·intro h;refine⟨?_,h⟩;rw[List.mem_range'_1];exact⟨by omega,by have:=(hpred j h).2;omega⟩
   have hreads:∀d∈jh ops o,ae (dc Rs ((List.range' 0 i).filter (bi r.pred)).reverse s).fr d=ae (dc Rs L s).fr d:=fun d hd=>by
    by_cases hw:∃j rj,Rs[j]? = some rj/\rj.dst=d/\(j∈r.pred\/j∈L)
    ·obtain⟨j,rj,hj,rfl,hjj⟩:=hw;have hjp:j∈r.pred:=by
      rcases hjj with h|h
      ·exact h
      ·
       have hjn:=hinv.lt j h;have hji:j≠i:=fun e=>hiL (e▸h)
       rcases Nat.lt_or_gt_of_ne hji with hlt|hgt
       ·rcases q1z h7 j rj (by rw[List.getElem?_take,qX hlt];exact hj) with h'|h'
        ·simpa using h'
        ·exact absurd hd h'
       ·have hoj:ops[j]? = some ops[j]:=by simp
        obtain⟨rj',psj,cj,k1,k2,_,_,_,_,_,k8,_⟩:=hH j ops[j] hjn hoj;rw[hj]at k1;injection k1 with k1;subst k1
        rcases q26 k8 i o hgt i3 with h'|h'
        ·have:=zdw hn hed hH hinv.closed j ops[j] rj hjn hoj hj (hinv.closed j h _ hoj) i h';exact absurd this.1 hiL
        ·exact absurd hd h'
     rw[qca hh ((hsel j).2 hjp) hj,qca hh (hpred j hjp).1 hj]
    ·rw[qh5 (fun j hj rj hrj e=>hw ⟨j,rj,hrj,e,.inl ((hsel j).1 hj)⟩),qh5 (fun j hj rj hrj e=>hw ⟨j,rj,hrj,e,.inr hj⟩)]
   have hsees:yn o (dc Rs ((List.range' 0 i).filter (bi r.pred)).reverse s) (dc Rs L s):=by
    refine⟨by rw[(ow Rs _ s).2,(ow Rs _ s).2],fun x hx => ?_,fun m b hb=>qyh hh (fun j hj=>(hpred j ((hsel j).1 hj)).1) hb,fun d hd => ?_⟩
    ·cases x with
     |tmp t=>
      exact hreads t (by simp only[jh];refine List.mem_append.2 (.inl ?_);rw[List.mem_filterMap];exact⟨.tmp t,hx,rfl⟩)
     |_=>rfl
    ·rw[h2]at hd;injection hd with hd;subst hd
     rw[(ow Rs _ s).2];exact q8j hh h1 hiL
   have h9':=q84 hsees hreads h9;have hadd:(dc Rs L s).add o.dst r.v r.new=some (dc Rs (i::L) s):=by
    rw[h2];have hbl:Nat.blt r.dst s.n=true:=by simpa using h3
    simp only[St.add,(ow Rs L s).1,hbl,qT,dc,h1,St.addR]
   refine q83 hr i3 h9' h10 hadd (fun G' a' w' hr'=>ih (i::L) _ G' a' w' (by simp;omega) ?_ hr')
   refine⟨List.nodup_cons.2 ⟨hiL,hinv.nodup⟩,fun j hj => ?_,by simp[hinv.size],fun j hj => ?_,fun j hj oj hoj e he hb => ?_⟩
   ·rcases List.mem_cons.1 hj with rfl|hj
    ·exact hin
    ·exact hinv.lt j hj
   ·rw[Array.getD_eq_getD_getElem?,Array.getElem?_setIfInBounds];by_cases hij:i=j
    ·subst hij;simp[hinv.size,i1]
    ·rw[qW hij];have:=hinv.iff j hj;rw[Array.getD_eq_getD_getElem?]at this;rw[this,wE];exact⟨fun h => .inr h,fun h=>h.resolve_left (fun e=>hij e.symm)⟩
   ·rcases List.mem_cons.1 hj with rfl|hj
    ·rw[i3]at hoj;injection hoj with hoj;subst hoj
     exact qE _ (hedge e he hb)
    ·exact qE _ (hinv.closed j hj oj hoj e he hb)
def zn8{ops:Array Oper}{n:Nat}{Rs:List HR}{N:Act->World->Prop}(hn:n<=ops.size)(hed:ml ops.toList 0=true)(ht:mz ops n=true)(hm:P.follows .mixedOrders=true)(ac:Rs.length=n)
  (hH:∀i o,i<n->ops[i]? = some o->HOk P ops s Rs i o)
  (htail:∀(G:Gh)(a:Act)(w:World)(listed:Array Bool),aj vj6 vj1 vj3 G (kw Rs s) a w->yq ops n listed->mi P ops N (ops.size-n) listed a w) {G:Gh} {a:Act} {w:World} (hr:aj vj6 vj1 vj3 G s a w) (id:Nat)
  (b:Frame) (k:List Item) (cs:List Frame) (hk:b.kind = .normal) :
  ∃a' w',N a' w'/\Steps P (lone (b.atR a (.code (.region id ops true)::k)) cs w) (lone (b.atR a' k) cs w'):=by
 have hop:∀i,i<n->ops[i]? = some (ops[i]?.getD default):=fun i hi=>by
  have:i<ops.size:=by omega
  simp[this]
 have hh:yh s Rs:=by
  refine⟨fun i j r r' hi hj hd => ?_,fun i r hi => ?_,fun i r hi => ?_⟩
  ·have hi':i<n:=by have:=(List.getElem?_eq_some_iff.1 hi).1;omega
   have hj':j<n:=by have:=(List.getElem?_eq_some_iff.1 hj).1;omega
   obtain⟨ri,_,_,k1,_,_,_,_,k6,_⟩:=hH i _ hi' (hop i hi');obtain⟨rj,_,_,l1,_,_,_,_,l6,_⟩:=hH j _ hj' (hop j hj');rw[hi]at k1;injection k1 with k1;subst k1
   rw[hj]at l1;injection l1 with l1;subst l1
   rcases Nat.lt_trichotomy i j with hlt|heq|hgt
   ·exact absurd hd (vk.1 l6 r (List.mem_of_getElem? (i:=i) (by rw[List.getElem?_take,qX hlt];exact hi)))
   ·exact heq
   ·exact absurd hd.symm (vk.1 k6 r' (List.mem_of_getElem? (i:=j) (by rw[List.getElem?_take,qX hgt];exact hj)))
  ·have hi':i<n:=by have:=(List.getElem?_eq_some_iff.1 hi).1;omega
   obtain⟨ri,ps,_,k1,k2,_,_,_,_,_,_,k9,_⟩:=hH i _ hi' (hop i hi');rw[hi]at k1;injection k1 with k1;subst k1
   have:=q82 k2 k9;have hlen':∀k,k<(Rs.take i).length->Rs[0+k]? = (Rs.take i)[k]? := fun k hk=>by
    rw[List.getElem?_take,qX (by simp at hk;omega),wO]
   rw[qyl (Rs:=Rs) (Rs.take i) 0 s hlen',(ow Rs _ s).2]at this;exact this
  ·have hi':i<n:=by have:=(List.getElem?_eq_some_iff.1 hi).1;omega
   obtain⟨ri,_,_,k1,_,_,k4,_⟩:=hH i _ hi' (hop i hi');rw[hi]at k1;injection k1 with k1;subst k1
   exact k4
 refine q98 hm ?_ b k cs hk;refine zph (vj6:=vj6) (vj1:=vj1) (vj3:=vj3) (N:=N) hn hed ht ac hH hh htail ops.size [] _ G a _ (by simp) ?_ ?_
 ·refine⟨List.nodup_nil,fun i hi=>(by cases hi),by simp,fun j hj => ?_,fun i hi=>(by cases hi)⟩
  rw[Array.getD_eq_getD_getElem?];simp[hj]
 ·exact⟨hr.defers,hr.size,hr.frame,hr.fresh,⟨⟨hr.fin.mem.agree,hr.fin.mem.one,hr.fin.mem.holds,hr.fin.mem.apart,hr.fin.mem.tab⟩,⟨hr.fin.bel.os,hr.fin.bel.tape,hr.fin.bel.output,hr.fin.bel.size,hr.fin.bel.block⟩,hr.fin.imm_le,hr.fin.imm_new,hr.fin.base,hr.fin.keep,hr.fin.keepOwn⟩⟩
end
end Go.Sym
