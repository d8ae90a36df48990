/- What the claim rests on, part 3: gathered texts. -/
import Derived.RangeFuncRecord
import Derived.Lib.ItoaNum
import Derived.Lib.Index
import Derived.Lib.AtoiAll
import Derived.Shelf.SlSortCmp.Insertion
import Derived.Lib.Replace
import Derived.Lib.Repeat
import Derived.Lib.MapLaws
import Derived.Lib.ValidLaws
import Derived.Lib.Join
import Derived.Lib.FieldsP
import Derived.Lib.TrimUEq
import Derived.Lib.SlicesCompact
import Derived.Lib.BytesEntry
import Derived.Laws.Externs
import Derived.Lib.Bytealg
import Derived.WalkKit
import Derived.ProofKit
import Derived.OpenShut
import Derived.ShutString
import Derived.ChangeOld
import Derived.Carry
import Derived.Handed
import Derived.Deep.DeepHandedRow
import Derived.LaidMore
import Derived.Lay
import Derived.LaidHandle
import Derived.MakeChecks
import Derived.LaidLaws
import Derived.Test.YtekaipjfmlnggaaGreatDoorSyO2
set_option linter.defProp false
set_option linter.unusedSimpArgs false
set_option linter.unusedVariables false
namespace Go.Sym
open Go.RowKit
variable{TT:List PanicEntry->Act->World->Prop}[LC]
mutual
def Dz:AV->List Nat|.ptr b _=>[b]|.own k=>[k]|.oel k _ _ _=>[k]|.osl k _ _=>[k]|.iface _ x=>Dz x|.agg xs=>gE xs|.fn _ fs xs=>gE fs++gE xs|_=>[]
def gE:List AV->List Nat|[]=>[]|x::xs=>Dz x++gE xs
end
def A3(s:St):List Nat->List Nat
 |[]=>[]| k::ks=>(match af s.hp k with
  |some (.cells cs _)=>gE cs| _=>[])++A3 s ks
def qqw(lo:Nat):List Nat:=[lo,lo+1,lo+2,lo+3,lo+4,lo+5,lo+6,lo+7,lo+8,lo+9,lo+10,lo+11,lo+12,lo+13,lo+14,lo+15]
def qw(s:St)(l:List Oper):Nat->Operand->List Nat
 |0,_=>[]|n+1,x=>match x with
  |.tmp t=>match l.find? (fun o=>match o.dst with|some d=>Nat.beq d t|none=>false) with
   |some o=>match o.op with|.move y=>qw s l n y|.assign y=>qw s l n y|.fieldAddr _ y _=>qw s l n y|.indexAddr _ y _=>qw s l n y|.nilCheck y=>qw s l n y|.load _ y=>A3 s (qw s l n y)|.alloc _=>[s.nx+32*t]|.box _ _=>[s.nx+32*t]|.buildSlice _ _ _=>[s.nx+32*t]|.call { callee := .builtin .append,args:=_,argTypes:=_ }=>[s.nx+32*t]|.call _=>qqw (s.nx+32*t)|_=>[]
   |none=>match s.ev x with|some v=>Dz v|none=>[]
  |x=>match s.ev x with|some v=>Dz v|none=>[]
def mH(s:St)(l:List Oper):List Operand->List Nat|[]=>[]|x::xs=>qw s l 8 x++mH s l xs
def Si(f:FuncId):List dc->Bool|[]=>false|e::es=>((ww f e.key||zN f e.key) && !(match e.hp with|[]=>true|_=>false))||Si f es
def qjy(a:Tb)(s:St)(l:List Oper)(o:Oper):List Nat:=match o.guard with
 |some _=>[]|none=>match o.op with
  |.store _ x _=>qw s l 8 x|.call { callee := .builtin .append,args,argTypes:=_ }=>match args.toList with|x::_=>qw s l 8 x|[]=>[]
  |.call { callee := .value g,args,argTypes:=_ }=>match s.ev g with|some (.fn (.func f) fst cap)=>bif Si f a.ents then(mH s l args.toList++gE (fst++cap))++A3 s (mH s l args.toList++gE (fst++cap)) else[]|some _=>[]|none=>(mH s l args.toList++qw s l 8 g)++A3 s (mH s l args.toList++qw s l 8 g)
  |_=>[]
def Lt(s:St)(l:List Oper):Nat->Operand->List Nat
 |0,_=>[]|n+1,x=>match x with
  |.tmp t=>match l.find? (fun o=>match o.dst with|some d=>Nat.beq d t|none=>false) with
   |some o=>match o.op with|.move y=>Lt s l n y|.assign y=>Lt s l n y|.load _ y=>A3 s (qw s l n y)|.build _ parts=>mH s l (parts.toList.map (·.2))|_=>[]
   |none=>match s.ev x with|some (.agg xs)=>hP xs|_=>[]
  |_=>[]
def Lu(s:St)(l:List Oper):List Operand->List Nat|[]=>[]|x::xs=>Lt s l 8 x++Lu s l xs
def LK(s:St)(a:List Oper):List Oper->List Nat
 |[]=>[]| o::l=>(match o.op with
  |.call { callee := .value g,args,argTypes:=_ }=>match s.ev g with|some (.fn (.func _) _ _)=>Lu s a args.toList|_=>[]
  |.buildSlice _ _ parts=>Lu s a (parts.toList.map (·.2))| _=>[])++LK s a l
def Rl:List Oper->List HR->List (List Nat)
 |[],_=>[]|o::l,Rs=>match pc Rs o.after.toList with|some p=>p::Rl l (Rs++[⟨0,.undef,[],p⟩])|none=>[]
def JX(b:Tb)(s:St)(a:List Oper):List Oper->List (List Nat)->Nat->List (Nat×List Nat×List Nat)
 |o::l,p::ps,i=>match qjy b s a o with|[]=>JX b s a l ps (i+1)|K=>(i,K,p)::JX b s a l ps (i+1)
 |_,_,_=>[]
def yW(i:Nat):List (Nat×List Nat×List Nat)->Option (List Nat×List Nat)|[]=>none|(m,r)::l=>bif Nat.beq m i then some r else yW i l
def dI(l a:List Nat):Bool:=match l with|[]=>true|x::xs=>cg a x&&dI xs a
def dH(a:List Nat):List (Nat×Md)->Bool|[]=>true|(m,_)::r=>cg a m&&dH a r
def Ex(s:St)(Rs:List HR)(k:Nat):List Nat->Bool
 |[]=>false| c::cs=>(match Rs[c]? with
  |some r=>Nat.ble (s.nx+32*r.dst) k&&Nat.blt k (s.nx+32*r.dst+32)| none=>false)||Ex s Rs k cs
def cY(s:St)(Rs:List HR)(a:List Nat)(dst:Nat)(K:List Nat):List (Nat×ag)->Bool|[]=>true|e::r=>((Nat.ble (s.nx+32*dst) e.1&&Nat.blt e.1 (s.nx+32*dst+32))||(cg K e.1&&((match af s.hp e.1 with|some _=>true|none=>false)||Ex s Rs e.1 a)))&&cY s Rs a dst K r
def cZ(dst:Nat):List (Nat×AV)->Bool|[]=>true|e::r=>Nat.beq e.1 dst&&cZ dst r
def E5(a:List (Nat×Md))(j:Nat):Bool:=match af a j with|some _=>false|none=>true
def cD(a:List (Nat×Md)):List Nat->List Nat|[]=>[]|x::xs=>bif E5 a x then x::cD a xs else cD a xs
def dy(s:St)(i:Nat):Option Tmp->Nat|some t=>t|none=>s.n+i
def mZ(s:St):Option Tmp->Bool|some t=>Nat.blt t s.n|none=>true
def Dp(j:Nat):List Edge->Bool|[]=>false|e::es=>(Region.binds .any e&&Nat.ble j e.on)||Dp j es
def nQ(j:Nat):List Oper->Bool|[]=>true|o::l=>Dp j o.after.toList&&nQ j l
def DP:List HR->List Nat|[]=>[]|r::rs=>r.dst::DP rs
def zU:List (Nat×ag)->List Nat|[]=>[]|(n,_)::r=>n::zU r
def Lo:List HR->List Nat|[]=>[]|r::rs=>zU r.new++Lo rs
def Lp:List (Nat×Md)->List Nat|[]=>[]|(_,m)::r=>zU m.h++Lp r
def zD(K:List Nat):List (Nat×AV)->List (Nat×AV)|[]=>[]|(n,b)::r=>bif cg K n then zD K r else(n,b)::zD K r
def DJ:List Nat->List (Nat×ag)|[]=>[]|n::r=>(n,.dead)::DJ r
def qcf(s:St)(Rs:List HR)(a:List (Nat×Md))(b:Md):St:={ s with fr:=zD (DP Rs) s.fr,hp:=DJ (zU b.h++(Lp a++Lo Rs))++s.hp }
def Mo(P:Program)(s t:St)(K:List Nat)(o:Oper):Option (Tmp×TypeId×Nat×Nat×Nat):=match o.guard,o.op,o.dst with
 |none,.load T x,some d=>match t.ev x with
  | some (.ptr b off)=>bif cg K b then(match af s.hp b with
   |some (.cells cs _)=>match l8 P T cs off with|some (.own k)=>some (d,T,b,off,k)|_=>none
   | _=>none) else none
  |_=>none
 |_,_,_=>none
def oD(P:Program)(T:TypeId)(b a k:Nat):List (Nat×Md)->Bool
 |[]=>true| (_,md)::r=>(match af md.h b with
  |none=>true| some (.cells cs _)=>(match l8 P T cs a with
   |some (.own k')=>Nat.beq k k'| _=>false)
  | some _=>false)&&oD P T b a k r
def cO{R:Type}(P:Program)(c:Tb)(ops:Array Oper)(E:AV->St->Option R)(s:St)(Cs:List (Nat×List Nat×List Nat))(a:List (Nat×Md)->List HR->List (Nat×Bool)->Option R):List Oper->Nat->List HR->List (Nat×Bool)->List (Nat×Md)->Option R
 |[],_,Rs,kn,Ms=>a Ms Rs kn|o::l,i,Rs,kn,Ms=>match pc Rs o.after.toList with
  |none=>none|some pred=>bif mZ s o.dst&&bq (s.nx+32*dy s i o.dst) s.hp&&rh (dy s i o.dst) Rs&&uq pred (lv ops o) Rs 0&&vc ops (dy s i o.dst) pred i then
    match yW i Cs,o.guard with
    |some (K,Pm),none=>match y6 P c ((ff Ms pred Rs 0 s).hide (iv Cs pred i)) o.op with
     |some q=>q.K fun d=>match gq P ((ff Ms pred Rs 0 s).hide (iv Cs pred i)) d o,o.dst with
      |some (_,v,new),some tt=>cO P c ops E s Cs a l (i+1) (Rs++[⟨tt,v,new,pred⟩]) kn Ms|_,_=>match gY P ((ff Ms pred Rs 0 s).hide (iv Cs pred i)) d o with
       |some (_,md)=>bif cY s Rs pred (dy s i o.dst) K md.h&&cZ (dy s i o.dst) md.f&&dI Pm pred&&dH pred Ms then
         cO P c ops E s Cs a l (i+1) (Rs++[⟨dy s i o.dst,.undef,[],pred⟩]) kn ((i,md)::Ms) else none
       |none=>none
     |none=>match iM c ((ff Ms pred Rs 0 s).hide (iv Cs pred i)) o with
      |some q=>q.1.K fun d=>match d with
       |.mem N xs hp r hp'=>match zl ((ff Ms pred Rs 0 s).hide (iv Cs pred i)) True q.2.1 N xs hp r hp' q.2.2 with
        |some (_,md)=>match n9 r with
         |none=>bif cY s Rs pred (dy s i o.dst) K md.h&&cZ (dy s i o.dst) md.f&&dI Pm pred&&dH pred Ms then
           cO P c ops E s Cs a l (i+1) (Rs++[⟨dy s i o.dst,.undef,[],pred⟩]) kn ((i,md)::Ms) else none
         |some (t,n)=>bif nQ i (ops.toList.drop (i+1)) then E (f8 t n) (qcf s (Rs++[⟨dy s i o.dst,.undef,[],pred⟩]) Ms md) else none
        |none=>none
       |_=>none
      |none=>none
    |_,_=>match Mo P s ((ff Ms pred Rs 0 s).hide (iv Cs pred i)) (iv Cs pred i) o with
     |some (d,T,b,off,k)=>cO P c ops (fun _ _=>none) s Cs (fun Ms' f e=>bif oD P T b off k Ms' then a Ms' f e else none) l (i+1) (Rs++[⟨d,.own k,[],pred⟩]) kn Ms
     |none=>match o.dst with
      |some d=>EA P c ops ((ff Ms pred Rs 0 s).hide (iv Cs pred i)) (cD Ms pred) Rs kn o fun v new e=>cO P c ops E s Cs a l (i+1) (Rs++[⟨d,v,new,pred⟩]) e Ms
      |none=>none
   else none
def Kp{R:Type}(P:Program)(c:Tb)(ops:Array Oper)(E:AV->St->Option R)(s:St)(Cs:List (Nat×List Nat×List Nat))(K:St->Option R):Option R:=
 bif nz ops.toList 0&&qh ops (lm ops)&&Nat.ble (lm ops) ops.toList.length then
  cO P c ops E s Cs (fun d a b=>hK P c ops E (ops.toList.drop (lm ops)) (cW a b b (ff d (List.range (lm ops)) a 0 s)) K) (ops.toList.take (lm ops)) 0 [] [] []
 else none
def Ks{R:Type}(P:Program)(a:Tb)(ops:Array Oper)(E:AV->St->Option R)(s:St)(K:St->Option R):Option R:=
 match JX a s (ops.toList.take (lm ops)) (ops.toList.take (lm ops)) (Rl (ops.toList.take (lm ops)) []) 0 with|[]=>Kq P a ops E s K|Cs=>Kp P a ops E s Cs K
def Kr{R:Type}(P:Program)(a:Tb)(ops:Array Oper)(E:AV->St->Option R)(s:St)(K:St->Option R):Option R:=
 Ks P a ops E (frzL (LK s (ops.toList.take (lm ops)) (ops.toList.take (lm ops))) s) K
section
variable{P:Program}{q72:World}{q7w:Gh}{q7z:List (Nat×ag)}{G:Gh}{a:Act}{w:World}{R:Type}{tb:Tb}{s:St}{E:AV->St->Option R}
def Sz{b:List (Nat×Md)}{j:Nat}:E5 b j=true↔af b j=none:=by
 unfold E5;cases af b j<;>simp
def Ey{d:List (Nat×Md)}{j:Nat}:∀{l:List Nat},j∈cD d l↔j∈l/\af d j=none
 |[]=>by simp[cD]|x::xs=>by
  simp[cD];cases f:E5 d x
  ·simp only[qF,Ey (l:=xs),wE];refine⟨fun h=>⟨.inr h.1,h.2⟩,fun⟨b,c⟩=>⟨b.resolve_left (fun e => ?_),c⟩⟩
   subst e;rw[Sz.2 c]at f;cases f
  ·have:=Sz.1 f;simp[qT,wE,Ey (l:=xs)];refine⟨fun h => ?_,fun⟨b,c⟩ => ?_⟩
   ·rcases h with rfl|h
    ·exact⟨.inl rfl,this⟩
    ·exact⟨.inr h.1,h.2⟩
   ·rcases b with b|b
    ·exact .inl b
    ·exact .inr ⟨b,c⟩
def QW{i:Nat}{r:List Nat×List Nat}:∀{l:List (Nat×List Nat×List Nat)},yW i l=some r->(i,r)∈l
 |[],h=>by cases h
 |(m,r')::l,h=>by
  simp[yW]at h;cases b:Nat.beq m i<;>rw[b]at h<;>simp only[qT,qF]at h
  ·exact qE _ (QW h)
  ·simp only[qI]at h;subst h;rw[qN b];exact qH
def qbz{b:List Nat}:∀{l:List Nat},dI l b=true->∀j∈l,j∈b
 |[],_,j,h=>by cases h
 |x::xs,h,j,hj=>by
  simp[dI,qA]at h;rcases List.mem_cons.1 hj with rfl|hj
  ·exact gu.1 h.1
  ·exact qbz h.2 j hj
def qby{b:List Nat}:∀{c:List (Nat×Md)},dH b c=true->∀j,af c j≠none->j∈b
 |[],_,j,h=>absurd rfl h|(m,md)::r,h,j,hj=>by
  simp[dH,qA]at h;simp[af]at hj;cases d:Nat.beq m j<;>rw[d]at hj<;>simp at hj
  ·exact qby h.2 j hj
  ·rw[← qN d];exact gu.1 h.1
def Sb{Rs:List HR}{k:Nat}:∀{cs:List Nat},Ex s Rs k cs=true->∃c b,c∈cs/\Rs[c]? = some b/\o6 (s.nx+32*b.dst) k
 |[],h=>by cases h
 |c::cs,h=>by
  simp[Ex,Bool.or_eq_true]at h;rcases h with h|h
  ·split at h
   ·rename_i r g;simp only[qA,Nat.blt_eq]at h;exact⟨c,r,qH,g,Nat.le_of_ble_eq_true h.1,h.2⟩
   ·cases h
  ·obtain⟨d,b,e,f⟩:=Sb h;exact⟨d,b,qE _ e,f⟩
def Sd{Rs:List HR}{d:List Nat}{dst:Nat}{K:List Nat}:∀{l:List (Nat×ag)},cY s Rs d dst K l=true->∀e∈l,o6 (s.nx+32*dst) e.1\/(e.1∈K/\((∃b,af s.hp e.1=some b)\/∃c i,c∈d/\Rs[c]? = some i/\o6 (s.nx+32*i.dst) e.1))
 |[],_,e,he=>by cases he
 |x::r,h,e,he=>by
  simp only[cY,qA,Bool.or_eq_true]at h;rcases List.mem_cons.1 he with rfl|he
  ·rcases h.1 with g|⟨g,f⟩
   ·simp only[Nat.blt_eq]at g;exact .inl ⟨Nat.le_of_ble_eq_true g.1,g.2⟩
   ·refine .inr ⟨gu.1 g,?_⟩;rcases f with f|f
    ·cases j:af s.hp e.1 with
     |none=>rw[j]at f;cases f
     |some b=>exact .inl ⟨b,rfl⟩
    ·exact .inr (Sb f)
  ·exact Sd h.2 e he
def Se{dst:Nat}:∀{l:List (Nat×AV)},cZ dst l=true->∀e∈l,e.1=dst
 |[],_,e,he=>by cases he
 |x::r,h,e,he=>by
  simp only[cZ,qA]at h;rcases List.mem_cons.1 he with rfl|he
  ·exact qN h.1
  ·exact Se h.2 e he
def J3{b Ms':List (Nat×Md)}{sel:List Nat}:∀(rs:List HR)(j:Nat)(t:St),(∀k,k<j+rs.length->af b k=af Ms' k)->ff b sel rs j t=ff Ms' sel rs j t
 |[],_,_,_=>rfl|r::rs,j,t,h=>by
  simp[ff];rw[h j Te,J3 rs (j+1) _ (fun k c=>h k Td)]
def Pw{c:List (Nat×Md)}{sel:List Nat}{d:Nat}:∀{rs:List HR}{j:Nat}{t:St},(∀(k:Nat)(r:HR),rs[k]? = some r->(af c (j+k)=none->r.dst≠d)/\∀b,af c (j+k)=some b->∀e∈b.f,e.1≠d)->af (ff c sel rs j t).fr d=af t.fr d
 |[],_,_,_=>rfl|r::rs,j,t,h=>by
  simp[ff];rw[Pw (fun k q i=>by have:=h (k+1) q (by simpa using i);rwa [show j+(k+1)=j+1+k by omega]at this)]
  cases cg sel j
  ·rfl
  ·simp;have f:=h 0 r Te
   rw[Nat.add_zero]at f
   cases n:af c j with
   |none=>
    simp[St.addR,af];cases g:Nat.beq r.dst d
    ·rfl
    ·exact absurd (qN g) (f.1 n)
   |some b=>
    simp[St.addM];rw[zO]
    cases g:af b.f d with
    |none=>rfl|some v=>
     obtain⟨e,o,p⟩:=qb (l:=b.f) (m:=d) (by rw[g];simp)
     exact absurd p (f.2 b n e o)
def J4{d:List (Nat×Md)}{sel:List Nat}:∀{rs:List HR}{j k:Nat}{t:St}{r:HR},rs[k]? = some r->cg sel (j+k)=true->af d (j+k)=none ->
  (∀(k':Nat)(c:HR),k<k'->rs[k']? = some c->c.dst≠r.dst/\∀f,af d (j+k')=some f->∀e∈f.f,e.1≠r.dst)->af (ff d sel rs j t).fr r.dst=some r.v
 |[],_,_,_,_,h,_,_,_=>by simp at h|r0::rs,j,0,t,r,h,hm,hn,hd=>by
  simp at h;subst h;simp[ff];rw[Pw (fun k c b=>by
   have:=hd (k+1) c Ta (by simpa using b)
   rw[show j+(k+1)=j+1+k by omega]at this
   exact⟨fun _=>this.1,this.2⟩)]
  rw[Nat.add_zero]at hm hn;rw[hm,hn];simp[St.addR,af]
 |r0::rs,j,k+1,t,r,h,hm,hn,hd=>by
  simp[ff];rw[show j+(k+1)=j+1+k by omega]at hm hn
  exact J4 (k:=k) (by simpa using h) hm hn (fun k' c g b=>by
   have:=hd (k'+1) c Ta (by simpa using b)
   rwa [show j+(k'+1)=j+1+k' by omega]at this)
def bR(P:Program)(ops:Array Oper)(s:St)(Rs:List HR)(d:List (Nat×Md))(Cs:List (Nat×List Nat×List Nat))(U:List (Nat×TypeId×Nat×Nat))(i:Nat)(o:Oper)(r:HR):Prop:=
 (af d i=none/\o.dst=some r.dst/\r.dst<s.n/\∃g,∃c:xw,mq P ops (iy s Rs d Cs i r) c o=some (g,r.v,r.new)/\ay g) \/
 (∃f,af d i=some f/\o.guard=none/\(∀t,o.dst=some t->t=r.dst/\t<s.n)/\pS P o (iy s Rs d Cs i r) f) \/
 (∃b T e k,IV P s Rs d Cs i o r b T e k/\(b,T,e,k)∈U)
structure HX(P:Program)(ops:Array Oper)(s:St)(Cs:List (Nat×List Nat×List Nat))(U:List (Nat×TypeId×Nat×Nat))(i:Nat)(Rs:List HR)(Ms:List (Nat×Md)):Prop where
 len:Rs.length=i
 all:∀j o,j<i->ops[j]? = some o->∃r,ou ops s Rs Ms Cs j o r/\bR P ops s Rs Ms Cs U j o r
 lt:∀j,af Ms j≠none->j<i
 und:∀(j:Nat)(r:HR)(md:Md),Rs[j]? = some r->af Ms j=some md->r.v = .undef
def HX.more{ops:Array Oper}{Cs:List (Nat×List Nat×List Nat)}{i:Nat}{Rs:List HR}{l Ms':List (Nat×Md)}{r0:HR}{U:List (Nat×TypeId×Nat×Nat)}(I:HX P ops s Cs U i Rs l)(f:∀j,j<i->af Ms' j=af l j){j:Nat}{o:Oper}{r:HR}(d:j<i)
  (g:ou ops s Rs l Cs j o r) (st:bR P ops s Rs l Cs U j o r):ou ops s (Rs++[r0]) Ms' Cs j o r/\bR P ops s (Rs++[r0]) Ms' Cs U j o r:=by
 have W:=I.len;have t:∀k,k<i->(Rs++[r0])[k]? = Rs[k]? := fun k u=>List.getElem?_append_left Ta
 have v:(Rs++[r0]).take j=Rs.take j:=by rw[List.take_append_of_le_length Ta]
 have J:gm (Rs++[r0]) Ms' j=gm Rs l j:=by unfold gm;rw[f j d,t j d]
 have K:ez (Rs++[r0]) Ms' j=ez Rs l j:=by unfold ez;rw[f j d,t j d]
 have z:iy s (Rs++[r0]) Ms' Cs j r=iy s Rs l Cs j r:=by
  unfold iy;rw[v,J3 (Rs.take j) 0 s (fun k u=>f k (by simp at u;omega))]
 refine⟨⟨by rw[t j d];exact g.get,g.room,by rw[v];exact g.pred,by rw[v];exact g.fresh,by rw[v];exact g.reads,g.writes,by rw[J];exact g.f,fun e B => ?_⟩,?_⟩
 ·rw[K]at B;rcases g.h e B with h|⟨C,F,x,H⟩
  ·exact .inl h
  ·refine .inr ⟨by rw[f j d];exact C,F,?_,fun k u y=>H k u (by rw[← f k Ta];exact y)⟩
   rcases x with x|⟨c,M,c1,c2,c3⟩
   ·exact .inl x
   ·have:c<i:=by have:=(List.getElem?_eq_some_iff.1 c2).1;omega
    exact .inr ⟨c,M,c1,by rw[t c this];exact c2,c3⟩
 ·rcases st with⟨m,n,p,q⟩|⟨L,m,n,p,q⟩|⟨b,T,A,k,⟨m,n,p,q,N,O,Q,S⟩,V⟩
  ·exact .inl ⟨by rw[f j d];exact m,n,p,by rw[z];exact q⟩
  ·exact .inr (.inl ⟨L,by rw[f j d];exact m,n,p,by rw[z];exact q⟩)
  ·exact .inr (.inr ⟨b,T,A,k,⟨by rw[f j d];exact m,n,p,q,N,O,by rw[z];exact Q,S⟩,V⟩)
def QE{ops:Array Oper}{Cs:List (Nat×List Nat×List Nat)}{i:Nat}{Rs:List HR}{l:List (Nat×Md)}(z:i<=ops.size)(y:Rs.length=i)(b:∀j o,j<i->ops[j]? = some o->∃r,ou ops s Rs l Cs j o r):∀(k k':Nat)(r h:HR),k<k'->Rs[k]? = some r->Rs[k']? = some h->h.dst≠r.dst/\∀g,af l k'=some g->∀e∈g.f,e.1≠r.dst:=fun k k' r h v t q=>by
 have m:k'<i:=by have:=(List.getElem?_eq_some_iff.1 q).1;omega
 obtain⟨x,d⟩:∃o,ops[k']? = some o:=⟨ops[k'],by simp[show k'<ops.size by omega]⟩
 obtain⟨A,p⟩:=b k' _ m d;have f:=p.get;rw[q]at f;injection f with f;subst f
 have c:h.dst≠r.dst:=fun e=>cM.1 p.fresh r (List.mem_of_getElem? (i:=k) (by rw[List.getElem?_take,qX v];exact t)) e.symm
 refine⟨c,fun g n e u => ?_⟩
 have:gm Rs l k'=g.f:=by unfold gm;rw[n]
 rw[p.f e (by rw[this];exact u)];exact c
def HX.dis{ops:Array Oper}{Cs:List (Nat×List Nat×List Nat)}{i:Nat}{Rs:List HR}{b:List (Nat×Md)}{U:List (Nat×TypeId×Nat×Nat)}(l:i<=ops.size)(c:HX P ops s Cs U i Rs b):∀(k k':Nat)(r f:HR),k<k'->Rs[k]? = some r->Rs[k']? = some f->f.dst≠r.dst/\∀d,af b k'=some d->∀e∈d.f,e.1≠r.dst:=
 QE l c.len (fun j o g h=>by obtain⟨r,m,_⟩:=c.all j o g h;exact⟨r,m⟩)
structure CU(P:Program)(ops:Array Oper)(s:St)(Cs:List (Nat×List Nat×List Nat))(U:List (Nat×TypeId×Nat×Nat))(i:Nat)(Rs:List HR)(Ms:List (Nat×Md)):Prop where
 len:Rs.length=i
 all:∀j o,j<i->ops[j]? = some o->∃r,ou ops s Rs Ms Cs j o r/\(lS P ops s Rs Ms Cs j o r\/∃b T off k,IV P s Rs Ms Cs j o r b T off k/\(b,T,off,k)∈U)
 lt:∀j,af Ms j≠none->j<i
 und:∀(j:Nat)(r:HR)(md:Md),Rs[j]? = some r->af Ms j=some md->r.v = .undef
def HX.out{ops:Array Oper}{Cs:List (Nat×List Nat×List Nat)}{i:Nat}{Rs:List HR}{c:List (Nat×Md)}{U:List (Nat×TypeId×Nat×Nat)}(b:HX P ops s Cs U i Rs c):CU P ops s Cs U i Rs c:=
 ⟨b.len,fun j o d e=>by
  obtain⟨r,f,g⟩:=b.all j o d e;refine⟨r,f,?_⟩;rcases g with h|h|h
  ·exact .inl (.inl h)
  ·exact .inl (.inr (.inl h))
  ·exact .inr h,b.lt,b.und⟩
def PC{j:Nat}:∀{b:List Edge},Dp j b=true->∃e∈b,Region.binds .any e=true/\j<=e.on
 |[],h=>by cases h
 |e::b,h=>by
  simp only[Dp,Bool.or_eq_true,qA]at h;rcases h with⟨c,d⟩|h
  ·exact⟨e,qH,c,Nat.le_of_ble_eq_true d⟩
  ·obtain⟨f,c,d⟩:=PC h;exact⟨f,qE _ c,d⟩
def RI{j:Nat}:∀{l:List Oper},nQ j l=true->∀o∈l,∃e∈o.after,Region.binds .any e=true/\j<=e.on
 |[],_,o,h=>by cases h
 |o::l,h,o',h'=>by
  simp only[nQ,qA]at h;rcases List.mem_cons.1 h' with rfl|h'
  ·obtain⟨e,b,c⟩:=PC h.1;exact⟨e,by simpa using b,c⟩
  ·exact RI h.2 o' h'
def Lh{r:HR}:∀{Rs:List HR},r∈Rs->r.dst∈DP Rs
 |x::rs,h=>by
  rcases List.mem_cons.1 h with rfl|h
  ·exact qH
  ·exact qE _ (Lh h)
def E3{e:Nat×ag}:∀{l:List (Nat×ag)},e∈l->e.1∈zU l
 |x::rs,h=>by
  rcases List.mem_cons.1 h with rfl|h
  ·exact qH
  ·exact qE _ (E3 h)
def Sl{r:HR}{e:Nat×ag}(b:e∈r.new):∀{Rs:List HR},r∈Rs->e.1∈Lo Rs
 |x::rs,h=>by
  rcases List.mem_cons.1 h with rfl|h
  ·exact List.mem_append.2 (.inl (E3 b))
  ·exact List.mem_append.2 (.inr (Sl b h))
def Sm{k:Nat}{m:Md}{e:Nat×ag}(c:e∈m.h):∀{b:List (Nat×Md)},af b k=some m->e.1∈Lp b
 |(j,x)::rs,h=>by
  simp only[af]at h;cases d:Nat.beq j k<;>rw[d]at h
  ·exact List.mem_append.2 (.inr (Sm c h))
  ·simp only[qT,qI]at h;subst h;exact List.mem_append.2 (.inl (E3 c))
def Le{K:List Nat}:∀{l:List (Nat×AV)}{n:Nat}{b:AV},af (zD K l) n=some b->af l n=some b/\n∉K
 |[],n,b,h=>by cases h
 |(k,v)::r,n,b,h=>by
  simp[zD]at h;cases d:cg K k<;>rw[d]at h<;>simp at h
  ·simp[af]at h ⊢;cases c:Nat.beq k n<;>rw[c]at h<;>simp at h ⊢
   ·exact Le h
   ·refine⟨h,fun f => ?_⟩
    rw[← qN c]at f;rw[gu.2 f]at d;cases d
  ·obtain⟨g,e⟩:=Le h;refine⟨?_,e⟩;simp[af];cases c:Nat.beq k n
   ·exact g
   ·exfalso;apply e;rw[← qN c];exact gu.1 d
def RR{hp:List (Nat×ag)}:∀{l:List Nat}{i:Nat}{x:ag},af (DJ l++hp) i=some x->x = .dead\/(af hp i=some x/\i∉l)
 |[],i,x,h => .inr ⟨h,fun h=>by cases h⟩
 |n::r,i,x,h=>by
  simp only[DJ,wK,af]at h;cases c:Nat.beq n i<;>rw[c]at h
  ·rcases RR h with h|⟨d,f⟩
   ·exact .inl h
   ·refine .inr ⟨d,fun b => ?_⟩
    rcases List.mem_cons.1 b with e|b
    ·subst e;simp at c
    ·exact f b
  ·simp only[qT,qI]at h;exact .inl h.symm
def qtq{Rs:List HR}{c:List (Nat×Md)}{g:Md}{L:List Nat}(t:∀k∈L,∀e∈gm Rs c k,e.1∈DP Rs){G:Gh}{a:Act}{w:World}(y:aj q72 q7w q7z G { gn Rs c L s with hp:=g.h++(gn Rs c L s).hp } a w):ji q72 q7w q7z G (qcf s Rs c g) a w:=by
 refine y.lt.less rfl (fun i x p => ?_) (fun i x p => ?_)
 ·obtain⟨j,f⟩:=Le p;show af (gy (gm Rs c) L s.fr) i=some x;rw[mL (fun k q => ?_)]
  ·exact j
  ·cases h:af (gm Rs c k) i with
   |none=>rfl|some v=>
    obtain⟨e,d,b⟩:=qb (l:=gm Rs c k) (m:=i) (by rw[h];simp)
    exact absurd (b▸t k q e d) f
 ·rcases RR p with h0|⟨j,f⟩
  ·exact .inl h0
  simp only[wA,not_or]at f;right;show af (g.h++gy (ez Rs c) L s.hp) i=some x;rw[zO];have u:af g.h i=none:=by
   cases h:af g.h i with
   |none=>rfl|some v=>
    obtain⟨e,d,b⟩:=qb (l:=g.h) (m:=i) (by rw[h];simp)
    exact absurd (b▸E3 d) f.1
  rw[u];simp only;rw[mL (fun k q => ?_)]
  ·exact j
  ·cases h:af (ez Rs c k) i with
   |none=>rfl|some v=>
    obtain⟨e,d,b⟩:=qb (l:=ez Rs c k) (m:=i) (by rw[h];simp)
    unfold ez at d;split at d
    ·rename_i z n;exact absurd (b▸Sm d n) f.2.1
    ·split at d
     ·rename_i r o;exact absurd (b▸Sl d (List.mem_of_getElem? o)) f.2.2
     ·cases d
def Jn(P:Program)(TT:List PanicEntry->Act->World->Prop)(q72:World)(q7w:Gh)(q7z:List (Nat×ag))(ops:Array Oper)(s:St)(Cs:List (Nat×List Nat×List Nat)):Prop:=
 ∃j b c,j<ops.size/\nQ j (ops.toList.drop (j+1))=true/\b.length=j+1/\(∀i o,i<j->ops[i]? = some o->∃r,ou ops s b c Cs i o r/\lS P ops s b c Cs i o r) /\
  ∀o,ops[j]? = some o->∃r,ou ops s b c Cs j o r/\Jo P TT q72 q7w q7z (j+1) s b c Cs j o r
def qs0{s t:St}{K:List Nat}{o:Oper}{d:Tmp}{T:TypeId}{b c k:Nat}(h:Mo P s t K o=some (d,T,b,c,k)):o.guard=none/\o.dst=some d/\(∃x,o.op = .load T x/\t.ev x=some (.ptr b c))/\∃cs E,af s.hp b=some (.cells cs E)/\l8 P T cs c=some (.own k):=by
 unfold Mo at h;split at h
 ·rename_i q x r m p j;split at h
  ·rename_i f e l;cases n:cg K f<;>rw[n]at h<;>simp only[qT,qF,reduceCtorEq]at h
   split at h
   ·rename_i cs E i;split at h
    ·rename_i u g;simp only[qI,qP]at h;obtain⟨rfl,rfl,rfl,rfl,rfl⟩:=h;exact⟨m,j,⟨x,p,l⟩,cs,E,i,g⟩
    ·cases h
   ·cases h
  ·cases h
 ·cases h
def qbr{T:TypeId}{b d k:Nat}:∀{e:List (Nat×Md)},oD P T b d k e=true->Pg P e b T d k
 |[],_,j,md,bx,h,_=>by cases h
 |(j0,md0)::r,h,j,md,bx,h1,h2=>by
  simp only[oD,qA]at h;obtain⟨c,g⟩:=h;simp only[af]at h1;cases i:Nat.beq j0 j<;>rw[i]at h1
  ·exact qbr g j md bx h1 h2
  ·simp only[qT,qI]at h1;subst h1;rw[h2]at c
   cases bx with
   |cells f E=>
    simp only at c;split at c
    ·rename_i m l;have:=qN c;subst this;exact⟨f,E,rfl,l⟩
    ·cases c
   |_=>cases c
def bR.mono{ops:Array Oper}{Rs:List HR}{d:List (Nat×Md)}{Cs:List (Nat×List Nat×List Nat)}{U e:List (Nat×TypeId×Nat×Nat)}{i:Nat}{o:Oper}{r:HR}(h:bR P ops s Rs d Cs U i o r)(j:∀z∈U,z∈e):bR P ops s Rs d Cs e i o r:=by
 rcases h with h|h|⟨b,T,c,k,f,g⟩
 ·exact .inl h
 ·exact .inr (.inl h)
 ·exact .inr (.inr ⟨b,T,c,k,f,j _ g⟩)
def bR.done{ops:Array Oper}{Rs:List HR}{c:List (Nat×Md)}{Cs:List (Nat×List Nat×List Nat)}{U:List (Nat×TypeId×Nat×Nat)}{i:Nat}{o:Oper}{r:HR}(h:bR P ops s Rs c Cs U i o r)(e:U=[]):lS P ops s Rs c Cs i o r:=by
 rcases h with h|h|⟨b,T,f,k,g,d⟩
 ·exact .inl h
 ·exact .inr (.inl h)
 ·rw[e]at d;cases d
def nL(hT:∀e∈tb.ents,e.Sound P){ops:Array Oper}{Cs:List (Nat×List Nat×List Nat)}{x:R}:∀(l:List Oper)(i:Nat)(Rs:List HR)(kn:List (Nat×Bool))(g:List (Nat×Md))(U:List (Nat×TypeId×Nat×Nat))(E:AV->St->Option R)(H:List (Nat×Md)->List HR->List (Nat×Bool)->Option R),
  (∀t n s',E (f8 t n) s'=some x->U=[]/\∀G' a' w',ji q72 q7w q7z G' s' a' w'->TT [{ v:=wv t n,recovered:=false }] a' w')->(∀j,j<l.length->ops[i+j]? = l[j]?)->nv Rs kn->HX P ops s Cs U i Rs g->i<=ops.size ->
  cO P tb ops E s Cs H l i Rs kn g=some x->(∃Ms' y p,H Ms' y p=some x/\nv y p/\CU P ops s Cs U (i+l.length) y Ms')\/Jn P TT q72 q7w q7z ops s Cs
 |[],i,Rs,kn,g,U,E,H,_,_,hkn,hI,_,h => .inl ⟨g,Rs,kn,h,hkn,hI.out⟩|o::l,i,Rs,kn,g,U,E,H,hE,hl,hkn,hI,his,h=>by
  have ho:ops[i]? = some o:=by have:=hl 0 Te;simpa using this
  have br:i<ops.size:=(Array.getElem?_eq_some_iff.1 ho).1;have ab:∀j,j<l.length->ops[i+1+j]? = l[j]? := fun j J=>by have:=hl (j+1) Td;simpa [Nat.add_assoc,Nat.add_comm 1 j] using this
  have ac:∀(r0:HR)(p:List (Nat×Bool)),nv Rs p->nv (Rs++[r0]) p:=fun r0 p hk j d J=>by
   obtain⟨r,i1,i2⟩:=hk j d J;exact⟨r,by rw[List.getElem?_append_left (List.getElem?_eq_some_iff.1 i1).1];exact i1,i2⟩
  have u:∀r0:HR,(Rs++[r0]).take i=Rs:=fun r0=>by rw[← hI.len,List.take_left]
  have F:∀r0:HR,(Rs++[r0])[i]? = some r0:=fun r0=>by rw[← hI.len];simp
  have O:af g i=none:=by
   cases hq:af g i with|none=>rfl|some v=>have:=hI.lt i (by rw[hq];simp);omega
  have a4:=hI.dis his
  -- a further operation that leaves own memory
  have aa:∀(f:List Nat)(tt:Nat)(v:AV)(C:List (Nat×ag))(ps:List Prop)(c:xw),pc Rs o.after.toList=some f->o.dst=some tt->Nat.blt tt s.n=true->bq (s.nx+32*tt) s.hp=true->rh tt Rs=true->uq f (lv ops o) Rs 0=true->vc ops tt f i=true ->
    mq P ops ((ff g f Rs 0 s).hide (iv Cs f i)) c o=some (ps,v,C)->ay ps->HX P ops s Cs U (i+1) (Rs++[⟨tt,v,C,f⟩]) g:=fun f tt v C ps c hp hd W b2 b3 b4 b5 av a3=>by
   refine⟨by rw[qM,hI.len];rfl,fun j V J m => ?_,fun j J=>by have:=hI.lt j J;omega,fun j r B I hm=>by
    have z:=hI.lt j (by rw[hm];simp)
    exact hI.und j r B (by rw[List.getElem?_append_left (by have:=hI.len;omega)]at I;exact I) hm⟩
   by_cases z:j<i
   ·obtain⟨r,ok,Z⟩:=hI.all j V z m;exact⟨r,hI.more (fun _ _=>rfl) z ok Z⟩
   ·have:j=i:=Ta
    subst this;rw[ho]at m;cases m;have hs:iy s (Rs++[⟨tt,v,C,f⟩]) g Cs j ⟨tt,v,C,f⟩=(ff g f Rs 0 s).hide (iv Cs f j):=by unfold iy;rw[u]
    have Q:gm (Rs++[⟨tt,v,C,f⟩]) g j=[(tt,v)]:=by unfold gm;rw[O,F]
    have Y:ez (Rs++[⟨tt,v,C,f⟩]) g j=C:=by unfold ez;rw[O,F]
    have a7:=PM hd av;have b7:((ff g f Rs 0 s).hide (iv Cs f j)).nx=s.nx:=by
     rw[xU (Rs:=Rs) Rs 0 s (fun k _=>by rw[wO])];rfl
    rw[b7]at a7;refine⟨⟨tt,v,C,f⟩,⟨F _,b2,by rw[u];exact hp,by rw[u];exact b3,by rw[u];exact b4,b5,fun e A => ?_,fun e A => .inl ?_⟩,.inl ⟨O,hd,by simpa using W,ps,c,by rw[hs];exact av,a3⟩⟩
    ·rw[Q]at A;rw[List.mem_singleton]at A;subst A;rfl
    ·rw[Y]at A;exact a7 e A
  have a1:∀(f K Pm:List Nat)(B:Md),pc Rs o.after.toList=some f->yW i Cs=some (K,Pm)->o.guard=none->mZ s o.dst=true->bq (s.nx+32*dy s i o.dst) s.hp=true->rh (dy s i o.dst) Rs=true->uq f (lv ops o) Rs 0=true->vc ops (dy s i o.dst) f i=true ->
    (cY s Rs f (dy s i o.dst) K B.h&&cZ (dy s i o.dst) B.f&&dI Pm f&&dH f g)=true->pS P o ((ff g f Rs 0 s).hide (iv Cs f i)) B->HX P ops s Cs U (i+1) (Rs++[⟨dy s i o.dst,.undef,[],f⟩]) ((i,B)::g):=by
   intro f K Pm B hp hf hg W b2 b3 b4 b5 hx bk;simp at hx;obtain⟨⟨⟨x1,x2⟩,x3⟩,x4⟩:=hx;have ah:∀j,j<i->af ((i,B)::g) j=af g j:=fun j J=>by
    have:Nat.beq i j=false:=by
     cases hb:Nat.beq i j
     ·rfl
     ·have:=qN hb;omega
    simp[af,this,qF]
   have an:af ((i,B)::g) i=some B:=by simp[af]
   have X:HX P ops s Cs U (i+1) (Rs++[⟨dy s i o.dst,.undef,[],f⟩]) ((i,B)::g):=by
    refine⟨by rw[qM,hI.len];rfl,fun j V J m => ?_,fun j J => ?_,fun j r cb I hm => ?_⟩
    ·by_cases z:j<i
     ·obtain⟨r,ok,Z⟩:=hI.all j V z m;exact⟨r,hI.more ah z ok Z⟩
     ·have:j=i:=Ta
      subst this;rw[ho]at m;cases m;have hs:iy s (Rs++[⟨dy s j o.dst,.undef,[],f⟩]) ((j,B)::g) Cs j ⟨dy s j o.dst,.undef,[],f⟩=(ff g f Rs 0 s).hide (iv Cs f j):=by
       unfold iy;rw[u,J3 (Ms':=g) Rs 0 s (fun k hk=>ah k (by have:=hI.len;omega))]
      have Q:gm (Rs++[⟨dy s j o.dst,.undef,[],f⟩]) ((j,B)::g) j=B.f:=by unfold gm;rw[an]
      have Y:ez (Rs++[⟨dy s j o.dst,.undef,[],f⟩]) ((j,B)::g) j=B.h:=by unfold ez;rw[an]
      refine⟨⟨dy s j o.dst,.undef,[],f⟩,⟨F _,b2,by rw[u];exact hp,by rw[u];exact b3,by rw[u];exact b4,b5,fun e A => ?_,fun e A => ?_⟩,.inr (.inl ⟨B,an,hg,fun t ht => ?_,by rw[hs];exact bk⟩)⟩
      ·rw[Q]at A;exact Se x2 e A
      ·rw[Y]at A;rcases Sd x1 e A with h'|⟨h1,h2⟩
       ·exact .inl h'
       ·refine .inr ⟨by rw[an];simp,⟨K,Pm,QW hf,h1,qbz x3⟩,?_,fun k hk a5=>qby x4 k (by rw[ah k hk]at a5;exact a5)⟩
        rcases h2 with h2|⟨c,rc,c1,c2,c3⟩
        ·exact .inl h2
        ·have:c<Rs.length:=(List.getElem?_eq_some_iff.1 c2).1;exact .inr ⟨c,rc,c1,by rw[List.getElem?_append_left this];exact c2,c3⟩
      ·rw[ht]at W ⊢;exact⟨rfl,by simpa [mZ] using W⟩
    ·simp[af]at J;cases hb:Nat.beq i j<;>rw[hb]at J<;>simp at J
     ·have:=hI.lt j J;omega
     ·have:=qN hb;omega
    ·by_cases z:j=i
     ·subst z;rw[F]at I;cases I;rfl
     ·have a9:(Rs++[⟨dy s i o.dst,.undef,[],f⟩])[j]? = some r:=I;have cj:j<i+1:=by have:=(List.getElem?_eq_some_iff.1 I).1;simp at this;have:=hI.len;omega
      exact hI.und j r cb (by rw[List.getElem?_append_left (by have:=hI.len;omega)]at I;exact I) (by rw[ah j Ta]at hm;exact hm)
   exact X
  have S:((∃Ms' y p,H Ms' y p=some x/\nv y p/\CU P ops s Cs U (i+1+l.length) y Ms')\/Jn P TT q72 q7w q7z ops s Cs)->(∃Ms' y p,H Ms' y p=some x/\nv y p/\CU P ops s Cs U (i+(o::l).length) y Ms')\/Jn P TT q72 q7w q7z ops s Cs:=by
   rw[qL,show i+(l.length+1)=i+1+l.length by omega];exact id
  simp[cO]at h;split at h
  ·cases h
  ·rename_i f hp;cases hc:mZ s o.dst&&bq (s.nx+32*dy s i o.dst) s.hp&&rh (dy s i o.dst) Rs&&uq f (lv ops o) Rs 0&&vc ops (dy s i o.dst) f i<;>rw[hc]at h<;>simp at h
   simp at hc;obtain⟨⟨⟨⟨W,b2⟩,b3⟩,b4⟩,b5⟩:=hc;split at h
   ·rename_i K Pm hf hg;split at h
    ·rename_i q hq;obtain⟨d,q1,M⟩:=Rq.K_some h;split at M
     ·rename_i ps v C tt ha hd;rw[hd]at W b2 b3 b5;have a3:=PG hT hq q1 ha;have X:=aa f tt v C ps (false,d) hp hd W b2 b3 b4 b5 (by unfold mq;rw[hg];exact ha) a3
      exact S (nL hT l (i+1) _ kn g U E H hE ab (ac _ _ hkn) X Ta M)
     ·split at M
      ·rename_i ps B a6;cases hx:cY s Rs f (dy s i o.dst) K B.h&&cZ (dy s i o.dst) B.f&&dI Pm f&&dH f g<;>rw[hx]at M<;>simp only[qT,qF,reduceCtorEq]at M
       exact S (nL hT l (i+1) _ kn _ U E H hE ab (ac _ _ hkn) (a1 f K Pm B hp hf hg W b2 b3 b4 b5 hx (qo7 a6 (PH hT hq q1 (Sn a6)))) Ta M)
      ·cases M
    ·split at h
     ·rename_i q hq;obtain⟨d,q1,M⟩:=Rq.K_some h;split at M
      ·rename_i N xs cp r cs;split at M
       ·rename_i ps B b6;obtain⟨c1,c2⟩:=qtr (P:=P) (TT:=TT) (q72:=q72) (q7w:=q7w) (q7z:=q7z) hT hq q1 b6;split at M
        ·rename_i a2;cases hx:cY s Rs f (dy s i o.dst) K B.h&&cZ (dy s i o.dst) B.f&&dI Pm f&&dH f g<;>rw[hx]at M<;>simp only[qT,qF,reduceCtorEq]at M
         exact S (nL hT l (i+1) _ kn _ U E H hE ab (ac _ _ hkn) (a1 f K Pm B hp hf hg W b2 b3 b4 b5 hx (c1 a2)) Ta M)
        ·rename_i tx n a2;cases hx:nQ i (ops.toList.drop (i+1))<;>rw[hx]at M<;>simp only[qT,qF,reduceCtorEq]at M
         obtain⟨hU,hE⟩:=hE tx n _ M;refine .inr ⟨i,Rs++[⟨dy s i o.dst,.undef,[],f⟩],g,br,hx,by rw[qM,hI.len];rfl,fun j V z m => ?_,fun V m => ?_⟩
         ·obtain⟨r,ok,Z⟩:=hI.all j V z m;obtain⟨m1,m2⟩:=hI.more (r0:=⟨dy s i o.dst,.undef,[],f⟩) (fun _ _=>rfl) z ok Z
          exact⟨r,m1,m2.done hU⟩
         ·rw[ho]at m;cases m;have hs:iy s (Rs++[⟨dy s i o.dst,.undef,[],f⟩]) g Cs i ⟨dy s i o.dst,.undef,[],f⟩=(ff g f Rs 0 s).hide (iv Cs f i):=by unfold iy;rw[u]
          have Q:gm (Rs++[⟨dy s i o.dst,.undef,[],f⟩]) g i=[(dy s i o.dst,.undef)]:=by unfold gm;rw[O,F]
          have Y:ez (Rs++[⟨dy s i o.dst,.undef,[],f⟩]) g i=[]:=by unfold ez;rw[O,F]
          have ch:ou ops s (Rs++[⟨dy s i o.dst,.undef,[],f⟩]) g Cs i o ⟨dy s i o.dst,.undef,[],f⟩:=⟨F _,b2,by rw[u];exact hp,by rw[u];exact b3,by rw[u];exact b4,b5,fun e A=>by rw[Q,List.mem_singleton]at A;subst A;rfl,fun e A=>by rw[Y]at A;cases A⟩
          refine⟨_,ch,hg,fun t ht => ?_,fun L hL a0 G a w I N => ?_⟩
          ·rw[ht]at W ⊢;exact⟨rfl,by simpa [mZ] using W⟩
          ·rw[hs]at a0;refine c2 _ a2 _ a0 ?_ G a w I (fun G' w' hR=>hE G' a w' (qtq (L:=L) (fun k hk e A => ?_) hR)) N
           ·rw[xU (Rs:=Rs) Rs 0 s (fun k _=>by rw[wO])];rfl
           ·have cl:=hL k hk;by_cases bs:k=i
            ·subst bs;rw[Q,List.mem_singleton]at A;subst A;exact Lh (List.mem_of_getElem? (F _))
            ·obtain⟨cc,a8⟩:∃o,ops[k]? = some o:=⟨ops[k],by simp[show k<ops.size by omega]⟩
             obtain⟨r,ok,Z⟩:=hI.all k cc Ta a8
             have bd:=(hI.more (r0:=⟨dy s i o.dst,.undef,[],f⟩) (fun _ _=>rfl) Ta ok Z).1
             rw[bd.f e A];exact Lh (List.mem_of_getElem? bd.get)
       ·cases M
      ·cases M
     ·cases h
   ·split at h
    ·rename_i d T b ad k av;obtain⟨hg,hd,b8,ca⟩:=qs0 av;rw[hd]at W b2 b3 b5;have X:HX P ops s Cs ((b,T,ad,k)::U) (i+1) (Rs++[⟨d,.own k,[],f⟩]) g:=by
      refine⟨by rw[qM,hI.len];rfl,fun j V J m => ?_,fun j J=>by have:=hI.lt j J;omega,fun j r B I hm=>by
       have z:=hI.lt j (by rw[hm];simp)
       exact hI.und j r B (by rw[List.getElem?_append_left (by have:=hI.len;omega)]at I;exact I) hm⟩
      by_cases z:j<i
      ·obtain⟨r,ok,Z⟩:=hI.all j V z m;obtain⟨m1,m2⟩:=hI.more (r0:=⟨d,.own k,[],f⟩) (fun _ _=>rfl) z ok Z
       exact⟨r,m1,m2.mono (fun _ h=>qE _ h)⟩
      ·have:j=i:=Ta
       subst this;rw[ho]at m;cases m;have hs:iy s (Rs++[⟨d,.own k,[],f⟩]) g Cs j ⟨d,.own k,[],f⟩=(ff g f Rs 0 s).hide (iv Cs f j):=by unfold iy;rw[u]
       have Q:gm (Rs++[⟨d,.own k,[],f⟩]) g j=[(d,.own k)]:=by unfold gm;rw[O,F]
       have Y:ez (Rs++[⟨d,.own k,[],f⟩]) g j=[]:=by unfold ez;rw[O,F]
       refine⟨⟨d,.own k,[],f⟩,⟨F _,b2,by rw[u];exact hp,by rw[u];exact b3,by rw[u];exact b4,b5,fun e A => ?_,fun e A=>by rw[Y]at A;cases A⟩,.inr (.inr ⟨b,T,ad,k,⟨O,hg,hd,by simpa [mZ] using W,rfl,rfl,by rw[hs];exact b8,ca⟩,qH⟩)⟩
       rw[Q]at A;rw[List.mem_singleton]at A;subst A;rfl
     refine S ?_;rcases nL hT l (i+1) _ kn g ((b,T,ad,k)::U) (fun _ _=>none) (fun Ms' y p=>bif oD P T b ad k Ms' then H Ms' y p else none) (fun t n s' h=>by cases h) ab (ac _ _ hkn) X Ta h with⟨Ms',y,p,f1,f2,f3⟩|ht
     ·cases ba:oD P T b ad k Ms'<;>simp only[ba,qT,qF,reduceCtorEq]at f1
      exact .inl ⟨Ms',y,p,f1,f2,f3.len,fun j V J m=>by
       obtain⟨r,ok,Z⟩:=f3.all j V J m;refine⟨r,ok,?_⟩;rcases Z with Z|⟨b',T',bb,k',g1,g2⟩
       ·exact .inl Z
       ·rcases List.mem_cons.1 g2 with g2|g2
        ·simp only[qP]at g2;obtain⟨rfl,rfl,rfl,rfl⟩:=g2;exact .inl (.inr (.inr ⟨_,_,_,_,g1,qbr ba⟩))
        ·exact .inr ⟨b',T',bb,k',g1,g2⟩,f3.lt,f3.und⟩
     ·exact .inr ht
    split at h
    ·rename_i d hd;rw[hd]at W b2 b3 b5;have hv:∀j r,cg (cD g f) j=true->Rs[j]? = some r->af ((ff g f Rs 0 s).hide (iv Cs f i)).fr r.dst=some r.v:=fun j r hm I=>by
      obtain⟨h1,h2⟩:=Ey.1 (gu.1 hm);exact J4 (k:=j) I (by rw[wO];exact gu.2 h1) (by rw[wO];exact h2) (fun k' r' hk a9=>by rw[wO];exact a4 j k' r r' hk I a9)
     have be:∀(j:Nat)(r:HR),cg (cD g f) j=true->Rs[j]? = some r->∃V:Oper,ops[j]? = some V/\V.dst=some r.dst:=fun j r hm I=>by
      obtain⟨h1,h2⟩:=Ey.1 (gu.1 hm);have J:j<i:=by have:=(List.getElem?_eq_some_iff.1 I).1;have:=hI.len;omega
      obtain⟨V,m⟩:∃o,ops[j]? = some o:=⟨ops[j],by simp[show j<ops.size by omega]⟩
      obtain⟨r2,ok,Z⟩:=hI.all j V J m;have h3:=ok.get;rw[I]at h3;injection h3 with h3;subst h3
      rcases Z with⟨_,s2,_⟩|⟨B,s1,_⟩|⟨_,_,_,_,⟨_,_,s2,_⟩,_⟩
      ·exact⟨V,m,s2⟩
      ·rw[h2]at s1;cases s1
      ·exact⟨V,m,s2⟩
     obtain⟨ps,c,v,C,p,h1,h2,h3,h4⟩:=S9 hT hkn hv be h;have X:=aa f d v C ps c hp hd W b2 b3 b4 b5 h1 h2;exact S (nL hT l (i+1) _ p g U E H hE ab (ac _ _ h3) X Ta h4)
    ·cases h
def qlp(Y:∀e∈tb.ents,e.Sound P)(hm:P.follows .mixedOrders=true){ops:Array Oper}{Cs:List (Nat×List Nat×List Nat)}{K:St->Option R}{x:R}(h:Kp P tb ops E s Cs K=some x){N:Act->World->Prop}(hN:∀s',K s'=some x->∀G' p w',aj q72 q7w q7z G' s' p w'->N p w')
  (X:∀t n s',E (f8 t n) s'=some x->∀G' p w',ji q72 q7w q7z G' s' p w'->TT [{ v:=wv t n,recovered:=false }] p w')
  (c:aj q72 q7w q7z G s a w) (id:Nat) (b:Frame) (H:List Item) (cs:List Frame) (O:b.kind = .normal) :
  (∃p w',N p w'/\Steps P (lone (b.atR a.bs (.code (.region id ops true)::H)) cs w) (lone (b.atR p.bs H) cs w'))\/lf P b.fn TT (lone (b.atR a.bs (.code (.region id ops true)::H)) cs w) cs:=by
 unfold Kp at h;generalize lm ops=n at h;cases L:nz ops.toList 0&&qh ops n&&Nat.ble n ops.toList.length<;>rw[L]at h<;>simp at h
 simp only[qA]at L;obtain⟨⟨J,V⟩,b3⟩:=L;have Q:n<=ops.size:=by have:=Nat.le_of_ble_eq_true b3;simpa using this
 have U:(ops.toList.take n).length=n:=by simp;omega
 refine Q7 hm ?_ b H cs O;have C:aj q72 q7w q7z G s a { w with drawn:=w.drawn+1 }:=⟨c.defers,c.size,c.frame,c.fresh,⟨⟨c.fin.mem.agree,c.fin.mem.one,c.fin.mem.holds,c.fin.mem.apart,c.fin.mem.tab⟩,⟨c.fin.bel.os,c.fin.bel.tape,c.fin.bel.output,c.fin.bel.size,c.fin.bel.block⟩,c.fin.imm_le,c.fin.imm_new,c.fin.base,c.fin.keep,c.fin.keepOwn⟩⟩
 have F:=nL Y (ops.toList.take n) 0 [] [] [] [] E _ (fun t n s' h=>⟨rfl,X t n s' h⟩) (fun j f=>by
  rw[U]at f;rw[List.getElem?_take,qX f,wO];simp) (fun j d h=>by cases h) ⟨rfl,fun j o f=>Ta,fun j f=>absurd rfl f,fun j r md h=>by simp at h⟩ (Nat.zero_le _) h
 rcases F with⟨Ms,Rs,kn,k1,S,u⟩|⟨j,Rs,Ms,j1,j2,j3,j4,j5⟩
 rotate_left
 ·refine qmz (q72:=q72) (q7w:=q7w) (q7z:=q7z) (N:=N) j1 J (fun i o q ho => ?_) j3 j4 j5 ops.size [] _ G a _ Te ?_ trivial (fun _ h=>by cases h) C
  ·refine RI j2 o (List.mem_of_getElem? (i:=i-(j+1)) ?_);rw[List.getElem?_drop,show j+1+(i-(j+1))=i by omega];simpa using ho
  ·refine⟨List.nodup_nil,fun i q=>(by cases q),Te,fun j f => ?_,fun i q=>(by cases q)⟩
   rw[Array.getD_eq_getD_getElem?];simp[f]
 rw[wO,U]at u;have A:∀(G:Gh)(a:Act)(w:World),aj q72 q7w q7z G (ff Ms (List.range n) Rs 0 s) a w->∀l,aj q72 q7w q7z G (cW Rs kn l (ff Ms (List.range n) Rs 0 s)) a w:=by
  intro G a w c l
  induction l with
  |nil=>exact c|cons e l ih=>
   obtain⟨j,d⟩:=e;unfold cW;split
   ·rename_i W r h0 g;obtain⟨r',Z,z⟩:=S j W h0;rw[g]at Z;have:=qJ Z;subst this;have f:j<n:=by have:=(List.getElem?_eq_some_iff.1 g).1;rw[u.len]at this;exact this
    refine ih.know ?_
    cases B:af Ms j with
    |some md=>
     have:=u.und j r md g B;rw[z]at this;cases this
    |none=>
     have M:af (ff Ms (List.range n) Rs 0 s).fr r.dst=some r.v:=J4 (k:=j) g (by rw[wO,gu];exact List.mem_range.2 f) (by rw[wO];exact B) (fun k' r' O y=>by rw[wO];exact QE Q u.len (fun j o g z=>by obtain⟨r,T,_⟩:=u.all j o g z;exact⟨r,T⟩) j k' r r' O g y)
     obtain⟨v,v1,I⟩:=c.frame r.dst _ M;rw[z]at I;have I:v = .bool W:=I;subst I;show a.tmps.getD r.dst undef=_;rw[Array.getD_eq_getD_getElem?,v1];rfl
   ·exact ih
 refine qm0 (q72:=q72) (q7w:=q7w) (q7z:=q7z) (N:=N) Q J V u.len (fun j o g z=>by obtain⟨r,T,st⟩:=u.all j o g z;exact⟨r,T,st.resolve_right (fun⟨_,_,_,_,_,h⟩=>by cases h)⟩) (fun G a w m y hu=>My Y J V hN X _ n (wF _) rfl Q _ G a w m k1 (A G a w y kn) hu) ops.size [] _ G a _ Te ?_ trivial ?_
 ·refine⟨List.nodup_nil,fun i q=>(by cases q),Te,fun j f => ?_,fun i q=>(by cases q)⟩
  rw[Array.getD_eq_getD_getElem?];simp[f]
 ·exact C
def qls(g:∀e∈tb.ents,e.Sound P)(j:P.follows .mixedOrders=true){ops:Array Oper}{K:St->Option R}{x:R}(h:Ks P tb ops E s K=some x){N:Act->World->Prop}(f:∀s',K s'=some x->∀G' c w',aj q72 q7w q7z G' s' c w'->N c w')
  (d:∀t n s',E (f8 t n) s'=some x->∀G' c w',ji q72 q7w q7z G' s' c w'->TT [{ v:=wv t n,recovered:=false }] c w')
  (l:aj q72 q7w q7z G s a w) (id:Nat) (b:Frame) (k:List Item) (cs:List Frame) (i:b.kind = .normal) :
  (∃c w',N c w'/\Steps P (lone (b.atR a.bs (.code (.region id ops true)::k)) cs w) (lone (b.atR c.bs k) cs w'))\/lf P b.fn TT (lone (b.atR a.bs (.code (.region id ops true)::k)) cs w) cs:=by
 unfold Ks at h;split at h
 ·exact qlq g j h f d l id b k cs i
 ·exact qlp g j h f d l id b k cs i
def qlr(i:∀e∈tb.ents,e.Sound P)(l:P.follows .mixedOrders=true){ops:Array Oper}{K:St->Option R}{x:R}(h:Kr P tb ops E s K=some x){N:Act->World->Prop}(g:∀s',K s'=some x->∀G' c w',aj q72 q7w q7z G' s' c w'->N c w')
  (f:∀t n s',E (f8 t n) s'=some x->∀G' c w',ji q72 q7w q7z G' s' c w'->TT [{ v:=wv t n,recovered:=false }] c w')
  (m:aj q72 q7w q7z G s a w) (id:Nat) (b:Frame) (k:List Item) (cs:List Frame) (j:b.kind = .normal) :
  (∃c w',N c w'/\Steps P (lone (b.atR a.bs (.code (.region id ops true)::k)) cs w) (lone (b.atR c.bs k) cs w'))\/lf P b.fn TT (lone (b.atR a.bs (.code (.region id ops true)::k)) cs w) cs:=by
 obtain⟨G',d⟩:=m.frzL (ks:=LK s (ops.toList.take (lm ops)) (ops.toList.take (lm ops)));exact qls i l h g f d id b k cs j
end
end Go.Sym
namespace Go.Sym
open Go.RowKit
variable[LC]
def y9(i:Nat)(c:Code):Code:=match c with
 |.seq a b=>match i with|0=>a|_=>b
 |.cond _ a b=>match i with|0=>a|_=>b
 |.block _ a=>a|.loop a=>a|.scope a=>a|.rangeFunc _ _ a b=>match i with|0=>a|_=>b
 |c=>c
def sub(a:Code):List Nat->Code|[]=>a|i::p=>y9 i (sub a p)
structure fg where
 kd:Nat
 path:List Nat
 it:Item
def cT(a:Code)(b:Nat)(p:List Nat):Item:=match b with
 |0 => .code (sub a p)|1=>match sub a p with|.block id _ => .inBlock id|c => .code c
 |2=>match sub a p with|.loop x => .inLoop x|c => .code c
 |3=>match sub a p with|.scope x => .inScope x|c => .code c
 |_ => .beginRound
def fg.Ok(a:Code)(i:fg):Prop:=i.it=cT a i.kd i.path
abbrev yv:=List (Nat×List Nat)
def nd(a:Code):yv->List fg|[]=>[]|(kd,p)::r=>⟨kd,p,cT a kd p⟩::nd a r
def e9:List fg->List Item|[]=>[]|i::r=>i.it::e9 r
def nC:yv->List fg->Bool|[],[]=>true|(kd,p)::r,i::k=>Nat.beq kd i.kd&&uf p i.path&&nC r k|_,_=>false
def QO{a:Code}:∀{b:yv}{k:List fg},nC b k=true->(∀i∈k,i.Ok a)->e9 (nd a b)=e9 k
 |[],[],_,_=>rfl|(kd,p)::r,⟨l,m,j⟩::k,h,hk=>by
  simp only[nC,qA]at h;obtain⟨⟨c,d⟩,e⟩:=h;have c:=qN c;have d:=DU d;subst c d;have g:j=cT a kd p:=hk _ qH;simp only[nd,e9];rw[QO e (fun i f=>hk i (qE _ f)),g]
 |[],_::_,h,_=>by cases h
 |_::_,[],h,_=>by cases h
def KT{a:Code}:∀{b:yv},∀i∈nd a b,i.Ok a
 |[],i,h=>by cases h
 |(kd,p)::r,i,h=>by
  rcases List.mem_cons.1 h with rfl|h
  ·rfl
  ·exact KT i h
def qn5{a:Code}{b:Nat}{p:List Nat}{c:Code}(h:Item.code c=cT a b p):sub a p=c:=by
 unfold cT at h;split at h
 ·injection h with h;exact h.symm
 ·split at h
  ·cases h
  ·injection h with h;exact h.symm
 ·split at h
  ·cases h
  ·injection h with h;exact h.symm
 ·split at h
  ·cases h
  ·injection h with h;exact h.symm
 ·cases h
def qn6{a:Code}{b:Nat}{p:List Nat}{c:Code}(h:Item.inLoop c=cT a b p):sub a p = .loop c:=by
 unfold cT at h;split at h
 ·cases h
 ·split at h<;>cases h
 ·split at h
  ·rename_i e;injection h with h;subst h;exact e
  ·cases h
 ·split at h<;>cases h
 ·cases h
def uh(id:Nat):List fg->Option (List fg)
 |[]=>none|i::k=>match i.it with|.inBlock id'=>if id'==id then some k else uh id k|_=>uh id k
def K0{id:Nat}:∀{k k':List fg},uh id k=some k'->exitTo id (e9 k)=some (e9 k')/\∀i∈k',i∈k
 |[],_,h=>by cases h
 |⟨j,p,g⟩::k,k',h=>by
  simp only[uh]at h;split at h
  ·rename_i f;split at h
   ·rename_i e;simp only[qI]at h;subst h;exact⟨by simp only[e9,exitTo];rw[qX e],fun i a=>qE _ a⟩
   ·rename_i e;obtain⟨c,d⟩:=K0 h;exact⟨by simp only[e9,exitTo];rw[qW e];exact c,fun i a=>qE _ (d i a)⟩
  ·rename_i b;obtain⟨c,d⟩:=K0 h;refine⟨?_,fun i a=>qE _ (d i a)⟩
   (try simp only at b)
   simp[e9];cases g<;>first
    |(exfalso;exact b _ rfl)
    |(simp[exitTo];exact c)
def JA(P:Program)(s:St):ResultVar->Option AV
 |.tmp t=>af s.fr t|.cell t T=>match af s.fr t with
  |some (.ptr b off)=>match af s.hp b with|some (.cells cs _)=>l8 P T cs off|_=>none
  |some (.rop cs)=>l8 P T cs 0|some (.oel k sz 0 0)=>match af s.hp k,iJ P T,gw P T with|some (.row τ l _),some true,some _=>bif τ.is1&&Nat.beq sz 1 then some (.arr τ l) else none|_,_,_=>none
  |_=>none
def LY(P:Program)(s:St):ResultVar->Bool
 |.tmp _=>true|.cell t T=>match af s.fr t with
  |some (.oel k _ 0 0)=>match af s.hp k,gw P T with|some (.row _ l _),some n=>decide (l.length=n)|_,_=>true
  |_=>true
def Ak(P:Program)(s:St):List ResultVar->Bool|[]=>true|x::xs=>LY P s x&&Ak P s xs
def mD(P:Program)(s:St):List ResultVar->Option (List AV)
 |[]=>some []|x::xs=>match JA P s x with
  |some v=>match mD P s xs with|some vs=>some (v::vs)|none=>none
  |none=>none
def JB(P:Program)(a:Func)(s:St):Option AV:=
 match mD P s a.results.toList with
 |some vs=>match vs with|[v]=>some v|vs=>some (.tup vs)
 |none=>none
def frzC(p:Pt)(b a:Nat)(s:St):St:=match af s.hp b with|some (.cells cs _)=>frzL (zB p (.agg (cs.drop a))) s|_=>s
def coR(bs:List (Nat×bu)):List ResultVar->List Pt->St->St
 |[],_,s=>s|x::xs,ps,s=>match ps with
  |[]=>s|p::ps=>match x with
   |.tmp t=>coR bs xs ps (coF bs [(t,p)] s)|.cell t _=>match af s.fr t with|some (.ptr b off)=>coR bs xs ps (frzC p b off (coB1 bs b [p] off s))|_=>coR bs xs ps s
def EF:Pt->List Pt|.tup ps=>ps|p=>[p]
def yV(v:AV)(a:NM)(p:Pt)(hp:List (Nat×bu))(s:St):Option (p.den×ic hp):=
 match p.get v a with
 |some (d,nm)=>match wi s.hp hp nm with|some (d',nm')=>bif eh nm'&&y5 nm' hp then some (d,d') else none|none=>none
 |none=>none
def K2(P:Program)(b:Func)(a:NM)(rv:Option AV)(p:Pt)(hp:List (Nat×bu))(s:St):Option (p.den×ic hp):=
 match rv with
 |some v=>yV v a p hp (coB hp (nh s hp a) hp s)|none=>match JB P b (coR hp b.results.toList (EF p) (coB hp (nh s hp a) hp s)) with|some v=>yV v a p hp (coR hp b.results.toList (EF p) (coB hp (nh s hp a) hp s))|none=>none
def K3(P:Program)(b:Func)(a:NM)(rv:Option AV)(p:Pt)(hp:List (Nat×bu))(s:St):Bool:=
 match rv with|some _=>true|none=>Ak P (coR hp b.results.toList (EF p) (coB hp (nh s hp a) hp s)) b.results.toList
def RS.fin(P:Program)(d:Func)(c:NM)(rv:Option AV)(s:St):{α:Type}->RS α->Option α
 | _,.one p hp _ fro _=>bif K3 P d c rv p hp s then(match K2 P d c rv p hp s with
  |some y=>some (fro y)| none=>none) else none
 |_,.two l r=>match l.fin P d c rv s with
  |some a=>some (.inl a)|none=>match r.fin P d c rv s with|some b=>some (.inr b)|none=>none
structure gp(R:Type) where
 key:yv
 ls:LS
 F:ls.den->Option R
def hQ{R:Type}(a:NM)(s:St)(k:List fg):List (gp R)->Option (gp R)
 |[]=>none| l::ls=>bif nC l.key k then(match hQ a s k ls with
   |none=>some l|some l'=>match l.ls.get a (l.ls.co a s) with
    |some _=>some l| none=>some l') else hQ a s k ls
structure Cx:Type 1 where
 P:Program
 tb:Tb
 fn:Func
 f:FuncId
 ids:NM
 rd:Option Nat
 tags:List (List Nat×Nat)
 thr:Option (List (Nat×Nat)):=none
def St.noDf(s:St):Bool:=match s.df with|[]=>true|_=>false
def yI:List Nat->St->Option St
 |[],s=>some { s with df:=[] }|n::ns,s=>match af s.hp n with|some .dfr=>yI ns { s with hp:=(n,.dead)::s.hp,df:=ns }|_=>none
def zi:Option er->Bool|none=>true|some _=>false
def E4(cx:Cx){R:Type}(enc:RS R)(o:Option R):Option R:=match cx.thr with
 |none=>o|some _=>match o with
  |some r=>match n9 (enc.res r).1 with|none=>some r|some _=>none
  |none=>none
def ra(cx:Cx){R:Type}(enc:RS R)(j:Option er)(s:St):Option R:=
 match cx.rd with
 |none=>match yI s.df s with|some s'=>E4 cx enc (enc.fin cx.P cx.fn cx.ids none s')|none=>none
 |some m=>bif s.noDf then
   (match af s.hp m with
   |some (.loop _ _ f n fr ps tag D)=>E4 cx enc (enc.fin cx.P cx.fn cx.ids (some (.val (.bool (zi j)))) { s with hp:=(m,.loop (bif zi j then .ready else .done) j f n fr ps tag D)::s.hp })| _=>none)
  else none
def St.enterRF(s:St)(f:FuncId)(ps:List Tmp)(b:Nat)(a:Option Nat):Option St:=
 bif bq s.nx s.hp then
  (match a with
  |none=>some { s with hp:=(s.nx,.loop .ready none f s.n s.fr ps b (s.nx+1))::(s.nx+1,.dfr)::s.hp,df:=(s.nx+1)::s.df,nx:=s.nx+32 }|some m=>match af s.hp m with
   |some (.loop _ _ _ _ _ _ _ D)=>some { s with hp:=(s.nx,.loop .ready none f s.n s.fr ps b D)::s.hp,nx:=s.nx+32 }| _=>none)
 else none
def qan(s:St)(a:List AV)(d:D):Option St:=match d with
 |.mem names xs hp _ hp'=>
  bif eh names&&qz names&&bq s.nx s.hp then
   (match ja (bf names) s.hp names,ci false [] (AV.rens (bf names) a) xs with
   |some hpv,some _=>match lz hpv hp with|some _=>some { s with hp:=ow (iq names hp' s.nx) hp'++(pz names++s.hp),nx:=s.nx+32 }|none=>none
   | _,_=>none)
  else none
 |_=>none
def qc(p:List Nat):List (List Nat×Nat)->Option Nat|[]=>none|(q,t)::r=>bif uf q p then some t else qc p r
def S3:LoopState->Bool|.busy=>false|_=>true
def EN(cx:Cx)(p:List Nat)(g:Operand)(ps:List Tmp)(s:St):Option (Rq×St×List AV):=
 match qc p cx.tags,s.ev g with
 |some tag,some (.fn (.func h) [] cap)=>match s.enterRF cx.f ps tag cx.rd with
  |some s1=>match cH (yH s1 h (.yld s.nx::cap)) cx.tb.ents with|some q=>some (q,s1,.yld s.nx::cap)|none=>none
  |none=>none
 |_,_=>none
def qap(cx:Cx)(p:List Nat)(g:Operand)(ps:List Tmp)(s:St):Option St:=
 match qc p cx.tags,s.ev g with
 |some tag,some (.fn (.func h) [] cap)=>match s.enterRF cx.f ps tag cx.rd with
  |some s1=>match yR (fun e=>ww h e.key) cx.tb.ents with|some e=>some (coB e.hp (nh s1 e.hp (zm e.args (.yld s.nx::cap))) e.hp (frzL (cN e.args (.yld s.nx::cap)) s))|none=>none
  |none=>none
 |_,_=>none
def EO{R:Type}(b:Nat)(a:Rq×St×List AV)(K:Option er->St->Option R):Option R:=
 a.1.K fun d=>match qan a.2.1 a.2.2 d with
  |some s3=>match af s3.hp b with|some (.loop st pe _ _ _ _ _ _)=>bif S3 st then K pe { s3 with hp:=(b,.dead)::s3.hp } else none|_=>none
  |none=>none
def EQ(cx:Cx){R:Type}(p:List Nat)(g:Operand)(ps:List Tmp)(s:St)(K:Option er->St->Option R):Option R:=
 match EN cx p g ps s with
 |some a=>EO s.nx a K|none=>match qap cx p g ps s with
  |some s'=>match EN cx p g ps s' with|some a=>EO s'.nx a K|none=>none
  |none=>none
def RS.finT(c:NM)(v:AV)(s:St):{α:Type}->RS α->Option α
 |_,.one p hp _ fro _=>match yV v c p hp s with|some y=>some (fro y)|none=>none
 |_,.two l r=>match l.finT c v s with
  |some a=>some (.inl a)|none=>match r.finT c v s with|some b=>some (.inr b)|none=>none
def keeps(s:St):List (Nat×Nat)->Bool
 |[]=>true| (t,b)::r=>(match af s.fr t with
  |some (.ptr b' 0)=>Nat.beq b' b| _=>false)&&keeps s r
def Cx.thrown(cx:Cx){R:Type}(enc:RS R)(x:AV)(s:St):Option R:=match cx.rd,cx.thr with
 | none,some ks=>bif s.noDf&&keeps s ks then(match enc.finT cx.ids x s with
  |some r=>match n9 (enc.res r).1 with|some _=>some r|none=>none
  | none=>none) else none
 |_,_=>none
def run(cx:Cx){R:Type}(enc:RS R)(labs:List (gp R)):Nat->Bool->List fg->St->Option R
 |0,_,_,_=>none|n+1,chk,k,s=>match(bif chk then hQ cx.ids s k labs else none) with
  |some lab=>match lab.ls.get cx.ids (lab.ls.co cx.ids s) with|some d=>lab.F d|none=>none
  |none=>match k with
   |[]=>ra cx enc none s|⟨_,p,a⟩::k'=>match a with
    |.code c=>match c with
     |.skip=>run cx enc labs n true k' s|.label _=>run cx enc labs n true k' s|.seq x y=>run cx enc labs n true (⟨0,0::p,.code x⟩::⟨0,1::p,.code y⟩::k') s|.cond c x y=>match s.ev c with|some (.bool b)=>bif b then run cx enc labs n true (⟨0,0::p,.code x⟩::k') (s.know c true) else run cx enc labs n true (⟨0,1::p,.code y⟩::k') (s.know c false)|some (.val (.bool b))=>bif b then run cx enc labs n true (⟨0,0::p,.code x⟩::k') s else run cx enc labs n true (⟨0,1::p,.code y⟩::k') s|_=>none
     |.block id x=>run cx enc labs n true (⟨0,0::p,.code x⟩::⟨1,p,.inBlock id⟩::k') s|.loop x=>run cx enc labs n true (⟨0,0::p,.code x⟩::⟨2,p,.inLoop x⟩::k') s|.scope x=>run cx enc labs n true (⟨0,0::p,.code x⟩::⟨3,p,.inScope x⟩::k') s|.exit id=>match uh id k' with
      |some k''=>run cx enc labs n true k'' s|none=>match cx.rd with|some _=>ra cx enc (some (.exit id)) s|none=>none
     |.region _ ops d=>bif d then Kr cx.P cx.tb ops (cx.thrown enc) s (fun s'=>run cx enc labs n true k' s'.bump) else hK cx.P cx.tb ops (cx.thrown enc) ops.toList s (fun s'=>run cx enc labs n true k' s'.bump)
     |.ret=>ra cx enc (some .ret) s|.rangeFunc g ps _ _=>EQ cx p g ps.toList s fun j s'=>match j with
      |none=>run cx enc labs n true k' s'|some .ret=>ra cx enc (some .ret) s'|some (.exit id)=>match uh id k' with
       |some k''=>run cx enc labs n true k'' s'|none=>match cx.rd with|some _=>ra cx enc (some (.exit id)) s'|none=>none
     |_=>none
    |.inBlock _=>run cx enc labs n true k' s|.inScope _=>run cx enc labs n true k' s|.inLoop x=>run cx enc labs n true (⟨0,0::p,.code x⟩::⟨2,p,.inLoop x⟩::k') s|.beginRound=>match cx.rd with
     |some m=>match af s.hp m with|some (.loop .ready pe f n' fr ps tag D)=>run cx enc labs n true k' { s with hp:=(m,.loop .busy pe f n' fr ps tag D)::s.hp }|_=>none
     |none=>none
    |_=>none
def sr(P:Program)(g:Option Nat)(f:FuncId)(x:Machine)(cs:List Frame)(Q:Value->World->Prop):Prop:=
 match g with|none=>∃v b a,Q v b/\Steps P x (lone a cs b)/\a.fn=f/\a.mode = .returning/\a.defers=LC.base/\a.kind = .normal/\∃e,P.funcs[a.fn]? = some e/\(results e a.tmps).run P b = .ok v b|some _=>∀c d,cs=c::d->∃v b,Q v b/\Steps P x (lone (c.finish v) d b)
def sr.head{P:Program}{g:Option Nat}{f:FuncId}{x y:Machine}{cs:List Frame}{Q:Value->World->Prop}(h:Steps P x y)(k:sr P g f y cs Q):sr P g f x cs Q:=by
 cases g with
 |none=>obtain⟨v,i,j,b,d,m⟩:=k;exact⟨v,i,j,b,h.trans d,m⟩
 |some l=>exact fun c a e=>by obtain⟨v,i,b,d⟩:=k c a e;exact⟨v,i,b,h.trans d⟩
section
variable{P:Program}{q72:World}{q7w:Gh}{q7z:List (Nat×ag)}{G:Gh}{s:St}{a:Act}{w:World}
def iF(b:Array Value)(x:ResultVar):Sem Value:=match x with|.tmp t=>pure (b.getD t undef)|.cell a t=>do loadVar t (← asAddr (b.getD a undef))
def qrc(c:Func)(b:Array Value):results c b=(do let vs ← c.results.mapM (iF b);pure (if h:vs.size=1 then vs[0] else .tuple vs)):=rfl
def qij(i:aj q72 q7w q7z G s a w){x:ResultVar}{v:AV}(O:LY P s x=true)(h:JA P s x=some v):∃u,(iF a.tmps x).run P w = .ok u w/\ai v G u:=by
 cases x with
 |tmp t=>
  obtain⟨u,e,U⟩:=i.frame t v h;exact⟨u,by simp[iF,Array.getD_eq_getD_getElem?,e],U⟩
 |cell t T=>
  simp only[JA]at h;split at h
  ·rename_i b X p;split at h
   ·rename_i S T' H;obtain⟨u,e,B,C,rfl⟩:=i.frame _ _ p;obtain⟨B',R,q,A,Q,_⟩:=i.fin.mem.holds _ _ H;rw[q]at C;injection C with C;subst C
    obtain⟨z,F,m⟩:=oA (P:=P) (w:=w) h (o:=0) Q (fun j u c=>by rw[wO];exact cell_of_heap A c)
    rw[wO]at F;exact⟨z,by simp[iF,Array.getD_eq_getD_getElem?,e,asAddr,F],m⟩
   ·cases h
  ·rename_i S p;obtain⟨u,e,b,o,rfl,H⟩:=i.frame _ _ p;obtain⟨R,q,A⟩:=H.values;obtain⟨z,F,m⟩:=oA (P:=P) (w:=w) h (o:=o) q (fun j u c=>i.fin.mem.agree _ _ _ (A j u c))
   exact⟨z,by simpa [iF,Array.getD_eq_getD_getElem?,e,asAddr] using F,m⟩
  ·rename_i k Y p;split at h
   ·rename_i τ l E n M r N;simp only[LY,p,M,N,decide_eq_true_eq]at O;cases d:τ.is1&&Nat.beq Y 1<;>rw[d]at h<;>simp only[qT,qF,reduceCtorEq,qI]at h
    subst h;simp only[qA]at d;have J:τ.sz=1:=R2 d.1;obtain⟨u,e,B,n0,c0,V,rfl⟩:=i.frame _ _ p;obtain⟨ad,c',K,L⟩:=i.fin.mem.holds _ _ M;rw[V]at K;simp only[qI,qP]at K;obtain⟨rfl,rfl,rfl⟩:=K;rcases L with⟨L,_⟩|⟨g,R,fz,q,A,Q,k4,k5,k6,W,k8,k9⟩
    ·cases L
    ·simp only[qI,Addr.mk.injEq,and_true]at q;subst q;have y:(l.flatMap τ.enc).length=n:=by rw[cK,J,O,Nat.mul_one]
     have f:l8 P T (l.flatMap τ.enc) 0=some (.agg (l.flatMap τ.enc)):=by
      unfold l8;rw[r,N];have:Nat.ble (0+n) (l.flatMap τ.enc).length=true:=by rw[y,wO];simp
      simp only[this,qT,List.drop_zero];rw[List.take_of_length_le (by rw[y];exact wF _)]
     obtain⟨u,c,Z,rfl,I⟩:=oA (P:=P) (w:=w) f (B:=B) (o:=0) W (fun j u c=>by
      rw[List.getElem?_take]at c;split at c
      ·rw[wO];exact cell_of_heap A c
      ·cases c)
     simp at c;refine⟨.agg Z,by simp[iF,Array.getD_eq_getD_getElem?,e,asAddr,c],?_⟩
     have:=qai (G:=G) d.1 I;simpa using this
   ·cases h
  ·cases h
def PI(g:aj q72 q7w q7z G s a w):∀{xs:List ResultVar}{vs:List AV},Ak P s xs=true->mD P s xs=some vs ->
  ∃us:List Value,(xs.mapM (iF a.tmps)).run P w = .ok us w/\ao vs G us
 |[],vs,_,h=>by simp only[mD,qI]at h;subst h;exact⟨[],Te,trivial⟩|x::xs,vs,hq,h=>by
  simp only[Ak,qA]at hq;simp only[mD]at h;split at h
  ·rename_i v j;split at h
   ·rename_i us e;simp only[qI]at h;subst h;obtain⟨u,i,c⟩:=qij g hq.1 j;obtain⟨f,d,b⟩:=PI g hq.2 e;refine⟨u::f,?_,c,b⟩;rw[List.mapM_cons];simp[Sem.run_bind,i,Result.andThen_ok,d,Sem.run_pure]
   ·cases h
  ·cases h
def qik(n:aj q72 q7w q7z G s a w){e:Func}{v:AV}(m:Ak P s e.results.toList=true)(h:JB P e s=some v):∃u,(results e a.tmps).run P w = .ok u w/\ai v G u:=by
 unfold JB at h;have j:∀f,mD P s e.results.toList=some f->∃c:List Value,(results e a.tmps).run P w = .ok (if h:c.toArray.size=1 then c.toArray[0] else .tuple c.toArray) w/\ao f G c:=fun f i=>by
  obtain⟨c,g,b⟩:=PI n m i;refine⟨c,?_,b⟩;rw[qrc,Array.mapM_eq_mapM_toList];simp only[Sem.run_bind,Sem.run_map,g,Result.andThen_ok,Sem.run_pure]
 split at h
 ·rename_i f i;obtain⟨c,g,b⟩:=j _ i;split at h
  ·simp at h;subst h
   match c,b with|[u],b=>exact⟨u,by rw[g];rfl,b.1⟩|[],b=>exact b.elim|_::_::_,b=>exact b.2.elim
  ·rename_i d;simp at h;subst h;refine⟨.tuple c.toArray,?_,c.toArray,rfl,by simpa using b⟩
   rw[g,dif_neg];intro k;have l:=b.length;simp at k;rw[k]at l
   match f,l,d with|[x],_,d=>exact d x rfl
 ·cases h
def aj.frzC{p:Pt}{b c:Nat}{s:St}{G:Gh}(d:aj q72 q7w q7z G s a w):∃G',aj q72 q7w q7z G' (frzC p b c s) a w:=by
 unfold Sym.frzC;split
 ·exact d.frzL
 ·exact⟨G,d⟩
def aj.coR{bs:List (Nat×bu)}:∀{xs:List ResultVar}{ps:List Pt}{s:St}{G:Gh},aj q72 q7w q7z G s a w->∃G',aj q72 q7w q7z G' (coR bs xs ps s) a w
 |[],_,s,G,hr=>⟨G,hr⟩|x::xs,ps,s,G,hr=>by
  unfold Sym.coR;split
  ·exact⟨G,hr⟩
  ·split
   ·obtain⟨G',b⟩:=hr.coF (bs:=bs) (l:=[(_,_)]);exact aj.coR b
   ·split
    ·obtain⟨G',b⟩:=hr.coB1 (bs:=bs);obtain⟨G2,c⟩:=b.frzC;exact aj.coR c
    ·exact aj.coR hr
def K6(r:Fin q72 q7w q7z G s.hp w){e:NM}(f:∀n bx,af q7z n=some bx->bm e n=some n){v:AV}{p:Pt}{hp:List (Nat×bu)}{y:p.den×ic hp}(h:yV v e p hp s=some y) :
  ∃G',Fin q72 q7w q7z G' (cf hp y.2) w/\∀u,ai v G u->ai (p.put y.1) G' u:=by
 unfold yV at h;split at h
 ·rename_i d z m;split at h
  ·rename_i x b o;cases c:eh b&&y5 b hp<;>rw[c]at h<;>simp only[qT,qF,reduceCtorEq]at h
   have h:=qJ h;subst h;simp at c;obtain⟨k,l⟩:=Pt.get_seen m;obtain⟨g,i⟩:=gG o;obtain⟨j,_⟩:=i b c.1 (dx.refl _);exact⟨G.view b,r.fit c.1 (fun n bx q=>g _ _ (k _ _ (f n bx q))) j,fun u t=>(l b c.1 g).rep t⟩
  ·cases h
 ·cases h
def xK(P:Program)(c:Func)(rv:Option AV)(a:Act)(w:World)(Q:Value->Prop):Prop:=
 match rv with|none=>∃u,(results c a.tmps).run P w = .ok u w/\Q u|some x=>∀b,x = .val (.bool b)->Q (.bool b)
def qmb(o:aj q72 q7w q7z G s a w){c:NM}(f:∀n bx,af q7z n=some bx->bm c n=some n){i:Func}{rv:Option AV}{p:Pt}{hp:List (Nat×bu)}{y:p.den×ic hp}(q:K3 P i c rv p hp s=true)(h:K2 P i c rv p hp s=some y) :
  xK P i rv a w fun u=>∃G',Fin q72 q7w q7z G' (cf hp y.2) w/\ai (p.put y.1) G' u:=by
 unfold K2 at h;split at h
 ·rename_i x;obtain⟨G1,d⟩:=o.coB (bs:=hp) (nm:=nh s hp c) (l:=hp);obtain⟨G',j,k⟩:=K6 d.fin f h;exact fun b e=>⟨G',j,k _ (by subst e;rfl)⟩
 ·split at h
  ·rename_i v t;obtain⟨G1,d⟩:=o.coB (bs:=hp) (nm:=nh s hp c) (l:=hp);obtain⟨G2,g⟩:=d.coR (bs:=hp) (xs:=i.results.toList) (ps:=EF p);obtain⟨G',j,k⟩:=K6 g.fin f h;obtain⟨u,r,m⟩:=qik g q t;exact⟨u,r,G',j,k _ m⟩
  ·cases h
def xK.mono{d:Func}{rv:Option AV}{Q c:Value->Prop}(h:xK P d rv a w Q)(k:∀v,Q v->c v):xK P d rv a w c:=by
 cases rv with
 |none=>obtain⟨u,f,g⟩:=h;exact⟨u,f,k _ g⟩
 |some x=>exact fun b e=>k _ (h b e)
def Ea(f:aj q72 q7w q7z G s a w){c:NM}(b:∀n bx,af q7z n=some bx->bm c n=some n){e:Func}{rv:Option AV}:∀{α:Type}{enc:RS α}{x:α},enc.fin P e c rv s=some x ->
  xK P e rv a w fun u=>∃G',Fin q72 q7w q7z G' (enc.res x).2 w/\ai (enc.res x).1 G' u
 |_,.one p hp tq fro ok,x,h=>by
  simp[RS.fin]at h;cases g:K3 P e c rv p hp s<;>rw[g]at h<;>simp at h
  split at h
  ·rename_i y d;have h:=qJ h;subst h;have:=qmb (P:=P) f b g d;simp[RS.res,ok];exact this
  ·cases h
 |_,.two l r,x,h=>by
  simp[RS.fin]at h;split at h
  ·rename_i y d;have h:=qJ h;subst h;have:=Ea (enc:=l) f b d;exact this
  ·split at h
   ·rename_i y d;have h:=qJ h;subst h;have:=Ea (enc:=r) f b d;exact this
   ·cases h
def K5(e:Fin q72 q7w q7z G s.hp w){d:NM}(b:∀n bx,af q7z n=some bx->bm d n=some n){v:AV}:∀{α:Type}{enc:RS α}{x:α},enc.finT d v s=some x ->
  ∃G',Fin q72 q7w q7z G' (enc.res x).2 w/\∀u,ai v G u->ai (enc.res x).1 G' u
 |_,.one p hp tq fro ok,x,h=>by
  simp only[RS.finT]at h;split at h
  ·rename_i y c;have h:=qJ h;subst h;have:=K6 e b c;simp only[RS.res,ok];exact this
  ·cases h
 |_,.two l r,x,h=>by
  simp only[RS.finT]at h;split at h
  ·rename_i y c;have h:=qJ h;subst h;exact K5 (enc:=l) e b c
  ·split at h
   ·rename_i y c;have h:=qJ h;subst h;exact K5 (enc:=r) e b c
   ·cases h
def Qv:∀{g:List Nat}{s s':St}{G:Gh}{a:Act}{w:World},s.df=g->yI g s=some s'->aj q72 q7w q7z G s a w->∀(fr:Frame)(cs:List Frame),fr.mode = .returning->fr.defers=a.defers++LC.base ->
  ∃w',aj q72 q7w q7z G s' { a with defers:=[] } w'/\Steps P (lone fr cs w) (lone { fr with defers:=LC.base } cs w')
 |[],s,s',G,a,w,hd,h,hr,fr,cs,hm,hfd=>by
  simp[yI,qI]at h;subst h;obtain⟨bs,i,d⟩:=hr.defers;rw[hd]at d;have:bs=[]:=by cases bs with|nil=>rfl|cons _ _=>simp at d
  subst this;refine⟨w,⟨⟨[],rfl,rfl⟩,hr.size,hr.frame,hr.fresh,hr.fin⟩,?_⟩;have e:({ fr with defers:=LC.base }:Frame)=fr:=by rw[← show fr.defers=LC.base by rw[hfd,i];rfl]
  rw[e];exact .refl _ _
 |n::g,s,s',G,a,w,hd,h,hr,fr,cs,hm,hfd=>by
  simp[yI]at h;split at h
  ·rename_i k;obtain⟨bs,i,d⟩:=hr.defers;rw[hd]at d
   cases bs with
   |nil=>simp at d|cons b bs=>
    simp at d;obtain⟨B,l,t,u⟩:=hr.fin.mem.holds n _ k;rw[l]at d;obtain⟨e,d⟩:=d;injection e with e;subst e
    have f:=hr.setBox (bx' := .dead) (o := .deferred none) k (show G.at n .dfr=some b from l) (fun c m=>by cases m) trivial u
    have j:aj q72 q7w q7z G { s with hp:=(n,.dead)::s.hp,df:=g } { a with defers:=bs.map (fun b=>{ target := .collected b,args:=#[] }) } (w.putObj b (.deferred none)):=
     ⟨⟨bs,rfl,d⟩,f.size,f.frame,f.fresh,f.fin⟩
    have p:=step_collected (P:=P) (cs:=cs) (fr:=fr) (by rw[hm];simp) (by rw[hfd,i];rfl) rfl (run_takeDeferred t)
    obtain⟨w',q,r⟩:=Qv (a:={ a with defers:=bs.map (fun b=>{ target := .collected b,args:=#[] }) }) rfl h j { fr with defers:=bs.map (fun b=>{ target := .collected b,args:=#[] })++LC.base } cs hm rfl
    exact⟨w',q,(Steps.one p).trans r⟩
  ·cases h
end
structure Cx.Ok(cx:Cx)(body:Code):Prop where
 ents:∀e∈cx.tb.ents,e.Sound cx.P
 mixed:cx.P.follows .mixedOrders=true
 func:cx.P.funcs[cx.f]? = some cx.fn
 tags:∀p t,qc p cx.tags=some t->∀g ps x y,sub body p = .rangeFunc g ps x y->LC.lc t=some (x,y)
def wa(cx:Cx)(q7w:Gh)(q7z:List (Nat×ag))(b:Frame):Prop:=match cx.rd with|none=>b.roundOf=none|some m=>∃B bx,q7w.box m=some B/\af q7z m=some bx/\b.roundOf=some B
section
variable{q72:World}{q7w:Gh}{q7z:List (Nat×ag)}{G:Gh}{s:St}{a:Act}{w:World}
def qru{P:Program}(fn:FuncId)(tmps:Array Value)(ps:Array Tmp)(b c:Code){l:Nat}{r:Loop}(h:w.heap[l]? = some (.loop r)) :
  (Instr.enterLoop fn tmps ps b c (some l)).run P w = .ok (w.heap.size,[]) (w.alloc (.loop { state := .ready,pending:=none,fn,tmps,params:=ps,assign:=b,body:=c,defers:=r.defers })):=by
 unfold Instr.enterLoop;simp only[Sem.run_bind,run_getLoop h,run_newObj_alloc,Result.andThen,Sem.run_pure]
def RU(g:aj q72 q7w q7z G s a w){k D l:Nat}{f:FuncId}{ps:Array Tmp}{j:Nat}{c m:Code}(h:LC.lc j=some (c,m))(q:af s.hp k=none)(e:s.nx<=k)(u:G.box D=some l)(p:D≠k) :
  aj q72 q7w q7z (G.addBox k w.heap.size) { s with hp:=(k,.loop .ready none f s.n s.fr ps.toList j D)::s.hp } a (w.alloc (.loop { state := .ready,pending:=none,fn:=f,tmps:=a.tmps,params:=ps,assign:=c,body:=m,defers:=l })):=by
 have n:G.le (G.addBox k w.heap.size):=Gh.addBox_le (g.fresh k e q).1;refine g.newBox q e (fun b d => ?_) ⟨w.heap.size,a.tmps,l,Gh.addBox_self,by rw[Gh.addBox_ne p];exact u,⟨c,m,h,?_⟩,g.size,fun i x z => ?_,fun o => ?_⟩
 ·have d:(G.addBox k w.heap.size).box k=some b:=d;rw[Gh.addBox_self]at d;injection d with d;exact d.symm
 ·rw[wu];simp
 ·obtain⟨v,r,t⟩:=g.frame i x z;exact⟨v,r,t.le n⟩
 ·cases y:(G.addBox k w.heap.size).imm w.heap.size o with
  |none=>rfl|some v=>
   have:=World.block_lt_of_cell? _ _ (g.fin.mem.agree _ _ _ y);simp at this
def aj.nx(b:aj q72 q7w q7z G s a w){k:Nat}(h:s.nx<=k):aj q72 q7w q7z G { s with nx:=k } a w:=⟨b.defers,b.size,b.frame,fun m d c=>b.fresh m (Nat.le_trans h d) c,b.fin⟩
def qlz(p:aj q72 q7w q7z G s a w){cx:Cx}{ps:Array Tmp}{z:Nat}{t N:Code}(q:LC.lc z=some (t,N)){L:St}(h:s.enterRF cx.f ps.toList z cx.rd=some L){b:Frame}(i:b.fn=cx.f)(c:wa cx q7w q7z b) :
  ∃C l f8 P,(Instr.enterLoop b.fn a.tmps ps t N b.roundOf).run cx.P w = .ok (l,f8) P/\C.box s.nx=some l/\G.le C/\aj q72 q7w q7z C L { a with defers:=f8++a.defers } P/\L.nx=s.nx+32:=by
 unfold St.enterRF at h;cases H:bq s.nx s.hp<;>rw[H]at h<;>simp at h
 have j:=o9 H s.nx (wF _) Ta
 have u:=o9 H (s.nx+1) Ta Ta
 unfold wa at c;split at h
 ·rename_i F;rw[F]at c;simp only at c;simp at h;subst h;have y:=p.newBox (k:=s.nx+1) (bx := .dfr) (o := .deferred (some [])) u Ta (fun b i=>by
   have i:(G.addBox (s.nx+1) w.heap.size).box (s.nx+1)=some b:=i;rw[Gh.addBox_self]at i;injection i with i;exact i.symm)
   ⟨w.heap.size,Gh.addBox_self,wu _ _,fun o=>by
    cases J:(G.addBox (s.nx+1) w.heap.size).imm w.heap.size o with
    |none=>rfl|some v=>
     have:=World.block_lt_of_cell? _ _ (p.fin.mem.agree _ _ _ J);simp at this⟩
  have n:af ((s.nx+1,ag.dfr)::s.hp) s.nx=none:=by
   simp[af];have:Nat.beq (s.nx+1) s.nx=false:=by
    cases J:Nat.beq (s.nx+1) s.nx
    ·rfl
    ·have:=qN J;omega
   rw[this];exact j
  have r:=RU y (k:=s.nx) (D:=s.nx+1) (f:=cx.f) (ps:=ps) q n (wF _) Gh.addBox_self Ta
  have x:G.le (G.addBox (s.nx+1) w.heap.size):=Gh.addBox_le (p.fresh (s.nx+1) Ta u).1
  have d:(G.addBox (s.nx+1) w.heap.size).le ((G.addBox (s.nx+1) w.heap.size).addBox s.nx (w.alloc (.deferred (some []))).heap.size):=Gh.addBox_le (y.fresh s.nx (wF _) n).1;refine⟨_,w.heap.size+1,[{ target := .collected w.heap.size,args:=#[] }],_,by rw[c,i];exact run_enterLoop_outer _ _ _ _ _,?_,x.trans d,?_,rfl⟩
  ·rw[Gh.addBox_self,World.size_alloc]
  ·have g:=r.nx (k:=s.nx+32) (by show s.nx<=_;omega)
   refine⟨?_,g.size,g.frame,g.fresh,g.fin⟩;obtain⟨R,V,W⟩:=g.defers;refine⟨w.heap.size::R,by rw[V];rfl,?_⟩
   simp only[List.map_cons,List.cons.injEq];refine⟨?_,W⟩;rw[Gh.addBox_ne Ta,Gh.addBox_self]
 ·rename_i m F;rw[F]at c;simp only at c;obtain⟨B,E,S,T,U⟩:=c;split at h
  ·rename_i D X;simp at h;subst h;obtain⟨B',O,DB,A,K,⟨M,Q,_,Y⟩,_⟩:=p.fin.mem.holds _ _ X;have:=p.fin.keep m E B T S;rw[this]at A;injection A with A;subst A
   have I:D≠s.nx:=fun e=>by subst e;rw[(p.fresh _ (wF _) j).1]at K;cases K
   have r:=RU p (k:=s.nx) (D:=D) (f:=cx.f) (ps:=ps) q j (wF _) K I;have d:G.le (G.addBox s.nx w.heap.size):=Gh.addBox_le (p.fresh s.nx (wF _) j).1;refine⟨_,w.heap.size,[],_,by rw[U,i];exact qru _ _ _ _ _ Y,Gh.addBox_self,d,?_,rfl⟩
   exact r.nx (k:=s.nx+32) (by show s.nx<=_;omega)
  ·cases h
end
def KU:Option er->List Item|none=>[]|some j=>[.code j.code]
section
variable{q72:World}{q7w:Gh}{q7z:List (Nat×ag)}{G:Gh}{s:St}{a:Act}{w:World}{cx:Cx}{body:Code}{R:Type}
def qao(ok:cx.Ok body)(hr:aj q72 q7w q7z G s a w){p:List Nat}{g:Operand}{ps:Array Tmp}{r bo:Code}(av:sub body p = .rangeFunc g ps r bo){q:Rq×St×List AV}(o:EN cx p g ps.toList s=some q)
  {K:Option er->St->Option R} {x:R} (h:EO s.nx q K=some x) {b:Frame} (cs:List Frame) (hb:b.fn=cx.f) (a1:b.kind = .normal) (bd:wa cx q7w q7z b) (k:List Item) :
  ∃j s' G' a' w',K j s'=some x/\aj q72 q7w q7z G' s' a' w'/\Steps cx.P (lone (b.atR a.bs (.code (.rangeFunc g ps r bo)::k)) cs w) (lone (b.atR a'.bs (KU j++k)) cs w'):=by
 unfold EN at o;split at o
 ·rename_i br S Q ht hg;split at o
  ·rename_i s1 be;split at o
   ·rename_i q1 bb;have o:=qJ o;subst o;obtain⟨G1,l,f8,J,he,hl,a9,ac,b5⟩:=qlz hr (ok.tags p br ht g ps r bo av) be hb bd;unfold EO at h;obtain⟨d,hd,h⟩:=Rq.K_some h;simp only at h hd;obtain⟨e,F,M⟩:=cI bb;unfold yH at M;cases Y:ww S e.key<;>rw[Y]at M<;>simp only[qT,qF,reduceCtorEq]at M
    obtain⟨N,x1,L,y,k1,k2,k3,k4,k5,k6⟩:=zR M hd;subst k2;have hs:=ok.ents e F x1 L y k1;rw[KW Y]at hs;obtain⟨ba,a6⟩:=hs;unfold qan at h;simp only at h;cases E:eh N&&qz N&&bq s1.nx s1.hp<;>rw[E]at h<;>simp only[qT,qF,reduceCtorEq]at h
    simp only[qA]at E;obtain⟨⟨T,_⟩,a3⟩:=E
    cases O:ja (bf N) s1.hp N with
    |none=>rw[O]at h;simp only[reduceCtorEq]at h|some hpv=>
    cases C:ci false [] (AV.rens (bf N) (.yld s.nx::Q)) (Pts.put e.args x1) with
    |none=>rw[O,C]at h;simp only[reduceCtorEq]at h|some ps1=>
    rw[O,C]at h;simp only at h
    cases n:lz hpv (cf e.hp L) with
    |none=>rw[n]at h;simp only[reduceCtorEq]at h|some ps2=>
    rw[n]at h;simp only at h;have p1:=k5 _ C;have p2:=k6 _ _ O n;obtain⟨fs,f,W,a8,a5⟩:=cm hr hg;have V:fs=#[]:=Array.eq_empty_of_size_eq_zero (by simpa using a8.length.symm)
    subst V;have b2:({ a with defers:=f8++a.defers }:Act).eval g = .func (.func S) #[] f:=W
    have ah:(resolve a.eval (rangeCall g l) 0).run cx.P J = .ok { target := .fn (.func S) f,args:=#[.func (.yield l) #[] #[]] } J:=by
     have hy:a.eval (.const (.func (.yield l) #[] #[])) = .func (.yield l) #[] #[]:=rfl;simp[resolve,W,Deferred.ofValue,hy]
    have X:(invoke (.fn (.func S) f) #[.func (.yield l) #[] #[]]).run cx.P J = .ok (.enter S (#[.func (.yield l) #[] #[]]++f)) J:=by
     simp[invoke,ba _ J]
    have m:=stepR_rangeFunc (P:=cx.P) (b:=b) (a:=a.bs) (k:=k) (cs:=cs) he ah X;have a4:({ a.bs with defers:=f8++a.bs.defers }:Act)=({ a with defers:=f8++a.defers }:Act).bs:=by simp[Act.bs,qS]
    rw[a4]at m;have I:ao (.yld s.nx::Q) G1 (.func (.yield l) #[] #[]::f.toList):=⟨⟨l,hl,rfl⟩,a5.le a9⟩;have hm:c8 (G1.view N) (cf e.hp L) J:=(ac.fin.mem.view O (cC T)).vw n p2;have z:=nk (Gh.le.refl _) (fun e=>by cases e) C p1 (ao.ren (G:=G1) (G':=G1.view N) (fun _ _ _ h=>h) (uz N) (xm N) I)
    have i:=a6 J (G1.view N) _ hm z;have e1:(Value.func (.yield l) #[] #[]::f.toList).toArray=#[.func (.yield l) #[] #[]]++f:=Te
    rw[e1]at i;obtain⟨en,w2,fr,H,t,a7,u⟩:=i (b.atR { a with defers:=f8++a.defers }.bs (.inRangeFunc l::k)::cs)
    obtain⟨G2,v,rfl,_,Z,ad⟩:=zS ac T a3 (wF _) O n p2 H;have A:Steps cx.P (lone (b.atR a.bs (.code (.rangeFunc g ps r bo)::k)) cs w) (lone (b.atR { a with defers:=f8++a.defers }.bs (.endRangeFunc l::k)) cs w2):=by
     refine(Steps.one m).trans (Steps.trans t (.one ?_));rw[← finish_atR_inRangeFunc l v];exact step_leave_returned u
    split at h
    ·rename_i st pe f' n' a2 bk a0 D' aa;cases ab:S3 st<;>rw[ab]at h<;>simp only[qT,qF,reduceCtorEq]at h
     obtain⟨B,b3,DB,i1,i2,⟨b1,b4,_,i3⟩,i4,i5,i6⟩:=ad.fin.mem.holds _ _ aa;have:=Z.box _ _ hl;rw[this]at i1;injection i1 with i1;subst i1
     have U:=run_endLoop (P:=cx.P) i3 (by intro e;simp only at e;subst e;cases ab)
     have an:=stepR_endRangeFunc (b:=b) (a:={ a with defers:=f8++a.defers }.bs) (k:=k) (cs:=cs) U
     have e2:(Option.map Item.code (Option.map er.code pe)).toList=KU pe:=by cases pe<;>rfl
     rw[e2]at an;exact⟨pe,_,G2,{ a with defers:=f8++a.defers },_,h,(ad.nx (k:=s1.nx+32) (Nat.le_add_right _ _)).setBox (bx' := .dead) aa (show G2.at s.nx (.loop st pe f' n' a2 bk a0 D')=some l from this) (fun c M=>by cases M) trivial i6,A.trans (.one an)⟩
    ·cases h
   ·cases o
  ·cases o
 ·cases o
def qrf(v:cx.Ok body)(u:aj q72 q7w q7z G s a w){p:List Nat}{g:Operand}{ps:Array Tmp}{f r:Code}(e:sub body p = .rangeFunc g ps f r)
  {K:Option er->St->Option R} {x:R} (h:EQ cx p g ps.toList s K=some x) {b:Frame} (cs:List Frame) (t:b.fn=cx.f) (d:b.kind = .normal) (i:wa cx q7w q7z b) (k:List Item) :
  ∃j s' G' o w',K j s'=some x/\aj q72 q7w q7z G' s' o w'/\Steps cx.P (lone (b.atR a.bs (.code (.rangeFunc g ps f r)::k)) cs w) (lone (b.atR o.bs (KU j++k)) cs w'):=by
 unfold EQ at h;split at h
 ·rename_i q l;exact qao v u e l h cs t d i k
 ·split at h
  ·rename_i s' c;have:∃G',aj q72 q7w q7z G' s' a w:=by
    unfold qap at c;split at c
    ·split at c
     ·split at c
      ·have c:=qJ c;subst c;obtain⟨G1,n⟩:=u.frzL;exact n.coB
      ·cases c
     ·cases c
    ·cases c
   obtain⟨G',m⟩:=this;split at h
   ·rename_i q l;exact qao v m e l h cs t d i k
   ·cases h
  ·cases h
def fY(cx:Cx){R:Type}(enc:RS R)(r:R):Prop:=match cx.thr with|none=>True|some _=>n9 (enc.res r).1=none
def Sw{R:Type}{enc:RS R}{o:Option R}{r:R}(h:E4 cx enc o=some r):o=some r/\fY cx enc r:=by
 unfold E4 at h;unfold fY;split at h
 ·rename_i b
  (try rw[b])
  exact⟨h,trivial⟩
 ·rename_i b
  (try rw[b])
  split at h
  ·split at h
   ·rename_i c;have:=qJ h;subst this;exact⟨rfl,c⟩
   ·cases h
  ·cases h
def ml(cx:Cx){R:Type}(TT:World->Gh->R->List PanicEntry->Act->World->Prop)(q7z:List (Nat×ag))(enc:RS R)(k:List Item)(s:St)(r:R):Prop:=
 ∀(q72:World)(q7w G:Gh)(a:Act)(w:World),aj q72 q7w q7z G s a w->∀(b:Frame)(c:List Frame),b.fn=cx.f->b.kind = .normal->wa cx q7w q7z b ->
  (fY cx enc r/\sr cx.P b.roundOf cx.f (lone (b.atR a.bs k) c w) c (fun v e=>∃d,Fin q72 q7w q7z d (enc.res r).2 e/\ai (enc.res r).1 d v))\/lf cx.P cx.f (TT q72 q7w r) (lone (b.atR a.bs k) c w) c
def FM(cx:Cx)(j:Option er)(k:List Item):Prop:=match j with|none=>k=[]|some .ret=>∃b,k = .code .ret::b|some (.exit id)=>cx.rd≠none/\∃b,k = .code (.exit id)::b/\exitTo id b=none
def DS(ok:cx.Ok body)(y:∀n bx,af q7z n=some bx->bm cx.ids n=some n){enc:RS R}{j:Option er}{r:R}{k:List Item}(i:FM cx j k)(h:ra cx enc j s=some r){TT:World->Gh->R->List PanicEntry->Act->World->Prop}:ml cx TT q7z enc k s r:=by
 intro q72 q7w G a w E b H Q d e;refine .inl ?_;unfold ra at h;unfold wa at e;split at h
 ·rename_i l;rw[l]at e;simp only at e;split at h
  ·rename_i s' K;obtain⟨h,p⟩:=Sw h;refine⟨p,?_⟩;have h1:Steps cx.P (lone (b.atR a.bs k) H w) (lone { b.atR a.bs k with mode := .returning } H w):=by
    cases j with
    |none=>simp only[FM]at i;subst i;exact .one (stepR_end e)|some j=>cases j with
     |ret=>obtain⟨V,rfl⟩:=i;exact .one (stepR_ret e)
     |exit id=>exact absurd l i.1
   obtain⟨w',t,M⟩:=Qv (P:=cx.P) rfl K E { b.atR a.bs k with mode := .returning } H rfl rfl
   obtain⟨u,u1,u2⟩:=Ea (P:=cx.P) t y h;rw[e];exact⟨u,w',_,u2,h1.trans M,Q,rfl,rfl,d,cx.fn,by rw[← ok.func,← Q];rfl,u1⟩
  ·cases h
 ·rename_i m A;rw[A]at e;simp only at e;obtain⟨B,F,Y,Z,C⟩:=e;cases hd:s.noDf<;>rw[hd]at h<;>simp only[qT,qF,reduceCtorEq]at h
  split at h
  ·rename_i st pe f n fr W N D S;obtain⟨B',tmps,DB,t,M,⟨v,O,i3,T⟩,i5,i6,U⟩:=E.fin.mem.holds _ _ S;have:=E.fin.keep m F B Z Y;rw[this]at t;injection t with t;subst t
   have g:=run_endRound (P:=cx.P) (j.map er.code) T;have z:(j.map er.code).isNone=zi j:=by cases j<;>rfl
   rw[z]at g;have L:(if zi j=true then LoopState.ready else LoopState.done)=(bif zi j then LoopState.ready else LoopState.done):=by cases zi j<;>rfl
   rw[L]at g;have J:=E.setBox (bx' := .loop (bif zi j then .ready else .done) j f n fr W N D) (o := .loop { state:=bif zi j then .ready else .done,pending:=j.map er.code,fn:=f,tmps:=tmps,params:=W.toArray,assign:=v,body:=O,defers:=DB }) S (show G.box m=some B from this)
    (fun c q=>by have q:G.box m=some c:=q;rw[this]at q;injection q with q;exact q.symm)
    ⟨B,tmps,DB,this,M,⟨v,O,i3,by rw[World.putObj_heap_same (Array.getElem?_eq_some_iff.1 T).1]⟩,i5,i6,U⟩ U
   obtain⟨h,p⟩:=Sw h;have x:=Ea (P:=cx.P) J y h;refine⟨p,?_⟩;rw[C];intro c X I;subst I;refine⟨.bool (zi j),_,x _ rfl,.one ?_⟩
   cases j with
   |none=>simp only[FM]at i;subst i;exact stepR_round_end C d g|some j=>cases j with
    |ret=>obtain⟨V,rfl⟩:=i;exact stepR_round_ret C d g
    |exit id=>obtain⟨_,V,rfl,hx⟩:=i;exact stepR_round_exit C d hx g
  ·cases h
end
section
variable{q7z:List (Nat×ag)}{s:St}{cx:Cx}{body:Code}{R:Type}{enc:RS R}{TT:World->Gh->R->List PanicEntry->Act->World->Prop}
def ml.via{k k':List Item}{s':St}{r:R}(h:ml cx TT q7z enc k' s' r)(l:∀q72 q7w G a w,aj q72 q7w q7z G s a w->∀(b:Frame)(cs:List Frame),b.fn=cx.f->b.kind = .normal->wa cx q7w q7z b ->
  ∃G' d w',aj q72 q7w q7z G' s' d w'/\Steps cx.P (lone (b.atR a.bs k) cs w) (lone (b.atR d.bs k') cs w')):ml cx TT q7z enc k s r:=by
 intro q72 q7w G a w j b cs f g c;obtain⟨G',d,w',i,e⟩:=l q72 q7w G a w j b cs f g c
 exact(h q72 q7w G' d w' i b cs f g c).imp (fun x=>⟨x.1,x.2.head e⟩) (·.head e)
def ml.one{k k':List Item}{r:R}(h:ml cx TT q7z enc k' s r)(d:∀(a:Act)(w:World)(b:Frame)(cs:List Frame),step cx.P (lone (b.atR a k) cs w) = .next (lone (b.atR a k') cs w)):ml cx TT q7z enc k s r:=
 h.via fun _ _ G a w c b cs _ _ _=>⟨G,a,w,c,.one (d a.bs w b cs)⟩
def pp(cx:Cx){R:Type}(TT:World->Gh->R->List PanicEntry->Act->World->Prop)(q7z:List (Nat×ag))(enc:RS R)(body:Code)(l:gp R):Prop:=∀d r,l.F d=some r->ml cx TT q7z enc (e9 (nd body l.key)) (l.ls.st d) r
def LI{d:NM}{s:St}{k:List fg}:∀{e:List (gp R)}{l:gp R},hQ d s k e=some l->l∈e/\nC l.key k=true
 |[],_,h=>by cases h
 |x::xs,l,h=>by
  simp only[hQ]at h;cases c:nC x.key k<;>rw[c]at h<;>simp only[qT,qF]at h
  ·obtain⟨a,b⟩:=LI h;exact⟨qE _ a,b⟩
  ·split at h
   ·simp only[qI]at h;subst h;exact⟨qH,c⟩
   ·rename_i g f;split at h
    ·simp only[qI]at h;subst h;exact⟨qH,c⟩
    ·simp only[qI]at h;subst h;obtain⟨a,b⟩:=LI f;exact⟨qE _ a,b⟩
def S6{i:fg}{k:List fg}(h:∀x∈i::k,x.Ok body):i.Ok body/\∀x∈k,x.Ok body:=⟨h _ qH,fun x a=>h x (qE _ a)⟩
def oy{i:fg}{k:List fg}(h:i.Ok body)(k':∀x∈k,x.Ok body):∀x∈i::k,x.Ok body:=fun x a=>by
 rcases List.mem_cons.1 a with rfl|a
 ·exact h
 ·exact k' x a
def qkn{a:Nat}{p:List Nat}{c:Code}(h:(fg.mk a p (.code c)).Ok body):sub body p=c:=qn5 h
def wj{p:List Nat}{c:Code}(i:Nat){x:Code}(h:sub body p=c)(a:y9 i c=x):(fg.mk 0 (i::p) (.code x)).Ok body:=by
 show Item.code x = .code (y9 i (sub body p));rw[h,a]
def qjk{p:List Nat}{id:Nat}{x:Code}(h:sub body p = .block id x):(fg.mk 1 p (.inBlock id)).Ok body:=by
 show Item.inBlock id=(match sub body p with | .block id _ => .inBlock id|c => .code c)
 rw[h]
def RT{p:List Nat}{x:Code}(h:sub body p = .loop x):(fg.mk 2 p (.inLoop x)).Ok body:=by
 show Item.inLoop x=(match sub body p with | .loop x => .inLoop x|c => .code c)
 rw[h]
def qs1{P:Program}{b:Frame}{a:Act}{k:List Item}{cs:List Frame}{w:World}{x:Code}:step P (lone (b.atR a (.inScope x::k)) cs w) = .next (lone (b.atR a k) cs w):=
 step_lone_go (by simp[stepG,stepG.exec,Frame.atR])
def qs2{P:Program}{b:Frame}{a:Act}{k:List Item}{cs:List Frame}{w:World}{c:Code} :
  step P (lone (b.atR a (.code (.scope c)::k)) cs w) = .next (lone (b.atR a (.code c :: .inScope c::k)) cs w):=
 step_lone_go (by simp[stepG,stepG.exec,Frame.atR])
def qsf{p:List Nat}{x:Code}(h:sub body p = .scope x):(fg.mk 3 p (.inScope x)).Ok body:=by
 show Item.inScope x=(match sub body p with | .scope x => .inScope x|c => .code c)
 rw[h]
def Kz{id:Nat}:∀{k:List fg},uh id k=none->(∀i∈k,i.Ok body)->exitTo id (e9 k)=none
 |[],_,_=>rfl|⟨f,p,e⟩::k,h,hk=>by
  simp only[uh]at h;have a:=(S6 hk).2;split at h
  ·rename_i d;split at h
   ·cases h
   ·rename_i c;simp only[e9,exitTo];rw[qW c];exact Kz h a
  ·rename_i b;have:=Kz h a;simp only[e9];cases e<;>first
    |(exfalso;exact b _ rfl)
    |(simp only[exitTo];exact this)
abbrev IH(cx:Cx){R:Type}(TT:World->Gh->R->List PanicEntry->Act->World->Prop)(q7z:List (Nat×ag))(enc:RS R)(body:Code)(labs:List (gp R))(n:Nat):Prop:=
 ∀(a:Bool)(k:List fg)(s:St)(r:R),(∀i∈k,i.Ok body)->run cx enc labs n a k s=some r->ml cx TT q7z enc (e9 k) s r
def iG(cx:Cx){R:Type}(enc:RS R)(labs:List (gp R))(n:Nat)(p:List Nat)(k':List fg)(s:St)(c:Code):Option R:=match c with
 |.skip=>run cx enc labs n true k' s|.label _=>run cx enc labs n true k' s|.seq x y=>run cx enc labs n true (⟨0,0::p,.code x⟩::⟨0,1::p,.code y⟩::k') s|.cond c x y=>match s.ev c with|some (.bool b)=>bif b then run cx enc labs n true (⟨0,0::p,.code x⟩::k') (s.know c true) else run cx enc labs n true (⟨0,1::p,.code y⟩::k') (s.know c false)|some (.val (.bool b))=>bif b then run cx enc labs n true (⟨0,0::p,.code x⟩::k') s else run cx enc labs n true (⟨0,1::p,.code y⟩::k') s|_=>none
 |.block id x=>run cx enc labs n true (⟨0,0::p,.code x⟩::⟨1,p,.inBlock id⟩::k') s|.loop x=>run cx enc labs n true (⟨0,0::p,.code x⟩::⟨2,p,.inLoop x⟩::k') s|.scope x=>run cx enc labs n true (⟨0,0::p,.code x⟩::⟨3,p,.inScope x⟩::k') s|.exit id=>match uh id k' with
  |some k''=>run cx enc labs n true k'' s|none=>match cx.rd with|some _=>ra cx enc (some (.exit id)) s|none=>none
 |.region _ ops d=>bif d then Kr cx.P cx.tb ops (cx.thrown enc) s (fun a=>run cx enc labs n true k' a.bump) else hK cx.P cx.tb ops (cx.thrown enc) ops.toList s (fun a=>run cx enc labs n true k' a.bump)
 |.ret=>ra cx enc (some .ret) s|.rangeFunc g ps _ _=>EQ cx p g ps.toList s fun j a=>match j with
  |none=>run cx enc labs n true k' a|some .ret=>ra cx enc (some .ret) a|some (.exit id)=>match uh id k' with
   |some k''=>run cx enc labs n true k'' a|none=>match cx.rd with|some _=>ra cx enc (some (.exit id)) a|none=>none
 |_=>none
def qrt{labs:List (gp R)}{n:Nat}(m:IH cx TT q7z enc body labs n){p:List Nat}{k':List fg}{c:Operand}{x y:Code}{r:R}(d:sub body p = .cond c x y)(g:∀i∈k',i.Ok body)(h:iG cx enc labs n p k' s (.cond c x y)=some r):ml cx TT q7z enc (.code (.cond c x y)::e9 k') s r:=by
 unfold iG at h;simp only at h;split at h
 ·rename_i t l;cases t<;>simp only[qT,qF]at h
  ·refine(m true _ _ r (oy (wj 1 d rfl) g) h).via fun j k G a w e b o _ _ _ => ?_
   have f:a.eval c = .bool false:=cm e l;exact⟨G,a,w,e.know f,.one (stepR_cond (a:=a.bs) f)⟩
  ·refine(m true _ _ r (oy (wj 0 d rfl) g) h).via fun j k G a w e b o _ _ _ => ?_
   have f:a.eval c = .bool true:=cm e l;exact⟨G,a,w,e.know f,.one (stepR_cond (a:=a.bs) f)⟩
 ·rename_i t l;cases t<;>simp only[qT,qF]at h
  ·refine(m true _ _ r (oy (wj 1 d rfl) g) h).via fun j k G a w e b o _ _ _ => ?_
   have f:a.eval c = .bool false:=cm e l;exact⟨G,a,w,e,.one (stepR_cond (a:=a.bs) f)⟩
  ·refine(m true _ _ r (oy (wj 0 d rfl) g) h).via fun j k G a w e b o _ _ _ => ?_
   have f:a.eval c = .bool true:=cm e l;exact⟨G,a,w,e,.one (stepR_cond (a:=a.bs) f)⟩
 ·cases h
def xL(cx:Cx){R:Type}(TT:World->Gh->R->List PanicEntry->Act->World->Prop)(q7z:List (Nat×ag))(enc:RS R):Prop:=
 ∀(t:TypeId)(n:Int)(s:St)(r:R),cx.thrown enc (f8 t n) s=some r->∀(b:World)(c G:Gh)(a:Act)(w:World),ji b c q7z G s a w->TT b c r [{ v:=wv t n,recovered:=false }] a w
def qry(H:xL cx TT q7z enc)(J:cx.Ok body){labs:List (gp R)}{n:Nat}(K:IH cx TT q7z enc body labs n){p:List Nat}{k':List fg}{id:Nat}{ops:Array Oper}{d:Bool}{r:R}(F:∀i∈k',i.Ok body)(h:iG cx enc labs n p k' s (.region id ops d)=some r):ml cx TT q7z enc (.code (.region id ops d)::e9 k') s r:=by
 unfold iG at h;simp only at h;cases d<;>simp only[qT,qF]at h
 ·intro c f G a w I b o E q A;have u:=SB (P:=cx.P) (ops:=ops) J.ents (TT:=TT c f r) (N:=fun k g=>(fY cx enc r/\sr cx.P b.roundOf cx.f (lone (b.atR k.bs (e9 k')) o g) o (fun v g=>∃m,Fin c f q7z m (enc.res r).2 g/\ai (enc.res r).1 m v))\/lf cx.P cx.f (TT c f r) (lone (b.atR k.bs (e9 k')) o g) o)
   (fun B y m k g l=>K true k' B.bump r F y c f m k g l.bump b o E q A) (fun t n B y m k g l=>H t n B r y c f m k g l) ops.toList 0 s G a w (fun j M=>Te) h I
  have e:List.range' 0 ops.toList.length=List.range ops.size:=by simp[List.range_eq_range']
  rw[e]at u;rcases qky (id:=id) u b (e9 k') o q with⟨k,g,z,C⟩|z
  ·exact z.imp (fun x=>⟨x.1,x.2.head C⟩) (·.head C)
  ·exact .inr (E▸z)
 ·intro c f G a w I b o E q A;have L:=qlr (P:=cx.P) J.ents J.mixed h (TT:=TT c f r) (N:=fun k g=>(fY cx enc r/\sr cx.P b.roundOf cx.f (lone (b.atR k.bs (e9 k')) o g) o (fun v g=>∃m,Fin c f q7z m (enc.res r).2 g/\ai (enc.res r).1 m v))\/lf cx.P cx.f (TT c f r) (lone (b.atR k.bs (e9 k')) o g) o)
   (fun B y m k g l=>K true k' B.bump r F y c f m k g l.bump b o E q A) (fun t n B y m k g l=>H t n B r y c f m k g l) I id b (e9 k') o q
  rcases L with⟨k,g,z,C⟩|z
  ·exact z.imp (fun x=>⟨x.1,x.2.head C⟩) (·.head C)
  ·exact .inr (E▸z)
def qa1(q:cx.Ok body)(e:∀n bx,af q7z n=some bx->bm cx.ids n=some n){labs:List (gp R)}{n:Nat}(p:IH cx TT q7z enc body labs n){k':List fg}{id:Nat}{r:R}(d:∀i∈k',i.Ok body)
  (h:(match uh id k' with
   |some c=>run cx enc labs n true c s|none=>match cx.rd with
    |some _=>ra cx enc (some (.exit id)) s| none=>none)=some r):ml cx TT q7z enc (.code (.exit id)::e9 k') s r:=by
 split at h
 ·rename_i c f;obtain⟨g,k⟩:=K0 f;exact(p true c s r (fun i l=>d i (k i l)) h).one fun a w b t=>stepR_exit g
 ·rename_i f;split at h
  ·rename_i m o;exact DS q e (j:=some (.exit id)) ⟨by rw[o];simp,_,rfl,Kz f d⟩ h
  ·cases h
def qrx(A:cx.Ok body)(m:∀n bx,af q7z n=some bx->bm cx.ids n=some n){labs:List (gp R)}{n:Nat}(E:IH cx TT q7z enc body labs n){p:List Nat}{k':List fg}{g:Operand}{ps:Array Tmp}{e x:Code}{r:R}(q:sub body p = .rangeFunc g ps e x)(o:∀i∈k',i.Ok body)
  (h:iG cx enc labs n p k' s (.rangeFunc g ps e x)=some r):ml cx TT q7z enc (.code (.rangeFunc g ps e x)::e9 k') s r:=by
 unfold iG at h;simp only at h;intro f l G a w F b t u c d;obtain⟨j,H,G',v,B,y,z,C⟩:=qrf A F q h t u c d (e9 k');refine Or.imp (And.imp_right (sr.head C)) (lf.head C) ?_
 cases j with
 |none=>exact E true k' H r o y f l G' v B z b t u c d|some j=>cases j with|ret=>exact DS A m (j:=some .ret) (k := .code .ret::e9 k') ⟨_,rfl⟩ y f l G' v B z b t u c d|exit id=>exact qa1 A m E o y f l G' v B z b t u c d
def qrs(t:xL cx TT q7z enc)(q:cx.Ok body)(m:∀n bx,af q7z n=some bx->bm cx.ids n=some n){labs:List (gp R)}{n:Nat}(k:IH cx TT q7z enc body labs n){z:Nat}{p:List Nat}{k':List fg}{c:Code}{r:R}(v:(fg.mk z p (.code c)).Ok body)(f:∀i∈k',i.Ok body)
  (h:iG cx enc labs n p k' s c=some r):ml cx TT q7z enc (.code c::e9 k') s r:=by
 have e:=qkn v
 cases c with
 |skip=>exact(k true k' s r f h).one fun a w b o=>stepR_skip
 |label l=>exact(k true k' s r f h).one fun a w b o=>stepR_label
 |seq x y=>exact(k true _ s r (oy (wj 0 e rfl) (oy (wj 1 e rfl) f)) h).one fun a w b o=>stepR_seq
 |cond c x y=>exact qrt k e f h|block id x=>exact(k true _ s r (oy (wj 0 e rfl) (oy (qjk e) f)) h).one fun a w b o=>stepR_block
 |loop x=>exact(k true _ s r (oy (wj 0 e rfl) (oy (RT e) f)) h).one fun a w b o=>stepR_loop
 |scope x=>exact(k true _ s r (oy (wj 0 e rfl) (oy (qsf e) f)) h).one fun a w b o=>qs2
 |exit id=>exact qa1 q m k f h|region id ops d=>exact qry t q k f h|ret=>exact DS q m (j:=some .ret) ⟨_,rfl⟩ h|rangeFunc g B u A=>exact qrx q m k e f h|_=>cases h
def qrr{labs:List (gp R)}{n:Nat}(M:IH cx TT q7z enc body labs n){k':List fg}{r:R}(q:∀i∈k',i.Ok body)
  (h:(match cx.rd with
   |some m=>match af s.hp m with|some (.loop .ready v f u fr ps e D)=>run cx enc labs n true k' { s with hp:=(m,.loop .busy v f u fr ps e D)::s.hp }|_=>none
   | none=>none)=some r):ml cx TT q7z enc (.beginRound::e9 k') s r:=by
 split at h
 ·rename_i m H;split at h
  ·rename_i v f u fr ps e D x;refine(M true k' _ r q h).via fun N O G a w t b Q _ _ d => ?_
   unfold wa at d;rw[H]at d;simp only at d;obtain⟨B,o,C,E,F⟩:=d;obtain⟨B',j,DB,k,I,⟨l,A,J,y⟩,K,L,z⟩:=t.fin.mem.holds _ _ x;have:=t.fin.keep m o B E C;rw[this]at k;injection k with k;subst k
   have p:=run_beginRound (P:=cx.P) y rfl;exact⟨G,a,_,t.setBox (bx' := .loop .busy v f u fr ps e D) x (show G.box m=some B from this)
    (fun c g=>by have g:G.box m=some c:=g;rw[this]at g;injection g with g;exact g.symm)
    ⟨B,j,DB,this,I,⟨l,A,J,by rw[World.putObj_heap_same (Array.getElem?_eq_some_iff.1 y).1]⟩,K,L,z⟩ z,.one (stepR_beginRound F p)⟩
  ·cases h
 ·cases h
def Mb(z:xL cx TT q7z enc)(C:cx.Ok body)(j:∀n bx,af q7z n=some bx->bm cx.ids n=some n){labs:List (gp R)}(q:∀l∈labs,pp cx TT q7z enc body l) :
  ∀(n:Nat)(e:Bool)(k:List fg)(s:St)(r:R),(∀i∈k,i.Ok body)->run cx enc labs n e k s=some r->ml cx TT q7z enc (e9 k) s r:=by
 intro n
 induction n with
 |zero=>intro e k s r _ h;cases h
 |succ n ih=>
  intro e k s r u h;unfold run at h
  cases m:(bif e then hQ cx.ids s k labs else none) with
  |some lab=>
   rw[m]at h;have m:hQ cx.ids s k labs=some lab:=by cases e<;>simp only[qT,qF,reduceCtorEq]at m;exact m
   obtain⟨F,o⟩:=LI m;simp only at h;split at h
   ·rename_i d E;have A:=q lab F d r h;rw[QO o u]at A;refine A.via fun J K G a w H b t _ _ _ => ?_
    obtain⟨G1,v⟩:=H.co lab.ls cx.ids;obtain⟨G2,y⟩:=v.fit j E;exact⟨G2,a,w,y,.refl _ _⟩
   ·cases h
  |none=>
   rw[m]at h;simp only at h;clear m
   cases k with
   |nil=>exact DS C j (by rfl) h|cons i k'=>
    obtain⟨L,p,I⟩:=i;obtain⟨B,f⟩:=S6 u;clear u
    cases I with
    |code c=>exact qrs z C j ih B f h|inBlock id=>exact(ih true k' s r f h).one fun a w b t=>stepR_inBlock
    |inScope id=>exact(ih true k' s r f h).one fun a w b t=>qs1
    |inLoop x=>
     have g:sub body p = .loop x:=qn6 B;exact(ih true _ s r (oy (wj 0 g rfl) (oy (RT g) f)) h).one fun a w b t=>stepR_inLoop
    |beginRound=>exact qrr ih f h|_=>cases h
end
def CY{R:Type}:World->Gh->R->List PanicEntry->Act->World->Prop:=fun _ _ _ _ _ _=>False
def qpm{P:Program}{f:FuncId}{R:Type}{q72:World}{q7w:Gh}{r:R}{x:Machine}{cs:List Frame}{A:Prop}(h:A\/lf P f (CY q72 q7w r) x cs):A:=
 h.resolve_right fun⟨_,_,_,_,h,_⟩=>h.elim
def Db(ks:List (Nat×Nat)){R:Type}(q7z:List (Nat×ag))(enc:RS R):World->Gh->R->List PanicEntry->Act->World->Prop:=fun d c r b a h=>
 ∃t n,n9 (enc.res r).1=some (t,n)/\b=[{ v:=wv t n,recovered:=false }]/\a.defers=[]/\(∀e∈ks,∃B,a.tmps[e.1]? = some (.pointer (some ⟨B,0,none⟩))/\∀bx f,af q7z e.2=some bx->c.box e.2=some f->B=f)/\∃g,Fin d c q7z g (enc.res r).2 h
def Cx.TT(cx:Cx){R:Type}(q7z:List (Nat×ag))(enc:RS R):World->Gh->R->List PanicEntry->Act->World->Prop:=match cx.thr with|none=>CY|some ks=>Db ks q7z enc
def qo3{x:AV}{t:TypeId}{n:Int}(h:n9 x=some (t,n)):x=f8 t n:=by
 unfold n9 at h;split at h
 ·simp only[qI,qP]at h;obtain⟨rfl,rfl⟩:=h;rfl
 ·cases h
def Lm(t:TypeId)(n:Int):Value := .tuple #[undef,wv t n]
def qq2{t:TypeId}{n:Int}{G:Gh}:ai (f8 t n) G (Lm t n):=⟨_,rfl,trivial,⟨_,rfl,_,rfl,rfl,trivial⟩,trivial⟩
def qq3{t d:TypeId}{n c:Int}{G:Gh}(h:ai (f8 t n) G (Lm d c)):d=t/\c=n:=by
 obtain⟨i,f,h⟩:=h;obtain⟨l⟩:=i;simp only[Lm,Value.tuple.injEq]at f
 match l,h with
 |[x,y],h=>
  have e:y=wv d c:=by
   have:=congrArg (fun q=>q.toList[1]?) f
   simp at this;exact this.symm
  obtain⟨_,⟨u,a,j,b,g⟩,_⟩:=h;rw[e]at a;simp only[wv,Value.iface.injEq]at a;obtain⟨rfl,a⟩:=a;rw[← a]at b;simp only[Value.agg.injEq]at b;subst b;have:=g.1;simp only[ai,Value.int.injEq,true_and]at this;exact⟨rfl,this⟩
def RE{q72:World}{q7w:Gh}{q7z:List (Nat×ag)}{G:Gh}{s:St}{a:Act}{w:World}(f:ji q72 q7w q7z G s a w):∀{ks:List (Nat×Nat)},keeps s ks=true->∀e∈ks,∃B,a.tmps[e.1]? = some (.pointer (some ⟨B,0,none⟩))/\∀bx c,af q7z e.2=some bx->q7w.box e.2=some c->B=c
 |[],_,e,he=>by cases he
 |(t,b)::ks,h,e,he=>by
  simp only[keeps,qA]at h;rcases List.mem_cons.1 he with rfl|he
  ·have d:=h.1;split at d
   ·rename_i m j;have:=qN d;subst this;obtain⟨v,k,B,l,rfl⟩:=f.frame _ _ j;refine⟨B,k,fun bx c g i => ?_⟩
    have:=f.fin.keep _ _ _ g i;rw[l]at this;exact qJ this
   ·cases d
  ·exact RE f h.2 e he
def Cx.thOk{cx:Cx}{R:Type}{q7z:List (Nat×ag)}{enc:RS R}(c:∀n bx,af q7z n=some bx->bm cx.ids n=some n):xL cx (cx.TT q7z enc) q7z enc:=by
 intro t n s r h u v G a w d;unfold Cx.thrown at h;split at h
 ·rename_i q _ p;cases b:s.noDf&&keeps s q<;>rw[b]at h<;>simp only[qT,qF,reduceCtorEq]at h
  simp only[qA]at b;split at h
  ·rename_i z o;split at h
   ·rename_i x i;have:=qJ h;subst this;obtain⟨A,y⟩:=x;unfold Cx.TT;rw[p];obtain⟨G',k,l⟩:=K5 d.fin c o;have g:=l _ qq2;rw[qo3 i]at g;obtain⟨rfl,rfl⟩:=qq3 g;refine⟨_,_,i,rfl,?_,RE d b.2,G',k⟩;obtain⟨e,j,f⟩:=d.defers;have m:s.df=[]:=by
     have:=b.1;unfold St.noDf at this;split at this
     ·assumption
     ·cases this
    rw[m]at f;have:e=[]:=by cases e with|nil=>rfl|cons _ _=>simp at f
    rw[j,this];rfl
   ·cases h
  ·cases h
 ·cases h
def St.reCell(s:St)(b a:Nat):St:=
 match af s.hp b with
 |some (.cells cs T)=>match cs[a]? with
  |some (.own k)=>match af s.hp k with|some (.row τ l E)=>bif bq s.nx s.hp then{ s with hp:=(b,.cells (cs.set a (.own s.nx)) T)::(s.nx,.row τ l E)::(k,.dead)::s.hp,nx:=s.nx+32 } else s|_=>s
  |_=>s
 |_=>s
def En:Pt->Bool|.own _=>true|_=>false
def reB1(b:Nat):List Pt->Nat->St->St|[],_,s=>s|p::ps,off,s=>reB1 b ps (off+1) (bif En p then s.reCell b off else s)
def reB:List (Nat×bu)->St->St
 |[],s=>s|(n,p)::r,s=>match p with|.cells ps _=>reB r (reB1 n ps 0 s)|_=>reB r s
def St.reSlot(s:St)(i:Nat):St:=
 match af s.fr i with
 |some (.own k)=>match af s.hp k with|some (.row τ l E)=>bif bq s.nx s.hp&&Nat.blt i s.n then{ s with fr:=(i,.own s.nx)::s.fr,hp:=(s.nx,.row τ l E)::(k,.dead)::s.hp,nx:=s.nx+32 } else s|_=>s
 |_=>s
def reA:List Pt->Nat->St->St|[],_,s=>s|p::ps,i,s=>reA ps (i+1) (bif En p then s.reSlot i else s)
section
variable{q72:World}{q7w:Gh}{q7z:List (Nat×ag)}{G:Gh}{s:St}{a:Act}{w:World}
def Fin.rename{hp:List (Nat×ag)}(d:Fin q72 q7w q7z G hp w){k k':Nat}{τ:Ty}{l:List τ.den}{E:TypeId}{v:Option Addr×Nat×Nat}(z:af hp k=some (.row τ l E))(L:af hp k'=none)(F:G.own k'=none)(I:G.own k=some v) :
  Fin q72 q7w q7z (G.addOwn k' v) ((k',.row τ l E)::(k,.dead)::hp) w:=by
 have f:G.le (G.addOwn k' v):=Gh.addOwn_le F;have o:∀m b,af ((k',ag.row τ l E)::(k,.dead)::hp) m=some b->(m=k'/\b = .row τ l E)\/b = .dead\/(m≠k/\af hp m=some b):=fun m b h=>by
  simp[af]at h;cases C:Nat.beq k' m
  ·rw[C]at h;cases r:Nat.beq k m
   ·rw[r]at h;exact .inr (.inr ⟨fun e=>by subst e;simp at r,h⟩)
   ·rw[r]at h;simp at h;exact .inr (.inl h.symm)
  ·rw[C]at h;simp at h;exact .inl ⟨(qN C).symm,h.symm⟩
 have q:(G.addOwn k' v).at k' (.row τ l E)=G.at k (.row τ l E):=by simp[Gh.at,Gh.addOwn_self,I]
 refine⟨⟨d.mem.agree,d.mem.one,?_,?_,d.mem.tab⟩,d.bel,d.imm_le,d.imm_new,?_,fun n bx B i g=>f.box _ _ (d.keep n bx B i g),fun n bx B i g=>f.own _ _ (d.keepOwn n bx B i g)⟩
 ·intro m b h;rcases o m b h with⟨rfl,rfl⟩|rfl|⟨_,h⟩
  ·obtain⟨K,c,A,M⟩:=d.mem.holds k _ z;rw[I]at A;injection A with A;subst A
   exact⟨K,c,Gh.addOwn_self,M⟩
  ·trivial
  ·exact(d.mem.holds m b h).mono f (fun _ _=>rfl) (fun _ _ _ h => .inl h)
 ·intro m u b t c i g j p;rcases o m b i with⟨rfl,rfl⟩|rfl|⟨J,x⟩<;>rcases o u t g with⟨H,rfl⟩|rfl|⟨n2,y⟩
  ·exact H.symm
  ·cases p
  ·rw[q]at j;rw[(d.mem.holds u t y).at_le f]at p;exact absurd (d.mem.apart u k t _ c y z p j) n2
  ·cases j
  ·cases j
  ·cases j
  ·subst H;rw[q]at p;rw[(d.mem.holds m b x).at_le f]at j;exact absurd (d.mem.apart m k b _ c x z j p) J
  ·cases p
  ·rw[(d.mem.holds m b x).at_le f]at j;rw[(d.mem.holds u t y).at_le f]at p;exact d.mem.apart m u b t c x y j p
 ·intro m b c i g;rcases o m b i with⟨rfl,rfl⟩|rfl|⟨J,i⟩
  ·rw[q]at g;exact d.base k _ c z g
  ·cases g
  ·rw[(d.mem.holds m b i).at_le f]at g;exact d.base m b c i g
def aj.reCell(f:aj q72 q7w q7z G s a w)(b g:Nat):∃G',aj q72 q7w q7z G' (s.reCell b g) a w:=by
 unfold St.reCell;split
 ·rename_i H T n;split
  ·rename_i k N;split
   ·rename_i τ l E h;cases Z:bq s.nx s.hp
    ·exact⟨G,f⟩
    ·simp;have C:=o9 Z s.nx (wF _) Ta
     obtain⟨q,c,R,_⟩:=f.fin.mem.holds k _ h;have d:=f.fresh s.nx (wF _) C;have o:G.le (G.addOwn s.nx (q,l.length,c)):=Gh.addOwn_le d.2;have Q:=f.fin.rename h C d.2 R;have K:s.nx≠b:=fun e=>by rw[e,n]at C;cases C
     have y:k≠b:=fun e=>by rw[e,n]at h;cases h
     have u:af ((s.nx,ag.row τ l E)::(k,.dead)::s.hp) b=some (.cells H T):=by
      simp[af];cases L:Nat.beq s.nx b
      ·cases p:Nat.beq k b
       ·exact n
       ·exact absurd (qN p) y
      ·exact absurd (qN L) K
     obtain⟨B,F,O,k2,S,k4,U⟩:=Q.mem.holds _ _ u;have hv:F.toList[g]? = some (.slice q l.length c):=by
      obtain⟨v,r,t⟩:=ni S N;obtain⟨a',n',c',A,P⟩:=t;rw[o.own _ _ R]at A;simp at A;obtain⟨rfl,rfl,rfl⟩:=A;subst P;exact r
     have z:F.toList.set g (.slice q l.length c)=F.toList:=by
      obtain⟨X,W⟩:=List.getElem?_eq_some_iff.1 hv;rw[← W,List.set_getElem_self]
     refine⟨G.addOwn s.nx (q,l.length,c),⟨by obtain⟨V,A,P⟩:=f.defers;exact⟨V,A,wo o.box P⟩,f.size,fun j x hx=>by obtain⟨v,r,t⟩:=f.frame j x hx;exact⟨v,r,t.le o⟩,fun m Y i => ?_,?_⟩⟩
     ·simp only at Y;have J:s.nx≠m:=Ta
      simp[af]at i;cases L:Nat.beq b m<;>rw[L]at i<;>simp at i
      cases M:Nat.beq s.nx m<;>rw[M]at i<;>simp at i
      cases p:Nat.beq k m<;>rw[p]at i<;>simp at i
      obtain⟨r,t⟩:=f.fresh m Ta i
      refine⟨r,?_⟩;show(bif Nat.beq m s.nx then some _ else G.own m)=none
      cases I:Nat.beq m s.nx
      ·exact t
      ·exact absurd (qN I).symm J
     ·refine Q.update (bx := .cells H T) (bx' := .cells (H.set g (.own s.nx)) T) u (B:=B) O O ⟨rfl,rfl,rfl,wF _,fun _ _ _=>rfl⟩ ⟨B,F,O,k2,?_,k4,U⟩ U
      have:=Aj g S (x := .own s.nx) (v := .slice q l.length c) ⟨q,l.length,c,Gh.addOwn_self,rfl⟩
      rwa [z]at this
   ·exact⟨G,f⟩
  ·exact⟨G,f⟩
 ·exact⟨G,f⟩
def aj.reSlot(d:aj q72 q7w q7z G s a w)(i:Nat):∃G',aj q72 q7w q7z G' (s.reSlot i) a w:=by
 unfold St.reSlot;split
 ·rename_i k A;split
  ·rename_i τ l E h;cases F:bq s.nx s.hp&&Nat.blt i s.n
   ·exact⟨G,d⟩
   ·simp;simp at F;have C:=o9 F.1 s.nx (wF _) Ta
    obtain⟨p,c,H,_⟩:=d.fin.mem.holds k _ h;have b:=d.fresh s.nx (wF _) C;have n:G.le (G.addOwn s.nx (p,l.length,c)):=Gh.addOwn_le b.2;refine⟨G.addOwn s.nx (p,l.length,c),⟨by obtain⟨I,o,B⟩:=d.defers;exact⟨I,o,wo n.box B⟩,d.size,fun j x f => ?_,fun m J e => ?_,d.fin.rename h C b.2 H⟩⟩
    ·simp[af]at f;cases u:Nat.beq i j
     ·rw[u]at f;obtain⟨v,g,q⟩:=d.frame j x f;exact⟨v,g,q.le n⟩
     ·rw[u]at f;simp at f;subst f;have:=qN u;subst this;obtain⟨v,g,K,M,L,o,B⟩:=d.frame i _ A;rw[H]at o;simp at o;obtain⟨rfl,rfl,rfl⟩:=o;exact⟨v,g,p,l.length,c,Gh.addOwn_self,B⟩
    ·simp only at J;have t:s.nx≠m:=Ta
     simp[af]at e;cases y:Nat.beq s.nx m<;>rw[y]at e<;>simp at e
     cases z:Nat.beq k m<;>rw[z]at e<;>simp at e
     obtain⟨g,q⟩:=d.fresh m Ta e
     refine⟨g,?_⟩;show(bif Nat.beq m s.nx then some _ else G.own m)=none
     cases r:Nat.beq m s.nx
     ·exact q
     ·exact absurd (qN r).symm t
  ·exact⟨G,d⟩
 ·exact⟨G,d⟩
def aj.reA:∀{ps:List Pt}{i:Nat}{s:St}{G:Gh},aj q72 q7w q7z G s a w->∃G',aj q72 q7w q7z G' (reA ps i s) a w
 |[],_,s,G,hr=>⟨G,hr⟩|p::ps,i,s,G,hr=>by
  unfold Sym.reA;cases En p
  ·exact aj.reA hr
  ·obtain⟨G',b⟩:=hr.reSlot i;exact aj.reA b
def aj.reB1{b:Nat}:∀{ps:List Pt}{c:Nat}{s:St}{G:Gh},aj q72 q7w q7z G s a w->∃G',aj q72 q7w q7z G' (reB1 b ps c s) a w
 |[],_,s,G,hr=>⟨G,hr⟩|p::ps,c,s,G,hr=>by
  unfold Sym.reB1;cases En p
  ·exact aj.reB1 hr
  ·obtain⟨G',d⟩:=hr.reCell b c;exact aj.reB1 d
def aj.reB:∀{l:List (Nat×bu)}{s:St}{G:Gh},aj q72 q7w q7z G s a w->∃G',aj q72 q7w q7z G' (reB l s) a w
 |[],s,G,hr=>⟨G,hr⟩|(n,p)::r,s,G,hr=>by
  unfold Sym.reB;split
  ·obtain⟨G',b⟩:=hr.reB1;exact aj.reB b
  ·exact aj.reB hr
end
def f7:List (Nat×bu)->NM|[]=>[]|(n,_)::r=>(n,n)::f7 r
def mz(N:NM)(n:Nat):Bool:=match bf N n with|some m=>Nat.beq m n|none=>false
def cP{N:NM}{n:Nat}(h:mz N n=true):bf N n=some n:=by
 unfold mz at h;split at h
 ·rename_i m a;have:=qN h;subst this;exact a
 ·cases h
mutual
def ED(N:NM):Pt->Bool|.agg ps=>up N ps|.tup ps=>up N ps|.ptr b _=>mz N b|.own k=>mz N k|.el k _=>mz N k|.iel _ k _=>mz N k|.ifc _ p=>ED N p|.yld k=>mz N k|.pn k=>mz N k|.fn _ ps=>up N ps|_=>true
def up(N:NM):List Pt->Bool|[]=>true|p::ps=>ED N p&&up N ps
end
def qix{ρ:Nat->Option Nat}:∀{τ:Ty}{d:τ.den},(τ.av d).ren ρ=τ.av d|.int _,_=>rfl|.byte,_=>rfl|.bool,_=>rfl|.str,_=>rfl|.unit,_=>rfl|.list _,_=>rfl|.prod a b,d=>by show AV.agg (AV.rens ρ ((Ty.prod a b).enc d))=_;rw[Ty.enc_ren];rfl|.tree a,d=>by show AV.agg (AV.rens ρ ((Ty.tree a).enc d))=_;rw[Ty.enc_ren];rfl
mutual
def LL{N:NM}:∀{p:Pt}{d:p.den},ED N p=true->(p.put d).ren (bf N)=p.put d
 |.h τ,d,_=>qix|.c _,_,_=>rfl|.agg ps,d,h=>congrArg AV.agg (iC (ps:=ps) (d:=d) h)|.tup ps,d,h=>congrArg AV.tup (iC (ps:=ps) (d:=d) h)|.ptr b off,_,h=>by show AV.ren (bf N) (.ptr b off)=_;simp[AV.ren,cP (show mz N b=true from h)];rfl|.own k,_,h=>by show AV.ren (bf N) (.own k)=_;simp[AV.ren,cP (show mz N k=true from h)];rfl|.arr _,_,_=>rfl|.el k sz,_,h=>by show AV.ren (bf N) (.oel k sz 0 0)=_;simp[AV.ren,cP (show mz N k=true from h)];rfl|.iel t k sz,_,h=>by show AV.ren (bf N) (.iface t (.oel k sz 0 0))=_;simp[AV.ren,cP (show mz N k=true from h)];rfl|.ifc t p,d,h=>congrArg (AV.iface t) (LL (p:=p) (d:=d) h)|.yld k,_,h=>by show AV.ren (bf N) (.yld k)=_;simp[AV.ren,cP (show mz N k=true from h)];rfl|.pn k,_,h=>by show AV.ren (bf N) (.pn k)=_;simp[AV.ren,cP (show mz N k=true from h)];rfl|.fn f ps,d,h=>by
  have e:=iC (ps:=ps) (d:=d) h;show AV.ren (bf N) (rg f (Pts.put ps d))=rg f (Pts.put ps d);unfold rg;cases Nat.blt f jx
  ·exact congrArg (fun l=>AV.fn (.func (f-jx)) l []) e
  ·exact congrArg (AV.fn (.func f) []) e
 |.u,_,_=>rfl
def iC{N:NM}:∀{ps:List Pt}{d:Pts.den ps},up N ps=true->AV.rens (bf N) (Pts.put ps d)=Pts.put ps d
 |[],_,_=>rfl|p::ps,d,h=>by
  simp[up,qA]at h;have a:=LL (p:=p) (d:=d.1) h.1;have b:=iC (ps:=ps) (d:=d.2) h.2;show AV.ren (bf N) (p.put d.1)::AV.rens (bf N) (Pts.put ps d.2)=p.put d.1::Pts.put ps d.2;rw[a,b]
end
def DY(N:NM):List (Nat×Pt)->Bool|[]=>true|(_,p)::r=>ED N p&&DY N r
def Rf{N:NM}:∀{l:List (Nat×Pt)}{d:ui l},DY N l=true->rt (bf N) (n7 l d)=n7 l d
 |[],_,_=>rfl|(i,p)::r,d,h=>by
  simp[DY,qA]at h;have a:=LL (p:=p) (d:=d.1) h.1;have b:=Rf (l:=r) (d:=d.2) h.2;show(i,AV.ren (bf N) (p.put d.1))::rt (bf N) (n7 r d.2)=(i,p.put d.1)::n7 r d.2;rw[a,b]
def JR(N:NM):bu->Bool|.cells ps _=>up N ps|.loop _ _ _ _ fr _ _ D=>mz N D&&DY N fr|_=>true
def gF(N:NM):List (Nat×bu)->Bool|[]=>true|(n,p)::r=>mz N n&&JR N p&&gF N r
def qjm{N:NM}:∀{p:bu}{d:p.den},JR N p=true->fk (bf N) (p.put d)=p.put d
 |.cells ps T,d,h=>congrArg (fun l=>ag.cells l T) (iC (ps:=ps) (d:=d) h)
 |.row _ _,_,_=>rfl|.loop st pe f n fr ps tag D,d,h=>by
  simp[JR,qA]at h;have a:=Rf (l:=fr) (d:=d) h.2;have b:fk (bf N) (.loop st pe f n (n7 fr d) ps tag D) = .loop st pe f n (rt (bf N) (n7 fr d)) ps tag D:=by simp[fk,cP h.1]
  exact b.trans (congrArg (fun l=>ag.loop st pe f n l ps tag D) a)
 |.dfr,_,_=>rfl|.it,_,_=>rfl|.dead,_,_=>rfl|.dat τ T,d,_=>congrArg (fun l=>ag.cells l T) (Ty.enc_ren (bf N) τ d)
def JJ{N:NM}:∀{l:List (Nat×bu)}{d:ic l},gF N l=true->∀n b,af (cf l d) n=some b->bf N n=some n/\fk (bf N) b=b
 |[],_,_,_,_,h=>by cases h
 |(m,p)::r,d,h,n,b,a=>by
  simp[gF,qA]at h;have a:(bif Nat.beq m n then some (p.put d.1) else af (cf r d.2) n)=some b:=a
  cases c:Nat.beq m n
  ·rw[c]at a;exact JJ (d:=d.2) h.2 n b a
  ·rw[c]at a;have:=qN c;subst this;simp at a;subst a;exact⟨cP h.1.1,qjm h.1.2⟩
def c8.only{G:Gh}{hp:List (Nat×ag)}{w:World}{N:NM}(e:c8 G hp w)(h:∀n b,af hp n=some b->bf N n=some n/\fk (bf N) b=b):c8 (G.view N) hp w:=by
 have f:∀n b,af hp n=some b->(G.view N).box n=G.box n/\(G.view N).own n=G.own n:=fun n b a=>by
  have:=xd (h n b a).1;exact⟨by simp[Gh.view,this],by simp[Gh.view,this]⟩
 have d:∀n b c,af hp n=some b->(G.view N).at n b=some c->G.at n b=some c:=fun n b c a p=>by
  have:=(h n b a).2;exact wh (G:=G) (G':=G.view N) (ρ:=bf N) (f n b a).1 (f n b a).2 (by rw[this];exact p)
 refine⟨e.agree,e.one,fun n b a => ?_,fun n m b k c i j l o=>e.apart n m b k c i j (d _ _ _ i l) (d _ _ _ j o),e.tab⟩
 have:=dv.ren (G:=G) (G':=G.view N) (ρ:=bf N) (n:=n) (m:=n) (fun _ _ _ h=>h) (fun _ _ _ h=>h) (uz N) (xm N) (fun B g=>by rw[(f n b a).1];exact g) (fun B g=>by rw[(f n b a).2];exact g) (e.holds n b a)
 rw[(h n b a).2]at this;exact this
def Fin.only{G G':Gh}{hp hp':List (Nat×ag)}{w w':World}{N:NM}(h:∀n b,af hp n=some b->bf N n=some n/\fk (bf N) b=b)(e:Fin w (G.view N) hp G' hp' w'):Fin w G hp G' hp' w':=by
 have g:∀n b,af hp n=some b->(G.view N).box n=G.box n/\(G.view N).own n=G.own n:=fun n b l=>by
  have:=xd (h n b l).1;exact⟨by simp[Gh.view,this],by simp[Gh.view,this]⟩
 have d:∀c,qv (G.view N) hp c->qv G hp c:=fun c⟨n,b,a,f⟩=>⟨n,b,a,wh (G:=G) (G':=G.view N) (ρ:=bf N) (g n b a).1 (g n b a).2 (by rw[(h n b a).2];exact f)⟩
 refine⟨e.mem,⟨e.bel.os,e.bel.tape,e.bel.output,e.bel.size,fun k j i=>e.bel.block k j fun p=>i (d k p)⟩,e.imm_le,fun b o v m => ?_,fun n b c a f => ?_,fun n b B a f=>e.keep n b B a (by rw[(g n b a).1];exact f),fun n b B a f=>e.keepOwn n b B a (by rw[(g n b a).2];exact f)⟩
 ·rcases e.imm_new b o v m with h|h|h
  ·exact .inl h
  ·exact .inr (.inl h)
  ·exact .inr (.inr (d _ h))
 ·rcases e.base n b c a f with h|h
  ·exact .inl h
  ·exact .inr (d _ h)
def zI:List AV->Nat->List (Nat×AV)|[],_=>[]|x::xs,i=>(i,x)::zI xs (i+1)
def Rx:∀{xs:List AV}{G:Gh}{vs:List Value}(i:Nat),ao xs G vs->∀j x,af (zI xs i) j=some x->i<=j/\∃v,vs[j-i]? = some v/\ai x G v
 |[],_,[],_,_,j,x,h=>by cases h
 |x::xs,G,v::vs,i,hr,j,y,h=>by
  simp[zI,af]at h;cases a:Nat.beq i j
  ·rw[a]at h;obtain⟨d,u,b,c⟩:=Rx (i+1) hr.2 j y h;refine⟨Ta,u,?_,c⟩
   rw[show j-i=(j-(i+1))+1 by omega];simpa using b
  ·rw[a]at h;have:=qN a;subst this;simp at h;subst h;exact⟨wF _,v,Te,hr.1⟩
 |[],_,_::_,_,h,_,_,_=>h.elim|_::_,_,[],_,h,_,_,_=>h.elim
def y7{G:Gh}{w:World}{hp:List (Nat×ag)}(c:c8 G hp w):Fin w G hp G hp w:=
 ⟨c,⟨rfl,rfl,rfl,wF _,fun _ _ _=>rfl⟩,fun _ _ _ h=>h,fun _ _ _ h => .inl h,fun n bx d a b => .inr ⟨n,bx,a,b⟩,fun _ _ _ _ h=>h,fun _ _ _ _ h=>h⟩
def NX:Nat:=64
def reK(b:Bool)(a:List (Nat×bu))(s:St):St:=bif b then s else reB a s
def aj.reK{q72:World}{q7w:Gh}{q7z:List (Nat×ag)}{a:Act}{w:World}{b:Bool}{l:List (Nat×bu)}{s:St}{G:Gh}(c:aj q72 q7w q7z G s a w):∃G',aj q72 q7w q7z G' (reK b l s) a w:=by
 cases b
 ·exact c.reB (l:=l)
 ·exact⟨G,c⟩
def iH(cx:Cx)(a:Code){R:Type}(enc:RS R)(labs:List (gp R))(b:List Pt)(c:List (Nat×bu))(xs:List AV)(hp:List (Nat×ag)):Option R:=
 run cx enc labs 1000000 true [⟨0,[],.code a⟩] (reK cx.tb.sub c (reA (bif cx.tb.sub then b else[]) 0 { n:=cx.fn.ntmps,fr:=zI xs 0,hp:=hp,nx:=NX,df:=[] }))
def cL(cx:Cx)(args:List Pt)(hp:List (Nat×bu)):Bool:=up (f7 hp) args&&gF (f7 hp) hp&&Nat.ble args.length cx.fn.ntmps
def zF:∀{l:List (Nat×bu)}{d:ic l}{n:Nat}{b:ag},af (cf l d) n=some b->bm (f7 l) n=some n
 |[],_,_,_,h=>by cases h
 |(m,p)::r,d,n,b,h=>by
  have h:(bif Nat.beq m n then some (p.put d.1) else af (cf r d.2) n)=some b:=h
  simp[f7,bm];cases a:Nat.beq m n
  ·rw[a]at h;exact zF (d:=d.2) h
  ·have:=qN a;subst this;rfl
def Lz{m:Nat}:∀{l:List (Nat×bu)}{d:ic l},af (cf l d) m=none->bm (f7 l) m=none
 |[],_,_=>rfl|(n,p)::r,d,h=>by
  have h:(bif Nat.beq n m then some (p.put d.1) else af (cf r d.2) m)=none:=h
  simp[f7,bm];cases a:Nat.beq n m
  ·rw[a]at h;exact Lz (d:=d.2) h
  ·rw[a]at h;cases h
def SV:∀{ps:List Pt}{d:Pts.den ps},(Pts.put ps d).length=ps.length|[],_=>rfl|p::ps,d=>by show(p.put d.1::Pts.put ps d.2).length=_;simp[SV]
def dc.goes_fn(q:LC.base=[]){e:dc}{cx:Cx}{f:Code}{labs:List (gp e.R)}(U:cx.Ok f)(s:cx.fn.body=some f)(T:cx.rd=none)(A:cx.ids=f7 e.hp)
  (j:cL cx e.args e.hp=true) (B:∀c,∀l∈labs,pp cx (cx.TT (cf e.hp c) e.out) (cf e.hp c) e.out f l) (hF:∀d c,iH cx f e.out labs e.args e.hp (Pts.put e.args d) (cf e.hp c)=e.F d c) {d:Pts.den e.args} {c:ic e.hp} {r:e.R} (hr:e.F d c=some r)
  {w:World} {G:Gh} {vs:List Value} (hm:c8 G (cf e.hp c) w) (k:ao (Pts.put e.args d) G vs) (cs:List Frame) :
  (fY cx e.out r/\∃v w' fr,(∃G',Fin w G (cf e.hp c) G' (e.out.res r).2 w'/\ai (e.out.res r).1 G' v)/\Steps cx.P (lone (Frame.enter cx.P cx.f vs.toArray .normal) cs w) (lone fr cs w')/\fr.fn=cx.f/\fr.leaving cx.P w' (.returned v)) \/
  ∃t n w' fr,cx.thr≠none/\n9 (e.out.res r).1=some (t,n)/\(∃G',Fin w G (cf e.hp c) G' (e.out.res r).2 w')/\Steps cx.P (lone (Frame.enter cx.P cx.f vs.toArray .normal) cs w) (lone fr cs w')/\fr.fn=cx.f/\fr.leaving cx.P w' (.panicked [{ v:=wv t n,recovered:=false }]):=by
 simp only[cL,qA]at j;obtain⟨⟨X,Y⟩,V⟩:=j;have V:=Nat.le_of_ble_eq_true V;have u:=JJ (d:=c) Y;have P:=hm.only u;have o:ao (Pts.put e.args d) (G.view (f7 e.hp)) vs:=by
  have:=ao.ren (ρ:=bf (f7 e.hp)) (G:=G) (G':=G.view (f7 e.hp)) (fun _ _ _ h=>h) (uz _) (xm _) k
  rwa [iC X]at this
 have O:=k.length;rw[SV]at O;have p:=hF d c;rw[hr]at p;have z:∀n bx,af (cf e.hp c) n=some bx->bm cx.ids n=some n:=fun n bx h=>by rw[A];exact zF h
 have hg:=Mb (enc:=e.out) (Cx.thOk z) U (q7z:=cf e.hp c) z (B c) _ _ _ _ _ (fun i M=>by
  rcases List.mem_cons.1 M with rfl|M
  ·rfl
  ·cases M) p
 have R:aj w (G.view (f7 e.hp)) (cf e.hp c) (G.view (f7 e.hp)) { n:=cx.fn.ntmps,fr:=zI (Pts.put e.args d) 0,hp:=cf e.hp c,nx:=NX,df:=[] } { tmps:=vs.toArray++Array.replicate (cx.fn.ntmps-vs.toArray.size) undef,defers:=[] } w:=by
  refine⟨⟨[],rfl,rfl⟩,Td,fun i x hx => ?_,fun m _ hl => ?_,y7 P⟩
  ·obtain⟨_,v,E,y⟩:=Rx 0 o i x hx;refine⟨v,?_,y⟩;have N:i<vs.length:=by have:=(List.getElem?_eq_some_iff.1 E).1;simpa using this
   rw[Array.getElem?_append_left (by simpa using N)]
   simpa using E
  ·have:bm (f7 e.hp) m=none:=Lz hl;simp[Gh.view,this]
 obtain⟨G0,C⟩:=R.reA (ps:=bif cx.tb.sub then e.args else[]) (i:=0)
 obtain⟨G1,S⟩:=C.reK (b:=cx.tb.sub) (l:=e.hp)
 let b:Frame:={ (default:Frame) with fn:=cx.f,kind := .normal }
 have g:Frame.enter cx.P cx.f vs.toArray .normal=b.atR ({ tmps:=vs.toArray++Array.replicate (cx.fn.ntmps-vs.toArray.size) undef,defers:=[] }:Act).bs [.code f]:=by
  simp[Frame.enter,Frame.atR,U.func,s,b,Act.bs,q];rfl
 have:=hg w _ _ _ w S b cs rfl rfl (by unfold wa;rw[T];rfl)
 rcases this with⟨Q,v,w',fr,⟨G',Z,E⟩,y,F,K,L,h7,h8⟩|⟨I,w',fr,a,H,y,F,K,_,L,_⟩
 ·exact .inl ⟨Q,v,w',fr,⟨G',Z.only u,E⟩,by rw[g];exact y,F,K,by rw[L,q],h7,h8⟩
 ·cases W:cx.thr with
  |none=>
   have J:cx.TT (cf e.hp c) e.out=CY:=by unfold Cx.TT;rw[W]
   rw[J]at H;exact H.elim
  |some ks=>
   have J:cx.TT (cf e.hp c) e.out=Db ks (cf e.hp c) e.out:=by unfold Cx.TT;rw[W]
   rw[J]at H;obtain⟨t,n,k1,rfl,k2,_,G',k3⟩:=H;exact .inr ⟨t,n,w',fr,Te,k1,⟨G',k3.only u⟩,by rw[g];exact y,F,K,by rw[L,k2,q];rfl,cx.fn,by rw[F];exact U.func⟩
def dc.sound_fn(n:LC.base=[]){e:dc}{cx:Cx}{a:Code}{labs:List (gp e.R)}(E:cx.Ok a)(j:e.key = .fn cx.f)(m:cx.thr=none)(b:cx.fn.body=some a)(p:cx.rd=none)(i:cx.ids=f7 e.hp)(o:Plain cx.P cx.f)
  (c:cL cx e.args e.hp=true) (k:∀g,∀l∈labs,pp cx (cx.TT (cf e.hp g) e.out) (cf e.hp g) e.out a l) (A:∀d g,iH cx a e.out labs e.args e.hp (Pts.put e.args d) (cf e.hp g)=e.F d g):e.Sound cx.P:=by
 intro d g r C;rw[j];refine⟨o,fun w G H B f q => ?_⟩
 rcases dc.goes_fn n E b p i c k A C B f q with⟨_,v,F,s,⟨G',t,u⟩,x,y,z⟩|⟨_,_,_,_,h,_⟩
 ·exact⟨.returned v,F,s,⟨v,G',rfl,t,u⟩,x,y,z⟩
 ·exact absurd m h
def dc.sound_thr(m:LC.base=[]){e:dc}{cx:Cx}{b:Code}{labs:List (gp e.R)}(I:cx.Ok b){ks:List (Nat×Nat)}(o:e.key = .thr cx.f ks)(q:cx.thr=some ks)(c:cx.fn.body=some b)(p:cx.rd=none)(g:cx.ids=f7 e.hp)(C:Plain cx.P cx.f)
  (f:cL cx e.args e.hp=true) (i:∀k,∀l∈labs,pp cx (cx.TT (cf e.hp k) e.out) (cf e.hp k) e.out b l) (F:∀d k,iH cx b e.out labs e.args e.hp (Pts.put e.args d) (cf e.hp k)=e.F d k):e.Sound cx.P:=by
 intro d k r H;rw[o];refine⟨C,?_⟩
 cases j:n9 (e.out.res r).1 with
 |none=>
  intro w G M B a s;rcases dc.goes_fn m I c p g f i F H B a s with⟨_,v,E,u,⟨G',J,K⟩,y,z,A⟩|⟨_,_,_,_,_,h,_⟩
  ·exact⟨.returned v,E,u,⟨v,G',rfl,J,K⟩,y,z,A⟩
  ·rw[j]at h;cases h
 |some x=>
  intro w G M B a s;rcases dc.goes_fn m I c p g f i F H B a s with⟨h,_⟩|⟨t,n,E,u,_,h,L,y,z,A⟩
  ·unfold fY at h;rw[q]at h;simp only at h;rw[j]at h;cases h
  ·rw[j]at h;cases h;exact⟨_,E,u,⟨rfl,L⟩,y,z,A⟩
def EG:List Tmp->List AV->List (Nat×AV)->List (Nat×AV)|p::ps,x::xs,fr=>EG ps xs ((p,x)::fr)|_,_,fr=>fr
def xY(n:Nat):List Nat->Bool|[]=>true|p::ps=>Nat.blt p n&&xY n ps
def SX{G:Gh}{n:Nat}:∀{ps:List Tmp}{xs:List AV}{vs:List Value}{fr:List (Nat×AV)}{a:Array Value},xY n ps=true->a.size=n->ps.length=xs.length->ao xs G vs->(∀i x,af fr i=some x->∃v,a[i]? = some v/\ai x G v) ->
  ((ps.zip vs).foldl (fun(a:Array Value)(q:Tmp×Value)=>a.setIfInBounds q.1 q.2) a).size=n/\∀i x,af (EG ps xs fr) i=some x->∃v,((ps.zip vs).foldl (fun(a:Array Value)(q:Tmp×Value)=>a.setIfInBounds q.1 q.2) a)[i]? = some v/\ai x G v
 |[],[],[],fr,a,_,hn,_,_,hfr=>⟨hn,hfr⟩|p::ps,x::xs,v::vs,fr,a,hlt,hn,hl,hr,hfr=>by
  simp[xY,qA]at hlt;have hp:p<n:=by have:=hlt.1;simpa using this
  simp;refine SX hlt.2 (by simp[hn]) (by simpa using hl) hr.2 (fun i y b => ?_)
  simp[af]at b;cases c:Nat.beq p i
  ·rw[c]at b;simp at b;have d:p≠i:=fun e=>by subst e;simp at c
   obtain⟨u,f,g⟩:=hfr i y b;exact⟨u,by simp[d,f],g⟩
  ·rw[c]at b;simp at b;subst b;have:=qN c;subst this;exact⟨v,by simp[hn,hp],hr.1⟩
 |[],_::_,_,_,_,_,_,h,_,_=>by simp at h|_::_,[],_,_,_,_,_,h,_,_=>by simp at h|[],[],_::_,_,_,_,_,_,h,_=>h.elim|_::_,_::_,[],_,_,_,_,_,h,_=>h.elim
def dF(cx:Cx)(b:Code)(p:List Nat)(m:Nat){R:Type}(enc:RS R)(labs:List (gp R))(d:List (Nat×bu))(xs:List AV)(hp:List (Nat×ag)):Option R:=
 match af hp m with
 |some (.loop .ready none f n fr ps a _)=>bif Nat.beq f cx.f&&xY n ps&&eqLen ps xs&&tagIs a p cx.tags then
   run cx enc labs 1000000 true (nd b [(0,0::p),(4,[]),(0,1::p)]) (reB d { n:=n,fr:=EG ps xs fr,hp:=hp,nx:=NX,df:=[] })
  else none
 |_=>none
where
 eqLen:List Tmp->List AV->Bool
  |[],[]=>true|_::ps,_::xs=>eqLen ps xs|_,_=>false
 tagIs (a:Nat) (p:List Nat) (c:List (List Nat×Nat)):Bool:=match qc p c with|some t=>Nat.beq t a|none=>false
def QP:∀{ps:List Tmp}{xs:List AV},dF.eqLen ps xs=true->ps.length=xs.length
 |[],[],_=>rfl|_::ps,_::xs,h=>by simp[QP (ps:=ps) (xs:=xs) h]|[],_::_,h=>by cases h
 |_::_,[],h=>by cases h
def KQ:Code->Bool|.rangeFunc _ _ _ _=>true|_=>false
def dc.sound_yld(W:LC.base=[]){e:dc}{cx:Cx}{i:Code}{p:List Nat}{m:Nat}{labs:List (gp e.R)}(ok:cx.Ok i)(K:e.key = .yld m)(O:cx.thr=none)(aa:cx.rd=some m)(J:cx.ids=f7 e.hp)(N:KQ (sub i p)=true)
  (u:(up (f7 e.hp) e.args&&gF (f7 e.hp) e.hp)=true) (L:∀s,∀l∈labs,pp cx (cx.TT (cf e.hp s) e.out) (cf e.hp s) e.out i l) (hF:∀d s,dF cx i p m e.out labs e.hp (Pts.put e.args d) (cf e.hp s)=e.F d s):e.Sound cx.P:=by
 intro d s r hr;rw[K];intro w G Q B hm z hB;simp at u;obtain⟨f1,f2⟩:=u;have E:=JJ (d:=s) f2;have M:=hm.only E;have A:ao (Pts.put e.args d) (G.view (f7 e.hp)) Q:=by
  have:=ao.ren (ρ:=bf (f7 e.hp)) (G:=G) (G':=G.view (f7 e.hp)) (fun _ _ _ h=>h) (uz _) (xm _) z
  rwa [iC f1]at this
 have j:=hF d s;rw[hr]at j;unfold dF at j;split at j
 ·rename_i f n fr C ac D X;cases V:Nat.beq f cx.f&&xY n C&&dF.eqLen C (Pts.put e.args d)&&dF.tagIs ac p cx.tags<;>rw[V]at j<;>simp at j
  simp only[qA]at V;obtain⟨⟨⟨S,b2⟩,T⟩,F⟩:=V;have S:=qN S;subst S;have T:=QP T;unfold dF.tagIs at F;split at F
  rotate_left
  ·cases F
  rename_i t ht;have F:=qN F;subst F;obtain⟨B',tmps,DB,P,i2,⟨R,bo,i3,i4⟩,i5,i6,i7⟩:=M.holds m _ X;have H:(G.view (f7 e.hp)).box m=some B:=by
   have:=xd (E m _ X).1;simp[Gh.view,this,hB]
  rw[H]at P;injection P with P;subst P
  obtain⟨g,ab,x,y,hs⟩:∃g C x y,sub i p = .rangeFunc g C x y:=by
   cases hc:sub i p<;>rw[hc]at N<;>first|exact⟨_,_,_,_,rfl⟩|cases N
  have o:=ok.tags p t ht g ab x y hs;rw[i3]at o;simp at o;obtain⟨rfl,rfl⟩:=o;have I:∀n bx,af (cf e.hp s) n=some bx->bm cx.ids n=some n:=fun n bx h=>by rw[J];exact zF h
  have hg:=Mb (enc:=e.out) (Cx.thOk I) ok (q7z:=cf e.hp s) I (L s) _ _ _ _ _ KT j;have ad:=z.length;obtain⟨j1,j2⟩:=SX (n:=n) b2 i5 T A i6;have Y:aj w (G.view (f7 e.hp)) (cf e.hp s) (G.view (f7 e.hp)) { n:=n,fr:=EG C (Pts.put e.args d) fr,hp:=cf e.hp s,nx:=NX,df:=[] } { tmps:=(C.zip Q).foldl (fun(tmps:Array Value)(q:Tmp×Value)=>tmps.setIfInBounds q.1 q.2) tmps,defers:=[] } w:=
   ⟨⟨[],rfl,rfl⟩,j1,j2,fun k _ hk=>by simp[Gh.view,Lz hk],y7 M⟩
  obtain⟨G1,Z⟩:=Y.reB (l:=e.hp);refine⟨_,i4,fun c cs=>⟨Td,?_⟩⟩
  let b:Frame:={ (default:Frame) with fn:=cx.f,kind := .normal,roundOf:=some B }
  have U:cx.TT (cf e.hp s) e.out=CY:=by unfold Cx.TT;rw[O]
  rw[U]at hg;have:=(qpm (hg w _ _ _ w Z b (c::cs) rfl rfl (by unfold wa;rw[aa];exact⟨B,_,H,X,rfl⟩))).2
  obtain⟨v,w',⟨G',h1,h2⟩,h3⟩:=this c cs rfl;refine⟨v,w',⟨v,G',rfl,h1.only E,h2⟩,?_⟩;have e1:Frame.round B cx.f ((C.toArray.zip Q.toArray).foldl (fun tmps(t,a)=>tmps.setIfInBounds t a) tmps) R bo .normal=b.atR ({ tmps:=(C.zip Q).foldl (fun(tmps:Array Value)(q:Tmp×Value)=>tmps.setIfInBounds q.1 q.2) tmps,defers:=[] }:Act).bs (e9 (nd i [(0,0::p),(4,[]),(0,1::p)])):=by
   simp[Frame.round,Frame.atR,b,Act.bs,W,e9,nd,cT,sub,hs,y9,List.zip_toArray]
  simp only at e1 ⊢;rw[e1];exact h3
 ·cases j
def pp.of_run{cx:Cx}{a:Code}{q7z:List (Nat×ag)}{R:Type}{TT:World->Gh->R->List PanicEntry->Act->World->Prop}{enc:RS R}{labs:List (gp R)}(e:xL cx TT q7z enc)(g:cx.Ok a)(c:∀n bx,af q7z n=some bx->bm cx.ids n=some n)(b:∀l∈labs,pp cx TT q7z enc a l){l:gp R}
  (h:∀d,run cx enc labs 1000000 false (nd a l.key) (l.ls.st d)=l.F d):pp cx TT q7z enc a l:=fun d r f=>by
 have:=h d;rw[f]at this;exact Mb e g c b _ _ _ _ _ KT this
end Go.Sym
namespace Go.Sym
open Go.RowKit
def y8(f:Func):Code:=match f.body with|some c=>c|none => .skip
def ae(n:Int):Int:=IntKind.i64.wrap n
section
variable[LC]{cx:Cx}{q7z:List (Nat×ag)}{R:Type}{TT:World->Gh->R->List PanicEntry->Act->World->Prop}{enc:RS R}{body:Code}{P:Program}
def ly:∀p t,qc p []=some t->∀g ps x y,sub body p = .rangeFunc g ps x y->LC.lc t=some (x,y):=fun _ _ h=>by cases h
def ob{p:List Nat}{t:Nat}{a:List (List Nat×Nat)}(h:LC.lc t=some (y9 0 (sub body p),y9 1 (sub body p)))(k:∀p t,qc p a=some t->∀g ps x y,sub body p = .rangeFunc g ps x y->LC.lc t=some (x,y)) :
  ∀q u,qc q ((p,t)::a)=some u->∀g ps x y,sub body q = .rangeFunc g ps x y->LC.lc u=some (x,y):=fun q u b g ps x y d=>by
 simp only[qc]at b;cases c:uf p q
 ·rw[c]at b;exact k q u b g ps x y d
 ·rw[c]at b;simp only[qT,qI]at b;subst b;have:=DU c;subst this;rw[h,d];rfl
end
abbrev Bs:Type:=List UInt8
def SE:Nat->Nat->List Nat|0,_=>[]|f+1,n=>bif Nat.ble n 1 then[] else Nat.mod n 2::SE f (Nat.div n 2)
mutual
def Pt.ts:Pt->List Type->List Type|.h τ,a=>τ.den::a|.agg ps,a=>Pts.ts ps a|.tup ps,a=>Pts.ts ps a|.fn _ ps,a=>Pts.ts ps a|.ifc _ p,a=>p.ts a|.arr τ,a=>List τ.den::a|_,a=>a
def Pts.ts:List Pt->List Type->List Type|[],a=>a|p::ps,a=>p.ts (Pts.ts ps a)
end
def HL:List Type->Type|[]=>Unit|t::l=>t×HL l
abbrev n8:HL []:=()
mutual
def Pt.pk:(p:Pt)->{a:List Type}->p.den->HL a->HL (p.ts a)|.h _,_,d,x=>(d,x)|.agg ps,_,d,x=>Pts.pk ps d x|.tup ps,_,d,x=>Pts.pk ps d x|.fn _ ps,_,d,x=>Pts.pk ps d x|.ifc _ p,_,d,x=>p.pk d x|.arr _,_,d,x=>(d,x)|.c _,_,_,x=>x|.ptr _ _,_,_,x=>x|.own _,_,_,x=>x|.el _ _,_,_,x=>x|.iel _ _ _,_,_,x=>x|.yld _,_,_,x=>x|.pn _,_,_,x=>x|.u,_,_,x=>x
def Pts.pk:(ps:List Pt)->{a:List Type}->Pts.den ps->HL a->HL (Pts.ts ps a)|[],_,_,x=>x|p::ps,_,d,x=>p.pk d.1 (Pts.pk ps d.2 x)
end
mutual
def Pt.un:(p:Pt)->{a:List Type}->HL (p.ts a)->p.den×HL a|.h _,_,x=>x|.agg ps,_,x=>Pts.un ps x|.tup ps,_,x=>Pts.un ps x|.fn _ ps,_,x=>Pts.un ps x|.ifc _ p,_,x=>p.un x|.arr _,_,x=>x|.c _,_,x=>((),x)|.ptr _ _,_,x=>((),x)|.own _,_,x=>((),x)|.el _ _,_,x=>((),x)|.iel _ _ _,_,x=>((),x)|.yld _,_,x=>((),x)|.pn _,_,x=>((),x)|.u,_,x=>((),x)
def Pts.un:(ps:List Pt)->{a:List Type}->HL (Pts.ts ps a)->Pts.den ps×HL a|[],_,x=>((),x)|p::ps,_,x=>(((p.un x).1,(Pts.un ps (p.un x).2).1),(Pts.un ps (p.un x).2).2)
end
mutual
def Pt.un_pk:∀(p:Pt){a:List Type}(d:p.den)(x:HL a),p.un (p.pk d x)=(d,x)|.h _,_,_,_=>rfl|.agg ps,_,d,x=>Pts.un_pk ps d x|.tup ps,_,d,x=>Pts.un_pk ps d x|.fn _ ps,_,d,x=>Pts.un_pk ps d x|.ifc _ p,_,d,x=>Pt.un_pk p d x|.arr _,_,_,_=>rfl|.c _,_,_,_=>rfl|.ptr _ _,_,_,_=>rfl|.own _,_,_,_=>rfl|.el _ _,_,_,_=>rfl|.iel _ _ _,_,_,_=>rfl|.yld _,_,_,_=>rfl|.pn _,_,_,_=>rfl|.u,_,_,_=>rfl
def Pts.un_pk:∀(ps:List Pt){a:List Type}(d:Pts.den ps)(x:HL a),Pts.un ps (Pts.pk ps d x)=(d,x)
 |[],_,_,_=>rfl|p::ps,_,d,x=>by
  show(((p.un (p.pk d.1 (Pts.pk ps d.2 x))).1,(Pts.un ps (p.un (p.pk d.1 (Pts.pk ps d.2 x))).2).1),(Pts.un ps (p.un (p.pk d.1 (Pts.pk ps d.2 x))).2).2)=(d,x);rw[Pt.un_pk p,Pts.un_pk ps];rfl
end
def zC:List (Nat×Pt)->List Type->List Type|[],a=>a|(_,p)::r,a=>p.ts (zC r a)
def qa:(l:List (Nat×Pt))->{a:List Type}->ui l->HL a->HL (zC l a)|[],_,_,x=>x|(_,p)::r,_,d,x=>p.pk d.1 (qa r d.2 x)
def nJ:(l:List (Nat×Pt))->{a:List Type}->HL (zC l a)->ui l×HL a|[],_,x=>((),x)|(_,p)::r,_,x=>(((p.un x).1,(nJ r (p.un x).2).1),(nJ r (p.un x).2).2)
def Rg:∀(l:List (Nat×Pt)){a:List Type}(d:ui l)(x:HL a),nJ l (qa l d x)=(d,x)
 |[],_,_,_=>rfl|(_,p)::r,_,d,x=>by
  show(((p.un (p.pk d.1 (qa r d.2 x))).1,(nJ r (p.un (p.pk d.1 (qa r d.2 x))).2).1),(nJ r (p.un (p.pk d.1 (qa r d.2 x))).2).2)=(d,x);rw[Pt.un_pk p,Rg r];rfl
def bu.ts:bu->List Type->List Type|.cells ps _,a=>Pts.ts ps a|.row τ _,a=>List τ.den::a|.loop _ _ _ _ fr _ _ _,a=>zC fr a|.dfr,a=>a|.it,a=>List UInt8::Nat::a|.dead,a=>a|.dat τ _,a=>τ.den::a
def bu.pk:(p:bu)->{a:List Type}->p.den->HL a->HL (p.ts a)|.cells ps _,_,d,x=>Pts.pk ps d x|.row _ _,_,d,x=>(d,x)|.loop _ _ _ _ fr _ _ _,_,d,x=>qa fr d x|.dfr,_,_,x=>x|.it,_,d,x=>(d.1,(d.2,x))|.dead,_,_,x=>x|.dat _ _,_,d,x=>(d,x)
def bu.un:(p:bu)->{a:List Type}->HL (p.ts a)->p.den×HL a|.cells ps _,_,x=>Pts.un ps x|.row _ _,_,x=>x|.loop _ _ _ _ fr _ _ _,_,x=>nJ fr x|.dfr,_,x=>((),x)|.it,_,x=>((x.1,x.2.1),x.2.2)|.dead,_,x=>((),x)|.dat _ _,_,x=>x
def bu.un_pk:∀(p:bu){a:List Type}(d:p.den)(x:HL a),p.un (p.pk d x)=(d,x)|.cells ps _,_,d,x=>Pts.un_pk ps d x|.row _ _,_,_,_=>rfl|.loop _ _ _ _ fr _ _ _,_,d,x=>Rg fr d x|.dfr,_,_,_=>rfl|.it,_,_,_=>rfl|.dead,_,_,_=>rfl|.dat _ _,_,_,_=>rfl
def mJ:List (Nat×bu)->List Type->List Type|[],a=>a|(_,p)::r,a=>p.ts (mJ r a)
def ij:(l:List (Nat×bu))->{a:List Type}->ic l->HL a->HL (mJ l a)|[],_,_,x=>x|(_,p)::r,_,d,x=>p.pk d.1 (ij r d.2 x)
def gJ:(l:List (Nat×bu))->{a:List Type}->HL (mJ l a)->ic l×HL a|[],_,x=>((),x)|(_,p)::r,_,x=>(((p.un x).1,(gJ r (p.un x).2).1),(gJ r (p.un x).2).2)
def Qf:∀(l:List (Nat×bu)){a:List Type}(d:ic l)(x:HL a),gJ l (ij l d x)=(d,x)
 |[],_,_,_=>rfl|(_,p)::r,_,d,x=>by
  show(((p.un (p.pk d.1 (ij r d.2 x))).1,(gJ r (p.un (p.pk d.1 (ij r d.2 x))).2).1),(gJ r (p.un (p.pk d.1 (ij r d.2 x))).2).2)=(d,x);rw[bu.un_pk p,Qf r];rfl
abbrev AQ:List Type->Type->Type|[],R=>R|t::l,R=>t->AQ l R
def app{R:Type}:{l:List Type}->AQ l R->HL l->R|[],f,_=>f|_::_,f,x=>app (f x.1) x.2
abbrev Nc:List Type->Type|[]=>Unit|[t]=>t|t::u::l=>t×Nc (u::l)
def Nc.fro:(l:List Type)->HL l->Nc l|[],_=>()|[_],x=>x.1|_::u::l,x=>(x.1,Nc.fro (u::l) x.2)
def Nc.to:(l:List Type)->Nc l->HL l|[],_=>()|[_],x=>(x,())|_::u::l,x=>(x.1,Nc.to (u::l) x.2)
def Nc.to_fro:∀(l:List Type)(x:HL l),Nc.to l (Nc.fro l x)=x
 |[],_=>rfl|[_],_=>rfl|_::u::l,x=>by
  show(x.1,Nc.to (u::l) (Nc.fro (u::l) x.2))=x;rw[Nc.to_fro];rfl
def RS.mk(p:Pt)(hp:List (Nat×bu)):RS (Nc (p.ts (mJ hp []))):=
 .one p hp (fun x=>((p.un (Nc.to _ x)).1,(gJ hp (p.un (Nc.to _ x)).2).1)) (fun y=>Nc.fro _ (p.pk y.1 (ij hp y.2 n8))) fun y=>by
  obtain⟨d,a⟩:=y;show((p.un (Nc.to _ (Nc.fro _ (p.pk d (ij hp a n8))))).1,(gJ hp (p.un (Nc.to _ (Nc.fro _ (p.pk d (ij hp a n8))))).2).1)=(d,a);rw[Nc.to_fro,Pt.un_pk,Qf]
structure IF:Type 1 where
 key:tv
 args:List Pt
 hp:List (Nat×bu)
 R:Type
 out:RS R
abbrev IF.T(i:IF):Type:=AQ (Pts.ts i.args (mJ i.hp [])) (Option i.R)
def IF.e(i:IF)(r:i.T):dc:=⟨i.key,i.args,i.hp,i.R,fun d a=>app r (Pts.pk i.args d (ij i.hp a n8)),i.out⟩
abbrev KL:Type:=yv×LS
abbrev KL.T(l:KL)(R:Type):Type:=AQ (zC l.2.fr (mJ l.2.hp [])) (Option R)
def KL.lab{R:Type}(l:KL)(r:l.T R):gp R:=⟨l.1,l.2,fun d=>app r (qa l.2.fr d.1 (ij l.2.hp d.2 n8))⟩
def kl:Nat->List KL->KL|_,[]=>([],⟨0,[],[],0,[]⟩)|0,l::_=>l|n+1,_::r=>kl n r
def EH:tv->Option Nat|.yld m=>some m|_=>none
def Fh:tv->Option (List (Nat×Nat))|.thr _ ks=>some ks|_=>none
section
variable[LC]{P:Program}{i:IF}
structure EP(P:Program):Type 1 where
 e:dc
 h:e.Sound P
structure EI(P:Program)(i:IF) where
 f:i.T
 h:(i.e f).Sound P
def EI.p(s:EI P i):EP P:=⟨i.e s.f,s.h⟩
def EP.es{P:Program}:List (EP P)->List dc|[]=>[]|x::l=>x.e::EP.es l
def EP.es_ok{P:Program}:∀{l:List (EP P)},∀e∈EP.es l,e.Sound P
 |[],_,h=>by cases h
 |x::_,e,h=>by
  rcases List.mem_cons.1 h with rfl|h
  ·exact x.h
  ·exact EP.es_ok e h
structure Fx(P:Program)(i:IF):Type 1 where
 etys:List (Nat×Ty)
 hm:P.follows .mixedOrders=true
 fn:Func
 f:FuncId
 hf:P.funcs[f]? = some fn
 calls:List (EP P)
 sub:Bool
 tags:List (List Nat×Nat)
 ht:∀p t,qc p tags=some t->∀g ps x y,Sym.sub (y8 fn) p = .rangeFunc g ps x y->LC.lc t=some (x,y)
 ls:List KL
def Fx.body(x:Fx P i):Code:=y8 x.fn
def Fx.cx(x:Fx P i):Cx:={ P,tb:=⟨EP.es x.calls,x.etys,x.sub⟩,fn:=x.fn,f:=x.f,ids:=f7 i.hp,rd:=EH i.key,tags:=x.tags,thr:=Fh i.key }
def Fx.ok(x:Fx P i):x.cx.Ok x.body:=⟨EP.es_ok,x.hm,x.hf,x.ht⟩
structure PL(x:Fx P i)(k:Nat) where
 f:(kl k x.ls).T i.R
 h:∀d',pp x.cx (x.cx.TT (cf i.hp d') i.out) (cf i.hp d') i.out x.body ((kl k x.ls).lab f)
abbrev Fx.L(x:Fx P i)(k:Nat):=PL x k
structure SL(x:Fx P i) where
 q:gp i.R
 h:∀d',pp x.cx (x.cx.TT (cf i.hp d') i.out) (cf i.hp d') i.out x.body q
def PL.s{x:Fx P i}{k:Nat}(p:PL x k):SL x:=⟨(kl k x.ls).lab p.f,p.h⟩
def SL.qs{x:Fx P i}:List (SL x)->List (gp i.R)|[]=>[]|s::l=>s.q::SL.qs l
def SL.qs_ok{x:Fx P i}{a:ic i.hp}:∀{l:List (SL x)},∀q∈SL.qs l,pp x.cx (x.cx.TT (cf i.hp a) i.out) (cf i.hp a) i.out x.body q
 |[],_,h=>by cases h
 |s::_,q,h=>by
  rcases List.mem_cons.1 h with rfl|h
  ·exact s.h a
  ·exact SL.qs_ok q h
def Fx.jn{x:Fx P i}{k:Nat}(f:(kl k x.ls).T i.R)(l:List (SL x))
  (h:∀d,run x.cx i.out (SL.qs l) 1000000 false (nd x.body (kl k x.ls).1) ((kl k x.ls).2.st d)=app f (qa (kl k x.ls).2.fr d.1 (ij (kl k x.ls).2.hp d.2 ()))):PL x k:=
 ⟨f,fun _=>pp.of_run (Cx.thOk (fun _ _ h=>zF h)) x.ok (fun _ _ h=>zF h) (SL.qs_ok) h⟩
def Fx.lp{x:Fx P i}{k:Nat}(g:Nat->(kl k x.ls).T i.R)(b:(kl k x.ls).T i.R->(kl k x.ls).T i.R)(c:∀d:(kl k x.ls).2.den,app (g 0) (qa (kl k x.ls).2.fr d.1 (ij (kl k x.ls).2.hp d.2 ()))=none)(e:∀n,g (n+1)=b (g n))(l:PL x k->List (SL x))
  (h:∀r d,run x.cx i.out (SL.qs (l r)) 1000000 false (nd x.body (kl k x.ls).1) ((kl k x.ls).2.st d)=app (b r.f) (qa (kl k x.ls).2.fr d.1 (ij (kl k x.ls).2.hp d.2 ()))) (n:Nat):PL x k:=
 ⟨g n,by
  induction n with
  |zero=>intro f d r a;have:=c d;rw[show((kl k x.ls).lab (g 0)).F d=none from this]at a;cases a
  | succ n ih=>rw[e];exact(Fx.jn (b (g n)) (l ⟨g n,ih⟩) (h ⟨g n,ih⟩)).h⟩
def Fx.fin(b:LC.base=[])(x:Fx P i)(f:i.T)(l:List (SL x))(hp:Plain P x.f)(c:i.key = .fn x.f)(j:x.fn.body=some x.body)(a:cL x.cx i.args i.hp=true)
  (h:∀d g,iH x.cx x.body i.out (SL.qs l) i.args i.hp (Pts.put i.args d) (cf i.hp g)=app f (Pts.pk i.args d (ij i.hp g n8))):EI P i:=
 ⟨f,dc.sound_fn b (e:=i.e f) (cx:=x.cx) (labs:=SL.qs l) x.ok c (show Fh i.key=none by rw[c];rfl) j (show EH i.key=none by rw[c];rfl) rfl hp a (fun _=>SL.qs_ok) h⟩
def Fx.fint(b:LC.base=[])(x:Fx P i)(f:i.T)(l:List (SL x))(hp:Plain P x.f)(c:i.key = .thr x.f [])(j:x.fn.body=some x.body)(a:cL x.cx i.args i.hp=true)
  (h:∀d g,iH x.cx x.body i.out (SL.qs l) i.args i.hp (Pts.put i.args d) (cf i.hp g)=app f (Pts.pk i.args d (ij i.hp g n8))):EI P i:=
 ⟨f,dc.sound_thr b (e:=i.e f) (cx:=x.cx) (labs:=SL.qs l) (ks:=[]) x.ok c (show Fh i.key=some [] by rw[c];rfl) j (show EH i.key=none by rw[c];rfl) rfl hp a (fun _=>SL.qs_ok) h⟩
def Fx.fiy(b:LC.base=[])(x:Fx P i)(f:i.T)(l:List (SL x))(m:Nat)(c:i.key = .yld m)(p:List Nat)(j:KQ (Sym.sub x.body p)=true)(a:(up (f7 i.hp) i.args&&gF (f7 i.hp) i.hp)=true)
  (h:∀d g,dF x.cx x.body p m i.out (SL.qs l) i.hp (Pts.put i.args d) (cf i.hp g)=app f (Pts.pk i.args d (ij i.hp g n8))):EI P i:=
 ⟨f,dc.sound_yld b (e:=i.e f) (cx:=x.cx) (labs:=SL.qs l) (p:=p) (m:=m) x.ok c (show Fh i.key=none by rw[c];rfl) (show EH i.key=some m by rw[c];rfl) rfl j a (fun _=>SL.qs_ok) h⟩
def EI.rc(g:Nat->i.T)(b:i.T->i.T)(e:∀d a,app (g 0) (Pts.pk i.args d (ij i.hp a n8))=none)(j:∀n,g (n+1)=b (g n))(s:EI P i->EI P i)(k:∀r,(s r).f=b r.f)(n:Nat):EI P i:=
 ⟨g n,by
  induction n with
  |zero=>intro d a r c;have:=e d a;rw[show(i.e (g 0)).F d a=none from this]at c;cases c
  | succ n ih=>rw[j,← k ⟨g n,ih⟩];exact(s ⟨g n,ih⟩).h⟩
def cV:List Nat->Code->List Nat->yv->yv
 |[],_,p,k=>(0,p)::k|i::r,c,p,k=>match c with
  |.seq a b=>match i with|0=>cV r a (0::p) ((0,1::p)::k)|_=>cV r b (1::p) k
  |.block _ a=>cV r a (0::p) ((1,p)::k)|.loop a=>cV r a (0::p) ((2,p)::k)|.scope a=>cV r a (0::p) ((3,p)::k)|.rangeFunc _ _ _ b=>cV r b (i::p) []|c=>cV r (y9 i c) (i::p) k
def qof(b:Code)(n:Nat):yv:=cV (SE 200 n).reverse b [] []
def rf(P:Program)(f:FuncId):Func:=match P.funcs[f]? with|some fn=>fn|none=>default
structure LB where
 n:Nat
 fr:List (Nat×Pt)
 hp:List (Nat×bu)
 df:List Nat
abbrev lb(n:Nat)(fr:List (Nat×Pt))(hp:List (Nat×bu):=[])(a:List Nat:=[]):LB:=⟨n,fr,hp,a⟩
def RH(a:Func):List LB->List KL|[]=>[]|l::r=>(qof (y8 a) l.n,⟨a.ntmps,l.fr,l.hp,64,l.df⟩)::RH a r
def gQ:tv->FuncId|.fn f=>f|.ext f=>f|.thr f _=>f|.yld _=>0
def SJ {f : FuncId} {fn : Func} (hf : P.funcs[f]? = some fn) (hn : (fn.name == "runtime.NumGoroutine") = false) (hb : fn.body.isNone = false) : Plain P f := fun args w => by
 have h1 : ¬ fn.name = "runtime.NumGoroutine" := by simpa using hn
 cases hq:fn.body with
 |none=>rw[hq]at hb;cases hb
 |some c=>simp[callFunc,hf,h1,hq]
def Fx.at(etys:List (Nat×Ty))(d:P.follows .mixedOrders=true)(f:FuncId)(b:List (EP P))(h:List LB)(sub:Bool)(a:List (List Nat×Nat))
  (e:∀p t,qc p a=some t->∀g ps x y,Sym.sub (y8 (rf P f)) p = .rangeFunc g ps x y->LC.lc t=some (x,y)) (c:P.funcs[f]? = some (rf P f)):Fx P i:=
 ⟨etys,d,rf P f,f,c,b,sub,a,e,RH (rf P f) h⟩
def Fx.fi(x:Fx P i)(f:i.T)(l:List (SL x):=[])(hp:Plain P x.f:=by exact SJ (Fx.hf _) Tc Tc)(g:i.key = .fn x.f:=by exact rfl)(e:x.fn.body=some x.body:=by exact rfl)(a:cL x.cx i.args i.hp=true:=by kernel_rfl)
  (h:∀d b,iH x.cx x.body i.out (SL.qs l) i.args i.hp (Pts.put i.args d) (cf i.hp b)=app f (Pts.pk i.args d (ij i.hp b n8)):=by intro d b;kernel_rfl) (c:LC.base=[]:=by exact rfl):EI P i:=x.fin c f l hp g e a h
def Fx.ft(x:Fx P i)(f:i.T)(l:List (SL x):=[])(hp:Plain P x.f:=by exact SJ (Fx.hf _) Tc Tc)(g:i.key = .thr x.f []:=by exact rfl)(e:x.fn.body=some x.body:=by exact rfl)(a:cL x.cx i.args i.hp=true:=by kernel_rfl)
  (h:∀d b,iH x.cx x.body i.out (SL.qs l) i.args i.hp (Pts.put i.args d) (cf i.hp b)=app f (Pts.pk i.args d (ij i.hp b n8)):=by intro d b;kernel_rfl) (c:LC.base=[]:=by exact rfl):EI P i:=x.fint c f l hp g e a h
def Fx.fo(x:Fx P i)(f:i.T)(l:List (SL x))(m:Nat)(p:List Nat)(g:i.key = .yld m:=by exact rfl)(e:KQ (Sym.sub x.body p)=true:=by kernel_rfl)(a:(up (f7 i.hp) i.args&&gF (f7 i.hp) i.hp)=true:=by kernel_rfl)
  (h:∀d b,dF x.cx x.body p m i.out (SL.qs l) i.hp (Pts.put i.args d) (cf i.hp b)=app f (Pts.pk i.args d (ij i.hp b n8)):=by intro d b;kernel_rfl) (c:LC.base=[]:=by exact rfl):EI P i:=x.fiy c f l m g p e a h
def Fx.jm{x:Fx P i}{k:Nat}(f:(kl k x.ls).T i.R)(l:List (SL x):=[])(h:∀d,run x.cx i.out (SL.qs l) 1000000 false (nd x.body (kl k x.ls).1) ((kl k x.ls).2.st d)=app f (qa (kl k x.ls).2.fr d.1 (ij (kl k x.ls).2.hp d.2 ())):=by intro d;kernel_rfl):PL x k:=Fx.jn f l h
def Fx.lq{x:Fx P i}{k:Nat}(g:Nat->(kl k x.ls).T i.R)(b:(kl k x.ls).T i.R->(kl k x.ls).T i.R)(l:PL x k->List (SL x))(a:∀d:(kl k x.ls).2.den,app (g 0) (qa (kl k x.ls).2.fr d.1 (ij (kl k x.ls).2.hp d.2 ()))=none:=by intro _;exact rfl)(c:∀n,g (n+1)=b (g n):=by intro _;exact rfl)
  (h:∀r d,run x.cx i.out (SL.qs (l r)) 1000000 false (nd x.body (kl k x.ls).1) ((kl k x.ls).2.st d)=app (b r.f) (qa (kl k x.ls).2.fr d.1 (ij (kl k x.ls).2.hp d.2 ())):=by intro _ d;kernel_rfl) (n:Nat):PL x k:=Fx.lp g b a c l h n
end
end Go.Sym
namespace Go.Sym
def mj(n:Int):Option Bs:=bif decide (-9223372036854775808<=n/\n<=9223372036854775807) then some (Lib.itoa n) else none
abbrev Pc:Type:=Bs×Int×Bool×Bs
abbrev Pq:Type:={ x:Pc // -1125899906842624<=x.2.1/\x.2.1<=1125899906842624 }
instance:Inhabited Pq:=⟨⟨([],0,false,[]),Tf⟩⟩
def yt(s a new:Bs):Option Bs:=bif decide (1<=List.length a/\List.length s<4294967281/\List.length s+List.length s*List.length new<=140737488355328) then some (Lib.replaceAll s a new) else none
def vP(s:Bs)(n:Int):Option Bs:=bif decide (0<=n/\n<=9223372036854775807/\List.length s*n.toNat<=140737488355328) then some (Lib.repeatL s n.toNat) else none
def vy(s:Bs):Option Bool:=bif decide (List.length s<=9223372036854775807) then some (Lib.validD s) else none
def n6(a b:UInt8)(d e:Bs)(c:UInt8):Bs:=if c=a then d else if c=b then e else[c]
def gf(a b:UInt8)(c d:Bs)(s:Bs):Bs:=s.flatMap (n6 a b c d)
def jl(a b:UInt8)(l:Bs):Nat:=l.count a+l.count b
def DV(a b:UInt8)(c d s t:Bs):gf a b c d (s++t)=gf a b c d s++gf a b c d t:=List.flatMap_append
def Kb(a b:UInt8)(s t:Bs):jl a b (s++t)=jl a b s+jl a b t:=by unfold jl;rw[List.count_append,List.count_append];omega
def Kc{a b:UInt8}(d:a≠b)(c:UInt8):jl a b [c]=if c=a then 1 else if c=b then 1 else 0:=by
 unfold jl;simp only[List.count_cons,List.count_nil,beq_iff_eq];by_cases h:c=a
 ·subst h;simp[d]
 ·by_cases e:c=b
  ·subst e;simp[h]
  ·simp[h,e]
def nE{a b:UInt8}(d:a≠b)(e f g i:UInt8):∀l:Bs,(gf a b [e,f] [g,i] l).length=l.length+jl a b l
 |[]=>rfl|c::l=>by
  have h:=nE d e f g i l;rw[show c::l=[c]++l from rfl,DV,qM,qM,Kb,h,Kc d]
  have:(gf a b [e,f] [g,i] [c]).length=1+(if c=a then 1 else if c=b then 1 else 0):=by
   show(n6 a b [e,f] [g,i] c++[]).length=_;unfold n6;split
   ·rfl
   ·split<;>rfl
  rw[this];simp only[qL,qZ];omega
def QS{a b:UInt8}(d:a≠b)(f g:Bs):∀l:Bs,jl a b l=0->gf a b f g l=l
 |[],_=>rfl|c::l,h=>by
  rw[show c::l=[c]++l from rfl,Kb,Kc d]at h
  rw[show c::l=[c]++l from rfl,DV,QS d f g l Ta]
  congr 1;show n6 a b f g c++[]=[c];unfold n6;by_cases e:c=a
  ·rw[qX e]at h;omega
  ·by_cases i:c=b
   ·rw[qW e,qX i]at h;omega
   ·rw[qW e,qW i];rfl
def qb7{α:Type}(l:List α)(i:Nat)(h:i<l.length):l.take (i+1)=l.take i++[l[i]]:=by
 rw[List.take_add_one,List.getElem?_eq_getElem h];rfl
def yq(s:Bs)(e f c:Int)(d:List Bs):Option Bs:=
 match d with|[[a],[a1,a2],[b],[b1,b2]]=>bif decide (e=0/\f=0/\a≠b/\List.length s<=1000000) then some (gf a b [a1,a2] [b1,b2] s) else none|_=>none
def qq9{s r:Bs}{g i p:Int}{k:List Bs}(h:yq s g i p k=some r) :
  ∃a c d b e f,k=[[a],[c,d],[b],[e,f]]/\g=0/\i=0/\a≠b/\List.length s<=1000000/\r=gf a b [c,d] [e,f] s:=by
 unfold yq at h;split at h
 ·rename_i a c d b e f;cases j:decide (g=0/\i=0/\a≠b/\List.length s<=1000000)<;>rw[j]at h<;>simp only[qT,qF,reduceCtorEq]at h
  obtain⟨l,m,n,o⟩:=of_decide_eq_true j;exact⟨a,c,d,b,e,f,rfl,l,m,n,o,(qJ h).symm⟩
 ·cases h
def bH(l:Bs):Option Bs:=some l
def fI(l:Bs):Option Bs:=some l
def kz(l:List Bs)(a:Bs):Option Bs:=bif decide (List.length l<=140737488355328/\List.length (Lib.join l a)<=140737488355328) then some (Lib.join l a) else none
def vx(s sub:Bs):Option Int:=bif decide (List.length s<4294967281) then some (Lib.index s sub) else none
def mV(s:Bs):Nat×Nat:=if s=[] then(65533,0) else Lib.decodeL s
def oq(s:Bs):Option (Int×Int):=some (((mV s).1:Int),((mV s).2:Int))
def gD(s:Bs):Int ⊕ Int:=match Lib.atoiAll s with|.ok v => .inl v|.range => .inr (Lib.atoiSat s)|_ => .inr 0
def fH(s:Bs):Option (Int ⊕ Int):=bif decide (List.length s<=281474976710656) then some (gD s) else none
def ei(l:List Int):List Int:=l.mergeSort fun x y=>decide (x<=y)
abbrev Jj:Type:=List Int
def tn(a:List Int):Option Jj:=bif decide (List.length a<=ax) then some (ei a) else none
def li(l:List Int):List Int:=Lib.compact l
abbrev Ji:Type:=List Int
def CA(a:List Int):Option Ji:=bif decide (List.length a<=ax) then some (li a) else none
open Go.RowKit
variable[LC]
def bF(b:List UInt8)(c:UInt8):Option Int:=some (Lib.indexByte b c)
def Hw(f:FuncId)(r:List UInt8->UInt8->Option Int):dc:={ key := .ext f,args:=[.h (.list .byte),.h .byte],hp:=[],R:=Int,F:=fun d _=>r d.1 d.2.1,out := .one (α:=Int) (.h (.int .i64)) [] (fun r=>(r,())) (fun y=>y.1) (fun _=>rfl) }
def Hv(f:FuncId)(r:List UInt8->UInt8->Option Int):dc:={ key := .ext f,args:=[.h .str,.h .byte],hp:=[],R:=Int,F:=fun d _=>r d.1 d.2.1,out := .one (α:=Int) (.h (.int .i64)) [] (fun r=>(r,())) (fun y=>y.1) (fun _=>rfl) }
def JV(c:UInt8):((c.toNat:Int)).toNat.toUInt8=c:=Te
def qnb {P : Program} {f : FuncId} {fn : Func} (hf : P.funcs[f]? = some fn) (hname : (fn.name == "runtime.NumGoroutine") = false) (hb : fn.body.isNone = true) (hn : Extern.findNext fn = none) (he : Extern.find fn = some Extern.BytealgIndexByte.indexByte) (b : List UInt8) (c : UInt8) :
  AR P f [.str b,.byte c] (.int .i64 (Lib.indexByte b c)):=fun w G vs _ hr=>by
 match vs,hr with
 |[v1,v2],⟨h1,h2,_⟩=>
  have h1:v1 = .string ⟨b.toArray⟩:=h1;have h2:v2 = .int .u8 c.toNat:=h2;subst h1 h2;refine⟨.int .i64 (Lib.indexByte b c),?_,rfl⟩;rw[run_callFunc_extern hf hname hb hn he,show([Value.string ⟨b.toArray⟩,.int .u8 c.toNat]:List Value).toArray=#[.string ⟨b.toArray⟩,.int .u8 c.toNat] from rfl,Lib.run_indexByteString,JV]
  rfl
def qnc {P : Program} {f : FuncId} {fn : Func} (hf : P.funcs[f]? = some fn) (hname : (fn.name == "runtime.NumGoroutine") = false) (hb : fn.body.isNone = true) (hn : Extern.findNext fn = none) (he : Extern.find fn = some Extern.BytealgIndexByte.indexByte) (b : List UInt8) (c : UInt8) :
  AR P f [.sl .byte b,.byte c] (.int .i64 (Lib.indexByte b c)):=fun w G vs hm hr=>by
 match vs,hr with
 |[v1,v2],⟨h1,h2,_⟩=>
  have h2:v2 = .int .u8 c.toNat:=h2;subst h2;obtain⟨a,cp,rfl,hc,hl⟩:pu 1 (Ty.byte.At G.imm) b v1:=h1;refine⟨.int .i64 (Lib.indexByte b c),?_,rfl⟩;rw[run_callFunc_extern hf hname hb hn he];have key:∀k:Int,(Extern.BytealgIndexByte.indexByte #[.slice a b.length cp,.int .u8 c.toNat]).run P w = .ok (.int .i64 k) w->((Extern.BytealgIndexByte.indexByte ([Value.slice a b.length cp,.int .u8 c.toNat]:List Value).toArray).run P w).andThen (fun v w'=>Result.ok (Next.value v) w') = .ok (.value (.int .i64 k)) w:=by
   intro k hk;have e:([Value.slice a b.length cp,.int .u8 c.toNat]:List Value).toArray=#[.slice a b.length cp,.int .u8 c.toNat]:=rfl;rw[e,hk];rfl
  refine key _ ?_;have bb:Lib.bytesOf (b.map fun x=>(x.toNat:Int))=b:=by
   unfold Lib.bytesOf;rw[List.map_map];have:((fun n:Int=>UInt8.ofNat n.toNat) ∘ fun x:UInt8=>(x.toNat:Int))=id:=by funext x;simp
   rw[this,List.map_id]
  rcases hl with rfl|⟨g,o,rfl,hcells⟩
  ·have hs:=Lib.run_indexByteString (P:=P) .empty (c.toNat:Int) w
   cases a with|none=>exact hs|some ad=>exact hs
  ·have:=Lib.run_indexByteSlice (P:=P) (w:=w) g o b.length cp (b.map fun x=>(x.toNat:Int)) Te (fun i hi=>by
    have hk:G.imm g (o+i*1)=some (.int .u8 b[i].toNat):=hcells i _ (List.getElem?_eq_getElem hi);have:=hm.agree _ _ _ hk;rw[Nat.mul_one]at this;rw[this];simp[List.getD_eq_getElem?_getD,hi]) (c.toNat:Int)
   rw[bb,JV]at this;exact this
def qgn {P : Program} {f : FuncId} {fn : Func} (hf : P.funcs[f]? = some fn) (hname : (fn.name == "runtime.NumGoroutine") = false) (hb : fn.body.isNone = true) (hn : Extern.findNext fn = none) (he : Extern.find fn = some Extern.BytealgIndexByte.indexByte) :
  (Hv f bF).Sound P:=fun d d' r h=>by
 have h:some (Lib.indexByte (show List UInt8 from d.1) (show UInt8 from d.2.1))=some r:=h
 have h:=qJ h;subst h;exact qnb hf hname hb hn he _ _
def qgp {P : Program} {f : FuncId} {fn : Func} (hf : P.funcs[f]? = some fn) (hname : (fn.name == "runtime.NumGoroutine") = false) (hb : fn.body.isNone = true) (hn : Extern.findNext fn = none) (he : Extern.find fn = some Extern.BytealgIndexByte.indexByte) :
  (Hw f bF).Sound P:=fun d d' r h=>by
 have h:some (Lib.indexByte (show List UInt8 from d.1) (show UInt8 from d.2.1))=some r:=h
 have h:=qJ h;subst h;exact qnc hf hname hb hn he _ _
def BY(b:List UInt8)(c:UInt8):Option Int:=some (Lib.countByte b c:Nat)
def Hu(f:FuncId)(r:List UInt8->UInt8->Option Int):dc:={ key := .ext f,args:=[.h .str,.h .byte],hp:=[],R:=Int,F:=fun d _=>r d.1 d.2.1,out := .one (α:=Int) (.h (.int .i64)) [] (fun r=>(r,())) (fun y=>y.1) (fun _=>rfl) }
def qgl {P : Program} {f : FuncId} {fn : Func} (hf : P.funcs[f]? = some fn) (hname : (fn.name == "runtime.NumGoroutine") = false) (hb : fn.body.isNone = true) (hn : Extern.findNext fn = none) (he : Extern.find fn = some Extern.BytealgCount.count) :
  (Hu f BY).Sound P:=fun d d' r h=>by
 obtain⟨b,c,_⟩:=d;have h:some ((Lib.countByte (show List UInt8 from b) (show UInt8 from c):Nat):Int)=some r:=h
 have h:=qJ h;subst h;intro w G vs _ hr
 match vs,hr with
 |[v1,v2],⟨h1,h2,_⟩=>
  have h1:v1 = .string ⟨(show List UInt8 from b).toArray⟩:=h1
  have h2:v2 = .int .u8 (show UInt8 from c).toNat:=h2
  subst h1 h2;refine⟨.int .i64 (Lib.countByte (show List UInt8 from b) (show UInt8 from c):Nat),?_,rfl⟩
  rw[run_callFunc_extern hf hname hb hn he,show([Value.string ⟨(show List UInt8 from b).toArray⟩,.int .u8 (show UInt8 from c).toNat]:List Value).toArray=#[.string ⟨(show List UInt8 from b).toArray⟩,.int .u8 (show UInt8 from c).toNat] from rfl,Lib.run_countString,JV]
  rfl
end Go.Sym
namespace Go.Sym
open Go.ChangeShapes Go.WideShapes Go.ChangeAt Go.RowKit
variable[LC]
def Gw(w:World):Gh:=⟨fun b o=>match w.cell? ⟨b,o,none⟩ with|some v=>if v.oneCell'=true then some v else none|none=>none,fun _=>none,fun _=>none⟩
def IU{w:World}{b o:Nat}{v:Value}(h:w.cell? ⟨b,o,none⟩=some v)(a:v.oneCell'=true):(Gw w).imm b o=some v:=by
 simp[Gw];rw[h];simp[a]
def qgs(w:World)(e:LC.tab (Gw w).imm w):c8 (Gw w) [] w:=by
 have a:∀b o v,(Gw w).imm b o=some v->w.cell? ⟨b,o,none⟩=some v/\v.oneCell'=true:=by
  intro b o v h;simp[Gw]at h;split at h
  ·rename_i u f;split at h
   ·rename_i d;cases h;exact⟨f,d⟩
   ·cases h
  ·cases h
 exact⟨fun b o v h=>(a b o v h).1,fun b o v h=>(a b o v h).2,fun n bx h=>(by cases h),fun n m bx c b h=>(by cases h),e⟩
inductive Jq{α:Type}(p:α->Prop):Tree α->Prop
 |mk (a:α) (l:List (Tree α)):p a->l.length<=maxLen->(∀x∈l,Jq p x)->Jq p (.node a l)
def Ty.bd:(τ:Ty)->τ.den->Prop|.int k,n=>(Lit.int k n).wf=true|.str,s=>List.length s<=maxLen|.prod a b,x=>a.bd x.1/\b.bd x.2|.list a,l=>List.length l<=maxLen/\∀x∈(show List a.den from l),a.bd x|.tree a,t=>Jq a.bd t|_,_=>True
def nI(P:Program)(c:Ty->TypeId->Bool):Ty->List Field->Nat->Bool|τ,[f],o=>f.offset==o&&(P.cellsOf f.type==τ.sz&&c τ f.type)|.prod a b,f::fs,o=>f.offset==o&&(P.cellsOf f.type==a.sz&&(c a f.type&&nI P c b fs (o+a.sz)))|_,_,_=>false
def Fb(P:Program)(t g:TypeId):Bool:=match P.underlying g with|some (.slice e)=>e==t|_=>false
def iO(P:Program)(c:Ty->TypeId->Bool)(t:TypeId):Ty->List Field->Nat->Bool|τ,[f,g],o=>f.offset==o&&(P.cellsOf f.type==τ.sz&&(c τ f.type&&(g.offset==o+τ.sz&&(P.cellsOf g.type==1&&Fb P t g.type))))|.prod a b,f::fs,o=>f.offset==o&&(P.cellsOf f.type==a.sz&&(c a f.type&&iO P c t b fs (o+a.sz)))|_,_,_=>false
def eg(P:Program):Nat->Ty->TypeId->Bool
 |0,_,_=>false|_+1,.int k,t=>match P.underlying t with|some (.int k')=>decide (k'=k)|_=>false
 |_+1,.byte,t=>match P.underlying t with|some (.int k')=>decide (k' = .u8)|_=>false
 |_+1,.bool,t=>match P.underlying t with|some .bool=>true|_=>false
 |_+1,.str,t=>match P.underlying t with|some .string=>true|_=>false
 |n+1,.list a,t=>match P.underlying t with|some (.slice e)=>P.cellsOf e==a.sz&&(decide (0<a.sz)&&eg P n a e)|_=>false
 |n+1,.prod a b,t=>match P.underlying t with|some (.struct fs)=>P.cellsOf t==(Ty.prod a b).sz&&nI P (eg P n) (.prod a b) fs.toList 0|_=>false
 |n+1,.tree a,t=>match P.underlying t with|some (.struct fs)=>P.cellsOf t==(Ty.tree a).sz&&iO P (eg P n) t a fs.toList 0|_=>false
 |_+1,_,_=>false
def qcq{P:Program}{n:Nat}{k:IntKind}{t:TypeId}(h:eg P (n+1) (.int k) t=true):P.underlying t=some (.int k):=by
 unfold eg at h;split at h
 ·rename_i a e;rw[e,of_decide_eq_true h]
 ·cases h
def qcp{P:Program}{n:Nat}{t:TypeId}(h:eg P (n+1) .byte t=true):P.underlying t=some (.int .u8):=by
 unfold eg at h;split at h
 ·rename_i a e;rw[e,of_decide_eq_true h]
 ·cases h
def qco{P:Program}{n:Nat}{t:TypeId}(h:eg P (n+1) .bool t=true):P.underlying t=some .bool:=by
 unfold eg at h;split at h
 ·rename_i e;exact e
 ·cases h
def qcr{P:Program}{n:Nat}{t:TypeId}(h:eg P (n+1) .str t=true):P.underlying t=some .string:=by
 unfold eg at h;split at h
 ·rename_i e;exact e
 ·cases h
def ao.app{G:Gh}:∀{xs a:List AV}{us vs:List Value},ao xs G us->ao a G vs->ao (xs++a) G (us++vs)|[],_,[],_,_,h=>h|[],_,_::_,_,h,_=>by simp[ao]at h|_::_,_,[],_,h,_=>by simp[ao]at h|_::_,_,_::_,_,h,k=>⟨h.1,ao.app h.2 k⟩
def DR{G:Gh}:∀(τ:Ty)(x:τ.den)(cs:List Value),ao (τ.enc x) G cs->∀v∈cs,v.oneCell'=true
 |.int k,n,[v],h,u,hu=>by
  rw[List.mem_singleton]at hu;subst hu;have f:u = .int k n:=h.1;rw[f];rfl
 |.byte,c,[v],h,u,hu=>by
  rw[List.mem_singleton]at hu;subst hu;have f:u = .int .u8 (UInt8.toNat c):=h.1;rw[f];rfl
 |.bool,c,[v],h,u,hu=>by
  rw[List.mem_singleton]at hu;subst hu;have f:u = .bool c:=h.1;rw[f];rfl
 |.str,s,[v],h,u,hu=>by
  rw[List.mem_singleton]at hu;subst hu;have f:u = .string ⟨List.toArray s⟩:=h.1;rw[f];rfl
 |.list a,l,[v],h,u,hu=>by
  rw[List.mem_singleton]at hu;subst hu;obtain⟨p,c,rfl,_⟩:pu a.sz (a.At G.imm) l u:=h.1;rfl
 |.unit,_,[],_,u,hu=>by cases hu
 |.unit,_,_::_,h,_,_=>by simp[Ty.enc,ao]at h|.prod a b,x,cs,h,u,hu=>by
  have o:∀(i j:List AV)(cs:List Value),ao (i++j) G cs->∃g d,cs=g++d/\ao i G g/\ao j G d:=by
   intro i
   induction i with
   |nil=>intro j cs h;exact⟨[],cs,rfl,trivial,h⟩|cons x i ih=>
    intro j cs h
    cases cs with
    |nil=>simp[ao]at h|cons c cs=>
     obtain⟨g,d,e,f,m⟩:=ih j cs h.2;exact⟨c::g,d,by rw[e];rfl,⟨h.1,f⟩,m⟩
  obtain⟨g,d,rfl,f,m⟩:=o _ _ _ h;rcases List.mem_append.1 hu with q|q
  ·exact DR a x.1 g f u q
  ·exact DR b x.2 d m u q
 |.tree a,x,cs,h,u,hu=>by
  have o:∀(i j:List AV)(cs:List Value),ao (i++j) G cs->∃g d,cs=g++d/\ao i G g/\ao j G d:=by
   intro i
   induction i with
   |nil=>intro j cs h;exact⟨[],cs,rfl,trivial,h⟩|cons x i ih=>
    intro j cs h
    cases cs with
    |nil=>simp[ao]at h|cons c cs=>
     obtain⟨g,d,e,f,m⟩:=ih j cs h.2;exact⟨c::g,d,by rw[e];rfl,⟨h.1,f⟩,m⟩
  obtain⟨g,d,rfl,f,m⟩:=o _ _ _ h;rcases List.mem_append.1 hu with q|q
  ·exact DR a _ g f u q
  ·cases d with
   |nil=>cases q
   |cons v d=>
    cases d with
    |cons v' d=>simp[ao]at m|nil=>
     rw[List.mem_singleton]at q;subst q;obtain⟨p,c,rfl,_⟩:pu (Ty.tree a).sz ((Ty.tree a).At G.imm) (Tree.kids x) u:=m.1;rfl
 |.int _,_,[],h,_,_=>by simp[Ty.enc,ao]at h|.int _,_,_::_::_,h,_,_=>by simp[Ty.enc,ao]at h|.byte,_,[],h,_,_=>by simp[Ty.enc,ao]at h|.byte,_,_::_::_,h,_,_=>by simp[Ty.enc,ao]at h|.bool,_,[],h,_,_=>by simp[Ty.enc,ao]at h|.bool,_,_::_::_,h,_,_=>by simp[Ty.enc,ao]at h|.str,_,[],h,_,_=>by simp[Ty.enc,ao]at h|.str,_,_::_::_,h,_,_=>by simp[Ty.enc,ao]at h|.list _,_,[],h,_,_=>by simp[Ty.enc,ao]at h|.list _,_,_::_::_,h,_,_=>by simp[Ty.enc,ao]at h
def ao.cells{w:World}{b:Nat}:∀(xs:List AV)(cs:List Value)(o:Nat),ao xs (Gw w) cs->(∀v∈cs,v.oneCell'=true)->(∀(j:Nat)(v:Value),cs[j]? = some v->w.cell? ⟨b,o+j,none⟩=some v)->de xs (Gw w) b o
 |[],[],_,_,_,_=>trivial|[],_::_,_,h,_,_=>by simp[ao]at h|_::_,[],_,h,_,_=>by simp[ao]at h|x::xs,c::cs,o,h,h1,h2=>by
  refine⟨⟨c,IU (h2 0 c rfl) (h1 c qH),h.1⟩,ao.cells xs cs (o+1) h.2 (fun v d=>h1 v (qE _ d)) (fun j v a => ?_)⟩
  have:=h2 (j+1) v a;rw[show o+1+j=o+(j+1) by omega];exact this
structure xv(H:Type) where
 b:DataW H->Nat
 ba:List (DataW H)->Nat
 str:∀s,b (.lit (.string s))=s.length+1
 lit:∀l,1<=b (.lit l)
 nilb:b .nil=1
 sl:∀e r,b (.slice e r)=ba e+ba r+1
 agg:∀l,b (.agg l)=ba l+1
 nil:ba []=0
 cons:∀d r,ba (d::r)=b d+ba r
def xv.app{H:Type}(B:xv H):∀(l r:List (DataW H)),B.ba (l++r)=B.ba l+B.ba r|[],r=>by rw[List.nil_append,B.nil,wO]|d::l,r=>by rw[wK,B.cons,B.cons,B.app l r,Nat.add_assoc]
mutual
def oF{α:Type}(f:α->Nat):Tree α->Nat|.node a l=>f a+Av f l+2
def Av{α:Type}(f:α->Nat):List (Tree α)->Nat|[]=>0|t::l=>oF f t+Av f l
end
def qck{α:Type}(f:α->Nat):∀l:List (Tree α),Av f l=(l.map (oF f)).sum|[]=>by simp[Av]|t::l=>by rw[Av,qck f l,List.map_cons,List.sum_cons]
def qtz{α:Type}(f:α->Nat)(a:α)(l:List (Tree α)):oF f (.node a l)=f a+(l.map (oF f)).sum+2:=by
 rw[← qck];simp[oF]
def Ty.bk:(τ:Ty)->τ.den->Nat|.str,s=>List.length s+1|.prod a b,x=>a.bk x.1+b.bk x.2|.list a,l=>((show List a.den from l).map a.bk).sum+1|.unit,_=>0|.tree a,t=>oF a.bk t|_,_=>1
section
variable{H:Type}{enc:TypeId×Value->H}{P:Program}{w:World}{base:Nat}{spare:Nat->Bool}{held:Bool}
def Rc(B:xv H)(n m:Nat)(cs:List Value)
  (k:∀(τ:Ty)(t:TypeId)(cs:List Value)(y:DataW H×List MemPlace),eg P n τ t=true->DataW.trod enc P w base spare held m t cs=some y->∃x:τ.den,τ.bd x/\ao (τ.enc x) (Gw w) cs/\τ.bk x<=B.b y.1) :
  ∀(d:List Field)(τ:Ty)(o:Nat)(xs:List (DataW H×List MemPlace)),nI P (eg P n) τ d o=true->xs.length=d.length->(∀(i:Nat)(f:Field),d[i]? = some f->DataW.trod enc P w base spare held m f.type ((cs.drop f.offset).take (P.cellsOf f.type))=xs[i]?) ->
   ∃x:τ.den,τ.bd x/\ao (τ.enc x) (Gw w) ((cs.drop o).take τ.sz)/\τ.bk x<=B.ba (xs.map (·.1))
 |[],τ,o,xs,h,_,_=>by cases τ<;>simp[nI]at h
 |[f],τ,o,xs,h,hl,hf=>by
  have c:(f.offset==o&&(P.cellsOf f.type==τ.sz&&eg P n τ f.type))=true:=by cases τ<;>exact h
  simp at c
  match xs,hl with
  |[y],_=>
   have e:DataW.trod enc P w base spare held m f.type ((cs.drop f.offset).take (P.cellsOf f.type))=some y:=hf 0 f rfl;rw[c.1,c.2.1]at e;obtain⟨x,x1,x2,x3⟩:=k τ f.type _ y c.2.2 e;exact⟨x,x1,x2,Tz⟩
 |f::g::d,τ,o,xs,h,hl,hf=>by
  cases τ with
  |prod a b=>
   have c:(f.offset==o&&(P.cellsOf f.type==a.sz&&(eg P n a f.type&&nI P (eg P n) b (g::d) (o+a.sz))))=true:=h;simp at c
   match xs,hl with
   |y::ys,hl=>
    have e:DataW.trod enc P w base spare held m f.type ((cs.drop f.offset).take (P.cellsOf f.type))=some y:=hf 0 f rfl;rw[c.1,c.2.1]at e;obtain⟨x1,l,r,u⟩:=k a f.type _ y c.2.2.1 e;obtain⟨x2,p,s,v⟩:=Rc B n m cs k (g::d) b (o+a.sz) ys c.2.2.2 (by simpa using hl) (fun i q j=>hf (i+1) q j)
    refine⟨(x1,x2),⟨l,p⟩,?_,?_⟩
    ·show ao (a.enc x1++b.enc x2) (Gw w) ((cs.drop o).take (a.sz+b.sz));rw[List.take_add,List.drop_drop];exact ao.app r s
    ·show a.bk x1+b.bk x2<=_;rw[List.map_cons,B.cons];omega
  |_=>simp[nI]at h
def qcl(B:xv H)(n m:Nat)(cs:List Value){c:Ty}(t:TypeId)
  (r:∀(τ:Ty)(t:TypeId)(cs:List Value)(y:DataW H×List MemPlace),eg P n τ t=true->DataW.trod enc P w base spare held m t cs=some y->∃x:τ.den,τ.bd x/\ao (τ.enc x) (Gw w) cs/\τ.bk x<=B.b y.1)
  (p:∀(g:TypeId)(cs:List Value)(y:DataW H×List MemPlace),Fb P t g=true->DataW.trod enc P w base spare held m g cs=some y->∃l:List (Ty.tree c).den,(Ty.list (.tree c)).bd l/\ao [.sl (.tree c) l] (Gw w) cs/\(l.map (Ty.tree c).bk).sum+1<=B.b y.1) :
  ∀(e:List Field)(τ:Ty)(o:Nat)(xs:List (DataW H×List MemPlace)),iO P (eg P n) t τ e o=true->xs.length=e.length->(∀(i:Nat)(f:Field),e[i]? = some f->DataW.trod enc P w base spare held m f.type ((cs.drop f.offset).take (P.cellsOf f.type))=xs[i]?) ->
   ∃(x:τ.den)(l:List (Ty.tree c).den),τ.bd x/\(Ty.list (.tree c)).bd l/\ao (τ.enc x++[.sl (.tree c) l]) (Gw w) ((cs.drop o).take (τ.sz+1))/\τ.bk x+((l.map (Ty.tree c).bk).sum+1)<=B.ba (xs.map (·.1))
 |[],τ,o,xs,h,_,_=>by cases τ<;>simp[iO]at h
 |[f],τ,o,xs,h,_,_=>by cases τ<;>simp[iO]at h
 |[f,g],τ,o,xs,h,hl,hf=>by
  have d:(f.offset==o&&(P.cellsOf f.type==τ.sz&&(eg P n τ f.type&&(g.offset==o+τ.sz&&(P.cellsOf g.type==1&&Fb P t g.type)))))=true:=by cases τ<;>exact h
  simp at d
  match xs,hl with
  |[y,z],_=>
   have j:DataW.trod enc P w base spare held m f.type ((cs.drop f.offset).take (P.cellsOf f.type))=some y:=hf 0 f rfl;have s:DataW.trod enc P w base spare held m g.type ((cs.drop g.offset).take (P.cellsOf g.type))=some z:=hf 1 g rfl;rw[d.1,d.2.1]at j;rw[d.2.2.2.1,d.2.2.2.2.1]at s;obtain⟨x,x1,x2,x3⟩:=r τ f.type _ y d.2.2.1 j;obtain⟨l,C,E,K⟩:=p g.type _ z d.2.2.2.2.2 s;refine⟨x,l,x1,C,?_,Tz⟩
   rw[List.take_add,List.drop_drop];exact ao.app x2 E
 |f::g::k::e,τ,o,xs,h,hl,hf=>by
  cases τ with
  |prod a b=>
   have d:(f.offset==o&&(P.cellsOf f.type==a.sz&&(eg P n a f.type&&iO P (eg P n) t b (g::k::e) (o+a.sz))))=true:=h;simp at d
   match xs,hl with
   |y::ys,hl=>
    have j:DataW.trod enc P w base spare held m f.type ((cs.drop f.offset).take (P.cellsOf f.type))=some y:=hf 0 f rfl;rw[d.1,d.2.1]at j;obtain⟨x1,u,F,I⟩:=r a f.type _ y d.2.2.1 j;obtain⟨x2,l,v,bl,G,J⟩:=qcl B n m cs t r p (g::k::e) b (o+a.sz) ys d.2.2.2 (by simpa using hl) (fun i A q=>hf (i+1) A q)
    refine⟨(x1,x2),l,⟨u,v⟩,bl,?_,?_⟩
    ·show ao ((a.enc x1++b.enc x2)++[.sl (.tree c) l]) (Gw w) ((cs.drop o).take ((a.sz+b.sz)+1));rw[qS,Nat.add_assoc,List.take_add,List.drop_drop];exact ao.app F G
    ·show(a.bk x1+b.bk x2)+_<=_;rw[List.map_cons,B.cons];omega
  |_=>simp[iO]at h
def qpy(B:xv H):∀(m n:Nat)(τ:Ty)(t:TypeId)(cs:List Value)(y:DataW H×List MemPlace),eg P n τ t=true->DataW.trod enc P w base spare held m t cs=some y->∃x:τ.den,τ.bd x/\ao (τ.enc x) (Gw w) cs/\τ.bk x<=B.b y.1:=by
 intro m
 induction m with
 |zero=>intro n τ t cs y _ h;simp[DataW.trod]at h|succ m ih=>
  intro n τ t cs y c h
  cases n with
  |zero=>simp[eg]at c|succ n=>
   cases τ with
   |int k=>
    obtain⟨n,rfl,rfl,V⟩:=DataW.trod_int (qcq c) h;exact⟨n,V,⟨rfl,trivial⟩,B.lit _⟩
   |byte=>
    obtain⟨n,rfl,rfl,V⟩:=DataW.trod_int (qcp c) h;have L:0<=n/\n<=255:=by simp[Lit.wf,qA,decide_eq_true_eq]at V;exact V
    refine⟨UInt8.ofNat n.toNat,trivial,⟨?_,trivial⟩,B.lit _⟩;show Value.int .u8 n = .int .u8 ((UInt8.ofNat n.toNat).toNat:Int);rw[UInt8.toNat_ofNat',Nat.mod_eq_of_lt Ta]
    congr 1;omega
   |bool=>
    obtain⟨b,rfl,rfl⟩:=DataW.trod_bool (qco c) h;exact⟨b,trivial,⟨rfl,trivial⟩,B.lit _⟩
   |str=>
    obtain⟨s,rfl,rfl,M⟩:=DataW.trod_string (qcr c) h;refine⟨s.data.toList,?_,⟨?_,trivial⟩,Nat.le_of_eq (B.str _).symm⟩
    ·show s.data.toList.length<=maxLen;rw[Array.length_toList];exact M
    ·show Value.string s = .string ⟨s.data.toList.toArray⟩;simp
   |unit=>simp[eg]at c|tree a=>
    have ah:=c;unfold eg at c;split at c
    ·rename_i fs S;simp at c;obtain⟨xs,n',O,rfl,Y,J,C⟩:=DataW.trod_struct S h;cases O
     obtain⟨x,l,L,Q,F,U⟩:=qcl B n m cs t (fun τ t cs y=>ih n τ t cs y) (fun g cs y C hy=>by
      have ab:eg P (n+2) (.list (.tree a)) g=true:=by
       unfold Fb at C;unfold eg;split at C
       ·rename_i e he;have:e=t:=by simpa using C
        subst this;simp;exact⟨c.1,by simp[Ty.sz],ah⟩
       ·cases C
      exact ih (n+2) (.list (.tree a)) g cs y ab hy) fs.toList a 0 xs c.2 (by rw[J,Array.length_toList]) (fun i f hf=>C i f (by rw[← Array.getElem?_toList];exact hf))
     refine⟨.node x l,.mk x l L Q.1 Q.2,?_,?_⟩
     ·rw[List.drop_zero,List.take_of_length_le (by rw[Y,c.1];exact wF _)]at F
      exact F
     ·rw[B.agg];have e:(Ty.tree a).bk (.node x l)=a.bk x+(l.map (Ty.tree a).bk).sum+2:=qtz a.bk x l;omega
    ·cases c
   |prod a b=>
    unfold eg at c;split at c
    ·rename_i fs S;simp at c;obtain⟨xs,n',O,rfl,Y,J,C⟩:=DataW.trod_struct S h;cases O
     obtain⟨x,L,F,U⟩:=Rc B n m cs (fun τ t cs y=>ih n τ t cs y) fs.toList (.prod a b) 0 xs c.2 (by rw[J,Array.length_toList]) (fun i f hf=>C i f (by rw[← Array.getElem?_toList];exact hf))
     refine⟨x,L,?_,by rw[B.agg];omega⟩
     rw[List.drop_zero,List.take_of_length_le (by rw[Y,c.1];exact wF _)]at F
     exact F
    ·cases c
   |list a=>
    unfold eg at c;split at c
    ·rename_i e S;simp at c;obtain⟨I,av,an⟩:=c;rcases DataW.trod_slice S h with⟨rfl,rfl⟩|⟨d,K,Z,p,a0,n',O,rfl,rfl,_,a5,a2,a3,E,_⟩
     ·exact⟨[],⟨Nat.zero_le _,fun x T=>by cases T⟩,⟨⟨none,0,rfl,wF _,.inl rfl⟩,trivial⟩,Nat.le_of_eq (show 0+1=_ by rw[B.nilb])⟩
     ·cases O
      have A:∀i,i<K->∃(x:a.den)(h:i<p.length),a.bd x/\d.spot=none/\a.At (Gw w).imm x d.block (d.off+i*a.sz)/\a.bk x<=B.b p[i].1:=by
       intro i hi;have h1:=E i hi;rw[List.getElem?_eq_getElem Ta]at h1
       obtain⟨cs,R,aa⟩:=Option.bind_eq_some_iff.1 h1;obtain⟨x,L,F,U⟩:=ih n a e cs _ an aa;unfold World.cells? at R;split at R
       ·have hl:=mapM_some_length R;rw[List.length_range,I]at hl;have G:∀(j:Nat)(v:Value),cs[j]? = some v->w.cell? ((d.add (i*P.cellsOf e)).add j)=some v:=by
         intro j v r;have a4:j<cs.length:=by
          by_cases q:j<cs.length
          ·exact q
          ·rw[List.getElem?_eq_none Ta]at r;cases r
         have:=mapM_some_get R j j (by rw[List.getElem?_range Ta])
         rw[this,r]
        have u:d.spot=none:=by
         have g0:=E 0 Ta
         rw[List.getElem?_eq_getElem Ta]at g0
         obtain⟨a1,z,_⟩:=Option.bind_eq_some_iff.1 g0;unfold World.cells? at z;split at z
         ·have n8:=mapM_some_length z;rw[List.length_range,I]at n8;have:=mapM_some_get z 0 0 (by rw[List.getElem?_range Ta])
          rw[List.getElem?_eq_getElem Ta]at this
          simp[Nat.zero_mul,Addr.add,if_true]at this;unfold World.cell? at this
          cases M:d.spot with
          |none=>rfl|some q=>
           rw[M]at this;split at this
           ·simp at this
           ·cases this
         ·cases z
        refine⟨x,Ta,L,u,?_,U⟩
        refine xu.1 (ao.cells _ cs _ F (DR a x cs F) (fun j v r => ?_))
        have:=G j v r;rw[I]at this;have ea:(d.add (i*a.sz)).add j=⟨d.block,d.off+i*a.sz+j,none⟩:=by
         obtain⟨b,o,s⟩:=d;simp at u;subst u;unfold Addr.add;by_cases X:i*a.sz=0
         ·by_cases N:j=0
          ·simp[X,N]
          ·simp[X,N]
         ·by_cases N:j=0
          ·simp[X,N]
          ·simp[X,N]
        rw[ea]at this;exact this
       ·cases R
      have RY:∀k,k<=K->∃l:List a.den,l.length=k/\(∀x∈l,a.bd x)/\(∀(j:Nat)(x:a.den),l[j]? = some x->a.At (Gw w).imm x d.block (d.off+j*a.sz))/\(l.map a.bk).sum<=B.ba ((p.take k).map (·.1)):=by
       intro k
       induction k with
       |zero=>intro _;exact⟨[],rfl,fun x T=>(by cases T),fun j x r=>(by simp at r),Te⟩
       |succ k ihk=>
        intro U;obtain⟨l,W,l2,l3,l4⟩:=ihk Ta
        obtain⟨x,T,x1,_,x2,x3⟩:=A k Ta
        refine⟨l++[x],by simp[W],fun y hy => ?_,fun j y r => ?_,?_⟩
        ·rcases List.mem_append.1 hy with q|q
         ·exact l2 y q
         ·rw[List.mem_singleton]at q;subst q;exact x1
        ·by_cases q:j<l.length
         ·rw[List.getElem?_append_left q]at r;exact l3 j y r
         ·rw[List.getElem?_append_right Ta]at r
          have:j=k:=by
           by_cases N:j-l.length=0
           ·omega
           ·rw[List.getElem?_eq_none Td]at r;cases r
          subst this;rw[W,Nat.sub_self]at r;cases r
          exact x2
        ·rw[List.take_succ_eq_append_getElem T,List.map_append,List.map_append,B.app,List.sum_append];simp only[List.map_cons,List.map_nil,B.cons,B.nil,List.sum_cons,List.sum_nil];omega
      obtain⟨l,W,l2,l3,l4⟩:=RY K (wF _);refine⟨l,⟨by show l.length<=maxLen;omega,l2⟩,⟨⟨some d,Z,by rw[← W],Ta,?_⟩,trivial⟩,?_⟩
      rotate_left
      ·rw[List.take_of_length_le Ta]at l4
       rw[B.sl];show(l.map a.bk).sum+1<=_;omega
      by_cases q:l=[]
      ·exact .inl q
      ·obtain⟨_,_,_,M,_⟩:=A 0 (by have:=List.length_pos_iff.2 q;omega)
       refine .inr ⟨d.block,d.off,?_,l3⟩;cases d;simp at M;subst M;rfl
    ·cases c
def qpx(B:xv H){r:Reach}{l n:Nat}{τ:Ty}{t:TypeId}{v:Value}{d:DataW H}{ps:List MemPlace}(c:eg P n τ t=true)(g:Value.okWide P w r l t v)(h:DataW.Trod enc P w base spare held t v d ps) :
  ∃x:τ.den,τ.bd x/\ai (τ.av x) (Gw w) v/\τ.bk x<=B.b d:=by
 obtain⟨m,s⟩:=h;obtain⟨x,p,f,q⟩:=qpy B m n τ t _ _ c s;refine⟨x,p,?_,q⟩
 cases n with
 |zero=>simp[eg]at c|succ n=>
  cases τ with
  |int k=>obtain⟨_,rfl⟩:=okWide_int (qcq c) g;exact f.1
  |byte=>obtain⟨_,rfl⟩:=okWide_int (qcp c) g;exact f.1
  |bool=>obtain⟨_,rfl⟩:=okWide_bool (qco c) g;exact f.1
  |str=>obtain⟨_,rfl⟩:=okWide_string (qcr c) g;exact f.1
  |unit=>simp[eg]at c|tree a=>
   unfold eg at c;split at c
   ·rename_i o i;obtain⟨j,rfl,_⟩:=okWide_struct i g;exact⟨j,rfl,f⟩
   ·cases c
  |prod a b=>
   unfold eg at c;split at c
   ·rename_i o i;obtain⟨j,rfl,_⟩:=okWide_struct i g;exact⟨j,rfl,f⟩
   ·cases c
  |list a=>
   unfold eg at c;split at c
   ·rename_i e i;obtain⟨_,_,_,rfl⟩:=okWide_slice i g;exact f.1
   ·cases c
end
end Go.Sym
namespace Go.Sym
open Go.ChangeShapes Go.WideShapes Go.ChangeAt Go.RowKit
variable[LC]
def iP(P:Program)(n:Nat):List Ty->List TypeId->Bool|[],[]=>true|τ::τs,t::ts=>eg P n τ t&&iP P n τs ts|_,_=>false
def JM:(a:List Ty)->Pts.den (a.map .h)->Prop|[],_=>True|τ::a,x=>τ.bd x.1/\JM a x.2
mutual
def cnt{H:Type}:DataW H->Nat|.lit (.string s)=>s.length+1|.slice e r=>D7 e+D7 r+1|.agg l=>D7 l+1|_=>1
def D7{H:Type}:List (DataW H)->Nat|[]=>0|d::l=>cnt d+D7 l
end
section
variable{H:Type}{enc:TypeId×Value->H}{P:Program}{w:World}{base:Nat}{spare:Nat->Bool}{held:Bool}
def mG:(a:List Ty)->Pts.den (a.map .h)->Nat|[],_=>0|τ::a,x=>τ.bk x.1+mG a x.2
def SA(B:xv H){r:Reach}{g n:Nat}:∀(a:List Ty)(b:List TypeId)(vs:List Value)(c:List (DataW H))(ps:List MemPlace),iP P n a b=true ->
  (∀(j:Nat) t v,b[j]? = some t->vs[j]? = some v->Value.okWide P w r g t v)->DataW.TrodAll enc P w base spare held b vs c ps ->
  ∃x:Pts.den (a.map .h),JM a x/\ao (Pts.put (a.map .h) x) (Gw w) vs/\mG a x<=B.ba c
 |[],[],vs,c,ps,_,_,h=>by
  obtain⟨rfl,rfl,_⟩:=trodAll_nil h;exact⟨(),trivial,trivial,Nat.zero_le _⟩
 |τ::a,t::b,vs,c,ps,h1,h2,h=>by
  obtain⟨v,f,d,e,p,q,rfl,rfl,rfl,i,k⟩:=trodAll_cons h;simp[iP,qA]at h1;obtain⟨x,o,s,A⟩:=qpx B h1.1 (h2 0 t v rfl rfl) i;obtain⟨y,u,z,C⟩:=SA B a b f e q h1.2 (fun j t v l m=>h2 (j+1) t v l m) k
  exact⟨(x,y),⟨o,u⟩,⟨s,z⟩,by rw[B.cons];show τ.bk x+mG a y<=_;omega⟩
 |[],_::_,_,_,_,h,_,_=>by simp[iP]at h|_::_,[],_,_,_,h,_,_=>by simp[iP]at h
def qbs{W g:World}(laid:laidOutB P=true)(i:Below W.heap.size W g):∀(a:List TypeId)(vs:List Value)(c:List (DataW H))(ps:List MemPlace),
  a.all (fun t=>P.readableRec t&&decide (t<P.types.size))=true->DataW.TrodAll enc P W 0 (fun _=>true) true a vs c ps->DataW.TrodAll enc P g 0 (fun b=>decide (b<W.heap.size)) true a vs c ps
 |[],vs,c,ps,_,h=>by
  obtain⟨rfl,rfl,rfl⟩:=trodAll_nil h;exact trodAll_mk0
 |t::a,vs,c,ps,h1,h=>by
  obtain⟨v,f,d,e,p,q,rfl,rfl,rfl,j,l⟩:=trodAll_cons h;simp only[List.all_cons,qA,decide_eq_true_eq]at h1;have n:∀x∈p,x.block<W.heap.size:=by obtain⟨m,k⟩:=j;exact DataW.trod_lt m _ _ _ k
  exact trodAll_cons_mk (Below.trod laid h1.1.1 h1.1.2 j i n) (qbs laid i a f e q h1.2 l)
end
def quk{P:Program}{f:FuncId}{xs:List AV}(h:di P f xs [] (.bool true) [])(vs:List Value)(w:World)(i:LC.tab (Gw w).imm w)(g:ao xs (Gw w) vs) :
  Calls P f vs.toArray w fun e w'=>e = .returned (.bool true)/\Below w.heap.size w w':=by
 refine(h w (Gw w) vs (qgs w i) g).mono ?_;rintro e w' ⟨v,G,rfl,a,b⟩
 have j:v = .bool true:=b;subst j;refine⟨rfl,a.bel.os,a.bel.tape,a.bel.output,a.bel.size,fun k c=>a.bel.block k c ?_⟩
 rintro⟨n,bx,d,_⟩
 cases d
end Go.Sym
namespace Go.Sym
open Go.ChangeShapes Go.WideShapes Go.ChangeAt Go.RowKit
variable[LC]
def qoq{H:Type}{enc:TypeId×Value->H}{C:Checked}{os:Os}{f:FuncId}{m:Func}{s:ChangeSpec}{S:OpenSpec}{F:Stop.Interp}{k:List PathCond}{t:TypeId}{n:Nat}(g:List Ty)(l:List (String×DataW Unit))(B:xv H)(M:Nat)
  (a:(H:Type)->List (DataW H)->Bool) (Z:S={ OpenSpec.ofChange s with cond:=some a }) (Y:∀b:List (DataW H),a H b=true->B.ba b<=M)
  (ab:ownKnob C.prog.godebug=none) (laid:laidOutB C.prog=true) (r:os.Started) (y:C.prog.inits.idxOf? f=none) (V:C.prog.funcs[f]? = some m)
  (u:∃(w:World)(c:Tape)(i:Input),w.os=os/\(w.forCall c i).Shaped C.prog/\i.vars=[]/\Input.okWide C.prog (w.forCall c i) .any w.heap.size f i /\
   S.preRow enc C.prog m k false l (w.forCall c i).memory i.args/\({}:Assume).holds C.prog (lone (Frame.enter C.prog f i.args .normal) [] (w.forCall c i)))
  (o:s.vars=[]) (J:∀b:List (DataW H),b.length=m.params.size->s.fn H b={ results:=[.lit (.bool true)],args:=b })
  (O:iP C.prog n g m.params.toList=true) (I:m.params.toList.all (fun t=>C.prog.readableRec t&&decide (t<C.prog.types.size))=true)
  (L:m.resultTypes=#[t]) (z:C.prog.underlying t=some .bool)
  (N:∀W:World,laidMetH C.prog l W->W.ShapedOpen C.prog->LC.tab (Gw W).imm W)
  (A:∀x:Pts.den (g.map .h),JM g x->mG g x<=M->di C.prog f (Pts.put (g.map .h) x) [] (.bool true) []) :
  ReturnsInHanded {} C os f .any (S.preRow enc C.prog m k false l) ((S.at F).post enc C.prog m false true false false):=by
 subst Z;refine returnsInHanded_of_row ab r y V u ?_;intro W ac args b gs R P hW _ E _ G X _;have U:=hW;obtain⟨p,q,T,hV,rfl,_,_⟩:=hW;rw[show({ OpenSpec.ofChange s with cond:=some a }:OpenSpec).vars=[] from o]at hV
 obtain⟨rfl,rfl⟩:=trodVars_none hV;have hk:=Y _ (E a rfl);rw[List.append_nil]at hk;have hl:b.length=m.params.size:=by
  have aa:∀(Q:List TypeId)(vs:List Value)(b:List (DataW H))(ps:List MemPlace),DataW.TrodAll enc C.prog W 0 (fun _=>true) true Q vs b ps->b.length=Q.length:=by
   intro Q
   induction Q with
   |nil=>intro vs b ps h;obtain⟨_,rfl,_⟩:=trodAll_nil h;rfl
   |cons t Q ih=>
    intro vs b ps h;obtain⟨v,ah,d,ad,p,q,_,rfl,_,_,hr⟩:=trodAll_cons h;rw[qL,qL,ih _ _ _ hr]
  rw[aa _ _ _ _ T,Array.length_toList]
 obtain⟨x,xb,xr,xk⟩:=SA B g m.params.toList args.toList b p O (fun j t v ht hv=>P j t v (by rw[← Array.getElem?_toList];exact ht) (by rw[← Array.getElem?_toList];exact hv)) T
 have hc:=quk (A x xb (Nat.le_trans xk hk)) args.toList W (N W G X) xr;rw[Array.toArray_toList]at hc;refine hc.mono fun e W'⟨he,K⟩ => ?_
 subst he;refine⟨_,rfl,b,[],p++[],[],p,[],U,?_⟩;show DataW.TrodAll _ _ _ _ _ _ _ _ _ _/\_;rw[List.append_nil,show((OpenSpec.at { OpenSpec.ofChange s with cond:=some a } F).fn H b)=s.fn H b from rfl,J b hl,L]
 exact⟨trodAll_mk1 (shut_bool z _),qbs laid K _ _ _ _ I T,(by rw[show((OpenSpec.at { OpenSpec.ofChange s with cond:=some a } F).vars)=[] from o];rfl),K.frame _,fun h=>by cases h⟩
def gR(a b:Int):Bool:=decide (a=b)
def mR:(τ:Ty)->τ.den->DataW Unit->Bool|.int k,x,.lit (.int k' n)=>decide (k'=k)&&gR n x|.byte,x,.lit (.int k' n)=>decide (k' = .u8)&&gR n x.toNat|.prod .byte .byte,x,.agg [.lit (.int _ a),.lit (.int _ b)]=>gR a x.1.toNat&&gR b x.2.toNat|_,_,_=>false
def mS(τ:Ty):List τ.den->List (DataW Unit)->Bool|[],[]=>true|x::l,d::ds=>mR τ x d&&mS τ l ds|_,_=>false
def Eo(P:Program)(t:TypeId):Bool:=match P.underlying t with|some (.int .u8)=>Nat.beq (P.cellsOf t) 1|_=>false
def DQ(P:Program)(t:TypeId):Ty->Bool
 |.int k=>match P.underlying t with|some (.int k')=>decide (k'=k)|_=>false
 |.byte=>match P.underlying t with|some (.int .u8)=>true|_=>false
 |.prod .byte .byte=>match P.underlying t with
  |some (.struct fs)=>match fs.toList with|[f,g]=>Nat.beq f.offset 0&&Nat.beq g.offset 1&&Eo P f.type&&Eo P g.type&&Nat.beq (P.cellsOf t) 2|_=>false
  |_=>false
 |_=>false
section
variable{P:Program}{w:World}{base:Nat}{sp:Nat->Bool}
def qlv{m:Nat}{τ:Ty}{t:TypeId}{cs:List Value}{y:DataW Unit×List MemPlace}{x:τ.den}(c:DQ P t τ=true)(h:DataW.trod (fun _=>()) P w base sp false m t cs=some y)(j:mR τ x y.1=true):ao (τ.enc x) (Gw w) cs/\∀v∈cs,v.oneCell'=true:=by
 unfold DQ at c;split at c
 ·rename_i k;split at c
  ·rename_i I i;have H:I=k:=of_decide_eq_true c;subst H;obtain⟨n,rfl,rfl,_⟩:=DataW.trod_int i h;simp[mR,gR,qA,decide_eq_true_eq]at j;obtain⟨_,rfl⟩:=j;exact⟨⟨rfl,trivial⟩,fun v d=>by rw[List.mem_singleton]at d;subst d;rfl⟩
  ·cases c
 ·split at c
  ·rename_i i;obtain⟨n,rfl,rfl,_⟩:=DataW.trod_int i h;simp[mR,gR,qA,decide_eq_true_eq]at j;obtain⟨_,rfl⟩:=j;exact⟨⟨rfl,trivial⟩,fun v d=>by rw[List.mem_singleton]at d;subst d;rfl⟩
  ·cases c
 ·split at c
  ·rename_i G i;split at c
   ·rename_i f g e;simp only[qA]at c;obtain⟨⟨⟨⟨s,u⟩,N⟩,O⟩,c2⟩:=c;have s:=qN s;have u:=qN u;have c2:=qN c2;have o:∀t,Eo P t=true->P.underlying t=some (.int .u8)/\P.cellsOf t=1:=fun t h=>by
     unfold Eo at h;split at h
     ·rename_i i;exact⟨i,qN h⟩
     ·cases h
    obtain⟨J,L⟩:=o _ N;obtain⟨K,M⟩:=o _ O;obtain⟨Q,n,rfl,rfl,F,l,E⟩:=DataW.trod_struct i h;have B:=E 0 f (by rw[← Array.getElem?_toList,e];rfl)
    have C:=E 1 g (by rw[← Array.getElem?_toList,e];rfl)
    have r:G.size=2:=by rw[← Array.length_toList,e];rfl
    rw[r]at l;rw[c2]at F
    match cs,F with
    |[a,b],_=>
     match Q,l with
     |[p,q],_=>
      rw[s,L]at B;rw[u,M]at C;obtain⟨R,z,rfl,_⟩:=DataW.trod_int J B;obtain⟨n2,A,rfl,_⟩:=DataW.trod_int K C;simp at z;simp at A;subst z A;simp only[List.map_cons,List.map_nil,mR,gR,qA,decide_eq_true_eq]at j;obtain⟨rfl,rfl⟩:=j;exact⟨⟨rfl,rfl,trivial⟩,fun v d=>by
       rcases List.mem_cons.1 d with rfl|d
       ·rfl
       ·rw[List.mem_singleton]at d;subst d;rfl⟩
   ·cases c
  ·cases c
 ·cases c
def Q9{τ:Ty}:∀{l:List τ.den}{a:List (DataW Unit)},mS τ l a=true->l.length=a.length/\∀(j:Nat)(x:τ.den),l[j]? = some x->∃d,a[j]? = some d/\mR τ x d=true
 |[],[],_=>⟨rfl,fun j x h=>by simp at h⟩
 |[],_::_,h=>by simp[mS]at h|_::_,[],h=>by simp[mS]at h|y::l,d::a,h=>by
  simp[mS,qA]at h;obtain⟨c,e⟩:=Q9 h.2;refine⟨by simp[c],fun j x b => ?_⟩
  match j with|0=>simp at b;subst b;exact⟨d,rfl,h.1⟩|j+1=>exact e j x b
def ET(P:Program)(g:Nat)(τ:Ty)(l:List τ.den)(n:Nat)(d:DataW Unit):Bool:=match(P.globals[g]?).map (·.type) with
 |some t=>match P.underlying t,d with|some (.array _m E),.agg ds=>DQ P E τ&&(Nat.beq (P.cellsOf E) τ.sz&&(Nat.beq (P.cellsOf t) n&&mS τ l ds))|_,_=>false
 |none=>false
def qrk{g:Nat}{τ:Ty}{l:List τ.den}{n:Nat}{d:DataW Unit}(h:ET P g τ l n d=true){t:TypeId}{cs:Array Value}{a:Nat}{p:List MemPlace}(J:(P.globals[g]?).map (·.type)=some t)
  (B:∃u fr,w.heap[g]? = some (.cells cs u fr)) (C:DataW.trod (fun _=>()) P w base sp false a t cs.toList=some (d,p)) :
  cs.size=n/\∀(j:Nat)(x:τ.den),l[j]? = some x->τ.At (Gw w).imm x g (j*τ.sz):=by
 unfold ET at h;rw[J]at h;simp only at h;split at h
 ·rename_i m E Q K;simp only[qA]at h;obtain⟨z,f,k,A⟩:=h;have f:=qN f;have k:=qN k;obtain⟨S,R,rfl,e,I,q,F⟩:=DataW.trod_array K C;simp at e;obtain⟨rfl,rfl⟩:=e;obtain⟨O,s⟩:=Q9 A;refine⟨by rw[← Array.length_toList,I,k],fun j x L => ?_⟩
  obtain⟨d,b,o⟩:=s j x L;rw[List.getElem?_map]at b;obtain⟨y,r,rfl⟩:=Option.map_eq_some_iff.1 b;have H:j<m:=by rw[← q];exact(List.getElem?_eq_some_iff.1 r).1
  have:=F j H;rw[r]at this;obtain⟨M,N⟩:=qlv z this o;refine xu.1 (ao.cells _ _ _ M N fun i v c => ?_)
  rw[f,List.getElem?_take]at c;split at c
  ·rw[List.getElem?_drop]at c;obtain⟨u,fr,G⟩:=B;simp[World.cell?,G];rw[← Array.getElem?_toList];exact c
  ·cases c
 ·cases h
def KX{laid:List (String×DataW Unit)}{n:String}{d:DataW Unit}:∀{l:List (String×DataW Unit)}{ps:List MemPlace},DataW.LaidVars P w l ps->(n,d)∈l ->
  ∃g t cs a p,P.globalNamed n=some g/\(P.globals[g]?).map (·.type)=some t/\(∃u fr,w.heap[g]? = some (.cells cs u fr))/\DataW.trod (fun _=>()) P w 0 (fun _=>true) false a t cs.toList=some (d,p)
 |[],_,_,h=>by cases h
 |(n',d')::r,ps,hl,h=>by
  obtain⟨g,t,cs,a,p,q,f,i,b,j,k,_⟩:=hl;rcases List.mem_cons.1 h with e|h
  ·simp at e;obtain⟨rfl,rfl⟩:=e;refine⟨g,t,cs,a,p,f,i,?_,j⟩;unfold World.var? at b;rw[f,qB]at b;split at b
   ·rename_i c u fr m;have:=qJ b;subst this;exact⟨u,fr,m⟩
   ·cases b
  ·exact KX (laid:=laid) k h
end
def Mw(P:Program)(laid:List (String×DataW Unit))(e:Nat×Nat):Bool:=match LC.glob e.1 with
 |some ⟨τ,l⟩=>Nat.blt 0 l.length&&laid.any fun x=>match P.globalNamed x.1 with|some g=>Nat.beq g e.1&&ET P e.1 τ l e.2 x.2|none=>false
 |none=>false
def qm9(P:Program)(laid:List (String×DataW Unit))(g:Nat):Bool:=laid.any fun x=>match P.globalNamed x.1 with
 | some g'=>Nat.beq g' g&&(match(P.globals[g]?).map (·.type) with
  |some t=>match P.underlying t,x.2 with|some (.interface _),.iface _ _=>true|_,_=>false
  | none=>false)
 |none=>false
def qm3{P:Program}{laid:List (String×DataW Unit)}{W:World}(h:laidMetH P laid W)(Q:(laid.all fun x=>x.2.handleName?.isNone)=true)
  (O:∀g τ l,LC.glob g=some ⟨τ,l⟩->∃n,(g,n)∈LC.sizes) (K:LC.sizes.all (Mw P laid)=true) (R:LC.ifs.all (qm9 P laid)=true) (H:∀g∈LC.ints,∃k,W.cell? ⟨g,0,none⟩=some (.int .i64 k)):LC.tab (Gw W).imm W:=by
 rw[MakeChecks.laidMetH_plain _ _ _ Q]at h;obtain⟨ps,J,_⟩:=h;have z:∀e∈LC.sizes,∃τ l,LC.glob e.1=some ⟨τ,l⟩/\0<l.length/\∃(i:Array Value)(u:TypeId)(m:Nat×Nat),W.heap[e.1]? = some (.cells i u m)/\i.size=e.2/\∀(j:Nat)(x:τ.den),l[j]? = some x->τ.At (Gw W).imm x e.1 (j*τ.sz):=fun e A=>by
  have b:=List.all_eq_true.1 K e A;unfold Mw at b;split at b
  ·rename_i τ l f;rw[qA]at b;obtain⟨x,a,c⟩:=List.any_eq_true.1 b.2;split at c
   ·rename_i g r;rw[qA]at c;have:=qN c.1;subst this;obtain⟨L,t,i,w,p,y,I,⟨u,m,B⟩,C⟩:=KX (laid:=laid) J (n:=x.1) (d:=x.2) a;rw[r]at y;have:=qJ y;subst this;obtain⟨U,V⟩:=qrk c.2 I ⟨u,m,B⟩ C;exact⟨τ,l,f,Nat.le_of_ble_eq_true b.1,i,u,m,B,U,V⟩
   ·cases c
  ·cases b
 refine⟨fun g τ l f j x a => ?_,fun g q => ?_,fun g q => ?_,fun e A => ?_⟩
 ·obtain⟨n,H⟩:=O g τ l f;obtain⟨τ',Z,b,_,i,u,m,_,_,E⟩:=z _ H;rw[f]at b;cases b
  exact E j x a
 ·obtain⟨k,S⟩:=H g q;exact⟨k,IU S rfl⟩
 ·have b:=List.all_eq_true.1 R g q;obtain⟨x,a,c⟩:=List.any_eq_true.1 b;split at c
  ·rename_i L r;rw[qA]at c;have:=qN c.1;subst this;obtain⟨Y,t,i,w,p,y,I,⟨u,m,B⟩,C⟩:=KX (laid:=laid) J (n:=x.1) (d:=x.2) a;rw[r]at y;have:=qJ y;subst this;have s:=c.2;rw[I]at s;simp only at s;split at s
   ·rename_i ms nm d T N;rw[N]at C;obtain⟨_,X,v,G,_,_⟩:=iface_of_trod T C;refine⟨X,v,IU ?_ rfl⟩;simp[World.cell?,B];rw[← Array.getElem?_toList,G];rfl
   ·cases s
  ·cases c
 ·obtain⟨τ,l,b,c,i,u,m,s,M,E⟩:=z e A;refine⟨?_,i,u,m,s,M⟩;have F:=E 0 l[0] (by simp[c])
  have:∃o v,(Gw W).imm e.1 o=some v:=by
   have a:=List.all_eq_true.1 K e A;unfold Mw at a;rw[b]at a;simp only[qA]at a;obtain⟨x,_,a⟩:=List.any_eq_true.1 a.2;split at a
   ·rw[qA]at a;have a:=a.2;unfold ET at a;split at a
    ·split at a
     ·simp at a;have a:=a.1;unfold DQ at a;split at a
      ·exact⟨_,_,F⟩
      ·exact⟨_,_,F⟩
      ·exact⟨_,_,F.1⟩
      ·cases a
     ·cases a
    ·cases a
   ·cases a
  exact this
section
variable{H:Type}{enc:TypeId×Value->H}
def quv{C:Checked}{l:Os}{f:FuncId}{k:Func}{s:OpenSpec}{c:List PathCond}{b:Bool}{laid:List (String×DataW Unit)}(modest:Bool)(g:World)(args:Array Value)(h:g.os=l)
  (j:(g.forCall (fun _ _=>0) ⟨#[],args,[]⟩).Shaped C.prog) (d:Input.okWideB C.prog (g.forCall (fun _ _=>0) ⟨#[],args,[]⟩) f ⟨#[],args,[]⟩=true)
  (e:s.preRow enc C.prog k c b laid (g.forCall (fun _ _=>0) ⟨#[],args,[]⟩).memory args) :
  ∃(w:World)(a:Tape)(i:Input),w.os=l/\(w.forCall a i).Shaped C.prog/\i.vars=[]/\Input.okWide C.prog (w.forCall a i) .any w.heap.size f i /\
   s.preRow enc C.prog k c b laid (w.forCall a i).memory i.args/\({ modest:=modest }:Assume).holds C.prog (lone (Frame.enter C.prog f i.args .normal) [] (w.forCall a i)):=
 ⟨g,fun _ _=>0,⟨#[],args,[]⟩,h,j,(Input.okWide_of_okWideB (base:=0) d).1,(Input.okWide_of_okWideB d).2,e,by
  simp;exact⟨Te,Te,fun _=>Modest.zero,Te,Te⟩⟩
end
end Go.Sym
