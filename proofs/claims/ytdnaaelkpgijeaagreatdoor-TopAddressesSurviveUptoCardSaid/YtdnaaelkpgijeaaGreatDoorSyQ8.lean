/- What the claim rests on, part 8: gathered texts. -/
import Derived.Test.YtdnaaelkpgijeaaGreatDoorSyQ7
set_option linter.defProp false
set_option linter.unusedSimpArgs false
set_option linter.unusedVariables false
namespace Go.Sym
def vz(l:List bc)(n:List UInt8):List (List UInt8):=(l.filter fun x=>x.1.map lo==n.map lo).map (·.2)
def q5n(x:bc)(l:List bc)(n:List UInt8):vz (x::l) n=if(x.1.map lo==n.map lo)=true then x.2::vz l n else vz l n:=by
 unfold vz;rw[List.filter_cons];split<;>rfl
def zwl(fu n:Nat)(hfu:90000000<=fu)(nm:List UInt8)(hn:nm.length<=1000)(m16:Int×Int):∀(ab aa:List bc)(out:List (List UInt8)),aa.length<n->ab.length+aa.length<100000000->pi aa->out.length+aa.length<1000000000 ->
  qc6 fu n nm (ab++aa) ((ab.length+aa.length:Nat):Int) (ab.length:Int) m16 out=some ((0,0),out++vz aa nm):=by
 induction n with
 |zero=>intro ab aa out h;omega|succ n ih=>
  intro ab aa out h hb hs hk;rw[qc6,qvq]
  cases aa with
  |nil=>rw[ax];simp[vz,cg]|cons x aa=>
   simp only[qL]at h hb hk ⊢;obtain⟨q1,q2⟩:=hs.2 x qH;have next:∀out':List (List UInt8),out'.length<=out.length+1->qc6 fu n nm (ab++x::aa) ((ab.length+(aa.length+1):Nat):Int) (ae ((ab.length:Int)+1)) m16 out'=some ((0,0),out'++vz aa nm):=by
    intro out' hj;have:=ih (ab++[x]) aa out' oA oD hs.tail oA
    simp only[qS,wM,qM,qL,qZ]at this;rw[show ab.length+(0+1)+aa.length=ab.length+(aa.length+1) by omega]at this
    rw[b9 _]
    exact this
   rw[ah,cq,qB,zey fu _ _ oA oA oT oT,qB,q5n]
   cases hc:x.1.map lo==nm.map lo
   ·rw[au (by rfl),qW oE]
    exact next out oA
   ·rw[a8,qX rfl,ah oJ,next _ oB]
    simp
def zwk(fu:Nat)(hfu:90000000<=fu)(l:List bc)(nm:List UInt8)(hn:gz nm=true)(hs:pi l)(h0:(oq l).1=0):qm7 fu l nm=some ((0,0),vz l nm):=by
 have h1:=hs.1;have hl:=qjj hn;unfold qm7 qvu;rw[zhh fu hfu l hs,qB,va,qB,jb,qW oA,zhg fu oA,qB,hn,ee]
 have:=zwl fu fu hfu nm oA (0,0) [] l [] oA oD hs oD
 simp only[List.nil_append,qZ,wO]at this;exact this
def zlz:∀b:List UInt8,(List.map (Ty.byte.bk:Ty.byte.den->Nat) b).sum=b.length
 |[]=>rfl|c::b=>by
  show 1+(List.map (Ty.byte.bk:Ty.byte.den->Nat) b).sum=b.length+1;rw[zlz b];omega

def z2j(l:List zj)(n:Nat):∀k:Nat,l.length<=2000000->l.length-k<n->qgb FU n l l (k:Int)=some true:=by
 induction n with
 |zero=>intro k _ h;omega|succ n ih=>
  intro k hl h;rw[qgb,qtk];by_cases h0:k<l.length
  ·rw[ah,sf l k h0,qB,qB,au oB,f8 k]
   exact ih (k+1) hl oA
  ·rw[ax]
def z2q(l:List dv)(hl:l.length<=2000000)(hm:∀x∈l,x.2.2.length<=2000000)(n:Nat):∀k:Nat,l.length-k<n->qgd FU n l l (k:Int)=some true:=by
 induction n with
 |zero=>intro k h;omega|succ n ih=>
  intro k h;rw[qgd,qtl];by_cases h0:k<l.length
  ·have hx:=hm _ (List.getElem_mem h0);have e:ql2 FU (l[k]).2.2 (l[k]).2.2=some true:=by
    unfold ql2;rw[au oB]
    exact z2j _ FU 0 hx oN
   rw[ah,sf l k h0]
   simp only[qB];rw[au oB,au oB,e,qB,au (by rfl),f8 k]
   exact ih (k+1) oA
  ·rw[ax]
def z2k(l:List dv)(hl:l.length<=2000000)(hm:∀x∈l,x.2.2.length<=2000000):qgc FU l l=some true:=by
 unfold qgc;rw[au oB]
 exact z2q l hl hm FU 0 oN
def zyi:qtt 100000000=some true:=oC
abbrev toN:Bs:=[116,111]
def z4j(s:Bs):vz [([68,97,116,101],[120]),([84,111],s)] toN=[s]:=by
 have h1:(([68,97,116,101]:Bs).map lo==toN.map lo)=false:=by decide +kernel
 have h2:(([84,111]:Bs).map lo==toN.map lo)=true:=by decide +kernel
 rw[q5n,qW (by show ¬((([68,97,116,101]:Bs).map lo==toN.map lo)=true);rw[h1];decide),q5n,qX h2]
 rfl
def zxy(l:List dv)(body:Bs)(hl:l.length<=2000000)(hm:∀x∈l,x.2.2.length<=2000000)(hb:body.length<=80000000):qch 100000000 l body=some true:=by
 unfold qch;rw[zyi,qB,ee];obtain⟨s,f,hp,h1,h2⟩:=z0n l hl hm;rw[show qgk 100000000 l=some (s,f) from hp,qB]
 dsimp only;rw[jb];by_cases c:f.1≠0
 ·rw[qX c,h1 c];rfl
 rw[qW c];obtain⟨hs,hq⟩:=h2 (Classical.not_not.1 c);have hS:SmM ([([68,97,116,101],[120]),([84,111],s)],body):=by
  refine⟨⟨oB,fun x hx => ?_⟩,hb⟩
  simp only[wE,List.not_mem_nil,or_false]at hx;rcases hx with rfl|rfl
  ·simp
  ·simp;omega
 rw[zrj _ oE _ hS,qB,zv7 _ oE _ hS,qB]
 unfold q5w;by_cases h0:(lm ([([68,97,116,101],[120]),([84,111],s)],body)).1≠0
 ·rw[qX h0,jb,qX h0,jb,qX h0];rfl
 rw[qW h0];have h00:=Classical.not_not.1 h0;have hf0:(oq [([68,97,116,101],[120]),([84,111],s)]).1=0:=by
  by_cases q:(oq [([68,97,116,101],[120]),([84,111],s)]).1≠0
  ·exfalso;have h3:=h00;unfold lm at h3;rw[qX q]at h3;exact q h3
  ·exact Classical.not_not.1 q
 have rd:=z08 h00;have gt:=zwk 100000000 oE [([68,97,116,101],[120]),([84,111],s)] toN (by decide +kernel) hS.1 hf0
 rw[z4j]at gt;simp only[]at rd ⊢;rw[au (by rfl),zri _ oE,qB,rd]
 dsimp only;rw[gt,qB];dsimp only;rw[au (by rfl),au (by rfl)]
 unfold qgi;rw[au (by rfl)]
 unfold qts;rw[ah ⟨oE,oB⟩,show([s]:List Bs)[(0:Int).toNat]? = some s from rfl,qB,show zp 100000000 s=some (l,(0,0)) from hq,qB,a8]
 dsimp only;rw[show qgc 100000000 l l=some true from z2k l hl hm]
 rfl
def rm:Ty := .prod .str (.prod .str .str)
def vi:Ty := .prod .str (.prod .bool (.list rm))
def q00{α:Type}(f g:α->Nat)(h:∀x,g x+1<=f x):∀l:List α,l.length<=(l.map f).sum/\∀x∈l,g x<=(l.map f).sum
 |[]=>⟨oB,fun x hx=>by cases hx⟩
 |x::l=>by
  obtain⟨h1,h2⟩:=q00 f g h l;have:=h x;rw[List.map_cons,List.sum_cons,qL];refine⟨oA,fun y hy => ?_⟩
  rcases List.mem_cons.1 hy with rfl|hy
  ·omega
  ·have:=h2 y hy;omega
def zr4(x:rm.den):0+1<=rm.bk x:=by
 show 0+1<=(List.length x.1+1)+_;omega
def zxm(x:vi.den):List.length (α:=rm.den) x.2.2+1<=vi.bk x:=by
 have:=(q00 rm.bk (fun _=>0) zr4 x.2.2).1
 show _<=(List.length x.1+1)+(1+((List.map rm.bk (x.2.2:List rm.den)).sum+1));omega
def zxz(x:List dv×Bs×Unit)(h:bks [.list vi,.list .byte] x<=1048576):qch 100000000 x.1 x.2.1=some true:=by
 have h:((List.map vi.bk (x.1:List vi.den)).sum+1)+((List.map (Ty.byte.bk:Ty.byte.den->Nat) x.2.1).sum+1+0)<=1048576:=h;obtain⟨h1,h2⟩:=q00 vi.bk (fun x=>List.length (α:=rm.den) x.2.2) zxm x.1
 have hb:=zlz x.2.1;refine zxy x.1 x.2.1 ?_ (fun y hy => ?_) ?_
 ·have:List.length (α:=vi.den) x.1<=2000000:=oA
  exact this
 ·have h3:=h2 y hy;have h4:List.length (α:=rm.den) y.2.2<=(List.map vi.bk (x.1:List vi.den)).sum:=h3;have:List.length (α:=rm.den) y.2.2<=2000000:=oA
  exact this
 ·omega
end Go.Sym
