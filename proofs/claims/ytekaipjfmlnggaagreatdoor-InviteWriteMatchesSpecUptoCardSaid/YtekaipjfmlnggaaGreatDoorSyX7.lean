/- What the claim rests on, part 7: gathered texts. -/
import Derived.Lib.AtoiAllCases
import Derived.Test.YtekaipjfmlnggaaGreatDoorSyX6
set_option maxRecDepth 100000
set_option linter.defProp false
set_option linter.unusedSimpArgs false
set_option linter.unusedVariables false
namespace Go.Sym
def pg:90000000<=FU:=Tf
def Kq:wh []=some 0:=by
 unfold wh ww;rw[bf,ag Td,qB,show Lib.validD []=true by rfl];rfl
def qum(l d:Bs)(b:ji l=true)(a:ie d=true):bL FU ([],(l,d))=some (0,0):=by
 unfold bL;dsimp only;rw[Kq,qB,aq,Li FU pg,qB,b,aq,Ks FU pg,qB,a,aq]
 rfl
def Qh(l d:Bs)(h:ji l=true)(f:ie d=true):bJ FU [di l d]=some (0,0):=by
 have i:=qum l d h f;have g:bN FU (di l d)=some 0:=by
  have c:wj FU (99999998+1+1) [([],(l,d))] 1 0=some 0:=by
   rw[wj,lB,ag Tf,show aj [(([]:Bs),(l,d))] (0:Int)=some ([],(l,d)) from rfl,qB,i,qB,n6,qB,aq,show ae ((0:Int)+1)=1 from rfl,wj,lB,bf Tf]
  have a:rq FU false (di l d)=some 0:=by
   unfold rq uE;rw[aq rfl];exact c
  unfold bN;rw[show(di l d).1=[] from rfl,Kq,qB,aq,aq,ax]
  exact a
 have e:wg FU (99999998+1+1) [di l d] 1 0 (0,0)=some (0,0):=by
  rw[wg,kX,ag Tf,show aj [di l d] (0:Int)=some (di l d) from rfl,qB,g,qB,aq,show ae ((0:Int)+1)=1 from rfl,wg,kX,bf Tf]
  rfl
 have b:we FU [di l d] false (0,0)=some (0,0):=by
  unfold we uC;rw[aq rfl];exact e
 have a:wb FU (99999998+1+1) [di l d] 0 [di l d] 1 0 (0,0)=some (0,0):=by
  rw[wb,kW,ag Tf,show aj [di l d] (0:Int)=some (di l d) from rfl,qB,show ae ((0:Int)+1)=1 from rfl,wb,kW,bf Tf,bf]
  exact b
 exact a
def SX(l d:Bs)(f:ji l=true)(c:ie d=true):kZ FU [di l d]=some (jb l d,(0,0)):=by
 have i:=iG f;have j:=hJ c;have k:=Mu l d;have b:Ce FU ([],(l,d))=some (jb l d):=by
  unfold Ce;rw[ax,PA FU pg [] l d];rfl
 have e:im [jb l d] [44,32]=some (jb l d):=by
  unfold im;rw[Lib.join_one,ag ⟨Td,Ta⟩]
 have a:bK FU (99999998+1) [di l d] 1 1 (0,0) [jb l d]=some (jb l d,(0,0)):=by
  rw[bK,Cc,bf,e,qB,bf];rfl
 have h:lA FU (bK FU (99999998+1)) (99999998+1+1) [di l d] 1 0 [([],(l,d))] 1 0 (0,0) (di l d) [] []=some (jb l d,(0,0)):=by
  rw[lA,Cd,ag Ta,show aj [(([]:Bs),(l,d))] (0:Int)=some ([],(l,d)) from rfl,qB,b,qB,ag TF]
  rw[show ae ((0:Int)+1)=1 from rfl,lA,Cd,bf,List.nil_append,e,qB,aq]
  unfold Ho Hp;rw[ag TF,show ae ((0:Int)+1)=1 from rfl,List.nil_append]
  exact a
 have g:bK FU (99999998+1+1) [di l d] 1 0 (0,0) []=some (jb l d,(0,0)):=by
  rw[bK,Cc,ag Ta,show aj [di l d] (0:Int)=some (di l d) from rfl,qB]
  exact h
 unfold kZ;rw[Qh l d f c,qB,n6,qB,aq]
 exact g
def qps(l d:Bs)(c:ji l=true)(b:ie d=true):fL FU (jb l d)=some ([di l d],(0,0)):=by
 have g:mP ([],(l,d)):=⟨Kq,by rw[Li FU pg,c],by rw[Ks FU pg,b]⟩
 have i:=iG c;have j:=hJ b;have k:=Mu l d;obtain⟨q,h,f,_,a⟩:=qsy _ g;rw[PA FU pg [] l d]at f
 have e:=qJ f;have a:=a [] trivial trivial;rw[List.append_nil]at a;rw[e];exact qpv FU pg (.one (.single ⟨q,h,g.2.2,.inl ⟨rfl,rfl⟩⟩)) (by rw[← e];omega) a (Qh l d c b) Td Td
def KU(s:Bs):Ok (fun b=>b=true->qk s) (zh FU s):=by
 have w:Ok (fun b=>b=true->qk s) (some false):=au fun q=>(by cases q)
 unfold zh;refine ar (qpy FU pg s) fun x1 p=>ar (P:=db) ⟨_,rfl,trivial⟩ fun x2 _ => ?_
 obtain⟨l,f⟩:=x1;obtain⟨_,p⟩:=p;have n:Ok (fun b=>b=true->qk s) (cA FU s l true f):=w
 refine bg (fun _=>n) fun _ => ?_
 by_cases v:(l.length:Int)=1
 ·rw[aq (by simp[v])]
  obtain⟨x,rfl⟩:∃x,l=[x]:=List.length_eq_one_iff.1 Ta
  obtain⟨C,y,z⟩:=p x qH;obtain⟨g,b,r⟩:=x;rw[show aj [(g,(b,r))] (0:Int)=some (g,(b,r)) from rfl]
  simp only[qB];cases b
  ·rw[aq rfl];have B:=z rfl;obtain⟨a,rfl⟩:∃a,r=[a]:=List.length_eq_one_iff.1 B;obtain⟨E,F⟩:=y a qH;obtain⟨d,lo,e⟩:=a;rw[show aj [(d,(lo,e))] (0:Int)=some (d,(lo,e)) from rfl,qB]
   by_cases u:d=[]
   ·subst u;rw[show(!((([]:Bs),(lo,e)).1==([]:Bs)))=false from rfl]
    unfold cA CI;rw[aq rfl];obtain⟨o,j,_⟩:=Qi FU pg [(g,(false,[([],(lo,e))]))] Td (fun x k=>by rw[List.mem_singleton]at k;subst k;simp)
    by_cases c:o.1=0
    ·obtain⟨_,_,_,m⟩:=qj7 _ Td (fun x k=>by rw[List.mem_singleton]at k;subst k;simp) j c
     have m:=m _ qH;have A:g=[]:=Classical.not_not.1 fun q=>by have:=m.2.1.2 q;cases this
     subst A;have t:=m.2.2.2 ([],(lo,e)) qH;have h:=t.2.1;have i:=t.2.2;rw[Li FU pg]at h;rw[Ks FU pg]at i;have h:ji lo=true:=qJ h;have i:ie e=true:=qJ i;rw[show kZ FU [(([]:Bs),(false,[(([]:Bs),(lo,e))]))]=some (jb lo e,(0,0)) from SX lo e h i,qB,n6,qB,ax]
     exact au fun q=>⟨lo,e,h,i,(beq_iff_eq.1 q).symm⟩
    ·unfold kZ;rw[j];simp only[qB,n6];rw[show(o.1 != 0)=true by simpa [bne] using c]
     simp only[qT,qB,n6];rw[show(o.1 != 0)=true by simpa [bne] using c]
     exact w
   ·rw[show(!((d,(lo,e)).1==([]:Bs)))=true by simp[u]];exact n
  ·rw[ax rfl];exact n
 ·rw[ax (by simp[v])];exact n
noncomputable def gw(s:Bs):Bool:=(zh FU s).getD false
def pA{s:Bs}(h:gw s=true):qk s:=by
 obtain⟨b,a,k⟩:=KU s;unfold gw at h;rw[a]at h;exact k h
def RB(s:Bs):zh FU s=some (gw s):=by
 obtain⟨b,a,h⟩:=KU s;unfold gw;rw[a];rfl
def qnf(s:Bs):Ok (fun b=>b=true↔qk s) (zh FU s):=by
 by_cases a:qk s
 ·refine⟨true,?_,fun _=>a,fun _=>rfl⟩
  obtain⟨l,d,e,c,rfl⟩:=a;have i:=SX l d e c;have g:=qps l d e c;unfold zh;rw[g,qB,n6,qB,aq,aq,show aj [di l d] (0:Int)=some (di l d) from rfl]
  simp only[qB];rw[aq,show aj (di l d).2.2 (0:Int)=some ([],(l,d)) from rfl,qB]
  unfold cA CI;rw[aq,i,qB,n6,qB,ax]
  simp
 ·obtain⟨b,f,h⟩:=KU s;exact⟨b,f,h,fun q=>absurd q a⟩
def qsw(s:Bs):gw s=true↔qk s:=by
 obtain⟨b,a,h⟩:=qnf s;unfold gw;rw[a];exact h
def qa3(s:Bs):qd FU s=some (gw s):=by
 obtain⟨b,a,h⟩:=qng FU pg s;rw[a];congr 1;rw[Bool.eq_iff_iff,h,qsw]
def yh(c:UInt8):Bool:=decide (33<=c)&&decide (c<=126)
def oe(s:Bs):Bool:=(decide (1<=s.length)&&decide (s.length<=60))&&s.all yh
def f6(s:Bs):Int:=if 500<s.length then 1 else if Lib.validD s=false then 5 else if s.contains 13=true then 5 else 0
noncomputable def pc:List (Bs×Int)->List (Bs×Int)->Int×Int|_,[]=>(0,0)|ab,g::r=>if gw g.1=false then(10,(ab.length:Int)) else if ¬(1<=g.2/\g.2<=4) then(4,(ab.length:Int)) else if ab.any (fun x=>x.1==g.1)=true then(7,(ab.length:Int)) else pc (ab++[g]) r
def aI(d:d9):Int×Int:=if ¬ez d then(3,-3) else if d.2.2.2.2.2.2≠0 then(5,-9) else if ¬(3<=d.1/\d.1<=3998) then(3,-9) else(0,0)
noncomputable def hP(e:ci):Int×Int:=
 if mu e.2.2.2.2.2.2.2.1=false then(10,-10) else if(aI e.2.2.2.2.2.2.2.2.1).1≠0 then((aI e.2.2.2.2.2.2.2.2.1).1,-11) else if ¬(0<=e.2.2.2.2.2.2.2.2.2.1/\e.2.2.2.2.2.2.2.2.2.1<=1000000) then(3,-12) else if(kw e.2.2.2.2.2.2.2.2.2.2).1≠0 then((kw e.2.2.2.2.2.2.2.2.2.2).1,-13) else(0,0)
noncomputable def ut(e:ci):Int×Int:=
 if 30<e.2.2.2.2.2.2.1.length then(2,-9) else if(pc [] e.2.2.2.2.2.2.1).1≠0 then pc [] e.2.2.2.2.2.2.1 else hP e
noncomputable def gg(e:ci):Int×Int:=
 if oe e.1=false then(10,-3) else if ¬(1<=e.2.1/\e.2.1<=5) then(4,-4) else if ¬(0<=e.2.2.1/\e.2.2.1<=1000000) then(3,-5) else
 if f6 e.2.2.2.1≠0 then(f6 e.2.2.2.1,-6) else if f6 e.2.2.2.2.1≠0 then(f6 e.2.2.2.2.1,-7) else if e.2.2.2.2.2.1≠[]/\gw e.2.2.2.2.2.1=false then(10,-8) else ut e
def lj(e:ci):Prop:=e.1.length<=2000000/\e.2.2.2.2.2.2.2.1.length<=2000000/\e.2.2.2.2.2.2.2.2.2.2.2.2.2.2.2.1.length<=2000000
def qie(s:Bs)(a:s.length<=10000000:=by omega):Hx FU s=some (s.all yh):=
 DC s a (uT FU) yh (fun n e k=>by
  rw[uT,Hy];simp only[show ∀c,C9 c=some (yh c) from fun c=>by unfold C9 yh;cases decide (33<=c)<;>rfl]) FU [] s rfl Ts
def qcj(s:Bs):gE s=some (f6 s):=by
 unfold gE f6;by_cases h:500<s.length
 ·rw[ag Ta,qX h]
 ·rw[bf,qW h]
  unfold ww IA;rw[ag Ta,qB]
  cases Lib.validD s
  ·rw[qX rfl];rfl
  ·rw[aq,qW Td]
   have b:∀x:Int,Lib.index s [13]=x->jf s [13]=some x:=fun x q=>by
    unfold jf qf;rw[ag Ta,qB,q]
   rcases AU 13 s with⟨w,r,rfl,a⟩|a
   ·rw[b _ (Ap 13 w r a),qX]
    simp only[qB];rw[ag Ta]
   ·rw[b _ (Aq 13 s a),qW (by simp;exact fun q=>a 13 q rfl)]
    rfl
def qmf(s:Bs)(l:s.length<=1000:=by omega):rh FU s [13] 0=some (if s.contains 13 then((rh FU s [13] 0).getD 0) else -1)/\(s.contains 13=true->0<=(rh FU s [13] 0).getD 0):=by
 have k:∀(n:Nat)(b a:Bs),s=b++a->a.length<n->∃x,fC FU n s [13] (b.length:Int)=some x/\(a.contains 13=true->0<=x)/\(a.contains 13=false->x = -1):=by
  intro n
  induction n with
  |zero=>intro b a _ h;omega|succ n ih=>
   intro b a e h;have j:=congrArg List.length e;rw[qM]at j;rw[fC,BB,show ae ((b.length:Int)+(([13]:Bs).length:Int))=((b.length+1:Nat):Int) from bc _]
   cases a with
   |nil=>rw[bf (by simp at j;omega)];exact⟨-1,rfl,Td,fun _=>rfl⟩
   |cons c a=>
    simp only[qL]at j h;have d:=zK b c a
    rw[bc _]at d
    rw[ag Ta,ag ⟨Ta,Ta,Ta⟩,bc _]
    rw[e,d,← e];by_cases q:c=13
    ·subst q;rw[ax]
     exact⟨_,rfl,fun _=>Ta,fun q=>by simp at q⟩
    ·rw[aq (by simp[q])]
     obtain⟨x,f,g,i⟩:=ih (b++[c]) a (by rw[e];simp) Ta
     rw[qM,wD]at f;refine⟨x,f,fun h=>g ?_,fun h=>i ?_⟩
     ·simp only[List.contains_cons]at h;rw[show((13:UInt8)==c)=false by rw[beq_eq_false_iff_ne];exact fun r=>q r.symm,Bool.false_or]at h
      exact h
     ·simp only[List.contains_cons]at h;rw[Bool.or_eq_false_iff]at h;exact h.2
 obtain⟨x,f,g,i⟩:=k FU [] s rfl Ts
 have e:rh FU s [13] 0=some x:=f;rw[e,Option.getD_some];cases d:s.contains 13
 ·rw[i d];exact⟨rfl,fun q=>by cases q⟩
 ·exact⟨rfl,fun _=>g d⟩
def qbc(s:Bs):t6 FU s=some (f6 s):=by
 unfold t6 f6;by_cases h:500<s.length
 ·rw[ag Ta,qX h]
 ·rw[bf,qW h,Mo FU Tf s Ts,qB]
  cases Lib.validD s
  ·rw[qX rfl];rfl
  ·rw[aq,qW Td]
   obtain⟨a,b⟩:=qmf s
   rw[a,qB];cases c:s.contains 13
   ·rw[qW Td,bf,qW Td]
   ·rw[qX rfl,ag (b c),qX rfl]
def qjy(l:List TL)(g:Bs×Int)(i:l.length<=1000)(n:Nat):∀b a:List TL,l=b++a->a.length<n->∃x,wZ FU n l (l.length:Int) (b.length:Int) g=some (x,g)/\decide (0<=x)=a.any (fun y=>y.1==g.1):=by
 induction n with
 |zero=>intro b a _ h;omega|succ n ih=>
  intro b a e h;have c:=congrArg List.length e;rw[qM]at c;rw[wZ,I2]
  cases a with
  |nil=>rw[bf (by simp at c;omega)];exact⟨-1,rfl,rfl⟩|cons y a=>
   simp only[qL]at h c;rw[ag Ta,show aj l (b.length:Int)=some y by rw[e];exact dp _ _ _,qB]
   unfold If;rw[qB,List.any_cons];cases j:(y.1==g.1)
   ·rw[qF,bc _]
    obtain⟨x,d,f⟩:=ih (b++[y]) a (by rw[e];simp) Ta
    rw[qM,wD]at d;exact⟨x,d,by rw[f,Bool.false_or]⟩
   ·exact⟨(b.length:Int),rfl,by rw[Bool.true_or];exact decide_eq_true Ta⟩
def qjx(l:List TL)(g:Bs×Int)(c:l.length<=1000:=by omega):CW FU l g=some (l.any (fun y=>y.1==g.1),g):=by
 obtain⟨x,a,b⟩:=qjy l g c FU [] l rfl Ts
 unfold CW I1;rw[show(0:Int)=((([]:List (Bs×Int)).length:Nat):Int) from rfl,a,qB]
 simp only[qZ];rw[← b];rfl
def qmn(l:List TL)(k:l.length<=30)(z:Int×Int)(n:Nat):∀a c:List TL,l=a++c->c.length<n->gC FU n l l (l.length:Int) (a.length:Int) z=some (pc a c):=by
 induction n with
 |zero=>intro a c _ h;omega|succ n ih=>
  intro a c e h;have d:=congrArg List.length e;rw[qM]at d;rw[gC,Ig]
  cases c with
  |nil=>rw[bf (by simp at d;omega)];rfl|cons g c=>
   simp only[qL]at h d;rw[ag Ta,show aj l (a.length:Int)=some g by rw[e];exact dp _ _ _,qB,RB,qB,pc]
   cases gw g.1
   ·rw[qX rfl];rfl
   ·rw[qW Td,aq]
    have j:∀b,(b=true↔¬(1<=g.2/\g.2<=4))->vU FU (gC FU n) l (a.length:Int) l (l.length:Int) (a.length:Int) b z g=some (if ¬(1<=g.2/\g.2<=4) then(4,(a.length:Int)) else if a.any (fun x=>x.1==g.1)=true then(7,(a.length:Int)) else pc (a++[g]) c):=fun b i=>by
     unfold vU;cases b
     ·rw[aq rfl,qW (fun q=>by have:=i.2 q;cases this),ag ⟨Ta,Ta⟩]
      rw[show List.take (a.length:Int).toNat l=a by rw[e,show(a.length:Int).toNat=a.length by omega];simp,qjx a g,qB]
      cases a.any (fun x=>x.1==g.1)
      ·rw[qW Td,aq rfl,bc _]
       have:=ih (a++[g]) c (by rw[e];simp) Ta
       rw[qM,wD]at this;exact this
      ·rw[qX rfl];rfl
     ·rw[ax rfl,qX (i.1 rfl)];rfl
    by_cases f:g.2<1
    ·rw[ag f];exact j true ⟨fun _ q=>Ta,fun _=>rfl⟩
    ·rw[bf f];exact j _ ⟨fun q=>by have:=of_decide_eq_true q;omega,fun q=>decide_eq_true Ta⟩
def RW(d:d9):yz d=some (aI d):=by rw[RX];rfl
abbrev zZ:dv:=([122],(0,(0,((0,(0,(0,0))),(0,(0,(0,0)))))))
def zfz(nm:Bs):oq (nm,(0,(0,((0,(0,(0,0))),(0,(0,(0,0)))))))=if mu nm=false then(10,-3) else(0,0):=by
 unfold oq;by_cases h:mu nm=false
 ·rw[qX h,qX h]
 ·rw[qW h,qW h,qW Td]
  rw[qX (by simp[pb]),qW Td,qW (by simp[nU])]
def qna(d:d9):(mK zZ d).1=aI d:=by
 have:=qoh d zZ (by rw[zfz];decide)
 rw[RW]at this;exact(qJ this).symm
def K3(e:ci)(f:lj e):bX FU e=some (gg e):=by
 obtain⟨n,o,r⟩:=f;have l:∀b z,(b=true↔¬(0<=e.2.2.2.2.2.2.2.2.2.1/\e.2.2.2.2.2.2.2.2.2.1<=1000000))->vK FU b e z=some (if ¬(0<=e.2.2.2.2.2.2.2.2.2.1/\e.2.2.2.2.2.2.2.2.2.1<=1000000) then(3,-12) else if(kw e.2.2.2.2.2.2.2.2.2.2).1≠0 then((kw e.2.2.2.2.2.2.2.2.2.2).1,-13) else(0,0)):=fun b z d=>by
  unfold vK;cases b
  ·rw[aq rfl,qW (fun q=>by have:=d.2 q;cases this),quq FU Tf _,qB,n6,qB,fh]
   by_cases c:(kw e.2.2.2.2.2.2.2.2.2.2).1≠0
   ·rw[qX c,qX c];rfl
   ·rw[qW c,qW c];rfl
  ·rw[ax rfl,qX (d.1 rfl)];rfl
 have m:∀z,CA FU e z=some (ut e):=fun z=>by
  unfold CA Ie ut;by_cases c:30<e.2.2.2.2.2.2.1.length
  ·rw[ag Ta,qX c];rfl
  ·rw[bf,qW c]
   have g:=qmn e.2.2.2.2.2.2.1 Ta (0,0) FU [] _ rfl (Nat.lt_of_le_of_lt (show e.2.2.2.2.2.2.1.length<=30 by omega) Tf)
   have g:gC FU FU e.2.2.2.2.2.2.1 e.2.2.2.2.2.2.1 (e.2.2.2.2.2.2.1.length:Int) 0 (0,0)=some (pc [] e.2.2.2.2.2.2.1):=g;rw[g,qB,n6,qB,fh];by_cases c:(pc [] e.2.2.2.2.2.2.1).1≠0
   ·rw[qX c,qX c]
   ·rw[qW c,qW c,Oj FU _ Tv Ts,qB,n6,qB,zfz]
    unfold hP;cases s:mu e.2.2.2.2.2.2.2.1
    ·rw[qX rfl,qX rfl];rfl
    ·rw[qW Td,qW Td,aq,q7f FU Tf _ Td (by simp[FU]),qB,n6,qB]
     rw[show(mK ([122],(0,(0,((0,(0,(0,0))),(0,(0,(0,0))))))) e.2.2.2.2.2.2.2.2.1).1=aI e.2.2.2.2.2.2.2.2.1 from qna _,fh]
     by_cases c:(aI e.2.2.2.2.2.2.2.2.1).1≠0
     ·rw[qX c,qX c];rfl
     ·rw[qW c,qW c];by_cases c:e.2.2.2.2.2.2.2.2.2.1<0
      ·rw[ag c];exact l _ _ ⟨fun _ q=>Ta,fun _=>rfl⟩
      ·rw[bf c];exact l _ _ ⟨fun q=>by have:=of_decide_eq_true q;omega,fun q=>decide_eq_true Ta⟩
 have k:∀b z,vJ FU b e z=some (if b=true then(10,-8) else ut e):=fun b z=>by
  unfold vJ;cases b
  ·rw[aq rfl,m,qW Td]
  ·rw[ax rfl,qX rfl];rfl
 have j:∀b z,(b=true↔¬(0<=e.2.2.1/\e.2.2.1<=1000000))->vI FU b e z=some (if ¬(0<=e.2.2.1/\e.2.2.1<=1000000) then(3,-5) else
   if f6 e.2.2.2.1≠0 then(f6 e.2.2.2.1,-6) else if f6 e.2.2.2.2.1≠0 then(f6 e.2.2.2.2.1,-7) else if e.2.2.2.2.2.1≠[]/\gw e.2.2.2.2.2.1=false then(10,-8) else ut e):=fun b z d=>by
  unfold vI;cases b
  ·rw[aq rfl,qW (fun q=>by have:=d.2 q;cases this),qcj,qcj]
   simp only[qB,fh];by_cases c:f6 e.2.2.2.1≠0
   ·rw[qX c,qX c];rfl
   ·rw[qW c,qW c];by_cases c:f6 e.2.2.2.2.1≠0
    ·rw[qX c,qX c];rfl
    ·rw[qW c,qW c];by_cases c:e.2.2.2.2.2.1=[]
     ·rw[aq (by simp[c]),k,qW Td,qW (fun q=>q.1 c)]
     ·rw[ax (by simp[c]),RB,qB,k]
      cases gw e.2.2.2.2.2.1
      ·rw[qX (c:=(!false)=true) rfl,qX ⟨c,rfl⟩]
      ·rw[qW (c:=(!true)=true) Td,qW Td]
  ·rw[ax rfl,qX (d.1 rfl)];rfl
 have i:∀b z,(b=true↔¬(1<=e.2.1/\e.2.1<=5))->vH FU b e z=some (if ¬(1<=e.2.1/\e.2.1<=5) then(4,-4) else if ¬(0<=e.2.2.1/\e.2.2.1<=1000000) then(3,-5) else
   if f6 e.2.2.2.1≠0 then(f6 e.2.2.2.1,-6) else if f6 e.2.2.2.2.1≠0 then(f6 e.2.2.2.2.1,-7) else if e.2.2.2.2.2.1≠[]/\gw e.2.2.2.2.2.1=false then(10,-8) else ut e):=fun b z d=>by
  unfold vH;cases b
  ·rw[aq rfl,qW (c:=¬(1<=e.2.1/\_)) (fun q=>by have:=d.2 q;cases this)]
   by_cases c:e.2.2.1<0
   ·rw[ag c];exact j _ _ ⟨fun _ q=>Ta,fun _=>rfl⟩
   ·rw[bf c];exact j _ _ ⟨fun q=>by have:=of_decide_eq_true q;omega,fun q=>decide_eq_true Ta⟩
  ·rw[ax rfl,qX (d.1 rfl)];rfl
 have h:∀b z,(b=true↔oe e.1=false)->lQ FU b e z=some (gg e):=fun b z d=>by
  unfold lQ gg;cases b
  ·rw[aq rfl,qW (c:=oe e.1=false) (fun q=>by have:=d.2 q;cases this)]
   by_cases c:e.2.1<1
   ·rw[ag c];exact i _ _ ⟨fun _ q=>Ta,fun _=>rfl⟩
   ·rw[bf c];exact i _ _ ⟨fun q=>by have:=of_decide_eq_true q;omega,fun q=>decide_eq_true Ta⟩
  ·rw[ax rfl,qX (d.1 rfl)];rfl
 unfold bX;by_cases c:e.1=[]
 ·rw[ax (by simp[c])];exact h _ _ ⟨fun _=>by rw[c];rfl,fun _=>rfl⟩
 ·rw[aq (by simp[c])]
  have:1<=e.1.length:=by cases f:e.1 with|nil=>exact absurd f c|cons a b=>simp
  by_cases c:60<e.1.length
  ·rw[ag Ta];exact h _ _ ⟨fun _=>by unfold oe;rw[decide_eq_false (p:=e.1.length<=60) Ta,Bool.and_false];rfl,fun _=>rfl⟩
  ·rw[bf,qie _,qB]
   refine h _ _ ?_;unfold oe;rw[decide_eq_true (p:=1<=e.1.length) this,decide_eq_true (p:=e.1.length<=60) Ta]
   cases e.1.all yh<;>simp
def qrv:∀n:_root_.Fin 256,((UInt8.ofNat n.val&&&192) != 128)=(decide (n.val<128)||decide (192<=n.val)):=by decide +kernel
def Mj(c:UInt8):((c&&&192) != 128)=(decide (c.toNat<128)||decide (192<=c.toNat)):=by
 have:=qrv ⟨c.toNat,c.toNat_lt⟩;simpa using this
def RC(c:Bs):Prop:=∃b t,c=b::t/\t.length<=3/\((b&&&192) != 128)=true/\∀x∈t,((x&&&192) != 128)=false
def A8{n:Nat}(h:n<256:=by omega):(UInt8.ofNat n).toNat=n:=by simp[Nat.mod_eq_of_lt h]
def AJ{c:Nat}(h:vc c):RC (cy c):=by
 have b:∀k:Nat,((UInt8.ofNat (128+k%64)&&&192) != 128)=false:=fun k=>by
  have:k%64<64:=Nat.mod_lt _ Tf
  rw[Mj,A8,Bool.or_eq_false_iff,decide_eq_false_iff_not,decide_eq_false_iff_not];omega
 have d:∀k:Nat,192<=k->k<256->((UInt8.ofNat k&&&192) != 128)=true:=fun k e f=>by
  rw[Mj,A8 f,decide_eq_true e,Bool.or_true]
 have g:c<=1114111:=by rcases h with h|h<;>omega
 unfold cy;split
 ·refine⟨_,[],rfl,Td,?_,Td⟩
  rw[Mj,A8,decide_eq_true Ta];rfl
 ·split
  ·refine⟨_,_,rfl,Td,d _ Ta Ta,fun x a => ?_⟩
   simp only[wE,List.not_mem_nil,or_false]at a;subst a;exact b _
  ·split
   ·refine⟨_,_,rfl,Td,d _ Ta Ta,fun x a => ?_⟩
    simp only[wE,List.not_mem_nil,or_false]at a;rcases a with rfl|rfl<;>exact b _
   ·refine⟨_,_,rfl,Td,d _ Ta Ta,fun x a => ?_⟩
    simp only[wE,List.not_mem_nil,or_false]at a;rcases a with rfl|rfl|rfl<;>exact b _
def kj:Nat->List Bs->Bs|_,[]=>[13,10]|col,c::cs=>if 75<col+c.length then[13,10,32]++(c++kj (1+c.length) cs) else c++kj (col+c.length) cs
def Rb:∀(cs:List Bs)(a:Nat),a+cs.flatten.length<=75->kj a cs=cs.flatten++[13,10]
 |[],_,_=>rfl|c::cs,a,h=>by
  rw[List.flatten_cons,qM]at h;rw[kj,qW Ta,Rb cs _ Ta];simp
def Rc:∀(cs:List Bs)(a:Nat)(c:Bs)(r:List Bs),a+cs.flatten.length<=75->75<a+cs.flatten.length+c.length->c.length<=4->kj a (cs++c::r)=cs.flatten++([13,10,32]++kj 1 (c::r))
 |[],a,c,r,h,h2,h4=>by
  rw[List.nil_append,kj,qX (by simpa using h2),kj,qW Ta];simp
 |d::cs,a,c,r,h,h2,h4=>by
  rw[List.flatten_cons,qM]at h h2;rw[wK,kj,qW Ta,Rc cs _ c r Ta Ta h4];simp
def Qv:∀(cs:List Bs)(m:Nat),m<cs.flatten.length->∃a c r,cs=a++c::r/\a.flatten.length<=m/\m<a.flatten.length+c.length
 |[],m,h=>by simp at h|d::cs,m,h=>by
  rw[List.flatten_cons,qM]at h;by_cases q:m<d.length
  ·exact⟨[],d,cs,rfl,Td,by simpa using q⟩
  ·obtain⟨a,c,r,e,b,f⟩:=Qv cs (m-d.length) Ta
   exact⟨d::a,c,r,by rw[e];rfl,by rw[List.flatten_cons,qM];omega,by rw[List.flatten_cons,qM];omega⟩
def EZ{c:Bs}(h:RC c):1<=c.length/\c.length<=4:=by
 obtain⟨b,t,rfl,h,_⟩:=h;rw[qL];omega
def qle(r0:Bs->Bs->Int->Option Bs)(a t R c:Bs)(b:UInt8)(f:((b&&&192) != 128)=true)(h:∀x∈t,((x&&&192) != 128)=false)(l:a.length+t.length+R.length<=100000)(n:c.length<=1000000):∀(j m:Nat),j<=t.length->j<m ->
  lU FU r0 m (a++(b::(t++R))) c ((a.length+j:Nat):Int)=r0 (b::(t++R)) (c++(a++[13,10,32])) 74:=by
 intro j
 induction j with
 |zero=>
  intro m _ g;obtain⟨m,rfl⟩:∃k,m=k+1:=⟨m-1,Ta⟩
  rw[lU,CB,Nat.add_zero,dp,qB];unfold Dg;rw[qB,f,aq,ag ⟨Ta,TA⟩]
  rw[show(a.length:Int).toNat=a.length by omega,List.take_left,List.drop_left,ag Tg,ag Th,ag ⟨Ta,TA⟩]
 |succ j ih=>
  intro m i g;obtain⟨m,rfl⟩:∃k,m=k+1:=⟨m-1,Ta⟩
  rw[lU,CB];have d:j<t.length:=Ta
  rw[fv _ (a.length+(j+1)) Tk,qB]
  have e:(a++(b::(t++R)))[a.length+(j+1)]' Tk=t[j]:=by
   rw[List.getElem_append_right Ta]
   simp only[Nat.add_sub_cancel_left,List.getElem_cons_succ];rw[List.getElem_append_left d]
  rw[e];unfold Dg;rw[qB,h _ (List.getElem_mem d),ax,show ae (((a.length+(j+1):Nat):Int)-1)=((a.length+j:Nat):Int) by rw[bq];omega]
  exact ih m Ta Ta
def qlf(n:Nat):∀(cs:List Bs)(f:Bs)(d:Nat),cs.flatten.length<n->(∀c∈cs,RC c)->cs.flatten.length<=50000->f.length+4*cs.flatten.length<=1000000->(d=0\/d=1) ->
  lT FU n cs.flatten f ((75-d:Nat):Int)=some (f++kj d cs):=by
 induction n with
 |zero=>intro cs f d h;omega|succ n ih=>
  intro cs f d h j s u k;rw[lT,Ic];by_cases q:75-d<cs.flatten.length
  ·rw[ag Ta]
   obtain⟨a,c,r,rfl,m,o⟩:=Qv cs (75-d) q;have i:=j c Td
   have y:=EZ i;have v:=i;obtain⟨b,t,rfl,z,p,w⟩:=i;simp only[List.flatten_append,List.flatten_cons,qM,qL]at h s u m o y;have e:(a++(b::t)::r).flatten=a.flatten++(b::(t++r.flatten)):=Td
   have:=qle (lT FU n) a.flatten t r.flatten f b p w Ta Ta (75-d-a.flatten.length) FU Ta (Nat.lt_of_le_of_lt (show 75-d-a.flatten.length<=75 by omega) Tf)
   rw[show a.flatten.length+(75-d-a.flatten.length)=75-d by omega]at this
   rw[e,this];have g:((b::t)::r).flatten.length=1+t.length+r.flatten.length:=by rw[List.flatten_cons,qM,qL];omega
   have:=ih ((b::t)::r) (f++(a.flatten++[13,10,32])) 1 (by rw[g];omega) (fun x l=>j x (by simp at l ⊢;exact .inr l)) (by rw[g];omega) (by rw[g];simp only[qM,qL,qZ];omega) (.inr rfl)
   rw[show((b::t)::r).flatten=b::(t++r.flatten) by simp]at this
   refine Eq.trans this ?_;rw[Rc a d (b::t) r Ta (by rw[qL];omega) (by rw[qL];omega)]
   simp
  ·rw[bf,ag Tl,ag Th,Rb cs d Ta]
   simp
def Ba(R:List Nat):(R.map cy).flatten=tx R:=by
 induction R with|nil=>rfl|cons c R ih=>rw[List.map_cons,List.flatten_cons,ih];rfl
def QA(R:List Nat)(h:aN R)(a:(tx R).length<=50000:=by omega):vN FU (tx R)=some (kj 0 (R.map cy)):=by
 have:=qlf FU (R.map cy) [] 0 (by rw[Ba];exact Nat.lt_of_le_of_lt a Tf) (fun c b=>by obtain⟨k,d,rfl⟩:=List.mem_map.1 b;exact AJ (h k d)) (by rw[Ba];exact a) (by rw[Ba];simp;omega) (.inl rfl)
 rw[Ba,List.nil_append]at this;exact this
def qrm{c:Nat}(h:vc c)(t:Bs):rn (cy c++t)=((c:Int),((cy c).length:Int)):=by
 unfold rn;rw[Q3 h t];simp only[];rw[qW];rintro⟨rfl,q⟩
 have:(cy 65533).length=3:=Tf
 omega
def qrg(n:Nat):∀(R:List Nat)(f d:Bs)(a:Nat),R.length<n->aN R->f.length+(tx R).length<=50000->d.length+8*(tx R).length<=1000000->a<=75 ->
  kQ FU n (f++tx R) d (a:Int) (f.length:Int)=some (d++kj a (R.map cy)):=by
 induction n with
 |zero=>intro R f d a h;omega|succ n ih=>
  intro R f d a h k p m g;rw[kQ,Hi]
  cases R with
  |nil=>
   rw[show tx []=[] from rfl,bf,ag (by simp only[ao,qL,qZ];simp[tx]at m;omega)]
   rfl
  |cons c R=>
   obtain⟨l,k⟩:=AA k;have s:=EZ (AJ l);have e:tx (c::R)=cy c++tx R:=rfl;rw[e,qM]at p m;obtain⟨b,t,o,_⟩:=AJ l;have i:fE FU (f++(cy c++tx R)) (f.length:Int)=some ((c:Int),((cy c).length:Int)):=by
    have:=Mn FU Tf f b (t++tx R) (by rw[o,qL]at p;rw[qM];omega)
    rw[show b::(t++tx R)=cy c++tx R by rw[o];rfl,qrm l]at this
    exact this
   rw[e,ag TA,i,qB,bf]
   simp only[qL]at h;have j:List.take ((ae ((f.length:Int)+((cy c).length:Int))).toNat-(f.length:Int).toNat) (List.drop (f.length:Int).toNat (f++(cy c++tx R)))=cy c:=by
    rw[bq,show((f.length:Int)+((cy c).length:Int)).toNat-(f.length:Int).toNat=(cy c).length by omega,show(f.length:Int).toNat=f.length by omega,List.drop_left,List.take_left]
   have r:∀(d:Bs)(a:Nat),d.length+8*(tx R).length+4<=1000000->a+(cy c).length<=75->tT FU (kQ FU n) (f++(cy c++tx R)) d (a:Int) (f.length:Int) ((cy c).length:Int)=some (d++(cy c++kj (a+(cy c).length) (R.map cy))):=fun d a m g=>by
    unfold tT;rw[j,bq (x:=(f.length:Int)+((cy c).length:Int)) Ta Ta,bq (x:=(a:Int)+((cy c).length:Int)) Ta Ta,ag ⟨Ta,Ta,TA⟩,ag Tl]
    have:=ih R (f++cy c) (d++cy c) (a+(cy c).length) Ta k Tp Tp g
    rw[qS,qS,qM]at this;rw[← this];congr 1
   unfold Ca;rw[bq (x:=(a:Int)+((cy c).length:Int)) Ta Ta,List.map_cons,kj]
   by_cases q:75<a+(cy c).length
   ·rw[ag Ta,qX q,ag Tg]
    have:=r (d++[13,10,32]) 1 Te Ta
    rw[show((1:Nat):Int)=1 from rfl]at this
    rw[this];simp
   ·rw[bf,qW q]
    exact r d a Ta Ta
def qrf(R:List Nat)(h:aN R)(a:(tx R).length<=50000:=by omega):jl FU (tx R)=some (kj 0 (R.map cy)):=by
 have d:R.length<=(tx R).length:=by
  clear a
  induction R with
  |nil=>simp|cons c R ih=>
   have:=ih (AA h).2;have b:=EZ (AJ (AA h).1);rw[show tx (c::R)=cy c++tx R from rfl,qM,qL];omega
 have:=qrg FU R [] [] 0 (Nat.lt_of_le_of_lt (show R.length<=50000 by omega) Tf) h (by simpa using a) Te Ta
 unfold jl;simpa using this

def pos(s r:Bs):Int:=((s.length-r.length:Nat):Int)
open Go.Lib (decDigits nDigits itoa atoiAll parseUint10 parseMag NumEnd)
def Q6(d:Nat)(h:d<10:=by omega):(UInt8.ofNat (48+d)).toNat=48+d:=by
 rw[UInt8.toNat_ofNat'];omega
def Ed(u:Nat)(h:u<10):decDigits u=[UInt8.ofNat (48+u)]:=by rw[decDigits,dif_pos h]
def Eb(u:Nat)(h:¬u<10):decDigits u=decDigits (u/10)++[UInt8.ofNat (48+u%10)]:=by rw[decDigits,dif_neg h]
def qk7(u:Nat):decDigits u≠[]:=by
 by_cases h:u<10
 ·rw[Ed u h];simp
 ·rw[Eb u h];simp
def Q0(u:Nat):∀c∈decDigits u,48<=c.toNat/\c.toNat<=57:=by
 induction u using Nat.strongRecOn with
 |ind u b=>
  intro c a;by_cases h:u<10
  ·rw[Ed u h]at a;rw[List.mem_singleton.1 a,Q6 u h];omega
  ·rw[Eb u h]at a;rcases List.mem_append.1 a with a|a
   ·exact b (u/10) Ta c a
   ·rw[List.mem_singleton.1 a,Q6 _];omega
def Ec(k:Nat):∀u,u<10 ^ k->1<=k->(decDigits u).length<=k:=by
 induction k with
 |zero=>intro u _ h;omega|succ k ih=>
  intro u a _;by_cases h:u<10
  ·rw[Ed u h];simp
  ·rw[Eb u h,qM,wD];have b:1<=k:=by
    rcases Nat.eq_zero_or_pos k with h0|h0
    ·subst h0;simp at a;omega
    ·exact h0
   have:=ih (u/10) (by rw[Nat.pow_succ]at a;omega) b
   omega
def KZ(u:Nat):itoa (u:Int)=decDigits u:=by unfold itoa;rw[qW Ta];simp
def pG{x:Int}(a:0<=x:=by omega)(b:x<18446744073709551616:=by omega):IntKind.u64.wrap x=x:=by
 unfold IntKind.wrap;simp[IntKind.signed,IntKind.bits];omega
def Q5(d:Nat)(h:d<10):List.take (d+1-d) (List.drop d ([48,49,50,51,52,53,54,55,56,57]:Bs))=[UInt8.ofNat (48+d)]:=by
 have:∀d:_root_.Fin 10,List.take (d.val+1-d.val) (List.drop d.val ([48,49,50,51,52,53,54,55,56,57]:Bs))=[UInt8.ofNat (48+d.val)]:=Tf
 exact this ⟨d,h⟩
def Q4(d:Nat)(k:Nat):∀(n u:Nat),k<=n->u<10 ^ k->1<=k->u<9223372036854775808->tF d n (u:Int)=some (decDigits u):=by
 induction k with
 |zero=>intro n u _ _ h;omega|succ k ih=>
  intro n u j a _ i;obtain⟨n,rfl⟩:∃m,n=m+1:=⟨n-1,Ta⟩
  rw[tF,BP];by_cases h:u<10
  ·rw[ag Ta,show(u:Int)+1=((u+1:Nat):Int) by omega,pG,ag Te,Ed u h]
   simp only[qY];rw[Q5 u h]
  ·have e:1<=k:=by
    rcases Nat.eq_zero_or_pos k with h0|h0
    ·subst h0;simp at a;omega
    ·exact h0
   have b:Int.tdiv (u:Int) 10=((u/10:Nat):Int):=by rw[Int.tdiv_eq_ediv_of_nonneg Ta];omega
   have c:Int.tmod (u:Int) 10=((u%10:Nat):Int):=by rw[Int.tmod_eq_emod_of_nonneg Ta];omega
   have f:=ih n (u/10) Ta (by rw[Nat.pow_succ]at a;omega) e Ta
   have g:(decDigits (u/10)).length<=19:=Ec 19 _ Ta Ta
   rw[bf,b,pG,f,qB,c,show((u%10:Nat):Int)+1=((u%10+1:Nat):Int) by omega,pG,ag Te]
   simp only[qY];simp only[Q5 (u%10) (Nat.mod_lt _ Tf)]
   rw[ag (by simp[ao];omega),Eb u h]
def qpa(a:Nat)(b:100<=a)(u:Nat)(c:u<9223372036854775808:=by omega):qa a (u:Int)=some (decDigits u):=by
 unfold qa BO;rw[bf,pG,Q4 a 19 a u Ta Ta Ta c];rfl
end Go.Sym
namespace Go.Sym
open Go.Lib (decDigits itoa)
structure eR(e:ci):Prop where
 z:gg e=(0,0)
 uid:oe e.1=true
 me:1<=e.2.1/\e.2.1<=5
 sq:0<=e.2.2.1/\e.2.2.1<=1000000
 su:f6 e.2.2.2.1=0
 pl:f6 e.2.2.2.2.1=0
 og:e.2.2.2.2.2.1=[]\/gw e.2.2.2.2.2.1=true
 gl:e.2.2.2.2.2.2.1.length<=30
 g:∀x∈e.2.2.2.2.2.2.1,gw x.1=true/\1<=x.2/\x.2<=4
 zn:mu e.2.2.2.2.2.2.2.1=true
 d:ez e.2.2.2.2.2.2.2.2.1
 d0:e.2.2.2.2.2.2.2.2.1.2.2.2.2.2.2=0
 dy:3<=e.2.2.2.2.2.2.2.2.1.1/\e.2.2.2.2.2.2.2.2.1.1<=3998
 le:0<=e.2.2.2.2.2.2.2.2.2.1/\e.2.2.2.2.2.2.2.2.2.1<=1000000
 r:(kw e.2.2.2.2.2.2.2.2.2.2).1=0
def Rk:∀(b a:List TL),(pc b a).1=0->∀x∈a,gw x.1=true/\1<=x.2/\x.2<=4
 |_,[],_,x,hx=>by cases hx
 |b,g::a,h,x,hx=>by
  rw[pc]at h;by_cases c1:gw g.1=false
  ·rw[qX c1]at h;simp at h
  rw[qW c1]at h;by_cases c2:¬(1<=g.2/\g.2<=4)
  ·rw[qX c2]at h;simp at h
  rw[qW c2]at h;by_cases c3:b.any (fun x=>x.1==g.1)=true
  ·rw[qX c3]at h;simp at h
  rw[qW c3]at h;rcases List.mem_cons.1 hx with rfl|hx
  ·exact⟨by simpa using c1,Classical.not_not.1 c2⟩
  ·exact Rk _ a h x hx
def K4{e:ci}(h:(gg e).1=0):eR e:=by
 have r:=h;unfold gg at h;by_cases c1:oe e.1=false
 ·rw[qX c1]at h;simp at h
 rw[qW c1]at h;by_cases c2:¬(1<=e.2.1/\e.2.1<=5)
 ·rw[qX c2]at h;simp at h
 rw[qW c2]at h;by_cases c3:¬(0<=e.2.2.1/\e.2.2.1<=1000000)
 ·rw[qX c3]at h;simp at h
 rw[qW c3]at h;by_cases b:f6 e.2.2.2.1≠0
 ·rw[qX b]at h;exact absurd h b
 rw[qW b]at h;by_cases c:f6 e.2.2.2.2.1≠0
 ·rw[qX c]at h;exact absurd h c
 rw[qW c]at h;by_cases f:e.2.2.2.2.2.1≠[]/\gw e.2.2.2.2.2.1=false
 ·rw[qX f]at h;simp at h
 rw[qW f]at h;unfold ut at h;by_cases k:30<e.2.2.2.2.2.2.1.length
 ·rw[qX k]at h;simp at h
 rw[qW k]at h;by_cases d:(pc [] e.2.2.2.2.2.2.1).1≠0
 ·rw[qX d]at h;exact absurd h d
 rw[qW d]at h;unfold hP at h;by_cases g:mu e.2.2.2.2.2.2.2.1=false
 ·rw[qX g]at h;simp at h
 rw[qW g]at h;by_cases a:(aI e.2.2.2.2.2.2.2.2.1).1≠0
 ·rw[qX a]at h;exact absurd h a
 rw[qW a]at h;by_cases i:¬(0<=e.2.2.2.2.2.2.2.2.2.1/\e.2.2.2.2.2.2.2.2.2.1<=1000000)
 ·rw[qX i]at h;simp at h
 rw[qW i]at h;by_cases j:(kw e.2.2.2.2.2.2.2.2.2.2).1≠0
 ·rw[qX j]at h;exact absurd h j
 have n:ez e.2.2.2.2.2.2.2.2.1/\e.2.2.2.2.2.2.2.2.1.2.2.2.2.2.2=0/\3<=e.2.2.2.2.2.2.2.2.1.1/\e.2.2.2.2.2.2.2.2.1.1<=3998:=by
  have a:=Classical.not_not.1 a;unfold aI at a;by_cases l:¬ez e.2.2.2.2.2.2.2.2.1
  ·rw[qX l]at a;simp at a
  rw[qW l]at a;by_cases m:e.2.2.2.2.2.2.2.2.1.2.2.2.2.2.2≠0
  ·rw[qX m]at a;simp at a
  rw[qW m]at a;by_cases o:¬(3<=e.2.2.2.2.2.2.2.2.1.1/\e.2.2.2.2.2.2.2.2.1.1<=3998)
  ·rw[qX o]at a;simp at a
  exact⟨Classical.not_not.1 l,Classical.not_not.1 m,Classical.not_not.1 o⟩
 refine⟨?_,by simpa using c1,Classical.not_not.1 c2,Classical.not_not.1 c3,Classical.not_not.1 b,Classical.not_not.1 c,?_,Ta,Rk _ _ (Classical.not_not.1 d),by simpa using g,n.1,n.2.1,n.2.2,Classical.not_not.1 i,Classical.not_not.1 j⟩
 ·unfold gg ut hP;rw[qW c1,qW c2,qW c3,qW b,qW c,qW f,qW k,qW d,qW g,qW a,qW i,qW j]
 ·by_cases q:e.2.2.2.2.2.1=[]
  ·exact .inl q
  ·refine .inr ?_;cases p:gw e.2.2.2.2.2.1
   ·exact absurd ⟨q,p⟩ f
   ·rfl
def iF(n:Int)(a : -1000000000000<=n)(b:n<=1000000000000):je n=some (itoa n):=by
 unfold je;rw[ag ⟨Ta,Ta⟩]
def La(u:Nat)(h:0<u:=by omega):itoa (-(u:Int))=45::decDigits u:=by
 unfold itoa;rw[qX];simp
def lr(n:Int)(d : -1000000000000<=n)(e:n<=1000000000000):1<=(itoa n).length/\(itoa n).length<=14:=by
 have p:∀u:Nat,1<=(decDigits u).length:=fun u=>by
  have:=qk7 u
  cases c:decDigits u with|nil=>exact absurd c this|cons a b=>simp
 rcases Int.lt_or_le n 0 with h|h
 ·obtain⟨u,rfl⟩:∃u:Nat,n = -(u:Int):=⟨n.natAbs,Ta⟩
  rw[La u,qL]
  have:=Ec 13 u Ta Ta
  have:=p u;omega
 ·obtain⟨u,rfl⟩:∃u:Nat,n=(u:Int):=⟨n.natAbs,Ta⟩
  rw[KZ];have:=Ec 13 u Ta Ta
  have:=p u;omega
def A7(c:UInt8):Bool:=decide (48<=c.toNat/\c.toNat<=57)||c==45
def qnt(n:Int):∀c∈itoa n,A7 c=true:=by
 rcases Int.lt_or_le n 0 with h|h
 ·obtain⟨u,rfl⟩:∃u:Nat,n = -(u:Int):=⟨n.natAbs,Ta⟩
  rw[La u]
  intro c a;rcases List.mem_cons.1 a with rfl|a
  ·rfl
  ·unfold A7;rw[decide_eq_true (Q0 u c a)];rfl
 ·obtain⟨u,rfl⟩:∃u:Nat,n=(u:Int):=⟨n.natAbs,Ta⟩
  rw[KZ];intro c a;unfold A7;rw[decide_eq_true (Q0 u c a)];rfl
def mw(l:List Int):Bs:=Lib.join (l.map itoa) [44]
def jg(x:Int):Prop := -1000000000000<=x/\x<=1000000000000
def qpb(l:List Int)(g:l.length<=1000)(h:∀x∈l,jg x)(n:Nat):∀(b a:List Int),l=b++a->a.length<n->vW FU n l (l.length:Int) (b.length:Int) (b.map itoa)=im (l.map itoa) [44]:=by
 induction n with
 |zero=>intro b a _ h;omega|succ n ih=>
  intro b a e f;have c:=congrArg List.length e;rw[qM]at c;rw[vW,Ii]
  cases a with
  |nil=>
   rw[List.append_nil]at e;rw[bf (by simp at c;omega),← e]
   cases im (List.map itoa l) [44]<;>rfl
  |cons x a=>
   simp only[qL]at c f;have d:=h x (by rw[e];simp)
   rw[ag Ta,show aj l (b.length:Int)=some x by rw[e];exact dp _ _ _,qB,iF x d.1 d.2,qB,ag (pw _ _ (by rw[wC];omega)),bc _]
   have:=ih (b++[x]) a (by rw[e];simp) Ta
   rw[qM,wD,List.map_append]at this;exact this
def aM(l:List Int)(h:∀x∈l,jg x):(mw l).length<=15*l.length:=by
 have:=RG [44] 14 (l.map itoa) (fun t b=>by obtain⟨x,a,rfl⟩:=List.mem_map.1 b;exact(lr x (h x a).1 (h x a).2).2)
 rw[wC]at this;exact this
def L9(l:List Int)(a:l.length<=1000)(h:∀x∈l,jg x):lY FU l=some (mw l):=by
 have:=aM l h;unfold lY;have g:=qpb l a h FU [] l rfl (Nat.lt_of_le_of_lt a Tf)
 rw[show((([]:List Int).length:Nat):Int)=0 from rfl,List.map_nil]at g
 rw[g];unfold im;rw[ag ⟨by rw[wC];omega,by unfold mw at this;omega⟩];rfl
def iq(n:Int)(k:Nat):Bs:=List.replicate (k-(itoa n).length) 48++itoa n
def oS(n:Int)(k:Nat)(c:k<=10)(b:0<=n)(a:n<=1000000000000):zg n (k:Int)=some (iq n k):=by
 have d:=lr n Ta a
 unfold zg iq;rw[iF n Ta a,qB,bq]
 have e:(if(k:Int)-((itoa n).length:Int)>0 then(k:Int)-((itoa n).length:Int) else 0)=((k-(itoa n).length:Nat):Int):=by split<;>omega
 rw[e];unfold mA;rw[ag ⟨Ta,Ta,Te⟩,qB,show((k-(itoa n).length:Nat):Int).toNat=k-(itoa n).length by omega]
 have r:Lib.repeatL [48] (k-(itoa n).length)=List.replicate (k-(itoa n).length) 48:=by
  have:=Lib.repeatL_replicate 48 1 (k-(itoa n).length);simpa using this
 rw[r,ag (by simp only[ao,List.length_replicate];omega)]
def kq(n:Int)(k:Nat)(c:k<=10)(b:0<=n)(a:n<=1000000000000):(iq n k).length<=24:=by
 have d:=lr n Ta a
 unfold iq;rw[qM,List.length_replicate];omega
def vh(d:d9):Bs:=((((((iq d.1 4++iq d.2.1 2)++iq d.2.2.1 2)++[84])++iq d.2.2.2.1 2)++iq d.2.2.2.2.1 2)++iq d.2.2.2.2.2.1 2)
def Gf(d:d9):Prop:=(0<=d.1/\d.1<=1000000000000)/\(0<=d.2.1/\d.2.1<=1000000000000)/\(0<=d.2.2.1/\d.2.2.1<=1000000000000)/\(0<=d.2.2.2.1/\d.2.2.2.1<=1000000000000)/\(0<=d.2.2.2.2.1/\d.2.2.2.2.1<=1000000000000)/\(0<=d.2.2.2.2.2.1/\d.2.2.2.2.2.1<=1000000000000)
def qs7(d:d9)(h:Gf d):CJ d=some (vh d):=by
 obtain⟨a,b,c,x,y,z⟩:=h;have e:=kq d.1 4 Ta a.1 a.2
 have lb:=kq d.2.1 2 Ta b.1 b.2
 have f:=kq d.2.2.1 2 Ta c.1 c.2
 have g:=kq d.2.2.2.1 2 Ta x.1 x.2
 have i:=kq d.2.2.2.2.1 2 Ta y.1 y.2
 have j:=kq d.2.2.2.2.2.1 2 Ta z.1 z.2
 unfold CJ;rw[show(4:Int)=((4:Nat):Int) from rfl,show(2:Int)=((2:Nat):Int) from rfl,oS _ 4 Ta a.1 a.2,oS _ 2 Ta b.1 b.2,oS _ 2 Ta c.1 c.2,oS _ 2 Ta x.1 x.2,oS _ 2 Ta y.1 y.2,oS _ 2 Ta z.1 z.2]
 simp only[qB];rw[ag Tl,ag To,ag Th,ag Th,ag Th,ag Th]
 rfl
def qu:List Bs:=[[80,85,66,76,73,83,72],[82,69,81,85,69,83,84],[82,69,80,76,89],[67,65,78,67,69,76],[67,79,85,78,84,69,82]]
def qw:List Bs:=[[87,65,73,84,83],[65,67,67,69,80,84,83],[68,69,67,76,73,78,69,83],[77,65,89,66,69]]
def sj:List Bs:=[[79,78,67,69],[68,65,73,76,89],[87,69,69,75,76,89],[77,79,78,84,72,76,89],[89,69,65,82,76,89]]
def Sn:CG=some qu:=rfl
def qb0:CK=some qw:=rfl
def Ri:CE=some sj:=rfl
def gu(s:Bs):Bs:=fk 92 10 [92,92] [92,110] s
def zS(s:Bs):(gu s).length<=3*s.length:=by
 have c:=List.count_le_length (a:=(92:UInt8)) (l:=s);have d:=List.count_le_length (a:=(10:UInt8)) (l:=s);have:(gu s).length=_:=hK (a:=92) (b:=10) Tf 92 92 92 110 s
 unfold iy at this;omega
def QK(s:Bs)(h:s.length<=1000000:=by omega):vT s=some (gu s):=by
 unfold vT;rw[show xC ([([92]:Bs),([92,92]:Bs),([10]:Bs),([92,110]:Bs)]:List Bs)=some (0,0,0,[[92],[92,92],[10],[92,110]]) from rfl,qB]
 unfold wu;dsimp only;rw[ag ⟨rfl,rfl,Tf,Ta⟩];rfl
def qz(r:g9):Bs:=if r.2.2.2.2.1=true then itoa r.2.2.2.1 else[]
def ta(r:g9):Bs:=Lib.join [sj.getD r.1.toNat [],itoa r.2.1,itoa r.2.2.1,qz r,mw r.2.2.2.2.2.1] [59]
structure Dy(r:g9):Prop where
 f:0<=r.1/\r.1<=4
 e:jg r.2.1
 c:jg r.2.2.1
 u:r.2.2.2.2.1=true->jg r.2.2.2.1
 wl:r.2.2.2.2.2.1.length<=300
 w:∀x∈r.2.2.2.2.2.1,jg x
 xl:r.2.2.2.2.2.2.1.length<=300
 x:∀x∈r.2.2.2.2.2.2.1,jg x
 al:r.2.2.2.2.2.2.2.length<=300
 a:∀x∈r.2.2.2.2.2.2.2,jg x
def oD{α:Type}(l:List α)(i:Nat)(d:α)(h:i<l.length):l[i]? = some (l.getD i d):=by
 rw[List.getElem?_eq_getElem h,List.getD_eq_getElem?_getD,List.getElem?_eq_getElem h];rfl
def Rh(i:Nat):(sj.getD i []).length<=10:=by
 match i with
 |0|1|2|3|4=>decide
 |n+5=>simp[sj]
def Lo(i:Nat):(qu.getD i []).length<=10:=by
 match i with
 |0|1|2|3|4=>decide
 |n+5=>simp[qu]
def Mw(i:Nat):(qw.getD i []).length<=10:=by
 match i with
 |0|1|2|3=>decide
 |n+4=>simp[qw]
def Fd(r:g9)(h:Dy r):(ta r).length<=6000:=by
 have u:(qz r).length<=14:=by
  unfold qz;by_cases q:r.2.2.2.2.1=true
  ·rw[qX q];exact(lr _ (h.u q).1 (h.u q).2).2
  ·rw[qW q];simp
 have n:=aM _ h.w;have:=h.wl;have f:=Rh r.1.toNat;have e:=(lr _ h.e.1 h.e.2).2;have c:=(lr _ h.c.1 h.c.2).2;unfold ta;rw[Lib.join_cons];simp only[Lib.joinTail,List.map_cons,List.map_nil,List.flatten_cons,List.flatten_nil,qM,qL,qZ];omega
def qqv(r:g9)(h:Dy r):CH FU r=some (ta r):=by
 have f:=Fd r h;have c:∀s,s=qz r->vY FU s r=some (ta r):=fun s d=>by
  unfold vY;rw[Ri,qB];have e:=h.f;have b:r.1.toNat<sj.length:=by show r.1.toNat<5;omega
  rw[ag ⟨Ta,b⟩,oD sj _ [] b,qB,iF _ h.e.1 h.e.2,iF _ h.c.1 h.c.2,L9 _ (by have:=h.wl;omega) h.w]
  simp only[qB];unfold im;rw[d];rw[ag ⟨Td,by
   have:(ta r).length<=140737488355328:=Ta
   exact this⟩];rfl
 unfold CH;cases a:r.2.2.2.2.1
 ·rw[aq rfl];exact c _ (by unfold qz;rw[a];rfl)
 ·have:=h.u a;rw[ax rfl,iF _ this.1 this.2,qB];exact c _ (by unfold qz;rw[a];rfl)
def qb2(d:d9)(h:Gf d):(vh d).length<=200:=by
 obtain⟨a,b,c,x,y,z⟩:=h;have e:=kq d.1 4 Ta a.1 a.2
 have lb:=kq d.2.1 2 Ta b.1 b.2
 have f:=kq d.2.2.1 2 Ta c.1 c.2
 have g:=kq d.2.2.2.1 2 Ta x.1 x.2
 have i:=kq d.2.2.2.2.1 2 Ta y.1 y.2
 have j:=kq d.2.2.2.2.2.1 2 Ta z.1 z.2
 unfold vh;simp only[qM,qL,qZ];omega
def dB(g:Bs×Int):Bs:=(([71,85,69,83,84,58]++qw.getD (g.2-1).toNat [])++[32])++g.1
def ph(e:ci):List Bs:=[[66,69,71,73,78,58,69,86,69,78,84],[77,69,84,72,79,68,58]++qu.getD (e.2.1-1).toNat [],[85,73,68,58]++e.1,[83,69,81,85,69,78,67,69,58]++itoa e.2.2.1,[83,85,77,77,65,82,89,58]++gu e.2.2.2.1,[80,76,65,67,69,58]++gu e.2.2.2.2.1,[79,82,71,65,78,73,90,69,82,58]++e.2.2.2.2.2.1]
def nf(e:ci):List Bs:=[[90,79,78,69,58]++e.2.2.2.2.2.2.2.1,[83,84,65,82,84,58]++vh e.2.2.2.2.2.2.2.2.1,[76,69,78,71,84,72,58]++itoa e.2.2.2.2.2.2.2.2.2.1,[82,69,80,69,65,84,58]++ta e.2.2.2.2.2.2.2.2.2.2,[69,88,67,69,80,84,58]++mw e.2.2.2.2.2.2.2.2.2.2.2.2.2.2.2.2.1,[65,68,68,58]++mw e.2.2.2.2.2.2.2.2.2.2.2.2.2.2.2.2.2,[69,78,68,58,69,86,69,78,84]]
def sr(e:ci):List Bs:=ph e++e.2.2.2.2.2.2.1.map dB++nf e
structure rH(e:ci):Prop where
 ul:e.1.length<=60
 me:1<=e.2.1/\e.2.1<=5
 sq:jg e.2.2.1
 su:e.2.2.2.1.length<=500
 pl:e.2.2.2.2.1.length<=500
 og:e.2.2.2.2.2.1.length<=300
 gl:e.2.2.2.2.2.2.1.length<=30
 g:∀x∈e.2.2.2.2.2.2.1,x.1.length<=300/\1<=x.2/\x.2<=4
 zn:e.2.2.2.2.2.2.2.1.length<=60
 d:Gf e.2.2.2.2.2.2.2.2.1
 le:jg e.2.2.2.2.2.2.2.2.2.1
 r:Dy e.2.2.2.2.2.2.2.2.2.2
def qoe(e:ci)(a:rH e)(i:List Bs)(m:i.length<=100)(n:Nat):∀(c b:List TL),e.2.2.2.2.2.2.1=c++b->b.length<n->vV FU n e.2.2.2.2.2.2.1 (e.2.2.2.2.2.2.1.length:Int) (c.length:Int) e (i++c.map dB)=some (i++e.2.2.2.2.2.2.1.map dB++nf e):=by
 have l:=a.gl
 induction n with
 |zero=>intro c b _ h;omega|succ n ih=>
  intro c b d o;have f:=congrArg List.length d;rw[qM]at f;rw[vV,Ih]
  cases b with
  |nil=>
   have q:=a.zn;have r:=(lr _ a.le.1 a.le.2).2;have s:=Fd _ a.r;have t:=aM _ a.r.x;have u:=aM _ a.r.a;have x4:=a.r.xl;have y:=a.r.al;have j:=qs7 _ a.d;have v:=qb2 _ a.d;rw[List.append_nil]at d;rw[bf (by simp at f;omega),ag Tg,j,qB,ag Tg,iF _ a.le.1 a.le.2,qB,ag Tg,qqv _ a.r,qB,ag Tg,L9 _ Ta a.r.x,qB,ag Tg,L9 _ Ta a.r.a,qB,ag Tg,ag (by rw[← d];simp only[az,qM,wC,qL,qZ];omega),← d]
   rfl
  |cons g b=>
   simp only[qL]at f o;have p:=a.g g (by rw[d];simp)
   rw[ag Ta,show aj e.2.2.2.2.2.2.1 (c.length:Int)=some g by rw[d];exact dp _ _ _,qB,qb0,qB,bq (x:=g.2-1) Ta Ta]
   have k:(g.2-1).toNat<qw.length:=by show(g.2-1).toNat<4;omega
   have w:=Mw (g.2-1).toNat;rw[ag ⟨Ta,k⟩,oD qw _ [] k,qB,ag Tg,ag Th,ag Th,ag (pw _ _ (by rw[qM,wC];omega)),bc _]
   have:=ih (c++[g]) b (by rw[d];simp) Ta
   rw[qM,wD,List.map_append,← qS]at this;exact this
def lnF(e:ci)(a:rH e):CF FU e=some (sr e):=by
 have d:=a.me;have b:(e.2.1-1).toNat<qu.length:=by show(e.2.1-1).toNat<5;omega
 have f:=Lo (e.2.1-1).toNat;have g:=a.ul;have h:=(lr _ a.sq.1 a.sq.2).2;have i:=zS e.2.2.2.1;have j:=zS e.2.2.2.2.1;have k:=a.su;have l:=a.pl;have m:=a.og;have c:=a.gl;unfold CF;rw[Sn,qB,bq (x:=e.2.1-1) Ta Ta,ag ⟨Ta,b⟩,oD qu _ [] b,qB,ag Tg,ag Tg,iF _ a.sq.1 a.sq.2,qB,ag Tg,QK _,qB,ag Tg,QK _,qB,ag Tg,ag Tg]
 have:=qoe e a (ph e) TD FU [] e.2.2.2.2.2.2.1 rfl (Nat.lt_of_le_of_lt c Tf)
 rw[List.map_nil,List.append_nil]at this;exact this
def ew(s:Bs):Bs:=(vN FU s).getD []
def VL(s:Bs):Prop:=Lib.validD s=true/\s.length<=20000
def KH:∀(cs:List Bs)(a:Nat),(∀c∈cs,1<=c.length)->(kj a cs).length<=4*cs.flatten.length+2
 |[],_,_=>by simp[kj]|c::cs,a,h=>by
  have e:=h c qH;have f:=KH cs (1+c.length) (fun d b=>h d (qE _ b))
  have g:=KH cs (a+c.length) (fun d b=>h d (qE _ b))
  rw[kj,List.flatten_cons,qM];split
  ·simp only[qM,qL,qZ];omega
  ·simp only[qM];omega
def qc7{s:Bs}(h:VL s):∃R,aN R/\s=tx R:=FB s.length s (wF _) h.1
def Kr(s:Bs)(h:VL s):vN FU s=some (ew s)/\(ew s).length<=80002:=by
 obtain⟨R,a,rfl⟩:=qc7 h;have f:=h.2;have e:=QA R a
 refine⟨by unfold ew;rw[e];rfl,?_⟩
 have:=KH (R.map cy) 0 (fun c b=>by obtain⟨k,d,rfl⟩:=List.mem_map.1 b;exact(EZ (AJ (a k d))).1)
 rw[Ba]at this;unfold ew;rw[e,Option.getD_some];omega
def vl(e:ci):Bs:=(sr e).flatMap ew
def rI(e:ci):Prop:=rH e/\∀s∈sr e,VL s
def qve(j:List ci->Int->Int->TK->Bs->Option T1)(l:List ci)(a b:Int)(z:Int×Int)(i:List Bs)(m:i.length<=1000)(q:∀s∈i,VL s)(n:Nat):∀(f d:List Bs)(c:Bs),i=f++d->d.length<n->c.length+80002*d.length<=3000000000 ->
  vM FU j n l a b (i.length:Int) (f.length:Int) z i c=j l a (ae (b+1)) z (c++d.flatMap ew):=by
 induction n with
 |zero=>intro f d c _ h;omega|succ n ih=>
  intro f d c e o p;have g:=congrArg List.length e;rw[qM]at g;rw[vM,Ib]
  cases d with
  |nil=>rw[bf (by simp at g;omega)];simp|cons s d=>
   simp only[qL]at g o p;obtain⟨k,r⟩:=Kr s (q s (by rw[e];simp))
   rw[ag Ta,ag ⟨Ta,Ta⟩,show i[(f.length:Int).toNat]? = some s by rw[e,show(f.length:Int).toNat=f.length by omega];simp,qB,k,qB]
   unfold cB;rw[show zd c=some c from rfl,qB,ag (by simp only[az,qM];omega),qB,bc _]
   have:=ih (f++[s]) d (c++ew s) (by rw[e];simp) Ta Tp
   rw[qM,wD]at this;rw[this,List.flatMap_cons,qS]
def RU(e:ci)(a:rH e):(sr e).length<=44:=by
 have:=a.gl;unfold sr ph nf;simp only[qM,wC,qL,qZ];omega
def qcw(e:ci)(d:rI e):(vl e).length<=80002*44:=by
 have f:=RU e d.1;have:∀c:List Bs,(∀s∈c,VL s)->(c.flatMap ew).length<=80002*c.length:=by
  intro c
  induction c with
  |nil=>simp|cons s c ih=>
   intro h;have a:=ih (fun t g=>h t (qE _ g))
   have b:=(Kr s (h s qH)).2;rw[List.flatMap_cons,qM,qL];omega
 have:=this (sr e) d.2;unfold vl;have:80002*(sr e).length<=80002*44:=Nat.mul_le_mul (wF _) f;omega
def pO(t:Bs):Bs×TK:=if 12000<t.length then([],(1,-2)) else(t,(0,0))
def qvd(l:List ci)(o:l.length<=20)(k:∀e∈l,rI e)(z:Int×Int)(n:Nat):∀(d b:List ci)(a:Bs),l=d++b->b.length<n->a.length+3520088*b.length<=100000000 ->
  lS FU n l (l.length:Int) (d.length:Int) z a=some (pO (a++b.flatMap vl)):=by
 induction n with
 |zero=>intro d b a _ h;omega|succ n ih=>
  intro d b a e i j;have f:=congrArg List.length e;rw[qM]at f;rw[lS,Ia]
  cases b with
  |nil=>
   rw[bf (by simp at f;omega)]
   unfold I9;rw[qB,List.flatMap_nil,List.append_nil];unfold pO;by_cases c:12000<a.length
   ·rw[qX c,ag Ta];rfl
   ·rw[qW c,bf];rfl
  |cons v b=>
   simp only[qL]at f i j;have g:=k v (by rw[e];simp)
   have m:=RU v g.1;have p:=qcw v g;rw[ag Ta,show aj l (d.length:Int)=some v by rw[e];exact dp _ _ _,qB,lnF v g.1,qB]
   have:=qve (lS FU n) l (l.length:Int) (d.length:Int) z (sr v) Ta g.2 FU [] (sr v) a rfl (Nat.lt_of_le_of_lt m Tf) Ta
   rw[show((([]:List Bs).length:Nat):Int)=0 from rfl]at this
   rw[this,bc _]
   have:=ih (d++[v]) b (a++vl v) (by rw[e];simp) Ta Tp
   rw[qM,wD]at this;rw[List.flatMap_cons,← qS];exact this
noncomputable def aB:Nat->List ci->Option (Int×Int)|_,[]=>none|i,e::l=>if(gg e).1≠0 then some ((gg e).1,(i:Int)) else aB (i+1) l
noncomputable def tf(l:List ci):Bs×(Int×Int):=if 20<l.length then([],(2,-1)) else match aB 0 l with|some f=>([],f)|none=>pO (l.flatMap vl)
def qvc(l:List ci)(j:l.length<=20)(m:∀e∈l,lj e/\((gg e).1=0->rI e))(z:Int×Int)(n:Nat):∀(b a:List ci),l=b++a->a.length<n->(∀e∈b,(gg e).1=0) ->
  vL FU n l l (l.length:Int) (b.length:Int) z=some (match aB b.length a with|some f=>([],f)|none=>pO (l.flatMap vl)):=by
 induction n with
 |zero=>intro b a _ h;omega|succ n ih=>
  intro b a e o k;have d:=congrArg List.length e;rw[qM]at d;rw[vL,HY]
  cases a with
  |nil=>
   rw[List.append_nil]at e;rw[bf (by simp at d;omega),aB]
   have:=qvd l j (fun v i=>(m v i).2 (k v (by rw[← e];exact i))) z FU [] l [] rfl (Nat.lt_of_le_of_lt j Tf) Te
   exact this
  |cons v a=>
   simp only[qL]at d o;have i:=m v (by rw[e];simp)
   rw[ag Ta,show aj l (b.length:Int)=some v by rw[e];exact dp _ _ _,qB,K3 v i.1,qB,n6,qB,fh,aB]
   by_cases c:(gg v).1≠0
   ·rw[qX c,qX c];rfl
   ·rw[qW c,qW c,bc _]
    have:=ih (b++[v]) a (by rw[e];simp) Ta (fun x g=>by
     rcases List.mem_append.1 g with g|g
     ·exact k x g
     ·rw[List.mem_singleton]at g;subst g;exact Classical.not_not.1 c)
    rw[qM,wD]at this;exact this
def qvg(l:List ci)(a:∀e∈l,lj e/\((gg e).1=0->rI e)):lR FU l=some (tf l):=by
 unfold lR tf;by_cases c:20<l.length
 ·rw[ag Ta,qX c];rfl
 ·rw[bf,qW c]
  exact qvc l Ta a (0,0) FU [] l rfl (Nat.lt_of_le_of_lt (show l.length<=20 by omega) Tf) Td
end Go.Sym
namespace Go.Sym
open Go.Lib (decDigits itoa validD)
def zl(c:UInt8):Prop:=c.toNat<128/\c≠10/\c≠13
def dz(s:Bs):Prop:=∀c∈s,zl c
instance(c:UInt8):Decidable (zl c):=by unfold zl;infer_instance
instance(s:Bs):Decidable (dz s):=by unfold dz;infer_instance
def jk{a b:Bs}(h:dz a)(k:dz b):dz (a++b):=fun c d=>by
 rcases List.mem_append.1 d with d|d
 ·exact h c d
 ·exact k c d
def iP{c:UInt8}{b:Bs}(h:zl c)(k:dz b):dz (c::b):=fun d a=>by
 rcases List.mem_cons.1 a with rfl|a
 ·exact h
 ·exact k d a
def oU{c:UInt8}(a:32<=c.toNat:=by omega)(b:c.toNat<=126:=by omega):zl c:=⟨Ta,fun e=>(by subst e;simp at a),fun e=>(by subst e;simp at a)⟩
def qqc{s:Bs}(h:∀c∈s,A7 c=true):dz s:=fun c a=>by
 have:=h c a;unfold A7 at this;rw[Bool.or_eq_true,decide_eq_true_iff,beq_iff_eq]at this;rcases this with h|h
 ·exact oU
 ·subst h;decide
def iQ(n:Int):dz (itoa n):=qqc (qnt n)
def SP{a:Bs}(f:dz a):∀l:List Bs,(∀x∈l,dz x)->dz (Lib.join l a)
 |[],_=>fun c b=>by cases b
 |x::l,h=>by
  rw[Lib.join_cons];refine jk (h x qH) ?_;have:∀l:List Bs,(∀x∈l,dz x)->dz (Lib.joinTail a l):=by
   intro l
   induction l with
   |nil=>intro _ c b;cases b
   |cons y l ih=>
    intro h;have e:Lib.joinTail a (y::l)=(a++y)++Lib.joinTail a l:=by simp[Lib.joinTail]
    rw[e];exact jk (jk f (h y qH)) (ih fun z d=>h z (qE _ d))
  exact this l fun z d=>h z (qE _ d)
def LQ(l:List Int):dz (mw l):=SP Tf _ fun x a=>by
 obtain⟨n,_,rfl⟩:=List.mem_map.1 a;exact iQ n
def oV(n:Int)(k:Nat):dz (iq n k):=by
 unfold iq;refine jk (fun c a => ?_) (iQ n)
 rw[(List.mem_replicate.1 a).2];decide
def qqf(d:d9):dz (vh d):=by
 unfold vh;exact jk (jk (jk (jk (jk (jk (oV _ _) (oV _ _)) (oV _ _)) Tf) (oV _ _)) (oV _ _)) (oV _ _)
def qqa(i:Nat):dz (sj.getD i []):=by
 match i with
 |0|1|2|3|4=>decide
 |n+5=>simp[sj,dz]
def qqb(i:Nat):dz (qu.getD i []):=by
 match i with
 |0|1|2|3|4=>decide
 |n+5=>simp[qu,dz]
def qqe(i:Nat):dz (qw.getD i []):=by
 match i with
 |0|1|2|3=>decide
 |n+4=>simp[qw,dz]
def qqd(r:g9):dz (ta r):=by
 unfold ta;refine SP Tf _ fun x a => ?_
 simp only[wE,List.not_mem_nil,or_false]at a;rcases a with rfl|rfl|rfl|rfl|rfl
 ·exact qqa _
 ·exact iQ _
 ·exact iQ _
 ·unfold qz;split
  ·exact iQ _
  ·intro c b;cases b
 ·exact LQ _
def SR{s:Bs}(h:oe s=true):dz s/\1<=s.length/\s.length<=60:=by
 unfold oe at h;simp only[qA,decide_eq_true_iff,List.all_eq_true]at h;refine⟨fun c a => ?_,h.1.1,h.1.2⟩
 have:=h.2 c a;unfold yh at this;rw[qA,decide_eq_true_iff,decide_eq_true_iff,UInt8.le_iff_toNat_le,UInt8.le_iff_toNat_le]at this;have b:33<=c.toNat:=this.1;have d:c.toNat<=126:=this.2;exact oU
def qjz:∀n:_root_.Fin 256,z8 (UInt8.ofNat n.val)=true->zl (UInt8.ofNat n.val):=by decide +kernel
def SQ{s:Bs}(h:mu s=true):dz s/\s.length<=60:=by
 unfold mu at h;simp only[qA,decide_eq_true_iff,List.all_eq_true]at h;exact⟨fun c a=>o8 (fun c=>z8 c=true->zl c) qjz c (h.2 c a),h.1.2⟩
def qli:∀n:_root_.Fin 256,iz (UInt8.ofNat n.val)=true->zl (UInt8.ofNat n.val):=by decide +kernel
def ET{s:Bs}(h:qk s):dz s/\s.length<=300:=by
 refine⟨?_,by have:=qbt h;omega⟩
 obtain⟨l,d,e,b,rfl⟩:=h;have g:dz l:=fun c a=>by
  unfold ji at e;simp only[qA,decide_eq_true_iff,List.all_eq_true]at e;have:=e.2 c a;unfold xm at this;rw[qA,decide_eq_true_iff,decide_eq_true_iff,UInt8.le_iff_toNat_le,UInt8.le_iff_toNat_le]at this;have j:32<=c.toNat:=this.1;have k:c.toNat<=126:=this.2;exact oU
 have f:dz d:=fun c a=>by
  unfold ie at b;rw[qA]at b;rcases (zP b.2).2 c a with h|h
  ·exact o8 (fun c=>iz c=true->zl c) qli c h
  ·subst h;decide
 have i:∀w:Bs,dz w->dz (de w):=by
  intro w
  induction w with
  |nil=>intro _ c a;cases a
  |cons x w ih=>
   intro h;have:=ih (fun c a=>h c (qE _ a))
   rw[K2];refine jk ?_ this;cases x==34||x==92
   ·exact iP (h x qH) Tf
   ·exact iP Tf (iP (h x qH) Tf)
 unfold jb;cases fc dc true l
 ·exact jk (jk (iP Tf (jk (i l g) Tf)) Tf) f
 ·exact jk (jk g Tf) f
def FA:∀s:Bs,(∀c∈s,c.toNat<128)->validD s=true
 |[],_=>rfl|c::s,h=>by
  rw[Lib.validD_cons c s (h c qH)];exact FA s fun d a=>h d (qE _ a)
def qc5{a b:Bs}(h:validD a=true)(k:validD b=true):validD (a++b)=true:=by
 obtain⟨R,e,rfl⟩:=FB a.length a (wF _) h;obtain⟨S,f,rfl⟩:=FB b.length b (wF _) k;rw[← qt9];exact M9 _ fun c d=>by
  rcases List.mem_append.1 d with d|d
  ·exact e c d
  ·exact f c d
def qur{s:Bs}(h:dz s)(b:s.length<=20000):VL s:=⟨FA s fun c a=>(h c a).1,b⟩
def ql0{c:Nat}(h:128<=c)(b:vc c):∀x∈cy c,128<=x.toNat:=by
 have b:c<=1114111:=by rcases b with h|h<;>omega
 have f:∀n:Nat,128<=n->n<256->128<=(UInt8.ofNat n).toNat:=fun n d e=>by rw[A8 e];exact d
 intro x a;unfold cy at a;rw[qW Ta]at a
 split at a
 ·simp only[wE,List.not_mem_nil,or_false]at a;rcases a with rfl|rfl<;>exact f _ Ta Ta
 ·split at a
  ·simp only[wE,List.not_mem_nil,or_false]at a;rcases a with rfl|rfl|rfl<;>exact f _ Ta Ta
  ·simp only[wE,List.not_mem_nil,or_false]at a;rcases a with rfl|rfl|rfl|rfl<;>exact f _ Ta Ta
def Eo(c:UInt8)(w:Bs):gu (c::w)=(if c=92 then[92,92] else if c=10 then[92,110] else[c])++gu w:=rfl
def ql5(a b:Bs):gu (a++b)=gu a++gu b:=zT _ _ _ _ _ _
def QL:∀w:Bs,(∀x∈w,128<=x.toNat)->gu w=w
 |[],_=>rfl|c::w,h=>by
  have a:=h c qH;rw[Eo,qW (fun e=>by subst e;simp at a),qW (fun e=>by subst e;simp at a),QL w fun x b=>h x (qE _ b)]
  rfl
def QN:∀R:List Nat,aN R->validD (gu (tx R))=true
 |[],_=>rfl|c::R,h=>by
  obtain⟨a,f⟩:=AA h;rw[F4,ql5];refine qc5 ?_ (QN R f);rcases Nat.lt_or_ge c 128 with h|h
  ·have:cy c=[UInt8.ofNat c]:=by unfold cy;rw[qX h]
   rw[this,Eo,show gu []=[] from rfl,List.append_nil]
   split
   ·rfl
   ·split
    ·rfl
    ·exact FA _ fun x e=>by rw[List.mem_singleton]at e;subst e;rw[A8];exact h
  ·rw[QL _ (ql0 h a)];have:=M9 [c] (fun d b=>by rw[List.mem_singleton]at b;subst b;exact a)
   rw[F4,qua,List.append_nil]at this;exact this
def AZ{s:Bs}(h:f6 s=0):s.length<=500/\validD s=true/\13∉s:=by
 unfold f6 at h;by_cases c1:500<s.length
 ·rw[qX c1]at h;cases h
 rw[qW c1]at h;by_cases c2:validD s=false
 ·rw[qX c2]at h;cases h
 rw[qW c2]at h;by_cases c3:s.contains 13=true
 ·rw[qX c3]at h;cases h
 exact⟨Ta,by simpa using c2,by simpa using c3⟩
def ql7{s:Bs}(h:f6 s=0):validD (gu s)=true:=by
 obtain⟨_,a,_⟩:=AZ h;obtain⟨R,b,rfl⟩:=FB s.length s (wF _) a;exact QN R b
def QM:∀s:Bs,13∉s->∀c∈gu s,c≠10/\c≠13
 |[],_,c,hc=>by cases hc
 |x::s,h3,c,hc=>by
  rw[Eo]at hc;rcases List.mem_append.1 hc with hc|hc
  ·split at hc
   ·simp only[wE,List.not_mem_nil,or_false,or_self]at hc;subst hc;decide
   ·split at hc
    ·simp only[wE,List.not_mem_nil,or_false]at hc;rcases hc with rfl|rfl<;>decide
    ·rename_i b a;rw[List.mem_singleton]at hc;subst hc;exact⟨a,fun e=>h3 (by rw[e];exact qH)⟩
  ·exact QM s (fun q=>h3 (qE _ q)) c hc
def ql6{s:Bs}(h:f6 s=0):∀c∈gu s,c≠10/\c≠13:=QM s (AZ h).2.2
def Dt(s:Bs):Prop:=VL s/\(∀c∈s,c≠10/\c≠13)/\∃c r,s=c::r/\65<=c.toNat/\c.toNat<=90
def EE{c:UInt8}{s:Bs}(a:65<=c.toNat)(b:c.toNat<=90)(h:dz s)(f:s.length<=19999):Dt (c::s):=
 ⟨qur (iP (oU) h) (by rw[qL];omega),fun d e=>(iP (oU) h d e).2,c,s,rfl,a,b⟩
def RV{c:UInt8}{p s:Bs}(e:65<=c.toNat)(f:c.toNat<=90)(hp:dz p)(g:p.length<=100)(h:f6 s=0):Dt (c::(p++gu s)):=by
 have b:=iP (c:=c) (oU) hp
 have l:=zS s;have i:=(AZ h).1;refine⟨⟨?_,?_⟩,?_,c,_,rfl,e,f⟩
 ·rw[← wK];exact qc5 (FA _ fun d a=>(b d a).1) (ql7 h)
 ·rw[qL,qM];omega
 ·rw[← wK];intro d a;rcases List.mem_append.1 a with a|a
  ·exact(b d a).2
  ·exact ql6 h d a
def qre{r:g9}(h:(kw r).1=0):(r.2.2.2.2.1=true->jg r.2.2.2.1)/\(r.2.2.2.2.1=false->r.2.2.2.1=0)/\∀x∈r.2.2.2.2.2.1,0<=x/\x<=6:=by
 unfold kw at h;by_cases c1:¬(0<=r.1/\r.1<=4)
 ·rw[qX c1]at h;simp at h
 rw[qW c1]at h;by_cases c2:¬(1<=r.2.1/\r.2.1<=100)
 ·rw[qX c2]at h;simp at h
 rw[qW c2]at h;by_cases c3:¬(0<=r.2.2.1/\r.2.2.1<=1500)
 ·rw[qX c3]at h;simp at h
 rw[qW c3]at h;by_cases b:r.2.2.2.2.1=true/\¬(-68719476736<=r.2.2.2.1/\r.2.2.2.1<=68719476736)
 ·rw[qX b]at h;simp at h
 rw[qW b]at h;by_cases d:r.2.2.2.2.1=false/\r.2.2.2.1≠0
 ·rw[qX d]at h;simp at h
 rw[qW d]at h;by_cases e:(p8 r).1≠0
 ·rw[qX e]at h;exact absurd h e
 have a:=Classical.not_not.1 e;refine⟨fun q => ?_,fun q=>Classical.not_not.1 fun k=>d ⟨q,k⟩,?_⟩
 ·have : -68719476736<=r.2.2.2.1/\r.2.2.2.1<=68719476736:=Classical.not_not.1 fun c=>b ⟨q,c⟩
  exact⟨Ta,Ta⟩
 ·unfold p8 at a;by_cases q:0<r.2.2.2.2.2.1.length/\r.1≠2
  ·rw[qX q]at a;simp at a
  ·rw[qW q,zH]at a;obtain⟨_,g,_⟩:=Fs ff _ none a;exact fun x f=>of_decide_eq_true (g x f)
def qqr{r:g9}(h:(kw r).1=0):Dy r/\r.2.2.2.2.2.1.length<=7:=by
 obtain⟨_,k,f,e⟩:=qrx r h;obtain⟨c,_,d⟩:=qre h;have b:∀x,py x=true->jg x:=fun x a=>by
  have:=of_decide_eq_true a;exact⟨Ta,Ta⟩
 have i:=k.e1;have j:=k.e2;have l:=k.c1;have m:=k.c2;have g:=k.wl;exact⟨⟨⟨k.f1,k.f2⟩,⟨Ta,Ta⟩,⟨Ta,Ta⟩,c,Ta,fun x a=>by have:=d x a;exact⟨Ta,Ta⟩,k.xl,fun x a=>b x (f x a),k.al,fun x a=>b x (e x a)⟩,g⟩
def zU{e:ci}(h:eR e):rH e:=by
 have k:=h.sq;have j:=h.le;refine⟨(SR h.uid).2.2,h.me,⟨Ta,Ta⟩,(AZ h.su).1,(AZ h.pl).1,?_,h.gl,fun x c => ?_,(SQ h.zn).2,?_,⟨Ta,Ta⟩,(qqr h.r).1⟩
 ·rcases h.og with q|q
  ·rw[q];simp
  ·exact(ET (pA q)).2
 ·obtain⟨a,b⟩:=h.g x c;exact⟨(ET (pA a)).2,b⟩
 ·obtain⟨⟨d,f,g,i,c1,c2⟩,x1,x2,l,m,z1,n,_⟩:=h.d;have:Cal.dim e.2.2.2.2.2.2.2.2.1.1 e.2.2.2.2.2.2.2.2.1.2.1<=31:=(Cal.dim_bd _ _).2;exact⟨⟨Ta,Ta⟩,⟨Ta,Ta⟩,⟨Ta,Ta⟩,⟨Ta,Ta⟩,⟨Ta,Ta⟩,⟨Ta,Ta⟩⟩
def xj{c:UInt8}{s:Bs}(p:Bs)(a:65<=c.toNat)(b:c.toNat<=90)(hp:dz p)(h:dz s)(d:p.length+s.length<=19999):Dt (c::(p++s)):=
 EE a b (jk hp h) (by rw[qM];exact d)
def qof{e:ci}(h:eR e):∀s∈sr e,Dt s:=by
 have a:=zU h;intro s b;unfold sr at b;have m:=(lr _ a.sq.1 a.sq.2).2;have n:=(lr _ a.le.1 a.le.2).2;have o:=Fd _ a.r;have r:=aM _ a.r.x;have t:=aM _ a.r.a;have x:=a.r.xl;have y:=a.r.al;have u:=a.og;have j:=qb2 _ a.d;have v:=a.zn;have w:=a.ul;have l:=Lo (e.2.1-1).toNat;rcases List.mem_append.1 b with b|b
 ·rcases List.mem_append.1 b with b|b
  ·unfold ph at b;simp only[wE,List.not_mem_nil,or_false]at b;rcases b with rfl|rfl|rfl|rfl|rfl|rfl|rfl
   ·exact EE Tf Tf Tf Tf
   ·exact xj [69,84,72,79,68,58] Tf Tf Tf (qqb _) Tj
   ·exact xj [73,68,58] Tf Tf Tf (SR h.uid).1 Tj
   ·exact xj [69,81,85,69,78,67,69,58] Tf Tf Tf (iQ _) Tj
   ·exact RV (p:=[85,77,77,65,82,89,58]) Tf Tf Tf Tf h.su
   ·exact RV (p:=[76,65,67,69,58]) Tf Tf Tf Tf h.pl
   ·refine xj [82,71,65,78,73,90,69,82,58] Tf Tf Tf ?_ Tj
    rcases h.og with q|q
    ·rw[q];intro c f;cases f
    ·exact(ET (pA q)).1
  ·obtain⟨g,d,rfl⟩:=List.mem_map.1 b;have i:=(a.g g d).1;have k:=Mw (g.2-1).toNat;have:=EE (c:=71) (s:=(([85,69,83,84,58]++qw.getD (g.2-1).toNat [])++[32])++g.1) Tf Tf (jk (jk (jk Tf (qqe _)) Tf) (ET (pA (h.g g d).1)).1) Tm
   exact this
 ·unfold nf at b;simp only[wE,List.not_mem_nil,or_false]at b;rcases b with rfl|rfl|rfl|rfl|rfl|rfl|rfl
  ·exact xj [79,78,69,58] Tf Tf Tf (SQ h.zn).1 Tj
  ·exact xj [84,65,82,84,58] Tf Tf Tf (qqf _) Tj
  ·exact xj [69,78,71,84,72,58] Tf Tf Tf (iQ _) Tj
  ·exact xj [69,80,69,65,84,58] Tf Tf Tf (qqd _) Tj
  ·exact xj [88,67,69,80,84,58] Tf Tf Tf (LQ _) Tj
  ·exact xj [68,68,58] Tf Tf Tf (LQ _) Tj
  ·exact EE Tf Tf Tf Tf
def nX{e:ci}(h:eR e):rI e:=⟨zU h,fun s a=>(qof h s a).1⟩
def qvh(l:List ci)(b:∀e∈l,lj e):lR FU l=some (tf l):=
 qvg l fun e a=>⟨b e a,fun h=>nX (K4 h)⟩
end Go.Sym
namespace Go.Sym
def bnd{α:Type}{b:Bool}{x y:Option α}{z:α}(h:b=true->x=some z)(g:b=false->y=some z):(bif b then x else y)=some z:=by
 cases b
 ·exact g rfl
 ·exact h rfl
def qma(e:ci)(g:lj e) :
  ((tR FU e.2.2.2.2.2.2.2.1).bind fun h=>bif !h then(ce (10:Int) (-10:Int)).bind fun i=>some i else(yz e.2.2.2.2.2.2.2.2.1).bind fun j=>bif j.1 != (0:Int) then(yz e.2.2.2.2.2.2.2.2.1).bind fun yj=>(ce yj.1 (-11:Int)).bind fun pR=>some pR else(ck e.2.2.2.2.2.2.2.2.2.1 (0:Int) (1000000:Int)).bind fun yl=>bif !yl then(ce (3:Int) (-12:Int)).bind fun a=>some a else(fI FU e.2.2.2.2.2.2.2.2.2.2).bind fun b=>bif b.1 != (0:Int) then(fI FU e.2.2.2.2.2.2.2.2.2.2).bind fun d=>(ce d.1 (-13:Int)).bind fun f=>some f else some ((0:Int),(0:Int)))=some (hP e):=by
 obtain⟨k,l,m⟩:=g;unfold hP;rw[qrn FU _ Ta Ts,qB]
 cases mu e.2.2.2.2.2.2.2.1
 ·rw[qX rfl];rfl
 ·rw[qW Td,aq,RW]
  simp only[qB,fh];by_cases c:(aI e.2.2.2.2.2.2.2.2.1).1≠0
  ·rw[qX c,qX c];rfl
  ·rw[qW c,qW c,ku,qB,o7];by_cases c:0<=e.2.2.2.2.2.2.2.2.2.1/\e.2.2.2.2.2.2.2.2.2.1<=1000000
   ·rw[qX c,qW (c:=¬(0<=e.2.2.2.2.2.2.2.2.2.1/\_)) (fun q=>q c),qry FU Tf _]
    simp only[qB];by_cases c:(kw e.2.2.2.2.2.2.2.2.2.2).1≠0
    ·rw[qX c,qX c];rfl
    ·rw[qW c,qW c]
   ·rw[qW c,qX (c:=¬(0<=e.2.2.2.2.2.2.2.2.2.1/\_)) c];rfl
def qmo(e:ci)(g:Bs×Int)(k:Int->ci->TK->Option TK)(z:Int×Int)(a d:List TL)(f:e.2.2.2.2.2.2.1=a++g::d)(m:e.2.2.2.2.2.2.1.length<=30)(n:Nat):∀p s:List TL,a=p++s->s.length<n ->
  tO FU k n (a.length:Int) (p.length:Int) e z=if s.any (fun x=>x.1==g.1)=true then some (7,(a.length:Int)) else k ((a.length+1:Nat):Int) e z:=by
 have l:=congrArg List.length f;rw[qM,qL]at l
 induction n with
 |zero=>intro p s _ h;omega|succ n ih=>
  intro p s i h;have b:=congrArg List.length i;rw[qM]at b;rw[tO,GY]
  cases s with
  |nil=>rw[bf (by simp at b;omega),qW Td,bc _]|cons y s=>
   simp only[qL]at b h;rw[ag Ta,show aj e.2.2.2.2.2.2.1 (p.length:Int)=some y by rw[f,i,qS];exact dp _ _ _,show aj e.2.2.2.2.2.2.1 (a.length:Int)=some g by rw[f];exact dp _ _ _]
   simp only[qB];by_cases j:(y.1==g.1)=true
   ·rw[ax j,qX (by rw[List.any_cons,j];rfl)];rfl
   ·have c:=Bool.eq_false_iff.2 j;have:=ih (p++[y]) s (by rw[i];simp) Ta
    rw[qM,wD]at this;rw[aq c,bc _,this]
    simp only[List.any_cons,c,Bool.false_or]
def qmp(e:ci)(j:lj e)(i:∀g∈e.2.2.2.2.2.2.1,qd FU g.1=some (gw g.1))(z:Int×Int)(k:e.2.2.2.2.2.2.1.length<=30)(n:Nat):∀a b:List TL,e.2.2.2.2.2.2.1=a++b->b.length<n ->
  kN FU n (a.length:Int) e z=some (if(pc a b).1≠0 then pc a b else hP e):=by
 induction n with
 |zero=>intro a b _ h;omega|succ n ih=>
  intro a b f h;have d:=congrArg List.length f;rw[qM]at d;rw[kN,GX]
  cases b with
  |nil=>
   rw[bf (by simp at d;omega),qma e j]
   rfl
  |cons g b=>
   simp only[qL]at h d;rw[ag Ta,show aj e.2.2.2.2.2.2.1 (a.length:Int)=some g by rw[f];exact dp _ _ _]
   simp only[qB];rw[i g (by rw[f];simp),qB,pc]
   cases gw g.1
   ·simp only[if_true];rfl
   ·rw[aq,ku,qB,o7,qW (c:=true=false) Td]
    by_cases c:1<=g.2/\g.2<=4
    ·rw[qX c,qW (c:=¬(1<=g.2/\g.2<=4)) (fun q=>q c)]
     have:=qmo e g (kN FU n) z a b f k FU [] a rfl (Nat.lt_of_le_of_lt (show a.length<=30 by omega) Tf)
     refine Eq.trans this ?_;cases a.any (fun x=>x.1==g.1)
     ·rw[qW Td,qW (c:=false=true) Td]
      have:=ih (a++[g]) b (by rw[f];simp) Ta
      rw[qM,wD]at this;exact this
     ·rw[qX rfl,qX (c:=true=true) rfl];rfl
    ·rw[qW c,qX (c:=¬(1<=g.2/\g.2<=4)) c];rfl
def ql8(e:ci)(b:lj e)(a:∀g∈e.2.2.2.2.2.2.1,qd FU g.1=some (gw g.1))(z:Int×Int):BS FU e z=some (ut e):=by
 unfold BS ut;by_cases c:30<e.2.2.2.2.2.2.1.length
 ·rw[ag Ta,qX c];rfl
 ·rw[bf,qW c]
  exact qmp e b a z Ta FU [] _ rfl (Nat.lt_of_le_of_lt (show e.2.2.2.2.2.2.1.length<=30 by omega) Tf)
def quc(e:ci)(z:Int×Int)(X:Int×Int)(u:e.1.length<=2000000)
  (g:(oe e.1=true->((ck e.2.1 (1:Int) (5:Int)).bind fun q=>bif !q then(ce (4:Int) (-4:Int)).bind fun r=>some r else(ck e.2.2.1 (0:Int) (1000000:Int)).bind fun s=>bif !s then(ce (3:Int) (-5:Int)).bind fun t=>some t else(t6 FU e.2.2.2.1).bind fun yj=>bif yj != (0:Int) then(t6 FU e.2.2.2.1).bind fun pR=>(ce pR (-6:Int)).bind fun yl=>some yl else(t6 FU e.2.2.2.2.1).bind fun i=>bif i != (0:Int) then(t6 FU e.2.2.2.2.1).bind fun j=>(ce j (-7:Int)).bind fun k=>some k else bif !(e.2.2.2.2.2.1==([]:Bs)) then(qd FU e.2.2.2.2.2.1).bind fun l=>fH FU (!l) e z else fH FU false e z)=some X)/\(oe e.1=false->X=(10,-3))) (n:Nat):∀b a:Bs,e.1=b++a->a.length<n->b.all yh=true ->
  tN FU n (b.length:Int) e z=some X:=by
 induction n with
 |zero=>intro b a _ h;omega|succ n ih=>
  intro b a f h m;have d:=congrArg List.length f;rw[qM]at d;rw[tN,GW]
  cases a with
  |nil=>
   rw[List.append_nil]at f;rw[bf (by simp at d;omega),ku,qB,o7]
   by_cases c:(1:Int)<=(e.1.length:Int)/\(e.1.length:Int)<=60
   ·rw[qX c];refine g.1 ?_;unfold oe;rw[decide_eq_true (p:=1<=e.1.length) Ta,decide_eq_true (p:=e.1.length<=60) Ta,f,m];rfl
   ·rw[qW c,g.2 ?_]
    ·rfl
    ·unfold oe;rw[show(decide (1<=e.1.length)&&decide (e.1.length<=60))=false by rw[Bool.and_eq_false_iff,decide_eq_false_iff_not,decide_eq_false_iff_not];omega];rfl
  |cons y a=>
   simp only[qL]at d h;rw[ag Ta,show aj e.1 (b.length:Int)=some y by rw[f];exact dp _ _ _,qB,ku,qB,o7]
   have o:yh y=decide ((33:Int)<=(y.toNat:Int)/\(y.toNat:Int)<=126):=by
    unfold yh;rw[Bool.eq_iff_iff,decide_eq_true_iff,qA,decide_eq_true_iff,decide_eq_true_iff,UInt8.le_iff_toNat_le,UInt8.le_iff_toNat_le];simp;omega
   by_cases c:(33:Int)<=(y.toNat:Int)/\(y.toNat:Int)<=126
   ·rw[qX c,bc _]
    have:=ih (b++[y]) a (by rw[f];simp) Ta (by rw[List.all_append,m,List.all_cons,o,decide_eq_true c];rfl)
    rw[qM,wD]at this;exact this
   ·rw[qW c,g.2 ?_]
    ·rfl
    ·unfold oe;rw[f,List.all_append,List.all_cons,o,decide_eq_false c];simp
def qaz(e:ci)(d:lj e)(i:e.2.2.2.2.2.1≠[]->qd FU e.2.2.2.2.2.1=some (gw e.2.2.2.2.2.1))(j:∀g∈e.2.2.2.2.2.2.1,qd FU g.1=some (gw g.1)):kM FU e=some (gg e):=by
 have f:=d.1;refine quc e (0,0) (gg e) f ⟨fun a => ?_,fun a=>by unfold gg;rw[qX a]⟩ FU [] e.1 rfl (Nat.lt_of_le_of_lt f Tf) rfl
 unfold gg;rw[qW (c:=oe e.1=false) (by simp[a]),ku,qB,o7]
 by_cases c:1<=e.2.1/\e.2.1<=5
 ·rw[qX c,qW (c:=¬(1<=e.2.1/\e.2.1<=5)) (fun q=>q c),ku,qB,o7]
  by_cases c:0<=e.2.2.1/\e.2.2.1<=1000000
  ·rw[qX c,qW (c:=¬(0<=e.2.2.1/\e.2.2.1<=1000000)) (fun q=>q c),qbc,qbc]
   simp only[qB,fh];by_cases c:f6 e.2.2.2.1≠0
   ·rw[qX c,qX c];rfl
   ·rw[qW c,qW c];by_cases c:f6 e.2.2.2.2.1≠0
    ·rw[qX c,qX c];rfl
    ·rw[qW c,qW c];have h:∀b,fH FU b e (0,0)=some (if b=true then(10,-8) else ut e):=fun b=>by
      unfold fH;cases b
      ·rw[aq rfl,ql8 e d j,qW Td]
      ·rw[ax rfl,qX rfl];rfl
     by_cases c:e.2.2.2.2.2.1=[]
     ·rw[aq (by simp[c]),h,qW Td,qW (fun q=>q.1 c)]
     ·rw[ax (by simp[c]),i c,qB,h]
      cases gw e.2.2.2.2.2.1
      ·rw[qX (c:=(!false)=true) rfl,qX ⟨c,rfl⟩]
      ·rw[qW (c:=(!true)=true) Td,qW Td]
  ·rw[qW c,qX (c:=¬(0<=e.2.2.1/\e.2.2.1<=1000000)) c];rfl
 ·rw[qW c,qX (c:=¬(1<=e.2.1/\e.2.1<=5)) c];rfl
def qrb(e:ci)(a:lj e):kM FU e=some (gg e):=qaz e a (fun _=>qa3 _) fun _ _=>qa3 _
open Go.Lib (decDigits itoa)
def iX(n:Int)(h:jg n):qa FU n=some (itoa n):=by
 obtain⟨a,b⟩:=h;rcases Int.lt_or_le n 0 with q|q
 ·obtain⟨u,rfl⟩:∃u:Nat,n = -(u:Int):=⟨n.natAbs,Ta⟩
  have c:=Ec 13 u Ta Ta
  unfold qa BO;rw[ag q,bq (x := -(u:Int)+1) Ta Ta,bq,pG (x:=0-(-(u:Int)+1)) Ta Ta,pG,show 0-(-(u:Int)+1)+1=(u:Int) by omega,Q4 FU 13 FU u Tf Ta Ta Ta,qB,ag Tg,La u]
  rfl
 ·obtain⟨u,rfl⟩:∃u:Nat,n=(u:Int):=⟨n.natAbs,Ta⟩
  rw[qpa FU Tf u,KZ]
def qrs(k n:Nat)(c:k<=10):∀s:Bs,k-s.length<n->s.length<=100->sN FU n (k:Int) s=some (List.replicate (k-s.length) 48++s):=by
 induction n with
 |zero=>intro s h;omega|succ n ih=>
  intro s d e;rw[sN,GC];by_cases q:s.length<k
  ·rw[ag Ta,ag Tg]
   have:=ih ([48]++s) Te Te
   rw[this];obtain⟨j,b⟩:∃j,k-s.length=j+1:=⟨k-s.length-1,Ta⟩
   have a:k-(([48]:Bs)++s).length=j:=by rw[qM,wD];omega
   rw[a,b,List.replicate_succ',qS]
  ·rw[bf,show k-s.length=0 by omega];rfl
def qa9(n:Int)(k:Nat)(a:k<=10)(h:jg n):tv FU n (k:Int)=some (iq n k):=by
 have:=(lr n h.1 h.2).2;unfold tv iq;rw[iX n h,qB];exact qrs k FU a (itoa n) (Nat.lt_of_le_of_lt (show k-(itoa n).length<=10 by omega) Tf) Ta
def qrj(l:List Int)(o:l.length<=1000)(h:∀x∈l,jg x)(n:Nat):∀(a b:List Int)(s:Bs),l=a++b->b.length<n->s.length<=20*a.length->kS FU n l s (a.length:Int)=some (s++(if a=[] then mw b else Lib.joinTail [44] (b.map itoa))):=by
 induction n with
 |zero=>intro a b s _ h;omega|succ n ih=>
  intro a b s e k j;have c:=congrArg List.length e;rw[qM]at c;rw[kS,Hk]
  cases b with
  |nil=>
   rw[bf (by simp at c;omega)]
   split<;>simp[mw,Lib.join,Lib.joinTail]
  |cons x b=>
   simp only[qL]at c k;have i:=h x (by rw[e];simp)
   have p:=(lr x i.1 i.2).2;have m:aj l (a.length:Int)=some x:=by rw[e];exact dp _ _ _
   rw[ag Ta,m]
   simp only[qB];rw[iX x i];simp only[qB];have f:∀d:Bs,d.length<=20*(a.length+1)->kS FU n l d (ae ((a.length:Int)+1))=some (d++Lib.joinTail [44] (b.map itoa)):=fun d g=>by
    have:=ih (a++[x]) b d (by rw[e];simp) Ta (by rw[qM,wD];exact g)
    rw[qM,wD,qW Td]at this
    rw[bc _];exact this
   cases a with
   |nil=>
    simp only[qZ]at j f ⊢;rw[bf,ag Tl,f _ Tp,qX trivial]
    unfold mw;rw[List.map_cons,Lib.join_cons,qS]
   |cons y a=>
    simp only[qL]at j c f ⊢;rw[ag Ta,ag Tg,ag Th,f _ Tm,qW Td]
    simp[Lib.joinTail]
def Mi(l:List Int)(a:l.length<=1000)(h:∀x∈l,jg x):tV FU l=some (mw l):=
 qrj l a h FU [] l [] rfl (Nat.lt_of_le_of_lt a Tf) Td
def qq9(w:Bs)(o:w.length<=1000)(n:Nat):∀(f d b:Bs),w=f++d->d.length<n->b.length<=2*f.length->kP FU n w b (f.length:Int)=some (b++gu d):=by
 induction n with
 |zero=>intro f d b _ h;omega|succ n ih=>
  intro f d b e k m;have g:=congrArg List.length e;rw[qM]at g;rw[kP,Hh]
  cases d with
  |nil=>rw[bf (by simp at g;omega)];simp[gu,fk]|cons c d=>
   simp only[qL]at g k;have i:∀a:Bs,a.length<=2->kP FU n w (b++a) (ae ((f.length:Int)+1))=some ((b++a)++gu d):=fun a l=>by
    have:=ih (f++[c]) d (b++a) (by rw[e];simp) Ta Tm
    rw[qM,wD]at this;rw[bc _];exact this
   rw[ag Ta,show aj w (f.length:Int)=some c by rw[e];exact dp _ _ _,qB,Eo]
   by_cases c1:c=92
   ·rw[qX c1,ax Tz,ag Tg,i _ Td,qS]
   ·rw[qW c1,aq Tz]
    by_cases c2:c=10
    ·rw[qX c2,ax TG,ag Tg,i _ Td,qS]
    ·have j:=zK f c d
     rw[bc _,← e]at j
     rw[qW c2,aq TG,bc _,ag ⟨Ta,Ta,Ta⟩,j,ag Tg,← bc _,i _ Td,qS]
def qay(s:Bs)(h:s.length<=500):BZ FU s=some (gu s):=
 qq9 s Ta FU [] s [] rfl (Nat.lt_of_le_of_lt h Tf) Td
def ob(s:Bs)(h:VL s):jl FU s=some (ew s):=by
 obtain⟨R,a,rfl⟩:=qc7 h;have b:=h.2;unfold ew;rw[qrf R a,QA R a];rfl
def stX(i:Int)(a:1<=i)(b:i<=4):([([]:Bs),([87,65,73,84,83]:Bs),([65,67,67,69,80,84,83]:Bs),([68,69,67,76,73,78,69,83]:Bs),([77,65,89,66,69]:Bs)]:List Bs)[i.toNat]? = some (qw.getD (i-1).toNat []):=by
 obtain⟨k,rfl⟩:∃k:Nat,i=(k:Int)+1:=⟨(i-1).toNat,Ta⟩
 rw[show((k:Int)+1).toNat=k+1 by omega,show((k:Int)+1-1).toNat=k by omega]
 exact oD qw k [] (by show k<4;omega)
def meX(i:Int)(a:1<=i)(b:i<=5):([([]:Bs),([80,85,66,76,73,83,72]:Bs),([82,69,81,85,69,83,84]:Bs),([82,69,80,76,89]:Bs),([67,65,78,67,69,76]:Bs),([67,79,85,78,84,69,82]:Bs)]:List Bs)[i.toNat]? = some (qu.getD (i-1).toNat []):=by
 obtain⟨k,rfl⟩:∃k:Nat,i=(k:Int)+1:=⟨(i-1).toNat,Ta⟩
 rw[show((k:Int)+1).toNat=k+1 by omega,show((k:Int)+1-1).toNat=k by omega]
 exact oD qu k [] (by show k<5;omega)
def nv{s:Bs}(h:VL s):(ew s).length<=80002:=(Kr s h).2
abbrev qs5:List Bs:=[([]:Bs),([87,65,73,84,83]:Bs),([65,67,67,69,80,84,83]:Bs),([68,69,67,76,73,78,69,83]:Bs),([77,65,89,66,69]:Bs)]
abbrev Ex:List Bs:=[([79,78,67,69]:Bs),([68,65,73,76,89]:Bs),([87,69,69,75,76,89]:Bs),([77,79,78,84,72,76,89]:Bs),([89,69,65,82,76,89]:Bs)]
def qq5(r:g9)(a:Bs)(h:a=qz r):(((((((([82,69,80,69,65,84,58]:Bs)++sj.getD r.1.toNat [])++[59])++itoa r.2.1)++[59])++itoa r.2.2.1)++[59])++a)++[59]++mw r.2.2.2.2.2.1=[82,69,80,69,65,84,58]++ta r:=by
 subst h;unfold ta;rw[Lib.join_cons];simp[Lib.joinTail]
def qtt(e:ci)(h:eR e)(d c:Bs)(g:d.length<=100000000)(f:c=qz e.2.2.2.2.2.2.2.2.2.2):kO FU d c e Ex=some (d++(ew ([82,69,80,69,65,84,58]++ta e.2.2.2.2.2.2.2.2.2.2)++(ew ([69,88,67,69,80,84,58]++mw e.2.2.2.2.2.2.2.2.2.2.2.2.2.2.2.2.1)++(ew ([65,68,68,58]++mw e.2.2.2.2.2.2.2.2.2.2.2.2.2.2.2.2.2)++ew [69,78,68,58,69,86,69,78,84])))):=by
 have m:=zU h;have a:=m.r;have b:∀s∈nf e,VL s:=fun s g=>(nX h).2 s (List.mem_append_right _ g)
 have i:=b ([82,69,80,69,65,84,58]++ta e.2.2.2.2.2.2.2.2.2.2) TE
 have j:=b ([69,88,67,69,80,84,58]++mw e.2.2.2.2.2.2.2.2.2.2.2.2.2.2.2.2.1) TE
 have k:=b ([65,68,68,58]++mw e.2.2.2.2.2.2.2.2.2.2.2.2.2.2.2.2.2) TE
 have l:=b [69,78,68,58,69,86,69,78,84] TE
 have o:=nv i;have p:=nv j;have r:=nv k;have t:=nv l;have w:=Fd _ a;have v:=Rh e.2.2.2.2.2.2.2.2.2.2.1.toNat;have x:=(lr _ a.e.1 a.e.2).2;have y:=(lr _ a.c.1 a.c.2).2;have z:=aM _ a.w;have A:=aM _ a.x;have B:=aM _ a.a;have E:=a.wl;have F:=a.xl;have G:=a.al;have C:c.length<=14:=by
  rw[f];unfold qz;split
  ·rename_i q;exact(lr _ (a.u q).1 (a.u q).2).2
  ·simp
 have u:=a.f;have n:=qq5 e.2.2.2.2.2.2.2.2.2.2 c f;unfold kO;rw[ag ⟨Ta,by show e.2.2.2.2.2.2.2.2.2.2.1.toNat<5;omega⟩,show Ex[e.2.2.2.2.2.2.2.2.2.2.1.toNat]? = some (sj.getD e.2.2.2.2.2.2.2.2.2.2.1.toNat []) from oD sj _ [] (by show e.2.2.2.2.2.2.2.2.2.2.1.toNat<5;omega),qB]
 rw[ag Tg,ag Th,iX _ a.e,qB,ag Th,ag Th,iX _ a.c,qB,ag Th,ag Th,ag Th,ag Th,Mi _ Ta a.w,qB,ag Th]
 rw[n,ob _ i,qB,ag Tl,Mi _ Ta a.x,qB,ag Tg,ob _ j,qB,ag To,Mi _ Ta a.a,qB,ag Tg,ob _ k,qB,ag To,ob _ l,qB,ag To]
 simp only[qS]
def qmb(e:ci)(h:eR e)(n:Nat):∀(j f:List TL)(d:Bs),e.2.2.2.2.2.2.1=j++f->f.length<n->d.length<=80002*(j.length+10)->tP FU n d (j.length:Int) e qs5 Ex=some (d++((f.map dB).flatMap ew++(nf e).flatMap ew)):=by
 have i:=zU h;have K:=i.gl
 induction n with
 |zero=>intro j f d _ h;omega|succ n ih=>
  intro j f d p L C;have k:=congrArg List.length p;rw[qM]at k;rw[tP,GZ]
  cases f with
  |cons g f=>
   simp only[qL]at k L;obtain⟨R,I,J⟩:=i.g g (by rw[p];simp)
   have Z:=Mw (g.2-1).toNat;have v:=(nX h).2 (dB g) (List.mem_append_left _ (List.mem_append_right _ (List.mem_map_of_mem (by rw[p];simp))))
   have Q:=nv v;rw[ag Ta,show aj e.2.2.2.2.2.2.1 (j.length:Int)=some g by rw[p];exact dp _ _ _]
   simp only[qB];rw[ag ⟨Ta,by show g.2.toNat<5;omega⟩,stX g.2 I J,qB,ag Tg,ag Th,ag Th,show((([71,85,69,83,84,58]++qw.getD (g.2-1).toNat [])++[32])++g.1)=dB g from rfl,ob _ v,qB]
   rw[ag Tl,bc _]
   have:=ih (j++[g]) f (d++ew (dB g)) (by rw[p];simp) Ta (by rw[qM,qM,wD];omega)
   rw[qM,wD]at this;refine Eq.trans this ?_;rw[List.map_cons,List.flatMap_cons,qS,qS]
  |nil=>
   have A:∀s∈nf e,VL s:=fun s C=>(nX h).2 s (List.mem_append_right _ C)
   have E:=A ([90,79,78,69,58]++e.2.2.2.2.2.2.2.1) TE
   have F:=A ([83,84,65,82,84,58]++vh e.2.2.2.2.2.2.2.2.1) TE
   have G:=A ([76,69,78,71,84,72,58]++itoa e.2.2.2.2.2.2.2.2.2.1) TE
   have N:=nv E;have O:=nv F;have P:=nv G;obtain⟨a,b,c,x,y,z⟩:=i.d;have l:∀m:Int,0<=m/\m<=1000000000000->jg m:=fun m r=>⟨Ta,Ta⟩
   have U:=kq e.2.2.2.2.2.2.2.2.1.1 4 Ta a.1 a.2
   have lb:=kq e.2.2.2.2.2.2.2.2.1.2.1 2 Ta b.1 b.2
   have V:=kq e.2.2.2.2.2.2.2.2.1.2.2.1 2 Ta c.1 c.2
   have W:=kq e.2.2.2.2.2.2.2.2.1.2.2.2.1 2 Ta x.1 x.2
   have X:=kq e.2.2.2.2.2.2.2.2.1.2.2.2.2.1 2 Ta y.1 y.2
   have Y:=kq e.2.2.2.2.2.2.2.2.1.2.2.2.2.2.1 2 Ta z.1 z.2
   have S:=i.zn;have T:=(lr _ i.le.1 i.le.2).2;have M:∀m:Int,jg m->tv FU m 4=some (iq m 4):=fun m r=>qa9 m 4 Ta r
   have q:∀m:Int,jg m->tv FU m 2=some (iq m 2):=fun m r=>qa9 m 2 Ta r
   have H:((((((([83,84,65,82,84,58]:Bs)++iq e.2.2.2.2.2.2.2.2.1.1 4)++iq e.2.2.2.2.2.2.2.2.1.2.1 2)++iq e.2.2.2.2.2.2.2.2.1.2.2.1 2)++[84])++iq e.2.2.2.2.2.2.2.2.1.2.2.2.1 2)++iq e.2.2.2.2.2.2.2.2.1.2.2.2.2.1 2)++iq e.2.2.2.2.2.2.2.2.1.2.2.2.2.2.1 2=[83,84,65,82,84,58]++vh e.2.2.2.2.2.2.2.2.1:=by unfold vh;simp
   rw[bf (by simp at k;omega),ag Tg,ob _ E,qB,ag Tl,M _ (l _ a),qB,ag Tg,q _ (l _ b),qB,ag Th,q _ (l _ c),qB,ag Th,ag Th,q _ (l _ x),qB,ag Th,q _ (l _ y),qB,ag Th,q _ (l _ z),qB,ag Th]
   rw[H,ob _ F,qB,ag To,iX _ i.le,qB,ag Tg,ob _ G,qB,ag To]
   have t:=fun o u=>qtt e h (((d++ew ([90,79,78,69,58]++e.2.2.2.2.2.2.2.1))++ew ([83,84,65,82,84,58]++vh e.2.2.2.2.2.2.2.2.1))++ew ([76,69,78,71,84,72,58]++itoa e.2.2.2.2.2.2.2.2.2.1)) o (by simp only[qM]at *;omega) u
   have B:∀o,o=qz e.2.2.2.2.2.2.2.2.2.2->kO FU (((d++ew ([90,79,78,69,58]++e.2.2.2.2.2.2.2.1))++ew ([83,84,65,82,84,58]++vh e.2.2.2.2.2.2.2.2.1))++ew ([76,69,78,71,84,72,58]++itoa e.2.2.2.2.2.2.2.2.2.1)) o e Ex=some (d++((([]:List (Bs×Int)).map dB).flatMap ew++(nf e).flatMap ew)):=fun o u=>by
    rw[t o u];simp[nf]
   cases w:e.2.2.2.2.2.2.2.2.2.2.2.2.2.2.1
   ·rw[aq rfl];exact B [] (by unfold qz;rw[qW (by rw[w];simp)])
   ·rw[ax rfl,iX _ (i.r.u w),qB];exact B _ (by unfold qz;rw[qX w])
end Go.Sym
namespace Go.Sym
def qoq:uB=some (([49]:Bs),((2:Int),((0:Int),(([97,10,98]:Bs),(([]:Bs),(([111,64,120]:Bs),(([(([103,64,120]:Bs),(1:Int))]:List TL),(([117]:Bs),(uD,((30:Int),uR)))))))))):=rfl
def qsv:ld [0,86400]=[0,86400]:=by
 unfold ld;exact List.mergeSort_of_pairwise Td
def qpe:C8 FU (([49]:Bs),((2:Int),((0:Int),(([97,10,98]:Bs),(([]:Bs),(([111,64,120]:Bs),(([(([103,64,120]:Bs),(1:Int))]:List TL),(([117]:Bs),(uD,((30:Int),uR)))))))))) uZ 0 100000=some ((0,0),[0,86400]):=by
 have d:zi [0,86400]=some [0,86400]:=by
  have:zi [0,86400]=some (ld [0,86400]):=rfl;rw[this,qsv]
 have e:Ir FU uD uR uZ uR []=some (uD,(uR,(uZ,(uR,[0,86400,172800])))):=Tc
 have b:Iz FU [0,86400,172800] 0 100000=some (0,(100000,[0,86400])):=Tc
 have c:vZ FU uZ uD uR 0 100000 (0,0)=some ((0,0),[0,86400]):=by
  unfold vZ;rw[show Iq uZ uD uR=some (uD,(uR,uZ)) from rfl,qB]
  dsimp only;rw[e,qB];dsimp only;rw[show([0,86400,172800]++uR.2.2.2.2.2.2.2:List Int)=[0,86400,172800] from rfl,b,ag Tf,qB,d]
  rfl
 have a:Ik FU uZ uD uR 0 100000=vZ FU uZ uD uR 0 100000 (0,0):=Tc
 unfold C8;rw[show bX FU (([49]:Bs),((2:Int),((0:Int),(([97,10,98]:Bs),(([]:Bs),(([111,64,120]:Bs),(([(([103,64,120]:Bs),(1:Int))]:List (Bs×Int)),(([117]:Bs),(uD,((30:Int),uR))))))))))=some (0,0) by kernel_rfl]
 rw[qB,n6,qB,aq,aq]
 dsimp only;rw[a,c];rfl
def QQ:uA FU=some true:=by
 unfold uA;rw[qoq];simp only[qB];rw[show(([117]:List UInt8),((0:Int),((0:Int),(((0:Int),((0:Int),((0:Int),(0:Int)))),((0:Int),((0:Int),((0:Int),(0:Int))))))))=uZ from rfl,qpe]
 simp only[qB]
 kernel_rfl
def xf:Ty := .prod .str (.prod (.int .i64) (.prod (.int .i64) (.prod .str (.prod .str (.prod .str (.prod (.list (.prod .str (.int .i64))) (.prod .str (.prod (.prod (.int .i64) (.prod (.int .i64) (.prod (.int .i64) (.prod (.int .i64) (.prod (.int .i64) (.prod (.int .i64) (.int .i64))))))) (.prod (.int .i64) (.prod (.int .i64) (.prod (.int .i64) (.prod (.int .i64) (.prod (.int .i64) (.prod .bool (.prod (.list (.int .i64)) (.prod (.list (.int .i64)) (.list (.int .i64))))))))))))))))))
def SG:∀l:List (Ty.den (.int .i64)),(l.map (Ty.bk (.int .i64))).sum=l.length
 |[]=>rfl|x::l=>by
  have:=SG l;rw[List.map_cons,List.sum_cons,this,qL];show 1+_=_;omega
def ql9(e:ci)(h:xf.bk e<=1048576:=by omega):lj e:=by
 obtain⟨u,m,s,k,j,i,g,b,d,l,n,o,p,q,r,a,f,c⟩:=e;have h:((u.length+1)+(1+(1+((k.length+1)+((j.length+1)+((i.length+1)+((Ty.list (.prod .str (.int .i64))).bk g+((b.length+1)+((Ty.prod (.int .i64) (.prod (.int .i64) (.prod (.int .i64) (.prod (.int .i64) (.prod (.int .i64) (.prod (.int .i64) (.int .i64))))))).bk d+(1+(1+(1+(1+(1+(1+((((a:List (Ty.den (.int .i64))).map (Ty.bk (.int .i64))).sum+1)+((Ty.list (.int .i64)).bk f+(Ty.list (.int .i64)).bk c)))))))))))))))))<=1048576:=h;rw[SG a]at h;refine⟨?_,?_,?_⟩
 ·show u.length<=2000000;omega
 ·show b.length<=2000000;omega
 ·show List.length (α:=Ty.den (.int .i64)) a<=2000000;omega
def QP:∀(l:List ci),((l:List xf.den).map xf.bk).sum<=1048576->∀e∈l,lj e
 |[],_,e,he=>by cases he
 |x::l,h,e,he=>by
  have h:xf.bk x+((l:List xf.den).map xf.bk).sum<=1048576:=h;rcases List.mem_cons.1 he with rfl|he
  ·exact ql9 _
  ·exact QP l Ta e he
open Go.Lib (validD)
inductive IW:Bs->Prop
 |nil:IW []
 |cons (p s:Bs):10∉p->p.length<=75->validD p=true->IW s->IW (p++(13::10::s))
def qjg(x:List ci×Unit)(h:gX [.list xf] x<=1048576):∀e∈x.1,lj e:=by
 obtain⟨l,_⟩:=x;have h:(((l:List xf.den).map xf.bk).sum+1)+0<=1048576:=h;exact QP l Ta
end Go.Sym
namespace Go.Sym
open Go.Lib (decDigits itoa)
def qtx(e:ci)(h:eR e):BU FU e=some (vl e):=by
 have a:=zU h;have c:=a.me;have b:∀s∈ph e,VL s:=fun s n=>(nX h).2 s (List.mem_append_left _ (List.mem_append_left _ n))
 have d:=b [66,69,71,73,78,58,69,86,69,78,84] TD
 have f:=b ([77,69,84,72,79,68,58]++qu.getD (e.2.1-1).toNat []) TD
 have g:=b ([85,73,68,58]++e.1) TD
 have i:=b ([83,69,81,85,69,78,67,69,58]++itoa e.2.2.1) TD
 have j:=b ([83,85,77,77,65,82,89,58]++gu e.2.2.2.1) TD
 have k:=b ([80,76,65,67,69,58]++gu e.2.2.2.2.1) TD
 have l:=b ([79,82,71,65,78,73,90,69,82,58]++e.2.2.2.2.2.1) TD
 have q:=nv d;have r:=nv f;have t:=nv g;have u:=nv i;have v:=nv j;have w:=nv k;have x:=nv l;have y:=Lo (e.2.1-1).toNat;have z:=a.ul;have A:=(lr _ a.sq.1 a.sq.2).2;have B:=zS e.2.2.2.1;have C:=zS e.2.2.2.2.1;have o:=a.su;have p:=a.pl;have E:=a.og;have m:=qmb e h FU [] e.2.2.2.2.2.2.1 (((((((ew [66,69,71,73,78,58,69,86,69,78,84]++ew ([77,69,84,72,79,68,58]++qu.getD (e.2.1-1).toNat []))++ew ([85,73,68,58]++e.1))++ew ([83,69,81,85,69,78,67,69,58]++itoa e.2.2.1))++ew ([83,85,77,77,65,82,89,58]++gu e.2.2.2.1))++ew ([80,76,65,67,69,58]++gu e.2.2.2.2.1))++ew ([79,82,71,65,78,73,90,69,82,58]++e.2.2.2.2.2.1))) rfl (Nat.lt_of_le_of_lt a.gl Tf) (by simp only[qM,qZ];omega)
 unfold BU;rw[ob _ d,qB,ag ⟨Ta,by show e.2.1.toNat<6;omega⟩,meX e.2.1 c.1 c.2,qB,ag Tg,ob _ f,qB,ag Tl,ag Tg,ob _ g,qB,ag To,iX _ a.sq,qB,ag Tg,ob _ i,qB,ag To,qay _ o,qB,ag Tg,ob _ j,qB,ag To,qay _ p,qB,ag Tg,ob _ k,qB,ag To,ag Tg,ob _ l,qB,ag To]
 refine Eq.trans m ?_;unfold vl sr;rw[List.flatMap_append,List.flatMap_append];simp[ph]
def Re(a:Int×Int):((a.1==a.1)&&((a.2==a.2)&&true))=true:=Td
def SM(w:Bs)(f:Int×Int)(h:f.1≠0):kV FU [] w f f=some true:=by
 unfold kV;rw[fh,qX h,Re];rfl
def qpl(a:bA)(l:List ci)(w:Bs)(i:Int)(f:Int×Int)(h:f.1≠0):fK FU a l [] w i false f f=some true:=by
 unfold fK;rw[aq rfl,aq (by simp[h])]
 unfold tY;rw[aq rfl];exact SM w f h
def qdj(n:Nat)(l:List ci)(w:Bs)(i:Int)(f:Int×Int)(h:f.1≠0):bI FU (n+1) l [] w i f f=some true:=by
 rw[bI,Cb,show(f.1==0)=false by simp[h]]
 cases decide (i<(List.length l:Int))<;>exact qpl (bI FU n) l w i f h
def quu(l:List ci)(y:l.length<=20)(s:∀e∈l,lj e)(t:Bs)(g:Int×Int)(o:(t,g)=tf l)(n:Nat):∀(b f:List ci)(w:Bs),l=b++f->f.length+1<n->w=b.flatMap vl->w.length<=3520088*b.length->(∀i,aB i l=aB (i+b.length) f) ->
  bI FU n l t w (b.length:Int) g (0,0)=some true:=by
 induction n with
 |zero=>intro b f w _ h;omega|succ n ih=>
  intro b f w e u q x k;have j:=congrArg List.length e;rw[qM]at j;rw[bI,Cb];have a:=k 0;rw[wO]at a
  cases f with
  |nil=>
   rw[List.append_nil]at e;rw[bf (by simp at j;omega)]
   unfold fK;rw[aq rfl,ax]
   have d:tf l=pO (l.flatMap vl):=by unfold tf;rw[qW Ta,a];rfl
   rw[← o,e,← q]at d;unfold pO at d;unfold tY;by_cases c:12000<w.length
   ·rw[qX c]at d;injection d with h1 h2
    subst h1 h2;rw[ag Ta,show ce 1 (-2)=some (1,-2) from rfl,qB]
    exact SM w (1,-2) Tf
   ·rw[qW c]at d;injection d with h1 h2
    subst h1 h2;rw[bf]
    unfold kV;rw[aq,ax];simp
  |cons v f=>
   simp only[qL]at j u;have p:=s v (by rw[e];simp)
   rw[ag Ta]
   unfold fK;rw[ax]
   unfold Hn;rw[show aj l (b.length:Int)=some v by rw[e];exact dp _ _ _]
   simp only[qB];rw[qrb v p,qB,K3 v p,qB,Re,aq,fh]
   rw[aB]at a;by_cases c:(gg v).1≠0
   ·rw[qX c]at a ⊢;have d:tf l=([],((gg v).1,(b.length:Int))):=by unfold tf;rw[qW Ta,a]
    rw[← o]at d;injection d with h1 h2
    subst h1 h2;rw[show ce (gg v).1 (b.length:Int)=some ((gg v).1,(b.length:Int)) from rfl,qB]
    unfold tZ;obtain⟨m,rfl⟩:∃m,n=m+1:=⟨n-1,Ta⟩
    exact qdj m l w _ _ c
   ·rw[qW c]at a ⊢;have r:=K4 (Classical.not_not.1 c);have z:=qcw v (nX r);rw[qtx v r,qB,ag Tl]
    unfold tZ;rw[bc _]
    have:=ih (b++[v]) f (w++vl v) (by rw[e];simp) Ta (by rw[q];simp) Tm (fun i=>by
     have:=k i;rw[aB,qW c]at this;rw[this,qM,wD];rfl)
    rw[qM,wD]at this;exact this
def qn3(l:List ci)(a:∀e∈l,lj e):kU FU l=some true:=by
 unfold kU;rw[QQ,qB,aq,qvh l a,qB]
 by_cases c:20<l.length
 ·rw[ag Ta,show ce 2 (-1)=some (2,-1) from rfl,qB]
  have b:tf l=([],(2,-1)):=by unfold tf;rw[qX c]
  rw[b];unfold tX;exact qdj 99999999 l [] 0 (2,-1) Tf
 ·rw[bf]
  unfold tX;exact quu l Ta a (tf l).1 (tf l).2 rfl FU [] l [] rfl (Nat.lt_of_le_of_lt (show l.length+1<=21 by omega) Tf) rfl Td (fun i=>rfl)
def qn4(x:List ci×Unit)(h:gX [.list xf] x<=1048576):kU 100000000 x.1=some true:=
 qn3 x.1 (qjg x h)
end Go.Sym
namespace Go.Sym
open Go.Lib (decDigits itoa atoiAll)
def qkr(c:UInt8)(w:Bs)(h:w.length<=1000000:=by omega):gG (c::w) [c]=some (w,true):=by
 unfold gG C7 lO;rw[ag Tj,ag ⟨Td,Tj⟩]
 simp only[qL,qZ];rw[show List.take ((0+1:Nat):Int).toNat (c::w)=[c] from rfl]
 simp;exact ag Ta
def qkt(c d:UInt8)(w:Bs)(h:w.length<=1000000)(a:d≠c):gG (d::w) [c]=some (d::w,false):=by
 unfold gG C7 lO;rw[ag Tj,ag ⟨Td,Tj⟩]
 simp only[qL,qZ];rw[show List.take ((0+1:Nat):Int).toNat (d::w)=[d] from rfl,show([d]==[c])=false by simp[a]]
 rfl
end Go.Sym
namespace Go.Sym
open Go.Lib (decDigits itoa atoiAll parseUint10 parseMag)
def qkq(c:UInt8)(w r:Bs)(h:∀x∈w,x≠c)(d:(w++c::r).length<=1000000:=by omega):gF (w++c::r) [c]=some (w,r,true):=by
 have b:(w++c::r).length=w.length+(r.length+1):=Td
 have a:qf (w++c::r) [c]=some (w.length:Int):=by
  unfold qf;rw[ag Ta,Ap c w r h]
 unfold gF C6;rw[a];simp only[qB];rw[ag Ta,ag ⟨Ta,Ta⟩,show((([c]:Bs).length:Nat):Int)=1 from rfl,bc _,ag ⟨Ta,Ta⟩,show((w.length:Nat):Int).toNat=w.length by omega,show((w.length+1:Nat):Int).toNat=w.length+1 by omega,List.take_left,← List.drop_drop,List.drop_left]
 rfl
end Go.Sym
namespace Go.Sym
open Go.Lib (decDigits itoa)
end Go.Sym
namespace Go.Sym
def AP(a new s:Bs):Bs:=Lib.replaceK a new (Lib.count s a) s
def Fo(a new:Bs)(h:new.length<=a.length):∀(k:Nat)(s:Bs),(Lib.replaceK a new k s).length<=s.length
 |0,s=>wF _|k+1,s=>by
  rw[Lib.replaceK];split
  ·exact wF _
  ·rename_i q;have b:=Lib.index_ge s a;have c:Lib.index s a ≠ -1:=by simpa using q
   have d:=Lib.index_room s a Ta
   have:=Fo a new h k (s.drop ((Lib.index s a).toNat+a.length));rw[List.length_drop]at this;simp only[qM,List.length_take];omega
def pH(t:Bs):Bs:=AP [10,32] [] (AP [13,10] [10] t)
def qug(t:Bs)(h:t.length<=20000:=by omega):CL t=some ([10],pH t,0):=by
 have a:qg t [13,10] [10]=some (AP [13,10] [10] t):=by
  unfold qg;rw[ag Tj]
  unfold Lib.replaceAll Lib.replace Lib.replaceNum;rw[qW Tf,qX (.inl Tf)];rfl
 have c:(AP [13,10] [10] t).length<=t.length:=Fo [13,10] [10] Tf _ t
 have b:qg (AP [13,10] [10] t) [10,32] []=some (pH t):=by
  unfold qg;rw[ag Tj]
  unfold Lib.replaceAll Lib.replace Lib.replaceNum;rw[qW Tf,qX (.inl Tf)];rfl
 unfold CL;rw[a,qB,b];rfl
def quf(t:Bs):(pH t).length<=t.length:=
 Nat.le_trans (Fo [10,32] [] Tf _ _) (Fo [13,10] [10] Tf _ t)
open Go.Lib (decDigits itoa)
abbrev P1:=mE FU
abbrev P3:=xL FU
end Go.Sym
namespace Go.Sym
def oO(p:Bool)(u:Bs)(k q:Int)(s o n x:Bs)(y m b h l r t j fr c a v:Int)(i e:Bool)(f:List TL)(w d ad:List Int):∃g,zf p u k q s o n x y m b h l r t j fr c a v i e f w d ad=some (u,k,q,s,o,n,x,y,m,b,h,l,r,t,j,fr,c,a,v,i,g,f,w,d,ad):=by cases e<;>exact⟨_,rfl⟩
def Kp(s:Bs)(i:s.length<=1000000)(n:Nat):∀(d a:Bs),s=d++a->a.length<n->∃b,uW FU n s (s.length:Int) (d.length:Int)=some b/\(b=true->s≠[]):=by
 induction n with
 |zero=>intro d a _ h;omega|succ n ih=>
  intro d a e g;have f:=congrArg List.length e;rw[qM]at f;rw[uW,H4]
  cases a with
  |nil=>rw[bf (by simp at f;omega)];exact⟨_,rfl,fun q=>by simpa using q⟩
  |cons c a=>
   simp only[qL]at f g;rw[ag Ta,show aj s (d.length:Int)=some c by rw[e];exact dp _ _ _]
   simp only[qB];cases decide (c<48)
   ·cases decide (57<c)
    ·have:=ih (d++[c]) a (by rw[e];simp) Ta
     rw[qM,wD,← bc _]at this
     exact this
    ·exact⟨false,rfl,fun q=>by cases q⟩
   ·exact⟨false,rfl,fun q=>by cases q⟩
def cO(s:Bs)(I:s.length<=1000000)(u:Bs)(l r:Int)(w p o C:Bs)(y n d i m t z k fr e a A:Int)(j E:Bool)(h:List TL)(B f ad:List Int):∃x g,uc FU s u l r w p o C y n d i m t z k fr e a A j E h B f ad=some (x,(u,l,r,w,p,o,C,y,n,d,i,m,t,z,k,fr,e,a,A,j,g,h,B,f,ad)):=by
 unfold uc y8;rw[ag Ta,qB]
 unfold zz;have P:∀v:Int,-9223372036854775808<=v->v<=9223372036854775807->∃x g,vO FU s v u l r w p o C y n d i m t z k fr e a A j E h B f ad=some (x,(u,l,r,w,p,o,C,y,n,d,i,m,t,z,k,fr,e,a,A,j,g,h,B,f,ad)):=fun v M N=>by
  unfold vO;by_cases q:0<=v
  ·rw[ag q,show je v=some (Lib.itoa v) by unfold je;rw[ag ⟨M,N⟩],qB]
   obtain⟨g,F⟩:=oO (Lib.itoa v==s) u l r w p o C y n d i m t z k fr e a A j E h B f ad;exact⟨v,g,by rw[F];rfl⟩
  ·obtain⟨g,F⟩:=oO false u l r w p o C y n d i m t z k fr e a A j E h B f ad;exact⟨v,g,by rw[bf q,F];rfl⟩
 have J:∀(v:Int)(b:Bool),∃x g,bY FU s v b u l r w p o C y n d i m t z k fr e a A j E h B f ad=some (x,(u,l,r,w,p,o,C,y,n,d,i,m,t,z,k,fr,e,a,A,j,g,h,B,f,ad)):=fun v b=>by
  unfold bY;cases b
  ·unfold CC;obtain⟨g,F⟩:=oO false u l r w p o C y n d i m t z k fr e a A j E h B f ad;exact⟨v,g,by rw[qF,F];rfl⟩
  ·exact⟨_,E,rfl⟩
 have G:∀v:Int,∃x g,((bT FU s).bind fun x4=>bif x4 then(aj s (0:Int)).bind fun K=>bY FU s v (K != (48:UInt8)) u l r w p o C y n d i m t z k fr e a A j E h B f ad else bY FU s v false u l r w p o C y n d i m t z k fr e a A j E h B f ad)=some (x,(u,l,r,w,p,o,C,y,n,d,i,m,t,z,k,fr,e,a,A,j,g,h,B,f,ad)):=fun v=>by
  obtain⟨b,O,L⟩:=Kp s I FU [] s rfl (Nat.lt_of_le_of_lt I Tf)
  rw[show bT FU s=some b from O,qB]
  cases b
  ·exact J v false
  ·cases s with|nil=>exact absurd rfl (L rfl)|cons c s=>exact J v _
 cases H:Lib.atoiAll s with|ok v=>exact P v (Lib.atoiAll_bounds H).1 (Lib.atoiAll_bounds H).2|range=>exact G _|_=>exact G _
def qks(c:UInt8)(s:Bs)(h:s.length<=1000000):∃r b,gG s [c]=some (r,b)/\r.length<=s.length:=by
 cases s with
 |nil=>exact⟨[],false,rfl,Td⟩|cons d s=>
  simp only[qL]at h;by_cases q:d=c
  ·subst q;exact⟨s,true,qkr d s,Td⟩
  ·exact⟨d::s,false,qkt c d s Ta q,Td⟩
def M8(s:Bs)(E:s.length<=1000000)(u:Bs)(l q:Int)(v p o B:Bs)(y n c i m t w k fr d a z:Int)(j C:Bool)(f:List TL)(A e ad:List Int):∃x g,lX FU s u l q v p o B y n c i m t w k fr d a z j C f A e ad=some (x,(u,l,q,v,p,o,B,y,n,c,i,m,t,w,k,fr,d,a,z,j,g,f,A,e,ad)):=by
 unfold lX;obtain⟨r,b,H,I⟩:=qks 45 s E;rw[H,qB];cases b
 ·obtain⟨x,g,h⟩:=cO s E u l q v p o B y n c i m t w k fr d a z j C f A e ad;exact⟨x,g,by rw[qF,h];rfl⟩
 ·obtain⟨x,g,h⟩:=cO r Ta u l q v p o B y n c i m t w k fr d a z j C f A e ad
  obtain⟨F,G⟩:=oO (x != 0) u l q v p o B y n c i m t w k fr d a z j g f A e ad;exact⟨_,F,by rw[qT,h,qB];dsimp only;rw[G];rfl⟩
def qn9(n:Nat):∀(s:Bs)(a:List Int)(u:Bs)(m z:Int)(B v q G:Bs)(y p c i o A C k fr d b E:Int)(j H:Bool)(f:List TL)(F e ad:List Int),s.length<n->a.length+s.length<=100000 ->
  ∃t l g,xM FU n [44] s 0 u m z B v q G y p c i o A C k fr d b E j H a f F e ad=some ([44],t,0,(u,m,z,B,v,q,G,y,p,c,i,o,A,C,k,fr,d,b,E,j,g,l,f,F,e,ad))/\l.length<=a.length+s.length+1:=by
 induction n with
 |zero=>intro s a u m z B v q G y p c i o A C k fr d b E j H f F e ad h;omega|succ n ih=>
  intro s a u m z B v q G y p c i o A C k fr d b E j H f F e ad P N;rw[xM,Dd];rcases iE 44 s with I|⟨w,r,rfl,I⟩
  ·obtain⟨x,g,J⟩:=cO s Ta u m z B v q G y p c i o A C k fr d b E j H f F e ad
   rw[I,qB,ag Ta]
   unfold fZ;rw[J,qB,ag Tn,qB]
   exact⟨s,a++[x],g,rfl,Tm⟩
  ·have O:(w++44::r).length=w.length+(r.length+1):=Td
   obtain⟨x,g,J⟩:=cO w Ta u m z B v q G y p c i o A C k fr d b E j H f F e ad
   rw[I,qB,bf,Int.add_zero,bq (x:=(w.length:Int)) Ta Ta,ag ⟨Ta,Ta⟩,show((w.length:Nat):Int).toNat=w.length by omega,List.take_left]
   unfold fZ;rw[J,qB,ag Tn,qB,show((([44]:Bs).length:Nat):Int)=1 from rfl,bc _,ag ⟨Ta,Ta⟩,show((w.length+1:Nat):Int).toNat=w.length+1 by omega,← List.drop_drop,List.drop_left]
   obtain⟨t,l,K,L,M⟩:=ih r (a++[x]) u m z B v q G y p c i o A C k fr d b E j g f F e ad Ta Te
   exact⟨t,l,K,L,by simp at M ⊢;omega⟩
def RR(s:Bs)(E:s.length<=90000)(u:Bs)(k q:Int)(v p o A:Bs)(y n b h m r w j fr c a x:Int)(i e:Bool)(f:List TL)(z d ad:List Int):∃l g,lV FU s u k q v p o A y n b h m r w j fr c a x i e f z d ad=some (u,k,q,v,p,o,A,y,n,b,h,m,r,w,j,fr,c,a,x,i,g,l,f,z,d,ad)/\l.length<=s.length+1:=by
 unfold lV;cases F:(s==([]:Bs))
 ·obtain⟨t,l,g,B,C⟩:=qn9 FU s [] u k q v p o A y n b h m r w j fr c a x i e f z d ad (Nat.lt_of_le_of_lt E Tf) Te
  refine⟨l,g,?_,by simpa using C⟩
  rw[qF,show ow s [44]=some ([44],s,0) from rfl,qB]
  unfold Dc;rw[aq]
  dsimp only;rw[B];rfl
 ·exact⟨[],e,rfl,Td⟩
def qoa(n:Nat):∀(s:Bs)(a:List Int)(u:Bs)(m z:Int)(B v q G:Bs)(y p c i o A C k fr d b E:Int)(j H:Bool)(f:List TL)(F e ad:List Int),s.length<n->a.length+s.length<=100000 ->
  ∃t l g,xN FU n [44] s 0 u m z B v q G y p c i o A C k fr d b E j H a f F e ad=some ([44],t,0,(u,m,z,B,v,q,G,y,p,c,i,o,A,C,k,fr,d,b,E,j,g,l,f,F,e,ad))/\l.length<=a.length+s.length+1:=by
 induction n with
 |zero=>intro s a u m z B v q G y p c i o A C k fr d b E j H f F e ad h;omega|succ n ih=>
  intro s a u m z B v q G y p c i o A C k fr d b E j H f F e ad P N;rw[xN,Df];rcases iE 44 s with I|⟨w,r,rfl,I⟩
  ·obtain⟨x,g,J⟩:=M8 s Ta u m z B v q G y p c i o A C k fr d b E j H f F e ad
   rw[I,qB,ag Ta]
   unfold gA;rw[J,qB,ag Tn,qB]
   exact⟨s,a++[x],g,rfl,Tm⟩
  ·have O:(w++44::r).length=w.length+(r.length+1):=Td
   obtain⟨x,g,J⟩:=M8 w Ta u m z B v q G y p c i o A C k fr d b E j H f F e ad
   rw[I,qB,bf,Int.add_zero,bq (x:=(w.length:Int)) Ta Ta,ag ⟨Ta,Ta⟩,show((w.length:Nat):Int).toNat=w.length by omega,List.take_left]
   unfold gA;rw[J,qB,ag Tn,qB,show((([44]:Bs).length:Nat):Int)=1 from rfl,bc _,ag ⟨Ta,Ta⟩,show((w.length+1:Nat):Int).toNat=w.length+1 by omega,← List.drop_drop,List.drop_left]
   obtain⟨t,l,K,L,M⟩:=ih r (a++[x]) u m z B v q G y p c i o A C k fr d b E j g f F e ad Ta Te
   exact⟨t,l,K,L,by simp at M ⊢;omega⟩
def RT(s:Bs)(E:s.length<=90000)(u:Bs)(k q:Int)(v p o A:Bs)(y n b h m r w j fr c a x:Int)(i e:Bool)(f:List TL)(z d ad:List Int):∃l g,lW FU s u k q v p o A y n b h m r w j fr c a x i e f z d ad=some (u,k,q,v,p,o,A,y,n,b,h,m,r,w,j,fr,c,a,x,i,g,l,f,z,d,ad)/\l.length<=s.length+1:=by
 unfold lW;cases F:(s==([]:Bs))
 ·obtain⟨t,l,g,B,C⟩:=qoa FU s [] u k q v p o A y n b h m r w j fr c a x i e f z d ad (Nat.lt_of_le_of_lt E Tf) Te
  refine⟨l,g,?_,by simpa using C⟩
  rw[qF,show ow s [44]=some ([44],s,0) from rfl,qB]
  unfold De;rw[aq]
  dsimp only;rw[B];rfl
 ·exact⟨[],e,rfl,Td⟩
def qnw(l:List Bs)(f:l.length<=1000)(w:Bs)(n:Nat):∀(c a:List Bs),l=c++a->a.length<n->∃i,xA FU n l w (l.length:Int) (c.length:Int)=some i:=by
 induction n with
 |zero=>intro c a _ h;omega|succ n ih=>
  intro c a e d;have b:=congrArg List.length e;rw[qM]at b;rw[xA,I6]
  cases a with
  |nil=>rw[bf (by simp at b;omega)];exact⟨_,rfl⟩|cons x a=>
   simp only[qL]at b d;rw[ag Ta,show aj l (c.length:Int)=some x by rw[e];exact dp _ _ _,qB]
   cases w==x
   ·have:=ih (c++[x]) a (by rw[e];simp) Ta
    rw[qM,wD,← bc _]at this
    exact this
   ·exact⟨_,rfl⟩
def LG(l:List Bs)(B:l.length<=1000)(w:Bs)(u:Bs)(k q:Int)(s p o z:Bs)(y n b f m r t j fr c a v:Int)(h A:Bool)(e:List TL)(x d ad:List Int):∃i g,gB FU w u k q s p o z y n b f m r t j fr c a v h A l e x d ad=some (i,(u,k,q,s,p,o,z,y,n,b,f,m,r,t,j,fr,c,a,v,h,g,e,x,d,ad)):=by
 obtain⟨i,E⟩:=qnw l B w FU [] l rfl (Nat.lt_of_le_of_lt B Tf)
 obtain⟨g,C⟩:=oO (decide (0<=i)) u k q s p o z y n b f m r t j fr c a v h A e x d ad;unfold gB;rw[show I5 FU l w=some i from E,qB,C]
 exact⟨i,g,rfl⟩
def Qw(c:UInt8)(s:Bs)(d:s.length<=900000:=by omega):∃a r b,gF s [c]=some (a,r,b)/\a.length<=s.length/\r.length<=s.length:=by
 rcases AU c s with⟨w,r,rfl,h⟩|h
 ·exact⟨w,r,true,qkq c w r h,Td,Te⟩
 ·refine⟨s,[],false,?_,wF _,Td⟩
  unfold gF C6 qf;rw[ag Ta,Aq c s h];rfl
def qmt(s:Bs)(I:s.length<=900000)(u:Bs)(m t:Int)(w q p B:Bs)(y o e j n v x l fr f d z:Int)(k C:Bool)(c:List TL)(A h ad:List Int)(J:c.length<=100000:=by omega):∃a i g,vP FU s u m t w q p B y o e j n v x l fr f d z k C c A h ad=some (u,m,t,w,q,p,B,y,o,e,j,n,v,x,l,fr,f,d,z,k,g,c++[(a,i)],A,h,ad):=by
 unfold vP;obtain⟨a,r,b,F,_,_⟩:=Qw 32 s I;obtain⟨g,G⟩:=oO b u m t w q p B y o e j n v x l fr f d z k C c A h ad;obtain⟨i,E,H⟩:=LG qw Tf a u m t w q p B y o e j n v x l fr f d z k g c A h ad
 rw[F,qB];dsimp only;rw[G,qB,qb0,qB];dsimp only;rw[H,qB];dsimp only;rw[ag Tn]
 exact⟨_,_,E,rfl⟩
def oT(a b:Nat)(s:Bs)(h:a<=b:=by omega)(c:b<=s.length:=by omega)(d:s.length<=1000:=by omega):∃x,nq (a:Int) (b:Int) s=some (x,s):=by
 unfold nq y8;rw[ag ⟨Ta,Ta,Ta⟩,ag (by rw[List.length_take];omega),qB]
 cases zz (List.take ((b:Int).toNat-(a:Int).toNat) (List.drop (a:Int).toNat s))<;>exact⟨_,rfl⟩
def qs8(s:Bs)(W:s.length<=1000000)(u:Bs)(t B:Int)(E A x I:Bs)(y w k o v C F r fr l j G:Int)(p P:Bool)(n:List TL)(H m ad:List Int):∃a b c d e f z g,vS FU s u t B E A x I y w k o v C F r fr l j G p P n H m ad=some (u,t,B,E,A,x,I,a,b,c,d,e,f,z,r,fr,l,j,G,p,g,n,H,m,ad):=by
 have R:∀b:Bool,s.length=15->∃a c d e f i z g,bZ FU b u t B E A x I y w k o v C F r fr l j G p P s n H m ad=some (u,t,B,E,A,x,I,a,c,d,e,f,i,z,r,fr,l,j,G,p,g,n,H,m,ad):=fun b h=>by
  unfold bZ;cases b
  ·unfold CD;obtain⟨x1,J⟩:=oT 0 4 s
   obtain⟨x2,K⟩:=oT 4 6 s
   obtain⟨x3,L⟩:=oT 6 8 s
   obtain⟨x4,M⟩:=oT 9 11 s
   obtain⟨U,N⟩:=oT 11 13 s
   obtain⟨V,O⟩:=oT 13 15 s
   have J:nq 0 4 s=some (x1,s):=J;have K:nq 4 6 s=some (x2,s):=K;have L:nq 6 8 s=some (x3,s):=L;have M:nq 9 11 s=some (x4,s):=M;have N:nq 11 13 s=some (U,s):=N;have O:nq 13 15 s=some (V,s):=O;simp only[qF,J,K,L,M,N,O,qB];exact⟨_,_,_,_,_,_,_,P,rfl⟩
  ·exact⟨y,w,k,o,v,C,F,false,rfl⟩
 unfold vS;by_cases q:(s.length:Int)=15
 ·rw[fh,qW Ta,show aj s (8:Int)=some (s[8]' Ta) from fv s 8,qB]
  cases (s[8]' Ta) != (84:UInt8)
  case true=>exact R true Ta
  rw[qF,ag ⟨Ta,Ta⟩]
  obtain⟨b,T,_⟩:=Kp (List.take (8:Int).toNat s) (by rw[List.length_take];omega) FU [] _ rfl (Nat.lt_of_le_of_lt (show(List.take (8:Int).toNat s).length<=15 by rw[List.length_take];omega) Tf)
  obtain⟨S,Q,_⟩:=Kp (List.drop (9:Int).toNat s) (by rw[List.length_drop];omega) FU [] _ rfl (Nat.lt_of_le_of_lt (show(List.drop (9:Int).toNat s).length<=15 by rw[List.length_drop];omega) Tf)
  rw[show bT FU (List.take (8:Int).toNat s)=some b from T,qB]
  cases b
  case false=>exact R true Ta
  rw[aq,ag ⟨Ta,Ta⟩,show bT FU (List.drop (9:Int).toNat s)=some S from Q,qB]
  exact R _ Ta
 ·rw[fh,qX q];exact⟨y,w,k,o,v,C,F,false,rfl⟩
def qs1(s:Bs)(f:s.length<=90000:=by omega):∃L,CZ FU s [59]=some L/\tot L+L.length=s.length+1:=by
 have d:Lib.countByte s 59<=s.length:=List.count_le_length;have a:CY FU s [59]=some ((Lib.countByte s 59:Nat):Int):=by
  unfold CY;rw[aq,ax];rfl
 generalize Lib.countByte s 59=m at d a;obtain⟨L,b,_,c⟩:=Rl FU FU 59 m Ta s [] (List.replicate (m+1) []) Ta Td Td (Nat.lt_of_le_of_lt (show m-0<=90000 by omega) Tf)
 rw[List.nil_append,pE]at *;refine⟨L,?_,by simpa using c⟩
 unfold CZ xH;rw[aq,aq,ax,a,qB]
 unfold xI;rw[bc m,bc s.length]
 have e:(if((s.length+1:Nat):Int)<((m+1:Nat):Int) then((s.length+1:Nat):Int) else((m+1:Nat):Int))=((m+1:Nat):Int):=by rw[qW Ta]
 rw[e,ag ⟨Ta,rfl,Ta⟩,bq (x:=((m+1:Nat):Int)-1) Ta Ta,show((m+1:Nat):Int)-1=(m:Int) by omega,show((m+1:Nat):Int).toNat=m+1 by omega]
 rw[show mB FU FU s [59] 0 (m:Int) 0 (List.replicate (m+1) [])=some L from b];rfl
def qq1(s:Bs)(hs:s.length<=20000)(u:Bs)(p x:Int)(A w v C:Bs)(y t i m r z B o fr F E I:Int)(H P:Bool)(k:List TL)(h j ad:List Int)(hw:h.length<=20001):∃f e c n b g l,vR FU s u p x A w v C y t i m r z B o fr F E I H P k h j ad=some (u,p,x,A,w,v,C,y,t,i,m,r,z,B,o,f,e,c,n,b,g,k,l,j,ad)/\l.length<=20001:=by
 obtain⟨L,Y,Z⟩:=qs1 s
 unfold vR;rw[Y,qB,fh];by_cases q:(L.length:Int)≠5
 ·rw[qX q];exact⟨fr,F,E,I,H,false,h,rfl,hw⟩
 rw[qW q];have G:L.length=5:=Ta
 obtain⟨a,b,c,d,e,rfl⟩:∃a b c d e,L=[a,b,c,d,e]:=by
  match L,G with|[a,b,c,d,e],_=>exact⟨a,b,c,d,e,rfl⟩
 simp only[F3,pE,qL,qZ]at Z;obtain⟨K,Q,T⟩:=LG sj Tf a u p x A w v C y t i m r z B o fr F E I H P k h j ad
 obtain⟨M,R,U⟩:=cO b Ta u p x A w v C y t i m r z B o fr F E I H Q k h j ad
 obtain⟨N,O,V⟩:=cO c Ta u p x A w v C y t i m r z B o fr F E I H R k h j ad
 rw[Ri];simp only[qB,show aj [a,b,c,d,e] 0=some a from rfl,show aj [a,b,c,d,e] 1=some b from rfl,show aj [a,b,c,d,e] 2=some c from rfl,show aj [a,b,c,d,e] 3=some d from rfl,show aj [a,b,c,d,e] 4=some e from rfl]
 rw[T,qB];dsimp only;rw[U,qB];dsimp only;rw[V,qB];dsimp only;cases d==([]:Bs)
 ·obtain⟨i4,S,W⟩:=M8 d Ta u p x A w v C y t i m r z B o K M N 0 true O k h j ad
  obtain⟨l,J,G,X⟩:=RR e Ta u p x A w v C y t i m r z B o K M N i4 true S k h j ad
  rw[ax,show(!false)=true from rfl,W,qB]
  dsimp only;rw[G,qB];exact⟨_,_,_,_,_,J,l,rfl,Ta⟩
 ·obtain⟨l,J,G,X⟩:=RR e Ta u p x A w v C y t i m r z B o K M N 0 false O k h j ad
  rw[aq,show(!true)=false from rfl,G,qB]
  exact⟨_,_,_,_,_,J,l,rfl,Ta⟩
def ST(s:Bs)(p:s.length<=1000000)(n:Nat):∀(k:Nat)(a:Bs),k<=s.length->s.length-k<n->a.length<=k->∃r,gD FU n s (k:Int) a=some r:=by
 induction n with
 |zero=>intro k a _ h;omega|succ n ih=>
  intro k a m o l;rw[gD,Ij];by_cases q:k<s.length
  ·have b:∀c:UInt8,(a++[c]).length<=az:=fun c=>by simp[az];omega
   have d:∀(c:UInt8)(j:Nat),k<j->j<=s.length->∃r,gD FU n s (j:Int) (a++[c])=some r:=fun c j i f=>ih j _ f Ta Te
   have e:∀c:UInt8,∃r,lZ FU (gD FU n) s (k:Int) c false a=some r:=fun c=>by
    unfold lZ;rw[aq rfl,ag (b c),bc k]
    exact d c (k+1) Ta Ta
   rw[ag Ta,fv s k q,qB]
   cases s[k]==(92:UInt8)
   ·exact e _
   ·rw[qT,bc k]
    by_cases g:k+1<s.length
    ·rw[decide_eq_true Ta]
     unfold lZ;rw[ax rfl,bc k,fv s (k+1) g,qB,bc (k+1)]
     cases s[k+1]==(110:UInt8)
     ·rw[qF,ag (b _)];exact d _ (k+1+1) Ta Ta
     ·rw[qT,ag (b _)];exact d _ (k+1+1) Ta Ta
    ·rw[decide_eq_false Ta]
     exact e _
  ·rw[bf];exact⟨_,rfl⟩
def qqt(l:Bs)(P:l.length<=20000)(u:Bs)(z F:Int)(H E C m:Bs)(y B o t A G I w fr p n J:Int)(v s:Bool)(j:List TL)(k q ad:List Int)(c:u.length<=20001)(f:m.length<=20001)(O:j.length<=50000)(e:k.length<=20001):∃d:Jj,vQ FU l u z F H E C m y B o t A G I w fr p n J v s j k q ad=some d/\d.1.length<=20001/\d.2.2.2.2.2.2.1.length<=20001/\d.2.2.2.2.2.2.2.2.2.2.2.2.2.2.2.2.2.2.2.2.2.1.length<=j.length+1/\d.2.2.2.2.2.2.2.2.2.2.2.2.2.2.2.2.2.2.2.2.2.2.1.length<=20001:=by
 unfold vQ;obtain⟨a,r,b,L,K,N⟩:=Qw 58 l
 rw[L,qB];dsimp only;cases b
 case false=>exact⟨_,rfl,c,f,Nat.le_succ _,e⟩
 rw[aq]
 cases a==([77,69,84,72,79,68]:Bs)
 case true=>
  obtain⟨i,g,h⟩:=LG qu Tf r u z F H E C m y B o t A G I w fr p n J v s j k q ad
  rw[qT,Sn,qB,h,qB];exact⟨_,rfl,c,f,Nat.le_succ _,e⟩
 rw[qF];cases a==([85,73,68]:Bs)
 case true=>
  exact⟨_,rfl,by show r.length<=20001;omega,f,Nat.le_succ _,e⟩
 rw[qF];cases a==([83,69,81,85,69,78,67,69]:Bs)
 case true=>
  obtain⟨i,g,h⟩:=cO r Ta u z F H E C m y B o t A G I w fr p n J v s j k q ad
  rw[qT,h,qB];exact⟨_,rfl,c,f,Nat.le_succ _,e⟩
 rw[qF];cases a==([83,85,77,77,65,82,89]:Bs)
 case true=>
  obtain⟨i,h⟩:=ST r Ta FU 0 [] Ta (Nat.lt_of_le_of_lt (show r.length-0<=20000 by omega) Tf) Td
  rw[qT,show vX FU r=some i from h,qB]
  exact⟨_,rfl,c,f,Nat.le_succ _,e⟩
 rw[qF];cases a==([80,76,65,67,69]:Bs)
 case true=>
  obtain⟨i,h⟩:=ST r Ta FU 0 [] Ta (Nat.lt_of_le_of_lt (show r.length-0<=20000 by omega) Tf) Td
  rw[qT,show vX FU r=some i from h,qB]
  exact⟨_,rfl,c,f,Nat.le_succ _,e⟩
 rw[qF];cases a==([79,82,71,65,78,73,90,69,82]:Bs)
 case true=>
  exact⟨_,rfl,c,f,Nat.le_succ _,e⟩
 rw[qF];cases a==([71,85,69,83,84]:Bs)
 case true=>
  obtain⟨x,i,g,h⟩:=qmt r Ta u z F H E C m y B o t A G I w fr p n J v s j k q ad
  rw[qT,h,qB];exact⟨_,rfl,c,f,Td,e⟩
 rw[qF];cases a==([90,79,78,69]:Bs)
 case true=>
  exact⟨_,rfl,c,by show r.length<=20001;omega,Nat.le_succ _,e⟩
 rw[qF];cases a==([83,84,65,82,84]:Bs)
 case true=>
  obtain⟨x1,x2,x3,x4,M,R,S,g,h⟩:=qs8 r Ta u z F H E C m y B o t A G I w fr p n J v s j k q ad
  rw[qT,h,qB];exact⟨_,rfl,c,f,Nat.le_succ _,e⟩
 rw[qF];cases a==([76,69,78,71,84,72]:Bs)
 case true=>
  obtain⟨i,g,h⟩:=cO r Ta u z F H E C m y B o t A G I w fr p n J v s j k q ad
  rw[qT,h,qB];exact⟨_,rfl,c,f,Nat.le_succ _,e⟩
 rw[qF];cases a==([82,69,80,69,65,84]:Bs)
 case true=>
  obtain⟨x1,x2,x3,x4,M,g,Q,h,K⟩:=qq1 r Ta u z F H E C m y B o t A G I w fr p n J v s j k q ad e
  rw[qT,h,qB];exact⟨_,rfl,c,f,Nat.le_succ _,K⟩
 rw[qF];cases a==([69,88,67,69,80,84]:Bs)
 case true=>
  obtain⟨x,g,h,_⟩:=RT r Ta u z F H E C m y B o t A G I w fr p n J v s j k q ad
  rw[qT,h,qB];exact⟨_,rfl,c,f,Nat.le_succ _,e⟩
 rw[qF];cases a==([65,68,68]:Bs)
 case true=>
  obtain⟨x,g,h,_⟩:=RT r Ta u z F H E C m y B o t A G I w fr p n J v s j k q ad
  rw[qT,h,qB];exact⟨_,rfl,c,f,Nat.le_succ _,e⟩
 rw[qF];exact⟨_,rfl,c,f,Nat.le_succ _,e⟩
def gJ(l:List ci):Prop:=∀e∈l,lj e/\(gg e).1=0
def hQ:yH->List ci|.inl a=>a.2.2.2|.inr b=>b.2.2.2.1
def Jb(x:Option yH):Prop:=∃v,x=some v/\gJ (hQ v)
def qah(l:Bs)(O:l.length<=20000)(a:List ci)(I:gJ a)(R:a.length<=30000)(u:Bs)(r A:Int)(C w v g:Bs)(y t i m s B E p fr j h F:Int)(o G:Bool)(e:List TL)(f k ad:List Int)(J:u.length<=20001)(Q:g.length<=20001)(N:e.length<=50000)(P:f.length<=20001) :
  ze FU l a u r A C w v g y t i m s B E p fr j h F o G e f k ad=some (.inl (u,r,A,C,w,v,g,y,t,i,m,s,B,E,p,fr,j,h,F,o,G,a,[],1,0,[],[],[],[],0,0,0,0,0,0,0,0,0,1,0,0,false,true,e,f,k,ad,[],[],[],[]))\/(∃z b,ze FU l a u r A C w v g y t i m s B E p fr j h F o G e f k ad=some (.inr (.inl (z,b)))/\gJ b/\b.length<=a.length+1/\1<=l.length)\/∃d:Jj,ze FU l a u r A C w v g y t i m s B E p fr j h F o G e f k ad=some (.inr (.inr (d.1,d.2.1,d.2.2.1,d.2.2.2.1,d.2.2.2.2.1,d.2.2.2.2.2.1,d.2.2.2.2.2.2.1,d.2.2.2.2.2.2.2.1,d.2.2.2.2.2.2.2.2.1,d.2.2.2.2.2.2.2.2.2.1,d.2.2.2.2.2.2.2.2.2.2.1,d.2.2.2.2.2.2.2.2.2.2.2.1,d.2.2.2.2.2.2.2.2.2.2.2.2.1,d.2.2.2.2.2.2.2.2.2.2.2.2.2.1,d.2.2.2.2.2.2.2.2.2.2.2.2.2.2.1,d.2.2.2.2.2.2.2.2.2.2.2.2.2.2.2.1,d.2.2.2.2.2.2.2.2.2.2.2.2.2.2.2.2.1,d.2.2.2.2.2.2.2.2.2.2.2.2.2.2.2.2.2.1,d.2.2.2.2.2.2.2.2.2.2.2.2.2.2.2.2.2.2.1,d.2.2.2.2.2.2.2.2.2.2.2.2.2.2.2.2.2.2.2.1,d.2.2.2.2.2.2.2.2.2.2.2.2.2.2.2.2.2.2.2.2.1,a,d.2.2.2.2.2.2.2.2.2.2.2.2.2.2.2.2.2.2.2.2.2.1,d.2.2.2.2.2.2.2.2.2.2.2.2.2.2.2.2.2.2.2.2.2.2.1,d.2.2.2.2.2.2.2.2.2.2.2.2.2.2.2.2.2.2.2.2.2.2.2.1,d.2.2.2.2.2.2.2.2.2.2.2.2.2.2.2.2.2.2.2.2.2.2.2.2)))/\d.1.length<=20001/\d.2.2.2.2.2.2.1.length<=20001/\d.2.2.2.2.2.2.2.2.2.2.2.2.2.2.2.2.2.2.2.2.2.1.length<=e.length+1/\d.2.2.2.2.2.2.2.2.2.2.2.2.2.2.2.2.2.2.2.2.2.2.1.length<=20001:=by
 unfold ze;cases l==([66,69,71,73,78,58,69,86,69,78,84]:Bs)
 case true=>exact .inl rfl
 rw[qF];cases q:(l==([69,78,68,58,69,86,69,78,84]:Bs))
 case true=>
  have n:1<=l.length:=by rw[beq_iff_eq.1 q];decide
  refine .inr (.inl ?_);rw[qT];cases G
  case false=>exact⟨_,a,rfl,I,Nat.le_succ _,n⟩
  have K:lj (u,r,A,C,w,v,e,g,(y,t,i,m,s,B,E),p,fr,j,h,F,o,f,k,ad):=⟨by show u.length<=_;omega,by show g.length<=_;omega,by show f.length<=_;omega⟩
  rw[qT,K3 _ K,qB,n6,qB];by_cases c:(gg (u,r,A,C,w,v,e,g,(y,t,i,m,s,B,E),p,fr,j,h,F,o,f,k,ad)).1=0
  ·rw[ax (by simp[c]),ag Tn]
   refine⟨_,_,rfl,fun x H => ?_,Td,n⟩
   rcases List.mem_append.1 H with H|H
   ·exact I x H
   ·rw[List.mem_singleton]at H;subst H;exact⟨K,c⟩
  ·rw[aq (by simp[c])]
   exact⟨_,a,rfl,I,Nat.le_succ _,n⟩
 rw[qF];obtain⟨d,L,M⟩:=qqt l O u r A C w v g y t i m s B E p fr j h F o G e f k ad J Q N P;rw[L,qB];exact .inr (.inr ⟨d,rfl,M⟩)
def qpm(Q:vp)(N:Nat)(V:∀t a,t.length<N->gJ a->a.length+t.length<=20000->Jb (Q [10] t 0 a))(n:Nat):∀(t:Bs)(a:List ci)(u:Bs)(v F:Int)(H E C g:Bs)(y B j o A G I s fr k i J:Int)(p m:Bool)(c:List TL)(f l ad:List Int),t.length<n->t.length<=N->gJ a->a.length+t.length<=20000->u.length<=20001->g.length<=20001->c.length+t.length<=40000->f.length<=20001->Jb (P3 Q n [10] t 0 a u v F H E C g y B j o A G I s fr k i J p m c f l ad):=by
 induction n with
 |zero=>intro t a u v F H E C g y B j o A G I s fr k i J p m c f l ad h;omega|succ n ih=>
  intro t a u v F H E C g y B j o A G I s fr k i J p m c f l ad hn Z e U q P hg O;rw[P3,xL,Db];rcases iE 10 t with M|⟨w,r,rfl,M⟩
  ·rw[M,qB,ag Ta]
   rcases qah t Ta a e Ta u v F H E C g y B j o A G I s fr k i J p m c f l ad q P Ta O with h|⟨z,b,h,K,_,_⟩|⟨d,h,_⟩
   ·rw[h];exact⟨_,rfl,e⟩
   ·rw[h];exact⟨_,rfl,K⟩
   ·rw[h];exact⟨_,rfl,e⟩
  ·have hl:(w++10::r).length=w.length+(r.length+1):=Td
   rw[M,qB,bf,Int.add_zero,bq (x:=(w.length:Int)) Ta Ta,ag ⟨Ta,Ta⟩,show((w.length:Nat):Int).toNat=w.length by omega,List.take_left,show((List.length ([10]:Bs):Nat):Int)=1 from rfl,bc _]
   have L:List.drop ((w.length+1:Nat):Int).toNat (w++10::r)=r:=by rw[show((w.length+1:Nat):Int).toNat=w.length+1 by omega,← List.drop_drop,List.drop_left];rfl
   rcases qah w Ta a e Ta u v F H E C g y B j o A G I s fr k i J p m c f l ad q P Ta O with h|⟨z,b,h,K,W,X⟩|⟨d,h,R,S,Y,T⟩
   ·rw[h,qB];dsimp only[aw];rw[ag ⟨Ta,Ta⟩,L]
    exact ih r a _ _ _ _ _ _ _ _ _ _ _ _ _ _ _ _ _ _ _ _ _ _ _ _ _ Ta Ta e Ta Td Td Te Td
   ·rw[h,qB];dsimp only[aw];rw[ag ⟨Ta,Ta⟩,L]
    exact V r b Ta K Ta
   ·rw[h,qB];dsimp only[aw];rw[ag ⟨Ta,Ta⟩,L]
    exact ih r a _ _ _ _ _ _ _ _ _ _ _ _ _ _ _ _ _ _ _ _ _ _ _ _ _ Ta Ta e Ta R S Ta T
def qpk(n:Nat):∀(t:Bs)(a:List ci),t.length<n->gJ a->a.length+t.length<=20000->Jb (P1 n [10] t 0 a):=by
 induction n with
 |zero=>intro t a h;omega|succ n ih=>
  intro t a g b e;rw[P1,mE,II];rcases iE 10 t with c|⟨w,r,rfl,c⟩
  ·rw[c,qB,ag Ta]
   unfold lP;cases t==([66,69,71,73,78,58,69,86,69,78,84]:Bs)<;>exact⟨_,rfl,b⟩
  ·have f:(w++10::r).length=w.length+(r.length+1):=Td
   rw[c,qB,bf,Int.add_zero,bq (x:=(w.length:Int)) Ta Ta,ag ⟨Ta,Ta⟩,show((w.length:Nat):Int).toNat=w.length by omega,List.take_left,show((List.length ([10]:Bs):Nat):Int)=1 from rfl,bc _]
   have d:List.drop ((w.length+1:Nat):Int).toNat (w++10::r)=r:=by rw[show((w.length+1:Nat):Int).toNat=w.length+1 by omega,← List.drop_drop,List.drop_left];rfl
   unfold lP;cases w==([66,69,71,73,78,58,69,86,69,78,84]:Bs)
   ·rw[qF,qB];dsimp only[aw];rw[ag ⟨Ta,Ta⟩,d]
    exact ih r a Ta b Ta
   ·rw[qT,qB];dsimp only[aw];rw[ag ⟨Ta,Ta⟩,d]
    exact qpm (P1 n) n ih FU r a _ _ _ _ _ _ _ _ _ _ _ _ _ _ _ _ _ _ _ _ _ _ _ _ _ (Nat.lt_of_le_of_lt (show r.length<=20000 by omega) Tf) Ta b Ta Td Td Te Td
def qrc(e:ci)(a:lj e)(h:(gg e).1=0):kM FU e=some (gg e):=by
 have k:=K4 h;refine qaz e a (fun q => ?_) fun g b => ?_
 ·have:=k.og.resolve_left q;rw[this];exact KV FU pg (pA this)
 ·have:=(k.g g b).1;rw[this];exact KV FU pg (pA this)
def qnu(l:List ci)(i:l.length<=20)(h:gJ l)(n:Nat):∀a b:List ci,l=a++b->b.length<n->tW FU n (a.length:Int) l=some true:=by
 induction n with
 |zero=>intro a b _ h;omega|succ n ih=>
  intro a b e g;have c:=congrArg List.length e;rw[qM]at c;rw[tW,Hm]
  cases b with
  |nil=>rw[bf (by simp at c;omega),decide_eq_true Ta]|cons v b=>
   simp only[qL]at c g;obtain⟨f,d⟩:=h v (by rw[e];simp)
   rw[ag Ta,ag ⟨Ta,Ta⟩,show l[(a.length:Int).toNat]? = some v by rw[e,show(a.length:Int).toNat=a.length by omega];simp,qB,qrc v f d,qB,fh,qW (by simp[d]),bc _]
   have:=ih (a++[v]) b (by rw[e];simp) Ta
   rw[qM,wD]at this;exact this
def qn1(s:Bs):kT FU s=some true:=by
 unfold kT;rw[QQ,qB,aq]
 by_cases c:12000<s.length
 ·have:fY FU s=some ((1,-1),[]):=by
   unfold fY;rw[ag Ta];rfl
  rw[this,qB,ag Ta];rfl
 ·have g:=quf s;obtain⟨v,b,d⟩:=qpk FU (pH s) [] (Nat.lt_of_le_of_lt (show(pH s).length<=12000 by omega) Tf) (fun x f=>by cases f) Te
  have b:mE FU FU [10] (pH s) 0 []=some v:=b;have e:fY FU s=some (if 20<(hQ v).length then((2,-2),[]) else((0,0),hQ v)):=by
   unfold fY;rw[bf,qug s,qB]
   unfold IG;rw[aq]
   dsimp only;rw[b,qB]
   cases v with
   |inl a=>
    show(bif decide ((20:Int)<(a.2.2.2.length:Int)) then _ else _)=some (if 20<a.2.2.2.length then _ else _)
    by_cases q:20<a.2.2.2.length
    ·rw[ag Ta,qX q];rfl
    ·rw[bf,qW q];rfl
   |inr a=>
    show(bif decide ((20:Int)<(a.2.2.2.1.length:Int)) then _ else _)=some (if 20<a.2.2.2.1.length then _ else _)
    by_cases q:20<a.2.2.2.1.length
    ·rw[ag Ta,qX q];rfl
    ·rw[bf,qW q];rfl
  rw[e,qB,bf]
  by_cases q:20<(hQ v).length
  ·rw[qX q];rfl
  ·rw[qW q,aq]
   exact qnu (hQ v) Ta d FU [] (hQ v) rfl (Nat.lt_of_le_of_lt (show(hQ v).length<=20 by omega) Tf)
def qn2(x:Bs×Unit)(_:gX [.str] x<=1048576):kT 100000000 x.1=some true:=qn1 x.1
end Go.Sym
