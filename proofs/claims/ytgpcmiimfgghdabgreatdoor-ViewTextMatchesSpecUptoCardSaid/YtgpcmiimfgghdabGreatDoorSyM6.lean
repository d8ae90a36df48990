/- What the claim rests on, part 6: gathered texts. -/
import Derived.Lib.CountLaws
import Derived.Lib.IndexLaws
import Derived.Test.YtgpcmiimfgghdabGreatDoorSyM5
set_option maxRecDepth 100000
set_option linter.defProp false
set_option linter.unusedSimpArgs false
set_option linter.unusedVariables false
namespace Go.Sym.Tr
def iv(c:UInt8):Int:=Lib.indexByte qre c
def zy5:∀n:_root_.Fin 256,iv (UInt8.ofNat n.val) = -1\/(0<=iv (UInt8.ofNat n.val)/\iv (UInt8.ofNat n.val)<64):=by decide +kernel
def zhp(c:UInt8):iv c = -1\/(0<=iv c/\iv c<64):=iq (fun c=>iv c = -1\/(0<=iv c/\iv c<64)) zy5 c
def zhs(fu fu':Nat)(c:UInt8):∀(n m:Nat)(k r:Int),n<=m->ws fu n c k=some r->ws fu' m c k=some r
 |0,_,_,_,_,h=>by cases h
 |n+1,0,_,_,hm,_=>absurd hm oA|n+1,m+1,k,r,hm,h=>by
  have ih:=fun k=>zhs fu fu' c n m k r oA
  rw[ws,qwx]at h ⊢;rw[bn]at h ⊢;split at h
  ·rename_i q;rw[qX q];revert h
   cases hi:ai ([65,66,67,68,69,70,71,72,73,74,75,76,77,78,79,80,81,82,83,84,85,86,87,88,89,90,97,98,99,100,101,102,103,104,105,106,107,108,109,110,111,112,113,114,115,116,117,118,119,120,121,122,48,49,50,51,52,53,54,55,56,57,43,47]:List UInt8) k with
   |none=>intro h;cases h
   |some y=>
    simp only[qB];cases y==c
    ·exact ih _
    ·exact id
  ·rename_i q;rw[qW q];exact h
def zza:∀n:_root_.Fin 256,ws 0 66 (UInt8.ofNat n.val) 0=some (iv (UInt8.ofNat n.val)):=by decide +kernel
def zzb(fu:Nat)(c:UInt8)(h:66<=fu:=by omega):qww fu c=some (iv c):=
 zhs 0 fu c 66 fu 0 _ h (iq (fun c=>ws 0 66 c 0=some (iv c)) zza c)
def six(v:Nat):List Nat:=[v/32%2,v/16%2,v/8%2,v/4%2,v/2%2,v%2]
def dbits:List UInt8->List Nat|[]=>[]|c::r=>if c=61 then[] else if iv c<0 then dbits r else six (iv c).toNat++dbits r
def by8:List Nat->List UInt8|a::b::c::d::e::f::g::h::r=>dc ((dp 0 [a,b,c,d,e,f,g,h]:Nat):Int)::by8 r|_=>[]
def q5e:∀(l:List Nat)(a:Nat),dp a l=a*2 ^ l.length+dp 0 l
 |[],a=>by simp[dp]|x::l,a=>by
  rw[dp,dp,q5e l (2*a+x),q5e l (2*0+x),qL,Nat.pow_succ,Nat.add_mul,Nat.add_mul];have:2*a*2 ^ l.length=a*(2 ^ l.length*2):=by rw[Nat.mul_comm 2 a,Nat.mul_assoc,Nat.mul_comm 2]
  omega
def q5d:∀(l m:List Nat)(a:Nat),dp a (l++m)=dp (dp a l) m|[],_,_=>rfl|x::l,m,a=>q5d l m (2*a+x)
def zw5(a v:Nat)(h:v<64):dp a (six v)=64*a+v:=by
 simp only[six,dp];omega
def zgj(v:Nat):∀x∈six v,x<=1:=by
 intro x hx;simp only[six,wE,List.not_mem_nil,or_false]at hx;omega
def zas(q r:List Nat)(h:8<=q.length:=by omega):by8 (q++r)=dc ((dp 0 (q.take 8):Nat):Int)::by8 (q.drop 8++r):=by
 match q,h with|a::b::c::d::e::f::g::i::t,_=>simp[by8]
def by8_short(q:List Nat)(h:q.length<8):by8 q=[]:=by
 match q,h with|[],_=>rfl|[_],_=>rfl|[_,_],_=>rfl|[_,_,_],_=>rfl|[_,_,_,_],_=>rfl|[_,_,_,_,_],_=>rfl|[_,_,_,_,_,_],_=>rfl|[_,_,_,_,_,_,_],_=>rfl|_::_::_::_::_::_::_::_::_,h=>simp at h;omega
def or6(x v:Nat)(h:x<1099511627776)(hv:v<64):ae (((BitVec.ofInt 64 (ae ((x:Int)*2 ^ min (6:Int).toNat 64))|||BitVec.ofInt 64 (v:Int)).toNat:Int))=((64*x+v:Nat):Int):=by
 have e:ae ((x:Int)*2 ^ min (6:Int).toNat 64)=((64*x:Nat):Int):=by
  rw[show(2:Int) ^ min (6:Int).toNat 64=64 by decide,bq];omega
 rw[e,BitVec.toNat_or,qti _,qti _]
 have:=Nat.two_pow_add_eq_or_of_lt (i:=6) (b:=v) (by simpa using hv) x
 rw[← show 2 ^ 6*x+v=64*x|||v from this]
 rw[bq]
def zmc(x k:Nat)(h:x<1099511627776:=by omega)(hk:k<=20:=by omega):ae (((BitVec.ofInt 64 (x:Int)&&&BitVec.ofInt 64 (ae ((ae ((1:Int)*2 ^ min (k:Int).toNat 64))-(1:Int)))).toNat:Int))=((x%2 ^ k:Nat):Int):=by
 have e1:min (k:Int).toNat 64=k:=oA
 have hp:2 ^ k<=2 ^ 20:=Nat.pow_le_pow_right oA hk
 have hp1:1<=2 ^ k:=Nat.one_le_two_pow;have e2:ae ((1:Int)*2 ^ k)=((2 ^ k:Nat):Int):=by
  have:((2:Int) ^ k)=((2 ^ k:Nat):Int):=oC
  rw[this,bq];omega
 have e3:ae (((2 ^ k:Nat):Int)-1)=((2 ^ k-1:Nat):Int):=by rw[bq];omega
 have hm:x%2 ^ k<=x:=Nat.mod_le _ _;rw[e1,e2,e3,BitVec.toNat_and,qti _,qti _,Nat.and_two_pow_sub_one_eq_mod,bq]
end Go.Sym.Tr
namespace Go.Sym.Tr
def zxv(q:List Nat)(k:Nat)(h1:∀x∈q,x<=1):dp 0 (q.take k)=dp 0 q/2 ^ (q.length-k)/\dp 0 (q.drop k)=dp 0 q%2 ^ (q.length-k):=by
 have e:dp 0 q=dp 0 (q.take k)*2 ^ (q.drop k).length+dp 0 (q.drop k):=by
  rw[← q5e,← q5d,List.take_append_drop]
 have hd:=q5f (q.drop k) 0 (fun x hx=>h1 x (List.mem_of_mem_drop hx))
 rw[List.length_drop]at e hd;have hlt:dp 0 (q.drop k)<2 ^ (q.length-k):=oA
 rw[e,Nat.mul_comm,Nat.mul_add_div oA,Nat.mul_add_mod,Nat.div_eq_of_lt hlt,Nat.mod_eq_of_lt hlt]
 simp
def zrr(fu n:Nat)(m16:Int×Int):∀(ab aa:List UInt8)(p:List Nat)(out:List UInt8),aa.length<n->ab.length+aa.length<100000000->p.length<8->(∀x∈p,x<=1)->out.length+aa.length<=1000000000 ->
  qad fu n ((dp 0 p:Nat):Int) (p.length:Int) (ab++aa) ((ab.length+aa.length:Nat):Int) (ab.length:Int) m16 out=some ((0,0),out++by8 (p++dbits aa)):=by
 induction n with
 |zero=>intro ab aa p out h;omega|succ n ih=>
  intro ab aa p out h hb hp h1 ho
  cases aa with
  |nil=>
   rw[qad,qoz,ao]
   simp[dx,dbits,by8_short p hp]
  |cons c aa=>
   simp only[qL]at h hb ho;have nxt:∀(p:List Nat)(out:List UInt8),p.length<8->(∀x∈p,x<=1)->out.length+aa.length<=1000000000->qad fu n ((dp 0 p:Nat):Int) (p.length:Int) (ab++c::aa) ((ab.length+(aa.length+1):Nat):Int) ((ab.length+1:Nat):Int) m16 out=some ((0,0),out++by8 (p++dbits aa)):=by
    intro p out h2 h3 h4;have:=ih (ab++[c]) aa p out oA oB h2 h3 h4
    simp only[qM,qL,qZ,wO,qS,wK,List.nil_append]at this;rw[show ab.length+(aa.length+1)=ab.length+1+aa.length by omega]
    exact this
   rw[qad,qoz,ag,a7,qB,ez]
   simp only[qL];by_cases k:c=61
   ·rw[qX k];simp[dx,dbits,k,by8_short p hp]
   ·rw[qW k,ag oE]
    rw[show([65,66,67,68,69,70,71,72,73,74,75,76,77,78,79,80,81,82,83,84,85,86,87,88,89,90,97,98,99,100,101,102,103,104,105,106,107,108,109,110,111,112,113,114,115,116,117,118,119,120,121,122,48,49,50,51,52,53,54,55,56,57,43,47]:List UInt8)=qre from rfl,show qdx qre c=some (iv c) from rfl,qB,aq _,bn]
    rcases zhp c with hv|⟨hv,hv2⟩
    ·rw[hv,qX oE,nxt p out hp h1 oA]
     simp[dbits,k,hv]
    ·obtain⟨v,hvv⟩:∃v:Nat,iv c=(v:Int):=⟨(iv c).toNat,oA⟩
     have hv64:v<64:=oA
     have hd:dbits (c::aa)=six v++dbits aa:=by
      rw[dbits,qW k,qW oA,hvv];rfl
     have hq:dp 0 (p++six v)=64*dp 0 p+v:=by rw[q5d,zw5 _ _ hv64]
     have hpl:=q5f p 0 h1;have hp2:2 ^ p.length<=2 ^ 7:=Nat.pow_le_pow_right oA oA
     have hql:(p++six v).length=p.length+6:=by simp[six]
     have hq1:∀x∈p++six v,x<=1:=fun x hx=>by
      rcases List.mem_append.1 hx with hx|hx
      ·exact h1 x hx
      ·exact zgj v x hx
     rw[hvv,qW oA,or6 _ _ oA hv64,← hq,hd,← qS]
     have e6:ae ((p.length:Int)+6)=((p.length+6:Nat):Int):=by rw[bq];omega
     rw[e6,bn];by_cases h8:8<=p.length+6
     ·have e8:ae (((p.length+6:Nat):Int)-8)=((p.length+6-8:Nat):Int):=by rw[bq];omega
      rw[qX oA,e8,ag,ag oL,ag]
      rw[zmc _ _]
      obtain⟨s1,s2⟩:=zxv (p++six v) 8 hq1;rw[hql]at s1 s2;rw[← s2,zas _ _]
      have e9:Int.fdiv ((dp 0 (p++six v):Nat):Int) (2 ^ min (((p.length+6-8:Nat):Int)).toNat 64)=((dp 0 ((p++six v).take 8):Nat):Int):=by
       rw[s1,show min (((p.length+6-8:Nat):Int)).toNat 64=p.length+6-8 by omega,Int.fdiv_eq_ediv_of_nonneg _ (by exact Int.le_of_lt (Int.pow_pos oE))]
       simp
      rw[e9];have:=nxt ((p++six v).drop 8) (out++[dc ((dp 0 ((p++six v).take 8):Nat):Int)]) (by simp[six];omega) (fun x hx=>hq1 x (List.mem_of_mem_drop hx)) oB
      rw[List.length_drop,hql]at this;rw[this];simp
     ·rw[qW oA]
      have:=nxt (p++six v) out oA hq1 oA
      rw[hql]at this;exact this
end Go.Sym.Tr
namespace Go.Sym.Tr
def qfp(fu:Nat)(r0:List UInt8->Int->List Int->Option (List UInt8))(n:Nat)(s0:List UInt8)(s4:Int)(v k:Nat)(m:List Int)(hk:k<=5:=by omega)(hm:m.length<1000000000:=by omega) :
  po fu r0 (n+1) s0 s4 (v:Int) (k:Int) m=po fu r0 n s0 s4 (v:Int) ((k:Int)-1) (m++[((v/2 ^ k%2:Nat):Int)]):=by
 rw[po,qhn,ag]
 unfold qn3;rw[ag]
 unfold qvr;have e:IntKind.u64.wrap (k:Int)=(k:Int):=by
  unfold IntKind.wrap;simp[IntKind.signed,IntKind.bits];omega
 rw[e,ag,znf v k _ rfl oA,ag oL,bq]
def zrk(fu:Nat)(r0:List UInt8->Int->List Int->Option (List UInt8))(n:Nat)(s0:List UInt8)(s4 v:Int)(m:List Int):po fu r0 (n+1) s0 s4 v (-1) m=r0 s0 (ae (s4+1)) m:=by
 rw[po,qhn,ao oE];rfl
def zrl(fu:Nat)(r0:List UInt8->Int->List Int->Option (List UInt8))(n:Nat)(s0:List UInt8)(s4:Int)(m:List Int):po fu r0 (n+1) s0 s4 (-1) 5 m=r0 s0 (ae (s4+1)) m:=by
 rw[po,qhn,ag oE,decide_eq_false oE];rfl
def zrj(fu:Nat)(r0:List UInt8->Int->List Int->Option (List UInt8))(n:Nat)(s0:List UInt8)(s4:Int)(v:Nat)(m:List Int)(hm:m.length<100000000) :
  po fu r0 (n+7) s0 s4 (v:Int) 5 m=r0 s0 (ae (s4+1)) (m++jt (six v)):=by
 rw[show(5:Int)=((5:Nat):Int) from rfl,qfp fu r0 (n+6) s0 s4 v 5 m]
 rw[show((5:Nat):Int)-1=((4:Nat):Int) from rfl,qfp fu r0 (n+5) s0 s4 v 4 _ oA oB]
 rw[show((4:Nat):Int)-1=((3:Nat):Int) from rfl,qfp fu r0 (n+4) s0 s4 v 3 _ oA oB]
 rw[show((3:Nat):Int)-1=((2:Nat):Int) from rfl,qfp fu r0 (n+3) s0 s4 v 2 _ oA oB]
 rw[show((2:Nat):Int)-1=((1:Nat):Int) from rfl,qfp fu r0 (n+2) s0 s4 v 1 _ oA oB]
 rw[show((1:Nat):Int)-1=((0:Nat):Int) from rfl,qfp fu r0 (n+1) s0 s4 v 0 _ oA oB]
 rw[show((0:Nat):Int)-1 = -1 from rfl,zrk]
 congr 1;simp[six,jt]
end Go.Sym.Tr
namespace Go.Sym.Tr
def zri(fu n:Nat)(hfu:8<fu):∀(ab aa:List Nat)(out:List UInt8),aa.length<n->ab.length+aa.length<1000000000->(∀x∈aa,x<=1)->out.length+aa.length<=2000000000 ->
  qcw fu n (jt (ab++aa)) (ab.length:Int) out=some (out++by8 aa):=by
 induction n with
 |zero=>intro ab aa out h;omega|succ n ih=>
  intro ab aa out h hb h1 ho;have e8:ae ((ab.length:Int)+8)=((ab.length+8:Nat):Int):=by rw[bq];omega
  rw[qcw,qvp,e8];by_cases c:aa.length<8
  ·rw[ao,by8_short aa c];simp
  ·have et:List.take (((ab.length+8:Nat):Int).toNat-(ab.length:Int).toNat) (List.drop (ab.length:Int).toNat (jt (ab++aa)))=jt (aa.take 8):=by
    rw[show((ab.length+8:Nat):Int).toNat-(ab.length:Int).toNat=8 by omega,show(ab.length:Int).toNat=ab.length by omega]
    simp[jt]
   rw[ag,ag,et,zxw fu _ hfu oB (fun x hx=>h1 x (List.mem_of_mem_take hx)),qB,ag oL]
   have:=ih (ab++aa.take 8) (aa.drop 8) (out++[dc ((dp 0 (aa.take 8):Nat):Int)]) oB oB (fun x hx=>h1 x (List.mem_of_mem_drop hx)) oB
   rw[qS,List.take_append_drop,qM,List.length_take,Nat.min_eq_left oA]at this
   rw[this];have q:=zas aa []
   rw[List.append_nil,List.append_nil]at q;rw[q];simp
end Go.Sym.Tr
namespace Go.Sym.Tr
def zrf(fu n:Nat)(hfu:200<fu):∀(ab aa:List UInt8)(acc:List Nat),aa.length<n->ab.length+aa.length<10000000->(∀x∈acc,x<=1)->acc.length+6*aa.length<fu->acc.length+6*aa.length<90000000 ->
  qcv fu n (ab++aa) (ab.length:Int) (jt acc)=some (by8 (acc++dbits aa)):=by
 induction n with
 |zero=>intro ab aa acc h;omega|succ n ih=>
  intro ab aa acc h hb h1 hf hm;have fin:qcw fu fu (jt acc) (0:Int) []=some (by8 acc):=by
   have:=zri fu fu oA [] acc [] oA oB h1 oB
   exact this
  cases aa with
  |nil=>
   rw[qcv,qn2,ao]
   unfold qho;rw[au rfl,fin];simp[dbits]
  |cons c aa=>
   simp only[qL]at h hb hf hm;rw[qcv,qn2,ag,a7,qB]
   unfold qho;rw[qa9];by_cases k:c=61
   ·rw[qW (by simp[k]),fin];simp[dbits,k]
   ·rw[qX k];unfold qvq;rw[a7,qB,zzb fu c,qB]
    obtain⟨m,rfl⟩:∃m,fu=m+7:=⟨fu-7,oA⟩
    have nxt:=fun acc=>ih (ab++[c]) aa acc oA oB
    simp only[qM,qL,qZ,wO,qS,wK,List.nil_append]at nxt;rcases zhp c with hv|⟨hv,hv2⟩
    ·rw[hv,zrl,aq _,nxt acc h1 oA oA]
     simp[dbits,k,hv]
    ·obtain⟨v,hvv⟩:∃v:Nat,iv c=(v:Int):=⟨(iv c).toNat,oA⟩
     rw[hvv,zrj _ _ _ _ _ _ _ oB,aq _]
     have e:jt acc++jt (six v)=jt (acc++six v):=oC
     rw[e,nxt (acc++six v) (fun x hx=>by
      rcases List.mem_append.1 hx with hx|hx
      ·exact h1 x hx
      ·exact zgj v x hx) (by simp[six];omega) (by simp[six];omega)]
     rw[dbits,qW k,qW oA,hvv]
     simp
end Go.Sym.Tr
namespace Go.Sym.Tr
def rloose_eq(fu:Nat)(b:List UInt8)(hb:b.length<=24000)(hf:6*b.length+300<fu):qvo fu b=some (by8 (dbits b)):=by
 have:=zrf fu fu oA [] b [] oA oB (fun _ h=>by cases h) oB oB
 exact this
def zrq(fu:Nat)(b:List UInt8)(hb:b.length<=24000:=by omega)(hf:b.length<fu:=by omega):qoy fu b=some ((0,0),by8 (dbits b)):=by
 unfold qoy;rw[ao]
 have:=zrr fu fu (0,0) [] b [] [] hf oB oC (fun _ h=>by cases h) oB
 simpa [dp] using this
end Go.Sym.Tr
namespace Go.Sym.Tr
end Go.Sym.Tr
namespace Go.Sym.Tr
def prt(x:UInt8):Prop:=x≠0/\x≠13/\x≠10/\¬(127:UInt8)<x
inductive OkL:Nat->List UInt8->Prop
 |nil (c:Nat):OkL c []
 |crlf (c:Nat) (r:List UInt8):OkL 0 r->OkL c (13::10::r)
 |chr (c:Nat) (x:UInt8) (r:List UInt8):prt x->c<998->OkL (c+1) r->OkL c (x::r)
end Go.Sym.Tr
namespace Go.Sym.Tr
def hv(c:UInt8):Option UInt8:=if 48<=c/\c<=57 then some (c-48) else if 65<=c/\c<=70 then some (c-65+10) else if 97<=c/\c<=102 then some (c-97+10) else none
def hx(a b:UInt8):Option UInt8:=(hv a).bind fun x=>(hv b).map fun y=>16*x+y
def dq:List UInt8->List UInt8|[]=>[]|[c]=>[c]|[c,d]=>[c,d]|c::a::b::r=>if c=61 then(match hx a b with|some x=>x::dq r|none=>c::dq (a::b::r)) else c::dq (a::b::r)
def q17(c:UInt8)(r:List UInt8)(h:c≠61):dq (c::r)=c::dq r:=by
 match r with|[]=>rfl|[_]=>rfl|_::_::_=>rw[dq,qW h]
def zow(a b x:UInt8)(r:List UInt8)(h:hx a b=some x):dq (61::a::b::r)=x::dq r:=by
 rw[dq,qX rfl,h]
def bl(c:UInt8):Bool:=c==32||c==9
def cq(l:List UInt8):List UInt8:=(l.reverse.dropWhile bl).reverse
def lnE(t:List UInt8)(nl:Bool):List UInt8×List UInt8:=if nl then(if t.getLast? = some 13 then(t.dropLast,[13,10]) else(t,[10])) else(t,[])
def lnT(u e:List UInt8):List UInt8:=if u.getLast? = some 61 then dq u.dropLast else dq u++e
def ml(t:List UInt8)(nl:Bool):List UInt8:=lnT (cq (lnE t nl).1) (lnE t nl).2
def qm(acc:List UInt8):List UInt8->List UInt8|[]=>ml acc false|c::r=>if c=10 then ml acc true++qm [] r else qm (acc++[c]) r
def zex(u:List UInt8):∀(acc r:List UInt8),(∀x∈u,x≠10)->qm acc (u++r)=qm (acc++u) r:=by
 induction u with
 |nil=>intro acc r _;simp|cons x u ih=>
  intro acc r h;rw[wK,qm,qW (h x qH),ih _ _ (fun y hy=>h y (qE _ hy))]
  simp
structure Un(acc out:List UInt8)(sp:Bool):Prop where
 dec:∀rest,dq (acc++rest)=out++dq rest
 no:acc.getLast? ≠ some 61
 nb:sp=false->∀c,acc.getLast? = some c->bl c=false
end Go.Sym.Tr
namespace Go.Sym.Tr
def q1d:∀n:_root_.Fin 256,uk (UInt8.ofNat n.val)=some ((hv (UInt8.ofNat n.val)).getD 0,(hv (UInt8.ofNat n.val)).isSome):=by decide +kernel
def q1e(c:UInt8):uk c=some ((hv c).getD 0,(hv c).isSome):=iq (fun c=>uk c=some ((hv c).getD 0,(hv c).isSome)) q1d c
def gh(c:UInt8):Int:=match hv c with|some x=>(x.toNat:Int)|none => -1
def fp:List UInt8:=[48,49,50,51,52,53,54,55,56,57,65,66,67,68,69,70]
def qp(c:UInt8):Nat->Nat->Int|0,_ => -1|m+1,k=>if fp.getD k 0=c then(k:Int) else if(fp.map lo).getD k 0=c then(k:Int) else qp c m (k+1)
def q20:∀n:_root_.Fin 256,qp (UInt8.ofNat n.val) 16 0=gh (UInt8.ofNat n.val):=by decide +kernel
def q4x(fu:Nat)(hfu:16<fu)(c:UInt8):∀(m k n:Nat),m+k=16->m<n->uf fu n c (k:Int)=some (qp c m k):=by
 intro m
 induction m with
 |zero=>
  intro k n hk hn;obtain⟨n,rfl⟩:∃j,n=j+1:=⟨n-1,oA⟩
  rw[uf,qcu,ao];rfl
 |succ m ih=>
  intro k n hk hn;obtain⟨n,rfl⟩:∃j,n=j+1:=⟨n-1,oA⟩
  have h1:k<fp.length:=by show k<16;omega
  have h2:k<(fp.map lo).length:=by show k<16;omega
  have i1:ai fp (k:Int)=some (fp.getD k 0):=by rw[qq _ _ h1];exact congrArg some (List.getElem_eq_getD 0)
  have i2:ai (fp.map lo) (k:Int)=some ((fp.map lo).getD k 0):=by rw[qq _ _ h2];exact congrArg some (List.getElem_eq_getD 0)
  rw[uf,qcu,ag]
  rw[show([48,49,50,51,52,53,54,55,56,57,65,66,67,68,69,70]:List UInt8)=fp from rfl]
  rw[i1,qB,ez,qp];by_cases q:fp.getD k 0=c
  ·rw[qX q,qX q]
  ·rw[qW q,qW q,vn fu fp (by show 16<fu;omega) oE,qB,i2,qB,ez]
   by_cases q2:(fp.map lo).getD k 0=c
   ·rw[qX q2,qX q2]
   ·rw[qW q2,qW q2,aq _,ih (k+1) n oA oA]
def tr(fu:Nat)(hfu:17<fu)(c:UInt8):ni fu c=some (gh c):=by
 have:=q4x fu oA c 16 0 fu rfl oA
 unfold ni;rw[show(0:Int)=((0:Nat):Int) from rfl,this,iq (fun c=>qp c 16 0=gh c) q20 c]
def q21:∀n:_root_.Fin 256,(hv (UInt8.ofNat n.val)).all (fun x=>decide (x.toNat<16))=true:=by decide +kernel
def vd(c x:UInt8)(h:hv c=some x):x.toNat<16:=by
 have:=iq (fun c=>(hv c).all (fun x=>decide (x.toNat<16))=true) q21 c
 rw[h]at this;simpa using this
def q5s:∀x y:_root_.Fin 16,(nf (UInt8.ofNat x.val) (min (4:Int).toNat 8))|||UInt8.ofNat y.val=16*UInt8.ofNat x.val+UInt8.ofNat y.val/\dc (ae ((ae ((16:Int)*((UInt8.ofNat x.val).toNat:Int)))+((UInt8.ofNat y.val).toNat:Int)))=16*UInt8.ofNat x.val+UInt8.ofNat y.val:=by decide +kernel
def qm3(x y:UInt8)(hx1:x.toNat<16)(hy1:y.toNat<16):(nf x (min (4:Int).toNat 8))|||y=16*x+y/\dc (ae ((ae ((16:Int)*(x.toNat:Int)))+(y.toNat:Int)))=16*x+y:=by
 have:=q5s ⟨x.toNat,hx1⟩ ⟨y.toNat,hy1⟩;simpa using this
def mu:List UInt8->Option UInt8|a::b::_=>hx a b|_=>none
def qr4(r:List UInt8):dq (61::r)=match mu r with|some x=>x::dq (r.drop 2)|none=>61::dq r:=by
 match r with
 |[]=>rfl|[_]=>rfl|a::b::t=>
  rw[dq,qX rfl];show _=match hx a b with|some x=>x::dq t|none=>61::dq (a::b::t)
  cases hx a b<;>rfl
def q39(r:List UInt8):∃v,um (r.take 2)=some (v,(mu r).isSome)/\∀x,mu r=some x->v=x:=by
 match r with
 |[]=>exact⟨0,rfl,fun x h=>by cases h⟩
 |[_]=>exact⟨0,rfl,fun x h=>by cases h⟩
 |a::b::t=>
  have e:um ((a::b::t).take 2)=some ((nf ((hv a).getD 0) (min (4:Int).toNat 8))|||(hv b).getD 0,(hv a).isSome&&(hv b).isSome):=by
   unfold um;rw[ao,show(a::b::t).take 2=[a,b] from rfl,show ai [a,b] 0=some a from rfl,show ai [a,b] 1=some b from rfl]
   simp only[qB,q1e];cases (hv a).isSome<;>rfl
  rw[e,show mu (a::b::t)=hx a b from rfl]
  unfold hx
  cases ha:hv a with
  |none=>exact⟨_,rfl,fun x h=>by cases h⟩
  |some x=>
   cases hb:hv b with
   |none=>exact⟨_,rfl,fun x h=>by cases h⟩
   |some y=>
    refine⟨_,rfl,fun z h => ?_⟩
    have hz:16*x+y=z:=by simpa using h
    rw[← hz];exact(qm3 x y (vd a x ha) (vd b y hb)).1
def zx7(ab:List UInt8)(c:UInt8)(r:List UInt8)(hb:ab.length+r.length<1000000000:=by omega) :
  List.take ((if(List.length (ab++c::r):Int)<ae ((ab.length:Int)+(3:Int)) then(List.length (ab++c::r):Int) else ae ((ab.length:Int)+(3:Int))).toNat-(((ab.length+1:Nat):Int)).toNat) (List.drop (((ab.length+1:Nat):Int)).toNat (ab++c::r))=r.take 2:=by
 rw[qfb,bq]
 have hl:((ab++c::r).length:Int)=(ab.length:Int)+1+(r.length:Int):=by simp;omega
 rw[hl];by_cases q:(ab.length:Int)+1+(r.length:Int)<(ab.length:Int)+3
 ·rw[qX q,List.take_of_length_le oA,List.take_of_length_le oA]
 ·rw[qW q,show((ab.length:Int)+3).toNat-(((ab.length+1:Nat):Int)).toNat=2 by omega]
def ztv(fu n:Nat):∀(ab aa out:List UInt8),aa.length<n->ab.length+aa.length<1000000000->out.length+aa.length<=2000000000 ->
  qar fu n (ab++aa) (ab.length:Int) out=some (out++dq aa):=by
 induction n with
 |zero=>intro ab aa out h;omega|succ n ih=>
  intro ab aa out h hb ho
  cases aa with
  |nil=>rw[qar,qp9,ao];simp[dq]|cons c r=>
   simp only[qL]at h hb ho;have one:qar fu n (ab++c::r) ((ab.length+1:Nat):Int) (out++[c])=some (out++c::dq r):=by
    have:=ih (ab++[c]) r (out++[c]) oA oB oB
    simpa using this
   rw[qar,qp9,ag,a7]
   simp only[qB];rw[aq _,ez]
   by_cases q:c=61
   ·subst q;have hl:((ab++61::r).length:Int)=(ab.length:Int)+1+(r.length:Int):=by simp;omega
    have e3:ae ((ab.length:Int)+3)=(ab.length:Int)+3:=bq
    rw[qX rfl,zx7 _ _ _,ag (by rw[hl,e3];split<;>omega)]
    obtain⟨v,h1,h2⟩:=q39 r;rw[h1,qB,qr4,znd]
    cases hp:mu r with
    |none=>
     rw[qW oC,ag oL]
     exact one
    |some x=>
     have hv:=h2 x hp;subst hv
     match r,hp with
     |a::b::t,hp=>
      simp only[qL]at h hb ho;have e2:ae (ae ((ab.length:Int)+2)+1)=((ab.length+3:Nat):Int):=by rw[bq (x:=(ab.length:Int)+2) oA oA,bq];omega
      rw[qX (show(v,(some v).isSome).snd=true from rfl),ag oL,e2]
      have:=ih (ab++[61,a,b]) t (out++[v]) oA oB oB
      simpa using this
   ·rw[qW q,ag oL,one,q17 _ _ q]
def ztu(fu:Nat)(s:List UInt8)(h:s.length<fu:=by omega)(hb:s.length<1000000000:=by omega):qzj fu s=some (dq s):=by
 have:=ztv fu fu [] s [] h (by simpa using hb) oB
 rw[List.nil_append,List.nil_append]at this;exact this
end Go.Sym.Tr
namespace Go.Sym.Tr
def il(n:Nat)(h:n<1000000000):ae (((n+1:Nat):Int)-1)=(n:Int):=by rw[bq];omega
def tg{α:Type}(t:List α)(c:α):ai (t++[c]) (t.length:Int)=some c:=a7 t c []
def rh{α:Type}(t:List α)(c:α):List.take ((t.length:Nat):Int).toNat (t++[c])=t:=oC
def ia{α:Type}(t:List α)(c:α):((t++[c]).length:Int)=((t.length+1:Nat):Int):=oC
def yp(t:List UInt8)(c:UInt8):cq (t++[c])=if bl c then cq t else t++[c]:=by
 unfold cq;rw[List.reverse_append,List.reverse_singleton,wM,List.dropWhile];cases bl c
 ·simp
 ·simp
def qbc:List Bool:=((List.replicate 256 false).set 32 true).set 9 true
def zmy(n:Nat):qx2 (n+3) [32,9]=some (qbc,true):=oD
def zn9:∀n:_root_.Fin 256,qbc[(UInt8.ofNat n.val).toNat]? = some (bl (UInt8.ofNat n.val)):=by decide +kernel
def qe2(c:UInt8):qo8 c qbc=some (bl c,qbc):=by
 unfold qo8;rw[iq (fun c=>qbc[c.toNat]? = some (bl c)) zn9 c,qB]
def q5p(fu n:Nat):∀(s:List UInt8),s.length<n->s.length<1000000000->qjf fu n s qbc=some (cq s,qbc):=by
 induction n with
 |zero=>intro s h;omega|succ n ih=>
  intro s h hb;rw[qjf,qx5];rcases List.eq_nil_or_concat s with rfl|⟨t,c,rfl⟩
  ·rw[ao];rfl
  ·rw[List.concat_eq_append]at *;simp only[qM,qL,qZ]at h hb;rw[ia,ag,il _ oA,tg,qB,qe2,qB,rh,ag,ih t oA oA,yp]
   cases bl c<;>rfl
def q5q(fu:Nat)(hfu:3<=fu)(s:List UInt8)(h:s.length<fu)(hb:s.length<1000000000):qo5 fu s [32,9]=some (cq s):=by
 unfold qo5;rw[eu]
 cases s with
 |nil=>rfl|cons c s=>
  rw[qW oB]
  unfold qo6;rw[au oE]
  unfold qx0;rw[au oE]
  unfold qo7;rw[au rfl];unfold qx1;obtain⟨n,rfl⟩:∃n,fu=n+3:=⟨fu-3,oA⟩
  rw[zmy n,qB,ar (by decide +kernel),ar rfl]
  unfold qx4;rw[q5p _ _ _ h hb];rfl
def zcr(s:List UInt8)(k:UInt8)(hb:s.length<1000000000:=by omega):qdw s [k]=some (decide (s.getLast? = some k)):=by
 unfold qdw qo4;rcases List.eq_nil_or_concat s with rfl|⟨t,c,rfl⟩
 ·rw[ao];rfl
 ·rw[List.concat_eq_append]at *;simp only[qM,qL,qZ]at hb;rw[ia,show(([k]:List UInt8).length:Int)=1 from rfl,il _ oA,ag,ag,qB]
  have e:List.drop ((t.length:Nat):Int).toNat (t++[c])=[c]:=nv t [c];rw[e,List.getLast?_concat];congr 1;rw[Bool.eq_iff_iff];simp
def qud(s:List UInt8)(k:UInt8)(hb:s.length<1000000000):qah s [k]=some (if s.getLast? = some k then s.dropLast else s):=by
 unfold qah;rw[zcr s k hb,qB,bn];by_cases q:s.getLast? = some k
 ·rw[qX q,qX q];rcases List.eq_nil_or_concat s with rfl|⟨t,c,rfl⟩
  ·cases q
  ·rw[List.concat_eq_append]at *;simp only[qM,qL,qZ]at hb;rw[ia,show(([k]:List UInt8).length:Int)=1 from rfl,il _ oA,ag,rh,List.dropLast_concat]
 ·rw[qW q,qW q]
def xv(t r:List UInt8)(h:∀x∈t,x≠10):Lib.indexByte (t++10::r) 10=(t.length:Int):=by
 induction t with
 |nil=>rfl|cons c t ih=>
  have hc:=h c qH;rw[wK,Lib.indexByte,ih (fun x hx=>h x (qE _ hx)),qW (by simpa using hc),qW (by simp<;>omega)]
  simp
def xw(t:List UInt8)(h:∀x∈t,x≠10):Lib.indexByte t 10 = -1:=by
 induction t with
 |nil=>rfl|cons c t ih=>
  have hc:=h c qH;rw[Lib.indexByte,ih (fun x hx=>h x (qE _ hx)),qW (by simpa using hc),qX oE]
def q5a:∀(s:List UInt8),(∃t r,s=t++10::r/\∀x∈t,x≠10)\/∀x∈s,x≠10
 |[] => .inr (fun _ h=>by cases h)
 |c::s=>by
  by_cases k:c=10
  ·exact .inl ⟨[],s,by rw[k];rfl,fun _ h=>by cases h⟩
  ·rcases q5a s with⟨t,r,rfl,h⟩|h
   ·exact .inl ⟨c::t,r,rfl,fun x hx=>by
     rcases List.mem_cons.1 hx with rfl|hx
     ·exact k
     ·exact h x hx⟩
   ·exact .inr (fun x hx=>by
     rcases List.mem_cons.1 hx with rfl|hx
     ·exact k
     ·exact h x hx)
def zez(t r:List UInt8)(h:∀x∈t,x≠10):qm [] (t++10::r)=ml t true++qm [] r:=by
 rw[zex t [] _ h,List.nil_append,qm,qX rfl]
def zey(t:List UInt8)(h:∀x∈t,x≠10):qm [] t=ml t false:=by
 have:=zex t [] [] h;rw[List.append_nil,List.nil_append]at this;rw[this];rfl
def qr5:∀(n:Nat)(s:List UInt8),s.length<=n->(dq s).length<=s.length:=by
 intro n
 induction n with
 |zero=>intro s h;have:s=[]:=List.eq_nil_of_length_eq_zero oA;subst this;exact wF _|succ n ih=>
  intro s h
  match s with
  |[]=>exact wF _|c::r=>
   simp only[qL]at h;have h1:=ih r oA
   by_cases k:c=61
   ·subst k;rw[qr4]
    cases mu r with
    |none=>simp only[qL];omega|some x=>
     have h2:=ih (r.drop 2) oB
     simp only[qL,List.length_drop]at h2 ⊢;omega
   ·rw[q17 _ _ k];simp only[qL];omega
def qf5(s:List UInt8):(cq s).length<=s.length:=by
 unfold cq;rw[List.length_reverse];have:=(List.dropWhile_sublist bl (l:=s.reverse)).length_le;simpa using this
def q3g(fu:Nat)(hfu:3<=fu)(r0:List UInt8->(Int×Int)->List UInt8->Option ((Int×Int)×List UInt8))(u e r:List UInt8)(m16:Int×Int)(out:List UInt8)(h:u.length<fu)(hb:u.length+e.length+r.length<1000000000)(ho:out.length+u.length+e.length<=2000000000) :
  qke fu r0 (u++e++r) ((u.length+e.length:Nat):Int) u m16 out=r0 r m16 (out++lnT (cq u) e):=by
 unfold qke;have hl:=qf5 u;have p3:∀v e',v.length<=u.length->e'.length<=e.length->qkf fu r0 (u++e++r) ((u.length+e.length:Nat):Int) v e' m16 out=r0 r m16 (out++(dq v++e')):=by
  intro v e' hv he;have hd:=qr5 _ v (wF _);unfold qkf;rw[ztu fu v,qB,ag oL,ag oL,ag]
  have ed:List.drop ((u.length+e.length:Nat):Int).toNat (u++e++r)=r:=by
   have:=nv (u++e) r;rw[qM]at this;exact this
  rw[ed,qS]
 rw[ag,q5q fu hfu u h oA,qB,ag,zcr _ _,qB,bn]
 unfold lnT;by_cases q:(cq u).getLast? = some 61
 ·rw[qX q,qX q];revert hl q;rcases List.eq_nil_or_concat (cq u) with e0|⟨t,c,e0⟩
  ·intro _ q;rw[e0]at q;cases q
  ·rw[e0,List.concat_eq_append];intro hl q;simp only[qM,qL,qZ]at hl;rw[ia,il _ oA,ag,rh,List.dropLast_concat,p3 t [] oA oC,List.append_nil]
 ·rw[qW q,qW q];have et:List.take (((u.length+e.length:Nat):Int).toNat-(u.length:Int).toNat) (List.drop (u.length:Int).toNat (u++e++r))=e:=by
   rw[qS,nv,show((u.length+e.length:Nat):Int).toNat-(u.length:Int).toNat=e.length by omega]
   simp
  rw[et,p3 (cq u) e hl (wF _)]
def zrx(fu:Nat)(hfu:3<=fu)(r0:List UInt8->(Int×Int)->List UInt8->Option ((Int×Int)×List UInt8))(t r:List UInt8)(m16:Int×Int)(out:List UInt8)(h:t.length<fu:=by omega)(hb:t.length+r.length+2<1000000000:=by omega)(ho:out.length+t.length+2<=2000000000:=by omega) :
  qaq fu r0 (t++10::r) ((t.length+1:Nat):Int) m16 out=r0 r m16 (out++ml t true):=by
 unfold qaq;have et:List.take ((t.length+1:Nat):Int).toNat (t++10::r)=t++[10]:=by
  rw[show t++10::r=(t++[10])++r by simp,show((t.length+1:Nat):Int).toNat=(t++[10]).length by simp,List.take_left]
 rw[ag,ag,et,qud _ _ oB,qB,qX oC,List.dropLast_concat,ag,ag,qud _ _ oA,qB]
 unfold ml lnE;rw[qX rfl];by_cases q:t.getLast? = some 13
 ·rw[qX q,qX q];revert q h hb ho;rcases List.eq_nil_or_concat t with rfl|⟨u,c,rfl⟩
  ·intro _ _ _ q;cases q
  ·rw[List.concat_eq_append];intro h hb ho q;have:c=13:=by simpa using q
   subst this;simp only[qM,qL,qZ]at h hb ho;rw[List.dropLast_concat];have:=q3g fu hfu r0 u [13,10] r m16 out oA oB oB
   have e1:(u++[(13:UInt8)]).length+1=u.length+([13,10]:List UInt8).length:=oC
   have e2:u++[(13:UInt8)]++10::r=u++[13,10]++r:=oC
   rw[e1,e2];exact this
 ·rw[qW q,qW q];have:=q3g fu hfu r0 t [10] r m16 out oA oB oB
  simpa using this
def zrw(fu:Nat)(hfu:3<=fu)(r0:List UInt8->(Int×Int)->List UInt8->Option ((Int×Int)×List UInt8))(t:List UInt8)(h10:∀x∈t,x≠10)(m16:Int×Int)(out:List UInt8)(h:t.length<fu)(hb:t.length<1000000000)(ho:out.length+t.length<=2000000000) :
  qaq fu r0 t (t.length:Int) m16 out=r0 [] m16 (out++ml t false):=by
 unfold qaq;have e1:List.take (t.length:Int).toNat t=t:=oC
 have hn:t.getLast? ≠ some 10:=by
  intro q;exact h10 10 (List.mem_of_getLast? q) rfl
 rw[ag,ag,e1,qud _ _ hb,qB,qW hn,ao]
 have:=q3g fu hfu r0 t [] [] m16 out h oB oB
 simpa [ml,lnE] using this
def lnO_len(t:List UInt8)(nl:Bool):(ml t nl).length<=t.length+nl.toNat:=by
 unfold ml lnT lnE;have key:∀u e:List UInt8,(if(cq u).getLast? = some 61 then dq (cq u).dropLast else dq (cq u)++e).length<=u.length+e.length:=by
  intro u e;have h1:=qf5 u;split
  ·have:=qr5 _ (cq u).dropLast (wF _);rw[List.length_dropLast]at this;omega
  ·have:=qr5 _ (cq u) (wF _);rw[qM];omega
 refine Nat.le_trans (key _ _) ?_
 cases nl with
 |false=>simp|true=>
  rw[qX rfl];by_cases q:t.getLast? = some 13
  ·rw[qX q];have:0<t.length:=by
    cases t with
    |nil=>cases q
    |cons _ _=>simp
   simp;omega
  ·rw[qW q];simp
def zuj(fu n:Nat)(hfu:3<=fu)(m16:Int×Int):∀(s out:List UInt8),s.length<n->s.length<fu->s.length<100000000->out.length+s.length<=1000000000 ->
  qkd fu n s m16 out=some ((0,0),out++qm [] s):=by
 induction n with
 |zero=>intro s out h;omega|succ n ih=>
  intro s out h hf hb ho;rw[qkd,qzi];rcases q5a s with⟨t,r,rfl,h10⟩|h10
  ·simp only[qM,qL]at h hf hb ho;have ac:=lnO_len t true;simp only[Bool.toNat_true]at ac;rw[ag,show qdx (t++10::r) 10=some (Lib.indexByte (t++10::r) 10) from rfl,qB,xv t r h10,aq _,eu,qW oA]
   rw[zrx fu hfu _ t r m16 out,ih r _ oA oA oA oP,zez t r h10,qS]
  ·cases s with
   |nil=>rw[ao];simp[dx,show qm [] []=[] from rfl]|cons c s=>
    have ac:=lnO_len (c::s) false;simp only[Bool.toNat_false]at ac;rw[ag (by simp<;>omega),show qdx (c::s) 10=some (Lib.indexByte (c::s) 10) from rfl,qB,xw _ h10,eu,qX oE]
    rw[zrw fu hfu _ (c::s) h10 m16 out hf oA oA]
    have hn:0<n:=by simp only[qL]at h;omega
    rw[ih [] _ (by simpa using hn) oB oC (by rw[qM];simp only[qZ];omega),zey _ h10]
    have:qm [] []=[]:=rfl;rw[this,List.append_nil]
def zui(fu:Nat)(s:List UInt8)(hf:s.length+3<fu:=by omega)(hb:s.length<=48000:=by omega):qp8 fu s=some ((0,0),qm [] s):=by
 unfold qp8;rw[ao]
 have:=zuj fu fu oA (0,0) s [] oA oA oA oB
 rw[List.nil_append]at this;exact this
end Go.Sym.Tr
namespace Go.Sym.Tr
def zr5(c:UInt8):lz c=some (bl c):=by
 unfold lz bl;cases h:c==32<;>rfl
def zqe(a b:UInt8):hx a b=none\/∃x y:UInt8,gh a=(x.toNat:Int)/\gh b=(y.toNat:Int)/\x.toNat<16/\y.toNat<16/\hx a b=some (16*x+y):=by
 unfold hx gh
 cases ha:hv a with
 |none=>exact .inl rfl|some x=>
  cases hb:hv b with|none=>exact .inl rfl|some y=>exact .inr ⟨x,y,rfl,rfl,vd a x ha,vd b y hb,rfl⟩
def zqd(a b:UInt8)(h:hx a b=none):¬(0<=gh a/\0<=gh b):=by
 unfold hx at h;unfold gh
 cases ha:hv a with
 |none=>intro q;have:=q.1;simp at this|some x=>
  cases hb:hv b with|none=>intro q;have:=q.2;simp at this|some y=>rw[ha,hb]at h;cases h
def q3n(fu:Nat)(r0:List UInt8->Int->List UInt8->Option (List UInt8))(r11:List UInt8->Int->Int->Int->Bool->Int->List UInt8->Option (List UInt8))(s0:List UInt8)(s5 s6 s7:Int)(s8:Bool)(i:Nat)(c:UInt8)(out:List UInt8)(hi:ai s0 (i:Int)=some c)(hl:i<1000000000:=by omega)(ho:out.length<2000000000:=by omega) :
  ug fu r0 r11 s0 s5 s6 s7 s8 (i:Int) false out=r11 s0 s5 s6 s7 s8 ((i+1:Nat):Int) (out++[c]):=by
 unfold ug;rw[au rfl,hi,qB,ag oL]
 unfold qhq;rw[aq _]
def zcv(ab:List UInt8)(c a b:UInt8)(r:List UInt8):ai (ab++c::a::b::r) ((ab.length+1:Nat):Int)=some a/\ai (ab++c::a::b::r) ((ab.length+2:Nat):Int)=some b:=by
 constructor
 ·have:=a7 (ab++[c]) a (b::r);simpa using this
 ·have:=a7 (ab++[c,a]) b r;simpa using this
def zr0(fu:Nat)(hfu:17<fu)(r0:List UInt8->Int->List UInt8->Option (List UInt8))(s5 s6:Int)(s8:Bool)(tlz:List UInt8):∀(n:Nat)(ab y out:List UInt8),y.length<n->ab.length+y.length<100000000->out.length+y.length<1000000000 ->
  ∃m,ow fu r0 n (ab++(y++tlz)) s5 s6 ((ab.length+y.length:Nat):Int) s8 (ab.length:Int) out=ow fu r0 (m+1) (ab++(y++tlz)) s5 s6 ((ab.length+y.length:Nat):Int) s8 ((ab.length+y.length:Nat):Int) (out++dq y):=by
 intro n
 induction n with
 |zero=>intro ab y out h;omega|succ n ih=>
  intro ab y out h hb ho
  cases y with
  |nil=>exact⟨n,by simp[dq]⟩|cons c y=>
   simp only[qL]at h hb ho ⊢;have hi:ai (ab++((c::y)++tlz)) (ab.length:Int)=some c:=a7 ab c (y++tlz);have one:∃m,ow fu r0 n (ab++(c::y++tlz)) s5 s6 ((ab.length+(y.length+1):Nat):Int) s8 ((ab.length+1:Nat):Int) (out++[c])=ow fu r0 (m+1) (ab++(c::y++tlz)) s5 s6 ((ab.length+(y.length+1):Nat):Int) s8 ((ab.length+(y.length+1):Nat):Int) (out++c::dq y):=by
    obtain⟨m,hm⟩:=ih (ab++[c]) y (out++[c]) oA oB oB
    refine⟨m,?_⟩;simp only[qM,qL,qZ,wO,qS,wK,List.nil_append]at hm ⊢;rw[show ab.length+(y.length+1)=ab.length+1+y.length by omega]
    exact hm
   have e1:ae ((ab.length:Int)+1)=((ab.length+1:Nat):Int):=aq _
   have e2:ae ((ab.length:Int)+2)=((ab.length+2:Nat):Int):=by rw[bq];omega
   rw[ow,qn5,ag,hi,qB,ez,e1,e2]
   by_cases q:c=61
   ·subst q;rw[qX rfl,bn];by_cases k:ab.length+2<ab.length+(y.length+1)
    ·rw[qX oA]
     obtain⟨a,b,y,rfl⟩:∃a b z,y=a::b::z:=by
      match y,k with|[],k=>exact absurd k oC|[_],k=>exact absurd k oC|a::b::z,_=>exact⟨a,b,z,rfl⟩
     have h1:=(zcv ab 61 a b (y++tlz)).1;have h2:=(zcv ab 61 a b (y++tlz)).2;have e0:ab++(61::a::b::y++tlz)=ab++61::a::b::(y++tlz):=rfl;rw[e0,h1,qB,tr fu hfu,qB,bn];simp only[qL]at h hb ho one ⊢;rcases zqe a b with hn|⟨x,z,ha,hz,hx16,hz16,hs⟩
     ·have hnn:=zqd a b hn;have ed:dq (61::a::b::y)=61::dq (a::b::y):=by rw[qr4,show mu (a::b::y)=hx a b from rfl,hn]
      rw[ed];have fin:∃m,ug fu r0 (ow fu r0 n) (ab++61::a::b::(y++tlz)) s5 s6 ((ab.length+(y.length+1+1+1):Nat):Int) s8 (ab.length:Int) false out=ow fu r0 (m+1) (ab++61::a::b::(y++tlz)) s5 s6 ((ab.length+(y.length+1+1+1):Nat):Int) s8 ((ab.length+(y.length+1+1+1):Nat):Int) (out++61::dq (a::b::y)):=by
       rw[q3n fu r0 _ _ _ _ _ _ _ _ _ (show ai (ab++61::a::b::(y++tlz)) (ab.length:Int)=some 61 from hi)]
       exact one
      by_cases ka:0<=gh a
      ·rw[qX ka,h2,qB,tr fu hfu,qB,decide_eq_false (fun kb=>hnn ⟨ka,kb⟩)]
       exact fin
      ·rw[qW ka];exact fin
     ·have ed:dq (61::a::b::y)=(16*x+z)::dq y:=zow _ _ _ _ hs;rw[ed,qX oA,h2,qB,tr fu hfu,qB,decide_eq_true oA]
      unfold ug;rw[ar rfl,e1,e2,h1,qB,tr fu hfu,qB,h2,qB,tr fu hfu,qB,ha,hz,(qm3 x z hx16 hz16).2,ag oL]
      unfold qhq;rw[aq _]
      obtain⟨m,hm⟩:=ih (ab++[61,a,b]) y (out++[16*x+z]) oA oB oB
      refine⟨m,?_⟩;simp only[qM,qL,qZ,wO,qS,wK,List.nil_append]at hm ⊢;rw[show ab.length+(y.length+1+1+1)=ab.length+(1+1+1)+y.length by omega]
      exact hm
    ·rw[qW oA,q3n fu r0 _ _ _ _ _ _ _ _ _ hi]
     have ed:dq (61::y)=61::dq y:=by
      rw[qr4]
      match y,k with|[],_=>rfl|[_],_=>rfl|_::_::_,k=>exact absurd oG k
     rw[ed];exact one
   ·rw[qW q,q3n fu r0 _ _ _ _ _ _ _ _ _ hi,q17 _ _ q]
    exact one
def zr2(fu:Nat)(r0:List UInt8->Int->List UInt8->Option (List UInt8))(ab u e r:List UInt8)(nl:Bool)(stop:Nat)(hs:stop+nl.toNat=ab.length+u.length+e.length)(hn:nl=false->e=[]/\r=[])(m:Nat)(s7:Int)(s8:Bool)(out:List UInt8)(hb:ab.length+u.length+e.length<100000000)(ho:out.length+e.length<1000000000) :
  ow fu r0 (m+1) (ab++(u++(e++r))) (stop:Int) ((ab.length+u.length:Nat):Int) s7 s8 s7 out=r0 (ab++(u++(e++r))) ((stop+1:Nat):Int) (out++if s8 then[] else e):=by
 rw[ow,qn5,ao]
 have ac:((ab++(u++(e++r))).length:Int)=(ab.length:Int)+u.length+e.length+r.length:=by simp;omega
 cases nl with
 |false=>
  obtain⟨rfl,rfl⟩:=hn rfl;simp only[qZ,Nat.add_zero,Bool.toNat_false]at hs;rw[ao (by rw[ac];simp;omega),aq _]
  cases s8<;>simp
 |true=>
  simp only[Bool.toNat_true]at hs;rw[ag (by rw[ac];omega),aq _]
  cases s8 with
  |true=>rw[au (show(!true)=false from rfl)];simp|false=>
   have et:List.take (((stop+1:Nat):Int).toNat-((ab.length+u.length:Nat):Int).toNat) (List.drop ((ab.length+u.length:Nat):Int).toNat (ab++(u++(e++r))))=e:=by
    have:=nv (ab++u) (e++r);rw[qM,qS]at this;rw[this,show((stop+1:Nat):Int).toNat-((ab.length+u.length:Nat):Int).toNat=e.length by omega,List.take_left]
   rw[ar (show(!false)=true from rfl),et,ag (by rw[ac];omega),ag oL];rfl
def zr1(fu:Nat)(r0:List UInt8->Int->List UInt8->Option (List UInt8))(ab:List UInt8)(s5 s6:Int)(out:List UInt8):∀(n:Nat)(v tlz:List UInt8),v.length<n->ab.length+v.length<100000000 ->
  qhs fu r0 n (ab++(v++tlz)) (ab.length:Int) s5 s6 ((ab.length+v.length:Nat):Int) out=qcy fu r0 (fun _ _ _ _ _ _=>none) (ab++(v++tlz)) (ab.length:Int) s5 s6 ((ab.length+(cq v).length:Nat):Int) false out:=by
 intro n
 induction n with
 |zero=>intro v tlz h;omega|succ n ih=>
  intro v tlz h hb;rw[qhs,qvu];rcases List.eq_nil_or_concat v with rfl|⟨t,c,rfl⟩
  ·rw[ao];rfl
  ·rw[List.concat_eq_append]at *;simp only[qM,qL,qZ]at h hb ⊢;have hi:ai (ab++(t++[c]++tlz)) ((ab.length+t.length:Nat):Int)=some c:=by
    have:=a7 (ab++t) c tlz;simpa using this
   have ew:ae (((ab.length+(t.length+(0+1)):Nat):Int)-1)=((ab.length+t.length:Nat):Int):=by rw[bq];omega
   rw[ag,ew,hi,qB,zr5,qB,yp]
   cases hbl:bl c with
   |false=>
    simp only[wJ,if_false,qM,qL,qZ];rfl
   |true=>
    rw[qX rfl];unfold qcy;rw[ar rfl];unfold qvw;rw[ew];have:=ih t ([c]++tlz) oA oA
    rw[← qS t]at this;rw[this];rfl
def zwc(u:List UInt8):∃w,u=cq u++w:=by
 unfold cq;refine⟨(u.reverse.takeWhile bl).reverse,?_⟩;rw[← List.reverse_append,List.takeWhile_append_dropWhile,List.reverse_reverse]
def q3o(fu:Nat)(hfu:17<fu)(r0:List UInt8->Int->List UInt8->Option (List UInt8))(ab u e r:List UInt8)(nl:Bool)(stop:Nat)(hs:stop+nl.toNat=ab.length+u.length+e.length)(hn:nl=false->e=[]/\r=[])(out:List UInt8)(hf:u.length<fu)(hb:ab.length+u.length+e.length<100000000)(ho:out.length+u.length+e.length<1000000000) :
  qhr fu r0 (ab++(u++(e++r))) (ab.length:Int) (stop:Int) ((ab.length+u.length:Nat):Int) out=r0 (ab++(u++(e++r))) ((stop+1:Nat):Int) (out++lnT (cq u) e):=by
 unfold qhr;rw[zr1 fu r0 ab _ _ out fu u (e++r) hf oA]
 have hrl:=qf5 u;have text:∀y w s8,u=y++w->qhp fu r0 (ab++(u++(e++r))) (ab.length:Int) (stop:Int) ((ab.length+u.length:Nat):Int) ((ab.length+y.length:Nat):Int) s8 out=r0 (ab++(u++(e++r))) ((stop+1:Nat):Int) (out++dq y++if s8 then[] else e):=by
  intro y w s8 hu;have hyl:y.length<=u.length:=by rw[hu];simp
  have hdl:=qr5 _ y (wF _);unfold qhp;obtain⟨m,hm⟩:=zr0 fu hfu r0 (stop:Int) ((ab.length+u.length:Nat):Int) s8 (w++(e++r)) fu ab y out oA oA oA
  rw[← qS y,← hu]at hm;rw[hm,zr2 fu r0 ab u e r nl stop hs hn m _ s8 (out++dq y) hb oP]
 obtain⟨w,hw⟩:=zwc u;unfold qcy lnT;rw[au rfl];revert hw hrl;generalize cq u=v;intro hvl hw;rcases List.eq_nil_or_concat v with rfl|⟨t,c,rfl⟩
 ·rw[ao,qW oC]
  unfold qht;rw[au rfl,text [] w false hw];simp
 ·rw[List.concat_eq_append]at *;simp only[qM,qL,qZ]at hvl ⊢;have hi:ai (ab++(u++(e++r))) ((ab.length+t.length:Nat):Int)=some c:=by
   have:=a7 (ab++t) c (w++(e++r));rw[hw];simpa using this
  have ew:ae (((ab.length+(t.length+(0+1)):Nat):Int)-1)=((ab.length+t.length:Nat):Int):=by rw[bq];omega
  rw[ag,ew,hi,qB,List.getLast?_concat]
  unfold qht;by_cases q:c=61
  ·subst q;rw[ar,qX rfl,List.dropLast_concat,ew]
   have:=text t ([61]++w) true (by rw[hw];simp)
   rw[show((61:UInt8)==61)=true from rfl,this];simp
  ·have qb:(c==61)=false:=by simp[q]
   rw[qb,au rfl,qW (by simpa using q)]
   have:=text (t++[c]) w false hw;rw[qM]at this;simp only[qL,qZ]at this;rw[this];simp
def zde(fu:Nat)(r0:List UInt8->Int->List UInt8->Option (List UInt8))(pos:Int)(out tlz:List UInt8)(ht:tlz=[]\/∃r,tlz=10::r):∀(n:Nat)(ab t:List UInt8),t.length<n->ab.length+t.length<100000000->(∀x∈t,x≠10) ->
  zk fu r0 n (ab++(t++tlz)) pos (ab.length:Int) out=zl fu r0 (fun _ _ _ _=>none) (ab++(t++tlz)) pos ((ab.length+t.length:Nat):Int) false out:=by
 intro n
 induction n with
 |zero=>intro ab t h;omega|succ n ih=>
  intro ab t h hb h10;rw[zk,qvt]
  cases t with
  |nil=>
   rcases ht with rfl|⟨r,rfl⟩
   ·rw[ao];rfl
   ·rw[ag,List.nil_append,a7,qB];rfl
  |cons c t=>
   have hc:=h10 c qH;simp only[qL]at h hb ⊢;have hi:ai (ab++(c::t++tlz)) (ab.length:Int)=some c:=a7 ab c (t++tlz);rw[ag,hi,qB]
   have hcb:(c != 10)=true:=by simpa using hc
   rw[hcb]
   conv=>lhs;unfold zl
   rw[ar rfl];unfold qvv;rw[aq _]
   have:=ih (ab++[c]) t oA oB (fun x hx=>h10 x (qE _ hx))
   simp only[qM,qL,qZ,wO,qS,wK,List.nil_append]at this ⊢;rw[this,show ab.length+1+t.length=ab.length+(t.length+1) by omega]
def zr4(fu:Nat)(hfu:17<fu)(r0:List UInt8->Int->List UInt8->Option (List UInt8))(ab t r:List UInt8)(out:List UInt8)(h10:∀x∈t,x≠10)(hf:t.length<fu:=by omega)(hb:ab.length+t.length+2<100000000:=by omega)(ho:out.length+t.length+2<1000000000:=by omega) :
  zk fu r0 fu (ab++(t++10::r)) (ab.length:Int) (ab.length:Int) out=r0 (ab++(t++10::r)) ((ab.length+t.length+1:Nat):Int) (out++ml t true):=by
 rw[zde fu r0 _ out (10::r) (.inr ⟨r,rfl⟩) fu ab t hf oA h10]
 unfold zl;rw[au rfl,ag]
 unfold ml lnE;rw[qX rfl];have plainE:=q3o fu hfu r0 ab t [10] r true (ab.length+t.length) oC (fun q=>by cases q) out hf oB oB
 rcases List.eq_nil_or_concat t with rfl|⟨u,c,rfl⟩
 ·rw[ao,qW oC]
  unfold zm;rw[au rfl];exact plainE
 ·rw[List.concat_eq_append]at *;have hi:ai (ab++(u++[c]++10::r)) ((ab.length+u.length:Nat):Int)=some c:=by
   have:=a7 (ab++u) c (10::r);simpa using this
  simp only[qM,qL,qZ]at hf hb ho plainE ⊢;have ew:ae (((ab.length+(u.length+(0+1)):Nat):Int)-1)=((ab.length+u.length:Nat):Int):=by rw[bq];omega
  rw[ag,ew,hi,qB,List.getLast?_concat]
  unfold zm;by_cases q:c=13
  ·subst q;rw[ar,qX rfl,List.dropLast_concat,ew]
   have:=q3o fu hfu r0 ab u [13,10] r true (ab.length+(u.length+(0+1))) oB (fun q=>by cases q) out oA oB oB
   simpa using this
  ·have qb:(c==13)=false:=by simp[q]
   rw[qb,au rfl,qW (by simpa using q)]
   exact plainE
def zr3(fu:Nat)(hfu:17<fu)(r0:List UInt8->Int->List UInt8->Option (List UInt8))(ab t:List UInt8)(out:List UInt8)(h10:∀x∈t,x≠10)(hf:t.length<fu)(hb:ab.length+t.length+2<100000000)(ho:out.length+t.length+2<1000000000) :
  zk fu r0 fu (ab++t) (ab.length:Int) (ab.length:Int) out=r0 (ab++t) ((ab.length+t.length+1:Nat):Int) (out++ml t false):=by
 have h1:=zde fu r0 (ab.length:Int) out [] (.inl rfl) fu ab t hf oA h10
 rw[List.append_nil]at h1;rw[h1];unfold zl;rw[au rfl,ao]
 unfold zm;rw[au rfl];have:=q3o fu hfu r0 ab t [] [] false (ab.length+t.length) oC (fun q=>⟨rfl,rfl⟩) out hf oB oB
 rw[List.append_nil,List.append_nil]at this;rw[this];rfl
def zrz(fu n:Nat)(hfu:17<fu):∀(ab aa out:List UInt8),aa.length<n->aa.length<fu->ab.length+aa.length+2<100000000->out.length+aa.length+2<1000000000 ->
  qcx fu n (ab++aa) (ab.length:Int) out=some (out++qm [] aa):=by
 induction n with
 |zero=>intro ab aa out h;omega|succ n ih=>
  intro ab aa out h hf hb ho;rw[qcx,qn4];rcases q5a aa with⟨t,r,rfl,h10⟩|h10
  ·simp only[qM,qL]at h hf hb ho;have ac:=lnO_len t true;simp only[Bool.toNat_true]at ac;rw[ag,zr4 fu hfu _ ab t r out h10]
   have:=ih (ab++t++[10]) r (out++ml t true) oA oA oB oP
   simp only[qM,qL,qZ,wO,qS,wK,List.nil_append]at this;rw[← Nat.add_assoc]at this;rw[this,zez t r h10]
  ·cases aa with
   |nil=>rw[ao];simp;rfl|cons c s=>
    have hn:∃k,n=k+1:=⟨n-1,by simp only[qL]at h;omega⟩
    obtain⟨k,rfl⟩:=hn;rw[ag,zr3 fu hfu _ ab (c::s) out h10 hf oA oA,zey _ h10,qcx,qn4,ao]
def rlq_eq(fu:Nat)(s:List UInt8)(hf:s.length+20<fu)(hb:s.length<=48000):qvs fu s=some (qm [] s):=by
 have:=zrz fu fu oA [] s [] oA oA oB oB
 rw[List.nil_append,List.nil_append]at this;exact this
end Go.Sym.Tr
namespace Go.Sym.Tr
def decR(b name:List UInt8):(Int×Int)×List UInt8:=
 if cod name = -1 then((18,-3),[]) else if 12000<b.length then((1,-1),[]) else
 if cod name=0 then((0,0),b) else if cod name=1 then((0,0),b) else
 if cod name=2 then((0,0),by8 (dbits b)) else((0,0),qm [] b)
def decode_eq(fu:Nat)(b name:List UInt8)(hf:100000+name.length<fu)(hn:name.length<=maxLen):qkr fu b name=some (decR b name):=by
 unfold qkr qz4;rw[zpn fu name oA oA hn]
 simp only[qB,cn,dx,fv];unfold decR;rcases cod_cases name with h|h|h|h|h<;>rw[h]
 ·by_cases hl:12000<b.length
  ·have hi:(12000:Int)<(b.length:Int):=oA
   simp[be,hl,hi]
  ·have hi:¬(12000:Int)<(b.length:Int):=oA
   simp[be,hl,hi,za6 b]
 ·by_cases hl:12000<b.length
  ·have hi:(12000:Int)<(b.length:Int):=oA
   simp[be,hl,hi]
  ·have hi:¬(12000:Int)<(b.length:Int):=oA
   simp[be,hl,hi,za6 b]
 ·by_cases hl:12000<b.length
  ·have hi:(12000:Int)<(b.length:Int):=oA
   simp[be,hl,hi]
  ·have hi:¬(12000:Int)<(b.length:Int):=oA
   simp[be,hl,hi,zrq fu b]
 ·by_cases hl:12000<b.length
  ·have hi:(12000:Int)<(b.length:Int):=oA
   simp[be,hl,hi]
  ·have hi:¬(12000:Int)<(b.length:Int):=oA
   simp[be,hl,hi,zui fu b]
 ·simp[be]
end Go.Sym.Tr
namespace Go.Sym
abbrev gf:Bs:=[67,111,110,116,101,110,116,45,84,114,97,110,115,102,101,114,45,69,110,99,111,100,105,110,103]
abbrev zkp:Type:=Bs->Bs->(Int×Int)×Bs
def ir(dec:zkp):List Bs->Bs->Bs|[],b=>(dec b [55,98,105,116]).2|v::vs,b=>if(dec b v).1.1≠18 then(dec b v).2 else ir dec vs b
-- lengths
def zbh:∀l:Bs,(Tr.dbits l).length<=6*l.length
 |[]=>by simp[Tr.dbits]|c::r=>by
  have:=zbh r;rw[Tr.dbits];split
  ·simp
  ·split
   ·simp only[qL];omega
   ·have h6:∀v,(Tr.six v).length=6:=fun v=>rfl
    rw[qM,h6,qL];omega
def q4m:∀(l acc:Bs),(Tr.qm acc l).length<=acc.length+l.length
 |[],acc=>by rw[Tr.qm];have:=Tr.lnO_len acc false;simp only[Bool.toNat_false]at this;simp only[qZ];omega|c::r,acc=>by
  rw[Tr.qm];split
  ·have h1:=Tr.lnO_len acc true;have h2:=q4m r [];simp only[Bool.toNat_true]at h1;simp only[qZ]at h2;rw[qM,qL];omega
  ·have:=q4m r (acc++[c]);rw[qM,wD]at this;rw[qL];omega
def zoc(fu n:Nat)(hfu:90000000<=fu)(t:TP):∀(ab aa:List bp),aa.length<n->ab.length+aa.length<100000000->(∀x∈aa,x.1.length<=4000000/\x.2.length<=4000000) ->
  qks fu n (ab++aa) ((ab.length+aa.length:Nat):Int) (ab.length:Int) t=some (ir Tr.decR (bu aa gf) t.val.2):=by
 induction n with
 |zero=>intro ab aa h;omega|succ n ih=>
  intro ab aa h hb hs;rw[qks,qz5];simp only[c8]
  cases aa with
  |nil=>
   rw[ao,Tr.decode_eq fu t.val.2 _ oB (by simp[maxLen]),qB]
   rfl
  |cons y aa=>
   simp only[qL]at h hb;obtain⟨y1,y2⟩:=hs y qH;rw[ag oG,a7,qB,kq fu hfu _ _ y1 oC,qB,aq _,y9]
   have ih:=ih (ab++[y]) aa oA oB (fun x hx=>hs x (qE _ hx))
   simp only[qM,qL,qZ,qS,wM,wO]at ih;rw[show ab.length+(y::aa).length=ab.length+1+aa.length by simp only[qL];omega]
   cases e:lk y.1 gf
   ·rw[da,qW (by show ¬lk y.1 gf=true;rw[e];simp)]
    exact ih
   ·rw[bt,qX (show(y.1.map lo==gf.map lo)=true from e),Tr.decode_eq fu t.val.2 y.2 oA oN,qB,ip,ir]
    by_cases h18:(Tr.decR t.val.2 y.2).1.1≠18
    ·rw[qX h18,qX h18]
    ·rw[qW h18,qW h18];exact ih
def zob(fu:Nat)(hfu:90000000<=fu)(t:TP)(hl:t.val.1.length<=4000000)(hs:∀x∈t.val.1,x.1.length<=4000000/\x.2.length<=4000000):qqv fu t=some (ir Tr.decR (bu t.val.1 gf) t.val.2):=by
 unfold qqv;simp only[c8];have:=zoc fu fu hfu t [] t.val.1 oA oB hs
 simpa using this
def qmn:∀l:List Int,(cz l).length<=4*l.length
 |[]=>by simp[cz]|x::l=>by
  have:=qmn l;have hx:(cg x).length<=4:=by
   unfold cg Utf8.encode;simp only[]
   repeat' split
   all_goals simp[ByteArray.size]
  have e:cz (x::l)=cg x++cz l:=by simp[cz]
  rw[e,qM,qL];omega
def zww(s:Bs):(fj s).length<=s.length:=q45 s s.length 0
open Go.Lib (decodeL decodeL_le decodeL_width)
def qfd(c:Nat):Bs:=if c<128 then[UInt8.ofNat c] else if c<2048 then[UInt8.ofNat (192+c/64),UInt8.ofNat (128+c%64)] else if c<65536 then[UInt8.ofNat (224+c/4096),UInt8.ofNat (128+c/64%64),UInt8.ofNat (128+c%64)] else[UInt8.ofNat (240+c/262144),UInt8.ofNat (128+c/4096%64),UInt8.ofNat (128+c/64%64),UInt8.ofNat (128+c%64)]
def q4q(r:Int):cg r=qfd (if Utf8.valid r then r.toNat else 65533):=by
 have key:∀c:Nat,(if c<128 then(⟨#[UInt8.ofNat c]⟩:ByteArray) else if c<2048 then⟨#[UInt8.ofNat (192+c/64),UInt8.ofNat (128+c%64)]⟩ else if c<65536 then⟨#[UInt8.ofNat (224+c/4096),UInt8.ofNat (128+c/64%64),UInt8.ofNat (128+c%64)]⟩ else⟨#[UInt8.ofNat (240+c/262144),UInt8.ofNat (128+c/4096%64),UInt8.ofNat (128+c/64%64),UInt8.ofNat (128+c%64)]⟩).data.toList=qfd c:=fun c=>by
  unfold qfd;split
  ·rfl
  ·split
   ·rfl
   ·split<;>rfl
 exact key _
def zg7(n:Nat):dc (n:Int)=UInt8.ofNat n:=by
 unfold dc;apply UInt8.toNat.inj;rw[show((n:Int)%256).toNat=n%256 by omega,UInt8.toNat_ofNat',UInt8.toNat_ofNat']
 simp
def zho(c:Nat)(h:c<=1114111:=by omega):qde (c:Int)=some (qfd c):=by
 have e:∀a b:Nat,a+b<1000000000->dc (ae ((a:Int)+(b:Int)))=UInt8.ofNat (a+b):=fun a b q=>by rw[g7 a b,zg7]
 have w:∀k:Nat,k<=1114111->ae (k:Int)=(k:Int):=fun k q=>bq
 have t1:Int.tdiv (c:Int) 64=((c/64:Nat):Int):=rfl;have t2:Int.tdiv (c:Int) 4096=((c/4096:Nat):Int):=rfl;have t3:Int.tdiv (c:Int) 262144=((c/262144:Nat):Int):=rfl;have m:∀k:Nat,Int.tmod (k:Int) 64=((k%64:Nat):Int):=fun k=>rfl
 have e128:∀b:Nat,b<64->dc (ae ((128:Int)+(b:Int)))=UInt8.ofNat (128+b):=fun b q=>e 128 b oA
 have e192:∀b:Nat,b<64->dc (ae ((192:Int)+(b:Int)))=UInt8.ofNat (192+b):=fun b q=>e 192 b oA
 have e224:∀b:Nat,b<64->dc (ae ((224:Int)+(b:Int)))=UInt8.ofNat (224+b):=fun b q=>e 224 b oA
 have e240:∀b:Nat,b<64->dc (ae ((240:Int)+(b:Int)))=UInt8.ofNat (240+b):=fun b q=>e 240 b oA
 unfold qde qfd;rw[t1,t2,t3,w _ oA,w _ oA,w _ oA,m,m,m,bn,bn,bn]
 by_cases h1:c<128
 ·rw[qX oA,qX h1,zg7]
 ·rw[qW oA,qW h1]
  by_cases h2:c<2048
  ·rw[qX oA,qX h2,e192 _ oA,e128 _ oA]
  ·rw[qW oA,qW h2]
   by_cases h3:c<65536
   ·rw[qX oA,qX h3,e224 _ oA,e128 _ oA,e128 _ oA]
   ·rw[qW oA,qW h3,e240 _ oA,e128 _ oA,e128 _ oA,e128 _ oA]
def y7(r:Int):l7 r=some (cg r):=by
 have hb:qde 65533=some (qfd 65533):=zho 65533
 have hv:Utf8.valid r=decide ((0<=r/\r<55296)\/(57344<=r/\r<=1114111)):=by unfold Utf8.valid;simp[Bool.decide_or,Bool.decide_and]
 rw[q4q,hv];unfold l7 qoe;rw[gw,qB,gw];by_cases h1:0<=r/\r<=1114111
 ·rw[decide_eq_true h1,bt,qB];by_cases h2:55296<=r/\r<=57343
  ·rw[decide_eq_true h2,ar rfl,decide_eq_false oA,hb];rfl
  ·rw[decide_eq_false h2,au rfl,decide_eq_true oA,qX rfl]
   obtain⟨c,rfl⟩:∃c:Nat,r=(c:Int):=⟨r.toNat,oA⟩
   exact zho c
 ·rw[decide_eq_false h1,da,ar rfl,decide_eq_false oA,hb];rfl
def zu6(r:Int)(h:55296<=r/\r<57344):cg r=cg 65533:=by
 rw[q4q,q4q,show Utf8.valid r=false by unfold Utf8.valid;simp;omega];rfl
def ze7:cg (-1)=cg 65533:=by rfl
def ra(x:Int)(l:List Int):cz (x::l)=cg x++cz l:=by simp[cz]
-- UTF-8
def vp:Nat->Bs->List Int|0,_=>[]|_+1,[]=>[]|n+1,c::t=>(rn (c::t)).1::vp n ((c::t).drop (decodeL (c::t)).2)
def zfr:∀(n:Nat)(l:Bs),(vp n l).length<=n|0,_=>wF _|_+1,[]=>Nat.zero_le _|n+1,c::t=>by rw[vp,qL];have:=zfr n ((c::t).drop (decodeL (c::t)).2);omega
def zbr(ab l:Bs)(k:Nat)(h:k<=l.length):ab++l=(ab++l.take k)++l.drop k/\(ab++l.take k).length=ab.length+k:=by
 constructor
 ·rw[qS,List.take_append_drop]
 ·rw[qM,List.length_take];omega
def zwu(fu n:Nat)(hfu:10<=fu):∀(m:Nat)(ab aa:Bs)(out:List Int),aa.length<n->aa.length<=m->ab.length+aa.length<100000000->out.length+aa.length<=100000000 ->
  qdb fu n (ab++aa) (ab.length:Int) out=some (out++vp m aa):=by
 induction n with
 |zero=>intro m ab aa out h;omega|succ n ih=>
  intro m ab aa out h hm hb ho;rw[qdb,qwe]
  cases aa with
  |nil=>rw[ao];cases m<;>simp[vp]
  |cons c t=>
   have hl:(c::t).length=t.length+1:=rfl;obtain⟨m,rfl⟩:∃k,m=k+1:=⟨m-1,oA⟩
   have w1:=decodeL_le (c::t) oC
   have w0:=decodeL_width (c::t);obtain⟨a1,a2⟩:=zbr ab (c::t) _ w1;have hd:((c::t).drop (decodeL (c::t)).2).length=(c::t).length-(decodeL (c::t)).2:=List.length_drop;have ih:=ih m (ab++(c::t).take (decodeL (c::t)).2) ((c::t).drop (decodeL (c::t)).2) (out++[(rn (c::t)).1]) oA oA oA (by simp only[qM,wD];omega)
   rw[← a1,a2]at ih;rw[ag (by rw[ql4];omega),q44 fu hfu ab c t,qB,ag (by simp only[a6,qM,wD];omega),qtz,g7 _ _,ih,vp]
   simp
def zuz(ab l:Bs):fa (ab++l) ab.length=decodeL l:=by
 unfold fa;rw[← Lib.decodeL_drop];congr 1;simp
def zu5(l:Bs):cg (rn l).1=cg ((decodeL l).1:Int):=by
 unfold rn;split
 ·rename_i h;rw[h.1];exact ze7
 ·rfl
def zni{a b:Nat}(h:¬a<b):Nat.blt a b=false:=by
 cases q:Nat.blt a b
 ·rfl
 ·exact absurd (by simpa using q) h
def zwx(f:Nat):∀(ab aa:Bs),cz (vt (ab++aa) f ab.length)=cz (vp f aa):=by
 induction f with
 |zero=>intro ab aa;rfl|succ f ih=>
  intro ab aa;rw[vt]
  cases aa with
  |nil=>rw[zni oC];rfl|cons c t=>
   have w1:=decodeL_le (c::t) oC
   obtain⟨a1,a2⟩:=zbr ab (c::t) _ w1;have ih:=ih (ab++(c::t).take (decodeL (c::t)).2) ((c::t).drop (decodeL (c::t)).2);rw[← a1,a2]at ih;rw[show Nat.blt ab.length (ab++c::t).length=true by simp[Nat.blt],ar rfl,zuz,ra,ih,vp,ra,zu5]
def zok(fu n:Nat):∀(ab aa:List Int)(out:Bs),aa.length<n->ab.length+aa.length<100000000->out.length+4*aa.length<=1000000000 ->
  qcq fu n out (ab.length:Int) (ab++aa)=some (out++cz aa):=by
 induction n with
 |zero=>intro ab aa out h;omega|succ n ih=>
  intro ab aa out h hb ho;rw[qcq,qvh]
  cases aa with
  |nil=>rw[ao];simp[cz]|cons x aa=>
   simp only[qL]at h hb ho;have hx:(cg x).length<=4:=by
    unfold cg Utf8.encode;simp only[]
    repeat' split
    all_goals simp[ByteArray.size]
   have ih:=ih (ab++[x]) aa (out++cg x) oA oB oS
   simp only[qM,qL,qZ,qS,wM,wO]at ih;rw[ag oK,gx,a7,qB,y7,qB,ag oO,aq _,ih,ra]
-- one byte for each character
def ss(m:Int)(c:UInt8):Int:=if m<=(c.toNat:Int) then 65533 else(c.toNat:Int)
def zw4(fu n:Nat)(m:Int):∀(ab aa:Bs)(out:List Int),aa.length<n->ab.length+aa.length<100000000->out.length+aa.length<=100000000 ->
  qjh fu n (ab++aa) ((ab.length+aa.length:Nat):Int) (ab.length:Int) m out=some (m,out++aa.map (ss m)):=by
 induction n with
 |zero=>intro ab aa out h;omega|succ n ih=>
  intro ab aa out h hb ho;rw[qjh,qx8]
  cases aa with
  |nil=>rw[ao];simp|cons c aa=>
   simp only[qL]at h hb ho;have ih:=fun out=>ih (ab++[c]) aa out oA oB
   simp only[qM,qL,qZ,qS,wM,wO]at ih;rw[ag oG,a7,qB,aq _,show ab.length+(c::aa).length=ab.length+1+aa.length by simp only[qL];omega,bn,List.map_cons,ss]
   split
   ·rw[ag oQ,ih _ oH,qS];rfl
   ·rw[ag oQ,ih _ oH,qS];rfl
def zbj(fu n:Nat)(s0 m:Int)(hm:(s0=0/\m=128)\/(s0=1/\m=256)):∀(ab aa out:Bs),aa.length<n->ab.length+aa.length<100000000->out.length+4*aa.length<=1000000000 ->
  qcp fu n s0 (ab++aa) out (ab.length:Int)=some (out++cz (aa.map (ss m))):=by
 induction n with
 |zero=>intro ab aa out h;omega|succ n ih=>
  intro ab aa out h hb ho;rw[qcp,qvg]
  cases aa with
  |nil=>rw[ao];simp[cz]|cons c aa=>
   simp only[qL]at h hb ho;have hx:∀x,(cg x).length<=4:=fun x=>by
    unfold cg Utf8.encode;simp only[]
    repeat' split
    all_goals simp[ByteArray.size]
   have hc:=c.toNat_lt;have g:∀x:Int,(bif decide (List.length out+List.length (cg x)<=ap) then qcp fu n s0 (ab++c::aa) (out++cg x) (ae ((ab.length:Int)+(1:Int))) else none)=some (out++(cg x++cz (aa.map (ss m)))):=fun x=>by
    have:=hx x;have ih:=ih (ab++[c]) aa (out++cg x) oA oB oS
    simp only[qM,qL,qZ,qS,wM,wO]at ih;rw[ag oO,aq _,ih]
   rw[ag oK,a7,qB,y7,y7,List.map_cons,ra,ss]
   simp only[qB];rw[eu,g,g];rcases hm with⟨rfl,rfl⟩|⟨rfl,rfl⟩
   ·rw[qX rfl,bn];by_cases q:128<=(c.toNat:Int)
    ·rw[qX q,qX oA]
    ·rw[qW q,qW oA]
   ·rw[qW oA,qW oA]
end Go.Sym
namespace Go.Sym
def u2(a b:UInt8):Int:=256*(a.toNat:Int)+(b.toNat:Int)
def ql3:Bs->Bool|x::y::_=>decide (56320<=u2 x y/\u2 x y<57344)|_=>false
def yy(c:Int):Bs->Int|x::y::_=>65536+1024*(c-55296)+u2 x y-56320|_=>0
def un:Bs->List Int|[]=>[]|[_]=>[65533]|a::b::r=>if 55296<=u2 a b/\u2 a b<56320/\ql3 r=true then yy (u2 a b) r::un (r.drop 2) else u2 a b::un r
termination_by l=>l.length
decreasing_by all_goals simp only[qL,List.length_drop];omega
def lf(c:Int):Int:=if 55296<=c/\c<57344 then 65533 else c
def zu3(c:Int):cg (lf c)=cg c:=by
 unfold lf;split
 ·rename_i h;rw[zu6 c h]
 ·rfl
def zfz:∀l:List Int,cz (l.map lf)=cz l|[]=>rfl|x::l=>by rw[List.map_cons,ra,ra,zfz l,zu3]
def zs8(x y:Nat)(hx:x<256)(hy:y<256):((BitVec.ofInt 32 ((x*256:Nat):Int)|||BitVec.ofInt 32 (y:Int)).toNat:Nat)=256*x+y:=by
 rw[BitVec.ofInt_natCast,BitVec.ofInt_natCast,BitVec.toNat_or,BitVec.toNat_ofNat,BitVec.toNat_ofNat,Nat.mod_eq_of_lt oA,Nat.mod_eq_of_lt oA]
 have:=Nat.two_pow_add_eq_or_of_lt (i:=8) (b:=y) oA x
 rw[show x*256=2 ^ 8*x by omega,← this]
def zhl(ab:Bs)(a b:UInt8)(r:Bs)(h:ab.length<100000000:=by omega):qji (ab.length:Int) (ab++a::b::r)=some (u2 a b,ab++a::b::r):=by
 have ha:=a.toNat_lt;have hb:=b.toNat_lt;unfold qji;rw[aq _,a7,qB,qfl,qB]
 have e1:IntKind.i32.wrap ((a.toNat:Int)*2 ^ min (8:Int).toNat 32)=((a.toNat*256:Nat):Int):=by
  rw[show(2:Int) ^ min (8:Int).toNat 32=256 from rfl,IntKind.wrap_i32];omega
 have e2:IntKind.i32.wrap (((256*a.toNat+b.toNat:Nat)):Int)=u2 a b:=by
  rw[IntKind.wrap_i32];unfold u2;omega
 rw[e1,zs8 _ _ ha hb,e2]
def zhm(fu:Nat)(r0:Int->Bs->List Int->Option (List Int))(j v:Int)(b:Bs)(out:List Int)(ho:out.length<=100000000:=by omega):qaj fu r0 j v b out=r0 (ae (j+2)) b (out++[lf v]):=by
 have g:∀x:Int,(bif decide (List.length (out++([x]:List Int))<=a6) then r0 (ae (j+2)) b (out++([x]:List Int)) else none)=r0 (ae (j+2)) b (out++[x]):=fun x=>by
  rw[ag oQ]
 unfold qaj lf;rw[g,g,bn,bn];by_cases h1:55296<=v
 ·by_cases h2:v<57344
  ·rw[qX h1,qX h2,qX ⟨h1,h2⟩]
  ·rw[qX h1,qW h2,qW (fun q=>h2 q.2)]
 ·rw[qW h1,qW (fun q=>h1 q.1)]
def zyy(fu n:Nat):∀(ab aa:Bs)(out:List Int),aa.length<n->ab.length+aa.length<100000000->out.length<=ab.length ->
  wy fu n (ab.length:Int) (ab++aa) out=some (out++(un aa).map lf):=by
 induction n with
 |zero=>intro ab aa out h;omega|succ n ih=>
  intro ab aa out h hb ho;rw[wy,qx9]
  match aa,h,hb with
  |[],h,hb=>rw[ao,un];simp|[a],h,hb=>
   rw[ag oH,aq _,eu,qX oC,ag oQ,un];rfl
  |a::b::r,h,hb=>
   simp only[qL]at h hb;rw[ag oK,aq _,eu,qW oK,zhl ab a b r,qB]
   dsimp only;have l2:∀(x y:UInt8)(t:Bs)(q:Bs),q++x::y::t=(q++[x,y])++t:=fun x y t q=>oC
   have e3:ae ((ab.length:Int)+3)=((ab.length+3:Nat):Int):=g7 _ 3
   have e2:ae ((ab.length:Int)+2)=((ab.length+2:Nat):Int):=g7 _ 2
   have two:∀v:Int,qaj fu (wy fu n) (ab.length:Int) v (ab++a::b::r) out=some (out++lf v::(un r).map lf):=fun v=>by
    have ih:=ih (ab++[a,b]) r (out++[lf v]) oA oH oH
    rw[← l2,qM,show([a,b]:Bs).length=2 from rfl,qS]at ih
    rw[zhm fu _ _ _ _ _,e2]
    exact ih
   have p1f:∀v:Int,qai fu (wy fu n) (ab.length:Int) v false (ab++a::b::r) out=some (out++lf v::(un r).map lf):=fun v=>by
    unfold qai;rw[au rfl,two]
   have p2f:∀v d:Int,qdy fu (wy fu n) (ab.length:Int) v d false (ab++a::b::r) out=some (out++lf v::(un r).map lf):=fun v d=>by
    unfold qdy;rw[au rfl,two]
   by_cases hc:55296<=u2 a b/\u2 a b<56320
   ·rw[ag hc.1,ag hc.2,e3,un];rcases r with _|⟨x,_|⟨y,t⟩⟩
    ·rw[decide_eq_false oH,p1f,qW (by simp[ql3]),List.map_cons]
    ·rw[decide_eq_false oH,p1f,qW (by simp[ql3]),List.map_cons]
    ·simp only[qL]at h hb;rw[decide_eq_true oK]
     have u:=zhl (ab++[a,b]) x y t oH
     rw[← l2,qM,show([a,b]:Bs).length=2 from rfl]at u
     unfold qai;rw[ar rfl,e2,u,qB];dsimp only;by_cases hd:56320<=u2 x y/\u2 x y<57344
     ·rw[ag hd.1,decide_eq_true hd.2,qX ⟨hc.1,hc.2,decide_eq_true hd⟩,List.map_cons];unfold qdy;have hs:IntKind.i32.wrap ((IntKind.i32.wrap ((IntKind.i32.wrap ((65536:Int)+(IntKind.i32.wrap ((IntKind.i32.wrap (u2 a b-(55296:Int)))*2 ^ min (10:Int).toNat 32))))+u2 x y))-(56320:Int))=yy (u2 a b) (x::y::t):=by
       rw[show(2:Int) ^ min (10:Int).toNat 32=1024 from rfl,show yy (u2 a b) (x::y::t)=65536+1024*(u2 a b-55296)+u2 x y-56320 from rfl]
       simp only[IntKind.wrap_i32];omega
      have ih:=ih (ab++[a,b,x,y]) t (out++[lf (yy (u2 a b) (x::y::t))]) oA oH oH
      rw[show(ab++[a,b,x,y])++t=ab++a::b::x::y::t by simp,qM,show([a,b,x,y]:Bs).length=4 from rfl,qS]at ih
      rw[ar rfl,hs,zhm fu _ _ _ _ _,e2,show ae (((ab.length+2:Nat):Int)+2)=((ab.length+4:Nat):Int) from g7 _ 2]
      exact ih
     ·rw[qW (fun q=>hd (of_decide_eq_true q.2.2)),List.map_cons]
      by_cases h1:56320<=u2 x y
      ·rw[ag h1,decide_eq_false (fun q=>hd ⟨h1,q⟩),p2f]
      ·rw[ao h1,p2f]
   ·rw[un,qW (fun q=>hc ⟨q.1,q.2.1⟩),List.map_cons]
    by_cases h1:55296<=u2 a b
    ·rw[ag h1,ao (fun q=>hc ⟨h1,q⟩),p1f]
    ·rw[ao h1,p1f]
def qts(x:Int):(cg x).length<=4:=by
 unfold cg Utf8.encode;simp only[]
 repeat' split
 all_goals simp[ByteArray.size]
def zol(fu n:Nat):∀(ab aa out:Bs),aa.length<n->ab.length+aa.length<100000000->out.length+4*aa.length<=1000000000 ->
  zg fu n (ab++aa) out (ab.length:Int)=some (out++cz (un aa)):=by
 induction n with
 |zero=>intro ab aa out h;omega|succ n ih=>
  intro ab aa out h hb ho;rw[zg,qvi]
  match aa,h,hb,ho with
  |[],h,hb,ho=>rw[ao,un];simp[cz]|[a],h,hb,ho=>
   have:=qts (-1);rw[ag oH,aq _,eu,qX oC,y7,qB,ag (by simp only[ap];simp only[qL,qZ]at ho;omega),un,ze7];simp[cz]
  |a::b::r,h,hb,ho=>
   simp only[qL]at h hb ho;have e3:ae ((ab.length:Int)+3)=((ab.length+3:Nat):Int):=g7 _ 3
   have e2:ae ((ab.length:Int)+2)=((ab.length+2:Nat):Int):=g7 _ 2
   have hw:∀x y:UInt8,ae ((ae ((256:Int)*(x.toNat:Int)))+(y.toNat:Int))=u2 x y:=fun x y=>by
    have:=x.toNat_lt;have:=y.toNat_lt;rw[bq (x:=(256:Int)*(x.toNat:Int)) oA oA,bq];rfl
   rw[ag oK,aq _,eu,qW oK,a7,qB,qfl,qB,hw,gw,qB]
   have l2:∀(x y:UInt8)(t:Bs)(q:Bs),q++x::y::t=(q++[x,y])++t:=fun x y t q=>oC
   have two:∀v:Int,(bif decide (List.length out+List.length (cg v)<=ap) then zg fu n (ab++a::b::r) (out++cg v) (ae ((ab.length:Int)+(2:Int))) else none)=some (out++(cg v++cz (un r))):=fun v=>by
    have hv:=qts v;have ih:=ih (ab++[a,b]) r (out++cg v) oA oH oS
    rw[← l2,qM,show([a,b]:Bs).length=2 from rfl,qS]at ih
    rw[ag oO,e2]
    exact ih
   have p4f:qcr fu (zg fu n) (ab++a::b::r) out (ab.length:Int) (u2 a b) false=some (out++(cg (u2 a b)++cz (un r))):=by
    unfold qcr;rw[au rfl,y7,qB,two]
   by_cases hc:55296<=u2 a b/\u2 a b<56320
   ·rw[ag,e3,un]
    rcases r with _|⟨x,_|⟨y,t⟩⟩
    ·rw[decide_eq_false oH,p4f,qW (by simp[ql3]),ra]
    ·rw[decide_eq_false oH,p4f,qW (by simp[ql3]),ra]
    ·simp only[qL]at h hb ho;rw[decide_eq_true oK]
     unfold qcr;have i2:ai (ab++a::b::x::y::t) ((ab.length+2:Nat):Int)=some x:=by
      have:=a7 (ab++[a,b]) x (y::t);rw[← l2,qM]at this;exact this
     have i3:ai (ab++a::b::x::y::t) ((ab.length+3:Nat):Int)=some y:=by
      have:=qfl (ab++[a,b]) x y t;rw[← l2,qM]at this;exact this
     rw[ar rfl,e2,e3,i2,qB,i3,qB,hw,gw,qB];by_cases hd:56320<=u2 x y/\u2 x y<57344
     ·rw[ag,qX ⟨hc.1,hc.2,decide_eq_true hd⟩,ra]
      have hs:ae ((ae ((ae ((65536:Int)+(ae ((1024:Int)*(ae (u2 a b-(55296:Int)))))))+u2 x y))-(56320:Int))=yy (u2 a b) (x::y::t):=by
       rw[show yy (u2 a b) (x::y::t)=65536+1024*(u2 a b-55296)+u2 x y-56320 from rfl]
       generalize u2 a b=c at hc;generalize u2 x y=d at hd;rw[bq (x:=c-55296) oA oA,bq (x:=1024*(c-55296)) oA oA,bq (x:=65536+1024*(c-55296)) oA oA,bq (x:=65536+1024*(c-55296)+d) oA oA,bq]
      have hv:=qts (yy (u2 a b) (x::y::t));have ih:=ih (ab++[a,b,x,y]) t (out++cg (yy (u2 a b) (x::y::t))) oA oH oS
      rw[show(ab++[a,b,x,y])++t=ab++a::b::x::y::t by simp,qM,show([a,b,x,y]:Bs).length=4 from rfl,qS]at ih
      rw[hs,y7,qB,ag oO,show ae (((ab.length+2:Nat):Int)+2)=((ab.length+4:Nat):Int) from g7 _ 2]
      exact ih
     ·rw[qW (fun q=>hd (of_decide_eq_true q.2.2)),ra,ao,y7,qB,← e2]
      exact two _
   ·rw[un,qW (fun q=>hc ⟨q.1,q.2.1⟩),ra,ao]
    exact p4f
open Go.Lib (indexByte)
def zl2:∀n:_root_.Fin 256,(ja [47,32])[(UInt8.ofNat n.val).toNat]? = some (([47,32]:List UInt8).contains (UInt8.ofNat n.val)):=by decide +kernel
def q0p:AC [47,32]:=⟨oE,oE,oE,fun n=>oD,fun c=>iq (fun c=>(ja [47,32])[c.toNat]? = some (([47,32]:List UInt8).contains c)) zl2 c,by decide +kernel⟩
def zq8(l:Bs)(c:UInt8) : -1<=indexByte l c/\indexByte l c<(l.length:Int):=by
 have h:=Lib.indexByte_ge l c;refine⟨h,?_⟩;by_cases h1:indexByte l c = -1
 ·omega
 ·obtain⟨h2,_⟩:=Lib.indexByte_some (l:=l) (c:=c) (o:=(indexByte l c).toNat) oA
  have:=(List.getElem?_eq_some_iff.1 h2).1;omega
def zzm(c:UInt8)(out:Bs)(h:out.length<=1000000000:=by omega):xa c out=some (out++[c]):=by
 unfold xa wz;rw[qB,ag oQ]
def zh3(t out:Bs)(h:out.length<=1000000000:=by omega)(ht:t.length<=1000:=by omega):qki t out=some ((List.length t:Int),out++t):=by
 unfold qki wz;rw[qB,ag (by simp only[a6,qM];omega)]
end Go.Sym
namespace Go.Sym
def gq(kd sb:Bs)(t:TP):Bool:=decide (t.kids.length=0)&&(lk (dz t.val.1).1 kd&&lk (dz t.val.1).2.1 sb)
def ji(kd sb:Bs):List (TP×Int)->Option TP|[]=>none|x::L=>if gq kd sb x.1=true then some x.1 else ji kd sb L
def zb9(kd sb:Bs):∀L M:List (TP×Int),ji kd sb (L++M)=match ji kd sb L with|some q=>some q|none=>ji kd sb M
 |[],_=>rfl|x::L,M=>by
  rw[wK,ji,ji];by_cases h:gq kd sb x.1=true
  ·rw[qX h,qX h]
  ·rw[qW h,qW h,zb9 kd sb L M]
def zhk(l:List bp):(dz l).1.length<=4000000/\(dz l).2.1.length<=4000000:=⟨(qug l).1.1,(qug l).1.2.1⟩
def zpr(fu:Nat)(hfu:90000000<=fu)(i:Int)(t:TP)(ht:Fv t)(kd sb:Bs)(hk:kd.length<=4000000)(hb:sb.length<=4000000)(q:TP)(g:Bool) :
  qqx fu i t.val.1 t.val.2 t.kids kd sb q g=some (if gq kd sb t=true then .inl (kd,(sb,(t,true))) else .inr (kd,(sb,(q,g)))):=by
 have hsm:∀x∈t.val.1,x.1.length<=4000000/\x.2.length<=4000000:=fun x hx=>by have:=ht.2 x hx;omega
 obtain⟨m1,m2⟩:=zhk t.val.1;unfold qqx gq;rw[show((Tree.node (t.val.1,t.val.2) t.kids:TP))=t from c8 t,zhv fu hfu t (by have:=ht.1;omega) hsm,qB,eu]
 simp only[c8];by_cases h0:t.kids.length=0
 ·rw[qX oA,kq fu hfu _ _ m1 hk,qB,decide_eq_true h0]
  cases lk (dz t.val.1).1 kd
  ·rw[au rfl];rfl
  ·rw[ar rfl,kq fu hfu _ _ m2 hb,qB];cases lk (dz t.val.1).2.1 sb
   ·rw[au rfl];rfl
   ·rw[ar rfl];rfl
 ·rw[qW oA,decide_eq_false h0];rfl
def zpq(fu:Nat)(hfu:90000000<=fu)(kd sb:Bs)(hkd:kd.length<=4000000)(hsb:sb.length<=4000000)(q:TP)(g:Bool):∀(n:Nat)(t:TP)(d i:Nat),cv t<=n->cv t+d<=70000000->(∀x∈bf n t (d:Int),Fv x.1)->i+cv t<=70000000 ->
  ∃R,qec fu n t (d:Int) (i:Int) kd sb q g=some R/\match ji kd sb (bf n t (d:Int)) with
   |some x=>∃a,R = .inl (a,(kd,(sb,(x,true))))|none=>R = .inr (((i+(bf n t (d:Int)).length:Nat):Int),(kd,(sb,(q,g)))):=by
 intro n
 induction n with
 |zero=>intro t d i h;have:=qgd t;omega|succ n ih=>
  intro t d i hz hd hs hi;have htp:=qgd t;have hft:Fv t:=hs (t,(d:Int)) (by rw[bf];exact qH)
  rw[bf]at hs ⊢;rw[qec,qp3,qy3,ji];simp only[c8];rw[zpr fu hfu _ t hft kd sb hkd hsb q g,qB];by_cases hc:gq kd sb t=true
  ·rw[qX hc,qX hc];exact⟨_,rfl,_,rfl⟩
  rw[qW hc,qW hc];simp only[be,qB];rw[aq i]
  have loop:∀(m:Nat)(ab aa:List TP)(i:Nat),t.kids=ab++aa->aa.length<m->i+(aa.map cv).sum<=70000000->(∀x∈aa.flatMap fun k=>bf n k ((d:Int)+1),Fv x.1) ->
    ∃R,qkc (qec fu n) fu m (d:Int) t.kids (t.kids.length:Int) (ab.length:Int) (i:Int) kd sb q g=some R/\match ji kd sb (aa.flatMap fun k=>bf n k ((d:Int)+1)) with
     |some x=>∃a,R = .inl (a,(kd,(sb,(x,true))))|none=>R = .inr (((i+(aa.flatMap fun k=>bf n k ((d:Int)+1)).length:Nat):Int),(kd,(sb,(q,g)))):=by
   intro m
   induction m with
   |zero=>intro ab aa i _ h;omega|succ m ihm=>
    intro ab aa i hk h hi hf;have ac:t.kids.length=ab.length+aa.length:=by rw[hk];simp
    have hks:=qcc t;rw[qkc,qy9];simp only[c8]
    cases aa with
    |nil=>rw[ao (by simp only[qZ]at ac;omega)];exact⟨_,rfl,rfl⟩|cons k aa=>
     simp only[qL]at h ac;simp only[List.map_cons,List.sum_cons]at hi;have hkm:k∈t.kids:=by rw[hk];simp
     have hx:ai t.kids (ab.length:Int)=some k:=by rw[hk];exact a7 ab k aa
     have hkz:=qgc hkm;have hfl:=q2r n k ((d:Int)+1);rw[List.flatMap_cons]at hf;rw[ag,hx,qB,aq d,List.flatMap_cons,zb9]
     obtain⟨R,g1,g2⟩:=ih k (d+1) i oA oA (fun x hx=>hf x (List.mem_append_left _ (by rw[show((d+1:Nat):Int)=(d:Int)+1 by omega]at hx;exact hx))) oA
     rw[g1,qB];rw[show((d+1:Nat):Int)=(d:Int)+1 by omega]at g2
     cases hr:ji kd sb (bf n k ((d:Int)+1)) with
     |some x=>
      rw[hr]at g2;obtain⟨a,rfl⟩:=g2;exact⟨_,rfl,a,rfl⟩
     |none=>
      rw[hr]at g2;simp only at g2;subst g2;simp only[be];rw[aq _]
      have:=ihm (ab++[k]) aa (i+(bf n k ((d:Int)+1)).length) (by rw[hk];simp) oA oA (fun x hx=>hf x (List.mem_append_right _ hx))
      rw[qM,wD]at this;rw[qM,← Nat.add_assoc];exact this
  have hks:=qcc t;have hsum:(t.kids.map cv).sum+2<=cv t:=by cases t;rw[vy];show(List.map cv _).sum+2<=_;simp only[Tree.kids];omega
  obtain⟨R,g1,g2⟩:=loop fu [] t.kids (i+1) rfl oA oA (fun x hx=>hs x (qE _ hx))
  refine⟨R,g1,?_⟩;rw[qL,show i+((t.kids.flatMap fun k=>bf n k ((d:Int)+1)).length+1)=i+1+(t.kids.flatMap fun k=>bf n k ((d:Int)+1)).length by omega]
  exact g2
def zht(fu:Nat)(hfu:90000000<=fu)(t:TP)(hs:gd t)(hf:∀x∈bf fu t 0,Fv x.1)(kd sb:Bs)(hkd:kd.length<=4000000)(hsb:sb.length<=4000000) :
  qku fu t kd sb=some (match ji kd sb (bf fu t 0) with|some q=>(q,true)|none=>(emT,false)):=by
 have hz:=hs.1;obtain⟨R,g1,g2⟩:=zpq fu hfu kd sb hkd hsb emT false fu t 0 0 oA oA hf oA
 rw[show((0:Nat):Int)=0 from rfl]at g1 g2
 unfold qku qpv;simp only[c8];rw[qB];unfold qy2 qao qzd q8t;simp only[c8,qB];rw[g1]
 cases hr:ji kd sb (bf fu t 0) with
 |some x=>
  rw[hr]at g2;obtain⟨a,rfl⟩:=g2;simp only[qB,be,c8]
 |none=>
  rw[hr]at g2;simp only at g2;subst g2;simp only[qB,be,c8]
abbrev jv:Bs:=[116,101,120,116]
abbrev kPl:Bs:=[112,108,97,105,110]
abbrev kHt:Bs:=[104,116,109,108]
def zli(fu:Nat)(hfu:90000000<=fu)(t:TP)(hs:gd t):qkt fu t=if(mv fu t).1≠0 then some ([],mv fu t) else match ji jv kPl (bf fu t 0) with
  |some q=>(xe fu q).bind fun x=>some (x,(0,0))
  |none=>match ji jv kHt (bf fu t 0) with
   |some q=>(xe fu q).bind fun x=>(qqy fu x).bind fun y=>some (y,(0,0))
   |none=>some ([],(0,0)):=by
 unfold qkt;simp only[c8];rw[zuh fu hfu t hs,qB,xp,qB,ip];by_cases h:(mv fu t).1≠0
 ·rw[qX h,qX h]
 ·rw[qW h,qW h];obtain⟨_,q2,_⟩:=zel (show(mv fu t).1=0 by simpa using h)
  have hf:∀x∈bf fu t 0,Fv x.1:=fun x hx=>⟨(qme (q2 x hx)).1,(qme (q2 x hx)).2.1⟩
  rw[zht fu hfu t hs hf _ _ oC oC,qB]
  cases ji jv kPl (bf fu t 0) with
  |some q=>simp only;rw[ar rfl];rfl|none=>
   simp only;rw[au rfl,zht fu hfu t hs hf _ _ oC oC,qB]
   cases ji jv kHt (bf fu t 0) with|some q=>simp only;rw[ar rfl];rfl|none=>simp only;rw[au rfl];rfl
def zc0(fu:Nat)(hfu:90000000<=fu)(t:TP)(hs:o5 t.val)(sb:Bs)(hsb:sb.length<=4000000):qi0 fu t sb=some (gq jv sb t):=by
 have hsf:l9 t.val.1:=hs.1.1;obtain⟨m1,m2⟩:=zhk t.val.1;unfold qi0;simp only[c8];rw[qui fu hfu _ hsf,qB];unfold gq;have key:∀m:ef,m=dz t.val.1->((bif(List.length t.kids:Int)==(0:Int) then(ei fu m.1 jv).bind fun x2=>bif x2 then(ei fu m.2.1 sb).bind fun x3=>some x3 else some false else some false):Option Bool)=some (decide (t.kids.length=0)&&(lk (dz t.val.1).1 jv&&lk (dz t.val.1).2.1 sb)):=by
  rintro m rfl
  rw[eu];by_cases h0:t.kids.length=0
  ·rw[qX oA,sm fu hfu _ _ m1 oC,qB,decide_eq_true h0]
   cases lk (dz t.val.1).1 jv
   ·rw[au rfl];rfl
   ·rw[ar rfl,sm fu hfu _ _ m2 hsb,qB];rfl
  ·rw[qW oA,decide_eq_false h0];rfl
 cases ht:gz t.val.1 with|none=>exact key _ (by unfold dz;rw[ht])|some m=>exact key _ (by unfold dz;rw[ht])
abbrev yu:Bs:=[97,115,99,105,105]
abbrev yv:Bs:=[108,97,116,105,110,49]
abbrev vv:Bs:=[117,116,102,56]
abbrev yw:Bs:=[117,116,102,49,54,98,101]
def ke(nm:Bs):Int:=if lk yu nm then 0 else if lk yv nm then 1 else if lk vv nm then 2 else if lk yw nm then 3 else -1
def qd(k:Int)(b:Bs):Bs:=if k=0 then cz (b.map (ss 128)) else if k=1 then cz (b.map (ss 256)) else if k=2 then cz (fj b) else cz (un b)
def zw1(nm:Bs):ke nm=0\/ke nm=1\/ke nm=2\/ke nm=3\/ke nm = -1:=by
 unfold ke
 repeat' split
 all_goals simp
def zw3(fu:Nat)(hfu:90000000<=fu)(nm:Bs)(hn:nm.length<=4000000):qib fu nm=some (ke nm):=by
 obtain⟨n,rfl⟩:∃n,fu=n+5:=⟨fu-5,oA⟩
 have al:∀a:Bs,a.length<=100->ei (n+5) a nm=some (lk a nm):=fun a ha=>sm (n+5) hfu a nm oA hn
 have step:∀(m k:Nat)(a:Bs),([yu,yv,vv,yw]:List Bs)[k]? = some a->a.length<=100->qdc (n+5) (m+1) nm (k:Int) [yu,yv,vv,yw]=if lk a nm then some (k:Int) else qdc (n+5) m nm ((k+1:Nat):Int) [yu,yv,vv,yw]:=fun m k a e ha=>by
  have hk:k<4:=(List.getElem?_eq_some_iff.1 e).1;rw[qdc,qwf,ag (show(k:Int)<(([yu,yv,vv,yw]:List Bs).length:Int) by simp only[qL,qZ];omega),gx,show ai ([yu,yv,vv,yw]:List Bs) (k:Int)=some a by unfold ai;rw[qX oA];exact e,qB,al a ha,qB,aq k]
  cases lk a nm<;>rfl
 unfold qib ke;refine(step (n+4) 0 yu rfl oC).trans ?_
 split
 ·rfl
 ·refine(step (n+3) 1 yv rfl oC).trans ?_
  split
  ·rfl
  ·refine(step (n+2) 2 vv rfl oC).trans ?_
   split
   ·rfl
   ·refine(step (n+1) 3 yw rfl oC).trans ?_
    split
    ·rfl
    ·rfl
def za1(fu:Nat)(hfu:90000000<=fu)(nm b:Bs)(hn:nm.length<=4000000)(hb:b.length<=12000):qjg fu nm b=some (if ke nm = -1 then([],(18,-2)) else(qd (ke nm) b,(0,0))):=by
 have sg:∀m:Int,qpb fu b m=some (m,b.map (ss m)):=fun m=>by
  have:=zw4 fu fu m [] b [] oA oB oB
  unfold qpb;simpa using this
 have f1:qo9 b=some (fj b):=by unfold qo9;rw[ag]
 have uq:qpc fu b=some ((un b).map lf):=by
  have:=zyy fu fu [] b [] oA oB oC
  unfold qpc;simpa using this
 unfold qjg ke;rw[ao]
 unfold qx7 qpa;simp only[qB];rw[kq fu hfu _ _ oC hn,qB]
 cases lk yu nm
 ·rw[au rfl,kq fu hfu _ _ oC hn,qB]
  cases lk yv nm
  ·rw[au rfl,kq fu hfu _ _ oC hn,qB]
   cases lk vv nm
   ·rw[au rfl,kq fu hfu _ _ oC hn,qB]
    cases lk yw nm
    ·rfl
    ·rw[ar rfl,qB];simp only[be];rw[bt,uq,qB,zfz];rfl
   ·rw[ar rfl,qB];simp only[be];rw[bt,f1];rfl
  ·rw[ar rfl,qB];simp only[be];rw[bt,sg];rfl
 ·rw[ar rfl,qB];simp only[be];rw[bt,sg];rfl
def zop(fu:Nat)(hfu:90000000<=fu)(k:Int)(hk:k=0\/k=1\/k=2\/k=3)(b:Bs)(hb:b.length<=12000):qnq fu k b=some (qd k b):=by
 unfold qnq qnr qd;rcases hk with rfl|rfl|rfl|rfl
 ·have:=zbj fu fu 0 128 (.inl ⟨rfl,rfl⟩) [] b [] oA oB oB
  exact this
 ·have:=zbj fu fu 1 256 (.inr ⟨rfl,rfl⟩) [] b [] oA oB oB
  exact this
 ·have h1:=zwu fu fu oA b.length [] b [] oA (wF _) oB oB
  have hl:=zfr b.length b;have h2:=zok fu fu [] (vp b.length b) [] oA oB oB
  have h3:=zwx b.length [] b;unfold qwd;simp only[List.nil_append]at h1 h2 h3;refine Eq.trans (show _=(qdb fu fu b ((([]:Bs).length:Nat):Int) []).bind fun x1=>qcq fu fu [] 0 x1 from rfl) ?_
  rw[h1,qB];refine Eq.trans h2 ?_;rw[← h3];rfl
 ·have:=zol fu fu [] b [] oA oB oB
  exact this
def q5v:∀(n:Nat)(b:Bs),b.length<=n->(un b).length<=b.length
 |_,[],_=>by rw[un];exact wF _|_,[_],_=>by rw[un];exact wF _|n,a::b::r,h=>by
  simp only[qL]at h ⊢;rw[un];split
  ·have:=q5v (n-1) (r.drop 2) (by rw[List.length_drop];omega)
   rw[List.length_drop]at this;simp only[qL];omega
  ·have:=q5v (n-1) r oA
   simp only[qL];omega
termination_by _ b=>b.length
decreasing_by all_goals simp only[qL,List.length_drop];omega
def q13(k:Int)(b:Bs):(qd k b).length<=4*b.length:=by
 have h1:=qmn (b.map (ss 128));have h2:=qmn (b.map (ss 256));have h3:=qmn (fj b);have h4:=qmn (un b);have h5:=zww b;have h6:=q5v _ b (wF _);rw[wC]at h1 h2;unfold qd
 repeat' split
 all_goals omega
-- CR LF becomes LF
def jd:Bs->Bs|[]=>[]|[c]=>[c]|c::d::r=>if c=13/\d=10 then jd (d::r) else c::jd (d::r)
def q14(c:UInt8)(r:Bs)(h:¬([13,10]:Bs).isPrefixOf (c::r)=true):jd (c::r)=c::jd r:=by
 cases r with|nil=>rfl|cons d r=>rw[jd,qW (by rintro⟨rfl,rfl⟩;exact h (by simp[List.isPrefixOf]))]
def qf2(s:Bs):Bs:=Lib.replaceK [13,10] [10] (Lib.count s [13,10]) s
def zu7(c:UInt8)(r:Bs)(h:¬([13,10]:Bs).isPrefixOf (c::r)=true):qf2 (c::r)=c::qf2 r:=by
 have hi:Lib.index (c::r) [13,10]=if Lib.index r [13,10] == -1 then -1 else Lib.index r [13,10]+1:=by rw[Lib.index,qW h]
 have hg:=Lib.index_ge r [13,10];unfold qf2;by_cases q:Lib.index r [13,10] = -1
 ·rw[q]at hi;rw[Lib.count_miss q,Lib.count_miss (hi.trans rfl)];rfl
 ·obtain⟨i,e⟩:∃i:Nat,Lib.index r [13,10]=i:=⟨(Lib.index r [13,10]).toNat,oA⟩
  have e1:Lib.index (c::r) [13,10]=((i+1:Nat):Int):=by
   rw[hi,qW (by simpa using q),e];omega
  rw[Lib.count_hit oC e,Lib.count_hit oC e1,Nat.add_comm 1,Nat.add_comm 1,Lib.replaceK_hit _ _ _ _ _ e,Lib.replaceK_hit _ _ _ _ _ e1]
  simp[show i+1+2=i+2+1 by omega]
def q4r:∀(n:Nat)(s:Bs),s.length<=n->qf2 s=jd s
 |0,s,hl=>by
  have:s=[]:=List.eq_nil_of_length_eq_zero oA
  subst this;rfl
 |_+1,[],_=>rfl|n+1,c::r,hl=>by
  simp only[qL]at hl;by_cases h:([13,10]:Bs).isPrefixOf (c::r)=true
  ·cases r with
   |nil=>simp[List.isPrefixOf]at h|cons d r=>
    simp only[qL]at hl;have hcd:c=13/\d=10:=by simp[List.isPrefixOf]at h;exact⟨h.1.symm,h.2.symm⟩
    obtain⟨rfl,rfl⟩:=hcd;have e0:Lib.index (13::10::r) [13,10]=((0:Nat):Int):=by rw[Lib.index,qX h];rfl
    rw[jd,qX ⟨rfl,rfl⟩,q14 _ _ (by simp[List.isPrefixOf]),← q4r n r oA]
    unfold qf2;rw[Lib.count_hit oC e0,Nat.add_comm 1,Lib.replaceK_hit _ _ _ _ _ e0]
    simp
  ·rw[zu7 c r h,q14 c r h,q4r n r oA]
def ze9(s:Bs)(hs:s.length<=100000):xd s [13,10] [10]=some (jd s):=by
 unfold xd;rw[ag oU,← q4r _ s (wF _)]
 unfold Lib.replaceAll Lib.replace Lib.replaceNum qf2;rw[qW oE,qX (.inl oE)]
def zbi:∀(n:Nat)(s:Bs),s.length<=n->(jd s).length<=s.length
 |0,s,h=>by
  have:s=[]:=List.eq_nil_of_length_eq_zero oA
  subst this;exact wF _
 |_+1,[],_=>wF _|_+1,[_],_=>wF _|n+1,c::d::r,h=>by
  simp only[qL]at h;have:=zbi n (d::r) oG
  simp only[qL]at this ⊢;rw[jd];split
  ·omega
  ·simp only[qL];omega
def zbb(ab:Bs)(c:UInt8)(aa:Bs)(h:ab.length<1000000000:=by omega):List.take ((ae ((ab.length:Int)+1)).toNat-(ab.length:Int).toNat) (List.drop (ab.length:Int).toNat (ab++c::aa))=[c]:=by
 rw[aq _];simp
def zyb(fu n:Nat):∀(ab aa out:Bs),aa.length<n->ab.length+aa.length<100000000->out.length+aa.length<=1000000000 ->
  qdr fu n (ab++aa) out (ab.length:Int)=some (out++jd aa):=by
 induction n with
 |zero=>intro ab aa out h;omega|succ n ih=>
  intro ab aa out h hb ho;rw[qdr,qxk]
  cases aa with
  |nil=>rw[ao,jd];simp|cons c aa=>
   simp only[qL]at h hb ho;have ih:=fun out=>ih (ab++[c]) aa out oA oB
   simp only[qM,qL,qZ,qS,wM,wO]at ih;have one:(bif decide (0<=(ab.length:Int)/\(ab.length:Int)<=ae ((ab.length:Int)+(1:Int))/\ae ((ab.length:Int)+(1:Int))<=(List.length (ab++c::aa):Int)) then bif decide (List.length out+List.length (List.take ((ae ((ab.length:Int)+(1:Int))).toNat-(ab.length:Int).toNat) (List.drop (ab.length:Int).toNat (ab++c::aa)))<=ap) then qdr fu n (ab++c::aa) (out++(List.take ((ae ((ab.length:Int)+(1:Int))).toNat-(ab.length:Int).toNat) (List.drop (ab.length:Int).toNat (ab++c::aa)))) (ae ((ab.length:Int)+(1:Int))) else none else none)=some (out++c::jd aa):=by
    rw[zbb ab c aa,aq _,ag oK,ag mA,ih _ oH,qS];rfl
   rw[ag oK,a7,qB,one,ez]
   by_cases h13:c=13
   ·subst h13;rw[qX rfl]
    cases aa with
    |nil=>rw[ao (by rw[aq _];simp),jd];rfl|cons d aa=>
     rw[ag (by rw[aq _];simp only[qM,qL];omega),show ai (ab++13::d::aa) (ae ((ab.length:Int)+1))=some d by rw[aq _];exact qfl _ _ _ _,qB,ez]
     by_cases h10:d=10
     ·subst h10;rw[qX rfl,aq _,ih _ (by simp only[qL]at ho ⊢;omega),jd,qX ⟨rfl,rfl⟩]
     ·rw[qW h10,jd,qW (fun q=>h10 q.2)]
   ·rw[qW h13,q14 _ _ (by simp[List.isPrefixOf];intro q;exact absurd q.symm h13)]
def za3(b v:Bs)(hb:b.length<=12000):(Tr.decR b v).1.1=18↔Tr.cod v = -1:=by
 unfold Tr.decR;by_cases h:Tr.cod v = -1
 ·rw[qX h];simp[h]
 ·rw[qW h,qW oA]
  constructor
  ·intro k
   repeat' split at k
   all_goals cases k
  ·exact fun k=>absurd k h
def zy2(fu:Nat)(hfu:90000000<=fu)(b v:Bs)(hb:b.length<=12000)(h:Tr.cod v ≠ -1):qou fu b (Tr.cod v)=some (Tr.decR b v).2:=by
 unfold Tr.decR qou;rw[qW h,qW oA]
 rcases Tr.cod_cases v with e|e|e|e|e
 ·rw[e];rfl
 ·rw[e];rfl
 ·rw[e,Tr.rloose_eq fu b oA oA];rfl
 ·rw[e,Tr.rlq_eq fu b oA oA];rfl
 ·exact absurd e h
def zoa(b:Bs)(hb:b.length<=12000):(Tr.decR b [55,98,105,116]).2=b:=by
 unfold Tr.decR;rw[show Tr.cod [55,98,105,116]=0 from oE,qW oE,qW oA,qX rfl]
def zuy(fu:Nat)(hfu:90000000<=fu)(t:TP)(hb:t.val.2.length<=12000)(n:Nat):∀(ab aa:List Bs),aa.length<n->ab.length+aa.length<100000000->(∀v∈aa,v.length<=4000000) ->
  qiy fu n (ab.length:Int) t (ab++aa)=some (ir Tr.decR aa t.val.2):=by
 induction n with
 |zero=>intro ab aa h;omega|succ n ih=>
  intro ab aa h hl hs;rw[qiy,qw6];simp only[c8]
  cases aa with
  |nil=>rw[ao,ir,zoa _ hb]|cons v aa=>
   simp only[qL]at h hl;have hv:=hs v qH;have hc:=Tr.coding_eq fu v oA oA oN
   rw[ag oK,gx,a7,qB,hc,qB,gx,a7,qB,hc,qB,bn,ir]
   by_cases hk:Tr.cod v = -1
   ·rw[qW oA,qW (by simpa using(za3 _ v hb).2 hk),aq _]
    have:=ih (ab++[v]) aa oA oB (fun x hx=>hs x (qE _ hx))
    simp only[qM,qL,qZ,qS,wM,wO]at this;exact this
   ·rw[qX (by rcases Tr.cod_cases v with e|e|e|e|e<;>omega),qX (fun e=>hk ((za3 _ v hb).1 e)),zy2 fu hfu _ v hb hk];rfl
def zux(fu:Nat)(hfu:90000000<=fu)(t:TP)(ht:Fv t)(hb:t.val.2.length<=12000):qom fu t=some (ir Tr.decR (bu t.val.1 gf) t.val.2):=by
 obtain⟨t1,t2⟩:=ht;unfold qom;simp only[c8];have hv:∀v∈bu t.val.1 gf,v.length<=4000000:=fun v hv=>by
  obtain⟨x,hx,rfl⟩:=List.mem_map.1 hv;have:=t2 x (List.mem_filter.1 hx).1;omega
 have hl:(bu t.val.1 gf).length<=t.val.1.length:=by unfold bu;rw[wC];exact List.length_filter_le _ _
 rw[q5x fu hfu t.val.1 _ oC ⟨oA,fun x hx=>by have:=t2 x hx;omega⟩,qB,show bu t.val.1 ([99,111,110,116,101,110,116,45,116,114,97,110,115,102,101,114,45,101,110,99,111,100,105,110,103]:Bs)=bu t.val.1 gf from rfl]
 have:=zuy fu hfu t hb fu [] (bu t.val.1 gf) oA oB hv
 simpa using this
def znw:∀(n:Nat)(l:List Nat),l.length<=n->8*(Tr.by8 l).length<=l.length:=by
 intro n
 induction n with
 |zero=>intro l h;have:l=[]:=List.eq_nil_of_length_eq_zero oA;subst this;simp[Tr.by8]|succ n ih=>
  intro l h;by_cases h8:l.length<8
  ·rw[Tr.by8_short l h8];simp
  ·match l,h,h8 with
   |a::b::c::d::e::f::g::k::r,h,_=>
    rw[Tr.by8];have:=ih r (by simp only[qL]at h;omega)
    simp only[qL];omega
   |[],_,h8=>exact absurd oC h8|[_],_,h8=>exact absurd oC h8|[_,_],_,h8=>exact absurd oC h8|[_,_,_],_,h8=>exact absurd oC h8|[_,_,_,_],_,h8=>exact absurd oC h8|[_,_,_,_,_],_,h8=>exact absurd oC h8|[_,_,_,_,_,_],_,h8=>exact absurd oC h8|[_,_,_,_,_,_,_],_,h8=>exact absurd oC h8
def zbo(b name:Bs)(h:b.length<=12000):(Tr.decR b name).2.length<=12000:=by
 have h1:=znw _ (Tr.dbits b) (wF _);have h2:=zbh b;have h3:=q4m b [];simp only[qZ]at h3;unfold Tr.decR
 repeat' split
 all_goals simp only[qZ];omega
def qrz(b:Bs)(h:b.length<=12000):∀vs:List Bs,(ir Tr.decR vs b).length<=12000
 |[]=>zbo b _ h|v::vs=>by
  rw[ir];split
  ·exact zbo b _ h
  ·exact qrz b h vs
-- the text of a part
abbrev mg:Bs:=[99,104,97,114,115,101,116]
def qms(l:List bp):Int:=if ke (ce (dz l).2.2 mg).1 = -1 then 2 else ke (ce (dz l).2.2 mg).1
def kv(t:TP):Bs:=jd (qd (qms t.val.1) (ir Tr.decR (bu t.val.1 gf) t.val.2))
def zyt(t:TP)(hb:t.val.2.length<=12000):(kv t).length<=48000:=by
 have h1:=qrz t.val.2 hb (bu t.val.1 gf);have h2:=q13 (qms t.val.1) (ir Tr.decR (bu t.val.1 gf) t.val.2);have h3:=zbi _ (qd (qms t.val.1) (ir Tr.decR (bu t.val.1 gf) t.val.2)) (wF _);unfold kv;omega
def zw2:ke vv=2:=oE
def zzg(fu:Nat)(hfu:90000000<=fu)(t:TP)(ht:Fv t)(hb:t.val.2.length<=12000):xe fu t=some (kv t):=by
 obtain⟨y1,y2⟩:=qug t.val.1;have hsm:∀x∈t.val.1,x.1.length<=4000000/\x.2.length<=4000000:=fun x hx=>by have:=ht.2 x hx;omega
 have hp:(ce (dz t.val.1).2.2 mg).1.length<=4000000:=qtk _ _ _ fun x hx=>(y1.2.2.2 x hx).2
 have hc:=qrz t.val.2 hb (bu t.val.1 gf);have hd:∀k,(qd k (ir Tr.decR (bu t.val.1 gf) t.val.2)).length<=100000:=fun k=>by have:=q13 k (ir Tr.decR (bu t.val.1 gf) t.val.2);omega
 unfold xe kv qms;simp only[c8];rw[zhv fu hfu t (by have:=ht.1;omega) hsm,qB,zzf fu hfu _ _ oC y1 y2,qB,zob fu hfu t (by have:=ht.1;omega) hsm,qB,za1 fu hfu _ _ hp hc,qB]
 by_cases h:ke (ce (dz t.val.1).2.2 mg).1 = -1
 ·rw[qX h,qX h,eu,qX rfl,za1 fu hfu _ _ oC hc,zw2,qB,qW oE,ze9 _ (hd _)];rfl
 ·rw[qW h,qW h,eu,qW oC,ze9 _ (hd _)];rfl
def zfy(fu:Nat)(hfu:90000000<=fu)(t:TP)(hs:o5 t.val)(ht:Fv t)(hb:t.val.2.length<=12000):qi6 fu t=some (kv t):=by
 obtain⟨y1,y2⟩:=qug t.val.1;have hsf:l9 t.val.1:=hs.1.1;have hp:(ce (dz t.val.1).2.2 mg).1.length<=4000000:=qtk _ _ _ fun x hx=>(y1.2.2.2 x hx).2
 have hc:=qrz t.val.2 hb (bu t.val.1 gf);have hd:∀k,(qd k (ir Tr.decR (bu t.val.1 gf) t.val.2)).length<=100000:=fun k=>by have:=q13 k (ir Tr.decR (bu t.val.1 gf) t.val.2);omega
 have p1:∀k:Int,(k=0\/k=1\/k=2\/k=3)->qi7 fu k t=some (jd (qd k (ir Tr.decR (bu t.val.1 gf) t.val.2))):=fun k hk=>by
  unfold qi7;simp only[c8];have:=hd k;have g:=zyb fu fu [] (qd k (ir Tr.decR (bu t.val.1 gf) t.val.2)) [] oA oB oB
  rw[zux fu hfu t ht hb,qB,zop fu hfu k hk _ hc,qB];exact g
 have hr:=zw1 (ce (dz t.val.1).2.2 mg).1;have h0:(ce (dz t.val.1).2.2 mg).2=false->ke (ce (dz t.val.1).2.2 mg).1 = -1:=fun q=>by
  have:(ce (dz t.val.1).2.2 mg).1=[]:=by
   unfold ce at q ⊢;split at q
   ·cases q
   ·rfl
  rw[this];decide
 have key:∀m:ef,la m.2.2->ce m.2.2 mg=ce (dz t.val.1).2.2 mg->((qc8 fu m mg).bind fun x2=>(qib fu x2.1).bind fun x3=>bif !x2.2 then qdq fu x3 true t else qdq fu x3 (decide (x3<(0:Int))) t)=some (kv t):=fun m hm e=>by
  rw[qt2 fu hfu m _ oC hm,qB,e,zw3 fu hfu _ hp,qB]
  unfold kv qms qdq;simp only[c8];cases q:(ce (dz t.val.1).2.2 mg).2
  ·rw[da,ar rfl,qX (h0 q),p1 2 oA]
  ·rw[bt,bn];by_cases h:ke (ce (dz t.val.1).2.2 mg).1 = -1
   ·rw[qX oA,qX h,p1 2 oA]
   ·rw[qW oA,qW h,p1 _ oA]
 unfold qi6;simp only[c8];rw[qui fu hfu _ hsf,qB]
 cases e:gz t.val.1 with
 |none=>exact key _ (by simp[la]) (by unfold dz;rw[e])
 |some m=>
  have hm:dz t.val.1=m:=by unfold dz;rw[e]
  exact key m (by rw[← hm];exact y1.2.2) (by rw[hm])
open Go.Lib (indexByte)
-- tags
def slc(c:UInt8):Bool:=([47,32]:List UInt8).contains c
def oo(s:Bs):Bs:=(s.reverse.dropWhile slc).reverse
def zha(t:Bs)(c:UInt8):oo (t++[c])=if slc c=true then oo t else t++[c]:=by
 unfold oo;rw[List.reverse_append,List.reverse_singleton,wM,List.dropWhile_cons];split
 ·rfl
 ·simp
def zw9(c:UInt8)(h1:c≠47)(h2:c≠32):slc c=false:=by unfold slc;simp[h1,h2]
def zym(s:Bs):(oo s).length<=s.length:=by
 unfold oo;rw[List.length_reverse];have:=(List.dropWhile_sublist slc (l:=s.reverse)).length_le
 rwa [List.length_reverse]at this
def zyq(fu n:Nat):∀(s:Bs),s.length<n->s.length<1000000000->qay fu n s (ja [47,32])=some (oo s,ja [47,32]):=by
 induction n with
 |zero=>intro s h;omega|succ n ih=>
  intro s h hb;rw[qay,qqq];rcases List.eq_nil_or_concat s with rfl|⟨t,c,rfl⟩
  ·rw[ao];rfl
  ·rw[List.concat_eq_append]at *;simp only[qM,qL,qZ]at h hb;rw[ia,ag,il _ oA,tg,qB,qe2 q0p,qB,rh,ag,ih t oA oA,zha]
   unfold slc;cases ([47,32]:List UInt8).contains c<;>rfl
def zyp(fu:Nat)(s:Bs)(hfu:100<=fu)(h:s.length<fu)(hb:s.length<1000000000):qax fu s [47,32]=some (oo s):=by
 unfold qax
 cases s with
 |nil=>rfl|cons c s=>
  rw[au (by rfl)]
  unfold qkn;rw[au (by rfl)]
  unfold qqn;rw[au oE]
  unfold qko;rw[au (by rfl)]
  unfold qqo;obtain⟨n,rfl⟩:∃n,fu=n+100:=⟨fu-100,oA⟩
  rw[q0p.set,qB];simp only[q0p.len];rw[ar (by rw[List.length_replicate];rfl),ar]
  unfold qqp;rw[zyq (n+100) (n+100) (c::s) h hb];rfl
def vx(L:Bs):Bs:=if L=[98,114] then[10] else if L=[47,112] then[10] else if L=[47,100,105,118] then[10] else if L=[47,108,105] then[10] else[]
def zx2(L:Bs):(vx L).length<=1:=by
 unfold vx;repeat' split
 all_goals simp
def zx3(fu:Nat)(s:Bs)(hfu:100<=fu:=by omega)(h:s.length<fu:=by omega)(hb:s.length<1000000000:=by omega):qqz fu s=some (vx ((oo s).map lo)):=by
 have hl:=zym s;unfold qqz vx;rw[zyp fu s hfu h hb,qB,qfu fu _ oA oN,qB]
 generalize (oo s).map lo=L;rw[jb,jb,jb,jb];by_cases h1:L=[98,114]
 ·rw[qX h1,qX h1]
 by_cases h2:L=[47,112]
 ·rw[qW h1,qW h1,qX h2,qX h2]
 by_cases h3:L=[47,100,105,118]
 ·rw[qW h1,qW h1,qW h2,qW h2,qX h3,qX h3]
 rw[qW h1,qW h1,qW h2,qW h2,qW h3,qW h3];split<;>rfl
def zfx(fu:Nat)(r0:Bs->Bs->Int->Option Bs)(r1:Bs->Bs->Int->Bs->Option Bs)(s out name:Bs)(e:Int)(hf:name.length<fu)(hn:name.length<=1000000)(ho:out.length<=1000000000) :
  wu fu r0 r1 s out e name false=r0 s (out++vx (name.map lo)) (ae (e+1)):=by
 have p5:∀b:Bool,qaa fu r0 s out e b=r0 s (out++if b=true then[10] else[]) (ae (e+1)):=fun b=>by
  unfold qaa qos;cases b
  ·rw[au rfl];simp
  ·rw[ar rfl,ag mA];rfl
 unfold wu vx;rw[au rfl,vn fu name hf oN,qB]
 generalize name.map lo=L;rw[p5,p5,jb,jb,jb];by_cases h1:L=[98,114]
 ·rw[qX h1,qX h1];rfl
 by_cases h2:L=[47,112]
 ·rw[qW h1,qW h1,qX h2,qX h2];rfl
 by_cases h3:L=[47,100,105,118]
 ·rw[qW h1,qW h1,qW h2,qW h2,qX h3,qX h3];rfl
 rw[qW h1,qW h1,qW h2,qW h2,qW h3,qW h3];by_cases h4:L=[47,108,105]
 ·rw[qX h4,qX (by rw[h4];rfl)]
 ·rw[qW h4,qW (by simpa using h4)]
def zwa(fu:Nat)(r0:Bs->Bs->Int->Option Bs)(s out:Bs)(e:Int)(ho:out.length<=1000000000)(n:Nat):∀name:Bs,name.length<n->name.length<fu->name.length<=1000000 ->
  qdo fu r0 n s out e name=r0 s (out++vx ((oo name).map lo)) (ae (e+1)):=by
 induction n with
 |zero=>intro s h;omega|succ n ih=>
  intro name h hf hb;rw[qdo,qxi];rcases List.eq_nil_or_concat name with rfl|⟨t,c,rfl⟩
  ·rw[ao,zfx fu r0 _ s out [] e hf hb ho];rfl
  ·rw[List.concat_eq_append]at *;have ac:(t++[c]).length=t.length+1:=oC
   have p3t:wu fu r0 (qdo fu r0 n) s out e (t++[c]) true=r0 s (out++vx ((oo t).map lo)) (ae (e+1)):=by
    unfold wu qxj;rw[ar rfl,ia,il _ oA,rh,ag]
    exact ih t oA oA oA
   rw[ia,ag,il _ oA,tg,qB,ez,qB,zha]
   by_cases h1:c=47
   ·rw[qX h1,qX (by rw[h1];rfl),p3t]
   ·rw[qW h1];by_cases h2:c=32
    ·rw[qX (by rw[h2];rfl),show(c==32)=true by rw[h2];rfl,p3t]
    ·rw[qW (by rw[zw9 c h1 h2];simp),show(c==32)=false by simpa using h2,zfx fu r0 _ s out _ e hf hb ho]
-- entities
def mi(c:UInt8):Bool:=decide (48<=c.toNat/\c.toNat<=57)
def dv(acc:Nat)(l:Bs):Nat:=l.foldl (fun a c=>10*a+(c.toNat-48)) acc
def zo2(acc:Nat):dv acc []=acc:=rfl
def q2d(acc:Nat)(c:UInt8)(r:Bs):dv acc (c::r)=dv (10*acc+(c.toNat-48)) r:=by unfold dv;rw[List.foldl_cons]
def q2e:∀(l:Bs)(acc B:Nat),acc<B->l.all mi=true->dv acc l<B*10 ^ l.length
 |[],acc,B,h,_=>by rw[zo2];simpa using h|c::r,acc,B,h,hd=>by
  rw[List.all_cons,qA]at hd;have hc:=of_decide_eq_true hd.1;have:=q2e r (10*acc+(c.toNat-48)) (B*10) oA hd.2
  rw[q2d,qL,Nat.pow_succ,Nat.mul_comm (10 ^ r.length),← Nat.mul_assoc];exact this
def zeu:∀(l:Bs)(k acc:Nat),l.all mi=true->l.length<=k->acc<10 ^ (15-k)->k<=15->Lib.parseUint10 acc l = .ok (dv acc l)
 |[],_,_,_,_,_,_=>rfl|c::r,k,acc,h,hl,ha,hk=>by
  rw[List.all_cons,qA]at h;have hc:=of_decide_eq_true h.1;simp only[qL]at hl;have hp:10 ^ (15-(k-1))=10 ^ (15-k)*10:=by rw[show 15-(k-1)=15-k+1 by omega,Nat.pow_succ]
  have hle:10 ^ (15-k)<=10 ^ 15:=Nat.pow_le_pow_right oA oA
  have h15:(10:Nat) ^ 15=1000000000000000:=oE
  rw[Lib.parseUint10,qX hc,qW oA,qW oA,q2d,show acc*10+(c.toNat-48)=10*acc+(c.toNat-48) by omega]
  exact zeu r (k-1) _ h.2 oA (by rw[hp];omega) oA
def zm1(l:Bs)(h:l.all mi=true)(h0:l≠[])(h6:l.length<=6):qat l=some (dv 0 l:Int):=by
 have hu:=zeu l 6 0 h h6 oE oA
 have hlt:=q2e l 0 1 oA h
 have hp:10 ^ l.length<=10 ^ 6:=Nat.pow_le_pow_right oA h6
 have h15:(10:Nat) ^ 6=1000000:=oE
 unfold qat;rw[ag]
 cases l with
 |nil=>exact absurd rfl h0|cons c r=>
  rw[List.all_cons,qA]at h;have hc:=of_decide_eq_true h.1;have:Lib.atoiAll (c::r) = .ok (dv 0 (c::r):Int):=by
   unfold Lib.atoiAll Lib.parseMag;simp only;rw[qW (show ¬(c.toNat=43\/c.toNat=45) by omega),qW (show ¬(c::r=[]) by simp),hu]
   simp only;rw[qW oA,qW oA,qW oA]
  rw[this]
def zou(fu n:Nat):∀(ab aa:Bs),aa.length<n->ab.length+aa.length<100000000->qje fu n (ab++aa) ((ab.length+aa.length:Nat):Int) (ab.length:Int)=some (aa.all mi && !(ab++aa==[])):=by
 induction n with
 |zero=>intro ab aa h;omega|succ n ih=>
  intro ab aa h hb;rw[qje,qxv]
  cases aa with
  |nil=>rw[ao];rfl|cons c aa=>
   simp only[qL]at h hb;have ih:=ih (ab++[c]) aa oA oB
   simp only[qM,qL,qZ,qS,wM,wO]at ih;have e1:(48:UInt8).toNat=48:=rfl;have e2:(57:UInt8).toNat=57:=rfl;rw[ag oG,a7,qB,aq _,show ab.length+(c::aa).length=ab.length+1+aa.length by simp only[qL];omega,bn,qB,bn,List.all_cons]
   by_cases h1:c<48
   ·rw[qX h1,show mi c=false from decide_eq_false (by rw[UInt8.lt_iff_toNat_lt]at h1;omega)];rfl
   ·rw[qW h1];by_cases h2:57<c
    ·rw[qX h2,show mi c=false from decide_eq_false (by rw[UInt8.lt_iff_toNat_lt]at h2;omega)];rfl
    ·rw[qW h2,show mi c=true from decide_eq_true (by rw[UInt8.lt_iff_toNat_lt]at h1 h2;omega),ih];rfl
def qbh(s:Bs):Option Bs:=if s=[108,116] then some [60] else if s=[103,116] then some [62] else if s=[97,109,112] then some [38] else if s=[113,117,111,116] then some [34] else if s=[110,98,115,112] then some [32] else
 if s.head? = some 35/\s.tail≠[]/\s.tail.length<=6/\s.tail.all mi=true then some (cg (dv 0 s.tail)) else none
def zpb(s t:Bs)(h:qbh s=some t):t.length<=4:=by
 unfold qbh at h
 repeat' split at h
 all_goals first
  |(simp at h;done)
  |(rw[← qJ h];first|exact qts _|simp)
def zod(s:Bs)(hs:s.length<=1000000):qqe s [35]=some (if s.head? = some 35 then(s.tail,true) else(s,false)):=by
 unfold qqe qyg qyi
 cases s with
 |nil=>rfl|cons c d=>
  rw[ag (show((List.length ([35]:Bs):Int)<=(List.length (c::d):Int)) by simp only[qL,qZ];omega),ag ⟨oC,oU⟩,qB]
  have e:(List.take (List.length ([35]:Bs):Int).toNat (c::d)==([35]:Bs))=(c==35):=by
   show([c]==([35]:Bs))=_;simp
  rw[e];by_cases h:c=35
  ·subst h;rw[show((35:UInt8)==35)=true from rfl,bt,ag ⟨oC,oU⟩];rfl
  ·rw[show(c==35)=false by simpa using h,da,qW (by simpa using h)];rfl
def zpc(fu:Nat)(hfu:90000000<=fu)(s:Bs)(hs:s.length<=1000000):∃r,qqw fu s=some (match qbh s with|some t=>(t,true)|none=>(r,false)):=by
 unfold qqw qbh;rw[jb,jb,jb,jb,jb];by_cases h1:s=[108,116]
 ·rw[qX h1,qX h1];exact⟨[],rfl⟩
 rw[qW h1,qW h1];by_cases h2:s=[103,116]
 ·rw[qX h2,qX h2];exact⟨[],rfl⟩
 rw[qW h2,qW h2];by_cases h3:s=[97,109,112]
 ·rw[qX h3,qX h3];exact⟨[],rfl⟩
 rw[qW h3,qW h3];by_cases h4:s=[113,117,111,116]
 ·rw[qX h4,qX h4];exact⟨[],rfl⟩
 rw[qW h4,qW h4];by_cases h5:s=[110,98,115,112]
 ·rw[qX h5,qX h5];exact⟨[],rfl⟩
 rw[qW h5,qW h5,zod s hs,qB];have t0:∀x,qa0 fu x true=some ([],false):=fun x=>by unfold qa0;rw[ar rfl]
 by_cases hp:s.head? = some 35
 ·rw[qX hp];simp only[];have hl:s.tail.length<=1000000:=by rw[List.length_tail];omega
  have hd:=zou fu fu [] s.tail oA oB
  simp only[List.nil_append,qZ,wO]at hd;rw[show((0:Nat):Int)=0 from rfl]at hd
  unfold qxu;rw[bt,hd,qB,t0];by_cases ha:s.tail.all mi=true
  ·rw[ha];by_cases hn:s.tail=[]
   ·rw[qW (fun q=>q.2.1 hn),hn];exact⟨[],rfl⟩
   ·rw[show(s.tail==[])=false by simpa using hn,show(!(true && !false))=false from rfl,au rfl]
    unfold qa0;rw[bn];by_cases h6:(6:Int)<(s.tail.length:Int)
    ·rw[qX h6,qW (fun q=>by have:=q.2.2.1;omega)];exact⟨[],rfl⟩
    ·have hlt:=q2e s.tail 0 1 oA ha
     have hp6:10 ^ s.tail.length<=10 ^ 6:=Nat.pow_le_pow_right oA oA
     have h15:(10:Nat) ^ 6=1000000:=oE
     rw[qW h6,qX ⟨hp,hn,oA,rfl⟩,zm1 _ ha hn oA,qB,decide_eq_true (show(dv 0 s.tail:Int)<=1114111 by omega),show IntKind.i32.wrap (dv 0 s.tail:Int)=(dv 0 s.tail:Int) by rw[IntKind.wrap_i32];omega]
     exact⟨[],rfl⟩
  ·rw[qW (fun q=>ha q.2.2.2),show s.tail.all mi=false by simpa using ha];exact⟨[],rfl⟩
 ·rw[qW hp,qW (fun q=>hp q.1)]
  simp only[];rw[da,t0];exact⟨[],rfl⟩
def zpa(fu n:Nat):∀(ab aa:Bs)(acc k:Nat),aa.length<n->ab.length+aa.length<1000000->aa.length<=k->acc<10 ^ (15-k)->k<=15 ->
  qi9 fu n (ab++aa) (acc:Int) (ab.length:Int)=some (if aa.all mi=true then(cg (dv acc aa:Int),true) else([],false)):=by
 induction n with
 |zero=>intro ab aa acc k h;omega|succ n ih=>
  intro ab aa acc k h hb hk ha h15;rw[qi9,qxn]
  cases aa with
  |nil=>rw[ao,y7];rfl|cons c aa=>
   simp only[qL]at h hb hk;rw[ag oK,a7,qB,gw,qB,qB,List.all_cons]
   have hp:10 ^ (15-(k-1))=10 ^ (15-k)*10:=by rw[show 15-(k-1)=15-k+1 by omega,Nat.pow_succ]
   have hle:10 ^ (15-k)<=10 ^ 15:=Nat.pow_le_pow_right oA oA
   have h15':(10:Nat) ^ 15=1000000000000000:=oE
   by_cases hc:48<=c.toNat/\c.toNat<=57
   ·have e:(c-48:UInt8).toNat=c.toNat-48:=UInt8.toNat_sub_of_le _ _ (by rw[UInt8.le_iff_toNat_le];exact hc.1)
    have ih:=ih (ab++[c]) aa (10*acc+(c.toNat-48)) (k-1) oA oB oA (by rw[hp];omega) oA
    simp only[qM,qL,qZ,qS,wM,wO]at ih;rw[decide_eq_true oA,bt,show mi c=true from decide_eq_true hc,e,show(10:Int)*(acc:Int)=((10*acc:Nat):Int) by omega,bq (x:=((10*acc:Nat):Int)) oA oA,g7 _ _,aq _,ih,q2d];rfl
   ·rw[decide_eq_false oA,da,show mi c=false from decide_eq_false hc];rfl
abbrev qlo:List Bs:=[[108,116],[103,116],[97,109,112],[113,117,111,116],[110,98,115,112]]
abbrev qsc:List Bs:=[[60],[62],[38],[34],[32]]
def qlp(fu m k:Nat)(a t s:Bs)(hk:k<5)(e1:qlo[k]? = some a)(e2:qsc[k]? = some t):qac fu (m+1) s (k:Int) qlo qsc=if s=a then some (t,true) else qac fu m s ((k+1:Nat):Int) qlo qsc:=by
 rw[qac,qow,ag (show(k:Int)<((qlo).length:Int) by simp only[qL,qZ];omega),gx,show ai qlo (k:Int)=some a by unfold ai;rw[qX oA];exact e1,qB,gx,show ai qsc (k:Int)=some t by unfold ai;rw[qX oA];exact e2,qB,aq k,jb]
 by_cases h:s=a
 ·rw[qX h,qX h.symm]
 ·rw[qW h,qW (fun q=>h q.symm)]
def zpd(fu:Nat)(hfu:90000000<=fu)(s:Bs):qov fu s=some (match qbh s with|some t=>(t,true)|none=>([],false)):=by
 obtain⟨n,rfl⟩:∃n,fu=n+100:=⟨fu-100,oA⟩
 unfold qov qbh;refine(qlp (n+100) (n+99) 0 _ _ s oA rfl rfl).trans ?_
 by_cases h1:s=[108,116]
 ·rw[qX h1,qX h1]
 rw[qW h1,qW h1];refine(qlp (n+100) (n+98) 1 _ _ s oA rfl rfl).trans ?_
 by_cases h2:s=[103,116]
 ·rw[qX h2,qX h2]
 rw[qW h2,qW h2];refine(qlp (n+100) (n+97) 2 _ _ s oA rfl rfl).trans ?_
 by_cases h3:s=[97,109,112]
 ·rw[qX h3,qX h3]
 rw[qW h3,qW h3];refine(qlp (n+100) (n+96) 3 _ _ s oA rfl rfl).trans ?_
 by_cases h4:s=[113,117,111,116]
 ·rw[qX h4,qX h4]
 rw[qW h4,qW h4];refine(qlp (n+100) (n+95) 4 _ _ s oA rfl rfl).trans ?_
 by_cases h5:s=[110,98,115,112]
 ·rw[qX h5,qX h5]
 rw[qW h5,qW h5,qac,qow,ao,gw,qB]
 by_cases hl:(2:Int)<=(s.length:Int)/\(s.length:Int)<=7
 ·cases s with
  |nil=>simp at hl|cons c d=>
   simp only[qL]at hl;have hi:ai (c::d) (0:Int)=some c:=rfl;rw[decide_eq_true oG,bt,hi,qB,List.head?_cons,List.tail_cons]
   unfold qi8;by_cases hc:c=35
   ·subst hc;rw[au (by rfl)]
    unfold qxo;have:=zpa (n+100) (n+100) [35] d 0 6 oA oU oA oE oA
    refine this.trans ?_;by_cases hd:d.all mi=true
    ·rw[qX hd,qX ⟨rfl,fun q=>by subst q;simp at hl,oA,hd⟩]
    ·rw[qW hd,qW (fun q=>hd q.2.2.2)]
   ·rw[ar (by simpa using hc),qW (fun q=>hc (qJ q.1))]
 ·rw[decide_eq_false hl,da];unfold qi8;rw[ar rfl,qW (fun q=>hl ?_)]
  have h2:=q.2.1;have h3:=q.2.2.1
  cases s with
  |nil=>exact absurd rfl h2|cons c d=>
   rw[List.tail_cons]at h2 h3;have:d.length≠0:=fun z=>h2 (List.eq_nil_of_length_eq_zero z)
   simp only[qL];omega
def zpm(fu n:Nat)(c:UInt8):∀(ab aa:Bs),aa.length<n->ab.length+aa.length<100000000 ->
  zi fu n (ab++aa) [c] (ab.length:Int)=some (if indexByte aa c = -1 then -1 else(ab.length:Int)+indexByte aa c):=by
 induction n with
 |zero=>intro ab aa h;omega|succ n ih=>
  intro ab aa h hb;rw[zi,qnu,show((List.length ([c]:Bs):Nat):Int)=1 from rfl,aq _]
  cases aa with
  |nil=>rw[ao (by simp only[List.append_nil];omega)];rfl|cons d aa=>
   simp only[qL]at h hb;have ih:=ih (ab++[d]) aa oA oB
   simp only[qM,qL,qZ,qS,wM,wO]at ih;have hc:=zbb ab d aa
   rw[aq _]at hc
   have hg:=Lib.indexByte_ge aa c;rw[ag oK,ag oK,hc,jb]
   by_cases h1:d=c
   ·have e:indexByte (d::aa) c=0:=by rw[indexByte,qX (by simpa using h1)]
    rw[qX (by rw[h1]),e,qW oE,Int.add_zero]
   ·rw[qW (by simpa using h1),ih]
    by_cases h2:indexByte aa c = -1
    ·have e:indexByte (d::aa) c = -1:=by rw[indexByte,qW (by simpa using h1),qX (by simpa using h2)]
     rw[qX h2,e,qX rfl]
    ·have e:indexByte (d::aa) c=indexByte aa c+1:=by rw[indexByte,qW (by simpa using h1),qW (by simpa using h2)]
     rw[qW h2,e,qW oA]
     congr 1;omega
def zb6(fu:Nat)(s:Bs)(c:UInt8)(k:Nat)(hk:k<=s.length)(hf:s.length<fu:=by omega)(hs:s.length<100000000:=by omega):zh fu s [c] (k:Int)=some (if indexByte (s.drop k) c = -1 then -1 else(k:Int)+indexByte (s.drop k) c):=by
 have:=zpm fu fu c (s.take k) (s.drop k) (by rw[List.length_drop];omega) (by rw[List.length_take,List.length_drop];omega)
 rw[List.take_append_drop,List.length_take,Nat.min_eq_left hk]at this;exact this
def zc5(s:Bs)(k:Nat)(c:UInt8)(hk:k<s.length)(h:s[k]≠c):indexByte (s.drop k) c≠0:=fun q=>by
 obtain⟨h1,_⟩:=Lib.indexByte_some (l:=s.drop k) (c:=c) (o:=0) oA
 rw[List.getElem?_drop,Nat.add_zero,List.getElem?_eq_getElem hk]at h1;exact h (qJ h1)
def zxs(fu:Nat)(hfu:90000000<=fu)(s:Bs)(hs:s.length<=1000000)(n:Nat):∀(k:Nat)(out:Bs),k<=s.length->s.length-k<n->out.length<=4*k->∃r,qef fu n s (k:Int) out=some r/\z8 fu n s out (k:Int)=some r:=by
 induction n with
 |zero=>intro k out _ h;omega|succ n ih=>
  intro k out hk h ho;rw[qef,qz7,z8,qxh];by_cases h0:(k:Int)<(s.length:Int)
  ·have hkl:k<s.length:=oA
   have hgi:ai s (k:Int)=some s[k]:=qq s k hkl;obtain⟨r1,w1,w2⟩:=ih (k+1) (out++[s[k]]) oA oA oH
   have hone:((ai s (k:Int)).bind fun c5=>(xa c5 out).bind fun x6=>qef fu n s (ae ((k:Int)+(1:Int))) x6)=some r1:=by
    rw[hgi,qB,zzm _ _,qB,aq k];exact w1
   have hcut:List.take ((ae ((k:Int)+1)).toNat-(k:Int).toNat) (List.drop (k:Int).toNat s)=[s[k]]:=by
    rw[aq k,show((k+1:Nat):Int).toNat-((k:Nat):Int).toNat=1 by omega,show((k:Nat):Int).toNat=k by omega,List.drop_eq_getElem_cons hkl];rfl
   have done:(bif decide (0<=(k:Int)/\(k:Int)<=ae ((k:Int)+(1:Int))/\ae ((k:Int)+(1:Int))<=(List.length s:Int)) then bif decide (List.length out+List.length (List.take ((ae ((k:Int)+(1:Int))).toNat-(k:Int).toNat) (List.drop (k:Int).toNat s))<=ap) then z8 fu n s (out++(List.take ((ae ((k:Int)+(1:Int))).toNat-(k:Int).toNat) (List.drop (k:Int).toNat s))) (ae ((k:Int)+(1:Int))) else none else none)=some r1:=by
    rw[hcut,aq k,ag,ag mA];exact w2
   have hg:0<=(k:Int)/\(k:Int)<=(List.length s:Int):=oA
   have hmore:∀(j:Int),0<j->(k:Int)+j<(s.length:Int)->∃m:Nat,(k:Int)+j=(m:Int)/\k<m/\m<s.length/\ae ((m:Int)+1)=((m+1:Nat):Int):=fun j h1 h2=>⟨k+j.toNat,oA,oA,oA,aq _⟩
   have hx:∀c:UInt8,xc (List.drop (k:Int).toNat s) c=some (indexByte (List.drop k s) c):=fun c=>rfl
   have hr:∀c:UInt8,-1<=indexByte (List.drop k s) c/\indexByte (List.drop k s) c<(s.length:Int)-k:=fun c=>by
    have:=zq8 (List.drop k s) c;rw[List.length_drop]at this;omega
   have hone':=hone;rw[hgi,qB]at hone'
   -- the second test of the document
   have p2no:s[k]≠38->qdp fu (z8 fu n) s out (k:Int)=some r1:=fun q=>by
    unfold qdp;rw[hgi,qB,ez,qW q];exact done
   rw[ag h0,ag h0,hgi];simp only[qB];rw[ez (b:=(60:UInt8)),ez (b:=(60:UInt8))];by_cases hc:s[k]=60
   ·have hne:=zc5 s k 62 hkl (by rw[hc];decide)
    have hrr:=hr 62;rw[qX hc,qX hc,ag hg,hx,qB,zb6 fu s 62 k hk,qB]
    by_cases h1:0<indexByte (List.drop k s) 62
    ·obtain⟨m,m1,m2,m3,m4⟩:=hmore _ h1 oA
     rw[ag h1,qW (show ¬indexByte (List.drop k s) 62 = -1 by omega),m1,ag (show(0:Int)<(m:Int) by omega),bq (x:=(m:Int)) oA oA,aq k,ag,ag]
     have hlt:(List.take ((m:Int).toNat-((k+1:Nat):Int).toNat) (List.drop ((k+1:Nat):Int).toNat s)).length<=1000000:=by rw[List.length_take,List.length_drop];omega
     generalize List.take ((m:Int).toNat-((k+1:Nat):Int).toNat) (List.drop ((k+1:Nat):Int).toNat s)=nm at hlt;have hl1:=zx2 ((oo nm).map lo);obtain⟨r,e1,e2⟩:=ih (m+1) (out++vx ((oo nm).map lo)) oA oA oS
     refine⟨r,?_,?_⟩
     ·rw[zx3 fu nm,qB,zh3 _ _,qB,m4];exact e1
     ·rw[zwa fu _ s out (m:Int) oA fu nm oA oA hlt,m4];exact e2
    ·have h2:indexByte (List.drop k s) 62 = -1:=oA
     rw[ao h1,qX h2,ao oE]
     exact⟨r1,hone',p2no (by rw[hc];decide)⟩
   ·rw[qW hc,qW hc];rw[ez];by_cases hd:s[k]=38
    ·have hne:=zc5 s k 59 hkl (by rw[hd];decide)
     have hrr:=hr 59;unfold qdp;rw[qX hd,hgi,qB,ez,qX hd,ag hg,hx,qB,zb6 fu s 59 k hk,qB]
     by_cases h1:0<indexByte (List.drop k s) 59
     ·obtain⟨m,m1,m2,m3,m4⟩:=hmore _ h1 oA
      rw[ag h1,qW (show ¬indexByte (List.drop k s) 59 = -1 by omega),m1,ag (show(0:Int)<(m:Int) by omega),bq (x:=(m:Int)) oA oA,show ae ((k:Int)+1)=((k+1:Nat):Int) from aq k,ag (show(0:Int)<=((k+1:Nat):Int)/\((k+1:Nat):Int)<=(m:Int)/\(m:Int)<=(s.length:Int) by omega),ag (show(0:Int)<=((k+1:Nat):Int)/\((k+1:Nat):Int)<=(m:Int)/\(m:Int)<=(s.length:Int) by omega)]
      have hlt:(List.take ((m:Int).toNat-((k+1:Nat):Int).toNat) (List.drop ((k+1:Nat):Int).toNat s)).length<=1000000:=by rw[List.length_take,List.length_drop];omega
      generalize List.take ((m:Int).toNat-((k+1:Nat):Int).toNat) (List.drop ((k+1:Nat):Int).toNat s)=nm at hlt;obtain⟨x,ex⟩:=zpc fu hfu nm hlt;rw[ex,zpd fu hfu nm,qB,qB]
      cases hen:qbh nm with
      |some t=>
       have hl4:=zpb nm t hen;obtain⟨r,e1,e2⟩:=ih (m+1) (out++t) oA oA oS
       simp only[];refine⟨r,?_,?_⟩
       ·rw[ar rfl,zh3 _ _,qB,m4];exact e1
       ·rw[ar rfl,ag oO,m4];exact e2
      |none=>
       simp only[];rw[au rfl,au rfl];refine⟨r1,?_,?_⟩
       ·rw[show((k+1:Nat):Int)=ae ((k:Int)+1) from(aq k).symm];exact hone'
       ·rw[show((k+1:Nat):Int)=ae ((k:Int)+1) from(aq k).symm];exact done
     ·have h2:indexByte (List.drop k s) 59 = -1:=oA
      rw[ao h1,qX h2,ao oE]
      exact⟨r1,hone',done⟩
    ·rw[qW hd];exact⟨r1,hone',p2no hd⟩
  ·rw[ao h0,ao h0];exact⟨out,rfl,rfl⟩
end Go.Sym
namespace Go.Sym
def zxt(fu:Nat)(hfu:90000000<=fu)(s:Bs)(hs:s.length<=1000000):∃r,qqy fu s=some r/\z7 fu s=some r:=zxs fu hfu s hs fu 0 [] oA oA oC
def q2p(kd sb:Bs):∀L:List (TP×Int),ji kd sb L=(L.map (·.1)).find? (gq kd sb)
 |[]=>rfl|x::L=>by
  rw[ji,List.map_cons,List.find?_cons,q2p kd sb L];cases gq kd sb x.1<;>rfl
def Ok(x:TP):Prop:=o5 x.val/\Fv x/\(x.kids.length=0->x.val.2.length<=12000)
def q22{kd sb:Bs}{x:TP}(h:gq kd sb x=true):x.kids.length=0:=by
 unfold gq at h;rw[qA]at h;exact of_decide_eq_true h.1
def zu2(fu:Nat)(hfu:90000000<=fu)(n:Nat):∀ab aa:List TP,aa.length<n->ab.length+aa.length<100000000->(∀x∈aa,Ok x) ->
  qi5 fu n (ab++aa) (ab.length:Int)=match aa.find? (gq jv kHt) with
   |some q=>z7 fu (kv q)|none=>some []:=by
 induction n with
 |zero=>intro ab aa h;omega|succ n ih=>
  intro ab aa h hb hs;rw[qi5,qxg]
  cases aa with
  |nil=>rw[ao];rfl|cons y aa=>
   simp only[qL]at h hb;obtain⟨a1,a2,a3⟩:=hs y qH;have ih:=ih (ab++[y]) aa oA oB (fun x hx=>hs x (qE _ hx))
   simp only[qM,qL,qZ,qS,wM,wO]at ih;rw[ag oK,a7,qB,List.find?_cons]
   simp only[c8];rw[zc0 fu hfu y a1 _ oC,qB]
   cases hk:gq jv kHt y
   ·rw[au rfl,aq _];exact ih
   ·rw[ar rfl,qB];simp only[c8];rw[zfy fu hfu y a1 a2 (a3 (q22 hk)),qB];cases z7 fu (kv y)<;>rfl
def zu1(fu:Nat)(hfu:90000000<=fu)(n:Nat):∀ab aa:List TP,aa.length<n->ab.length+aa.length<10000000->(∀x∈ab++aa,Ok x) ->
  qi4 fu n (ab++aa) (ab.length:Int)=match aa.find? (gq jv kPl) with
   |some q=>some (kv q)|none=>match(ab++aa).find? (gq jv kHt) with
    |some q=>z7 fu (kv q)|none=>some []:=by
 induction n with
 |zero=>intro ab aa h;omega|succ n ih=>
  intro ab aa h hb hs;rw[qi4,qxf]
  cases aa with
  |nil=>
   rw[ao]
   have:=zu2 fu hfu fu [] (ab++[]) (by simp only[List.append_nil,qZ]at hb ⊢;omega) (by simp only[List.append_nil,qZ]at hb ⊢;omega) hs
   exact this
  |cons y aa=>
   simp only[qL]at h hb;obtain⟨a1,a2,a3⟩:=hs y oC
   have ih:=ih (ab++[y]) aa oA oB (fun x hx=>hs x (by simpa using hx))
   simp only[qM,qL,qZ,qS,wM,wO]at ih;rw[ag oK,a7,qB,List.find?_cons]
   simp only[c8];rw[zc0 fu hfu y a1 _ oC,qB]
   cases hk:gq jv kPl y
   ·rw[au rfl,aq _];exact ih
   ·rw[ar rfl,qB];simp only[c8];rw[zfy fu hfu y a1 a2 (a3 (q22 hk))];rfl
def zrm(t:TP)(hs:gd t):qds 100000000 t=some true:=by
 have hfu:90000000<=100000000:=oA
 have hz:=hs.1;unfold qds qxm;simp only[c8];rw[zze,qB,bt,zli 100000000 hfu t hs,ztk 100000000 hfu t hs,qB,ip];by_cases h:(mv 100000000 t).1≠0
 ·rw[qX h,qX h,qB,qB,ar];simp
 ·have h0:(mv 100000000 t).1=0:=by simpa using h
  obtain⟨q1,q2,q3⟩:=zel h0;have hp:mv 100000000 t=(0,0):=by
   unfold mv;rw[qW oA,qW (by simp only[List.any_eq_true,decide_eq_true_eq];rintro⟨x,hx,hx2⟩;have:=q3 x hx;omega),zf5 _ _ q2];rfl
  have hok:∀x∈(bf 100000000 t 0).map (·.1),Ok x:=fun x hx=>by
   obtain⟨z,hz,rfl⟩:=List.mem_map.1 hx;exact⟨hs.2 _ _ z hz,⟨(qme (q2 z hz)).1,(qme (q2 z hz)).2.1⟩,(qme (q2 z hz)).2.2⟩
  have hfl:=zcd 100000000 hfu 100000000 t 0 oA oA oA
  rw[show((0:Nat):Int)=0 from rfl]at hfl
  have hr:=zu1 100000000 hfu 100000000 [] ((bf 100000000 t 0).map (·.1)) oR (by rw[wC];simp only[qZ];omega) (fun x hx=>hok x (by simpa using hx))
  simp only[List.nil_append,qZ]at hr;rw[show((0:Nat):Int)=0 from rfl]at hr
  have hro:qor 100000000 t=(match((bf 100000000 t 0).map (·.1)).find? (gq jv kPl) with
   |some q=>some (kv q)|none=>match((bf 100000000 t 0).map (·.1)).find? (gq jv kHt) with
    |some q=>z7 100000000 (kv q)| none=>some []):=by
   unfold qor qon;simp only[c8];rw[hfl,qB];exact hr
  rw[qW h,qW h,hro,hp,q2p,q2p];have fin:∀s:Bs,(bif((((0:Int),(0:Int)).1==((0:Int),(0:Int)).1)&&((((0:Int),(0:Int)).2==((0:Int),(0:Int)).2)&&true)) then some (s==s) else some false)=some true:=fun s=>oC
  have hv:∀(kd sb:Bs)(q:TP),((bf 100000000 t 0).map (·.1)).find? (gq kd sb)=some q->xe 100000000 q=some (kv q)/\(kv q).length<=48000:=fun kd sb q e=>by
   obtain⟨o1,o2,o3⟩:=hok q (List.mem_of_find?_eq_some e);have hb:=o3 (q22 (List.find?_some e));exact⟨zzg _ hfu q o2 hb,zyt q hb⟩
  cases e1:((bf 100000000 t 0).map (·.1)).find? (gq jv kPl) with
  |some q=>
   simp only[];rw[(hv _ _ q e1).1,qB,qB,qB];exact fin _
  |none=>
   simp only[]
   cases e2:((bf 100000000 t 0).map (·.1)).find? (gq jv kHt) with
   |some q=>
    simp only[];obtain⟨r,s1,s2⟩:=zxt 100000000 hfu (kv q) (by have:=(hv _ _ q e2).2;omega)
    rw[(hv _ _ q e2).1,qB,s1,s2,qB,qB,qB];exact fin _
   |none=>exact fin []
def zrn(x:TP×Unit)(h:bks [.tree τP] x<=1048576):qds 100000000 x.1=some true:=by
 obtain⟨t,_⟩:=x;have h:cv t+0<=1048576:=h;exact zrm t (zp2)
end Go.Sym
