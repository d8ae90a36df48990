/- What the claim rests on, part 7: gathered texts. -/
import Derived.Lib.CountLaws
import Derived.Lib.IndexLaws
import Derived.Lib.Join
import Derived.Test.YtdnaaelkpgijeaaGreatDoorSyQ4
set_option maxRecDepth 100000
set_option linter.defProp false
set_option linter.unusedSimpArgs false
set_option linter.unusedVariables false
namespace Go.Sym
def dj{x:Int}(h1 : -9223372036854775808<=x:=by omega)(h2:x<9223372036854775808:=by omega):ae x=x:=by
 unfold ae IntKind.wrap;simp[IntKind.signed,IntKind.bits];omega
def a8{α:Type}{b:Bool}{x y:α}(h:b=true:=by first|rfl|simp;done):(bif b then x else y)=x:=by subst h;rfl
def au{α:Type}{b:Bool}{x y:α}(h:b=false):(bif b then x else y)=y:=by subst h;rfl
def cm{α:Type}{p:Prop}[Decidable p]{x y:α}:(bif decide p then x else y)=if p then x else y:=by by_cases h:p<;>simp[h]
def ah{α:Type}{p:Prop}[Decidable p]{x y:α}(h:p:=by first|omega|simp;done|simp;omega):(bif decide p then x else y)=x:=a8 (decide_eq_true h)
def ax{α:Type}{p:Prop}[Decidable p]{x y:α}(h:¬p:=by first|omega|simp;done|simp;omega):(bif decide p then x else y)=y:=au (decide_eq_false h)
def jb{α:Type}{a b:Int}{x y:α}:(bif a != b then x else y)=if a≠b then x else y:=by
 by_cases h:a=b
 ·rw[au (by simp[h]),qW (by simp[h])]
 ·rw[a8 (by simp[h]),qX h]
def ur{α:Type}{a b:Int}{x y:α}:(bif a==b then x else y)=if a=b then x else y:=by
 by_cases h:a=b
 ·rw[a8 (by simp[h]),qX h]
 ·rw[au (by simp[h]),qW h]
def rt{α:Type}{a b:UInt8}{x y:α}:(bif a==b then x else y)=if a=b then x else y:=by
 by_cases h:a=b
 ·rw[a8 (by simp[h]),qX h]
 ·rw[au (by simp[h]),qW h]
def q0y{α:Type}{a b:UInt8}{x y:α}:(bif a != b then x else y)=if a≠b then x else y:=by
 by_cases h:a=b
 ·rw[au (by simp[h]),qW (by simp[h])]
 ·rw[a8 (by simp[h]),qX h]
def qkk{α β:Type}(l:List α)(i:Int)(f:α->Option β):(bif decide (0<=i/\i.toNat<List.length l) then(l[i.toNat]?).bind f else none)=(am l i).bind f:=by
 unfold am;by_cases h:0<=i
 ·by_cases h2:i.toNat<l.length
  ·simp[h,h2]
  ·simp[h,h2]
 ·simp[h]
def sf{α:Type}(l:List α)(k:Nat)(h:k<l.length:=by omega):am l (k:Int)=some l[k]:=by
 unfold am;rw[qX];simp[h]
def cq{α:Type}(ab:List α)(c:α)(aa:List α):am (ab++c::aa) (ab.length:Int)=some c:=by
 unfold am;rw[qX];simp
def qei{α:Type}(ab:List α)(c:α)(aa:List α):(ab++c::aa)[((ab.length:Nat):Int).toNat]? = some c:=oB
def qko{α:Type}(ab:List α)(c d:α)(aa:List α):List.set (ab++c::aa) ((ab.length:Nat):Int).toNat d=ab++d::aa:=oB
def b9(k:Nat)(h:k<9223372036854775807:=by omega):ae ((k:Int)+1)=((k+1:Nat):Int):=by rw[dj];omega
def kj(P:UInt8->Prop)(h:∀n:_root_.Fin 256,P (UInt8.ofNat n.val))(c:UInt8):P c:=by
 have:=h ⟨c.toNat,c.toNat_lt⟩;simpa using this
def lo(c:UInt8):UInt8:=if 65<=c/\c<=90 then c+32 else c
def bl(c:UInt8):Bool:=c==32||c==9
def g8(l:List UInt8):List UInt8:=(l.reverse.dropWhile bl).reverse
def vj(l:List UInt8):List UInt8:=l.dropWhile bl
def ix(l:List UInt8):List UInt8:=g8 (vj l)
def qkm(t:List UInt8)(c:UInt8):g8 (t++[c])=if bl c then g8 t else t++[c]:=by
 unfold g8;rw[List.reverse_append,List.reverse_singleton,wM,List.dropWhile];cases bl c
 ·simp
 ·simp
def qb2(n:Nat)(h:n<1000000000:=by omega):ae (((n+1:Nat):Int)-1)=(n:Int):=by rw[dj];omega
def qqj{α:Type}(t:List α)(c:α):am (t++[c]) (t.length:Int)=some c:=cq t c []
def q5e{α:Type}(t:List α)(c:α):List.take ((t.length:Nat):Int).toNat (t++[c])=t:=oB
def qbc{α:Type}(t:List α)(c:α):((t++[c]).length:Int)=((t.length+1:Nat):Int):=oB
def q1y{α:Type}(ab:List α)(aa:List α):List.drop ((ab.length:Nat):Int).toNat (ab++aa)=aa:=oB
def qkt{α:Type}(ab:List α)(aa:List α):List.take ((ab.length:Nat):Int).toNat (ab++aa)=ab:=oB
def qpx{α:Type}(ab:List α)(c:α)(aa:List α):List.drop ((ab.length+1:Nat):Int).toNat (ab++c::aa)=aa:=by
 rw[show((ab.length+1:Nat):Int).toNat=(ab++[c]).length by simp,show ab++c::aa=(ab++[c])++aa by simp]
 simp
def qd{α:Type}(ab:List α)(c:α)(aa:List α):((ab++c::aa).length:Int)=((ab.length+aa.length+1:Nat):Int):=by simp;omega
def zib{α:Type}(ab:List α)(aa:List α):((ab++aa).length:Int)=((ab.length+aa.length:Nat):Int):=oB
def zhj(k:UInt8)(t r:List UInt8)(h:∀x∈t,x≠k):Lib.indexByte (t++k::r) k=(t.length:Int):=by
 induction t with
 |nil=>simp[Lib.indexByte]|cons c t ih=>
  have hc:=h c qH;rw[wK,Lib.indexByte,ih (fun x hx=>h x (qE _ hx)),qW (by simpa using hc),qW (by simp<;>omega)]
  simp
def q2q(k:UInt8)(t:List UInt8)(h:∀x∈t,x≠k):Lib.indexByte t k = -1:=by
 induction t with
 |nil=>rfl|cons c t ih=>
  have hc:=h c qH;rw[Lib.indexByte,ih (fun x hx=>h x (qE _ hx)),qW (by simpa using hc),qX oE]
def yt(k:UInt8):∀(s:List UInt8),(∃t r,s=t++k::r/\∀x∈t,x≠k)\/∀x∈s,x≠k
 |[] => .inr (fun _ h=>by cases h)
 |c::s=>by
  by_cases hc:c=k
  ·subst hc;exact .inl ⟨[],s,rfl,fun _ h=>by cases h⟩
  ·rcases yt k s with⟨t,r,rfl,h⟩|h
   ·exact .inl ⟨c::t,r,rfl,fun x hx=>(List.mem_cons.1 hx).elim (fun e=>e▸hc) (h x)⟩
   ·exact .inr fun x hx=>(List.mem_cons.1 hx).elim (fun e=>e▸hc) (h x)
def zhk(k:UInt8)(s:List UInt8):(0<=Lib.indexByte s k)↔k∈s:=by
 rcases yt k s with⟨t,r,rfl,h⟩|h
 ·rw[zhj k t r h];simp
 ·rw[q2q k s h];constructor
  ·intro h;omega
  ·intro hk;exact absurd rfl (h k hk)
def pw{α:Type}{x y:α}:(bif !false then x else y)=x:=rfl
def ee{α:Type}{x y:α}:(bif !true then x else y)=y:=rfl
def q0x(a b:UInt8):(a==b)=(b==a):=by
 by_cases h:a=b
 ·rw[h]
 ·rw[beq_false_of_ne h,beq_false_of_ne (Ne.symm h)]
def zev{a b:Nat}(h:a<b):Nat.blt a b=true:=Nat.ble_eq_true_of_le h
def zeu{a b:Nat}(h:¬a<b):Nat.blt a b=false:=by
 cases hq:Nat.blt a b
 ·rfl
 ·exact absurd (Nat.le_of_ble_eq_true hq) h
def q2l(l:List UInt8)(k:Nat)(c:UInt8)(h:l[k]? = some c):(⟨l.toArray⟩:ByteArray).get! k=c:=by
 obtain⟨hk,rfl⟩:=List.getElem?_eq_some_iff.1 h;show(l.toArray)[k]! = _;simp[hk]
def z2t(l:List UInt8):(⟨l.toArray⟩:ByteArray).size=l.length:=by simp[ByteArray.size]
def zj2(s:List UInt8)(p:Nat)(c:UInt8)(h:s[p]? = some c)(hc:c.toNat<128):cr s p=(c.toNat,1):=by
 unfold cr Utf8.decode;simp only[Nat.add_zero,q2l s p c h,hc,if_true]
def z07(s:List UInt8)(p:Nat)(c:UInt8)(h:s[p]? = some c)(hc:128<=c.toNat):128<=(cr s p).1/\1<=(cr s p).2/\∀j,j<(cr s p).2->∃d,s[p+j]? = some d/\128<=d.toNat:=by
 have hn:¬c.toNat<128:=oA
 have cont:∀k,(decide (p+k<(⟨s.toArray⟩:ByteArray).size)&&((⟨s.toArray⟩:ByteArray).get! (p+k)).toNat/64==2)=true->∃d,s[p+k]? = some d/\128<=d.toNat:=by
  intro k hk;simp only[qA,decide_eq_true_eq,beq_iff_eq,z2t]at hk;obtain⟨h1,h2⟩:=hk;refine⟨s[p+k],by simp[h1],?_⟩
  rw[q2l s (p+k) s[p+k] (by simp[h1])]at h2
  omega
 have z:∀j,j<1->∃d,s[p+j]? = some d/\128<=d.toNat:=fun j hj=>by
  obtain rfl:j=0:=oA
  exact⟨c,h,hc⟩
 unfold cr Utf8.decode;simp only[Nat.add_zero,q2l s p c h,hn,if_false];split
 ·rename_i hk;simp only[qA]at hk;have c1:=cont 1 (by simpa using hk.2)
  split
  ·rename_i hge;refine⟨hge,oB,fun j hj => ?_⟩
   match j,hj with|0,_=>exact⟨c,h,hc⟩|1,_=>exact c1
  ·exact⟨mB,wF _,z⟩
 ·split
  ·rename_i hk;simp only[qA]at hk;have c1:=cont 1 (by simpa using hk.1.2)
   have c2:=cont 2 (by simpa using hk.2)
   split
   ·rename_i hge;simp only[qA,decide_eq_true_eq]at hge;refine⟨oR,oB,fun j hj => ?_⟩
    match j,hj with|0,_=>exact⟨c,h,hc⟩|1,_=>exact c1|2,_=>exact c2
   ·exact⟨mB,wF _,z⟩
  ·split
   ·rename_i hk;simp only[qA]at hk;have c1:=cont 1 (by simpa using hk.1.1.2)
    have c2:=cont 2 (by simpa using hk.1.2)
    have c3:=cont 3 (by simpa using hk.2)
    split
    ·rename_i hge;simp only[qA,decide_eq_true_eq]at hge;refine⟨oR,oB,fun j hj => ?_⟩
     match j,hj with|0,_=>exact⟨c,h,hc⟩|1,_=>exact c1|2,_=>exact c2|3,_=>exact c3
    ·exact⟨mB,wF _,z⟩
   ·exact⟨mB,wF _,z⟩
def z1e(n:Int)(h:128<=n):∃t c,kw n=t++[c]/\128<=c.toNat/\t.length<=3:=by
 unfold kw Utf8.encode;have hc:∀c:Nat,(if Utf8.valid n=true then n.toNat else Utf8.runeError)=c->128<=c:=by
  intro c hc;split at hc
  ·omega
  ·subst hc;decide
 have last:∀m:Nat,128<=(UInt8.ofNat (0x80+m%64)).toNat:=fun m=>by
  simp only[UInt8.toNat_ofNat'];omega
 generalize hq:(if Utf8.valid n=true then n.toNat else Utf8.runeError)=c
 have hc:=hc c hq;simp only[];rw[qW oA]
 split
 ·exact⟨[_],_,rfl,last _,oB⟩
 ·split
  ·exact⟨[_,_],_,rfl,last _,oB⟩
  ·exact⟨[_,_,_],_,rfl,last _,oB⟩
def q3d(c:UInt8):(c+97)-65=c+32:=by
 rw[UInt8.sub_eq_add_neg,UInt8.add_assoc];rfl
def qj2(fu:Nat):∀(n:Nat)(ab aa:List UInt8),aa.length<n->ab.length+aa.length<=9223372036854775807 ->
  tz fu n ((ab.length+aa.length:Nat):Int) (ab.length:Int) (ab++aa)=some (ab++aa.map lo)
 |0,_,_,h,_=>absurd h oA|n+1,ab,[],_,_=>by simp[tz,qc1]|n+1,ab,c::aa,h,hb=>by
  simp only[qL]at h hb;have ih:=fun d=>qj2 fu n (ab++[d]) aa oA oD
  simp only[qM,qL,qZ,qS,wM,wO]at ih;have e:((ab.length+(c::aa).length:Nat):Int)=((ab.length+1+aa.length:Nat):Int):=by simp only[qL];omega
  have hl:0<=(ab.length:Int)/\(ab.length:Int).toNat<(ab++c::aa).length:=oB
  rw[e];simp only[tz,qc1];rw[ah,ah hl,qei,qB,qko,b9 _,cm,cm,ih,ih,ah hl,qB]
  unfold lo;simp only[List.map_cons,q3d];by_cases h1:(65:UInt8)<=c
  ·by_cases h2:c<=90
   ·simp[h1,h2]
   ·simp[h1,h2]
  ·simp[h1]
def q3h(fu:Nat)(s:List UInt8)(h:s.length<fu)(hb:s.length<=maxLen):wu fu s=some (s.map lo):=by
 unfold wu;rw[ah hb];have:=qj2 fu fu [] s h (by simpa [maxLen] using hb)
 simpa using this
def zey(fu:Nat)(a b:List UInt8)(ha:a.length<fu)(hb:b.length<fu)(ha':a.length<=maxLen)(hb':b.length<=maxLen):e7 fu a b=some (a.map lo==b.map lo):=by
 unfold e7;rw[ur,q3h fu a ha ha',q3h fu b hb hb'];by_cases h:(a.length:Int)=b.length
 ·rw[qX h];rfl
 ·rw[qW h];have:(a.map lo==b.map lo)=false:=by
   rw[beq_eq_false_iff_ne];intro q;apply h;have:=congrArg List.length q;simp only[wC]at this;omega
  rw[this]
open Go.Lib (decodeL decodeN decodeL_N validD validD_step decodeL_le decodeL_width)
def qr8(a b:Nat)(h:a+b<9223372036854775808:=by omega):ae ((a:Int)+(b:Int))=((a+b:Nat):Int):=by rw[dj];omega
def qk0(rep:Bs):∀(n:Nat)(b:Bool)(l:Bs),l.length<=n->vu rep n b l=vu rep l.length b l:=by
 intro n
 induction n using Nat.strongRecOn with
 |ind n ih=>
  intro b l h
  cases l with
  |nil=>cases n<;>rfl
  |cons c t=>
   obtain⟨m,rfl⟩:∃m,n=m+1:=⟨n-1,by simp only[qL]at h;omega⟩
   simp only[qL]at h ⊢;have hw:=decodeL_width (c::t);rw[vu,vu];have hd:((c::t).drop (decodeL (c::t)).2).length<=t.length:=by rw[List.length_drop];simp only[qL];omega
   rw[ih m oA true t oA,ih m oA false _ oA]
   by_cases hm:t.length<m+1
   ·rw[ih t.length oA true t (wF _),ih t.length oA false _ hd]
   ·omega
end Go.Sym
namespace Go.Sym
def z3x(c:UInt8):cy (c.toNat:Int)=c:=by
 unfold cy;have:=c.toNat_lt;rw[show((c.toNat:Int)%256).toNat=c.toNat by omega]
 simp
def zlj(s:List UInt8)(c:UInt8):n7 s c=some (Lib.indexByte s c):=rfl
def zxf(fu:Nat)(cs:List UInt8)(c:UInt8)(h:c.toNat<128):w6 fu cs (c.toNat:Int)=some (Lib.indexByte cs c):=by
 unfold w6 qhp;rw[ah,ah,z3x,zlj];rfl
def zxd(fu n:Nat):∀(cs:List UInt8)(p:Nat),(∀c∈cs,c.toNat<128)->cs.length-p<n->p<=cs.length->qhq fu n cs p=some (-1):=by
 induction n with
 |zero=>intro cs p _ h;omega|succ n ih=>
  intro cs p hA h hp;rw[qhq,qxn];by_cases hlt:p<cs.length
  ·have e:cs[p]? = some cs[p]:=List.getElem?_eq_getElem hlt;have hc:=hA cs[p] (List.getElem_mem hlt);rw[a8 (zev hlt),zj2 cs p _ e hc,ur,qW oR]
   exact ih cs (p+1) hA oA oA
  ·rw[au (zeu hlt)]
def zxe(fu:Nat)(cs:List UInt8)(r:Int)(hr:128<=r)(hA:∀c∈cs,c.toNat<128)(hfu:cs.length<fu)(hb:cs.length<1000):w6 fu cs r=some (-1):=by
 unfold w6 qhp;rw[ah,ax,ur]
 by_cases h1:r=65533
 ·rw[qX h1];exact zxd fu fu cs 0 hA oA oA
 rw[qW h1];have hv:∃b,qn5 r=some b:=by
  unfold qn5;simp only[cm]
  repeat' split
  all_goals exact⟨_,rfl⟩
 obtain⟨b,hv⟩:=hv;rw[hv,qB];cases b
 ·rfl
 rw[show(!true)=false from rfl,qF]
 obtain⟨t,c,e,hc,ht⟩:=z1e r hr;rw[e,qbc,qb2 _]
 obtain⟨n,rfl⟩:∃n,fu=n+1:=⟨fu-1,oA⟩
 rw[qns,qxo];by_cases hl:t.length<cs.length
 ·have hcs:=hA cs[t.length] (List.getElem_mem hl);have hne:cs[t.length]≠c:=fun e=>by rw[e]at hcs;omega
  rw[ah,sf _ _ hl,qB,qqj,qB,q0y,qX hne,b9 _,ah,qB,zlj,qB,q2q,ah oE]
  intro x hx e;have:=hA x (List.mem_of_mem_drop hx);rw[e]at this;omega
 ·rw[ax]
def l9(cs:List UInt8):List Bool:=cs.foldl (fun m c=>m.set c.toNat true) (List.replicate 256 false)
structure AC(cs:List UInt8):Prop where
 two:2<=cs.length
 few:cs.length<100
 low:∀c∈cs,c.toNat<128
 set:∀n,qdk (n+100) cs=some (l9 cs,true)
 get:∀c:UInt8,(l9 cs)[c.toNat]? = some (cs.contains c)
 len:(l9 cs).length=256
def q1j{cs:List UInt8}(A:AC cs)(c:UInt8):qdj c (l9 cs)=some (cs.contains c,l9 cs):=by
 unfold qdj;rw[A.get];rfl
def zw2{cs:List UInt8}(A:AC cs)(fu n:Nat):∀(ab aa:List UInt8),aa.length<n->ab.length+aa.length<1000000000 ->
  ∃r,qhn fu n (ab++aa) (ab.length:Int) (l9 cs)=some r/\decide (0<=r)=aa.any cs.contains:=by
 induction n with
 |zero=>intro ab aa h;omega|succ n ih=>
  intro ab aa h hb;rw[qhn,qxk]
  cases aa with
  |nil=>rw[ax];exact⟨-1,rfl,rfl⟩|cons c aa=>
   simp only[qL]at h hb;rw[qd,ah,cq,qB,q1j A,qB]
   cases hc:cs.contains c
   ·obtain⟨r,h1,h2⟩:=ih (ab++[c]) aa oA oD
    refine⟨r,?_,by rw[h2,List.any_cons,hc,Bool.false_or]⟩
    rw[b9 _]
    simpa using h1
   ·exact⟨_,rfl,by rw[List.any_cons,hc,Bool.true_or];exact decide_eq_true oA⟩
def zw3{cs:List UInt8}(A:AC cs)(fu:Nat)(hfu:100<=fu)(s:List UInt8):∀(n p:Nat),s.length-p<n->p<=s.length ->
  ∃r,qho fu n cs s p=some r/\decide (0<=r)=(s.drop p).any cs.contains:=by
 intro n
 induction n with
 |zero=>intro p h;omega|succ n ih=>
  intro p h hp;rw[qho,qxl];by_cases hlt:p<s.length
  ·have e:s[p]? = some s[p]:=List.getElem?_eq_getElem hlt;have hd:s.drop p=s[p]::s.drop (p+1):=List.drop_eq_getElem_cons hlt;rw[a8 (zev hlt)];by_cases hc:s[p].toNat<128
   ·rw[zj2 s p _ e hc];simp only;rw[zxf fu cs _ hc,qB,cm,hd,List.any_cons];by_cases hm:s[p]∈cs
    ·rw[qX ((zhk _ _).2 hm)];exact⟨_,rfl,by rw[show cs.contains s[p]=true by simpa using hm,Bool.true_or];exact decide_eq_true oA⟩
    ·rw[qW (fun h=>hm ((zhk _ _).1 h))]
     obtain⟨r,h1,h2⟩:=ih (p+1) oA oA
     exact⟨r,h1,by rw[h2,show cs.contains s[p]=false by simpa using hm,Bool.false_or]⟩
   ·obtain⟨q1,q2,q3⟩:=z07 s p _ e oA
    rw[zxe fu cs _ oA A.low (by have:=A.few;omega) (by have:=A.few;omega),qB,ax oE]
    have hle:p+(cr s p).2<=s.length:=by
     obtain⟨d,hd,_⟩:=q3 ((cr s p).2-1) oA
     have:=(List.getElem?_eq_some_iff.1 hd).1;omega
    obtain⟨r,h1,h2⟩:=ih (p+(cr s p).2) oA hle
    refine⟨r,h1,?_⟩;rw[h2];have:∀w,(∀j,j<w->∃d,s[p+j]? = some d/\128<=d.toNat)->(s.drop (p+w)).any cs.contains=(s.drop p).any cs.contains:=by
     intro w
     induction w with
     |zero=>intro _;rfl|succ w ihw=>
      intro hw;rw[← ihw (fun j hj=>hw j oA)]
      obtain⟨d,hd,hd2⟩:=hw w oA
      obtain⟨k1,k2⟩:=List.getElem?_eq_some_iff.1 hd;rw[List.drop_eq_getElem_cons k1,k2,List.any_cons,show cs.contains d=false by
       simp only[List.contains_eq_mem,decide_eq_false_iff_not];intro hm;have:=A.low d hm;omega,Bool.false_or]
      rfl
    exact this _ q3
  ·rw[au (zeu hlt)];exact⟨-1,rfl,by rw[List.drop_eq_nil_of_le oA];rfl⟩
def zuu{cs:List UInt8}(A:AC cs)(fu:Nat)(s:List UInt8)(hfu:100<=fu)(h:s.length<fu)(hb:s.length<1000000000):qno fu s cs=some (s.any cs.contains):=by
 unfold qno;have:∃r,qnq fu s cs=some r/\decide (0<=r)=s.any cs.contains:=by
  unfold qnq;have h2:=A.two;rw[au (by cases cs with
   |nil=>simp at h2| cons a b=>rfl),ur,qW oA]
  unfold qya;rw[qB,cm];split
  ·obtain⟨n,rfl⟩:∃n,fu=n+100:=⟨fu-100,oA⟩
   rw[A.set,qB];simp only[A.len];rw[a8 (by rw[List.length_replicate];rfl),a8]
   have:=zw2 A (n+100) (n+100) [] s oA (by simpa using hb)
   simpa using this
  ·have:=zw3 A fu hfu s fu 0 oA oA
   simpa [qnr] using this
 obtain⟨r,h1,h2⟩:=this;rw[h1,qB,h2]
def zr1:∀n:_root_.Fin 256,(l9 [13,10,0])[(UInt8.ofNat n.val).toNat]? = some (([13,10,0]:List UInt8).contains (UInt8.ofNat n.val)):=by decide +kernel
def ac1:AC [13,10,0]:=⟨oE,oE,oE,fun n=>oC,fun c=>kj (fun c=>(l9 [13,10,0])[c.toNat]? = some (([13,10,0]:List UInt8).contains c)) zr1 c,by decide +kernel⟩
def zr2:∀n:_root_.Fin 256,(l9 [32,9])[(UInt8.ofNat n.val).toNat]? = some (([32,9]:List UInt8).contains (UInt8.ofNat n.val)):=by decide +kernel
def ac3:AC [32,9]:=⟨oE,oE,oE,fun n=>oC,fun c=>kj (fun c=>(l9 [32,9])[c.toNat]? = some (([32,9]:List UInt8).contains c)) zr2 c,by decide +kernel⟩
def zet(c:UInt8):([32,9]:List UInt8).contains c=bl c:=by rw[Bool.eq_iff_iff];simp[bl]
open Go.Lib (decodeL decodeN decodeL_N decodeL_le decodeL_width validD validD_step)
def db(c:Nat):Bs:=if c<128 then[UInt8.ofNat c] else if c<2048 then[UInt8.ofNat (192+c/64),UInt8.ofNat (128+c%64)] else if c<65536 then[UInt8.ofNat (224+c/4096),UInt8.ofNat (128+c/64%64),UInt8.ofNat (128+c%64)] else[UInt8.ofNat (240+c/262144),UInt8.ofNat (128+c/4096%64),UInt8.ofNat (128+c/64%64),UInt8.ofNat (128+c%64)]
def z1d(r:Int):kw r=db (if Utf8.valid r then r.toNat else 65533):=by
 have key:∀c:Nat,(if c<128 then(⟨#[UInt8.ofNat c]⟩:ByteArray) else if c<2048 then⟨#[UInt8.ofNat (192+c/64),UInt8.ofNat (128+c%64)]⟩ else if c<65536 then⟨#[UInt8.ofNat (224+c/4096),UInt8.ofNat (128+c/64%64),UInt8.ofNat (128+c%64)]⟩ else⟨#[UInt8.ofNat (240+c/262144),UInt8.ofNat (128+c/4096%64),UInt8.ofNat (128+c/64%64),UInt8.ofNat (128+c%64)]⟩).data.toList=db c:=fun c=>by
  unfold db;split
  ·rfl
  ·split
   ·rfl
   ·split<;>rfl
 exact key _
def ku(c:Nat):Prop:=c<55296\/(57344<=c/\c<=1114111)
def zj9{c:Nat}(h:ku c):kw (c:Int)=db c:=by
 rw[z1d];have:Utf8.valid (c:Int)=true:=by
  unfold ku at h;unfold Utf8.valid;simp only[Bool.or_eq_true,qA,decide_eq_true_eq];omega
 rw[qX this];simp
def ol{c:Nat}:1<=(db c).length/\(db c).length<=4:=by
 unfold db;repeat' split
 all_goals simp
def q10{c:Nat}:db c≠[]:=fun q=>by have:=ol (c:=c);rw[q]at this;simp at this
def qj(n:Nat)(h:n<256:=by omega):(UInt8.ofNat n).toNat=n:=by rw[UInt8.toNat_ofNat'];omega
def q1t{c:Nat}(h:ku c)(t:Bs):decodeL (db c++t)=(c,(db c).length):=by
 unfold ku at h;rw[decodeL_N];unfold db;by_cases h1:c<128
 ·rw[qX h1];show decodeN (t.length+1) (UInt8.ofNat c).toNat _ _ _=_;rw[qj c]
  unfold decodeN;rw[qX h1];rfl
 rw[qW h1];by_cases h2:c<2048
 ·rw[qX h2];show decodeN (t.length+1+1) (UInt8.ofNat (192+c/64)).toNat (UInt8.ofNat (128+c%64)).toNat _ _=_;rw[qj _,qj _]
  unfold decodeN;rw[qW oA,qX ⟨oA,oA,oA⟩,qX,show(192+c/64)%32*64+(128+c%64)%64=c by omega];rfl
 rw[qW h2];by_cases h3:c<65536
 ·rw[qX h3];show decodeN (t.length+1+1+1) (UInt8.ofNat (224+c/4096)).toNat (UInt8.ofNat (128+c/64%64)).toNat (UInt8.ofNat (128+c%64)).toNat _=_;rw[qj _,qj _,qj _]
  have e:(224+c/4096)%16*4096+(128+c/64%64)%64*64+(128+c%64)%64=c:=oA
  unfold decodeN;rw[qW oA,qW oA,qX ⟨oA,⟨oA,oA⟩,oA,oA⟩,e,qX ⟨oA,oA⟩];rfl
 ·rw[qW h3];show decodeN (t.length+1+1+1+1) (UInt8.ofNat (240+c/262144)).toNat (UInt8.ofNat (128+c/4096%64)).toNat (UInt8.ofNat (128+c/64%64)).toNat (UInt8.ofNat (128+c%64)).toNat=_;rw[qj _,qj _,qj _,qj _]
  have e:(240+c/262144)%8*262144+(128+c/4096%64)%64*4096+(128+c/64%64)%64*64+(128+c%64)%64=c:=oA
  unfold decodeN;rw[qW oA,qW oA,qW oA,qX ⟨oA,⟨oA,oA⟩,⟨oA,oA⟩,oA,oA⟩,e,qX ⟨oA,oA⟩];rfl
def tx(R:List Nat):Bs:=R.flatMap db
def qr1:tx []=[]:=rfl
def kz(c:Nat)(R:List Nat):tx (c::R)=db c++tx R:=by simp[tx]
def yz(R S:List Nat):tx (R++S)=tx R++tx S:=by simp[tx]
def kv(R:List Nat):Prop:=∀c∈R,ku c
def qbm{c:Nat}{R:List Nat}(h:kv (c::R)):ku c/\kv R:=⟨h c qH,fun d hd=>h d (qE _ hd)⟩
def q5h(R:List Nat):R.length<=(tx R).length:=by
 induction R with|nil=>simp|cons c R ih=>rw[kz,qM,qL];have:=ol (c:=c);omega
def qu(R:List Nat):(tx R).length<=4*R.length:=by
 induction R with|nil=>simp[tx]|cons c R ih=>rw[kz,qM,qL];have:=ol (c:=c);omega
def q5i{R:List Nat}(h:R≠[]):tx R≠[]:=by
 cases R with|nil=>exact absurd rfl h|cons c R=>rw[kz];intro q;exact q10 (List.append_eq_nil_iff.1 q).1
def zvc(l:Bs)(hne:l≠[])(hv:¬((decodeL l).1=65533/\(decodeL l).2=1)):ku (decodeL l).1:=by
 have k:=Lib.decodeL_rune l;rw[decodeL_N]at *;unfold ku;unfold decodeN at *
 repeat' split at hv
 all_goals repeat' split
 all_goals simp only at *
 all_goals omega
def zvw{c:Nat}(h:ku c):Lib.encodeRune (c:Int)=db c:=by
 unfold ku at h;unfold Lib.encodeRune db;by_cases h1:c<128
 ·rw[Lib.encodeRuneZ_one oA oA,qX h1];rfl
 rw[qW h1];by_cases h2:c<2048
 ·rw[Lib.encodeRuneZ_two oA oA,qX h2];rfl
 rw[qW h2];by_cases h3:c<65536
 ·rw[Lib.encodeRuneZ_three oA,qX h3];rfl
 ·rw[Lib.encodeRuneZ_four oA oA,qW h3];rfl
def z4i:∀(n:Nat)(l:Bs),l.length<=n->validD l=true->∃R,kv R/\l=tx R:=by
 intro n
 induction n with
 |zero=>
  intro l hl _;have:l=[]:=List.eq_nil_of_length_eq_zero oA
  exact⟨[],(fun c hc=>by cases hc),this⟩
 |succ n ih=>
  intro l hl hv;by_cases hne:l=[]
  ·exact⟨[],(fun c hc=>by cases hc),hne⟩
  ·rw[validD_step l hne]at hv;split at hv
   ·cases hv
   ·rename_i hg;have w:=decodeL_width l;have wl:=decodeL_le l hne;obtain⟨R,h1,h2⟩:=ih (l.drop (decodeL l).2) (by rw[List.length_drop];omega) hv
    have ho:=zvc l hne hg;refine⟨(decodeL l).1::R,?_,?_⟩
    ·intro c hc;rcases List.mem_cons.1 hc with rfl|hc
     ·exact ho
     ·exact h1 c hc
    ·rw[kz,← h2];have e:=Lib.encode_decode l hne hg;rw[zvw ho]at e;rw[e,List.take_append_drop]
def qkf(ab:Bs){c:Nat}(h:ku c)(t:Bs):cr (ab++(db c++t)) ab.length=(c,(db c).length):=by
 unfold cr;rw[← Lib.decodeL_drop];simp only[List.drop_left];exact q1t h t
def q4v(R:List Nat)(h:kv R):jg (R.map fun c:Nat=>(c:Int))=tx R:=by
 induction R with
 |nil=>rfl|cons c R ih=>
  obtain⟨h1,h2⟩:=qbm h;have e:jg ((c::R).map fun c:Nat=>(c:Int))=kw (c:Int)++jg (R.map fun c:Nat=>(c:Int)):=by simp[jg]
  rw[e,zj9 h1,ih h2,kz]
def qiz{a b:Nat}(h:¬a<b):Nat.blt a b=false:=by
 cases q:Nat.blt a b
 ·rfl
 ·exact absurd (by simpa using q) h
def qi0{a b:Nat}(h:a<b):Nat.blt a b=true:=by
 cases q:Nat.blt a b
 ·exact absurd (by simpa using q) (by simpa using h)
 ·rfl
def z2i(f:Nat):∀(ab:Bs)(R:List Nat),kv R->R.length<=f->vv (ab++tx R) f ab.length=R.map fun c:Nat=>(c:Int):=by
 induction f with
 |zero=>
  intro ab R _ h;have:R=[]:=List.eq_nil_of_length_eq_zero oA
  subst this;rfl
 |succ f ih=>
  intro ab R hR h;rw[vv]
  cases R with
  |nil=>rw[qiz (by simp[tx])];rfl|cons c R=>
   obtain⟨h1,h2⟩:=qbm hR;have ih:=ih (ab++db c) R h2 (by simpa using h)
   have hl:=ol (c:=c);rw[kz,qi0 oI,a8 rfl,qkf ab h1,List.map_cons]
   rw[qS,qM]at ih;rw[ih]
end Go.Sym
namespace Go.Sym
def zk4(c:UInt8)(s:List UInt8):g8 (c::s)=if g8 s=[] then(if bl c then[] else[c]) else c::g8 s:=by
 unfold g8;rw[List.reverse_cons];generalize s.reverse=r
 induction r with
 |nil=>simp[List.dropWhile];cases bl c<;>rfl
 |cons x r ih=>
  rw[wK,List.dropWhile,List.dropWhile];cases bl x
  ·simp
  ·simpa using ih
def vk(c:UInt8)(s:List UInt8):vj (c::s)=if bl c then vj s else c::s:=by
 unfold vj;rw[List.dropWhile];cases bl c<;>rfl
def q5g:∀s:List UInt8,vj (g8 s)=ix s
 |[]=>rfl|c::s=>by
  unfold ix;have ih:=q5g s;unfold ix at ih;rw[zk4,vk];cases hc:bl c
  ·simp only[wJ,if_false];rw[zk4,hc];simp only[wJ,if_false];split
   ·rw[vk,hc];rfl
   ·rw[vk,hc];rfl
  ·simp only[if_true];rw[← ih];split
   ·rename_i h;rw[h]
   ·rw[vk,hc];rfl
def qkl(s:List UInt8):(g8 s).length<=s.length:=by
 unfold g8;rw[List.length_reverse];have:=(List.dropWhile_sublist bl (l:=s.reverse)).length_le;simpa using this
def q3j(s:List UInt8):(vj s).length<=s.length:=(List.dropWhile_sublist bl).length_le
def z34(s:List UInt8):(ix s).length<=s.length:=Nat.le_trans (qkl _) (q3j _)
def uz(s:List UInt8):Bool := !(s.head?.any bl) && !(s.getLast?.any bl)
def zmg(s:List UInt8):decide (ix s=s)=uz s:=by
 unfold uz;cases hf:s.head?.any bl
 ·cases hl:s.getLast?.any bl
  ·rw[decide_eq_true];rfl;unfold ix;have h1:vj s=s:=by
    cases s with|nil=>rfl|cons c s=>rw[vk];simp at hf;rw[hf];rfl
   rw[h1];rcases List.eq_nil_or_concat s with rfl|⟨t,c,rfl⟩
   ·rfl
   ·rw[List.concat_eq_append]at *;rw[qkm];simp at hl;rw[hl];rfl
  ·rw[decide_eq_false];rfl;rw[← q5g];rcases List.eq_nil_or_concat s with rfl|⟨t,c,rfl⟩
   ·simp at hl
   ·rw[List.concat_eq_append]at *;simp at hl;rw[qkm,hl,qX rfl];intro e;have:=Nat.le_trans (q3j (g8 t)) (qkl t);rw[e]at this;simp at this;omega
 ·rw[decide_eq_false];rfl
  cases s with
  |nil=>simp at hf|cons c s=>
   simp at hf;unfold ix;rw[vk,hf,qX rfl];intro e;have:=Nat.le_trans (qkl (vj s)) (q3j s);rw[e]at this;simp at this;omega
def qa3(c:UInt8):ny c=some (bl c):=by unfold ny bl;cases c==32<;>rfl
def qke(c:UInt8):td c=some (bl c):=by unfold td bl;cases c==32<;>rfl
def va(f:Int×Int):dp f=some (f.1 != 0):=rfl
def nk(c:UInt8):Bool:=decide (33<=c)&&decide (c<=126)&&c != 58
def gz(s:List UInt8):Bool:=s != []&&decide (s.length<=60)&&s.all nk
def zyn(c:UInt8):qmx c=some (nk c):=by
 unfold qmx nk;cases decide (33<=c)<;>cases decide (c<=126)<;>rfl
def zsh(fu n:Nat):∀(ab aa:List UInt8),aa.length<n->ab.length+aa.length<1000000000 ->
  qgt fu n (ab++aa) ((ab.length+aa.length:Nat):Int) (ab.length:Int)=some (aa.all nk):=by
 induction n with
 |zero=>intro ab aa h;omega|succ n ih=>
  intro ab aa h hb;rw[qgt,qt5]
  cases aa with
  |nil=>rw[ax];rfl|cons c aa=>
   simp only[qL]at h hb ⊢;rw[ah,cq,qB,zyn,qB,List.all_cons]
   cases hc:nk c
   ·rfl
   ·have:=ih (ab++[c]) aa oA oD
    rw[b9 _]
    simp only[qS,wM,qM,qL,qZ]at this;rw[show ab.length+0+1+aa.length=ab.length+(aa.length+1) by omega]at this
    simpa using this
def zwc(fu:Nat)(s:List UInt8)(h:61<fu:=by omega):qmw fu s=some (gz s):=by
 unfold qmw gz
 cases s with
 |nil=>rfl|cons c s=>
  rw[show(!c::s==([]:List UInt8))=true from rfl,show(c::s != ([]:List UInt8))=true from rfl,qT,cm]
  split
  ·rename_i hl;simp only[qL]at hl;unfold qt4;have:=zsh fu fu [] (c::s) oG oK
   simp only[List.nil_append,qZ,wO]at this;rw[show(0:Int)=((0:Nat):Int) from rfl,this,decide_eq_true oG]
   rfl
  ·rename_i hl;rw[decide_eq_false oA]
   rfl
def zkv(a b c:Int):qga a b c=some (decide (b<=a)&&decide (a<=c)):=by
 unfold qga;rw[cm];split
 ·rename_i h;rw[decide_eq_true h];rfl
 ·rename_i h;rw[decide_eq_false h];rfl
def zyq:∀n:_root_.Fin 256,(decide ((33:Int)<=((UInt8.ofNat n.val).toNat:Int))&&decide (((UInt8.ofNat n.val).toNat:Int)<=126) && !((UInt8.ofNat n.val)==58))=nk (UInt8.ofNat n.val):=by decide +kernel
def zyp(c:UInt8):(decide ((33:Int)<=(c.toNat:Int))&&decide ((c.toNat:Int)<=126) && !(c==58))=nk c:=kj (fun c=>(decide ((33:Int)<=(c.toNat:Int))&&decide ((c.toNat:Int)<=126) && !(c==58))=nk c) zyq c
def z11(fu n:Nat):∀(ab aa:List UInt8),aa.length<n->ab.length+aa.length<1000000000 ->
  qf5 fu n (ab++aa) (ab.length:Int)=some (aa.all nk&&(decide (1<=ab.length+aa.length)&&decide (ab.length+aa.length<=60))):=by
 induction n with
 |zero=>intro ab aa h;omega|succ n ih=>
  intro ab aa h hb;rw[qf5,qtc]
  cases aa with
  |nil=>
   rw[ax,zkv,List.all_nil,Bool.true_and]
   simp only[List.append_nil,qZ,Nat.add_zero,qB];congr 2
   ·rw[Bool.eq_iff_iff];simp only[decide_eq_true_eq];omega
   ·rw[Bool.eq_iff_iff];simp only[decide_eq_true_eq];omega
  |cons c aa=>
   simp only[qL]at h hb ⊢;rw[qd,ah,cq,qB,zkv,qB,qB,List.all_cons,← zyp]
   cases decide ((33:Int)<=(c.toNat:Int))&&decide ((c.toNat:Int)<=126)
   ·rfl
   ·cases c==58
    ·have:=ih (ab++[c]) aa oA oD
     rw[b9 _]
     simp only[qS,wM,qM,qL,qZ]at this;rw[show ab.length+(0+1)+aa.length=ab.length+(aa.length+1) by omega]at this
     simpa using this
    ·rfl
def z10(fu:Nat)(s:List UInt8)(h:s.length<fu)(hb:s.length<1000000000):qls fu s=some (gz s):=by
 unfold qls gz;have:=z11 fu fu [] s h (by simpa using hb)
 rw[show(0:Int)=(([]:List UInt8).length:Int) from rfl,show s=[]++s from rfl,this]
 simp only[qZ,wO,List.nil_append];congr 1
 cases s with
 |nil=>rfl|cons c s=>
  rw[show(c::s != ([]:List UInt8))=true from rfl,decide_eq_true (show 1<=(c::s).length by simp)]
  simp only[Bool.true_and];exact Bool.and_comm _ _
def sc(s:List UInt8):Bool := !(s.any ([13,10,0]:List UInt8).contains)&&uz s
def zg5(fu:Nat)(s:List UInt8)(hfu:100<=fu)(h:s.length<fu)(hb:s.length<1000000000):qm0 fu s=some (sc s):=by
 unfold qm0 qvh sc;rw[zuu ac1 fu s hfu h hb,qB,qB];cases s.any ([13,10,0]:List UInt8).contains
 ·rw[pw];unfold uz
  cases s with
  |nil=>rfl|cons c t=>
   rw[au (by rfl),show am (c::t) (0:Int)=some c from rfl,qB,qa3,qB]
   rw[show(c::t).head?.any bl=bl c from rfl]
   cases bl c
   ·rw[pw];rcases List.eq_nil_or_concat (c::t) with e|⟨u,d,e⟩
    ·cases e
    ·rw[List.concat_eq_append]at e;rw[e]at hb ⊢;simp only[qM,qL,qZ]at hb;rw[qbc,qb2 _,qqj,qB,qa3,qB]
     simp
   ·rfl
 ·rfl
def zk3(fu:Nat)(_r0:Nat->List UInt8->Option (List UInt8))(n:Nat):∀(s:List UInt8),s.length<n->s.length<1000000000->qgg fu n s=some (g8 s):=by
 induction n with
 |zero=>intro s h;omega|succ n ih=>
  intro s h hb;rw[qgg,qto];rcases List.eq_nil_or_concat s with rfl|⟨t,c,rfl⟩
  ·rw[ax];rfl
  ·rw[List.concat_eq_append]at *;simp only[qM,qL,qZ]at h hb;rw[qbc,ah,qb2 _,qqj,qB,qke,qB,q5e,ah,ih t oA oA,qkm]
   cases bl c<;>rfl
def z0z(fu n:Nat):∀(s:List UInt8),s.length<n->s.length<fu->s.length<1000000000->qge fu n s=some (ix s):=by
 induction n with
 |zero=>intro s h;omega|succ n ih=>
  intro s h hf hb;rw[qge,qtn]
  cases s with
  |nil=>
   rw[ax]
   unfold qgf;rw[au (by rfl),zk3 fu (fun _ _=>none) fu [] hf hb];rfl
  |cons c s=>
   rw[ah,show am (c::s) (0:Int)=some c from rfl,qB,qke,qB]
   unfold qgf ix;rw[vk];simp only[qL]at h hf hb;cases bl c
   ·rw[au (by rfl),zk3 fu (fun _ _=>none) fu (c::s) oG oG];rfl
   ·rw[a8]
    unfold qtp;rw[ah oG]
    exact ih s oA oA oA
def z0y(fu:Nat)(s:List UInt8)(h:s.length<fu)(hb:s.length<1000000000):qtm fu s=some (ix s):=z0z fu fu s h h hb
def zme(fu n:Nat):∀(s:List UInt8),s.length<n->s.length<1000000000->qh3 fu n s (l9 [32,9])=some (g8 s,l9 [32,9]):=by
 induction n with
 |zero=>intro s h;omega|succ n ih=>
  intro s h hb;rw[qh3,qyl];rcases List.eq_nil_or_concat s with rfl|⟨t,c,rfl⟩
  ·rw[ax];rfl
  ·rw[List.concat_eq_append]at *;simp only[qM,qL,qZ]at h hb;rw[qbc,ah,qb2 _,qqj,qB,q1j ac3,qB,q5e,ah,ih t oA oA,qkm,zet]
   cases bl c<;>rfl
def zmf(fu:Nat)(s:List UInt8)(hfu:100<=fu:=by omega)(h:s.length<fu:=by omega)(hb:s.length<1000000000:=by omega):qhu fu s [32,9]=some (g8 s):=by
 unfold qhu
 cases s with
 |nil=>rfl|cons c s=>
  rw[au (by rfl)]
  unfold qnv;rw[au (by rfl)]
  unfold qxz;rw[au oE]
  unfold qnw;rw[au (by rfl)]
  unfold qx0;obtain⟨n,rfl⟩:∃n,fu=n+100:=⟨fu-100,oA⟩
  rw[ac3.set,qB];simp only[ac3.len];rw[a8 (by rw[List.length_replicate];rfl),a8]
  unfold qh2;rw[zme _ _ _ h hb];rfl
def zzc(fu:Nat)(hfu:10<=fu)(c a b d:UInt8):ql0 fu c [a,b,d]=some (([a,b,d]:List UInt8).contains c):=by
 obtain⟨n,rfl⟩:∃n,fu=n+10:=⟨fu-10,oA⟩
 unfold ql0;simp only[ql1,qtj];rw[a8,show am [a,b,d] (0:Int)=some a from rfl,qB]
 simp only[List.contains_cons,List.contains_nil,Bool.or_false];rw[q0x a c,show(ae (0+1))=(1:Int) from rfl]
 cases c==a
 ·rw[au (by rfl),a8,show am [a,b,d] (1:Int)=some b from rfl,qB,q0x b c,show(ae (1+1))=(2:Int) from rfl]
  cases c==b
  ·rw[au (by rfl),a8,show am [a,b,d] (2:Int)=some d from rfl,qB,q0x d c,show(ae (2+1))=(3:Int) from rfl]
   cases c==d
   ·rfl
   ·rfl
  ·rfl
 ·rfl
def z05(fu n:Nat)(hfu:10<=fu):∀(ab aa:List UInt8),aa.length<n->ab.length+aa.length<1000000000->ab.length+aa.length<fu ->
  qce fu n (ab++aa) (ab.length:Int)=some (if aa.any ([13,10,0]:List UInt8).contains || !uz (ab++aa) then 11 else 0):=by
 induction n with
 |zero=>intro ab aa h;omega|succ n ih=>
  intro ab aa h hb hf;rw[qce,qtb]
  cases aa with
  |nil=>
   rw[ax,List.append_nil,z0y fu ab (by simpa using hf) (by simpa using hb),qB,← zmg,List.any_nil,Bool.false_or]
   by_cases e:ix ab=ab
   ·rw[decide_eq_true e,e];simp
   ·rw[decide_eq_false e,a8 (by simpa using e)];rfl
  |cons c aa=>
   simp only[qL]at h hb hf;rw[qd,ah,cq,qB,zzc fu hfu,qB,List.any_cons]
   cases hc:([13,10,0]:List UInt8).contains c
   ·have:=ih (ab++[c]) aa oA oD oD
    rw[au (by rfl),b9 _,Bool.false_or]
    simpa using this
   ·rfl
def oo(n v:List UInt8):Int:=if gz n then(if 4000<v.length then 1 else if sc v then 0 else 11) else 10
def z04(fu:Nat)(n v:List UInt8)(hfu:10<=fu)(hn:n.length<fu)(hv:v.length<fu)(hnb:n.length<1000000000)(hvb:v.length<1000000000):qf4 fu n v=some (oo n v):=by
 unfold qf4 oo;rw[z10 fu n hn hnb,qB];cases gz n
 ·rfl
 ·rw[au (by rfl),qX rfl,cm]
  split
  ·rename_i h;rw[qX]
  ·rename_i h;rw[qW oA]
   have:=z05 fu fu hfu [] v hv (by simpa using hvb) (by simpa using hv)
   simp only[List.nil_append,qZ]at this;have this:qce fu fu v 0=some (if(v.any ([13,10,0]:List UInt8).contains || !uz v)=true then 11 else 0):=this
   rw[this];unfold sc;cases v.any ([13,10,0]:List UInt8).contains<;>cases uz v<;>rfl
def tk(c:UInt8):Bool:=decide (33<=c)&&decide (c<=126) && !([40,41,60,62,64,44,59,58,92,34,47,91,93,63,61,42,37,39]:Bs).contains c
open Go.Lib (validD)
abbrev Prm:Type:=Bs×Bs
def SmP(l:List Prm):Prop:=l.length<=4000000/\∀x∈l,x.1.length<=4000000/\x.2.length<=4000000
def lk(a b:Bs):Bool:=a.map lo==b.map lo
def o8(fu:Nat)(hfu:90000000<=fu)(a b:Bs)(ha:a.length<=4000000)(hb:b.length<=4000000):e7 fu a b=some (lk a b):=
 zey fu a b oA oA mC mC
def SmP.mono{l l':List Prm}(h:SmP l)(h1:l'.length<=l.length)(h2:∀x∈l',x∈l):SmP l':=⟨Nat.le_trans h1 h.1,fun x hx=>h.2 x (h2 x hx)⟩
end Go.Sym
namespace Go.Sym
def qq8:(∀n:_root_.Fin 32,(192:UInt8)|||UInt8.ofNat n.val=UInt8.ofNat (192+n.val))/\(∀n:_root_.Fin 16,(224:UInt8)|||UInt8.ofNat n.val=UInt8.ofNat (224+n.val))/\(∀n:_root_.Fin 8,(240:UInt8)|||UInt8.ofNat n.val=UInt8.ofNat (240+n.val)) /\
  (∀n:_root_.Fin 256,(128:UInt8)|||(UInt8.ofNat n.val&&&63)=UInt8.ofNat (128+n.val%64)):=by decide +kernel
def qt(n:Nat):cy (n:Int)=UInt8.ofNat n:=by
 unfold cy;apply UInt8.toNat.inj;rw[show((n:Int)%256).toNat=n%256 by omega,UInt8.toNat_ofNat',UInt8.toNat_ofNat']
 simp
def zy9(n:Nat):UInt8.ofNat n=UInt8.ofNat (n%256):=by
 apply UInt8.toNat.inj;rw[UInt8.toNat_ofNat',UInt8.toNat_ofNat'];simp
def zzg(n:Nat)(h:n<32:=by omega):(192:UInt8)|||UInt8.ofNat n=UInt8.ofNat (192+n):=qq8.1 ⟨n,h⟩
def zzh(n:Nat)(h:n<16:=by omega):(224:UInt8)|||UInt8.ofNat n=UInt8.ofNat (224+n):=qq8.2.1 ⟨n,h⟩
def zzi(n:Nat)(h:n<8:=by omega):(240:UInt8)|||UInt8.ofNat n=UInt8.ofNat (240+n):=qq8.2.2.1 ⟨n,h⟩
def qeq(n:Nat):(128:UInt8)|||(UInt8.ofNat n&&&63)=UInt8.ofNat (128+n%64):=by
 rw[zy9 n,qq8.2.2.2 ⟨n%256,Nat.mod_lt _ oA⟩]
 congr 2;show n%256%64=n%64;omega
def q18(c k:Nat):Int.fdiv (c:Int) (k:Int)=((c/k:Nat):Int):=by
 rw[Int.fdiv_eq_ediv_of_nonneg _ oA];rfl
def zsq{c:Nat}(h:ku c):qn4 (c:Int)=some (db c):=by
 unfold ku at h;have hu:IntKind.u32.wrap (c:Int)=(c:Int):=by rw[IntKind.wrap_u32];omega
 have f6:Int.fdiv (c:Int) (2 ^ min (6:Int).toNat 32)=((c/64:Nat):Int):=q18 c 64;have f12:Int.fdiv (c:Int) (2 ^ min (12:Int).toNat 32)=((c/4096:Nat):Int):=q18 c 4096;have f18:Int.fdiv (c:Int) (2 ^ min (18:Int).toNat 32)=((c/262144:Nat):Int):=q18 c 262144;unfold qn4 db;rw[hu];by_cases h1:c<128
 ·rw[ah,qX h1,qt,ah oW]
 rw[ax,qW h1]
 unfold qy3;rw[hu,f6,qt,qt,qeq];by_cases h2:c<2048
 ·rw[ah,qX h2,zzg _,ah oW,qB]
 rw[ax,qW h2]
 have p0:w9 (c:Int) (c:Int) true=some [UInt8.ofNat (224+c/4096),UInt8.ofNat (128+c/64%64),UInt8.ofNat (128+c%64)]\/65536<=c:=by
  by_cases h3:c<65536
  ·left;unfold w9;rw[a8 rfl,f12,f6,qt,qt,qt,zzh _,qeq,qeq,ah oW]
  ·right;omega
 by_cases h3:c<65536
 ·have p0:w9 (c:Int) (c:Int) true=some [UInt8.ofNat (224+c/4096),UInt8.ofNat (128+c/64%64),UInt8.ofNat (128+c%64)]:=by
   rcases p0 with p0|p0
   ·exact p0
   ·omega
  rw[qX h3,cm];by_cases h4:(c:Int)<55296
  ·rw[qX h4,p0];rfl
  ·rw[qW h4,ah,decide_eq_true oA,p0];rfl
 ·rw[qW h3,ax,ah,decide_eq_false oA]
  unfold w9;rw[au rfl,ah,decide_eq_true oA]
  unfold qn6;rw[a8 rfl,f18,f12,f6,qt,qt,qt,qt,zzi _,qeq,qeq,qeq,ah oW];rfl
def zvv(fu n:Nat)(z:Int×Int)(nm:Bs):∀(ab:Bs)(R:List Nat)(out:Bs),kv R->R.length<n->out.length+4*R.length<=1000000000 ->
  qgy fu n z nm (ab++tx R) ab.length out=some ((0,0),out++tx R):=by
 induction n with
 |zero=>intro ab R out _ h;omega|succ n ih=>
  intro ab R out hR h ho;rw[qgy,qu5]
  cases R with
  |nil=>rw[qiz (by simp[tx]),au rfl,qr1,List.append_nil];rfl|cons c R=>
   obtain⟨h1,h2⟩:=qbm hR;have hl:=ol (c:=c);simp only[qL]at h ho;have ih:=ih (ab++db c) R (out++db c) h2 oA oI
   rw[qS,qM,qS]at ih;unfold qu9;rw[kz,qi0 oI,a8 rfl,qkf ab h1]
   dsimp only;rw[zsq h1,qB,qB,ee,ah mE]
   exact ih
def zga(fu n:Nat)(m:Nat)(z:Int×Int)(nm:Bs):∀(ab:Bs)(R:List Nat)(out:Bs),kv R->(∀c∈R,c<m)->R.length<n->out.length+R.length<=1000000000 ->
  qgx fu n z nm (ab++tx R) ab.length (m:Int) out=some ((0,0),out++R.map UInt8.ofNat):=by
 induction n with
 |zero=>intro ab R out _ _ h;omega|succ n ih=>
  intro ab R out hR hm h ho;rw[qgx,qu4]
  cases R with
  |nil=>rw[qiz (by simp[tx]),au rfl,List.map_nil,List.append_nil];rfl|cons c R=>
   obtain⟨h1,h2⟩:=qbm hR;have hl:=ol (c:=c);have hc:=hm c qH;simp only[qL]at h ho;have ih:=ih (ab++db c) R (out++[UInt8.ofNat c]) h2 (fun d hd=>hm d (qE _ hd)) oA oM
   rw[qS,qM,qS]at ih;unfold qvb;rw[kz,qi0 oI,a8 rfl,qkf ab h1]
   dsimp only;rw[qB,decide_eq_true (show(c:Int)<(m:Int) by omega),ee,qt,ah (by simp only[aq,qM,wD];omega),List.map_cons]
   exact ih
def ch1(m:Int)(c:UInt8):Int:=if m<=(c.toNat:Int) then 65533 else(c.toNat:Int)
def z2p(fu n:Nat)(m:Int):∀(ab aa:Bs)(out:List Int),aa.length<n->ab.length+aa.length<100000000->out.length+aa.length<=100000000 ->
  qg1 fu n (ab++aa) ((ab.length+aa.length:Nat):Int) (ab.length:Int) m out=some (m,out++aa.map (ch1 m)):=by
 induction n with
 |zero=>intro ab aa out h;omega|succ n ih=>
  intro ab aa out h hb ho;rw[qg1,qva]
  cases aa with
  |nil=>rw[ax];simp|cons c aa=>
   simp only[qL]at h hb ho;have ih:=fun out=>ih (ab++[c]) aa out oA oD
   simp only[qM,qL,qZ,qS,wM,wO]at ih;rw[ah oG,cq,qB,b9 _,show ab.length+(c::aa).length=ab.length+1+aa.length by simp only[qL];omega,cm,List.map_cons,ch1]
   split
   ·rw[ah oZ,ih _ oH,qS];rfl
   ·rw[ah oZ,ih _ oH,qS];rfl
end Go.Sym
namespace Go.Sym.Tr
def lo(c:UInt8):UInt8:=if 65<=c/\c<=90 then c+32 else c
def q3d(c:UInt8):(c+97)-65=c+32:=by
 rw[UInt8.sub_eq_add_neg,UInt8.add_assoc];rfl
def qj2(fu:Nat):∀(n:Nat)(ab aa:List UInt8),aa.length<n->ab.length+aa.length<=9223372036854775807 ->
  tz fu n ((ab.length+aa.length:Nat):Int) (ab.length:Int) (ab++aa)=some (ab++aa.map lo)
 |0,_,_,h,_=>absurd h oA|n+1,ab,[],_,_=>by simp[tz,qc1]|n+1,ab,c::aa,h,hb=>by
  simp only[qL]at h hb;have ih:=fun d=>qj2 fu n (ab++[d]) aa oA oD
  simp only[qM,qL,qZ,qS,wM,wO]at ih;have e:((ab.length+(c::aa).length:Nat):Int)=((ab.length+1+aa.length:Nat):Int):=by simp only[qL];omega
  have hl:0<=(ab.length:Int)/\(ab.length:Int).toNat<(ab++c::aa).length:=oB
  rw[e];simp only[tz,qc1];rw[ah,ah hl,qei,qB,qko,b9 _,cm,cm,ih,ih,ah hl,qB]
  unfold lo;simp only[List.map_cons,q3d];by_cases h1:(65:UInt8)<=c
  ·by_cases h2:c<=90
   ·simp[h1,h2]
   ·simp[h1,h2]
  ·simp[h1]
def q3h(fu:Nat)(s:List UInt8)(h:s.length<fu)(hb:s.length<=maxLen):wu fu s=some (s.map lo):=by
 unfold wu;rw[ah hb];have:=qj2 fu fu [] s h (by simpa [maxLen] using hb)
 simpa using this
end Go.Sym.Tr
namespace Go.Sym.Tr
def wr(m:UInt8)(col i:Nat):List UInt8->Int|[] => -1|c::r=>if(c==13&&r.head? == some 10)=true then wr m 0 (i+2) r.tail else if c=0\/c=13\/c=10\/m<c\/col=998 then(i:Int) else wr m (col+1) (i+1) r
termination_by l=>l.length
decreasing_by all_goals (simp only[qL,List.length_tail];omega)
end Go.Sym.Tr
namespace Go.Sym.Tr
def nd:List UInt8:=[65,66,67,68,69,70,71,72,73,74,75,76,77,78,79,80,81,82,83,84,85,86,87,88,89,90,97,98,99,100,101,102,103,104,105,106,107,108,109,110,111,112,113,114,115,116,117,118,119,120,121,122,48,49,50,51,52,53,54,55,56,57,43,47]
def al(k:Nat):UInt8:=nd.getD k 0
def qox(k:Nat)(h:k<64:=by omega):am nd (k:Int)=some (al k):=by
 have h':k<nd.length:=h;rw[sf _ _ h'];unfold al;simp[h']
def c0(x:Nat):UInt8:=al (x/262144%64)
def c1(x:Nat):UInt8:=al (x/4096%64)
def c2(x:Nat):UInt8:=al (x/64%64)
def c3(x:Nat):UInt8:=al (x%64)
def e64:List UInt8->List UInt8|[]=>[]|[a]=>[c0 (a.toNat*65536),c1 (a.toNat*65536),61,61]|[a,b]=>[c0 (a.toNat*65536+b.toNat*256),c1 (a.toNat*65536+b.toNat*256),c2 (a.toNat*65536+b.toNat*256),61]|a::b::c::r=>c0 (a.toNat*65536+b.toNat*256+c.toNat)::c1 (a.toNat*65536+b.toNat*256+c.toNat)::c2 (a.toNat*65536+b.toNat*256+c.toNat)::c3 (a.toNat*65536+b.toNat*256+c.toNat)::e64 r
def sn(x:Nat)(h:x<18446744073709551616:=by omega):(BitVec.ofInt 64 (x:Int)).toNat=x:=by
 rw[BitVec.toNat_ofInt];omega
def qrr(x:Nat)(h:x<1099511627776:=by omega):ae ((x:Int)*2 ^ min (8:Int).toNat 64)=((256*x:Nat):Int):=by
 rw[show(2:Int) ^ min (8:Int).toNat 64=256 by decide,dj];omega
def or8(x y:Nat)(h:x<1099511627776:=by omega)(hy:y<256:=by omega):ae (((BitVec.ofInt 64 (ae ((x:Int)*2 ^ min (8:Int).toNat 64))|||BitVec.ofInt 64 (y:Int)).toNat:Int))=((256*x+y:Nat):Int):=by
 rw[qrr x h,BitVec.toNat_or,sn _,sn _]
 have:=Nat.two_pow_add_eq_or_of_lt (i:=8) (b:=y) (by simpa using hy) x
 rw[← show 2 ^ 8*x+y=256*x|||y from this]
 rw[dj]
def or0(y:Nat)(hy:y<256:=by omega):ae (((BitVec.ofInt 64 (0:Int)|||BitVec.ofInt 64 (y:Int)).toNat:Int))=(y:Int):=by
 have h0:(BitVec.ofInt 64 (0:Int)).toNat=0:=sn 0
 rw[BitVec.toNat_or,h0,sn _,Nat.zero_or,dj]
def qoz(x k:Nat)(p:Int)(hp:p=(k:Int))(hk:k<=30)(h:x<1099511627776):ae (((BitVec.ofInt 64 (Int.fdiv (x:Int) (2 ^ min p.toNat 64))&&&BitVec.ofInt 64 (63:Int)).toNat:Int))=((x/2 ^ k%64:Nat):Int):=by
 subst hp;have e1:min (k:Int).toNat 64=k:=oA
 have e2:Int.fdiv (x:Int) (2 ^ k)=((x/2 ^ k:Nat):Int):=by
  rw[Int.fdiv_eq_ediv_of_nonneg _ (by exact Int.le_of_lt (Int.pow_pos oE))]
  simp
 have hle:x/2 ^ k<=x:=Nat.div_le_self _ _;have h63:(BitVec.ofInt 64 (63:Int)).toNat=63:=sn 63
 rw[e1,e2,BitVec.toNat_and,sn _,h63]
 have:=Nat.and_two_pow_sub_one_eq_mod (x/2 ^ k) 6;rw[show(63:Nat)=2 ^ 6-1 by decide,this,show(2:Nat) ^ 6=64 by decide]
 rw[dj]
def q0h(x:Nat)(h:x<1099511627776):am nd (ae (((BitVec.ofInt 64 (Int.fdiv (x:Int) (2 ^ min (18:Int).toNat 64))&&&BitVec.ofInt 64 (63:Int)).toNat:Int)))=some (c0 x):=by
 rw[qoz x 18 18 rfl oA h,qox _];rfl
def q0g(x:Nat)(h:x<1099511627776):am nd (ae (((BitVec.ofInt 64 (Int.fdiv (x:Int) (2 ^ min (12:Int).toNat 64))&&&BitVec.ofInt 64 (63:Int)).toNat:Int)))=some (c1 x):=by
 rw[qoz x 12 12 rfl oA h,qox _];rfl
def q0i(x:Nat)(h:x<1099511627776):am nd (ae (((BitVec.ofInt 64 (Int.fdiv (x:Int) (2 ^ min (6:Int).toNat 64))&&&BitVec.ofInt 64 (63:Int)).toNat:Int)))=some (c2 x):=by
 rw[qoz x 6 6 rfl oA h,qox _];rfl
def q0f(x:Nat)(h:x<1099511627776):am nd (ae (((BitVec.ofInt 64 (Int.fdiv (x:Int) (2 ^ min (0:Int).toNat 64))&&&BitVec.ofInt 64 (63:Int)).toNat:Int)))=some (c3 x):=by
 rw[qoz x 0 0 rfl oA h,qox _];unfold c3;simp
def yp(r0:List UInt8->Int->List UInt8->Option (List UInt8×Int×List UInt8))(k:Nat)(p0 p1 p2 p3:UInt8)(m1:List UInt8)(m3:Int)(m16:List UInt8):Option (List UInt8×Int×List UInt8):=
 (ib p0 p1 p2 p3 m3 m16).bind fun v=>r0 (m1.drop k) v.1 v.2
def zzk(fu:Nat)(r0:List UInt8->Int->List UInt8->Option (List UInt8×Int×List UInt8))(x:Nat)(hx:x<1099511627776)(m1:List UInt8)(h:1<=m1.length)(m3:Int)(m16:List UInt8) :
  tv fu r0 1 (x:Int) m1 m3 m16=yp r0 1 (c0 x) (c1 x) 61 61 m1 m3 m16:=by
 unfold tv;rw[show([65,66,67,68,69,70,71,72,73,74,75,76,77,78,79,80,81,82,83,84,85,86,87,88,89,90,97,98,99,100,101,102,103,104,105,106,107,108,109,110,111,112,113,114,115,116,117,118,119,120,121,122,48,49,50,51,52,53,54,55,56,57,43,47]:List UInt8)=nd from rfl]
 rw[q0h x hx,q0g x hx,q0i x hx,q0f x hx];simp only[qB,ax (show ¬(1:Int)<0 by decide),ax (show ¬(1:Int)<1 by decide),ah (show(1:Int)<2 by decide),ah (show(1:Int)<3 by decide),ah (show 0<=(1:Int)/\(1:Int)<=(m1.length:Int) by omega)]
 rfl
def zzl(fu:Nat)(r0:List UInt8->Int->List UInt8->Option (List UInt8×Int×List UInt8))(x:Nat)(hx:x<1099511627776)(m1:List UInt8)(h:2<=m1.length)(m3:Int)(m16:List UInt8) :
  tv fu r0 2 (x:Int) m1 m3 m16=yp r0 2 (c0 x) (c1 x) (c2 x) 61 m1 m3 m16:=by
 unfold tv;rw[show([65,66,67,68,69,70,71,72,73,74,75,76,77,78,79,80,81,82,83,84,85,86,87,88,89,90,97,98,99,100,101,102,103,104,105,106,107,108,109,110,111,112,113,114,115,116,117,118,119,120,121,122,48,49,50,51,52,53,54,55,56,57,43,47]:List UInt8)=nd from rfl]
 rw[q0h x hx,q0g x hx,q0i x hx,q0f x hx];simp only[qB,ax (show ¬(2:Int)<0 by decide),ax (show ¬(2:Int)<1 by decide),ax (show ¬(2:Int)<2 by decide),ah (show(2:Int)<3 by decide),ah (show 0<=(2:Int)/\(2:Int)<=(m1.length:Int) by omega)]
 rfl
def zzm(fu:Nat)(r0:List UInt8->Int->List UInt8->Option (List UInt8×Int×List UInt8))(x:Nat)(hx:x<1099511627776)(m1:List UInt8)(h:3<=m1.length)(m3:Int)(m16:List UInt8) :
  tv fu r0 3 (x:Int) m1 m3 m16=yp r0 3 (c0 x) (c1 x) (c2 x) (c3 x) m1 m3 m16:=by
 unfold tv;rw[show([65,66,67,68,69,70,71,72,73,74,75,76,77,78,79,80,81,82,83,84,85,86,87,88,89,90,97,98,99,100,101,102,103,104,105,106,107,108,109,110,111,112,113,114,115,116,117,118,119,120,121,122,48,49,50,51,52,53,54,55,56,57,43,47]:List UInt8)=nd from rfl]
 rw[q0h x hx,q0g x hx,q0i x hx,q0f x hx];simp only[qB,ax (show ¬(3:Int)<0 by decide),ax (show ¬(3:Int)<1 by decide),ax (show ¬(3:Int)<2 by decide),ax (show ¬(3:Int)<3 by decide),ah (show 0<=(3:Int)/\(3:Int)<=(m1.length:Int) by omega)]
 rfl
def zte(fu:Nat)(r0:List UInt8->Int->List UInt8->Option (List UInt8×Int×List UInt8))(a:UInt8)(m3:Int)(m16:List UInt8) :
  tu fu r0 [a] m3 m16=yp r0 1 (c0 (a.toNat*65536)) (c1 (a.toNat*65536)) 61 61 [a] m3 m16:=by
 have ha:=a.toNat_lt;unfold tu;have hm:(if(List.length [a]:Int)<3 then(List.length [a]:Int) else 3)=1:=rfl
 rw[hm,ah (show(0:Int)<(List.length [a]:Int) by simp),ah (show(0:Int)<1 by decide)]
 rw[show am [a] 0=some a from rfl,qB,or0 _]
 unfold qcv;rw[ax (show ¬(1:Int)<1 by decide),qrr _]
 unfold qcw;rw[ax (show ¬(2:Int)<1 by decide),qrr _,zzk _ _ _ oA _ oB]
 rw[show 256*(256*a.toNat)=a.toNat*65536 by omega]
def ztf(fu:Nat)(r0:List UInt8->Int->List UInt8->Option (List UInt8×Int×List UInt8))(a b:UInt8)(m3:Int)(m16:List UInt8) :
  tu fu r0 [a,b] m3 m16=yp r0 2 (c0 (a.toNat*65536+b.toNat*256)) (c1 (a.toNat*65536+b.toNat*256)) (c2 (a.toNat*65536+b.toNat*256)) 61 [a,b] m3 m16:=by
 have ha:=a.toNat_lt;have hb:=b.toNat_lt;unfold tu;have hm:(if(List.length [a,b]:Int)<3 then(List.length [a,b]:Int) else 3)=2:=rfl
 rw[hm,ah (show(0:Int)<(List.length [a,b]:Int) by simp),ah (show(0:Int)<2 by decide)]
 rw[show am [a,b] 0=some a from rfl,qB,or0 _]
 unfold qcv;rw[ah (show(1:Int)<2 by decide),show am [a,b] 1=some b from rfl,qB,or8 _ _]
 unfold qcw;rw[ax (show ¬(2:Int)<2 by decide),qrr _,zzl _ _ _ oA _ oB]
 rw[show 256*(256*a.toNat+b.toNat)=a.toNat*65536+b.toNat*256 by omega]
def ztg(fu:Nat)(r0:List UInt8->Int->List UInt8->Option (List UInt8×Int×List UInt8))(a b c:UInt8)(r:List UInt8)(m3:Int)(m16:List UInt8) :
  tu fu r0 (a::b::c::r) m3 m16=yp r0 3 (c0 (a.toNat*65536+b.toNat*256+c.toNat)) (c1 (a.toNat*65536+b.toNat*256+c.toNat)) (c2 (a.toNat*65536+b.toNat*256+c.toNat)) (c3 (a.toNat*65536+b.toNat*256+c.toNat)) (a::b::c::r) m3 m16:=by
 have ha:=a.toNat_lt;have hb:=b.toNat_lt;have hc:=c.toNat_lt;unfold tu;have hl:((a::b::c::r).length:Int)=(r.length:Int)+3:=by simp;omega
 have hm:(if((a::b::c::r).length:Int)<3 then((a::b::c::r).length:Int) else 3)=3:=by rw[qW oA]
 rw[hm,ah (show(0:Int)<((a::b::c::r).length:Int) by omega),ah (show(0:Int)<3 by decide)]
 rw[show am (a::b::c::r) 0=some a from rfl,qB,or0 _]
 unfold qcv;rw[ah (show(1:Int)<3 by decide),show am (a::b::c::r) 1=some b from rfl,qB,or8 _ _]
 unfold qcw;rw[ah (show(2:Int)<3 by decide),show am (a::b::c::r) 2=some c from rfl,qB,or8 _ _,zzm _ _ _ oA _ oB]
 rw[show 256*(256*a.toNat+b.toNat)+c.toNat=a.toNat*65536+b.toNat*256+c.toNat by omega]
end Go.Sym.Tr
namespace Go.Sym.Tr
def qf:Nat->List UInt8->List UInt8|0,_=>[]|n+1,s=>if 76<s.length then s.take 76++[13,10]++qf n (s.drop 76) else if s=[] then[] else s++[13,10]
def zic:∀(n m:Nat)(s:List UInt8),s.length<n->s.length<m->qf n s=qf m s
 |0,_,_,h,_=>absurd h oA|_,0,_,_,h=>absurd h oA|n+1,m+1,s,h,k=>by
  unfold qf;by_cases c:76<s.length
  ·rw[qX c,qX c,zic n m (s.drop 76) oD oD]
  ·rw[qW c,qW c]
def lines76(s:List UInt8):List UInt8:=qf (s.length+1) s
def lines76_eq(s:List UInt8):lines76 s=if 76<s.length then s.take 76++[13,10]++lines76 (s.drop 76) else if s=[] then[] else s++[13,10]:=by
 unfold lines76;rw[qf];by_cases c:76<s.length
 ·rw[qX c,qX c,zic s.length ((s.drop 76).length+1) (s.drop 76) oD oA]
 ·rw[qW c,qW c]
def qm(col:Nat)(s:List UInt8):List UInt8:=
 if 76<col+s.length then s.take (76-col)++[13,10]++lines76 (s.drop (76-col)) else if col=0/\s=[] then[] else s++[13,10]
def zkq(s:List UInt8):qm 0 s=lines76 s:=by
 unfold qm
 conv=>rhs;rw[lines76_eq]
 simp
def z1v(s:List UInt8)(h:s≠[]):qm 76 s=[13,10]++qm 0 s:=by
 rw[zkq];unfold qm;have:0<s.length:=List.length_pos_iff.2 h;rw[qX]
 simp
def zkr(col:Nat)(p0 p1 p2 p3:UInt8)(s:List UInt8)(h:col+4<=76:=by omega):qm col (p0::p1::p2::p3::s)=[p0,p1,p2,p3]++qm (col+4) s:=by
 unfold qm;simp only[qL];by_cases c:76<col+4+s.length
 ·rw[qX,qX]
  obtain⟨k,hk⟩:∃k,76-col=k+4:=⟨76-col-4,oA⟩
  have hk2:76-(col+4)=k:=oA
  rw[hk,hk2];simp[List.take_succ_cons,List.drop_succ_cons]
 ·rw[qW (show ¬76<col+(s.length+1+1+1+1) by omega),qW c,qW (show ¬(col=0/\p0::p1::p2::p3::s=[]) by simp),qW (show ¬(col+4=0/\s=[]) by omega)]
  simp
def qeb:∀(b:List UInt8),(e64 b).length=4*((b.length+2)/3)
 |[]=>rfl|[_]=>by simp[e64]|[_,_]=>by simp[e64]|a::b::c::r=>by
  simp only[e64,qL,qeb r];omega
def zvx(p0 p1 p2 p3:UInt8)(col:Nat)(out:List UInt8)(hc:col<=76)(ho:out.length+6<=aq) :
  ib p0 p1 p2 p3 (col:Int) out=some (if col=76 then((4:Int),out++[13,10]++[p0,p1,p2,p3]) else(((col+4:Nat):Int),out++[p0,p1,p2,p3])):=by
 unfold ib;rw[ur];by_cases c:col=76
 ·subst c;rw[qX (show((76:Nat):Int)=76 from rfl),qX rfl,ah,ah]
 ·rw[qW oA,qW c,ah,dj]
  simp
def zwn(fu n:Nat):∀(b:List UInt8)(col:Nat)(out:List UInt8),b.length<n->col<=76->col%4=0->out.length+2*(e64 b).length+8<=aq ->
  ∃col':Nat,∃out',nv fu n b (col:Int) out=some ([],((col':Int),out'))/\out'.length+2<=aq/\out'++(if 0<col' then[13,10] else[])=out++qm col (e64 b):=by
 induction n with
 |zero=>intro b col out h;omega|succ n ih=>
  intro b col out h hc hm ho;have four:∀(k:Nat)(p0 p1 p2 p3:UInt8)(r:List UInt8),b.drop k=r->e64 b=p0::p1::p2::p3::e64 r->r.length<n->nv fu (n+1) b (col:Int) out=yp (nv fu n) k p0 p1 p2 p3 b (col:Int) out ->
    ∃col':Nat,∃out',nv fu (n+1) b (col:Int) out=some ([],((col':Int),out'))/\out'.length+2<=aq/\out'++(if 0<col' then[13,10] else[])=out++qm col (e64 b):=by
   intro k p0 p1 p2 p3 r hd he hr hp;rw[he,qL,qL,qL,qL]at ho;rw[hp,he];unfold yp;rw[zvx _ _ _ _ _ _ hc oA,qB,hd]
   by_cases c:col=76
   ·rw[qX c];obtain⟨col',out',h1,h2,h3⟩:=ih r 4 (out++[13,10]++[p0,p1,p2,p3]) hr oA oA oD
    refine⟨col',out',h1,h2,?_⟩;rw[h3,c,z1v _ oB,zkr _ _ _ _ _ _]
    simp
   ·rw[qW c];obtain⟨col',out',h1,h2,h3⟩:=ih r (col+4) (out++[p0,p1,p2,p3]) hr oA oA oD
    refine⟨col',out',h1,h2,?_⟩;rw[h3,zkr _ _ _ _ _ _]
    simp
  match b,four with
  |[],_=>
   refine⟨col,out,?_,oA,?_⟩
   ·rw[nv,tu,ax]
   ·unfold qm;simp only[e64,qZ];rw[qW (show ¬76<col+0 by omega)]
    by_cases c:col=0
    ·subst c;simp
    ·rw[qX (show 0<col by omega)];simp[c]
  |[a],four=>exact four 1 (c0 (a.toNat*65536)) (c1 (a.toNat*65536)) 61 61 [] rfl (by simp only[e64]) (by simp at h;simp;omega) (by rw[nv];exact zte fu _ a _ _)|[a,b],four=>exact four 2 (c0 (a.toNat*65536+b.toNat*256)) (c1 (a.toNat*65536+b.toNat*256)) (c2 (a.toNat*65536+b.toNat*256)) 61 [] rfl (by simp only[e64]) (by simp at h;simp;omega) (by rw[nv];exact ztf fu _ a b _ _)|a::b::c::r,four=>exact four 3 (c0 (a.toNat*65536+b.toNat*256+c.toNat)) (c1 (a.toNat*65536+b.toNat*256+c.toNat)) (c2 (a.toNat*65536+b.toNat*256+c.toNat)) (c3 (a.toNat*65536+b.toNat*256+c.toNat)) r rfl (by simp only[e64]) (by simp at h;omega) (by rw[nv];exact ztg fu _ a b c r _ _)
def enc64_eq(fu:Nat)(b:List UInt8)(hf:b.length<fu)(hb:b.length<=12000):qmi fu b=some ((0,0),lines76 (e64 b)):=by
 unfold qmi qt2;rw[ax,qB]
 unfold qt3;obtain⟨col',out',h1,h2,h3⟩:=zwn fu fu b 0 [] hf oA rfl (by rw[qeb];simp only[aq,qZ];omega)
 rw[show nv fu fu b (0:Int) []=some ([],((col':Int),out')) from h1,qB]
 rw[zkq,List.nil_append]at h3;simp only[cg,qB];rw[← h3,cm];by_cases c:0<col'
 ·rw[qX (show(0:Int)<(col':Int) by omega),qX c,ah]
 ·rw[qW (show ¬(0:Int)<(col':Int) by omega),qW c];simp
end Go.Sym.Tr
namespace Go.Sym.Tr
def ge(c:UInt8):List Nat:=[c.toNat/128%2,c.toNat/64%2,c.toNat/32%2,c.toNat/16%2,c.toNat/8%2,c.toNat/4%2,c.toNat/2%2,c.toNat%2]
def bits(b:List UInt8):List Nat:=b.flatMap ge
def cw(a:Nat):List Nat->Nat|[]=>a|x::l=>cw (2*a+x) l
def qru:∀(l:List Nat)(a:Nat),(∀x∈l,x<=1)->cw a l+1<=(a+1)*2 ^ l.length
 |[],a,_=>by simp[cw]|x::l,a,h=>by
  have:=qru l (2*a+x) (fun y hy=>h y (qE _ hy))
  have hx:=h x qH;unfold cw;refine Nat.le_trans this ?_;rw[qL,Nat.pow_succ,Nat.mul_comm (2 ^ l.length) 2,← Nat.mul_assoc];exact Nat.mul_le_mul_right _ oA
def xh:List Nat->List UInt8|a::b::c::d::e::f::r=>al (cw 0 [a,b,c,d,e,f])::xh r|_=>[]
def qer(s:List UInt8):List UInt8:=s++List.replicate ((4-s.length%4)%4) 61
def lu(s:List Nat):List Nat:=s++List.replicate ((6-s.length%6)%6) 0
def zzp(a s:List Nat)(h:a.length%6=0):lu (a++s)=a++lu s:=by
 unfold lu;have:(a++s).length%6=s.length%6:=by simp;omega
 rw[this,qS]
def zzo(p0 p1 p2 p3:UInt8)(s:List UInt8):qer (p0::p1::p2::p3::s)=p0::p1::p2::p3::qer s:=by
 unfold qer;have:(p0::p1::p2::p3::s).length%4=s.length%4:=by simp;omega
 rw[this];rfl
def n6(a:Nat)(h:a<256):2*(2*(2*(2*(2*(2*0+a/128%2)+a/64%2)+a/32%2)+a/16%2)+a/8%2)+a/4%2=a/4:=oA
def n2(a:Nat):2*(2*0+a/2%2)+a%2=a%4:=oA
def n4(t b:Nat)(h:b<256):2*(2*(2*(2*t+b/128%2)+b/64%2)+b/32%2)+b/16%2=16*t+b/16:=oA
def n4'(b:Nat):2*(2*(2*(2*0+b/8%2)+b/4%2)+b/2%2)+b%2=b%16:=oA
def n2'(t c:Nat)(h:c<256):2*(2*t+c/128%2)+c/64%2=4*t+c/64:=oA
def n6'(c:Nat):2*(2*(2*(2*(2*(2*0+c/32%2)+c/16%2)+c/8%2)+c/4%2)+c/2%2)+c%2=c%64:=oA
def x0(a b c:Nat)(h:a<256)(hb:b<256)(hc:c<256):(a*65536+b*256+c)/262144%64=a/4:=oA
def x1(a b c:Nat)(h:a<256)(hb:b<256)(hc:c<256):(a*65536+b*256+c)/4096%64=16*(a%4)+b/16:=oA
def x2(a b c:Nat)(h:a<256)(hb:b<256)(hc:c<256):(a*65536+b*256+c)/64%64=4*(b%16)+c/64:=oA
def x3(a b c:Nat)(h:a<256)(hb:b<256)(hc:c<256):(a*65536+b*256+c)%64=c%64:=oA
def zf8:∀(b:List UInt8),qer (xh (lu (bits b)))=e64 b
 |[]=>by simp[bits,lu,xh,qer,e64]|[a]=>by
  have ha:a.toNat<256:=a.toNat_lt;have e:lu (bits [a])=ge a++[0,0,0,0]:=by simp[bits,lu,ge]
  rw[e];simp only[ge,wK,List.nil_append,xh,cw,e64];rw[n6 _ ha,n2];have k0:=x0 a.toNat 0 0 ha oA oA
  have k1:=x1 a.toNat 0 0 ha oA oA
  simp only[Nat.zero_mul,Nat.add_zero,Nat.zero_div]at k0 k1;unfold c0 c1;rw[k0,k1,show 2*(2*(2*(2*(a.toNat%4)+0)+0)+0)+0=16*(a.toNat%4) by omega]
  rfl
 |[a,b]=>by
  have ha:a.toNat<256:=a.toNat_lt;have hb:b.toNat<256:=b.toNat_lt;have e:lu (bits [a,b])=ge a++ge b++[0,0]:=by simp[bits,lu,ge]
  rw[e];simp only[ge,wK,List.nil_append,xh,cw,e64];rw[n6 _ ha,n2,n4 _ _ hb,n4'];have k0:=x0 a.toNat b.toNat 0 ha hb oA
  have k1:=x1 a.toNat b.toNat 0 ha hb oA
  have k2:=x2 a.toNat b.toNat 0 ha hb oA
  simp only[Nat.add_zero,Nat.zero_div]at k0 k1 k2;unfold c0 c1 c2;rw[k0,k1,k2,show 2*(2*(b.toNat%16)+0)+0=4*(b.toNat%16) by omega]
  rfl
 |a::b::c::r=>by
  have ha:a.toNat<256:=a.toNat_lt;have hb:b.toNat<256:=b.toNat_lt;have hc:c.toNat<256:=c.toNat_lt;have e:bits (a::b::c::r)=(ge a++ge b++ge c)++bits r:=by simp[bits]
  rw[e,zzp _ _ (by simp[ge])]
  simp only[ge,wK,List.nil_append,xh,cw,e64];rw[zzo,zf8 r,n6 _ ha,n2,n4 _ _ hb,n4',n2' _ _ hc,n6'];unfold c0 c1 c2 c3;rw[x0 _ _ _ ha hb hc,x1 _ _ _ ha hb hc,x2 _ _ _ ha hb hc,x3 _ _ _ ha hb hc]
def ztp(b:List UInt8):∀x∈bits b,x<=1:=by
 intro x hx;obtain⟨c,_,hx⟩:=List.mem_flatMap.1 hx;simp only[ge,wE,List.not_mem_nil,or_false]at hx;omega
end Go.Sym.Tr
namespace Go.Sym.Tr
def kj(P:UInt8->Prop)(h:∀n:_root_.Fin 256,P (UInt8.ofNat n.val))(c:UInt8):P c:=by
 have:=h ⟨c.toNat,c.toNat_lt⟩;simpa using this
def isL:List UInt8->Bool|a::b::_=>a==13&&b==10|_=>false
def q1y{α:Type}(ab:List α)(aa:List α):List.drop ((ab.length:Nat):Int).toNat (ab++aa)=aa:=oB
def qpx{α:Type}(ab:List α)(c:α)(aa:List α):List.drop ((ab.length+1:Nat):Int).toNat (ab++c::aa)=aa:=by
 rw[show((ab.length+1:Nat):Int).toNat=(ab++[c]).length by simp,show ab++c::aa=(ab++[c])++aa by simp]
 simp
end Go.Sym.Tr
namespace Go.Sym.Tr
def blB(c:UInt8):Bool:=bif c==32 then true else c==9
def qke(c:UInt8):td c=some (blB c):=by unfold td blB;cases c==32<;>rfl
end Go.Sym.Tr
namespace Go.Sym.Tr
def sp:List UInt8->List UInt8×List UInt8|[]=>([],[])|c::r=>if isL (c::r) then([],c::r) else(c::(sp r).1,(sp r).2)
end Go.Sym.Tr
namespace Go.Sym.Tr
end Go.Sym.Tr
namespace Go.Sym.Tr
def ji(c:UInt8):Int:=Lib.indexByte nd c
def z4f:∀n:_root_.Fin 256,ji (UInt8.ofNat n.val) = -1\/(0<=ji (UInt8.ofNat n.val)/\ji (UInt8.ofNat n.val)<64):=by decide +kernel
def z4g(c:UInt8):ji c = -1\/(0<=ji c/\ji c<64):=kj (fun c=>ji c = -1\/(0<=ji c/\ji c<64)) z4f c
def iu(v:Nat):List Nat:=[v/32%2,v/16%2,v/8%2,v/4%2,v/2%2,v%2]
def d6:List UInt8->List Nat|[]=>[]|c::r=>if c=61 then[] else if ji c<0 then d6 r else iu (ji c).toNat++d6 r
def oe:List Nat->List UInt8|a::b::c::d::e::f::g::h::r=>cy ((cw 0 [a,b,c,d,e,f,g,h]:Nat):Int)::oe r|_=>[]
def q48:∀(l:List Nat)(a:Nat),cw a l=a*2 ^ l.length+cw 0 l
 |[],a=>by simp[cw]|x::l,a=>by
  rw[cw,cw,q48 l (2*a+x),q48 l (2*0+x),qL,Nat.pow_succ,Nat.add_mul,Nat.add_mul];have:2*a*2 ^ l.length=a*(2 ^ l.length*2):=by rw[Nat.mul_comm 2 a,Nat.mul_assoc,Nat.mul_comm 2]
  omega
def q47:∀(l m:List Nat)(a:Nat),cw a (l++m)=cw (cw a l) m|[],_,_=>rfl|x::l,m,a=>q47 l m (2*a+x)
def z2s(a v:Nat)(h:v<64):cw a (iu v)=64*a+v:=by
 simp only[iu,cw];omega
def z2r(v:Nat):∀x∈iu v,x<=1:=by
 intro x hx;simp only[iu,wE,List.not_mem_nil,or_false]at hx;omega
def ze6(q r:List Nat)(h:8<=q.length:=by omega):oe (q++r)=cy ((cw 0 (q.take 8):Nat):Int)::oe (q.drop 8++r):=by
 match q,h with|a::b::c::d::e::f::g::i::t,_=>simp[oe]
def q05(q:List Nat)(h:q.length<8):oe q=[]:=by
 match q,h with|[],_=>rfl|[_],_=>rfl|[_,_],_=>rfl|[_,_,_],_=>rfl|[_,_,_,_],_=>rfl|[_,_,_,_,_],_=>rfl|[_,_,_,_,_,_],_=>rfl|[_,_,_,_,_,_,_],_=>rfl|_::_::_::_::_::_::_::_::_,h=>simp at h;omega
def or6(x v:Nat)(h:x<1099511627776)(hv:v<64):ae (((BitVec.ofInt 64 (ae ((x:Int)*2 ^ min (6:Int).toNat 64))|||BitVec.ofInt 64 (v:Int)).toNat:Int))=((64*x+v:Nat):Int):=by
 have e:ae ((x:Int)*2 ^ min (6:Int).toNat 64)=((64*x:Nat):Int):=by
  rw[show(2:Int) ^ min (6:Int).toNat 64=64 by decide,dj];omega
 rw[e,BitVec.toNat_or,sn _,sn _]
 have:=Nat.two_pow_add_eq_or_of_lt (i:=6) (b:=v) (by simpa using hv) x
 rw[← show 2 ^ 6*x+v=64*x|||v from this]
 rw[dj]
def zsk(x k:Nat)(h:x<1099511627776:=by omega)(hk:k<=20:=by omega):ae (((BitVec.ofInt 64 (x:Int)&&&BitVec.ofInt 64 (ae ((ae ((1:Int)*2 ^ min (k:Int).toNat 64))-(1:Int)))).toNat:Int))=((x%2 ^ k:Nat):Int):=by
 have e1:min (k:Int).toNat 64=k:=oA
 have hp:2 ^ k<=2 ^ 20:=Nat.pow_le_pow_right oA hk
 have hp1:1<=2 ^ k:=Nat.one_le_two_pow;have e2:ae ((1:Int)*2 ^ k)=((2 ^ k:Nat):Int):=by
  have:((2:Int) ^ k)=((2 ^ k:Nat):Int):=oB
  rw[this,dj];omega
 have e3:ae (((2 ^ k:Nat):Int)-1)=((2 ^ k-1:Nat):Int):=by rw[dj];omega
 have hm:x%2 ^ k<=x:=Nat.mod_le _ _;rw[e1,e2,e3,BitVec.toNat_and,sn _,sn _,Nat.and_two_pow_sub_one_eq_mod,dj]
end Go.Sym.Tr
namespace Go.Sym.Tr
def z3k(q:List Nat)(k:Nat)(h1:∀x∈q,x<=1):cw 0 (q.take k)=cw 0 q/2 ^ (q.length-k)/\cw 0 (q.drop k)=cw 0 q%2 ^ (q.length-k):=by
 have e:cw 0 q=cw 0 (q.take k)*2 ^ (q.drop k).length+cw 0 (q.drop k):=by
  rw[← q48,← q47,List.take_append_drop]
 have hd:=qru (q.drop k) 0 (fun x hx=>h1 x (List.mem_of_mem_drop hx))
 rw[List.length_drop]at e hd;have hlt:cw 0 (q.drop k)<2 ^ (q.length-k):=oA
 rw[e,Nat.mul_comm,Nat.mul_add_div oA,Nat.mul_add_mod,Nat.div_eq_of_lt hlt,Nat.mod_eq_of_lt hlt]
 simp
def zx2(fu n:Nat)(m16:Int×Int):∀(ab aa:List UInt8)(p:List Nat)(out:List UInt8),aa.length<n->ab.length+aa.length<100000000->p.length<8->(∀x∈p,x<=1)->out.length+aa.length<=1000000000 ->
  z8 fu n ((cw 0 p:Nat):Int) (p.length:Int) (ab++aa) ((ab.length+aa.length:Nat):Int) (ab.length:Int) m16 out=some ((0,0),out++oe (p++d6 aa)):=by
 induction n with
 |zero=>intro ab aa p out h;omega|succ n ih=>
  intro ab aa p out h hb hp h1 ho
  cases aa with
  |nil=>
   rw[z8,qmj,ax]
   simp[cg,d6,q05 p hp]
  |cons c aa=>
   simp only[qL]at h hb ho;have nxt:∀(p:List Nat)(out:List UInt8),p.length<8->(∀x∈p,x<=1)->out.length+aa.length<=1000000000->z8 fu n ((cw 0 p:Nat):Int) (p.length:Int) (ab++c::aa) ((ab.length+(aa.length+1):Nat):Int) ((ab.length+1:Nat):Int) m16 out=some ((0,0),out++oe (p++d6 aa)):=by
    intro p out h2 h3 h4;have:=ih (ab++[c]) aa p out oA oD h2 h3 h4
    simp only[qM,qL,qZ,wO,qS,wK,List.nil_append]at this;rw[show ab.length+(aa.length+1)=ab.length+1+aa.length by omega]
    exact this
   rw[z8,qmj,ah,cq,qB,rt]
   simp only[qL];by_cases k:c=61
   ·rw[qX k];simp[cg,d6,k,q05 p hp]
   ·rw[qW k,ah oE]
    rw[show([65,66,67,68,69,70,71,72,73,74,75,76,77,78,79,80,81,82,83,84,85,86,87,88,89,90,97,98,99,100,101,102,103,104,105,106,107,108,109,110,111,112,113,114,115,116,117,118,119,120,121,122,48,49,50,51,52,53,54,55,56,57,43,47]:List UInt8)=nd from rfl,show qac nd c=some (ji c) from rfl,qB,b9 _,cm]
    rcases z4g c with hv|⟨hv,hv2⟩
    ·rw[hv,qX oE,nxt p out hp h1 oA]
     simp[d6,k,hv]
    ·obtain⟨v,hvv⟩:∃v:Nat,ji c=(v:Int):=⟨(ji c).toNat,oA⟩
     have hv64:v<64:=oA
     have hd:d6 (c::aa)=iu v++d6 aa:=by
      rw[d6,qW k,qW oA,hvv];rfl
     have hq:cw 0 (p++iu v)=64*cw 0 p+v:=by rw[q47,z2s _ _ hv64]
     have hpl:=qru p 0 h1;have hp2:2 ^ p.length<=2 ^ 7:=Nat.pow_le_pow_right oA oA
     have hql:(p++iu v).length=p.length+6:=by simp[iu]
     have hq1:∀x∈p++iu v,x<=1:=fun x hx=>by
      rcases List.mem_append.1 hx with hx|hx
      ·exact h1 x hx
      ·exact z2r v x hx
     rw[hvv,qW oA,or6 _ _ oA hv64,← hq,hd,← qS]
     have e6:ae ((p.length:Int)+6)=((p.length+6:Nat):Int):=by rw[dj];omega
     rw[e6,cm];by_cases h8:8<=p.length+6
     ·have e8:ae (((p.length+6:Nat):Int)-8)=((p.length+6-8:Nat):Int):=by rw[dj];omega
      rw[qX,e8,ah,ah oJ,ah]
      rw[zsk _ _]
      obtain⟨s1,s2⟩:=z3k (p++iu v) 8 hq1;rw[hql]at s1 s2;rw[← s2,ze6 _ _]
      have e9:Int.fdiv ((cw 0 (p++iu v):Nat):Int) (2 ^ min (((p.length+6-8:Nat):Int)).toNat 64)=((cw 0 ((p++iu v).take 8):Nat):Int):=by
       rw[s1,show min (((p.length+6-8:Nat):Int)).toNat 64=p.length+6-8 by omega,Int.fdiv_eq_ediv_of_nonneg _ (by exact Int.le_of_lt (Int.pow_pos oE))]
       simp
      rw[e9];have:=nxt ((p++iu v).drop 8) (out++[cy ((cw 0 ((p++iu v).take 8):Nat):Int)]) (by simp[iu];omega) (fun x hx=>hq1 x (List.mem_of_mem_drop hx)) oD
      rw[List.length_drop,hql]at this;rw[this];simp
     ·rw[qW oA]
      have:=nxt (p++iu v) out oA hq1 oA
      rw[hql]at this;exact this
end Go.Sym.Tr
namespace Go.Sym.Tr
end Go.Sym.Tr
namespace Go.Sym.Tr
end Go.Sym.Tr
namespace Go.Sym.Tr
end Go.Sym.Tr
namespace Go.Sym.Tr
def lenient_eq(fu:Nat)(b:List UInt8)(hb:b.length<=24000)(hf:b.length<fu):qgs fu b=some ((0,0),oe (d6 b)):=by
 unfold qgs;rw[ax]
 have:=zx2 fu fu (0,0) [] b [] [] hf oD oB (fun _ h=>by cases h) oD
 simpa [cw] using this
end Go.Sym.Tr
namespace Go.Sym.Tr
def q1q:∀(x y z:List UInt8),d6 y=d6 z->d6 (x++y)=d6 (x++z)
 |[],_,_,h=>h|c::x,y,z,h=>by
  simp only[wK,d6];rw[q1q x y z h]
def zfx(y:List UInt8):d6 (13::10::y)=d6 y:=by
 have h1:ji 13<0:=by decide +kernel
 have h2:ji 10<0:=by decide +kernel
 rw[d6,qW oE,qX h1,d6,qW oE,qX h2]
def zu7:∀(n:Nat)(s:List UInt8),s.length<n->d6 (qf n s)=d6 s:=by
 intro n
 induction n with
 |zero=>intro s h;omega|succ n ih=>
  intro s h;rw[qf];by_cases c:76<s.length
  ·rw[qX c,qS];have e:d6 ([13,10]++qf n (s.drop 76))=d6 (s.drop 76):=by
    rw[show([13,10]:List UInt8)++qf n (s.drop 76)=13::10::qf n (s.drop 76) from rfl,zfx,ih _ oD]
   rw[q1q _ _ _ e,List.take_append_drop]
  ·rw[qW c];by_cases k:s=[]
   ·rw[qX k,k]
   ·rw[qW k];have:=q1q s [13,10] [] (zfx []);rw[List.append_nil]at this;exact this
def dbits_lines(s:List UInt8):d6 (lines76 s)=d6 s:=zu7 _ s oA
def zsa:∀n:_root_.Fin 64,ji (al n.val)=(n.val:Int)/\al n.val≠61/\32<=al n.val/\al n.val<=126:=by decide +kernel
def zsc(k:Nat)(h:k<64):ji (al k)=(k:Int)/\al k≠61/\32<=al k/\al k<=126:=zsa ⟨k,h⟩
def zfw:∀(q:List Nat)(r:List UInt8),q.length%6=0->(∀x∈q,x<=1)->d6 (xh q++r)=q++d6 r
 |[],_,_,_=>rfl|[_],_,h,_=>by simp at h|[_,_],_,h,_=>by simp at h|[_,_,_],_,h,_=>by simp at h|[_,_,_,_],_,h,_=>by simp at h|[_,_,_,_,_],_,h,_=>by simp at h|a::b::c::d::e::f::q,r,h,h1=>by
  have hs:∀x∈[a,b,c,d,e,f],x<=1:=fun x hx=>h1 x (by simp at hx ⊢;omega)
  have hlt:=qru [a,b,c,d,e,f] 0 hs;simp only[qL,qZ]at hlt;have hk:cw 0 [a,b,c,d,e,f]<64:=oA
  obtain⟨k1,k2,_,_⟩:=zsc _ hk;have ha:=hs a oB
  have hb:=hs b oB
  have hc:=hs c oB
  have hd:=hs d oB
  have he:=hs e oB
  have hf:=hs f oB
  rw[xh,wK,d6,qW k2,qW (by rw[k1];omega),k1]
  rw[zfw q r (by simp only[qL]at h;omega) (fun x hx=>h1 x (by simp[hx]))]
  have e6:iu ((cw 0 [a,b,c,d,e,f]:Nat):Int).toNat=[a,b,c,d,e,f]:=by
   rw[qY];simp only[iu,cw,List.cons.injEq,and_true];refine⟨?_,?_,?_,?_,?_,?_⟩<;>omega
  rw[e6];rfl
def zu6(k:Nat):d6 (List.replicate k 61)=[]:=by
 cases k with|zero=>rfl|succ k=>rw[List.replicate_succ,d6,qX rfl]
def zzq(s:List Nat):(lu s).length%6=0:=by
 unfold lu;rw[qM,List.length_replicate];omega
def zzr(s:List Nat)(h:∀x∈s,x<=1):∀x∈lu s,x<=1:=by
 intro x hx;unfold lu at hx;rcases List.mem_append.1 hx with hx|hx
 ·exact h x hx
 ·have:=List.eq_of_mem_replicate hx;omega
def zu5(b:List UInt8):d6 (e64 b)=lu (bits b):=by
 rw[← zf8,qer,zfw _ _ (zzq _) (zzr _ (ztp b)),zu6,List.append_nil]
def zt4(c:UInt8)(r:List Nat):oe (ge c++r)=c::oe r:=by
 have hc:c.toNat<256:=c.toNat_lt;have e:cw 0 (ge c)=c.toNat:=by
  simp only[ge,cw];omega
 have:=ze6 (ge c) r (by simp[ge])
 rw[this,show(ge c).take 8=ge c from rfl,show(ge c).drop 8=[] from rfl,List.nil_append,e]
 congr 1;show UInt8.ofNat ((c.toNat:Int)%256).toNat=c;rw[show((c.toNat:Int)%256).toNat=c.toNat by omega]
 simp
def ze7:∀(b:List UInt8)(k:Nat),k<8->oe (bits b++List.replicate k 0)=b
 |[],k,h=>by
  rw[show bits []=[] from rfl,List.nil_append,q05 _ (by simpa using h)]
 |c::b,k,h=>by
  rw[show bits (c::b)=ge c++bits b from rfl,qS,zt4,ze7 b k h]
def by8_e64(b:List UInt8):oe (d6 (lines76 (e64 b)))=b:=by
 rw[dbits_lines,zu5,lu,ze7 _ _ oA]
end Go.Sym.Tr
namespace Go.Sym
abbrev sAs:Bs:=[97,115,99,105,105]
abbrev sLa:Bs:=[108,97,116,105,110,49]
abbrev sU8:Bs:=[117,116,102,56]
def bm:Nat->Bs|0=>sAs|1=>sLa|_=>sU8
def je(k:Nat)(R:List Nat):Prop:=kv R/\(k=0->∀c∈R,c<128)/\(k=1->∀c∈R,c<256)
def rz(k:Nat)(R:List Nat):Bs:=if k=0\/k=1 then R.map UInt8.ofNat else tx R
def zmn:∀(R:List Nat),kv R->Lib.validD (tx R)=true
 |[],_=>rfl|c::R,h=>by
  obtain⟨h1,h2⟩:=qbm h;have hl:=ol (c:=c);have d:=q1t h1 (tx R);rw[kz,Lib.validD_step _ (by intro q;exact q10 (List.append_eq_nil_iff.1 q).1),d]
  simp only;rw[qW (by
   rintro⟨q1,q2⟩
   subst q1;revert q2;decide),List.drop_left]
  exact zmn R h2
def z3l(R:List Nat)(h:kv R)(hl:R.length<=1000000:=by omega):ic (tx R)=some true:=by
 have:=qu R;unfold ic;rw[ah,zmn R h]
def zub(fu:Nat)(hfu:90000000<=fu)(k:Nat)(hk:k<3)(R:List Nat)(h:je k R)(hl:R.length<=3000):qms fu (bm k) (tx R)=some ((0,0),rz k R):=by
 have ht:=qu R;have hv:=z3l R h.1
 unfold qms qgz qg0 rz;rw[ax]
 simp only[qB]
 match k,hk,h with
 |0,_,h=>
  have g:=zga fu fu 128 (0,0) sAs [] R [] h.1 (h.2.1 rfl) oA oD
  rw[o8 fu hfu _ _ oB oP,qB,show lk [97,115,99,105,105] (bm 0)=true from rfl,a8 rfl,qB]
  simp only[ap];rw[ee,hv,qB,ee,qX]
  exact g
 |1,_,h=>
  have g:=zga fu fu 256 (0,0) sLa [] R [] h.1 (h.2.2 rfl) oA oD
  rw[o8 fu hfu _ _ oB oP,qB,show lk [97,115,99,105,105] (bm 1)=false from rfl,au rfl,o8 fu hfu _ _ oB oP,qB,show lk [108,97,116,105,110,49] (bm 1)=true from rfl,a8 rfl,qB]
  simp only[ap];rw[ee,hv,qB,ee,qX]
  exact g
 |2,_,h=>
  have g:=zvv fu fu (0,0) sU8 [] R [] h.1 oA oD
  rw[o8 fu hfu _ _ oB oP,qB,show lk [97,115,99,105,105] (bm 2)=false from rfl,au rfl,o8 fu hfu _ _ oB oP,qB,show lk [108,97,116,105,110,49] (bm 2)=false from rfl,au rfl,
   o8 fu hfu _ _ oB oP,qB,show lk [117,116,102,56] (bm 2)=true from rfl,a8 rfl,qB]
  simp only[ap];rw[ee,hv,qB,ee,qW oA]
  exact g
def q1a(m:Nat)(hm:m<=256):∀R:List Nat,(∀c∈R,c<m)->(R.map UInt8.ofNat).map (ch1 (m:Int))=R.map fun c:Nat=>(c:Int)
 |[],_=>rfl|c::R,h=>by
  have hc:=h c qH;rw[List.map_cons,List.map_cons,List.map_cons,q1a m hm R (fun d hd=>h d (qE _ hd))]
  unfold ch1;rw[qj c,qW oA]
def zua(fu:Nat)(hfu:90000000<=fu)(k:Nat)(hk:k<3)(R:List Nat)(h:je k R)(hl:R.length<=3000:=by omega):qmr fu (bm k) (rz k R)=some (tx R,(0,0)):=by
 have ht:=qu R;have htl:=q5h R;have hs:∀(b:Bs)(m:Int),b.length<=12000->qmt fu b m=some (m,b.map (ch1 m)):=fun b m hb=>by
  have:=z2p fu fu m [] b [] oA oD oD
  unfold qmt;simpa using this
 unfold qmr qgz qg0 rz;rw[ax (by split<;>simp<;>omega)]
 simp only[qB]
 match k,hk,h with
 |0,_,h=>
  rw[o8 fu hfu _ _ oB oP,qB,show lk [97,115,99,105,105] (bm 0)=true from rfl,a8 rfl,qB]
  simp only[ap];rw[ee,qX,hs _ _ oD,qB]
  simp only[];rw[show(128:Int)=((128:Nat):Int) from rfl,q1a 128 oA R (h.2.1 rfl),q4v R h.1];rfl
 |1,_,h=>
  rw[o8 fu hfu _ _ oB oP,qB,show lk [97,115,99,105,105] (bm 1)=false from rfl,au rfl,o8 fu hfu _ _ oB oP,qB,show lk [108,97,116,105,110,49] (bm 1)=true from rfl,a8 rfl,qB]
  simp only[ap];rw[ee,qX,hs _ _ oD,qB]
  simp only[];rw[show(256:Int)=((256:Nat):Int) from rfl,q1a 256 oA R (h.2.2 rfl),q4v R h.1];rfl
 |2,_,h=>
  rw[o8 fu hfu _ _ oB oP,qB,show lk [97,115,99,105,105] (bm 2)=false from rfl,au rfl,o8 fu hfu _ _ oB oP,qB,show lk [108,97,116,105,110,49] (bm 2)=false from rfl,au rfl,
   o8 fu hfu _ _ oB oP,qB,show lk [117,116,102,56] (bm 2)=true from rfl,a8 rfl,qB]
  simp only[ap];unfold qu8;have hr:gg (tx R)=R.map fun c:Nat=>(c:Int):=z2i (tx R).length [] R h.1 htl
  rw[ee,qW oA,ah,qB,hr,q4v R h.1];rfl
-- base64 without line ends
def qo(s:Bs):Bs:=Lib.replaceK [13,10] [] (Lib.count s [13,10]) s
def z15(c:UInt8)(r:Bs)(h:c≠13):qo (c::r)=c::qo r:=by
 have h:¬([13,10]:Bs).isPrefixOf (c::r)=true:=by
  simp[List.isPrefixOf];intro q;exact absurd q.symm h
 have hi:Lib.index (c::r) [13,10]=if Lib.index r [13,10] == -1 then -1 else Lib.index r [13,10]+1:=by rw[Lib.index,qW h]
 have hg:=Lib.index_ge r [13,10];unfold qo;by_cases q:Lib.index r [13,10] = -1
 ·rw[q]at hi;rw[Lib.count_miss q,Lib.count_miss (hi.trans rfl)];rfl
 ·obtain⟨i,e⟩:∃i:Nat,Lib.index r [13,10]=i:=⟨(Lib.index r [13,10]).toNat,oA⟩
  have e1:Lib.index (c::r) [13,10]=((i+1:Nat):Int):=by
   rw[hi,qW (by simpa using q),e];omega
  rw[Lib.count_hit oB e,Lib.count_hit oB e1,Nat.add_comm 1,Nat.add_comm 1,Lib.replaceK_hit _ _ _ _ _ e,Lib.replaceK_hit _ _ _ _ _ e1]
  simp[show i+1+2=i+2+1 by omega]
def zk0(r:Bs):qo (13::10::r)=qo r:=by
 have h:([13,10]:Bs).isPrefixOf (13::10::r)=true:=by simp[List.isPrefixOf]
 have e0:Lib.index (13::10::r) [13,10]=((0:Nat):Int):=by rw[Lib.index,qX h];rfl
 unfold qo;rw[Lib.count_hit oB e0,Nat.add_comm 1,Lib.replaceK_hit _ _ _ _ _ e0]
 simp
def q4t:∀(s r:Bs),(∀c∈s,c≠13)->qo (s++r)=s++qo r|[],_,_=>rfl|c::s,r,h=>by rw[wK,z15 c _ (h c qH),q4t s r (fun d hd=>h d (qE _ hd))];rfl
def z16:∀(n:Nat)(s:Bs),s.length<n->(∀c∈s,c≠13)->qo (Tr.lines76 s)=s:=by
 intro n
 induction n with
 |zero=>intro s h;omega|succ n ih=>
  intro s h hs;rw[Tr.lines76_eq];by_cases h76:76<s.length
  ·rw[qX h76,qS,q4t _ _ (fun c hc=>hs c (List.mem_of_mem_take hc))]
   show _++qo (13::10::Tr.lines76 (s.drop 76))=_;rw[zk0,ih _ (by rw[List.length_drop];omega) (fun c hc=>hs c (List.mem_of_mem_drop hc)),List.take_append_drop]
  ·rw[qW h76];by_cases h0:s=[]
   ·subst h0;rw[qX rfl];rfl
   ·rw[qW h0,q4t _ _ hs];show s++qo (13::10::[])=s;rw[zk0];show s++[]=s;simp
def zsb:∀n:_root_.Fin 64,33<=(Tr.al n.val).toNat/\(Tr.al n.val).toNat<=126/\Tr.al n.val≠63:=by decide +kernel
def uk(k:Nat)(h:k<64):33<=(Tr.al k).toNat/\(Tr.al k).toNat<=126/\Tr.al k≠63:=zsb ⟨k,h⟩
def q1z:∀b:Bs,∀c∈Tr.e64 b,33<=c.toNat/\c.toNat<=126/\c≠63
 |[],c,h=>by cases h
 |[x],c,h=>by
  simp only[Tr.e64,Tr.c0,Tr.c1,wE,List.not_mem_nil,or_false]at h;rcases h with rfl|rfl|rfl|rfl
  ·exact uk _ (Nat.mod_lt _ oA)
  ·exact uk _ (Nat.mod_lt _ oA)
  ·decide
  ·decide
 |[x,y],c,h=>by
  simp only[Tr.e64,Tr.c0,Tr.c1,Tr.c2,wE,List.not_mem_nil,or_false]at h;rcases h with rfl|rfl|rfl|rfl
  ·exact uk _ (Nat.mod_lt _ oA)
  ·exact uk _ (Nat.mod_lt _ oA)
  ·exact uk _ (Nat.mod_lt _ oA)
  ·decide
 |x::y::z::r,c,h=>by
  simp only[Tr.e64,Tr.c0,Tr.c1,Tr.c2,Tr.c3,wE]at h;rcases h with rfl|rfl|rfl|rfl|h
  ·exact uk _ (Nat.mod_lt _ oA)
  ·exact uk _ (Nat.mod_lt _ oA)
  ·exact uk _ (Nat.mod_lt _ oA)
  ·exact uk _ (Nat.mod_lt _ oA)
  ·exact q1z r c h
def qeb:∀b:Bs,(Tr.e64 b).length<=4*b.length
 |[]=>by simp[Tr.e64]|[x]=>by simp[Tr.e64]|[x,y]=>by simp[Tr.e64]|x::y::z::r=>by
  have:=qeb r;simp only[Tr.e64,qL];omega
def zx7:∀(n:Nat)(s:Bs),s.length<n->(Tr.lines76 s).length<=2*s.length+2:=by
 intro n
 induction n with
 |zero=>intro s h;omega|succ n ih=>
  intro s h;rw[Tr.lines76_eq];by_cases h76:76<s.length
  ·have:=ih (s.drop 76) (by rw[List.length_drop];omega)
   rw[qX h76];simp only[qM,List.length_take,qL,qZ];rw[List.length_drop]at this;omega
  ·rw[qW h76];split
   ·simp
   ·simp only[qM,qL,qZ];omega
def zgq(fu:Nat)(hfu:90000000<=fu)(b:Bs)(hb:b.length<=12000:=by omega):qib fu b=some (Tr.e64 b):=by
 have hl:=qeb b;unfold qib;rw[Tr.enc64_eq fu b oA hb,qB]
 unfold qdi;have h76:(Tr.lines76 (Tr.e64 b)).length<=1000000:=by have:=zx7 _ (Tr.e64 b) (Nat.lt_succ_self _);omega
 rw[ah oK,qB]
 have:=z16 _ (Tr.e64 b) (Nat.lt_succ_self _) (fun c hc q=>by have:=q1z b c hc;rw[q]at this;revert this;decide)
 unfold Lib.replaceAll Lib.replace Lib.replaceNum;rw[qW oE,qX (.inl oE)]
 exact congrArg some this
end Go.Sym
namespace Go.Sym
def ltr(c:UInt8):Bool:=decide (97<=c/\c<=122)||decide (65<=c/\c<=90)||decide (48<=c/\c<=57)
abbrev hxD:Bs:=[48,49,50,51,52,53,54,55,56,57,65,66,67,68,69,70]
def vd(c:UInt8):UInt8:=hxD.getD (c.toNat/16) 0
def ve(c:UInt8):UInt8:=hxD.getD (c.toNat%16) 0
def dq(c:UInt8):Bs:=if c=32 then[95] else if ltr c=true then[c] else[61,vd c,ve c]
def qbo{α:Type}[BEq α](a:Option α)(b:α):Bool:=match a with|some x=>x==b|none=>false
def qqs(c:UInt8):Bool:=qbo (qc0 c) (ltr c)&&qbo (tw (vy c (min (4:Int).toNat 8))) (vd c)&&qbo (tw c) (ve c)&&(match t6 [vd c,ve c] with|some (x,y)=>x==c&&y|none=>false) &&
 (dq c).all (fun d=>decide (33<=d.toNat/\d.toNat<=126/\d≠63))&&(!ltr c||(c != 95&&c != 61&&decide (33<=c)&&decide (c<=126)))
def zx4:∀n:_root_.Fin 256,qqs (UInt8.ofNat n.val)=true:=by decide +kernel
def zx3(c:UInt8):qqs c=true:=kj (fun c=>qqs c=true) zx4 c
def zjo{a:Option UInt8}{b:UInt8}(h:qbo a b=true):a=some b:=by
 cases a with
 |none=>cases h
 |some x=>exact congrArg some (by simpa [qbo] using h)
def zzf{a:Option Bool}{b:Bool}(h:qbo a b=true):a=some b:=by
 cases a with
 |none=>cases h
 |some x=>exact congrArg some (by simpa [qbo] using h)
def q3a(c:UInt8):qc0 c=some (ltr c)/\tw (vy c (min (4:Int).toNat 8))=some (vd c)/\tw c=some (ve c)/\t6 [vd c,ve c]=some (c,true)/\(∀d∈dq c,33<=d.toNat/\d.toNat<=126/\d≠63)/\(ltr c=true->c≠95/\c≠61/\33<=c/\c<=126):=by
 have h:=zx3 c;unfold qqs at h;simp only[qA]at h;obtain⟨⟨⟨⟨⟨h1,h2⟩,h3⟩,h4⟩,h5⟩,h6⟩:=h;refine⟨zzf h1,zjo h2,zjo h3,?_,?_,?_⟩
 ·split at h4
  ·rename_i x y e;simp only[qA,beq_iff_eq]at h4;rw[e,h4.1,h4.2]
  ·cases h4
 ·intro d hd;have:=List.all_eq_true.1 h5 d hd;simpa using this
 ·intro hl;rw[hl]at h6;have h6:((¬c=95/\¬c=61)/\33<=c)/\c<=126:=by simpa using h6
  exact⟨h6.1.1.1,h6.1.1.2,h6.1.2,h6.2⟩
def zzs(a b:UInt8)(r:Bs):t6 (a::b::r)=t6 [a,b]:=by
 unfold t6;rw[ax oG,ax]
 rfl
def q5v(c:UInt8)(out:Bs)(h:out.length<=1000000000:=by omega):qdf c out=some (out++[c]):=by
 unfold qdf pc;rw[qB,ah oZ]
def q5y(t out:Bs)(h:out.length<=1000000000:=by omega)(ht:t.length<=1000000:=by omega):qdg t out=some ((List.length t:Int),out++t):=by
 unfold qdg pc;rw[qB,ah mE]
def z4x(t out:Bs)(h:out.length<=1000000000)(ht:t.length<=1000000):qnn t out=some ((List.length t:Int),(t,out++t)):=by
 unfold qnn pc;rw[qB,ah mE]
def qpw(c:UInt8):1<=(dq c).length/\(dq c).length<=3:=by
 unfold dq;repeat' split
 all_goals simp
def zfu(fu n:Nat):∀(ab aa out:Bs),aa.length<n->ab.length+aa.length<100000000->out.length+3*aa.length<=900000000 ->
  qia fu n (ab++aa) ((ab.length+aa.length:Nat):Int) (ab.length:Int) out=some (out++aa.flatMap dq):=by
 induction n with
 |zero=>intro ab aa out h;omega|succ n ih=>
  intro ab aa out h hb ho;rw[qia,qza]
  cases aa with
  |nil=>rw[ax];simp;rfl|cons c aa=>
   simp only[qL]at h hb ho;have hd:=qpw c;have ih:=fun out=>ih (ab++[c]) aa out oA oD
   simp only[qM,qL,qZ,qS,wM,wO]at ih;obtain⟨l1,l2,l3,_⟩:=q3a c;have e:out++List.flatMap dq (c::aa)=(out++dq c)++List.flatMap dq aa:=oB
   rw[ah oG,cq,qB,b9 _,show ab.length+(c::aa).length=ab.length+1+aa.length by simp only[qL];omega,rt,e]
   unfold dq;by_cases h1:c=32
   ·rw[qX h1,qX h1,q5v _ _,qB,ih _ oM];rfl
   ·rw[qW h1,qW h1,l1,qB];cases hl:ltr c
    ·rw[au rfl,l2,qB,l3,qB,z4x _ _ oA oB,qB,qW oB,ih _ oH];rfl
    ·rw[a8 rfl,q5v _ _,qB,qX rfl,ih _ oM];rfl
def z4b(fu n:Nat):∀(b ab out:Bs),b.length<n->ab.length+(b.flatMap dq).length<100000000->out.length+b.length<=900000000 ->
  qh9 fu n (ab++b.flatMap dq) (ab.length:Int) out=some (true,out++b):=by
 induction n with
 |zero=>intro b ab out h;omega|succ n ih=>
  intro b ab out h hb ho;rw[qh9,qy9]
  cases b with
  |nil=>rw[ax];simp|cons c b=>
   have e:List.flatMap dq (c::b)=dq c++List.flatMap dq b:=oB
   rw[e,qM]at hb;simp only[qL]at h ho;have hd:=qpw c;have ih:=ih b (ab++dq c) (out++[c]) oA (by rw[qM];omega) oM
   rw[qS,qM,qS]at ih;obtain⟨l1,l2,l3,l4,l5,l6⟩:=q3a c;rw[e,ah oI]
   have hrow:(out++[c]).length<=aq:=by simp only[aq,qM,wD];omega
   clear e;generalize List.flatMap dq b=t at ih hb ⊢;unfold dq at ih ⊢;by_cases h1:c=32
   ·subst h1;rw[qX rfl]at ih ⊢;rw[show ab++([95]++t)=ab++95::t from rfl]at ih ⊢
    rw[cq,qB,a8,ah hrow,b9 _]
    exact ih
   ·rw[qW h1]at ih ⊢;cases hl:ltr c
    ·rw[hl,qW oB]at ih
     rw[qW oB]
     rw[show ab++([61,vd c,ve c]++t)=ab++61::vd c::ve c::t from rfl]at ih ⊢
     have hdrop:List.drop (((ab.length+1:Nat):Int)).toNat (ab++61::vd c::ve c::t)=vd c::ve c::t:=by
      rw[show(((ab.length+1:Nat):Int)).toNat=ab.length+1 by omega,← List.drop_drop,List.drop_left];rfl
     rw[cq,qB,au (by rfl),qB,a8,b9 _,ah oO,hdrop,zzs,l4,qB,ee]
     dsimp only;rw[ah hrow,show ae ((ab.length:Int)+2)=((ab.length+2:Nat):Int) from qr8 _ 2,b9 _]
     exact ih
    ·rw[hl,qX rfl]at ih;rw[qX rfl];obtain⟨n1,n2,n3,n4⟩:=l6 hl;rw[show ab++([c]++t)=ab++c::t from rfl]at ih ⊢
     rw[cq,qB,au (by simpa using n1),qB,au (by simpa using n2),qB,ah n3,qB,decide_eq_true n4]
     unfold qob;rw[a8 rfl,cq,qB,ah hrow,b9 _]
     exact ih
open Go.Lib (indexByte)
def ey(k:Nat)(R:List Nat):Bs:=if k=2 then Tr.e64 (tx R) else(R.map UInt8.ofNat).flatMap dq
def ip(k:Nat):UInt8:=if k=2 then 66 else 81
def bf(k:Nat)(R:List Nat):Bs:=61::63::(bm k++63::ip k::63::(ey k R++[63,61]))
def qr9(k:Nat)(R:List Nat):(bf k R).length=(bm k).length+(ey k R).length+7:=by
 unfold bf;simp only[qL,qM,qZ];omega
def zf2(b:Bs):(b.flatMap dq).length<=3*b.length:=by
 induction b with|nil=>simp|cons c b ih=>have:=qpw c;simp only[List.flatMap_cons,qM,qL];omega
def q1p(k:Nat)(R:List Nat):(ey k R).length<=16*R.length:=by
 unfold ey;split
 ·have:=qeb (tx R);have:=qu R;omega
 ·have:=zf2 (R.map UInt8.ofNat);rw[wC]at this;omega
def zu2(k:Nat)(R:List Nat):∀c∈ey k R,33<=c.toNat/\c.toNat<=126/\c≠63:=by
 unfold ey;split
 ·exact q1z _
 ·intro c hc;obtain⟨d,_,hd⟩:=List.mem_flatMap.1 hc;exact(q3a d).2.2.2.2.1 c hd
def q3u(k:Nat):(bm k).length<=6:=by unfold bm;split<;>simp
def zyy(k:Nat):∀c∈bm k,33<=c.toNat/\c.toNat<=126/\c≠63:=by
 unfold bm;split<;>decide
def qsa(fu:Nat)(hfu:90000000<=fu)(k:Nat)(hk:k<3)(R:List Nat)(h:je k R)(hl:R.length<=3000:=by omega):qaq fu (bm k) (tx R)=some (bf k R):=by
 have hc:=zub fu hfu k hk R h hl;have hn:=q3u k;have hd:=q1p k R;have ht:=qu R;unfold qaq;rw[hc,qB];dsimp only;have sm:a7 ≥ 1000000:=by simp only[a7];omega
 match k,hk,h with
 |2,_,h=>
  have e:rz 2 R=tx R:=qW oA
  rw[a8 (show(bm 2==([117,116,102,56]:Bs))=true from rfl),ah oK,ah oH,e,zgq fu hfu _,qB]
  have hd:(Tr.e64 (tx R)).length<=16*R.length:=hd;rw[ah oH,ah oH]
  refine congrArg some ?_;unfold bf ey ip;simp
 |0,_,h=>
  have e:rz 0 R=R.map UInt8.ofNat:=qX
  have g:=zfu fu fu [] (R.map UInt8.ofNat) [] mD oD oD
  rw[au (show(bm 0==([117,116,102,56]:Bs))=false from rfl),ah oK,ah oH,e]
  unfold qoc;simp only[List.nil_append,qZ,wO]at g;rw[show((0:Nat):Int)=0 from rfl]at g
  have hd:((R.map UInt8.ofNat).flatMap dq).length<=16*R.length:=hd;rw[g,qB,ah oH,ah oH]
  refine congrArg some ?_;unfold bf ey ip;simp
 |1,_,h=>
  have e:rz 1 R=R.map UInt8.ofNat:=qX
  have g:=zfu fu fu [] (R.map UInt8.ofNat) [] mD oD oD
  rw[au (show(bm 1==([117,116,102,56]:Bs))=false from rfl),ah oK,ah oH,e]
  unfold qoc;simp only[List.nil_append,qZ,wO]at g;rw[show((0:Nat):Int)=0 from rfl]at g
  have hd:((R.map UInt8.ofNat).flatMap dq).length<=16*R.length:=hd;rw[g,qB,ah oH,ah oH]
  refine congrArg some ?_;unfold bf ey ip;simp
def zt5(fu:Nat)(hfu:90000000<=fu)(k:Nat)(hk:k<3)(R:List Nat)(hl:R.length<=1000):qn8 fu [ip k] (ey k R)=some (true,rz k R):=by
 have ht:=qu R;have hd:=q1p k R;unfold qn8 qn9 ip;by_cases h2:k=2
 ·subst h2;have e:rz 2 R=tx R:=qW oA
  have hdt:ey 2 R=Tr.e64 (tx R):=qX rfl;rw[qX rfl,a8,a8 rfl,ah oT,hdt,e]
  rw[hdt]at hd;have h8:=Tr.by8_e64 (tx R);rw[Tr.dbits_lines]at h8;rw[Tr.lenient_eq fu _ oA oA,qB]
  dsimp only;rw[h8,zgq fu hfu _,qB]
  simp
 ·rw[qW h2,au (by rfl),show(([81]:Bs)==[98])=false from rfl,au rfl,a8]
  have hdt:ey k R=(R.map UInt8.ofNat).flatMap dq:=qW h2;have e:rz k R=R.map UInt8.ofNat:=qX
  have g:=z4b fu fu (R.map UInt8.ofNat) [] [] mD (by have:=zf2 (R.map UInt8.ofNat);rw[wC]at this;simp only[qZ];omega) oD
  unfold qoa;rw[a8 rfl,hdt,e];exact g
-- a text cut at question marks
def ixl:∀(w r:Bs),(∀c∈w,c≠63)->Lib.index (w++63::r) [63]=(w.length:Int)
 |[],r,_=>by rw[List.nil_append,Lib.index,qX mF];rfl|c::w,r,h=>by
  have hc:=h c qH;rw[wK,Lib.index,qW (by simp[List.isPrefixOf];intro q;exact hc q.symm),ixl w r (fun d hd=>h d (qE _ hd)),qW (by rw[beq_iff_eq];omega)]
  simp
def zw8(w r:Bs)(h:∀c∈w,c≠63)(hl:w.length+r.length<=1000000:=by omega):lf (w++63::r) [63]=some (w.length:Int):=by
 unfold lf nz;rw[ah oO,qB,ixl w r h]
def q1l(fu n:Nat)(w r:Bs)(h:∀c∈w,c≠63)(h0:w≠[])(hw:w.length<=100000)(hr:r.length<=100000)(i:Nat)(hi:i<3)(L:List Bs)(hL:L.length=4) :
  w8 fu (n+1) (w++63::r) [63] 0 3 (i:Int) L=w8 fu n r [63] 0 3 ((i+1:Nat):Int) (L.set i w):=by
 have ac:(w++63::r).length=w.length+r.length+1:=by simp;omega
 have hg:L[((i:Nat):Int).toNat]? = some L[i]:=by rw[show((i:Nat):Int).toNat=i by omega];exact List.getElem?_eq_getElem oA
 rw[w8,qnz,ah,zw8 w r h,qB,ax,Int.add_zero,dj (x:=(w.length:Int)) oA oA,ah,ah,hg,qB,
  show((List.length ([63]:Bs):Nat):Int)=1 from rfl,b9 _,ah,b9 _]
 congr 1
 ·rw[show((w.length+1:Nat):Int).toNat=w.length+1 by omega,← List.drop_drop,List.drop_left];rfl
 ·rw[show((i:Nat):Int).toNat=i by omega,show((w.length:Nat):Int).toNat=w.length by omega,List.take_left]
def z23(fu:Nat)(hfu:100<=fu)(a b c r:Bs)(ha:∀x∈a,x≠63)(hb:∀x∈b,x≠63)(hc:∀x∈c,x≠63)(a0:a≠[])(b0:b≠[])(c0:c≠[])(hl:a.length+b.length+c.length+r.length<=10000) :
  qnu fu (a++63::(b++63::(c++63::r))) [63] 4=some [a,b,c,r]:=by
 obtain⟨n,rfl⟩:∃n,fu=n+4:=⟨fu-4,oA⟩
 have ac:(a++63::(b++63::(c++63::r))).length=a.length+b.length+c.length+r.length+3:=by simp;omega
 have l2:(b++63::(c++63::r)).length=b.length+c.length+r.length+2:=by simp;omega
 have l3:(c++63::r).length=c.length+r.length+1:=by simp;omega
 have la:1<=a.length:=by cases a with|nil=>exact absurd rfl a0|cons _ _=>simp
 unfold qnu qx8;rw[au (by rfl),au (by rfl),ax oE]
 unfold qn0;have e4:(if ae ((List.length (a++63::(b++63::(c++63::r))):Int)+(1:Int))<(4:Int) then ae ((List.length (a++63::(b++63::(c++63::r))):Int)+(1:Int)) else(4:Int))=4:=by
  rw[b9 _,qW oA]
 rw[e4,ah,show ae ((4:Int)-1)=3 from rfl,show List.replicate (4:Int).toNat ([]:Bs)=[[],[],[],[]] from rfl]
 have s1:=q1l (n+4) (n+3) a (b++63::(c++63::r)) ha a0 oA oA 0 oA [[],[],[],[]] rfl
 have s2:=q1l (n+4) (n+2) b (c++63::r) hb b0 oA oA 1 oA [a,[],[],[]] rfl
 have s3:=q1l (n+4) (n+1) c r hc c0 oA oA 2 oA [a,b,[],[]] rfl
 have s4:w8 (n+4) (n+1) r [63] 0 3 ((2+1:Nat):Int) [a,b,c,[]]=some [a,b,c,r]:=by
  rw[w8,qnz,au (by rfl)];rfl
 have:=((s1.trans s2).trans s3).trans s4;exact congrArg (fun x=>Option.bind x some) this
def z0m(x y:UInt8)(r:Bs):mv (x::y::r) [61,63]=some ([x,y]==([61,63]:Bs)):=by
 unfold mv qc9;rw[ah oK,ah ⟨oB,oK⟩];rfl
def zu3(k:Nat)(R:List Nat)(h:R≠[]):ey k R≠[]:=by
 cases R with
 |nil=>exact absurd rfl h|cons c R=>
  unfold ey;split
  ·intro q;have h1:=q5i (R:=c::R) oB
   cases e:tx (c::R) with
   |nil=>exact h1 e|cons x t=>
    rw[e]at q
    match t,q with
    |[],q=>cases q
    |[_],q=>cases q
    |_::_::_,q=>cases q
  ·intro q;have h1:=qpw (UInt8.ofNat c);simp only[List.map_cons,List.flatMap_cons]at q;have h2:=(List.append_eq_nil_iff.1 q).1;rw[h2]at h1;exact absurd h1.1 oB
def zj7(fu:Nat)(hfu:90000000<=fu)(k:Nat)(hk:k<3)(R:List Nat)(h:je k R)(hl:R.length<=1000)(h0:R≠[])(h75:(bf k R).length<=75)(rest:Bs)(hr:rest.length<=10000) :
  qdm fu (bf k R++rest)=some (tx R,(((bf k R).length:Int),true)):=by
 have hwl:=qr9 k R;have hn:=q3u k;have ac:(bf k R++rest).length=(bf k R).length+rest.length:=qM;have hd:=zua fu hfu k hk R h
 have hb:=zt5 fu hfu k hk R hl
 -- what is cut
 have hmin:(if(75:Int)<((bf k R++rest).length:Int) then(75:Int) else((bf k R++rest).length:Int))=((min 75 (bf k R++rest).length:Nat):Int):=by split<;>omega
 obtain⟨M,hM⟩:∃M,M=min 75 (bf k R++rest).length:=⟨_,rfl⟩;have hM1:(bf k R).length<=M:=oA
 have hM2:M<=75:=oA
 have htake:List.take (((M:Nat):Int).toNat-(2:Int).toNat) (List.drop (2:Int).toNat (bf k R++rest))=bm k++63::([ip k]++63::(ey k R++63::(61::rest.take (M-(bf k R).length)))):=by
  have e1:List.drop (2:Int).toNat (bf k R++rest)=(bm k++63::ip k::63::(ey k R++[63,61]))++rest:=rfl;rw[e1,show((M:Nat):Int).toNat-(2:Int).toNat=M-2 by show((M:Nat):Int).toNat-2=M-2;omega,List.take_append]
  have e2:(bm k++63::ip k::63::(ey k R++[63,61])).length=(bf k R).length-2:=by rw[hwl];simp only[qM,qL,qZ];omega
  rw[List.take_of_length_le oA,e2,show M-2-((bf k R).length-2)=M-(bf k R).length by omega]
  simp
 have hs:=z23 fu oA (bm k) [ip k] (ey k R) (61::rest.take (M-(bf k R).length)) (fun c hc=>(zyy k c hc).2.2) (fun c hc=>by rw[List.mem_singleton]at hc;subst hc;unfold ip;split<;>decide) (fun c hc=>(zu2 k R c hc).2.2)
  (by unfold bm;split<;>simp) oB (zu3 k R h0) (by simp only[qL,qZ,List.length_take];omega)
 have hp1:mv (61::rest.take (M-(bf k R).length)) [61]=some true:=by
  unfold mv qc9;rw[ah oK,ah ⟨oB,oK⟩]
  rfl
 unfold qdm;rw[show mv (bf k R++rest) [61,63]=some true from z0m 61 63 _,qB,ee,hmin,← hM,ah,htake,hs,qB,ax,show am [bm k,[ip k],ey k R,61::rest.take (M-(bf k R).length)] 3=some (61::rest.take (M-(bf k R).length)) from rfl,qB,hp1,qB]
 unfold qoe qzc;rw[ee];rw[show am [bm k,[ip k],ey k R,61::rest.take (M-(bf k R).length)] 1=some [ip k] from rfl,show am [bm k,[ip k],ey k R,61::rest.take (M-(bf k R).length)] 2=some (ey k R) from rfl,show am [bm k,[ip k],ey k R,61::rest.take (M-(bf k R).length)] 0=some (bm k) from rfl]
 simp only[qB];rw[hb,qB];dsimp only;rw[hd,qB];dsimp only;rw[a8 rfl,show dp ((0:Int),(0:Int))=some false from rfl,qB]
 have w:ae ((ae ((ae ((ae ((2:Int)+(List.length (bm k):Int)))+(List.length [ip k]:Int)))+(List.length (ey k R):Int)))+(4:Int))=((bf k R).length:Int):=by
  rw[show((List.length [ip k]:Nat):Int)=1 from rfl,dj (x:=(2:Int)+(List.length (bm k):Int)) oA oA,dj (x:=(2:Int)+(List.length (bm k):Int)+1) oA oA,dj (x:=(2:Int)+(List.length (bm k):Int)+1+(List.length (ey k R):Int)) oA oA,dj]
  omega
 rw[w];rfl
end Go.Sym
namespace Go.Sym
def eh:List Bs->Bs|[]=>[]|[w]=>w|w::v::ws=>w++(32::eh (v::ws))
def zj6(fu:Nat)(s:Bs)(h:([61,63]:Bs).isPrefixOf s=false):qdm fu s=some ([],((0:Int),false)):=by
 have hp:mv s [61,63]=some false:=by
  unfold mv qc9
  match s,h with
  |[],_=>rfl|[_],_=>rfl|x::y::r,h=>
   rw[ah oK,ah ⟨oB,oK⟩,qB]
   refine congrArg some ?_;show([x,y]==([61,63]:Bs))=false;simp[List.isPrefixOf]at h;simp;intro q;exact fun q2=>h q.symm q2.symm
 unfold qdm;rw[hp,qB,pw]
def zfz(fu n:Nat)(z:Int×Int)(s:Bs)(g:Int)(hg:g = -1\/g=(s.length:Int))(out:Bs)(ho:out.length<=1000000000)(hs:s.length<=1000000):pd fu (n+1) s g (s.length:Int) z out=some (out,(0,0)):=by
 rw[pd,qan,ax]
 rcases hg with rfl|rfl
 ·rw[ax oE];rfl
 ·rw[ah,ah,show((s.length:Nat):Int).toNat=s.length by omega,List.drop_length,q5y _ _ oA oB,qB,List.append_nil];rfl
def zf0(fu:Nat)(hfu:90000000<=fu)(k:Nat)(hk:k<3)(z:Int×Int):∀(Gs:List (List Nat)),Gs≠[]->(∀G∈Gs,je k G/\G.length<=1000/\G≠[]/\(bf k G).length<=75)->∀(n:Nat)(ab:Bs)(g:Int)(out:Bs),2*Gs.length<n->ab.length+(eh (Gs.map (bf k))).length<=10000->out.length+4000*Gs.length<=100000000 ->
  pd fu n (ab++eh (Gs.map (bf k))) g (ab.length:Int) z out=some (out++Gs.flatMap tx,(0,0))
 |[],h0,_,_,_,_,_,_,_,_=>absurd rfl h0|[G],_,h,n,ab,g,out,hn,hl,ho=>by
  obtain⟨h1,h2,h3,h4⟩:=h G qH;have hw:=qr9 k G;have ht:=qu G;obtain⟨n,rfl⟩:∃m,n=m+2:=⟨n-2,by simp only[qL,qZ]at hn;omega⟩
  have hr:=zj7 fu hfu k hk G h1 h2 h3 h4 [] oB
  rw[List.append_nil]at hr;simp only[List.map_cons,List.map_nil,eh]at hl ⊢;rw[pd,qan,ah oI,ah oI,show((ab.length:Nat):Int).toNat=ab.length by omega,List.drop_left,hr,qB]
  dsimp only;rw[ee,q5y _ _,qB,qr8 _ _]
  have he:=zfz fu n z (ab++bf k G) ((ab.length+(bf k G).length:Nat):Int) (.inr oB) (out++tx G) (by simp only[qM,qL,qZ]at ho ⊢;omega) oI
  rw[qM]at he;rw[he];simp
 |G::G2::Gs,_,h,n,ab,g,out,hn,hl,ho=>by
  obtain⟨h1,h2,h3,h4⟩:=h G qH;have hw:=qr9 k G;have ht:=qu G;simp only[qL]at hn ho;obtain⟨n,rfl⟩:∃m,n=m+2:=⟨n-2,oA⟩
  have e0:eh ((G::G2::Gs).map (bf k))=bf k G++(32::eh ((G2::Gs).map (bf k))):=by simp only[List.map_cons,eh]
  have ih0:=zf0 fu hfu k hk z (G2::Gs) oB (fun x hx=>h x (qE _ hx))
  rw[e0]at hl ⊢;generalize eh ((G2::Gs).map (bf k))=t at hl ih0 ⊢;simp only[qM,qL]at hl;have hr:=zj7 fu hfu k hk G h1 h2 h3 h4 (32::t) oG
  have lp:List.length (ab++(bf k G++[32]):Bs)=ab.length+(bf k G).length+1:=by simp only[qM,qL,qZ];omega
  have lo:List.length (out++tx G)=out.length+(tx G).length:=qM;have l3:List.length (G2::Gs)=Gs.length+1:=rfl;have q1:2*List.length (G2::Gs)<n:=oA
  have q2:List.length (ab++(bf k G++[32]):Bs)+t.length<=10000:=oA
  have q3:List.length (out++tx G)+4000*List.length (G2::Gs)<=100000000:=oA
  have ih:=ih0 n (ab++(bf k G++[32])) ((ab.length+(bf k G).length:Nat):Int) (out++tx G) q1 q2 q3;have e1:ab++(bf k G++[32])++t=ab++(bf k G++(32::t)):=oB
  rw[e1]at ih;rw[pd,qan,ah oI,ah oI,show((ab.length:Nat):Int).toNat=ab.length by omega,List.drop_left,hr,qB]
  dsimp only;rw[ee,q5y _ _,qB,qr8 _ _]
  have ei:ab++(bf k G++32::t)=(ab++bf k G)++32::t:=oB
  have hd:List.drop ((ab.length+(bf k G).length:Nat):Int).toNat (ab++(bf k G++32::t))=32::t:=by
   rw[ei,show((ab.length+(bf k G).length:Nat):Int).toNat=(ab++bf k G).length by rw[qM];omega,List.drop_left]
  have hi:am (ab++(bf k G++32::t)) ((ab.length+(bf k G).length:Nat):Int)=some 32:=by
   rw[ei,show((ab.length+(bf k G).length:Nat):Int)=(((ab++bf k G).length:Nat):Int) by rw[qM]]
   exact cq _ _ _
  rw[pd,qan,ah oO,ah oO,hd,zj6 fu _ (by rfl),qB]
  dsimp only;rw[pw,ax]
  unfold qh5;rw[ah,hi,qB,show ny 32=some true from rfl,qB]
  unfold qh6 qh7;rw[au (by rfl),b9 _]
  have e5:List.length (ab++(bf k G++[32]):Bs)=ab.length+(bf k G).length+1:=by rw[qM,qM,wD];omega
  rw[e5]at ih;rw[ih];simp
def zvb(fu n:Nat)(z:Int×Int):∀(ab aa out:Bs),aa.length<n->ab.length+aa.length<=10000->out.length+aa.length<=1000000->(∀p r,aa=p++r->([61,63]:Bs).isPrefixOf r=false) ->
  pd fu n (ab++aa) (-1) (ab.length:Int) z out=some (out++aa,(0,0)):=by
 induction n with
 |zero=>intro ab aa out h;omega|succ n ih=>
  intro ab aa out h hb ho hp
  cases aa with
  |nil=>
   have:=zfz fu n z (ab++[]) (-1) (.inl rfl) out (by simp at ho;omega) (by simp at hb ⊢;omega)
   simpa using this
  |cons c aa=>
   simp only[qL]at h hb ho;have ih:=ih (ab++[c]) aa (out++[c]) oA oD oD (fun p r e=>hp (c::p) r (by rw[e];rfl))
   simp only[qM,qL,qZ,qS,wM,wO]at ih;rw[pd,qan,ah oO,ah oO,show((ab.length:Nat):Int).toNat=ab.length by omega,List.drop_left,zj6 fu _ (hp [] _ rfl),qB]
   dsimp only;rw[pw,ah oE,cq,qB,q5v _ _,qB]
   unfold qh5;rw[ax oE]
   unfold qh6 qh7;rw[au rfl,b9 _]
   exact ih
def Ok{α:Type}(P:α->Prop)(x:Option α):Prop:=∃v,x=some v/\P v
def et{α:Type}{P:α->Prop}{v:α}(h:P v):Ok P (some v):=⟨v,rfl,h⟩
def gu{α β:Type}{P:α->Prop}{Q:β->Prop}{x:Option α}{f:α->Option β}(h:Ok P x)(g:∀v,P v->Ok Q (f v)):Ok Q (x.bind f):=by
 obtain⟨v,e,hv⟩:=h;rw[e,qB];exact g v hv
def ym{α:Type}{P:α->Prop}{b:Bool}{x y:Option α}(h:b=true->Ok P x)(g:b=false->Ok P y):Ok P (bif b then x else y):=by
 cases b
 ·exact g rfl
 ·exact h rfl
def vo{α:Type}{P:α->Prop}{b:Bool}{x y:Option α}(h:b=false->Ok P x)(g:b=true->Ok P y):Ok P (bif !b then x else y):=by
 cases b
 ·exact h rfl
 ·exact g rfl
def yn{α:Type}{P:α->Prop}{p:Prop}[Decidable p]{x y:Option α}(h:p->Ok P x)(g:¬p->Ok P y):Ok P (bif decide p then x else y):=by
 by_cases q:p
 ·rw[ah q];exact h q
 ·rw[ax q];exact g q
def q33{α:Type}{P:α->Prop}{p:Prop}[Decidable p]{x:Option α}(q:p)(h:Ok P x):Ok P (bif decide p then x else none):=by
 rw[ah q];exact h
def qq6{α β γ:Type}{P:γ->Prop}{o:α ⊕ β}{f:α->Option γ}{g:β->Option γ}(h:∀a,o = .inl a->Ok P (f a))(h':∀b,o = .inr b->Ok P (g b)):Ok P (ap o f g):=by
 cases o with|inl a=>exact h a rfl|inr b=>exact h' b rfl
def zji{α:Type}{P:α->Prop}{l:List α}{k:Nat}(h:k<l.length)(g:∀c∈l,P c):Ok P (am l (k:Int)):=⟨l[k],sf l k h,g _ (List.getElem_mem h)⟩
def q32{α:Type}{l:List α}{k:Nat}(h:k<l.length):Ok (fun _=>True) (am l (k:Int)):=zji h fun _ _=>trivial
def sv{α:Type}(out:List α)(c:α)(h:out.length<=1000000000:=by omega):(out++[c]).length<=aq:=by
 simp only[aq,qM,qL,qZ];omega
def f8(k:Nat)(h:k<100000000:=by omega):ae ((k:Int)+1)=((k+1:Nat):Int):=b9 k
def tot(l:List Bs):Nat:=(l.map List.length).sum
def four{r:List Bs}(h:¬(r.length:Int)<4)(h':r.length<=4):∃a b c d,r=[a,b,c,d]:=by
 match r,h,h' with|[a,b,c,d],_,_=>exact⟨a,b,c,d,rfl⟩|[],h,_=>exact absurd h oB|[_],h,_=>exact absurd h oB|[_,_],h,_=>exact absurd h oB|[_,_,_],h,_=>exact absurd h oB|_::_::_::_::_::_,_,h=>exact absurd h oB
abbrev ej{α:Type}:α->Prop:=fun _=>True
def qpg:∀n:_root_.Fin 256,(th (UInt8.ofNat n.val)).isSome=true/\(qcm (UInt8.ofNat n.val)).isSome=true/\(wk (UInt8.ofNat n.val)).isSome=true/\(n7 ([58,59,44,64,60,62]:Bs) (UInt8.ofNat n.val)).isSome=true:=by decide +kernel
def qq5{α:Type}{x:Option α}(h:x.isSome=true):Ok ej x:=by
 obtain⟨v,e⟩:=Option.isSome_iff_exists.1 h;exact⟨v,e,trivial⟩
def zej(c:UInt8):Ok ej (th c):=qq5 (kj (fun c=>(th c).isSome=true) (fun n=>(qpg n).1) c)
def zyb(c:UInt8):Ok ej (qcm c):=qq5 (kj (fun c=>(qcm c).isSome=true) (fun n=>(qpg n).2.1) c)
def zf5(c:UInt8):Ok ej (wk c):=qq5 (kj (fun c=>(wk c).isSome=true) (fun n=>(qpg n).2.2.1) c)
def z2o(c:UInt8):Ok ej (n7 ([58,59,44,64,60,62]:Bs) c):=qq5 (kj (fun c=>(n7 ([58,59,44,64,60,62]:Bs) c).isSome=true) (fun n=>(qpg n).2.2.2) c)
def q0d(s:Bs)(hs:s.length<=10000000)(P0:Nat->Bs->Int->Int->Option Bool)(p:UInt8->Option Bool)(hp:∀c,Ok ej (p c))
  (h0:∀n e k,P0 (n+1) s e k=(bif decide (k<e) then(am s k).bind fun c=>(p c).bind fun x=>bif !x then some false else P0 n s e (ae (k+(1:Int))) else some true)) :
  ∀n k:Nat,s.length-k<n->Ok ej (P0 n s (s.length:Int) (k:Int)):=by
 intro n
 induction n with
 |zero=>intro k h;omega|succ n ih=>
  intro k h;rw[h0];refine yn (fun q=>gu (q32 (k:=k) oA) fun c _=>gu (hp c) fun x _=>vo (fun _=>et trivial) fun _ => ?_) fun _=>et trivial
  rw[f8 k]
  exact ih (k+1) oA
def ixc(c:UInt8):∀(w r:Bs),(∀x∈w,x≠c)->Lib.index (w++c::r) [c]=(w.length:Int)
 |[],r,_=>by rw[List.nil_append,Lib.index,qX mF];rfl|d::w,r,h=>by
  have hc:=h d qH;rw[wK,Lib.index,qW (by simp[List.isPrefixOf];intro q;exact hc q.symm),ixc c w r (fun d hd=>h d (qE _ hd)),qW (by rw[beq_iff_eq];omega)]
  simp
def ixn(c:UInt8):∀s:Bs,(∀x∈s,x≠c)->Lib.index s [c] = -1
 |[],_=>rfl|d::s,h=>by
  rw[Lib.index,qW (by simp[List.isPrefixOf];exact fun q=>h d qH q.symm),ixn c s (fun x hx=>h x (qE _ hx))]
  rfl
def q2t(c:UInt8)(s:Bs)(hl:s.length<=1000000:=by omega):(lf s [c]=some (-1))\/∃w r,s=w++c::r/\lf s [c]=some (w.length:Int):=by
 unfold lf nz;rw[ah,qB]
 rcases yt c s with⟨w,r,rfl,h⟩|h
 ·exact .inr ⟨w,r,rfl,congrArg some (ixc c w r h)⟩
 ·exact .inl (congrArg some (ixn c s h))
def zjw{R:Type}(P1:Nat->Bs->Bs->Int->Bool->Option R)(r0:Bs->Bool->Option (Bool ⊕ Bool))(A B:Bs×Bs×Int×Bool->R)(hr:∀s b,s.length<=100000->Ok ej (r0 s b))
  (h0:∀n m1 m2 m3 m5,P1 (n+1) m1 m2 m3 m5=(lf m2 m1).bind fun x1=>bif decide (x1<(0:Int)) then(r0 m2 m5).bind fun x2=>ap x2 (fun a3=>some (A (m1,(m2,(m3,a3))))) (fun b4=>some (B (m1,(m2,(m3,b4))))) else bif decide (0<=ae (x1+m3)/\ae (x1+m3)<=(List.length m2:Int)) then(r0 (List.take (ae (x1+m3)).toNat m2) m5).bind fun x5=>ap x5 (fun a6=>some (A (m1,(m2,(m3,a6))))) (fun b7=>bif decide (0<=ae (x1+(List.length m1:Int))/\ae (x1+(List.length m1:Int))<=(List.length m2:Int)) then P1 n m1 (List.drop (ae (x1+(List.length m1:Int))).toNat m2) m3 b7 else none) else none) :
  ∀(n:Nat)(s:Bs)(b:Bool),s.length<n->s.length<=100000->Ok ej (P1 n [46] s 0 b):=by
 intro n
 induction n with
 |zero=>intro s b h;omega|succ n ih=>
  intro s b h hs;rw[h0];rcases q2t 46 s with e|⟨w,r,rfl,e⟩
  ·rw[e,qB,ah]
   exact gu (hr s b hs) fun x2 _=>qq6 (fun _ _=>et trivial) fun _ _=>et trivial
  ·simp only[qM,qL]at h hs;rw[e,qB,ax,Int.add_zero,dj (x:=(w.length:Int)) oA oA]
   refine q33 oD (gu (hr _ b (by rw[List.length_take];simp;omega)) fun x2 _=>qq6 (fun _ _=>et trivial) fun b7 _ => ?_)
   rw[show((List.length ([46]:Bs):Nat):Int)=1 from rfl,f8 _]
   refine q33 oD ?_
   rw[show((w.length+1:Nat):Int).toNat=w.length+1 by omega,← List.drop_drop,List.drop_left]
   exact ih r b7 oA oA
def zsd(fu:Nat)(hfu:90000000<=fu)(s:Bs)(hs:s.length<=100000:=by omega):Ok ej (qt9 fu s):=q0d s oA (qmk fu) qcm zyb (fun _ _ _=>rfl) fu 0 oA
def zse(fu:Nat)(hfu:90000000<=fu)(s:Bs)(hs:s.length<=100000):Ok ej (qgu fu s):=q0d s oA (qcy fu) th zej (fun _ _ _=>rfl) fu 0 oA
def zsg(fu:Nat)(hfu:90000000<=fu)(s:Bs)(hs:s.length<=100000):Ok ej (qml fu s):=q0d s oA (qcx fu) wk zf5 (fun _ _ _=>rfl) fu 0 oA
def zif(fu:Nat)(hfu:90000000<=fu)(s:Bs):Ok ej (ti fu s):=by
 unfold ti;exact vo (fun _=>yn (fun h=>gu (zsd fu hfu s) fun _ _=>et trivial) fun _=>et trivial) fun _=>et trivial
def zvj(fu:Nat)(hfu:90000000<=fu)(s:Bs)(hs:s.length<=100000:=by omega):Ok ej (wm fu s):=by
 unfold wm qmc ub qam;simp only[qB];unfold qn2;rw[au (by rfl)]
 refine gu (P:=ej) (gu (P:=ej) ?_ fun x _=>qq6 (fun _ _=>et trivial) fun _ _=>et trivial) fun _ _=>et trivial
 refine zjw (qh0 fu) (wo fu) _ _ (fun s b hs => ?_) (fun _ _ _ _ _=>rfl) fu s false oA hs
 unfold wo;exact ym (fun _=>et trivial) fun _=>gu (zse fu hfu s hs) fun _ _=>vo (fun _=>et trivial) fun _=>et trivial
def zf6(fu:Nat)(hfu:90000000<=fu)(s:Bs):Ok ej (ra fu s):=by
 unfold ra;refine yn (fun h => ?_) fun _=>et trivial
 unfold qmb ub qam;simp only[qB];unfold qn1;rw[au (by rfl)]
 refine gu (P:=ej) (gu (P:=ej) ?_ fun x _=>qq6 (fun _ _=>et trivial) fun _ _=>et trivial) fun _ _=>et trivial
 refine zjw (qhz fu) (wn fu) _ _ (fun s b hs => ?_) (fun _ _ _ _ _=>rfl) fu s false oA oA
 unfold wn;exact ym (fun _=>et trivial) fun _=>gu (zsg fu hfu s hs) fun _ _=>vo (fun _=>et trivial) fun _=>et trivial
def At(s:Bs)(k:Nat)(m:Bs×Int):Prop:=∃j:Nat,m=(s,(j:Int))/\k<=j/\j<=s.length
def at_le{s:Bs}{k l:Nat}{m:Bs×Int}(h:At s k m)(q:l<=k):At s l m:=by obtain⟨j,e,a,b⟩:=h;exact⟨j,e,oA,b⟩
def zh3(sep:Bs)(m:Nat):∀r:List Bs,(∀x∈r,x.length<=m)->(Lib.joinTail sep r).length<=(m+sep.length)*r.length
 |[],_=>by simp[Lib.joinTail]|x::r,h=>by
  have h1:=h x qH;have h2:=zh3 sep m r (fun y hy=>h y (qE _ hy))
  have e:Lib.joinTail sep (x::r)=sep++x++Lib.joinTail sep r:=by simp[Lib.joinTail]
  rw[e,qM,qM,qL,Nat.mul_add];omega
def zh5(sep:Bs)(m:Nat)(r:List Bs)(h:∀x∈r,x.length<=m):(Lib.join r sep).length<=(m+sep.length)*r.length:=by
 cases r with
 |nil=>simp[Lib.join_nil]|cons x r=>
  have h1:=h x qH;have h2:=zh3 sep m r (fun y hy=>h y (qE _ hy))
  rw[Lib.join_cons,qM,qL,Nat.mul_add];omega
def qpv(fu:Nat)(hfu:90000000<=fu)(s:Bs):Ok ej (q9 s):=by
 unfold q9 ic;refine yn (fun _=>et trivial) fun h=>gu (q33 (P:=ej) oA (et trivial)) fun _ _=>vo (fun _=>et trivial) fun _=>et trivial
def zdy(fu:Nat)(hfu:90000000<=fu)(a:Bs×Bs×Bs):Ok ej (qck fu a):=by
 unfold qck;refine gu (qpv fu hfu _) fun x1 _=>ym (fun _=>⟨_,rfl,trivial⟩) fun _=>gu (zif fu hfu _) fun x3 _=>vo (fun _=>⟨_,rfl,trivial⟩) fun _=>gu (zf6 fu hfu _) fun x5 _=>vo (fun _=>⟨_,rfl,trivial⟩) fun _=>⟨_,rfl,trivial⟩
def zr8(fu:Nat)(hfu:90000000<=fu)(l:List (Bs×Bs×Bs))(hl:l.length<=80000000)(n:Nat):∀k:Nat,l.length-k<n->Ok ej (zu fu n l (l.length:Int) (k:Int)):=by
 induction n with
 |zero=>intro k h;omega|succ n ih=>
  intro k h;rw[zu,ql9];refine yn (fun h0=>gu (q32 (k:=k) oA) fun y _=>gu (zdy fu hfu y) fun x2 _=>gu (P:=ej) ⟨_,rfl,trivial⟩ fun x3 _=>ym (fun _=>et trivial) fun _ => ?_) fun _=>et trivial
  rw[f8 k]
  exact ih (k+1) oA
def zd1(fu:Nat)(hfu:90000000<=fu)(x:Bs×Bool×(List (Bs×Bs×Bs)))(hx:x.2.2.length<=80000000:=by omega):Ok ej (qcl fu x):=by
 unfold qcl;have p:∀b,Ok ej (rf fu b x):=fun b=>by
  unfold rf qma;exact ym (fun _=>et trivial) fun _=>zr8 fu hfu _ hx fu 0 oA
 exact gu (qpv fu hfu _) fun x1 _=>ym (fun _=>et trivial) fun _=>vo (fun _=>p _) fun _=>vo (fun _=>p _) fun _=>p _
def zuh(fu:Nat)(hfu:90000000<=fu)(l:List (Bs×Bool×(List (Bs×Bs×Bs))))(hl:l.length<=80000000)(hm:∀x∈l,x.2.2.length<=80000000)(z:Int×Int)(n:Nat):∀k:Nat,l.length-k<n->Ok ej (zo fu n l (l.length:Int) (k:Int) z):=by
 induction n with
 |zero=>intro k h;omega|succ n ih=>
  intro k h;rw[zo,ql6];refine yn (fun h0=>gu (zji (k:=k) oA hm) fun y hy=>gu (zd1 fu hfu y hy) fun x2 _=>ym (fun _=>⟨_,rfl,trivial⟩) fun _ => ?_) fun _=>⟨_,rfl,trivial⟩
  rw[f8 k]
  exact ih (k+1) oA
def zuf(fu:Nat)(hfu:90000000<=fu)(l:List (Bs×Bool×(List (Bs×Bs×Bs))))(hl:l.length<=80000000)(hm:∀x∈l,x.2.2.length<=80000000)(z:Int×Int)(n:Nat):∀(c:Int)(k:Nat),l.length-k<n->Ok ej (zn fu n l c l (l.length:Int) (k:Int) z):=by
 induction n with
 |zero=>intro c k h;omega|succ n ih=>
  intro c k h;rw[zn,ql5];have p:∀b,Ok ej (wj fu l b z):=fun b=>by
   unfold wj ql7;exact ym (fun _=>⟨_,rfl,trivial⟩) fun _=>zuh fu hfu l hl hm z fu 0 oA
  refine yn (fun h0=>gu (q32 (k:=k) oA) fun y _ => ?_) fun _=>yn (fun _=>p _) fun _=>p _
  rw[f8 k]
  exact ih _ (k+1) oA
def zuk(fu:Nat)(hfu:90000000<=fu)(l:List (Bs×Bool×(List (Bs×Bs×Bs))))(hl:l.length<=80000000)(hm:∀x∈l,x.2.2.length<=80000000):Ok ej (zm fu l):=zuf fu hfu l hl hm _ fu 0 0 oA
def rq(c:UInt8):Bool:=(th c).getD false
def q0o(c:UInt8):th c=some (rq c):=by
 obtain⟨v,e,_⟩:=zej c;unfold rq;rw[e];rfl
def cu(c:UInt8):Bool:=rq c||c==46
abbrev mp:Bs:=[58,59,44,64,60,62]
def sx(c:UInt8):Int:=(n7 mp c).getD 0
def zlf(c:UInt8):n7 mp c=some (sx c):=by
 obtain⟨v,e,_⟩:=z2o c;unfold sx;rw[e];rfl
def zfe:∀n:_root_.Fin 256,(mp.contains (UInt8.ofNat n.val)=true->cu (UInt8.ofNat n.val)=false/\0<=sx (UInt8.ofNat n.val)/\bl (UInt8.ofNat n.val)=false/\UInt8.ofNat n.val≠40/\UInt8.ofNat n.val≠34)/\(cu (UInt8.ofNat n.val)=true->sx (UInt8.ofNat n.val)<0/\bl (UInt8.ofNat n.val)=false/\UInt8.ofNat n.val≠40/\UInt8.ofNat n.val≠34):=by decide +kernel
def zff{c:UInt8}(h:c∈mp):cu c=false/\0<=sx c/\bl c=false/\c≠40/\c≠34:=
 (kj (fun c=>(mp.contains c=true->cu c=false/\0<=sx c/\bl c=false/\c≠40/\c≠34)/\(cu c=true->sx c<0/\bl c=false/\c≠40/\c≠34)) zfe c).1 (by simpa using h)
def zud{c:UInt8}(h:cu c=true):sx c<0/\bl c=false/\c≠40/\c≠34:=
 (kj (fun c=>(mp.contains c=true->cu c=false/\0<=sx c/\bl c=false/\c≠40/\c≠34)/\(cu c=true->sx c<0/\bl c=false/\c≠40/\c≠34)) zfe c).2 h
def z4o:cu 34=false:=by decide +kernel
def zmv:cu 32=false:=by decide +kernel
def Sx(s:Bs)(k:Nat)(r:Bs):Prop:=s.drop k=r/\k<=s.length
def o9{s r:Bs}{k:Nat}(h:Sx s k r):k+r.length=s.length:=by
 have:=congrArg List.length h.1;rw[List.length_drop]at this;have:=h.2;omega
def gx{s a r:Bs}{k:Nat}(h:Sx s k (a++r)):Sx s (k+a.length) r:=by
 have hl:=o9 h;rw[qM]at hl;refine⟨?_,oA⟩
 rw[← List.drop_drop,h.1,List.drop_left]
def qks{s r:Bs}{c:UInt8}{k:Nat}(h:Sx s k (c::r)):Sx s (k+1) r:=gx (a:=[c]) h
def qq{s r:Bs}{c:UInt8}{k:Nat}(h:Sx s k (c::r)):am s (k:Int)=some c:=by
 have hl:=o9 h;rw[qL]at hl;rw[sf s k]
 have:=congrArg List.head? h.1;rw[List.head?_drop,List.head?_cons,List.getElem?_eq_getElem oA]at this
 exact this
def iw{s r:Bs}{c:UInt8}{k:Nat}(h:Sx s k (c::r)):k<s.length:=by
 have hl:=o9 h;rw[qL]at hl;omega
def z3m{s a r:Bs}{k:Nat}(h:Sx s k (a++r)):List.take (((k+a.length:Nat):Int).toNat-(k:Int).toNat) (List.drop (k:Int).toNat s)=a:=by
 rw[show((k:Nat):Int).toNat=k by omega,h.1,show((k+a.length:Nat):Int).toNat-k=a.length by omega,List.take_left]
def stp(r:Bs):Prop:=∀c t,r=c::t->bl c=false/\c≠40
def zlk(fu:Nat)(s:Bs)(hs:s.length<=4000)(n:Nat){k:Nat}{r:Bs}(h:Sx s k r)(hr:stp r):wt fu (n+1) (s,(k:Int))=some (.inr (s,(k:Int))):=by
 rw[wt,qmg];have hl:=o9 h
 cases r with
 |nil=>rw[ax (by simp only[];simp at hl;omega)]|cons c t=>
  obtain⟨h1,h2⟩:=hr c t rfl;rw[ah (by simp only[];have:=iw h;omega)]
  dsimp only;rw[qq h,qB,qa3,qB,h1,au rfl,au (by simp[h2])]
def qrs(fu:Nat)(s:Bs)(hs:s.length<=4000){k:Nat}{b:Bool}{r:Bs}(hfu:90000000<=fu)(h:Sx s k ((if b then[32] else[])++r))(hr:stp r):qmf fu (s,(k:Int))=some (.inr (s,((k+(if b then 1 else 0):Nat):Int))):=by
 unfold qmf;obtain⟨n,hn⟩:∃n,fu=n+1+1:=⟨fu-2,oA⟩
 rw[show wt fu fu=wt fu (n+1+1) by rw[← hn]]
 cases b with
 |false=>exact zlk fu s hs (n+1) h hr|true=>
  have h:Sx s k (32::r):=h;rw[wt,qmg,ah (by simp only[];have:=iw h;omega)]
  dsimp only;rw[qq h,qB,qa3,qB,a8,f8 k (by have:=iw h;omega)]
  exact zlk fu s hs n (qks h) hr
def z4v(fu:Nat)(s:Bs)(hs:s.length<=4000)(k0:Nat)(n:Nat):∀(w0 w r:Bs),Sx s k0 (w0++(w++r))->w.length<n->(∀c∈w,cu c=true)->(∀c t,r=c::t->cu c=false)->w0++w≠[] ->
  z6 fu n (k0:Int) (s,((k0+w0.length:Nat):Int))=some (.inr (.inr (.inl (w0++w,(false,(s,((k0+(w0++w).length:Nat):Int))))))):=by
 induction n with
 |zero=>intro w0 w r _ h;omega|succ n ih=>
  intro w0 w r h hn hw hr h0;have hl:=o9 h;rw[z6,qtw]
  cases w with
  |nil=>
   rw[List.append_nil]at h0 ⊢;rw[List.nil_append]at h;have fin:wq fu (z6 fu n) (k0:Int) false (s,((k0+w0.length:Nat):Int))=some (.inr (.inr (.inl (w0,(false,(s,((k0+w0.length:Nat):Int))))))):=by
    unfold wq;have:1<=w0.length:=by cases w0 with|nil=>exact absurd rfl h0|cons _ _=>simp
    simp only[qM]at hl;rw[au rfl,au oD]
    dsimp only;rw[ah,z3m h]
   have h2:=gx h
   cases r with
   |nil=>rw[ax (by simp only[];simp at hl;omega)];exact fin|cons c t=>
    have hc:=hr c t rfl;unfold cu at hc;rw[Bool.or_eq_false_iff]at hc;rw[ah (by simp only[];have:=iw h2;omega)]
    dsimp only;rw[qq h2,qB,q0o,qB,hc.1,au rfl,qB,hc.2];exact fin
  |cons c w=>
   have hc:=hw c qH;have h2:Sx s (k0+w0.length) (c::(w++r)):=gx h;have step:wq fu (z6 fu n) (k0:Int) true (s,((k0+w0.length:Nat):Int))=some (.inr (.inr (.inl (w0++c::w,(false,(s,((k0+(w0++c::w).length:Nat):Int))))))):=by
    unfold wq qtx;rw[a8 rfl];dsimp only;rw[f8 _ (by have:=iw h2;omega)]
    have:=ih (w0++[c]) w r (by simpa using h) (by simp at hn;omega) (fun d hd=>hw d (qE _ hd)) hr oB
    simp only[qS,wM]at this;rw[show k0+(w0++[c]).length=k0+w0.length+1 by simp;omega]at this
    exact this
   rw[ah (by simp only[];have:=iw h2;omega)]
   dsimp only;rw[qq h2,qB,q0o,qB];cases ha:rq c
   ·rw[au rfl,qB];unfold cu at hc;rw[ha,Bool.false_or]at hc;rw[hc];exact step
   ·rw[a8 rfl];exact step
abbrev gq(w:Bs):Bs:=fc 92 34 [92,92] [92,34] w
def z0x(fu:Nat)(s:Bs)(hs:s.length<=4000)(n:Nat):∀(w r:Bs)(k:Nat)(out:Bs),Sx s k (gq w++34::r)->w.length<n->out.length+w.length<=100000 ->
  qcs fu n (s,(k:Int)) out=some (.inr (out++w,(s,((k+(gq w).length+1:Nat):Int)))):=by
 induction n with
 |zero=>intro w r k out _ h;omega|succ n ih=>
  intro w r k out h hn ho;have hl:=o9 h;rw[qcs,qtz]
  cases w with
  |nil=>
   have h:Sx s k (34::r):=h;rw[ax (by simp only[];have:=iw h;omega)]
   unfold qgo;dsimp only;rw[qq h,qB,a8,f8 k (by have:=iw h;omega),List.append_nil]
   rfl
  |cons c w=>
   simp only[qL]at hn ho;have e:gq (c::w)=mf 92 34 [92,92] [92,34] c++gq w:=rfl;rw[e,qS]at h;have step:∀j:Nat,Sx s j (gq w++34::r)->qcs fu n (s,(j:Int)) (out++[c])=some (.inr (out++c::w,(s,((j+(gq w).length+1:Nat):Int)))):=fun j hj=>by
    have:=ih w r j (out++[c]) hj oA oD
    rwa [qS,wM]at this
   rw[e,qM];by_cases hc:c=92\/c=34
   ·have e2:mf 92 34 [92,92] [92,34] c=[92,c]:=by
     unfold mf;rcases hc with rfl|rfl<;>rfl
    rw[e2]at h ⊢;have h1:Sx s k (92::(c::(gq w++34::r))):=h;have h2:=qks h1;have h3:=qks h2;rw[ax (by simp only[];have:=iw h1;omega)]
    unfold qgo qt0;dsimp only;rw[qq h1,qB,au (by rfl),a8,f8 k (by have:=iw h1;omega),ax (by have:=iw h2;omega),qq h2,qB,ah (sv _ _),f8 (k+1) (by have:=iw h2;omega),step _ h3]
    simp only[qL,qZ];rw[show k+1+1+(gq w).length+1=k+(0+1+1+(gq w).length)+1 by omega]
   ·rw[not_or]at hc;have e2:mf 92 34 [92,92] [92,34] c=[c]:=by
     unfold mf;rw[qW hc.1,qW hc.2]
    rw[e2]at h ⊢;have h1:Sx s k (c::(gq w++34::r)):=h;rw[ax (by simp only[];have:=iw h1;omega)]
    unfold qgo;dsimp only;rw[qq h1,qB,au (by simp[hc.2]),au (by simp[hc.1]),ah (sv _ _),f8 k (by have:=iw h1;omega),step _ (qks h1)]
    simp only[qL,qZ];rw[show k+1+(gq w).length+1=k+(0+1+(gq w).length)+1 by omega]
inductive iz where
 |sg (c:UInt8)
 |wd (w:Bs) (q:Bool)
def cz:iz->Bs|.sg c=>[c]|.wd w false=>w|.wd w true=>34::(gq w++[34])
def zza:iz->Prop|.sg c=>c∈mp|.wd w false=>w≠[]/\∀c∈w,cu c=true|.wd _ true=>True
abbrev BT:=Bool×iz
def cn(x:BT):Bs:=(if x.1 then[32] else[])++cz x.2
def ao(T:List BT):Bs:=T.flatMap cn
def jz:ao []=[]:=rfl
def dz(x:BT)(T:List BT):ao (x::T)=cn x++ao T:=by simp[ao]
def gh(S T:List BT):ao (S++T)=ao S++ao T:=by simp[ao]
def nw:List BT->Prop|[]=>True|(true,_)::_=>True|(false,.sg _)::_=>True|(false,.wd _ true)::_=>True|(false,.wd _ false)::_=>False
def dc:List BT->Prop|[]=>True|(_,t)::T=>zza t/\(∀w,t = .wd w false->nw T)/\dc T
def zy7:∀{T:List BT},nw T->dc T->∀c t,ao T=c::t->cu c=false
 |[],_,_,c,t,h=>by cases h
 |(true,x)::T,_,_,c,t,h=>by
  rw[dz]at h;have:c=32:=by simp only[cn,if_true,wK]at h;injection h with h _;exact h.symm
  rw[this];exact zmv
 |(false,.sg d)::T,_,ho,c,t,h=>by
  rw[dz]at h;have:c=d:=by simp only[cn,cz,wJ,if_false,List.nil_append,wK]at h;injection h with h _;exact h.symm
  rw[this];exact(zff ho.1).1
 |(false,.wd w true)::T,_,ho,c,t,h=>by
  rw[dz]at h;have:c=34:=by simp only[cn,cz,wJ,if_false,List.nil_append,wK]at h;injection h with h _;exact h.symm
  rw[this];exact z4o
 |(false,.wd w false)::T,hn,_,_,_,_=>absurd hn id
def sr(t:iz)(m:Bs×Int):(Bs×Bool×(Bs×Int)) ⊕ (UInt8×(Bs×Int)):=match t with|.sg c => .inr (c,m)|.wd w q => .inl (w,(q,m))
def ze0(b:Bool)(t:iz):(cn (b,t)).length=(if b then 1 else 0)+(cz t).length:=by
 cases b<;>simp[cn]<;>omega
def qkc(fu:Nat)(hfu:90000000<=fu)(s:Bs)(hs:s.length<=4000){k:Nat}(h:Sx s k (ao [])):tp fu (s,(k:Int))=some (.inr (.inl (s,(k:Int)))):=by
 unfold tp;have hl:=o9 h;rw[qrs fu s hs (b:=false) (r:=[]) hfu h (fun c t q=>by cases q),qB]
 simp only[ap];rw[ah (by simp[jz]at hl ⊢;omega)]
 rfl
def yl(fu:Nat)(hfu:90000000<=fu)(s:Bs)(hs:s.length<=4000){k:Nat}{b:Bool}{t:iz}{T:List BT}(h:Sx s k (ao ((b,t)::T)))(ho:dc ((b,t)::T)):tp fu (s,(k:Int))=some (.inr (.inr (sr t (s,((k+(cn (b,t)).length:Nat):Int))))):=by
 rw[dz]at h;have h':Sx s k ((if b then[32] else[])++(cz t++ao T)):=by rw[← qS];exact h
 have hb:=ze0 b t;have ex:(if b=true then([32]:Bs) else[]).length=(if b then 1 else 0):=by cases b<;>rfl
 have h2:Sx s (k+(if b then 1 else 0)) (cz t++ao T):=by
  have:=gx h';rwa [ex]at this
 have hl:=o9 h2;unfold tp
 cases t with
 |sg c=>
  have hc:=zff ho.1;have h2:Sx s (k+(if b then 1 else 0)) (c::ao T):=h2
  rw[qrs fu s hs (b:=b) (r:=c::ao T) hfu h' (fun d t q=>by cases q;exact⟨hc.2.2.1,hc.2.2.2.1⟩),qB]
  simp only[ap];rw[ax (by have:=iw h2;omega),qq h2,qB,au (by simp[hc.2.2.2.2]),zlf,qB,ah hc.2.1,f8 _ (by have:=iw h2;omega),hb]
  rfl
 |wd w q=>
  cases q with
  |false=>
   obtain⟨⟨w0,hw⟩,hnw,hoT⟩:=ho;have hnx:=zy7 (hnw w rfl) hoT;obtain⟨c,w,rfl⟩:∃c v,w=c::v:=by
    cases w with|nil=>exact absurd rfl w0|cons c v=>exact⟨c,v,rfl⟩
   have hc:=zud (hw c qH);have h3:Sx s (k+(if b then 1 else 0)) (c::(w++ao T)):=h2
   rw[qrs fu s hs (b:=b) (r:=c::(w++ao T)) hfu h' (fun d t q=>by cases q;exact⟨hc.2.1,hc.2.2.1⟩),qB]
   simp only[ap];rw[ax (by have:=iw h3;omega),qq h3,qB,au (by simp[hc.2.2.2]),zlf,qB,ax]
   have:=z4v fu s hs (k+(if b then 1 else 0)) fu [] (c::w) (ao T) h2 (by simp only[cz,qM]at hl;omega) hw hnx oB
   rw[qZ,Nat.add_zero,List.nil_append]at this;rw[this,hb];simp only[sr,cz,Nat.add_assoc]
  |true=>
   have h3:Sx s (k+(if b then 1 else 0)) (34::(gq w++34::ao T)):=by
    have:cz (.wd w true)++ao T=34::(gq w++34::ao T):=by simp[cz]
    rwa [this]at h2
   rw[qrs fu s hs (b:=b) (r:=cz (.wd w true)++ao T) hfu h' (fun d t q=>by
    have:cz (.wd w true)++ao T=34::(gq w++34::ao T):=by simp[cz]
    rw[this]at q;cases q;exact⟨by rfl,oE⟩),qB]
   simp only[ap];rw[ax (by have:=iw h3;omega),qq h3,qB,a8]
   unfold qty;dsimp only;rw[f8 _ (by have:=iw h3;omega)]
   have hel:w.length<=(gq w).length:=by rw[show(gq w).length=w.length+im 92 34 w from qjd oE 92 92 92 34 w];omega
   have hl3:=o9 h3;simp only[qL,qM]at hl3;rw[z0x fu s hs fu w (ao T) _ [] (qks h3) oA oD,qB,hb]
   simp only[sr,cz,List.nil_append,qL,qM,qZ];rw[show k+(if b then 1 else 0)+1+(gq w).length+1=k+((if b then 1 else 0)+((gq w).length+(0+1)+1)) by omega]
def Wds(W:List BT):Prop:=∀x∈W,∃w q,x.2 = .wd w q
def ik:List BT->List (Bs×Bool)|[]=>[]|(_,.wd w q)::W=>(w,q)::ik W|(_,.sg _)::W=>ik W
def sgf:List BT->Prop|[]=>True|(_,.sg _)::_=>True|(_,.wd _ _)::_=>False
def oz{x:BT}{T:List BT}(h:dc (x::T)):dc T:=by
 obtain⟨b,t⟩:=x;exact h.2.2
def sq:∀{S T:List BT},dc (S++T)->dc T|[],_,h=>h|_::S,_,h=>sq (S:=S) (oz h)
def z4w(fu:Nat)(hfu:90000000<=fu)(s:Bs)(hs:s.length<=4000)(n:Nat):∀(W T:List BT)(k:Nat)(l:List (Bs×Bool)),Sx s k (ao (W++T))->dc (W++T)->Wds W->sgf T->W.length<n->l.length+W.length<=100000 ->
  qgq fu n (s,(k:Int)) l=some (.inr ((s,((k+(ao W).length:Nat):Int)),l++ik W)):=by
 induction n with
 |zero=>intro W T k l _ _ _ _ h;omega|succ n ih=>
  intro W T k l h ho hw hT hn hl;rw[qgq,qt1];unfold nu;dsimp only
  cases W with
  |nil=>
   rw[List.nil_append]at h ho
   cases T with
   |nil=>
    rw[qkc fu hfu s hs h];simp[ap,ik,jz]
   |cons x T=>
    obtain⟨b,t⟩:=x
    cases t with
    |wd w q=>exact absurd hT id|sg c=>
     rw[yl fu hfu s hs h ho];simp[ap,ik,jz,sr]
  |cons x W=>
   obtain⟨b,t⟩:=x;obtain⟨w,q,e⟩:=hw _ qH;simp only[]at e;subst e;have h1:Sx s k (ao ((b,.wd w q)::(W++T))):=h;have ho1:dc ((b,.wd w q)::(W++T)):=ho;rw[yl fu hfu s hs h1 ho1];simp only[qB,ap,sr];rw[yl fu hfu s hs h1 ho1];simp only[qB,ap,sr,qL]at hn hl ⊢;rw[ah (sv _ _)]
   have h2:Sx s (k+(cn (b,.wd w q)).length) (ao (W++T)):=by rw[dz]at h1;exact gx h1
   rw[ih W T _ (l++[(w,q)]) h2 (oz ho1) (fun y hy=>hw y (qE _ hy)) hT oA oD,dz,qM,qS,Nat.add_assoc]
   rfl
def qsb(fu:Nat)(hfu:90000000<=fu)(s:Bs)(hs:s.length<=4000){W T:List BT}{k:Nat}(h:Sx s k (ao (W++T)))(ho:dc (W++T))(hw:Wds W)(hT:sgf T)(hl:W.length<=4000:=by omega) :
  qcu fu (s,(k:Int))=some (.inr ((s,((k+(ao W).length:Nat):Int)),ik W)):=z4w fu hfu s hs fu W T k [] h ho hw hT oA oD
def qek(fu:Nat)(hfu:90000000<=fu)(s:Bs)(hs:s.length<=4000){c:UInt8}{T:List BT}{k:Nat}(h:Sx s k (ao T))(ho:dc T)(hn:∀b d T',T=(b,.sg d)::T'->d≠c):pb fu c (s,(k:Int))=some (.inr (false,(s,(k:Int)))):=by
 unfold pb nu
 cases T with
 |nil=>rw[qkc fu hfu s hs h];rfl|cons x T=>
  obtain⟨b,t⟩:=x;rw[yl fu hfu s hs h ho]
  cases t with
  |wd w q=>rfl|sg d=>
   simp only[qB,ap,sr];rw[a8 (by simp[hn b d T rfl])]
def x8(fu:Nat)(hfu:90000000<=fu)(s:Bs)(hs:s.length<=4000){c:UInt8}{b:Bool}{T:List BT}{k:Nat}(h:Sx s k (ao ((b,.sg c)::T)))(ho:dc ((b,.sg c)::T)) :
  pb fu c (s,(k:Int))=some (.inr (true,(s,((k+(cn (b,.sg c)).length:Nat):Int)))):=by
 unfold pb nu;rw[yl fu hfu s hs h ho];simp only[qB,ap,sr];rw[au oB,yl fu hfu s hs h ho]
 rfl
def q3q(fu:Nat)(hfu:90000000<=fu)(s:Bs)(hs:s.length<=4000){c:UInt8}{b:Bool}{T:List BT}{k:Nat}(h:Sx s k (ao ((b,.sg c)::T)))(ho:dc ((b,.sg c)::T)) :
  qcr fu c (s,(k:Int))=some (.inr (s,((k+(cn (b,.sg c)).length:Nat):Int))):=by
 unfold qcr;rw[x8 fu hfu s hs h ho];rfl
def LoT(fu:Nat)(lo:Bs)(q:Bool):Prop:=ti fu lo=some true/\(q=false->wm fu lo=some true)
def z2x(fu:Nat)(lo:Bs)(q:Bool)(hl:LoT fu lo q)(m:Bs×Int):qct fu m [(lo,q)]=qmh fu m [(lo,q)] ([],([],[])):=by
 unfold qct;rw[au (by rfl),ah ⟨oE,oB⟩,show([(lo,q)]:List (Bs×Bool))[(0:Int).toNat]? = some (lo,q) from rfl,qB,hl.1,qB,au (by rfl),ah ⟨oE,oB⟩,qB]
 cases q with
 |true=>rw[au (by rfl)];rfl|false=>
  rw[a8,ah ⟨oE,oB⟩,qB,hl.2 rfl,qB]
  rfl
def zlp(fu:Nat)(hfu:90000000<=fu)(s:Bs)(hs:s.length<=4000){lo dm:Bs}{q b1 b2:Bool}{T:List BT}{k:Nat}(hl:LoT fu lo q)(hd:ra fu dm=some true)(h:Sx s k (ao ((b1,.sg 64)::(b2,.wd dm false)::T)))(ho:dc ((b1,.sg 64)::(b2,.wd dm false)::T)) :
  qct fu (s,(k:Int)) [(lo,q)]=some (.inr (([],(lo,dm)),((s,((k+((cn (b1,.sg 64)).length+(cn (b2,.wd dm false)).length):Nat):Int)),[(lo,q)]))):=by
 rw[z2x fu lo q hl];unfold qmh;rw[q3q fu hfu s hs h ho];simp only[qB,ap];have h2:Sx s (k+(cn (b1,.sg 64)).length) (ao ((b2,.wd dm false)::T)):=by rw[dz]at h;exact gx h
 rw[yl fu hfu s hs h2 (oz ho)];simp only[qB,ap,sr];rw[au rfl,hd,qB,au (by rfl),ah ⟨oE,oB⟩,Nat.add_assoc]
 rfl
abbrev jh(b:Bool)(lo dm:Bs)(q:Bool):List BT:=[(b,.wd lo q),(false,.sg 64),(false,.wd dm false)]
def zi(fu:Nat)(a:Bs×Bs×Bs)(T:List BT):Prop:=∃q,LoT fu a.2.1 q/\ra fu a.2.2=some true /\
 ((a.1=[]/\T=jh false a.2.1 a.2.2 q)\/(a.1≠[]/\∃W,Wds W/\W≠[]/\tj fu (ik W)=some a.1/\T=W++(true,.sg 60)::(jh false a.2.1 a.2.2 q++[(false,.sg 62)])))
def bz:List BT->List BT|[]=>[]|(_,t)::T=>(true,t)::T
def zr3(fu:Nat)(hfu:90000000<=fu)(s:Bs)(hs:s.length<=4000){a:Bs×Bs×Bs}{T:List BT}(h:zi fu a T)(bk:Bool):∃W V,(if bk then bz T else T)=W++V/\Wds W/\W≠[]/\sgf V/\V≠[]/\(∀d b T',V=(b,.sg d)::T'->d=64\/d=60) /\
  ∀(R:List BT)(k:Nat),Sx s k (ao (V++R))->dc (V++R)->zz fu (s,(k:Int)) (ik W)=some (.inr (a,((s,((k+(ao V).length:Nat):Int)),ik W))):=by
 obtain⟨q,hl,hd,h⟩:=h;obtain⟨nm,lo,dm⟩:=a;simp only[]at hl hd h;rcases h with⟨rfl,rfl⟩|⟨h0,W,hW,W0,hn,rfl⟩
 ·refine⟨[(bk,.wd lo q)],[(false,.sg 64),(false,.wd dm false)],by cases bk<;>rfl,?_,oB,trivial,oB,?_,?_⟩
  ·intro x hx;rw[List.mem_singleton]at hx;subst hx;exact⟨lo,q,rfl⟩
  ·intro d b T' e;simp only[List.cons.injEq,qP,iz.sg.injEq]at e;exact .inl e.1.2.symm
  ·intro R k hx ho;unfold zz;have hx:Sx s k (ao ((false,.sg 64)::(false,.wd dm false)::R)):=hx;have ho:dc ((false,.sg 64)::(false,.wd dm false)::R):=ho;rw[qek fu hfu s hs hx ho (fun b d T' e=>by simp only[List.cons.injEq,qP,iz.sg.injEq]at e;rw[← e.1.2];decide)]
   simp only[qB,ap];have:=zlp fu hfu s hs hl hd hx ho;rw[a8,show ik [(bk,.wd lo q)]=[(lo,q)] from rfl,this]
   simp[ap,dz,jz]
 ·have hbk:(if bk then bz (W++(true,.sg 60)::(jh false lo dm q++[(false,.sg 62)])) else W++(true,.sg 60)::(jh false lo dm q++[(false,.sg 62)]))=(if bk then bz W else W)++(true,.sg 60)::(jh false lo dm q++[(false,.sg 62)]):=by
   cases bk with
   |false=>rfl|true=>cases W with|nil=>exact absurd rfl W0|cons x W=>rfl
  have hwo:ik (if bk then bz W else W)=ik W:=by
   cases bk with
   |false=>rfl|true=>match W with|[]=>rfl|(b,.wd w q)::W=>rfl|(b,.sg c)::W=>rfl
  refine⟨if bk then bz W else W,(true,.sg 60)::(jh false lo dm q++[(false,.sg 62)]),hbk,?_,?_,trivial,oB,?_,?_⟩
  ·cases bk with
   |false=>exact hW|true=>match W,hW with
    |[],_=>intro x hx;cases hx
    |(b,t)::W,hW=>
     intro x hx;rcases List.mem_cons.1 hx with rfl|hx
     ·exact hW (b,t) qH
     ·exact hW x (qE _ hx)
  ·cases bk with
   |false=>exact W0|true=>cases W with|nil=>exact absurd rfl W0|cons x W=>exact List.cons_ne_nil _ _
  ·intro d b T' e;simp only[List.cons.injEq,qP,iz.sg.injEq]at e;exact .inr e.1.2.symm
  ·intro R k hx ho;rw[hwo];unfold zz;have hx:Sx s k (ao ((true,.sg 60)::(jh false lo dm q++(false,.sg 62)::R))):=by simpa using hx
   have ho:dc ((true,.sg 60)::(jh false lo dm q++(false,.sg 62)::R)):=by simpa using ho
   rw[x8 fu hfu s hs hx ho];simp only[qB,ap];rw[au (by rfl)]
   have h1:Sx s (k+(cn (true,.sg 60)).length) (ao ([(false,.wd lo q)]++((false,.sg 64)::(false,.wd dm false)::(false,.sg 62)::R))):=by rw[dz]at hx;exact gx hx
   have o1:dc ([(false,.wd lo q)]++((false,.sg 64)::(false,.wd dm false)::(false,.sg 62)::R)):=oz ho;rw[qsb fu hfu s hs h1 o1 (fun x hx=>by rw[List.mem_singleton]at hx;subst hx;exact⟨lo,q,rfl⟩) trivial oB]
   simp only[qB,ap];have h2:Sx s (k+(cn (true,.sg 60)).length+(ao [(false,.wd lo q)]).length) (ao ((false,.sg 64)::(false,.wd dm false)::(false,.sg 62)::R)):=by rw[gh]at h1;exact gx h1
   have o2:dc ((false,.sg 64)::(false,.wd dm false)::(false,.sg 62)::R):=sq o1;have e2:=zlp fu hfu s hs hl hd h2 o2;rw[show ik [(false,.wd lo q)]=[(lo,q)] from rfl,e2]
   simp only[qB,ap];rw[hn,qB];have h3:Sx s (k+(cn (true,.sg 60)).length+(ao [(false,.wd lo q)]).length+((cn (false,.sg 64)).length+(cn (false,.wd dm false)).length)) (ao ((false,.sg 62)::R)):=by
    have e:ao ((false,.sg 64)::(false,.wd dm false)::(false,.sg 62)::R)=(cn (false,.sg 64)++cn (false,.wd dm false))++ao ((false,.sg 62)::R):=by simp only[dz,qS]
    rw[e]at h2;have:=gx h2
    rwa [qM]at this
   rw[q3q fu hfu s hs h3 (oz (oz o2))];simp only[qB,ap,dz,gh,jz,qM,qZ];congr 6;omega
def qex:∀{T:List BT},dc T->T.length<=(ao T).length
 |[],_=>by simp|(b,t)::T,h=>by
  have ih:=qex h.2.2;have h1:1<=(cz t).length:=by
   match t,h.1 with
   |.sg c,_=>simp[cz]|.wd w true,_=>simp[cz]|.wd w false,h=>
    have h0:w≠[]:=h.1
    cases w with|nil=>exact absurd rfl h0|cons c v=>simp[cz]
  rw[dz,qM,ze0,qL];omega
def qix{T S:List BT}(h:T≠[]):bz (T++S)=bz T++S:=by
 cases T with|nil=>exact absurd rfl h|cons x T=>rfl
def z2n{V R:List BT}(h:sgf V)(h0:V≠[]):sgf (V++R):=by
 match V,h with|[],_=>exact absurd rfl h0|(b,.sg c)::V,_=>exact trivial
inductive MsT(fu:Nat):List (Bs×Bs×Bs)->List BT->Prop where
 |one {a T}:zi fu a T->MsT fu [a] T
 |cons {a T ms T'}:zi fu a T->MsT fu ms T'->MsT fu (a::ms) (T++(false,.sg 44)::bz T')
def GnT(fu:Nat)(g:Bs)(W:List BT):Prop:=Wds W/\W≠[]/\tj fu (ik W)=some g/\g≠[]
inductive xa(fu:Nat):(Bs×Bool×(List (Bs×Bs×Bs)))->List BT->Prop where
 |single {a T}:zi fu a T->xa fu ([],(false,[a])) T
 |grp0 {g W}:GnT fu g W->xa fu (g,(true,[])) (W++[(false,.sg 58),(false,.sg 59)])
 |grp {g W ms T}:GnT fu g W->MsT fu ms T->xa fu (g,(true,ms)) (W++(false,.sg 58)::(bz T++[(false,.sg 59)]))
inductive LsT(fu:Nat):List (Bs×Bool×(List (Bs×Bs×Bs)))->List BT->Prop where
 |one {x T}:xa fu x T->LsT fu [x] T
 |cons {x T l T'}:xa fu x T->LsT fu l T'->LsT fu (x::l) (T++(false,.sg 44)::bz T')
def qdw{fu:Nat}{a:Bs×Bs×Bs}{T:List BT}(h:zi fu a T):∃b w q T',T=(b,.wd w q)::T':=by
 obtain⟨q,_,_,h⟩:=h;rcases h with⟨_,rfl⟩|⟨_,W,hW,W0,_,rfl⟩
 ·exact⟨_,_,_,_,rfl⟩
 ·match W,hW with
  |[],_=>exact absurd rfl W0|(b,t)::W,hW=>
   obtain⟨w,q,e⟩:=hW _ qH;simp only[]at e;subst e;exact⟨b,w,q,_,rfl⟩
def q2n{fu:Nat}{g:Bs}{W:List BT}(h:GnT fu g W):∃b w q T',W=(b,.wd w q)::T':=by
 obtain⟨hW,W0,_,_⟩:=h
 match W,hW with
 |[],_=>exact absurd rfl W0|(b,t)::W,hW=>
  obtain⟨w,q,e⟩:=hW _ qH;simp only[]at e;subst e;exact⟨b,w,q,_,rfl⟩
def q2y{fu:Nat}{x:Bs×Bool×(List (Bs×Bs×Bs))}{T:List BT}(h:xa fu x T):∃b w q T',T=(b,.wd w q)::T':=by
 cases h with
 |single h=>exact qdw h|grp0 h=>obtain⟨b,w,q,T',rfl⟩:=q2n h;exact⟨b,w,q,_,rfl⟩
 |grp h _=>obtain⟨b,w,q,T',rfl⟩:=q2n h;exact⟨b,w,q,_,rfl⟩
def zye{fu:Nat}{l:List (Bs×Bool×(List (Bs×Bs×Bs)))}{T:List BT}(h:LsT fu l T):∃b w q T',T=(b,.wd w q)::T':=by
 cases h with|one h=>exact q2y h|cons h _=>obtain⟨b,w,q,T',rfl⟩:=q2y h;exact⟨b,w,q,_,rfl⟩
def zg7{fu:Nat}{g:Bs}{W:List BT}(h:GnT fu g W)(bk:Bool):GnT fu g (if bk then bz W else W):=by
 cases bk with
 |false=>exact h|true=>
  obtain⟨b,w,q,T',rfl⟩:=q2n h;obtain⟨h1,_,h3,h4⟩:=h;refine⟨fun x hx => ?_,List.cons_ne_nil _ _,h3,h4⟩
  rcases List.mem_cons.1 hx with rfl|hx
  ·exact⟨w,q,rfl⟩
  ·exact h1 x (qE _ hx)
def q5t(fu:Nat)(hfu:90000000<=fu)(s:Bs)(hs:s.length<=4000){a:Bs×Bs×Bs}{T R:List BT}{k:Nat}(h:zi fu a T)(bk:Bool)(hx:Sx s k (ao ((if bk then bz T else T)++R)))(ho:dc ((if bk then bz T else T)++R)) :
  ∃(j:Nat)(ws:List (Bs×Bool))(V:List BT),qcu fu (s,(k:Int))=some (.inr ((s,(j:Int)),ws))/\Sx s j (ao (V++R))/\dc (V++R)/\(∀d b T',V++R=(b,.sg d)::T'->d=64\/d=60) /\
   zz fu (s,(j:Int)) ws=some (.inr (a,((s,((k+(ao (if bk then bz T else T)).length:Nat):Int)),ws))):=by
 obtain⟨W,V,e,hW,W0,hV,V0,hVd,hA⟩:=zr3 fu hfu s hs h bk;rw[e]at hx ho ⊢;rw[qS]at hx ho;have hl:=o9 hx;have hg:=qex ho;rw[qM]at hg;have h2:Sx s (k+(ao W).length) (ao (V++R)):=by rw[gh]at hx;exact gx hx
 refine⟨k+(ao W).length,ik W,V,qsb fu hfu s hs hx ho hW (z2n hV V0),h2,sq ho,fun d b T' q => ?_,?_⟩
 ·match V,V0,hVd with
  |x::V,_,hVd=>
   injection q with q _
   subst q;exact hVd d b V rfl
 ·rw[hA R _ h2 (sq ho),gh,qM,Nat.add_assoc]
def zxn(fu:Nat)(hfu:90000000<=fu)(s:Bs)(hs:s.length<=4000){ms:List (Bs×Bs×Bs)}{T:List BT}(h:MsT fu ms T):∀(n:Nat)(acc:List (Bs×Bs×Bs))(k:Nat)(R:List BT)(z1:Bs)(z2:Bool)(g:Bs),ms.length<n->acc.length+ms.length<=100000->Sx s k (ao (bz T++(false,.sg 59)::R))->dc (bz T++(false,.sg 59)::R) ->
  qcq fu n (s,(k:Int)) z1 z2 g acc=some (.inr ((g,(true,acc++ms)),(s,((k+(ao (bz T++[(false,.sg 59)])).length:Nat):Int)))):=by
 induction h with
 |@one a T h=>
  intro n acc k R z1 z2 g hn hl hx ho;obtain⟨n,rfl⟩:∃m,n=m+1:=⟨n-1,by simp at hn;omega⟩
  simp only[qL,qZ]at hl;rw[qcq,qmd];obtain⟨j,ws,V,e1,_,_,_,e2⟩:=q5t fu hfu s hs h true hx ho;have h3:Sx s (k+(ao (bz T)).length) (ao ((false,.sg 59)::R)):=by rw[gh]at hx;exact gx hx
  rw[e1];simp only[qB,ap];rw[e2];simp only[qB,ap,if_true];rw[ah (sv _ _),x8 fu hfu s hs h3 (sq ho)]
  simp only[qB,ap,qT];rw[gh,qM,dz,jz,List.append_nil,Nat.add_assoc]
 |@cons a T ms T' h hm ih=>
  intro n acc k R z1 z2 g hn hl hx ho;simp only[qL]at hn hl;obtain⟨n,rfl⟩:∃m,n=m+1:=⟨n-1,oA⟩
  rw[qcq,qmd];have hT:T≠[]:=by obtain⟨b,w,q,T',rfl⟩:=qdw h;simp
  rw[qix hT,qS,wK]at hx ho;obtain⟨j,ws,V,e1,_,_,_,e2⟩:=q5t fu hfu s hs h true hx ho;have h3:Sx s (k+(ao (bz T)).length) (ao ((false,.sg 44)::(bz T'++(false,.sg 59)::R))):=by rw[gh]at hx;exact gx hx
  have o3:=sq ho;rw[e1];simp only[qB,ap];rw[e2];simp only[qB,ap,if_true];rw[ah (sv _ _),qek fu hfu s hs h3 o3 (fun b d T' e=>by simp only[List.cons.injEq,qP,iz.sg.injEq]at e;rw[← e.1.2];decide)]
  simp only[qB,ap,qF];rw[q3q fu hfu s hs h3 o3];simp only[qB,ap];have h4:Sx s (k+(ao (bz T)).length+(cn (false,.sg 44)).length) (ao (bz T'++(false,.sg 59)::R)):=by rw[dz]at h3;exact gx h3
  rw[ih n (acc++[a]) _ R z1 z2 g oA oD h4 (oz o3),qix hT]
  simp only[qS,wM,wK,gh,dz,qM];congr 4;omega
def qqq(fu:Nat)(hfu:90000000<=fu)(s:Bs)(hs:s.length<=4000){x:Bs×Bool×(List (Bs×Bs×Bs))}{T R:List BT}{k:Nat}(h:xa fu x T)(bk:Bool)(hx:Sx s k (ao ((if bk then bz T else T)++R)))(ho:dc ((if bk then bz T else T)++R))(hm:x.2.2.length<=100000) :
  qcp fu (s,(k:Int))=some (.inr (x,(s,((k+(ao (if bk then bz T else T)).length:Nat):Int)))):=by
 unfold qcp
 cases h with
 |@single a T h=>
  obtain⟨j,ws,V,e1,h2,o2,hd,e2⟩:=q5t fu hfu s hs h bk hx ho;rw[e1];simp only[qB,ap];rw[qek fu hfu s hs h2 o2 (fun b d T' e=>by rcases hd d b T' e with rfl|rfl<;>decide)]
  simp only[qB,ap];rw[a8,e2]
  rfl
 |@grp0 g W h=>
  have hg:=zg7 h bk;have W0:W≠[]:=h.2.1;have e:(if bk then bz (W++[(false,.sg 58),(false,.sg 59)]) else W++[(false,.sg 58),(false,.sg 59)])=(if bk then bz W else W)++[(false,.sg 58),(false,.sg 59)]:=by
   cases bk with|false=>rfl|true=>exact qix W0
  rw[e]at hx ho ⊢;generalize (if bk then bz W else W)=W at hg hx ho ⊢
  rw[qS]at hx ho;have hx:Sx s k (ao (W++((false,.sg 58)::(false,.sg 59)::R))):=hx;have ho:dc (W++((false,.sg 58)::(false,.sg 59)::R)):=ho;have hl:=o9 hx;have hgl:=qex ho;rw[qM]at hgl;have h2:Sx s (k+(ao W).length) (ao ((false,.sg 58)::(false,.sg 59)::R)):=by rw[gh]at hx;exact gx hx
  have o2:=sq ho;have h3:Sx s (k+(ao W).length+(cn (false,.sg 58)).length) (ao ((false,.sg 59)::R)):=by rw[dz]at h2;exact gx h2
  rw[qsb fu hfu s hs hx ho hg.1 trivial]
  simp only[qB,ap];rw[x8 fu hfu s hs h2 o2];simp only[qB,ap];rw[au (by rfl),hg.2.2.1,qB,au (by simp[hg.2.2.2])]
  unfold qme;rw[x8 fu hfu s hs h3 (oz o2)];simp only[qB,ap,qT,gh,dz,jz,qM,qZ,Nat.add_zero,Nat.add_assoc]
 |@grp g W ms T h hms=>
  have hg:=zg7 h bk;have W0:W≠[]:=h.2.1;have e:(if bk then bz (W++(false,.sg 58)::(bz T++[(false,.sg 59)])) else W++(false,.sg 58)::(bz T++[(false,.sg 59)]))=(if bk then bz W else W)++(false,.sg 58)::(bz T++[(false,.sg 59)]):=by
   cases bk with|false=>rfl|true=>exact qix W0
  rw[e]at hx ho ⊢;generalize (if bk then bz W else W)=W at hg hx ho ⊢
  have hx:Sx s k (ao (W++((false,.sg 58)::(bz T++(false,.sg 59)::R)))):=by simpa using hx
  have ho:dc (W++((false,.sg 58)::(bz T++(false,.sg 59)::R))):=by simpa using ho
  have hl:=o9 hx;have hgl:=qex ho;rw[qM]at hgl;have h2:Sx s (k+(ao W).length) (ao ((false,.sg 58)::(bz T++(false,.sg 59)::R))):=by rw[gh]at hx;exact gx hx
  have o2:=sq ho;have h3:Sx s (k+(ao W).length+(cn (false,.sg 58)).length) (ao (bz T++(false,.sg 59)::R)):=by rw[dz]at h2;exact gx h2
  have o3:=oz o2;rw[qsb fu hfu s hs hx ho hg.1 trivial]
  simp only[qB,ap];rw[x8 fu hfu s hs h2 o2];simp only[qB,ap];rw[au (by rfl),hg.2.2.1,qB,au (by simp[hg.2.2.2])]
  unfold qme;have hno:∀b d T',bz T++(false,.sg 59)::R=(b,.sg d)::T'->d≠59:=fun b d T' q=>by
   have:∃b w q T2,T=(b,.wd w q)::T2:=by
    cases hms with|one h=>exact qdw h|cons h _=>obtain⟨b,w,q0,T',rfl⟩:=qdw h;exact⟨b,w,q0,_,rfl⟩
   obtain⟨b',w,q',T2,rfl⟩:=this;cases q
  rw[qek fu hfu s hs h3 o3 hno];simp only[qB,ap,qF];simp only[]at hm;rw[zxn fu hfu s hs hms fu [] _ R [] false g oA oD h3 o3]
  simp only[List.nil_append,gh,dz,jz,qM,qZ];congr 4;omega
def z0o(fu:Nat)(hfu:90000000<=fu)(s:Bs)(hs:s.length<=4000)(m3:Int×Int)(L:List (Bs×Bool×(List (Bs×Bs×Bs))))(hc:zm fu L=some (0,0))(hL:∀x∈L,x.2.2.length<=100000)(hLn:L.length<=100000){l:List (Bs×Bool×(List (Bs×Bs×Bs)))}{T:List BT}(h:LsT fu l T):∀(n:Nat)(acc:List (Bs×Bool×(List (Bs×Bs×Bs))))(k:Nat),acc++l=L->l.length<n ->
  Sx s k (ao ((false,.sg 44)::bz T))->dc ((false,.sg 44)::bz T)->mt fu n s m3 (s,(k:Int)) acc=some (.inr (L,(0,0))):=by
 have fin:∀(n k:Nat),Sx s k (ao [])->mt fu (n+1) s m3 (s,(k:Int)) L=some (.inr (L,(0,0))):=fun n k hx=>by
  rw[mt,qci,qek fu hfu s hs hx trivial (fun b d T' e=>by cases e)]
  simp only[qB,ap,qF];unfold nu;rw[qkc fu hfu s hs hx];simp only[qB,ap];unfold qcj;rw[hc];rfl
 induction h with
 |@one x T h=>
  intro n acc k e hn hx ho;obtain⟨n,rfl⟩:∃m,n=m+1+1:=⟨n-2,by simp at hn;omega⟩
  have hxm:x∈L:=by rw[← e];simp
  have hal:acc.length<=100000:=by have:=congrArg List.length e;rw[qM]at this;omega
  rw[mt,qci,x8 fu hfu s hs hx ho];simp only[qB,ap,qT];have h3:Sx s (k+(cn (false,.sg 44)).length) (ao (bz T++[])):=by rw[dz]at hx;rw[List.append_nil];exact gx hx
  rw[qqq fu hfu s hs h true h3 (by rw[List.append_nil];exact oz ho) (hL x hxm)]
  simp only[qB,ap,if_true];rw[ah (sv _ _),e]
  exact fin n _ (by rw[gh]at h3;exact gx h3)
 |@cons x T l T' h hl ih=>
  intro n acc k e hn hx ho;simp only[qL]at hn;obtain⟨n,rfl⟩:∃m,n=m+1:=⟨n-1,oA⟩
  have hxm:x∈L:=by rw[← e];simp
  have hal:acc.length<=100000:=by have:=congrArg List.length e;rw[qM]at this;omega
  have hT:T≠[]:=by obtain⟨b,w,q,T',rfl⟩:=q2y h;simp
  rw[qix hT]at hx ho;rw[mt,qci,x8 fu hfu s hs hx ho];simp only[qB,ap,qT];have h3:Sx s (k+(cn (false,.sg 44)).length) (ao (bz T++(false,.sg 44)::bz T')):=by rw[dz]at hx;exact gx hx
  rw[qqq fu hfu s hs h true h3 (oz ho) (hL x hxm)];simp only[qB,ap,if_true];rw[ah (sv _ _)]
  exact ih n (acc++[x]) _ (by rw[qS];exact e) oA (by rw[gh]at h3;exact gx h3) (sq (oz ho))
def zzy(fu:Nat)(hfu:90000000<=fu){l:List (Bs×Bool×(List (Bs×Bs×Bs)))}{T:List BT}(h:LsT fu l T)(hs:(ao T).length<=4000)(ho:dc T)(hc:zm fu l=some (0,0))(hL:∀x∈l,x.2.2.length<=100000)(hLn:l.length<=100000:=by omega) :
  zp fu (ao T)=some (l,(0,0)):=by
 unfold zp;rw[ax]
 unfold zq qgj zt nu;have hx0:Sx (ao T) 0 (ao T):=⟨rfl,oA⟩
 obtain⟨b,w,q,T0,e⟩:=zye h;have hx1:Sx (ao T) 0 (ao ((b,.wd w q)::T0)):=by rw[← e];exact hx0
 have ho1:dc ((b,.wd w q)::T0):=by rw[← e];exact ho
 have hn:=yl fu hfu (ao T) hs hx1 ho1;rw[show((0:Nat):Int)=0 from rfl]at hn
 rw[hn];simp only[qB,ap,sr]
 cases h with
 |@one x T h=>
  have hi:=qqq fu hfu (ao T) hs h false (R:=[]) (k:=0) (by simpa using hx0) (by simpa using ho) (hL x qH)
  rw[show((0:Nat):Int)=0 from rfl]at hi
  rw[hi];simp only[qB,ap,wJ,if_false,wO];rw[ah (by simp[aq])]
  obtain⟨n,hn⟩:∃n,fu=n+1:=⟨fu-1,oA⟩
  have hx2:Sx (ao T) (ao T).length (ao []):=⟨by simp[jz],wF _⟩
  have fin:mt fu (n+1) (ao T) (0,0) (ao T,((ao T).length:Int)) [x]=some (.inr ([x],(0,0))):=by
   rw[mt,qci,qek fu hfu (ao T) hs hx2 trivial (fun b d T' e=>by cases e)]
   simp only[qB,ap,qF];unfold nu;rw[qkc fu hfu (ao T) hs hx2];simp only[qB,ap];unfold qcj;rw[hc];rfl
  rw[show mt fu fu=mt fu (n+1) by rw[← hn],fin]
  rfl
 |@cons x T l T' h hl=>
  have hi:=qqq fu hfu (ao (T++(false,.sg 44)::bz T')) hs h false (R:=(false,.sg 44)::bz T') (k:=0) hx0 ho (hL x qH);rw[show((0:Nat):Int)=0 from rfl]at hi
  rw[hi];simp only[qB,ap,wJ,if_false,wO];rw[ah (by simp[aq])]
  have hx2:Sx (ao (T++(false,.sg 44)::bz T')) (ao T).length (ao ((false,.sg 44)::bz T')):=by
   have h2:=hx0;rw[show ao (T++(false,.sg 44)::bz T')=ao T++ao ((false,.sg 44)::bz T') from gh _ _]at h2 ⊢
   have:=gx h2
   rwa [wO]at this
  rw[z0o fu hfu _ hs (0,0) (x::l) hc hL hLn hl fu [x] _ rfl (by simp only[qL]at hLn;omega) hx2 (sq ho)]
  rfl
def zwm(fu n:Nat)(c:Int):∀ab aa:List (Int×Int×Int),aa.length<n->ab.length+aa.length<1000000->∃k b,qc5 fu n c (ab++aa) ((ab.length+aa.length:Nat):Int) (ab.length:Int)=some (k,b):=by
 induction n with
 |zero=>intro ab aa h;omega|succ n ih=>
  intro ab aa h hb;rw[qc5,qvl]
  cases aa with
  |nil=>rw[ax];exact⟨_,_,rfl⟩|cons y aa=>
   simp only[qL]at h hb;obtain⟨k,b,ih⟩:=ih (ab++[y]) aa oA oD
   simp only[qM,qL,qZ,qS,wM,wO]at ih;rw[ah oG,cq,qB,b9 _,show ab.length+(y::aa).length=ab.length+1+aa.length by simp only[qL];omega,ih,cm,cm]
   repeat' split
   all_goals exact⟨_,_,rfl⟩
def zun(fu:Nat)(hfu:100<=fu)(c:Int):∃k,qg7 fu c=some k:=by
 unfold qg7 qvk;have:=zwm fu fu c [] [((13:Int),(13:Int),(1:Int)),((10:Int),(10:Int),(2:Int)),((0:Int),(31:Int),(3:Int)),((127:Int),(159:Int),(3:Int)),((768:Int),(879:Int),(4:Int)),((6832:Int),(6911:Int),(4:Int)),((7616:Int),(7679:Int),(4:Int)),((8400:Int),(8447:Int),(4:Int)),((65024:Int),(65039:Int),(4:Int)),((65056:Int),(65071:Int),(4:Int)),((127995:Int),(127999:Int),(4:Int)),((8205:Int),(8205:Int),(5:Int)),((127462:Int),(127487:Int),(6:Int)),((4352:Int),(4447:Int),(7:Int)),((4448:Int),(4519:Int),(8:Int)),((4520:Int),(4607:Int),(9:Int))] oD oB
 obtain⟨k,b,e⟩:=this;refine⟨k,?_⟩;have e:qc5 fu fu c _ _ _=some (k,b):=e;exact(congrArg (fun x=>Option.bind x _) e).trans rfl
def zu8(s:Bs)(h:s≠[]):il s=some (((Lib.decodeL s).1:Int),((Lib.decodeL s).2:Int)):=by
 unfold il qa6;rw[qW h]
def zgo(fu:Nat)(hfu:100<=fu){c:Nat}(h:ku c)(t:Bs)(hl:t.length<=90000:=by omega):∃k b,qc4 fu (db c++t)=some (k,(b,((db c).length:Int))):=by
 have hle:=ol (c:=c);obtain⟨k,hk⟩:=zun fu hfu (c:Int);unfold qc4;rw[zu8 _ (by intro q;exact q10 (List.append_eq_nil_iff.1 q).1),qB,q1t h]
 dsimp only;rw[hk];simp only[qB];by_cases h1:((c:Int)==(65533:Int))=true
 ·rw[a8 h1];by_cases h2:(((db c).length:Int)==(1:Int))=true
  ·rw[a8 h2];exact⟨_,_,congrArg some (by rw[show((db c).length:Int)=1 by simpa using h2])⟩
  ·rw[au (by simpa using h2)];exact⟨_,_,rfl⟩
 ·rw[au (by simpa using h1)];exact⟨_,_,rfl⟩
def zgg{α:Type}{b:Bool}{A B:Option α}(hA:∃x,A=some x)(hB:∃x,B=some x):∃x,(bif b then A else B)=some x:=by
 cases b
 ·exact hB
 ·exact hA
def zg8(k:Int):∃x,qg8 k=some x:=by
 unfold qg8
 repeat' (first|exact⟨_,rfl⟩|apply zgg)
def zut(a b:Int×Bool×Int)(m:Int):∃x,qm2 a b m=some x:=by
 obtain⟨h1,e1⟩:=zg8 a.1;obtain⟨h2,e2⟩:=zg8 b.1;unfold qm2 qm3 qm4 qm5 qm6 qvj;rw[e1,e2];simp only[qB]
 repeat' (first|exact⟨_,rfl⟩|apply zgg)
def zlq(p:Bs)(L:List Bs)(h:L.length<=1000000):qg6 p L=some (L++[p]):=by
 unfold qg6;rw[ah (by simp only[aq,qM,wD];omega)]
def z0d(fu:Nat)(hfu:100<=fu)(r0:Bs->List Bs->Option (Bs×List Bs))(n:Nat):∀(P Q:List Nat)(m:Int)(a:Int×Bool×Int)(L:List Bs),kv (P++Q)->Q.length<n->(tx (P++Q)).length<=80000->L.length<=1000000 ->
  ∃P' Q',P++Q=P'++Q'/\P.length<=P'.length/\t7 fu r0 n ((tx P).length:Int) m (tx (P++Q)) a L=r0 (tx Q') (L++[tx P']):=by
 induction n with
 |zero=>intro P Q m a L _ h;omega|succ n ih=>
  intro P Q m a L hR hn hl hL;have ac:(tx (P++Q)).length=(tx P).length+(tx Q).length:=by rw[yz,qM]
  have hdrop:List.drop (((tx P).length:Nat):Int).toNat (tx (P++Q))=tx Q:=by
   rw[yz,show(((tx P).length:Nat):Int).toNat=(tx P).length by omega,List.drop_left]
  have htake:List.take (((tx P).length:Nat):Int).toNat (tx (P++Q))=tx P:=by
   rw[yz,show(((tx P).length:Nat):Int).toNat=(tx P).length by omega,List.take_left]
  rw[t7,qvp]
  cases Q with
  |nil=>
   refine⟨P,[],rfl,wF _,?_⟩;rw[ax,ah,htake,zlq _ _ hL,qB,ah,hdrop]
  |cons c Q=>
   have hc:ku c:=hR c oB
   have hce:=ol (c:=c);rw[kz,qM]at ac;obtain⟨k,b,hf⟩:=zgo fu hfu hc (tx Q)
   obtain⟨x,hx⟩:=zut a (k,(b,((db c).length:Int))) m;have step:∀m':Int,∃P' Q',P++c::Q=P'++Q'/\P.length<=P'.length/\qg9 fu r0 (t7 fu r0 n) ((tx P).length:Int) m' (tx (P++c::Q)) a (k,(b,((db c).length:Int))) L=r0 (tx Q') (L++[tx P']):=fun m'=>by
    have e:P++c::Q=(P++[c])++Q:=oB
    simp only[qL]at hn;obtain⟨P',Q',h1,h2,h3⟩:=ih (P++[c]) Q m' (k,(b,((db c).length:Int))) L (by rw[← e];exact hR) oA (by rw[← e];exact hl) hL
    refine⟨P',Q',by rw[e];exact h1,by simp only[qM,wD]at h2;omega,?_⟩
    unfold qg9;dsimp only;rw[qr8 _ _]
    have e2:(tx (P++[c])).length=(tx P).length+(db c).length:=by rw[yz,qM];simp[tx]
    rw[← e,e2]at h3;exact h3
   rw[ah (by rw[ac];omega),ah (by rw[ac];omega),hdrop,kz,hf,qB,hx,qB]
   cases x
   ·refine⟨P,c::Q,rfl,wF _,?_⟩;rw[pw,ah (by rw[ac];omega),htake,zlq _ _ hL,qB,ah (by rw[ac];omega),kz]
   ·rw[ee,jb];split
    ·exact step 0
    ·exact step _
def z0e(fu:Nat)(hfu:200000<=fu)(n:Nat):∀(R:List Nat)(L:List Bs),kv R->R.length<n->(tx R).length<=80000->L.length+R.length<=1000000 ->
  ∃Ps:List (List Nat),Ps.flatten=R/\(∀P∈Ps,P≠[])/\wy fu n (tx R) L=some ([],L++Ps.map tx):=by
 induction n with
 |zero=>intro R L _ h;omega|succ n ih=>
  intro R L hR hn hl hL;rw[wy,qvo]
  cases R with
  |nil=>exact⟨[],rfl,(fun P hP=>by cases hP),by rw[qr1];simp⟩
  |cons c R=>
   obtain⟨h1,h2⟩:=qbm hR;have hce:=ol (c:=c);have htl:=q5h R;have hl2:=hl;rw[kz,qM]at hl2;simp only[qL]at hn hL;obtain⟨k,b,hf⟩:=zgo fu oA h1 (tx R)
   have step:∀m:Int,∃Ps:List (List Nat),Ps.flatten=c::R/\(∀P∈Ps,P≠[])/\t7 fu (wy fu n) fu ((db c).length:Int) m (tx (c::R)) (k,(b,((db c).length:Int))) L=some ([],L++Ps.map tx):=fun m=>by
    have e2:(tx [c]).length=(db c).length:=by simp[tx]
    obtain⟨P',Q',g1,g2,g3⟩:=z0d fu oA (wy fu n) fu [c] R m (k,(b,((db c).length:Int))) L hR oA hl oA
    rw[e2]at g3;have g1:c::R=P'++Q':=g1;simp only[wD]at g2;have ac:R.length+1=P'.length+Q'.length:=by have:=congrArg List.length g1;simpa using this
    have hQ:kv Q':=fun d hd=>hR d (by rw[g1];exact List.mem_append_right _ hd)
    obtain⟨Ps,q1,q2,q3⟩:=ih Q' (L++[tx P']) hQ oA (by rw[g1,yz,qM]at hl;omega) oM
    refine⟨P'::Ps,by rw[List.flatten_cons,q1,g1],?_,?_⟩
    ·intro P hP;rcases List.mem_cons.1 hP with rfl|hP
     ·intro q;rw[q]at g2;simp at g2
     ·exact q2 P hP
    ·show t7 fu (wy fu n) fu ((db c).length:Int) m (tx ([c]++R)) _ L=_;rw[g3,q3];simp
   rw[a8 (by rw[Bool.not_eq_true',beq_eq_false_iff_ne];exact q5i oB),show qc4 fu (tx (c::R))=some (k,(b,((db c).length:Int))) by rw[kz];exact hf,qB,ur]
   dsimp only;split
   ·exact step 1
   ·exact step 0
def zwp(fu:Nat)(hfu:200000<=fu)(R:List Nat)(hR:kv R)(hl:R.length<=20000:=by omega):∃Ps:List (List Nat),Ps.flatten=R/\(∀P∈Ps,P≠[])/\qm1 fu (tx R)=some (Ps.map tx):=by
 have ht:=qu R;obtain⟨Ps,h1,h2,h3⟩:=z0e fu hfu fu R [] hR oA oA oD
 refine⟨Ps,h1,h2,?_⟩;unfold qm1 qvm qvn;rw[qB,h3];simp
def ztn(fu n:Nat):∀(ab:Bs)(R:List Nat)(j:Nat),kv R->R.length<n->j<2->∃k,k<3/\qgw fu n (bm j) (ab++tx R) ab.length=some (bm k)/\(k=2\/(j<=k/\(k=0->∀c∈R,c<128)/\(k=1->∀c∈R,c<256))):=by
 induction n with
 |zero=>intro ab R j _ h;omega|succ n ih=>
  intro ab R j hR h hj;rw[qgw,qu3]
  cases R with
  |nil=>rw[qiz (by simp[tx]),au rfl];exact⟨j,oA,rfl,.inr ⟨wF _,fun _ c hc=>by(cases hc),fun _ c hc=>by(cases hc)⟩⟩
  |cons c R=>
   obtain⟨h1,h2⟩:=qbm hR;have hl:=ol (c:=c);have ih:=ih (ab++db c) R;rw[qS,qM]at ih;simp only[qL]at h;rw[kz,qi0 oI,a8 rfl,qkf ab h1]
   dsimp only;rw[cm];by_cases c1:(255:Int)<(c:Int)
   ·rw[qX c1];exact⟨2,oA,rfl,.inl rfl⟩
   ·rw[qW c1,cm];by_cases c2:(127:Int)<(c:Int)
    ·rw[qX c2];obtain⟨k,k1,k2,k3⟩:=ih 1 h2 oA oA
     refine⟨k,k1,k2,?_⟩;rcases k3 with k3|⟨k3,k4,k5⟩
     ·exact .inl k3
     ·exact .inr ⟨oA,fun q=>oA,fun q d hd=>by
       rcases List.mem_cons.1 hd with rfl|hd
       ·omega
       ·exact k5 q d hd⟩
    ·rw[qW c2];obtain⟨k,k1,k2,k3⟩:=ih j h2 oA hj
     refine⟨k,k1,k2,?_⟩;rcases k3 with k3|⟨k3,k4,k5⟩
     ·exact .inl k3
     ·exact .inr ⟨k3,fun q d hd=>by
       rcases List.mem_cons.1 hd with rfl|hd
       ·omega
       ·exact k4 q d hd,fun q d hd=>by
       rcases List.mem_cons.1 hd with rfl|hd
       ·omega
       ·exact k5 q d hd⟩
def ztm(fu:Nat)(hfu:100000<=fu)(R:List Nat)(hR:kv R)(hl:R.length<=3000:=by omega):∃k,k<3/\qu2 fu (tx R)=some (bm k)/\je k R:=by
 obtain⟨k,k1,k2,k3⟩:=ztn fu fu [] R 0 hR oA oA
 refine⟨k,k1,k2,hR,?_,?_⟩
 ·intro q;rcases k3 with k3|⟨_,k4,_⟩
  ·omega
  ·exact k4 q
 ·intro q;rcases k3 with k3|⟨_,_,k5⟩
  ·omega
  ·exact k5 q
def qbb{k:Nat}{R S:List Nat}(h:je k R)(hs:∀c∈S,c∈R):je k S:=⟨fun c hc=>h.1 c (hs c hc),fun q c hc=>h.2.1 q c (hs c hc),fun q c hc=>h.2.2 q c (hs c hc)⟩
structure ue(k:Nat)(R:List Nat)(Gs:List (List Nat))(N:List Nat):Prop where
 all:∀G∈Gs,G≠[]/\(bf k G).length<=75
 cur:N≠[]->(bf k N).length<=75
 flat:Gs.flatten++N=R
def q2f{Gs:List (List Nat)}(h:∀G∈Gs,G≠[]):Gs.length<=Gs.flatten.length:=by
 induction Gs with
 |nil=>simp|cons G Gs ih=>
  have h1:1<=G.length:=by
   have:=h G qH
   cases G with|nil=>exact absurd rfl this|cons _ _=>simp
  have:=ih (fun x hx=>h x (qE _ hx))
  simp only[qL,List.flatten_cons,qM];omega
def zj0(fu:Nat)(hfu:90000000<=fu)(k:Nat)(hk:k<3){R:List Nat}{Gs:List (List Nat)}{N U:List Nat}(h:ue k R Gs N)(hin:je k (R++U))(hU:U≠[])(hU75:(bf k U).length<=75)(hl:R.length+U.length<=1000) :
  ∃Gs' N',ue k (R++U) Gs' N'/\N'≠[]/\qh8 fu (tx U) (bm k) (tx N) (Gs.map (bf k))=some (bm k,(tx N',Gs'.map (bf k))):=by
 obtain⟨h1,h2,h3⟩:=h;have hb:=q2f (fun G hG=>(h1 G hG).1)
 have ac:Gs.flatten.length+N.length=R.length:=by rw[← h3,qM]
 have tN:=qu N;have tU:=qu U;have sm:a7 ≥ 1000000:=by simp only[a7];omega
 unfold qh8;by_cases hN:N=[]
 ·subst hN;rw[qr1,au (by rfl),ah (by simp only[qZ];omega)]
  refine⟨Gs,U,⟨h1,fun _=>hU75,?_⟩,hU,rfl⟩
  rw[← h3,List.append_nil]
 ·have hne:tx N≠[]:=q5i hN;have hin2:je k (N++U):=qbb hin (fun c hc=>by
   rw[← h3];rcases List.mem_append.1 hc with q|q
   ·exact List.mem_append_left _ (List.mem_append_right _ q)
   ·exact List.mem_append_right _ q)
  have hinN:je k N:=qbb hin2 (fun c hc=>List.mem_append_left _ hc)
  have w1:=qsa fu hfu k hk (N++U) hin2 (by rw[qM];omega)
  have w2:=qsa fu hfu k hk N hinN
  rw[yz]at w1;rw[a8 (by rw[Bool.not_eq_true',beq_eq_false_iff_ne];exact hne),ah,w1,qB,cm]
  by_cases h75:(75:Int)<((bf k (N++U)).length:Int)
  ·rw[qX h75,w2,qB,ah (by simp only[aq,qM,wC,wD];omega),ah (by simp only[qZ];omega)]
   refine⟨Gs++[N],U,⟨?_,fun _=>hU75,?_⟩,hU,oB⟩
   ·intro G hG;rcases List.mem_append.1 hG with q|q
    ·exact h1 G q
    ·rw[List.mem_singleton]at q;subst q;exact⟨hN,h2 hN⟩
   ·rw[← h3];simp
  ·rw[qW h75,ah]
   refine⟨Gs,N++U,⟨h1,fun _=>oA,?_⟩,by simp[hN],by rw[yz]⟩
   rw[← h3];simp
def zue(fu:Nat)(hfu:90000000<=fu)(k:Nat)(hk:k<3)(r0:Int->Int->Bs->Bs->Bs->Bs->List Bs->List Bs->Option qoo)(s10 s11:Int)(m1 m2:Bs)(m32:List Bs)(n:Nat):∀(ab:Bs)(Q R:List Nat)(Gs:List (List Nat))(N:List Nat),Q.length<n->ue k R Gs N->je k (R++Q)->R.length+Q.length<=1000->(Q=[]->N≠[]) ->
  ∃Gs' N',ue k (R++Q) Gs' N'/\N'≠[]/\qie fu r0 n s10 s11 m1 m2 (bm k) (tx N) m32 (ab++tx Q) ab.length (Gs.map (bf k))=r0 s10 (ae (s11+(1:Int))) m1 m2 (bm k) (tx N') m32 (Gs'.map (bf k)):=by
 induction n with
 |zero=>intro ab Q R Gs N h;omega|succ n ih=>
  intro ab Q R Gs N h hs hin hl hq;rw[qie,qzf]
  cases Q with
  |nil=>
   refine⟨Gs,N,by simpa using hs,hq rfl,?_⟩
   rw[qiz (by simp[tx]),au rfl]
  |cons c Q=>
   have hc:ku c:=hin.1 c oB
   have hce:=ol (c:=c);simp only[qL]at h hl;have e1:tx [c]=db c:=by simp[tx]
   have hw:=qr9 k [c];have hd:=q1p k [c];have hn:=q3u k;simp only[wD]at hd;obtain⟨Gs1,N1,g1,g2,g3⟩:=zj0 fu hfu k hk (U:=[c]) hs (qbb hin (fun d hd=>by
    rcases List.mem_append.1 hd with q|q
    ·exact List.mem_append_left _ q
    ·rw[List.mem_singleton]at q;subst q;simp)) oB oA (by simp only[wD];omega)
   obtain⟨Gs2,N2,q1,q2,q3⟩:=ih (ab++db c) Q (R++[c]) Gs1 N1 oA g1 (by simpa using hin) oM (fun _=>g2)
   refine⟨Gs2,N2,by simpa using q1,q2,?_⟩
   rw[qS,qM]at q3;rw[kz,qi0 oI,a8 rfl,qkf ab hc]
   dsimp only;rw[zj9 hc,← e1,g3,qB];dsimp only;rw[e1];exact q3
def z4d(fu:Nat)(hfu:90000000<=fu)(k:Nat)(hk:k<3)(m1 m2:Bs)(hm2:m2=bm k)(n:Nat):∀(ab:List Bs)(Ps:List (List Nat))(R:List Nat)(Gs:List (List Nat))(N:List Nat),Ps.length<n->ab.length+Ps.length<=1000000->ue k R Gs N->(∀P∈Ps,P≠[])->je k (R++Ps.flatten)->R.length+Ps.flatten.length<=1000->(Ps=[]->N≠[]) ->
  ∃Gs' N',ue k (R++Ps.flatten) Gs' N'/\N'≠[]/\qap fu n ((ab.length+Ps.length:Nat):Int) (ab.length:Int) m1 m2 (bm k) (tx N) (ab++Ps.map tx) (Gs.map (bf k))=some (m1,(m2,(bm k,(tx N',Gs'.map (bf k))))):=by
 induction n with
 |zero=>intro ab Ps R Gs N h;omega|succ n ih=>
  intro ab Ps R Gs N h hb hs hne hin hl hq;rw[qap,qze]
  cases Ps with
  |nil=>exact⟨Gs,N,by simpa using hs,hq rfl,by rw[ax]⟩|cons P Ps=>
   simp only[qL,List.flatten_cons,qM]at h hb hl;have hP:=hne P qH;have hinP:je k P:=qbb hin (fun c hc=>by simp[hc])
   have hw:=qsa fu hfu k hk P hinP
   have e0:∀S:List Nat,S++(P::Ps).flatten=(S++P)++Ps.flatten:=fun S=>oB
   have hinRP:je k (R++P):=qbb hin (fun c hc=>by
    rcases List.mem_append.1 hc with q|q
    ·exact List.mem_append_left _ q
    ·simp[q])
   have next:∀Gs1 N1,ue k (R++P) Gs1 N1->N1≠[]->∃Gs' N',ue k (R++(P::Ps).flatten) Gs' N'/\N'≠[]/\qap fu n ((ab.length+(P::Ps).length:Nat):Int) (ae ((ab.length:Int)+(1:Int))) m1 m2 (bm k) (tx N1) (ab++(P::Ps).map tx) (Gs1.map (bf k))=some (m1,(m2,(bm k,(tx N',Gs'.map (bf k))))):=fun Gs1 N1 g1 g2=>by
    obtain⟨Gs2,N2,q1,q2,q3⟩:=ih (ab++[tx P]) Ps (R++P) Gs1 N1 oA oM g1 (fun x hx=>hne x (qE _ hx)) (by rw[← e0];exact hin) (by rw[qM];omega) (fun _=>g2)
    refine⟨Gs2,N2,by rw[e0];exact q1,q2,?_⟩
    rw[b9 _]
    rw[qM,wD,qS]at q3;rw[show ab.length+(P::Ps).length=ab.length+1+Ps.length by simp only[qL];omega]
    exact q3
   rw[ah oG,qkk,List.map_cons,cq,qB,hm2,hw,qB,cm]
   rw[hm2]at next
   by_cases h75:((bf k P).length:Int)<=75
   ·rw[qX h75];obtain⟨Gs1,N1,g1,g2,g3⟩:=zj0 fu hfu k hk (U:=P) hs hinRP hP oA oA
    obtain⟨Gs2,N2,q1,q2,q3⟩:=next Gs1 N1 g1 g2
    refine⟨Gs2,N2,q1,q2,?_⟩;rw[g3,qB];exact q3
   ·rw[qW h75];obtain⟨Gs1,N1,g1,g2,g3⟩:=zue fu hfu k hk (qap fu n) ((ab.length+(P::Ps).length:Nat):Int) (ab.length:Int) m1 (bm k) (ab++tx P::Ps.map tx) fu [] P R Gs N oA hs hinRP oA (fun q=>absurd q hP)
    obtain⟨Gs2,N2,q1,q2,q3⟩:=next Gs1 N1 g1 g2
    refine⟨Gs2,N2,q1,q2,?_⟩;simp only[List.nil_append,qZ]at g3;rw[g3];exact q3
def z4c(fu:Nat)(hfu:90000000<=fu)(k:Nat)(hk:k<3)(R:List Nat)(h:je k R)(h0:R≠[])(hl:R.length<=1000):∃Gs' N',ue k R Gs' N'/\N'≠[]/\qof fu (tx R) (bm k) (bm k) [] []=some (tx R,(bm k,(bm k,(tx N',Gs'.map (bf k))))):=by
 obtain⟨Ps,p1,p2,p3⟩:=zwp fu oA R h.1
 have hb:=q2f p2;rw[p1]at hb;have hne:Ps≠[]:=fun q=>by subst q;exact h0 p1.symm
 obtain⟨Gs,N,q1,q2,q3⟩:=z4d fu hfu k hk (tx R) (bm k) rfl fu [] Ps [] [] [] oA oD ⟨(fun _ h=>by cases h),(fun h=>absurd rfl h),rfl⟩ p2 (by rw[p1];exact h) (by rw[p1];simpa using hl) (fun q=>absurd q hne)
 rw[p1,List.nil_append]at q1;refine⟨Gs,N,q1,q2,?_⟩;unfold qof;rw[p3,qB];simp only[qZ,wO,List.nil_append,List.map_nil]at q3;rw[wC];exact q3
def q23:∀ws:List Bs,Lib.join ws [32]=eh ws
 |[]=>rfl|[w]=>by rw[Lib.join_one];rfl|w::v::ws=>by
  rw[eh,← q23 (v::ws)];unfold Lib.join;simp[List.intercalate]
def zm3:∀(ws:List Bs)(m:Nat),(∀w∈ws,w.length<=m)->(eh ws).length<=(m+1)*ws.length
 |[],_,_=>by simp[eh]|[w],m,h=>by have:=h w qH;simp only[eh,qL,qZ];omega|w::v::ws,m,h=>by
  have h1:=h w qH;have h2:=zm3 (v::ws) m (fun x hx=>h x (qE _ hx))
  simp only[eh,qM,qL]at h2 ⊢;rw[Nat.mul_add (m+1) (ws.length+1) 1];omega
def qzo(x a:Bs):Prop:=x.length<=4000->qh4 100000000 x=some (a,(0,0))
def zja:∀(s:Bs),Lib.index s [61,63] = -1->∀p r,s=p++r->([61,63]:Bs).isPrefixOf r=false
 |[],_,p,r,e=>by
  have:=(List.append_eq_nil_iff.1 e.symm).2;subst this;rfl
 |c::s,h,p,r,e=>by
  have hg:=Lib.index_ge s [61,63];rw[Lib.index]at h;split at h
  ·exact absurd h oE
  ·rename_i hp;split at h
   ·rename_i h2
    cases p with
    |nil=>rw[List.nil_append]at e;rw[← e];exact Bool.eq_false_iff.2 hp|cons d p=>
     rw[wK]at e;injection e with _ e
     exact zja s (by simpa using h2) p r e
   ·omega
def z0h(fu n:Nat)(hfu:100<=fu):∀(ab aa:Bs),aa.length<n->ab.length+aa.length<=10000->∃b,qao fu n (ab++aa) ((ab.length+aa.length:Nat):Int) (ab.length:Int)=some b/\(b=true->Lib.index (ab++aa) [61,63] = -1):=by
 induction n with
 |zero=>intro ab aa h;omega|succ n ih=>
  intro ab aa h hb;rw[qao,qod]
  cases aa with
  |nil=>
   have hp:∃x,mv (ab++[]) [32]=some x:=by
    unfold mv qc9;by_cases q:((List.length ([32]:Bs):Int)<=(List.length (ab++[]):Int))
    ·rw[ah q,ah ⟨oB,q⟩];exact⟨_,rfl⟩
    ·rw[ax q];exact⟨_,rfl⟩
   have hs:∃x,qhm (ab++[]) [32]=some x:=by
    unfold qhm qaf;have hl:(ab++[]).length=ab.length:=oB
    by_cases q:((List.length ([32]:Bs):Int)<=(List.length (ab++[]):Int))
    ·have q2:((List.length ([32]:Bs):Nat):Int)=1:=rfl;simp only[qZ]at hb;rw[ah q,q2,dj,ah];exact⟨_,rfl⟩
    ·rw[ax q];exact⟨_,rfl⟩
   obtain⟨x1,e1⟩:=hp;obtain⟨x2,e2⟩:=hs;rw[ax,e1,qB]
   cases x1
   ·rw[pw,e2,qB];cases x2
    ·unfold qxi lf nz;have hg:=Lib.index_ge (ab++[]) [61,63];rw[pw,ah (by simp at hb ⊢;omega),qB,qB,qB]
     exact⟨_,rfl,fun q=>by
      have:¬(0:Int)<=Lib.index (ab++[]) [61,63]:=by simpa using q
      omega⟩
    ·rw[ee];exact⟨false,rfl,fun q=>by cases q⟩
   ·rw[ee];exact⟨false,rfl,fun q=>by cases q⟩
  |cons c aa=>
   simp only[qL]at h hb;obtain⟨b,ih1,ih2⟩:=ih (ab++[c]) aa oA oD
   simp only[qM,qL,qZ,qS,wM,wO]at ih1 ih2;have p1:∀x:Bool,∃b,qid fu (qao fu n) (ab++c::aa) ((ab.length+(c::aa).length:Nat):Int) (ab.length:Int) x=some b/\(b=true->Lib.index (ab++c::aa) [61,63] = -1):=fun x=>by
    unfold qid qzb;cases x
    ·rw[au rfl,b9 _,show ab.length+(c::aa).length=ab.length+1+aa.length by simp only[qL];omega]
     exact⟨b,ih1,ih2⟩
    ·rw[a8 rfl];exact⟨false,rfl,fun q=>by cases q⟩
   rw[ah oG,cq,qB,qB,cm]
   split
   ·exact p1 true
   ·exact p1 _
def z0i(n:Nat):qic (n+1) []=some true:=by
 unfold qic;rw[qao,qod];rfl
def zsi:∀n:_root_.Fin 64,cu (Tr.al n.val)=true:=by decide +kernel
def uo(k:Nat)(h:k<64):cu (Tr.al k)=true:=zsi ⟨k,h⟩
def zf9:∀b:Bs,∀c∈Tr.e64 b,cu c=true
 |[],c,h=>by cases h
 |[x],c,h=>by
  simp only[Tr.e64,Tr.c0,Tr.c1,wE,List.not_mem_nil,or_false]at h;rcases h with rfl|rfl|rfl|rfl
  ·exact uo _ (Nat.mod_lt _ oA)
  ·exact uo _ (Nat.mod_lt _ oA)
  ·decide +kernel
  ·decide +kernel
 |[x,y],c,h=>by
  simp only[Tr.e64,Tr.c0,Tr.c1,Tr.c2,wE,List.not_mem_nil,or_false]at h;rcases h with rfl|rfl|rfl|rfl
  ·exact uo _ (Nat.mod_lt _ oA)
  ·exact uo _ (Nat.mod_lt _ oA)
  ·exact uo _ (Nat.mod_lt _ oA)
  ·decide +kernel
 |x::y::z::r,c,h=>by
  simp only[Tr.e64,Tr.c0,Tr.c1,Tr.c2,Tr.c3,wE]at h;rcases h with rfl|rfl|rfl|rfl|h
  ·exact uo _ (Nat.mod_lt _ oA)
  ·exact uo _ (Nat.mod_lt _ oA)
  ·exact uo _ (Nat.mod_lt _ oA)
  ·exact uo _ (Nat.mod_lt _ oA)
  ·exact zf9 r c h
def zvm:∀n:_root_.Fin 256,(dq (UInt8.ofNat n.val)).all cu=true:=by decide +kernel
def dqw(c d:UInt8)(h:d∈dq c):cu d=true:=List.all_eq_true.1 (kj (fun c=>(dq c).all cu=true) zvm c) d h
def zyz(k:Nat):∀c∈bm k,cu c=true:=by
 have h0:sAs.all cu=true:=by decide +kernel
 have h1:sLa.all cu=true:=by decide +kernel
 have h2:sU8.all cu=true:=by decide +kernel
 unfold bm;split
 ·exact List.all_eq_true.1 h0
 ·exact List.all_eq_true.1 h1
 ·exact List.all_eq_true.1 h2
def zu4(k:Nat)(R:List Nat):∀c∈ey k R,cu c=true:=by
 unfold ey;split
 ·exact zf9 _
 ·intro c hc;obtain⟨d,_,hd⟩:=List.mem_flatMap.1 hc;exact dqw d c hd
def z4u(k:Nat)(R:List Nat):∀c∈bf k R,cu c=true:=by
 have h61:cu 61=true:=by decide +kernel
 have h63:cu 63=true:=by decide +kernel
 intro c hc;unfold bf at hc;simp only[wE,wA,List.not_mem_nil,or_false]at hc;rcases hc with rfl|rfl|hc|rfl|rfl|rfl|hc|rfl|rfl
 ·exact h61
 ·exact h63
 ·exact zyz k c hc
 ·exact h63
 ·unfold ip;split<;>decide +kernel
 ·exact h63
 ·exact zu4 k R c hc
 ·exact h63
 ·exact h61
def Aws(ws:List Bs):Prop:=ws≠[]/\∀w∈ws,w≠[]/\∀c∈w,cu c=true
def zvy(a:Bs)(h500:a.length<=500)(hv:Lib.validD a=true):∃x,qn7 100000000 a=some (x,(0,0))/\qzo x a/\x.length<=100000/\(x≠a->∃ws,x=eh ws/\Aws ws):=by
 have hfu:90000000<=100000000:=oA
 unfold qn7;rw[ax]
 have hval:ic a=some (Lib.validD a):=by
  unfold ic;rw[ah]
 rw[hval,qB,hv];obtain⟨R,hR,rfl⟩:=z4i _ a (wF _) hv;have htl:=q5h R;obtain⟨b,hp,hpl⟩:=z0h 100000000 100000000 oA [] (tx R) oA oD
 simp only[List.nil_append,qZ,wO]at hp hpl;rw[show((0:Nat):Int)=0 from rfl]at hp
 have hp:qic 100000000 (tx R)=some b:=hp;rw[ee,hp,qB];cases hb:b
 ·have h0:R≠[]:=fun q=>by
   subst q;have:=z0i 99999999;rw[qr1]at hp;rw[show(100000000:Nat)=99999999+1 from rfl,this,hb]at hp
   cases hp
  obtain⟨k,k1,k2,k3⟩:=ztm 100000000 oA R hR
  obtain⟨Gs,N,q1,q2,q3⟩:=z4c 100000000 hfu k k1 R k3 h0 oA
  obtain⟨g1,g2,g3⟩:=q1;have hbd:=q2f (fun G hG=>(g1 G hG).1)
  have ac:Gs.flatten.length+N.length=R.length:=by rw[← g3,qM]
  have hinN:je k N:=qbb k3 (fun c hc=>by rw[← g3];exact List.mem_append_right _ hc)
  have hw:=qsa 100000000 hfu k k1 N hinN
  have hall:∀G∈Gs++[N],je k G/\G.length<=1000/\G≠[]/\(bf k G).length<=75:=fun G hG=>by
   rcases List.mem_append.1 hG with q|q
   ·refine⟨qbb k3 (fun c hc=>by rw[← g3];exact List.mem_append_left _ (List.mem_flatten.2 ⟨G,q,hc⟩)),?_,(g1 G q).1,(g1 G q).2⟩
    have:G.length<=Gs.flatten.length:=by
     obtain⟨s,t,e⟩:=List.append_of_mem q;rw[e];simp;omega
    omega
   ·rw[List.mem_singleton]at q;subst q;exact⟨hinN,oA,q2,g2 q2⟩
  have hm:∀w∈(Gs++[N]).map (bf k),w.length<=75:=fun w hw=>by
   obtain⟨G,hG,rfl⟩:=List.mem_map.1 hw;exact(hall G hG).2.2.2
  have hwl:=zm3 _ 75 hm;rw[wC,qM,wD]at hwl;rw[au rfl,k2,qB];unfold qzd;rw[qB];dsimp only;rw[q3,qB];dsimp only;rw[hw,qB,ah (by simp only[aq,qM,wC,wD];omega)]
  have e:Gs.map (bf k)++[bf k N]=(Gs++[N]).map (bf k):=oB
  unfold f9;rw[e,q23,ah ⟨by rw[wC,qM,wD];omega,oA⟩,qB]
  refine⟨_,rfl,fun hx => ?_,oA,fun _=>⟨_,rfl,oB,fun w hw => ?_⟩⟩
  ·have hd:=zf0 100000000 hfu k k1 (0,0) (Gs++[N]) oB hall 100000000 [] (-1) [] (by rw[qM,wD];omega) (by simp only[qZ];omega) (by rw[qM,wD];simp only[qZ];omega)
   unfold qh4;rw[ax]
   simp only[List.nil_append,qZ]at hd;rw[show((0:Nat):Int)=0 from rfl]at hd
   rw[hd];have ef:(Gs++[N]).flatMap tx=tx R:=by
    rw[← g3];have:∀L:List (List Nat),L.flatMap tx=tx L.flatten:=fun L=>by
     induction L with|nil=>rfl|cons G L ih=>rw[List.flatMap_cons,List.flatten_cons,yz,ih]
    rw[this];simp
   rw[ef]
  ·obtain⟨G,_,rfl⟩:=List.mem_map.1 hw;exact⟨by unfold bf;simp,z4u k G⟩
 ·rw[a8 rfl];refine⟨_,rfl,fun hx => ?_,oA,fun q=>absurd rfl q⟩
  have hd:=zvb 100000000 100000000 (0,0) [] (tx R) [] oA oD oD (zja _ (hpl hb))
  unfold qh4;rw[ax]
  exact hd
def ke:List Bs->List BT|[]=>[]|w::ws=>(false,.wd w false)::ws.map fun w=>(true,.wd w false)
def zmi:∀ws:List Bs,ws≠[]->ao (ws.map fun w=>(true,iz.wd w false))=32::eh ws
 |[],h=>absurd rfl h|[w],_=>by simp[ao,cn,cz,eh]|w::v::ws,_=>by
  have ih:=zmi (v::ws) oB
  rw[List.map_cons,dz,ih];simp[cn,cz,eh]
def q5k:∀ws:List Bs,ao (ke ws)=eh ws
 |[]=>rfl|[w]=>by simp[ke,ao,cn,cz,eh]|w::v::ws=>by
  have ih:=zmi (v::ws) oB
  rw[ke,dz,ih];simp[cn,cz,eh]
def z4s(ws:List Bs):ik (ws.map fun w=>(true,iz.wd w false))=ws.map fun w=>(w,false):=by
 induction ws with|nil=>rfl|cons w ws ih=>rw[List.map_cons,ik,ih];rfl
def z4t(ws:List Bs):ik (ke ws)=ws.map fun w=>(w,false):=by
 cases ws with|nil=>rfl|cons w ws=>rw[ke,ik,z4s];rfl
def z4p(ws:List Bs):Wds (ke ws):=by
 cases ws with
 |nil=>intro x hx;cases hx
 |cons w ws=>
  intro x hx;rcases List.mem_cons.1 hx with rfl|hx
  ·exact⟨w,false,rfl⟩
  ·obtain⟨v,_,rfl⟩:=List.mem_map.1 hx;exact⟨v,false,rfl⟩
def zjj:∀(ws:List Bs)(R:List BT),(∀w∈ws,w≠[]/\∀c∈w,cu c=true)->dc R->nw R->dc (ws.map (fun w=>(true,iz.wd w false))++R)/\(ws≠[]->nw (ws.map (fun w=>(true,iz.wd w false))++R))
 |[],R,_,h,_=>⟨h,fun q=>absurd rfl q⟩
 |w::ws,R,hw,h,hn=>by
  obtain⟨i1,i2⟩:=zjj ws R (fun v hv=>hw v (qE _ hv)) h hn
  refine⟨⟨hw w qH,fun _ _ => ?_,i1⟩,fun _=>trivial⟩
  cases ws with|nil=>exact hn|cons v ws=>exact i2 oB
def zzb{ws:List Bs}{R:List BT}(h:Aws ws)(hR:dc R)(hn:nw R):dc (ke ws++R):=by
 obtain⟨h0,hw⟩:=h
 cases ws with
 |nil=>exact absurd rfl h0|cons w ws=>
  obtain⟨i1,i2⟩:=zjj ws R (fun v hv=>hw v (qE _ hv)) hR hn
  refine⟨hw w qH,fun _ _ => ?_,i1⟩
  cases ws with|nil=>exact hn|cons v ws=>exact i2 oB
def zys(fu:Nat)(hfu:90000000<=fu)(L:List (Bs×Bool))(n:Nat):∀(ab:List (Bs×Bool))(aa:List Bs)(run:List Bs),L=ab++aa.map (fun w=>(w,false))->L.length<=100000->aa.length<n->run.length<=ab.length ->
  tn fu n L (L.length:Int) (ab.length:Int) [] run=tn fu (n-aa.length) L (L.length:Int) (L.length:Int) [] (run++aa):=by
 induction n with
 |zero=>intro ab aa run _ _ h;omega|succ n ih=>
  intro ab aa run e hL hn hr
  cases aa with
  |nil=>rw[e];simp|cons w aa=>
   have hl:=congrArg List.length e;simp only[qM,List.map_cons,qL,wC]at hl hn;rw[tn,qco,ah]
   rw[show am L (ab.length:Int)=some (w,false) by rw[e,List.map_cons];exact cq _ _ _,qB,au rfl]
   dsimp only;rw[ah (sv _ _),f8 _]
   have:=ih (ab++[(w,false)]) aa (run++[w]) (by rw[e];simp) hL oA oD
   rw[qM,wD]at this;rw[this,qS,qL,show n+1-(aa.length+1)=n-aa.length by omega]
   rfl
def zmx:∀ws:List Bs,ws.length<=(eh ws).length+1/\∀w∈ws,w.length<=(eh ws).length
 |[]=>⟨oB,fun w h=>by cases h⟩
 |[w]=>⟨oB,fun v h=>by rw[List.mem_singleton]at h;subst h;exact wF _⟩
 |w::v::ws=>by
  obtain⟨h1,h2⟩:=zmx (v::ws);refine⟨?_,fun x hx => ?_⟩
  ·simp only[eh,qM,qL]at h1 ⊢;omega
  ·simp only[eh,qM,qL];rcases List.mem_cons.1 hx with rfl|hx
   ·omega
   ·have:=h2 x hx;omega
def zyt{ws:List Bs}{s:Bs}(h0:ws≠[])(hr:qzo (eh ws) s)(hl:(eh ws).length<=4000)(hs:s.length<=4000):tj 100000000 (ik (ke ws))=some s:=by
 rw[z4t];obtain⟨hw1,hw2⟩:=zmx ws;unfold tj;have h:=zys 100000000 oA (ws.map fun w=>(w,false)) 100000000 [] ws [] oB oD oA oB
 rw[qZ]at h;rw[show((0:Nat):Int)=0 from rfl]at h
 rw[h];obtain⟨m,hm⟩:∃m,100000000-ws.length=m+1:=⟨100000000-ws.length-1,oA⟩
 rw[hm,tn,qco,ax,List.nil_append]
 have hj:f9 ws [32]=some (eh ws):=by
  unfold f9;rw[q23,ah ⟨oA,oA⟩]
 have h1:zw 100000000 ws []=some ([],[s]):=by
  unfold zw;have:1<=ws.length:=by cases ws with|nil=>exact absurd rfl h0|cons _ _=>simp
  rw[ah,hj,qB,hr hl,qB,ah (by simp[aq])]
  rfl
 rw[h1,qB];dsimp only;have hj2:f9 [s] [32]=some s:=by
  unfold f9;rw[Lib.join_one,ah ⟨oB,oA⟩]
 rw[hj2];rfl
def zyr(s:Bs)(hs:s.length<=4000:=by omega):tj 100000000 [(s,true)]=some s:=by
 unfold tj;have hj2:f9 [s] [32]=some s:=by
  unfold f9;rw[Lib.join_one,ah ⟨oB,oA⟩]
 have h1:∀out:List Bs,zw 100000000 [] out=some ([],out):=fun out=>by
  unfold zw;rw[ax]
 rw[show(100000000:Nat)=99999998+1+1 from rfl,tn,qco,ah]
 rw[show am [(s,true)] (0:Int)=some (s,true) from rfl,qB,a8 rfl,h1,qB]
 dsimp only;rw[ah (by simp[aq]),show ae ((0:Int)+1)=1 from rfl,tn,qco,ax,h1,qB]
 dsimp only;rw[List.nil_append,hj2];rfl
def zd4(s:Bs)(hs:s.length<=10000000)(P0:Nat->Bs->Int->Int->Option Bool)(p:UInt8->Bool)
  (h0:∀n e k,P0 (n+1) s e k=(bif decide (k<e) then(am s k).bind fun c=>(some (p c)).bind fun x=>bif !x then some false else P0 n s e (ae (k+(1:Int))) else some true)) :
  ∀(n:Nat)(ab aa:Bs),s=ab++aa->aa.length<n->P0 n s (s.length:Int) (ab.length:Int)=some (aa.all p):=by
 intro n
 induction n with
 |zero=>intro ab aa _ h;omega|succ n ih=>
  intro ab aa e h;have hl:=congrArg List.length e;rw[qM]at hl;rw[h0]
  cases aa with
  |nil=>rw[ax (by simp at hl;omega)];rfl|cons c aa=>
   simp only[qL]at hl h;rw[ah,show am s (ab.length:Int)=some c by rw[e];exact cq _ _ _,qB,qB,List.all_cons]
   cases hp:p c
   ·rfl
   ·rw[ee,f8 _]
    have:=ih (ab++[c]) aa (by rw[e];simp) oA
    rw[qM,wD]at this;rw[this];rfl
def uy(c:UInt8):Bool:=(wk c).getD false
def zvg(c:UInt8):wk c=some (uy c):=by
 obtain⟨v,e,_⟩:=zf5 c;unfold uy;rw[e];rfl
def zvf:∀n:_root_.Fin 256,uy (UInt8.ofNat n.val)=true->cu (UInt8.ofNat n.val)=true:=by decide +kernel
def zvh{c:UInt8}(h:uy c=true):cu c=true:=kj (fun c=>uy c=true->cu c=true) zvf c h
def zei{c:UInt8}(h:rq c=true):cu c=true:=by unfold cu;rw[h];rfl
def zmw:cu 46=true:=by decide +kernel
def zd2(fu:Nat)(s:Bs)(h:s.length<fu:=by omega)(hs:s.length<=10000000:=by omega):qgu fu s=some (s.all rq):=
 zd4 s hs (qcy fu) rq (fun n e k=>by rw[qcy,qub];simp only[q0o]) fu [] s rfl h
def zsf(fu:Nat)(s:Bs)(h:s.length<fu:=by omega)(hs:s.length<=10000000:=by omega):qml fu s=some (s.all uy):=
 zd4 s hs (qcx fu) uy (fun n e k=>by rw[qcx,qua];simp only[zvg]) fu [] s rfl h
def zjv{R:Type}(P1:Nat->Bs->Bs->Int->Bool->Option R)(r0:Bs->Bool->Option (Bool ⊕ Bool))(A B:Bs×Bs×Int×Bool->R)(P:UInt8->Prop)(hr:∀s b,s.length<=100000->r0 s b=some (.inl false)\/(r0 s b=some (.inr b)/\s≠[]/\∀c∈s,P c))
  (h0:∀n m1 m2 m3 m5,P1 (n+1) m1 m2 m3 m5=(lf m2 m1).bind fun x1=>bif decide (x1<(0:Int)) then(r0 m2 m5).bind fun x2=>ap x2 (fun a3=>some (A (m1,(m2,(m3,a3))))) (fun b4=>some (B (m1,(m2,(m3,b4))))) else bif decide (0<=ae (x1+m3)/\ae (x1+m3)<=(List.length m2:Int)) then(r0 (List.take (ae (x1+m3)).toNat m2) m5).bind fun x5=>ap x5 (fun a6=>some (A (m1,(m2,(m3,a6))))) (fun b7=>bif decide (0<=ae (x1+(List.length m1:Int))/\ae (x1+(List.length m1:Int))<=(List.length m2:Int)) then P1 n m1 (List.drop (ae (x1+(List.length m1:Int))).toNat m2) m3 b7 else none) else none) :
  ∀(n:Nat)(s:Bs)(b:Bool),s.length<n->s.length<=100000->(∃t,P1 n [46] s 0 b=some (A ([46],(t,(0,false)))))\/((∃t,P1 n [46] s 0 b=some (B ([46],(t,(0,b)))))/\s≠[]/\∀c∈s,P c\/c=46):=by
 intro n
 induction n with
 |zero=>intro s b h;omega|succ n ih=>
  intro s b h hs;rw[h0];rcases q2t 46 s with e|⟨w,r,rfl,e⟩
  ·rw[e,qB,ah]
   rcases hr s b hs with q|⟨q,q1,q2⟩
   ·exact .inl ⟨s,by rw[q];rfl⟩
   ·exact .inr ⟨⟨s,by rw[q];rfl⟩,q1,fun c hc => .inl (q2 c hc)⟩
  ·simp only[qM,qL]at h hs;rw[e,qB,ax,Int.add_zero,dj (x:=(w.length:Int)) oA oA,ah,qkt]
   rcases hr w b oA with q|⟨q,q1,q2⟩
   ·exact .inl ⟨_,by rw[q];rfl⟩
   ·rw[q,qB];simp only[ap];rw[show((List.length ([46]:Bs):Nat):Int)=1 from rfl,f8 _,ah,qpx]
    rcases ih r b oA oA with⟨t,ht⟩|⟨⟨t,ht⟩,i1,i2⟩
    ·exact .inl ⟨t,ht⟩
    ·refine .inr ⟨⟨t,ht⟩,oB,fun c hc => ?_⟩
     rcases List.mem_append.1 hc with q|q
     ·exact .inl (q2 c q)
     ·rcases List.mem_cons.1 q with q|q
      ·exact .inr q
      ·exact i2 c q
def q0e{l:Bs}{p:UInt8->Bool}{α:Type}{x y:α}:(bif !(l.all p) then x else y)=if l.all p=true then y else x:=by cases l.all p<;>rfl
def zvk{fu:Nat}(hfu:90000000<=fu){s:Bs}(hs:s.length<=100000)(h:wm fu s=some true):s≠[]/\∀c∈s,cu c=true:=by
 unfold wm qmc ub qam at h;simp only[qB]at h;unfold qn2 at h;rw[au (by rfl)]at h
 have:=zjv (qh0 fu) (wo fu) (fun x=>Sum.inl x) (fun x=>Sum.inr x) (fun c=>rq c=true) (fun s b hs=>by
  unfold wo;by_cases h0:s=[]
  ·exact .inl (by rw[a8 (by simp[h0])])
  ·rw[au (by simp[h0]),zd2 fu s,qB,q0e]
   by_cases ha:s.all rq=true
   ·exact .inr ⟨by rw[qX ha],h0,List.all_eq_true.1 ha⟩
   ·exact .inl (by rw[qW ha])) (fun _ _ _ _ _=>rfl) fu s false oA hs
 rcases this with⟨t,ht⟩|⟨⟨t,ht⟩,h1,h2⟩
 ·rw[ht]at h;simp[ap]at h
 ·refine⟨h1,fun c hc => ?_⟩
  rcases h2 c hc with q|q
  ·exact zei q
  ·rw[q];exact zmw
def zf7{fu:Nat}(hfu:90000000<=fu){s:Bs}(h:ra fu s=some true):s.length<=60/\s≠[]/\∀c∈s,cu c=true:=by
 unfold ra at h;by_cases hl:(s.length:Int)<=60
 ·rw[ah hl]at h;unfold qmb ub qam at h;simp only[qB]at h;unfold qn1 at h;rw[au (by rfl)]at h
  have:=zjv (qhz fu) (wn fu) (fun x=>Sum.inl x) (fun x=>Sum.inr x) (fun c=>uy c=true) (fun s b hs=>by
   unfold wn;by_cases h0:s=[]
   ·exact .inl (by rw[a8 (by simp[h0])])
   ·rw[au (by simp[h0]),zsf fu s,qB,q0e]
    by_cases ha:s.all uy=true
    ·exact .inr ⟨by rw[qX ha],h0,List.all_eq_true.1 ha⟩
    ·exact .inl (by rw[qW ha])) (fun _ _ _ _ _=>rfl) fu s false oA oA
  rcases this with⟨t,ht⟩|⟨⟨t,ht⟩,h1,h2⟩
  ·rw[ht]at h;simp[ap]at h
  ·refine⟨oA,h1,fun c hc => ?_⟩
   rcases h2 c hc with q|q
   ·exact zvh q
   ·rw[q];exact zmw
 ·rw[ax hl]at h;simp at h
def zyc{fu:Nat}{s:Bs}(h:ti fu s=some true):s.length<=60:=by
 unfold ti at h;by_cases h0:s=[]
 ·subst h0;simp
 ·rw[show(!(s==([]:Bs)))=true by simp[h0],a8 rfl]at h
  by_cases hl:(s.length:Int)<=60
  ·omega
  ·rw[ax hl]at h;simp at h
def b0:List BT->Prop|(true,_)::_=>False|_=>True
def qbl(W:List BT):Prop:=∀R,dc R->nw R->dc (W++R)
def zth{ws:List Bs}:b0 (ke ws):=by
 cases ws with|nil=>trivial|cons w ws=>trivial
def zjz(s:Bs)(hs:s.length<=100000:=by omega):zy s=some (34::(gq s++[34]))/\(gq s).length<=300000:=by
 have hc:im 92 34 s<=2*s.length:=by
  have h1:=List.count_le_length (a:=(92:UInt8)) (l:=s);have h2:=List.count_le_length (a:=(34:UInt8)) (l:=s);unfold im;omega
 have hl:=qjd (a:=92) (b:=34) oE 92 92 92 34 s
 unfold zy;rw[show qdh ([([92]:Bs),([92,92]:Bs),([34]:Bs),([92,34]:Bs)]:List Bs)=some (0,0,0,[[92],[92,92],[34],[92,34]]) from rfl,qB]
 unfold t8;dsimp only;rw[ah ⟨rfl,rfl,oE,oA⟩,qB,ah oQ,ah oL]
 exact⟨rfl,by show(fc 92 34 [92,92] [92,34] s).length<=300000;omega⟩
def z0c(fu:Nat)(p:Bs)(hp:p.length<=100000)(q:Bs)(hq:zy p=some q)(z:Bs)(n:Nat):∀s:Bs,s.length<n->s.length<fu->s.length<=100000 ->
  (∃t,qdl fu n [32] s 0 p z=some (.inl ([32],(t,(0,(p,q))))))\/((∃t,qdl fu n [32] s 0 p z=some (.inr ([32],(t,(0,(p,z))))))/\∃ws,s=eh ws/\Aws ws):=by
 have hr:∀s:Bs,s.length<fu->s.length<=100000->zx fu s p z=some (.inl (p,q))\/(zx fu s p z=some (.inr (p,z))/\s≠[]/\∀c∈s,cu c=true):=fun s h1 h2=>by
  unfold zx;by_cases h0:s=[]
  ·exact .inl (by rw[a8 (by simp[h0]),hq];rfl)
  ·rw[au (by simp[h0]),zd2 fu s h1,qB,q0e]
   by_cases ha:s.all rq=true
   ·exact .inr ⟨by rw[qX ha],h0,fun c hc=>zei (List.all_eq_true.1 ha c hc)⟩
   ·exact .inl (by rw[qW ha,hq];rfl)
 induction n with
 |zero=>intro s h;omega|succ n ih=>
  intro s h hf hs;rw[qdl,qye];rcases q2t 32 s with e|⟨w,r,rfl,e⟩
  ·rw[e,qB,ah]
   rcases hr s hf hs with q|⟨q,q1,q2⟩
   ·exact .inl ⟨s,by rw[q];rfl⟩
   ·exact .inr ⟨⟨s,by rw[q];rfl⟩,[s],rfl,oB,fun w hw=>by rw[List.mem_singleton]at hw;subst hw;exact⟨q1,q2⟩⟩
  ·simp only[qM,qL]at h hs hf;rw[e,qB,ax,Int.add_zero,dj (x:=(w.length:Int)) oA oA,ah,qkt]
   rcases hr w oA oA with q|⟨q,q1,q2⟩
   ·exact .inl ⟨_,by rw[q];rfl⟩
   ·rw[q,qB];simp only[ap];rw[show((List.length ([32]:Bs):Nat):Int)=1 from rfl,f8 _,ah,qpx]
    rcases ih r oA oA oA with⟨t,ht⟩|⟨⟨t,ht⟩,ws,i1,i2,i3⟩
    ·exact .inl ⟨t,ht⟩
    ·refine .inr ⟨⟨t,ht⟩,w::ws,?_,oB,fun v hv => ?_⟩
     ·cases ws with|nil=>exact absurd rfl i2|cons v ws=>rw[i1];rfl
     ·rcases List.mem_cons.1 hv with rfl|hv
      ·exact⟨q1,q2⟩
      ·exact i3 v hv
def zjs(s:Bs)(h0:s≠[])(h500:s.length<=500)(hv:Lib.validD s=true):∃W,qgn 100000000 s=some (ao W)/\(ao W).length<=400000/\((ao W).length<=4000->GnT 100000000 s W)/\qbl W/\b0 W:=by
 obtain⟨x,e,hr,hx,hw⟩:=zvy s h500 hv;have ws_done:∀ws:List Bs,Aws ws->qzo (eh ws) s->(eh ws).length<=100000->(ao (ke ws)).length<=400000/\((ao (ke ws)).length<=4000->GnT 100000000 s (ke ws))/\qbl (ke ws)/\b0 (ke ws):=fun ws hA hR hl=>by
  rw[q5k];refine⟨oA,fun hl=>⟨z4p ws,?_,zyt hA.1 hR hl oA,h0⟩,fun R h1 h2=>zzb hA h1 h2,zth⟩
  obtain⟨h,_⟩:=hA
  cases ws with|nil=>exact absurd rfl h|cons w ws=>simp[ke]
 unfold qgn;rw[e,qB];dsimp only;by_cases hxs:x=s
 ·subst hxs;rw[au oB]
  obtain⟨hq,hql⟩:=zjz x
  unfold ub qam;rw[qB,qB];dsimp only;unfold qyd;rw[au (by rfl)]
  rcases z0c 100000000 x oA _ hq [] 100000000 x oA oA oA with⟨t,ht⟩|⟨⟨t,ht⟩,ws,rfl,hA⟩
  ·rw[ht];refine⟨[(false,.wd x true)],?_,?_,fun _=>⟨?_,oB,zyr x,h0⟩,fun R h1 _=>⟨trivial,(fun w q=>by cases q),h1⟩,trivial⟩
   ·simp[ap,ao,cn,cz]
   ·simp[ao,cn,cz];omega
   ·intro y hy;rw[List.mem_singleton]at hy;subst hy;exact⟨x,true,rfl⟩
  ·rw[ht];exact⟨ke ws,by rw[q5k];rfl,ws_done ws hA hr oA⟩
 ·rw[a8 (by simp[hxs])]
  obtain⟨ws,rfl,hA⟩:=hw hxs;exact⟨ke ws,by rw[q5k],ws_done ws hA hr hx⟩
abbrev FU:Nat:=100000000
def VaA(a:Bs×Bs×Bs):Prop:=q9 a.1=some 0/\ti FU a.2.1=some true/\ra FU a.2.2=some true
def VaI(x:Bs×Bool×(List (Bs×Bs×Bs))):Prop:=q9 x.1=some 0/\(x.2.1=true↔x.1≠[])/\(x.2.1=false->x.2.2.length=1)/\∀a∈x.2.2,VaA a
def zf3{s:Bs}(h:q9 s=some 0):s.length<=500/\Lib.validD s=true:=by
 unfold q9 at h;by_cases h5:(500:Int)<(s.length:Int)
 ·rw[ah h5]at h;simp at h
 ·rw[ax h5]at h;unfold ic at h;rw[ah,qB]at h
  cases hv:Lib.validD s
  ·rw[hv]at h;simp at h
  ·exact⟨oA,rfl⟩
def lst(T:List BT):Prop:=∃S x,T=S++[x]/\∀t,cz x.2≠t++[32]
def zik{T:List BT}(h:lst T)(ho:cz (T.getLast?.getD (false,.sg 0)).2≠[]):∀t,ao T≠t++[32]:=by
 obtain⟨S,x,rfl,hx⟩:=h;intro t e;rw[List.getLast?_concat,Option.getD_some]at ho;rw[gh,dz,jz,List.append_nil]at e;obtain⟨b,tk⟩:=x;have e2:(ao S++(if b then[32] else[]))++cz tk=t++[32]:=by rw[qS];exact e
 obtain⟨l,c,hc⟩:∃l c,cz tk=l++[c]:=⟨(cz tk).dropLast,(cz tk).getLast ho,(List.dropLast_concat_getLast ho).symm⟩;rw[hc,← qS]at e2;have:=(List.append_inj' e2 rfl).2;simp only[List.cons.injEq,and_true]at this;exact hx l (by rw[hc,this])
def z2y(a:Bs×Bs×Bs)(h:VaA a):∃q,LoT FU a.2.1 q/\qgr FU a=some (ao (jh false a.2.1 a.2.2 q))/\(ao (jh false a.2.1 a.2.2 q)).length<=400000/\qbl (jh false a.2.1 a.2.2 q):=by
 obtain⟨_,hl,hd⟩:=h;obtain⟨nm,lo,dm⟩:=a;simp only[]at hl hd;have l1:=zyc hl;obtain⟨l2,d0,dw⟩:=zf7 oE hd
 obtain⟨b,hb,_⟩:=zvj FU oE lo
 have e64:(64:UInt8)∈mp:=oE
 unfold qgr;dsimp only;rw[hb,qB]
 cases b with
 |true=>
  obtain⟨h0,hw⟩:=zvk oE oA hb
  refine⟨false,⟨hl,fun _=>hb⟩,?_,?_,fun R h1 h2=>⟨⟨h0,hw⟩,fun _ _=>trivial,e64,(fun w q=>by cases q),⟨d0,dw⟩,fun _ _=>h2,h1⟩⟩
  ·rw[a8 rfl,ah oQ,ah oL]
   simp[ao,cn,cz]
  ·simp[ao,cn,cz];omega
 |false=>
  obtain⟨hq,hql⟩:=zjz lo
  refine⟨true,⟨hl,fun q=>by cases q⟩,?_,?_,fun R h1 h2=>⟨trivial,(fun w q=>by cases q),e64,(fun w q=>by cases q),⟨d0,dw⟩,fun _ _=>h2,h1⟩⟩
  ·rw[au rfl,hq,qB,ah oL,ah oL]
   simp[ao,cn,cz]
  ·simp[ao,cn,cz];omega
def WrA(a:Bs×Bs×Bs)(T:List BT):Prop:=qcn FU a=some (ao T)/\(ao T).length<=1000000/\((ao T).length<=4000->zi FU a T)/\qbl T/\b0 T/\∀t,ao T≠t++[32]
def zy1{w:Bs}(h:∀c∈w,cu c=true):∀t,w≠t++[32]:=fun t e=>by
 have:=h 32 (by rw[e];simp)
 rw[zmv]at this;cases this
def zim(a:Bs×Bs×Bs)(h:VaA a):∃T,WrA a T:=by
 obtain⟨q,hl,hs,hsl,hso⟩:=z2y a h;have hd:=h.2.2;obtain⟨l2,d0,dw⟩:=zf7 oE hd
 have e60:(60:UInt8)∈mp:=oE
 have e62:(62:UInt8)∈mp:=oE
 unfold WrA qcn;by_cases h0:a.1=[]
 ·refine⟨jh false a.2.1 a.2.2 q,?_,oA,fun _=>⟨q,hl,hd,.inl ⟨h0,rfl⟩⟩,hso,trivial,zik ⟨[(false,.wd a.2.1 q),(false,.sg 64)],(false,.wd a.2.2 false),rfl,zy1 dw⟩ d0⟩
  rw[a8 (by simp[h0]),hs];rfl
 ·obtain⟨v1,v2⟩:=zf3 h.1;obtain⟨W,p1,p2,p3,p4,p5⟩:=zjs a.1 h0 v1 v2;rw[au (by simp[h0]),p1,qB,ah oQ,hs,qB,ah oL,ah oL]
  have ht0:∀S:List BT,ao (W++(true,.sg 60)::(S++[(false,.sg 62)]))=((ao W++([32,60]:Bs))++ao S)++[62]:=fun S=>by
   rw[gh,dz,gh,dz,jz];simp[cn,cz]
  have ht:=ht0 (jh false a.2.1 a.2.2 q);refine⟨W++(true,.sg 60)::(jh false a.2.1 a.2.2 q++[(false,.sg 62)]),?_,?_,fun hle => ?_,fun R h1 h2 => ?_,?_,?_⟩
  ·rw[ht]
  ·rw[ht];simp only[qM,qL,qZ];omega
  ·rw[ht]at hle;simp only[qM]at hle;obtain⟨g1,g2,g3,g4⟩:=p3 oA
   exact⟨q,hl,hd,.inr ⟨h0,W,g1,g2,g3,rfl⟩⟩
  ·rw[qS];refine p4 _ ⟨e60,(fun w q=>by cases q),?_⟩ trivial
   exact(hso ((false,.sg 62)::R) ⟨e62,(fun w q=>by cases q),h1⟩ trivial:dc (jh false a.2.1 a.2.2 q++(false,.sg 62)::R))
  ·have W0:W≠[]:=fun q=>(p3 (by rw[q];simp[jz])).2.1 q
   match W,W0,p5 with|(false,t)::W,_,_=>exact trivial
  ·refine zik ⟨W++(true,.sg 60)::jh false a.2.1 a.2.2 q,(false,.sg 62),oB,fun t e => ?_⟩ ?_
   ·have:=congrArg List.getLast? e;rw[List.getLast?_concat]at this;simp[cz]at this
   ·rw[show W++(true,iz.sg 60)::(jh false a.2.1 a.2.2 q++[(false,iz.sg 62)])=(W++(true,iz.sg 60)::jh false a.2.1 a.2.2 q)++[(false,iz.sg 62)] by simp,List.getLast?_concat]
    simp[cz]
def q5j{T:List BT}(h:T≠[])(hb:b0 T):ao (bz T)=32::ao T:=by
 match T,h,hb with|(false,t)::T,_,_=>rw[bz,dz,dz];simp[cn]
def q31{T R:List BT}(h:dc (T++R))(h0:T≠[]):dc (bz T++R):=by
 match T,h0,h with|(b,t)::T,_,h=>exact⟨h.1,h.2.1,h.2.2⟩
def zh4(x y:Bs)(r:List Bs):Lib.join (x::y::r) [44,32]=x++([44,32]++Lib.join (y::r) [44,32]):=by
 rw[Lib.join_cons,Lib.join_cons];simp[Lib.joinTail]
def ziy:∀ms:List (Bs×Bs×Bs),(∀a∈ms,VaA a)->∃ts:List Bs,ms.map (qcn FU)=ts.map some/\(∀t∈ts,t.length<=1000000) /\
  (ms≠[]->∃T,Lib.join ts [44,32]=ao T/\((ao T).length<=4000->MsT FU ms T)/\T≠[]/\qbl T/\b0 T/\∀t,ao T≠t++[32])
 |[],_=>⟨[],rfl,(fun t h=>by cases h),fun q=>absurd rfl q⟩
 |[a],h=>by
  obtain⟨T,h1,h2,h3,h4,h5,h6⟩:=zim a (h a qH);refine⟨[ao T],by simp[h1],fun t ht=>by rw[List.mem_singleton]at ht;subst ht;exact h2,fun _=>⟨T,Lib.join_one _ _,fun hl => .one (h3 hl),?_,h4,h5,h6⟩⟩
  intro q;subst q;obtain⟨_,_,_,_,e⟩:=qdw (h3 (by simp[jz]))
  cases e
 |a::b::ms,h=>by
  obtain⟨T,h1,h2,h3,h4,h5,h6⟩:=zim a (h a qH);obtain⟨ts,i1,i2,i3⟩:=ziy (b::ms) (fun c hc=>h c (qE _ hc))
  obtain⟨T',j1,j2,j3,j4,j5,j6⟩:=i3 oB
  have hT:T≠[]:=by
   intro q;subst q;obtain⟨_,_,_,_,e⟩:=qdw (h3 (by simp[jz]))
   cases e
  have hx:ao (T++(false,.sg 44)::bz T')=ao T++([44,32]++ao T'):=by
   rw[gh,dz,q5j j3 j5];simp[cn,cz]
  refine⟨ao T::ts,by rw[List.map_cons,h1,i1];rfl,fun t ht => ?_,fun _=>⟨T++(false,.sg 44)::bz T',?_,fun hl => ?_,oB,fun R r1 r2 => ?_,?_,?_⟩⟩
  ·rcases List.mem_cons.1 ht with rfl|ht
   ·exact h2
   ·exact i2 t ht
  ·match ts,i1,j1 with|[],i1,_=>simp at i1|t::ts,_,j1=>rw[zh4,j1,hx]
  ·rw[hx]at hl;simp only[qM]at hl;exact .cons (h3 oA) (j2 oA)
  ·rw[qS];exact h4 _ ⟨(show(44:UInt8)∈mp by decide),(fun w q=>by cases q),q31 (j4 R r1 r2) j3⟩ trivial
  ·match T,hT,h5 with|(false,t)::T,_,_=>exact trivial
  ·intro t e;rw[hx]at e;have hne:ao T'≠[]:=by
    intro q;have:=j2 (by rw[q];simp)
    have hg:=qex (T:=T') (by have:=j4 [] trivial trivial;rwa [List.append_nil]at this)
    rw[q]at hg;exact j3 (List.length_eq_zero_iff.1 (by simpa using hg))
   obtain⟨l,c,hc⟩:∃l c,ao T'=l++[c]:=⟨(ao T').dropLast,(ao T').getLast hne,(List.dropLast_concat_getLast hne).symm⟩;rw[hc,← qS,← qS]at e;have:=(List.append_inj' e rfl).2;simp only[List.cons.injEq,and_true]at this;exact j6 l (by rw[hc,this])
def z36(t:Bs)(h:t.length<=100000000):w7 (t++[32]) [32]=some t:=by
 unfold w7 qnc qaf;have e:ae ((List.length (t++([32]:Bs)):Int)-(List.length ([32]:Bs):Int))=(t.length:Int):=by
  rw[dj (by simp<;>omega) (by simp<;>omega)];simp
 rw[ah (by simp<;>omega),e,ah (by simp<;>omega),q1y,qB,a8,ah (by simp<;>omega),qkt]
 rfl
def z35(t:Bs)(h:t.length<=100000000)(hn:∀s,t≠s++[32]):w7 t [32]=some t:=by
 unfold w7 qnc qaf;by_cases h1:(List.length ([32]:Bs):Int)<=(t.length:Int)
 ·have h2:1<=t.length:=by have:(1:Int)<=(t.length:Int):=h1;omega
  have e:ae ((t.length:Int)-(List.length ([32]:Bs):Int))=((t.length-1:Nat):Int):=by
   rw[dj (by simp<;>omega) (by simp<;>omega)];simp;omega
  rw[ah h1,e,ah,qB,au]
  ·rfl
  ·rw[show(((t.length-1:Nat):Int)).toNat=t.length-1 by omega]
   have:t=t.take (t.length-1)++t.drop (t.length-1):=(List.take_append_drop _ _).symm;refine Bool.eq_false_iff.2 fun q=>hn (t.take (t.length-1)) ?_
   rw[beq_iff_eq]at q;rw[q]at this;exact this
 ·rw[ax h1];rfl
abbrev zj:Type:=Bs×Bs×Bs
abbrev dv:Type:=Bs×Bool×(List zj)
def zs9{a:zj}{f:Int×Int}(h:qck FU a=some f)(h0:f.1=0):VaA a:=by
 obtain⟨d,hd,_⟩:=qpv FU oE a.1
 obtain⟨b1,hb1,_⟩:=zif FU oE a.2.1
 obtain⟨b2,hb2,_⟩:=zf6 FU oE a.2.2
 unfold qck at h;rw[hd,qB,jb]at h;by_cases c:d≠0
 ·rw[qX c]at h;have:=congrArg (Option.map Prod.fst) h;simp[bg]at this;omega
 ·rw[qW c,hb1,qB]at h;cases b1
  ·have:=congrArg (Option.map Prod.fst) h;simp[bg]at this;omega
  ·rw[ee,hb2,qB]at h;cases b2
   ·have:=congrArg (Option.map Prod.fst) h;simp[bg]at this;omega
   ·exact⟨by rw[hd,Classical.not_not.1 c],hb1,hb2⟩
def ztd(l:List zj)(hl:l.length<=80000000)(n:Nat):∀ab aa:List zj,l=ab++aa->aa.length<n->zu FU n l (l.length:Int) (ab.length:Int)=some 0->∀a∈aa,VaA a:=by
 induction n with
 |zero=>intro ab aa _ h;omega|succ n ih=>
  intro ab aa e h hq
  cases aa with
  |nil=>intro a ha;cases ha
  |cons a aa=>
   have ac:=congrArg List.length e;simp only[qM,qL]at ac h;rw[zu,ql9,ah,show am l (ab.length:Int)=some a by rw[e];exact cq _ _ _,qB]at hq
   obtain⟨f,hf,_⟩:=zdy FU oE a
   rw[hf,qB,va,qB,jb]at hq;by_cases c:f.1≠0
   ·rw[qX c]at hq;exact absurd (qJ hq) c
   ·rw[qW c,f8 _]at hq
    have:=ih (ab++[a]) aa (by rw[e];simp) oA (by rw[qM,wD];exact hq)
    intro b hb;rcases List.mem_cons.1 hb with rfl|hb
    ·exact zs9 hf (Classical.not_not.1 c)
    ·exact this b hb
def zr9{x:dv}(hx:x.2.2.length<=80000000)(h:qcl FU x=some 0):VaI x:=by
 obtain⟨d,hd,_⟩:=qpv FU oE x.1
 unfold qcl at h;rw[hd,qB,jb]at h;by_cases c:d≠0
 ·rw[qX c]at h;exact absurd (qJ h) c
 rw[qW c]at h;obtain⟨g,b,ms⟩:=x;simp only[]at hd h hx;have hd0:q9 g=some 0:=by rw[hd,Classical.not_not.1 c]
 have pt:∀x,rf FU true x≠some 0:=fun x q=>by
  unfold rf at q;rw[a8 rfl]at q;exact absurd (qJ q) oE
 have pf:rf FU false (g,(b,ms))=some 0->∀a∈ms,VaA a:=fun q=>by
  unfold rf qma at q;rw[au rfl]at q;exact ztd ms hx FU [] ms rfl oN q
 by_cases hg:g=[]
 ·subst hg
  cases b with
  |true=>exact absurd h (pt _)|false=>
   rw[au (by rfl),a8]at h
   by_cases hm:(ms.length:Int)=1
   ·rw[show((ms.length:Int) != (1:Int))=false by simp[hm]]at h
    exact⟨hd0,oB,fun _=>by simp only[];omega,pf h⟩
   ·rw[show((ms.length:Int) != (1:Int))=true by simp[hm]]at h
    exact absurd h (pt _)
 ·have hgb:(g==([]:Bs))=false:=by simp[hg]
  rw[hgb]at h
  cases b with
  |false=>exact absurd h (pt (g,(false,ms)))|true=>
   rw[au (by rfl),au (by rfl)]at h
   exact⟨hd0,⟨fun _=>hg,fun _=>rfl⟩,(fun q=>by cases q),pf h⟩
def zui(l:List dv)(hl:l.length<=2000000)(hm:∀x∈l,x.2.2.length<=2000000)(z f:Int×Int)(hf:f.1=0)(n:Nat):∀ab aa:List dv,l=ab++aa->aa.length<n->zo FU n l (l.length:Int) (ab.length:Int) z=some f->f=(0,0)/\∀x∈aa,VaI x:=by
 induction n with
 |zero=>intro ab aa _ h;omega|succ n ih=>
  intro ab aa e h hq;have ac:=congrArg List.length e;rw[qM]at ac;rw[zo,ql6]at hq
  cases aa with
  |nil=>
   rw[ax (by simp at ac;omega)]at hq
   exact⟨(qJ hq).symm,fun a ha=>by cases ha⟩
  |cons x aa=>
   simp only[qL]at ac h;have hxl:=hm x (by rw[e];simp)
   rw[ah,show am l (ab.length:Int)=some x by rw[e];exact cq _ _ _,qB]at hq
   obtain⟨c,hc,_⟩:=zd1 FU oE x
   rw[hc,qB,jb]at hq;by_cases c0:c≠0
   ·rw[qX c0]at hq;have:=congrArg (Option.map Prod.fst) hq;simp[bg]at this;omega
   ·rw[qW c0,f8 _]at hq
    obtain⟨i1,i2⟩:=ih (ab++[x]) aa (by rw[e];simp) oA (by rw[qM,wD];exact hq)
    refine⟨i1,fun y hy => ?_⟩
    rcases List.mem_cons.1 hy with rfl|hy
    ·exact zr9 oA (by rw[hc,Classical.not_not.1 c0])
    ·exact i2 y hy
def ig(l:List dv):Nat:=(l.map fun x=>x.2.2.length).sum
def qpn(x:dv)(l:List dv):ig (x::l)=x.2.2.length+ig l:=by simp[ig]
def zfk(a b:List dv):ig (a++b)=ig a+ig b:=by simp[ig]
def zfl:∀(l:List dv),(∀x∈l,x.2.2.length<=2000000)->ig l<=2000000*l.length
 |[],_=>by simp[ig]|x::l,h=>by
  have h1:=h x qH;have h2:=zfl l (fun y hy=>h y (qE _ hy))
  rw[qpn,qL];omega
def q1f:∀{l:List dv}{x:dv},x∈l->x.2.2.length<=ig l
 |y::l,x,h=>by
  rw[qpn];rcases List.mem_cons.1 h with rfl|h
  ·omega
  ·have:=q1f h;omega
def zug(l:List dv)(hl:l.length<=2000000)(hm:∀x∈l,x.2.2.length<=2000000)(z f:Int×Int)(hf:f.1=0)(n:Nat):∀ab aa:List dv,l=ab++aa->aa.length<n->zn FU n l (ig ab:Int) l (l.length:Int) (ab.length:Int) z=some f->f=(0,0)/\l.length<=60/\ig l<=60/\∀x∈l,VaI x:=by
 have hcl:=zfl l hm
 induction n with
 |zero=>intro ab aa _ h;omega|succ n ih=>
  intro ab aa e h hq;have ac:=congrArg List.length e;rw[qM]at ac;rw[zn,ql5]at hq
  cases aa with
  |nil=>
   rw[List.append_nil]at e;subst e;rw[ax]at hq
   have pt:wj FU l true z≠some f:=fun q=>by
    unfold wj at q;rw[a8 rfl]at q;have:=congrArg (Option.map Prod.fst) q;simp[bg]at this;omega
   by_cases h6:(60:Int)<(l.length:Int)
   ·rw[ah h6]at hq;exact absurd hq pt
   ·rw[ax h6]at hq;by_cases h7:(60:Int)<(ig l:Int)
    ·rw[decide_eq_true h7]at hq;exact absurd hq pt
    ·rw[decide_eq_false h7]at hq;unfold wj ql7 at hq;rw[au rfl]at hq;obtain⟨i1,i2⟩:=zui l hl hm z f hf FU [] l rfl oN hq
     exact⟨i1,oA,oA,i2⟩
  |cons x aa=>
   simp only[qL]at ac h;rw[ah,show am l (ab.length:Int)=some x by rw[e];exact cq _ _ _,qB,f8 _]at hq
   have hc:ig ab+x.2.2.length<=ig l:=by rw[e,zfk,qpn];omega
   rw[dj (x:=(ig ab:Int)+(x.2.2.length:Int)) oA oA]at hq
   refine ih (ab++[x]) aa (by rw[e];simp) oA ?_
   rw[qM,wD,zfk,qpn,show ig []=0 from rfl,show((ig ab+(x.2.2.length+0):Nat):Int)=(ig ab:Int)+(x.2.2.length:Int) by omega]
   exact hq
def zuj(l:List dv)(hl:l.length<=2000000)(hm:∀x∈l,x.2.2.length<=2000000){f:Int×Int}(h:zm FU l=some f)(hf:f.1=0):f=(0,0)/\l.length<=60/\ig l<=60/\∀x∈l,VaI x:=
 zug l hl hm _ f hf FU [] l rfl oN h
def z0f(r0:List dv->Int->Int->(Int×Int)->List Bs->Option (Bs×(Int×Int)))(s18:List dv)(s19 s20:Int)(ms:List zj)(hms:ms.length<=100000)(z:Int×Int)(x:dv)(out:List Bs)(n:Nat):∀(ab aa:List zj)(ts acc:List Bs),ms=ab++aa->aa.map (qcn FU)=ts.map some->aa.length<n->acc.length<=ab.length ->
  nt FU r0 n s18 s19 s20 ms (ms.length:Int) (ab.length:Int) z x acc out=nt FU r0 (n-aa.length) s18 s19 s20 ms (ms.length:Int) (ms.length:Int) z x (acc++ts) out:=by
 induction n with
 |zero=>intro ab aa ts acc _ _ h;omega|succ n ih=>
  intro ab aa ts acc e ht hn ha
  cases aa with
  |nil=>
   have:ts=[]:=by simpa using ht
   subst this;rw[e];simp
  |cons a aa=>
   have hl:=congrArg List.length e;simp only[qM,qL]at hl hn
   cases ts with
   |nil=>simp at ht|cons t ts=>
    simp only[List.map_cons,List.cons.injEq]at ht;rw[nt,qgl,ah,show am ms (ab.length:Int)=some a by rw[e];exact cq _ _ _,qB,ht.1,qB,ah (sv _ _),f8 _]
    have:=ih (ab++[a]) aa ts (acc++[t]) (by rw[e];simp) ht.2 oA oD
    rw[qM,wD]at this;rw[this,qS,qL,show n+1-(aa.length+1)=n-aa.length by omega]
    rfl
def zxr(ts:List Bs)(hl:ts.length<=1000)(h:∀t∈ts,t.length<=70000000):f9 ts [44,32]=some (Lib.join ts [44,32])/\(Lib.join ts [44,32]).length<=70000002*ts.length:=by
 have:=zh5 [44,32] 70000000 ts h;have e:(70000000+([44,32]:Bs).length)*ts.length=70000002*ts.length:=rfl;have h2:70000002*ts.length<=70000002*1000:=Nat.mul_le_mul oA hl
 unfold f9;exact⟨ah ⟨oA,oA⟩,oA⟩
def zxq(x:dv)(hx:VaI x)(hm:x.2.2.length<=60):∃T,(∀(r0:List dv->Int->Int->(Int×Int)->List Bs->Option (Bs×(Int×Int)))(s18:List dv)(s19 s20:Int)(z:Int×Int)(out:List Bs),out.length<=1000 ->
   nt FU r0 FU s18 s19 s20 x.2.2 (x.2.2.length:Int) 0 z x [] out=r0 s18 s19 (ae (s20+1)) z (out++[ao T]))/\(ao T).length<=70000000/\((ao T).length<=4000->xa FU x T)/\qbl T/\b0 T/\T≠[]:=by
 obtain⟨hd,hg,h1,hv⟩:=hx;obtain⟨g,b,ms⟩:=x;simp only[]at hd hg h1 hv hm;obtain⟨ts,t1,t2,t3⟩:=ziy ms hv;have htl:ts.length=ms.length:=by have:=congrArg List.length t1;simpa using this.symm
 have jl:=zh5 [44,32] 1000000 ts t2;have jl2:(1000000+([44,32]:Bs).length)*ts.length<=1000002*60:=Nat.mul_le_mul oB oA
 have hj:f9 ts [44,32]=some (Lib.join ts [44,32]):=by
  unfold f9;exact ah ⟨oA,oA⟩
 have run:∀(r0:List dv->Int->Int->(Int×Int)->List Bs->Option (Bs×(Int×Int)))(s18:List dv)(s19 s20:Int)(z:Int×Int)(x:dv)(out:List Bs),nt FU r0 FU s18 s19 s20 ms (ms.length:Int) 0 z x [] out=nt FU r0 (FU-ms.length-1+1) s18 s19 s20 ms (ms.length:Int) (ms.length:Int) z x ts out:=fun r0 s18 s19 s20 z x out=>by
  have:=z0f r0 s18 s19 s20 ms oA z x out FU [] ms ts [] rfl t1 oN oB
  rw[List.nil_append]at this;rw[show FU-ms.length-1+1=FU-ms.length by simp only[FU];omega]
  exact this
 have fin:∀(r0:List dv->Int->Int->(Int×Int)->List Bs->Option (Bs×(Int×Int)))(s18:List dv)(s19 s20:Int)(z:Int×Int)(t:Bs)(out:List Bs),out.length<=1000->qgm FU r0 t s18 s19 s20 z out=r0 s18 s19 (ae (s20+1)) z (out++[t]):=fun r0 s18 s19 s20 z t out ho=>by
  unfold qgm qtu;rw[ah (sv _ _)]
 cases b with
 |false=>
  have hg0:g=[]:=Classical.not_not.1 fun q=>by have:=hg.2 q;cases this
  subst hg0;have hm1:=h1 rfl;obtain⟨a,rfl⟩:∃a,ms=[a]:=by
   match ms,hm1 with|[w],_=>exact⟨w,rfl⟩|[],h=>simp at h|_::_::_,h=>simp only[qL]at h;omega
  obtain⟨T,j1,j2,j3,j4,j5,j6⟩:=t3 oB
  refine⟨T,fun r0 s18 s19 s20 z out ho => ?_,by rw[← j1];omega,fun hl => ?_,j4,j5,j3⟩
  ·dsimp only;rw[run,nt,qgl,ax,hj,qB,au rfl,j1]
   exact fin _ _ _ _ _ _ _ ho
  ·have:=j2 hl
   cases this with|one h=>exact .single h|cons _ h=>cases h
 |true=>
  have hg0:g≠[]:=hg.1 rfl;obtain⟨v1,v2⟩:=zf3 hd;obtain⟨W,p1,p2,p3,p4,p5⟩:=zjs g hg0 v1 v2;have W0:W≠[]:=fun q=>(p3 (by rw[q];simp[jz])).2.1 q
  have s58:(58:UInt8)∈mp:=oE
  have s59:(59:UInt8)∈mp:=oE
  have step:∀(r0:List dv->Int->Int->(Int×Int)->List Bs->Option (Bs×(Int×Int)))(s18:List dv)(s19 s20:Int)(z:Int×Int)(out:List Bs)(u:Bs),w7 ((ao W++([58,32]:Bs))++Lib.join ts [44,32]) [32]=some u->u.length<=100000000->out.length<=1000 ->
    nt FU r0 FU s18 s19 s20 ms (ms.length:Int) 0 z (g,(true,ms)) [] out=r0 s18 s19 (ae (s20+1)) z (out++[u++[59]]):=fun r0 s18 s19 s20 z out u hu hul ho=>by
   rw[run,nt,qgl,ax,hj,qB,a8 rfl]
   dsimp only;rw[p1,qB,ah oQ,ah oL,hu,qB,ah oQ]
   exact fin _ _ _ _ _ _ _ ho
  by_cases hm0:ms=[]
  ·subst hm0;have:ts=[]:=by simpa using t1.symm
   subst this;have hx:ao (W++[(false,.sg 58),(false,.sg 59)])=(ao W++[58])++[59]:=by
    rw[gh,dz,dz,jz];simp[cn,cz]
   refine⟨W++[(false,.sg 58),(false,.sg 59)],fun r0 s18 s19 s20 z out ho => ?_,by rw[hx];simp;omega,fun hl => ?_,fun R r1 r2 => ?_,?_,oB⟩
   ·rw[hx];refine step r0 s18 s19 s20 z out _ ?_ oD ho
    have e:(ao W++([58,32]:Bs))++Lib.join [] [44,32]=(ao W++[58])++[32]:=by rw[Lib.join_nil];simp
    rw[e];exact z36 _ oD
   ·rw[hx]at hl;simp only[qM]at hl;exact .grp0 (p3 oA)
   ·exact(by
     have:=p4 ((false,.sg 58)::(false,.sg 59)::R) ⟨s58,(fun w q=>by cases q),s59,(fun w q=>by cases q),r1⟩ trivial
     simpa using this)
   ·match W,W0,p5 with|(false,t)::W,_,_=>exact trivial
  ·obtain⟨T,j1,j2,j3,j4,j5,j6⟩:=t3 hm0;have hx:ao (W++(false,.sg 58)::(bz T++[(false,.sg 59)]))=((ao W++([58,32]:Bs))++ao T)++[59]:=by
    rw[gh,dz,gh,q5j j3 j5,dz,jz];simp[cn,cz]
   refine⟨W++(false,.sg 58)::(bz T++[(false,.sg 59)]),fun r0 s18 s19 s20 z out ho => ?_,by rw[hx,← j1];simp only[qM,qL,qZ];omega,fun hl => ?_,fun R r1 r2 => ?_,?_,oB⟩
   ·rw[hx];refine step r0 s18 s19 s20 z out _ ?_ (by rw[← j1];simp only[qM,qL,qZ];omega) ho
    rw[j1];refine z35 _ (by rw[← j1];simp only[qM,qL,qZ];omega) fun u e => ?_
    have hne:ao T≠[]:=fun q=>by
     have hg:=qex (T:=T) (by have:=j4 [] trivial trivial;rwa [List.append_nil]at this)
     rw[q]at hg;exact j3 (List.length_eq_zero_iff.1 (by simpa using hg))
    obtain⟨l,c,hc⟩:∃l c,ao T=l++[c]:=⟨(ao T).dropLast,(ao T).getLast hne,(List.dropLast_concat_getLast hne).symm⟩;rw[hc,← qS]at e;have:=(List.append_inj' e rfl).2;simp only[List.cons.injEq,and_true]at this;exact j6 l (by rw[hc,this])
   ·rw[hx]at hl;simp only[qM]at hl;exact .grp (p3 oA) (j2 oA)
   ·have h59:dc (bz T++(false,.sg 59)::R):=q31 (j4 ((false,.sg 59)::R) ⟨s59,(fun w q=>by cases q),r1⟩ trivial) j3
    have:=p4 ((false,.sg 58)::(bz T++(false,.sg 59)::R)) ⟨s58,(fun w q=>by cases q),h59⟩ trivial
    simpa using this
   ·match W,W0,p5 with|(false,t)::W,_,_=>exact trivial
def zhv(l:List dv)(hl:l.length<=60)(z:Int×Int):∀aa:List dv,aa.length<=60->(∀x∈aa,VaI x/\x.2.2.length<=60)->∃ts:List Bs,ts.length=aa.length/\(∀t∈ts,t.length<=70000000) /\
  (aa≠[]->∃T,Lib.join ts [44,32]=ao T/\((ao T).length<=4000->LsT FU aa T)/\qbl T/\b0 T/\T≠[]) /\
  ∀(n:Nat)(ab:List dv)(out:List Bs),l=ab++aa->aa.length<n->out.length<=ab.length->tg FU n l (l.length:Int) (ab.length:Int) z out=tg FU (n-aa.length) l (l.length:Int) (l.length:Int) z (out++ts)
 |[],_,_=>⟨[],rfl,(fun t h=>by cases h),(fun q=>absurd rfl q),fun n ab out e hn ho=>by rw[e];simp⟩
 |x::aa,hs,h=>by
  simp only[qL]at hs;obtain⟨hv,hm⟩:=h x qH;obtain⟨T,k1,k2,k3,k4,k5,k6⟩:=zxq x hv hm;obtain⟨ts,i1,i2,i3,i4⟩:=zhv l hl z aa oA (fun y hy=>h y (qE _ hy))
  refine⟨ao T::ts,by simp[i1],fun t ht => ?_,fun _ => ?_,fun n ab out e hn ho => ?_⟩
  ·rcases List.mem_cons.1 ht with rfl|ht
   ·exact k2
   ·exact i2 t ht
  ·cases aa with
   |nil=>
    have:ts=[]:=List.length_eq_zero_iff.1 (by simpa using i1)
    subst this;exact⟨T,Lib.join_one _ _,fun hl => .one (k3 hl),k4,k5,k6⟩
   |cons y aa=>
    obtain⟨T',j1,j2,j4,j5,j3⟩:=i3 oB
    have hx:ao (T++(false,.sg 44)::bz T')=ao T++([44,32]++ao T'):=by
     rw[gh,dz,q5j j3 j5];simp[cn,cz]
    refine⟨T++(false,.sg 44)::bz T',?_,fun hl => ?_,fun R r1 r2 => ?_,?_,oB⟩
    ·match ts,i1,j1 with|[],i1,_=>simp at i1|t::ts,_,j1=>rw[zh4,j1,hx]
    ·rw[hx]at hl;simp only[qM]at hl;exact .cons (k3 oA) (j2 oA)
    ·rw[qS];exact k4 _ ⟨(show(44:UInt8)∈mp by decide),(fun w q=>by cases q),q31 (j4 R r1 r2) j3⟩ trivial
    ·match T,k6,k5 with|(false,t)::T,_,_=>exact trivial
  ·have ac:=congrArg List.length e;simp only[qM,qL]at ac hn;obtain⟨n,rfl⟩:∃m,n=m+1:=⟨n-1,oA⟩
   rw[tg,ql8,ah,show am l (ab.length:Int)=some x by rw[e];exact cq _ _ _,qB,k1 _ _ _ _ _ _ oA,f8 _]
   have:=i4 n (ab++[x]) (out++[ao T]) (by rw[e];simp) oA oD
   rw[qM,wD]at this;rw[this,qS,qL,show n+1-(aa.length+1)=n-aa.length by omega]
   rfl
def z0n(l:List dv)(hl:l.length<=2000000)(hm:∀x∈l,x.2.2.length<=2000000):∃s f,qgk FU l=some (s,f)/\(f.1≠0->s=[])/\(f.1=0->s.length<=4000/\zp FU s=some (l,(0,0))):=by
 obtain⟨f,hf,_⟩:=zuk FU oE l oA (fun x hx=>by have:=hm x hx;omega)
 unfold qgk;rw[hf,qB,va,qB,jb];by_cases c:f.1≠0
 ·rw[qX c];exact⟨[],f,rfl,fun _=>rfl,fun q=>absurd q c⟩
 rw[qW c];obtain⟨rfl,h1,h2,h3⟩:=zuj l hl hm hf (Classical.not_not.1 c);obtain⟨ts,t1,t2,t3,t4⟩:=zhv l h1 (0,0) l h1 (fun x hx=>⟨h3 x hx,by have:=q1f hx;omega⟩)
 have hr:=t4 FU [] [] rfl oN oB
 rw[List.nil_append]at hr;have hr:tg FU FU l (l.length:Int) 0 (0,0) []=tg FU (FU-l.length) l (l.length:Int) (l.length:Int) (0,0) ts:=hr;rw[hr,show FU-l.length=(FU-l.length-1)+1 by simp only[FU];omega,tg,ql8,ax]
 obtain⟨j1,j2⟩:=zxr ts oA t2
 rw[j1,qB];by_cases h4:(4000:Int)<((Lib.join ts [44,32]).length:Int)
 ·rw[ah h4];exact⟨[],_,rfl,fun _=>rfl,fun q=>absurd q oE⟩
 rw[ax h4];refine⟨_,_,rfl,fun q=>absurd rfl q,fun _=>⟨oA,?_⟩⟩
 cases l with
 |nil=>
  have:ts=[]:=List.length_eq_zero_iff.1 (by simpa using t1)
  subst this;rw[Lib.join_nil];unfold zp;rw[ax]
  unfold zq qgj zt nu;have hn:=qkc FU oE [] oB (k:=0) ⟨rfl,oB⟩
  rw[show((0:Nat):Int)=0 from rfl]at hn
  rw[hn];simp only[qB,ap];unfold qcj;rw[hf];rfl
 |cons x l=>
  obtain⟨T,k1,k2,k3,k4,k5⟩:=t3 oB
  rw[k1]at h4 ⊢;have ho:dc T:=by have:=k3 [] trivial trivial;rwa [List.append_nil]at this
  exact zzy FU oE (k2 oA) oA ho hf (fun y hy=>by have:=q1f hy;omega)
def jt(s:List UInt8)(i:Nat):Bool:=bl (s.getD i 0) && !bl (s.getD (i-1) 0)
def cb(s:List UInt8):Nat->Nat->Nat->Nat|0,_,b=>b|m+1,i,b=>cb s m (i+1) (if jt s i && !(decide (0<b)&&decide (78<i)) then i else b)
def zfd(s:List UInt8):∀m i b,0<b->78<i->cb s m i b=b
 |0,_,_,_,_=>rfl|m+1,i,b,h1,h2=>by
  rw[cb,decide_eq_true h1,decide_eq_true h2];simp only[Bool.and_self,Bool.not_true,Bool.and_false,wJ,if_false];exact zfd s m (i+1) b h1 oA
def q08(s:List UInt8):∀m i b,cb s m i b=b\/(i<=cb s m i b/\cb s m i b<i+m/\jt s (cb s m i b)=true)
 |0,_,_ => .inl rfl|m+1,i,b=>by
  rw[cb];split
  ·rename_i h;simp only[qA]at h;rcases q08 s m (i+1) i with e|⟨h1,h2,h3⟩
   ·rw[e];exact .inr ⟨wF _,oA,h.1⟩
   ·exact .inr ⟨oA,oA,h3⟩
  ·rcases q08 s m (i+1) b with e|⟨h1,h2,h3⟩
   ·exact .inl e
   ·exact .inr ⟨oA,oA,h3⟩
def qjp(s:List UInt8)(i:Nat)(h:i<s.length):s.getD i 0=s[i]:=by simp[List.getD_eq_getElem?_getD,h]
def z0k(fu n:Nat):∀(s:List UInt8)(m i b:Nat),i+m=s.length->1<=i->m<n->s.length<1000000000->qg5 fu n s (b:Int) (i:Int)=some ((cb s m i b:Nat):Int):=by
 induction n with
 |zero=>intro s m i b _ _ h;omega|succ n ih=>
  intro s m i b hi h1 hm hb;rw[qg5,qvi]
  cases m with
  |zero=>rw[ax];rfl|succ m=>
   have hlt:i<s.length:=oA
   have hlt':i-1<s.length:=oA
   rw[ah,sf _ _ hlt,qB,qa3,qB,cb]
   unfold jt;rw[qjp _ _ hlt,qjp _ _ hlt'];unfold qmz;cases bl s[i]
   ·rw[pw,a8,b9 _]
    exact ih s m (i+1) b oA oA oA hb
   ·rw[ee,show ae ((i:Int)-1)=((i-1:Nat):Int) by rw[dj];omega,sf _ _ hlt',qB,qa3,qB]
    cases bl s[i-1]
    ·rw[au (by rfl),b9 _,cm,cm]
     by_cases q1:0<b
     ·rw[qX,decide_eq_true q1]
      by_cases q2:78<i
      ·rw[qX,decide_eq_true q2]
       simp only[Bool.and_self,Bool.not_true,Bool.and_false,wJ,if_false];rw[zfd s m (i+1) b q1 oA]
      ·rw[qW oA,decide_eq_false q2]
       exact ih s m (i+1) i oA oA oA hb
     ·rw[qW oA,decide_eq_false q1]
      exact ih s m (i+1) i oA oA oA hb
    ·rw[a8,b9 _]
     exact ih s m (i+1) b oA oA oA hb
def gn(s:List UInt8)(k:Nat):Nat:=cb s (s.length-k) k 0
def z0j(fu:Nat)(s:List UInt8)(k:Nat)(h:s.length<fu)(hb:s.length<1000000000)(hk:k<=s.length)(h0:1<=s.length):qmy fu s (k:Int)=some ((gn s (max k 1):Nat):Int):=by
 unfold qmy gn;have e:(if(1:Int)>(k:Int) then(1:Int) else(k:Int))=((max k 1:Nat):Int):=by
  split
  ·rename_i h;have:k=0:=oA
   subst this;rfl
  ·rename_i h;rw[Nat.max_eq_left oA]
 rw[e];exact z0k fu fu s (s.length-max k 1) (max k 1) 0 oA oA oA hb
def fk:Nat->List UInt8->Nat->List (List UInt8)|0,s,_=>[s]|n+1,s,k=>if 78<s.length then(if gn s k=0 then[s] else s.take (gn s k)::fk n (s.drop (gn s k)) 1) else[s]
def qpc(s:List UInt8)(k:Nat)(_h1:1<=k)(h:gn s k≠0):k<=gn s k/\gn s k<s.length/\jt s (gn s k)=true:=by
 unfold gn at *;rcases q08 s (s.length-k) k 0 with e|⟨h2,h3,h4⟩
 ·exact absurd e h
 ·exact⟨h2,oA,h4⟩
def si:Nat->List (List UInt8)->Option Nat|_,[]=>none|i,l::ls=>if 998<l.length then some i else si (i+1) ls
def ye(ls:List (List UInt8)):(Int×Int)×List (List UInt8):=match si 0 ls with|some i=>((1,(i:Int)),[])|none=>((0,0),ls)
def zul(fu n:Nat)(m16:Int×Int):∀(ab aa:List (List UInt8)),aa.length<n->ab.length+aa.length<1000000000 ->
  qg4 fu n ((ab.length+aa.length:Nat):Int) (ab.length:Int) m16 (ab++aa)=some (match si ab.length aa with|some i=>((1,(i:Int)),[])|none=>((0,0),ab++aa)):=by
 induction n with
 |zero=>intro ab aa h;omega|succ n ih=>
  intro ab aa h hb;rw[qg4,qvg]
  cases aa with
  |nil=>rw[ax];rfl|cons c aa=>
   simp only[qL]at h hb ⊢;rw[ah,qkk,cq,qB,cm,si]
   by_cases hc:998<c.length
   ·rw[qX,qX hc];rfl
   ·rw[qW oA,qW hc,b9 _]
    have:=ih (ab++[c]) aa oA oD
    simp only[qS,wM,qM,qL,qZ]at this;rw[show ab.length+(0+1)+aa.length=ab.length+(aa.length+1) by omega]at this
    exact this
def zg1(fu:Nat)(m16:Int×Int)(s:List UInt8)(out:List (List UInt8))(h:out.length+1<fu:=by omega)(hb:out.length<900000000:=by omega):qg3 fu s m16 out=some (ye (out++[s])):=by
 unfold qg3;rw[ah oJ]
 have:=zul fu fu m16 [] (out++[s]) (by simpa using h) oD
 simp only[List.nil_append,qZ,wO]at this;exact this
def zwg(fu n:Nat)(m16:Int×Int):∀(m:Nat)(s:List UInt8)(k k':Nat)(out:List (List UInt8)),s.length<=m->s.length<n->max k 1=k'->(78<s.length->k<=s.length)->s.length+out.length+1<fu->s.length+out.length<500000000 ->
  qg2 fu n s (k:Int) m16 out=some (ye (out++fk m s k')):=by
 induction n with
 |zero=>intro m s k k' out _ h;omega|succ n ih=>
  intro m s k k' out hm h hk hk2 hf hb;rw[qg2,qvf,cm];by_cases hl:78<s.length
  ·obtain⟨m,rfl⟩:∃j,m=j+1:=⟨m-1,oA⟩
   rw[qX,z0j fu s k oA oA (hk2 hl) oA,hk,qB,ur,fk,qX hl]
   by_cases h0:gn s k'=0
   ·rw[qX,qX h0]
    exact zg1 fu m16 s out
   ·obtain⟨h1,h2,_⟩:=qpc s k' oA h0
    rw[qW oA,qW h0,ah,ah oJ,ah]
    have:=ih m (s.drop (gn s k')) 0 1 (out++[s.take (gn s k')]) (by rw[List.length_drop];omega) (by rw[List.length_drop];omega) rfl (by intro;omega) (by rw[List.length_drop,qM,wD];omega) (by rw[List.length_drop,qM,wD];omega)
    simpa using this
  ·rw[qW oA]
   have e:fk m s k'=[s]:=by cases m with|zero=>rfl|succ m=>rw[fk,qW hl]
   rw[e];exact zg1 fu m16 s out
def bt(n v:List UInt8):List UInt8:=n++[58,32]++v
def dt(n v:List UInt8):List (List UInt8):=fk (bt n v).length (bt n v) (n.length+2)
def nh(n v:List UInt8):(Int×Int)×List (List UInt8):=if oo n v=0 then ye (dt n v) else((oo n v,-1),[])
def qjj{s:List UInt8}(h:gz s=true):s.length<=60:=by
 unfold gz at h;simp only[qA,decide_eq_true_eq]at h;exact h.1.2
def qef{n v:List UInt8}(h:oo n v=0):gz n=true/\v.length<=4000/\sc v=true:=by
 unfold oo at h;split at h
 ·rename_i h1;split at h
  ·exact absurd h oE
  ·rename_i h2;split at h
   ·rename_i h3;exact⟨h1,oA,h3⟩
   ·exact absurd h oE
 ·exact absurd h oE
def q2i(fu:Nat)(n v:List UInt8)(hfu:10000<=fu:=by omega)(hv:v.length<fu:=by omega)(hvb:v.length<1000000000:=by omega):qc3 fu n v=some (nh n v):=by
 unfold qc3 nh;rw[zwc fu n,qB]
 by_cases h0:oo n v=0
 ·obtain⟨h1,h2,h3⟩:=qef h0;have hn:=qjj h1;rw[qX h0,h1,ee,ax,zg5 fu v oA hv hvb,qB,h3,ee,ah oU,ah oU]
  have:=zwg fu fu (0,0) (bt n v).length (bt n v) (n.length+2) (n.length+2) [] (wF _) (by simp[bt]<;>omega) oA (by intro;simp[bt]<;>omega) (by simp[bt]<;>omega) (by simp[bt]<;>omega)
  rw[show ae ((n.length:Int)+2)=((n.length+2:Nat):Int) by rw[dj];omega]
  exact this
 ·rw[qW h0];unfold oo at h0 ⊢;cases hn:gz n
  ·rfl
  ·rw[hn]at h0;simp only[if_true]at h0 ⊢;rw[ee,cm];by_cases hl:4000<v.length
   ·rw[qX,qX hl];rfl
   ·rw[qW hl]at h0;rw[qW oA,qW hl,zg5 fu v oA hv hvb,qB]
    cases hv3:sc v
    ·rfl
    ·rw[hv3]at h0;exact absurd rfl h0
def pts(s:List UInt8)(i m:Nat):List Nat:=(List.range' i m).filter (jt s)
def q4i(s:List UInt8)(i m:Nat):pts s i (m+1)=(if jt s i then[i] else[])++pts s (i+1) m:=by
 unfold pts;rw[List.range'_succ,List.filter_cons];split<;>rfl
def z0p(s:List UInt8)(i m k:Nat):pts s i (m+k)=pts s i m++pts s (i+m) k:=by
 unfold pts;rw[← List.filter_append];congr 1;rw[List.range'_append_1]
def z0r(s:List UInt8)(i m:Nat):(pts s i m).length<=m:=by
 unfold pts;have:=List.length_filter_le (jt s) (List.range' i m);simpa using this
def ij(at_ b p:Nat):Nat:=if at_<p/\(p-at_<=78\/b=0) then p-at_ else b
def zxj(s:List UInt8)(a i:Nat)(h:a<i):jt (s.drop a) (i-a)=jt s i:=by
 unfold jt;simp only[List.getD_eq_getElem?_getD,List.getElem?_drop];rw[show a+(i-a)=i by omega,show a+(i-a-1)=i-1 by omega]
def q4u(s:List UInt8)(a:Nat):∀m i b,a<i->(pts s i m).foldl (ij a) b=cb (s.drop a) m (i-a) b
 |0,_,_,_=>rfl|m+1,i,b,h=>by
  rw[q4i,List.foldl_append,cb,zxj s a i h,show i-a+1=i+1-a by omega,← q4u s a m (i+1) _ oA]
  congr 1;cases jt s i
  ·rfl
  ·simp only[if_true,List.foldl_cons,List.foldl_nil,ij,Bool.true_and];by_cases q1:0<b
   ·by_cases q2:78<i-a
    ·rw[qW oA,qW (by simp[q1,q2])]
    ·rw[qX,qX]
   ·rw[qX,qX]
def zk2(s:List UInt8)(a:Nat):∀m i b,i+m<=a+1->(pts s i m).foldl (ij a) b=b
 |0,_,_,_=>rfl|m+1,i,b,h=>by
  rw[q4i,List.foldl_append];have e:(if jt s i=true then[i] else[]).foldl (ij a) b=b:=by
   split
   ·simp only[List.foldl_cons,List.foldl_nil,ij];rw[qW oA]
   ·rfl
  rw[e];exact zk2 s a m (i+1) b oA
def z17(s:List UInt8)(a k0:Nat)(h1:1<=k0)(h:a=0\/k0<=a)(ha:a<s.length)(hk:k0<=s.length):(pts s k0 (s.length-k0)).foldl (ij a) 0=gn (s.drop a) (if a=0 then k0 else 1):=by
 unfold gn;by_cases h0:a=0
 ·subst h0;rw[qX rfl,q4u s 0 _ k0 0 oA]
  simp
 ·rw[qW h0,show s.length-k0=(a+1-k0)+(s.length-a-1) by omega,z0p,List.foldl_append,zk2 s a (a+1-k0) k0 0 oA,show k0+(a+1-k0)=a+1 by omega,q4u s a _ _ _ oA,List.length_drop]
  rw[show a+1-a=1 by omega]
def plc(a b:Nat):Int:=if b=0 then -1 else((a+b:Nat):Int)
def zw7(fu:Nat)(r2:List UInt8->Int->List Int->List (List UInt8)->Option (List (List UInt8)))(n:Nat):∀(s:List UInt8)(a b:Nat)(ab:List Int)(aa:List Nat)(out:List (List UInt8)),aa.length<n->ab.length+aa.length<1000000000->(∀p∈aa,p<s.length)->a<=s.length->s.length<1000000000->a+b<=s.length->out.length<1000000000 ->
  zk fu r2 n s (a:Int) (plc a b) (ab.length:Int) (ab++aa.map Nat.cast) out=(if aa.foldl (ij a) b=0 then some (out++[s.drop a]) else r2 s ((a+aa.foldl (ij a) b:Nat):Int) (ab++aa.map Nat.cast) (out++[(s.drop a).take (aa.foldl (ij a) b)])):=by
 induction n with
 |zero=>intro s a b ab aa out h;omega|succ n ih=>
  intro s a b ab aa out h hb hp ha hs hab ho;rw[zk,qtf]
  cases aa with
  |nil=>
   rw[ax,List.foldl_nil,cm]
   unfold plc;by_cases h0:b=0
   ·rw[qX h0,qX,qX h0,ah,ah oJ]
    simp
   ·rw[qW h0,qW oA,qW h0,ah,ah oJ]
    rw[show((a+b:Nat):Int).toNat-(a:Int).toNat=b by omega]
    simp
  |cons p aa=>
   simp only[qL]at h hb;have hp0:=hp p qH;rw[List.map_cons];have hl:((ab++(p:Int)::aa.map Nat.cast).length:Int)=((ab.length+aa.length+1:Nat):Int):=by simp;omega
   rw[hl,ah]
   have hlt:(0<=(ab.length:Int)/\(ab.length:Int).toNat<(ab++(p:Int)::aa.map Nat.cast).length):=oB
   rw[ah hlt,qei,qB,List.foldl_cons];have fin:∀b',a+b'<=s.length->zk fu r2 n s (a:Int) (plc a b') (ae ((ab.length:Int)+1)) (ab++(p:Int)::aa.map Nat.cast) out=(if aa.foldl (ij a) b'=0 then some (out++[s.drop a]) else r2 s ((a+aa.foldl (ij a) b':Nat):Int) (ab++(p:Int)::aa.map Nat.cast) (out++[(s.drop a).take (aa.foldl (ij a) b')])):=by
    intro b' hb';have:=ih s a b' (ab++[(p:Int)]) aa out oA oD (fun q hq=>hp q (qE _ hq)) ha hs hb' ho
    rw[b9 _]
    simpa using this
   unfold qf9 qlz;rw[cm];by_cases q1:a<p
   ·have e1:ae ((p:Int)-(a:Int))=((p-a:Nat):Int):=by rw[dj];omega
    have e2:(p:Int)=plc a (p-a):=by unfold plc;rw[qW oA];omega
    rw[qX,e1,cm]
    by_cases q2:p-a<=78
    ·rw[qX,a8,show ij a b p=p-a by unfold ij;rw[qX ⟨q1,.inl q2⟩],← fin (p-a) oA,← e2]
    ·rw[qW oA]
     by_cases q3:b=0
     ·rw[a8 (by unfold plc;rw[qX q3];rfl),show ij a b p=p-a by unfold ij;rw[qX ⟨q1,.inr q3⟩],← fin (p-a) oA,← e2]
     ·rw[au (by unfold plc;rw[qW q3];exact decide_eq_false oA),show ij a b p=b by unfold ij;rw[qW oA],fin b hab]
   ·rw[qW oA,au (by rfl),show ij a b p=b by unfold ij;rw[qW oA],fin b hab]
def zjp(fu n:Nat)(s:List UInt8)(k0:Nat)(hk1:1<=k0)(hk:k0<=s.length)(hs:s.length<500000000)(hfu:s.length<fu):∀(m a:Nat)(out:List (List UInt8)),s.length-a<=m->s.length-a<n->(a=0\/k0<=a)->a<s.length->out.length+(s.length-a)<500000000 ->
  tf fu n s (a:Int) ((pts s k0 (s.length-k0)).map Nat.cast) out=some (out++fk m (s.drop a) (if a=0 then k0 else 1)):=by
 induction n with
 |zero=>intro m a out _ h;omega|succ n ih=>
  intro m a out hm h hz ha ho;rw[tf,qlw,show ae ((s.length:Int)-(a:Int))=((s.length-a:Nat):Int) by rw[dj];omega,cm]
  have ac:(s.drop a).length=s.length-a:=List.length_drop;by_cases hl:78<s.length-a
  ·obtain⟨m,rfl⟩:∃j,m=j+1:=⟨m-1,oA⟩
   have hpl:=z0r s k0 (s.length-k0);have hin:=zw7 fu (tf fu n) fu s a 0 [] (pts s k0 (s.length-k0)) out oA oD (fun p hp=>by
    unfold pts at hp;rw[List.mem_filter,List.mem_range'_1]at hp;omega) oA oA oA oA
   rw[z17 s a k0 hk1 hz ha hk]at hin;simp only[List.nil_append,qZ]at hin;rw[qX,fk,ac,qX hl]
   have hin:zk fu (tf fu n) fu s (a:Int) (-1) 0 ((pts s k0 (s.length-k0)).map Nat.cast) out=_:=hin;rw[hin];by_cases h0:gn (s.drop a) (if a=0 then k0 else 1)=0
   ·rw[qX h0,qX h0]
   ·obtain⟨h1,h2,_⟩:=qpc (s.drop a) (if a=0 then k0 else 1) (by split<;>omega) h0
    rw[qW h0,qW h0];generalize hB:gn (s.drop a) (if a=0 then k0 else 1)=B at *
    have:=ih m (a+B) (out++[(s.drop a).take B]) oA oA (.inr (by
     split at h1
     ·omega
     ·rcases hz with hz|hz<;>omega)) oA (by rw[qM,wD];split at h1<;>omega)
    rw[qW (by split at h1<;>omega)]at this
    rw[this];simp[List.drop_drop]
  ·rw[qW oA,ah,ah oJ]
   have e:fk m (s.drop a) (if a=0 then k0 else 1)=[s.drop a]:=by cases m with|zero=>rfl|succ m=>rw[fk,ac,qW hl]
   rw[e];simp
def z0q(fu n:Nat):∀(s:List UInt8)(m i:Nat)(acc:List Int),i+m=s.length->1<=i->m<n->s.length<1000000000->acc.length+m<1000000000 ->
  qcf fu n s (i:Int) acc=tf fu fu s 0 (acc++(pts s i m).map Nat.cast) []:=by
 induction n with
 |zero=>intro s m i acc _ _ h;omega|succ n ih=>
  intro s m i acc hi h1 hm hb ha;rw[qcf,qlv]
  cases m with
  |zero=>rw[ax];simp[pts]|succ m=>
   have hlt:i<s.length:=oA
   have hlt':i-1<s.length:=oA
   rw[ah,sf _ _ hlt,qB,qke,qB,q4i]
   unfold qlx qly;rw[show jt s i=(bl s[i] && !bl s[i-1]) by unfold jt;rw[qjp _ _ hlt,qjp _ _ hlt']]
   cases bl s[i]
   ·rw[au (by rfl),au (by rfl),b9 _]
    exact ih s m (i+1) acc oA oA oA hb oA
   ·rw[a8,show ae ((i:Int)-1)=((i-1:Nat):Int) by rw[dj];omega,sf _ _ hlt',qB,qke,qB]
    cases bl s[i-1]
    ·rw[pw,ah oJ,b9 _]
     have:=ih s m (i+1) (acc++[(i:Int)]) oA oA oA hb oD
     simpa using this
    ·rw[ee,b9 _]
     exact ih s m (i+1) acc oA oA oA hb oA
def zty(n v:List UInt8):gn (bt n v) (n.length+2)=gn (bt n v) (n.length+3):=by
 unfold gn
 cases v with
 |nil=>rw[show(bt n []).length=n.length+2 by simp[bt]];simp[cb]|cons c v=>
  have hl:(bt n (c::v)).length=n.length+3+v.length:=by simp[bt];omega
  rw[hl,show n.length+3+v.length-(n.length+2)=v.length+1 by omega,show n.length+3+v.length-(n.length+3)=v.length by omega,cb]
  have:jt (bt n (c::v)) (n.length+2)=false:=by
   unfold jt;have e:(bt n (c::v)).getD (n.length+2-1) 0=32:=by
    rw[show bt n (c::v)=(n++[58])++32::c::v by simp[bt],show n.length+2-1=(n++[58]).length by simp]
    simp[List.getD_eq_getElem?_getD]
   rw[e];cases bl ((bt n (c::v)).getD (n.length+2) 0)<;>rfl
  rw[this];rfl
def zwb(n v:List UInt8):fk (bt n v).length (bt n v) (n.length+3)=dt n v:=by
 unfold dt
 cases h:(bt n v).length with|zero=>rfl|succ m=>rw[fk,fk,zty]
def zg0(fu:Nat)(n v:List UInt8)(h:n.length+v.length+3<fu:=by omega)(hb:n.length+v.length<400000000:=by omega):qf8 fu n v=some (dt n v):=by
 unfold qf8;have hl:(bt n v).length=n.length+2+v.length:=by simp[bt];omega
 rw[ah oU,ah oU]
 rw[show n++([58,32]:List UInt8)++v=bt n v from rfl,show ae ((n.length:Int)+3)=((n.length+3:Nat):Int) by rw[dj];omega]
 cases v with
 |nil=>
  obtain⟨k,rfl⟩:∃k,fu=k+1:=⟨fu-1,oA⟩
  simp only[qZ]at h hl;rw[qcf,qlv,ax]
  -- too short for points
  by_cases hn:78<n.length+2
  ·have:=zjp (k+1) (k+1) (bt n []) (n.length+2) oA oA oA oA (bt n []).length 0 [] oA oA (.inl rfl) oA oD
   rw[show(bt n []).length-(n.length+2)=0 by omega]at this
   exact this
  ·rw[tf,qlw,show ae (((bt n []).length:Int)-0)=((bt n []).length:Int) by rw[dj];omega,ax,ah,ah (by simp[aq])]
   unfold dt;rw[show fk (bt n []).length (bt n []) (n.length+2)=[bt n []] by
    rw[hl,show n.length+2+0=n.length+1+1 by omega,fk,qW oA]]
   rfl
 |cons c v=>
  simp only[qL]at h hb hl;have:=z0q fu fu (bt n (c::v)) v.length (n.length+3) [] oA oA oA oA oD
  rw[this,List.nil_append,← zwb];have:=zjp fu fu (bt n (c::v)) (n.length+3) oA oA oA oA (bt n (c::v)).length 0 [] oA oA (.inl rfl) oA oD
  rw[show(bt n (c::v)).length-(n.length+3)=v.length by omega]at this
  exact this
def z03(fu n:Nat)(m16:Int×Int):∀(ab aa:List (List UInt8)),aa.length<n->ab.length+aa.length<1000000000 ->
  qf7 fu n (ab.length:Int) m16 (ab++aa)=some (match si ab.length aa with|some i=>(1,(i:Int))|none=>(0,0)):=by
 induction n with
 |zero=>intro ab aa h;omega|succ n ih=>
  intro ab aa h hb;rw[qf7,qte]
  cases aa with
  |nil=>rw[ax];rfl|cons c aa=>
   simp only[qL]at h hb;rw[qd,ah,qkk,cq,qB,cm,si]
   by_cases hc:998<c.length
   ·rw[qX,qX hc];rfl
   ·rw[qW oA,qW hc,b9 _]
    have:=ih (ab++[c]) aa oA oD
    simpa using this
def q2h:∀(m:Nat)(s:List UInt8)(k:Nat),s.length<=m->1<=k->(fk m s k).length<=s.length+1
 |0,s,_,_,_=>by simp[fk]|m+1,s,k,h,hk=>by
  rw[fk];split
  ·split
   ·simp
   ·rename_i h0;obtain⟨h1,h2,_⟩:=qpc s k hk h0;have:=q2h m (s.drop (gn s k)) 1 (by rw[List.length_drop];omega) oA
    rw[List.length_drop]at this;rw[qL];omega
  ·simp
def zx8(ls:List (List UInt8)):(ye ls).1=(match si 0 ls with|some i=>(1,(i:Int))|none=>(0,0)):=by
 unfold ye;split<;>simp_all
def zwe(fu:Nat)(n v:List UInt8)(hfu:10000<=fu:=by omega)(hn:n.length<fu:=by omega)(hv:v.length<fu:=by omega)(hnb:n.length<1000000000:=by omega)(hvb:v.length<1000000000:=by omega):qlu fu n v=some (nh n v).1:=by
 unfold qlu nh;rw[z04 fu n v oA hn hv hnb hvb,qB,jb]
 by_cases h0:oo n v=0
 ·obtain⟨h1,h2,_⟩:=qef h0;have hl:=qjj h1;rw[qW oA,qX h0,zg0 fu n v,qB,zx8]
  have:=q2h (bt n v).length (bt n v) (n.length+2) (wF _) oA
  have hle:(bt n v).length=n.length+2+v.length:=by simp[bt];omega
  have:=z03 fu fu (0,0) [] (dt n v) (by unfold dt;omega) (by unfold dt;simp;omega)
  exact this
 ·rw[qX h0,qW h0];rfl
def q2r{α:Type}(ab:List α)(c d:α)(aa:List α):am (ab++c::d::aa) ((ab.length+1:Nat):Int)=some d:=by
 have:=cq (ab++[c]) d aa;simpa using this
def js(c:UInt8)(r:List UInt8):Bool:=c==13&&r.head? == some 10
def qqm{c:UInt8}{r:List UInt8}(h:js c r=true):c=13/\∃r',r=10::r':=by
 unfold js at h;simp only[qA,beq_iff_eq]at h;refine⟨h.1,?_⟩
 cases r with|nil=>simp at h|cons d r=>simp at h;exact⟨r,by rw[h.2]⟩
def eo:List UInt8->List UInt8|[]=>[]|c::r=>if js c r then 13::10::eo r.tail else if c=13\/c=10 then 13::10::eo r else c::eo r
termination_by l=>l.length
decreasing_by all_goals (simp only[qL,List.length_tail];omega)
def qjc:eo []=[]:=by rw[eo]
def q12(c:UInt8)(r:List UInt8):eo (c::r)=if js c r then 13::10::eo r.tail else if c=13\/c=10 then 13::10::eo r else c::eo r:=by rw[eo]
def zv1(n:Nat):∀s:List UInt8,s.length<=n->(eo s).length<=2*s.length:=by
 induction n with
 |zero=>intro s h;have:=List.length_eq_zero_iff.1 (Nat.le_zero.1 h);subst this;rw[qjc];simp|succ n ih=>
  intro s h
  cases s with
  |nil=>rw[qjc];simp|cons c r=>
   simp only[qL]at h ⊢;rw[q12];split
   ·have:=ih r.tail (by rw[List.length_tail];omega)
    rw[List.length_tail]at this;simp only[qL];omega
   ·have:=ih r oA
    split<;>(simp only[qL];omega)
def zya(fu n:Nat):∀(ab aa out:List UInt8),aa.length<n->ab.length+aa.length<100000000->out.length+2*aa.length<1000000000 ->
  qag fu n (ab++aa) (ab.length:Int) out=some (out++eo aa):=by
 induction n with
 |zero=>intro ab aa out h;omega|succ n ih=>
  intro ab aa out h hb ho;rw[qag,qwm]
  cases aa with
  |nil=>rw[ax,qjc,List.append_nil]|cons c r=>
   simp only[qL]at h hb ho;have one:∀out',out'.length<=out.length+2->qag fu n (ab++c::r) (ae ((ab.length:Int)+1)) out'=some (out'++eo r):=fun out' ho'=>by
    have:=ih (ab++[c]) r out' oA oD oA
    rw[b9 _]
    simpa using this
   have fin:∀f,f=js c r->qdd fu (qag fu n) (ab++c::r) (ab.length:Int) f out=some (out++eo (c::r)):=by
    intro f hf;unfold qdd;rw[q12,hf];cases hc:js c r
    ·rw[au (by rfl),qW oE,cq,qB]
     unfold qnh;rw[rt];by_cases h13:c=13
     ·rw[qX h13,qX (.inl h13),a8,ah oJ,one _ oB]
      simp
     ·rw[qW h13,cq,qB,rt];by_cases h10:c=10
      ·rw[qX h10,qX (.inr h10),ah oJ,one _ oB]
       simp
      ·rw[qW h10,qW (by simp[h13,h10]),qB,ah oJ,one _ oB]
       simp
    ·obtain⟨rfl,r',rfl⟩:=qqm hc;simp only[qL]at h hb ho;rw[a8,qX rfl,ah oJ,b9 _,b9 _,show ab.length+1+1=ab.length+2 from rfl]
     have:=ih (ab++[13,10]) r' (out++[13,10]) oA oD oD
     simpa using this
   rw[qd,ah,cq,qB,rt]
   by_cases h13:c=13
   ·subst h13;rw[qX rfl,b9 _]
    cases r with
    |nil=>rw[ax];exact fin false rfl|cons d r=>
     rw[ah oG,q2r,qB]
     exact fin _ (by unfold js;cases h:d==10<;>simp_all)
   ·rw[qW h13];exact fin false (by unfold js;rw[beq_false_of_ne h13];rfl)
def zx9(fu:Nat)(s:List UInt8)(h:s.length<fu)(hb:s.length<100000000):qwl fu s=some (eo s):=by
 have:=zya fu fu [] s [] h (by simpa using hb) oD
 exact this
def z06(ab:List UInt8)(c:UInt8)(r:List UInt8)(hb:ab.length<100000000:=by omega):qlr (ab++c::r) (ab.length:Int)=some (js c r):=by
 unfold qlr js;rw[b9 _]
 cases r with
 |nil=>rw[ax];cases c==13<;>rfl
 |cons d r=>
  rw[ah (by simp<;>omega),cq,qB]
  cases c==13
  ·rfl
  ·rw[a8,q2r,qB]
   cases h:d==10<;>simp_all
def bs(col:Nat):List UInt8->Int|[]=>0|c::r=>if js c r then bs 0 r.tail else if c=13\/c=10 then 11 else if 998<=col then 1 else bs (col+1) r
termination_by l=>l.length
decreasing_by all_goals (simp only[qL,List.length_tail];omega)
def qpe(col:Nat):bs col []=0:=by rw[bs]
def qpd(col:Nat)(c:UInt8)(r:List UInt8):bs col (c::r)=if js c r then bs 0 r.tail else if c=13\/c=10 then 11 else if 998<=col then 1 else bs (col+1) r:=by rw[bs]
def qi1(x:Int):Int×Int:=if x=11 then(11,-5) else if x=1 then(1,-6) else(0,0)
def ztt(fu n:Nat):∀(ab aa:List UInt8)(col:Nat),aa.length<n->ab.length+aa.length<100000000->col<=2000 ->
  qaa fu n (ab++aa) (col:Int) (ab.length:Int)=some (bs col aa):=by
 induction n with
 |zero=>intro ab aa col h;omega|succ n ih=>
  intro ab aa col h hb hcol;rw[qaa,quc]
  cases aa with
  |nil=>rw[ax,qpe]|cons c r=>
   simp only[qL]at h hb;have fin:∀f,f=js c r->qcz fu (qaa fu n) (ab++c::r) (col:Int) (ab.length:Int) c f=some (bs col (c::r)):=by
    intro f hf;unfold qcz;rw[qpd,hf];cases hc:js c r
    ·rw[au (by rfl),qW oE]
     unfold qud;rw[rt,rt];by_cases h13:c=13
     ·rw[qX h13,qX (.inl h13)]
     ·rw[qW h13];by_cases h10:c=10
      ·rw[qX h10,qX (.inr h10)]
      ·rw[qW h10,qW (by simp[h13,h10]),b9 _,cm]
       by_cases hq:998<=col
       ·rw[qX,qX hq]
       ·rw[qW oA,qW hq,b9 _]
        have:=ih (ab++[c]) r (col+1) oA oD oA
        simpa using this
    ·obtain⟨rfl,r',rfl⟩:=qqm hc;simp only[qL]at h hb;rw[a8,qX rfl,b9 _,b9 _,show ab.length+1+1=ab.length+2 from rfl]
     have:=ih (ab++[13,10]) r' 0 oA oD oA
     simpa using this
   rw[qd,ah,cq,qB,rt]
   by_cases h13:c=13
   ·subst h13;rw[qX rfl,b9 _]
    cases r with
    |nil=>rw[ax];exact fin false rfl|cons d r=>
     rw[ah oG,q2r,qB]
     exact fin _ (by unfold js;cases h:d==10<;>simp_all)
   ·rw[qW h13];exact fin false (by unfold js;rw[beq_false_of_ne h13];rfl)
def zts(fu:Nat)(s:List UInt8)(h:s.length<fu:=by omega)(hb:s.length<100000000:=by omega):qng fu s=some (qi1 (bs 0 s)):=by
 unfold qng qmm qi1;have:=ztt fu fu [] s 0 h (by simpa using hb) oA
 have this:qaa fu fu s 0 0=some (bs 0 s):=this;rw[this,qB,ur,ur];split
 ·rfl
 ·split<;>rfl
def zt0(n:Nat):∀(s:List UInt8)(col:Nat),s.length<=n->bs col s=0\/bs col s=1\/bs col s=11:=by
 induction n with
 |zero=>intro s col h;have:=List.length_eq_zero_iff.1 (Nat.le_zero.1 h);subst this;rw[qpe];exact .inl rfl|succ n ih=>
  intro s col h
  cases s with
  |nil=>rw[qpe];exact .inl rfl|cons c r=>
   simp only[qL]at h;rw[qpd];split
   ·exact ih _ _ (by rw[List.length_tail];omega)
   ·split
    ·exact .inr (.inr rfl)
    ·split
     ·exact .inr (.inl rfl)
     ·exact ih _ _ oA
def z02(fu n:Nat)(m16:Int×Int):∀(ab aa:List UInt8)(col b:Nat),aa.length<n->ab.length+aa.length<100000000->b+col=ab.length ->
  qgh fu n (ab++aa) (b:Int) (ab.length:Int) m16=some (qi1 (bs col aa)):=by
 induction n with
 |zero=>intro ab aa col b h;omega|succ n ih=>
  intro ab aa col b h hb hcol;rw[qgh,qtr]
  cases aa with
  |nil=>rw[ax,qpe];rfl|cons c r=>
   simp only[qL]at h hb;rw[qd,ah,z06 ab c r,qB,qpd]
   cases hc:js c r
   ·rw[au (by rfl),qW oE,cq,qB,qB,rt]
    unfold ql3;by_cases h13:c=13
    ·rw[qX h13,qX (.inl h13)];rfl
    ·rw[qW h13,rt];by_cases h10:c=10
     ·rw[qX h10,qX (.inr h10)];rfl
     ·rw[qW h10,qW (by simp[h13,h10]),show ae ((ab.length:Int)-(b:Int))=(col:Int) by rw[dj];omega,cm]
      by_cases hq:998<=col
      ·rw[qX,qX hq];rfl
      ·rw[qW oA,qW hq,b9 _]
       have:=ih (ab++[c]) r (col+1) b oA oD oD
       simpa using this
   ·obtain⟨rfl,r',rfl⟩:=qqm hc;simp only[qL]at h hb;rw[a8,qX rfl,b9 _,b9 _,show ab.length+1+1=ab.length+2 from rfl]
    have:=ih (ab++[13,10]) r' 0 (ab.length+2) oA oD oB
    simpa using this
def z01(fu:Nat)(s:List UInt8)(h:s.length<fu:=by omega)(hb:s.length<100000000:=by omega):qtq fu s=some (qi1 (bs 0 s)):=by
 have:=z02 fu fu (0,0) [] s 0 0 h (by simpa using hb) rfl
 exact this
abbrev bc:Type:=List UInt8×List UInt8
def pi(l:List bc):Prop:=l.length<=10000000/\∀x∈l,x.1.length<=10000000/\x.2.length<=10000000
def pi.tail{x:bc}{l:List bc}(h:pi (x::l)):pi l:=⟨by have:=h.1;simp only[qL]at this;omega,fun y hy=>h.2 y (qE _ hy)⟩
def ff:Nat->List bc->Int×Int|_,[]=>(0,0)|i,x::l=>if(nh x.1 x.2).1.1≠0 then((nh x.1 x.2).1.1,(i:Int)) else ff (i+1) l
def oq(l:List bc):Int×Int:=if 60<l.length then(2,-1) else ff 0 l
def zw1(fu n:Nat)(hfu:90000000<=fu)(m16:Int×Int):∀(ab aa:List bc),aa.length<n->ab.length+aa.length<100000000->pi aa ->
  qhd fu n (ab++aa) ((ab.length+aa.length:Nat):Int) (ab.length:Int) m16=some (ff ab.length aa):=by
 induction n with
 |zero=>intro ab aa h;omega|succ n ih=>
  intro ab aa h hb hs;rw[qhd,qvt]
  cases aa with
  |nil=>rw[ax];rfl|cons x aa=>
   simp only[qL]at h hb ⊢;obtain⟨q1,q2⟩:=hs.2 x qH;rw[ah,cq,qB,q2i fu x.1 x.2,qB,va,qB,jb,ff]
   split
   ·rfl
   ·rw[b9 _]
    have:=ih (ab++[x]) aa oA oD hs.tail
    simp only[qS,wM,qM,qL,qZ]at this;rw[show ab.length+(0+1)+aa.length=ab.length+(aa.length+1) by omega]at this
    exact this
def zhh(fu:Nat)(hfu:90000000<=fu)(l:List bc)(hs:pi l):qc8 fu l=some (oq l):=by
 unfold qc8 oq;rw[cm];split
 ·rw[qX];rfl
 ·rw[qW oA]
  have:=zw1 fu fu hfu (0,0) [] l (by have:=hs.1;omega) (by have:=hs.1;simp;omega) hs
  simp only[List.nil_append,qZ,wO]at this;exact this
def z1z(fu n:Nat)(hfu:90000000<=fu)(m16:Int×Int):∀(ab aa:List bc),aa.length<n->ab.length+aa.length<100000000->pi aa ->
  qf6 fu n (ab++aa) (ab.length:Int) m16=some (ff ab.length aa):=by
 induction n with
 |zero=>intro ab aa h;omega|succ n ih=>
  intro ab aa h hb hs;rw[qf6,qtd]
  cases aa with
  |nil=>rw[ax];rfl|cons x aa=>
   simp only[qL]at h hb ⊢;obtain⟨q1,q2⟩:=hs.2 x qH;rw[zib,qL,ah,cq,qB,qB,zwe fu x.1 x.2,qB,jb,ff]
   split
   ·rfl
   ·rw[b9 _]
    have:=ih (ab++[x]) aa oA oD hs.tail
    simpa using this
def z1y(fu:Nat)(hfu:90000000<=fu)(l:List bc)(hs:pi l):qlt fu l=some (oq l):=by
 unfold qlt oq;rw[cm];split
 ·rw[qX];rfl
 ·rw[qW oA]
  have:=z1z fu fu hfu (0,0) [] l (by have:=hs.1;omega) (by have:=hs.1;simp;omega) hs
  exact this
def jv(x:bc):Prop:=oo x.1 x.2=0/\si 0 (dt x.1 x.2)=none
def zjf{x:bc}(h:jv x):nh x.1 x.2=((0,0),dt x.1 x.2):=by
 unfold nh ye;rw[qX h.1,h.2]
def zwh{x:bc}(h:(nh x.1 x.2).1.1=0:=by omega):jv x:=by
 unfold nh ye at h;by_cases h0:oo x.1 x.2=0
 ·refine⟨h0,?_⟩;rw[qX h0]at h;split at h
  ·exact absurd h oB
  ·rename_i h1;exact h1
 ·rw[qW h0]at h;exact absurd h h0
def zgk:∀(i:Nat)(l:List bc),(ff i l).1=0->∀x∈l,jv x
 |_,[],_,_,h=>by cases h
 |i,y::l,h,x,hx=>by
  rw[ff]at h;split at h
  ·rename_i h1;exact absurd h h1
  ·rename_i h1;rcases List.mem_cons.1 hx with rfl|hx
   ·exact zwh
   ·exact zgk (i+1) l h x hx
def zjh:∀(i:Nat)(l:List bc),(∀x∈l,jv x)->ff i l=(0,0)
 |_,[],_=>rfl|i,y::l,h=>by
  rw[ff,zjf (h y qH),qW oB]
  exact zjh (i+1) l fun x hx=>h x (qE _ hx)
def q19{l:List bc}(h:(oq l).1=0):oq l=(0,0)/\l.length<=60/\∀x∈l,jv x:=by
 unfold oq at h ⊢;split at h
 ·exact absurd h oE
 ·rename_i hl;have:=zgk 0 l h;rw[qW hl];exact⟨zjh 0 l this,oA,this⟩
def cf(ls:List (List UInt8)):List UInt8:=ls.flatMap fun s=>s++[13,10]
def jr(l:List bc):List UInt8:=l.flatMap fun x=>cf (dt x.1 x.2)
def hbytes(l:List bc):List UInt8:=jr l++[13,10]
def qqd:∀(m:Nat)(s:List UInt8)(k:Nat),(fk m s k).flatten=s
 |0,s,_=>by simp[fk]|m+1,s,k=>by
  rw[fk];split
  ·split
   ·simp
   ·rw[List.flatten_cons,qqd m,List.take_append_drop]
  ·simp
def q27:∀ls:List (List UInt8),(cf ls).length=ls.flatten.length+2*ls.length
 |[]=>rfl|s::ls=>by
  have:=q27 ls;unfold cf at this ⊢;rw[List.flatMap_cons,List.flatten_cons,qM,qM,this];simp only[qM,qL,qZ];omega
def q30{x:bc}(h:jv x):x.1.length<=60/\x.2.length<=4000/\(dt x.1 x.2).length<=5000/\(cf (dt x.1 x.2)).length<=20000:=by
 obtain⟨h1,h2,_⟩:=qef h.1;have hl:=qjj h1;have hle:(bt x.1 x.2).length=x.1.length+2+x.2.length:=by simp[bt];omega
 have h3:=q2h (bt x.1 x.2).length (bt x.1 x.2) (x.1.length+2) (wF _) oA
 have h4:(dt x.1 x.2).flatten.length=(bt x.1 x.2).length:=by unfold dt;rw[qqd]
 have h5:(dt x.1 x.2).length<=5000:=by unfold dt;omega
 exact⟨hl,h2,h5,by rw[q27];omega⟩
def zgj:∀l:List bc,(∀x∈l,jv x)->(jr l).length<=20000*l.length
 |[],_=>wF _|x::l,h=>by
  have:=zgj l fun y hy=>h y (qE _ hy)
  obtain⟨_,_,_,h4⟩:=q30 (h x qH);unfold jr at this ⊢;rw[List.flatMap_cons,qM,qL];omega
def z4r(fu:Nat)(r0:List bc->Int->Int->(List bc×List UInt8)->List UInt8->Option (List UInt8))(s11:List bc)(s12 s13:Int)(m16:List bc×List UInt8)(n:Nat):∀(ab aa:List (List UInt8))(out:List UInt8),aa.length<n->ab.length+aa.length<100000000->out.length+(cf aa).length<1000000000 ->
  qde fu r0 n s11 s12 s13 ((ab.length+aa.length:Nat):Int) (ab.length:Int) m16 (ab++aa) out=r0 s11 s12 (ae (s13+1)) m16 (out++cf aa):=by
 induction n with
 |zero=>intro ab aa out h;omega|succ n ih=>
  intro ab aa out h hb ho;rw[qde,qwo]
  cases aa with
  |nil=>rw[ax];simp[cf]|cons x aa=>
   have hc:cf (x::aa)=x++[13,10]++cf aa:=by simp[cf]
   rw[hc]at ho ⊢;simp only[qL,qM,qZ]at h hb ho;rw[show(x::aa).length=aa.length+1 from rfl,ah,qkk,cq,qB,ah oJ,ah oJ,b9 _]
   have:=ih (ab++[x]) aa (out++x++[13,10]) oA oD oD
   simp only[qS,wM,qM,qL,qZ]at this;rw[show ab.length+(0+1)+aa.length=ab.length+(aa.length+1) by omega]at this
   simpa using this
def z41(fu n:Nat)(hfu:90000000<=fu)(m16:List bc×List UInt8)(hm:m16.2.length<=100000000):∀(ab aa:List bc)(out:List UInt8),aa.length<n->ab.length+aa.length<1000->(∀x∈aa,jv x)->out.length<=20000*ab.length ->
  qah fu n (ab++aa) ((ab.length+aa.length:Nat):Int) (ab.length:Int) m16 out=some (out++hbytes aa++m16.2):=by
 induction n with
 |zero=>intro ab aa out h;omega|succ n ih=>
  intro ab aa out h hb hok ho;rw[qah,qwn]
  cases aa with
  |nil=>
   rw[ax,ah oJ,ah oJ];simp[hbytes,jr]
  |cons x aa=>
   have hx:=hok x qH;obtain⟨l1,l2,l3,l4⟩:=q30 hx;have hc:hbytes (x::aa)=cf (dt x.1 x.2)++hbytes aa:=by simp[hbytes,jr]
   rw[hc];simp only[qL]at h hb ⊢;rw[ah,cq,qB,q2i fu x.1 x.2,qB,zjf hx]
   have:=z4r fu (qah fu n) (ab++x::aa) ((ab.length+(aa.length+1):Nat):Int) (ab.length:Int) m16 fu [] (dt x.1 x.2) out oA oD oA
   simp only[List.nil_append,qZ,wO]at this;have this:qde fu (qah fu n) fu (ab++x::aa) ((ab.length+(aa.length+1):Nat):Int) (ab.length:Int) ((dt x.1 x.2).length:Int) 0 m16 (dt x.1 x.2) out=_:=this;rw[this,b9 _]
   have:=ih (ab++[x]) aa (out++cf (dt x.1 x.2)) oA oD (fun y hy=>hok y (qE _ hy)) oD
   simp only[qS,wM,qM,qL,qZ]at this;rw[show ab.length+(0+1)+aa.length=ab.length+(aa.length+1) by omega]at this
   simpa using this
def zm2(fu:Nat)(hfu:90000000<=fu)(l:List bc)(b:List UInt8)(hl:l.length<=60)(hok:∀x∈l,jv x)(hb:b.length<=100000000:=by omega):qni fu (l,b)=some (hbytes l++b):=by
 have:=z41 fu fu hfu (l,b) hb [] l [] oA oD hok oB
 simp only[List.nil_append,qZ,wO]at this;exact this
def zwy(fu:Nat)(r0:List bc->List UInt8->Int->Option (List UInt8))(s0:List bc)(s4:Int)(n:Nat):∀(ab aa:List (List UInt8))(out:List UInt8),aa.length<n->ab.length+aa.length<100000000->out.length+(cf aa).length<1000000000 ->
  qcg fu r0 n s0 out s4 (ab.length:Int) (ab++aa)=r0 s0 (out++cf aa) (ae (s4+1)):=by
 induction n with
 |zero=>intro ab aa out h;omega|succ n ih=>
  intro ab aa out h hb ho;rw[qcg,qti]
  cases aa with
  |nil=>rw[ax];simp[cf]|cons x aa=>
   have hc:cf (x::aa)=x++[13,10]++cf aa:=by simp[cf]
   rw[hc]at ho ⊢;simp only[qL,qM,qZ]at h hb ho;rw[qd,ah,qkk,cq,qB,ah oU,ah oU,b9 _]
   have:=ih (ab++[x]) aa (out++x++[13,10]) oA oD oD
   simpa using this
def zws(fu n:Nat)(hfu:90000000<=fu):∀(ab aa:List bc)(out:List UInt8),aa.length<n->ab.length+aa.length<1000->(∀x∈aa,jv x)->out.length<=20000*ab.length ->
  zl fu n (ab++aa) out (ab.length:Int)=some (out++hbytes aa):=by
 induction n with
 |zero=>intro ab aa out h;omega|succ n ih=>
  intro ab aa out h hb hok ho;rw[zl,qth]
  cases aa with
  |nil=>
   rw[ax,ah oU,ah mC];simp[hbytes,jr]
  |cons x aa=>
   have hx:=hok x qH;obtain⟨l1,l2,l3,l4⟩:=q30 hx;have hc:hbytes (x::aa)=cf (dt x.1 x.2)++hbytes aa:=by simp[hbytes,jr]
   rw[hc];simp only[qL]at h hb ⊢;rw[zib,qL,ah,cq,qB,qB,zg0 fu x.1 x.2,qB]
   have:=zwy fu (zl fu n) (ab++x::aa) (ab.length:Int) fu [] (dt x.1 x.2) out oA oD oA
   have this:qcg fu (zl fu n) fu (ab++x::aa) out (ab.length:Int) 0 (dt x.1 x.2)=_:=this;rw[this,b9 _]
   have:=ih (ab++[x]) aa (out++cf (dt x.1 x.2)) oA oD (fun y hy=>hok y (qE _ hy)) oD
   simpa using this
def zwr(fu:Nat)(hfu:90000000<=fu)(l:List bc)(hl:l.length<=60)(hok:∀x∈l,jv x):qtg fu l=some (hbytes l):=by
 have:=zws fu fu hfu [] l [] oA oD hok oB
 exact this
def zwt{l:List bc}(hl:l.length<=60)(hok:∀x∈l,jv x):(hbytes l).length<=2000000:=by
 have:=zgj l hok;unfold hbytes;rw[qM];simp only[qL,qZ];omega
def lm(m:List bc×List UInt8):Int×Int:=if(oq m.1).1≠0 then oq m.1 else if 12000<(hbytes m.1).length+m.2.length then(1,-4) else qi1 (bs 0 m.2)
def SmM(m:List bc×List UInt8):Prop:=pi m.1/\m.2.length<=80000000
def zmo(fu:Nat)(hfu:90000000<=fu)(m:List bc×List UInt8)(hs:SmM m):qdc fu m=some (lm m):=by
 obtain⟨l,b⟩:=m;obtain⟨h1,h2⟩:=hs;simp only at h1 h2;unfold qdc lm;rw[zhh fu hfu l h1,qB,va,qB,jb];simp only;split
 ·rfl
 ·rename_i h0;obtain⟨_,k1,k2⟩:=q19 (l:=l) oA
  rw[zm2 fu hfu l b k1 k2,qB,cm,qM]
  split
  ·rw[qX];rfl
  ·rw[qW oA,zts fu b];rfl
def zv7(fu:Nat)(hfu:90000000<=fu)(m:List bc×List UInt8)(hs:SmM m):ql4 fu m=some (lm m):=by
 obtain⟨l,b⟩:=m;obtain⟨h1,h2⟩:=hs;simp only at h1 h2;unfold ql4 lm;rw[z1y fu hfu l h1,qB,jb];simp only;split
 ·rfl
 ·rename_i h0;obtain⟨_,k1,k2⟩:=q19 (l:=l) oA
  have hl:=zwt k1 k2;rw[cm];split
  ·rw[qX];rfl
  ·rw[zwr fu hfu l k1 k2,qB,dj,cm]
   split
   ·rw[qX];rfl
   ·rw[qW oA,z01 fu b];rfl
def q3m{m:List bc×List UInt8}(h:(lm m).1=0):lm m=(0,0)/\m.1.length<=60/\(∀x∈m.1,jv x)/\(hbytes m.1).length+m.2.length<=12000/\bs 0 m.2=0:=by
 unfold lm at h ⊢;split at h
 ·rename_i h1;exact absurd h h1
 ·rename_i h1;obtain⟨_,k1,k2⟩:=q19 (l:=m.1) oA
  split at h
  ·exact absurd h oE
  ·rename_i h2;have h3:bs 0 m.2=0:=by
    rcases zt0 m.2.length m.2 0 (wF _) with e|e|e
    ·exact e
    ·rw[e]at h;exact absurd h oE
    ·rw[e]at h;exact absurd h oE
   rw[qW h1,qW h2,h3];exact⟨rfl,k1,k2,oA,rfl⟩
def q5w(m:List bc×List UInt8):(Int×Int)×List UInt8:=if(lm m).1≠0 then(lm m,[]) else((0,0),hbytes m.1++m.2)
def zrj(fu:Nat)(hfu:90000000<=fu)(m:List bc×List UInt8)(hs:SmM m):qhj fu m=some (q5w m):=by
 unfold qhj q5w;rw[zmo fu hfu m hs,qB,va,qB,jb];split
 ·rfl
 ·rename_i h0;obtain⟨_,k1,k2,k3,_⟩:=q3m (m:=m) oA
  obtain⟨l,b⟩:=m;simp only at k1 k2 k3;rw[zm2 fu hfu l b k1 k2];rfl
def eq2(x:Int×Int):((x.1==x.1)&&((x.2==x.2)&&true))=true:=oB
def z32(fu n:Nat):∀(s:List UInt8),s.length<n->s.length<1000000000->qh1 fu n s (l9 [32,9])=some (vj s,l9 [32,9]):=by
 induction n with
 |zero=>intro s h;omega|succ n ih=>
  intro s h hb;rw[qh1,qyg]
  cases s with
  |nil=>rw[ax];rfl|cons c s=>
   simp only[qL]at h hb;rw[ah,show am (c::s) (0:Int)=some c from rfl,qB,q1j ac3,qB,zet,vk]
   cases bl c
   ·rfl
   ·rw[ee,ah oG]
    exact ih s oA oA
def zlc(fu:Nat)(s:List UInt8)(hfu:100<=fu)(h:s.length<fu)(hb:s.length<1000000000):qht fu s [32,9]=some (ix s):=by
 unfold qht
 cases s with
 |nil=>rfl|cons c s=>
  rw[au (by rfl)]
  unfold qnx;rw[au (by rfl)]
  unfold qx1;rw[au oE]
  unfold qny;rw[au (by rfl)]
  unfold qx2;obtain⟨n,rfl⟩:∃n,fu=n+100:=⟨fu-100,oA⟩
  rw[ac3.set,qB];simp only[ac3.len];rw[a8 (by rw[List.length_replicate];rfl),a8]
  unfold qh2 qn3;have:=qkl (c::s);rw[zme _ _ _ h hb,qB,z32 _ _ (g8 (c::s)) oA oA,qB,q5g]
def qa5(t:List UInt8):List UInt8:=if t.getLast? = some 13 then t.dropLast else t
def zum(t:List UInt8):(qa5 t).length<=t.length:=by unfold qa5;split<;>simp
def ln(r:List UInt8):List UInt8×Nat:=if(10:UInt8)∈r then(qa5 (r.takeWhile (· != 10)),(r.takeWhile (· != 10)).length+1) else(r,r.length)
def zl4(k:UInt8)(t r:List UInt8)(h:∀x∈t,x≠k):(t++k::r).takeWhile (· != k)=t:=by
 induction t with
 |nil=>simp|cons c t ih=>
  rw[wK,List.takeWhile_cons,show(c != k)=true by simpa using h c qH,qX rfl,ih fun x hx=>h x (qE _ hx)]
def zvs(k:UInt8)(t r:List UInt8)(h:∀x∈t,x≠k):(t++k::r).dropWhile (· != k)=k::r:=by
 induction t with
 |nil=>simp|cons c t ih=>
  rw[wK,List.dropWhile_cons,show(c != k)=true by simpa using h c qH,qX rfl,ih fun x hx=>h x (qE _ hx)]
def qqt(t r:List UInt8)(h:∀x∈t,x≠10):ln (t++10::r)=(qa5 t,t.length+1):=by
 unfold ln;rw[qX,zl4 10 t r h]
def q3c(r:List UInt8)(h:∀x∈r,x≠10):ln r=(r,r.length):=by
 unfold ln;rw[qW (fun hm=>h 10 hm rfl)]
def zid(r:List UInt8):(ln r).2<=r.length/\(ln r).1.length<=(ln r).2:=by
 rcases yt 10 r with⟨t,q,rfl,h⟩|h
 ·rw[qqt t q h];have:=zum t;simp only[qM,qL];omega
 ·rw[q3c r h];exact⟨wF _,wF _⟩
def zie(r:List UInt8)(h0:r≠[]):1<=(ln r).2:=by
 rcases yt 10 r with⟨t,q,rfl,h⟩|h
 ·rw[qqt t q h];simp
 ·rw[q3c r h];cases r with|nil=>exact absurd rfl h0|cons c r=>simp
def z33(t:List UInt8)(hb:t.length<1000000000:=by omega):qc2 t [13]=some (qa5 t):=by
 unfold qc2 qmp qmo qa5;rcases List.eq_nil_or_concat t with rfl|⟨u,c,rfl⟩
 ·rfl
 ·rw[List.concat_eq_append]at *;simp only[qM,qL,qZ]at hb;rw[qbc,show(([13]:List UInt8).length:Int)=1 from rfl,qb2 _,ah,ah,qB,qB]
  have e:List.drop ((u.length:Nat):Int).toNat (u++[c])=[c]:=q1y u [c];rw[e,List.getLast?_concat,List.dropLast_concat,q5e];by_cases h:c=13
  ·subst h;rw[a8,ah,qX rfl]
  ·rw[au (by simpa using h),qW (by simpa using h)]
def zx6(r:List UInt8)(hb:r.length<1000000000:=by omega):qna r=some ((ln r).1,((ln r).2:Int)):=by
 unfold qna;rcases yt 10 r with⟨t,q,rfl,h⟩|h
 ·rw[show qac (t++10::q) 10=some (Lib.indexByte (t++10::q) 10) from rfl,zhj 10 t q h,qB,qqt t q h]
  simp only[qM,qL]at hb;rw[ax,ah (by rw[qd];omega),ah oE,qkt,z33 t,qB,b9 _]
 ·rw[show qac r 10=some (Lib.indexByte r 10) from rfl,q2q 10 r h,qB,q3c r h]
  rfl
def ov(s:List UInt8):Option bc:=if(58:UInt8)∈s/\gz (g8 (s.takeWhile (· != 58)))=true then some (g8 (s.takeWhile (· != 58)),(s.dropWhile (· != 58)).tail) else none
def q2g(t r:List UInt8)(h:∀x∈t,x≠58):ov (t++58::r)=if gz (g8 t)=true then some (g8 t,r) else none:=by
 unfold ov;rw[zl4 58 t r h,zvs 58 t r h];simp
def zgv(s:List UInt8)(h:∀x∈s,x≠58):ov s=none:=by
 unfold ov;rw[qW (fun hm=>h 58 hm.1 rfl)]
def zhy:∀(w r:Bs),(∀c∈w,c≠58)->Lib.index (w++58::r) [58]=(w.length:Int)
 |[],r,_=>by rw[List.nil_append,Lib.index,qX mF];rfl|c::w,r,h=>by
  have hc:=h c qH;rw[wK,Lib.index,qW (by simp[List.isPrefixOf];intro q;exact hc q.symm),zhy w r (fun d hd=>h d (qE _ hd)),qW (by rw[beq_iff_eq];omega)]
  simp
def zh2:∀s:Bs,(∀c∈s,c≠58)->Lib.index s [58] = -1
 |[],_=>rfl|d::s,h=>by
  rw[Lib.index,qW (by simp[List.isPrefixOf];exact fun q=>h d qH q.symm),zh2 s (fun x hx=>h x (qE _ hx))]
  rfl
def zuv(t r:List UInt8)(h:∀x∈t,x≠58)(hb:t.length+r.length<100000000:=by omega):qal (t++58::r) [58]=some (t,r,true):=by
 unfold qal qnb nz;rw[ah,qB,zhy t r h,ah,ah,show((List.length ([58]:Bs):Nat):Int)=1 from rfl,b9 _,ah,qkt,qpx]
 rfl
def zuw(s:List UInt8)(h:∀x∈s,x≠58)(hb:s.length<100000000):qal s [58]=some (s,[],false):=by
 unfold qal qnb nz;rw[ah,qB,zh2 s h,ax oE]
 rfl
def zwf(n:List UInt8):((nh n []).1.1=0)↔gz n=true:=by
 unfold nh oo;cases h:gz n
 ·simp
 ·have hl:=qjj h;have e:dt n []=[bt n []]:=by
   unfold dt;have h2:(bt n []).length=n.length+2:=by simp[bt]
   rw[h2,fk,qW oA]
  rw[e];unfold ye si;have h2:(bt n []).length=n.length+2:=by simp[bt]
  rw[qW (show ¬998<(bt n []).length by omega)]
  simp[si,sc,uz]
def zhg(fu:Nat)(hfu:10000<=fu)(n:List UInt8):qhe fu n=some (gz n):=by
 unfold qhe;rw[q2i fu n [] hfu oD oB,qB,va,qB]
 congr 1;have:=zwf n;cases h:gz n
 ·rw[h]at this;have:(nh n []).1.1≠0:=fun e=>by simpa using this.1 e
  simp[this]
 ·rw[this.2 h];rfl
def zti(fu:Nat)(hfu:10000<=fu)(s:List UInt8)(h:s.length<fu:=by omega)(hb:s.length<100000000:=by omega) :
  ∃x ok,qm9 fu s=some (x,ok)/\ov s=if ok then some x else none:=by
 unfold qm9;rcases yt 58 s with⟨t,q,rfl,hn⟩|hn
 ·simp only[qM,qL]at h hb;rw[zuv t q hn,qB]
  simp only;rw[zmf fu t,qB,a8,zhg fu hfu,qB,q2g t q hn]
  exact⟨_,_,rfl,rfl⟩
 ·rw[zuw s hn hb,qB];simp only;rw[zmf fu s oA h,qB,au (by rfl),zgv s hn]
  exact⟨_,_,rfl,rfl⟩
def d5(c:UInt8):UInt8:=if c=0\/c=13 then 32 else c
def mn:List UInt8:=(List.range 256).map fun i=>d5 (UInt8.ofNat i)
def z3r:∀n:_root_.Fin 256,mn[(UInt8.ofNat n.val).toNat]? = some (d5 (UInt8.ofNat n.val)):=by decide +kernel
def qrx(c:UInt8):mn[c.toNat]? = some (d5 c):=kj (fun c=>mn[c.toNat]? = some (d5 c)) z3r c
def zyw:qdh [[0],[32],[13],[32]]=some (0,0,0,[[0],[32],[13],[32]]):=by rfl
def zt1(n:Nat):qnt (n+300) 0 1 0 [[0],[32],[13],[32]]=some (0,1,0,mn,[]):=oC
def z1m(fu n:Nat):∀(ab aa:List UInt8),aa.length<n->ab.length+aa.length<1000000000->0<ab.length+aa.length ->
  qhy fu n (ab++aa) (ab.length:Int) mn (ab.map d5++aa)=some ((ab++aa).map d5,mn):=by
 induction n with
 |zero=>intro ab aa h;omega|succ n ih=>
  intro ab aa h hb h0;rw[qhy,qx4]
  cases aa with
  |nil=>rw[ax,ah (by simpa using h0)];simp|cons c aa=>
   simp only[qL]at h hb;rw[qd,ah,cq,qB,qrx,qB,q0y]
   have next:=ih (ab++[c]) aa oA oD oD
   by_cases hc:d5 c≠c
   ·rw[qX hc,ah (by simp<;>omega)]
    unfold qhx;have g:=qei (ab.map d5) c aa;have s:=qko (ab.map d5) c (d5 c) aa;rw[wC]at g s;have hg:(0<=(ab.length:Int)/\(ab.length:Int).toNat<(ab.map d5++c::aa).length):=oB
    rw[qrx,qB,ah hg,g,qB,s,b9 _]
    simpa using next
   ·rw[qW hc,b9 _]
    have hc:d5 c=c:=Decidable.not_not.1 hc;simp only[List.map_append,List.map_cons,List.map_nil,hc,qS,wM,qM,qL,qZ]at next
    simpa [hc] using next
def z1l(fu n:Nat):∀(ab aa:List UInt8),aa.length<n->ab.length+aa.length<fu->ab.length+aa.length<1000000000->(∀x∈ab,d5 x=x) ->
  qhw fu n (ab++aa) (ab.length:Int) mn=some ((ab++aa).map d5,mn):=by
 induction n with
 |zero=>intro ab aa h;omega|succ n ih=>
  intro ab aa h hf hb hp;have hpm:ab.map d5=ab:=by
   have:ab.map d5=ab.map id:=List.map_congr_left fun x hx=>hp x hx
   rw[this,List.map_id]
  rw[qhw,qx3]
  cases aa with
  |nil=>rw[ax];simp[hpm]|cons c aa=>
   simp only[qL]at h hf hb;rw[qd,ah,cq,qB,qrx,qB,q0y]
   by_cases hc:d5 c≠c
   ·rw[qX hc,ah mC]
    unfold qhx;have hg:(0<=(ab.length:Int)/\(ab.length:Int).toNat<(ab++c::aa).length):=oB
    rw[qrx,qB,ah hg,qei,qB,qko,b9 _]
    have:=z1m fu fu (ab++[c]) aa oA oD oD
    simpa [hpm] using this
   ·rw[qW hc,b9 _]
    have hc:d5 c=c:=Decidable.not_not.1 hc;have:=ih (ab++[c]) aa oA oD oD (fun x hx=>by
     rcases List.mem_append.1 hx with hx|hx
     ·exact hp x hx
     ·rw[List.mem_singleton.1 hx,hc])
    simpa using this
def zki(fu:Nat)(s:List UInt8)(h:s.length<fu)(hb:s.length<1000000000):qhv fu s mn=some (s.map d5,mn):=by
 have:=z1l fu fu [] s h (by simpa using h) (by simpa using hb) (fun x hx=>by cases hx)
 exact this
def zv9(fu:Nat)(hfu:300<=fu)(s:List UInt8)(h:s.length<fu)(hb:s.length<1000000000):qaj fu s 0 0 0 [[0],[32],[13],[32]]=some (s.map d5,1,0,0,mn):=by
 obtain⟨n,rfl⟩:∃n,fu=n+300:=⟨fu-300,oA⟩
 unfold qaj;rw[a8,zt1,qB,a8,zki _ s h hb];rfl
def zxx(fu:Nat)(s:List UInt8)(h:s.length<fu)(hb:s.length<1000000000):qak fu s 1 0 0 mn=some (s.map d5,1,0,0,mn):=by
 unfold qak;rw[a8,zki _ s h hb];rfl
def me(v:List UInt8):List UInt8:=ix (v.map d5)
def qi4(x:bc):bc:=(x.1,me x.2)
def zuz(v:List UInt8):(me v).length<=v.length:=by unfold me;have:=z34 (v.map d5);simpa using this
def qb0:Nat->List bc->Option Nat|_,[]=>none|i,x::l=>if 4000<(me x.2).length then some i else qb0 (i+1) l
def xu(a:Nat)(ab aa:List bc):Int×(Int×Int)×List bc:=match qb0 ab.length aa with|some i=>(0,(1,(i:Int)),[])|none=>((a:Int),(0,0),ab++aa.map qi4)
def vb(a:Nat)(out:List bc):Int×(Int×Int)×List bc:=if 60<out.length then(0,(2,-2),[]) else xu a [] out
def up(out:List bc)(s:List UInt8):List bc:=match out.getLast? with|some x=>out.dropLast++[(x.1,x.2++s)]|none=>out
def q0j(out:List bc)(x:bc)(s:List UInt8):up (out++[x]) s=out++[(x.1,x.2++s)]:=by
 unfold up;rw[List.getLast?_concat,List.dropLast_concat]
def hd:Nat->List UInt8->Nat->List bc->Nat×List bc
 |0,_,a,out=>(a,out)|n+1,r,a,out=>
  if r=[] then(a,out) else
  if(ln r).1=[] then(a+(ln r).2,out) else
  if bl ((ln r).1.headD 0)=true/\out≠[] then hd n (r.drop (ln r).2) (a+(ln r).2) (up out (ln r).1) else
  match ov (ln r).1 with|none=>(a,out)|some x=>hd n (r.drop (ln r).2) (a+(ln r).2) (out++[x])
def g7(b:List UInt8):Int×(Int×Int)×List bc:=if 12000<b.length then(0,(1,-1),[]) else vb (hd b.length b 0 []).1 (hd b.length b 0 []).2
def mz(a:Nat)(l:List bc):Prop:=l.length<=a/\∀x∈l,x.1.length<=a/\x.2.length<=a
def zzn(fu n:Nat)(hfu:300<=fu)(s6:Nat)(m16:Int×Int):∀(ab aa:List bc),aa.length<n->ab.length+aa.length<100000000->(∀x∈aa,x.2.length<fu/\x.2.length<100000000) ->
  qhc fu n (s6:Int) ((ab.length+aa.length:Nat):Int) (ab.length:Int) m16 (ab++aa) 1 0 0 mn=some (xu s6 ab aa):=by
 induction n with
 |zero=>intro ab aa h;omega|succ n ih=>
  intro ab aa h hb hs;rw[qhc,qvs]
  cases aa with
  |nil=>rw[ax];simp[cg,xu,qb0]|cons x aa=>
   simp only[qL]at h hb;obtain⟨q1,q2⟩:=hs x qH;have hg:(0<=(ab.length:Int)/\(ab.length:Int).toNat<(ab++x::aa).length):=oB
   rw[show(x::aa).length=aa.length+1 from rfl,ah,ah hg,qei,qB,zxx fu x.2 q1 oA,qB]
   simp only;rw[zlc fu (x.2.map d5) oA (by simpa using q1) oD,qB,cm,xu,qb0]
   by_cases hc:4000<(me x.2).length
   ·have hc':(4000:Int)<((ix (x.2.map d5)).length:Int):=by unfold me at hc;omega
    rw[qX hc',qX hc];rfl
   ·have hc':¬(4000:Int)<((ix (x.2.map d5)).length:Int):=by unfold me at hc;omega
    rw[qW hc',qW hc,ah hg,qB,qko,b9 _]
    have:=ih (ab++[qi4 x]) aa oA oD (fun y hy=>hs y (qE _ hy))
    simp only[qS,wM,qM,qL,qZ]at this;rw[show ab.length+(0+1)+aa.length=ab.length+(aa.length+1) by omega]at this
    refine Eq.trans this ?_;simp[xu]
def q39(fu:Nat)(hfu:300<=fu)(s6:Nat)(m16:Int×Int)(out:List bc)(hs:∀x∈out,x.2.length<fu/\x.2.length<100000000):qc7 fu (s6:Int) m16 out=some (vb s6 out):=by
 unfold qc7 vb;rw[cm];split
 ·rw[qX];rfl
 ·rename_i hl;rw[qW oA,zyw,qB]
  simp only;obtain⟨n,hn⟩:∃n,fu=n+1:=⟨fu-1,oA⟩
  have e:wz fu fu (s6:Int) (out.length:Int) m16 0 0 0 [[0],[32],[13],[32]] out=qhb fu (wz fu n) (s6:Int) (out.length:Int) m16 0 0 0 [[0],[32],[13],[32]] out:=by
   have:∀k,k=n+1->wz fu k (s6:Int) (out.length:Int) m16 0 0 0 [[0],[32],[13],[32]] out=qhb fu (wz fu n) (s6:Int) (out.length:Int) m16 0 0 0 [[0],[32],[13],[32]] out:=by
    rintro k rfl;rw[wz]
   exact this fu hn
  rw[e,qhb]
  cases out with
  |nil=>rw[ax];rfl|cons x aa=>
   obtain⟨q1,q2⟩:=hs x qH;simp only[qL]at hl;have hg:(0<=(0:Int)/\(0:Int).toNat<(x::aa).length):=oB
   rw[ah oG,ah hg,show(x::aa)[(0:Int).toNat]? = some x from rfl,qB,zv9 fu hfu x.2 q1 oA,qB]
   simp only;rw[zlc fu (x.2.map d5) oA (by simpa using q1) oD,qB,cm,xu,qZ,qb0]
   by_cases hc:4000<(me x.2).length
   ·have hc':(4000:Int)<((ix (x.2.map d5)).length:Int):=by unfold me at hc;omega
    rw[qX hc',qX hc];rfl
   ·have hc':¬(4000:Int)<((ix (x.2.map d5)).length:Int):=by unfold me at hc;omega
    rw[qW hc',qW hc,ah hg,qB];have:=zzn fu fu hfu s6 m16 [qi4 x] aa oA oK (fun y hy=>hs y (qE _ hy))
    simp only[qL,qZ,wM]at this;rw[show 0+1+aa.length=aa.length+1 by omega]at this
    exact this
def zsn(out:List bc)(x:bc)(_s:List UInt8)(h:out.length<1000000000:=by omega) :
  (ae (((out++[x]).length:Int)-1)).toNat=out.length:=by
 rw[qbc,qb2 _ h];omega
def mz.mono{a b:Nat}{l:List bc}(h:mz a l)(hab:a<=b):mz b l:=⟨Nat.le_trans h.1 hab,fun x hx=>⟨Nat.le_trans (h.2 x hx).1 hab,Nat.le_trans (h.2 x hx).2 hab⟩⟩
def mz.app{a k:Nat}{l:List bc}(h:mz a l)(hne:l≠[])(s:List UInt8)(hs:s.length<=k):mz (a+k) (up l s):=by
 rcases List.eq_nil_or_concat l with rfl|⟨t,x,rfl⟩
 ·exact absurd rfl hne
 ·rw[List.concat_eq_append]at *;rw[q0j];refine⟨by have:=h.1;simp only[qM,qL,qZ]at this ⊢;omega,fun y hy => ?_⟩
  rcases List.mem_append.1 hy with hy|hy
  ·have:=h.2 y (List.mem_append_left _ hy);omega
  ·have:=h.2 x oB
   rw[List.mem_singleton.1 hy];simp only[qM];omega
def zgu{s:List UInt8}{x:bc}(h:ov s=some x):x.1.length<=s.length/\x.2.length<=s.length/\gz x.1=true:=by
 rcases yt 58 s with⟨t,q,rfl,hn⟩|hn
 ·rw[q2g t q hn]at h;split at h
  ·rename_i hf;cases h
   have:=qkl t;simp only[qM,qL];exact⟨oA,oA,hf⟩
  ·cases h
 ·rw[zgv s hn]at h;cases h
def mz.snoc{a k:Nat}{l:List bc}(h:mz a l){x:bc}(hk:1<=k)(h1:x.1.length<=k)(h2:x.2.length<=k):mz (a+k) (l++[x]):=by
 refine⟨by have:=h.1;simp only[qM,qL,qZ];omega,fun y hy => ?_⟩
 rcases List.mem_append.1 hy with hy|hy
 ·have:=h.2 y hy;omega
 ·rw[List.mem_singleton.1 hy];omega
def z1c(fu n:Nat)(hfu:90000000<=fu)(m16:Int×Int)(s0:List UInt8)(hs:s0.length<=12000):∀(m a:Nat)(out:List bc),(s0.drop a).length<=m->(s0.drop a).length<n->a<=s0.length->mz a out ->
  qad fu n s0 (a:Int) m16 out=some (vb (hd m (s0.drop a) a out).1 (hd m (s0.drop a) a out).2):=by
 induction n with
 |zero=>intro m a out _ h;omega|succ n ih=>
  intro m a out hm h ha hA;have small:∀(b:Nat)(l:List bc),b<=30000->mz b l->∀x∈l,x.2.length<fu/\x.2.length<100000000:=fun b l hb hl x hx=>by have:=(hl.2 x hx).2;omega
  rw[qad,qvr];by_cases h0:s0.drop a=[]
  ·have hl:(s0.drop a).length=0:=by rw[h0];rfl
   rw[List.length_drop]at hl;rw[ax,q39 fu oA a m16 out (small a out oA hA),h0]
   cases m with|zero=>rfl|succ m=>rw[hd,qX rfl]
  ·have hl:1<=(s0.drop a).length:=by
    cases hq:s0.drop a with|nil=>exact absurd hq h0|cons _ _=>simp
   obtain⟨m,rfl⟩:∃j,m=j+1:=⟨m-1,oA⟩
   have ac:(s0.drop a).length=s0.length-a:=List.length_drop;have k0:=zie (s0.drop a) h0;obtain⟨k1,k2⟩:=zid (s0.drop a);have ea:(s0.drop a).drop (ln (s0.drop a)).2=s0.drop (a+(ln (s0.drop a)).2):=by rw[List.drop_drop]
   rw[ah,ah,show((a:Nat):Int).toNat=a by omega,zx6 (s0.drop a),qB,hd,qW h0,ea]
   simp only;generalize hln:ln (s0.drop a)=p at *;obtain⟨t,k⟩:=p;simp only at k0 k1 k2 ea ⊢;have ek:ae ((a:Int)+(k:Int))=((a+k:Nat):Int):=by rw[dj];omega
   by_cases ht:t=[]
   ·rw[qX ht,ht,a8,ek]
    exact q39 fu oA (a+k) m16 out (small a out oA hA)
   ·rw[qW ht,au (by simpa using ht)]
    have hidx:am t (0:Int)=some (t.headD 0):=by
     cases t with|nil=>exact absurd rfl ht|cons c t=>rfl
    rw[hidx,qB,qa3,qB];have begin:(match ov t with|none=>some (vb a out)|some x=>some (vb (hd m (s0.drop (a+k)) (a+k) (out++[x])).1 (hd m (s0.drop (a+k)) (a+k) (out++[x])).2))=qm8 fu (qad fu n) s0 (a:Int) t (k:Int) m16 out:=by
     unfold qm8;obtain⟨x,ok,e1,e2⟩:=zti fu oA t
     rw[e1,qB,e2];cases ok
     ·rw[pw];exact(q39 fu oA a m16 out (small a out oA hA)).symm
     ·have hx:ov t=some x:=e2;obtain⟨x1,x2,_⟩:=zgu hx;have ho:=hA.1;rw[ee,ah oJ,ek]
      have:=ih m (a+k) (out++[x]) (by rw[List.length_drop];omega) (by rw[List.length_drop];omega) oA (hA.snoc k0 oA oA)
      exact this.symm
    have more:out≠[]->qae fu (qad fu n) s0 (a:Int) t (k:Int) true m16 out=some (vb (hd m (s0.drop (a+k)) (a+k) (up out t)).1 (hd m (s0.drop (a+k)) (a+k) (up out t)).2):=by
     intro hne;have hA2:=hA.app hne t k2;unfold qae;have ho:=hA.1;rcases List.eq_nil_or_concat out with rfl|⟨u,x,rfl⟩
     ·exact absurd rfl hne
     ·rw[List.concat_eq_append]at *;simp only[qM,qL,qZ]at ho;have hx:=(hA.2 x oB).2
      have hw:=zsn u x t
      have hw2:ae (((u++[x]).length:Int)-1)=(u.length:Int):=by rw[qbc,qb2 _]
      have hg:(0<=ae (((u++[x]).length:Int)-1)/\(ae (((u++[x]).length:Int)-1)).toNat<(u++[x]).length):=by rw[hw2];simp
      rw[a8,ah hg,hw,show(u++[x])[u.length]? = some x by simp,qB,ah (by simp only[a7];omega),ah (by rw[hw]at hg;exact hg),qB,ek]
      rw[show List.set (u++[x]) u.length (x.1,x.2++t)=up (u++[x]) t by rw[q0j];simp]
      exact ih m (a+k) (up (u++[x]) t) (by rw[List.length_drop];omega) (by rw[List.length_drop];omega) oA hA2
    cases hb:bl (t.headD 0)
    ·rw[au (by rfl),qW oB]
     unfold qae;rw[au (by rfl),← begin]
     cases ov t<;>rfl
    ·rw[a8]
     by_cases hne:out=[]
     ·subst hne;rw[qW oB]
      unfold qae;rw[ax,← begin]
      cases ov t<;>rfl
     ·rw[qX ⟨rfl,hne⟩,show(decide ((0:Int)<(out.length:Int)))=true by
       cases out with
       |nil=>exact absurd rfl hne| cons _ _=>exact decide_eq_true oG]
      exact more hne
def z1b(fu:Nat)(hfu:90000000<=fu)(b:List UInt8):qha fu b=some (g7 b):=by
 unfold qha g7;rw[cm];split
 ·rw[qX];rfl
 ·rw[qW oA]
  have:=z1c fu fu hfu (0,0) b oA b.length 0 [] oB oD oA ⟨wF _,fun x hx=>by cases hx⟩
  simpa using this

def q2p:∀(m:Nat)(r:List UInt8)(a:Nat)(out:List bc),mz a out->a<=(hd m r a out).1/\(hd m r a out).1<=a+r.length/\mz (hd m r a out).1 (hd m r a out).2
 |0,r,a,out,h=>⟨wF _,by show a<=_;omega,h⟩|m+1,r,a,out,h=>by
  rw[hd];split
  ·exact⟨wF _,oR,h⟩
  ·rename_i h0;have k0:=zie r h0;obtain⟨k1,k2⟩:=zid r;split
   ·exact⟨oR,oR,h.mono oR⟩
   ·split
    ·rename_i hb;obtain⟨q1,q2,q3⟩:=q2p m (r.drop (ln r).2) (a+(ln r).2) (up out (ln r).1) (h.app hb.2 _ k2);rw[List.length_drop]at q2;exact⟨oA,oA,q3⟩
    ·split
     ·exact⟨wF _,oR,h⟩
     ·rename_i x hx;obtain⟨x1,x2,_⟩:=zgu hx;obtain⟨q1,q2,q3⟩:=q2p m (r.drop (ln r).2) (a+(ln r).2) (out++[x]) (h.snoc k0 oA oA)
      rw[List.length_drop]at q2;exact⟨oA,oA,q3⟩
def zj5{b:List UInt8}(h:(g7 b).2.1.1=0):b.length<=12000/\(g7 b).1=((hd b.length b 0 []).1:Int)/\(hd b.length b 0 []).1<=b.length/\pi (g7 b).2.2:=by
 unfold g7 at h ⊢;split at h
 ·exact absurd h oB
 ·rename_i hl;rw[qW hl];obtain⟨q1,q2,q3⟩:=q2p b.length b 0 [] ⟨wF _,fun x hx=>by cases hx⟩
  unfold vb at h ⊢;split at h
  ·exact absurd h oB
  ·rename_i h60;rw[qW h60];unfold xu at h ⊢;split at h
   ·exact absurd h oB
   ·refine⟨oA,rfl,oA,?_⟩
    simp only[List.nil_append];refine⟨mD,fun x hx => ?_⟩
    obtain⟨y,hy,rfl⟩:=List.mem_map.1 hx;obtain⟨y1,y2⟩:=q3.2 y hy;have:=zuz y.2;exact⟨by show y.1.length<=_;omega,by show(me y.2).length<=_;omega⟩
def qrg(b:List UInt8):(List bc×List UInt8)×(Int×Int):=
 if(g7 b).2.1.1≠0 then(([],[]),(g7 b).2.1) else
 if(lm ((g7 b).2.2,eo (b.drop (g7 b).1.toNat))).1≠0 then(([],[]),lm ((g7 b).2.2,eo (b.drop (g7 b).1.toNat))) else
 (((g7 b).2.2,eo (b.drop (g7 b).1.toNat)),(0,0))
def z09{b:List UInt8}(h:(g7 b).2.1.1=0):SmM ((g7 b).2.2,eo (b.drop (g7 b).1.toNat)):=by
 obtain⟨h1,_,_,h4⟩:=zj5 h;refine⟨h4,?_⟩;have:=zv1 _ (b.drop (g7 b).1.toNat) (wF _);simp only[List.length_drop]at this ⊢;omega
def zri(fu:Nat)(hfu:90000000<=fu)(b:List UInt8):qhi fu b=some (qrg b):=by
 unfold qhi qrg;rw[z1b fu hfu b,qB,va,qB,jb];split
 ·rfl
 ·rename_i h0;have h0:(g7 b).2.1.1=0:=oA
  obtain⟨h1,h2,h3,h4⟩:=zj5 h0;rw[ah,zx9 fu _ (by rw[List.length_drop];omega) (by rw[List.length_drop];omega),qB,zmo fu hfu _ (z09 h0),qB,va,qB,jb]
  split<;>rfl
def zv0(n:Nat):∀(s:List UInt8)(col:Nat),s.length<=n->bs col s=0->eo s=s:=by
 induction n with
 |zero=>intro s col h _;have:=List.length_eq_zero_iff.1 (Nat.le_zero.1 h);subst this;exact qjc|succ n ih=>
  intro s col h hb
  cases s with
  |nil=>exact qjc|cons c r=>
   simp only[qL]at h;rw[qpd]at hb;rw[q12];split at hb
   ·rename_i hc;rw[qX hc];obtain⟨rfl,r',rfl⟩:=qqm hc;simp only[qL,List.tail_cons]at h hb ⊢;rw[ih r' 0 oA hb]
   ·rename_i hc;rw[qW hc];split at hb
    ·exact absurd hb oE
    ·rename_i h1;rw[qW h1];split at hb
     ·exact absurd hb oE
     ·rw[ih r _ oA hb]
def qpk(s:List UInt8):Prop:=∀x∈s,x≠13/\x≠10/\x≠0
def q3b(s q:List UInt8)(h:qpk s):ln (s++13::10::q)=(s,s.length+2):=by
 have e:s++13::10::q=(s++[13])++10::q:=oB
 rw[e,qqt (s++[13]) q (fun x hx=>by
  rcases List.mem_append.1 hx with hx|hx
  ·exact(h x hx).2.1
  ·rw[List.mem_singleton.1 hx];decide)]
 unfold qa5;rw[List.getLast?_concat,qX rfl,List.dropLast_concat];simp
def zhd:∀(ls:List (List UInt8))(m:Nat)(q:List UInt8)(a:Nat)(out:List bc)(x:bc),(∀s∈ls,qpk s/\s≠[]/\bl (s.headD 0)=true)->((cf ls)++q).length<=m ->
  hd m (cf ls++q) a (out++[x])=hd (m-ls.length) q (a+(cf ls).length) (out++[(x.1,x.2++ls.flatten)])
 |[],m,q,a,out,x,_,_=>by simp[cf]|s::ls,m,q,a,out,x,h,hm=>by
  obtain⟨h1,h2,h3⟩:=h s qH;have hc:cf (s::ls)++q=s++13::10::(cf ls++q):=by simp[cf]
  have hcl:(cf (s::ls)).length=s.length+2+(cf ls).length:=by simp[cf];omega
  rw[hc]at hm ⊢;simp only[qM,qL]at hm;obtain⟨m,rfl⟩:∃j,m=j+1:=⟨m-1,oA⟩
  rw[hd,qW oB,q3b s _ h1]
  simp only;rw[qW h2,qX ⟨h3,oB⟩,q0j,show(s++13::10::(cf ls++q)).drop (s.length+2)=cf ls++q by
   rw[show s++13::10::(cf ls++q)=(s++[13,10])++(cf ls++q) by simp,show s.length+2=(s++[13,10]).length by simp,List.drop_left]]
  rw[zhd ls m q (a+(s.length+2)) out (x.1,x.2++s) (fun t ht=>h t (qE _ ht)) oI,hcl]
  simp only[qL,List.flatten_cons,qS];congr 1<;>omega
def zgy:∀(m:Nat)(s:List UInt8)(k:Nat),1<=k->s≠[]->∃f rest,fk m s k=f::rest/\f≠[]/\(k<=f.length\/f=s)/\∀t∈rest,t≠[]/\bl (t.headD 0)=true
 |0,s,_,_,hs=>⟨s,[],rfl,hs,.inr rfl,fun t ht=>by cases ht⟩
 |m+1,s,k,hk,hs=>by
  rw[fk];split
  ·split
   ·exact⟨s,[],rfl,hs,.inr rfl,fun t ht=>by cases ht⟩
   ·rename_i h0;obtain⟨b1,b2,b3⟩:=qpc s k hk h0;generalize gn s k=b at *;have hd:s.drop b=s[b]::s.drop (b+1):=List.drop_eq_getElem_cons b2;obtain⟨f,rest,e,f1,_,f3⟩:=zgy m (s.drop b) 1 (wF _) (by rw[hd];exact List.cons_ne_nil _ _)
    have hfl:=qqd m (s.drop b) 1;rw[e,List.flatten_cons,hd]at hfl;refine⟨s.take b,f::rest,by rw[e],?_,.inl (by rw[List.length_take];omega),fun t ht => ?_⟩
    ·intro h;have:(s.take b).length=0:=by rw[h];rfl
     rw[List.length_take]at this;omega
    ·rcases List.mem_cons.1 ht with rfl|ht
     ·refine⟨f1,?_⟩
      cases t with
      |nil=>exact absurd rfl f1|cons c t=>
       injection hfl with h1 _
       unfold jt at b3;rw[qjp _ _ b2]at b3;simp only[qA]at b3;show bl c=true;rw[h1];exact b3.1
     ·exact f3 t ht
  ·exact⟨s,[],rfl,hs,.inr rfl,fun t ht=>by cases ht⟩
def zyo:∀n:_root_.Fin 256,nk (UInt8.ofNat n.val)=true->(UInt8.ofNat n.val≠13/\UInt8.ofNat n.val≠10/\UInt8.ofNat n.val≠0)/\UInt8.ofNat n.val≠58/\bl (UInt8.ofNat n.val)=false:=by decide +kernel
def qq0(c:UInt8)(h:nk c=true):(c≠13/\c≠10/\c≠0)/\c≠58/\bl c=false:=kj (fun c=>nk c=true->(c≠13/\c≠10/\c≠0)/\c≠58/\bl c=false) zyo c h
def zgx{n:List UInt8}(h:gz n=true):n≠[]/\∀c∈n,nk c=true:=by
 unfold gz at h;simp only[qA]at h;exact⟨by have:=h.1.1;intro e;subst e;simp at this,fun c hc=>List.all_eq_true.1 h.2 c hc⟩
def zwd{n:List UInt8}(h:gz n=true):g8 n=n:=by
 obtain⟨h1,h2⟩:=zgx h;rcases List.eq_nil_or_concat n with rfl|⟨t,c,rfl⟩
 ·rfl
 ·rw[List.concat_eq_append]at *;rw[qkm,(qq0 c (h2 c oB)).2.2];rfl
def zg6{v:List UInt8}(h:sc v=true):qpk v/\uz v=true:=by
 unfold sc at h;simp only[qA,Bool.not_eq_true']at h;refine⟨fun c hc => ?_,h.2⟩
 have:=List.any_eq_false.1 h.1 c hc;simp at this;exact this
def zwu(x:bc)(hx:jv x)(m:Nat)(q:List UInt8)(a:Nat)(out:List bc)(hm:(cf (dt x.1 x.2)++q).length<=m) :
  ∃m',q.length<=m'/\hd m (cf (dt x.1 x.2)++q) a out=hd m' q (a+(cf (dt x.1 x.2)).length) (out++[(x.1,32::x.2)]):=by
 obtain⟨n,v⟩:=x;simp only at hm ⊢;obtain⟨h1,h2,h3⟩:=qef hx.1;simp only at h1 h2 h3;obtain⟨n0,nB⟩:=zgx h1;obtain⟨v1,v2⟩:=zg6 h3;obtain⟨f,rest,e,f0,f1,f2⟩:=zgy (bt n v).length (bt n v) (n.length+2) oA (by simp[bt])
 have e:dt n v=f::rest:=e;have hflat:f++rest.flatten=bt n v:=by
  have:=qqd (bt n v).length (bt n v) (n.length+2);rw[show fk (bt n v).length (bt n v) (n.length+2)=dt n v from rfl,e,List.flatten_cons]at this
  exact this
 have hcl:∀c∈bt n v,c≠13/\c≠10/\c≠0:=by
  intro c hc;unfold bt at hc;rcases List.mem_append.1 hc with hc|hc
  ·rcases List.mem_append.1 hc with hc|hc
   ·exact(qq0 c (nB c hc)).1
   ·simp at hc;rcases hc with rfl|rfl<;>decide
  ·exact v1 c hc
 have hflen:n.length+2<=f.length:=by
  rcases f1 with h|h
  ·exact h
  ·rw[h];simp[bt]
 obtain⟨w,hw⟩:∃w,f=n++58::32::w:=by
  have hp:n++[58,32] <+: f:=by
   have p1:n++[58,32] <+: f++rest.flatten:=by rw[hflat];exact⟨v,rfl⟩
   have p2:f <+: f++rest.flatten:=⟨_,rfl⟩;exact List.prefix_of_prefix_length_le p1 p2 oD
  obtain⟨w,hw⟩:=hp;exact⟨w,by rw[← hw];simp⟩
 have hwv:w++rest.flatten=v:=by
  rw[hw]at hflat;have:n++58::32::(w++rest.flatten)=n++58::32::v:=by simpa [bt] using hflat
  have:=List.append_cancel_left this;simpa using this
 rw[e]at hm ⊢;have hc:cf (f::rest)++q=f++13::10::(cf rest++q):=by simp[cf]
 have hcl2:(cf (f::rest)).length=f.length+2+(cf rest).length:=by simp[cf];omega
 rw[hc]at hm ⊢;simp only[qM,qL]at hm;obtain⟨m,rfl⟩:∃j,m=j+1:=⟨m-1,oA⟩
 have hff:qpk f:=fun c hc=>hcl c (by rw[← hflat];exact List.mem_append_left _ hc)
 have hbl:bl (f.headD 0)=false:=by
  rw[hw]
  cases n with|nil=>exact absurd rfl n0|cons c n=>exact(qq0 c (nB c qH)).2.2
 have hfo:ov f=some (n,32::w):=by
  rw[hw,q2g n (32::w) (fun c hc=>(qq0 c (nB c hc)).2.1),zwd h1,qX h1]
 rw[hd,qW oB,q3b f _ hff]
 simp only;rw[qW f0,qW (by rw[hbl];simp),hfo]
 simp only;rw[show(f++13::10::(cf rest++q)).drop (f.length+2)=cf rest++q by
  rw[show f++13::10::(cf rest++q)=(f++[13,10])++(cf rest++q) by simp,show f.length+2=(f++[13,10]).length by simp,List.drop_left]]
 rw[zhd rest m q (a+(f.length+2)) out (n,32::w) (fun t ht=>⟨fun c hc=>hcl c (by rw[← hflat];exact List.mem_append_right _ (List.mem_flatten.2 ⟨t,ht,hc⟩)),f2 t ht⟩) oI,hcl2]
 refine⟨m-rest.length,?_,?_⟩
 ·have:=q27 rest;omega
 ·rw[show 32::w++rest.flatten=32::v by rw[← hwv];rfl,show a+(f.length+2)+(cf rest).length=a+(f.length+2+(cf rest).length) by omega]
def zhc:∀(l:List bc)(m:Nat)(q:List UInt8)(a:Nat)(out:List bc),(∀x∈l,jv x)->(jr l++q).length<=m ->
  ∃m',q.length<=m'/\hd m (jr l++q) a out=hd m' q (a+(jr l).length) (out++l.map fun x=>(x.1,32::x.2))
 |[],m,q,a,out,_,hm=>⟨m,by simpa [jr] using hm,by simp[jr]⟩|x::l,m,q,a,out,h,hm=>by
  have hc:jr (x::l)=cf (dt x.1 x.2)++jr l:=by simp[jr]
  rw[hc,qS]at hm ⊢;obtain⟨m1,k1,e1⟩:=zwu x (h x qH) m (jr l++q) a out hm;obtain⟨m2,k2,e2⟩:=zhc l m1 q (a+(cf (dt x.1 x.2)).length) (out++[(x.1,32::x.2)]) (fun y hy=>h y (qE _ hy)) k1
  refine⟨m2,k2,?_⟩;rw[e1,e2];simp[Nat.add_assoc]
def zfr{v:List UInt8}(h:sc v=true):me (32::v)=v:=by
 obtain⟨h1,h2⟩:=zg6 h;unfold me;have e:v.map d5=v:=by
  have:v.map d5=v.map id:=List.map_congr_left fun c hc=>by unfold d5;rw[qW (by have:=h1 c hc;simp[this.1,this.2.2])];rfl
  rw[this,List.map_id]
 rw[List.map_cons,e,show d5 32=32 from rfl]
 have ht:ix v=v:=of_decide_eq_true ((zmg v).trans h2);unfold ix at ht ⊢;rw[vk,show bl 32=true from rfl,qX rfl]
 exact ht
def zmp:∀(l:List bc)(i:Nat),(∀x∈l,jv x)->qb0 i (l.map fun x=>(x.1,32::x.2))=none
 |[],_,_=>rfl|x::l,i,h=>by
  obtain⟨h1,h2,h3⟩:=qef (h x qH).1;rw[List.map_cons,qb0];simp only;rw[zfr h3,qW oA]
  exact zmp l (i+1) fun y hy=>h y (qE _ hy)
def zuc(l:List bc)(h:∀x∈l,jv x):(l.map fun x=>((x.1,32::x.2):bc)).map qi4=l:=by
 rw[List.map_map];have:l.map (qi4 ∘ fun x=>((x.1,32::x.2):bc))=l.map id:=List.map_congr_left fun x hx=>by
  obtain⟨_,_,h3⟩:=qef (h x hx).1;show(x.1,me (32::x.2))=x;rw[zfr h3]
 rw[this,List.map_id]
def z1a{m:List bc×List UInt8}(h:(lm m).1=0):g7 (hbytes m.1++m.2)=(((hbytes m.1).length:Int),(0,0),m.1):=by
 obtain⟨l,b⟩:=m;obtain⟨_,k1,k2,k3,_⟩:=q3m h;simp only at k1 k2 k3 ⊢;unfold g7;rw[qW (by rw[qM];omega)]
 have e:hbytes l++b=jr l++(13::10::b):=by simp[hbytes]
 obtain⟨m',q1,q2⟩:=zhc l (hbytes l++b).length (13::10::b) 0 [] k2 (by rw[e];exact wF _)
 rw[e]at q2 ⊢;rw[q2];simp only[qL]at q1;obtain⟨m',rfl⟩:∃j,m'=j+1:=⟨m' - 1,oA⟩
 have hl:=q3b [] b (fun x hx=>by cases hx)
 simp only[List.nil_append,qZ,wO]at hl;rw[hd,qW oB,hl]
 simp only;rw[qX trivial];simp only[List.nil_append,wO];unfold vb xu;rw[qW mD,qZ,zmp l 0 k2]
 simp only[List.nil_append];rw[zuc l k2];simp[hbytes]
def z08{m:List bc×List UInt8}(h:(lm m).1=0):qrg (hbytes m.1++m.2)=(m,(0,0)):=by
 unfold qrg;rw[z1a h];simp only;rw[qW oB,show((hbytes m.1).length:Int).toNat=(hbytes m.1).length by omega,List.drop_left,zv0 _ m.2 0 (wF _) (q3m h).2.2.2.2,qW (by simpa using h)]
end Go.Sym
