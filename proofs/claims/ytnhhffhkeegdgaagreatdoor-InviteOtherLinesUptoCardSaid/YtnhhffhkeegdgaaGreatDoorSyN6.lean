/- What the claim rests on, part 6: gathered texts. -/
import Derived.Lib.CountLaws
import Derived.Lib.IndexLaws
import Derived.Lib.Join
import Derived.Test.YtnhhffhkeegdgaaGreatDoorSyN4
set_option maxRecDepth 100000
set_option linter.defProp false
set_option linter.unusedSimpArgs false
set_option linter.unusedVariables false
namespace Go.Sym
def bu{x:Int}(h1 : -9223372036854775808<=x:=by omega)(h2:x<9223372036854775808:=by omega):af x=x:=by
 unfold af IntKind.wrap;simp[IntKind.signed,IntKind.bits];omega
def ar{α:Type}{b:Bool}{x y:α}(h:b=true:=by first|rfl|simp;done):(bif b then x else y)=x:=by subst h;rfl
def ak{α:Type}{b:Bool}{x y:α}(h:b=false:=by first|rfl|simp;done):(bif b then x else y)=y:=by subst h;rfl
def nv{α:Type}{p:Prop}[Decidable p]{x y:α}:(bif decide p then x else y)=if p then x else y:=by by_cases h:p<;>simp[h]
def ao{α:Type}{p:Prop}[Decidable p]{x y:α}(h:p):(bif decide p then x else y)=x:=ar (decide_eq_true h)
def bz{α:Type}{p:Prop}[Decidable p]{x y:α}(h:¬p:=by first|omega|simp;done|simp;omega):(bif decide p then x else y)=y:=ak (decide_eq_false h)
def qa7{α:Type}{p:Prop}[Decidable p]{x y:α}:(bif !decide p then x else y)=if p then y else x:=by by_cases h:p<;>simp[h]
def ib{α:Type}{a b:Int}{x y:α}:(bif a != b then x else y)=if a≠b then x else y:=by
 by_cases h:a=b
 ·rw[ak (by simp[h]),qW (by simp[h])]
 ·rw[ar (by simp[h]),qX h]
def qx4{α:Type}{a b:Int}{x y:α}:(bif a==b then x else y)=if a=b then x else y:=by
 by_cases h:a=b
 ·rw[ar (by simp[h]),qX h]
 ·rw[ak (by simp[h]),qW h]
def zk7{α:Type}{a b:UInt8}{x y:α}:(bif a==b then x else y)=if a=b then x else y:=by
 by_cases h:a=b
 ·rw[ar (by simp[h]),qX h]
 ·rw[ak (by simp[h]),qW h]
def zdw{α β:Type}(l:List α)(i:Int)(f:α->Option β):(bif decide (0<=i/\i.toNat<List.length l) then(l[i.toNat]?).bind f else none)=(ap l i).bind f:=by
 unfold ap;by_cases h:0<=i
 ·by_cases h2:i.toNat<l.length
  ·simp[h,h2]
  ·simp[h,h2]
 ·simp[h]
def qbf{α:Type}(l:List α)(k:Nat)(h:k<l.length:=by omega):ap l (k:Int)=some l[k]:=by
 unfold ap;rw[qX];simp[h]
def gz{α:Type}(ab:List α)(c:α)(aa:List α):ap (ab++c::aa) (ab.length:Int)=some c:=by
 unfold ap;rw[qX];simp
def qp0{α:Type}(ab:List α)(c:α)(aa:List α):(ab++c::aa)[((ab.length:Nat):Int).toNat]? = some c:=oC
def qra{α:Type}(ab:List α)(c d:α)(aa:List α):List.set (ab++c::aa) ((ab.length:Nat):Int).toNat d=ab++d::aa:=oC
def qbr(k:Nat)(h:k<9223372036854775807:=by omega):af ((k:Int)+1)=((k+1:Nat):Int):=by rw[bu];omega
def yi(P:UInt8->Prop)(h:∀n:_root_.Fin 256,P (UInt8.ofNat n.val))(c:UInt8):P c:=by
 have:=h ⟨c.toNat,c.toNat_lt⟩;simpa using this
def lo(c:UInt8):UInt8:=if 65<=c/\c<=90 then c+32 else c
def bl(c:UInt8):Bool:=c==32||c==9
def zu6(n:Nat)(h:n<1000000000:=by omega):af (((n+1:Nat):Int)-1)=(n:Int):=by rw[bu];omega
def zuf{α:Type}(ab:List α)(aa:List α):List.take ((ab.length:Nat):Int).toNat (ab++aa)=ab:=oC
def q9h{α:Type}(ab:List α)(c:α)(aa:List α):List.drop ((ab.length+1:Nat):Int).toNat (ab++c::aa)=aa:=by
 rw[show((ab.length+1:Nat):Int).toNat=(ab++[c]).length by simp,show ab++c::aa=(ab++[c])++aa by simp]
 simp
def zpf{α:Type}(ab:List α)(c:α)(aa:List α):((ab++c::aa).length:Int)=((ab.length+aa.length+1:Nat):Int):=by simp;omega
def qlc(k:UInt8):∀(s:List UInt8),(∃t r,s=t++k::r/\∀x∈t,x≠k)\/∀x∈s,x≠k
 |[] => .inr (fun _ h=>by cases h)
 |c::s=>by
  by_cases hc:c=k
  ·subst hc;exact .inl ⟨[],s,rfl,fun _ h=>by cases h⟩
  ·rcases qlc k s with⟨t,r,rfl,h⟩|h
   ·exact .inl ⟨c::t,r,rfl,fun x hx=>(List.mem_cons.1 hx).elim (fun e=>e▸hc) (h x)⟩
   ·exact .inr fun x hx=>(List.mem_cons.1 hx).elim (fun e=>e▸hc) (h x)
def qjp{α:Type}{x y:α}:(bif !true then x else y)=y:=rfl
def qz5(c:UInt8):(c+97)-65=c+32:=by
 rw[UInt8.sub_eq_add_neg,UInt8.add_assoc];rfl
def qkp(fu:Nat):∀(n:Nat)(ab aa:List UInt8),aa.length<n->ab.length+aa.length<=9223372036854775807 ->
  vg fu n ((ab.length+aa.length:Nat):Int) (ab.length:Int) (ab++aa)=some (ab++aa.map lo)
 |0,_,_,h,_=>absurd h oA|n+1,ab,[],_,_=>by simp[vg,qc6]|n+1,ab,c::aa,h,hb=>by
  simp only[qL]at h hb;have ih:=fun d=>qkp fu n (ab++[d]) aa oA oE
  simp only[qM,qL,qZ,qS,wM,wO]at ih;have e:((ab.length+(c::aa).length:Nat):Int)=((ab.length+1+aa.length:Nat):Int):=by simp only[qL];omega
  have hl:0<=(ab.length:Int)/\(ab.length:Int).toNat<(ab++c::aa).length:=oC
  rw[e];simp only[vg,qc6];rw[ao oA,ao hl,qp0,qB,qra,qbr _,nv,nv,ih,ih,ao hl,qB]
  unfold lo;simp only[List.map_cons,qz5];by_cases h1:(65:UInt8)<=c
  ·by_cases h2:c<=90
   ·simp[h1,h2]
   ·simp[h1,h2]
  ·simp[h1]
def q0a(fu:Nat)(s:List UInt8)(h:s.length<fu)(hb:s.length<=maxLen):qai fu s=some (s.map lo):=by
 unfold qai;rw[ao hb];have:=qkp fu fu [] s h (by simpa [maxLen] using hb)
 simpa using this
def zlh(fu:Nat)(a b:List UInt8)(ha:a.length<fu)(hb:b.length<fu)(ha':a.length<=maxLen)(hb':b.length<=maxLen):xv fu a b=some (a.map lo==b.map lo):=by
 unfold xv;rw[qx4,q0a fu a ha ha',q0a fu b hb hb'];by_cases h:(a.length:Int)=b.length
 ·rw[qX h];rfl
 ·rw[qW h];have:(a.map lo==b.map lo)=false:=by
   rw[beq_eq_false_iff_ne];intro q;apply h;have:=congrArg List.length q;simp only[wC]at this;omega
  rw[this]
open Go.Lib (decodeL decodeN decodeL_N validD validD_step decodeL_le decodeL_width)
end Go.Sym
namespace Go.Sym

open Go.Lib (decodeL decodeN decodeL_N decodeL_le decodeL_width validD validD_step)
def gg(c:Nat):Bs:=if c<128 then[UInt8.ofNat c] else if c<2048 then[UInt8.ofNat (192+c/64),UInt8.ofNat (128+c%64)] else if c<65536 then[UInt8.ofNat (224+c/4096),UInt8.ofNat (128+c/64%64),UInt8.ofNat (128+c%64)] else[UInt8.ofNat (240+c/262144),UInt8.ofNat (128+c/4096%64),UInt8.ofNat (128+c/64%64),UInt8.ofNat (128+c%64)]
def uh(c:Nat):Prop:=c<55296\/(57344<=c/\c<=1114111)
def q9i{c:Nat}:1<=(gg c).length/\(gg c).length<=4:=by
 unfold gg;repeat' split
 all_goals simp
def znc{c:Nat}:gg c≠[]:=fun q=>by have:=q9i (c:=c);rw[q]at this;simp at this
def ug(n:Nat)(h:n<256:=by omega):(UInt8.ofNat n).toNat=n:=by rw[UInt8.toNat_ofNat'];omega
def zmp{c:Nat}(h:uh c)(t:Bs):decodeL (gg c++t)=(c,(gg c).length):=by
 unfold uh at h;rw[decodeL_N];unfold gg;by_cases h1:c<128
 ·rw[qX h1];show decodeN (t.length+1) (UInt8.ofNat c).toNat _ _ _=_;rw[ug c]
  unfold decodeN;rw[qX h1];rfl
 rw[qW h1];by_cases h2:c<2048
 ·rw[qX h2];show decodeN (t.length+1+1) (UInt8.ofNat (192+c/64)).toNat (UInt8.ofNat (128+c%64)).toNat _ _=_;rw[ug _,ug _]
  unfold decodeN;rw[qW oA,qX ⟨oA,oA,oA⟩,qX,show(192+c/64)%32*64+(128+c%64)%64=c by omega];rfl
 rw[qW h2];by_cases h3:c<65536
 ·rw[qX h3];show decodeN (t.length+1+1+1) (UInt8.ofNat (224+c/4096)).toNat (UInt8.ofNat (128+c/64%64)).toNat (UInt8.ofNat (128+c%64)).toNat _=_;rw[ug _,ug _,ug _]
  have e:(224+c/4096)%16*4096+(128+c/64%64)%64*64+(128+c%64)%64=c:=oA
  unfold decodeN;rw[qW oA,qW oA,qX ⟨oA,⟨oA,oA⟩,oA,oA⟩,e,qX ⟨oA,oA⟩];rfl
 ·rw[qW h3];show decodeN (t.length+1+1+1+1) (UInt8.ofNat (240+c/262144)).toNat (UInt8.ofNat (128+c/4096%64)).toNat (UInt8.ofNat (128+c/64%64)).toNat (UInt8.ofNat (128+c%64)).toNat=_;rw[ug _,ug _,ug _,ug _]
  have e:(240+c/262144)%8*262144+(128+c/4096%64)%64*4096+(128+c/64%64)%64*64+(128+c%64)%64=c:=oA
  unfold decodeN;rw[qW oA,qW oA,qW oA,qX ⟨oA,⟨oA,oA⟩,⟨oA,oA⟩,oA,oA⟩,e,qX ⟨oA,oA⟩];rfl
def tx(R:List Nat):Bs:=R.flatMap gg
def zfe:tx []=[]:=rfl
def qlg(c:Nat)(R:List Nat):tx (c::R)=gg c++tx R:=by simp[tx]
def zum(R S:List Nat):tx (R++S)=tx R++tx S:=by simp[tx]
def okT(R:List Nat):Prop:=∀c∈R,uh c
def zcl{c:Nat}{R:List Nat}(h:okT (c::R)):uh c/\okT R:=⟨h c qH,fun d hd=>h d (qE _ hd)⟩
def zmr(l:Bs)(hne:l≠[])(hv:¬((decodeL l).1=65533/\(decodeL l).2=1)):uh (decodeL l).1:=by
 have k:=Lib.decodeL_rune l;rw[decodeL_N]at *;unfold uh;unfold decodeN at *
 repeat' split at hv
 all_goals repeat' split
 all_goals simp only at *
 all_goals omega
def znd{c:Nat}(h:uh c):Lib.encodeRune (c:Int)=gg c:=by
 unfold uh at h;unfold Lib.encodeRune gg;by_cases h1:c<128
 ·rw[Lib.encodeRuneZ_one oA oA,qX h1];rfl
 rw[qW h1];by_cases h2:c<2048
 ·rw[Lib.encodeRuneZ_two oA oA,qX h2];rfl
 rw[qW h2];by_cases h3:c<65536
 ·rw[Lib.encodeRuneZ_three oA,qX h3];rfl
 ·rw[Lib.encodeRuneZ_four oA oA,qW h3];rfl
def qrn:∀(n:Nat)(l:Bs),l.length<=n->validD l=true->∃R,okT R/\l=tx R:=by
 intro n
 induction n with
 |zero=>
  intro l hl _;have:l=[]:=List.eq_nil_of_length_eq_zero oA
  exact⟨[],(fun c hc=>by cases hc),this⟩
 |succ n ih=>
  intro l hl hv;by_cases hne:l=[]
  ·exact⟨[],(fun c hc=>by cases hc),hne⟩
  ·rw[validD_step l hne]at hv;split at hv
   ·cases hv
   ·rename_i hg;have w:=decodeL_width l;have wl:=decodeL_le l hne;obtain⟨R,h1,h2⟩:=ih (l.drop (decodeL l).2) (by rw[List.length_drop];omega) hv
    have ho:=zmr l hne hg;refine⟨(decodeL l).1::R,?_,?_⟩
    ·intro c hc;rcases List.mem_cons.1 hc with rfl|hc
     ·exact ho
     ·exact h1 c hc
    ·rw[qlg,← h2];have e:=Lib.encode_decode l hne hg;rw[znd ho]at e;rw[e,List.take_append_drop]
end Go.Sym
namespace Go.Sym
def q8b(c:UInt8):qhk c=some (bl c):=by unfold qhk bl;cases c==32<;>rfl
def n6(f:Int×Int):eh f=some (f.1 != 0):=rfl
def zqj(fu n:Nat)(c:UInt8):∀(ab aa:Bs),aa.length<n->ab.length+aa.length<1000000000 ->
  qgu fu n c (ab++aa) (ab.length:Int)=some (aa.contains c):=by
 induction n with
 |zero=>intro ab aa h;omega|succ n ih=>
  intro ab aa h hb;rw[qgu,qsn]
  cases aa with
  |nil=>rw[bz];rfl|cons d aa=>
   simp only[qL]at h hb;rw[zpf,ao oA,gz,qB,qbr _,zk7,List.contains_cons]
   have:=ih (ab++[d]) aa oA oE
   simp only[qM,qL,qZ,qS,wM]at this;by_cases e:d=c
   ·rw[qX e];simp[e]
   ·rw[qW e,this];have:(c==d)=false:=by simp;exact fun h=>e h.symm
    rw[this,Bool.false_or]
def zqi(fu:Nat)(c:UInt8)(l:Bs)(h:l.length<fu)(hb:l.length<1000000000):ql4 fu c l=some (l.contains c):=by
 have:=zqj fu fu c [] l h (by simpa using hb)
 simpa [ql4] using this
open Go.Lib (validD)
abbrev Prm:Type:=Bs×Bs
def SmP(l:List Prm):Prop:=l.length<=4000000/\∀x∈l,x.1.length<=4000000/\x.2.length<=4000000
def lk(a b:Bs):Bool:=a.map lo==b.map lo
def qq8(fu:Nat)(hfu:90000000<=fu)(a b:Bs)(ha:a.length<=4000000)(hb:b.length<=4000000):xv fu a b=some (lk a b):=
 zlh fu a b oA oA (by simp[maxLen];omega) (by simp[maxLen];omega)
def SmP.mono{l l':List Prm}(h:SmP l)(h1:l'.length<=l.length)(h2:∀x∈l',x∈l):SmP l':=⟨Nat.le_trans h1 h.1,fun x hx=>h.2 x (h2 x hx)⟩
end Go.Sym
namespace Go.Sym
end Go.Sym
namespace Go.Sym.Tr
def lo(c:UInt8):UInt8:=if 65<=c/\c<=90 then c+32 else c
def qz5(c:UInt8):(c+97)-65=c+32:=by
 rw[UInt8.sub_eq_add_neg,UInt8.add_assoc];rfl
def qkp(fu:Nat):∀(n:Nat)(ab aa:List UInt8),aa.length<n->ab.length+aa.length<=9223372036854775807 ->
  vg fu n ((ab.length+aa.length:Nat):Int) (ab.length:Int) (ab++aa)=some (ab++aa.map lo)
 |0,_,_,h,_=>absurd h oA|n+1,ab,[],_,_=>by simp[vg,qc6]|n+1,ab,c::aa,h,hb=>by
  simp only[qL]at h hb;have ih:=fun d=>qkp fu n (ab++[d]) aa oA oE
  simp only[qM,qL,qZ,qS,wM,wO]at ih;have e:((ab.length+(c::aa).length:Nat):Int)=((ab.length+1+aa.length:Nat):Int):=by simp only[qL];omega
  have hl:0<=(ab.length:Int)/\(ab.length:Int).toNat<(ab++c::aa).length:=oC
  rw[e];simp only[vg,qc6];rw[ao oA,ao hl,qp0,qB,qra,qbr _,nv,nv,ih,ih,ao hl,qB]
  unfold lo;simp only[List.map_cons,qz5];by_cases h1:(65:UInt8)<=c
  ·by_cases h2:c<=90
   ·simp[h1,h2]
   ·simp[h1,h2]
  ·simp[h1]
def q0a(fu:Nat)(s:List UInt8)(h:s.length<fu)(hb:s.length<=maxLen):qai fu s=some (s.map lo):=by
 unfold qai;rw[ao hb];have:=qkp fu fu [] s h (by simpa [maxLen] using hb)
 simpa using this
end Go.Sym.Tr
namespace Go.Sym.Tr
def wr(m:UInt8)(col i:Nat):List UInt8->Int|[] => -1|c::r=>if(c==13&&r.head? == some 10)=true then wr m 0 (i+2) r.tail else if c=0\/c=13\/c=10\/m<c\/col=998 then(i:Int) else wr m (col+1) (i+1) r
termination_by l=>l.length
decreasing_by all_goals (simp only[qL,List.length_tail];omega)
end Go.Sym.Tr
namespace Go.Sym.Tr
def zj6:List UInt8:=[65,66,67,68,69,70,71,72,73,74,75,76,77,78,79,80,81,82,83,84,85,86,87,88,89,90,97,98,99,100,101,102,103,104,105,106,107,108,109,110,111,112,113,114,115,116,117,118,119,120,121,122,48,49,50,51,52,53,54,55,56,57,43,47]
def al(k:Nat):UInt8:=zj6.getD k 0
def c0(x:Nat):UInt8:=al (x/262144%64)
def c1(x:Nat):UInt8:=al (x/4096%64)
def c2(x:Nat):UInt8:=al (x/64%64)
def c3(x:Nat):UInt8:=al (x%64)
def e64:List UInt8->List UInt8|[]=>[]|[a]=>[c0 (a.toNat*65536),c1 (a.toNat*65536),61,61]|[a,b]=>[c0 (a.toNat*65536+b.toNat*256),c1 (a.toNat*65536+b.toNat*256),c2 (a.toNat*65536+b.toNat*256),61]|a::b::c::r=>c0 (a.toNat*65536+b.toNat*256+c.toNat)::c1 (a.toNat*65536+b.toNat*256+c.toNat)::c2 (a.toNat*65536+b.toNat*256+c.toNat)::c3 (a.toNat*65536+b.toNat*256+c.toNat)::e64 r
end Go.Sym.Tr
namespace Go.Sym.Tr
end Go.Sym.Tr
namespace Go.Sym.Tr
def zp4(c:UInt8):List Nat:=[c.toNat/128%2,c.toNat/64%2,c.toNat/32%2,c.toNat/16%2,c.toNat/8%2,c.toNat/4%2,c.toNat/2%2,c.toNat%2]
def bits(b:List UInt8):List Nat:=b.flatMap zp4
def n2(a:Nat):2*(2*0+a/2%2)+a%2=a%4:=oA
def n4(t b:Nat)(h:b<256):2*(2*(2*(2*t+b/128%2)+b/64%2)+b/32%2)+b/16%2=16*t+b/16:=oA
def x0(a b c:Nat)(h:a<256)(hb:b<256)(hc:c<256):(a*65536+b*256+c)/262144%64=a/4:=oA
def x1(a b c:Nat)(h:a<256)(hb:b<256)(hc:c<256):(a*65536+b*256+c)/4096%64=16*(a%4)+b/16:=oA
def x2(a b c:Nat)(h:a<256)(hb:b<256)(hc:c<256):(a*65536+b*256+c)/64%64=4*(b%16)+c/64:=oA
def x3(a b c:Nat)(h:a<256)(hb:b<256)(hc:c<256):(a*65536+b*256+c)%64=c%64:=oA
end Go.Sym.Tr
namespace Go.Sym.Tr
def yi(P:UInt8->Prop)(h:∀n:_root_.Fin 256,P (UInt8.ofNat n.val))(c:UInt8):P c:=by
 have:=h ⟨c.toNat,c.toNat_lt⟩;simpa using this
def isL:List UInt8->Bool|a::b::_=>a==13&&b==10|_=>false
def q9h{α:Type}(ab:List α)(c:α)(aa:List α):List.drop ((ab.length+1:Nat):Int).toNat (ab++c::aa)=aa:=by
 rw[show((ab.length+1:Nat):Int).toNat=(ab++[c]).length by simp,show ab++c::aa=(ab++[c])++aa by simp]
 simp
end Go.Sym.Tr
namespace Go.Sym.Tr
end Go.Sym.Tr
namespace Go.Sym.Tr
def sp:List UInt8->List UInt8×List UInt8|[]=>([],[])|c::r=>if isL (c::r) then([],c::r) else(c::(sp r).1,(sp r).2)
end Go.Sym.Tr
namespace Go.Sym.Tr
def qxt(a b:Int):pz a b=some (a,b):=rfl
end Go.Sym.Tr
namespace Go.Sym.Tr
end Go.Sym.Tr
namespace Go.Sym.Tr
end Go.Sym.Tr
namespace Go.Sym.Tr
end Go.Sym.Tr
namespace Go.Sym.Tr
end Go.Sym.Tr
namespace Go.Sym.Tr
end Go.Sym.Tr
namespace Go.Sym.Tr
end Go.Sym.Tr
namespace Go.Sym.Tr
end Go.Sym.Tr
namespace Go.Sym
abbrev sAs:Bs:=[97,115,99,105,105]
abbrev sLa:Bs:=[108,97,116,105,110,49]
abbrev sU8:Bs:=[117,116,102,56]
def nmK:Nat->Bs|0=>sAs|1=>sLa|_=>sU8
def q2f:∀(R:List Nat),okT R->Lib.validD (tx R)=true
 |[],_=>rfl|c::R,h=>by
  obtain⟨h1,h2⟩:=zcl h;have hl:=q9i (c:=c);have d:=zmp h1 (tx R);rw[qlg,Lib.validD_step _ (by intro q;exact znc (List.append_eq_nil_iff.1 q).1),d]
  simp only;rw[qW (by
   rintro⟨q1,q2⟩
   subst q1;revert q2;decide),List.drop_left]
  exact q2f R h2
end Go.Sym
namespace Go.Sym
def ltr(c:UInt8):Bool:=decide (97<=c/\c<=122)||decide (65<=c/\c<=90)||decide (48<=c/\c<=57)
abbrev hxD:Bs:=[48,49,50,51,52,53,54,55,56,57,65,66,67,68,69,70]
def hxH(c:UInt8):UInt8:=hxD.getD (c.toNat/16) 0
def hxL(c:UInt8):UInt8:=hxD.getD (c.toNat%16) 0
def dq(c:UInt8):Bs:=if c=32 then[95] else if ltr c=true then[c] else[61,hxH c,hxL c]
def zu8(c:UInt8)(out:Bs)(h:out.length<=1000000000:=by omega):qdr c out=some (out++[c]):=by
 unfold qdr p8;rw[qB,ao oP]
def q2p(t out:Bs)(h:out.length<=1000000000:=by omega)(ht:t.length<=1000000:=by omega):xz t out=some ((List.length t:Int),out++t):=by
 unfold xz p8;rw[qB,ao (by simp only[aw,qM];omega)]
open Go.Lib (indexByte)
def zmj(k:Nat)(R:List Nat):Bs:=if k=2 then Tr.e64 (tx R) else(R.map UInt8.ofNat).flatMap dq
def zo9(k:Nat):UInt8:=if k=2 then 66 else 81
def zfu(k:Nat)(R:List Nat):Bs:=61::63::(nmK k++63::zo9 k::63::(zmj k R++[63,61]))
def ixl:∀(w r:Bs),(∀c∈w,c≠63)->Lib.index (w++63::r) [63]=(w.length:Int)
 |[],r,_=>by rw[List.nil_append,Lib.index,qX oX];rfl|c::w,r,h=>by
  have hc:=h c qH;rw[wK,Lib.index,qW (by simp[List.isPrefixOf];intro q;exact hc q.symm),ixl w r (fun d hd=>h d (qE _ hd)),qW (by rw[beq_iff_eq];omega)]
  simp
def zoh(w r:Bs)(h:∀c∈w,c≠63)(hl:w.length+r.length<=1000000):eu (w++63::r) [63]=some (w.length:Int):=by
 unfold eu ju;rw[ao oL,qB,ixl w r h]
end Go.Sym
namespace Go.Sym

def Ok{α:Type}(P:α->Prop)(x:Option α):Prop:=∃v,x=some v/\P v
def bg{α:Type}{P:α->Prop}{v:α}(h:P v):Ok P (some v):=⟨v,rfl,h⟩
def ui{α:Type}{P Q:α->Prop}{x:Option α}(h:Ok P x)(f:∀v,P v->Q v):Ok Q x:=by
 obtain⟨v,e,hv⟩:=h;exact⟨v,e,f v hv⟩
def ay{α β:Type}{P:α->Prop}{Q:β->Prop}{x:Option α}{f:α->Option β}(h:Ok P x)(g:∀v,P v->Ok Q (f v)):Ok Q (x.bind f):=by
 obtain⟨v,e,hv⟩:=h;rw[e,qB];exact g v hv
def cr{α:Type}{P:α->Prop}{b:Bool}{x y:Option α}(h:b=true->Ok P x)(g:b=false->Ok P y):Ok P (bif b then x else y):=by
 cases b
 ·exact g rfl
 ·exact h rfl
def ij{α:Type}{P:α->Prop}{b:Bool}{x y:Option α}(h:b=false->Ok P x)(g:b=true->Ok P y):Ok P (bif !b then x else y):=by
 cases b
 ·exact h rfl
 ·exact g rfl
def cu{α:Type}{P:α->Prop}{p:Prop}[Decidable p]{x y:Option α}(h:p->Ok P x)(g:¬p->Ok P y):Ok P (bif decide p then x else y):=by
 by_cases q:p
 ·rw[ao q];exact h q
 ·rw[bz q];exact g q
def ck{α:Type}{P:α->Prop}{p:Prop}[Decidable p]{x:Option α}(q:p)(h:Ok P x):Ok P (bif decide p then x else none):=by
 rw[ao q];exact h
def ff{α β γ:Type}{P:γ->Prop}{o:α ⊕ β}{f:α->Option γ}{g:β->Option γ}(h:∀a,o = .inl a->Ok P (f a))(h':∀b,o = .inr b->Ok P (g b)):Ok P (az o f g):=by
 cases o with|inl a=>exact h a rfl|inr b=>exact h' b rfl
def q0x{α:Type}{P:α->Prop}{l:List α}{k:Nat}(h:k<l.length)(g:∀c∈l,P c):Ok P (ap l (k:Int)):=⟨l[k],qbf l k h,g _ (List.getElem_mem h)⟩
def f9{α:Type}{l:List α}{k:Nat}(h:k<l.length:=by omega):Ok (fun _=>True) (ap l (k:Int)):=q0x h fun _ _=>trivial
def qq6:∀l:List Int,(jb l).length<=4*l.length
 |[]=>by simp[jb]|x::l=>by
  have:=qq6 l;have hx:(rm x).length<=4:=by
   unfold rm Utf8.encode;simp only[]
   repeat' split
   all_goals simp[ByteArray.size]
  have e:jb (x::l)=rm x++jb l:=by simp[jb]
  rw[e,qM,qL];omega
def zs7(s:Bs):(gc s).length<=s.length:=q1w s s.length 0
def zti(fu n:Nat)(m:Int):∀(ab aa:Bs)(out:List Int),aa.length<n->ab.length+aa.length<100000000->out.length+aa.length<=100000000 ->
  ∃r,qho fu n (ab++aa) ((ab.length+aa.length:Nat):Int) (ab.length:Int) m out=some (m,r)/\r.length<=out.length+aa.length:=by
 induction n with
 |zero=>intro ab aa out h;omega|succ n ih=>
  intro ab aa out h hb ho;rw[qho,qt2]
  cases aa with
  |nil=>rw[bz];exact⟨out,rfl,oC⟩|cons c aa=>
   simp only[qL]at h hb ho;have ih:=fun out=>ih (ab++[c]) aa out oA oE
   simp only[qM,qL,qZ,qS,wM,wO]at ih;rw[ao (by simp only[qL];omega),gz,qB,qbr _,show ab.length+(c::aa).length=ab.length+1+aa.length by simp only[qL];omega,nv]
   split
   ·rw[ao oP]
    obtain⟨r,h1,h2⟩:=ih (out++[65533]) oE
    exact⟨r,h1,by simp only[qM,qL,qZ]at h2 ⊢;omega⟩
   ·rw[ao oP]
    obtain⟨r,h1,h2⟩:=ih (out++[(c.toNat:Int)]) oE
    exact⟨r,h1,by simp only[qM,qL,qZ]at h2 ⊢;omega⟩
def zfl(k:Nat)(b:Bs)(h:k+1<b.length)(hb:b.length<100000000):∃v,qhp (k:Int) b=some (v,b):=by
 unfold qhp;rw[qbf b k,qB,qbr k,qbf b (k+1) h,qB]
 exact⟨_,rfl⟩
def qrq(k:Nat)(h:k<100000000:=by omega):af ((k:Int)+2)=((k+2:Nat):Int):=by rw[bu];omega
def zux(fu:Nat)(r0:Int->Bs->List Int->Option (List Int))(b:Bs)(hb:b.length<100000000)(j:Nat)(v:Int)(out:List Int)(hj:j+2<=b.length)(ho:out.length<=j)
  (h:∀out:List Int,out.length<=j+2->∃r,r0 ((j+2:Nat):Int) b out=some r/\r.length<=b.length):∃r,qaj fu r0 (j:Int) v b out=some r/\r.length<=b.length:=by
 have g:∀x:Int,∃r,(bif decide (List.length (out++([x]:List Int))<=aw) then r0 (af ((j:Int)+2)) b (out++([x]:List Int)) else none)=some r/\r.length<=b.length:=fun x=>by
  rw[ao oP,qrq j]
  exact h _ oG
 unfold qaj;rw[nv];split
 ·rw[nv];split
  ·exact g 65533
  ·exact g v
 ·exact g v
def zmc(fu:Nat)(b:Bs)(hb:b.length<100000000)(n:Nat):∀(k:Nat)(out:List Int),k<=b.length->b.length-k<n->out.length<=k->∃r,xy fu n (k:Int) b out=some r/\r.length<=b.length:=by
 induction n with
 |zero=>intro k out _ h;omega|succ n ih=>
  intro k out hk h ho;rw[xy,qt4];by_cases h0:(k:Int)<(b.length:Int)
  ·rw[ao h0,qbr k,qx4]
   by_cases h1:((k+1:Nat):Int)=(b.length:Int)
   ·rw[qX h1,ao oP]
    exact⟨_,rfl,oG⟩
   ·rw[qW h1];obtain⟨v,hv⟩:=zfl k b oA hb
    rw[hv,qB];have p3:∀(j:Nat)(v:Int),k<=j->j+2<=b.length->∃r,qaj fu (xy fu n) (j:Int) v b out=some r/\r.length<=b.length:=fun j v h1 h2=>
     zux fu _ b hb j v out h2 oA fun out ho=>ih (j+2) out oA oA oA
    have p2:∀(v w:Int)(c:Bool),k+3<b.length->∃r,qhq fu (xy fu n) (k:Int) v w c b out=some r/\r.length<=b.length:=fun v w c h4=>by
     unfold qhq;cases c
     ·rw[ak rfl];exact p3 k v (wF _) oA
     ·rw[ar rfl,qrq k];exact p3 (k+2) _ oA oA
    have p1:∀(v:Int)(c:Bool),(c=true->k+3<b.length)->∃r,qc7 fu (xy fu n) (k:Int) v c b out=some r/\r.length<=b.length:=fun v c hc=>by
     unfold qc7;cases c
     ·rw[ak rfl];exact p3 k v (wF _) oA
     ·have h4:=hc rfl;rw[ar rfl,qrq k]
      obtain⟨w,hw⟩:=zfl (k+2) b oA hb
      rw[hw,qB];dsimp only;rw[nv];split
      ·exact p2 v w _ h4
      ·exact p2 v w _ h4
    have e3:af ((k:Int)+3)=((k+3:Nat):Int):=by rw[bu];omega
    dsimp only;rw[nv];split
    ·rw[nv];split
     ·rw[e3];exact p1 v _ fun q=>by have:=of_decide_eq_true q;omega
     ·exact p1 v false oC
    ·exact p1 v false oC
  ·rw[bz h0];exact⟨out,rfl,oA⟩
def znv(fu:Nat)(hfu:90000000<=fu)(nm:Bs)(hn:nm.length<=4000000):(∃x:Bs,∃m:Int,xx fu nm=some (.inl (x,(true,m))))\/(∃x:Bs,xx fu nm=some (.inr (.inl (x,true))))\/(∃x:Bs,xx fu nm=some (.inr (.inr (.inl (x,true)))))\/xx fu nm=some (.inr (.inr (.inr ([],false)))):=by
 unfold xx qmn;simp only[qB];rw[qq8 fu hfu _ _ oC hn,qB]
 cases lk [97,115,99,105,105] nm
 ·rw[ak rfl,qq8 fu hfu _ _ oC hn,qB]
  cases lk [108,97,116,105,110,49] nm
  ·rw[ak rfl,qq8 fu hfu _ _ oC hn,qB]
   cases lk [117,116,102,56] nm
   ·rw[ak rfl,qq8 fu hfu _ _ oC hn,qB]
    cases lk [117,116,102,49,54,98,101] nm
    ·rw[ak rfl];exact .inr (.inr (.inr rfl))
    ·rw[ar rfl];exact .inr (.inr (.inl ⟨_,rfl⟩))
   ·rw[ar rfl];exact .inr (.inl ⟨_,rfl⟩)
  ·rw[ar rfl];exact .inl ⟨_,_,rfl⟩
 ·rw[ar rfl];exact .inl ⟨_,_,rfl⟩
def zls(fu:Nat)(hfu:90000000<=fu)(nm b:Bs)(hn:nm.length<=4000000:=by omega):∃s f,qmm fu nm b=some (s,f)/\s.length<=48000:=by
 unfold qmm;by_cases h12:(12000:Int)<(b.length:Int)
 ·rw[ao h12];exact⟨[],_,rfl,oC⟩
 ·rw[bz h12];rcases znv fu hfu nm hn with⟨x,m,e⟩|⟨x,e⟩|⟨x,e⟩|e<;>rw[e,qB]<;>simp only[az]
  ·rw[qjp];obtain⟨r,h1,h2⟩:=zti fu fu m [] b [] oA oE oE
   have hr:=qq6 r;simp only[List.nil_append,qZ,wO]at h1 h2;rw[show((0:Nat):Int)=0 from rfl]at h1
   unfold qt1;rw[h1];exact⟨_,_,rfl,by simp only;omega⟩
  ·rw[qjp];have hr:=qq6 (gc b);have hv:=zs7 b;unfold qt0;rw[ao oA]
   exact⟨_,_,rfl,oA⟩
  ·rw[qjp];obtain⟨r,h1,h2⟩:=zmc fu b oA fu 0 [] oA oA oC
   have hr:=qq6 r;unfold qt3;rw[show(0:Int)=((0:Nat):Int) from rfl,h1]
   exact⟨_,_,rfl,oA⟩
  ·exact⟨_,_,rfl,oC⟩
def zoa:∀n:_root_.Fin 256,(qc5 (UInt8.ofNat n.val)).isSome=true:=by decide +kernel
def zaj(c:UInt8):Ok (fun _=>True) (qc5 c):=by
 obtain⟨v,e⟩:=Option.isSome_iff_exists.1 (yi (fun c=>(qc5 c).isSome=true) zoa c)
 exact⟨v,e,trivial⟩
def zqp(r:Bs):Ok (fun v=>v.2=true->2<=r.length) (qmk r):=by
 unfold qmk;refine cu (fun _=>bg (fun q=>by cases q)) fun h => ?_
 have hl:2<=r.length:=oA
 refine ay (f9 (k:=0) oA) fun c1 _=>ay (zaj c1) fun x2 _=>ay (f9 (k:=1) oA) fun c3 _=>ay (zaj c3) fun x4 _ => ?_
 exact cr (fun _=>bg fun _=>hl) (fun _=>bg fun _=>hl)
def rr{α:Type}(out:List α)(c:α)(h:out.length<=1000000000:=by omega):(out++[c]).length<=aw:=by
 simp only[aw,qM,qL,qZ];omega
def cd(k:Nat)(h:k<100000000:=by omega):af ((k:Int)+1)=((k+1:Nat):Int):=qbr k
def zur(fu n:Nat)(s:Bs)(hs:s.length<=100000):∀(k:Nat)(out:Bs),k<=s.length->s.length-k<n->out.length<=k->Ok (fun _=>True) (qdz fu n s (k:Int) out):=by
 induction n with
 |zero=>intro k out _ h;omega|succ n ih=>
  intro k out hk h ho;rw[qdz,qv9];refine cu (fun h0 => ?_) (fun _=>bg trivial)
  have hk1:k<s.length:=oA
  have l1:∀c:UInt8,(out++[c]).length<=k+1:=fun c=>by simp;omega
  have p3:∀b:Bool,Ok (fun _=>True) (qix fu (qdz fu n) s (k:Int) b out):=fun b=>by
   unfold qix;refine cr (fun _=>ay (f9 hk1) fun c1 _=>ck (rr _ _) ?_) (fun _=>bg trivial)
   rw[cd k]
   exact ih (k+1) _ oA oA (l1 _)
  refine ay (f9 hk1) fun c1 _=>cr (fun _=>ck (rr _ _) ?_) fun _=>ay (f9 hk1) fun c2 _=>cr (fun _ => ?_) fun _ => ?_
  ·rw[cd k]
   exact ih (k+1) _ oA oA (l1 _)
  ·rw[cd k]
   refine ck oA (ay (zqp _) fun x3 h3=>ij (fun _=>bg trivial) fun q=>ck (rr _ _) ?_)
   have:=h3 q;rw[List.length_drop]at this;rw[qrq k,cd (k+2)]
   exact ih (k+2+1) _ oA oA (by have:=l1 x3.1;omega)
  ·exact ay (f9 hk1) fun c4 _=>cu (fun _=>ay (f9 hk1) fun c5 _=>p3 _) fun _=>p3 _
def zo3(v:Int):Ok (fun _=>True) (ap ([65,66,67,68,69,70,71,72,73,74,75,76,77,78,79,80,81,82,83,84,85,86,87,88,89,90,97,98,99,100,101,102,103,104,105,106,107,108,109,110,111,112,113,114,115,116,117,118,119,120,121,122,48,49,50,51,52,53,54,55,56,57,43,47]:Bs) (af (((BitVec.ofInt 64 v&&&BitVec.ofInt 64 (63:Int)).toNat:Int)))):=by
 have h:(BitVec.ofInt 64 v&&&BitVec.ofInt 64 (63:Int)).toNat<=63:=by
  rw[BitVec.toNat_and];exact Nat.le_trans Nat.and_le_right oD
 generalize (BitVec.ofInt 64 v&&&BitVec.ofInt 64 (63:Int)).toNat=k at h;rw[bu]
 exact f9 oI
def zne(a b c d:UInt8)(k:Int)(o:Bs)(h:o.length<=1000000:=by omega):Ok (fun r=>r.2.length<=o.length+6) (io a b c d k o):=by
 unfold io;exact cr (fun _=>ck oK (ck oK (bg oC))) fun _=>ck oK (bg oC)
def zn4(fu n:Nat):∀(m o:Bs)(l:Int),m.length<n->o.length+6*m.length<=900000->Ok (fun r=>r.2.2.length<=900000) (vf fu n m l o):=by
 induction n with
 |zero=>intro m o l h;omega|succ n ih=>
  intro m o l h ho;rw[vf,qtf];refine cu (fun h0 => ?_) fun _=>bg (by show o.length<=900000;omega)
  obtain⟨k,hk,k1,k2⟩:∃k:Nat,(if(List.length m:Int)<(3:Int) then(List.length m:Int) else(3:Int))=k/\1<=k/\k<=m.length:=by
   split
   ·exact⟨m.length,rfl,oA,oA⟩
   ·exact⟨3,rfl,oA,oA⟩
  rw[hk];have nx:∀v:Int×Bs,v.2.length<=o.length+6->Ok (fun r=>r.2.2.length<=900000) (bif decide (0<=(k:Int)/\(k:Int)<=(List.length m:Int)) then vf fu n (List.drop (k:Int).toNat m) v.1 v.2 else none):=fun v hv=>
   ck ⟨oA,oA⟩ (ih _ _ _ (by rw[List.length_drop];omega) (by rw[List.length_drop];omega))
  have p3:∀v,Ok (fun r=>r.2.2.length<=900000) (qhg fu (vf fu n) (k:Int) v m l o):=fun v=>by
   unfold qhg;have e:=fun a b c d=>zne a b c d l o
   repeat' first|exact ay (e _ _ _ _) nx|refine ay (zo3 _) fun _ _ => ?_|refine cu (fun _ => ?_) fun _ => ?_
  have p2:∀v,Ok (fun r=>r.2.2.length<=900000) (qhf fu (vf fu n) (k:Int) v m l o):=fun v=>by
   unfold qhf;exact cu (fun _=>ay (f9 (k:=2) oA) fun _ _=>p3 _) fun _=>p3 _
  have p1:∀v,Ok (fun r=>r.2.2.length<=900000) (qhe fu (vf fu n) (k:Int) v m l o):=fun v=>by
   unfold qhe;exact cu (fun _=>ay (f9 (k:=1) oA) fun _ _=>p2 _) fun _=>p2 _
  exact cu (fun _=>ay (f9 (k:=0) oA) fun _ _=>p1 _) fun _=>p1 _
def znx(fu:Nat)(hfu:90000000<=fu)(b:Bs):Ok (fun _=>True) (qiy fu b):=by
 unfold qiy;refine ay (P:=fun r=>r.2.length<=1000000) ?_ fun x h=>ay (P:=fun _=>True) ?_ fun _ _=>bg trivial
 ·unfold qtc;refine cu (fun _=>⟨_,rfl,oC⟩) fun h => ?_
  rw[show qte b=some b from rfl,qB]
  refine ay (zn4 fu fu b [] 0 oA oE) fun x hx=>cu (fun _=>ck oK ⟨_,rfl,oE⟩) fun _=>⟨_,rfl,by show x.2.2.length<=1000000;omega⟩
 ·unfold np;exact ck oI (bg trivial)
def zpg(fu n:Nat)(s:Bs)(hs:s.length<=24000)(z:Int×Int):∀(k j:Nat)(v:Int)(o:Bs),k<=s.length->s.length-k<n->o.length<=k->j<=7->Ok (fun _=>True) (qhd fu n v (j:Int) s (s.length:Int) (k:Int) z o):=by
 induction n with
 |zero=>intro k j v o _ h;omega|succ n ih=>
  intro k j v o hk h ho hj;rw[qhd,qtd];refine cu (fun h0 => ?_) fun _=>⟨_,rfl,trivial⟩
  refine ay (f9) fun y _=>cr (fun _=>⟨_,rfl,trivial⟩) fun _=>ck oD (ay (P:=fun _=>True) ⟨_,rfl,trivial⟩ fun x _ => ?_)
  rw[cd k,bu (x:=(j:Int)+6) oA oA]
  refine cu (fun _=>ih (k+1) j v o oA oA oA hj) fun _=>cu (fun h8 => ?_) fun h8 => ?_
  ·rw[bu (x:=(j:Int)+6-8) oA oA,show(j:Int)+6-8=((j-2:Nat):Int) by omega]
   exact ck oA (ck oK (ck oA (ih (k+1) (j-2) _ _ oA oA oE oA)))
  ·rw[show(j:Int)+6=((j+6:Nat):Int) by omega]
   exact ih (k+1) (j+6) _ _ oA oA oA oA
def zlk(fu:Nat)(hfu:90000000<=fu)(k s:Bs)(hs:s.length<=24000:=by omega):Ok (fun _=>True) (qnu fu k s):=by
 have p1:∀b:Bool,Ok (fun _=>True) (qiw fu s b):=fun b=>by
  unfold qiw;exact cr (fun _=>zur fu fu s oA 0 [] oA oA oC) (fun _=>bg trivial)
 have p0:∀b:Bool,Ok (fun _=>True) (qiv fu s k b):=fun b=>by
  unfold qiv;refine cr (fun _=>ck (by unfold maxLen;omega) ?_) (fun _=>cr (fun _=>p1 _) (fun _=>p1 _))
  have hl:Ok (fun _=>True) (qmg fu s):=by
   unfold qmg;exact cu (fun _=>⟨_,rfl,trivial⟩) fun _=>zpg fu fu s hs (0,0) 0 0 0 [] oA oA oC oA
  exact ay hl fun _ _=>ay (znx fu hfu _) fun _ _=>bg trivial
 unfold qnu;exact cr (fun _=>p0 _) (fun _=>p0 _)
def tot(l:List Bs):Nat:=(l.map List.length).sum
def qrh:tot []=0:=rfl
def q2c(a:Bs)(l:List Bs):tot (a::l)=a.length+tot l:=by simp[tot]
def zfa(a b:List Bs):tot (a++b)=tot a+tot b:=by simp[tot]
def zoi(s:Bs)(hl:s.length<=1000000:=by omega):(eu s [63]=some (-1))\/∃w r,s=w++63::r/\eu s [63]=some (w.length:Int):=by
 rcases qlc 63 s with⟨w,r,rfl,h⟩|h
 ·exact .inr ⟨w,r,rfl,zoh w r h (by simp at hl;omega)⟩
 ·refine .inl ?_;unfold eu ju;rw[ao oA,qB]
  congr 1;clear hl
  induction s with
  |nil=>rfl|cons c s ih=>
   rw[Lib.index,qW (by simp[List.isPrefixOf];exact fun q=>h c qH q.symm),ih (fun x hx=>h x (qE _ hx))]
   rfl
def zn2(fu:Nat)(n:Nat)(m:Nat)(hm:m<=3):∀(s:Bs)(D E:List Bs),s.length<=100000->E.length+D.length=m+1->D.length<=m->m-D.length<n ->
  Ok (fun r=>r.length<=m+1/\tot r+r.length=tot D+D.length+s.length+1) (sx fu n s [63] 0 (m:Int) (D.length:Int) (D++E)):=by
 induction n with
 |zero=>intro s D E _ _ _ h;omega|succ n ih=>
  intro s D E hs hE hD hn;rw[sx,qik];obtain⟨e,E,rfl⟩:∃e E',E=e::E':=by cases E with|nil=>simp at hE;omega|cons e E=>exact⟨e,E,rfl⟩
  have hlt:(D.length:Int).toNat<(D++e::E).length:=oC
  have fin:Ok (fun r=>r.length<=m+1/\tot r+r.length=tot D+D.length+s.length+1) (bif decide (0<=(D.length:Int)/\(D.length:Int).toNat<List.length (D++e::E)) then((D++e::E)[(D.length:Int).toNat]?).bind fun _=>bif decide (0<=af ((D.length:Int)+(1:Int))/\af ((D.length:Int)+(1:Int))<=(List.length (List.set (D++e::E) (D.length:Int).toNat s):Int)) then some (List.take (af ((D.length:Int)+(1:Int))).toNat (List.set (D++e::E) (D.length:Int).toNat s)) else none else none):=by
   refine ck ⟨oA,hlt⟩ ?_
   rw[qp0,qB,qra,cd _]
   refine ck ⟨oA,oE⟩ (bg ?_)
   rw[show((D.length+1:Nat):Int).toNat=(D++[s]).length by simp,show D++s::E=(D++[s])++E by simp,List.take_left,zfa,q2c,qrh]
   simp;omega
  refine cu (fun h0 => ?_) (fun h0=>fin)
  rcases zoi s with hi|⟨w,r,rfl,hi⟩
  ·rw[hi,qB,ao oA];exact fin
  ·simp only[qM,qL]at hs;rw[hi,qB,bz,Int.add_zero,bu (x:=(w.length:Int)) oA oA]
   refine ck oE (ck ⟨oA,hlt⟩ ?_)
   rw[qp0,qB,show((List.length ([63]:Bs):Nat):Int)=1 from rfl,cd _,cd _,qra]
   refine ck oE ?_
   rw[show((w.length+1:Nat):Int).toNat=w.length+1 by omega,← List.drop_drop,List.drop_left,show((w.length:Nat):Int).toNat=w.length by omega,List.take_left]
   have:=ih r (D++[w]) E oA (by simp at hE ⊢;omega) oE oE
   simp only[qM,qL,qZ,wO,qS,wM]at this;refine ui this fun v hv=>⟨hv.1,?_⟩
   have h2:=hv.2;rw[zfa,q2c,qrh]at h2;simp only[qM,qL];omega
def ztp(fu:Nat)(hfu:100<=fu)(s:Bs)(hs:s.length<=100000:=by omega):Ok (fun r=>r.length<=4/\tot r+r.length=s.length+1) (qnm fu s [63] 4):=by
 unfold qnm qij;rw[ak,ak,bz oD]
 unfold qil;rw[cd _]
 generalize hx:(if((s.length+1:Nat):Int)<(4:Int) then((s.length+1:Nat):Int) else(4:Int))=x
 obtain⟨m,rfl,hm⟩:∃m:Nat,x=((m+1:Nat):Int)/\m<=3:=by
  by_cases h:((s.length+1:Nat):Int)<(4:Int)
  ·rw[qX h]at hx;exact⟨s.length,hx.symm,oA⟩
  ·rw[qW h]at hx;exact⟨3,oA,oA⟩
 refine ay (P:=fun r=>r.length<=4/\tot r+r.length=s.length+1) (ck oA ?_) fun v hv=>bg hv
 rw[zu6 m,show((m+1:Nat):Int).toNat=m+1 by omega]
 have:=zn2 fu fu m hm s [] (List.replicate (m+1) []) hs oC oC oE
 rw[List.nil_append,qrh]at this;refine ui this fun v hv=>⟨oA,?_⟩
 have:=hv.2;simp at this;exact this
def zaf(s p:Bs):Ok (fun b=>b=true->p.length<=s.length) (qds s p):=by
 unfold qds qdb;refine ay (P:=fun b=>b=true->p.length<=s.length) (cu (fun h=>ck oA (bg fun _=>oA)) fun h=>bg fun q=>by cases q) fun v hv=>bg hv
def zny{r:List Bs}(h:¬(r.length:Int)<4)(h':r.length<=4):∃a b c d,r=[a,b,c,d]:=by
 match r,h,h' with|[a,b,c,d],_,_=>exact⟨a,b,c,d,rfl⟩|[],h,_=>exact absurd h oC|[_],h,_=>exact absurd h oC|[_,_],h,_=>exact absurd h oC|[_,_,_],h,_=>exact absurd h oC|_::_::_::_::_::_,_,h=>exact absurd h oC
def zsb(fu:Nat)(hfu:90000000<=fu)(s:Bs)(hs:s.length<=100000):Ok (fun v=>v.1.length<=48000/\(v.2.2=true->∃k:Nat,v.2.1=(k:Int)/\6<=k/\k<=s.length)) (qnv fu s):=by
 unfold qnv;refine ay (zaf s [61,63]) fun b hb=>ij (fun _=>bg ⟨oC,fun q=>by cases q⟩) fun q => ?_
 have h2:2<=s.length:=hb q;generalize hx:(if(75:Int)<(List.length s:Int) then(75:Int) else(List.length s:Int))=x
 obtain⟨m,rfl,hm,hm2,hm3⟩:∃m:Nat,x=(m:Int)/\2<=m/\m<=s.length/\m<=75:=by
  by_cases h:(75:Int)<(List.length s:Int)
  ·rw[qX h]at hx;exact⟨75,oA,oA,oA,oA⟩
  ·rw[qW h]at hx;exact⟨s.length,hx.symm,oA,oA,oA⟩
 refine ck oA ?_
 have hl:(List.take ((m:Int).toNat-(2:Int).toNat) (List.drop (2:Int).toNat s)).length=m-2:=by
  rw[List.length_take,List.length_drop,show(2:Int).toNat=2 from rfl,show(m:Int).toNat=m by omega];omega
 refine ay (ztp fu oA _) fun r hr => ?_
 rw[hl]at hr;refine cu (fun _ => ?_) fun h4 => ?_
 ·unfold qiz;rw[ar rfl];exact bg ⟨oC,fun q=>by cases q⟩
 ·obtain⟨a,b,c,d,rfl⟩:=zny h4 hr.1;have ht:=hr.2;simp only[q2c,qrh,qL,qZ]at ht;rw[show ap [a,b,c,d] (3:Int)=some d from rfl,qB]
  refine ay (zaf d [61]) fun b4 hb4 => ?_
  unfold qiz;refine ij (fun _ => ?_) fun q => ?_
  ·exact bg ⟨oC,fun q=>by cases q⟩
  ·have hd:1<=d.length:=hb4 q;unfold qwd;rw[show ap [a,b,c,d] (1:Int)=some b from rfl,show ap [a,b,c,d] (2:Int)=some c from rfl,show ap [a,b,c,d] (0:Int)=some a from rfl]
   simp only[qB];refine ay (zlk fu hfu b c) fun x3 _ => ?_
   obtain⟨t,f,e,hlt⟩:=zls fu hfu a x3.2
   rw[e,qB];have e2:af (af (af (af ((2:Int)+(a.length:Int))+(b.length:Int))+(c.length:Int))+4)=((2+a.length+b.length+c.length+4:Nat):Int):=by
    rw[bu (x:=2+(a.length:Int)) oA oA,bu (x:=2+(a.length:Int)+(b.length:Int)) oA oA,bu (x:=2+(a.length:Int)+(b.length:Int)+(c.length:Int)) oA oA,bu]
    omega
   rw[e2];refine cr (fun _ => ?_) fun _=>bg ⟨hlt,fun q=>by cases q⟩
   exact⟨_,rfl,hlt,fun _=>⟨_,rfl,oA,oA⟩⟩
def Gp(g:Int)(k:Nat):Prop:=g<0\/∃j:Nat,g=(j:Int)/\j<=k
def zmq(fu:Nat)(hfu:90000000<=fu)(z:Int×Int)(s:Bs)(hs:s.length<=4000)(n:Nat):∀(k:Nat)(g:Int)(out:Bs),k<=s.length->s.length-k<n->Gp g k->out.length<=60000*k ->
  Ok (fun v=>v.1.length<=300000000) (x9 fu n s g (k:Int) z out):=by
 induction n with
 |zero=>intro k g out _ h;omega|succ n ih=>
  intro k g out hk h hg ho;rw[x9,qv7];refine cu (fun h0 => ?_) fun h0 => ?_
  ·have hk1:k<s.length:=oA
   refine ck oA (ay (zsb fu hfu _ (by rw[List.length_drop];omega)) fun v hv => ?_)
   have p3:∀(g:Int)(out:Bs),Gp g k->out.length<=60000*k+10000->Ok (fun v=>v.1.length<=300000000) (qiu fu (x9 fu n) s g (k:Int) z out):=fun g out hg ho=>by
    unfold qiu;rw[cd k]
    exact ih (k+1) g out oA oA (hg.imp id fun⟨j,e,hj⟩=>⟨j,e,oA⟩) oA
   have p2:∀(b:Bool)(g:Int)(out:Bs),(b=true->0<=g)->Gp g k->out.length<=60000*k+1->Ok (fun v=>v.1.length<=300000000) (qit fu (x9 fu n) s g (k:Int) b z out):=fun b g out hb hg ho=>by
    unfold qit;refine cr (fun q => ?_) fun _=>p3 g out hg oA
    have:=hb q;obtain⟨j,rfl,hj⟩:∃j:Nat,g=(j:Int)/\j<=k:=hg.resolve_left oA
    rw[cd k]
    refine ck oA ?_
    have hl:(List.take (((k+1:Nat):Int).toNat-(j:Int).toNat) (List.drop (j:Int).toNat s)).length<=4000:=by
     rw[List.length_take,List.length_drop];omega
    rw[q2p _ _,qB]
    exact p3 (-1) _ (.inl oA) oW
   have p1:∀(g:Int)(out:Bs),Gp g k->out.length<=60000*k+1->Ok (fun v=>v.1.length<=300000000) (qis fu (x9 fu n) s g (k:Int) z out):=fun g out hg ho=>by
    unfold qis;refine cu (fun h=>ay (f9 hk1) fun c _ => ?_) fun h=>p2 false g out (fun q=>by cases q) hg ho
    rw[q8b,qB];exact p2 _ g out (fun _=>h) hg ho
   refine ij (fun _=>cu (fun _=>ay (f9 hk1) fun c _ => ?_) fun _=>p1 g out hg oA) fun q => ?_
   ·rw[zu8 _ _,qB]
    exact p1 g _ hg oG
   ·obtain⟨j,e,h6,hj⟩:=hv.2 q;rw[List.length_drop]at hj;have hv1:=hv.1;rw[q2p _ _,qB,e,bu (x:=(k:Int)+(j:Int)) oA oA,show(k:Int)+(j:Int)=((k+j:Nat):Int) by omega]
    exact ih (k+j) _ _ oA oA (.inr ⟨k+j,rfl,wF _⟩) oW
  ·refine cu (fun h => ?_) fun h => ?_
   ·obtain⟨j,rfl,hj⟩:∃j:Nat,g=(j:Int)/\j<=k:=hg.resolve_left oA
    refine ck oA ?_
    have hl:(List.drop (j:Int).toNat s).length<=4000:=by rw[List.length_drop];omega
    rw[q2p _ _,qB]
    exact⟨_,rfl,oM⟩
   ·exact⟨_,rfl,oN⟩
def zms(fu:Nat)(hfu:90000000<=fu)(s:Bs):Ok (fun v=>v.1.length<=300000000) (qnt fu s):=by
 unfold qnt;refine cu (fun _=>⟨_,rfl,oC⟩) fun h => ?_
 exact zmq fu hfu _ s oA fu 0 (-1) [] oA oA (.inl oA) oC
abbrev dk{α:Type}:α->Prop:=fun _=>True
def qoz:∀n:_root_.Fin 256,(uy (UInt8.ofNat n.val)).isSome=true/\(xp (UInt8.ofNat n.val)).isSome=true/\(xj (UInt8.ofNat n.val)).isSome=true/\(qdt ([58,59,44,64,60,62]:Bs) (UInt8.ofNat n.val)).isSome=true:=by decide +kernel
def qqk{α:Type}{x:Option α}(h:x.isSome=true):Ok dk x:=by
 obtain⟨v,e⟩:=Option.isSome_iff_exists.1 h;exact⟨v,e,trivial⟩
def qxv(c:UInt8):Ok dk (uy c):=qqk (yi (fun c=>(uy c).isSome=true) (fun n=>(qoz n).1) c)
def zpp(c:UInt8):Ok dk (xp c):=qqk (yi (fun c=>(xp c).isSome=true) (fun n=>(qoz n).2.1) c)
def q9c(c:UInt8):Ok dk (xj c):=qqk (yi (fun c=>(xj c).isSome=true) (fun n=>(qoz n).2.2.1) c)
def zth(c:UInt8):Ok dk (qdt ([58,59,44,64,60,62]:Bs) c):=qqk (yi (fun c=>(qdt ([58,59,44,64,60,62]:Bs) c).isSome=true) (fun n=>(qoz n).2.2.2) c)
def qxm(s:Bs)(hs:s.length<=10000000)(P0:Nat->Bs->Int->Int->Option Bool)(p:UInt8->Option Bool)(hp:∀c,Ok dk (p c))
  (h0:∀n e k,P0 (n+1) s e k=(bif decide (k<e) then(ap s k).bind fun c=>(p c).bind fun x=>bif !x then some false else P0 n s e (af (k+(1:Int))) else some true)) :
  ∀n k:Nat,s.length-k<n->Ok dk (P0 n s (s.length:Int) (k:Int)):=by
 intro n
 induction n with
 |zero=>intro k h;omega|succ n ih=>
  intro k h;rw[h0];refine cu (fun q=>ay (f9 (k:=k) oA) fun c _=>ay (hp c) fun x _=>ij (fun _=>bg trivial) fun _ => ?_) fun _=>bg trivial
  rw[cd k]
  exact ih (k+1) oA
def ixc(c:UInt8):∀(w r:Bs),(∀x∈w,x≠c)->Lib.index (w++c::r) [c]=(w.length:Int)
 |[],r,_=>by rw[List.nil_append,Lib.index,qX oX];rfl|d::w,r,h=>by
  have hc:=h d qH;rw[wK,Lib.index,qW (by simp[List.isPrefixOf];intro q;exact hc q.symm),ixc c w r (fun d hd=>h d (qE _ hd)),qW (by rw[beq_iff_eq];omega)]
  simp
def ixn(c:UInt8):∀s:Bs,(∀x∈s,x≠c)->Lib.index s [c] = -1
 |[],_=>rfl|d::s,h=>by
  rw[Lib.index,qW (by simp[List.isPrefixOf];exact fun q=>h d qH q.symm),ixn c s (fun x hx=>h x (qE _ hx))]
  rfl
def zom(c:UInt8)(s:Bs)(hl:s.length<=1000000:=by omega):(eu s [c]=some (-1))\/∃w r,s=w++c::r/\eu s [c]=some (w.length:Int):=by
 unfold eu ju;rw[ao oA,qB]
 rcases qlc c s with⟨w,r,rfl,h⟩|h
 ·exact .inr ⟨w,r,rfl,congrArg some (ixc c w r h)⟩
 ·exact .inl (congrArg some (ixn c s h))
def zc5{R:Type}(P1:Nat->Bs->Bs->Int->Bool->Option R)(r0:Bs->Bool->Option (Bool ⊕ Bool))(A B:Bs×Bs×Int×Bool->R)(hr:∀s b,s.length<=100000->Ok dk (r0 s b))
  (h0:∀n m1 m2 m3 m5,P1 (n+1) m1 m2 m3 m5=(eu m2 m1).bind fun x1=>bif decide (x1<(0:Int)) then(r0 m2 m5).bind fun x2=>az x2 (fun a3=>some (A (m1,(m2,(m3,a3))))) (fun b4=>some (B (m1,(m2,(m3,b4))))) else bif decide (0<=af (x1+m3)/\af (x1+m3)<=(List.length m2:Int)) then(r0 (List.take (af (x1+m3)).toNat m2) m5).bind fun x5=>az x5 (fun a6=>some (A (m1,(m2,(m3,a6))))) (fun b7=>bif decide (0<=af (x1+(List.length m1:Int))/\af (x1+(List.length m1:Int))<=(List.length m2:Int)) then P1 n m1 (List.drop (af (x1+(List.length m1:Int))).toNat m2) m3 b7 else none) else none) :
  ∀(n:Nat)(s:Bs)(b:Bool),s.length<n->s.length<=100000->Ok dk (P1 n [46] s 0 b):=by
 intro n
 induction n with
 |zero=>intro s b h;omega|succ n ih=>
  intro s b h hs;rw[h0];rcases zom 46 s with e|⟨w,r,rfl,e⟩
  ·rw[e,qB,ao oA]
   exact ay (hr s b hs) fun x2 _=>ff (fun _ _=>bg trivial) fun _ _=>bg trivial
  ·simp only[qM,qL]at h hs;rw[e,qB,bz,Int.add_zero,bu (x:=(w.length:Int)) oA oA]
   refine ck oE (ay (hr _ b (by rw[List.length_take];simp;omega)) fun x2 _=>ff (fun _ _=>bg trivial) fun b7 _ => ?_)
   rw[show((List.length ([46]:Bs):Nat):Int)=1 from rfl,cd _]
   refine ck oE ?_
   rw[show((w.length+1:Nat):Int).toNat=w.length+1 by omega,← List.drop_drop,List.drop_left]
   exact ih r b7 oA oA
def zjz(fu:Nat)(hfu:90000000<=fu)(s:Bs)(hs:s.length<=100000:=by omega):Ok dk (qmh fu s):=qxm s oA (qc2 fu) xp zpp (fun _ _ _=>rfl) fu 0 oA
def zj1(fu:Nat)(hfu:90000000<=fu)(s:Bs)(hs:s.length<=100000):Ok dk (qhi fu s):=qxm s oA (qc3 fu) uy qxv (fun _ _ _=>rfl) fu 0 oA
def zj3(fu:Nat)(hfu:90000000<=fu)(s:Bs)(hs:s.length<=100000):Ok dk (qmi fu s):=qxm s oA (qc4 fu) xj q9c (fun _ _ _=>rfl) fu 0 oA
def qz6(fu:Nat)(hfu:90000000<=fu)(s:Bs):Ok dk (va fu s):=by
 unfold va;exact ij (fun _=>cu (fun h=>ay (zjz fu hfu s) fun _ _=>bg trivial) fun _=>bg trivial) fun _=>bg trivial
def zm4(fu:Nat)(hfu:90000000<=fu)(s:Bs)(hs:s.length<=100000:=by omega):Ok dk (xm fu s):=by
 unfold xm qmd nq qdv;simp only[qB];unfold qnn;rw[ak]
 refine ay (P:=dk) (ay (P:=dk) ?_ fun x _=>ff (fun _ _=>bg trivial) fun _ _=>bg trivial) fun _ _=>bg trivial
 refine zc5 (qim fu) (xq fu) _ _ (fun s b hs => ?_) (fun _ _ _ _ _=>rfl) fu s false oA hs
 unfold xq;exact cr (fun _=>bg trivial) fun _=>ay (zj1 fu hfu s hs) fun _ _=>ij (fun _=>bg trivial) fun _=>bg trivial
def qyv(fu:Nat)(hfu:90000000<=fu)(s:Bs):Ok dk (uz fu s):=by
 unfold uz;refine cu (fun h => ?_) fun _=>bg trivial
 unfold qme nq qdv;simp only[qB];unfold qno;rw[ak]
 refine ay (P:=dk) (ay (P:=dk) ?_ fun x _=>ff (fun _ _=>bg trivial) fun _ _=>bg trivial) fun _ _=>bg trivial
 refine zc5 (qin fu) (xt fu) _ _ (fun s b hs => ?_) (fun _ _ _ _ _=>rfl) fu s false oA oA
 unfold xt;exact cr (fun _=>bg trivial) fun _=>ay (zj3 fu hfu s hs) fun _ _=>ij (fun _=>bg trivial) fun _=>bg trivial
def At(s:Bs)(k:Nat)(m:Bs×Int):Prop:=∃j:Nat,m=(s,(j:Int))/\k<=j/\j<=s.length
def jy{s:Bs}{k j:Nat}(h:k<=j)(h':j<=s.length):At s k (s,(j:Int)):=⟨j,rfl,h,h'⟩
def at_le{s:Bs}{k l:Nat}{m:Bs×Int}(h:At s k m)(q:l<=k:=by omega):At s l m:=by obtain⟨j,e,a,b⟩:=h;exact⟨j,e,oA,b⟩
def iy{α:Type}(P:α->Prop)(r:Int ⊕ α):Prop:=∀m,r = .inr m->P m
def ez{α:Type}{P:α->Prop}{x:Int}:iy P (.inl x):=fun _ q=>by cases q
def js{α:Type}{P:α->Prop}{x:α}(h:P x):iy P (.inr x):=fun _ q=>by cases q;exact h
def zl8(fu:Nat)(hfu:90000000<=fu)(s:Bs)(hs:s.length<=4000)(n:Nat):∀(d:Int)(k:Nat),k<=s.length+1->s.length+1-k<n->Ok (iy (At s (k+1))) (qaf fu n d (s,(k:Int))):=by
 induction n with
 |zero=>intro d k _ h;omega|succ n ih=>
  intro d k hk h;rw[qaf,qsy];refine cu (fun _=>⟨_,rfl,ez⟩) fun h0 => ?_
  have h1:k<s.length:=by simp only[]at h0;omega
  unfold qsz;have e1:af ((k:Int)+1)=((k+1:Nat):Int):=cd k
  have e2:af (((k+1:Nat):Int)+1)=((k+2:Nat):Int):=cd (k+1)
  have i1:∀d,Ok (iy (At s (k+1))) (qaf fu n d (s,((k+1:Nat):Int))):=fun d=>ui (ih d (k+1) oA oA) fun r hr m e=>at_le (hr m e)
  have i2:∀d,Ok (iy (At s (k+1))) (qaf fu n d (s,((k+2:Nat):Int))):=fun d=>ui (ih d (k+2) oA oA) fun r hr m e=>at_le (hr m e)
  dsimp only;simp only[e1,e2];refine ay (f9 h1) fun c _=>cr (fun _=>i1 _) fun _=>cr (fun _=>cr (fun _=>bg (js (jy oA oA))) fun _=>i1 _) fun _=>cr (fun _=>i2 _) fun _=>i1 _
def ztj(fu:Nat)(hfu:90000000<=fu)(s:Bs)(hs:s.length<=4000)(n:Nat):∀k:Nat,k<=s.length->s.length-k<n->Ok (iy (At s k)) (qc1 fu n (s,(k:Int))):=by
 induction n with
 |zero=>intro k _ h;omega|succ n ih=>
  intro k hk h;rw[qc1,qs9];refine cu (fun h0 => ?_) fun _=>bg (js (jy (wF _) hk))
  have h1:k<s.length:=by simp only[]at h0;omega
  have i1:∀j:Nat,k<j->j<=s.length->Ok (iy (At s k)) (qc1 fu n (s,(j:Int))):=fun j a b=>ui (ih j b oA) fun r hr m e=>at_le (hr m e)
  refine ay (f9 h1) fun c _ => ?_
  rw[q8b,qB];refine cr (fun _ => ?_) fun _=>cr (fun _=>ay (zl8 fu hfu s hs fu 0 k oA oA) fun r hr=>ff (fun _ _=>bg ez) fun b hb => ?_) fun _=>bg (js (jy (wF _) hk))
  ·dsimp only;rw[cd k];exact i1 (k+1) oA oA
  ·obtain⟨j,rfl,a,b⟩:=hr b hb;exact i1 j oA b
def zrp(fu:Nat)(hfu:90000000<=fu)(s:Bs)(hs:s.length<=4000)(n:Nat):∀(k:Nat)(out:Bs),k<=s.length->s.length-k<n->out.length<=k->Ok (iy fun v=>At s (k+1) v.2/\v.1.length<=s.length) (qc0 fu n (s,(k:Int)) out):=by
 induction n with
 |zero=>intro k out _ h;omega|succ n ih=>
  intro k out hk h ho;rw[qc0,qs5];refine cu (fun _=>⟨_,rfl,ez⟩) fun h0 => ?_
  have h1:k<s.length:=by simp only[]at h0;omega
  have e1:af ((k:Int)+1)=((k+1:Nat):Int):=cd k
  have e2:af (((k+1:Nat):Int)+1)=((k+2:Nat):Int):=cd (k+1)
  have i1:∀(j:Nat)(c:UInt8),k<j->j<=s.length->Ok (iy fun v=>At s (k+1) v.2/\v.1.length<=s.length) (qc0 fu n (s,(j:Int)) (out++[c])):=fun j c a b=>
   ui (ih j (out++[c]) b oA oE) fun r hr m e=>⟨at_le (hr m e).1,(hr m e).2⟩
  unfold qs6 qs7;dsimp only;simp only[e1,e2];refine ay (f9 h1) fun c _=>cr (fun _=>bg (js ⟨jy (wF _) oA,oN⟩)) fun _=>cr (fun _=>cu (fun _=>⟨_,rfl,ez⟩) fun h2=>ay (f9) fun c2 _=>ck (rr _ _) (i1 (k+2) c2 oA oA)) fun _=>ck (rr _ _) (i1 (k+1) c oA oA)
def NxP(s:Bs)(k:Nat):qn7->Prop|.inl _=>True|.inr (.inl m)=>At s k m|.inr (.inr (.inl (w,(_,m))))=>At s (k+1) m/\w.length<=s.length|.inr (.inr (.inr (_,m)))=>At s (k+1) m
def zp7(fu:Nat)(hfu:90000000<=fu)(s:Bs)(hs:s.length<=4000)(n:Nat)(k0:Nat):∀k:Nat,k0<=k->k<=s.length->s.length-k<n->Ok (NxP s k0) (qcy fu n (k0:Int) (s,(k:Int))):=by
 induction n with
 |zero=>intro k _ _ h;omega|succ n ih=>
  intro k hk hk2 h;rw[qcy,qs2];have p1:∀b:Bool,(b=true->k<s.length)->Ok (NxP s k0) (qcz fu (qcy fu n) (k0:Int) b (s,(k:Int))):=fun b hb=>by
   unfold qcz qs3;refine cr (fun q => ?_) fun _=>cr (fun _=>⟨_,rfl,trivial⟩) fun q=>ck oN (bg ⟨jy ?_ hk2,?_⟩)
   ·have:=hb q;dsimp only;rw[cd k]
    exact ih (k+1) oA oA oA
   ·have:¬(k:Int)=(k0:Int):=by simpa using q
    omega
   ·rw[List.length_take,List.length_drop];simp only[];omega
  refine cu (fun h0 => ?_) fun _=>p1 false (fun q=>by cases q)
  have h1:k<s.length:=by simp only[]at h0;omega
  exact ay (f9 h1) fun c _=>ay (qxv c) fun b _=>cr (fun _=>p1 true fun _=>h1) fun _=>ay (f9 h1) fun c2 _=>p1 _ fun _=>h1
def qkv(fu:Nat)(hfu:90000000<=fu)(s:Bs)(hs:s.length<=4000)(k:Nat)(hk:k<=s.length:=by omega):Ok (NxP s k) (qah fu (s,(k:Int))):=by
 unfold qah qs8;refine ay (ztj fu hfu s hs fu k hk oA) fun r hr=>ff (fun _ _=>bg trivial) fun b hb => ?_
 obtain⟨j,rfl,a,b⟩:=hr b hb;refine cu (fun _=>bg (jy a b)) fun h0 => ?_
 have h1:j<s.length:=by simp only[]at h0;omega
 refine ay (f9 h1) fun c _=>cr (fun _ => ?_) fun _=>ay (zth c) fun x _=>cu (fun _=>bg ?_) fun _ => ?_
 ·unfold qs4;dsimp only;rw[cd j]
  refine ay (zrp fu hfu s hs fu (j+1) [] oA oA oC) fun v hv=>ff (fun _ _=>bg trivial) fun b7 h7=>bg ⟨at_le (hv b7 h7).1,(hv b7 h7).2⟩
 ·show At s (k+1) (s,af ((j:Int)+1));rw[cd j];exact jy oA oA
 ·refine ui (zp7 fu hfu s hs fu j j (wF _) b oA) fun r hr => ?_
  match r,hr with|.inl _,_=>trivial|.inr (.inl m),h=>exact at_le h a|.inr (.inr (.inl (w,(q,m)))),h=>exact⟨at_le h.1,h.2⟩|.inr (.inr (.inr (c,m))),h=>exact at_le h
def zve(fu:Nat)(hfu:90000000<=fu)(s:Bs)(hs:s.length<=4000)(n:Nat):∀(k:Nat)(l:List (Bs×Bool)),k<=s.length->s.length-k<n->l.length<=k->(∀w∈l,w.1.length<=s.length)->Ok (iy fun v=>At s k v.1/\v.2.length<=s.length/\∀w∈v.2,w.1.length<=s.length) (qhb fu n (s,(k:Int)) l):=by
 induction n with
 |zero=>intro k l _ h;omega|succ n ih=>
  intro k l hk h hl hw;rw[qhb,qtb];unfold vc;obtain⟨r,e,hr⟩:=qkv fu hfu s hs k hk;rw[e]
  match r,hr with
  |.inl _,_=>exact⟨_,rfl,ez⟩|.inr (.inl m),h2=>
   obtain⟨j,rfl,a,b⟩:=h2;exact⟨_,rfl,js ⟨jy (wF _) hk,oN,hw⟩⟩
  |.inr (.inr (.inl (w,(q,m)))),h2=>
   obtain⟨⟨j,rfl,a,b⟩,h3⟩:=h2;simp only[qB,az];rw[e];simp only[qB,az];refine ck (rr _ _) (ui (ih j _ b oA oE fun x hx => ?_) fun v hv m em=>⟨at_le (hv m em).1,(hv m em).2⟩)
   rcases List.mem_append.1 hx with q|q
   ·exact hw x q
   ·rw[List.mem_singleton]at q;subst q;exact h3
  |.inr (.inr (.inr (c,m))),h2=>
   obtain⟨j,rfl,a,b⟩:=h2;exact⟨_,rfl,js ⟨jy (wF _) hk,oN,hw⟩⟩
def q2n(fu:Nat)(hfu:90000000<=fu)(s:Bs)(hs:s.length<=4000)(k:Nat)(hk:k<=s.length):Ok (iy fun v=>At s k v.1/\v.2.length<=s.length/\∀w∈v.2,w.1.length<=s.length) (qha fu (s,(k:Int))):=
 zve fu hfu s hs fu k [] hk oA oC (fun _ h=>by cases h)
def qfa(fu:Nat)(hfu:90000000<=fu)(s:Bs)(hs:s.length<=4000)(c:UInt8)(k:Nat)(hk:k<=s.length):Ok (iy fun v=>At s k v.2/\(v.1=true->At s (k+1) v.2)) (vb fu c (s,(k:Int))):=by
 unfold vb vc;obtain⟨r,e,hr⟩:=qkv fu hfu s hs k hk;rw[e]
 match r,hr with
 |.inl _,_=>exact⟨_,rfl,ez⟩|.inr (.inl m),h2=>
  obtain⟨j,rfl,a,b⟩:=h2;exact⟨_,rfl,js ⟨jy (wF _) hk,fun q=>by cases q⟩⟩
 |.inr (.inr (.inl (w,(q,m)))),h2=>
  obtain⟨⟨j,rfl,a,b⟩,h3⟩:=h2;exact⟨_,rfl,js ⟨jy (wF _) hk,fun q=>by cases q⟩⟩
 |.inr (.inr (.inr (d,m))),h2=>
  obtain⟨j,rfl,a,b⟩:=h2;simp only[qB,az];refine ij (fun _=>bg (js ⟨jy (wF _) hk,fun q=>by cases q⟩)) fun _ => ?_
  rw[e];exact⟨_,rfl,js ⟨jy oA b,fun _=>jy a b⟩⟩
def q0k(fu:Nat)(hfu:90000000<=fu)(s:Bs)(hs:s.length<=4000)(c:UInt8)(k:Nat)(hk:k<=s.length):Ok (iy (At s (k+1))) (qcx fu c (s,(k:Int))):=by
 unfold qcx;refine ay (qfa fu hfu s hs c k hk) fun r hr=>ff (fun _ _=>bg ez) fun b hb=>ij (fun _=>⟨_,rfl,ez⟩) fun q=>bg (js ((hr b hb).2 q))
def za4(sep:Bs)(m:Nat):∀r:List Bs,(∀x∈r,x.length<=m)->(Lib.joinTail sep r).length<=(m+sep.length)*r.length
 |[],_=>by simp[Lib.joinTail]|x::r,h=>by
  have h1:=h x qH;have h2:=za4 sep m r (fun y hy=>h y (qE _ hy))
  have e:Lib.joinTail sep (x::r)=sep++x++Lib.joinTail sep r:=by simp[Lib.joinTail]
  rw[e,qM,qM,qL,Nat.mul_add];omega
def za5(sep:Bs)(m:Nat)(r:List Bs)(h:∀x∈r,x.length<=m):(Lib.join r sep).length<=(m+sep.length)*r.length:=by
 cases r with
 |nil=>simp[Lib.join_nil]|cons x r=>
  have h1:=h x qH;have h2:=za4 sep m r (fun y hy=>h y (qE _ hy))
  rw[Lib.join_cons,qM,qL,Nat.mul_add];omega
def za3(sep:Bs)(r:List Bs)(hs:sep.length<=10)(h:∀x∈r,x.length<=300000000)(hl:r.length<=10000:=by omega):Ok dk (fw r sep):=by
 have:=za5 sep 300000000 r h;unfold fw;have h2:(300000000+sep.length)*r.length<=300000010*10000:=Nat.mul_le_mul oA hl
 exact ck ⟨oA,oA⟩ (bg trivial)
def q0h{l:List Bs}{x:Bs}{m:Nat}(h:∀y∈l,y.length<=m)(hx:x.length<=m:=by omega):∀y∈l++[x],y.length<=m:=fun y hy=>by
 rcases List.mem_append.1 hy with q|q
 ·exact h y q
 ·rw[List.mem_singleton]at q;subst q;exact hx
def zb8(fu:Nat)(hfu:90000000<=fu)(run out:List Bs)(h1:∀x∈run,x.length<=4000)(h2:run.length<=4000)(h3:∀x∈out,x.length<=300000000)(h4:out.length<=9000:=by omega) :
  Ok (fun v=>v.1=[]/\v.2.length<=out.length+1/\∀x∈v.2,x.length<=300000000) (qg5 fu run out):=by
 unfold qg5;refine cu (fun _=>ay (za3 _ run oC (fun x hx=>by have:=h1 x hx;omega)) fun x1 _=>ay (zms fu hfu x1) fun x2 hx2=>ck (rr _ _) (bg ⟨rfl,oC,q0h h3 hx2⟩)) fun h=>bg ⟨?_,oC,h3⟩
 exact List.length_eq_zero_iff.1 oN
def zp3(fu:Nat)(hfu:90000000<=fu)(l:List (Bs×Bool))(hl:l.length<=4000)(hw:∀w∈l,w.1.length<=4000)(n:Nat):∀(k:Nat)(out run:List Bs),k<=l.length->l.length-k<n->out.length<=2*k->(∀x∈out,x.length<=300000000)->run.length<=k->(∀x∈run,x.length<=4000) ->
  Ok dk (qg6 fu n l (l.length:Int) (k:Int) out run):=by
 induction n with
 |zero=>intro k out run _ h;omega|succ n ih=>
  intro k out run hk h ho ho2 hr hr2;rw[qg6,qsw];refine cu (fun h0 => ?_) fun h0 => ?_
  ·refine ay (q0x (k:=k) oA hw) fun y1 hy=>cr (fun _=>ay (zb8 fu hfu run out hr2 oA ho2) fun v hv=>ck (rr _ _) ?_) fun _=>ck (rr _ _) ?_
   ·rw[cd k,hv.1]
    exact ih (k+1) _ [] oA oA (by have:=hv.2.1;simp;omega) (q0h hv.2.2) oC (fun x hx=>by cases hx)
   ·rw[cd k]
    exact ih (k+1) out _ oA oA oA ho2 oE (q0h hr2 hy)
  ·refine ay (zb8 fu hfu run out hr2 oA ho2) fun v hv=>ay (za3 _ v.2 oC hv.2.2 (by have:=hv.2.1;omega)) fun _ _=>bg trivial
def zb9(fu:Nat)(hfu:90000000<=fu)(l:List (Bs×Bool))(hl:l.length<=4000)(hw:∀w∈l,w.1.length<=4000):Ok dk (qcv fu l):=
 zp3 fu hfu l hl hw fu 0 [] [] oA oA oC (fun x hx=>by cases hx) oC (fun x hx=>by cases hx)
def qph(fu:Nat)(hfu:90000000<=fu)(s:Bs):Ok dk (sj s):=by
 unfold sj jp;refine cu (fun _=>bg trivial) fun h=>ay (ck (P:=dk) oA (bg trivial)) fun _ _=>ij (fun _=>bg trivial) fun _=>bg trivial
def q7j(fu:Nat)(hfu:90000000<=fu)(a:Bs×Bs×Bs):Ok dk (xi fu a):=by
 unfold xi;refine ay (qph fu hfu _) fun x1 _=>cr (fun _=>⟨_,rfl,trivial⟩) fun _=>ay (qz6 fu hfu _) fun x3 _=>ij (fun _=>⟨_,rfl,trivial⟩) fun _=>ay (qyv fu hfu _) fun x5 _=>ij (fun _=>⟨_,rfl,trivial⟩) fun _=>⟨_,rfl,trivial⟩
def zjw(fu:Nat)(hfu:90000000<=fu)(l:List (Bs×Bs×Bs))(hl:l.length<=80000000)(n:Nat):∀k:Nat,l.length-k<n->Ok dk (sk fu n l (l.length:Int) (k:Int)):=by
 induction n with
 |zero=>intro k h;omega|succ n ih=>
  intro k h;rw[sk,qcu];refine cu (fun h0=>ay (f9 (k:=k) oA) fun y _=>ay (q7j fu hfu y) fun x2 _=>ay (P:=dk) ⟨_,rfl,trivial⟩ fun x3 _=>cr (fun _=>bg trivial) fun _ => ?_) fun _=>bg trivial
  rw[cd k]
  exact ih (k+1) oA
def q7m(fu:Nat)(hfu:90000000<=fu)(x:Bs×Bool×(List (Bs×Bs×Bs)))(hx:x.2.2.length<=80000000:=by omega):Ok dk (xn fu x):=by
 unfold xn;have p:∀b,Ok dk (ot fu b x):=fun b=>by
  unfold ot qg4;exact cr (fun _=>bg trivial) fun _=>zjw fu hfu _ hx fu 0 oA
 exact ay (qph fu hfu _) fun x1 _=>cr (fun _=>bg trivial) fun _=>ij (fun _=>p _) fun _=>ij (fun _=>p _) fun _=>p _
def zlv(fu:Nat)(hfu:90000000<=fu)(l:List (Bs×Bool×(List (Bs×Bs×Bs))))(hl:l.length<=80000000)(hm:∀x∈l,x.2.2.length<=80000000)(z:Int×Int)(n:Nat):∀k:Nat,l.length-k<n->Ok dk (si fu n l (l.length:Int) (k:Int) z):=by
 induction n with
 |zero=>intro k h;omega|succ n ih=>
  intro k h;rw[si,qcp];refine cu (fun h0=>ay (q0x (k:=k) oA hm) fun y hy=>ay (q7m fu hfu y hy) fun x2 _=>cr (fun _=>⟨_,rfl,trivial⟩) fun _ => ?_) fun _=>⟨_,rfl,trivial⟩
  rw[cd k]
  exact ih (k+1) oA
def zlt(fu:Nat)(hfu:90000000<=fu)(l:List (Bs×Bool×(List (Bs×Bs×Bs))))(hl:l.length<=80000000)(hm:∀x∈l,x.2.2.length<=80000000)(z:Int×Int)(n:Nat):∀(c:Int)(k:Nat),l.length-k<n->Ok dk (sf fu n l c l (l.length:Int) (k:Int) z):=by
 induction n with
 |zero=>intro c k h;omega|succ n ih=>
  intro c k h;rw[sf,qco];have p:∀b,Ok dk (sh fu l b z):=fun b=>by
   unfold sh qg1;exact cr (fun _=>⟨_,rfl,trivial⟩) fun _=>zlv fu hfu l hl hm z fu 0 oA
  refine cu (fun h0=>ay (f9 (k:=k) oA) fun y _ => ?_) fun _=>cu (fun _=>p _) fun _=>p _
  rw[cd k]
  exact ih _ (k+1) oA
def q8o(fu:Nat)(hfu:90000000<=fu)(l:List (Bs×Bool×(List (Bs×Bs×Bs))))(hl:l.length<=80000000)(hm:∀x∈l,x.2.2.length<=80000000):Ok dk (qcn fu l):=zlt fu hfu l hl hm _ fu 0 0 oA
def AdQ(s:Bs)(k:Nat)(v:(Bs×Bs×Bs)×(Bs×Int)×(List (Bs×Bool))):Prop:=At s (k+1) v.2.1/\v.1.2.1.length<=s.length/\v.1.2.2.length<=s.length
def zek(fu:Nat)(hfu:90000000<=fu)(s:Bs)(hs:s.length<=4000)(k:Nat)(hk:k<=s.length)(l:List (Bs×Bool))(hl:∀w∈l,w.1.length<=s.length):Ok (iy fun v=>AdQ s k v/\v.1.1=[]) (qg9 fu (s,(k:Int)) l):=by
 unfold qg9;have pt:∀(l:List (Bs×Bool))(z:Bs×Bs×Bs),Ok (iy fun v=>AdQ s k v/\v.1.1=[]) (xu fu true (s,(k:Int)) l z):=fun l z=>⟨_,rfl,ez⟩
 by_cases h1:(l.length:Int)=1
 ·rw[ak (by simp[h1])]
  obtain⟨w,rfl⟩:∃w,l=[w]:=by
   match l,h1 with|[w],_=>exact⟨w,rfl⟩|[],h=>simp at h|_::_::_,h=>simp only[qL]at h;omega
  have hw:=hl w qH;have pf:∀z:Bs×Bs×Bs,Ok (iy fun v=>AdQ s k v/\v.1.1=[]) (xu fu false (s,(k:Int)) [w] z):=fun z=>by
   unfold xu qta;rw[ak rfl];refine ay (q0k fu hfu s hs 64 k hk) fun r hr=>ff (fun _ _=>bg ez) fun b hb => ?_
   obtain⟨j,rfl,a,b⟩:=hr b hb;refine ay (qkv fu hfu s hs j b) fun r hr => ?_
   match r,hr with
   |.inl _,_=>exact⟨_,rfl,ez⟩|.inr (.inl m),h2=>exact⟨_,rfl,ez⟩|.inr (.inr (.inr (d,m))),h2=>exact⟨_,rfl,ez⟩|.inr (.inr (.inl (x,(q,m)))),h2=>
    refine cr (fun _=>⟨_,rfl,ez⟩) fun _=>ay (qyv fu hfu x) fun x13 _=>ij (fun _=>⟨_,rfl,ez⟩) fun _=>ck ⟨oD,oC⟩ ?_
    exact⟨_,rfl,js ⟨⟨at_le h2.1,hw,h2.2⟩,rfl⟩⟩
  refine ck ⟨oD,oC⟩ ?_
  rw[show([w]:List (Bs×Bool))[(0:Int).toNat]? = some w from rfl]
  simp only[qB];refine ay (qz6 fu hfu w.1) fun x2 _=>ij (fun _=>pt _ _) fun _=>ck ⟨oD,oC⟩ (ij (fun _=>ck ⟨oD,oC⟩ (ay (zm4 fu hfu w.1) fun x5 _ => ?_)) fun _=>pf _)
  cases x5
  ·exact pt _ _
  ·exact pf _
 ·rw[ar (by simp[h1])];exact pt _ _
def q7i(fu:Nat)(hfu:90000000<=fu)(s:Bs)(hs:s.length<=4000)(k:Nat)(hk:k<=s.length)(l:List (Bs×Bool))(hn:l.length<=s.length)(hl:∀w∈l,w.1.length<=s.length):Ok (iy (AdQ s k)) (qg7 fu (s,(k:Int)) l):=by
 unfold qg7;refine ay (qfa fu hfu s hs 60 k hk) fun r hr=>ff (fun _ _=>bg ez) fun b hb => ?_
 obtain⟨b,m⟩:=b;obtain⟨⟨j,rfl,a1,b1⟩,_⟩:=hr _ hb;refine ij (fun _=>ay (zek fu hfu s hs j b1 l hl) fun r hr=>ff (fun _ _=>bg ez) fun b hb=>bg (js ?_)) fun _ => ?_
 ·obtain⟨⟨h1,h2,h3⟩,_⟩:=hr b hb;exact⟨at_le h1,h2,h3⟩
 ·refine ay (q2n fu hfu s hs j b1) fun r hr=>ff (fun _ _=>bg ez) fun b hb => ?_
  obtain⟨m,ws⟩:=b;obtain⟨⟨i,rfl,a2,b2⟩,h4,h5⟩:=hr _ hb;refine ay (zek fu hfu s hs i b2 ws h5) fun r hr=>ff (fun _ _=>bg ez) fun b hb => ?_
  obtain⟨a,m,ws'⟩:=b;obtain⟨⟨⟨o,rfl,a3,b3⟩,h6,h7⟩,_⟩:=hr _ hb;refine ay (zb9 fu hfu l oA (fun w hw=>by have:=hl w hw;omega)) fun x13 _=>ay (q0k fu hfu s hs 62 o b3) fun r hr=>ff (fun _ _=>bg ez) fun b hb=>bg (js ⟨at_le (hr b hb),h6,h7⟩)
def ItP(s:Bs)(x:Bs×Bool×(List (Bs×Bs×Bs))):Prop:=x.2.2.length<=s.length+1/\(∀a∈x.2.2,a.2.1.length<=s.length/\a.2.2.length<=s.length)/\(x.2.1=false->x.2.2.length=1)
def zoz(fu:Nat)(hfu:90000000<=fu)(s:Bs)(hs:s.length<=4000)(z1:Bs)(z2:Bool)(g:Bs)(n:Nat):∀(k:Nat)(l:List (Bs×Bs×Bs)),k<=s.length->s.length-k<n->l.length<=k->(∀a∈l,a.2.1.length<=s.length/\a.2.2.length<=s.length) ->
  Ok (iy fun v=>At s (k+1) v.2/\ItP s v.1) (qg8 fu n (s,(k:Int)) z1 z2 g l):=by
 induction n with
 |zero=>intro k l _ h;omega|succ n ih=>
  intro k l hk h hl hL;rw[qg8,qs0];refine ay (q2n fu hfu s hs k hk) fun r hr=>ff (fun _ _=>bg ez) fun b hb => ?_
  obtain⟨m,ws⟩:=b;obtain⟨⟨i,rfl,a2,b2⟩,h4,h5⟩:=hr _ hb;refine ay (q7i fu hfu s hs i b2 ws h4 h5) fun r hr=>ff (fun _ _=>bg ez) fun b hb => ?_
  obtain⟨a,m,ws'⟩:=b;obtain⟨⟨o,rfl,a3,b3⟩,h6,h7⟩:=hr _ hb;have hL2:∀x∈l++[a],x.2.1.length<=s.length/\x.2.2.length<=s.length:=fun x hx=>by
   rcases List.mem_append.1 hx with q|q
   ·exact hL x q
   ·rw[List.mem_singleton]at q;subst q;exact⟨h6,h7⟩
  refine ck (rr _ _) (ay (qfa fu hfu s hs 59 o b3) fun r hr=>ff (fun _ _=>bg ez) fun b hb => ?_)
  obtain⟨b,m⟩:=b;obtain⟨⟨p,rfl,a4,b4⟩,_⟩:=hr _ hb;refine cr (fun _=>bg (js ⟨jy oA b4,oE,hL2,fun q=>by cases q⟩)) fun _=>ay (q0k fu hfu s hs 44 p b4) fun r hr=>ff (fun _ _=>bg ez) fun b hb => ?_
  obtain⟨t,rfl,a5,b5⟩:=hr _ hb;exact ui (ih t _ b5 oA oE hL2) fun v hv m em=>⟨at_le (hv m em).1,(hv m em).2⟩
def za0(fu:Nat)(hfu:90000000<=fu)(s:Bs)(hs:s.length<=4000)(k:Nat)(hk:k<=s.length:=by omega):Ok (iy fun v=>At s (k+1) v.2/\ItP s v.1) (qag fu (s,(k:Int))):=by
 unfold qag;refine ay (q2n fu hfu s hs k hk) fun r hr=>ff (fun _ _=>bg ez) fun b hb => ?_
 obtain⟨m,ws⟩:=b;obtain⟨⟨i,rfl,a2,b2⟩,h4,h5⟩:=hr _ hb;refine ay (qfa fu hfu s hs 58 i b2) fun r hr=>ff (fun _ _=>bg ez) fun b hb => ?_
 obtain⟨b,m⟩:=b;obtain⟨⟨o,rfl,a3,b3⟩,hb2⟩:=hr _ hb;refine ij (fun _=>ay (q7i fu hfu s hs o b3 ws h4 h5) fun r hr=>ff (fun _ _=>bg ez) fun b hb=>bg (js ?_)) fun q=>ay (zb9 fu hfu ws (by dsimp only at h4;omega) (fun w hw=>by have:=h5 w hw;omega)) fun x10 _=>cr (fun _=>⟨_,rfl,ez⟩) fun _ => ?_
 ·obtain⟨h1,h6,h7⟩:=hr b hb;refine⟨at_le h1,oC,fun a ha => ?_,fun _=>rfl⟩
  rw[List.mem_singleton]at ha;subst ha;exact⟨h6,h7⟩
 ·obtain⟨o',e,a4,b4⟩:=hb2 q;obtain rfl:o=o':=by have:=congrArg Prod.snd e;simp only[]at this;omega
  unfold qs1;refine ay (qfa fu hfu s hs 59 o b3) fun r hr=>ff (fun _ _=>bg ez) fun b hb => ?_
  obtain⟨b,m⟩:=b;obtain⟨⟨p,rfl,a5,b5⟩,_⟩:=hr _ hb;refine cr (fun _=>bg (js ⟨jy oA b5,oC,fun a ha=>(by cases ha),fun q=>by cases q⟩)) fun _ => ?_
  exact ui (zoz fu hfu s hs [] false x10 fu p [] b5 oA oC (fun a ha=>by cases ha)) fun v hv m em=>⟨at_le (hv m em).1,(hv m em).2⟩
def LsP(s:Bs)(l:List (Bs×Bool×(List (Bs×Bs×Bs)))):Prop:=l.length<=s.length+1/\∀x∈l,ItP s x
def PsP(s:Bs)(r:qi7):Prop:=∀v,r = .inr v->LsP s v.1
def qbz{s:Bs}{x:Int×Bs}:PsP s (.inl x):=fun _ q=>by cases q
def zbp(s:Bs):LsP s []:=⟨oC,fun x hx=>by cases hx⟩
def zbq(s:Bs){l:List (Bs×Bool×(List (Bs×Bs×Bs)))}{x:Bs×Bool×(List (Bs×Bs×Bs))}(h:∀x∈l,ItP s x)(hx:ItP s x):∀y∈l++[x],ItP s y:=fun y hy=>by
 rcases List.mem_append.1 hy with q|q
 ·exact h y q
 ·rw[List.mem_singleton]at q;subst q;exact hx
def zc6(fu:Nat)(hfu:90000000<=fu)(s:Bs)(hs:s.length<=4000)(m1:Bs)(m3:Int×Int)(l:List (Bs×Bool×(List (Bs×Bs×Bs))))(hl:LsP s l):Ok (PsP s) (qg3 fu m1 m3 l):=by
 unfold qg3;refine ay (q8o fu hfu l (by have:=hl.1;omega) (fun x hx=>by have:=(hl.2 x hx).1;omega)) fun x1 _=>ay (P:=dk) ⟨_,rfl,trivial⟩ fun x2 _=>cr (fun _=>⟨_,rfl,fun _ q => ?_⟩) fun _=>⟨_,rfl,fun _ q => ?_⟩
 ·cases q;exact zbp s
 ·cases q;exact hl
def zrk(fu:Nat)(hfu:90000000<=fu)(s:Bs)(hs:s.length<=4000)(m1:Bs)(m3:Int×Int)(n:Nat):∀(k:Nat)(l:List (Bs×Bool×(List (Bs×Bs×Bs)))),k<=s.length->s.length-k<n->l.length<=k->(∀x∈l,ItP s x)->Ok (PsP s) (qae fu n m1 m3 (s,(k:Int)) l):=by
 induction n with
 |zero=>intro k l _ h;omega|succ n ih=>
  intro k l hk h hl hL;rw[qae,qsu];refine ay (qfa fu hfu s hs 44 k hk) fun r hr=>ff (fun _ _=>bg qbz) fun b hb => ?_
  obtain⟨b,m⟩:=b;obtain⟨⟨o,rfl,a3,b3⟩,hb2⟩:=hr _ hb;refine cr (fun q=>ay (za0 fu hfu s hs o b3) fun r hr=>ff (fun _ _=>bg qbz) fun b hb => ?_) fun _ => ?_
  ·obtain⟨x,m⟩:=b;obtain⟨⟨p,rfl,a4,b4⟩,hx⟩:=hr _ hb;exact ck (rr _ _) (ih p _ b4 oA oE (zbq s hL hx))
  ·unfold vc;obtain⟨r,e,hr⟩:=qkv fu hfu s hs o b3;dsimp only;rw[e]
   match r,hr with|.inl _,_=>exact⟨_,rfl,qbz⟩|.inr (.inl m),h2=>exact zc6 fu hfu s hs m1 m3 l ⟨oA,hL⟩|.inr (.inr (.inl (w,(q,m)))),h2=>exact⟨_,rfl,qbz⟩|.inr (.inr (.inr (d,m))),h2=>exact⟨_,rfl,qbz⟩
def zrl(fu:Nat)(hfu:90000000<=fu)(s:Bs)(hs:s.length<=4000)(a b:Int):Ok (PsP s) (qg2 fu s a b):=by
 unfold qg2 qcr vc;have hi:=za0 fu hfu s hs 0
 have h2:Ok (PsP s) ((qag fu (s,(0:Int))).bind fun x8=>az x8 (fun a9=>some (.inl (a9,s))) (fun b10=>bif decide (List.length ([b10.1]:List (Bs×Bool×(List (Bs×Bs×Bs))))<=aw) then qae fu fu s (a,b) b10.2 ([b10.1]:List (Bs×Bool×(List (Bs×Bs×Bs)))) else none)):=by
  refine ay hi fun r hr=>ff (fun _ _=>bg qbz) fun b hb => ?_
  obtain⟨x,m⟩:=b;obtain⟨⟨p,rfl,a4,b4⟩,hx⟩:=hr _ hb;exact ck (by simp[aw]) (zrk fu hfu s hs s _ fu p [x] b4 oA oE (zbq s (l:=[]) (fun x hx=>by cases hx) hx))
 obtain⟨r,e,hr⟩:=qkv fu hfu s hs 0
 rw[show((0:Nat):Int)=0 from rfl]at e
 rw[e]
 match r,hr with
 |.inl _,_=>exact⟨_,rfl,qbz⟩|.inr (.inl m),h=>simp only[qB,az];exact zc6 fu hfu s hs s (a,b) [] (zbp s)|.inr (.inr (.inl (w,(q,m)))),h=>
  obtain⟨⟨j,rfl,_,_⟩,_⟩:=h;exact h2
 |.inr (.inr (.inr (d,m))),h=>
  obtain⟨j,rfl,_,_⟩:=h;exact h2
def zqy(fu:Nat)(hfu:90000000<=fu)(s:Bs):Ok (fun v=>v.1.length<=4001/\∀x∈v.1,x.2.2.length<=4001/\(∀a∈x.2.2,a.2.1.length<=4000/\a.2.2.length<=4000)/\(x.2.1=false->x.2.2.length=1)) (ql8 fu s):=by
 unfold ql8 qcq;refine cu (fun _=>⟨_,rfl,oC,fun x hx=>by cases hx⟩) fun h=>ay (zrl fu hfu s oA _ _) fun r hr=>ff (fun _ _=>⟨_,rfl,oC,fun x hx=>by cases hx⟩) fun b hb=>bg ?_
 obtain⟨h1,h2⟩:=hr b hb;refine⟨oA,fun x hx => ?_⟩
 obtain⟨h3,h4,h5⟩:=h2 x hx;exact⟨oA,fun a ha=>by have:=h4 a ha;omega,h5⟩
def oy(c:UInt8):Bool:=(uy c).getD false
def zkt(c:UInt8):uy c=some (oy c):=by
 obtain⟨v,e,_⟩:=qxv c;unfold oy;rw[e];rfl
abbrev nz(w:Bs):Bs:=ei 92 34 [92,92] [92,34] w
inductive Tok where
 |sg (c:UInt8)
 |wd (w:Bs) (q:Bool)
def zuk:Tok->Bs|.sg c=>[c]|.wd w false=>w|.wd w true=>34::(nz w++[34])
abbrev BT:=Bool×Tok
def Wds(W:List BT):Prop:=∀x∈W,∃w q,x.2 = .wd w q
def wof:List BT->List (Bs×Bool)|[]=>[]|(_,.wd w q)::W=>(w,q)::wof W|(_,.sg _)::W=>wof W
def LoT(fu:Nat)(lo:Bs)(q:Bool):Prop:=va fu lo=some true/\(q=false->xm fu lo=some true)
abbrev spT(b:Bool)(lo dm:Bs)(q:Bool):List BT:=[(b,.wd lo q),(false,.sg 64),(false,.wd dm false)]
def AdT(fu:Nat)(a:Bs×Bs×Bs)(T:List BT):Prop:=∃q,LoT fu a.2.1 q/\uz fu a.2.2=some true /\
 ((a.1=[]/\T=spT false a.2.1 a.2.2 q)\/(a.1≠[]/\∃W,Wds W/\W≠[]/\qcv fu (wof W)=some a.1/\T=W++(true,.sg 60)::(spT false a.2.1 a.2.2 q++[(false,.sg 62)])))
def bk1:List BT->List BT|[]=>[]|(_,t)::T=>(true,t)::T
inductive MsT(fu:Nat):List (Bs×Bs×Bs)->List BT->Prop where
 |one {a T}:AdT fu a T->MsT fu [a] T
 |cons {a T ms T'}:AdT fu a T->MsT fu ms T'->MsT fu (a::ms) (T++(false,.sg 44)::bk1 T')
def GnT(fu:Nat)(g:Bs)(W:List BT):Prop:=Wds W/\W≠[]/\qcv fu (wof W)=some g/\g≠[]
inductive ItT(fu:Nat):(Bs×Bool×(List (Bs×Bs×Bs)))->List BT->Prop where
 |single {a T}:AdT fu a T->ItT fu ([],(false,[a])) T
 |grp0 {g W}:GnT fu g W->ItT fu (g,(true,[])) (W++[(false,.sg 58),(false,.sg 59)])
 |grp {g W ms T}:GnT fu g W->MsT fu ms T->ItT fu (g,(true,ms)) (W++(false,.sg 58)::(bk1 T++[(false,.sg 59)]))
inductive LsT(fu:Nat):List (Bs×Bool×(List (Bs×Bs×Bs)))->List BT->Prop where
 |one {x T}:ItT fu x T->LsT fu [x] T
 |cons {x T l T'}:ItT fu x T->LsT fu l T'->LsT fu (x::l) (T++(false,.sg 44)::bk1 T')

structure St1(k:Nat)(R:List Nat)(Gs:List (List Nat))(N:List Nat):Prop where
 all:∀G∈Gs,G≠[]/\(zfu k G).length<=75
 cur:N≠[]->(zfu k N).length<=75
 flat:Gs.flatten++N=R


def qol(s:Bs)(hs:s.length<=10000000)(P0:Nat->Bs->Int->Int->Option Bool)(p:UInt8->Bool)
  (h0:∀n e k,P0 (n+1) s e k=(bif decide (k<e) then(ap s k).bind fun c=>(some (p c)).bind fun x=>bif !x then some false else P0 n s e (af (k+(1:Int))) else some true)) :
  ∀(n:Nat)(ab aa:Bs),s=ab++aa->aa.length<n->P0 n s (s.length:Int) (ab.length:Int)=some (aa.all p):=by
 intro n
 induction n with
 |zero=>intro ab aa _ h;omega|succ n ih=>
  intro ab aa e h;have hl:=congrArg List.length e;rw[qM]at hl;rw[h0]
  cases aa with
  |nil=>rw[bz (by simp at hl;omega)];rfl|cons c aa=>
   simp only[qL]at hl h;rw[ao oA,show ap s (ab.length:Int)=some c by rw[e];exact gz _ _ _,qB,qB,List.all_cons]
   cases hp:p c
   ·rfl
   ·rw[qjp,cd _]
    have:=ih (ab++[c]) aa (by rw[e];simp) oA
    rw[qM,wD]at this;rw[this];rfl
def tu(c:UInt8):Bool:=(xj c).getD false
def zmz(c:UInt8):xj c=some (tu c):=by
 obtain⟨v,e,_⟩:=q9c c;unfold tu;rw[e];rfl
def zj0(fu:Nat)(s:Bs)(h:s.length<fu:=by omega)(hs:s.length<=10000000:=by omega):qhi fu s=some (s.all oy):=
 qol s hs (qc3 fu) oy (fun n e k=>by rw[qc3,qtj];simp only[zkt]) fu [] s rfl h
def zj2(fu:Nat)(s:Bs)(h:s.length<fu:=by omega)(hs:s.length<=10000000:=by omega):qmi fu s=some (s.all tu):=
 qol s hs (qc4 fu) tu (fun n e k=>by rw[qc4,qtk];simp only[zmz]) fu [] s rfl h
def b0:List BT->Prop|(true,_)::_=>False|_=>True
def zrq(s:Bs)(hs:s.length<=100000):qcw s=some (34::(nz s++[34]))/\(nz s).length<=300000:=by
 have hc:ic 92 34 s<=2*s.length:=by
  have h1:=List.count_le_length (a:=(92:UInt8)) (l:=s);have h2:=List.count_le_length (a:=(34:UInt8)) (l:=s);unfold ic;omega
 have hl:=qe2 (a:=92) (b:=34) oD 92 92 92 34 s
 unfold qcw;rw[show qii ([([92]:Bs),([92,92]:Bs),([34]:Bs),([92,34]:Bs)]:List Bs)=some (0,0,0,[[92],[92,92],[34],[92,34]]) from rfl,qB]
 unfold sw;dsimp only;rw[ao ⟨rfl,rfl,oD,oA⟩,qB,ao (by simp only[qL,qZ,ax];omega),ao (by simp only[qM,qL,qZ,ax];omega)]
 exact⟨rfl,by show(ei 92 34 [92,92] [92,34] s).length<=300000;omega⟩
abbrev FU:Nat:=100000000
def VaA(a:Bs×Bs×Bs):Prop:=sj a.1=some 0/\va FU a.2.1=some true/\uz FU a.2.2=some true
def VaI(x:Bs×Bool×(List (Bs×Bs×Bs))):Prop:=sj x.1=some 0/\(x.2.1=true↔x.1≠[])/\(x.2.1=false->x.2.2.length=1)/\∀a∈x.2.2,VaA a
def lst(T:List BT):Prop:=∃S x,T=S++[x]/\∀t,zuk x.2≠t++[32]
end Go.Sym
namespace Go.Sym
abbrev Adr:Type:=Bs×Bs×Bs
abbrev qg:Type:=Bs×Bool×(List Adr)
def zkw{a:Adr}{f:Int×Int}(h:xi FU a=some f)(h0:f.1=0):VaA a:=by
 obtain⟨d,hd,_⟩:=qph FU oD a.1
 obtain⟨b1,hb1,_⟩:=qz6 FU oD a.2.1
 obtain⟨b2,hb2,_⟩:=qyv FU oD a.2.2
 unfold xi at h;rw[hd,qB,ib]at h;by_cases c:d≠0
 ·rw[qX c]at h;have:=congrArg (Option.map Prod.fst) h;simp[bc]at this;omega
 ·rw[qW c,hb1,qB]at h;cases b1
  ·have:=congrArg (Option.map Prod.fst) h;simp[bc]at this;omega
  ·rw[qjp,hb2,qB]at h;cases b2
   ·have:=congrArg (Option.map Prod.fst) h;simp[bc]at this;omega
   ·exact⟨by rw[hd,Classical.not_not.1 c],hb1,hb2⟩
def zk0(l:List Adr)(hl:l.length<=80000000)(n:Nat):∀ab aa:List Adr,l=ab++aa->aa.length<n->sk FU n l (l.length:Int) (ab.length:Int)=some 0->∀a∈aa,VaA a:=by
 induction n with
 |zero=>intro ab aa _ h;omega|succ n ih=>
  intro ab aa e h hq
  cases aa with
  |nil=>intro a ha;cases ha
  |cons a aa=>
   have ac:=congrArg List.length e;simp only[qM,qL]at ac h;rw[sk,qcu,ao oA,show ap l (ab.length:Int)=some a by rw[e];exact gz _ _ _,qB]at hq
   obtain⟨f,hf,_⟩:=q7j FU oD a
   rw[hf,qB,n6,qB,ib]at hq;by_cases c:f.1≠0
   ·rw[qX c]at hq;exact absurd (qJ hq) c
   ·rw[qW c,cd _]at hq
    have:=ih (ab++[a]) aa (by rw[e];simp) oA (by rw[qM,wD];exact hq)
    intro b hb;rcases List.mem_cons.1 hb with rfl|hb
    ·exact zkw hf (Classical.not_not.1 c)
    ·exact this b hb
def zjx{x:qg}(hx:x.2.2.length<=80000000)(h:xn FU x=some 0):VaI x:=by
 obtain⟨d,hd,_⟩:=qph FU oD x.1
 unfold xn at h;rw[hd,qB,ib]at h;by_cases c:d≠0
 ·rw[qX c]at h;exact absurd (qJ h) c
 rw[qW c]at h;obtain⟨g,b,ms⟩:=x;simp only[]at hd h hx;have hd0:sj g=some 0:=by rw[hd,Classical.not_not.1 c]
 have pt:∀x,ot FU true x≠some 0:=fun x q=>by
  unfold ot at q;rw[ar rfl]at q;exact absurd (qJ q) oD
 have pf:ot FU false (g,(b,ms))=some 0->∀a∈ms,VaA a:=fun q=>by
  unfold ot qg4 at q;rw[ak rfl]at q;exact zk0 ms hx FU [] ms rfl oO q
 by_cases hg:g=[]
 ·subst hg
  cases b with
  |true=>exact absurd h (pt _)|false=>
   rw[ak,ar]at h
   by_cases hm:(ms.length:Int)=1
   ·rw[show((ms.length:Int) != (1:Int))=false by simp[hm]]at h
    exact⟨hd0,oC,fun _=>oN,pf h⟩
   ·rw[show((ms.length:Int) != (1:Int))=true by simp[hm]]at h
    exact absurd h (pt _)
 ·have hgb:(g==([]:Bs))=false:=by simp[hg]
  rw[hgb]at h
  cases b with
  |false=>exact absurd h (pt (g,(false,ms)))|true=>
   rw[ak,ak]at h
   exact⟨hd0,⟨fun _=>hg,fun _=>rfl⟩,(fun q=>by cases q),pf h⟩
def zlw(l:List qg)(hl:l.length<=2000000)(hm:∀x∈l,x.2.2.length<=2000000)(z f:Int×Int)(hf:f.1=0)(n:Nat):∀ab aa:List qg,l=ab++aa->aa.length<n->si FU n l (l.length:Int) (ab.length:Int) z=some f->f=(0,0)/\∀x∈aa,VaI x:=by
 induction n with
 |zero=>intro ab aa _ h;omega|succ n ih=>
  intro ab aa e h hq;have ac:=congrArg List.length e;rw[qM]at ac;rw[si,qcp]at hq
  cases aa with
  |nil=>
   rw[bz (by simp at ac;omega)]at hq
   exact⟨(qJ hq).symm,fun a ha=>by cases ha⟩
  |cons x aa=>
   simp only[qL]at ac h;have hxl:=hm x (by rw[e];simp)
   rw[ao oA,show ap l (ab.length:Int)=some x by rw[e];exact gz _ _ _,qB]at hq
   obtain⟨c,hc,_⟩:=q7m FU oD x
   rw[hc,qB,ib]at hq;by_cases c0:c≠0
   ·rw[qX c0]at hq;have:=congrArg (Option.map Prod.fst) hq;simp[bc]at this;omega
   ·rw[qW c0,cd _]at hq
    obtain⟨i1,i2⟩:=ih (ab++[x]) aa (by rw[e];simp) oA (by rw[qM,wD];exact hq)
    refine⟨i1,fun y hy => ?_⟩
    rcases List.mem_cons.1 hy with rfl|hy
    ·exact zjx oA (by rw[hc,Classical.not_not.1 c0])
    ·exact i2 y hy
def iw(l:List qg):Nat:=(l.map fun x=>x.2.2.length).sum
def qyf(x:qg)(l:List qg):iw (x::l)=x.2.2.length+iw l:=by simp[iw]
def q8t(a b:List qg):iw (a++b)=iw a+iw b:=by simp[iw]
def q8u:∀(l:List qg),(∀x∈l,x.2.2.length<=2000000)->iw l<=2000000*l.length
 |[],_=>by simp[iw]|x::l,h=>by
  have h1:=h x qH;have h2:=q8u l (fun y hy=>h y (qE _ hy))
  rw[qyf,qL];omega
def zlu(l:List qg)(hl:l.length<=2000000)(hm:∀x∈l,x.2.2.length<=2000000)(z f:Int×Int)(hf:f.1=0)(n:Nat):∀ab aa:List qg,l=ab++aa->aa.length<n->sf FU n l (iw ab:Int) l (l.length:Int) (ab.length:Int) z=some f->f=(0,0)/\l.length<=60/\iw l<=60/\∀x∈l,VaI x:=by
 have hcl:=q8u l hm
 induction n with
 |zero=>intro ab aa _ h;omega|succ n ih=>
  intro ab aa e h hq;have ac:=congrArg List.length e;rw[qM]at ac;rw[sf,qco]at hq
  cases aa with
  |nil=>
   rw[List.append_nil]at e;subst e;rw[bz]at hq
   have pt:sh FU l true z≠some f:=fun q=>by
    unfold sh at q;rw[ar rfl]at q;have:=congrArg (Option.map Prod.fst) q;simp[bc]at this;omega
   by_cases h6:(60:Int)<(l.length:Int)
   ·rw[ao h6]at hq;exact absurd hq pt
   ·rw[bz h6]at hq;by_cases h7:(60:Int)<(iw l:Int)
    ·rw[decide_eq_true h7]at hq;exact absurd hq pt
    ·rw[decide_eq_false h7]at hq;unfold sh qg1 at hq;rw[ak rfl]at hq;obtain⟨i1,i2⟩:=zlw l hl hm z f hf FU [] l rfl oO hq
     exact⟨i1,oA,oA,i2⟩
  |cons x aa=>
   simp only[qL]at ac h;rw[ao oA,show ap l (ab.length:Int)=some x by rw[e];exact gz _ _ _,qB,cd _]at hq
   have hc:iw ab+x.2.2.length<=iw l:=by rw[e,q8t,qyf];omega
   rw[bu (x:=(iw ab:Int)+(x.2.2.length:Int)) oA oA]at hq
   refine ih (ab++[x]) aa (by rw[e];simp) oA ?_
   rw[qM,wD,q8t,qyf,show iw []=0 from rfl,show((iw ab+(x.2.2.length+0):Nat):Int)=(iw ab:Int)+(x.2.2.length:Int) by omega]
   exact hq
def zly(l:List qg)(hl:l.length<=2000000)(hm:∀x∈l,x.2.2.length<=2000000){f:Int×Int}(h:qcn FU l=some f)(hf:f.1=0):f=(0,0)/\l.length<=60/\iw l<=60/\∀x∈l,VaI x:=
 zlu l hl hm _ f hf FU [] l rfl oO h
end Go.Sym

namespace Go.Sym.Cal
def ud(y:Int):Bool:=y%4==0&&(y%100 != 0||y%400==0)
def lp(y:Int):Int:=if ud y=true then 1 else 0
def zbm(y:Int):0<=lp y/\lp y<=1:=by unfold lp;split<;>omega
def zpt(y:Int):lp y=(y/4-y/100+y/400)-((y-1)/4-(y-1)/100+(y-1)/400):=by
 unfold lp ud;split
 ·rename_i h;simp at h;omega
 ·rename_i h;simp at h;omega
def qbb(m:Int):Int:=if m=2 then 28 else if m=4\/m=6\/m=9\/m=11 then 30 else 31
def dim(y m:Int):Int:=if m=2 then 28+lp y else qbb m
def dim_bd(y m:Int):28<=dim y m/\dim y m<=31:=by
 have:=zbm y;unfold dim qbb;split<;>(try split)<;>(try split)<;>omega
def qeo(m:Int):Int:=
 if m<=1 then 0 else if m=2 then 31 else if m=3 then 59 else if m=4 then 90 else if m=5 then 120 else if m=6 then 151 else if m=7 then 181
 else if m=8 then 212 else if m=9 then 243 else if m=10 then 273 else if m=11 then 304 else if m=12 then 334 else 365
def e7(y m:Int):Int:=qeo m+if 3<=m then lp y else 0
def q8z(y:Int):e7 y 1=0:=by simp[e7,qeo]
def qyk(y:Int):e7 y 13=365+lp y:=by simp[e7,qeo]
def q0f(m:Int)(h1:1<=m)(h2:m<=12):m=1\/m=2\/m=3\/m=4\/m=5\/m=6\/m=7\/m=8\/m=9\/m=10\/m=11\/m=12:=oA
def qjv(y m:Int)(h1:1<=m:=by omega)(h2:m<=12:=by omega):e7 y (m+1)=e7 y m+dim y m:=by
 rcases q0f m h1 h2 with h|h|h|h|h|h|h|h|h|h|h|h<;>subst h<;>simp[e7,qeo,dim,qbb]<;>omega
def qyl(y m:Int)(h1:1<=m)(h2:m<=13:=by omega):0<=e7 y m/\e7 y m<=366:=by
 have:=zbm y;rcases (show m=13\/m<=12 by omega) with h|h
 ·subst h;rw[qyk];omega
 ·rcases q0f m h1 h with h|h|h|h|h|h|h|h|h|h|h|h<;>subst h<;>simp[e7,qeo]<;>omega
def qju(y a b:Int)(h1:1<=a:=by omega)(hab:a<=b:=by omega)(h2:b<=13:=by omega):e7 y a<=e7 y b:=by
 obtain⟨n,rfl⟩:∃n:Nat,b=a+n:=⟨(b-a).toNat,oA⟩
 induction n with
 |zero=>simp|succ n ih=>
  have h:=ih oA oA
  have hs:=qjv y (a+n)
  have hd:=dim_bd y (a+n);have e:a+((n+1:Nat):Int)=a+n+1:=oA
  rw[e,hs];omega
def zmb(y a b:Int)(h1:1<=a)(hab:a<b)(h2:b<=13):e7 y a+dim y a<=e7 y b:=by
 rw[← qjv y a h1];exact qju y _ _ oA oA h2
def dh(y:Int):Int:=365*(y-1)+(y-1)/4-(y-1)/100+(y-1)/400
def zk1:dh 1970=719162:=oD
def q73(y:Int):dh (y+1)=dh y+365+lp y:=by
 have:=zpt y;unfold dh;rw[show y+1-1=y by omega];omega
def yf(a b:Int)(h:a<=b:=by omega):dh a<=dh b:=by unfold dh;omega
def q72(y:Int)(h1:1<=y)(h2:y<=4001):0<=dh y/\dh y<=1461000:=by unfold dh;omega
def ce(y m d:Int):Int:=dh y-719162+d-1+e7 y m
def day_bd(y m d:Int)(h1:1<=y)(h2:y<=4001)(h3:1<=m)(h4:m<=13)(h5 : -1000<=d)(h6:d<=1000) : -720200<=ce y m d/\ce y m d<=743300:=by
 have:=q72 y h1 h2;have:=qyl y m h3 h4;unfold ce;omega
def f7(y m d:Int):Prop:=1<=y/\y<=4000/\1<=m/\m<=12/\1<=d/\d<=dim y m
instance(y m d:Int):Decidable (f7 y m d):=by unfold f7;infer_instance
def qjw(y m d:Int)(h:f7 y m d):dh y<=ce y m d+719162/\ce y m d+719162<dh (y+1):=by
 obtain⟨_,_,h3,h4,h5,h6⟩:=h;have:=qyl y m h3;have:=zmb y m 13 h3 oA oA;have:=qyk y;have:=q73 y
 unfold ce;omega
def qyq(y m d:Int)(h:f7 y m d):e7 y m<=ce y m d+719162-dh y/\ce y m d+719162-dh y<e7 y (m+1):=by
 obtain⟨_,_,h3,h4,h5,h6⟩:=h;have:=qjv y m h3 h4;unfold ce;omega
def zmk{y m d y' m' d':Int}(h:f7 y m d)(h':f7 y' m' d')(e:ce y m d=ce y' m' d'):y=y'/\m=m'/\d=d':=by
 have a:=qjw y m d h;have a':=qjw y' m' d' h';have hy:y=y':=by
  rcases Int.lt_trichotomy y y' with c|c|c
  ·have:=yf (y+1) y';omega
  ·exact c
  ·have:=yf (y'+1) y;omega
 subst hy;have b:=qyq y m d h;have b':=qyq y m' d' h';obtain⟨_,_,h3,h4,_,_⟩:=h;obtain⟨_,_,h3',h4',_,_⟩:=h';have hm:m=m':=by
  rcases Int.lt_trichotomy m m' with c|c|c
  ·have:=qju y (m+1) m';omega
  ·exact c
  ·have:=qju y (m'+1) m;omega
 subst hm;refine⟨rfl,rfl,?_⟩;unfold ce at e;omega
noncomputable def nw(n:Int):Int×Int×Int:=open Classical in if h:∃p:Int×Int×Int,f7 p.1 p.2.1 p.2.2/\ce p.1 p.2.1 p.2.2=n then Classical.choose h else(0,0,0)
def zlz{y m d:Int}(h:f7 y m d):nw (ce y m d)=(y,m,d):=by
 have hx:∃p:Int×Int×Int,f7 p.1 p.2.1 p.2.2/\ce p.1 p.2.1 p.2.2=ce y m d:=⟨(y,m,d),h,rfl⟩;unfold nw;rw[dif_pos hx];obtain⟨hv,he⟩:=Classical.choose_spec hx;obtain⟨a,b,c⟩:=zmk hv h he;exact Prod.ext a (Prod.ext b c)
def zl1{n y m d:Int}(h:f7 y m d)(e:ce y m d=n):nw n=(y,m,d):=by rw[← e];exact zlz h
def zl0(n:Int)(h1 : -719162<=n)(h2:n<=741807):∃y m d:Int,f7 y m d/\ce y m d=n:=by
 have hyear:∀k:Nat,k<=4000->n+719162<dh (k+1:Int)->∃y:Int,1<=y/\y<=4000/\dh y<=n+719162/\n+719162<dh (y+1):=by
  intro k
  induction k with
  |zero=>intro _ h;simp[dh]at h;omega|succ k ih=>
   intro hk h;by_cases hc:n+719162<dh (k+1:Int)
   ·exact ih oA hc
   ·exact⟨k+1,oA,oA,oA,by
     have e:((k+1:Nat):Int)+1=(k:Int)+1+1:=oA
     rw[e]at h;exact h⟩
 obtain⟨y,hy1,hy2,hy3,hy4⟩:=hyear 4000 (wF _) (by
  have:dh ((4000:Nat)+1:Int)=1460970:=oD
  omega)
 have hmon:∀k:Nat,k<=12->n+719162-dh y<e7 y (k+1:Int)->∃m:Int,1<=m/\m<=12/\e7 y m<=n+719162-dh y/\n+719162-dh y<e7 y (m+1):=by
  intro k
  induction k with
  |zero=>intro _ h;simp[e7,qeo]at h;omega|succ k ih=>
   intro hk h;by_cases hc:n+719162-dh y<e7 y (k+1:Int)
   ·exact ih oA hc
   ·exact⟨k+1,oA,oA,oA,by
     have e:((k+1:Nat):Int)+1=(k:Int)+1+1:=oA
     rw[e]at h;exact h⟩
 obtain⟨m,hm1,hm2,hm3,hm4⟩:=hmon 12 (wF _) (by
  have:=qyk y;have:=q73 y;have e:((12:Nat):Int)+1=13:=oA
  rw[e];omega)
 have:=qjv y m hm1 hm2;exact⟨y,m,n+719162-dh y-e7 y m+1,⟨hy1,hy2,hm1,hm2,oA,oA⟩,by unfold ce;omega⟩
def zmm:ce 4000 12 31=741807:=oD
def zmn:ce 1 1 1 = -719162:=oD
def q2i(y m d:Int)(h:f7 y m d) : -719162<=ce y m d/\ce y m d<=741807:=by
 have a:=qjw y m d h;have b:=yf 1 y h.1;have c:=yf (y+1) 4001 (by have:=h.2.1;omega)
 have e1:dh 1=0:=oD
 have e2:dh 4001=1460970:=oD
 omega
def zl2(n:Int)(h1 : -719162<=n:=by omega)(h2:n<=741807:=by omega):f7 (nw n).1 (nw n).2.1 (nw n).2.2/\ce (nw n).1 (nw n).2.1 (nw n).2.2=n:=by
 obtain⟨y,m,d,h,e⟩:=zl0 n h1 h2;rw[zl1 h e];exact⟨h,e⟩
def qcc(n:Int):Int:=(n+4)%7
def zva(n:Int):0<=qcc n/\qcc n<=6:=by unfold qcc;omega
end Go.Sym.Cal
namespace Go.Sym.Zn
open Go.Sym.Cal
def mg(y mo wd:Int):Int:=(wd-qcc (ce y mo 1)+7)%7
def up(y mo wk wd:Int):Int:=if wk=5/\dim y mo<29+mg y mo wd then 22+mg y mo wd else 1+mg y mo wd+7*(wk-1)
def ze8(y mo wk wd mi ah:Int):Int:=ce y mo (up y mo wk wd)*86400+60*(mi-ah)
def TOk(mo wk wd mi:Int):Prop:=1<=mo/\mo<=12/\1<=wk/\wk<=5/\0<=wd/\wd<=6/\0<=mi/\mi<=1439
instance(mo wk wd mi:Int):Decidable (TOk mo wk wd mi):=by unfold TOk;infer_instance
def zfd(y mo wd:Int):0<=mg y mo wd/\mg y mo wd<=6:=by unfold mg;omega
def zug(y mo wk wd:Int)(h1:1<=wk)(h2:wk<=5):1<=up y mo wk wd/\up y mo wk wd<=dim y mo:=by
 have:=zfd y mo wd;have:=dim_bd y mo;unfold up;split
 ·omega
 ·rename_i h;by_cases h5:wk=5
  ·subst h5;simp at h;omega
  ·omega
def zmo(y m d:Int):ce y m d=ce y m 1+d-1:=by unfold ce;omega
def y9(y:Int):Int:=86400*(dh y-719162)
structure z5f(B E:Int->Int)(std sm:Int):Prop where
 d1:std+1<=sm
 d2:sm<=std+180
 b1:∀y,y9 y<=B y+60*std
 b2:∀y,B y+60*std+60<=y9 (y+1)
 e1:∀y,y9 y<=E y+60*sm
 e2:∀y,E y+60*sm+60<=y9 (y+1)
 bs:∀y,B (y+1)=B y+364*86400\/B (y+1)=B y+371*86400
 es:∀y,E (y+1)=E y+364*86400\/E (y+1)=E y+371*86400
 be:∀y,y9 (y+1)-86400<=B y+60*std->E y+60*sm+86400<=y9 (y+1)
 eb:∀y,y9 (y+1)-86400<=E y+60*sm->B y+60*std+86400<=y9 (y+1)
section
variable{B E:Int->Int}{std sm:Int}
def q61(B E:Int->Int)(lo hi t:Int):Prop:=∃y,lo<=y/\y<=hi/\B y<=t/\∀z,lo<=z->z<=hi->E z<=t->E z<B y
def Inv(B E:Int->Int)(t:Int)(S:Int->Prop)(best:Int)(out has:Bool):Prop:=
 (has=false->out=false/\∀y,S y->t<B y/\t<E y) /\
 (has=true->best<=t/\(∀y,S y->B y<=t->B y<=best)/\(∀y,S y->E y<=t->E y<=best) /\
  (out=true->(∃y,S y/\B y=best)/\∀y,S y->E y<=t->E y<best)/\(out=false->∃y,S y/\E y=best))
def Inv.start(t best:Int):Inv B E t (fun _=>False) best false false:=⟨fun _=>⟨rfl,fun _ h=>h.elim⟩,fun h=>by cases h⟩
def Inv.fin{t lo hi best:Int}{out has:Bool}(h:Inv B E t (fun y=>lo<=y/\y<=hi) best out has):out=true↔q61 B E lo hi t:=by
 constructor
 ·intro ho
  cases has with
  |false=>have:=(h.1 rfl).1;rw[this]at ho;cases ho
  |true=>
   obtain⟨h1,h2,h3,h4,_⟩:=h.2 rfl;obtain⟨⟨y,hy,rfl⟩,hE⟩:=h4 ho;exact⟨y,hy.1,hy.2,h1,fun z z1 z2 hz=>hE z ⟨z1,z2⟩ hz⟩
 ·rintro⟨y,y1,y2,hy,hz⟩
  cases has with
  |false=>have:=(h.1 rfl).2 y ⟨y1,y2⟩;omega|true=>
   obtain⟨h1,h2,h3,_,h5⟩:=h.2 rfl
   cases out with
   |true=>rfl|false=>
    obtain⟨z,hz',he⟩:=h5 rfl;have:=h2 y ⟨y1,y2⟩ hy;have:=hz z hz'.1 hz'.2 oA
    omega
def Inv.next{t k best best1 best2:Int}{S S':Int->Prop}{out has out1 has1 out2 has2:Bool}(h:Inv B E t S best out has)(hS:∀y,S' y↔S y\/y=k)
  (h1:(B k<=t/\(has=false\/best<B k)/\best1=B k/\out1=true/\has1=true)\/(¬(B k<=t/\(has=false\/best<B k))/\best1=best/\out1=out/\has1=has))
  (h2:(E k<=t/\(has1=false\/best1<=E k)/\best2=E k/\out2=false/\has2=true)\/(¬(E k<=t/\(has1=false\/best1<=E k))/\best2=best1/\out2=out1/\has2=has1)) :
  Inv B E t S' best2 out2 has2:=by
 obtain⟨hf,ht⟩:=h;have hk:S' k:=(hS k).2 (.inr rfl);have hsub:∀y,S y->S' y:=fun y hy=>(hS y).2 (.inl hy)
 rcases h1 with⟨a1,a2,rfl,rfl,rfl⟩|⟨a1,rfl,rfl,rfl⟩
 ·rcases h2 with⟨c1,c2,rfl,rfl,rfl⟩|⟨c1,rfl,rfl,rfl⟩
  ·refine⟨fun h=>(by cases h),fun _=>⟨c1,fun y hy hy2 => ?_,fun y hy hy2 => ?_,fun h=>(by cases h),fun _=>⟨k,hk,rfl⟩⟩⟩
   ·rcases (hS y).1 hy with q|rfl
    ·cases has with|false=>have:=(hf rfl).2 y q;omega|true=>have:=(ht rfl).2.1 y q hy2;simp at a2 c2;omega
    ·simp at c2;exact c2
   ·rcases (hS y).1 hy with q|rfl
    ·cases has with|false=>have:=(hf rfl).2 y q;omega|true=>have:=(ht rfl).2.2.1 y q hy2;simp at a2 c2;omega
    ·omega
  ·simp at c1;refine⟨fun h=>(by cases h),fun _=>⟨a1,fun y hy hy2 => ?_,fun y hy hy2 => ?_,fun _=>⟨⟨k,hk,rfl⟩,fun y hy hy2 => ?_⟩,fun h=>(by cases h)⟩⟩
   ·rcases (hS y).1 hy with q|rfl
    ·cases has with|false=>have:=(hf rfl).2 y q;omega|true=>have:=(ht rfl).2.1 y q hy2;simp at a2;omega
    ·omega
   ·rcases (hS y).1 hy with q|rfl
    ·cases has with|false=>have:=(hf rfl).2 y q;omega|true=>have:=(ht rfl).2.2.1 y q hy2;simp at a2;omega
    ·have:=c1 hy2;omega
   ·rcases (hS y).1 hy with q|rfl
    ·cases has with|false=>have:=(hf rfl).2 y q;omega|true=>have:=(ht rfl).2.2.1 y q hy2;simp at a2;omega
    ·exact c1 hy2
 ·rcases h2 with⟨c1,c2,rfl,rfl,rfl⟩|⟨c1,rfl,rfl,rfl⟩
  ·refine⟨fun h=>(by cases h),fun _=>⟨c1,fun y hy hy2 => ?_,fun y hy hy2 => ?_,fun h=>(by cases h),fun _=>⟨k,hk,rfl⟩⟩⟩
   ·rcases (hS y).1 hy with q|rfl
    ·cases has1 with|false=>have:=(hf rfl).2 y q;omega|true=>have:=(ht rfl).2.1 y q hy2;simp at c2;omega
    ·cases has1 with|false=>exact absurd ⟨hy2,.inl rfl⟩ a1|true=>simp at a1 c2;have:=a1 hy2;omega
   ·rcases (hS y).1 hy with q|rfl
    ·cases has1 with|false=>have:=(hf rfl).2 y q;omega|true=>have:=(ht rfl).2.2.1 y q hy2;simp at c2;omega
    ·omega
  ·cases has2 with
   |false=>
    simp at a1 c1;obtain⟨o,hn⟩:=hf rfl;refine⟨fun _=>⟨o,fun y hy => ?_⟩,fun h=>(by cases h)⟩
    rcases (hS y).1 hy with q|rfl
    ·exact hn y q
    ·exact⟨a1,c1⟩
   |true=>
    simp at a1 c1;obtain⟨g1,g2,g3,g4,g5⟩:=ht rfl;refine⟨fun h=>(by cases h),fun _=>⟨g1,fun y hy hy2 => ?_,fun y hy hy2 => ?_,fun ho => ?_,fun ho => ?_⟩⟩
    ·rcases (hS y).1 hy with q|rfl
     ·exact g2 y q hy2
     ·exact a1 hy2
    ·rcases (hS y).1 hy with q|rfl
     ·exact g3 y q hy2
     ·have:=c1 hy2;omega
    ·obtain⟨⟨y,hy,e⟩,hE⟩:=g4 ho;refine⟨⟨y,hsub y hy,e⟩,fun z hz hz2 => ?_⟩
     rcases (hS z).1 hz with q|rfl
     ·exact hE z q hz2
     ·exact c1 hz2
    ·obtain⟨y,hy,e⟩:=g5 ho;exact⟨y,hsub y hy,e⟩
end
end Go.Sym.Zn
namespace Go.Sym
open Cal Zn
abbrev gm:Type:=Int×Int
abbrev dj:Type:=Int×Int×Int×Int×Int×Int×Int
abbrev vp:Type:=Int×Int×Int×Int
abbrev dc:Type:=List UInt8×Int×Int×vp×vp
@[simp] def dates_within_eq(x a b:Int):p9 x a b=some (decide (a<=x/\x<=b)):=by
 unfold p9;by_cases h:a<=x<;>simp[h]
@[simp] def zones_within_eq(x a b:Int):ou x a b=some (decide (a<=x/\x<=b)):=by
 unfold ou;by_cases h:a<=x<;>simp[h]
@[simp] def zr1_in_eq(x a b:Int):mj x a b=some (decide (a<=x/\x<=b)):=by
 unfold mj;by_cases h:a<=x<;>simp[h]
def zpd(y:Int)(h:0<=y):qms y=some (ud y):=by
 unfold qms ud;rw[Int.tmod_eq_emod_of_nonneg h,Int.tmod_eq_emod_of_nonneg h,Int.tmod_eq_emod_of_nonneg h];cases h1:(y%4==0)<;>cases h2:(y%100 != 0)<;>simp
def zsr(y:Int)(h:0<=y):qsl y=some (ud y):=by
 unfold qsl ud;rw[Int.tmod_eq_emod_of_nonneg h,Int.tmod_eq_emod_of_nonneg h,Int.tmod_eq_emod_of_nonneg h];cases h1:(y%4==0)<;>cases h2:(y%100 != 0)<;>simp
 all_goals (simp at h1;omega)
def zbo{y:Int}(h:ud y=true):lp y=1:=by unfold lp;rw[qX h]
def zbn{y:Int}(h:ud y=false):lp y=0:=by unfold lp;rw[qW (by rw[h];decide)]
def zb7(m:Int)(h1:1<=m)(h2:m<=12):ap ([31,28,31,30,31,30,31,31,30,31,30,31]:List Int) (af (m-1))=some (qbb m):=by
 rw[bu]
 rcases q0f m h1 h2 with h|h|h|h|h|h|h|h|h|h|h|h<;>subst h<;>rfl
def zbb(y m:Int)(hy:0<=y)(h1:1<=m)(h2:m<=12):qhv y m=some (dim y m):=by
 unfold qhv;rw[zb7 m h1 h2,qB];by_cases e:m=2
 ·subst e;rw[zpd y hy];cases hl:ud y
  ·simp[dim,qbb,zbn hl]
  ·simp[dim,qbb,zbo hl];rfl
 ·have e':(m==2)=false:=by simp[e]
  simp[e,e',dim]
def zss(y m:Int)(hy:0<=y)(h1:1<=m)(h2:m<=12):qsm y m=some (dim y m):=by
 unfold qsm;simp only[zdw];rw[zb7 m h1 h2];by_cases e:m=2
 ·subst e;rw[zsr y hy];cases hl:ud y
  ·simp[dim,qbb,zbn hl]
  ·simp[dim,zbo hl]
 ·have e':(m==2)=false:=by simp[e]
  simp[e,e',dim]
def q74(y:Int)(h1:1<=y:=by omega)(h2:y<=4001:=by omega):qht y=some (dh y):=by
 unfold qht dh;rw[bu (x:=y-1) oA oA]
 rw[Int.tdiv_eq_ediv_of_nonneg oA,Int.tdiv_eq_ediv_of_nonneg oA,Int.tdiv_eq_ediv_of_nonneg oA]
 simp (discharger:=omega) only [bu ?_ ?_]
def zml(fu:Nat)(y m:Int)(hy1:1<=y)(hy2:y<=4001)(hm:m<=12):∀(n:Nat)(a k:Int),1<=k->k<=m->m-k<n -> -10000000<=a-e7 y k->a-e7 y k<=10000000 ->
  qhu fu n y m a k=some (a+e7 y m-e7 y k):=by
 intro n
 induction n with
 |zero=>intro a k h1 h2 h3;omega|succ n ih=>
  intro a k h1 h2 h3 h4 h5;rw[qhu,qt8];by_cases c:k<m
  ·have hc:=qjv y k h1
   have hb:=qyl y k h1
   have hd:=dim_bd y k;rw[ar (by simp[c]),zbb y k oA h1 oA,qB,bu,bu,
    ih _ _ oA oA oA oA oA]
   congr 1;omega
  ·have:k=m:=oA
   subst this;rw[ak];congr 1;omega
def qes(fu:Nat)(hf:20<=fu)(y m d:Int)(hy1:1<=y:=by omega)(hy2:y<=4001:=by omega)(h1:1<=m:=by omega)(h2:m<=12:=by omega)(h3 : -1000<=d:=by omega)(h4:d<=1000:=by omega):sr fu y m d=some (ce y m d):=by
 unfold sr;have hb:=q72 y hy1 hy2;have hc:=q8z y;rw[q74 y hy1 hy2,qB,q74 1970,qB,zk1]
 simp (discharger:=omega) only [bu ?_ ?_];rw[zml fu y m hy1 hy2 h2 fu _ 1 oA h1 oA oA oA,hc]
 unfold ce;congr 1;omega
def zen(x b:Int)(hb:0<b:=by omega)(hb2:b<=100000:=by omega)(h1 : -1000000000000<=x:=by omega)(h2:x<=1000000000000:=by omega):qhw x b=some (x/b,x%b):=by
 unfold qhw;have hb0:decide (b≠0)=true:=decide_eq_true oA
 rw[ar hb0,ar hb0,ar hb0];have e:Int.tmod (af (Int.tmod x b+b)) b=x%b:=by
  have a1:=Int.tmod_lt_of_pos x hb;have a2 : -b<Int.tmod x b:=by
   have:=Int.lt_tmod_of_pos x hb;omega
  rw[bu,Int.tmod_eq_emod_of_nonneg oA]
  rw[Int.add_emod_right];by_cases hx:0<=x
  ·rw[Int.tmod_eq_emod_of_nonneg hx,Int.emod_emod]
  ·rw[Int.tmod_def x b,Int.sub_mul_emod_self_left]
 rw[e];have m1:=Int.emod_nonneg x (show b≠0 by omega)
 have m2:=Int.emod_lt_of_pos x hb;have ed:=Int.mul_ediv_add_emod x b;have e3:x-x%b=b*(x/b):=oA
 rw[bu (x:=x-x%b) oA oA,e3,Int.mul_tdiv_cancel_left _ oA]
 have bd : -1000000000000<=x/b/\x/b<=1000000000000:=by
  constructor
  ·rw[Int.le_ediv_iff_mul_le hb];have : -1000000000000*b <= -1000000000000*1:=oA
   omega
  ·exact Int.le_trans (Int.ediv_le_ediv hb h2) (Int.ediv_le_self _ oA)
 rw[bu]
end Go.Sym
namespace Go.Sym
open Cal Zn
def ze1{x k:Int}(h:0<=x):Int.tdiv x k=x/k:=Int.tdiv_eq_ediv_of_nonneg h
def ze9{x k:Int}(h:0<=x:=by omega):Int.tmod x k=x%k:=Int.tmod_eq_emod_of_nonneg h
@[simp] def none_eq:cw=some ⟨0,0⟩:=rfl
@[simp] def fault_eq(a b:Int):bc a b=some ⟨a,b⟩:=rfl
@[simp] def qxt(a b:Int):pz a b=some ⟨a,b⟩:=rfl
@[simp] def zfailed_eq(f:gm):eh f=some (f.1 != 0):=rfl
@[simp] def time_eq(t:Int):vh t=some (decide (-68719476736<=t/\t<=68719476736)):=by
 unfold vh;by_cases h : -68719476736<=t<;>simp[h]
noncomputable def qyd(n s z:Int):dj:=⟨(nw n).1,(nw n).2.1,(nw n).2.2,s/3600,s/60%60,s%60,z⟩
def z4y{n y m d k:Int}(h:f7 y m d)(e:ce y m d=n):ce k 1 1<=n↔k<=y:=by
 have a:=qjw y m d h;have:ce k 1 1=dh k-719162:=by unfold ce;rw[q8z];omega
 rw[this];constructor
 ·intro hk;by_cases c:k<=y
  ·exact c
  ·have:=yf (y+1) k;omega
 ·intro hk;have:=yf k y hk;omega
def zp1{n y m d k:Int}(h:f7 y m d)(e:ce y m d=n)(k1:1<=k)(k2:k<=12):ce y k 1<=n↔k<=m:=by
 have a:=qyq y m d h;have:ce y k 1=dh y-719162+e7 y k:=by unfold ce;omega
 rw[this];constructor
 ·intro hk;by_cases c:k<=m
  ·exact c
  ·have:=qju y (m+1) k (by have:=h.2.2.1;omega);omega
 ·intro hk;have:=qju y k m k1 hk (by have:=h.2.2.2.1;omega);omega
def zl4(fu:Nat)(hf:20<=fu){N y m d:Int}(s z:Int)(m1:dj)(m2:gm)(h:f7 y m d)(e:ce y m d=N)(hs:0<=s)(hs2:s<86400):∀(n:Nat)(k:Int),m<=k->k<=12->k-m<n ->
  qhs fu n z N s y k m1 m2=some ((y,m,d,s/3600,s/60%60,s%60,z),(0,0)):=by
 obtain⟨v1,v2,v3,v4,v5,v6⟩:=h;have hd:=dim_bd y m;have hN:=q2i y m d ⟨v1,v2,v3,v4,v5,v6⟩;intro n
 induction n with
 |zero=>intro k h1 h2 h3;omega|succ n ih=>
  intro k h1 h2 h3;rw[qhs,qt6,qes fu hf y k 1 v1 oA oA h2,qB]
  have hl:=zp1 (k:=k) ⟨v1,v2,v3,v4,v5,v6⟩ e oA h2
  by_cases c:k<=m
  ·have:k=m:=oA
   subst this;have:=zmo y k d;have b:=day_bd y k 1 v1 oA v3 oA oA oA
   rw[ak (by simp;exact hl.2 c),none_eq]
   simp only[qB];simp (discharger:=omega) only [bu ?_ ?_,ze1,ze9 ?_];have e1:N-ce y k 1+1=d:=oA
   rw[e1]
  ·rw[ar (by simp;have:=mt hl.1 c;omega),bu,ih _ oA oA oA]
def zl5(fu:Nat)(hf:20<=fu){N y m d:Int}(s z:Int)(m1:dj)(m2:gm)(h:f7 y m d)(e:ce y m d=N)(hs:0<=s)(hs2:s<86400):∀(j n:Nat)(k:Int),j<=12->1<=k->k<=y->y<k+2 ^ j->j<n ->
  qc8 fu n z N s k ((2 ^ j/2:Nat):Int) m1 m2=some ((y,m,d,s/3600,s/60%60,s%60,z),(0,0)):=by
 have h':=h;obtain⟨v1,v2,v3,v4,v5,v6⟩:=h';intro j
 induction j with
 |zero=>
  intro n k hj h1 h2 h3 h4;obtain⟨n,rfl⟩:∃q,n=q+1:=⟨n-1,oA⟩
  have:k=y:=by simp at h3;omega
  subst this;rw[qc8,qmo,ak,zl4 fu hf s z m1 m2 h e hs hs2 fu 12 v4 oA oA]
 |succ j ih=>
  intro n k hj h1 h2 h3 h4;obtain⟨n,rfl⟩:∃q,n=q+1:=⟨n-1,oA⟩
  have e2:(2 ^ (j+1)/2:Nat)=2 ^ j:=by rw[Nat.pow_succ];omega
  have e3:(2:Int) ^ (j+1)=2*((2 ^ j:Nat):Int):=by rw[Int.pow_succ];simp;omega
  rw[e3]at h3;have e4:((2:Int) ^ j)=((2 ^ j:Nat):Int):=oC
  have ih':=ih n;rw[e4]at ih';have p1:0<2 ^ j:=Nat.pow_pos oA
  have p2:2 ^ j<=2 ^ 11:=Nat.pow_le_pow_right oA oA
  have ed:((2 ^ j/2:Nat):Int)=((2 ^ j:Nat):Int)/2:=oA
  rw[e2];rw[ed]at ih';generalize 2 ^ j=P at *;rw[qc8,qmo,ar oE]
  simp only[qmq,qmr];simp (discharger:=omega) only [bu ?_ ?_,ze1];by_cases c:k+(P:Int)<=4000
  ·rw[ar (by simp;exact c),qes fu hf _ 1 1,qB]
   have hl:=z4y (k:=k+(P:Int)) h e;by_cases c2:k+(P:Int)<=y
   ·rw[ar (by simp;exact hl.2 c2)]
    exact ih' _ oA oA c2 oA oA
   ·rw[ak (by simp;have:=mt hl.1 c2;omega)]
    exact ih' _ oA oA h2 oA oA
  ·rw[ak oE]
   exact ih' _ oA oA h2 oA oA
noncomputable def qsg(t z:Int):dj×gm:=
 if ¬(-68719476736<=t/\t<=68719476736) then(⟨0,0,0,0,0,0,0⟩,⟨3,-2⟩) else
 if ¬(-900<=z/\z<=900) then(⟨0,0,0,0,0,0,0⟩,⟨3,-4⟩) else
 if(t+60*z)/86400 < -719162\/741807<(t+60*z)/86400 then(⟨0,0,0,0,0,0,0⟩,⟨3,-3⟩) else
 (qyd ((t+60*z)/86400) ((t+60*z)%86400) z,⟨0,0⟩)
def zl3(fu:Nat)(hf:20<=fu)(t z:Int):qhr fu t z=some (qsg t z):=by
 unfold qhr qsg;rw[time_eq,qB];by_cases c1 : -68719476736<=t/\t<=68719476736
 ·rw[ak oU,qW oU,dates_within_eq,qB]
  by_cases c2 : -900<=z/\z<=900
  ·rw[ak (by simp[c2]),qW (by simp[c2])]
   simp (discharger:=omega) only [bu ?_ ?_];rw[zen _ _,qB,qes fu hf 1 1 1,qB,zmn]
   generalize hN:(t+60*z)/86400=N;generalize hS:(t+60*z)%86400=S;by_cases c3:N < -719162
   ·rw[ar (by simp;exact c3),qX (.inl c3)];rfl
   ·rw[ak oE,qes fu hf 4000 12 31,qB,zmm]
    unfold qmp qt7;by_cases c4:741807<N
    ·rw[ar (by simp;exact c4),qX (.inr c4)];rfl
    ·rw[ak oE,qW oA]
     obtain⟨hv,he⟩:=zl2 N
     have:=zl5 fu hf S z (0,0,0,0,0,0,0) (0,0) hv he oA oA 12 fu 1 oA oA hv.1 (by have:=hv.2.1;omega) oA
     exact this
  ·rw[ar oE,qX c2];rfl
 ·rw[ar oE,qX c1];rfl
def d7(d:dj):Prop:=f7 d.1 d.2.1 d.2.2.1/\0<=d.2.2.2.1/\d.2.2.2.1<=23/\0<=d.2.2.2.2.1/\d.2.2.2.2.1<=59/\0<=d.2.2.2.2.2.1/\d.2.2.2.2.2.1<=59 /\ -900<=d.2.2.2.2.2.2/\d.2.2.2.2.2.2<=900
instance(d:dj):Decidable (d7 d):=by unfold d7;infer_instance
def qy1(d:dj):qc9 d=some (if d7 d then⟨0,0⟩ else⟨3,-3⟩):=by
 unfold qc9;simp only[dates_within_eq,qB,fault_eq,none_eq,nv,qa7];have key:∀(f:gm),(if d7 d then(⟨0,0⟩:gm) else⟨3,-3⟩)=f->(d7 d->f=⟨0,0⟩)/\(¬d7 d->f=⟨3,-3⟩):=fun f h=>⟨fun k=>by rw[← h,qX k],fun k=>by rw[← h,qW k]⟩
 generalize hf:(if d7 d then(⟨0,0⟩:gm) else⟨3,-3⟩)=f
 obtain⟨k1,k2⟩:=key f hf;clear key hf;unfold d7 f7 at k1 k2;by_cases c1:1<=d.1/\d.1<=4000
 ·rw[qX c1];by_cases c2:1<=d.2.1/\d.2.1<=12
  ·have e:(if(12:Int)<(if(1:Int)>d.2.1 then 1 else d.2.1) then 12 else if(1:Int)>d.2.1 then 1 else d.2.1)=d.2.1:=by
    rw[qW (show ¬((1:Int)>d.2.1) by omega),qW oA]
   rw[qX c2,e,zbb _ _ oA c2.1 c2.2,qB]
   clear e
   repeat' split
   all_goals first|(rw[k1 oA])|(rw[k2 oA])
  ·rw[qW c2,k2 oA]
 ·rw[qW c1,k2 oA]
def zmv(d:dj):qsi d=some (if d7 d then⟨0,0⟩ else⟨3,-3⟩):=by
 unfold qsi;simp only[zr1_in_eq,qB,qxt,qa7];have key:∀(f:gm),(if d7 d then(⟨0,0⟩:gm) else⟨3,-3⟩)=f->(d7 d->f=⟨0,0⟩)/\(¬d7 d->f=⟨3,-3⟩):=fun f h=>⟨fun k=>by rw[← h,qX k],fun k=>by rw[← h,qW k]⟩
 generalize hf:(if d7 d then(⟨0,0⟩:gm) else⟨3,-3⟩)=f
 obtain⟨k1,k2⟩:=key f hf;clear key hf;unfold d7 f7 at k1 k2;by_cases c1:1<=d.1/\d.1<=4000
 ·rw[qX c1];by_cases c2:1<=d.2.1/\d.2.1<=12
  ·rw[qX c2,zss _ _ oA c2.1 c2.2,qB]
   repeat' split
   all_goals first|(rw[k1 oA])|(rw[k2 oA])
  ·rw[qW c2,k2 oA]
 ·rw[qW c1,k2 oA]
def n8(d:dj):Int:=ce d.1 d.2.1 d.2.2.1*86400+d.2.2.2.1*3600+(d.2.2.2.2.1-d.2.2.2.2.2.2)*60+d.2.2.2.2.2.1
def qyp{d:dj}(h:d7 d) : -719162<=ce d.1 d.2.1 d.2.2.1/\ce d.1 d.2.1 d.2.2.1<=741807:=q2i _ _ _ h.1
def zvb(fu:Nat)(hf:20<=fu)(d:dj)(h:d7 d):qda fu d=some (qcc (ce d.1 d.2.1 d.2.2.1),⟨0,0⟩):=by
 unfold qda;have hb:=qyp h;have hd:=dim_bd d.1 d.2.1;obtain⟨⟨v1,v2,v3,v4,v5,v6⟩,_⟩:=id h;rw[qy1,qX h,qB,zfailed_eq,qB,ak,qes fu hf _ _ _ v1 oA v3 v4,qB,bu,
  zen _ _]
 rfl
def zas(fu:Nat)(hf:20<=fu)(d:dj):qak fu d=some (if d7 d then(n8 d,⟨0,0⟩) else(0,⟨3,-3⟩)):=by
 unfold qak;rw[qy1,qB,zfailed_eq,qB];by_cases h:d7 d
 ·have hb:=qyp h;have hd:=dim_bd d.1 d.2.1;obtain⟨⟨v1,v2,v3,v4,v5,v6⟩,v7,v8,v9,v10,v11,v12,v13,v14⟩:=id h;rw[qX h,qX h,ak,qes fu hf _ _ _ v1 oA v3 v4,qB,none_eq,qB]
  simp (discharger:=omega) only [bu ?_ ?_];rfl
 ·rw[qW h,qW h];rfl
def jw(u:vp):Prop:=TOk u.1 u.2.1 u.2.2.1 u.2.2.2
instance(u:vp):Decidable (jw u):=by unfold jw;infer_instance
def qfu(u:vp)(y ah:Int):Int:=ze8 y u.1 u.2.1 u.2.2.1 u.2.2.2 ah
def qpi{y m d:Int}(h:f7 y m d):d7 ⟨y,m,d,0,0,0,0⟩:=by refine⟨h,?_,?_,?_,?_,?_,?_,?_,?_⟩<;>simp
def zm2{y m d:Int}:d7 ⟨y,m,d,0,0,0,0⟩↔f7 y m d:=⟨fun h=>h.1,qpi⟩
def zop(y m d:Int):n8 ⟨y,m,d,0,0,0,0⟩=ce y m d*86400:=by simp[n8]
def qzp(fu:Nat)(hf:20<=fu){y m d:Int}(h:f7 y m d)(mi ah:Int)(h1 : -10000<=mi)(h2:mi<=10000)(h3 : -10000<=ah)(h4:ah<=10000) :
  ((qak fu ⟨y,m,d,0,0,0,0⟩).bind fun x=>some (af (x.1+(af (60*(af (mi-ah)))))))=some (ce y m d*86400+60*(mi-ah)):=by
 have hb:=q2i _ _ _ h;rw[zas fu hf,qX (qpi h),qB,zop];simp (discharger:=omega) only [bu ?_ ?_]
def zia(fu:Nat)(hf:20<=fu)(u:vp)(hu:jw u)(y ah:Int)(hy1:1<=y)(hy2:y<=4000)(h3 : -10000<=ah:=by omega)(h4:ah<=10000:=by omega) :
  qi1 fu u y ah=some (qfu u y ah):=by
 obtain⟨u1,u2,u3,u4,u5,u6,u7,u8⟩:=hu;have hd:=dim_bd y u.1;have htd:=zug y u.1 u.2.1 u.2.2.1 u3 u4;have hx:=zfd y u.1 u.2.2.1;unfold qi1;have h1:f7 y u.1 1:=⟨hy1,hy2,u1,u2,oA,oA⟩
 rw[zvb fu hf _ (qpi h1),qB];have hw:=zva (ce y u.1 1);have e:(af ((af (1+(Int.tmod (af ((af (u.2.2.1-qcc (ce y u.1 1)))+7)) (7:Int))))+(af (7*(af (u.2.1-1))))))=1+mg y u.1 u.2.2.1+7*(u.2.1-1):=by
  unfold mg;generalize qcc (ce y u.1 1)=w at *;rw[bu (x:=u.2.2.1-w) oA oA,bu (x:=u.2.2.1-w+7) oA oA,ze9]
  simp (discharger:=omega) only [bu ?_ ?_]
 simp only[e];unfold qn0;unfold qfu ze8;by_cases c:u.2.1=5
 ·rw[ar (by simp[c]),qy1,qB,zfailed_eq,qB]
  by_cases c2:dim y u.1<29+mg y u.1 u.2.2.1
  ·have et:up y u.1 u.2.1 u.2.2.1=22+mg y u.1 u.2.2.1:=by unfold up;rw[qX ⟨c,c2⟩]
   rw[qW (by rw[zm2];intro hv;have:=hv.2.2.2.2.2;omega),ar]
   unfold qn1;rw[bu (x:=1+mg y u.1 u.2.2.1+7*(u.2.1-1)-7) oA oA,
    show 1+mg y u.1 u.2.2.1+7*(u.2.1-1)-7=22+mg y u.1 u.2.2.1 by omega,← et]
   exact qzp fu hf ⟨hy1,hy2,u1,u2,htd.1,htd.2⟩ _ _ oA oA h3 h4
  ·have et:up y u.1 u.2.1 u.2.2.1=1+mg y u.1 u.2.2.1+7*(u.2.1-1):=by unfold up;rw[qW (fun h=>c2 h.2)]
   rw[← et];rw[qX (qpi ⟨hy1,hy2,u1,u2,htd.1,htd.2⟩),ak]
   exact qzp fu hf ⟨hy1,hy2,u1,u2,htd.1,htd.2⟩ _ _ oA oA h3 h4
 ·have et:up y u.1 u.2.1 u.2.2.1=1+mg y u.1 u.2.2.1+7*(u.2.1-1):=by unfold up;rw[qW (fun h=>c h.1)]
  rw[ak (by simp[c]),← et]
  exact qzp fu hf ⟨hy1,hy2,u1,u2,htd.1,htd.2⟩ _ _ oA oA h3 h4
def mz(z:dc):Prop:=z.2.2.2.1.1=0/\z.2.2.2.1.2.1=0/\z.2.2.2.1.2.2.1=0/\z.2.2.2.1.2.2.2=0
instance(z:dc):Decidable (mz z):=by unfold mz;infer_instance
@[simp] def fixed_eq(z:dc):qd2 z=some (decide (mz z)):=by
 unfold qd2;congr 1;rw[Bool.eq_iff_iff,decide_eq_true_iff];simp[mz]
structure ZT(z:dc):Prop where
 s1 : -900<=z.2.1
 s2:z.2.1<=900
 m1 : -900<=z.2.2.1
 m2:z.2.2.1<=900
 d1:z.2.1+1<=z.2.2.1
 d2:z.2.2.1<=z.2.1+180
 b:jw z.2.2.2.1
 e:jw z.2.2.2.2
 ne:z.2.2.2.1.1≠z.2.2.2.2.1
def Bz(z:dc)(y:Int):Int:=qfu z.2.2.2.1 y z.2.1
def Ez(z:dc)(y:Int):Int:=qfu z.2.2.2.2 y z.2.2.1
def sel(z:dc)(o:Bool):Int:=bif o then z.2.2.1 else z.2.1
def q0w(r0:Int->Int->Int->Int->Bool->Int->dc->Option Int)(fu:Nat)(hf:20<=fu)(z:dc)(h:ZT z)(t Y best k:Int)(o has:Bool)(S S':Int->Prop)
  (hk1:1<=k) (hk2:k<=4000) (hY:k<=Y+1) (hY2:Y<=4000) (hI:Zn.Inv (Bz z) (Ez z) t S best o has) (hS:∀y,S' y↔S y\/y=k) :
  ∃best' o' has',Zn.Inv (Bz z) (Ez z) t S' best' o' has'/\qi2 fu r0 t Y best (sel z o) has k z=r0 t Y best' (sel z o') has' (k+1) z:=by
 have s1:=h.s1;have s2:=h.s2;have m1:=h.m1;have m2:=h.m2;unfold qi2;rw[bu (x:=Y+1) oA oA,ar (by simp;exact hY)]
 rw[zia fu hf _ h.b k _ hk1 hk2,qB]
 unfold qi3 qn2;rw[zia fu hf _ h.e k _ hk1 hk2]
 simp only[qB];rw[bu (x:=k+1) oA oA]
 have nx:=fun b1 b2 o1 h1 o2 h2=>Zn.Inv.next (best1:=b1) (best2:=b2) (out1:=o1) (has1:=h1) (out2:=o2) (has2:=h2) hI hS
 have eB:qfu z.2.2.2.1 k z.2.1=Bz z k:=rfl;have eE:qfu z.2.2.2.2 k z.2.2.1=Ez z k:=rfl;rw[eB,eE];generalize Bz z k=B at *;generalize Ez z k=E at *;have sT:z.2.2.1=sel z true:=rfl;have sF:z.2.1=sel z false:=rfl;have fin:∀b1 o1 h1,((B<=t/\(has=false\/best<B)/\b1=B/\o1=true/\h1=true)\/(¬(B<=t/\(has=false\/best<B))/\b1=best/\o1=o/\h1=has)) ->
   ∃best' o' has',Zn.Inv (Bz z) (Ez z) t S' best' o' has' /\
    (bif decide (E<=t) then bif !h1 then r0 t Y E z.2.1 true (k+1) z else bif decide (b1<=E) then r0 t Y E z.2.1 true (k+1) z else r0 t Y b1 (sel z o1) h1 (k+1) z else r0 t Y b1 (sel z o1) h1 (k+1) z)=r0 t Y best' (sel z o') has' (k+1) z:=by
  intro b1 o1 h1 hh;by_cases c:E<=t/\(h1=false\/b1<=E)
  ·refine⟨E,false,true,nx b1 E o1 h1 false true hh (.inl ⟨c.1,c.2,rfl,rfl,rfl⟩),?_⟩;rw[ar (by simp;exact c.1)]
   cases h1 with|false=>rw[ar];rfl|true=>rw[ak,ar (by simp;exact c.2.resolve_left oC)];rfl
  ·refine⟨b1,o1,h1,nx b1 b1 o1 h1 o1 h1 hh (.inr ⟨c,rfl,rfl,rfl⟩),?_⟩;by_cases c1:E<=t
   ·rw[ar (by simp;exact c1)]
    cases h1 with|false=>exact absurd ⟨c1,.inl rfl⟩ c|true=>rw[ak,ak (by simp;have:¬b1<=E:=fun q=>c ⟨c1,.inr q⟩;omega)]
   ·rw[ak oE]
 clear nx;by_cases c1:B<=t
 ·by_cases c2:has=false\/best<B
  ·obtain⟨b',o',h',hi,he⟩:=fin B true true (.inl ⟨c1,c2,rfl,rfl,rfl⟩);refine⟨b',o',h',hi,?_⟩;rw[← he,ar (by simp;exact c1)]
   cases has with
   |false=>rfl|true=>
    simp at c2;rw[ak,ar (by simp;exact c2)];rfl
  ·obtain⟨b',o',h',hi,he⟩:=fin best o has (.inr ⟨fun q=>c2 q.2,rfl,rfl,rfl⟩)
   refine⟨b',o',h',hi,?_⟩;rw[← he,ar (by simp;exact c1)]
   cases has with
   |false=>simp at c2|true=>
    simp at c2;rw[ak,ak (by simp;exact c2)]
 ·obtain⟨b',o',h',hi,he⟩:=fin best o has (.inr ⟨fun q=>c1 q.1,rfl,rfl,rfl⟩)
  refine⟨b',o',h',hi,?_⟩;rw[← he,ak oE];rfl
open Classical in
noncomputable def qk1(z:dc)(lo hi t:Int):Int:=if q61 (Bz z) (Ez z) lo hi t then z.2.2.1 else z.2.1
def ztg{z:dc}{lo hi t best:Int}{o has:Bool}(h:Zn.Inv (Bz z) (Ez z) t (fun y=>lo<=y/\y<=hi) best o has):sel z o=qk1 z lo hi t:=by
 have:=h.fin;unfold sel qk1
 cases o with|true=>rw[qX (this.1 rfl)];rfl|false=>rw[qW (fun q=>by have:=this.2 q;cases this)];rfl
def z5c(fu:Nat)(hf:20<=fu)(z:dc)(h:ZT z)(t Y:Int)(h1:2<=Y)(h2:Y<=3999):qd3 fu z t Y=some (qk1 z (Y-1) (Y+1) t):=by
 unfold qd3;have hnf:¬mz z:=fun q=>by have:=h.b.1;have:=q.1;omega
 rw[fixed_eq,qB,ak (by simp[hnf]),bu]
 obtain⟨n,rfl⟩:∃n,fu=n+1+1+1+1:=⟨fu-4,oA⟩
 generalize hfu:n+1+1+1+1=fu at hf;have q:qf fu (n+1+1+1+1) t Y 0 z.2.1 false (Y-1) z=some (qk1 z (Y-1) (Y+1) t):=by
  obtain⟨b1,o1,a1,i1,e1⟩:=q0w (qf fu (n+1+1+1)) fu hf z h t Y 0 (Y-1) false false _ (fun y=>y=Y-1) oA oA oA oA (Zn.Inv.start t 0) (fun y=>oC)
  rw[qf];refine Eq.trans e1 ?_;obtain⟨b2,o2,a2,i2,e2⟩:=q0w (qf fu (n+1+1)) fu hf z h t Y b1 (Y-1+1) o1 a1 _ (fun y=>Y-1<=y/\y<=Y) oA oA oA oA i1 (fun y=>oA)
  rw[qf];refine Eq.trans e2 ?_;obtain⟨b3,o3,a3,i3,e3⟩:=q0w (qf fu (n+1)) fu hf z h t Y b2 (Y-1+1+1) o2 a2 _ (fun y=>Y-1<=y/\y<=Y+1) oA oA oA oA i2 (fun y=>oA)
  rw[qf];refine Eq.trans e3 ?_;rw[qf,qi2,bu (x:=Y+1) oA oA,ak oE,ztg i3]
 rw[hfu]at q;exact q
def chB(c:UInt8):Bool:=(decide (97<=c.toNat)&&decide (c.toNat<=122))||(decide (65<=c.toNat)&&decide (c.toNat<=90))||(decide (48<=c.toNat)&&decide (c.toNat<=57))||c.toNat==45||c.toNat==95||c.toNat==46
def zup{p:UInt8->Prop}(h:∀n:_root_.Fin 256,p (UInt8.ofFin n))(c:UInt8):p c:=by
 have:=h c.toFin
 rwa [UInt8.ofFin_toFin]at this
def z5a(c:UInt8):qtr c=some (chB c):=by
 revert c;exact zup (by decide +kernel)
def oc(s:List UInt8):Bool:=decide (1<=s.length)&&decide (s.length<=60)&&s.all chB
def zj5(fu:Nat)(s:List UInt8)(hs:(s.length:Int)<9223372036854775808):∀(n:Nat)(k:Nat),k<=s.length->s.length-k<n ->
  qhj fu n s s.length k=some ((s.drop k).all chB):=by
 intro n
 induction n with
 |zero=>intro k h1 h2;omega|succ n ih=>
  intro k h1 h2;rw[qhj,qtm];by_cases c:k<s.length
  ·have hi:ap s (k:Int)=some s[k]:=by unfold ap;rw[qX];simp[c]
   rw[ar (by simp;exact c),hi,qB,z5a,qB,List.drop_eq_getElem_cons c,List.all_cons]
   cases hc:chB s[k]
   ·rfl
   ·rw[ak,bu]
    have:=ih (k+1) oA oA
    rw[Int.natCast_add]at this;exact this
  ·rw[ak oE,List.drop_eq_nil_of_le oA];rfl
def zp2(fu:Nat)(s:List UInt8)(hs:(s.length:Int)<9223372036854775808)(hf:s.length<fu):qmj fu s=some (oc s):=by
 unfold qmj oc
 cases s with
 |nil=>rfl|cons a l=>
  rw[ar]
  by_cases c:((a::l).length:Int)<=60
  ·rw[ar (by simp only[decide_eq_true_iff];exact c)]
   unfold qtl;have:=zj5 fu (a::l) hs fu 0 oA oA
   rw[show((0:Nat):Int)=0 from rfl]at this
   rw[this,qB];have c':(a::l).length<=60:=oA
   simp only[List.drop_zero];rw[show decide (1<=(a::l).length)=true by simp,decide_eq_true c'];rfl
  ·rw[ak (by simp only[decide_eq_false_iff_not];exact c)]
   have c':¬(a::l).length<=60:=oA
   rw[decide_eq_false c'];simp
@[simp] def turn_eq(u:vp):qay u=some (decide (jw u)):=by
 unfold qay;simp only[zones_within_eq,qB,nv];have key:∀b:Bool,decide (jw u)=b->(jw u->b=true)/\(¬jw u->b=false):=fun b h=>⟨fun k=>by rw[← h,decide_eq_true k],fun k=>by rw[← h,decide_eq_false k]⟩
 generalize hb:decide (jw u)=b;obtain⟨k1,k2⟩:=key b hb;clear key hb;unfold jw TOk at k1 k2
 repeat' split
 all_goals first|(rw[k2 oA])|skip
 congr 1;rw[Bool.eq_iff_iff,decide_eq_true_iff];constructor
 ·intro q;exact k1 oA
 ·intro q;by_cases c:0<=u.2.2.2/\u.2.2.2<=1439
  ·exact c
  ·have:=k2 oA;rw[this]at q;cases q
@[simp] def rturn_eq(u:vp):qsp u=some (decide (jw u)):=by
 have e:qsp u=qay u:=by unfold qsp qay;simp only[zr1_in_eq,zones_within_eq]
 rw[e,turn_eq]
def qez(z:dc):Prop:=z.2.2.2.2.1=0/\z.2.2.2.2.2.1=0/\z.2.2.2.2.2.2.1=0/\z.2.2.2.2.2.2.2=0
instance(z:dc):Decidable (qez z):=by unfold qez;infer_instance
def z42(u:vp):((u.1==(0:Int))&&((u.2.1==(0:Int))&&((u.2.2.1==(0:Int))&&((u.2.2.2==(0:Int))&&true))))=decide (u.1=0/\u.2.1=0/\u.2.2.1=0/\u.2.2.2=0):=by
 rw[Bool.eq_iff_iff,decide_eq_true_iff];simp
def mf(z:dc):gm:=
 if oc z.1=false then⟨10,-3⟩ else if ¬(-900<=z.2.1/\z.2.1<=900) then⟨3,-4⟩ else
 if mz z then(if z.2.2.1≠0 then⟨5,-5⟩ else if ¬qez z then⟨5,-5⟩ else⟨0,0⟩) else
 if ¬(-900<=z.2.2.1/\z.2.2.1<=900) then⟨3,-5⟩ else if ¬(z.2.1+1<=z.2.2.1/\z.2.2.1<=z.2.1+180) then⟨3,-5⟩ else
 if ¬jw z.2.2.2.1 then⟨3,-6⟩ else if ¬jw z.2.2.2.2 then⟨3,-7⟩ else if z.2.2.2.1.1=z.2.2.2.2.1 then⟨5,-7⟩ else⟨0,0⟩
def q4p(fu:Nat)(z:dc)(hs:(z.1.length:Int)<9223372036854775808)(hf:z.1.length<fu):qax fu z=some (mf z):=by
 unfold qax mf;rw[zp2 fu _ hs hf];by_cases hn:oc z.1=false
 ·rw[qX hn,qB,ar (by rw[hn];rfl)];rfl
 ·rw[qW hn,qB,ak (by simp at hn;rw[hn];rfl),zones_within_eq,qB]
  by_cases c1 : -900<=z.2.1/\z.2.1<=900
  ·rw[ak oU,qW oU]
   rw[bu (x:=z.2.1+1) oA oA,bu (x:=z.2.1+180) oA oA,z42]
   rw[show decide (z.2.2.2.2.1=0/\z.2.2.2.2.2.1=0/\z.2.2.2.2.2.2.1=0/\z.2.2.2.2.2.2.2=0)=decide (qez z) from rfl]
   simp only[qny,qnz,qwg,qT,fixed_eq,qB,fault_eq,none_eq,zones_within_eq,turn_eq,qa7,nv,ib,qx4]
   repeat' split
   all_goals first|rfl|contradiction|simp_all
  ·rw[ar oE,qX c1];rfl
def zok(z:dc)(h:(mf z).1=0):mf z=⟨0,0⟩ /\ -900<=z.2.1/\z.2.1<=900/\(mz z\/ZT z):=by
 unfold mf at h ⊢;by_cases hn:oc z.1=false
 ·rw[qX hn]at h;simp at h
 rw[qW hn]at h ⊢;by_cases c1:¬(-900<=z.2.1/\z.2.1<=900)
 ·rw[qX c1]at h;simp at h
 rw[qW c1]at h ⊢;have c1' : -900<=z.2.1/\z.2.1<=900:=oA
 by_cases c2:mz z
 ·rw[qX c2]at h ⊢;by_cases c3:z.2.2.1≠0
  ·rw[qX c3]at h;simp at h
  rw[qW c3]at h ⊢;by_cases c4:¬qez z
  ·rw[qX c4]at h;simp at h
  rw[qW c4];exact⟨rfl,c1'.1,c1'.2,.inl c2⟩
 rw[qW c2]at h ⊢;by_cases c3:¬(-900<=z.2.2.1/\z.2.2.1<=900)
 ·rw[qX c3]at h;simp at h
 rw[qW c3]at h ⊢;by_cases c4:¬(z.2.1+1<=z.2.2.1/\z.2.2.1<=z.2.1+180)
 ·rw[qX c4]at h;simp at h
 rw[qW c4]at h ⊢;by_cases c5:¬jw z.2.2.2.1
 ·rw[qX c5]at h;simp at h
 rw[qW c5]at h ⊢;by_cases c6:¬jw z.2.2.2.2
 ·rw[qX c6]at h;simp at h
 rw[qW c6]at h ⊢;by_cases c7:z.2.2.2.1.1=z.2.2.2.2.1
 ·rw[qX c7]at h;simp at h
 rw[qW c7];exact⟨rfl,c1'.1,c1'.2,.inr ⟨c1'.1,c1'.2,oA,oA,oA,oA,Classical.not_not.1 c5,Classical.not_not.1 c6,c7⟩⟩
noncomputable def q0v(z:dc)(Y t:Int):Int:=if mz z then z.2.1 else qk1 z (Y-1) (Y+1) t
noncomputable def qep(z:dc)(t:Int):Int:=(nw ((t+60*z.2.1)/86400)).1
def qe8(z:dc)(t:Int):Prop := -719162<=(t+60*z.2.1)/86400/\(t+60*z.2.1)/86400<=741807
instance(z:dc)(t:Int):Decidable (qe8 z t):=by unfold qe8;infer_instance
noncomputable def q6o(z:dc)(t:Int):Int×gm:=
 if ¬(-68719476736<=t/\t<=68719476736) then(0,⟨3,-2⟩) else
 if ¬qe8 z t then(0,⟨3,-8⟩) else if ¬(2<=qep z t/\qep z t<=3999) then(0,⟨3,-8⟩) else(q0v z (qep z t) t,⟨0,0⟩)
noncomputable def qd5(z:dc)(t:Int):Int×gm:=if(mf z).1≠0 then(0,mf z) else q6o z t
def z5b(fu:Nat)(hf:20<=fu)(z:dc)(h:mz z\/ZT z)(t Y:Int)(h1:2<=Y)(h2:Y<=3999):qd3 fu z t Y=some (q0v z Y t):=by
 unfold q0v;by_cases c:mz z
 ·rw[qX c];unfold qd3;rw[fixed_eq,qB,ar (by simp[c])]
 ·rw[qW c];exact z5c fu hf z (h.resolve_left c) t Y h1 h2
def z41(fu:Nat)(hf:20<=fu)(z:dc)(hs:(z.1.length:Int)<9223372036854775808)(hf2:z.1.length<fu)(t:Int):qnx fu z t=some (qd5 z t):=by
 unfold qnx qd5;rw[q4p fu z hs hf2,qB,zfailed_eq,qB,ib];by_cases c:(mf z).1≠0
 ·rw[qX c,qX c]
 ·rw[qW c,qW c];obtain⟨e,s1,s2,hz⟩:=zok z (Classical.not_not.1 c);unfold q6o;rw[time_eq,qB];by_cases c1 : -68719476736<=t/\t<=68719476736
  ·rw[ak oU,qW (fun q=>q c1),zl3 fu hf,qB]
   unfold qsg;rw[qW (fun q=>q c1),qW (fun q=>q ⟨s1,s2⟩)]
   by_cases c2:qe8 z t
   ·rw[qW (by unfold qe8 at c2;omega),qW (fun q=>q c2),zfailed_eq,qB,ak,zones_within_eq,qB]
    have ey:(qyd ((t+60*z.2.1)/86400) ((t+60*z.2.1)%86400) z.2.1).1=qep z t:=rfl;simp only[ey];by_cases c3:2<=qep z t/\qep z t<=3999
    ·rw[ak (by simp[c3]),qW (fun q=>q c3),z5b fu hf z hz _ _ c3.1 c3.2];rfl
    ·rw[ar oE,qX c3];rfl
   ·rw[qX (by unfold qe8 at c2;omega),qX c2];rfl
  ·rw[ar oE,qX c1];rfl
open Classical in
noncomputable def pick(z:dc)(L o:Int):List Int:=if(qd5 z (L-60*o)).2.1=0/\(qd5 z (L-60*o)).1=o then[L-60*o] else[]
def zcz(z:dc)(L o:Int):(pick z L o).length<=1:=by unfold pick;split<;>simp
def qzo(r1:Int->Int->Int->dc->gm->List Int->List Int->Option (gm×List Int))(fu:Nat)(hf:20<=fu)(z:dc)(hs:(z.1.length:Int)<9223372036854775808)(hf2:z.1.length<fu)
  (L len i o:Int) (f:gm) (acc offs:List Int) (hi:i<len) (hx:ap offs i=some o) (hi0 : -10<=i) (hi1:i<=10) (hL1 : -1000000000000<=L) (hL2:L<=1000000000000) (ho1 : -10000<=o) (ho2:o<=10000) (hl:acc.length<=10) :
  qd1 fu r1 L len i z f offs acc=r1 L len (i+1) z f offs (acc++pick z L o):=by
 rw[qd1,ar (by simp;exact hi),zdw,hx,qB,bu (x:=60*o) oA oA,bu (x:=L-60*o) oA oA,bu (x:=i+1) oA oA,z41 fu hf z hs hf2,qB,zfailed_eq,qB]
 unfold pick;by_cases c1:(qd5 z (L-60*o)).2.1=0
 ·rw[ar oU]
  by_cases c2:(qd5 z (L-60*o)).1=o
  ·rw[ar (by simp[c2]),ar oK,qX ⟨c1,c2⟩]
  ·rw[ak (by simp[c2]),qW (fun q=>c2 q.2),List.append_nil]
 ·rw[ak oU,qW (fun q=>c1 q.1),List.append_nil]
noncomputable def qk2(z:dc)(L:Int):List Int:=pick z L z.2.1++(if mz z then[] else pick z L z.2.2.1)
noncomputable def qd4(z:dc)(d:dj):gm×List Int:=
 if(mf z).1≠0 then(mf z,[]) else if ¬d7 d then((3,-3),[]) else if d.2.2.2.2.2.2≠0 then((5,-9),[]) else if ¬(3<=d.1/\d.1<=3998) then((3,-9),[]) else((0,0),jk (qk2 z (n8 d)))
def zoo{d:dj}(h:d7 d) : -100000000000<=n8 d/\n8 d<=100000000000:=by
 have:=qyp h;obtain⟨_,_,_,_,_,_,_,_,_⟩:=h;unfold n8;omega
def z40(fu:Nat)(hf:20<=fu)(z:dc)(hs:(z.1.length:Int)<9223372036854775808)(hf2:z.1.length<fu)(d:dj):qd0 fu z d=some (qd4 z d):=by
 unfold qd0 qd4;rw[q4p fu z hs hf2,qB,zfailed_eq,qB,ib];by_cases c:(mf z).1≠0
 ·rw[qX c,qX c]
 rw[qW c,qW c,zas fu hf,qB];obtain⟨e,s1,s2,hz⟩:=zok z (Classical.not_not.1 c);by_cases c1:¬d7 d
 ·rw[qW c1,qX c1,zfailed_eq,qB,ar]
 replace c1:=Classical.not_not.1 c1;rw[qX c1,qW (c:=¬d7 d) (fun q=>q c1),zfailed_eq,qB,ak,ib]
 have hb:=zoo c1;by_cases c2:d.2.2.2.2.2.2≠0
 ·rw[qX c2,qX c2];rfl
 rw[qW c2,qW c2,zones_within_eq,qB,qa7];by_cases c3:¬(3<=d.1/\d.1<=3998)
 ·rw[qW c3,qX c3];rfl
 replace c3:=Classical.not_not.1 c3;rw[qX c3,qW (c:=¬(3<=d.1/\d.1<=3998)) (fun q=>q c3),fixed_eq,qB,qa7]
 obtain⟨n,hn⟩:∃n,fu=n+1+1+1:=⟨fu-3,oA⟩
 have l1:=zcz z (n8 d) z.2.1;have l2:=zcz z (n8 d) z.2.2.1;have sortp:∀l:List Int,l.length<=10->vl l=some (jk l):=by
  intro l hl;unfold vl;rw[ar (decide_eq_true (by unfold aw;omega))]
 unfold qnw;by_cases c4:mz z
 ·rw[qX c4];have q:sy fu (n+1+1+1) (n8 d) (List.length ([z.2.1]:List Int):Int) 0 z (0,0) [z.2.1] []=some ((0,0),jk (qk2 z (n8 d))):=by
   rw[sy,qzo _ fu hf z hs hf2 _ _ _ z.2.1 _ _ _ oC rfl oA oA oA oA oA oA oC]
   rw[sy,qd1,ak,sortp _ oE,none_eq]
   simp[qk2,c4]
  rw[← hn]at q;exact q
 ·rw[qW c4];have hz':=hz.resolve_left c4;have m1:=hz'.m1;have m2:=hz'.m2;rw[ar (by simp[aw])]
  have q:sy fu (n+1+1+1) (n8 d) (List.length (([z.2.1]:List Int)++[z.2.2.1]):Int) 0 z (0,0) ([z.2.1]++[z.2.2.1]) []=some ((0,0),jk (qk2 z (n8 d))):=by
   rw[sy,qzo _ fu hf z hs hf2 _ _ _ z.2.1 _ _ _ oC rfl oA oA oA oA oA oA oC]
   rw[sy,qzo _ fu hf z hs hf2 _ _ _ z.2.2.1 _ _ _ oC rfl oA oA oA oA oA oA oE]
   rw[sy,qd1,ak,sortp _ oE,none_eq]
   simp[qk2,c4]
  rw[← hn]at q;exact q
def zos(fu:Nat)(a b:List Int)(hab:a.length=b.length)(hs:(a.length:Int)<9223372036854775808):∀(n k:Nat),k<=a.length->a.length-k<n->qgt fu n a b k=some (decide (a.drop k=b.drop k)):=by
 intro n
 induction n with
 |zero=>intro k h1 h2;omega|succ n ih=>
  intro k h1 h2;rw[qgt,qsk];by_cases c:k<a.length
  ·have hi:ap a (k:Int)=some a[k]:=by unfold ap;rw[qX];simp[c]
   have hi2:ap b (k:Int)=some (b[k]' oA):=by unfold ap;rw[qX];simp[show k<b.length by omega]
   rw[ar (by simp;exact c),hi,qB,hi2,qB,ib,List.drop_eq_getElem_cons c,List.drop_eq_getElem_cons (show k<b.length by omega)]
   have:=ih (k+1) oA oA
   rw[Int.natCast_add]at this;rw[bu]
   by_cases g:a[k]=b[k]' oA
   ·rw[qW (by simp[g])]
    refine Eq.trans this ?_;congr 1;rw[decide_eq_decide];simp only[List.cons.injEq,g,true_and]
   ·rw[qX g];congr 1;exact(decide_eq_false (fun q=>g (List.cons.inj q).1)).symm
  ·rw[ak oE,List.drop_eq_nil_of_le oA,List.drop_eq_nil_of_le oA];rfl
def zor(fu:Nat)(a b:List Int)(hs:(a.length:Int)<9223372036854775808)(hf:a.length<fu):xg fu a b=some (decide (a=b)):=by
 unfold xg;by_cases c:a.length=b.length
 ·rw[ak (by simp[c])]
  have:=zos fu a b c hs fu 0 oA oA
  exact this
 ·rw[ar oE]
  have:a≠b:=fun q=>c (by rw[q])
  rw[decide_eq_false this]
def zbh(d:dj):ql5 d=some (if ¬d7 d then⟨3,-3⟩ else if d.2.2.2.2.2.2≠0 then⟨5,-9⟩ else if ¬(3<=d.1/\d.1<=3998) then⟨3,-9⟩ else⟨0,0⟩):=by
 unfold ql5;rw[zmv,qB];by_cases h:d7 d
 ·rw[qX h,ak,qW (fun q=>q h),ib,zr1_in_eq,qB,qa7]
  simp only[qxt,qB];by_cases c:d.2.2.2.2.2.2≠0
  ·rw[qX c,qX c]
  ·rw[qW c,qW c];by_cases c2:3<=d.1/\d.1<=3998
   ·rw[qX c2,qW (fun q=>q c2)]
   ·rw[qW c2,qX c2]
 ·rw[qW h,ar,qX h]

abbrev qja(l:List Int):Prop:=l.Pairwise (·<·)

def zd(p:Option Int)(x:Int):Bool:=match p with|some y=>decide (x<=y)|none=>false
def w8(f:Int->Bool):Option Int->List Int->Int|_,[]=>0|p,x::l=>if f x=false then 3 else if zd p x=true then 19 else w8 f (some x) l
def qq9(f:Int->Bool):∀(l:List Int)(p:Option Int),w8 f p l=0->qja l/\(∀x∈l,f x=true)/\(∀y,p=some y->∀x∈l,y<x)
 |[],_,_=>⟨List.Pairwise.nil,fun x h=>(by cases h),fun y _ x h=>(by cases h)⟩
 |x::l,p,h=>by
  unfold w8 at h;by_cases c:f x=false
  ·rw[qX c]at h;omega
  rw[qW c]at h;by_cases c2:zd p x=true
  ·rw[qX c2]at h;omega
  rw[qW c2]at h;obtain⟨i1,i2,i3⟩:=qq9 f l _ h;have i3':=i3 x rfl;refine⟨List.pairwise_cons.2 ⟨i3',i1⟩,fun y hy => ?_,fun y hy t ht => ?_⟩
  ·rcases List.mem_cons.1 hy with q|q
   ·rw[q];simpa using c
   ·exact i2 y q
  ·subst hy;have hyx:y<x:=by simp[zd]at c2;exact c2
   rcases List.mem_cons.1 ht with q|q
   ·omega
   ·have:=i3' t q;omega
def lv(l:List Int)(k:Nat):Option Int:=if k=0 then none else l[k-1]?
def ur(t:Int):Bool:=decide (-68719476736<=t/\t<=68719476736)
def xc(t:Int):Bool:=decide (0<=t/\t<=6)
def o6(c a:Int):gm:=if c=0 then(0,0) else(c,a)
def q09(l:List Int)(k:Nat)(h:k<l.length):lv l (k+1)=some l[k]:=by
 unfold lv;rw[qW oA];simp[h]
def zc3(l:List Int)(k:Nat)(h:k<l.length)(h0:0<k)(hs:(l.length:Int)<9223372036854775808):ap l (af ((k:Int)-1))=some (l[k-1]' oA)/\lv l k=some (l[k-1]' oA):=by
 rw[bu,show(k:Int)-1=((k-1:Nat):Int) by omega]
 refine⟨qbf l (k-1),?_⟩
 unfold lv;rw[qW oA];simp[show k-1<l.length by omega]
def zd8(f:Int->Bool)(l:List Int)(k:Nat)(h:k<l.length):w8 f (lv l k) (l.drop k) =
  if f l[k]=false then 3 else if zd (lv l k) l[k]=true then 19 else w8 f (lv l (k+1)) (l.drop (k+1)):=by
 rw[List.drop_eq_getElem_cons h,q09 l k h];rfl
def zpm(fu:Nat)(l:List Int)(a:Int)(m:gm)(hs:(l.length:Int)<9223372036854775808):∀(n k:Nat),k<=l.length->l.length-k<n ->
  qid fu n l a l l.length k m=some (o6 (w8 ur (lv l k) (l.drop k)) a):=by
 intro n
 induction n with
 |zero=>intro k h1 h2;omega|succ n ih=>
  intro k h1 h2;rw[qid,qu7];by_cases c:k<l.length
  ·have nx:=ih (k+1) oA oA
   rw[Int.natCast_add]at nx;rw[ar (by simp;exact c),qbf l k c,qB,time_eq,qB,zd8 ur l k c,bu (x:=(k:Int)+1) oA oA]
   have eT:decide (-68719476736<=l[k]/\l[k]<=68719476736)=ur l[k]:=rfl;rw[eT]
   cases ht:ur l[k] with
   |false=>rfl|true=>
    rw[ak,qW oC]
    by_cases c0:0<k
    ·obtain⟨p1,p2⟩:=zc3 l k c c0 hs;rw[ar oE,p1,qB,p2]
     by_cases g:l[k]<=l[k-1]' oA
     ·rw[ar (by simp;exact g),qX (by simp[zd];exact g)];rfl
     ·rw[ak oE,qW (by simp[zd];omega)];exact nx
    ·rw[ak oE]
     have e0:lv l k=none:=by unfold lv;rw[qX]
     rw[e0];exact nx
  ·rw[ak oE,List.drop_eq_nil_of_le oA];rfl
def lm(l:List Int):Int:=if 300<l.length then 2 else w8 ur none l
def zpl(fu:Nat)(hf:400<=fu)(l:List Int)(a:Int):qic fu l a=some (o6 (lm l) a):=by
 unfold qic lm;by_cases c:300<l.length
 ·rw[ar oE,qX c];rfl
 ·rw[ak oE,qW c]
  have:=zpm fu l a (0,0) oA fu 0 oA oA
  exact this
abbrev ir:Type:=Int×Int×Int×Int×Bool×List Int×List Int×List Int
def zu9(fu:Nat)(r:ir)(m:gm)(hs:(r.2.2.2.2.2.1.length:Int)<9223372036854775808):∀(n k:Nat),k<=r.2.2.2.2.2.1.length->8<=n+k->(∀p,lv r.2.2.2.2.2.1 k=some p->(k:Int)-1<=p/\p<=6)->(k<=7) ->
  qie fu n r.2.2.2.2.2.1 r.2.2.2.2.2.1.length k r m=some (o6 (w8 xc (lv r.2.2.2.2.2.1 k) (r.2.2.2.2.2.1.drop k)) (-7)):=by
 generalize hl:r.2.2.2.2.2.1=l at hs ⊢;intro n
 induction n with
 |zero=>intro k h1 h2;omega|succ n ih=>
  intro k h1 h2 h3 h4;rw[qie,qu8];by_cases c:k<l.length
  ·rw[ar (by simp;exact c),qbf l k c,qB,zd8 xc l k c]
   unfold qnh qva;rw[hl];by_cases g1:l[k]<0
   ·rw[ar (by simp;exact g1),ar rfl,qX (by unfold xc;simp;omega)];rfl
   rw[ak oE]
   by_cases g2:6<l[k]
   ·rw[ar (by simp;exact g2),qX (by unfold xc;simp;omega)];rfl
   rw[ak oE,qW (by unfold xc;simp;omega),bu (x:=(k:Int)+1) oA oA]
   by_cases c0:0<k
   ·obtain⟨p1,p2⟩:=zc3 l k c c0 hs;rw[ar oE,p1,qB,p2]
    by_cases g:l[k]<=l[k-1]' oA
    ·rw[ar (by simp;exact g),qX (by simp[zd];exact g)];rfl
    ·rw[ak oE,qW (by simp[zd];omega)]
     have hp:=h3 _ p2;have nx:=ih (k+1) oA oA (fun p hp'=>by rw[q09 l k c]at hp';cases hp';omega) oA
     rw[Int.natCast_add]at nx;exact nx
   ·rw[ak oE]
    have e0:lv l k=none:=by unfold lv;rw[qX]
    rw[e0];have nx:=ih (k+1) oA oA (fun p hp'=>by rw[q09 l k c]at hp';cases hp';omega) oA
    rw[Int.natCast_add]at nx;exact nx
  ·rw[ak oE,List.drop_eq_nil_of_le oA];rfl
def oo(r:ir):gm:=if 0<r.2.2.2.2.2.1.length/\r.1≠2 then(5,-7) else o6 (w8 xc none r.2.2.2.2.2.1) (-7)
def ma(r:ir):gm:=
 if ¬(0<=r.1/\r.1<=4) then(4,-3) else if ¬(1<=r.2.1/\r.2.1<=100) then(3,-4) else if ¬(0<=r.2.2.1/\r.2.2.1<=1500) then(3,-5) else
 if r.2.2.2.2.1=true/\¬(-68719476736<=r.2.2.2.1/\r.2.2.2.1<=68719476736) then(3,-6) else if r.2.2.2.2.1=false/\r.2.2.2.1≠0 then(5,-6) else
 if(oo r).1≠0 then oo r else if lm r.2.2.2.2.2.2.1≠0 then(lm r.2.2.2.2.2.2.1,-8) else o6 (lm r.2.2.2.2.2.2.2) (-9)
def qo4(c a:Int):(o6 c a).1=c:=by
 unfold o6;split
 ·rename_i h;exact h.symm
 ·rfl
def zri(l:List Int):lv l 0=none:=rfl
def zvc(fu:Nat)(hf:400<=fu)(r:ir)(hs:(r.2.2.2.2.2.1.length:Int)<9223372036854775808):qnf fu r=some (oo r):=by
 unfold qnf qng qu9 oo;have lp:=zu9 fu r (0,0) hs fu 0 oA oA (fun p hp=>by cases hp) oA
 rw[show((0:Nat):Int)=0 from rfl,zri,List.drop_zero]at lp
 rw[lp];by_cases c:0<r.2.2.2.2.2.1.length
 ·rw[ao oA,ib]
  by_cases c2:r.1≠2
  ·rw[qX (c:=¬_) c2,qX (c:=_/\_) ⟨c,c2⟩];rfl
  ·rw[qW (c:=¬_) c2,qW (c:=_/\_) (fun q=>c2 q.2)]
 ·rw[bz,qW (c:=_/\_) (fun q=>c q.1)];rfl
def zu2(fu:Nat)(hf:400<=fu)(r:ir)(hs:(r.2.2.2.2.2.1.length:Int)<9223372036854775808:=by omega):qib fu r=some (ma r):=by
 unfold qib qna qnb qnc qnd qne qu2 ma;simp only[fault_eq,qB,time_eq,zvc fu hf r hs,zfailed_eq,zpl fu hf,ib,qo4,qT,qF];by_cases c1:0<=r.1/\r.1<=4
 ·rw[ak oE,ak oE,qW (c:=¬_) (fun q=>q c1)]
  by_cases c2:1<=r.2.1/\r.2.1<=100
  ·rw[ak oE,ak oE,qW (c:=¬_) (fun q=>q c2)]
   by_cases c3:0<=r.2.2.1/\r.2.2.1<=1500
   ·rw[ak oE,ak oE,qW (c:=¬_) (fun q=>q c3)]
    have tail:(if(oo r).1≠0 then some (oo r) else if lm r.2.2.2.2.2.2.1≠0 then some (o6 (lm r.2.2.2.2.2.2.1) (-8)) else some (o6 (lm r.2.2.2.2.2.2.2) (-9))) =
      some (if(oo r).1≠0 then oo r else if lm r.2.2.2.2.2.2.1≠0 then(lm r.2.2.2.2.2.2.1,-8) else o6 (lm r.2.2.2.2.2.2.2) (-9)):=by
     by_cases k1:(oo r).1≠0
     ·rw[qX k1,qX k1]
     ·rw[qW k1,qW k1];by_cases k2:lm r.2.2.2.2.2.2.1≠0
      ·rw[qX k2,qX k2];unfold o6;rw[qW k2]
      ·rw[qW k2,qW k2]
    rw[tail]
    cases h5:r.2.2.2.2.1 with
    |true=>
     simp only[qT,qF,Bool.not_true,qa7];by_cases c4 : -68719476736<=r.2.2.2.1/\r.2.2.2.1<=68719476736
     ·rw[qX (c:=_/\_) c4,qW (c:=True/\¬_) (fun q=>q.2 c4),qW (c:=true=false/\_) (fun q=>by cases q.1)]
     ·rw[qW (c:=_/\_) c4,qX (c:=True/\¬_) ⟨trivial,c4⟩]
    |false=>
     simp only[qT,qF,Bool.not_false];rw[qW (c:=false=true/\_) (fun q=>by cases q.1)]
     by_cases c4:r.2.2.2.1≠0
     ·rw[qX (c:=¬_) c4,qX (c:=True/\_) ⟨trivial,c4⟩]
     ·rw[qW (c:=¬_) c4,qW (c:=True/\_) (fun q=>c4 q.2)]
   ·rw[qX (c:=¬_) c3];by_cases g:r.2.2.1<0
    ·rw[ar (by simp;exact g)]
    ·rw[ak oE,ar oE]
  ·rw[qX (c:=¬_) c2];by_cases g:r.2.1<1
   ·rw[ar (by simp;exact g)]
   ·rw[ak oE,ar oE]
 ·rw[qX (c:=¬_) c1];by_cases g:r.1<0
  ·rw[ar (by simp;exact g)]
  ·rw[ak oE,ar oE]
structure q60(d:dj):Prop where
 ok:d7 d
 zn:d.2.2.2.2.2.2=0
 y1:3<=d.1
 y2:d.1<=3980
def qo9(d:dj):Int:=ce d.1 d.2.1 d.2.2.1
def ztf(d:dj):Int:=d.2.2.2.1*3600+d.2.2.2.2.1*60+d.2.2.2.2.2.1
def zk2:dh 3=730/\dh 3981=1453665/\dh 3999=1460239:=oD
def q60.day_bd{d:dj}(h:q60 d) : -718432<=qo9 d/\qo9 d<734503:=by
 have a:=qjw _ _ _ h.ok.1;have b1:=yf 3 d.1 h.y1;have b2:=yf (d.1+1) 3981 (by have:=h.y2;omega)
 obtain⟨v1,v2,_⟩:=zk2;unfold qo9;omega
noncomputable def later(d:dj)(a:Int):dj:=qyd (qo9 d+a) (ztf d) 0
structure zja(r:ir):Prop where
 f1:0<=r.1
 f2:r.1<=4
 e1:1<=r.2.1
 e2:r.2.1<=100
 c1:0<=r.2.2.1
 c2:r.2.2.1<=1500
 wl:r.2.2.2.2.2.1.length<=7
 xs:qja r.2.2.2.2.2.2.1
 xl:r.2.2.2.2.2.2.1.length<=300
 adS:qja r.2.2.2.2.2.2.2
 al:r.2.2.2.2.2.2.2.length<=300
def zeu:∀(l:List Int)(lo hi:Int),qja l->(∀x∈l,lo<=x/\x<=hi)->lo<=hi+1->(l.length:Int)<=hi+1-lo
 |[],lo,hi,_,_,h=>by simp;omega|x::l,lo,hi,h1,h2,h=>by
  have h1':=List.pairwise_cons.1 h1;have hx:=h2 x qH;have:=zeu l (x+1) hi h1'.2 (fun y hy=>⟨by have:=h1'.1 y hy;omega,(h2 y (qE _ hy)).2⟩) oA
  simp;omega
def zd1(r:ir)(h:(ma r).1=0):ma r=(0,0)/\zja r/\(∀x∈r.2.2.2.2.2.2.1,ur x=true)/\(∀x∈r.2.2.2.2.2.2.2,ur x=true):=by
 unfold ma at h ⊢;by_cases c1:¬(0<=r.1/\r.1<=4)
 ·rw[qX c1]at h;simp at h
 rw[qW c1]at h ⊢;by_cases c2:¬(1<=r.2.1/\r.2.1<=100)
 ·rw[qX c2]at h;simp at h
 rw[qW c2]at h ⊢;by_cases c3:¬(0<=r.2.2.1/\r.2.2.1<=1500)
 ·rw[qX c3]at h;simp at h
 rw[qW c3]at h ⊢;by_cases c4:r.2.2.2.2.1=true/\¬(-68719476736<=r.2.2.2.1/\r.2.2.2.1<=68719476736)
 ·rw[qX c4]at h;simp at h
 rw[qW c4]at h ⊢;by_cases c5:r.2.2.2.2.1=false/\r.2.2.2.1≠0
 ·rw[qX c5]at h;simp at h
 rw[qW c5]at h ⊢;by_cases c6:(oo r).1≠0
 ·rw[qX c6]at h;exact absurd h c6
 rw[qW c6]at h ⊢;by_cases c7:lm r.2.2.2.2.2.2.1≠0
 ·rw[qX c7]at h;exact absurd h c7
 rw[qW c7]at h ⊢;rw[qo4]at h;have lc:∀l,lm l=0->l.length<=300/\qja l/\∀x∈l,ur x=true:=by
  intro l hl;unfold lm at hl;by_cases q:300<l.length
  ·rw[qX q]at hl;omega
  ·rw[qW q]at hl;obtain⟨i1,i2,_⟩:=qq9 ur l none hl;exact⟨oA,i1,i2⟩
 obtain⟨x1,x2,x3⟩:=lc _ (Classical.not_not.1 c7);obtain⟨y1,y2,y3⟩:=lc _ h;have hw:r.2.2.2.2.2.1.length<=7:=by
  have c6':=Classical.not_not.1 c6;unfold oo at c6';by_cases q:0<r.2.2.2.2.2.1.length/\r.1≠2
  ·rw[qX q]at c6';simp at c6'
  ·rw[qW q,qo4]at c6';obtain⟨i1,i2,_⟩:=qq9 xc _ none c6';have:=zeu r.2.2.2.2.2.1 0 6 i1 (fun x hx=>by have:=i2 x hx;unfold xc at this;simpa using this) oA
   omega
 refine⟨by unfold o6;rw[qX h],⟨oA,oA,oA,oA,oA,oA,hw,x2,x1,y2,y1⟩,x3,y3⟩

def zpr(d:dj)(z:dc)(hz:(mf z).1=0):ql5 d=some (qd4 z d).1:=by
 rw[zbh];unfold qd4;rw[qW (c:=(mf z).1≠0) (by simp[hz])]
 by_cases c1:¬d7 d
 ·rw[qX c1,qX c1]
 rw[qW c1,qW c1];by_cases c2:d.2.2.2.2.2.2≠0
 ·rw[qX c2,qX c2]
 rw[qW c2,qW c2];by_cases c3:¬(3<=d.1/\d.1<=3998)
 ·rw[qX c3,qX c3]
 rw[qW c3,qW c3]
def uZ:dc:=([117],0,0,(0,0,0,0),(0,0,0,0))
def uD:dj:=(1970,1,1,0,0,0,0)
def uR:ir:=(1,1,3,0,false,[],[],[])
section
variable(fu:Nat)(hf:5000<=fu)(z:dc)(hs:(z.1.length:Int)<9223372036854775808)(hf2:z.1.length<fu)(d:dj)(r:ir)(hw:(r.2.2.2.2.2.1.length:Int)<9223372036854775808)
include hf hs hf2 hw
end
section
variable(fu:Nat)(hf:5000<=fu)(z:dc)(hs:(z.1.length:Int)<9223372036854775808)(hf2:z.1.length<fu)(d:dj)(r:ir)(hw:(r.2.2.2.2.2.1.length:Int)<9223372036854775808)
include hf hs hf2
end
end Go.Sym
namespace Go.Sym
abbrev b9:Type:=Bs×Int×Int×Bs×Bs×Bs×(List (Bs×Int))×Bs×dj×Int×ir
def jf(p:UInt8->Bool):Bool->Bs->Bool|e,[] => !e|e,c::s=>bif c==46 then !e&&jf p true s else p c&&jf p false s
def q9g(p:UInt8->Bool):∀(s:Bs)(e:Bool),(∀x∈s,x≠46)->jf p e s=((!e || !s.isEmpty)&&s.all p)
 |[],e,_=>by cases e<;>rfl
 |c::s,e,h=>by
  have hc:(c==46)=false:=by rw[beq_eq_false_iff_ne];exact h c qH
  rw[jf,hc,qF,q9g p s false fun x hx=>h x (qE _ hx)]
  cases e<;>simp
def q9f(p:UInt8->Bool)(r:Bs):∀(s:Bs)(e:Bool),(∀x∈s,x≠46)->jf p e (s++46::r)=(((!e || !s.isEmpty)&&s.all p)&&jf p true r)
 |[],e,_=>by cases e<;>rfl
 |c::s,e,h=>by
  have hc:(c==46)=false:=by rw[beq_eq_false_iff_ne];exact h c qH
  rw[wK,jf,hc,qF,q9f p r s false fun x hx=>h x (qE _ hx)]
  cases e<;>simp[Bool.and_assoc]
def zc4{R:Type}(P1:Nat->Bs->Bs->Int->Bool->Option R)(r0:Bs->Bool->Option (Bool ⊕ Bool))(A B:Bs×Bs×Int×Bool->R)(p:UInt8->Bool)(hr:∀s b,s.length<=100000->r0 s b=some (bif !s.isEmpty&&s.all p then .inr b else .inl false))
  (h0:∀n m1 m2 m3 m5,P1 (n+1) m1 m2 m3 m5=(eu m2 m1).bind fun x1=>bif decide (x1<(0:Int)) then(r0 m2 m5).bind fun x2=>az x2 (fun a3=>some (A (m1,(m2,(m3,a3))))) (fun b4=>some (B (m1,(m2,(m3,b4))))) else bif decide (0<=af (x1+m3)/\af (x1+m3)<=(List.length m2:Int)) then(r0 (List.take (af (x1+m3)).toNat m2) m5).bind fun x5=>az x5 (fun a6=>some (A (m1,(m2,(m3,a6))))) (fun b7=>bif decide (0<=af (x1+(List.length m1:Int))/\af (x1+(List.length m1:Int))<=(List.length m2:Int)) then P1 n m1 (List.drop (af (x1+(List.length m1:Int))).toNat m2) m3 b7 else none) else none) :
  ∀(n:Nat)(s:Bs)(b:Bool),s.length<n->s.length<=100000->∃t,P1 n [46] s 0 b=some (bif jf p true s then B ([46],(t,(0,b))) else A ([46],(t,(0,false)))):=by
 intro n
 induction n with
 |zero=>intro s b h;omega|succ n ih=>
  intro s b h hs;have hi:∀x:Int,Lib.index s [46]=x->eu s [46]=some x:=fun x q=>by
   unfold eu ju;rw[ao oA,qB,q]
  rw[h0];rcases qlc 46 s with⟨w,r,rfl,hw⟩|hw
  ·rw[hi _ (ixc 46 w r hw)];simp only[qM,qL]at h hs;rw[qB,bz,Int.add_zero,bu (x:=(w.length:Int)) oA oA,ao oE,zuf,hr w b oA,qB,q9f p r w true hw,Bool.not_true,Bool.false_or]
   cases hq:(!w.isEmpty&&w.all p)
   ·exact⟨_,rfl⟩
   ·simp only[qT,az];rw[show((List.length ([46]:Bs):Nat):Int)=1 from rfl,cd _,ao oE,q9h]
    exact ih r b oA oA
  ·rw[hi _ (ixn 46 s hw),qB,ao oA,hr s b hs,qB,q9g p s true hw,Bool.not_true,Bool.false_or]
   cases hq:(!s.isEmpty&&s.all p)
   ·exact⟨s,rfl⟩
   ·exact⟨s,rfl⟩
def zm3(fu:Nat)(hfu:90000000<=fu)(s:Bs)(hs:s.length<=100000):xm fu s=some (jf oy true s):=by
 unfold xm qmd nq qdv;simp only[qB];unfold qnn;rw[ak]
 obtain⟨t,ht⟩:=zc4 (qim fu) (xq fu) _ _ oy (fun s b hs=>by
  unfold xq
  cases s with
  |nil=>rfl| cons c s=>rw[ak,zj0 fu _,qB];cases List.all (c::s) oy<;>rfl) (fun _ _ _ _ _=>rfl) fu s false oA hs
 rw[ht];cases jf oy true s<;>rfl
def tv(s:Bs):Bool:=decide (s.length<=60)&&jf tu true s
def q9e(fu:Nat)(hfu:90000000<=fu)(s:Bs):uz fu s=some (tv s):=by
 unfold uz tv;by_cases h:s.length<=60
 ·rw[ao oA,decide_eq_true h,Bool.true_and]
  unfold qme nq qdv;simp only[qB];unfold qno;rw[ak]
  obtain⟨t,ht⟩:=zc4 (qin fu) (xt fu) _ _ tu (fun s b hs=>by
   unfold xt
   cases s with
   |nil=>rfl| cons c s=>rw[ak,zj2 fu _,qB];cases List.all (c::s) tu<;>rfl) (fun _ _ _ _ _=>rfl) fu s false oA oA
  rw[ht];cases jf tu true s<;>rfl
 ·rw[bz,decide_eq_false h];rfl
def qfh(c:UInt8):Bool:=decide (32<=c)&&decide (c<=126)
def zjy(fu:Nat)(s:Bs)(h:s.length<fu:=by omega)(hs:s.length<=10000000:=by omega):qmh fu s=some (s.all qfh):=
 qol s hs (qc2 fu) qfh (fun n e k=>by
  rw[qc2,qti];simp only[show ∀c,xp c=some (qfh c) from fun c=>by unfold xp qfh;cases decide (32<=c)<;>rfl]) fu [] s rfl h
def uc(s:Bs):Bool:=(!s.isEmpty&&decide (s.length<=60))&&s.all qfh
def zbi(fu:Nat)(hfu:90000000<=fu)(s:Bs):va fu s=some (uc s):=by
 unfold va uc
 cases s with
 |nil=>rfl|cons c s=>
  rw[show(!((c::s)==([]:Bs)))=true from rfl,qT]
  by_cases h:(c::s).length<=60
  ·rw[ao oA,decide_eq_true h,zjy fu _];rfl
  ·rw[bz,decide_eq_false h];rfl


def rwl{α:Type}(l:List α)(x:α)(h:l.length<=1000000):(l++[x]).length<=aw:=by simp only[aw,qM,qL,qZ];omega

def mb(l d:Bs):Bs:=bif jf oy true l then(l++[64])++d else((34::(nz l++[34]))++[64])++d
def vo(s:Bs):Prop:=∃l d,uc l=true/\tv d=true/\s=mb l d
def q9m(s:Bs):(nz s).length<=3*s.length:=by
 have h1:=List.count_le_length (a:=(92:UInt8)) (l:=s);have h2:=List.count_le_length (a:=(34:UInt8)) (l:=s);have:(nz s).length=_:=qe2 (a:=92) (b:=34) oD 92 92 92 34 s
 unfold ic at this;omega
def zej(l d:Bs):(mb l d).length<=3*l.length+d.length+3:=by
 have:=q9m l;unfold mb;cases jf oy true l<;>simp only[qT,qF,qM,qL,qZ]<;>omega
def zbg{s:Bs}(h:uc s=true):s.length<=60:=by
 unfold uc at h;simp only[qA,decide_eq_true_iff]at h;exact h.1.2
def q9d{s:Bs}(h:tv s=true):s.length<=60:=by
 unfold tv at h;simp only[qA,decide_eq_true_iff]at h;exact h.1
def ztm{s:Bs}(h:vo s):s.length<=243:=by
 obtain⟨l,d,hl,hd,rfl⟩:=h;have h1:=zbg hl;have h2:=q9d hd;have:=zej l d;omega
def zkr(fu:Nat)(hfu:90000000<=fu)(n l d:Bs)(hl:l.length<=100000:=by omega)(hd:d.length<=100000:=by omega):qhc fu (n,(l,d))=some (mb l d):=by
 have:=q9m l;unfold qhc mb;rw[zm3 fu hfu l hl,qB];cases jf oy true l
 ·rw[qF,qF,(zrq l hl).1,qB,ao oF,ao oF]
 ·rw[qT,qT,ao oJ,ao oF]
def znk(c:UInt8)(w:Bs):nz (c::w)=(bif c==34||c==92 then[92,c] else[c])++nz w:=by
 show ei 92 34 [92,92] [92,34] (c::w)=_;unfold ei;rw[List.flatMap_cons];congr 1;unfold tw;by_cases h1:c=92
 ·subst h1;rfl
 ·by_cases h2:c=34
  ·subst h2;rfl
  ·have e1:(c==92)=false:=by simpa using h1
   have e2:(c==34)=false:=by simpa using h2
   simp only[h1,h2,if_false,e1,e2,Bool.or_self,qF]
def qyw{p:UInt8->Bool}:∀{s:Bs}{e:Bool},jf p e s=true->(e=true->s≠[])/\∀c∈s,p c=true\/c=46
 |[],true,h=>by cases h
 |[],false,h=>⟨(fun q=>by cases q),fun c hc=>by cases hc⟩
 |c::s,e,h=>by
  refine⟨fun _=>List.cons_ne_nil _ _,fun d hd => ?_⟩
  rw[jf]at h;by_cases q:c=46
  ·subst q;rw[show((46:UInt8)==46)=true from rfl,qT,qA]at h
   rcases List.mem_cons.1 hd with rfl|hd
   ·exact .inr rfl
   ·exact(qyw h.2).2 d hd
  ·rw[show(c==46)=false by simpa using q,qF,qA]at h
   rcases List.mem_cons.1 hd with rfl|hd
   ·exact .inl h.1
   ·exact(qyw h.2).2 d hd
abbrev ix(l d:Bs):Bs×Bool×List (Bs×Bs×Bs):=([],(false,[([],(l,d))]))
def hFU:90000000<=FU:=oD
def q88:sj []=some 0:=by
 unfold sj jp;rw[bz,ao oC,qB,show Lib.validD []=true by rfl];rfl
def zu0(l d:Bs)(hl:uc l=true)(hd:tv d=true):xi FU ([],(l,d))=some (0,0):=by
 unfold xi;dsimp only;rw[q88,qB,ak,zbi FU hFU,qB,hl,ak,q9e FU hFU,qB,hd,ak]
 rfl
def zlx(l d:Bs)(hl:uc l=true)(hd:tv d=true):qcn FU [ix l d]=some (0,0):=by
 have hv:=zu0 l d hl hd;have hi:xn FU (ix l d)=some 0:=by
  have h2:sk FU (99999998+1+1) [([],(l,d))] 1 0=some 0:=by
   rw[sk,qcu,ao oD,show ap [(([]:Bs),(l,d))] (0:Int)=some ([],(l,d)) from rfl,qB,hv,qB,n6,qB,ak,show af ((0:Int)+1)=1 from rfl,sk,qcu,bz oD]
  have h0:ot FU false (ix l d)=some 0:=by
   unfold ot qg4;rw[ak rfl];exact h2
  unfold xn;rw[show(ix l d).1=[] from rfl,q88,qB,ak,ak,ar]
  exact h0
 have h3:si FU (99999998+1+1) [ix l d] 1 0 (0,0)=some (0,0):=by
  rw[si,qcp,ao oD,show ap [ix l d] (0:Int)=some (ix l d) from rfl,qB,hi,qB,ak,show af ((0:Int)+1)=1 from rfl,si,qcp,bz oD]
  rfl
 have h1:sh FU [ix l d] false (0,0)=some (0,0):=by
  unfold sh qg1;rw[ak rfl];exact h3
 have h0:sf FU (99999998+1+1) [ix l d] 0 [ix l d] 1 0 (0,0)=some (0,0):=by
  rw[sf,qco,ao oD,show ap [ix l d] (0:Int)=some (ix l d) from rfl,qB,show af ((0:Int)+1)=1 from rfl,sf,qco,bz oD,bz]
  exact h1
 exact h0
def zrj(l d:Bs)(hl:uc l=true)(hd:tv d=true):qcs FU [ix l d]=some (mb l d,(0,0)):=by
 have l1:=zbg hl;have l2:=q9d hd;have sl:=zej l d;have mem:qmc FU ([],(l,d))=some (mb l d):=by
  unfold qmc;rw[ar,zkr FU hFU [] l d];rfl
 have e:fw [mb l d] [44,32]=some (mb l d):=by
  unfold fw;rw[Lib.join_one,ao ⟨oC,oA⟩]
 have fin:xh FU (99999998+1) [ix l d] 1 1 (0,0) [mb l d]=some (mb l d,(0,0)):=by
  rw[xh,ql9,bz,e,qB,bz];rfl
 have p1:qct FU (xh FU (99999998+1)) (99999998+1+1) [ix l d] 1 0 [([],(l,d))] 1 0 (0,0) (ix l d) [] []=some (mb l d,(0,0)):=by
  rw[qct,qma,ao oA,show ap [(([]:Bs),(l,d))] (0:Int)=some ([],(l,d)) from rfl,qB,mem,qB,ao (by simp[aw])]
  rw[show af ((0:Int)+1)=1 from rfl,qct,qma,bz,List.nil_append,e,qB,ak]
  unfold qmb qsv;rw[ao (by simp[aw]),show af ((0:Int)+1)=1 from rfl,List.nil_append]
  exact fin
 have p0:xh FU (99999998+1+1) [ix l d] 1 0 (0,0) []=some (mb l d,(0,0)):=by
  rw[xh,ql9,ao oA,show ap [ix l d] (0:Int)=some (ix l d) from rfl,qB]
  exact p1
 unfold qcs;rw[zlx l d hl hd,qB,n6,qB,ak]
 exact p0
def zay(s:Bs):Ok (fun b=>b=true->vo s) (qat FU s):=by
 have no:Ok (fun b=>b=true->vo s) (some false):=bg fun q=>(by cases q)
 unfold qat;refine ay (zqy FU hFU s) fun x1 h1=>ay (P:=dk) ⟨_,rfl,trivial⟩ fun x2 _ => ?_
 obtain⟨l,f⟩:=x1;obtain⟨_,h1⟩:=h1;have pt:Ok (fun b=>b=true->vo s) (qau FU s l true f):=no
 refine cr (fun _=>pt) fun _ => ?_
 by_cases hl:(l.length:Int)=1
 ·rw[ak (by simp[hl])]
  obtain⟨x,rfl⟩:∃x,l=[x]:=List.length_eq_one_iff.1 oA
  obtain⟨h2,h3,h4⟩:=h1 x qH;obtain⟨g,b,ms⟩:=x;rw[show ap [(g,(b,ms))] (0:Int)=some (g,(b,ms)) from rfl]
  simp only[qB];cases b
  ·rw[ak rfl];have hm:=h4 rfl;obtain⟨a,rfl⟩:∃a,ms=[a]:=List.length_eq_one_iff.1 hm;obtain⟨h5,h6⟩:=h3 a qH;obtain⟨d,lo,dm⟩:=a;rw[show ap [(d,(lo,dm))] (0:Int)=some (d,(lo,dm)) from rfl,qB]
   by_cases hd:d=[]
   ·subst hd;rw[show(!((([]:Bs),(lo,dm)).1==([]:Bs)))=false from rfl]
    unfold qau quy;rw[ak rfl];obtain⟨f2,hf2,_⟩:=q8o FU hFU [(g,(false,[([],(lo,dm))]))] oC (fun x hx=>by rw[List.mem_singleton]at hx;subst hx;simp)
    by_cases c:f2.1=0
    ·obtain⟨_,_,_,hv⟩:=zly _ oC (fun x hx=>by rw[List.mem_singleton]at hx;subst hx;simp) hf2 c
     have hv:=hv _ qH;have hg:g=[]:=Classical.not_not.1 fun q=>by have:=hv.2.1.2 q;cases this
     subst hg;have ha:=hv.2.2.2 ([],(lo,dm)) qH;have ha1:=ha.2.1;have ha2:=ha.2.2;rw[zbi FU hFU]at ha1;rw[q9e FU hFU]at ha2;have ha1:uc lo=true:=qJ ha1;have ha2:tv dm=true:=qJ ha2;rw[show qcs FU [(([]:Bs),(false,[(([]:Bs),(lo,dm))]))]=some (mb lo dm,(0,0)) from zrj lo dm ha1 ha2,qB,n6,qB,ar]
     exact bg fun q=>⟨lo,dm,ha1,ha2,(beq_iff_eq.1 q).symm⟩
    ·unfold qcs;rw[hf2];simp only[qB,n6];rw[show(f2.1 != 0)=true by simpa [bne] using c]
     simp only[qT,qB,n6];rw[show(f2.1 != 0)=true by simpa [bne] using c]
     exact no
   ·rw[show(!((d,(lo,dm)).1==([]:Bs)))=true by simp[hd]];exact pt
  ·rw[ar rfl];exact pt
 ·rw[ar (by simp[hl])];exact pt
noncomputable def oe(s:Bs):Bool:=(qat FU s).getD false
def zeh{s:Bs}(h:oe s=true):vo s:=by
 obtain⟨b,hb,k⟩:=zay s;unfold oe at h;rw[hb]at h;exact k h
def zaz(s:Bs):qat FU s=some (oe s):=by
 obtain⟨b,hb,h⟩:=zay s;unfold oe;rw[hb];rfl
def uch(c:UInt8):Bool:=decide (33<=c)&&decide (c<=126)
def xa(s:Bs):Bool:=(decide (1<=s.length)&&decide (s.length<=60))&&s.all uch
def fm(s:Bs):Int:=if 500<s.length then 1 else if Lib.validD s=false then 5 else if s.contains 13=true then 5 else 0
noncomputable def qw:List (Bs×Int)->List (Bs×Int)->Int×Int|_,[]=>(0,0)|ab,g::r=>if oe g.1=false then(10,(ab.length:Int)) else if ¬(1<=g.2/\g.2<=4) then(4,(ab.length:Int)) else if ab.any (fun x=>x.1==g.1)=true then(7,(ab.length:Int)) else qw (ab++[g]) r
def ze(d:dj):Int×Int:=if ¬d7 d then(3,-3) else if d.2.2.2.2.2.2≠0 then(5,-9) else if ¬(3<=d.1/\d.1<=3998) then(3,-9) else(0,0)
noncomputable def evT(e:b9):Int×Int:=
 if oc e.2.2.2.2.2.2.2.1=false then(10,-10) else if(ze e.2.2.2.2.2.2.2.2.1).1≠0 then((ze e.2.2.2.2.2.2.2.2.1).1,-11) else if ¬(0<=e.2.2.2.2.2.2.2.2.2.1/\e.2.2.2.2.2.2.2.2.2.1<=1000000) then(3,-12) else if(ma e.2.2.2.2.2.2.2.2.2.2).1≠0 then((ma e.2.2.2.2.2.2.2.2.2.2).1,-13) else(0,0)
noncomputable def yp(e:b9):Int×Int:=
 if 30<e.2.2.2.2.2.2.1.length then(2,-9) else if(qw [] e.2.2.2.2.2.2.1).1≠0 then qw [] e.2.2.2.2.2.2.1 else evT e
noncomputable def lg(e:b9):Int×Int:=
 if xa e.1=false then(10,-3) else if ¬(1<=e.2.1/\e.2.1<=5) then(4,-4) else if ¬(0<=e.2.2.1/\e.2.2.1<=1000000) then(3,-5) else
 if fm e.2.2.2.1≠0 then(fm e.2.2.2.1,-6) else if fm e.2.2.2.2.1≠0 then(fm e.2.2.2.2.1,-7) else if e.2.2.2.2.2.1≠[]/\oe e.2.2.2.2.2.1=false then(10,-8) else yp e
def ux(e:b9):Prop:=e.1.length<=2000000/\e.2.2.2.2.2.2.2.1.length<=2000000/\e.2.2.2.2.2.2.2.2.2.2.2.2.2.2.2.1.length<=2000000
def zj4(s:Bs)(hs:s.length<=10000000:=by omega):qtg FU s=some (s.all uch):=
 qol s hs (qhh FU) uch (fun n e k=>by
  rw[qhh,qth];simp only[show ∀c,qmw c=some (uch c) from fun c=>by unfold qmw uch;cases decide (33<=c)<;>rfl]) FU [] s rfl oO
def ze2(s:Bs):qav s=some (fm s):=by
 unfold qav fm;by_cases h:500<s.length
 ·rw[ao oA,qX h]
 ·rw[bz,qW h]
  unfold jp qnj;rw[ao oA,qB]
  cases Lib.validD s
  ·rw[qX rfl];rfl
  ·rw[ak,qW oC]
   have hi:∀x:Int,Lib.index s [13]=x->eu s [13]=some x:=fun x q=>by
    unfold eu ju;rw[ao oA,qB,q]
   rcases qlc 13 s with⟨w,r,rfl,hw⟩|hw
   ·rw[hi _ (ixc 13 w r hw),qX]
    simp only[qB];rw[ao oA]
   ·rw[hi _ (ixn 13 s hw),qW (by simp;exact fun q=>hw 13 q rfl)]
    rfl
def zlq(l:List (Bs×Int))(g:Bs×Int)(hl:l.length<=1000)(n:Nat):∀ab aa:List (Bs×Int),l=ab++aa->aa.length<n->∃x,qif FU n l (l.length:Int) (ab.length:Int) g=some (x,g)/\decide (0<=x)=aa.any (fun y=>y.1==g.1):=by
 induction n with
 |zero=>intro ab aa _ h;omega|succ n ih=>
  intro ab aa e h;have hll:=congrArg List.length e;rw[qM]at hll;rw[qif,qvg]
  cases aa with
  |nil=>rw[bz (by simp at hll;omega)];exact⟨-1,rfl,rfl⟩|cons y aa=>
   simp only[qL]at h hll;rw[ao oA,show ap l (ab.length:Int)=some y by rw[e];exact gz _ _ _,qB]
   unfold quu;rw[qB,List.any_cons];cases hq:(y.1==g.1)
   ·rw[qF,cd _]
    obtain⟨x,h1,h2⟩:=ih (ab++[y]) aa (by rw[e];simp) oA
    rw[qM,wD]at h1;exact⟨x,h1,by rw[h2,Bool.false_or]⟩
   ·exact⟨(ab.length:Int),rfl,by rw[Bool.true_or];exact decide_eq_true oA⟩
def zlp(l:List (Bs×Int))(g:Bs×Int)(hl:l.length<=1000:=by omega):qni FU l g=some (l.any (fun y=>y.1==g.1),g):=by
 obtain⟨x,h1,h2⟩:=zlq l g hl FU [] l rfl oO
 unfold qni qvf;rw[show(0:Int)=((([]:List (Bs×Int)).length:Nat):Int) from rfl,h1,qB]
 simp only[qZ];rw[← h2];rfl
def zn1(l:List (Bs×Int))(hl:l.length<=30)(z:Int×Int)(n:Nat):∀ab aa:List (Bs×Int),l=ab++aa->aa.length<n->qas FU n l l (l.length:Int) (ab.length:Int) z=some (qw ab aa):=by
 induction n with
 |zero=>intro ab aa _ h;omega|succ n ih=>
  intro ab aa e h;have hll:=congrArg List.length e;rw[qM]at hll;rw[qas,quv]
  cases aa with
  |nil=>rw[bz (by simp at hll;omega)];rfl|cons g aa=>
   simp only[qL]at h hll;rw[ao oA,show ap l (ab.length:Int)=some g by rw[e];exact gz _ _ _,qB,zaz,qB,qw]
   cases oe g.1
   ·rw[qX rfl];rfl
   ·rw[qW oC,ak]
    have p1:∀b,(b=true↔¬(1<=g.2/\g.2<=4))->qh5 FU (qas FU n) l (ab.length:Int) l (l.length:Int) (ab.length:Int) b z g=some (if ¬(1<=g.2/\g.2<=4) then(4,(ab.length:Int)) else if ab.any (fun x=>x.1==g.1)=true then(7,(ab.length:Int)) else qw (ab++[g]) aa):=fun b hb=>by
     unfold qh5;cases b
     ·rw[ak rfl,qW (fun q=>by have:=hb.2 q;cases this),ao ⟨oA,oA⟩]
      rw[show List.take (ab.length:Int).toNat l=ab by rw[e,show(ab.length:Int).toNat=ab.length by omega];simp,zlp ab g,qB]
      cases ab.any (fun x=>x.1==g.1)
      ·rw[qW oC,ak rfl,cd _]
       have:=ih (ab++[g]) aa (by rw[e];simp) oA
       rw[qM,wD]at this;exact this
      ·rw[qX rfl];rfl
     ·rw[ar rfl,qX (hb.1 rfl)];rfl
    by_cases h1:g.2<1
    ·rw[ao h1];exact p1 true ⟨fun _ q=>oA,fun _=>rfl⟩
    ·rw[bz h1];exact p1 _ ⟨fun q=>by have:=of_decide_eq_true q;omega,fun q=>decide_eq_true oA⟩
def zpq(d:dj):ql5 d=some (ze d):=by rw[zbh];rfl
abbrev zZ:dc:=([122],(0,(0,((0,(0,(0,0))),(0,(0,(0,0)))))))
def zfz(nm:Bs):mf (nm,(0,(0,((0,(0,(0,0))),(0,(0,(0,0)))))))=if oc nm=false then(10,-3) else(0,0):=by
 unfold mf;by_cases h:oc nm=false
 ·rw[qX h,qX h]
 ·rw[qW h,qW h,qW oC]
  rw[qX (by simp[mz]),qW oC,qW (by simp[qez])]
def zoq(d:dj):(qd4 zZ d).1=ze d:=by
 have:=zpr d zZ (by rw[zfz];decide)
 rw[zpq]at this;exact(qJ this).symm
def q9s(e:b9)(he:ux e):vi FU e=some (lg e):=by
 obtain⟨h1,h2,h3⟩:=he;have t5:∀b z,(b=true↔¬(0<=e.2.2.2.2.2.2.2.2.2.1/\e.2.2.2.2.2.2.2.2.2.1<=1000000))->qh0 FU b e z=some (if ¬(0<=e.2.2.2.2.2.2.2.2.2.1/\e.2.2.2.2.2.2.2.2.2.1<=1000000) then(3,-12) else if(ma e.2.2.2.2.2.2.2.2.2.2).1≠0 then((ma e.2.2.2.2.2.2.2.2.2.2).1,-13) else(0,0)):=fun b z hb=>by
  unfold qh0;cases b
  ·rw[ak rfl,qW (fun q=>by have:=hb.2 q;cases this),zu2 FU oD _,qB,n6,qB,ib]
   by_cases c:(ma e.2.2.2.2.2.2.2.2.2.2).1≠0
   ·rw[qX c,qX c];rfl
   ·rw[qW c,qW c];rfl
  ·rw[ar rfl,qX (hb.1 rfl)];rfl
 have t4:∀z,qmx FU e z=some (yp e):=fun z=>by
  unfold qmx qut yp;by_cases c:30<e.2.2.2.2.2.2.1.length
  ·rw[ao oA,qX c];rfl
  ·rw[bz,qW c]
   have g:=zn1 e.2.2.2.2.2.2.1 oA (0,0) FU [] _ rfl (Nat.lt_of_le_of_lt (show e.2.2.2.2.2.2.1.length<=30 by omega) oD)
   have g:qas FU FU e.2.2.2.2.2.2.1 e.2.2.2.2.2.2.1 (e.2.2.2.2.2.2.1.length:Int) 0 (0,0)=some (qw [] e.2.2.2.2.2.2.1):=g;rw[g,qB,n6,qB,ib];by_cases c:(qw [] e.2.2.2.2.2.2.1).1≠0
   ·rw[qX c,qX c]
   ·rw[qW c,qW c,q4p FU _ oN oO,qB,n6,qB,zfz]
    unfold evT;cases hn:oc e.2.2.2.2.2.2.2.1
    ·rw[qX rfl,qX rfl];rfl
    ·rw[qW oC,qW oC,ak,z40 FU oD _ oC (by simp[FU]),qB,n6,qB]
     rw[show(qd4 ([122],(0,(0,((0,(0,(0,0))),(0,(0,(0,0))))))) e.2.2.2.2.2.2.2.2.1).1=ze e.2.2.2.2.2.2.2.2.1 from zoq _,ib]
     by_cases c:(ze e.2.2.2.2.2.2.2.2.1).1≠0
     ·rw[qX c,qX c];rfl
     ·rw[qW c,qW c];by_cases c:e.2.2.2.2.2.2.2.2.2.1<0
      ·rw[ao c];exact t5 _ _ ⟨fun _ q=>oA,fun _=>rfl⟩
      ·rw[bz c];exact t5 _ _ ⟨fun q=>by have:=of_decide_eq_true q;omega,fun q=>decide_eq_true oA⟩
 have t3:∀b z,qhz FU b e z=some (if b=true then(10,-8) else yp e):=fun b z=>by
  unfold qhz;cases b
  ·rw[ak rfl,t4,qW oC]
  ·rw[ar rfl,qX rfl];rfl
 have t2:∀b z,(b=true↔¬(0<=e.2.2.1/\e.2.2.1<=1000000))->qhy FU b e z=some (if ¬(0<=e.2.2.1/\e.2.2.1<=1000000) then(3,-5) else
   if fm e.2.2.2.1≠0 then(fm e.2.2.2.1,-6) else if fm e.2.2.2.2.1≠0 then(fm e.2.2.2.2.1,-7) else if e.2.2.2.2.2.1≠[]/\oe e.2.2.2.2.2.1=false then(10,-8) else yp e):=fun b z hb=>by
  unfold qhy;cases b
  ·rw[ak rfl,qW (fun q=>by have:=hb.2 q;cases this),ze2,ze2]
   simp only[qB,ib];by_cases c:fm e.2.2.2.1≠0
   ·rw[qX c,qX c];rfl
   ·rw[qW c,qW c];by_cases c:fm e.2.2.2.2.1≠0
    ·rw[qX c,qX c];rfl
    ·rw[qW c,qW c];by_cases c:e.2.2.2.2.2.1=[]
     ·rw[ak (by simp[c]),t3,qW oC,qW (fun q=>q.1 c)]
     ·rw[ar (by simp[c]),zaz,qB,t3]
      cases oe e.2.2.2.2.2.1
      ·rw[qX (c:=(!false)=true) rfl,qX ⟨c,rfl⟩]
      ·rw[qW (c:=(!true)=true) oC,qW oC]
  ·rw[ar rfl,qX (hb.1 rfl)];rfl
 have t1:∀b z,(b=true↔¬(1<=e.2.1/\e.2.1<=5))->qhx FU b e z=some (if ¬(1<=e.2.1/\e.2.1<=5) then(4,-4) else if ¬(0<=e.2.2.1/\e.2.2.1<=1000000) then(3,-5) else
   if fm e.2.2.2.1≠0 then(fm e.2.2.2.1,-6) else if fm e.2.2.2.2.1≠0 then(fm e.2.2.2.2.1,-7) else if e.2.2.2.2.2.1≠[]/\oe e.2.2.2.2.2.1=false then(10,-8) else yp e):=fun b z hb=>by
  unfold qhx;cases b
  ·rw[ak rfl,qW (c:=¬(1<=e.2.1/\_)) (fun q=>by have:=hb.2 q;cases this)]
   by_cases c:e.2.2.1<0
   ·rw[ao c];exact t2 _ _ ⟨fun _ q=>oA,fun _=>rfl⟩
   ·rw[bz c];exact t2 _ _ ⟨fun q=>by have:=of_decide_eq_true q;omega,fun q=>decide_eq_true oA⟩
  ·rw[ar rfl,qX (hb.1 rfl)];rfl
 have t0:∀b z,(b=true↔xa e.1=false)->qdd FU b e z=some (lg e):=fun b z hb=>by
  unfold qdd lg;cases b
  ·rw[ak rfl,qW (c:=xa e.1=false) (fun q=>by have:=hb.2 q;cases this)]
   by_cases c:e.2.1<1
   ·rw[ao c];exact t1 _ _ ⟨fun _ q=>oA,fun _=>rfl⟩
   ·rw[bz c];exact t1 _ _ ⟨fun q=>by have:=of_decide_eq_true q;omega,fun q=>decide_eq_true oA⟩
  ·rw[ar rfl,qX (hb.1 rfl)];rfl
 unfold vi;by_cases c:e.1=[]
 ·rw[ar (by simp[c])];exact t0 _ _ ⟨fun _=>by rw[c];rfl,fun _=>rfl⟩
 ·rw[ak (by simp[c])]
  have:1<=e.1.length:=by cases he:e.1 with|nil=>exact absurd he c|cons a b=>simp
  by_cases c:60<e.1.length
  ·rw[ao oA];exact t0 _ _ ⟨fun _=>by unfold xa;rw[decide_eq_false (p:=e.1.length<=60) oA,Bool.and_false];rfl,fun _=>rfl⟩
  ·rw[bz,zj4 _,qB]
   refine t0 _ _ ?_;unfold xa;rw[decide_eq_true (p:=1<=e.1.length) this,decide_eq_true (p:=e.1.length<=60) oA]
   cases e.1.all uch<;>simp
def zsv:∀n:_root_.Fin 256,((UInt8.ofNat n.val&&&192) != 128)=(decide (n.val<128)||decide (192<=n.val)):=by decide +kernel
def q1t(c:UInt8):((c&&&192) != 128)=(decide (c.toNat<128)||decide (192<=c.toNat)):=by
 have:=zsv ⟨c.toNat,c.toNat_lt⟩;simpa using this
def RC(c:Bs):Prop:=∃b t,c=b::t/\t.length<=3/\((b&&&192) != 128)=true/\∀x∈t,((x&&&192) != 128)=false
def qk0{n:Nat}(h:n<256:=by omega):(UInt8.ofNat n).toNat=n:=by simp[Nat.mod_eq_of_lt h]
def q1b{c:Nat}(h:uh c):RC (gg c):=by
 have co:∀k:Nat,((UInt8.ofNat (128+k%64)&&&192) != 128)=false:=fun k=>by
  have:k%64<64:=Nat.mod_lt _ oD
  rw[q1t,qk0,Bool.or_eq_false_iff,decide_eq_false_iff_not,decide_eq_false_iff_not];omega
 have st:∀k:Nat,192<=k->k<256->((UInt8.ofNat k&&&192) != 128)=true:=fun k h1 h2=>by
  rw[q1t,qk0 h2,decide_eq_true h1,Bool.or_true]
 have hc:c<=1114111:=by rcases h with h|h<;>omega
 unfold gg;split
 ·refine⟨_,[],rfl,oC,?_,oC⟩
  rw[q1t,qk0,decide_eq_true oA];rfl
 ·split
  ·refine⟨_,_,rfl,oC,st _ oA oA,fun x hx => ?_⟩
   simp only[wE,List.not_mem_nil,or_false]at hx;subst hx;exact co _
  ·split
   ·refine⟨_,_,rfl,oC,st _ oA oA,fun x hx => ?_⟩
    simp only[wE,List.not_mem_nil,or_false]at hx;rcases hx with rfl|rfl<;>exact co _
   ·refine⟨_,_,rfl,oC,st _ oA oA,fun x hx => ?_⟩
    simp only[wE,List.not_mem_nil,or_false]at hx;rcases hx with rfl|rfl|rfl<;>exact co _
def ie:Nat->List Bs->Bs|_,[]=>[13,10]|col,c::cs=>if 75<col+c.length then[13,10,32]++(c++ie (1+c.length) cs) else c++ie (col+c.length) cs
def q93:∀(cs:List Bs)(col:Nat),col+cs.flatten.length<=75->ie col cs=cs.flatten++[13,10]
 |[],_,_=>rfl|c::cs,col,h=>by
  rw[List.flatten_cons,qM]at h;rw[ie,qW oA,q93 cs _ oA];simp
def q94:∀(cs:List Bs)(col:Nat)(c:Bs)(r:List Bs),col+cs.flatten.length<=75->75<col+cs.flatten.length+c.length->c.length<=4->ie col (cs++c::r)=cs.flatten++([13,10,32]++ie 1 (c::r))
 |[],col,c,r,h,h2,h4=>by
  rw[List.nil_append,ie,qX (by simpa using h2),ie,qW oA];simp
 |d::cs,col,c,r,h,h2,h4=>by
  rw[List.flatten_cons,qM]at h h2;rw[wK,ie,qW oA,q94 cs _ c r oA oA h4];simp
def q81:∀(cs:List Bs)(m:Nat),m<cs.flatten.length->∃a c r,cs=a++c::r/\a.flatten.length<=m/\m<a.flatten.length+c.length
 |[],m,h=>by simp at h|d::cs,m,h=>by
  rw[List.flatten_cons,qM]at h;by_cases q:m<d.length
  ·exact⟨[],d,cs,rfl,oC,by simpa using q⟩
  ·obtain⟨a,c,r,e,h1,h2⟩:=q81 cs (m-d.length) oA
   exact⟨d::a,c,r,by rw[e];rfl,by rw[List.flatten_cons,qM];omega,by rw[List.flatten_cons,qM];omega⟩
def q1c{c:Bs}(h:RC c):1<=c.length/\c.length<=4:=by
 obtain⟨b,t,rfl,h,_⟩:=h;rw[qL];omega
def zmx(r0:Bs->Bs->Int->Option Bs)(ab t R out:Bs)(b:UInt8)(hb:((b&&&192) != 128)=true)(ht:∀x∈t,((x&&&192) != 128)=false)(hl:ab.length+t.length+R.length<=100000)(ho:out.length<=1000000):∀(j m:Nat),j<=t.length->j<m ->
  qdh FU r0 m (ab++(b::(t++R))) out ((ab.length+j:Nat):Int)=r0 (b::(t++R)) (out++(ab++[13,10,32])) 74:=by
 intro j
 induction j with
 |zero=>
  intro m _ hm;obtain⟨m,rfl⟩:∃k,m=k+1:=⟨m-1,oA⟩
  rw[qdh,qmy,Nat.add_zero,gz,qB];unfold qnr;rw[qB,hb,ak,ao ⟨oA,oM⟩]
  rw[show(ab.length:Int).toNat=ab.length by omega,List.take_left,List.drop_left,ao oJ,ao oF,ao ⟨oA,oM⟩]
 |succ j ih=>
  intro m hj hm;obtain⟨m,rfl⟩:∃k,m=k+1:=⟨m-1,oA⟩
  rw[qdh,qmy];have hjt:j<t.length:=oA
  rw[qbf _ (ab.length+(j+1)) oL,qB]
  have e:(ab++(b::(t++R)))[ab.length+(j+1)]' oL=t[j]:=by
   rw[List.getElem_append_right oA]
   simp only[Nat.add_sub_cancel_left,List.getElem_cons_succ];rw[List.getElem_append_left hjt]
  rw[e];unfold qnr;rw[qB,ht _ (List.getElem_mem hjt),ar,show af (((ab.length+(j+1):Nat):Int)-1)=((ab.length+j:Nat):Int) by rw[bu];omega]
  exact ih m oA oA
def zmy(n:Nat):∀(cs:List Bs)(out:Bs)(col:Nat),cs.flatten.length<n->(∀c∈cs,RC c)->cs.flatten.length<=50000->out.length+4*cs.flatten.length<=1000000->(col=0\/col=1) ->
  qdg FU n cs.flatten out ((75-col:Nat):Int)=some (out++ie col cs):=by
 induction n with
 |zero=>intro cs out col h;omega|succ n ih=>
  intro cs out col h hc hl ho hcol;rw[qdg,quq];by_cases q:75-col<cs.flatten.length
  ·rw[ao oA]
   obtain⟨a,c,r,rfl,h1,h2⟩:=q81 cs (75-col) q;have hr:=hc c oC
   have l4:=q1c hr;have hr':=hr;obtain⟨b,t,rfl,t3,hb,ht⟩:=hr;simp only[List.flatten_append,List.flatten_cons,qM,qL]at h hl ho h1 h2 l4;have e:(a++(b::t)::r).flatten=a.flatten++(b::(t++r.flatten)):=oC
   have:=zmx (qdg FU n) a.flatten t r.flatten out b hb ht oA oA (75-col-a.flatten.length) FU oA (Nat.lt_of_le_of_lt (show 75-col-a.flatten.length<=75 by omega) oD)
   rw[show a.flatten.length+(75-col-a.flatten.length)=75-col by omega]at this
   rw[e,this];have fl:((b::t)::r).flatten.length=1+t.length+r.flatten.length:=by rw[List.flatten_cons,qM,qL];omega
   have:=ih ((b::t)::r) (out++(a.flatten++[13,10,32])) 1 (by rw[fl];omega) (fun x hx=>hc x (by simp at hx ⊢;exact .inr hx)) (by rw[fl];omega) (by rw[fl];simp only[qM,qL,qZ];omega) (.inr rfl)
   rw[show((b::t)::r).flatten=b::(t++r.flatten) by simp]at this
   refine Eq.trans this ?_;rw[q94 a col (b::t) r oA (by rw[qL];omega) (by rw[qL];omega)]
   simp
  ·rw[bz,ao (by simp only[ax];omega),ao oF,q93 cs col oA]
   simp
def qb8(R:List Nat):(R.map gg).flatten=tx R:=by
 induction R with|nil=>rfl|cons c R ih=>rw[List.map_cons,List.flatten_cons,ih];rfl
def qyu(R:List Nat)(h:okT R)(hl:(tx R).length<=50000:=by omega):qan FU (tx R)=some (ie 0 (R.map gg)):=by
 have:=zmy FU (R.map gg) [] 0 (by rw[qb8];exact Nat.lt_of_le_of_lt hl oD) (fun c hc=>by obtain⟨k,hk,rfl⟩:=List.mem_map.1 hc;exact q1b (h k hk)) (by rw[qb8];exact hl) (by rw[qb8];simp;omega) (.inl rfl)
 rw[qb8,List.nil_append]at this;exact this

def pos(s r:Bs):Int:=((s.length-r.length:Nat):Int)
open Go.Lib (decDigits nDigits itoa atoiAll parseUint10 parseMag NumEnd)
def qyt(d:Nat)(h:d<10:=by omega):(UInt8.ofNat (48+d)).toNat=48+d:=by
 rw[UInt8.toNat_ofNat'];omega
def qpe(u:Nat)(h:u<10):decDigits u=[UInt8.ofNat (48+u)]:=by rw[decDigits,dif_pos h]
def qpc(u:Nat)(h:¬u<10):decDigits u=decDigits (u/10)++[UInt8.ofNat (48+u%10)]:=by rw[decDigits,dif_neg h]
def qpd(u:Nat):decDigits u≠[]:=by
 by_cases h:u<10
 ·rw[qpe u h];simp
 ·rw[qpc u h];simp
def qet(u:Nat):∀c∈decDigits u,48<=c.toNat/\c.toNat<=57:=by
 induction u using Nat.strongRecOn with
 |ind u ih=>
  intro c hc;by_cases h:u<10
  ·rw[qpe u h]at hc;rw[List.mem_singleton.1 hc,qyt u h];omega
  ·rw[qpc u h]at hc;rcases List.mem_append.1 hc with hc|hc
   ·exact ih (u/10) oA c hc
   ·rw[List.mem_singleton.1 hc,qyt _];omega
def tn(k:Nat):∀u,u<10 ^ k->1<=k->(decDigits u).length<=k:=by
 induction k with
 |zero=>intro u _ h;omega|succ k ih=>
  intro u hu _;by_cases h:u<10
  ·rw[qpe u h];simp
  ·rw[qpc u h,qM,wD];have hk:1<=k:=by
    rcases Nat.eq_zero_or_pos k with h0|h0
    ·subst h0;simp at hu;omega
    ·exact h0
   have:=ih (u/10) (by rw[Nat.pow_succ]at hu;omega) hk
   omega
def zqt:∀(l:Bs)(a:Nat)(c:UInt8),parseUint10 a (l++[c])=match parseUint10 a l with | .ok b=>parseUint10 b [c]|e=>e:=by
 intro l
 induction l with
 |nil=>intro a c;rfl|cons d l ih=>
  intro a c;rw[wK,parseUint10,parseUint10];by_cases h1:48<=d.toNat/\d.toNat<=57
  ·rw[qX h1,qX h1];by_cases h2:1844674407370955162<=a
   ·rw[qX h2,qX h2]
   ·rw[qW h2,qW h2];by_cases h3:18446744073709551616<=a*10+(d.toNat-48)
    ·rw[qX h3,qX h3]
    ·rw[qW h3,qW h3,ih]
  ·rw[qW h1,qW h1]
def zcs(u:Nat):u<9223372036854775808->parseUint10 0 (decDigits u) = .ok u:=by
 induction u using Nat.strongRecOn with
 |ind u ih=>
  intro hu;have step:∀a d,a*10+d=u->d<10->parseUint10 a [UInt8.ofNat (48+d)] = .ok u:=by
   intro a d h1 h2;rw[parseUint10,qyt d h2,qX,qW oA,qW oA,parseUint10]
   congr 1;omega
  by_cases h:u<10
  ·rw[qpe u h];exact step 0 u oA h
  ·rw[qpc u h,zqt,ih (u/10) oA oA]
   exact step (u/10) (u%10) oA oA
def zks(u:Nat)(hu:u<9223372036854775808:=by omega):atoiAll (decDigits u) = .ok (u:Int):=by
 have hd:=qet u;have hp:=zcs u hu;have hne:=qpd u
 cases hl:decDigits u with
 |nil=>exact absurd hl hne|cons c r=>
  rw[hl]at hd hp;have hc:=hd c qH;unfold atoiAll;simp only[];rw[qW (c:=c.toNat=43\/c.toNat=45) oA,parseMag,qW oC,hp]
  simp only[];rw[qW oA,qW oA,qW oA]
def n9(u:Nat):itoa (u:Int)=decDigits u:=by unfold itoa;rw[qW oA];simp
end Go.Sym
namespace Go.Sym
open Go.Lib (decDigits itoa)
structure rz(e:b9):Prop where
 z:lg e=(0,0)
 uid:xa e.1=true
 me:1<=e.2.1/\e.2.1<=5
 sq:0<=e.2.2.1/\e.2.2.1<=1000000
 su:fm e.2.2.2.1=0
 pl:fm e.2.2.2.2.1=0
 og:e.2.2.2.2.2.1=[]\/vo e.2.2.2.2.2.1
 gl:e.2.2.2.2.2.2.1.length<=30
 g:∀x∈e.2.2.2.2.2.2.1,vo x.1/\1<=x.2/\x.2<=4
 zn:oc e.2.2.2.2.2.2.2.1=true
 d:d7 e.2.2.2.2.2.2.2.2.1
 d0:e.2.2.2.2.2.2.2.2.1.2.2.2.2.2.2=0
 dy:3<=e.2.2.2.2.2.2.2.2.1.1/\e.2.2.2.2.2.2.2.2.1.1<=3998
 le:0<=e.2.2.2.2.2.2.2.2.2.1/\e.2.2.2.2.2.2.2.2.2.1<=1000000
 r:(ma e.2.2.2.2.2.2.2.2.2.2).1=0
def zab:∀(ab aa:List (Bs×Int)),(qw ab aa).1=0->∀x∈aa,vo x.1/\1<=x.2/\x.2<=4
 |_,[],_,x,hx=>by cases hx
 |ab,g::aa,h,x,hx=>by
  rw[qw]at h;by_cases c1:oe g.1=false
  ·rw[qX c1]at h;simp at h
  rw[qW c1]at h;by_cases c2:¬(1<=g.2/\g.2<=4)
  ·rw[qX c2]at h;simp at h
  rw[qW c2]at h;by_cases c3:ab.any (fun x=>x.1==g.1)=true
  ·rw[qX c3]at h;simp at h
  rw[qW c3]at h;rcases List.mem_cons.1 hx with rfl|hx
  ·exact⟨zeh (by simpa using c1),Classical.not_not.1 c2⟩
  ·exact zab _ aa h x hx
def q9t{e:b9}(h:(lg e).1=0):rz e:=by
 have h0:=h;unfold lg at h;by_cases c1:xa e.1=false
 ·rw[qX c1]at h;simp at h
 rw[qW c1]at h;by_cases c2:¬(1<=e.2.1/\e.2.1<=5)
 ·rw[qX c2]at h;simp at h
 rw[qW c2]at h;by_cases c3:¬(0<=e.2.2.1/\e.2.2.1<=1000000)
 ·rw[qX c3]at h;simp at h
 rw[qW c3]at h;by_cases c4:fm e.2.2.2.1≠0
 ·rw[qX c4]at h;exact absurd h c4
 rw[qW c4]at h;by_cases c5:fm e.2.2.2.2.1≠0
 ·rw[qX c5]at h;exact absurd h c5
 rw[qW c5]at h;by_cases c6:e.2.2.2.2.2.1≠[]/\oe e.2.2.2.2.2.1=false
 ·rw[qX c6]at h;simp at h
 rw[qW c6]at h;unfold yp at h;by_cases c7:30<e.2.2.2.2.2.2.1.length
 ·rw[qX c7]at h;simp at h
 rw[qW c7]at h;by_cases c8:(qw [] e.2.2.2.2.2.2.1).1≠0
 ·rw[qX c8]at h;exact absurd h c8
 rw[qW c8]at h;unfold evT at h;by_cases c9:oc e.2.2.2.2.2.2.2.1=false
 ·rw[qX c9]at h;simp at h
 rw[qW c9]at h;by_cases ca:(ze e.2.2.2.2.2.2.2.2.1).1≠0
 ·rw[qX ca]at h;exact absurd h ca
 rw[qW ca]at h;by_cases cb:¬(0<=e.2.2.2.2.2.2.2.2.2.1/\e.2.2.2.2.2.2.2.2.2.1<=1000000)
 ·rw[qX cb]at h;simp at h
 rw[qW cb]at h;by_cases cc:(ma e.2.2.2.2.2.2.2.2.2.2).1≠0
 ·rw[qX cc]at h;exact absurd h cc
 have hd:d7 e.2.2.2.2.2.2.2.2.1/\e.2.2.2.2.2.2.2.2.1.2.2.2.2.2.2=0/\3<=e.2.2.2.2.2.2.2.2.1.1/\e.2.2.2.2.2.2.2.2.1.1<=3998:=by
  have ca:=Classical.not_not.1 ca;unfold ze at ca;by_cases d1:¬d7 e.2.2.2.2.2.2.2.2.1
  ·rw[qX d1]at ca;simp at ca
  rw[qW d1]at ca;by_cases d2:e.2.2.2.2.2.2.2.2.1.2.2.2.2.2.2≠0
  ·rw[qX d2]at ca;simp at ca
  rw[qW d2]at ca;by_cases d3:¬(3<=e.2.2.2.2.2.2.2.2.1.1/\e.2.2.2.2.2.2.2.2.1.1<=3998)
  ·rw[qX d3]at ca;simp at ca
  exact⟨Classical.not_not.1 d1,Classical.not_not.1 d2,Classical.not_not.1 d3⟩
 refine⟨?_,by simpa using c1,Classical.not_not.1 c2,Classical.not_not.1 c3,Classical.not_not.1 c4,Classical.not_not.1 c5,?_,oA,zab _ _ (Classical.not_not.1 c8),by simpa using c9,hd.1,hd.2.1,hd.2.2,Classical.not_not.1 cb,Classical.not_not.1 cc⟩
 ·unfold lg yp evT;rw[qW c1,qW c2,qW c3,qW c4,qW c5,qW c6,qW c7,qW c8,qW c9,qW ca,qW cb,qW cc]
 ·by_cases q:e.2.2.2.2.2.1=[]
  ·exact .inl q
  ·refine .inr (zeh ?_);cases hs:oe e.2.2.2.2.2.1
   ·exact absurd ⟨q,hs⟩ c6
   ·rfl
def y8(n:Int)(h1 : -1000000000000<=n:=by omega)(h2:n<=1000000000000:=by omega):jc n=some (itoa n):=by
 unfold jc;rw[ao ⟨oA,oA⟩]
def qzx(u:Nat)(h:0<u:=by omega):itoa (-(u:Int))=45::decDigits u:=by
 unfold itoa;rw[qX];simp
def nf(n:Int)(h1 : -1000000000000<=n)(h2:n<=1000000000000):1<=(itoa n).length/\(itoa n).length<=14:=by
 have p:∀u:Nat,1<=(decDigits u).length:=fun u=>by
  have:=qpd u
  cases hd:decDigits u with|nil=>exact absurd hd this|cons a b=>simp
 rcases Int.lt_or_le n 0 with h|h
 ·obtain⟨u,rfl⟩:∃u:Nat,n = -(u:Int):=⟨n.natAbs,oA⟩
  rw[qzx u,qL]
  have:=tn 13 u oA oA
  have:=p u;omega
 ·obtain⟨u,rfl⟩:∃u:Nat,n=(u:Int):=⟨n.natAbs,oA⟩
  rw[n9];have:=tn 13 u oA oA
  have:=p u;omega
def qbq(c:UInt8):Bool:=decide (48<=c.toNat/\c.toNat<=57)||c==45
def za1(n:Int):∀c∈itoa n,qbq c=true:=by
 rcases Int.lt_or_le n 0 with h|h
 ·obtain⟨u,rfl⟩:∃u:Nat,n = -(u:Int):=⟨n.natAbs,oA⟩
  rw[qzx u]
  intro c hc;rcases List.mem_cons.1 hc with rfl|hc
  ·rfl
  ·unfold qbq;rw[decide_eq_true (qet u c hc)];rfl
 ·obtain⟨u,rfl⟩:∃u:Nat,n=(u:Int):=⟨n.natAbs,oA⟩
  rw[n9];intro c hc;unfold qbq;rw[decide_eq_true (qet u c hc)];rfl
def ef(l:List Int):Bs:=Lib.join (l.map itoa) [44]
def ip(x:Int):Prop := -1000000000000<=x/\x<=1000000000000
def zqf(l:List Int)(hl:l.length<=1000)(h:∀x∈l,ip x)(n:Nat):∀(ab aa:List Int),l=ab++aa->aa.length<n->qh7 FU n l (l.length:Int) (ab.length:Int) (ab.map itoa)=fw (l.map itoa) [44]:=by
 induction n with
 |zero=>intro ab aa _ h;omega|succ n ih=>
  intro ab aa e hn;have hll:=congrArg List.length e;rw[qM]at hll;rw[qh7,qux]
  cases aa with
  |nil=>
   rw[List.append_nil]at e;rw[bz (by simp at hll;omega),← e]
   cases fw (List.map itoa l) [44]<;>rfl
  |cons x aa=>
   simp only[qL]at hll hn;have hx:=h x (by rw[e];simp)
   rw[ao oA,show ap l (ab.length:Int)=some x by rw[e];exact gz _ _ _,qB,y8 x hx.1 hx.2,qB,ao (rwl _ _ (by rw[wC];omega)),cd _]
   have:=ih (ab++[x]) aa (by rw[e];simp) oA
   rw[qM,wD,List.map_append]at this;exact this
def wz(l:List Int)(h:∀x∈l,ip x):(ef l).length<=15*l.length:=by
 have:=za5 [44] 14 (l.map itoa) (fun t ht=>by obtain⟨x,hx,rfl⟩:=List.mem_map.1 ht;exact(nf x (h x hx).1 (h x hx).2).2)
 rw[wC]at this;exact this
def q0u(l:List Int)(hl:l.length<=1000)(h:∀x∈l,ip x):qdo FU l=some (ef l):=by
 have:=wz l h;unfold qdo;have g:=zqf l hl h FU [] l rfl (Nat.lt_of_le_of_lt hl oD)
 rw[show((([]:List Int).length:Nat):Int)=0 from rfl,List.map_nil]at g
 rw[g];unfold fw;rw[ao ⟨by rw[wC];omega,by unfold ef at this;omega⟩];rfl
def bi(n:Int)(k:Nat):Bs:=List.replicate (k-(itoa n).length) 48++itoa n
def qfl(n:Int)(k:Nat)(hk:k<=10)(h1:0<=n)(h2:n<=1000000000000):vk n (k:Int)=some (bi n k):=by
 have hl:=nf n oA h2
 unfold vk bi;rw[y8 n oA h2,qB,bu]
 have e:(if(k:Int)-((itoa n).length:Int)>0 then(k:Int)-((itoa n).length:Int) else 0)=((k-(itoa n).length:Nat):Int):=by split<;>omega
 rw[e];unfold qdu;rw[ao ⟨oA,oA,oE⟩,qB,show((k-(itoa n).length:Nat):Int).toNat=k-(itoa n).length by omega]
 have r:Lib.repeatL [48] (k-(itoa n).length)=List.replicate (k-(itoa n).length) 48:=by
  have:=Lib.repeatL_replicate 48 1 (k-(itoa n).length);simpa using this
 rw[r,ao (by simp only[ax,List.length_replicate];omega)]
def pm(n:Int)(k:Nat)(hk:k<=10)(h1:0<=n)(h2:n<=1000000000000):(bi n k).length<=24:=by
 have hl:=nf n oA h2
 unfold bi;rw[qM,List.length_replicate];omega
def uo(d:dj):Bs:=((((((bi d.1 4++bi d.2.1 2)++bi d.2.2.1 2)++[84])++bi d.2.2.2.1 2)++bi d.2.2.2.2.1 2)++bi d.2.2.2.2.2.1 2)
def DtL(d:dj):Prop:=(0<=d.1/\d.1<=1000000000000)/\(0<=d.2.1/\d.2.1<=1000000000000)/\(0<=d.2.2.1/\d.2.2.1<=1000000000000)/\(0<=d.2.2.2.1/\d.2.2.2.1<=1000000000000)/\(0<=d.2.2.2.2.1/\d.2.2.2.2.1<=1000000000000)/\(0<=d.2.2.2.2.2.1/\d.2.2.2.2.2.1<=1000000000000)
def ztu(d:dj)(h:DtL d):qm6 d=some (uo d):=by
 obtain⟨a,b,c,x,y,z⟩:=h;have la:=pm d.1 4 oA a.1 a.2
 have lb:=pm d.2.1 2 oA b.1 b.2
 have lc:=pm d.2.2.1 2 oA c.1 c.2
 have lx:=pm d.2.2.2.1 2 oA x.1 x.2
 have ly:=pm d.2.2.2.2.1 2 oA y.1 y.2
 have lz:=pm d.2.2.2.2.2.1 2 oA z.1 z.2
 unfold qm6;rw[show(4:Int)=((4:Nat):Int) from rfl,show(2:Int)=((2:Nat):Int) from rfl,qfl _ 4 oA a.1 a.2,qfl _ 2 oA b.1 b.2,qfl _ 2 oA c.1 c.2,qfl _ 2 oA x.1 x.2,qfl _ 2 oA y.1 y.2,qfl _ 2 oA z.1 z.2]
 simp only[qB];rw[ao (by simp only[ax];omega),ao (by simp only[ax,qM];omega),ao oF,ao oF,ao oF,ao oF]
 rfl
def jr:List Bs:=[[80,85,66,76,73,83,72],[82,69,81,85,69,83,84],[82,69,80,76,89],[67,65,78,67,69,76],[67,79,85,78,84,69,82]]
def jl:List Bs:=[[87,65,73,84,83],[65,67,67,69,80,84,83],[68,69,67,76,73,78,69,83],[77,65,89,66,69]]
def li:List Bs:=[[79,78,67,69],[68,65,73,76,89],[87,69,69,75,76,89],[77,79,78,84,72,76,89],[89,69,65,82,76,89]]
def zbw:qm3=some jr:=rfl
def zeo:qm7=some jl:=rfl
def q99:qm1=some li:=rfl
def dv(s:Bs):Bs:=ei 92 10 [92,92] [92,110] s
def qe1(s:Bs):(dv s).length<=3*s.length:=by
 have h1:=List.count_le_length (a:=(92:UInt8)) (l:=s);have h2:=List.count_le_length (a:=(10:UInt8)) (l:=s);have:(dv s).length=_:=qe2 (a:=92) (b:=10) oD 92 92 92 110 s
 unfold ic at this;omega
def q9n(s:Bs)(h:s.length<=1000000:=by omega):qh4 s=some (dv s):=by
 unfold qh4;rw[show qii ([([92]:Bs),([92,92]:Bs),([10]:Bs),([92,110]:Bs)]:List Bs)=some (0,0,0,[[92],[92,92],[10],[92,110]]) from rfl,qB]
 unfold sw;dsimp only;rw[ao ⟨rfl,rfl,oD,oA⟩];rfl
def px(r:ir):Bs:=if r.2.2.2.2.1=true then itoa r.2.2.2.1 else[]
def pu(r:ir):Bs:=Lib.join [li.getD r.1.toNat [],itoa r.2.1,itoa r.2.2.1,px r,ef r.2.2.2.2.2.1] [59]
structure RcL(r:ir):Prop where
 f:0<=r.1/\r.1<=4
 e:ip r.2.1
 c:ip r.2.2.1
 u:r.2.2.2.2.1=true->ip r.2.2.2.1
 wl:r.2.2.2.2.2.1.length<=300
 w:∀x∈r.2.2.2.2.2.1,ip x
 xl:r.2.2.2.2.2.2.1.length<=300
 x:∀x∈r.2.2.2.2.2.2.1,ip x
 al:r.2.2.2.2.2.2.2.length<=300
 a:∀x∈r.2.2.2.2.2.2.2,ip x
def qzj{α:Type}(l:List α)(i:Nat)(d:α)(h:i<l.length):l[i]? = some (l.getD i d):=by
 rw[List.getElem?_eq_getElem h,List.getD_eq_getElem?_getD,List.getElem?_eq_getElem h];rfl
def q98(i:Nat):(li.getD i []).length<=10:=by
 match i with
 |0|1|2|3|4=>decide
 |n+5=>simp[li]
def q0b(i:Nat):(jr.getD i []).length<=10:=by
 match i with
 |0|1|2|3|4=>decide
 |n+5=>simp[jr]
def qrd(i:Nat):(jl.getD i []).length<=10:=by
 match i with
 |0|1|2|3=>decide
 |n+4=>simp[jl]
def q1g(r:ir)(h:RcL r):(pu r).length<=6000:=by
 have u:(px r).length<=14:=by
  unfold px;by_cases q:r.2.2.2.2.1=true
  ·rw[qX q];exact(nf _ (h.u q).1 (h.u q).2).2
  ·rw[qW q];simp
 have n:=wz _ h.w;have:=h.wl;have f:=q98 r.1.toNat;have e:=(nf _ h.e.1 h.e.2).2;have c:=(nf _ h.c.1 h.c.2).2;unfold pu;rw[Lib.join_cons];simp only[Lib.joinTail,List.map_cons,List.map_nil,List.flatten_cons,List.flatten_nil,qM,qL,qZ];omega
def zsc(r:ir)(h:RcL r):qm5 FU r=some (pu r):=by
 have hl:=q1g r h;have p0:∀s,s=px r->qh9 FU s r=some (pu r):=fun s hs=>by
  unfold qh9;rw[q99,qB];have hf:=h.f;have hi:r.1.toNat<li.length:=by show r.1.toNat<5;omega
  rw[ao ⟨oA,hi⟩,qzj li _ [] hi,qB,y8 _ h.e.1 h.e.2,y8 _ h.c.1 h.c.2,q0u _ (by have:=h.wl;omega) h.w]
  simp only[qB];unfold fw;rw[hs];rw[ao ⟨oC,by
   have:(pu r).length<=140737488355328:=oA
   exact this⟩];rfl
 unfold qm5;cases hu:r.2.2.2.2.1
 ·rw[ak rfl];exact p0 _ (by unfold px;rw[hu];rfl)
 ·have:=h.u hu;rw[ar rfl,y8 _ this.1 this.2,qB];exact p0 _ (by unfold px;rw[hu];rfl)
def zeq(d:dj)(h:DtL d):(uo d).length<=200:=by
 obtain⟨a,b,c,x,y,z⟩:=h;have la:=pm d.1 4 oA a.1 a.2
 have lb:=pm d.2.1 2 oA b.1 b.2
 have lc:=pm d.2.2.1 2 oA c.1 c.2
 have lx:=pm d.2.2.2.1 2 oA x.1 x.2
 have ly:=pm d.2.2.2.2.1 2 oA y.1 y.2
 have lz:=pm d.2.2.2.2.2.1 2 oA z.1 z.2
 unfold uo;simp only[qM,qL,qZ];omega
def qx(g:Bs×Int):Bs:=(([71,85,69,83,84,58]++jl.getD (g.2-1).toNat [])++[32])++g.1
def hdE(e:b9):List Bs:=[[66,69,71,73,78,58,69,86,69,78,84],[77,69,84,72,79,68,58]++jr.getD (e.2.1-1).toNat [],[85,73,68,58]++e.1,[83,69,81,85,69,78,67,69,58]++itoa e.2.2.1,[83,85,77,77,65,82,89,58]++dv e.2.2.2.1,[80,76,65,67,69,58]++dv e.2.2.2.2.1,[79,82,71,65,78,73,90,69,82,58]++e.2.2.2.2.2.1]
def tlE(e:b9):List Bs:=[[90,79,78,69,58]++e.2.2.2.2.2.2.2.1,[83,84,65,82,84,58]++uo e.2.2.2.2.2.2.2.2.1,[76,69,78,71,84,72,58]++itoa e.2.2.2.2.2.2.2.2.2.1,[82,69,80,69,65,84,58]++pu e.2.2.2.2.2.2.2.2.2.2,[69,88,67,69,80,84,58]++ef e.2.2.2.2.2.2.2.2.2.2.2.2.2.2.2.2.1,[65,68,68,58]++ef e.2.2.2.2.2.2.2.2.2.2.2.2.2.2.2.2.2,[69,78,68,58,69,86,69,78,84]]
def pi(e:b9):List Bs:=hdE e++e.2.2.2.2.2.2.1.map qx++tlE e
structure EvB(e:b9):Prop where
 ul:e.1.length<=60
 me:1<=e.2.1/\e.2.1<=5
 sq:ip e.2.2.1
 su:e.2.2.2.1.length<=500
 pl:e.2.2.2.2.1.length<=500
 og:e.2.2.2.2.2.1.length<=300
 gl:e.2.2.2.2.2.2.1.length<=30
 g:∀x∈e.2.2.2.2.2.2.1,x.1.length<=300/\1<=x.2/\x.2<=4
 zn:e.2.2.2.2.2.2.2.1.length<=60
 d:DtL e.2.2.2.2.2.2.2.2.1
 le:ip e.2.2.2.2.2.2.2.2.2.1
 r:RcL e.2.2.2.2.2.2.2.2.2.2
def zpo(e:b9)(he:EvB e)(hd:List Bs)(hhd:hd.length<=100)(n:Nat):∀(ab aa:List (Bs×Int)),e.2.2.2.2.2.2.1=ab++aa->aa.length<n->qh6 FU n e.2.2.2.2.2.2.1 (e.2.2.2.2.2.2.1.length:Int) (ab.length:Int) e (hd++ab.map qx)=some (hd++e.2.2.2.2.2.2.1.map qx++tlE e):=by
 have hgl:=he.gl
 induction n with
 |zero=>intro ab aa _ h;omega|succ n ih=>
  intro ab aa eg hn;have hll:=congrArg List.length eg;rw[qM]at hll;rw[qh6,quw]
  cases aa with
  |nil=>
   have l1:=he.zn;have l2:=(nf _ he.le.1 he.le.2).2;have l3:=q1g _ he.r;have l4:=wz _ he.r.x;have l5:=wz _ he.r.a;have x4:=he.r.xl;have x5:=he.r.al;have hst:=ztu _ he.d;have l6:=zeq _ he.d;rw[List.append_nil]at eg;rw[bz (by simp at hll;omega),ao oJ,hst,qB,ao oJ,y8 _ he.le.1 he.le.2,qB,ao oJ,zsc _ he.r,qB,ao oJ,q0u _ oA he.r.x,qB,ao oJ,q0u _ oA he.r.a,qB,ao oJ,ao (by rw[← eg];simp only[aw,qM,wC,qL,qZ];omega),← eg]
   rfl
  |cons g aa=>
   simp only[qL]at hll hn;have hg:=he.g g (by rw[eg];simp)
   rw[ao oA,show ap e.2.2.2.2.2.2.1 (ab.length:Int)=some g by rw[eg];exact gz _ _ _,qB,zeo,qB,bu (x:=g.2-1) oA oA]
   have hi:(g.2-1).toNat<jl.length:=by show(g.2-1).toNat<4;omega
   have sl:=qrd (g.2-1).toNat;rw[ao ⟨oA,hi⟩,qzj jl _ [] hi,qB,ao oJ,ao oF,ao oF,ao (rwl _ _ (by rw[qM,wC];omega)),cd _]
   have:=ih (ab++[g]) aa (by rw[eg];simp) oA
   rw[qM,wD,List.map_append,← qS]at this;exact this
def lnF(e:b9)(he:EvB e):qm2 FU e=some (pi e):=by
 have hm:=he.me;have hi:(e.2.1-1).toNat<jr.length:=by show(e.2.1-1).toNat<5;omega
 have l0:=q0b (e.2.1-1).toNat;have l1:=he.ul;have l2:=(nf _ he.sq.1 he.sq.2).2;have l3:=qe1 e.2.2.2.1;have l4:=qe1 e.2.2.2.2.1;have l5:=he.su;have l6:=he.pl;have l7:=he.og;have gl:=he.gl;unfold qm2;rw[zbw,qB,bu (x:=e.2.1-1) oA oA,ao ⟨oA,hi⟩,qzj jr _ [] hi,qB,ao oJ,ao oJ,y8 _ he.sq.1 he.sq.2,qB,ao oJ,q9n _,qB,ao oJ,q9n _,qB,ao oJ,ao oJ]
 have:=zpo e he (hdE e) (by simp[hdE]) FU [] e.2.2.2.2.2.2.1 rfl (Nat.lt_of_le_of_lt gl oD)
 rw[List.map_nil,List.append_nil]at this;exact this
def gy(s:Bs):Bs:=(qan FU s).getD []
def VL(s:Bs):Prop:=Lib.validD s=true/\s.length<=20000
def qzg:∀(cs:List Bs)(col:Nat),(∀c∈cs,1<=c.length)->(ie col cs).length<=4*cs.flatten.length+2
 |[],_,_=>by simp[ie]|c::cs,col,h=>by
  have h1:=h c qH;have h2:=qzg cs (1+c.length) (fun d hd=>h d (qE _ hd))
  have h3:=qzg cs (col+c.length) (fun d hd=>h d (qE _ hd))
  rw[ie,List.flatten_cons,qM];split
  ·simp only[qM,qL,qZ];omega
  ·simp only[qM];omega
def q2h{s:Bs}(h:VL s):∃R,okT R/\s=tx R:=qrn s.length s (wF _) h.1
def q89(s:Bs)(h:VL s):qan FU s=some (gy s)/\(gy s).length<=80002:=by
 obtain⟨R,hR,rfl⟩:=q2h h;have hl:=h.2;have e:=qyu R hR
 refine⟨by unfold gy;rw[e];rfl,?_⟩
 have:=qzg (R.map gg) 0 (fun c hc=>by obtain⟨k,hk,rfl⟩:=List.mem_map.1 hc;exact(q1c (q1b (hR k hk))).1)
 rw[qb8]at this;unfold gy;rw[e,Option.getD_some];omega
def il(e:b9):Bs:=(pi e).flatMap gy
def EvW(e:b9):Prop:=EvB e/\∀s∈pi e,VL s
def zvh(r1:List b9->Int->Int->(Int×Int)->Bs->Option (Bs×(Int×Int)))(l:List b9)(a b:Int)(z:Int×Int)(ls:List Bs)(hls:ls.length<=1000)(hv:∀s∈ls,VL s)(n:Nat):∀(ab aa:List Bs)(out:Bs),ls=ab++aa->aa.length<n->out.length+80002*aa.length<=3000000000 ->
  qh2 FU r1 n l a b (ls.length:Int) (ab.length:Int) z ls out=r1 l a (af (b+1)) z (out++aa.flatMap gy):=by
 induction n with
 |zero=>intro ab aa out _ h;omega|succ n ih=>
  intro ab aa out e hn ho;have hll:=congrArg List.length e;rw[qM]at hll;rw[qh2,qup]
  cases aa with
  |nil=>rw[bz (by simp at hll;omega)];simp|cons s aa=>
   simp only[qL]at hll hn ho;obtain⟨h1,h2⟩:=q89 s (hv s (by rw[e];simp))
   rw[ao oA,ao ⟨oA,oA⟩,show ls[(ab.length:Int).toNat]? = some s by rw[e,show(ab.length:Int).toNat=ab.length by omega];simp,qB,h1,qB]
   unfold xz;rw[show p8 out=some out from rfl,qB,ao (by simp only[aw,qM];omega),qB,cd _]
   have:=ih (ab++[s]) aa (out++gy s) (by rw[e];simp) oA oW
   rw[qM,wD]at this;rw[this,List.flatMap_cons,qS]
def zbe(e:b9)(he:EvB e):(pi e).length<=44:=by
 have:=he.gl;unfold pi hdE tlE;simp only[qM,wC,qL,qZ];omega
def zun(e:b9)(he:EvW e):(il e).length<=80002*44:=by
 have h1:=zbe e he.1;have:∀ls:List Bs,(∀s∈ls,VL s)->(ls.flatMap gy).length<=80002*ls.length:=by
  intro ls
  induction ls with
  |nil=>simp|cons s ls ih=>
   intro h;have a:=ih (fun t ht=>h t (qE _ ht))
   have b:=(q89 s (h s qH)).2;rw[List.flatMap_cons,qM,qL];omega
 have:=this (pi e) he.2;unfold il;have:80002*(pi e).length<=80002*44:=Nat.mul_le_mul (wF _) h1;omega
def wrT(t:Bs):Bs×(Int×Int):=if 12000<t.length then([],(1,-2)) else(t,(0,0))
def zvg(l:List b9)(hl:l.length<=20)(hw:∀e∈l,EvW e)(z:Int×Int)(n:Nat):∀(ab aa:List b9)(out:Bs),l=ab++aa->aa.length<n->out.length+3520088*aa.length<=100000000 ->
  qdf FU n l (l.length:Int) (ab.length:Int) z out=some (wrT (out++aa.flatMap il)):=by
 induction n with
 |zero=>intro ab aa out _ h;omega|succ n ih=>
  intro ab aa out e hn ho;have hll:=congrArg List.length e;rw[qM]at hll;rw[qdf,qun]
  cases aa with
  |nil=>
   rw[bz (by simp at hll;omega)]
   unfold qvn;rw[qB,List.flatMap_nil,List.append_nil];unfold wrT;by_cases c:12000<out.length
   ·rw[qX c,ao oA];rfl
   ·rw[qW c,bz];rfl
  |cons v aa=>
   simp only[qL]at hll hn ho;have hv:=hw v (by rw[e];simp)
   have ll:=zbe v hv.1;have tl:=zun v hv;rw[ao oA,show ap l (ab.length:Int)=some v by rw[e];exact gz _ _ _,qB,lnF v hv.1,qB]
   have:=zvh (qdf FU n) l (l.length:Int) (ab.length:Int) z (pi v) oA hv.2 FU [] (pi v) out rfl (Nat.lt_of_le_of_lt ll oD) oA
   rw[show((([]:List Bs).length:Nat):Int)=0 from rfl]at this
   rw[this,cd _]
   have:=ih (ab++[v]) aa (out++il v) (by rw[e];simp) oA oW
   rw[qM,wD]at this;rw[List.flatMap_cons,← qS];exact this
noncomputable def tj:Nat->List b9->Option (Int×Int)|_,[]=>none|i,e::l=>if(lg e).1≠0 then some ((lg e).1,(i:Int)) else tj (i+1) l
noncomputable def wrR(l:List b9):Bs×(Int×Int):=if 20<l.length then([],(2,-1)) else match tj 0 l with|some f=>([],f)|none=>wrT (l.flatMap il)
def zvf(l:List b9)(hl:l.length<=20)(hw:∀e∈l,ux e/\((lg e).1=0->EvW e))(z:Int×Int)(n:Nat):∀(ab aa:List b9),l=ab++aa->aa.length<n->(∀e∈ab,(lg e).1=0) ->
  qh1 FU n l l (l.length:Int) (ab.length:Int) z=some (match tj ab.length aa with|some f=>([],f)|none=>wrT (l.flatMap il)):=by
 induction n with
 |zero=>intro ab aa _ h;omega|succ n ih=>
  intro ab aa e hn hp;have hll:=congrArg List.length e;rw[qM]at hll;rw[qh1,qum]
  cases aa with
  |nil=>
   rw[List.append_nil]at e;rw[bz (by simp at hll;omega),tj]
   have:=zvg l hl (fun v hv=>(hw v hv).2 (hp v (by rw[← e];exact hv))) z FU [] l [] rfl (Nat.lt_of_le_of_lt hl oD) oE
   exact this
  |cons v aa=>
   simp only[qL]at hll hn;have hv:=hw v (by rw[e];simp)
   rw[ao oA,show ap l (ab.length:Int)=some v by rw[e];exact gz _ _ _,qB,q9s v hv.1,qB,n6,qB,ib,tj]
   by_cases c:(lg v).1≠0
   ·rw[qX c,qX c];rfl
   ·rw[qW c,qW c,cd _]
    have:=ih (ab++[v]) aa (by rw[e];simp) oA (fun x hx=>by
     rcases List.mem_append.1 hx with hx|hx
     ·exact hp x hx
     ·rw[List.mem_singleton]at hx;subst hx;exact Classical.not_not.1 c)
    rw[qM,wD]at this;exact this
def zvk(l:List b9)(hw:∀e∈l,ux e/\((lg e).1=0->EvW e)):qde FU l=some (wrR l):=by
 unfold qde wrR;by_cases c:20<l.length
 ·rw[ao oA,qX c];rfl
 ·rw[bz,qW c]
  exact zvf l oA hw (0,0) FU [] l rfl (Nat.lt_of_le_of_lt (show l.length<=20 by omega) oD) oC
end Go.Sym
namespace Go.Sym
open Go.Lib (decDigits itoa validD)
def vn(c:UInt8):Prop:=c.toNat<128/\c≠10/\c≠13
def de(s:Bs):Prop:=∀c∈s,vn c
instance(c:UInt8):Decidable (vn c):=by unfold vn;infer_instance
instance(s:Bs):Decidable (de s):=by unfold de;infer_instance
def ik{a b:Bs}(h:de a)(k:de b):de (a++b):=fun c hc=>by
 rcases List.mem_append.1 hc with hc|hc
 ·exact h c hc
 ·exact k c hc
def qbw{c:UInt8}{b:Bs}(h:vn c)(k:de b):de (c::b):=fun d hd=>by
 rcases List.mem_cons.1 hd with rfl|hd
 ·exact h
 ·exact k d hd
def qfo{c:UInt8}(h1:32<=c.toNat:=by omega)(h2:c.toNat<=126:=by omega):vn c:=⟨oA,fun e=>(by subst e;simp at h1),fun e=>(by subst e;simp at h1)⟩
def zrc{s:Bs}(h:∀c∈s,qbq c=true):de s:=fun c hc=>by
 have:=h c hc;unfold qbq at this;rw[Bool.or_eq_true,decide_eq_true_iff,beq_iff_eq]at this;rcases this with h|h
 ·exact qfo
 ·subst h;decide
def qbx(n:Int):de (itoa n):=zrc (za1 n)
def zcw{sep:Bs}(hs:de sep):∀l:List Bs,(∀x∈l,de x)->de (Lib.join l sep)
 |[],_=>fun c hc=>by cases hc
 |x::l,h=>by
  rw[Lib.join_cons];refine ik (h x qH) ?_;have:∀l:List Bs,(∀x∈l,de x)->de (Lib.joinTail sep l):=by
   intro l
   induction l with
   |nil=>intro _ c hc;cases hc
   |cons y l ih=>
    intro h;have e:Lib.joinTail sep (y::l)=(sep++y)++Lib.joinTail sep l:=by simp[Lib.joinTail]
    rw[e];exact ik (ik hs (h y qH)) (ih fun z hz=>h z (qE _ hz))
  exact this l fun z hz=>h z (qE _ hz)
def q05(l:List Int):de (ef l):=zcw oD _ fun x hx=>by
 obtain⟨n,_,rfl⟩:=List.mem_map.1 hx;exact qbx n
def qfp(n:Int)(k:Nat):de (bi n k):=by
 unfold bi;refine ik (fun c hc => ?_) (qbx n)
 rw[(List.mem_replicate.1 hc).2];decide
def zrf(d:dj):de (uo d):=by
 unfold uo;exact ik (ik (ik (ik (ik (ik (qfp _ _) (qfp _ _)) (qfp _ _)) oD) (qfp _ _)) (qfp _ _)) (qfp _ _)
def zra(i:Nat):de (li.getD i []):=by
 match i with
 |0|1|2|3|4=>decide
 |n+5=>simp[li,de]
def zrb(i:Nat):de (jr.getD i []):=by
 match i with
 |0|1|2|3|4=>decide
 |n+5=>simp[jr,de]
def zre(i:Nat):de (jl.getD i []):=by
 match i with
 |0|1|2|3=>decide
 |n+4=>simp[jl,de]
def zrd(r:ir):de (pu r):=by
 unfold pu;refine zcw oD _ fun x hx => ?_
 simp only[wE,List.not_mem_nil,or_false]at hx;rcases hx with rfl|rfl|rfl|rfl|rfl
 ·exact zra _
 ·exact qbx _
 ·exact qbx _
 ·unfold px;split
  ·exact qbx _
  ·intro c hc;cases hc
 ·exact q05 _
def zcy{s:Bs}(h:xa s=true):de s/\1<=s.length/\s.length<=60:=by
 unfold xa at h;simp only[qA,decide_eq_true_iff,List.all_eq_true]at h;refine⟨fun c hc => ?_,h.1.1,h.1.2⟩
 have:=h.2 c hc;unfold uch at this;rw[qA,decide_eq_true_iff,decide_eq_true_iff,UInt8.le_iff_toNat_le,UInt8.le_iff_toNat_le]at this;have h1:33<=c.toNat:=this.1;have h2:c.toNat<=126:=this.2;exact qfo
def zlr:∀n:_root_.Fin 256,chB (UInt8.ofNat n.val)=true->vn (UInt8.ofNat n.val):=by decide +kernel
def zcx{s:Bs}(h:oc s=true):de s/\s.length<=60:=by
 unfold oc at h;simp only[qA,decide_eq_true_iff,List.all_eq_true]at h;exact⟨fun c hc=>yi (fun c=>chB c=true->vn c) zlr c (h.2 c hc),h.1.2⟩
def zm0:∀n:_root_.Fin 256,tu (UInt8.ofNat n.val)=true->vn (UInt8.ofNat n.val):=by decide +kernel
def qqm{s:Bs}(h:vo s):de s/\s.length<=300:=by
 refine⟨?_,by have:=ztm h;omega⟩
 obtain⟨l,d,hl,hd,rfl⟩:=h;have pl:de l:=fun c hc=>by
  unfold uc at hl;simp only[qA,decide_eq_true_iff,List.all_eq_true]at hl;have:=hl.2 c hc;unfold qfh at this;rw[qA,decide_eq_true_iff,decide_eq_true_iff,UInt8.le_iff_toNat_le,UInt8.le_iff_toNat_le]at this;have h1:32<=c.toNat:=this.1;have h2:c.toNat<=126:=this.2;exact qfo
 have pd:de d:=fun c hc=>by
  unfold tv at hd;rw[qA]at hd;rcases (qyw hd.2).2 c hc with h|h
  ·exact yi (fun c=>tu c=true->vn c) zm0 c h
  ·subst h;decide
 have pq:∀w:Bs,de w->de (nz w):=by
  intro w
  induction w with
  |nil=>intro _ c hc;cases hc
  |cons x w ih=>
   intro h;have:=ih (fun c hc=>h c (qE _ hc))
   rw[znk];refine ik ?_ this;cases x==34||x==92
   ·exact qbw (h x qH) oD
   ·exact qbw oD (qbw (h x qH) oD)
 unfold mb;cases jf oy true l
 ·exact ik (ik (qbw oD (ik (pq l pl) oD)) oD) pd
 ·exact ik (ik pl oD) pd
def qrl:∀s:Bs,(∀c∈s,c.toNat<128)->validD s=true
 |[],_=>rfl|c::s,h=>by
  rw[Lib.validD_cons c s (h c qH)];exact qrl s fun d hd=>h d (qE _ hd)
def zfo{a b:Bs}(h:validD a=true)(k:validD b=true):validD (a++b)=true:=by
 obtain⟨R,hR,rfl⟩:=qrn a.length a (wF _) h;obtain⟨S,hS,rfl⟩:=qrn b.length b (wF _) k;rw[← zum];exact q2f _ fun c hc=>by
  rcases List.mem_append.1 hc with hc|hc
  ·exact hR c hc
  ·exact hS c hc
def zu3{s:Bs}(h:de s)(hl:s.length<=20000):VL s:=⟨qrl s fun c hc=>(h c hc).1,hl⟩
def znf{c:Nat}(h:128<=c)(hc:uh c):∀x∈gg c,128<=x.toNat:=by
 have hc:c<=1114111:=by rcases hc with h|h<;>omega
 have f:∀n:Nat,128<=n->n<256->128<=(UInt8.ofNat n).toNat:=fun n h1 h2=>by rw[qk0 h2];exact h1
 intro x hx;unfold gg at hx;rw[qW oA]at hx
 split at hx
 ·simp only[wE,List.not_mem_nil,or_false]at hx;rcases hx with rfl|rfl<;>exact f _ oA oA
 ·split at hx
  ·simp only[wE,List.not_mem_nil,or_false]at hx;rcases hx with rfl|rfl|rfl<;>exact f _ oA oA
  ·simp only[wE,List.not_mem_nil,or_false]at hx;rcases hx with rfl|rfl|rfl|rfl<;>exact f _ oA oA
def qpp(c:UInt8)(w:Bs):dv (c::w)=(if c=92 then[92,92] else if c=10 then[92,110] else[c])++dv w:=rfl
def znl(a b:Bs):dv (a++b)=dv a++dv b:=qj1 _ _ _ _ _ _
def q9o:∀w:Bs,(∀x∈w,128<=x.toNat)->dv w=w
 |[],_=>rfl|c::w,h=>by
  have hc:=h c qH;rw[qpp,qW (fun e=>by subst e;simp at hc),qW (fun e=>by subst e;simp at hc),q9o w fun x hx=>h x (qE _ hx)]
  rfl
def q9q:∀R:List Nat,okT R->validD (dv (tx R))=true
 |[],_=>rfl|c::R,h=>by
  obtain⟨hc,hR⟩:=zcl h;rw[qlg,znl];refine zfo ?_ (q9q R hR);rcases Nat.lt_or_ge c 128 with h|h
  ·have:gg c=[UInt8.ofNat c]:=by unfold gg;rw[qX h]
   rw[this,qpp,show dv []=[] from rfl,List.append_nil]
   split
   ·rfl
   ·split
    ·rfl
    ·exact qrl _ fun x hx=>by rw[List.mem_singleton]at hx;subst hx;rw[qk0];exact h
  ·rw[q9o _ (znf h hc)];have:=q2f [c] (fun d hd=>by rw[List.mem_singleton]at hd;subst hd;exact hc)
   rw[qlg,zfe,List.append_nil]at this;exact this
def qlf{s:Bs}(h:fm s=0):s.length<=500/\validD s=true/\13∉s:=by
 unfold fm at h;by_cases c1:500<s.length
 ·rw[qX c1]at h;cases h
 rw[qW c1]at h;by_cases c2:validD s=false
 ·rw[qX c2]at h;cases h
 rw[qW c2]at h;by_cases c3:s.contains 13=true
 ·rw[qX c3]at h;cases h
 exact⟨oA,by simpa using c2,by simpa using c3⟩
def znn{s:Bs}(h:fm s=0):validD (dv s)=true:=by
 obtain⟨_,h2,_⟩:=qlf h;obtain⟨R,hR,rfl⟩:=qrn s.length s (wF _) h2;exact q9q R hR
def q9p:∀s:Bs,13∉s->∀c∈dv s,c≠10/\c≠13
 |[],_,c,hc=>by cases hc
 |x::s,h3,c,hc=>by
  rw[qpp]at hc;rcases List.mem_append.1 hc with hc|hc
  ·split at hc
   ·simp only[wE,List.not_mem_nil,or_false,or_self]at hc;subst hc;decide
   ·split at hc
    ·simp only[wE,List.not_mem_nil,or_false]at hc;rcases hc with rfl|rfl<;>decide
    ·rename_i q1 q2;rw[List.mem_singleton]at hc;subst hc;exact⟨q2,fun e=>h3 (by rw[e];exact qH)⟩
  ·exact q9p s (fun q=>h3 (qE _ q)) c hc
def znm{s:Bs}(h:fm s=0):∀c∈dv s,c≠10/\c≠13:=q9p s (qlf h).2.2
def LnB(s:Bs):Prop:=VL s/\(∀c∈s,c≠10/\c≠13)/\∃c r,s=c::r/\65<=c.toNat/\c.toNat<=90
def qqa{c:UInt8}{s:Bs}(h1:65<=c.toNat)(h2:c.toNat<=90)(h:de s)(hl:s.length<=19999):LnB (c::s):=
 ⟨zu3 (qbw (qfo) h) (by rw[qL];omega),fun d hd=>(qbw (qfo) h d hd).2,c,s,rfl,h1,h2⟩
def zbf{c:UInt8}{p s:Bs}(h1:65<=c.toNat)(h2:c.toNat<=90)(hp:de p)(hl:p.length<=100)(h:fm s=0):LnB (c::(p++dv s)):=by
 have hc:=qbw (c:=c) (qfo) hp
 have l:=qe1 s;have ls:=(qlf h).1;refine⟨⟨?_,?_⟩,?_,c,_,rfl,h1,h2⟩
 ·rw[← wK];exact zfo (qrl _ fun d hd=>(hc d hd).1) (znn h)
 ·rw[qL,qM];omega
 ·rw[← wK];intro d hd;rcases List.mem_append.1 hd with hd|hd
  ·exact(hc d hd).2
  ·exact znm h d hd
def zdu{r:ir}(h:(ma r).1=0):(r.2.2.2.2.1=true->ip r.2.2.2.1)/\(r.2.2.2.2.1=false->r.2.2.2.1=0)/\∀x∈r.2.2.2.2.2.1,0<=x/\x<=6:=by
 unfold ma at h;by_cases c1:¬(0<=r.1/\r.1<=4)
 ·rw[qX c1]at h;simp at h
 rw[qW c1]at h;by_cases c2:¬(1<=r.2.1/\r.2.1<=100)
 ·rw[qX c2]at h;simp at h
 rw[qW c2]at h;by_cases c3:¬(0<=r.2.2.1/\r.2.2.1<=1500)
 ·rw[qX c3]at h;simp at h
 rw[qW c3]at h;by_cases c4:r.2.2.2.2.1=true/\¬(-68719476736<=r.2.2.2.1/\r.2.2.2.1<=68719476736)
 ·rw[qX c4]at h;simp at h
 rw[qW c4]at h;by_cases c5:r.2.2.2.2.1=false/\r.2.2.2.1≠0
 ·rw[qX c5]at h;simp at h
 rw[qW c5]at h;by_cases c6:(oo r).1≠0
 ·rw[qX c6]at h;exact absurd h c6
 have c6':=Classical.not_not.1 c6;refine⟨fun q => ?_,fun q=>Classical.not_not.1 fun k=>c5 ⟨q,k⟩,?_⟩
 ·have : -68719476736<=r.2.2.2.1/\r.2.2.2.1<=68719476736:=Classical.not_not.1 fun c=>c4 ⟨q,c⟩
  exact⟨oA,oA⟩
 ·unfold oo at c6';by_cases q:0<r.2.2.2.2.2.1.length/\r.1≠2
  ·rw[qX q]at c6';simp at c6'
  ·rw[qW q,qo4]at c6';obtain⟨_,i2,_⟩:=qq9 xc _ none c6';exact fun x hx=>of_decide_eq_true (i2 x hx)
def q1d{r:ir}(h:(ma r).1=0):RcL r/\r.2.2.2.2.2.1.length<=7:=by
 obtain⟨_,k,kx,ka⟩:=zd1 r h;obtain⟨i1,_,i3⟩:=zdu h;have tb:∀x,ur x=true->ip x:=fun x hx=>by
  have:=of_decide_eq_true hx;exact⟨oA,oA⟩
 have e1:=k.e1;have e2:=k.e2;have k1:=k.c1;have k2:=k.c2;have wl:=k.wl;exact⟨⟨⟨k.f1,k.f2⟩,⟨oA,oA⟩,⟨oA,oA⟩,i1,oA,fun x hx=>by have:=i3 x hx;exact⟨oA,oA⟩,k.xl,fun x hx=>tb x (kx x hx),k.al,fun x hx=>tb x (ka x hx)⟩,wl⟩
def qpq{e:b9}(h:rz e):EvB e:=by
 have sq:=h.sq;have le:=h.le;refine⟨(zcy h.uid).2.2,h.me,⟨oA,oA⟩,(qlf h.su).1,(qlf h.pl).1,?_,h.gl,fun x hx => ?_,(zcx h.zn).2,?_,⟨oA,oA⟩,(q1d h.r).1⟩
 ·rcases h.og with q|q
  ·rw[q];simp
  ·exact(qqm q).2
 ·obtain⟨g1,g2⟩:=h.g x hx;exact⟨(qqm g1).2,g2⟩
 ·obtain⟨⟨a1,a2,b1,b2,c1,c2⟩,x1,x2,y1,y2,z1,z2,_⟩:=h.d;have:Cal.dim e.2.2.2.2.2.2.2.2.1.1 e.2.2.2.2.2.2.2.2.1.2.1<=31:=(Cal.dim_bd _ _).2;exact⟨⟨oA,oA⟩,⟨oA,oA⟩,⟨oA,oA⟩,⟨oA,oA⟩,⟨oA,oA⟩,⟨oA,oA⟩⟩
def ub{c:UInt8}{s:Bs}(p:Bs)(h1:65<=c.toNat)(h2:c.toNat<=90)(hp:de p)(h:de s)(hl:p.length+s.length<=19999):LnB (c::(p++s)):=
 qqa h1 h2 (ik hp h) (by rw[qM];exact hl)
def qp9{e:b9}(h:rz e):∀s∈pi e,LnB s:=by
 have hb:=qpq h;intro s hs;unfold pi at hs;have l2:=(nf _ hb.sq.1 hb.sq.2).2;have l3:=(nf _ hb.le.1 hb.le.2).2;have l4:=q1g _ hb.r;have l5:=wz _ hb.r.x;have l6:=wz _ hb.r.a;have x5:=hb.r.xl;have x6:=hb.r.al;have l7:=hb.og;have l6':=zeq _ hb.d;have l8:=hb.zn;have l9:=hb.ul;have l0:=q0b (e.2.1-1).toNat;rcases List.mem_append.1 hs with hs|hs
 ·rcases List.mem_append.1 hs with hs|hs
  ·unfold hdE at hs;simp only[wE,List.not_mem_nil,or_false]at hs;rcases hs with rfl|rfl|rfl|rfl|rfl|rfl|rfl
   ·exact qqa oD oD oD oD
   ·exact ub [69,84,72,79,68,58] oD oD oD (zrb _) oI
   ·exact ub [73,68,58] oD oD oD (zcy h.uid).1 oI
   ·exact ub [69,81,85,69,78,67,69,58] oD oD oD (qbx _) oI
   ·exact zbf (p:=[85,77,77,65,82,89,58]) oD oD oD oD h.su
   ·exact zbf (p:=[76,65,67,69,58]) oD oD oD oD h.pl
   ·refine ub [82,71,65,78,73,90,69,82,58] oD oD oD ?_ oI
    rcases h.og with q|q
    ·rw[q];intro c hc;cases hc
    ·exact(qqm q).1
  ·obtain⟨g,hg,rfl⟩:=List.mem_map.1 hs;have hgb:=(hb.g g hg).1;have hl:=qrd (g.2-1).toNat;have:=qqa (c:=71) (s:=(([85,69,83,84,58]++jl.getD (g.2-1).toNat [])++[32])++g.1) oD oD (ik (ik (ik oD (zre _)) oD) (qqm (h.g g hg).1).1) oG
   exact this
 ·unfold tlE at hs;simp only[wE,List.not_mem_nil,or_false]at hs;rcases hs with rfl|rfl|rfl|rfl|rfl|rfl|rfl
  ·exact ub [79,78,69,58] oD oD oD (zcx h.zn).1 oI
  ·exact ub [84,65,82,84,58] oD oD oD (zrf _) oI
  ·exact ub [69,78,71,84,72,58] oD oD oD (qbx _) oI
  ·exact ub [69,80,69,65,84,58] oD oD oD (zrd _) oI
  ·exact ub [88,67,69,80,84,58] oD oD oD (q05 _) oI
  ·exact ub [68,68,58] oD oD oD (q05 _) oI
  ·exact qqa oD oD oD oD
def znp{e:b9}(h:rz e):EvW e:=⟨qpq h,fun s hs=>(qp9 h s hs).1⟩
def zvl(l:List b9)(hw:∀e∈l,ux e):qde FU l=some (wrR l):=
 zvk l fun e he=>⟨hw e he,fun h=>znp (q9t h)⟩
def q8p:∀(i:Nat)(l:List b9),tj i l=none->∀e∈l,rz e
 |_,[],_,e,he=>by cases he
 |i,x::l,h,e,he=>by
  rw[tj]at h;by_cases c:(lg x).1≠0
  ·rw[qX c]at h;cases h
  rw[qW c]at h;rcases List.mem_cons.1 he with rfl|he
  ·exact q9t (Classical.not_not.1 c)
  ·exact q8p _ l h e he
def q8q:∀(i:Nat)(l:List b9)(f:Int×Int),tj i l=some f->f.1≠0
 |_,[],f,h=>by cases h
 |i,x::l,f,h=>by
  rw[tj]at h;by_cases c:(lg x).1≠0
  ·rw[qX c]at h;cases h;exact c
  rw[qW c]at h;exact q8q _ l f h
def zvi(l:List b9):((wrR l).2.1≠0/\(wrR l).1=[])\/(wrR l=(l.flatMap il,(0,0))/\l.length<=20/\(∀e∈l,rz e)/\(l.flatMap il).length<=12000):=by
 unfold wrR;by_cases c:20<l.length
 ·rw[qX c];exact .inl ⟨oD,rfl⟩
 rw[qW c]
 cases hc:tj 0 l with
 |some f=>exact .inl ⟨q8q 0 l f hc,rfl⟩|none=>
  unfold wrT;by_cases c2:12000<(l.flatMap il).length
  ·rw[qX c2];exact .inl ⟨oD,rfl⟩
  ·rw[qW c2];exact .inr ⟨rfl,oA,q8p 0 l hc,oA⟩
end Go.Sym
namespace Go.Sym
open Go.Lib (decDigits itoa atoiAll)
def qqg(u:Bs)(me sq:Int)(su pl og zn:Bs)(y mo da hh mi ss tz le fr ev co un:Int)(hu go:Bool)(gs:List (Bs×Int))(wd ex ad:List Int):vj true u me sq su pl og zn y mo da hh mi ss tz le fr ev co un hu go gs wd ex ad=some (u,me,sq,su,pl,og,zn,y,mo,da,hh,mi,ss,tz,le,fr,ev,co,un,hu,go,gs,wd,ex,ad):=by cases go<;>rfl
def yj(n:Nat)(h:n<=1000000000000)(u:Bs)(me sq:Int)(su pl og zn:Bs)(y mo da hh mi ss tz le fr ev co un:Int)(hu go:Bool)(gs:List (Bs×Int))(wd ex ad:List Int):qe FU (decDigits n) u me sq su pl og zn y mo da hh mi ss tz le fr ev co un hu go gs wd ex ad=some ((n:Int),(u,me,sq,su,pl,og,zn,y,mo,da,hh,mi,ss,tz,le,fr,ev,co,un,hu,go,gs,wd,ex,ad)):=by
 have hl:=tn 13 n oA oA
 unfold qe vd wb;rw[ao oA,qB,zks n]
 show qh3 FU (decDigits n) (n:Int) u me sq su pl og zn y mo da hh mi ss tz le fr ev co un hu go gs wd ex ad=_;unfold qh3;rw[ao oA,y8 _,qB,n9,beq_self_eq_true,qqg];rfl
def zmd(c:UInt8)(w:Bs)(h:w.length<=1000000:=by omega):qaw (c::w) [c]=some (w,true):=by
 unfold qaw qmu qdb;rw[ao oI,ao ⟨oC,oI⟩]
 simp only[qL,qZ];rw[show List.take ((0+1:Nat):Int).toNat (c::w)=[c] from rfl]
 simp;exact ao oA
def zme(c d:UInt8)(w:Bs)(h:w.length<=1000000)(hc:d≠c):qaw (d::w) [c]=some (d::w,false):=by
 unfold qaw qmu qdb;rw[ao oI,ao ⟨oC,oI⟩]
 simp only[qL,qZ];rw[show List.take ((0+1:Nat):Int).toNat (d::w)=[d] from rfl,show([d]==[c])=false by simp[hc]]
 rfl
def q2b(x:Int)(h:ip x)(u:Bs)(me sq:Int)(su pl og zn:Bs)(y mo da hh mi ss tz le fr ev co un:Int)(hu go:Bool)(gs:List (Bs×Int))(wd ex ad:List Int):qdn FU (itoa x) u me sq su pl og zn y mo da hh mi ss tz le fr ev co un hu go gs wd ex ad=some (x,(u,me,sq,su,pl,og,zn,y,mo,da,hh,mi,ss,tz,le,fr,ev,co,un,hu,go,gs,wd,ex,ad)):=by
 obtain⟨h1,h2⟩:=h;unfold qdn;rcases Int.lt_or_le x 0 with q|q
 ·obtain⟨n,rfl⟩:∃n:Nat,x = -(n:Int):=⟨x.natAbs,oA⟩
  have hl:=tn 13 n oA oA
  rw[qzx n,zmd 45 _,qB,ar rfl,yj n oA,qB]
  rw[show(((n:Int)) != 0)=true by simp;omega,qqg,qB,bu,show 0-(n:Int) = -(n:Int) by omega]
 ·obtain⟨n,rfl⟩:∃n:Nat,x=(n:Int):=⟨x.natAbs,oA⟩
  have hl:=tn 13 n oA oA
  have hd:=qet n;rw[n9];have hc:qaw (decDigits n) [45]=some (decDigits n,false):=by
   cases hs:decDigits n with
   |nil=>exact absurd hs (qpd n)|cons d w=>
    rw[hs]at hd hl;exact zme 45 d w (by rw[qL]at hl;omega) (fun e=>by have:=hd d qH;subst e;simp at this)
  rw[hc,qB,ak rfl,yj n oA];rfl
def ixS(c:UInt8)(w r:Bs)(h:∀x∈w,x≠c)(hl:(w++c::r).length<=1000000:=by omega):eu (w++c::r) [c]=some (w.length:Int):=by
 unfold eu ju;rw[ao oA,qB,ixc c w r h]
def ixN(c:UInt8)(w:Bs)(h:∀x∈w,x≠c)(hl:w.length<=1000000:=by omega):eu w [c]=some (-1):=by
 unfold eu ju;rw[ao oA,qB,ixn c w h]
def qfc{c:UInt8}(h:qbq c=false)(n:Int):∀x∈itoa n,x≠c:=fun x hx e=>by
 have:=za1 n x hx;rw[e,h]at this;cases this
def qbj(s a b:Bs)(l:List Bs):Lib.join (a::b::l) s=a++(s++Lib.join (b::l) s):=by
 rw[Lib.join_cons,Lib.join_cons];simp[Lib.joinTail]
def zpj(r:List Int):∀(x:Int)(acc:List Int)(n:Nat)(u:Bs)(me sq:Int)(su pl og zn:Bs)(y mo da hh mi ss tz le fr ev co un:Int)(hu go:Bool)(gs:List (Bs×Int))(wd ex ad:List Int),r.length<n->acc.length+r.length<=1000->(∀z∈x::r,0<=z/\z<=1000000000000)->(Lib.join ((x::r).map itoa) [44]).length<=100000 ->
  ∃s,qdx FU n [44] (Lib.join ((x::r).map itoa) [44]) 0 u me sq su pl og zn y mo da hh mi ss tz le fr ev co un hu go acc gs wd ex ad=some ([44],s,0,(u,me,sq,su,pl,og,zn,y,mo,da,hh,mi,ss,tz,le,fr,ev,co,un,hu,go,acc++x::r,gs,wd,ex,ad)):=by
 induction r with
 |nil=>
  intro x acc n u me sq su pl og zn y mo da hh mi ss tz le fr ev co un hu go gs wd ex ad hn ha h hl;obtain⟨n,rfl⟩:∃k,n=k+1:=⟨n-1,oA⟩
  rw[qdx,qiq];simp only[List.map_cons,List.map_nil,Lib.join_one]at hl ⊢;rw[ixN 44 _ (qfc rfl x),qB,ao oD]
  unfold qao;obtain⟨k,hk⟩:∃k:Nat,x=k:=⟨x.toNat,by have:=h x qH;omega⟩
  have hx:itoa x=decDigits k:=by rw[hk,n9]
  have hk2:k<=1000000000000:=by have:=h x qH;omega
  rw[hx,yj k hk2,← hk,← hx];rw[qB,ao oK,qB]
  exact⟨itoa x,rfl⟩
 |cons b2 r ih=>
  intro x acc n u me sq su pl og zn y mo da hh mi ss tz le fr ev co un hu go gs wd ex ad hn ha h hl;obtain⟨n,rfl⟩:∃k,n=k+1:=⟨n-1,oA⟩
  rw[qdx,qiq];have e:Lib.join ((x::b2::r).map itoa) [44]=itoa x++44::Lib.join ((b2::r).map itoa) [44]:=by simp only[List.map_cons];rw[qbj];rfl
  rw[e]at hl ⊢;have hl':(itoa x).length+((Lib.join ((b2::r).map itoa) [44]).length+1)<=100000:=by simpa using hl
  rw[ixS 44 _ _ (qfc rfl x),qB,bz,Int.add_zero,bu (x:=((itoa x).length:Int)) oA oA,ao ⟨oA,oE⟩]
  rw[show List.take (((itoa x).length:Nat):Int).toNat (itoa x++44::Lib.join ((b2::r).map itoa) [44])=itoa x by rw[show(((itoa x).length:Nat):Int).toNat=(itoa x).length by omega,List.take_left]]
  unfold qao;obtain⟨k,hk⟩:∃k:Nat,x=k:=⟨x.toNat,by have:=h x qH;omega⟩
  have hx:itoa x=decDigits k:=by rw[hk,n9]
  have hk2:k<=1000000000000:=by have:=h x qH;omega
  rw[hx,yj k hk2,← hk,← hx];rw[qB,ao oK,qB,show((([44]:Bs).length:Nat):Int)=1 from rfl,cd _,ao ⟨oA,oE⟩]
  rw[show List.drop (((itoa x).length+1:Nat):Int).toNat (itoa x++44::Lib.join ((b2::r).map itoa) [44])=Lib.join ((b2::r).map itoa) [44] by rw[show(((itoa x).length+1:Nat):Int).toNat=(itoa x).length+1 by omega,← List.drop_drop,List.drop_left];rfl]
  obtain⟨s,hs⟩:=ih b2 (acc++[x]) n u me sq su pl og zn y mo da hh mi ss tz le fr ev co un hu go gs wd ex ad (by simp at hn;omega) (by simp at ha ⊢;omega) (fun z hz=>h z (qE _ hz)) oA
  exact⟨s,hs.trans oC⟩
def zbc(l:List Int)(u:Bs)(me sq:Int)(su pl og zn:Bs)(y mo da hh mi ss tz le fr ev co un:Int)(hu go:Bool)(gs:List (Bs×Int))(wd ex ad:List Int)(hl:l.length<=300)(h:∀z∈l,0<=z/\z<=1000000000000):qdj FU (ef l) u me sq su pl og zn y mo da hh mi ss tz le fr ev co un hu go gs wd ex ad=some (u,me,sq,su,pl,og,zn,y,mo,da,hh,mi,ss,tz,le,fr,ev,co,un,hu,go,l,gs,wd,ex,ad):=by
 unfold qdj
 cases l with
 |nil=>rw[ar]|cons x r=>
  have hb:=wz (x::r) (fun z hz=>by have:=h z hz;exact⟨oA,oA⟩)
  have ne:ef (x::r)≠[]:=by
   unfold ef;rw[List.map_cons,Lib.join_cons];have:=(nf x (by have:=h x qH;omega) (by have:=h x qH;omega)).1
   intro q;have:=congrArg List.length q;rw[qM]at this;have z:([]:Bs).length=0:=rfl;omega
  rw[ak (by simp[ne])]
  rw[show nq (ef (x::r)) [44]=some ([44],ef (x::r),0) from rfl,qB]
  obtain⟨s,hs⟩:=zpj r x [] FU u me sq su pl og zn y mo da hh mi ss tz le fr ev co un hu go gs wd ex ad (Nat.lt_of_le_of_lt (show r.length<=300 by simp at hl;omega) oD) (by simp at hl ⊢;omega) h (by unfold ef at hb;omega)
  unfold qnp;rw[ak]
  unfold ef;dsimp only;rw[hs];rfl
def zpk(r:List Int):∀(x:Int)(acc:List Int)(n:Nat)(u:Bs)(me sq:Int)(su pl og zn:Bs)(y mo da hh mi ss tz le fr ev co un:Int)(hu go:Bool)(gs:List (Bs×Int))(wd ex ad:List Int),r.length<n->acc.length+r.length<=1000->(∀z∈x::r,ip z)->(Lib.join ((x::r).map itoa) [44]).length<=100000 ->
  ∃s,qdy FU n [44] (Lib.join ((x::r).map itoa) [44]) 0 u me sq su pl og zn y mo da hh mi ss tz le fr ev co un hu go acc gs wd ex ad=some ([44],s,0,(u,me,sq,su,pl,og,zn,y,mo,da,hh,mi,ss,tz,le,fr,ev,co,un,hu,go,acc++x::r,gs,wd,ex,ad)):=by
 induction r with
 |nil=>
  intro x acc n u me sq su pl og zn y mo da hh mi ss tz le fr ev co un hu go gs wd ex ad hn ha h hl;obtain⟨n,rfl⟩:∃k,n=k+1:=⟨n-1,oA⟩
  rw[qdy,qir];simp only[List.map_cons,List.map_nil,Lib.join_one]at hl ⊢;rw[ixN 44 _ (qfc rfl x),qB,ao oD]
  unfold qap;rw[q2b x (h x qH)];rw[qB,ao oK,qB]
  exact⟨itoa x,rfl⟩
 |cons b2 r ih=>
  intro x acc n u me sq su pl og zn y mo da hh mi ss tz le fr ev co un hu go gs wd ex ad hn ha h hl;obtain⟨n,rfl⟩:∃k,n=k+1:=⟨n-1,oA⟩
  rw[qdy,qir];have e:Lib.join ((x::b2::r).map itoa) [44]=itoa x++44::Lib.join ((b2::r).map itoa) [44]:=by simp only[List.map_cons];rw[qbj];rfl
  rw[e]at hl ⊢;have hl':(itoa x).length+((Lib.join ((b2::r).map itoa) [44]).length+1)<=100000:=by simpa using hl
  rw[ixS 44 _ _ (qfc rfl x),qB,bz,Int.add_zero,bu (x:=((itoa x).length:Int)) oA oA,ao ⟨oA,oE⟩]
  rw[show List.take (((itoa x).length:Nat):Int).toNat (itoa x++44::Lib.join ((b2::r).map itoa) [44])=itoa x by rw[show(((itoa x).length:Nat):Int).toNat=(itoa x).length by omega,List.take_left]]
  unfold qap;rw[q2b x (h x qH)];rw[qB,ao oK,qB,show((([44]:Bs).length:Nat):Int)=1 from rfl,cd _,ao ⟨oA,oE⟩]
  rw[show List.drop (((itoa x).length+1:Nat):Int).toNat (itoa x++44::Lib.join ((b2::r).map itoa) [44])=Lib.join ((b2::r).map itoa) [44] by rw[show(((itoa x).length+1:Nat):Int).toNat=(itoa x).length+1 by omega,← List.drop_drop,List.drop_left];rfl]
  obtain⟨s,hs⟩:=ih b2 (acc++[x]) n u me sq su pl og zn y mo da hh mi ss tz le fr ev co un hu go gs wd ex ad (by simp at hn;omega) (by simp at ha ⊢;omega) (fun z hz=>h z (qE _ hz)) oA
  exact⟨s,hs.trans oC⟩
def zbd(l:List Int)(u:Bs)(me sq:Int)(su pl og zn:Bs)(y mo da hh mi ss tz le fr ev co un:Int)(hu go:Bool)(gs:List (Bs×Int))(wd ex ad:List Int)(hl:l.length<=300)(h:∀z∈l,ip z):qdk FU (ef l) u me sq su pl og zn y mo da hh mi ss tz le fr ev co un hu go gs wd ex ad=some (u,me,sq,su,pl,og,zn,y,mo,da,hh,mi,ss,tz,le,fr,ev,co,un,hu,go,l,gs,wd,ex,ad):=by
 unfold qdk
 cases l with
 |nil=>rw[ar]|cons x r=>
  have hb:=wz (x::r) (fun z hz=>by have:=h z hz;exact this)
  have ne:ef (x::r)≠[]:=by
   unfold ef;rw[List.map_cons,Lib.join_cons];have:=(nf x (h x qH).1 (h x qH).2).1;intro q;have:=congrArg List.length q;rw[qM]at this;have z:([]:Bs).length=0:=rfl;omega
  rw[ak (by simp[ne])]
  rw[show nq (ef (x::r)) [44]=some ([44],ef (x::r),0) from rfl,qB]
  obtain⟨s,hs⟩:=zpk r x [] FU u me sq su pl og zn y mo da hh mi ss tz le fr ev co un hu go gs wd ex ad (Nat.lt_of_le_of_lt (show r.length<=300 by simp at hl;omega) oD) (by simp at hl ⊢;omega) h (by unfold ef at hb;omega)
  unfold qnq;rw[ak]
  unfold ef;dsimp only;rw[hs];rfl
end Go.Sym
namespace Go.Sym
open Go.Lib (decDigits itoa atoiAll parseUint10 parseMag)
def kz(c:UInt8)(w r:Bs)(h:∀x∈w,x≠c)(hl:(w++c::r).length<=1000000):qih (w++c::r) [c]=some (w,r,true):=by
 have ac:(w++c::r).length=w.length+(r.length+1):=oC
 have hi:ju (w++c::r) [c]=some (w.length:Int):=by
  unfold ju;rw[ao oA,ixc c w r h]
 unfold qih quk;rw[hi];simp only[qB];rw[ao oA,ao ⟨oA,oA⟩,show((([c]:Bs).length:Nat):Int)=1 from rfl,cd _,ao ⟨oA,oA⟩,show((w.length:Nat):Int).toNat=w.length by omega,show((w.length+1:Nat):Int).toNat=w.length+1 by omega,List.take_left,← List.drop_drop,List.drop_left]
 rfl
def zam(w:Bs):∀ab aa:List Bs,(∀x∈ab,x≠w)->(ab++w::aa).idxOf w=ab.length
 |[],aa,_=>by simp|x::ab,aa,h=>by
  rw[wK,List.idxOf_cons,show(x==w)=false by simp[h x qH],zam w ab aa fun y hy=>h y (qE _ hy)];rfl
def zo5(l:List Bs)(hl:l.length<=1000)(w:Bs)(n:Nat):∀(ab aa:List Bs),l=ab++aa->aa.length<n->w∈aa->(∀x∈ab,x≠w)->qig FU n l w (l.length:Int) (ab.length:Int)=some (((l.idxOf w:Nat)):Int):=by
 induction n with
 |zero=>intro ab aa _ h;omega|succ n ih=>
  intro ab aa e hn hw hp;have hll:=congrArg List.length e;rw[qM]at hll;rw[qig,qvk]
  cases aa with
  |nil=>cases hw
  |cons x aa=>
   simp only[qL]at hll hn;rw[ao oA,show ap l (ab.length:Int)=some x by rw[e];exact gz _ _ _,qB]
   by_cases q:w=x
   ·subst q;rw[ar]
    congr 1;rw[e,zam w ab aa hp]
   ·rw[ak (by simp[q]),cd _]
    have:=ih (ab++[x]) aa (by rw[e];simp) oA (by
     rcases List.mem_cons.1 hw with h|h
     ·exact absurd h q
     ·exact h) (fun z hz=>by
     rcases List.mem_append.1 hz with hz|hz
     ·exact hp z hz
     ·rw[List.mem_singleton]at hz;subst hz;exact fun h=>q h.symm)
    rw[qM,wD]at this;exact this
def zo4(l:List Bs)(hl:l.length<=1000)(w:Bs)(hw:w∈l):qvj FU l w=some ((l.idxOf w:Nat):Int):=
 zo5 l hl w FU [] l rfl (Nat.lt_of_le_of_lt hl oD) hw (fun x hx=>by cases hx)
def q0y(l:List Bs)(hl:l.length<=1000)(w:Bs)(hw:w∈l)(u:Bs)(me sq:Int)(su pl og zn:Bs)(y mo da hh mi ss tz le fr ev co un:Int)(hu go:Bool)(gs:List (Bs×Int))(wd ex ad:List Int):qaq FU w u me sq su pl og zn y mo da hh mi ss tz le fr ev co un hu go l gs wd ex ad=some (((l.idxOf w:Nat):Int),(u,me,sq,su,pl,og,zn,y,mo,da,hh,mi,ss,tz,le,fr,ev,co,un,hu,go,gs,wd,ex,ad)):=by
 unfold qaq;rw[zo4 l hl w hw,qB,decide_eq_true oA,qqg];rfl
def zbx(i:Nat)(h:i<5):jr.getD i []∈jr/\jr.idxOf (jr.getD i [])=i:=by
 match i,h with|0,_|1,_|2,_|3,_|4,_=>decide
def zts(i:Nat)(h:i<4):jl.getD i []∈jl/\jl.idxOf (jl.getD i [])=i/\∀c∈jl.getD i [],c≠32:=by
 match i,h with|0,_|1,_|2,_|3,_=>decide
def znz(i:Nat)(h:i<5):li.getD i []∈li/\li.idxOf (li.getD i [])=i/\∀c∈li.getD i [],c≠59:=by
 match i,h with|0,_|1,_|2,_|3,_|4,_=>decide
def zot(w:Bs)(n:Nat):∀(aa ab acc:Bs),w=ab++dv aa->aa.length<n->w.length<=100000->acc.length+aa.length<=100000->qdq FU n w (ab.length:Int) acc=some (acc++aa):=by
 induction n with
 |zero=>intro aa ab acc _ h;omega|succ n ih=>
  intro aa ab acc e hn hw ha;have hl:=congrArg List.length e;rw[qM]at hl;rw[qdq,qdp]
  cases aa with
  |nil=>rw[bz (by simp[dv,ei]at hl;omega),List.append_nil]|cons c aa=>
   rw[qL]at hn ha;rw[qpp]at e hl;have two:∀d:UInt8,w=ab++([92,d]++dv aa)->(if d=110 then 10 else d)=c->qdp FU (qdq FU n) w (ab.length:Int) acc=some (acc++c::aa):=fun d e hd=>by
    have hl:=congrArg List.length e;simp only[qM,qL,qZ]at hl;rw[qdp,ao oA,show ap w (ab.length:Int)=some 92 by rw[e];exact gz _ _ _,qB,ar,cd _,decide_eq_true oA]
    unfold qh8;have i2:ap w ((ab.length+1:Nat):Int)=some d:=by
     rw[e,show ab++([92,d]++dv aa)=(ab++[92])++(d::dv aa) by simp]
     have:=gz (ab++[92]) d (dv aa);rw[qM,wD]at this;exact this
    rw[ar rfl,cd _,i2,qB,cd _]
    have:=ih aa (ab++[92,d]) (acc++[c]) (by rw[e];simp) oA hw oE
    rw[qM,show([92,d]:Bs).length=2 from rfl]at this
    by_cases q:d=110
    ·rw[qX q]at hd;subst q hd;rw[ar,ao oK]
     exact this.trans oC
    ·rw[qW q]at hd;subst hd;rw[ak (by simp[q]),ao oK]
     exact this.trans oC
   rw[qdp]at two;by_cases c1:c=92
   ·subst c1;exact two 92 e rfl
   rw[qW c1]at e hl;by_cases c2:c=10
   ·subst c2;exact two 110 e rfl
   rw[qW c2]at e hl;have hl:w.length=ab.length+(1+(dv aa).length):=by simpa [Nat.add_comm] using hl
   rw[ao oA,show ap w (ab.length:Int)=some c by rw[e];exact gz _ _ _,qB,ak oU]
   unfold qh8;rw[ak rfl,ao oK,cd _]
   have:=ih aa (ab++[c]) (acc++[c]) (by rw[e];simp) oA hw oE
   rw[qM,wD]at this;exact this.trans oC
def zc0(s:Bs)(h:s.length<=500):qm4 FU (dv s)=some s:=by
 have:=qe1 s;exact zot (dv s) FU s [] [] rfl (Nat.lt_of_le_of_lt h oD) oA oE
def zcu:∀(k:Nat)(l:Bs),parseUint10 0 (List.replicate k 48++l)=parseUint10 0 l|0,l=>rfl|k+1,l=>by rw[List.replicate_succ,wK,parseUint10,qX oD,qW oD,qW oD];exact zcu k l
def qbv(n k:Nat):∀c∈bi (n:Int) k,48<=c.toNat/\c.toNat<=57:=fun c hc=>by
 unfold bi at hc;rw[n9]at hc;rcases List.mem_append.1 hc with hc|hc
 ·rw[(List.mem_replicate.1 hc).2];decide
 ·exact qet n c hc
def zqo(n k:Nat)(h:n<9223372036854775808):atoiAll (bi (n:Int) k) = .ok (n:Int):=by
 have hp:parseUint10 0 (bi (n:Int) k) = .ok n:=by
  unfold bi;rw[n9,zcu,zcs n h]
 have hd:=qbv n k
 cases hs:bi (n:Int) k with
 |nil=>unfold bi at hs;rw[n9]at hs;exact absurd (List.append_eq_nil_iff.1 hs).2 (qpd n)|cons c r=>
  rw[hs]at hp hd;have hc:=hd c qH;unfold atoiAll;simp only[];rw[qW (c:=c.toNat=43\/c.toNat=45) oA,parseMag,qW oC,hp]
  simp only[];rw[qW oA,qW oA,qW oA]
def qfm(n k:Nat)(hk:1<=k:=by omega)(h:n<10 ^ k:=by omega):(bi (n:Int) k).length=k:=by
 have:=tn k n h hk;unfold bi;rw[n9,qM,List.length_replicate];omega
def qfn(a b:Nat)(p r:Bs)(n k:Nat)(h:n<9223372036854775808)(hp:p.length=a)(hk:(bi (n:Int) k).length=b-a)(hb:a<=b)(hl:b<=1000)(w:Bs)(e:w=p++(bi (n:Int) k++r)):kq (a:Int) (b:Int) w=some ((n:Int),w):=by
 have hw:=congrArg List.length e;simp only[qM]at hw;unfold kq vd wb;rw[ao ⟨oA,oA,oA⟩]
 rw[show List.take ((b:Int).toNat-(a:Int).toNat) (List.drop (a:Int).toNat w)=bi (n:Int) k by
  rw[e,show(a:Int).toNat=p.length by omega,List.drop_left,show(b:Int).toNat-p.length=(bi (n:Int) k).length by omega,List.take_left]]
 rw[ao oA,qB,zqo n k h];rfl
def zmw(s:Bs)(hs:s.length<=1000)(h:∀c∈s,48<=c.toNat/\c.toNat<=57)(n:Nat):∀(ab aa:Bs),s=ab++aa->aa.length<n->qhm FU n s (s.length:Int) (ab.length:Int)=some (!(s==([]:Bs))):=by
 induction n with
 |zero=>intro ab aa _ h;omega|succ n ih=>
  intro ab aa e hn;have hl:=congrArg List.length e;rw[qM]at hl;rw[qhm,qto]
  cases aa with
  |nil=>rw[bz (by simp at hl;omega)]|cons c aa=>
   simp only[qL]at hl hn;have hc:=h c (by rw[e];simp)
   rw[ao oA,show ap s (ab.length:Int)=some c by rw[e];exact gz _ _ _]
   simp only[qB];rw[bz (fun q=>by rw[UInt8.lt_iff_toNat_lt]at q;have:(48:UInt8).toNat=48:=rfl;omega),bz (fun q=>by rw[UInt8.lt_iff_toNat_lt]at q;have:(57:UInt8).toNat=57:=rfl;omega),cd _]
   have:=ih (ab++[c]) aa (by rw[e];simp) oA
   rw[qM,wD]at this;exact this
def q86(s:Bs)(hs:s.length<=1000)(h:∀c∈s,48<=c.toNat/\c.toNat<=57)(h0:1<=s.length):qhl FU s=some true:=by
 have:=zmw s hs h FU [] s rfl (Nat.lt_of_le_of_lt hs oD)
 refine Eq.trans this ?_
 cases s with|nil=>simp at h0|cons _ _=>rfl
def ztv(d1 d2 d3 d4 d5 d6:Nat)(h1:d1<10000)(h2:d2<100)(h3:d3<100)(h4:d4<100)(h5:d5<100)(h6:d6<100)(z:Int)(u:Bs)(me sq:Int)(su pl og zn:Bs)(y mo da hh mi ss tz le fr ev co un:Int)(hu go:Bool)(gs:List (Bs×Int))(wd ex ad:List Int):qdm FU (uo ((d1:Int),(d2:Int),(d3:Int),(d4:Int),(d5:Int),(d6:Int),z)) u me sq su pl og zn y mo da hh mi ss tz le fr ev co un hu go gs wd ex ad=some (u,me,sq,su,pl,og,zn,(d1:Int),(d2:Int),(d3:Int),(d4:Int),(d5:Int),(d6:Int),(0:Int),le,fr,ev,co,un,hu,go,gs,wd,ex,ad):=by
 have l1:=qfm d1 4
 have l2:=qfm d2 2
 have l3:=qfm d3 2
 have l4:=qfm d4 2
 have l5:=qfm d5 2
 have l6:=qfm d6 2
 have g1:=qbv d1 4;have g2:=qbv d2 2;have g3:=qbv d3 2;have g4:=qbv d4 2;have g5:=qbv d5 2;have g6:=qbv d6 2;obtain⟨w,hw⟩:∃w,w=uo ((d1:Int),(d2:Int),(d3:Int),(d4:Int),(d5:Int),(d6:Int),z):=⟨_,rfl⟩;rw[← hw];have hw:w=bi (d1:Int) 4++(bi (d2:Int) 2++(bi (d3:Int) 2++(84::(bi (d4:Int) 2++(bi (d5:Int) 2++bi (d6:Int) 2))))):=by
  rw[hw];unfold uo;simp
 have p1:=qfn 0 4 [] _ d1 4 oA rfl l1 oA oA w hw
 have p2:=qfn 4 6 (bi d1 4) _ d2 2 oA l1 l2 oA oA w hw
 have p3:=qfn 6 8 (bi d1 4++bi d2 2) (84::(bi d4 2++(bi d5 2++bi d6 2))) d3 2 oA oW l3 oA oA w (by rw[hw];simp)
 have p4:=qfn 9 11 (bi d1 4++(bi d2 2++(bi d3 2++[84]))) (bi d5 2++bi d6 2) d4 2 oA oG l4 oA oA w (by rw[hw];simp)
 have p5:=qfn 11 13 (bi d1 4++(bi d2 2++(bi d3 2++([84]++bi d4 2)))) (bi d6 2) d5 2 oA oG l5 oA oA w (by rw[hw];simp)
 have p6:=qfn 13 15 (bi d1 4++(bi d2 2++(bi d3 2++([84]++(bi d4 2++bi d5 2))))) [] d6 2 oA oG l6 oA oA w (by rw[hw];simp)
 have lw:w.length=15:=by rw[hw];simp only[qM,qL];omega
 have t8:List.take 8 w=bi d1 4++(bi d2 2++bi d3 2):=by
  rw[hw,show bi (d1:Int) 4++(bi (d2:Int) 2++(bi (d3:Int) 2++(84::(bi (d4:Int) 2++(bi (d5:Int) 2++bi (d6:Int) 2)))))=(bi d1 4++(bi d2 2++bi d3 2))++(84::(bi d4 2++(bi d5 2++bi d6 2))) by simp]
  exact List.take_left' oM
 have t9:List.drop 9 w=bi d4 2++(bi d5 2++bi d6 2):=by
  rw[hw,show bi (d1:Int) 4++(bi (d2:Int) 2++(bi (d3:Int) 2++(84::(bi (d4:Int) 2++(bi (d5:Int) 2++bi (d6:Int) 2)))))=(bi d1 4++(bi d2 2++(bi d3 2++[84])))++(bi d4 2++(bi d5 2++bi d6 2)) by simp]
  exact List.drop_left' oG
 have i8:ap w 8=some 84:=by
  have:=gz (bi (d1:Int) 4++(bi (d2:Int) 2++bi (d3:Int) 2)) 84 (bi d4 2++(bi d5 2++bi d6 2));rw[show((bi (d1:Int) 4++(bi (d2:Int) 2++bi (d3:Int) 2)).length:Int)=8 by simp only[qM];omega]at this
  rw[← this,hw];congr 1;simp
 have dg:∀a b c:Bs,(∀x∈a,48<=x.toNat/\x.toNat<=57)->(∀x∈b,48<=x.toNat/\x.toNat<=57)->(∀x∈c,48<=x.toNat/\x.toNat<=57)->∀x∈a++(b++c),48<=x.toNat/\x.toNat<=57:=fun a b c ha hb hc x hx=>by
  rcases List.mem_append.1 hx with hx|hx
  ·exact ha x hx
  ·rcases List.mem_append.1 hx with hx|hx
   ·exact hb x hx
   ·exact hc x hx
 unfold qdm;rw[ib,qW oA,i8,qB,ak,ao ⟨oA,oA⟩,show(8:Int).toNat=8 from rfl,t8,q86 _ oM (dg _ _ _ g1 g2 g3) oM,qB,ak,ao ⟨oA,oA⟩,show(9:Int).toNat=9 from rfl,t9,q86 _ oM (dg _ _ _ g4 g5 g6) oM,qB]
 unfold qar qm0;rw[ak]
 have p1:kq 0 4 w=some ((d1:Int),w):=p1;have p2:kq 4 6 w=some ((d2:Int),w):=p2;have p3:kq 6 8 w=some ((d3:Int),w):=p3;have p4:kq 9 11 w=some ((d4:Int),w):=p4;have p5:kq 11 13 w=some ((d5:Int),w):=p5;have p6:kq 13 15 w=some ((d6:Int),w):=p6;simp only[p1,p2,p3,p4,p5,p6,qB]
end Go.Sym
namespace Go.Sym
open Go.Lib (decDigits itoa)
def qo7(c:UInt8)(w r:Bs)(h:∀x∈w,x≠c)(hl:(w++c::r).length<=1000000)(i m n:Nat)(hm:i<m)(hm2:m<=100)(L:List Bs)(hL:L.length=m+1) :
  sx FU (n+1) (w++c::r) [c] 0 (m:Int) (i:Int) L=sx FU n r [c] 0 (m:Int) ((i+1:Nat):Int) (L.set i w):=by
 have ac:(w++c::r).length=w.length+(r.length+1):=oC
 have hg:L[((i:Nat):Int).toNat]? = some L[i]:=by rw[show((i:Nat):Int).toNat=i by omega];exact List.getElem?_eq_getElem oA
 rw[sx,qik,ao oA,ixS c w r h hl,qB,bz,Int.add_zero,bu (x:=(w.length:Int)) oA oA,ao oA,ao oA,hg,qB,
  show((List.length ([c]:Bs):Nat):Int)=1 from rfl,cd _,ao oA,cd _]
 congr 1
 ·rw[show((w.length+1:Nat):Int).toNat=w.length+1 by omega,← List.drop_drop,List.drop_left];rfl
 ·rw[show((i:Nat):Int).toNat=i by omega,show((w.length:Nat):Int).toNat=w.length by omega,List.take_left]
def zto(a b c d e:Bs)(ha:∀x∈a,x≠59)(hb:∀x∈b,x≠59)(hc:∀x∈c,x≠59)(hd:∀x∈d,x≠59)(he:∀x∈e,x≠59)(hl:a.length+b.length+c.length+d.length+e.length<=100000) :
  qnl FU (Lib.join [a,b,c,d,e] [59]) [59]=some [a,b,c,d,e]:=by
 have ej:Lib.join [a,b,c,d,e] [59]=a++59::(b++59::(c++59::(d++59::e))):=by
  rw[qbj,qbj,qbj,qbj,Lib.join_one];rfl
 have l0:(a++59::(b++59::(c++59::(d++59::e)))).length<=1000000:=by simp only[qM,qL];omega
 have l1:(b++59::(c++59::(d++59::e))).length<=1000000:=by simp only[qM,qL];omega
 have l2:(c++59::(d++59::e)).length<=1000000:=by simp only[qM,qL];omega
 have l3:(d++59::e).length<=1000000:=by simp only[qM,qL];omega
 have ct:∀w:Bs,(∀x∈w,x≠59)->w.count 59=0:=fun w h=>List.count_eq_zero.2 fun q=>h 59 q rfl
 have hcnt:qnk FU (a++59::(b++59::(c++59::(d++59::e)))) [59]=some 4:=by
  unfold qnk;rw[ak,ar]
  show(some ((Lib.countByte (a++59::(b++59::(c++59::(d++59::e)))) 59:Nat):Int):Option Int)=some 4;have:Lib.countByte (a++59::(b++59::(c++59::(d++59::e)))) 59=4:=by
   unfold Lib.countByte;simp[List.count_append,List.count_cons,ct a ha,ct b hb,ct c hc,ct d hd,ct e he]
  rw[this];rfl
 rw[ej];have s1:=qo7 59 a (b++59::(c++59::(d++59::e))) ha l0 0 4 99999999 oA oA [[],[],[],[],[]] rfl
 have s2:=qo7 59 b (c++59::(d++59::e)) hb l1 1 4 99999998 oA oA [a,[],[],[],[]] rfl
 have s3:=qo7 59 c (d++59::e) hc l2 2 4 99999997 oA oA [a,b,[],[],[]] rfl
 have s4:=qo7 59 d e hd l3 3 4 99999996 oA oA [a,b,c,[],[]] rfl
 have s5:sx FU 99999996 e [59] 0 ((4:Nat):Int) ((3+1:Nat):Int) [a,b,c,d,[]]=some [a,b,c,d,e]:=by
  rw[show(99999996:Nat)=99999995+1 from rfl,sx,qik,ak];rfl
 have:=(((s1.trans s2).trans s3).trans s4).trans s5;unfold qnl qij;rw[ak,ak,ar,hcnt,qB]
 unfold qil;have e5:(if af ((List.length (a++59::(b++59::(c++59::(d++59::e)))):Int)+(1:Int))<af (4+1) then af ((List.length (a++59::(b++59::(c++59::(d++59::e)))):Int)+(1:Int)) else af (4+1))=5:=by
  rw[cd _,show af (4+1)=5 from rfl,qW oL]
 rw[e5,ar]
 exact congrArg (fun x=>Option.bind x some) this
def zqe(l:List Int){c:UInt8}(hc:qbq c=false)(h:c≠44):∀x∈ef l,x≠c:=by
 have:∀l:List Bs,(∀w∈l,∀x∈w,x≠c)->∀x∈Lib.join l [44],x≠c:=by
  intro l
  induction l with
  |nil=>intro _ x hx;cases hx
  |cons a l ih=>
   intro h2
   cases l with
   |nil=>rw[Lib.join_one];exact h2 a qH|cons b l=>
    rw[qbj];intro x hx;rcases List.mem_append.1 hx with hx|hx
    ·exact h2 a qH x hx
    ·rcases List.mem_append.1 hx with hx|hx
     ·rw[List.mem_singleton]at hx;subst hx;exact fun q=>h q.symm
     ·exact ih (fun w hw=>h2 w (qE _ hw)) x hx
 exact this _ fun w hw=>by obtain⟨n,_,rfl⟩:=List.mem_map.1 hw;exact qfc hc n
def zsj(i e c:Nat)(hi:i<5)(he:e<=1000000000000)(hc:c<=1000000000000)(b:Bool)(v:Int)(hv:b=true->ip v)(h0:b=false->v=0)(l xl al:List Int)(hl:l.length<=300)(hw:∀z∈l,0<=z/\z<=1000000000000)(u:Bs)(me sq:Int)(su pl og zn:Bs)(y mo da hh mi ss tz le fr ev co un:Int)(hu go:Bool)(gs:List (Bs×Int))(wd ex ad:List Int) :
  qdl FU (pu ((i:Int),(e:Int),(c:Int),v,b,l,xl,al)) u me sq su pl og zn y mo da hh mi ss tz le fr ev co un hu go gs wd ex ad=some (u,me,sq,su,pl,og,zn,y,mo,da,hh,mi,ss,tz,le,(i:Int),(e:Int),(c:Int),v,b,go,gs,l,ex,ad):=by
 obtain⟨f1,f2,f3⟩:=znz i hi;have lf:=q98 i;have le':=tn 13 e oA oA
 have lc:=tn 13 c oA oA
 have ln:=wz l (fun z hz=>by have:=hw z hz;exact⟨oA,oA⟩)
 have no:∀n:Nat,∀x∈decDigits n,x≠59:=fun n x hx q=>by have:=qet n x hx;subst q;simp at this
 have hu2:(∀x∈px ((i:Int),(e:Int),(c:Int),v,b,l,xl,al),x≠59)/\(px ((i:Int),(e:Int),(c:Int),v,b,l,xl,al)).length<=14:=by
  unfold px;cases b
  ·exact⟨fun x hx=>(by cases hx),oC⟩
  ·exact⟨qfc rfl v,(nf v (hv rfl).1 (hv rfl).2).2⟩
 have hrep:pu ((i:Int),(e:Int),(c:Int),v,b,l,xl,al)=Lib.join [li.getD i [],decDigits e,decDigits c,px ((i:Int),(e:Int),(c:Int),v,b,l,xl,al),ef l] [59]:=by
  unfold pu;simp only[n9,qY]
 unfold qdl;rw[hrep,zto _ _ _ _ _ f3 (no e) (no c) hu2.1 (zqe l rfl oD) (by have:=hu2.2;omega),qB,ak,q99]
 simp only[qB,show ∀a b c d e:Bs,ap [a,b,c,d,e] 0=some a from fun _ _ _ _ _=>rfl,show ∀a b c d e:Bs,ap [a,b,c,d,e] 1=some b from fun _ _ _ _ _=>rfl,show ∀a b c d e:Bs,ap [a,b,c,d,e] 2=some c from fun _ _ _ _ _=>rfl,show ∀a b c d e:Bs,ap [a,b,c,d,e] 3=some d from fun _ _ _ _ _=>rfl,show ∀a b c d e:Bs,ap [a,b,c,d,e] 4=some e from fun _ _ _ _ _=>rfl]
 rw[q0y li oD _ f1,qB]
 dsimp only;rw[yj e he,qB];dsimp only;rw[yj c hc,qB];dsimp only;rw[f2];unfold px;cases b
 ·rw[h0 rfl];dsimp only;rw[qW oD,ak,zbc l _ _ _ _ _ _ _ _ _ _ _ _ _ _ _ _ _ _ _ _ _ _ _ _ _ hl hw];rfl
 ·have ne:itoa v≠[]:=fun q=>by have:=(nf v (hv rfl).1 (hv rfl).2).1;rw[q]at this;simp at this
  have ne':(!(itoa v==([]:Bs)))=true:=by simp[ne]
  dsimp only;rw[qX rfl,ne',ar rfl,q2b v (hv rfl),qB];dsimp only;rw[zbc l _ _ _ _ _ _ _ _ _ _ _ _ _ _ _ _ _ _ _ _ _ _ _ _ _ hl hw];rfl
def zn6(i:Nat)(hi:i<4)(a:Bs)(ha:a.length<=1000)(u:Bs)(me sq:Int)(su pl og zn:Bs)(y mo da hh mi ss tz le fr ev co un:Int)(hu go:Bool)(gs:List (Bs×Int))(wd ex ad:List Int)(hg:gs.length<=1000:=by omega):qdi FU (jl.getD i []++32::a) u me sq su pl og zn y mo da hh mi ss tz le fr ev co un hu go gs wd ex ad=some (u,me,sq,su,pl,og,zn,y,mo,da,hh,mi,ss,tz,le,fr,ev,co,un,hu,go,gs++[(a,(i:Int)+1)],wd,ex,ad):=by
 obtain⟨f1,f2,f3⟩:=zts i hi;have lf:=qrd i;unfold qdi;rw[kz 32 _ a f3 oL,qB]
 dsimp only;rw[qqg,qB,zeo,qB];dsimp only;rw[q0y jl oD _ f1,qB]
 dsimp only;rw[f2,ao oK,bu,show(1:Int)+(i:Int)=(i:Int)+1 by omega]
def zr0(i:Nat)(hi:i<5)(u:Bs)(me sq:Int)(su pl og zn:Bs)(y mo da hh mi ss tz le fr ev co un:Int)(hu go:Bool)(gs:List (Bs×Int))(wd ex ad:List Int)(hv:(jr.getD i []).length<=100000:=by omega):dx FU ([77,69,84,72,79,68]++58::jr.getD i []) u me sq su pl og zn y mo da hh mi ss tz le fr ev co un hu go gs wd ex ad=some (u,(i:Int)+1,sq,su,pl,og,zn,y,mo,da,hh,mi,ss,tz,le,fr,ev,co,un,hu,go,gs,wd,ex,ad):=by
 unfold dx;rw[kz 58 [77,69,84,72,79,68] (jr.getD i []) oD oG,qB]
 dsimp only;rw[ak,ar,zbw,qB,q0y jr oD _ (zbx i hi).1,qB,(zbx i hi).2,bu (x:=1+(i:Int)) oA oA,show(1:Int)+(i:Int)=(i:Int)+1 by omega]
def zr8(v:Bs)(u:Bs)(me sq:Int)(su pl og zn:Bs)(y mo da hh mi ss tz le fr ev co un:Int)(hu go:Bool)(gs:List (Bs×Int))(wd ex ad:List Int)(hv:(v).length<=100000:=by omega):dx FU ([85,73,68]++58::v) u me sq su pl og zn y mo da hh mi ss tz le fr ev co un hu go gs wd ex ad=some (v,me,sq,su,pl,og,zn,y,mo,da,hh,mi,ss,tz,le,fr,ev,co,un,hu,go,gs,wd,ex,ad):=by
 unfold dx;rw[kz 58 [85,73,68] (v) oD oG,qB]
 dsimp only;rw[ak,ak,ar]
def zr5(n:Nat)(hn:n<=1000000000000)(u:Bs)(me sq:Int)(su pl og zn:Bs)(y mo da hh mi ss tz le fr ev co un:Int)(hu go:Bool)(gs:List (Bs×Int))(wd ex ad:List Int)(hv:(decDigits n).length<=100000:=by omega):dx FU ([83,69,81,85,69,78,67,69]++58::decDigits n) u me sq su pl og zn y mo da hh mi ss tz le fr ev co un hu go gs wd ex ad=some (u,me,(n:Int),su,pl,og,zn,y,mo,da,hh,mi,ss,tz,le,fr,ev,co,un,hu,go,gs,wd,ex,ad):=by
 unfold dx;rw[kz 58 [83,69,81,85,69,78,67,69] (decDigits n) oD oG,qB]
 dsimp only;rw[ak,ak,ak,ar,yj n hn,qB]
def zr7(s:Bs)(hs:s.length<=500)(u:Bs)(me sq:Int)(su pl og zn:Bs)(y mo da hh mi ss tz le fr ev co un:Int)(hu go:Bool)(gs:List (Bs×Int))(wd ex ad:List Int)(hv:(dv s).length<=100000:=by omega):dx FU ([83,85,77,77,65,82,89]++58::dv s) u me sq su pl og zn y mo da hh mi ss tz le fr ev co un hu go gs wd ex ad=some (u,me,sq,s,pl,og,zn,y,mo,da,hh,mi,ss,tz,le,fr,ev,co,un,hu,go,gs,wd,ex,ad):=by
 unfold dx;rw[kz 58 [83,85,77,77,65,82,89] (dv s) oD oG,qB]
 dsimp only;rw[ak,ak,ak,ak,ar,zc0 s hs,qB]
def zr3(s:Bs)(hs:s.length<=500)(u:Bs)(me sq:Int)(su pl og zn:Bs)(y mo da hh mi ss tz le fr ev co un:Int)(hu go:Bool)(gs:List (Bs×Int))(wd ex ad:List Int)(hv:(dv s).length<=100000:=by omega):dx FU ([80,76,65,67,69]++58::dv s) u me sq su pl og zn y mo da hh mi ss tz le fr ev co un hu go gs wd ex ad=some (u,me,sq,su,s,og,zn,y,mo,da,hh,mi,ss,tz,le,fr,ev,co,un,hu,go,gs,wd,ex,ad):=by
 unfold dx;rw[kz 58 [80,76,65,67,69] (dv s) oD oG,qB]
 dsimp only;rw[ak,ak,ak,ak,ak,ar,zc0 s hs,qB]
def zr1(v:Bs)(u:Bs)(me sq:Int)(su pl og zn:Bs)(y mo da hh mi ss tz le fr ev co un:Int)(hu go:Bool)(gs:List (Bs×Int))(wd ex ad:List Int)(hv:(v).length<=100000:=by omega):dx FU ([79,82,71,65,78,73,90,69,82]++58::v) u me sq su pl og zn y mo da hh mi ss tz le fr ev co un hu go gs wd ex ad=some (u,me,sq,su,pl,v,zn,y,mo,da,hh,mi,ss,tz,le,fr,ev,co,un,hu,go,gs,wd,ex,ad):=by
 unfold dx;rw[kz 58 [79,82,71,65,78,73,90,69,82] (v) oD oG,qB]
 dsimp only;rw[ak,ak,ak,ak,ak,ak,ar]
def zr9(v:Bs)(u:Bs)(me sq:Int)(su pl og zn:Bs)(y mo da hh mi ss tz le fr ev co un:Int)(hu go:Bool)(gs:List (Bs×Int))(wd ex ad:List Int)(hv:(v).length<=100000:=by omega):dx FU ([90,79,78,69]++58::v) u me sq su pl og zn y mo da hh mi ss tz le fr ev co un hu go gs wd ex ad=some (u,me,sq,su,pl,og,v,y,mo,da,hh,mi,ss,tz,le,fr,ev,co,un,hu,go,gs,wd,ex,ad):=by
 unfold dx;rw[kz 58 [90,79,78,69] (v) oD oG,qB]
 dsimp only;rw[ak,ak,ak,ak,ak,ak,ak,ak,ar]
def zrz(n:Nat)(hn:n<=1000000000000)(u:Bs)(me sq:Int)(su pl og zn:Bs)(y mo da hh mi ss tz le fr ev co un:Int)(hu go:Bool)(gs:List (Bs×Int))(wd ex ad:List Int)(hv:(decDigits n).length<=100000:=by omega):dx FU ([76,69,78,71,84,72]++58::decDigits n) u me sq su pl og zn y mo da hh mi ss tz le fr ev co un hu go gs wd ex ad=some (u,me,sq,su,pl,og,zn,y,mo,da,hh,mi,ss,tz,(n:Int),fr,ev,co,un,hu,go,gs,wd,ex,ad):=by
 unfold dx;rw[kz 58 [76,69,78,71,84,72] (decDigits n) oD oG,qB]
 dsimp only;rw[ak,ak,ak,ak,ak,ak,ak,ak,ak,ak,ar,yj n hn,qB]
def zrx(l:List Int)(hl:l.length<=300)(h:∀z∈l,ip z)(u:Bs)(me sq:Int)(su pl og zn:Bs)(y mo da hh mi ss tz le fr ev co un:Int)(hu go:Bool)(gs:List (Bs×Int))(wd ex ad:List Int)(hv:(ef l).length<=100000:=by omega):dx FU ([69,88,67,69,80,84]++58::ef l) u me sq su pl og zn y mo da hh mi ss tz le fr ev co un hu go gs wd ex ad=some (u,me,sq,su,pl,og,zn,y,mo,da,hh,mi,ss,tz,le,fr,ev,co,un,hu,go,gs,wd,l,ad):=by
 unfold dx;rw[kz 58 [69,88,67,69,80,84] (ef l) oD oG,qB]
 dsimp only;rw[ak,ak,ak,ak,ak,ak,ak,ak,ak,ak,ak,ak,ar,zbd l _ _ _ _ _ _ _ _ _ _ _ _ _ _ _ _ _ _ _ _ _ _ _ _ _ hl h,qB]
def zrv(l:List Int)(hl:l.length<=300)(h:∀z∈l,ip z)(u:Bs)(me sq:Int)(su pl og zn:Bs)(y mo da hh mi ss tz le fr ev co un:Int)(hu go:Bool)(gs:List (Bs×Int))(wd ex ad:List Int)(hv:(ef l).length<=100000:=by omega):dx FU ([65,68,68]++58::ef l) u me sq su pl og zn y mo da hh mi ss tz le fr ev co un hu go gs wd ex ad=some (u,me,sq,su,pl,og,zn,y,mo,da,hh,mi,ss,tz,le,fr,ev,co,un,hu,go,gs,wd,ex,l):=by
 unfold dx;rw[kz 58 [65,68,68] (ef l) oD oG,qB]
 dsimp only;rw[ak,ak,ak,ak,ak,ak,ak,ak,ak,ak,ak,ak,ak,ar,zbd l _ _ _ _ _ _ _ _ _ _ _ _ _ _ _ _ _ _ _ _ _ _ _ _ _ hl h,qB]
def zry(v:Bs)(d:qd6)(u:Bs)(me sq:Int)(su pl og zn:Bs)(y mo da hh mi ss tz le fr ev co un:Int)(hu go:Bool)(gs:List (Bs×Int))(wd ex ad:List Int)(hv:(v).length<=100000)(h:qdi FU v u me sq su pl og zn y mo da hh mi ss tz le fr ev co un hu go gs wd ex ad=some d):dx FU ([71,85,69,83,84]++58::v) u me sq su pl og zn y mo da hh mi ss tz le fr ev co un hu go gs wd ex ad=some d:=by
 unfold dx;rw[kz 58 [71,85,69,83,84] (v) oD oG,qB]
 dsimp only;rw[ak,ak,ak,ak,ak,ak,ak,ar,h,qB]
def zr6(v:Bs)(d:qd6)(u:Bs)(me sq:Int)(su pl og zn:Bs)(y mo da hh mi ss tz le fr ev co un:Int)(hu go:Bool)(gs:List (Bs×Int))(wd ex ad:List Int)(hv:(v).length<=100000)(h:qdm FU v u me sq su pl og zn y mo da hh mi ss tz le fr ev co un hu go gs wd ex ad=some d):dx FU ([83,84,65,82,84]++58::v) u me sq su pl og zn y mo da hh mi ss tz le fr ev co un hu go gs wd ex ad=some d:=by
 unfold dx;rw[kz 58 [83,84,65,82,84] (v) oD oG,qB]
 dsimp only;rw[ak,ak,ak,ak,ak,ak,ak,ak,ak,ar,h,qB]
def zr4(v:Bs)(d:qd6)(u:Bs)(me sq:Int)(su pl og zn:Bs)(y mo da hh mi ss tz le fr ev co un:Int)(hu go:Bool)(gs:List (Bs×Int))(wd ex ad:List Int)(hv:(v).length<=100000)(h:qdl FU v u me sq su pl og zn y mo da hh mi ss tz le fr ev co un hu go gs wd ex ad=some d):dx FU ([82,69,80,69,65,84]++58::v) u me sq su pl og zn y mo da hh mi ss tz le fr ev co un hu go gs wd ex ad=some d:=by
 unfold dx;rw[kz 58 [82,69,80,69,65,84] (v) oD oG,qB]
 dsimp only;rw[ak,ak,ak,ak,ak,ak,ak,ak,ak,ak,ak,ar,h,qB]
end Go.Sym
namespace Go.Sym
def bnd{α:Type}{b:Bool}{x y:Option α}{z:α}(h:b=true->x=some z)(g:b=false->y=some z):(bif b then x else y)=some z:=by
 cases b
 ·exact g rfl
 ·exact h rfl
def zpv:qg0=some (([49]:Bs),((2:Int),((0:Int),(([97,10,98]:Bs),(([]:Bs),(([111,64,120]:Bs),(([(([103,64,120]:Bs),(1:Int))]:List (Bs×Int)),(([117]:Bs),(uD,((30:Int),uR)))))))))):=rfl
def ztl:jk [0,86400]=[0,86400]:=by
 unfold jk;exact List.mergeSort_of_pairwise oC
def zqh:qmv FU (([49]:Bs),((2:Int),((0:Int),(([97,10,98]:Bs),(([]:Bs),(([111,64,120]:Bs),(([(([103,64,120]:Bs),(1:Int))]:List (Bs×Int)),(([117]:Bs),(uD,((30:Int),uR)))))))))) uZ 0 100000=some ((0,0),[0,86400]):=by
 have hs:vl [0,86400]=some [0,86400]:=by
  have:vl [0,86400]=some (jk [0,86400]):=rfl;rw[this,ztl]
 have i1:qu5 FU uD uR uZ uR []=some (uD,(uR,(uZ,(uR,[0,86400,172800])))):=oB
 have d1:qvd FU [0,86400,172800] 0 100000=some (0,(100000,[0,86400])):=oB
 have h1:qia FU uZ uD uR 0 100000 (0,0)=some ((0,0),[0,86400]):=by
  unfold qia;rw[show qu4 uZ uD uR=some (uD,(uR,uZ)) from rfl,qB]
  dsimp only;rw[i1,qB];dsimp only;rw[show([0,86400,172800]++uR.2.2.2.2.2.2.2:List Int)=[0,86400,172800] from rfl,d1,ao oD,qB,hs]
  rfl
 have b1:quz FU uZ uD uR 0 100000=qia FU uZ uD uR 0 100000 (0,0):=oB
 unfold qmv;rw[show vi FU (([49]:Bs),((2:Int),((0:Int),(([97,10,98]:Bs),(([]:Bs),(([111,64,120]:Bs),(([(([103,64,120]:Bs),(1:Int))]:List (Bs×Int)),(([117]:Bs),(uD,((30:Int),uR))))))))))=some (0,0) by kernel_rfl]
 rw[qB,n6,qB,ak,ak]
 dsimp only;rw[b1,h1];rfl
def znr:ql7 FU=some true:=by
 unfold ql7;rw[zpv];simp only[qB];rw[show(([117]:List UInt8),((0:Int),((0:Int),(((0:Int),((0:Int),((0:Int),(0:Int)))),((0:Int),((0:Int),((0:Int),(0:Int))))))))=uZ from rfl,zqh]
 simp only[qB]
 kernel_rfl
def qy4:Ty := .prod .str (.prod (.int .i64) (.prod (.int .i64) (.prod .str (.prod .str (.prod .str (.prod (.list (.prod .str (.int .i64))) (.prod .str (.prod (.prod (.int .i64) (.prod (.int .i64) (.prod (.int .i64) (.prod (.int .i64) (.prod (.int .i64) (.prod (.int .i64) (.int .i64))))))) (.prod (.int .i64) (.prod (.int .i64) (.prod (.int .i64) (.prod (.int .i64) (.prod (.int .i64) (.prod .bool (.prod (.list (.int .i64)) (.prod (.list (.int .i64)) (.list (.int .i64))))))))))))))))))
def zcn:∀l:List (Ty.den (.int .i64)),(l.map (Ty.bk (.int .i64))).sum=l.length
 |[]=>rfl|x::l=>by
  have:=zcn l;rw[List.map_cons,List.sum_cons,this,qL];show 1+_=_;omega
def zno(e:b9)(h:qy4.bk e<=1048576:=by omega):ux e:=by
 obtain⟨u,me,sq,su,pl,og,gs,nm,d,le,r1,r2,r3,r4,r5,wd,ex,ad⟩:=e;have h:((u.length+1)+(1+(1+((su.length+1)+((pl.length+1)+((og.length+1)+((Ty.list (.prod .str (.int .i64))).bk gs+((nm.length+1)+((Ty.prod (.int .i64) (.prod (.int .i64) (.prod (.int .i64) (.prod (.int .i64) (.prod (.int .i64) (.prod (.int .i64) (.int .i64))))))).bk d+(1+(1+(1+(1+(1+(1+((((wd:List (Ty.den (.int .i64))).map (Ty.bk (.int .i64))).sum+1)+((Ty.list (.int .i64)).bk ex+(Ty.list (.int .i64)).bk ad)))))))))))))))))<=1048576:=h;rw[zcn wd]at h;refine⟨?_,?_,?_⟩
 ·show u.length<=2000000;omega
 ·show nm.length<=2000000;omega
 ·show List.length (α:=Ty.den (.int .i64)) wd<=2000000;omega
open Go.Lib (validD)
inductive L75:Bs->Prop
 |nil:L75 []
 |cons (p s:Bs):10∉p->p.length<=75->validD p=true->L75 s->L75 (p++(13::10::s))
end Go.Sym
namespace Go.Sym
def gu(old new s:Bs):Bs:=Lib.replaceK old new (Lib.count s old) s
def zdz(a b:UInt8)(new:Bs):gu [a,b] new []=[]:=rfl
def qq2(a b:UInt8)(new:Bs)(c:UInt8)(r:Bs)(h:¬([a,b]:Bs).isPrefixOf (c::r)=true):gu [a,b] new (c::r)=c::gu [a,b] new r:=by
 have hi:Lib.index (c::r) [a,b]=if Lib.index r [a,b] == -1 then -1 else Lib.index r [a,b]+1:=by rw[Lib.index,qW h]
 have hg:=Lib.index_ge r [a,b];unfold gu;by_cases q:Lib.index r [a,b] = -1
 ·rw[q]at hi;rw[Lib.count_miss q,Lib.count_miss (hi.trans rfl)];rfl
 ·obtain⟨i,e⟩:∃i:Nat,Lib.index r [a,b]=i:=⟨(Lib.index r [a,b]).toNat,oA⟩
  have e1:Lib.index (c::r) [a,b]=((i+1:Nat):Int):=by
   rw[hi,qW (by simpa using q),e];omega
  rw[Lib.count_hit oC e,Lib.count_hit oC e1,Nat.add_comm 1,Nat.add_comm 1,Lib.replaceK_hit _ _ _ _ _ e,Lib.replaceK_hit _ _ _ _ _ e1]
  simp[show i+1+2=i+2+1 by omega]
def qq3(a b:UInt8)(new r:Bs):gu [a,b] new (a::b::r)=new++gu [a,b] new r:=by
 have h:([a,b]:Bs).isPrefixOf (a::b::r)=true:=by simp[List.isPrefixOf]
 have e0:Lib.index (a::b::r) [a,b]=((0:Nat):Int):=by rw[Lib.index,qX h];rfl
 unfold gu;rw[Lib.count_hit oC e0,Nat.add_comm 1,Lib.replaceK_hit _ _ _ _ _ e0]
 simp
def rp(a b:UInt8)(new:Bs):∀(s r:Bs),(∀c∈s,c≠a)->gu [a,b] new (s++r)=s++gu [a,b] new r
 |[],_,_=>rfl|c::s,r,h=>by
  rw[wK,qq2 a b new c _ (by simp[List.isPrefixOf];exact fun q=>absurd q.symm (h c qH)),rp a b new s r (fun d hd=>h d (qE _ hd))];rfl
def qq4(old new:Bs)(h:new.length<=old.length):∀(k:Nat)(s:Bs),(Lib.replaceK old new k s).length<=s.length
 |0,s=>wF _|k+1,s=>by
  rw[Lib.replaceK];split
  ·exact wF _
  ·rename_i q;have hg:=Lib.index_ge s old;have hq:Lib.index s old ≠ -1:=by simpa using q
   have hr:=Lib.index_room s old oA
   have:=qq4 old new h k (s.drop ((Lib.index s old).toNat+old.length));rw[List.length_drop]at this;simp only[qM,List.length_take];omega
def im(t:Bs):Bs:=gu [10,32] [] (gu [13,10] [10] t)
def ta(s:Bs):Prop:=s=[]\/∃c r,s=c::r/\c≠32/\c≠13
def q2e(s:Bs)(h:ta s):gu [10,32] [] (10::gu [13,10] [10] s)=10::im s:=by
 refine qq2 10 32 [] 10 _ ?_;rcases h with rfl|⟨c,r,rfl,h1,h2⟩
 ·rw[zdz];decide
 ·rw[qq2 13 10 _ c r (by simp[List.isPrefixOf];exact fun q=>absurd q.symm h2)]
  simp[List.isPrefixOf];exact fun q=>h1 q.symm
def zfj(w s:Bs)(hw:∀c∈w,c≠10/\c≠13)(h:ta s):im (w++13::10::s)=w++10::im s:=by
 unfold im;rw[rp _ _ _ w _ (fun c hc=>(hw c hc).2),qq3,rp _ _ _ w _ (fun c hc=>(hw c hc).1)]
 exact congrArg (w++·) (q2e s h)
def zuv(w s:Bs)(hw:∀c∈w,c≠10/\c≠13)(h:ta s):im (w++10::s)=w++10::im s:=by
 have e:gu [13,10] [10] (w++10::s)=w++10::gu [13,10] [10] s:=by
  rw[rp _ _ _ w _ (fun c hc=>(hw c hc).2),qq2 _ _ _ _ _ oX]
 unfold im;rw[e,rp _ _ _ w _ (fun c hc=>(hw c hc).1)]
 exact congrArg (w++·) (q2e s h)
def zut(w:Bs)(hw:∀c∈w,c≠10/\c≠13):im w=w:=by
 have h1:=rp 13 10 [10] w [] (fun c hc=>(hw c hc).2)
 have h2:=rp 10 32 [] w [] (fun c hc=>(hw c hc).1)
 rw[List.append_nil,zdz,List.append_nil]at h1 h2;unfold im;rw[h1,h2]
def wn:Nat->List Bs->Bs|_,[]=>[]|col,c::cs=>if 75<col+c.length then[10,32]++(c++wn (1+c.length) cs) else c++wn (col+c.length) cs
def q1r(s:Bs):∀(cs:List Bs)(col:Nat),(∀c∈cs,∀x∈c,x≠10/\x≠13)->gu [13,10] [10] (ie col cs++s)=wn col cs++10::gu [13,10] [10] s
 |[],col,_=>by rw[ie,wn];exact qq3 13 10 [10] s|c::cs,col,h=>by
  have hc:=h c qH;have hcs:=fun d hd=>h d (qE _ hd)
  rw[ie,wn];split
  ·have:=q1r s cs (1+c.length) hcs;rw[show([13,10,32]++(c++ie (1+c.length) cs))++s=13::10::((32::c)++(ie (1+c.length) cs++s)) by simp,qq3,rp _ _ _ (32::c) _ (fun x hx=>by
    rcases List.mem_cons.1 hx with rfl|hx
    ·decide
    ·exact(hc x hx).2),this]
   simp
  ·have:=q1r s cs (col+c.length) hcs;rw[qS,rp _ _ _ c _ (fun x hx=>(hc x hx).2),this]
   simp
def q1s(s:Bs):∀(cs:List Bs)(col:Nat),(∀c∈cs,∀x∈c,x≠10/\x≠13)->gu [10,32] [] (wn col cs++s)=cs.flatten++gu [10,32] [] s
 |[],col,_=>rfl|c::cs,col,h=>by
  have hc:=h c qH;have hcs:=fun d hd=>h d (qE _ hd)
  rw[wn,List.flatten_cons];split
  ·rw[show([10,32]++(c++wn (1+c.length) cs))++s=10::32::(c++(wn (1+c.length) cs++s)) by simp,qq3,rp _ _ _ c _ (fun x hx=>(hc x hx).1),q1s s cs _ hcs]
   simp
  ·rw[qS,rp _ _ _ c _ (fun x hx=>(hc x hx).1),q1s s cs _ hcs]
   simp
def zus(t s:Bs)(ht:LnB t)(hs:ta s):im (gy t++s)=t++10::im s:=by
 obtain⟨h,hn,_⟩:=ht;obtain⟨R,hR,rfl⟩:=q2h h;have hl:=h.2;have hc:∀c∈R.map gg,∀x∈c,x≠10/\x≠13:=fun c hc x hx=>by
  refine hn x ?_;rw[← qb8];exact List.mem_flatten.2 ⟨c,hc,hx⟩
 unfold im gy;rw[qyu R hR,Option.getD_some,q1r s _ 0 hc,q1s _ _ 0 hc,qb8]
 exact congrArg (tx R++·) (q2e s hs)
def fp(l:List Bs):Bs:=l.flatMap fun s=>s++[10]
def qlk(a:Bs)(l:List Bs)(t:Bs):fp (a::l)++t=a++10::(fp l++t):=by simp[fp]
def zfm(t:Bs):fp []++t=t:=rfl
def q9b{t:Bs}(h:LnB t)(r:Bs):ta (gy t++r):=by
 obtain⟨hv,hn,c,q,rfl,h1,h2⟩:=h;obtain⟨R,hR,e⟩:=q2h hv;have hl:=hv.2;rw[e]at hl
 cases R with
 |nil=>rw[zfe]at e;cases e
 |cons k R=>
  have h4:=q1c (q1b (hR k qH));unfold gy;rw[e,qyu _ hR,Option.getD_some,List.map_cons,ie,qW oA]
  rw[qlg]at e
  cases hk:gg k with
  |nil=>rw[hk]at h4;simp at h4|cons x w=>
   rw[hk]at e;have:c=x:=by injection e
   subst this;exact .inr ⟨c,_,rfl,fun e=>by subst e;simp at h1,fun e=>by subst e;simp at h1⟩
def zfk(s:Bs)(hs:ta s):∀l:List Bs,(∀t∈l,LnB t)->im (l.flatMap gy++s)=fp l++im s/\ta (l.flatMap gy++s)
 |[],_=>⟨rfl,hs⟩|t::l,h=>by
  have ht:=h t qH;obtain⟨i1,i2⟩:=zfk s hs l fun x hx=>h x (qE _ hx)
  rw[List.flatMap_cons,qS];exact⟨by rw[zus t _ ht i2,i1,qlk],q9b ht _⟩
def zuw(t:Bs)(h:t.length<=20000:=by omega):qm8 t=some ([10],im t,0):=by
 have r1:np t [13,10] [10]=some (gu [13,10] [10] t):=by
  unfold np;rw[ao oI]
  unfold Lib.replaceAll Lib.replace Lib.replaceNum;rw[qW oD,qX (.inl oD)];rfl
 have hl:(gu [13,10] [10] t).length<=t.length:=qq4 [13,10] [10] oD _ t
 have r2:np (gu [13,10] [10] t) [10,32] []=some (im t):=by
  unfold np;rw[ao oI]
  unfold Lib.replaceAll Lib.replace Lib.replaceNum;rw[qW oD,qX (.inl oD)];rfl
 unfold qm8;rw[r1,qB,r2];rfl
def zuu(t:Bs):(im t).length<=t.length:=
 Nat.le_trans (qq4 [10,32] [] oD _ _) (qq4 [13,10] [10] oD _ t)
open Go.Lib (decDigits itoa)
abbrev P1:=x7 FU
abbrev P3:=qdw FU
def zru(n:Nat)(l t:Bs)(evs:List b9)(h:∀x∈l,x≠10)(hl:(l++10::t).length<=1000000)(h1:l≠[66,69,71,73,78,58,69,86,69,78,84]):P1 (n+1) [10] (l++10::t) 0 evs=P1 n [10] t 0 evs:=by
 have ac:(l++10::t).length=l.length+(t.length+1):=oC
 rw[P1,x7,qio,ixS 10 l t h hl,qB,bz,Int.add_zero,bu (x:=(l.length:Int)) oA oA,ao ⟨oA,oA⟩,show((l.length:Nat):Int).toNat=l.length by omega,List.take_left]
 unfold qal;rw[ak (by simp[h1]),qB]
 dsimp only[az];rw[show((List.length ([10]:Bs):Nat):Int)=1 from rfl,cd _,ao ⟨oA,oA⟩,show((l.length+1:Nat):Int).toNat=l.length+1 by omega,← List.drop_drop,List.drop_left]
 rfl
def zrt(n:Nat)(l:Bs)(evs:List b9)(h:∀x∈l,x≠10)(hl:l.length<=1000000)(h1:l≠[66,69,71,73,78,58,69,86,69,78,84]):P1 (n+1) [10] l 0 evs=some (.inl ([10],l,0,evs)):=by
 rw[P1,x7,qio,ixN 10 l h hl,qB,ao oA]
 unfold qal;rw[ak (by simp[h1]),qB];rfl
def zrs(n:Nat)(t:Bs)(evs:List b9)(hl:t.length<=900000):P1 (n+1) [10] ([66,69,71,73,78,58,69,86,69,78,84]++10::t) 0 evs=P3 (P1 n) FU [10] t 0 evs [] 1 0 [] [] [] [] 0 0 0 0 0 0 0 0 0 1 0 0 false true [] [] [] []:=by
 have ac:([66,69,71,73,78,58,69,86,69,78,84]++10::t:Bs).length=12+t.length:=by simp only[qM,qL,qZ];omega
 rw[P1,x7,qio,ixS 10 [66,69,71,73,78,58,69,86,69,78,84] t oD,qB,bz,Int.add_zero,show af ((([66,69,71,73,78,58,69,86,69,78,84]:Bs).length:Nat):Int)=11 from rfl,ao ⟨oA,oA⟩,show List.take (11:Int).toNat ([66,69,71,73,78,58,69,86,69,78,84]++10::t)=[66,69,71,73,78,58,69,86,69,78,84] from rfl]
 unfold qal;rw[ar,qB]
 dsimp only[az];rw[show((List.length ([10]:Bs):Nat):Int)=1 from rfl,show af (((([66,69,71,73,78,58,69,86,69,78,84]:Bs).length:Nat):Int)+1)=12 from rfl,ao ⟨oA,oA⟩]
 rfl
def zdc(r1:mc)(n:Nat)(l t:Bs)(evs:List b9)(u:Bs)(me sq:Int)(su pl og zn:Bs)(y mo da hh mi ss tz le fr ev co un:Int)(hu go:Bool)(gs:List (Bs×Int))(wd ex ad:List Int)(d:qd6)(h:dx FU l u me sq su pl og zn y mo da hh mi ss tz le fr ev co un hu go gs wd ex ad=some d)(hn:∀x∈l,x≠10)(hl:(l++10::t).length<=1000000)(h1:l≠[66,69,71,73,78,58,69,86,69,78,84])(h2:l≠[69,78,68,58,69,86,69,78,84]) :
  P3 r1 (n+1) [10] (l++10::t) 0 evs u me sq su pl og zn y mo da hh mi ss tz le fr ev co un hu go gs wd ex ad=P3 r1 n [10] t 0 evs d.1 d.2.1 d.2.2.1 d.2.2.2.1 d.2.2.2.2.1 d.2.2.2.2.2.1 d.2.2.2.2.2.2.1 d.2.2.2.2.2.2.2.1 d.2.2.2.2.2.2.2.2.1 d.2.2.2.2.2.2.2.2.2.1 d.2.2.2.2.2.2.2.2.2.2.1 d.2.2.2.2.2.2.2.2.2.2.2.1 d.2.2.2.2.2.2.2.2.2.2.2.2.1 d.2.2.2.2.2.2.2.2.2.2.2.2.2.1 d.2.2.2.2.2.2.2.2.2.2.2.2.2.2.1 d.2.2.2.2.2.2.2.2.2.2.2.2.2.2.2.1 d.2.2.2.2.2.2.2.2.2.2.2.2.2.2.2.2.1 d.2.2.2.2.2.2.2.2.2.2.2.2.2.2.2.2.2.1 d.2.2.2.2.2.2.2.2.2.2.2.2.2.2.2.2.2.2.1 d.2.2.2.2.2.2.2.2.2.2.2.2.2.2.2.2.2.2.2.1 d.2.2.2.2.2.2.2.2.2.2.2.2.2.2.2.2.2.2.2.2.1 d.2.2.2.2.2.2.2.2.2.2.2.2.2.2.2.2.2.2.2.2.2.1 d.2.2.2.2.2.2.2.2.2.2.2.2.2.2.2.2.2.2.2.2.2.2.1 d.2.2.2.2.2.2.2.2.2.2.2.2.2.2.2.2.2.2.2.2.2.2.2.1 d.2.2.2.2.2.2.2.2.2.2.2.2.2.2.2.2.2.2.2.2.2.2.2.2:=by
 have ac:(l++10::t).length=l.length+(t.length+1):=oC
 rw[P3,qdw,qip,ixS 10 l t hn hl,qB,bz,Int.add_zero,bu (x:=(l.length:Int)) oA oA,ao ⟨oA,oA⟩,show((l.length:Nat):Int).toNat=l.length by omega,List.take_left]
 unfold qam;rw[ak (by simp[h1]),ak (by simp[h2]),h,qB,qB]
 dsimp only[az];rw[show((List.length ([10]:Bs):Nat):Int)=1 from rfl,cd _,ao ⟨oA,oA⟩,show((l.length+1:Nat):Int).toNat=l.length+1 by omega,← List.drop_drop,List.drop_left]
 rfl
def zrw(r1:mc)(n:Nat)(t:Bs)(evs:List b9)(u:Bs)(me sq:Int)(su pl og zn:Bs)(y mo da hh mi ss tz le fr ev co un:Int)(hu:Bool)(gs:List (Bs×Int))(wd ex ad:List Int)(h:vi FU (u,me,sq,su,pl,og,gs,zn,(y,mo,da,hh,mi,ss,tz),le,fr,ev,co,un,hu,wd,ex,ad)=some (0,0))(hl:t.length<=900000)(he:evs.length<=100000) :
  P3 r1 (n+1) [10] ([69,78,68,58,69,86,69,78,84]++10::t) 0 evs u me sq su pl og zn y mo da hh mi ss tz le fr ev co un hu true gs wd ex ad=r1 [10] t 0 (evs++[(u,me,sq,su,pl,og,gs,zn,(y,mo,da,hh,mi,ss,tz),le,fr,ev,co,un,hu,wd,ex,ad)]):=by
 have ac:([69,78,68,58,69,86,69,78,84]++10::t:Bs).length=10+t.length:=by simp only[qM,qL,qZ];omega
 rw[P3,qdw,qip,ixS 10 [69,78,68,58,69,86,69,78,84] t oD,qB,bz,Int.add_zero,show af ((([69,78,68,58,69,86,69,78,84]:Bs).length:Nat):Int)=9 from rfl,ao ⟨oA,oA⟩,show List.take (9:Int).toNat ([69,78,68,58,69,86,69,78,84]++10::t)=[69,78,68,58,69,86,69,78,84] from rfl]
 unfold qam;rw[ak,ar,ar rfl,h,qB,n6,qB,ar,ao oK,qB]
 dsimp only[az];rw[show((List.length ([10]:Bs):Nat):Int)=1 from rfl,show af (((([69,78,68,58,69,86,69,78,84]:Bs).length:Nat):Int)+1)=10 from rfl,ao ⟨oA,oA⟩]
 rfl
def od(r1:mc)(n:Nat)(l:Bs)(ls:List Bs)(t:Bs)(evs:List b9)(u:Bs)(me sq:Int)(su pl og zn:Bs)(y mo da hh mi ss tz le fr ev co un:Int)(hu go:Bool)(gs:List (Bs×Int))(wd ex ad:List Int)(d:qd6)(h:dx FU l u me sq su pl og zn y mo da hh mi ss tz le fr ev co un hu go gs wd ex ad=some d)(hn:∀x∈l,x≠10)(hl:(fp (l::ls)++t).length<=100000)(h1:l≠[66,69,71,73,78,58,69,86,69,78,84])(h2:l≠[69,78,68,58,69,86,69,78,84]) :
  P3 r1 (n+1) [10] (fp (l::ls)++t) 0 evs u me sq su pl og zn y mo da hh mi ss tz le fr ev co un hu go gs wd ex ad=P3 r1 n [10] (fp ls++t) 0 evs d.1 d.2.1 d.2.2.1 d.2.2.2.1 d.2.2.2.2.1 d.2.2.2.2.2.1 d.2.2.2.2.2.2.1 d.2.2.2.2.2.2.2.1 d.2.2.2.2.2.2.2.2.1 d.2.2.2.2.2.2.2.2.2.1 d.2.2.2.2.2.2.2.2.2.2.1 d.2.2.2.2.2.2.2.2.2.2.2.1 d.2.2.2.2.2.2.2.2.2.2.2.2.1 d.2.2.2.2.2.2.2.2.2.2.2.2.2.1 d.2.2.2.2.2.2.2.2.2.2.2.2.2.2.1 d.2.2.2.2.2.2.2.2.2.2.2.2.2.2.2.1 d.2.2.2.2.2.2.2.2.2.2.2.2.2.2.2.2.1 d.2.2.2.2.2.2.2.2.2.2.2.2.2.2.2.2.2.1 d.2.2.2.2.2.2.2.2.2.2.2.2.2.2.2.2.2.2.1 d.2.2.2.2.2.2.2.2.2.2.2.2.2.2.2.2.2.2.2.1 d.2.2.2.2.2.2.2.2.2.2.2.2.2.2.2.2.2.2.2.2.1 d.2.2.2.2.2.2.2.2.2.2.2.2.2.2.2.2.2.2.2.2.2.1 d.2.2.2.2.2.2.2.2.2.2.2.2.2.2.2.2.2.2.2.2.2.2.1 d.2.2.2.2.2.2.2.2.2.2.2.2.2.2.2.2.2.2.2.2.2.2.2.1 d.2.2.2.2.2.2.2.2.2.2.2.2.2.2.2.2.2.2.2.2.2.2.2.2:=by
 rw[qlk]at hl ⊢;exact zdc r1 n l _ evs u me sq su pl og zn y mo da hh mi ss tz le fr ev co un hu go gs wd ex ad d h hn oA h1 h2
def om{l:Bs}{ls:List Bs}{t:Bs}(h:(fp (l::ls)++t).length<=100000):(fp ls++t).length<=100000/\l.length<=100000:=by
 rw[qlk]at h;simp only[qM,qL]at h ⊢;omega
def qzm(g:Bs×Int):qx g=[71,85,69,83,84]++58::(jl.getD (g.2-1).toNat []++32::g.1):=by unfold qx;simp
def zac(r1:mc)(n:Nat)(ls:List Bs)(t:Bs)(evs:List b9):∀(aa:List (Bs×Int))(u:Bs)(me sq:Int)(su pl og zn:Bs)(y mo da hh mi ss tz le fr ev co un:Int)(hu go:Bool)(gs:List (Bs×Int))(wd ex ad:List Int),(∀x∈aa,x.1.length<=300/\1<=x.2/\x.2<=4)->(∀x∈aa,∀c∈qx x,c≠10)->gs.length+aa.length<=30->(fp (aa.map qx++ls)++t).length<=100000 ->
  P3 r1 (aa.length+n) [10] (fp (aa.map qx++ls)++t) 0 evs u me sq su pl og zn y mo da hh mi ss tz le fr ev co un hu go gs wd ex ad=P3 r1 n [10] (fp ls++t) 0 evs u me sq su pl og zn y mo da hh mi ss tz le fr ev co un hu go (gs++aa) wd ex ad
 |[],u,me,sq,su,pl,og,zn,y,mo,da,hh,mi,ss,tz,le,fr,ev,co,un,hu,go,gs,wd,ex,ad,_,_,_,_=>by simp|g::aa,u,me,sq,su,pl,og,zn,y,mo,da,hh,mi,ss,tz,le,fr,ev,co,un,hu,go,gs,wd,ex,ad,hg,hn,hl,hu2=>by
  obtain⟨b1,b2,b3⟩:=hg g qH;have m:=hu2;rw[List.map_cons,wK]at m;obtain⟨m1,m2⟩:=om m;have ls0:=qrd (g.2-1).toNat;rw[qL,Nat.add_right_comm,List.map_cons,wK];simp only[qL]at hl;have gr:=zn6 (g.2-1).toNat oA g.1 oA u me sq su pl og zn y mo da hh mi ss tz le fr ev co un hu go gs wd ex ad
  rw[show(((g.2-1).toNat:Nat):Int)+1=g.2 by omega]at gr
  have hr:=zry (jl.getD (g.2-1).toNat []++32::g.1) _ u me sq su pl og zn y mo da hh mi ss tz le fr ev co un hu go gs wd ex ad oL gr
  rw[← qzm g]at hr;refine Eq.trans (od r1 _ (qx g) _ t evs u me sq su pl og zn y mo da hh mi ss tz le fr ev co un hu go gs wd ex ad _ hr (hn g qH) m (by rw[qzm];simp) (by rw[qzm];simp)) ?_
  dsimp only;have:=zac r1 n ls t evs aa u me sq su pl og zn y mo da hh mi ss tz le fr ev co un hu go (gs++[(g.1,g.2)]) wd ex ad (fun x hx=>hg x (qE _ hx)) (fun x hx=>hn x (qE _ hx)) oE m1
  refine Eq.trans this ?_;rw[qS];rfl
def zuy(a b:List Bs)(t:Bs):fp (a++b)++t=fp a++(fp b++t):=by simp[fp]
def ig(e:b9):List Bs:=(hdE e).tail++e.2.2.2.2.2.2.1.map qx++tlE e
def qkn(e:b9):pi e=[66,69,71,73,78,58,69,86,69,78,84]::ig e:=rfl
def zlb(e:b9)(h:rz e)(r1:mc)(m:Nat)(t:Bs)(evs:List b9)(hl:(fp (ig e)++t).length<=100000)(hev:evs.length<=1000)(hEvL:ux e) :
  P3 r1 (e.2.2.2.2.2.2.1.length+(m+7)+6) [10] (fp (ig e)++t) 0 evs [] 1 0 [] [] [] [] 0 0 0 0 0 0 0 0 0 1 0 0 false true [] [] [] []=r1 [10] t 0 (evs++[e]):=by
 have hval:vi FU e=some (0,0):=by rw[q9s e hEvL,h.z]
 have hln:∀s∈ig e,∀c∈s,c≠10:=fun s hs c hc=>((qp9 h s (by rw[qkn];exact qE _ hs)).2.1 c hc).1
 have hb:=qpq h;obtain⟨_,hr0,hrw⟩:=zdu h.r;obtain⟨hrl,_⟩:=q1d h.r;obtain⟨uid,me,sq,su,pl,og,gs,zn,⟨y,mo,da,hh,mi,ss,tz⟩,le,⟨fr,ev,co,un,hu,wd,ex,ad⟩⟩:=e;have e1:=h.me;have e2:=h.sq;have e3:=h.le;have e4:=h.dy;have e5:=h.d;have e6:=h.d0;have b1:=hb.su;have b2:=hb.pl;have b3:=hb.og;have b4:=hb.ul;have b5:=hb.zn;have b6:=hb.gl;have b7:=hb.g;have c1:=hrl.f;have c2:=hrl.u;have c3:=hrl.wl;have c4:=hrl.xl;have c5:=hrl.x;have c6:=hrl.al;have c7:=hrl.a;obtain⟨_,hk,_⟩:=zd1 _ h.r;have k1:=hk.e1;have k2:=hk.e2;have k3:=hk.c1;have k4:=hk.c2;clear h hb hrl hk;dsimp only at e1 e2 e3 e4 e5 e6 b1 b2 b3 b4 b5 b6 b7 c1 c2 c3 c4 c5 c6 c7 k1 k2 k3 k4 hr0 hrw hval;obtain⟨⟨v1,v2,v3,v4,v5,v6⟩,x1,x2,y1,y2,z1,z2,_⟩:=e5;dsimp only at v1 v2 v3 v4 v5 v6 x1 x2 y1 y2 z1 z2;have hdim:=(Cal.dim_bd y mo).2;subst e6;obtain⟨i,rfl⟩:∃i:Nat,me=(i:Int)+1:=⟨(me-1).toNat,oA⟩
 obtain⟨n2,rfl⟩:∃i:Nat,sq=i:=⟨sq.toNat,oA⟩
 obtain⟨d1,rfl⟩:∃i:Nat,y=i:=⟨y.toNat,oA⟩
 obtain⟨d2,rfl⟩:∃i:Nat,mo=i:=⟨mo.toNat,oA⟩
 obtain⟨d3,rfl⟩:∃i:Nat,da=i:=⟨da.toNat,oA⟩
 obtain⟨d4,rfl⟩:∃i:Nat,hh=i:=⟨hh.toNat,oA⟩
 obtain⟨d5,rfl⟩:∃i:Nat,mi=i:=⟨mi.toNat,oA⟩
 obtain⟨d6,rfl⟩:∃i:Nat,ss=i:=⟨ss.toNat,oA⟩
 obtain⟨n3,rfl⟩:∃i:Nat,le=i:=⟨le.toNat,oA⟩
 obtain⟨f,rfl⟩:∃i:Nat,fr=i:=⟨fr.toNat,oA⟩
 obtain⟨n4,rfl⟩:∃i:Nat,ev=i:=⟨ev.toNat,oA⟩
 obtain⟨n5,rfl⟩:∃i:Nat,co=i:=⟨co.toNat,oA⟩
 have eT:ig (uid,(i:Int)+1,(n2:Int),su,pl,og,gs,zn,((d1:Int),(d2:Int),(d3:Int),(d4:Int),(d5:Int),(d6:Int),0),(n3:Int),((f:Int),(n4:Int),(n5:Int),un,hu,wd,ex,ad)) =
   ([77,69,84,72,79,68]++58::jr.getD i [])::([85,73,68]++58::uid)::([83,69,81,85,69,78,67,69]++58::decDigits n2)::([83,85,77,77,65,82,89]++58::dv su)::([80,76,65,67,69]++58::dv pl)::([79,82,71,65,78,73,90,69,82]++58::og)::(gs.map qx ++
   [[90,79,78,69]++58::zn,[83,84,65,82,84]++58::uo ((d1:Int),(d2:Int),(d3:Int),(d4:Int),(d5:Int),(d6:Int),0),[76,69,78,71,84,72]++58::decDigits n3,[82,69,80,69,65,84]++58::pu ((f:Int),(n4:Int),(n5:Int),un,hu,wd,ex,ad),[69,88,67,69,80,84]++58::ef ex,[65,68,68]++58::ef ad,[69,78,68,58,69,86,69,78,84]]):=by
  unfold ig hdE tlE;dsimp only;rw[n9,n9,show((i:Int)+1-1).toNat=i by omega]
  rfl
 rw[eT]at hl hln ⊢;clear eT;have q0:=om hl;have q1:=om q0.1;have q2:=om q1.1;have q3:=om q2.1;have q4:=om q3.1;have q5:=om q4.1;dsimp only;have l1:=q0b i;have l2:=tn 13 n2 oA oA
 have l3:=qe1 su;have l4:=qe1 pl;have l5:=tn 13 n3 oA oA
 refine Eq.trans (od r1 _ ([77,69,84,72,79,68]++58::_) _ t evs _ _ _ _ _ _ _ _ _ _ _ _ _ _ _ _ _ _ _ _ _ _ _ _ _ _ (zr0 i oA _ _ _ _ _ _ _ _ _ _ _ _ _ _ _ _ _ _ _ _ _ _ _ _ _) (hln _ oC) hl oC oC) ?_
 dsimp only;refine Eq.trans (od r1 _ ([85,73,68]++58::_) _ t evs _ _ _ _ _ _ _ _ _ _ _ _ _ _ _ _ _ _ _ _ _ _ _ _ _ _ (zr8 uid _ _ _ _ _ _ _ _ _ _ _ _ _ _ _ _ _ _ _ _ _ _ _ _ _) (hln _ oC) q0.1 oC oC) ?_
 dsimp only;refine Eq.trans (od r1 _ ([83,69,81,85,69,78,67,69]++58::_) _ t evs _ _ _ _ _ _ _ _ _ _ _ _ _ _ _ _ _ _ _ _ _ _ _ _ _ _ (zr5 n2 oA _ _ _ _ _ _ _ _ _ _ _ _ _ _ _ _ _ _ _ _ _ _ _ _ _) (hln _ oC) q1.1 oC oC) ?_
 dsimp only;refine Eq.trans (od r1 _ ([83,85,77,77,65,82,89]++58::_) _ t evs _ _ _ _ _ _ _ _ _ _ _ _ _ _ _ _ _ _ _ _ _ _ _ _ _ _ (zr7 su b1 _ _ _ _ _ _ _ _ _ _ _ _ _ _ _ _ _ _ _ _ _ _ _ _ _) (hln _ oC) q2.1 oC oC) ?_
 dsimp only;refine Eq.trans (od r1 _ ([80,76,65,67,69]++58::_) _ t evs _ _ _ _ _ _ _ _ _ _ _ _ _ _ _ _ _ _ _ _ _ _ _ _ _ _ (zr3 pl b2 _ _ _ _ _ _ _ _ _ _ _ _ _ _ _ _ _ _ _ _ _ _ _ _ _) (hln _ oC) q3.1 oC oC) ?_
 dsimp only;refine Eq.trans (od r1 _ ([79,82,71,65,78,73,90,69,82]++58::_) _ t evs _ _ _ _ _ _ _ _ _ _ _ _ _ _ _ _ _ _ _ _ _ _ _ _ _ _ (zr1 og _ _ _ _ _ _ _ _ _ _ _ _ _ _ _ _ _ _ _ _ _ _ _ _ _) (hln _ oC) q4.1 oC oC) ?_
 dsimp only;refine Eq.trans (zac r1 (m+7) _ t evs gs _ _ _ _ _ _ _ _ _ _ _ _ _ _ _ _ _ _ _ _ _ [] _ _ _ b7 (fun x hx=>hln _ (by simp;exact .inr (.inr (.inr (.inr (.inr (.inr (.inl ⟨_,_,hx,rfl⟩)))))))) (by simpa using b6) q5.1) ?_
 rw[List.nil_append];have q6:=q5.1;rw[zuy,qM]at q6;have q6:=Nat.le_trans (Nat.le_add_left _ _) q6;have q7:=om q6;have q8:=om q7.1;have q9:=om q8.1;have qa:=om q9.1;have qb:=om qa.1;have qc:=om qb.1;have s8:=q8.2;have sa:=qa.2;have sb:=qb.2;have sc:=qc.2;simp only[qM,qL,qZ]at s8 sa sb sc;refine Eq.trans (od r1 _ ([90,79,78,69]++58::_) _ t evs _ _ _ _ _ _ _ _ _ _ _ _ _ _ _ _ _ _ _ _ _ _ _ _ _ _ (zr9 zn _ _ _ _ _ _ _ _ _ _ _ _ _ _ _ _ _ _ _ _ _ _ _ _ _) (hln _ oC) q6 oC oC) ?_
 dsimp only;refine Eq.trans (od r1 _ ([83,84,65,82,84]++58::_) _ t evs _ _ _ _ _ _ _ _ _ _ _ _ _ _ _ _ _ _ _ _ _ _ _ _ _ _ (zr6 _ _ _ _ _ _ _ _ _ _ _ _ _ _ _ _ _ _ _ _ _ _ _ _ _ _ _ oA (ztv d1 d2 d3 d4 d5 d6 oA oA oA oA oA oA 0 _ _ _ _ _ _ _ _ _ _ _ _ _ _ _ _ _ _ _ _ _ _ _ _ _)) (hln _ oC) q7.1 oC oC) ?_
 dsimp only;refine Eq.trans (od r1 _ ([76,69,78,71,84,72]++58::_) _ t evs _ _ _ _ _ _ _ _ _ _ _ _ _ _ _ _ _ _ _ _ _ _ _ _ _ _ (zrz n3 oA _ _ _ _ _ _ _ _ _ _ _ _ _ _ _ _ _ _ _ _ _ _ _ _ _) (hln _ oC) q8.1 oC oC) ?_
 dsimp only;refine Eq.trans (od r1 _ ([82,69,80,69,65,84]++58::_) _ t evs _ _ _ _ _ _ _ _ _ _ _ _ _ _ _ _ _ _ _ _ _ _ _ _ _ _ (zr4 _ _ _ _ _ _ _ _ _ _ _ _ _ _ _ _ _ _ _ _ _ _ _ _ _ _ _ oA (zsj f n4 n5 oA oA oA hu un c2 hr0 wd ex ad c3 (fun z hz=>by have:=hrw z hz;omega) _ _ _ _ _ _ _ _ _ _ _ _ _ _ _ _ _ _ _ _ _ _ _ _ _)) (hln _ oC) q9.1 oC oC) ?_
 dsimp only;refine Eq.trans (od r1 _ ([69,88,67,69,80,84]++58::_) _ t evs _ _ _ _ _ _ _ _ _ _ _ _ _ _ _ _ _ _ _ _ _ _ _ _ _ _ (zrx ex c4 c5 _ _ _ _ _ _ _ _ _ _ _ _ _ _ _ _ _ _ _ _ _ _ _ _ _) (hln _ oC) qa.1 oC oC) ?_
 dsimp only;refine Eq.trans (od r1 _ ([65,68,68]++58::_) _ t evs _ _ _ _ _ _ _ _ _ _ _ _ _ _ _ _ _ _ _ _ _ _ _ _ _ _ (zrv ad c6 c7 _ _ _ _ _ _ _ _ _ _ _ _ _ _ _ _ _ _ _ _ _ _ _ _ _) (hln _ oC) qb.1 oC oC) ?_
 dsimp only;rw[qlk,zfm];have qd:=qc.1;rw[qlk,zfm]at qd;exact zrw r1 m t evs uid _ _ su pl og zn _ _ _ _ _ _ _ _ _ _ _ _ _ gs wd ex ad hval (by simp at qd;omega) oA
end Go.Sym
namespace Go.Sym
def qzq(l:List Int)(h:l.length<=1000):xg FU l l=some true:=by
 rw[zor FU l l oA (Nat.lt_of_le_of_lt h oD),decide_eq_true rfl]
def ztb(e:b9)(hg:e.2.2.2.2.2.2.1.length<=30)(h1:e.2.2.2.2.2.2.2.2.2.2.2.2.2.2.2.1.length<=1000)(h2:e.2.2.2.2.2.2.2.2.2.2.2.2.2.2.2.2.1.length<=1000)(h3:e.2.2.2.2.2.2.2.2.2.2.2.2.2.2.2.2.2.length<=1000)(n:Nat):∀(ab aa:List (Bs×Int)),e.2.2.2.2.2.2.1=ab++aa->aa.length<n->qgw FU n (ab.length:Int) e e=some true:=by
 induction n with
 |zero=>intro ab aa _ h;omega|succ n ih=>
  intro ab aa eg hn;have hll:=congrArg List.length eg;rw[qM]at hll;rw[qgw,qso]
  cases aa with
  |nil=>
   rw[bz (by simp at hll;omega)]
   simp only[beq_self_eq_true,qT,qzq _ h1,qzq _ h2,qzq _ h3,qB]
  |cons g aa=>
   simp only[qL]at hll hn;rw[ao oA,show ap e.2.2.2.2.2.2.1 (ab.length:Int)=some g by rw[eg];exact gz _ _ _]
   simp only[qB,beq_self_eq_true,Bool.and_self,Bool.not_true,qF];rw[cd _]
   have:=ih (ab++[g]) aa (by rw[eg];simp) oA
   rw[qM,wD]at this;exact this
def zla(x:Int):(x != x)=false:=oC
def ztc(e:b9)(h:EvB e)(hw:e.2.2.2.2.2.2.2.2.2.2.2.2.2.2.2.1.length<=1000):qgv FU e e=some true:=by
 have g:=ztb e h.gl hw (by have:=h.r.xl;omega) (by have:=h.r.al;omega) FU [] e.2.2.2.2.2.2.1 rfl (Nat.lt_of_le_of_lt h.gl oD)
 unfold qgv;simp only[beq_self_eq_true,zla,Bool.and_self,Bool.not_true,qF];exact g
def znq{e:b9}(h:rz e):e.2.2.2.2.2.2.2.2.2.2.2.2.2.2.2.1.length<=1000:=by have:=(q1d h.r).2;omega
def zsa(t:Bs)(ht:t.length<=12000)(s:Bs)(l:List b9)(hl:l.length<=20)(h:P1 FU [10] (im t) 0 []=some (.inl ([10],s,0,l))):qdc FU t=some ((0,0),l):=by
 unfold qdc;rw[bz,zuw t,qB]
 unfold qvw;rw[ak]
 have h:x7 FU FU [10] (im t) 0 []=some (.inl ([10],s,0,l)):=h;dsimp only;rw[h,qB];dsimp only[az];rw[bz];rfl
def zr2(w v:Bs)(h:∀x∈w,x≠58)(hl:w.length+v.length<=900000)(u:Bs)(me sq:Int)(su pl og zn:Bs)(y mo da hh mi ss tz le fr ev co un:Int)(hu go:Bool)(gs:List (Bs×Int))(wd ex ad:List Int):dx FU ((88::w)++58::v) u me sq su pl og zn y mo da hh mi ss tz le fr ev co un hu go gs wd ex ad=some (u,me,sq,su,pl,og,zn,y,mo,da,hh,mi,ss,tz,le,fr,ev,co,un,hu,go,gs,wd,ex,ad):=by
 unfold dx;rw[kz 58 (88::w) v (fun x hx=>by
  rcases List.mem_cons.1 hx with rfl|hx
  ·decide
  ·exact h x hx) oL,qB]
 dsimp only;rw[ak,ak,ak,ak,ak,ak,ak,ak,ak,ak,ak,ak,ak,ak]
def q9a:gy [66,69,71,73,78,58,69,86,69,78,84]=[66,69,71,73,78,58,69,86,69,78,84]++[13,10]:=by
 have:(qan FU [66,69,71,73,78,58,69,86,69,78,84]).getD []=[66,69,71,73,78,58,69,86,69,78,84]++[13,10]:=by
  rw[show qan FU [66,69,71,73,78,58,69,86,69,78,84]=some ([66,69,71,73,78,58,69,86,69,78,84]++[13,10]) by rfl];rfl
 exact this
def LnX(w:Bs):Prop:=∀c∈w,c≠13/\c≠10/\c≠58
def zpe(a b c d:Bs):(a++10::(b++10::(c++10::d))).length=a.length+b.length+c.length+d.length+3:=by
 simp only[qM,qL];omega
def zqn(e:b9)(h:rz e)(hE:ux e)(w:Bs)(hw:LnX w)(hl:(il e).length+3*w.length<=11000) :
  qdc FU (((((((([88]++w)++[58,66,69,71,73,78,10])++[66,69,71,73,78,58,69,86,69,78,84,13,10])++[88,45])++w)++[58,97,13,10])++(ig e).flatMap gy)++[88]++w)=some ((0,0),[e]):=by
 have hg:=h.gl;have hx:∀a:Bs,(∀c∈a,c≠10/\c≠13)->∀b:Bs,(∀c∈b,c≠10/\c≠13)->∀c∈a++b,c≠10/\c≠13:=fun a ha b hb c hc=>by
  rcases List.mem_append.1 hc with hc|hc
  ·exact ha c hc
  ·exact hb c hc
 have hw':∀c∈w,c≠10/\c≠13:=fun c hc=>⟨(hw c hc).2.1,(hw c hc).1⟩
 have a1:=hx _ (hx [88] oD w hw') [58,66,69,71,73,78] oD
 have a2:=hx _ (hx [88,45] oD w hw') [58,97] oD
 have a3:=hx [88] oD w hw'
 have hd:∀s:Bs,ta (88::s):=fun s => .inr ⟨88,s,rfl,oD,oD⟩
 have hd2:∀s:Bs,ta ((([88,45]++w)++[58,97])++s):=fun s => .inr ⟨88,_,rfl,oD,oD⟩
 have hdB:∀s:Bs,ta ([66,69,71,73,78,58,69,86,69,78,84]++s):=fun s => .inr ⟨66,_,rfl,oD,oD⟩
 have htx:il e=[66,69,71,73,78,58,69,86,69,78,84,13,10]++(ig e).flatMap gy:=by unfold il;rw[qkn,List.flatMap_cons,q9a];rfl
 have hlt:=congrArg List.length htx;rw[qM]at hlt;have lb:([66,69,71,73,78,58,69,86,69,78,84,13,10]:Bs).length=13:=rfl;obtain⟨u1,_⟩:=zfk ([88]++w) (hd w) (ig e) (fun t ht=>qp9 h t (by rw[qkn];exact qE _ ht))
 obtain⟨X,hX⟩:∃X,X=(((((((([88]++w)++[58,66,69,71,73,78,10])++[66,69,71,73,78,58,69,86,69,78,84,13,10])++[88,45])++w)++[58,97,13,10])++(ig e).flatMap gy)++[88]++w):=⟨_,rfl⟩;rw[← hX];have nz:X =
   (([88]++w)++[58,66,69,71,73,78])++10::([66,69,71,73,78,58,69,86,69,78,84]++13::10::((([88,45]++w)++[58,97])++13::10::((ig e).flatMap gy++([88]++w)))):=by rw[hX];simp
 have hu2:im X =
   (([88]++w)++[58,66,69,71,73,78])++10::([66,69,71,73,78,58,69,86,69,78,84]++10::((([88,45]++w)++[58,97])++10::(fp (ig e)++([88]++w)))):=by
  rw[nz,zuv _ _ a1 (hdB _),zfj [66,69,71,73,78,58,69,86,69,78,84] _ oD (hd2 _),zfj _ _ a2 (by
   cases hq:ig e with
   |nil=>exact hd w|cons t l=>
    rw[List.flatMap_cons,qS];exact q9b (qp9 h t (by rw[qkn,hq];simp)) _),u1,zut _ a3]
 have ht:X.length<=12000:=by
  rw[nz];simp only[qM,qL,qZ];omega
 have ul:=zuu X;refine zsa _ ht ([88]++w) [e] oC ?_
 rw[hu2]at ul ⊢;clear hu2 nz;have ul:((([88]++w)++[58,66,69,71,73,78])++10::([66,69,71,73,78,58,69,86,69,78,84]++10::((([88,45]++w)++[58,97])++10::(fp (ig e)++([88]++w))))).length<=12000:=Nat.le_trans ul ht;have ul0:=ul;rw[zpe,show([66,69,71,73,78,58,69,86,69,78,84]:Bs).length=11 from rfl]at ul
 obtain⟨m,hm⟩:∃m,FU=(e.2.2.2.2.2.2.1.length+(m+7)+6)+1:=⟨FU-14-e.2.2.2.2.2.2.1.length,oO⟩
 have f3:P1 FU=P1 (99999997+1+1+1):=rfl;have l2:(fp (ig e)++([88]++w)).length<=100000:=oA
 have hb:=zlb e h (P1 (99999997+1)) m ([88]++w) [] l2 oC hE
 rw[f3,zru _ (([88]++w)++[58,66,69,71,73,78]) ([66,69,71,73,78,58,69,86,69,78,84]++10::((([88,45]++w)++[58,97])++10::(fp (ig e)++([88]++w)))) [] (fun x hx=>(a1 x hx).1) (Nat.le_trans ul0 oD) oC,zrs _ ((([88,45]++w)++[58,97])++10::(fp (ig e)++([88]++w))) [] (by rw[qM,qL];omega)]
 have ho:=zr2 (45::w) [97] (fun x hx=>by
  rcases List.mem_cons.1 hx with rfl|hx
  ·decide
  ·exact(hw x hx).2.2) (by simp only[qM,qL,qZ]at ul ⊢;omega) [] 1 0 [] [] [] [] 0 0 0 0 0 0 0 0 0 1 0 0 false true [] [] [] []
 have hs:=zdc (P1 (99999997+1)) (e.2.2.2.2.2.2.1.length+(m+7)+6) (([88,45]++w)++[58,97]) (fp (ig e)++([88]++w)) [] [] 1 0 [] [] [] [] 0 0 0 0 0 0 0 0 0 1 0 0 false true [] [] [] [] _ (by
  rw[show([88,45]++w)++[58,97]=(88::45::w)++58::[97] by simp]
  exact ho) (fun x hx=>(a2 x hx).1) (by rw[qM,qL];omega) oC oC
 rw[← hm]at hs;refine Eq.trans hs ?_;dsimp only;rw[hb];exact zrt 99999997 ([88]++w) [e] (fun x hx=>(a3 x hx).1) (by simp only[qM,qL,qZ]at ul ⊢;omega) oC
def zqm(e:b9)(h:rz e)(hE:ux e)(w:Bs)(hl:(il e).length+3*w.length<=11000)(n:Nat):∀(ab aa:Bs),w=ab++aa->aa.length<n->LnX ab->qgy FU n w (il e) (ab.length:Int) e=some true:=by
 have htx:il e=[66,69,71,73,78,58,69,86,69,78,84,13,10]++(ig e).flatMap gy:=by unfold il;rw[qkn,List.flatMap_cons,q9a];rfl
 induction n with
 |zero=>intro ab aa _ h;omega|succ n ih=>
  intro ab aa ew hn hp;have hll:=congrArg List.length ew;rw[qM]at hll;rw[qgy,qsq]
  cases aa with
  |cons c aa=>
   simp only[qL]at hll hn;rw[ao oA,show ap w (ab.length:Int)=some c by rw[ew];exact gz _ _ _,qB,zqi FU c [13,10,58] oD oD,qB]
   cases q:([13,10,58]:Bs).contains c
   ·rw[ak rfl,cd _]
    have:=ih (ab++[c]) aa (by rw[ew];simp) oA (fun x hx=>by
     rcases List.mem_append.1 hx with hx|hx
     ·exact hp x hx
     ·rw[List.mem_singleton]at hx;subst hx;simpa using q)
    rw[qM,wD]at this;exact this
   ·rw[ar rfl]
  |nil=>
   rw[List.append_nil]at ew;subst ew;rw[bz]
   cases w with
   |nil=>rw[ar];unfold qgz;rw[ar rfl]|cons c w'=>
    rw[ak,show ap (c::w') (0:Int)=some c from rfl,qB]
    unfold qgz;cases c==32
    ·rw[ak rfl];have lt:=congrArg List.length htx;rw[qM,show([66,69,71,73,78,58,69,86,69,78,84,13,10]:Bs).length=13 from rfl]at lt
     unfold qss;rw[bz,ao ⟨oA,oA⟩]
     unfold ql6;rw[ak (by rw[htx];rfl)]
     unfold qst;rw[show List.drop (13:Int).toNat (il e)=(ig e).flatMap gy by rw[htx];rfl]
     simp only[qL]at hl;rw[ao oF,ao oF,ao oF,ao oF,ao oF,ao oF,ao ⟨oA,oA⟩,ao oF,ao oF,ao oF]
     rw[zqn e h hE (c::w') hp (by rw[qL];omega),qB,ar,ar,ao ⟨oD,oC⟩,show([e]:List b9)[(0:Int).toNat]? = some e from rfl,qB,ztc e (qpq h) (znq h)];rfl
    ·rw[ar rfl]
def zpa(e:b9)(w:Bs)(hE:ux e)(hw:w.length<=2000000:=by omega):qcm FU e w=some true:=by
 unfold qcm;rw[znr,qB,ak,zvl [e] (fun x hx=>by rw[List.mem_singleton]at hx;subst hx;exact hE),qB]
 rcases zvi [e] with⟨h1,h2⟩|⟨h1,h2,h3,h4⟩
 ·rw[ib,qX h1,h2];unfold qgx;rw[ar rfl,ak (by simpa using h1)];rfl
 ·rw[h1,ib,qW oC]
  have e1:[e].flatMap il=il e:=oC
  rw[e1]at h4 ⊢;dsimp only;rw[bu (x:=(3:Int)*(w.length:Int)) oA oA,bu]
  unfold qgx;by_cases c:(11000:Int)<((il e).length:Int)+3*(w.length:Int)
  ·rw[ao c,ar]
  ·rw[bz c];unfold qsr;exact zqm e (h3 e qH) hE w oA FU [] w rfl (Nat.lt_of_le_of_lt (show w.length<=11000 by omega) oD) (fun x hx=>by cases hx)
def zpb(x:b9×Bs×Unit)(h:bks [qy4,.str] x<=1048576):qcm 100000000 x.1 x.2.1=some true:=by
 obtain⟨e,w,_⟩:=x;have h:qy4.bk e+((w.length+1)+0)<=1048576:=h;exact zpa e w (zno e)
end Go.Sym
