/- What the claim rests on, part 6: gathered texts. -/
import Derived.Lib.CountLaws
import Derived.Lib.IndexLaws
import Derived.Lib.Join
import Derived.Test.YtnhhffhkeegdgaaGreatDoorSyM4
set_option maxRecDepth 100000
set_option linter.defProp false
set_option linter.unusedSimpArgs false
set_option linter.unusedVariables false
namespace Go.Sym
def bw{x:Int}(h1 : -9223372036854775808<=x:=by omega)(h2:x<9223372036854775808:=by omega):af x=x:=by
 unfold af IntKind.wrap;simp[IntKind.signed,IntKind.bits];omega
def au{α:Type}{b:Bool}{x y:α}(h:b=true:=by first|rfl|simp;done):(bif b then x else y)=x:=by subst h;rfl
def ak{α:Type}{b:Bool}{x y:α}(h:b=false:=by first|rfl|simp;done):(bif b then x else y)=y:=by subst h;rfl
def jz{α:Type}{p:Prop}[Decidable p]{x y:α}:(bif decide p then x else y)=if p then x else y:=by by_cases h:p<;>simp[h]
def ao{α:Type}{p:Prop}[Decidable p]{x y:α}(h:p):(bif decide p then x else y)=x:=au (decide_eq_true h)
def bp{α:Type}{p:Prop}[Decidable p]{x y:α}(h:¬p:=by first|omega|simp;done|simp;omega):(bif decide p then x else y)=y:=ak (decide_eq_false h)
def qbj{α:Type}{p:Prop}[Decidable p]{x y:α}:(bif !decide p then x else y)=if p then y else x:=by by_cases h:p<;>simp[h]
def ia{α:Type}{a b:Int}{x y:α}:(bif a != b then x else y)=if a≠b then x else y:=by
 by_cases h:a=b
 ·rw[ak (by simp[h]),qW (by simp[h])]
 ·rw[au (by simp[h]),qX h]
def qpd{α:Type}{a b:Int}{x y:α}:(bif a==b then x else y)=if a=b then x else y:=by
 by_cases h:a=b
 ·rw[au (by simp[h]),qX h]
 ·rw[ak (by simp[h]),qW h]
def zlt{α:Type}{a b:UInt8}{x y:α}:(bif a==b then x else y)=if a=b then x else y:=by
 by_cases h:a=b
 ·rw[au (by simp[h]),qX h]
 ·rw[ak (by simp[h]),qW h]
def zef{α β:Type}(l:List α)(i:Int)(f:α->Option β):(bif decide (0<=i/\i.toNat<List.length l) then(l[i.toNat]?).bind f else none)=(ap l i).bind f:=by
 unfold ap;by_cases h:0<=i
 ·by_cases h2:i.toNat<l.length
  ·simp[h,h2]
  ·simp[h,h2]
 ·simp[h]
def zf{α:Type}(l:List α)(k:Nat)(h:k<l.length:=by omega):ap l (k:Int)=some l[k]:=by
 unfold ap;rw[qX];simp[h]
def gx{α:Type}(ab:List α)(c:α)(aa:List α):ap (ab++c::aa) (ab.length:Int)=some c:=by
 unfold ap;rw[qX];simp
def qqg{α:Type}(ab:List α)(c:α)(aa:List α):(ab++c::aa)[((ab.length:Nat):Int).toNat]? = some c:=oC
def qrm{α:Type}(ab:List α)(c d:α)(aa:List α):List.set (ab++c::aa) ((ab.length:Nat):Int).toNat d=ab++d::aa:=oC
def qb2(k:Nat)(h:k<9223372036854775807:=by omega):af ((k:Int)+1)=((k+1:Nat):Int):=by rw[bw];omega
def ww(P:UInt8->Prop)(h:∀n:_root_.Fin 256,P (UInt8.ofNat n.val))(c:UInt8):P c:=by
 have:=h ⟨c.toNat,c.toNat_lt⟩;simpa using this
def lo(c:UInt8):UInt8:=if 65<=c/\c<=90 then c+32 else c
def bl(c:UInt8):Bool:=c==32||c==9
def zv2(n:Nat)(h:n<1000000000:=by omega):af (((n+1:Nat):Int)-1)=(n:Int):=by rw[bw];omega
def zva{α:Type}(ab:List α)(aa:List α):List.take ((ab.length:Nat):Int).toNat (ab++aa)=ab:=oC
def q9u{α:Type}(ab:List α)(c:α)(aa:List α):List.drop ((ab.length+1:Nat):Int).toNat (ab++c::aa)=aa:=by
 rw[show((ab.length+1:Nat):Int).toNat=(ab++[c]).length by simp,show ab++c::aa=(ab++[c])++aa by simp]
 simp
def qlq(k:UInt8):∀(s:List UInt8),(∃t r,s=t++k::r/\∀x∈t,x≠k)\/∀x∈s,x≠k
 |[] => .inr (fun _ h=>by cases h)
 |c::s=>by
  by_cases hc:c=k
  ·subst hc;exact .inl ⟨[],s,rfl,fun _ h=>by cases h⟩
  ·rcases qlq k s with⟨t,r,rfl,h⟩|h
   ·exact .inl ⟨c::t,r,rfl,fun x hx=>(List.mem_cons.1 hx).elim (fun e=>e▸hc) (h x)⟩
   ·exact .inr fun x hx=>(List.mem_cons.1 hx).elim (fun e=>e▸hc) (h x)
def qj0{α:Type}{x y:α}:(bif !true then x else y)=y:=rfl
def q0f(c:UInt8):(c+97)-65=c+32:=by
 rw[UInt8.sub_eq_add_neg,UInt8.add_assoc];rfl
def qk1(fu:Nat):∀(n:Nat)(ab aa:List UInt8),aa.length<n->ab.length+aa.length<=9223372036854775807 ->
  vo fu n ((ab.length+aa.length:Nat):Int) (ab.length:Int) (ab++aa)=some (ab++aa.map lo)
 |0,_,_,h,_=>absurd h oA|n+1,ab,[],_,_=>by simp[vo,qdj]|n+1,ab,c::aa,h,hb=>by
  simp only[qL]at h hb;have ih:=fun d=>qk1 fu n (ab++[d]) aa oA oE
  simp only[qM,qL,qZ,qS,wM,wO]at ih;have e:((ab.length+(c::aa).length:Nat):Int)=((ab.length+1+aa.length:Nat):Int):=by simp only[qL];omega
  have hl:0<=(ab.length:Int)/\(ab.length:Int).toNat<(ab++c::aa).length:=oC
  rw[e];simp only[vo,qdj];rw[ao oA,ao hl,qqg,qB,qrm,qb2 _,jz,jz,ih,ih,ao hl,qB]
  unfold lo;simp only[List.map_cons,q0f];by_cases h1:(65:UInt8)<=c
  ·by_cases h2:c<=90
   ·simp[h1,h2]
   ·simp[h1,h2]
  ·simp[h1]
def q0k(fu:Nat)(s:List UInt8)(h:s.length<fu)(hb:s.length<=maxLen):qat fu s=some (s.map lo):=by
 unfold qat;rw[ao hb];have:=qk1 fu fu [] s h (by simpa [maxLen] using hb)
 simpa using this
def zl3(fu:Nat)(a b:List UInt8)(ha:a.length<fu)(hb:b.length<fu)(ha':a.length<=maxLen)(hb':b.length<=maxLen):ye fu a b=some (a.map lo==b.map lo):=by
 unfold ye;rw[qpd,q0k fu a ha ha',q0k fu b hb hb'];by_cases h:(a.length:Int)=b.length
 ·rw[qX h];rfl
 ·rw[qW h];have:(a.map lo==b.map lo)=false:=by
   rw[beq_eq_false_iff_ne];intro q;apply h;have:=congrArg List.length q;simp only[wC]at this;omega
  rw[this]
open Go.Lib (decodeL decodeN decodeL_N validD validD_step decodeL_le decodeL_width)
end Go.Sym
namespace Go.Sym

open Go.Lib (decodeL decodeN decodeL_N decodeL_le decodeL_width validD validD_step)
def gg(c:Nat):Bs:=if c<128 then[UInt8.ofNat c] else if c<2048 then[UInt8.ofNat (192+c/64),UInt8.ofNat (128+c%64)] else if c<65536 then[UInt8.ofNat (224+c/4096),UInt8.ofNat (128+c/64%64),UInt8.ofNat (128+c%64)] else[UInt8.ofNat (240+c/262144),UInt8.ofNat (128+c/4096%64),UInt8.ofNat (128+c/64%64),UInt8.ofNat (128+c%64)]
def ur(c:Nat):Prop:=c<55296\/(57344<=c/\c<=1114111)
def q9w{c:Nat}:1<=(gg c).length/\(gg c).length<=4:=by
 unfold gg;repeat' split
 all_goals simp
def zn0{c:Nat}:gg c≠[]:=fun q=>by have:=q9w (c:=c);rw[q]at this;simp at this
def uq(n:Nat)(h:n<256:=by omega):(UInt8.ofNat n).toNat=n:=by rw[UInt8.toNat_ofNat'];omega
def znc{c:Nat}(h:ur c)(t:Bs):decodeL (gg c++t)=(c,(gg c).length):=by
 unfold ur at h;rw[decodeL_N];unfold gg;by_cases h1:c<128
 ·rw[qX h1];show decodeN (t.length+1) (UInt8.ofNat c).toNat _ _ _=_;rw[uq c]
  unfold decodeN;rw[qX h1];rfl
 rw[qW h1];by_cases h2:c<2048
 ·rw[qX h2];show decodeN (t.length+1+1) (UInt8.ofNat (192+c/64)).toNat (UInt8.ofNat (128+c%64)).toNat _ _=_;rw[uq _,uq _]
  unfold decodeN;rw[qW oA,qX ⟨oA,oA,oA⟩,qX,show(192+c/64)%32*64+(128+c%64)%64=c by omega];rfl
 rw[qW h2];by_cases h3:c<65536
 ·rw[qX h3];show decodeN (t.length+1+1+1) (UInt8.ofNat (224+c/4096)).toNat (UInt8.ofNat (128+c/64%64)).toNat (UInt8.ofNat (128+c%64)).toNat _=_;rw[uq _,uq _,uq _]
  have e:(224+c/4096)%16*4096+(128+c/64%64)%64*64+(128+c%64)%64=c:=oA
  unfold decodeN;rw[qW oA,qW oA,qX ⟨oA,⟨oA,oA⟩,oA,oA⟩,e,qX ⟨oA,oA⟩];rfl
 ·rw[qW h3];show decodeN (t.length+1+1+1+1) (UInt8.ofNat (240+c/262144)).toNat (UInt8.ofNat (128+c/4096%64)).toNat (UInt8.ofNat (128+c/64%64)).toNat (UInt8.ofNat (128+c%64)).toNat=_;rw[uq _,uq _,uq _,uq _]
  have e:(240+c/262144)%8*262144+(128+c/4096%64)%64*4096+(128+c/64%64)%64*64+(128+c%64)%64=c:=oA
  unfold decodeN;rw[qW oA,qW oA,qW oA,qX ⟨oA,⟨oA,oA⟩,⟨oA,oA⟩,oA,oA⟩,e,qX ⟨oA,oA⟩];rfl
def tx(R:List Nat):Bs:=R.flatMap gg
def zfw:tx []=[]:=rfl
def qlu(c:Nat)(R:List Nat):tx (c::R)=gg c++tx R:=by simp[tx]
def zvh(R S:List Nat):tx (R++S)=tx R++tx S:=by simp[tx]
def okT(R:List Nat):Prop:=∀c∈R,ur c
def zc4{c:Nat}{R:List Nat}(h:okT (c::R)):ur c/\okT R:=⟨h c qH,fun d hd=>h d (qE _ hd)⟩
def zne(l:Bs)(hne:l≠[])(hv:¬((decodeL l).1=65533/\(decodeL l).2=1)):ur (decodeL l).1:=by
 have k:=Lib.decodeL_rune l;rw[decodeL_N]at *;unfold ur;unfold decodeN at *
 repeat' split at hv
 all_goals repeat' split
 all_goals simp only at *
 all_goals omega
def zn1{c:Nat}(h:ur c):Lib.encodeRune (c:Int)=gg c:=by
 unfold ur at h;unfold Lib.encodeRune gg;by_cases h1:c<128
 ·rw[Lib.encodeRuneZ_one oA oA,qX h1];rfl
 rw[qW h1];by_cases h2:c<2048
 ·rw[Lib.encodeRuneZ_two oA oA,qX h2];rfl
 rw[qW h2];by_cases h3:c<65536
 ·rw[Lib.encodeRuneZ_three oA,qX h3];rfl
 ·rw[Lib.encodeRuneZ_four oA oA,qW h3];rfl
def qr0:∀(n:Nat)(l:Bs),l.length<=n->validD l=true->∃R,okT R/\l=tx R:=by
 intro n
 induction n with
 |zero=>
  intro l hl _;have:l=[]:=List.eq_nil_of_length_eq_zero oA
  exact⟨[],(fun c hc=>by cases hc),this⟩
 |succ n ih=>
  intro l hl hv;by_cases hne:l=[]
  ·exact⟨[],(fun c hc=>by cases hc),hne⟩
  ·rw[validD_step l hne]at hv;split at hv
   ·cases hv
   ·rename_i hg;have w:=decodeL_width l;have wl:=decodeL_le l hne;obtain⟨R,h1,h2⟩:=ih (l.drop (decodeL l).2) (by rw[List.length_drop];omega) hv
    have ho:=zne l hne hg;refine⟨(decodeL l).1::R,?_,?_⟩
    ·intro c hc;rcases List.mem_cons.1 hc with rfl|hc
     ·exact ho
     ·exact h1 c hc
    ·rw[qlu,← h2];have e:=Lib.encode_decode l hne hg;rw[zn1 ho]at e;rw[e,List.take_append_drop]
end Go.Sym
namespace Go.Sym
def q8o(c:UInt8):qhv c=some (bl c):=by unfold qhv bl;cases c==32<;>rfl
def oc(f:Int×Int):eh f=some (f.1 != 0):=rfl

open Go.Lib (validD)
abbrev Prm:Type:=Bs×Bs
def SmP(l:List Prm):Prop:=l.length<=4000000/\∀x∈l,x.1.length<=4000000/\x.2.length<=4000000
def lk(a b:Bs):Bool:=a.map lo==b.map lo
def qrl(fu:Nat)(hfu:90000000<=fu)(a b:Bs)(ha:a.length<=4000000)(hb:b.length<=4000000):ye fu a b=some (lk a b):=
 zl3 fu a b oA oA (by simp[maxLen];omega) (by simp[maxLen];omega)
def SmP.mono{l l':List Prm}(h:SmP l)(h1:l'.length<=l.length)(h2:∀x∈l',x∈l):SmP l':=⟨Nat.le_trans h1 h.1,fun x hx=>h.2 x (h2 x hx)⟩
end Go.Sym
namespace Go.Sym
end Go.Sym
namespace Go.Sym.Tr
def lo(c:UInt8):UInt8:=if 65<=c/\c<=90 then c+32 else c
def q0f(c:UInt8):(c+97)-65=c+32:=by
 rw[UInt8.sub_eq_add_neg,UInt8.add_assoc];rfl
def qk1(fu:Nat):∀(n:Nat)(ab aa:List UInt8),aa.length<n->ab.length+aa.length<=9223372036854775807 ->
  vo fu n ((ab.length+aa.length:Nat):Int) (ab.length:Int) (ab++aa)=some (ab++aa.map lo)
 |0,_,_,h,_=>absurd h oA|n+1,ab,[],_,_=>by simp[vo,qdj]|n+1,ab,c::aa,h,hb=>by
  simp only[qL]at h hb;have ih:=fun d=>qk1 fu n (ab++[d]) aa oA oE
  simp only[qM,qL,qZ,qS,wM,wO]at ih;have e:((ab.length+(c::aa).length:Nat):Int)=((ab.length+1+aa.length:Nat):Int):=by simp only[qL];omega
  have hl:0<=(ab.length:Int)/\(ab.length:Int).toNat<(ab++c::aa).length:=oC
  rw[e];simp only[vo,qdj];rw[ao oA,ao hl,qqg,qB,qrm,qb2 _,jz,jz,ih,ih,ao hl,qB]
  unfold lo;simp only[List.map_cons,q0f];by_cases h1:(65:UInt8)<=c
  ·by_cases h2:c<=90
   ·simp[h1,h2]
   ·simp[h1,h2]
  ·simp[h1]
def q0k(fu:Nat)(s:List UInt8)(h:s.length<fu)(hb:s.length<=maxLen):qat fu s=some (s.map lo):=by
 unfold qat;rw[ao hb];have:=qk1 fu fu [] s h (by simpa [maxLen] using hb)
 simpa using this
end Go.Sym.Tr
namespace Go.Sym.Tr
def wr(m:UInt8)(col i:Nat):List UInt8->Int|[] => -1|c::r=>if(c==13&&r.head? == some 10)=true then wr m 0 (i+2) r.tail else if c=0\/c=13\/c=10\/m<c\/col=998 then(i:Int) else wr m (col+1) (i+1) r
termination_by l=>l.length
decreasing_by all_goals (simp only[qL,List.length_tail];omega)
end Go.Sym.Tr
namespace Go.Sym.Tr
def n9:List UInt8:=[65,66,67,68,69,70,71,72,73,74,75,76,77,78,79,80,81,82,83,84,85,86,87,88,89,90,97,98,99,100,101,102,103,104,105,106,107,108,109,110,111,112,113,114,115,116,117,118,119,120,121,122,48,49,50,51,52,53,54,55,56,57,43,47]
def al(k:Nat):UInt8:=n9.getD k 0
def qoy(k:Nat)(h:k<64:=by omega):ap n9 (k:Int)=some (al k):=by
 have h':k<n9.length:=h;rw[zf _ _ h'];unfold al;simp[h']
def c0(x:Nat):UInt8:=al (x/262144%64)
def c1(x:Nat):UInt8:=al (x/4096%64)
def c2(x:Nat):UInt8:=al (x/64%64)
def c3(x:Nat):UInt8:=al (x%64)
def e64:List UInt8->List UInt8|[]=>[]|[a]=>[c0 (a.toNat*65536),c1 (a.toNat*65536),61,61]|[a,b]=>[c0 (a.toNat*65536+b.toNat*256),c1 (a.toNat*65536+b.toNat*256),c2 (a.toNat*65536+b.toNat*256),61]|a::b::c::r=>c0 (a.toNat*65536+b.toNat*256+c.toNat)::c1 (a.toNat*65536+b.toNat*256+c.toNat)::c2 (a.toNat*65536+b.toNat*256+c.toNat)::c3 (a.toNat*65536+b.toNat*256+c.toNat)::e64 r
def up(x:Nat)(h:x<18446744073709551616:=by omega):(BitVec.ofInt 64 (x:Int)).toNat=x:=by
 rw[BitVec.toNat_ofInt];omega
def qrn(x:Nat)(h:x<1099511627776:=by omega):af ((x:Int)*2 ^ min (8:Int).toNat 64)=((256*x:Nat):Int):=by
 rw[show(2:Int) ^ min (8:Int).toNat 64=256 by decide,bw];omega
def or8(x y:Nat)(h:x<1099511627776:=by omega)(hy:y<256:=by omega):af (((BitVec.ofInt 64 (af ((x:Int)*2 ^ min (8:Int).toNat 64))|||BitVec.ofInt 64 (y:Int)).toNat:Int))=((256*x+y:Nat):Int):=by
 rw[qrn x h,BitVec.toNat_or,up _,up _]
 have:=Nat.two_pow_add_eq_or_of_lt (i:=8) (b:=y) (by simpa using hy) x
 rw[← show 2 ^ 8*x+y=256*x|||y from this]
 rw[bw]
def or0(y:Nat)(hy:y<256:=by omega):af (((BitVec.ofInt 64 (0:Int)|||BitVec.ofInt 64 (y:Int)).toNat:Int))=(y:Int):=by
 have h0:(BitVec.ofInt 64 (0:Int)).toNat=0:=up 0
 rw[BitVec.toNat_or,h0,up _,Nat.zero_or,bw]
def qo1(x k:Nat)(p:Int)(hp:p=(k:Int))(hk:k<=30)(h:x<1099511627776):af (((BitVec.ofInt 64 (Int.fdiv (x:Int) (2 ^ min p.toNat 64))&&&BitVec.ofInt 64 (63:Int)).toNat:Int))=((x/2 ^ k%64:Nat):Int):=by
 subst hp;have e1:min (k:Int).toNat 64=k:=oA
 have e2:Int.fdiv (x:Int) (2 ^ k)=((x/2 ^ k:Nat):Int):=by
  rw[Int.fdiv_eq_ediv_of_nonneg _ (by exact Int.le_of_lt (Int.pow_pos oD))]
  simp
 have hle:x/2 ^ k<=x:=Nat.div_le_self _ _;have h63:(BitVec.ofInt 64 (63:Int)).toNat=63:=up 63
 rw[e1,e2,BitVec.toNat_and,up _,h63]
 have:=Nat.and_two_pow_sub_one_eq_mod (x/2 ^ k) 6;rw[show(63:Nat)=2 ^ 6-1 by decide,this,show(2:Nat) ^ 6=64 by decide]
 rw[bw]
def qxw(x:Nat)(h:x<1099511627776):ap n9 (af (((BitVec.ofInt 64 (Int.fdiv (x:Int) (2 ^ min (18:Int).toNat 64))&&&BitVec.ofInt 64 (63:Int)).toNat:Int)))=some (c0 x):=by
 rw[qo1 x 18 18 rfl oA h,qoy _];rfl
def qxv(x:Nat)(h:x<1099511627776):ap n9 (af (((BitVec.ofInt 64 (Int.fdiv (x:Int) (2 ^ min (12:Int).toNat 64))&&&BitVec.ofInt 64 (63:Int)).toNat:Int)))=some (c1 x):=by
 rw[qo1 x 12 12 rfl oA h,qoy _];rfl
def qxx(x:Nat)(h:x<1099511627776):ap n9 (af (((BitVec.ofInt 64 (Int.fdiv (x:Int) (2 ^ min (6:Int).toNat 64))&&&BitVec.ofInt 64 (63:Int)).toNat:Int)))=some (c2 x):=by
 rw[qo1 x 6 6 rfl oA h,qoy _];rfl
def qxu(x:Nat)(h:x<1099511627776):ap n9 (af (((BitVec.ofInt 64 (Int.fdiv (x:Int) (2 ^ min (0:Int).toNat 64))&&&BitVec.ofInt 64 (63:Int)).toNat:Int)))=some (c3 x):=by
 rw[qo1 x 0 0 rfl oA h,qoy _];unfold c3;simp
def zy(r0:List UInt8->Int->List UInt8->Option (List UInt8×Int×List UInt8))(k:Nat)(p0 p1 p2 p3:UInt8)(m1:List UInt8)(m3:Int)(m16:List UInt8):Option (List UInt8×Int×List UInt8):=
 (g7 p0 p1 p2 p3 m3 m16).bind fun v=>r0 (m1.drop k) v.1 v.2
def zq8(fu:Nat)(r0:List UInt8->Int->List UInt8->Option (List UInt8×Int×List UInt8))(x:Nat)(hx:x<1099511627776)(m1:List UInt8)(h:1<=m1.length)(m3:Int)(m16:List UInt8) :
  vn fu r0 1 (x:Int) m1 m3 m16=zy r0 1 (c0 x) (c1 x) 61 61 m1 m3 m16:=by
 unfold vn;rw[show([65,66,67,68,69,70,71,72,73,74,75,76,77,78,79,80,81,82,83,84,85,86,87,88,89,90,97,98,99,100,101,102,103,104,105,106,107,108,109,110,111,112,113,114,115,116,117,118,119,120,121,122,48,49,50,51,52,53,54,55,56,57,43,47]:List UInt8)=n9 from rfl]
 rw[qxw x hx,qxv x hx,qxx x hx,qxu x hx];simp only[qB,bp (show ¬(1:Int)<0 by decide),bp (show ¬(1:Int)<1 by decide),ao (show(1:Int)<2 by decide),ao (show(1:Int)<3 by decide),ao (show 0<=(1:Int)/\(1:Int)<=(m1.length:Int) by omega)]
 rfl
def zq9(fu:Nat)(r0:List UInt8->Int->List UInt8->Option (List UInt8×Int×List UInt8))(x:Nat)(hx:x<1099511627776)(m1:List UInt8)(h:2<=m1.length)(m3:Int)(m16:List UInt8) :
  vn fu r0 2 (x:Int) m1 m3 m16=zy r0 2 (c0 x) (c1 x) (c2 x) 61 m1 m3 m16:=by
 unfold vn;rw[show([65,66,67,68,69,70,71,72,73,74,75,76,77,78,79,80,81,82,83,84,85,86,87,88,89,90,97,98,99,100,101,102,103,104,105,106,107,108,109,110,111,112,113,114,115,116,117,118,119,120,121,122,48,49,50,51,52,53,54,55,56,57,43,47]:List UInt8)=n9 from rfl]
 rw[qxw x hx,qxv x hx,qxx x hx,qxu x hx];simp only[qB,bp (show ¬(2:Int)<0 by decide),bp (show ¬(2:Int)<1 by decide),bp (show ¬(2:Int)<2 by decide),ao (show(2:Int)<3 by decide),ao (show 0<=(2:Int)/\(2:Int)<=(m1.length:Int) by omega)]
 rfl
def zra(fu:Nat)(r0:List UInt8->Int->List UInt8->Option (List UInt8×Int×List UInt8))(x:Nat)(hx:x<1099511627776)(m1:List UInt8)(h:3<=m1.length)(m3:Int)(m16:List UInt8) :
  vn fu r0 3 (x:Int) m1 m3 m16=zy r0 3 (c0 x) (c1 x) (c2 x) (c3 x) m1 m3 m16:=by
 unfold vn;rw[show([65,66,67,68,69,70,71,72,73,74,75,76,77,78,79,80,81,82,83,84,85,86,87,88,89,90,97,98,99,100,101,102,103,104,105,106,107,108,109,110,111,112,113,114,115,116,117,118,119,120,121,122,48,49,50,51,52,53,54,55,56,57,43,47]:List UInt8)=n9 from rfl]
 rw[qxw x hx,qxv x hx,qxx x hx,qxu x hx];simp only[qB,bp (show ¬(3:Int)<0 by decide),bp (show ¬(3:Int)<1 by decide),bp (show ¬(3:Int)<2 by decide),bp (show ¬(3:Int)<3 by decide),ao (show 0<=(3:Int)/\(3:Int)<=(m1.length:Int) by omega)]
 rfl
def zlk(fu:Nat)(r0:List UInt8->Int->List UInt8->Option (List UInt8×Int×List UInt8))(a:UInt8)(m3:Int)(m16:List UInt8) :
  vm fu r0 [a] m3 m16=zy r0 1 (c0 (a.toNat*65536)) (c1 (a.toNat*65536)) 61 61 [a] m3 m16:=by
 have ha:=a.toNat_lt;unfold vm;have hm:(if(List.length [a]:Int)<3 then(List.length [a]:Int) else 3)=1:=rfl
 rw[hm,ao (show(0:Int)<(List.length [a]:Int) by simp),ao (show(0:Int)<1 by decide)]
 rw[show ap [a] 0=some a from rfl,qB,or0 _]
 unfold qdd;rw[bp (show ¬(1:Int)<1 by decide),qrn _]
 unfold qde;rw[bp (show ¬(2:Int)<1 by decide),qrn _,zq8 _ _ _ oA _ oC]
 rw[show 256*(256*a.toNat)=a.toNat*65536 by omega]
def zll(fu:Nat)(r0:List UInt8->Int->List UInt8->Option (List UInt8×Int×List UInt8))(a b:UInt8)(m3:Int)(m16:List UInt8) :
  vm fu r0 [a,b] m3 m16=zy r0 2 (c0 (a.toNat*65536+b.toNat*256)) (c1 (a.toNat*65536+b.toNat*256)) (c2 (a.toNat*65536+b.toNat*256)) 61 [a,b] m3 m16:=by
 have ha:=a.toNat_lt;have hb:=b.toNat_lt;unfold vm;have hm:(if(List.length [a,b]:Int)<3 then(List.length [a,b]:Int) else 3)=2:=rfl
 rw[hm,ao (show(0:Int)<(List.length [a,b]:Int) by simp),ao (show(0:Int)<2 by decide)]
 rw[show ap [a,b] 0=some a from rfl,qB,or0 _]
 unfold qdd;rw[ao (show(1:Int)<2 by decide),show ap [a,b] 1=some b from rfl,qB,or8 _ _]
 unfold qde;rw[bp (show ¬(2:Int)<2 by decide),qrn _,zq9 _ _ _ oA _ oC]
 rw[show 256*(256*a.toNat+b.toNat)=a.toNat*65536+b.toNat*256 by omega]
def zlm(fu:Nat)(r0:List UInt8->Int->List UInt8->Option (List UInt8×Int×List UInt8))(a b c:UInt8)(r:List UInt8)(m3:Int)(m16:List UInt8) :
  vm fu r0 (a::b::c::r) m3 m16=zy r0 3 (c0 (a.toNat*65536+b.toNat*256+c.toNat)) (c1 (a.toNat*65536+b.toNat*256+c.toNat)) (c2 (a.toNat*65536+b.toNat*256+c.toNat)) (c3 (a.toNat*65536+b.toNat*256+c.toNat)) (a::b::c::r) m3 m16:=by
 have ha:=a.toNat_lt;have hb:=b.toNat_lt;have hc:=c.toNat_lt;unfold vm;have hl:((a::b::c::r).length:Int)=(r.length:Int)+3:=by simp;omega
 have hm:(if((a::b::c::r).length:Int)<3 then((a::b::c::r).length:Int) else 3)=3:=by rw[qW oA]
 rw[hm,ao (show(0:Int)<((a::b::c::r).length:Int) by omega),ao (show(0:Int)<3 by decide)]
 rw[show ap (a::b::c::r) 0=some a from rfl,qB,or0 _]
 unfold qdd;rw[ao (show(1:Int)<3 by decide),show ap (a::b::c::r) 1=some b from rfl,qB,or8 _ _]
 unfold qde;rw[ao (show(2:Int)<3 by decide),show ap (a::b::c::r) 2=some c from rfl,qB,or8 _ _,zra _ _ _ oA _ oC]
 rw[show 256*(256*a.toNat+b.toNat)+c.toNat=a.toNat*65536+b.toNat*256+c.toNat by omega]
end Go.Sym.Tr
namespace Go.Sym.Tr
def qfw:Nat->List UInt8->List UInt8|0,_=>[]|n+1,s=>if 76<s.length then s.take 76++[13,10]++qfw n (s.drop 76) else if s=[] then[] else s++[13,10]
def zbu:∀(n m:Nat)(s:List UInt8),s.length<n->s.length<m->qfw n s=qfw m s
 |0,_,_,h,_=>absurd h oA|_,0,_,_,h=>absurd h oA|n+1,m+1,s,h,k=>by
  unfold qfw;by_cases c:76<s.length
  ·rw[qX c,qX c,zbu n m (s.drop 76) oE oE]
  ·rw[qW c,qW c]
def lines76(s:List UInt8):List UInt8:=qfw (s.length+1) s
def lines76_eq(s:List UInt8):lines76 s=if 76<s.length then s.take 76++[13,10]++lines76 (s.drop 76) else if s=[] then[] else s++[13,10]:=by
 unfold lines76;rw[qfw];by_cases c:76<s.length
 ·rw[qX c,qX c,zbu s.length ((s.drop 76).length+1) (s.drop 76) oE oA]
 ·rw[qW c,qW c]
def rz(col:Nat)(s:List UInt8):List UInt8:=
 if 76<col+s.length then s.take (76-col)++[13,10]++lines76 (s.drop (76-col)) else if col=0/\s=[] then[] else s++[13,10]
def zd9(s:List UInt8):rz 0 s=lines76 s:=by
 unfold rz
 conv=>rhs;rw[lines76_eq]
 simp
def ztb(s:List UInt8)(h:s≠[]):rz 76 s=[13,10]++rz 0 s:=by
 rw[zd9];unfold rz;have:0<s.length:=List.length_pos_iff.2 h;rw[qX]
 simp
def zea(col:Nat)(p0 p1 p2 p3:UInt8)(s:List UInt8)(h:col+4<=76:=by omega):rz col (p0::p1::p2::p3::s)=[p0,p1,p2,p3]++rz (col+4) s:=by
 unfold rz;simp only[qL];by_cases c:76<col+4+s.length
 ·rw[qX,qX]
  obtain⟨k,hk⟩:∃k,76-col=k+4:=⟨76-col-4,oA⟩
  have hk2:76-(col+4)=k:=oA
  rw[hk,hk2];simp[List.take_succ_cons,List.drop_succ_cons]
 ·rw[qW (show ¬76<col+(s.length+1+1+1+1) by omega),qW c,qW (show ¬(col=0/\p0::p1::p2::p3::s=[]) by simp),qW (show ¬(col+4=0/\s=[]) by omega)]
  simp
def qka:∀(b:List UInt8),(e64 b).length=4*((b.length+2)/3)
 |[]=>rfl|[_]=>by simp[e64]|[_,_]=>by simp[e64]|a::b::c::r=>by
  simp only[e64,qL,qka r];omega
def zn3(p0 p1 p2 p3:UInt8)(col:Nat)(out:List UInt8)(hc:col<=76)(ho:out.length+6<=aw) :
  g7 p0 p1 p2 p3 (col:Int) out=some (if col=76 then((4:Int),out++[13,10]++[p0,p1,p2,p3]) else(((col+4:Nat):Int),out++[p0,p1,p2,p3])):=by
 unfold g7;rw[qpd];by_cases c:col=76
 ·subst c;rw[qX (show((76:Nat):Int)=76 from rfl),qX rfl,ao oE,ao oE]
 ·rw[qW oA,qW c,ao oE,bw]
  simp
def zou(fu n:Nat):∀(b:List UInt8)(col:Nat)(out:List UInt8),b.length<n->col<=76->col%4=0->out.length+2*(e64 b).length+8<=aw ->
  ∃col':Nat,∃out',o6 fu n b (col:Int) out=some ([],((col':Int),out'))/\out'.length+2<=aw/\out'++(if 0<col' then[13,10] else[])=out++rz col (e64 b):=by
 induction n with
 |zero=>intro b col out h;omega|succ n ih=>
  intro b col out h hc hm ho;have four:∀(k:Nat)(p0 p1 p2 p3:UInt8)(r:List UInt8),b.drop k=r->e64 b=p0::p1::p2::p3::e64 r->r.length<n->o6 fu (n+1) b (col:Int) out=zy (o6 fu n) k p0 p1 p2 p3 b (col:Int) out ->
    ∃col':Nat,∃out',o6 fu (n+1) b (col:Int) out=some ([],((col':Int),out'))/\out'.length+2<=aw/\out'++(if 0<col' then[13,10] else[])=out++rz col (e64 b):=by
   intro k p0 p1 p2 p3 r hd he hr hp;rw[he,qL,qL,qL,qL]at ho;rw[hp,he];unfold zy;rw[zn3 _ _ _ _ _ _ hc oA,qB,hd]
   by_cases c:col=76
   ·rw[qX c];obtain⟨col',out',h1,h2,h3⟩:=ih r 4 (out++[13,10]++[p0,p1,p2,p3]) hr oA oA oE
    refine⟨col',out',h1,h2,?_⟩;rw[h3,c,ztb _ oC,zea _ _ _ _ _ _]
    simp
   ·rw[qW c];obtain⟨col',out',h1,h2,h3⟩:=ih r (col+4) (out++[p0,p1,p2,p3]) hr oA oA oE
    refine⟨col',out',h1,h2,?_⟩;rw[h3,zea _ _ _ _ _ _]
    simp
  match b,four with
  |[],_=>
   refine⟨col,out,?_,oA,?_⟩
   ·rw[o6,vm,bp]
   ·unfold rz;simp only[e64,qZ];rw[qW (show ¬76<col+0 by omega)]
    by_cases c:col=0
    ·subst c;simp
    ·rw[qX (show 0<col by omega)];simp[c]
  |[a],four=>exact four 1 (c0 (a.toNat*65536)) (c1 (a.toNat*65536)) 61 61 [] rfl (by simp only[e64]) (by simp at h;simp;omega) (by rw[o6];exact zlk fu _ a _ _)|[a,b],four=>exact four 2 (c0 (a.toNat*65536+b.toNat*256)) (c1 (a.toNat*65536+b.toNat*256)) (c2 (a.toNat*65536+b.toNat*256)) 61 [] rfl (by simp only[e64]) (by simp at h;simp;omega) (by rw[o6];exact zll fu _ a b _ _)|a::b::c::r,four=>exact four 3 (c0 (a.toNat*65536+b.toNat*256+c.toNat)) (c1 (a.toNat*65536+b.toNat*256+c.toNat)) (c2 (a.toNat*65536+b.toNat*256+c.toNat)) (c3 (a.toNat*65536+b.toNat*256+c.toNat)) r rfl (by simp only[e64]) (by simp at h;omega) (by rw[o6];exact zlm fu _ a b c r _ _)
def enc64_eq(fu:Nat)(b:List UInt8)(hf:b.length<fu)(hb:b.length<=12000):qhr fu b=some ((0,0),lines76 (e64 b)):=by
 unfold qhr qtk;rw[bp,qB]
 unfold qtl;obtain⟨col',out',h1,h2,h3⟩:=zou fu fu b 0 [] hf oA rfl (by rw[qka];simp only[aw,qZ];omega)
 rw[show o6 fu fu b (0:Int) []=some ([],((col':Int),out')) from h1,qB]
 rw[zd9,List.nil_append]at h3;simp only[ck,qB];rw[← h3,jz];by_cases c:0<col'
 ·rw[qX (show(0:Int)<(col':Int) by omega),qX c,ao oE]
 ·rw[qW (show ¬(0:Int)<(col':Int) by omega),qW c];simp
end Go.Sym.Tr
namespace Go.Sym.Tr
def zqr(c:UInt8):List Nat:=[c.toNat/128%2,c.toNat/64%2,c.toNat/32%2,c.toNat/16%2,c.toNat/8%2,c.toNat/4%2,c.toNat/2%2,c.toNat%2]
def bits(b:List UInt8):List Nat:=b.flatMap zqr
def ee(a:Nat):List Nat->Nat|[]=>a|x::l=>ee (2*a+x) l
def q2k:∀(l:List Nat)(a:Nat),(∀x∈l,x<=1)->ee a l+1<=(a+1)*2 ^ l.length
 |[],a,_=>by simp[ee]|x::l,a,h=>by
  have:=q2k l (2*a+x) (fun y hy=>h y (qE _ hy))
  have hx:=h x qH;unfold ee;refine Nat.le_trans this ?_;rw[qL,Nat.pow_succ,Nat.mul_comm (2 ^ l.length) 2,← Nat.mul_assoc];exact Nat.mul_le_mul_right _ oA
def n2(a:Nat):2*(2*0+a/2%2)+a%2=a%4:=oA
def n4(t b:Nat)(h:b<256):2*(2*(2*(2*t+b/128%2)+b/64%2)+b/32%2)+b/16%2=16*t+b/16:=oA
def x0(a b c:Nat)(h:a<256)(hb:b<256)(hc:c<256):(a*65536+b*256+c)/262144%64=a/4:=oA
def x1(a b c:Nat)(h:a<256)(hb:b<256)(hc:c<256):(a*65536+b*256+c)/4096%64=16*(a%4)+b/16:=oA
def x2(a b c:Nat)(h:a<256)(hb:b<256)(hc:c<256):(a*65536+b*256+c)/64%64=4*(b%16)+c/64:=oA
def x3(a b c:Nat)(h:a<256)(hb:b<256)(hc:c<256):(a*65536+b*256+c)%64=c%64:=oA
end Go.Sym.Tr
namespace Go.Sym.Tr
def ww(P:UInt8->Prop)(h:∀n:_root_.Fin 256,P (UInt8.ofNat n.val))(c:UInt8):P c:=by
 have:=h ⟨c.toNat,c.toNat_lt⟩;simpa using this
def isL:List UInt8->Bool|a::b::_=>a==13&&b==10|_=>false
def q9u{α:Type}(ab:List α)(c:α)(aa:List α):List.drop ((ab.length+1:Nat):Int).toNat (ab++c::aa)=aa:=by
 rw[show((ab.length+1:Nat):Int).toNat=(ab++[c]).length by simp,show ab++c::aa=(ab++[c])++aa by simp]
 simp
end Go.Sym.Tr
namespace Go.Sym.Tr
end Go.Sym.Tr
namespace Go.Sym.Tr
def sp:List UInt8->List UInt8×List UInt8|[]=>([],[])|c::r=>if isL (c::r) then([],c::r) else(c::(sp r).1,(sp r).2)
end Go.Sym.Tr
namespace Go.Sym.Tr
def qx4(a b:Int):qg a b=some (a,b):=rfl
end Go.Sym.Tr
namespace Go.Sym.Tr
def nu(c:UInt8):Int:=Lib.indexByte n9 c
def zvu:∀n:_root_.Fin 256,nu (UInt8.ofNat n.val) = -1\/(0<=nu (UInt8.ofNat n.val)/\nu (UInt8.ofNat n.val)<64):=by decide +kernel
def zvv(c:UInt8):nu c = -1\/(0<=nu c/\nu c<64):=ww (fun c=>nu c = -1\/(0<=nu c/\nu c<64)) zvu c
def jt(v:Nat):List Nat:=[v/32%2,v/16%2,v/8%2,v/4%2,v/2%2,v%2]
def qy:List UInt8->List Nat|[]=>[]|c::r=>if c=61 then[] else if nu c<0 then qy r else jt (nu c).toNat++qy r
def yv:List Nat->List UInt8|a::b::c::d::e::f::g::h::r=>dj ((ee 0 [a,b,c,d,e,f,g,h]:Nat):Int)::yv r|_=>[]
def q2j:∀(l:List Nat)(a:Nat),ee a l=a*2 ^ l.length+ee 0 l
 |[],a=>by simp[ee]|x::l,a=>by
  rw[ee,ee,q2j l (2*a+x),q2j l (2*0+x),qL,Nat.pow_succ,Nat.add_mul,Nat.add_mul];have:2*a*2 ^ l.length=a*(2 ^ l.length*2):=by rw[Nat.mul_comm 2 a,Nat.mul_assoc,Nat.mul_comm 2]
  omega
def q2i:∀(l m:List Nat)(a:Nat),ee a (l++m)=ee (ee a l) m|[],_,_=>rfl|x::l,m,a=>q2i l m (2*a+x)
def zud(a v:Nat)(h:v<64):ee a (jt v)=64*a+v:=by
 simp only[jt,ee];omega
def zuc(v:Nat):∀x∈jt v,x<=1:=by
 intro x hx;simp only[jt,wE,List.not_mem_nil,or_false]at hx;omega
def zl6(q r:List Nat)(h:8<=q.length:=by omega):yv (q++r)=dj ((ee 0 (q.take 8):Nat):Int)::yv (q.drop 8++r):=by
 match q,h with|a::b::c::d::e::f::g::i::t,_=>simp[yv]
def q8x(q:List Nat)(h:q.length<8):yv q=[]:=by
 match q,h with|[],_=>rfl|[_],_=>rfl|[_,_],_=>rfl|[_,_,_],_=>rfl|[_,_,_,_],_=>rfl|[_,_,_,_,_],_=>rfl|[_,_,_,_,_,_],_=>rfl|[_,_,_,_,_,_,_],_=>rfl|_::_::_::_::_::_::_::_::_,h=>simp at h;omega
def or6(x v:Nat)(h:x<1099511627776)(hv:v<64):af (((BitVec.ofInt 64 (af ((x:Int)*2 ^ min (6:Int).toNat 64))|||BitVec.ofInt 64 (v:Int)).toNat:Int))=((64*x+v:Nat):Int):=by
 have e:af ((x:Int)*2 ^ min (6:Int).toNat 64)=((64*x:Nat):Int):=by
  rw[show(2:Int) ^ min (6:Int).toNat 64=64 by decide,bw];omega
 rw[e,BitVec.toNat_or,up _,up _]
 have:=Nat.two_pow_add_eq_or_of_lt (i:=6) (b:=v) (by simpa using hv) x
 rw[← show 2 ^ 6*x+v=64*x|||v from this]
 rw[bw]
def zkq(x k:Nat)(h:x<1099511627776:=by omega)(hk:k<=20:=by omega):af (((BitVec.ofInt 64 (x:Int)&&&BitVec.ofInt 64 (af ((af ((1:Int)*2 ^ min (k:Int).toNat 64))-(1:Int)))).toNat:Int))=((x%2 ^ k:Nat):Int):=by
 have e1:min (k:Int).toNat 64=k:=oA
 have hp:2 ^ k<=2 ^ 20:=Nat.pow_le_pow_right oA hk
 have hp1:1<=2 ^ k:=Nat.one_le_two_pow;have e2:af ((1:Int)*2 ^ k)=((2 ^ k:Nat):Int):=by
  have:((2:Int) ^ k)=((2 ^ k:Nat):Int):=oC
  rw[this,bw];omega
 have e3:af (((2 ^ k:Nat):Int)-1)=((2 ^ k-1:Nat):Int):=by rw[bw];omega
 have hm:x%2 ^ k<=x:=Nat.mod_le _ _;rw[e1,e2,e3,BitVec.toNat_and,up _,up _,Nat.and_two_pow_sub_one_eq_mod,bw]
end Go.Sym.Tr
namespace Go.Sym.Tr
def zu3(q:List Nat)(k:Nat)(h1:∀x∈q,x<=1):ee 0 (q.take k)=ee 0 q/2 ^ (q.length-k)/\ee 0 (q.drop k)=ee 0 q%2 ^ (q.length-k):=by
 have e:ee 0 q=ee 0 (q.take k)*2 ^ (q.drop k).length+ee 0 (q.drop k):=by
  rw[← q2j,← q2i,List.take_append_drop]
 have hd:=q2k (q.drop k) 0 (fun x hx=>h1 x (List.mem_of_mem_drop hx))
 rw[List.length_drop]at e hd;have hlt:ee 0 (q.drop k)<2 ^ (q.length-k):=oA
 rw[e,Nat.mul_comm,Nat.mul_add_div oA,Nat.mul_add_mod,Nat.div_eq_of_lt hlt,Nat.mod_eq_of_lt hlt]
 simp
def zp3(fu n:Nat)(m16:Int×Int):∀(ab aa:List UInt8)(p:List Nat)(out:List UInt8),aa.length<n->ab.length+aa.length<100000000->p.length<8->(∀x∈p,x<=1)->out.length+aa.length<=1000000000 ->
  qas fu n ((ee 0 p:Nat):Int) (p.length:Int) (ab++aa) ((ab.length+aa.length:Nat):Int) (ab.length:Int) m16 out=some ((0,0),out++yv (p++qy aa)):=by
 induction n with
 |zero=>intro ab aa p out h;omega|succ n ih=>
  intro ab aa p out h hb hp h1 ho
  cases aa with
  |nil=>
   rw[qas,qmt,bp]
   simp[ck,qy,q8x p hp]
  |cons c aa=>
   simp only[qL]at h hb ho;have nxt:∀(p:List Nat)(out:List UInt8),p.length<8->(∀x∈p,x<=1)->out.length+aa.length<=1000000000->qas fu n ((ee 0 p:Nat):Int) (p.length:Int) (ab++c::aa) ((ab.length+(aa.length+1):Nat):Int) ((ab.length+1:Nat):Int) m16 out=some ((0,0),out++yv (p++qy aa)):=by
    intro p out h2 h3 h4;have:=ih (ab++[c]) aa p out oA oE h2 h3 h4
    simp only[qM,qL,qZ,wO,qS,wK,List.nil_append]at this;rw[show ab.length+(aa.length+1)=ab.length+1+aa.length by omega]
    exact this
   rw[qas,qmt,ao oE,gx,qB,zlt]
   simp only[qL];by_cases k:c=61
   ·rw[qX k];simp[ck,qy,k,q8x p hp]
   ·rw[qW k,ao oD]
    rw[show([65,66,67,68,69,70,71,72,73,74,75,76,77,78,79,80,81,82,83,84,85,86,87,88,89,90,97,98,99,100,101,102,103,104,105,106,107,108,109,110,111,112,113,114,115,116,117,118,119,120,121,122,48,49,50,51,52,53,54,55,56,57,43,47]:List UInt8)=n9 from rfl,show qt1 n9 c=some (nu c) from rfl,qB,qb2 _,jz]
    rcases zvv c with hv|⟨hv,hv2⟩
    ·rw[hv,qX oD,nxt p out hp h1 oA]
     simp[qy,k,hv]
    ·obtain⟨v,hvv⟩:∃v:Nat,nu c=(v:Int):=⟨(nu c).toNat,oA⟩
     have hv64:v<64:=oA
     have hd:qy (c::aa)=jt v++qy aa:=by
      rw[qy,qW k,qW oA,hvv];rfl
     have hq:ee 0 (p++jt v)=64*ee 0 p+v:=by rw[q2i,zud _ _ hv64]
     have hpl:=q2k p 0 h1;have hp2:2 ^ p.length<=2 ^ 7:=Nat.pow_le_pow_right oA oA
     have hql:(p++jt v).length=p.length+6:=by simp[jt]
     have hq1:∀x∈p++jt v,x<=1:=fun x hx=>by
      rcases List.mem_append.1 hx with hx|hx
      ·exact h1 x hx
      ·exact zuc v x hx
     rw[hvv,qW oA,or6 _ _ oA hv64,← hq,hd,← qS]
     have e6:af ((p.length:Int)+6)=((p.length+6:Nat):Int):=by rw[bw];omega
     rw[e6,jz];by_cases h8:8<=p.length+6
     ·have e8:af (((p.length+6:Nat):Int)-8)=((p.length+6-8:Nat):Int):=by rw[bw];omega
      rw[qX,e8,ao oA,ao oK,ao oA]
      rw[zkq _ _]
      obtain⟨s1,s2⟩:=zu3 (p++jt v) 8 hq1;rw[hql]at s1 s2;rw[← s2,zl6 _ _]
      have e9:Int.fdiv ((ee 0 (p++jt v):Nat):Int) (2 ^ min (((p.length+6-8:Nat):Int)).toNat 64)=((ee 0 ((p++jt v).take 8):Nat):Int):=by
       rw[s1,show min (((p.length+6-8:Nat):Int)).toNat 64=p.length+6-8 by omega,Int.fdiv_eq_ediv_of_nonneg _ (by exact Int.le_of_lt (Int.pow_pos oD))]
       simp
      rw[e9];have:=nxt ((p++jt v).drop 8) (out++[dj ((ee 0 ((p++jt v).take 8):Nat):Int)]) (by simp[jt];omega) (fun x hx=>hq1 x (List.mem_of_mem_drop hx)) oE
      rw[List.length_drop,hql]at this;rw[this];simp
     ·rw[qW oA]
      have:=nxt (p++jt v) out oA hq1 oA
      rw[hql]at this;exact this
end Go.Sym.Tr
namespace Go.Sym.Tr
end Go.Sym.Tr
namespace Go.Sym.Tr
end Go.Sym.Tr
namespace Go.Sym.Tr
end Go.Sym.Tr
namespace Go.Sym.Tr
def lenient_eq(fu:Nat)(b:List UInt8)(hb:b.length<=24000)(hf:b.length<fu):qms fu b=some ((0,0),yv (qy b)):=by
 unfold qms;rw[bp]
 have:=zp3 fu fu (0,0) [] b [] [] hf oE oC (fun _ h=>by cases h) oE
 simpa [ee] using this
end Go.Sym.Tr
namespace Go.Sym.Tr
end Go.Sym.Tr
namespace Go.Sym
abbrev sAs:Bs:=[97,115,99,105,105]
abbrev sLa:Bs:=[108,97,116,105,110,49]
abbrev sU8:Bs:=[117,116,102,56]
def nmK:Nat->Bs|0=>sAs|1=>sLa|_=>sU8
def q2w:∀(R:List Nat),okT R->Lib.validD (tx R)=true
 |[],_=>rfl|c::R,h=>by
  obtain⟨h1,h2⟩:=zc4 h;have hl:=q9w (c:=c);have d:=znc h1 (tx R);rw[qlu,Lib.validD_step _ (by intro q;exact zn0 (List.append_eq_nil_iff.1 q).1),d]
  simp only;rw[qW (by
   rintro⟨q1,q2⟩
   subst q1;revert q2;decide),List.drop_left]
  exact q2w R h2
def sf(s:Bs):Bs:=Lib.replaceK [13,10] [] (Lib.count s [13,10]) s
def ztj(c:UInt8)(r:Bs)(h:c≠13):sf (c::r)=c::sf r:=by
 have h:¬([13,10]:Bs).isPrefixOf (c::r)=true:=by
  simp[List.isPrefixOf];intro q;exact absurd q.symm h
 have hi:Lib.index (c::r) [13,10]=if Lib.index r [13,10] == -1 then -1 else Lib.index r [13,10]+1:=by rw[Lib.index,qW h]
 have hg:=Lib.index_ge r [13,10];unfold sf;by_cases q:Lib.index r [13,10] = -1
 ·rw[q]at hi;rw[Lib.count_miss q,Lib.count_miss (hi.trans rfl)];rfl
 ·obtain⟨i,e⟩:∃i:Nat,Lib.index r [13,10]=i:=⟨(Lib.index r [13,10]).toNat,oA⟩
  have e1:Lib.index (c::r) [13,10]=((i+1:Nat):Int):=by
   rw[hi,qW (by simpa using q),e];omega
  rw[Lib.count_hit oC e,Lib.count_hit oC e1,Nat.add_comm 1,Nat.add_comm 1,Lib.replaceK_hit _ _ _ _ _ e,Lib.replaceK_hit _ _ _ _ _ e1]
  simp[show i+1+2=i+2+1 by omega]
def zei(r:Bs):sf (13::10::r)=sf r:=by
 have h:([13,10]:Bs).isPrefixOf (13::10::r)=true:=by simp[List.isPrefixOf]
 have e0:Lib.index (13::10::r) [13,10]=((0:Nat):Int):=by rw[Lib.index,qX h];rfl
 unfold sf;rw[Lib.count_hit oC e0,Nat.add_comm 1,Lib.replaceK_hit _ _ _ _ _ e0]
 simp
def q15:∀(s r:Bs),(∀c∈s,c≠13)->sf (s++r)=s++sf r|[],_,_=>rfl|c::s,r,h=>by rw[wK,ztj c _ (h c qH),q15 s r (fun d hd=>h d (qE _ hd))];rfl
def ztk:∀(n:Nat)(s:Bs),s.length<n->(∀c∈s,c≠13)->sf (Tr.lines76 s)=s:=by
 intro n
 induction n with
 |zero=>intro s h;omega|succ n ih=>
  intro s h hs;rw[Tr.lines76_eq];by_cases h76:76<s.length
  ·rw[qX h76,qS,q15 _ _ (fun c hc=>hs c (List.mem_of_mem_take hc))]
   show _++sf (13::10::Tr.lines76 (s.drop 76))=_;rw[zei,ih _ (by rw[List.length_drop];omega) (fun c hc=>hs c (List.mem_of_mem_drop hc)),List.take_append_drop]
  ·rw[qW h76];by_cases h0:s=[]
   ·subst h0;rw[qX rfl];rfl
   ·rw[qW h0,q15 _ _ hs];show s++sf (13::10::[])=s;rw[zei];show s++[]=s;simp
def zkg:∀n:_root_.Fin 64,33<=(Tr.al n.val).toNat/\(Tr.al n.val).toNat<=126/\Tr.al n.val≠63:=by decide +kernel
def wj(k:Nat)(h:k<64):33<=(Tr.al k).toNat/\(Tr.al k).toNat<=126/\Tr.al k≠63:=zkg ⟨k,h⟩
def q9v:∀b:Bs,∀c∈Tr.e64 b,33<=c.toNat/\c.toNat<=126/\c≠63
 |[],c,h=>by cases h
 |[x],c,h=>by
  simp only[Tr.e64,Tr.c0,Tr.c1,wE,List.not_mem_nil,or_false]at h;rcases h with rfl|rfl|rfl|rfl
  ·exact wj _ (Nat.mod_lt _ oA)
  ·exact wj _ (Nat.mod_lt _ oA)
  ·decide
  ·decide
 |[x,y],c,h=>by
  simp only[Tr.e64,Tr.c0,Tr.c1,Tr.c2,wE,List.not_mem_nil,or_false]at h;rcases h with rfl|rfl|rfl|rfl
  ·exact wj _ (Nat.mod_lt _ oA)
  ·exact wj _ (Nat.mod_lt _ oA)
  ·exact wj _ (Nat.mod_lt _ oA)
  ·decide
 |x::y::z::r,c,h=>by
  simp only[Tr.e64,Tr.c0,Tr.c1,Tr.c2,Tr.c3,wE]at h;rcases h with rfl|rfl|rfl|rfl|h
  ·exact wj _ (Nat.mod_lt _ oA)
  ·exact wj _ (Nat.mod_lt _ oA)
  ·exact wj _ (Nat.mod_lt _ oA)
  ·exact wj _ (Nat.mod_lt _ oA)
  ·exact q9v r c h
def qka:∀b:Bs,(Tr.e64 b).length<=4*b.length
 |[]=>by simp[Tr.e64]|[x]=>by simp[Tr.e64]|[x,y]=>by simp[Tr.e64]|x::y::z::r=>by
  have:=qka r;simp only[Tr.e64,qL];omega
def zp5:∀(n:Nat)(s:Bs),s.length<n->(Tr.lines76 s).length<=2*s.length+2:=by
 intro n
 induction n with
 |zero=>intro s h;omega|succ n ih=>
  intro s h;rw[Tr.lines76_eq];by_cases h76:76<s.length
  ·have:=ih (s.drop 76) (by rw[List.length_drop];omega)
   rw[qX h76];simp only[qM,List.length_take,qL,qZ];rw[List.length_drop]at this;omega
  ·rw[qW h76];split
   ·simp
   ·simp only[qM,qL,qZ];omega
def zon(fu:Nat)(hfu:90000000<=fu)(b:Bs)(hb:b.length<=12000):qa7 fu b=some (Tr.e64 b):=by
 have hl:=qka b;unfold qa7;rw[Tr.enc64_eq fu b oA hb,qB]
 unfold ny;have h76:(Tr.lines76 (Tr.e64 b)).length<=1000000:=by have:=zp5 _ (Tr.e64 b) (Nat.lt_succ_self _);omega
 rw[ao oH,qB]
 have:=ztk _ (Tr.e64 b) (Nat.lt_succ_self _) (fun c hc q=>by have:=q9v b c hc;rw[q]at this;revert this;decide)
 unfold Lib.replaceAll Lib.replace Lib.replaceNum;rw[qW oD,qX (.inl oD)]
 exact congrArg some this
end Go.Sym
namespace Go.Sym
def ltr(c:UInt8):Bool:=decide (97<=c/\c<=122)||decide (65<=c/\c<=90)||decide (48<=c/\c<=57)
abbrev hxD:Bs:=[48,49,50,51,52,53,54,55,56,57,65,66,67,68,69,70]
def hxH(c:UInt8):UInt8:=hxD.getD (c.toNat/16) 0
def hxL(c:UInt8):UInt8:=hxD.getD (c.toNat%16) 0
def dq(c:UInt8):Bs:=if c=32 then[95] else if ltr c=true then[c] else[61,hxH c,hxL c]
def zv4(c:UInt8)(out:Bs)(h:out.length<=1000000000:=by omega):qd4 c out=some (out++[c]):=by
 unfold qd4 qi;rw[qB,ao oO]
def q26(t out:Bs)(h:out.length<=1000000000:=by omega)(ht:t.length<=1000000:=by omega):yi t out=some ((List.length t:Int),out++t):=by
 unfold yi qi;rw[qB,ao (by simp only[aw,qM];omega)]
open Go.Lib (indexByte)
def zm6(k:Nat)(R:List Nat):Bs:=if k=2 then Tr.e64 (tx R) else(R.map UInt8.ofNat).flatMap dq
def zpx(k:Nat):UInt8:=if k=2 then 66 else 81
def zge(k:Nat)(R:List Nat):Bs:=61::63::(nmK k++63::zpx k::63::(zm6 k R++[63,61]))
def ixl:∀(w r:Bs),(∀c∈w,c≠63)->Lib.index (w++63::r) [63]=(w.length:Int)
 |[],r,_=>by rw[List.nil_append,Lib.index,qX (by simp[List.isPrefixOf])];rfl|c::w,r,h=>by
  have hc:=h c qH;rw[wK,Lib.index,qW (by simp[List.isPrefixOf];intro q;exact hc q.symm),ixl w r (fun d hd=>h d (qE _ hd)),qW (by rw[beq_iff_eq];omega)]
  simp
def zo7(w r:Bs)(h:∀c∈w,c≠63)(hl:w.length+r.length<=1000000):eu (w++63::r) [63]=some (w.length:Int):=by
 unfold eu ju;rw[ao oP,qB,ixl w r h]
end Go.Sym
namespace Go.Sym

def Ok{α:Type}(P:α->Prop)(x:Option α):Prop:=∃v,x=some v/\P v
def bh{α:Type}{P:α->Prop}{v:α}(h:P v):Ok P (some v):=⟨v,rfl,h⟩
def ut{α:Type}{P Q:α->Prop}{x:Option α}(h:Ok P x)(f:∀v,P v->Q v):Ok Q x:=by
 obtain⟨v,e,hv⟩:=h;exact⟨v,e,f v hv⟩
def bg{α β:Type}{P:α->Prop}{Q:β->Prop}{x:Option α}{f:α->Option β}(h:Ok P x)(g:∀v,P v->Ok Q (f v)):Ok Q (x.bind f):=by
 obtain⟨v,e,hv⟩:=h;rw[e,qB];exact g v hv
def cw{α:Type}{P:α->Prop}{b:Bool}{x y:Option α}(h:b=true->Ok P x)(g:b=false->Ok P y):Ok P (bif b then x else y):=by
 cases b
 ·exact g rfl
 ·exact h rfl
def ig{α:Type}{P:α->Prop}{b:Bool}{x y:Option α}(h:b=false->Ok P x)(g:b=true->Ok P y):Ok P (bif !b then x else y):=by
 cases b
 ·exact h rfl
 ·exact g rfl
def ew{α:Type}{P:α->Prop}{p:Prop}[Decidable p]{x y:Option α}(h:p->Ok P x)(g:¬p->Ok P y):Ok P (bif decide p then x else y):=by
 by_cases q:p
 ·rw[ao q];exact h q
 ·rw[bp q];exact g q
def dw{α:Type}{P:α->Prop}{p:Prop}[Decidable p]{x:Option α}(q:p)(h:Ok P x):Ok P (bif decide p then x else none):=by
 rw[ao q];exact h
def fj{α β γ:Type}{P:γ->Prop}{o:α ⊕ β}{f:α->Option γ}{g:β->Option γ}(h:∀a,o = .inl a->Ok P (f a))(h':∀b,o = .inr b->Ok P (g b)):Ok P (ay o f g):=by
 cases o with|inl a=>exact h a rfl|inr b=>exact h' b rfl
def q07{α:Type}{P:α->Prop}{l:List α}{k:Nat}(h:k<l.length)(g:∀c∈l,P c):Ok P (ap l (k:Int)):=⟨l[k],zf l k h,g _ (List.getElem_mem h)⟩
def iu{α:Type}{l:List α}{k:Nat}(h:k<l.length:=by omega):Ok (fun _=>True) (ap l (k:Int)):=q07 h fun _ _=>trivial
def qrj:∀l:List Int,(iy l).length<=4*l.length
 |[]=>by simp[iy]|x::l=>by
  have:=qrj l;have hx:(rx x).length<=4:=by
   unfold rx Utf8.encode;simp only[]
   repeat' split
   all_goals simp[ByteArray.size]
  have e:iy (x::l)=rx x++iy l:=by simp[iy]
  rw[e,qM,qL];omega
def zty(s:Bs):(gc s).length<=s.length:=q2b s s.length 0
def zub(fu n:Nat)(m:Int):∀(ab aa:Bs)(out:List Int),aa.length<n->ab.length+aa.length<100000000->out.length+aa.length<=100000000 ->
  ∃r,qhz fu n (ab++aa) ((ab.length+aa.length:Nat):Int) (ab.length:Int) m out=some (m,r)/\r.length<=out.length+aa.length:=by
 induction n with
 |zero=>intro ab aa out h;omega|succ n ih=>
  intro ab aa out h hb ho;rw[qhz,qt9]
  cases aa with
  |nil=>rw[bp];exact⟨out,rfl,oC⟩|cons c aa=>
   simp only[qL]at h hb ho;have ih:=fun out=>ih (ab++[c]) aa out oA oE
   simp only[qM,qL,qZ,qS,wM,wO]at ih;rw[ao (by simp only[qL];omega),gx,qB,qb2 _,show ab.length+(c::aa).length=ab.length+1+aa.length by simp only[qL];omega,jz]
   split
   ·rw[ao oO]
    obtain⟨r,h1,h2⟩:=ih (out++[65533]) oE
    exact⟨r,h1,by simp only[qM,qL,qZ]at h2 ⊢;omega⟩
   ·rw[ao oO]
    obtain⟨r,h1,h2⟩:=ih (out++[(c.toNat:Int)]) oE
    exact⟨r,h1,by simp only[qM,qL,qZ]at h2 ⊢;omega⟩
def zf4(k:Nat)(b:Bs)(h:k+1<b.length)(hb:b.length<100000000):∃v,qh0 (k:Int) b=some (v,b):=by
 unfold qh0;rw[zf b k,qB,qb2 k,zf b (k+1) h,qB]
 exact⟨_,rfl⟩
def qr3(k:Nat)(h:k<100000000:=by omega):af ((k:Int)+2)=((k+2:Nat):Int):=by rw[bw];omega
def zvs(fu:Nat)(r0:Int->Bs->List Int->Option (List Int))(b:Bs)(hb:b.length<100000000)(j:Nat)(v:Int)(out:List Int)(hj:j+2<=b.length)(ho:out.length<=j)
  (h:∀out:List Int,out.length<=j+2->∃r,r0 ((j+2:Nat):Int) b out=some r/\r.length<=b.length):∃r,qau fu r0 (j:Int) v b out=some r/\r.length<=b.length:=by
 have g:∀x:Int,∃r,(bif decide (List.length (out++([x]:List Int))<=aw) then r0 (af ((j:Int)+2)) b (out++([x]:List Int)) else none)=some r/\r.length<=b.length:=fun x=>by
  rw[ao oO,qr3 j]
  exact h _ oF
 unfold qau;rw[jz];split
 ·rw[jz];split
  ·exact g 65533
  ·exact g v
 ·exact g v
def zmz(fu:Nat)(b:Bs)(hb:b.length<100000000)(n:Nat):∀(k:Nat)(out:List Int),k<=b.length->b.length-k<n->out.length<=k->∃r,yh fu n (k:Int) b out=some r/\r.length<=b.length:=by
 induction n with
 |zero=>intro k out _ h;omega|succ n ih=>
  intro k out hk h ho;rw[yh,qub];by_cases h0:(k:Int)<(b.length:Int)
  ·rw[ao h0,qb2 k,qpd]
   by_cases h1:((k+1:Nat):Int)=(b.length:Int)
   ·rw[qX h1,ao oO]
    exact⟨_,rfl,oF⟩
   ·rw[qW h1];obtain⟨v,hv⟩:=zf4 k b oA hb
    rw[hv,qB];have p3:∀(j:Nat)(v:Int),k<=j->j+2<=b.length->∃r,qau fu (yh fu n) (j:Int) v b out=some r/\r.length<=b.length:=fun j v h1 h2=>
     zvs fu _ b hb j v out h2 oA fun out ho=>ih (j+2) out oA oA oA
    have p2:∀(v w:Int)(c:Bool),k+3<b.length->∃r,qh1 fu (yh fu n) (k:Int) v w c b out=some r/\r.length<=b.length:=fun v w c h4=>by
     unfold qh1;cases c
     ·rw[ak rfl];exact p3 k v (wF _) oA
     ·rw[au rfl,qr3 k];exact p3 (k+2) _ oA oA
    have p1:∀(v:Int)(c:Bool),(c=true->k+3<b.length)->∃r,qdk fu (yh fu n) (k:Int) v c b out=some r/\r.length<=b.length:=fun v c hc=>by
     unfold qdk;cases c
     ·rw[ak rfl];exact p3 k v (wF _) oA
     ·have h4:=hc rfl;rw[au rfl,qr3 k]
      obtain⟨w,hw⟩:=zf4 (k+2) b oA hb
      rw[hw,qB];dsimp only;rw[jz];split
      ·exact p2 v w _ h4
      ·exact p2 v w _ h4
    have e3:af ((k:Int)+3)=((k+3:Nat):Int):=by rw[bw];omega
    dsimp only;rw[jz];split
    ·rw[jz];split
     ·rw[e3];exact p1 v _ fun q=>by have:=of_decide_eq_true q;omega
     ·exact p1 v false oC
    ·exact p1 v false oC
  ·rw[bp h0];exact⟨out,rfl,oA⟩
def zol(fu:Nat)(hfu:90000000<=fu)(nm:Bs)(hn:nm.length<=4000000):(∃x:Bs,∃m:Int,yg fu nm=some (.inl (x,(true,m))))\/(∃x:Bs,yg fu nm=some (.inr (.inl (x,true))))\/(∃x:Bs,yg fu nm=some (.inr (.inr (.inl (x,true)))))\/yg fu nm=some (.inr (.inr (.inr ([],false)))):=by
 unfold yg qm0;simp only[qB];rw[qrl fu hfu _ _ oC hn,qB]
 cases lk [97,115,99,105,105] nm
 ·rw[ak rfl,qrl fu hfu _ _ oC hn,qB]
  cases lk [108,97,116,105,110,49] nm
  ·rw[ak rfl,qrl fu hfu _ _ oC hn,qB]
   cases lk [117,116,102,56] nm
   ·rw[ak rfl,qrl fu hfu _ _ oC hn,qB]
    cases lk [117,116,102,49,54,98,101] nm
    ·rw[ak rfl];exact .inr (.inr (.inr rfl))
    ·rw[au rfl];exact .inr (.inr (.inl ⟨_,rfl⟩))
   ·rw[au rfl];exact .inr (.inl ⟨_,rfl⟩)
  ·rw[au rfl];exact .inl ⟨_,_,rfl⟩
 ·rw[au rfl];exact .inl ⟨_,_,rfl⟩
def zmf(fu:Nat)(hfu:90000000<=fu)(nm b:Bs)(hn:nm.length<=4000000:=by omega):∃s f,qmz fu nm b=some (s,f)/\s.length<=48000:=by
 unfold qmz;by_cases h12:(12000:Int)<(b.length:Int)
 ·rw[ao h12];exact⟨[],_,rfl,oC⟩
 ·rw[bp h12];rcases zol fu hfu nm hn with⟨x,m,e⟩|⟨x,e⟩|⟨x,e⟩|e<;>rw[e,qB]<;>simp only[ay]
  ·rw[qj0];obtain⟨r,h1,h2⟩:=zub fu fu m [] b [] oA oE oE
   have hr:=qrj r;simp only[List.nil_append,qZ,wO]at h1 h2;rw[show((0:Nat):Int)=0 from rfl]at h1
   unfold qt8;rw[h1];exact⟨_,_,rfl,by simp only;omega⟩
  ·rw[qj0];have hr:=qrj (gc b);have hv:=zty b;unfold qt7;rw[ao oA]
   exact⟨_,_,rfl,oA⟩
  ·rw[qj0];obtain⟨r,h1,h2⟩:=zmz fu b oA fu 0 [] oA oA oC
   have hr:=qrj r;unfold qua;rw[show(0:Int)=((0:Nat):Int) from rfl,h1]
   exact⟨_,_,rfl,oA⟩
  ·exact⟨_,_,rfl,oC⟩
def zo0:∀n:_root_.Fin 256,(qdi (UInt8.ofNat n.val)).isSome=true:=by decide +kernel
def zaz(c:UInt8):Ok (fun _=>True) (qdi c):=by
 obtain⟨v,e⟩:=Option.isSome_iff_exists.1 (ww (fun c=>(qdi c).isSome=true) zo0 c)
 exact⟨v,e,trivial⟩
def zrc(r:Bs):Ok (fun v=>v.2=true->2<=r.length) (qmx r):=by
 unfold qmx;refine ew (fun _=>bh (fun q=>by cases q)) fun h => ?_
 have hl:2<=r.length:=oA
 refine bg (iu (k:=0) oA) fun c1 _=>bg (zaz c1) fun x2 _=>bg (iu (k:=1) oA) fun c3 _=>bg (zaz c3) fun x4 _ => ?_
 exact cw (fun _=>bh fun _=>hl) (fun _=>bh fun _=>hl)
def si{α:Type}(out:List α)(c:α)(h:out.length<=1000000000:=by omega):(out++[c]).length<=aw:=by
 simp only[aw,qM,qL,qZ];omega
def ce(k:Nat)(h:k<100000000:=by omega):af ((k:Int)+1)=((k+1:Nat):Int):=qb2 k
def zvn(fu n:Nat)(s:Bs)(hs:s.length<=100000):∀(k:Nat)(out:Bs),k<=s.length->s.length-k<n->out.length<=k->Ok (fun _=>True) (qec fu n s (k:Int) out):=by
 induction n with
 |zero=>intro k out _ h;omega|succ n ih=>
  intro k out hk h ho;rw[qec,qwg];refine ew (fun h0 => ?_) (fun _=>bh trivial)
  have hk1:k<s.length:=oA
  have l1:∀c:UInt8,(out++[c]).length<=k+1:=fun c=>by simp;omega
  have p3:∀b:Bool,Ok (fun _=>True) (qi9 fu (qec fu n) s (k:Int) b out):=fun b=>by
   unfold qi9;refine cw (fun _=>bg (iu hk1) fun c1 _=>dw (si _ _) ?_) (fun _=>bh trivial)
   rw[ce k]
   exact ih (k+1) _ oA oA (l1 _)
  refine bg (iu hk1) fun c1 _=>cw (fun _=>dw (si _ _) ?_) fun _=>bg (iu hk1) fun c2 _=>cw (fun _ => ?_) fun _ => ?_
  ·rw[ce k]
   exact ih (k+1) _ oA oA (l1 _)
  ·rw[ce k]
   refine dw oA (bg (zrc _) fun x3 h3=>ig (fun _=>bh trivial) fun q=>dw (si _ _) ?_)
   have:=h3 q;rw[List.length_drop]at this;rw[qr3 k,ce (k+2)]
   exact ih (k+2+1) _ oA oA (by have:=l1 x3.1;omega)
  ·exact bg (iu hk1) fun c4 _=>ew (fun _=>bg (iu hk1) fun c5 _=>p3 _) fun _=>p3 _
def zoo(fu:Nat)(hfu:90000000<=fu)(b:Bs):Ok (fun _=>True) (qa7 fu b):=by
 by_cases h:b.length<=12000
 ·exact⟨_,zon fu hfu b h,trivial⟩
 ·unfold qa7 qhr;rw[ao oA]
  exact⟨_,rfl,trivial⟩
def zl7(fu:Nat)(hfu:90000000<=fu)(k s:Bs)(hs:s.length<=24000:=by omega):Ok (fun _=>True) (qn8 fu k s):=by
 have p1:∀b:Bool,Ok (fun _=>True) (qi8 fu s b):=fun b=>by
  unfold qi8;exact cw (fun _=>zvn fu fu s oA 0 [] oA oA oC) (fun _=>bh trivial)
 have p0:∀b:Bool,Ok (fun _=>True) (qi7 fu s k b):=fun b=>by
  unfold qi7;refine cw (fun _=>dw (by unfold maxLen;omega) ?_) (fun _=>cw (fun _=>p1 _) (fun _=>p1 _))
  rw[Tr.lenient_eq fu s hs oA,qB]
  exact bg (zoo fu hfu _) fun _ _=>bh trivial
 unfold qn8;exact cw (fun _=>p0 _) (fun _=>p0 _)
def tot(l:List Bs):Nat:=(l.map List.length).sum
def qru:tot []=0:=rfl
def q2u(a:Bs)(l:List Bs):tot (a::l)=a.length+tot l:=by simp[tot]
def zfs(a b:List Bs):tot (a++b)=tot a+tot b:=by simp[tot]
def zo8(s:Bs)(hl:s.length<=1000000:=by omega):(eu s [63]=some (-1))\/∃w r,s=w++63::r/\eu s [63]=some (w.length:Int):=by
 rcases qlq 63 s with⟨w,r,rfl,h⟩|h
 ·exact .inr ⟨w,r,rfl,zo7 w r h (by simp at hl;omega)⟩
 ·refine .inl ?_;unfold eu ju;rw[ao oA,qB]
  congr 1;clear hl
  induction s with
  |nil=>rfl|cons c s ih=>
   rw[Lib.index,qW (by simp[List.isPrefixOf];exact fun q=>h c qH q.symm),ih (fun x hx=>h x (qE _ hx))]
   rfl
def zos(fu:Nat)(n:Nat)(m:Nat)(hm:m<=3):∀(s:Bs)(D E:List Bs),s.length<=100000->E.length+D.length=m+1->D.length<=m->m-D.length<n ->
  Ok (fun r=>r.length<=m+1/\tot r+r.length=tot D+D.length+s.length+1) (th fu n s [63] 0 (m:Int) (D.length:Int) (D++E)):=by
 induction n with
 |zero=>intro s D E _ _ _ h;omega|succ n ih=>
  intro s D E hs hE hD hn;rw[th,qix];obtain⟨e,E,rfl⟩:∃e E',E=e::E':=by cases E with|nil=>simp at hE;omega|cons e E=>exact⟨e,E,rfl⟩
  have hlt:(D.length:Int).toNat<(D++e::E).length:=oC
  have fin:Ok (fun r=>r.length<=m+1/\tot r+r.length=tot D+D.length+s.length+1) (bif decide (0<=(D.length:Int)/\(D.length:Int).toNat<List.length (D++e::E)) then((D++e::E)[(D.length:Int).toNat]?).bind fun _=>bif decide (0<=af ((D.length:Int)+(1:Int))/\af ((D.length:Int)+(1:Int))<=(List.length (List.set (D++e::E) (D.length:Int).toNat s):Int)) then some (List.take (af ((D.length:Int)+(1:Int))).toNat (List.set (D++e::E) (D.length:Int).toNat s)) else none else none):=by
   refine dw ⟨oA,hlt⟩ ?_
   rw[qqg,qB,qrm,ce _]
   refine dw ⟨oA,oE⟩ (bh ?_)
   rw[show((D.length+1:Nat):Int).toNat=(D++[s]).length by simp,show D++s::E=(D++[s])++E by simp,List.take_left,zfs,q2u,qru]
   simp;omega
  refine ew (fun h0 => ?_) (fun h0=>fin)
  rcases zo8 s with hi|⟨w,r,rfl,hi⟩
  ·rw[hi,qB,ao oA];exact fin
  ·simp only[qM,qL]at hs;rw[hi,qB,bp,Int.add_zero,bw (x:=(w.length:Int)) oA oA]
   refine dw oE (dw ⟨oA,hlt⟩ ?_)
   rw[qqg,qB,show((List.length ([63]:Bs):Nat):Int)=1 from rfl,ce _,ce _,qrm]
   refine dw oE ?_
   rw[show((w.length+1:Nat):Int).toNat=w.length+1 by omega,← List.drop_drop,List.drop_left,show((w.length:Nat):Int).toNat=w.length by omega,List.take_left]
   have:=ih r (D++[w]) E oA (by simp at hE ⊢;omega) oE oE
   simp only[qM,qL,qZ,wO,qS,wM]at this;refine ut this fun v hv=>⟨hv.1,?_⟩
   have h2:=hv.2;rw[zfs,q2u,qru]at h2;simp only[qM,qL];omega
def zuk(fu:Nat)(hfu:100<=fu)(s:Bs)(hs:s.length<=100000:=by omega):Ok (fun r=>r.length<=4/\tot r+r.length=s.length+1) (qnz fu s [63] 4):=by
 unfold qnz qiw;rw[ak,ak,bp oD]
 unfold qiy;rw[ce _]
 generalize hx:(if((s.length+1:Nat):Int)<(4:Int) then((s.length+1:Nat):Int) else(4:Int))=x
 obtain⟨m,rfl,hm⟩:∃m:Nat,x=((m+1:Nat):Int)/\m<=3:=by
  by_cases h:((s.length+1:Nat):Int)<(4:Int)
  ·rw[qX h]at hx;exact⟨s.length,hx.symm,oA⟩
  ·rw[qW h]at hx;exact⟨3,oA,oA⟩
 refine bg (P:=fun r=>r.length<=4/\tot r+r.length=s.length+1) (dw oA ?_) fun v hv=>bh hv
 rw[zv2 m,show((m+1:Nat):Int).toNat=m+1 by omega]
 have:=zos fu fu m hm s [] (List.replicate (m+1) []) hs oC oC oE
 rw[List.nil_append,qru]at this;refine ut this fun v hv=>⟨oA,?_⟩
 have:=hv.2;simp at this;exact this
def zav(s p:Bs):Ok (fun b=>b=true->p.length<=s.length) (qd5 s p):=by
 unfold qd5 qdo;refine bg (P:=fun b=>b=true->p.length<=s.length) (ew (fun h=>dw oA (bh fun _=>oA)) fun h=>bh fun q=>by cases q) fun v hv=>bh hv
def four{r:List Bs}(h:¬(r.length:Int)<4)(h':r.length<=4):∃a b c d,r=[a,b,c,d]:=by
 match r,h,h' with|[a,b,c,d],_,_=>exact⟨a,b,c,d,rfl⟩|[],h,_=>exact absurd h oC|[_],h,_=>exact absurd h oC|[_,_],h,_=>exact absurd h oC|[_,_,_],h,_=>exact absurd h oC|_::_::_::_::_::_,_,h=>exact absurd h oC
def zsx(fu:Nat)(hfu:90000000<=fu)(s:Bs)(hs:s.length<=100000):Ok (fun v=>v.1.length<=48000/\(v.2.2=true->∃k:Nat,v.2.1=(k:Int)/\6<=k/\k<=s.length)) (qn9 fu s):=by
 unfold qn9;refine bg (zav s [61,63]) fun b hb=>ig (fun _=>bh ⟨oC,fun q=>by cases q⟩) fun q => ?_
 have h2:2<=s.length:=hb q;generalize hx:(if(75:Int)<(List.length s:Int) then(75:Int) else(List.length s:Int))=x
 obtain⟨m,rfl,hm,hm2,hm3⟩:∃m:Nat,x=(m:Int)/\2<=m/\m<=s.length/\m<=75:=by
  by_cases h:(75:Int)<(List.length s:Int)
  ·rw[qX h]at hx;exact⟨75,oA,oA,oA,oA⟩
  ·rw[qW h]at hx;exact⟨s.length,hx.symm,oA,oA,oA⟩
 refine dw oA ?_
 have hl:(List.take ((m:Int).toNat-(2:Int).toNat) (List.drop (2:Int).toNat s)).length=m-2:=by
  rw[List.length_take,List.length_drop,show(2:Int).toNat=2 from rfl,show(m:Int).toNat=m by omega];omega
 refine bg (zuk fu oA _) fun r hr => ?_
 rw[hl]at hr;refine ew (fun _ => ?_) fun h4 => ?_
 ·unfold qja;rw[au rfl];exact bh ⟨oC,fun q=>by cases q⟩
 ·obtain⟨a,b,c,d,rfl⟩:=four h4 hr.1;have ht:=hr.2;simp only[q2u,qru,qL,qZ]at ht;rw[show ap [a,b,c,d] (3:Int)=some d from rfl,qB]
  refine bg (zav d [61]) fun b4 hb4 => ?_
  unfold qja;refine ig (fun _ => ?_) fun q => ?_
  ·exact bh ⟨oC,fun q=>by cases q⟩
  ·have hd:1<=d.length:=hb4 q;unfold qwk;rw[show ap [a,b,c,d] (1:Int)=some b from rfl,show ap [a,b,c,d] (2:Int)=some c from rfl,show ap [a,b,c,d] (0:Int)=some a from rfl]
   simp only[qB];refine bg (zl7 fu hfu b c) fun x3 _ => ?_
   obtain⟨t,f,e,hlt⟩:=zmf fu hfu a x3.2
   rw[e,qB];have e2:af (af (af (af ((2:Int)+(a.length:Int))+(b.length:Int))+(c.length:Int))+4)=((2+a.length+b.length+c.length+4:Nat):Int):=by
    rw[bw (x:=2+(a.length:Int)) oA oA,bw (x:=2+(a.length:Int)+(b.length:Int)) oA oA,bw (x:=2+(a.length:Int)+(b.length:Int)+(c.length:Int)) oA oA,bw]
    omega
   rw[e2];refine cw (fun _ => ?_) fun _=>bh ⟨hlt,fun q=>by cases q⟩
   exact⟨_,rfl,hlt,fun _=>⟨_,rfl,oA,oA⟩⟩
def Gp(g:Int)(k:Nat):Prop:=g<0\/∃j:Nat,g=(j:Int)/\j<=k
def znd(fu:Nat)(hfu:90000000<=fu)(z:Int×Int)(s:Bs)(hs:s.length<=4000)(n:Nat):∀(k:Nat)(g:Int)(out:Bs),k<=s.length->s.length-k<n->Gp g k->out.length<=60000*k ->
  Ok (fun v=>v.1.length<=300000000) (yj fu n s g (k:Int) z out):=by
 induction n with
 |zero=>intro k g out _ h;omega|succ n ih=>
  intro k g out hk h hg ho;rw[yj,qwe];refine ew (fun h0 => ?_) fun h0 => ?_
  ·have hk1:k<s.length:=oA
   refine dw oA (bg (zsx fu hfu _ (by rw[List.length_drop];omega)) fun v hv => ?_)
   have p3:∀(g:Int)(out:Bs),Gp g k->out.length<=60000*k+10000->Ok (fun v=>v.1.length<=300000000) (qi6 fu (yj fu n) s g (k:Int) z out):=fun g out hg ho=>by
    unfold qi6;rw[ce k]
    exact ih (k+1) g out oA oA (hg.imp id fun⟨j,e,hj⟩=>⟨j,e,oA⟩) oA
   have p2:∀(b:Bool)(g:Int)(out:Bs),(b=true->0<=g)->Gp g k->out.length<=60000*k+1->Ok (fun v=>v.1.length<=300000000) (qi5 fu (yj fu n) s g (k:Int) b z out):=fun b g out hb hg ho=>by
    unfold qi5;refine cw (fun q => ?_) fun _=>p3 g out hg oA
    have:=hb q;obtain⟨j,rfl,hj⟩:∃j:Nat,g=(j:Int)/\j<=k:=hg.resolve_left oA
    rw[ce k]
    refine dw oA ?_
    have hl:(List.take (((k+1:Nat):Int).toNat-(j:Int).toNat) (List.drop (j:Int).toNat s)).length<=4000:=by
     rw[List.length_take,List.length_drop];omega
    rw[q26 _ _,qB]
    exact p3 (-1) _ (.inl oA) oW
   have p1:∀(g:Int)(out:Bs),Gp g k->out.length<=60000*k+1->Ok (fun v=>v.1.length<=300000000) (qi4 fu (yj fu n) s g (k:Int) z out):=fun g out hg ho=>by
    unfold qi4;refine ew (fun h=>bg (iu hk1) fun c _ => ?_) fun h=>p2 false g out (fun q=>by cases q) hg ho
    rw[q8o,qB];exact p2 _ g out (fun _=>h) hg ho
   refine ig (fun _=>ew (fun _=>bg (iu hk1) fun c _ => ?_) fun _=>p1 g out hg oA) fun q => ?_
   ·rw[zv4 _ _,qB]
    exact p1 g _ hg oF
   ·obtain⟨j,e,h6,hj⟩:=hv.2 q;rw[List.length_drop]at hj;have hv1:=hv.1;rw[q26 _ _,qB,e,bw (x:=(k:Int)+(j:Int)) oA oA,show(k:Int)+(j:Int)=((k+j:Nat):Int) by omega]
    exact ih (k+j) _ _ oA oA (.inr ⟨k+j,rfl,wF _⟩) oW
  ·refine ew (fun h => ?_) fun h => ?_
   ·obtain⟨j,rfl,hj⟩:∃j:Nat,g=(j:Int)/\j<=k:=hg.resolve_left oA
    refine dw oA ?_
    have hl:(List.drop (j:Int).toNat s).length<=4000:=by rw[List.length_drop];omega
    rw[q26 _ _,qB]
    exact⟨_,rfl,oM⟩
   ·exact⟨_,rfl,oN⟩
def znf(fu:Nat)(hfu:90000000<=fu)(s:Bs):Ok (fun v=>v.1.length<=300000000) (qn7 fu s):=by
 unfold qn7;refine ew (fun _=>⟨_,rfl,oC⟩) fun h => ?_
 exact znd fu hfu _ s oA fu 0 (-1) [] oA oA (.inl oA) oC
abbrev dh{α:Type}:α->Prop:=fun _=>True
def qpg:∀n:_root_.Fin 256,(vf (UInt8.ofNat n.val)).isSome=true/\(x9 (UInt8.ofNat n.val)).isSome=true/\(xy (UInt8.ofNat n.val)).isSome=true/\(qd6 ([58,59,44,64,60,62]:Bs) (UInt8.ofNat n.val)).isSome=true:=by decide +kernel
def qqz{α:Type}{x:Option α}(h:x.isSome=true):Ok dh x:=by
 obtain⟨v,e⟩:=Option.isSome_iff_exists.1 h;exact⟨v,e,trivial⟩
def qx6(c:UInt8):Ok dh (vf c):=qqz (ww (fun c=>(vf c).isSome=true) (fun n=>(qpg n).1) c)
def zqc(c:UInt8):Ok dh (x9 c):=qqz (ww (fun c=>(x9 c).isSome=true) (fun n=>(qpg n).2.1) c)
def q9p(c:UInt8):Ok dh (xy c):=qqz (ww (fun c=>(xy c).isSome=true) (fun n=>(qpg n).2.2.1) c)
def zua(c:UInt8):Ok dh (qd6 ([58,59,44,64,60,62]:Bs) c):=qqz (ww (fun c=>(qd6 ([58,59,44,64,60,62]:Bs) c).isSome=true) (fun n=>(qpg n).2.2.2) c)
def qxt(s:Bs)(hs:s.length<=10000000)(P0:Nat->Bs->Int->Int->Option Bool)(p:UInt8->Option Bool)(hp:∀c,Ok dh (p c))
  (h0:∀n e k,P0 (n+1) s e k=(bif decide (k<e) then(ap s k).bind fun c=>(p c).bind fun x=>bif !x then some false else P0 n s e (af (k+(1:Int))) else some true)) :
  ∀n k:Nat,s.length-k<n->Ok dh (P0 n s (s.length:Int) (k:Int)):=by
 intro n
 induction n with
 |zero=>intro k h;omega|succ n ih=>
  intro k h;rw[h0];refine ew (fun q=>bg (iu (k:=k) oA) fun c _=>bg (hp c) fun x _=>ig (fun _=>bh trivial) fun _ => ?_) fun _=>bh trivial
  rw[ce k]
  exact ih (k+1) oA
def ixc(c:UInt8):∀(w r:Bs),(∀x∈w,x≠c)->Lib.index (w++c::r) [c]=(w.length:Int)
 |[],r,_=>by rw[List.nil_append,Lib.index,qX (by simp[List.isPrefixOf])];rfl|d::w,r,h=>by
  have hc:=h d qH;rw[wK,Lib.index,qW (by simp[List.isPrefixOf];intro q;exact hc q.symm),ixc c w r (fun d hd=>h d (qE _ hd)),qW (by rw[beq_iff_eq];omega)]
  simp
def ixn(c:UInt8):∀s:Bs,(∀x∈s,x≠c)->Lib.index s [c] = -1
 |[],_=>rfl|d::s,h=>by
  rw[Lib.index,qW (by simp[List.isPrefixOf];exact fun q=>h d qH q.symm),ixn c s (fun x hx=>h x (qE _ hx))]
  rfl
def zpb(c:UInt8)(s:Bs)(hl:s.length<=1000000:=by omega):(eu s [c]=some (-1))\/∃w r,s=w++c::r/\eu s [c]=some (w.length:Int):=by
 unfold eu ju;rw[ao oA,qB]
 rcases qlq c s with⟨w,r,rfl,h⟩|h
 ·exact .inr ⟨w,r,rfl,congrArg some (ixc c w r h)⟩
 ·exact .inl (congrArg some (ixn c s h))
def zdo{R:Type}(P1:Nat->Bs->Bs->Int->Bool->Option R)(r0:Bs->Bool->Option (Bool ⊕ Bool))(A B:Bs×Bs×Int×Bool->R)(hr:∀s b,s.length<=100000->Ok dh (r0 s b))
  (h0:∀n m1 m2 m3 m5,P1 (n+1) m1 m2 m3 m5=(eu m2 m1).bind fun x1=>bif decide (x1<(0:Int)) then(r0 m2 m5).bind fun x2=>ay x2 (fun a3=>some (A (m1,(m2,(m3,a3))))) (fun b4=>some (B (m1,(m2,(m3,b4))))) else bif decide (0<=af (x1+m3)/\af (x1+m3)<=(List.length m2:Int)) then(r0 (List.take (af (x1+m3)).toNat m2) m5).bind fun x5=>ay x5 (fun a6=>some (A (m1,(m2,(m3,a6))))) (fun b7=>bif decide (0<=af (x1+(List.length m1:Int))/\af (x1+(List.length m1:Int))<=(List.length m2:Int)) then P1 n m1 (List.drop (af (x1+(List.length m1:Int))).toNat m2) m3 b7 else none) else none) :
  ∀(n:Nat)(s:Bs)(b:Bool),s.length<n->s.length<=100000->Ok dh (P1 n [46] s 0 b):=by
 intro n
 induction n with
 |zero=>intro s b h;omega|succ n ih=>
  intro s b h hs;rw[h0];rcases zpb 46 s with e|⟨w,r,rfl,e⟩
  ·rw[e,qB,ao oA]
   exact bg (hr s b hs) fun x2 _=>fj (fun _ _=>bh trivial) fun _ _=>bh trivial
  ·simp only[qM,qL]at h hs;rw[e,qB,bp,Int.add_zero,bw (x:=(w.length:Int)) oA oA]
   refine dw oE (bg (hr _ b (by rw[List.length_take];simp;omega)) fun x2 _=>fj (fun _ _=>bh trivial) fun b7 _ => ?_)
   rw[show((List.length ([46]:Bs):Nat):Int)=1 from rfl,ce _]
   refine dw oE ?_
   rw[show((w.length+1:Nat):Int).toNat=w.length+1 by omega,← List.drop_drop,List.drop_left]
   exact ih r b7 oA oA
def zki(fu:Nat)(hfu:90000000<=fu)(s:Bs)(hs:s.length<=100000:=by omega):Ok dh (qmu fu s):=qxt s oA (qdf fu) x9 zqc (fun _ _ _=>rfl) fu 0 oA
def zkk(fu:Nat)(hfu:90000000<=fu)(s:Bs)(hs:s.length<=100000):Ok dh (qht fu s):=qxt s oA (qdg fu) vf qx6 (fun _ _ _=>rfl) fu 0 oA
def zkm(fu:Nat)(hfu:90000000<=fu)(s:Bs)(hs:s.length<=100000):Ok dh (qmv fu s):=qxt s oA (qdh fu) xy q9p (fun _ _ _=>rfl) fu 0 oA
def q0g(fu:Nat)(hfu:90000000<=fu)(s:Bs):Ok dh (vh fu s):=by
 unfold vh;exact ig (fun _=>ew (fun h=>bg (zki fu hfu s) fun _ _=>bh trivial) fun _=>bh trivial) fun _=>bh trivial
def zns(fu:Nat)(hfu:90000000<=fu)(s:Bs)(hs:s.length<=100000:=by omega):Ok dh (xz fu s):=by
 unfold xz qmp nz qd8;simp only[qB];unfold qn0;rw[ak]
 refine bg (P:=dh) (bg (P:=dh) ?_ fun x _=>fj (fun _ _=>bh trivial) fun _ _=>bh trivial) fun _ _=>bh trivial
 refine zdo (qiz fu) (ya fu) _ _ (fun s b hs => ?_) (fun _ _ _ _ _=>rfl) fu s false oA hs
 unfold ya;exact cw (fun _=>bh trivial) fun _=>bg (zkk fu hfu s hs) fun _ _=>ig (fun _=>bh trivial) fun _=>bh trivial
def qy5(fu:Nat)(hfu:90000000<=fu)(s:Bs):Ok dh (vg fu s):=by
 unfold vg;refine ew (fun h => ?_) fun _=>bh trivial
 unfold qmq nz qd8;simp only[qB];unfold qn1;rw[ak]
 refine bg (P:=dh) (bg (P:=dh) ?_ fun x _=>fj (fun _ _=>bh trivial) fun _ _=>bh trivial) fun _ _=>bh trivial
 refine zdo (qi0 fu) (yc fu) _ _ (fun s b hs => ?_) (fun _ _ _ _ _=>rfl) fu s false oA oA
 unfold yc;exact cw (fun _=>bh trivial) fun _=>bg (zkm fu hfu s hs) fun _ _=>ig (fun _=>bh trivial) fun _=>bh trivial
def At(s:Bs)(k:Nat)(m:Bs×Int):Prop:=∃j:Nat,m=(s,(j:Int))/\k<=j/\j<=s.length
def jy{s:Bs}{k j:Nat}(h:k<=j)(h':j<=s.length):At s k (s,(j:Int)):=⟨j,rfl,h,h'⟩
def at_le{s:Bs}{k l:Nat}{m:Bs×Int}(h:At s k m)(q:l<=k:=by omega):At s l m:=by obtain⟨j,e,a,b⟩:=h;exact⟨j,e,oA,b⟩
def iv{α:Type}(P:α->Prop)(r:Int ⊕ α):Prop:=∀m,r = .inr m->P m
def ez{α:Type}{P:α->Prop}{x:Int}:iv P (.inl x):=fun _ q=>by cases q
def jr{α:Type}{P:α->Prop}{x:α}(h:P x):iv P (.inr x):=fun _ q=>by cases q;exact h
def zmv(fu:Nat)(hfu:90000000<=fu)(s:Bs)(hs:s.length<=4000)(n:Nat):∀(d:Int)(k:Nat),k<=s.length+1->s.length+1-k<n->Ok (iv (At s (k+1))) (qap fu n d (s,(k:Int))):=by
 induction n with
 |zero=>intro d k _ h;omega|succ n ih=>
  intro d k hk h;rw[qap,qs6];refine ew (fun _=>⟨_,rfl,ez⟩) fun h0 => ?_
  have h1:k<s.length:=by simp only[]at h0;omega
  unfold qs7;have e1:af ((k:Int)+1)=((k+1:Nat):Int):=ce k
  have e2:af (((k+1:Nat):Int)+1)=((k+2:Nat):Int):=ce (k+1)
  have i1:∀d,Ok (iv (At s (k+1))) (qap fu n d (s,((k+1:Nat):Int))):=fun d=>ut (ih d (k+1) oA oA) fun r hr m e=>at_le (hr m e)
  have i2:∀d,Ok (iv (At s (k+1))) (qap fu n d (s,((k+2:Nat):Int))):=fun d=>ut (ih d (k+2) oA oA) fun r hr m e=>at_le (hr m e)
  dsimp only;simp only[e1,e2];refine bg (iu h1) fun c _=>cw (fun _=>i1 _) fun _=>cw (fun _=>cw (fun _=>bh (jr (jy oA oA))) fun _=>i1 _) fun _=>cw (fun _=>i2 _) fun _=>i1 _
def zue(fu:Nat)(hfu:90000000<=fu)(s:Bs)(hs:s.length<=4000)(n:Nat):∀k:Nat,k<=s.length->s.length-k<n->Ok (iv (At s k)) (qdc fu n (s,(k:Int))):=by
 induction n with
 |zero=>intro k _ h;omega|succ n ih=>
  intro k hk h;rw[qdc,qth];refine ew (fun h0 => ?_) fun _=>bh (jr (jy (wF _) hk))
  have h1:k<s.length:=by simp only[]at h0;omega
  have i1:∀j:Nat,k<j->j<=s.length->Ok (iv (At s k)) (qdc fu n (s,(j:Int))):=fun j a b=>ut (ih j b oA) fun r hr m e=>at_le (hr m e)
  refine bg (iu h1) fun c _ => ?_
  rw[q8o,qB];refine cw (fun _ => ?_) fun _=>cw (fun _=>bg (zmv fu hfu s hs fu 0 k oA oA) fun r hr=>fj (fun _ _=>bh ez) fun b hb => ?_) fun _=>bh (jr (jy (wF _) hk))
  ·dsimp only;rw[ce k];exact i1 (k+1) oA oA
  ·obtain⟨j,rfl,a,b⟩:=hr b hb;exact i1 j oA b
def zsc(fu:Nat)(hfu:90000000<=fu)(s:Bs)(hs:s.length<=4000)(n:Nat):∀(k:Nat)(out:Bs),k<=s.length->s.length-k<n->out.length<=k->Ok (iv fun v=>At s (k+1) v.2/\v.1.length<=s.length) (qdb fu n (s,(k:Int)) out):=by
 induction n with
 |zero=>intro k out _ h;omega|succ n ih=>
  intro k out hk h ho;rw[qdb,qtd];refine ew (fun _=>⟨_,rfl,ez⟩) fun h0 => ?_
  have h1:k<s.length:=by simp only[]at h0;omega
  have e1:af ((k:Int)+1)=((k+1:Nat):Int):=ce k
  have e2:af (((k+1:Nat):Int)+1)=((k+2:Nat):Int):=ce (k+1)
  have i1:∀(j:Nat)(c:UInt8),k<j->j<=s.length->Ok (iv fun v=>At s (k+1) v.2/\v.1.length<=s.length) (qdb fu n (s,(j:Int)) (out++[c])):=fun j c a b=>
   ut (ih j (out++[c]) b oA oE) fun r hr m e=>⟨at_le (hr m e).1,(hr m e).2⟩
  unfold qte qtf;dsimp only;simp only[e1,e2];refine bg (iu h1) fun c _=>cw (fun _=>bh (jr ⟨jy (wF _) oA,oN⟩)) fun _=>cw (fun _=>ew (fun _=>⟨_,rfl,ez⟩) fun h2=>bg (iu) fun c2 _=>dw (si _ _) (i1 (k+2) c2 oA oA)) fun _=>dw (si _ _) (i1 (k+1) c oA oA)
def NxP(s:Bs)(k:Nat):qol->Prop|.inl _=>True|.inr (.inl m)=>At s k m|.inr (.inr (.inl (w,(_,m))))=>At s (k+1) m/\w.length<=s.length|.inr (.inr (.inr (_,m)))=>At s (k+1) m
def zqu(fu:Nat)(hfu:90000000<=fu)(s:Bs)(hs:s.length<=4000)(n:Nat)(k0:Nat):∀k:Nat,k0<=k->k<=s.length->s.length-k<n->Ok (NxP s k0) (qc9 fu n (k0:Int) (s,(k:Int))):=by
 induction n with
 |zero=>intro k _ _ h;omega|succ n ih=>
  intro k hk hk2 h;rw[qc9,qta];have p1:∀b:Bool,(b=true->k<s.length)->Ok (NxP s k0) (qda fu (qc9 fu n) (k0:Int) b (s,(k:Int))):=fun b hb=>by
   unfold qda qtb;refine cw (fun q => ?_) fun _=>cw (fun _=>⟨_,rfl,trivial⟩) fun q=>dw oN (bh ⟨jy ?_ hk2,?_⟩)
   ·have:=hb q;dsimp only;rw[ce k]
    exact ih (k+1) oA oA oA
   ·have:¬(k:Int)=(k0:Int):=by simpa using q
    omega
   ·rw[List.length_take,List.length_drop];simp only[];omega
  refine ew (fun h0 => ?_) fun _=>p1 false (fun q=>by cases q)
  have h1:k<s.length:=by simp only[]at h0;omega
  exact bg (iu h1) fun c _=>bg (qx6 c) fun b _=>cw (fun _=>p1 true fun _=>h1) fun _=>bg (iu h1) fun c2 _=>p1 _ fun _=>h1
def qk7(fu:Nat)(hfu:90000000<=fu)(s:Bs)(hs:s.length<=4000)(k:Nat)(hk:k<=s.length:=by omega):Ok (NxP s k) (qar fu (s,(k:Int))):=by
 unfold qar qtg;refine bg (zue fu hfu s hs fu k hk oA) fun r hr=>fj (fun _ _=>bh trivial) fun b hb => ?_
 obtain⟨j,rfl,a,b⟩:=hr b hb;refine ew (fun _=>bh (jy a b)) fun h0 => ?_
 have h1:j<s.length:=by simp only[]at h0;omega
 refine bg (iu h1) fun c _=>cw (fun _ => ?_) fun _=>bg (zua c) fun x _=>ew (fun _=>bh ?_) fun _ => ?_
 ·unfold qtc;dsimp only;rw[ce j]
  refine bg (zsc fu hfu s hs fu (j+1) [] oA oA oC) fun v hv=>fj (fun _ _=>bh trivial) fun b7 h7=>bh ⟨at_le (hv b7 h7).1,(hv b7 h7).2⟩
 ·show At s (k+1) (s,af ((j:Int)+1));rw[ce j];exact jy oA oA
 ·refine ut (zqu fu hfu s hs fu j j (wF _) b oA) fun r hr => ?_
  match r,hr with|.inl _,_=>trivial|.inr (.inl m),h=>exact at_le h a|.inr (.inr (.inl (w,(q,m)))),h=>exact⟨at_le h.1,h.2⟩|.inr (.inr (.inr (c,m))),h=>exact at_le h
def zwa(fu:Nat)(hfu:90000000<=fu)(s:Bs)(hs:s.length<=4000)(n:Nat):∀(k:Nat)(l:List (Bs×Bool)),k<=s.length->s.length-k<n->l.length<=k->(∀w∈l,w.1.length<=s.length)->Ok (iv fun v=>At s k v.1/\v.2.length<=s.length/\∀w∈v.2,w.1.length<=s.length) (qhp fu n (s,(k:Int)) l):=by
 induction n with
 |zero=>intro k l _ h;omega|succ n ih=>
  intro k l hk h hl hw;rw[qhp,qtj];unfold vj;obtain⟨r,e,hr⟩:=qk7 fu hfu s hs k hk;rw[e]
  match r,hr with
  |.inl _,_=>exact⟨_,rfl,ez⟩|.inr (.inl m),h2=>
   obtain⟨j,rfl,a,b⟩:=h2;exact⟨_,rfl,jr ⟨jy (wF _) hk,oN,hw⟩⟩
  |.inr (.inr (.inl (w,(q,m)))),h2=>
   obtain⟨⟨j,rfl,a,b⟩,h3⟩:=h2;simp only[qB,ay];rw[e];simp only[qB,ay];refine dw (si _ _) (ut (ih j _ b oA oE fun x hx => ?_) fun v hv m em=>⟨at_le (hv m em).1,(hv m em).2⟩)
   rcases List.mem_append.1 hx with q|q
   ·exact hw x q
   ·rw[List.mem_singleton]at q;subst q;exact h3
  |.inr (.inr (.inr (c,m))),h2=>
   obtain⟨j,rfl,a,b⟩:=h2;exact⟨_,rfl,jr ⟨jy (wF _) hk,oN,hw⟩⟩
def q24(fu:Nat)(hfu:90000000<=fu)(s:Bs)(hs:s.length<=4000)(k:Nat)(hk:k<=s.length):Ok (iv fun v=>At s k v.1/\v.2.length<=s.length/\∀w∈v.2,w.1.length<=s.length) (qho fu (s,(k:Int))):=
 zwa fu hfu s hs fu k [] hk oA oC (fun _ h=>by cases h)
def qfo(fu:Nat)(hfu:90000000<=fu)(s:Bs)(hs:s.length<=4000)(c:UInt8)(k:Nat)(hk:k<=s.length):Ok (iv fun v=>At s k v.2/\(v.1=true->At s (k+1) v.2)) (vi fu c (s,(k:Int))):=by
 unfold vi vj;obtain⟨r,e,hr⟩:=qk7 fu hfu s hs k hk;rw[e]
 match r,hr with
 |.inl _,_=>exact⟨_,rfl,ez⟩|.inr (.inl m),h2=>
  obtain⟨j,rfl,a,b⟩:=h2;exact⟨_,rfl,jr ⟨jy (wF _) hk,fun q=>by cases q⟩⟩
 |.inr (.inr (.inl (w,(q,m)))),h2=>
  obtain⟨⟨j,rfl,a,b⟩,h3⟩:=h2;exact⟨_,rfl,jr ⟨jy (wF _) hk,fun q=>by cases q⟩⟩
 |.inr (.inr (.inr (d,m))),h2=>
  obtain⟨j,rfl,a,b⟩:=h2;simp only[qB,ay];refine ig (fun _=>bh (jr ⟨jy (wF _) hk,fun q=>by cases q⟩)) fun _ => ?_
  rw[e];exact⟨_,rfl,jr ⟨jy oA b,fun _=>jy a b⟩⟩
def q0u(fu:Nat)(hfu:90000000<=fu)(s:Bs)(hs:s.length<=4000)(c:UInt8)(k:Nat)(hk:k<=s.length):Ok (iv (At s (k+1))) (qc8 fu c (s,(k:Int))):=by
 unfold qc8;refine bg (qfo fu hfu s hs c k hk) fun r hr=>fj (fun _ _=>bh ez) fun b hb=>ig (fun _=>⟨_,rfl,ez⟩) fun q=>bh (jr ((hr b hb).2 q))
def zbk(sep:Bs)(m:Nat):∀r:List Bs,(∀x∈r,x.length<=m)->(Lib.joinTail sep r).length<=(m+sep.length)*r.length
 |[],_=>by simp[Lib.joinTail]|x::r,h=>by
  have h1:=h x qH;have h2:=zbk sep m r (fun y hy=>h y (qE _ hy))
  have e:Lib.joinTail sep (x::r)=sep++x++Lib.joinTail sep r:=by simp[Lib.joinTail]
  rw[e,qM,qM,qL,Nat.mul_add];omega
def zbl(sep:Bs)(m:Nat)(r:List Bs)(h:∀x∈r,x.length<=m):(Lib.join r sep).length<=(m+sep.length)*r.length:=by
 cases r with
 |nil=>simp[Lib.join_nil]|cons x r=>
  have h1:=h x qH;have h2:=zbk sep m r (fun y hy=>h y (qE _ hy))
  rw[Lib.join_cons,qM,qL,Nat.mul_add];omega
def zbj(sep:Bs)(r:List Bs)(hs:sep.length<=10)(h:∀x∈r,x.length<=300000000)(hl:r.length<=10000:=by omega):Ok dh (f6 r sep):=by
 have:=zbl sep 300000000 r h;unfold f6;have h2:(300000000+sep.length)*r.length<=300000010*10000:=Nat.mul_le_mul oA hl
 exact dw ⟨oA,oA⟩ (bh trivial)
def q0r{l:List Bs}{x:Bs}{m:Nat}(h:∀y∈l,y.length<=m)(hx:x.length<=m:=by omega):∀y∈l++[x],y.length<=m:=fun y hy=>by
 rcases List.mem_append.1 hy with q|q
 ·exact h y q
 ·rw[List.mem_singleton]at q;subst q;exact hx
def zcr(fu:Nat)(hfu:90000000<=fu)(run out:List Bs)(h1:∀x∈run,x.length<=4000)(h2:run.length<=4000)(h3:∀x∈out,x.length<=300000000)(h4:out.length<=9000:=by omega) :
  Ok (fun v=>v.1=[]/\v.2.length<=out.length+1/\∀x∈v.2,x.length<=300000000) (qhj fu run out):=by
 unfold qhj;refine ew (fun _=>bg (zbj _ run oC (fun x hx=>by have:=h1 x hx;omega)) fun x1 _=>bg (znf fu hfu x1) fun x2 hx2=>dw (si _ _) (bh ⟨rfl,oC,q0r h3 hx2⟩)) fun h=>bh ⟨?_,oC,h3⟩
 exact List.length_eq_zero_iff.1 oN
def zqq(fu:Nat)(hfu:90000000<=fu)(l:List (Bs×Bool))(hl:l.length<=4000)(hw:∀w∈l,w.1.length<=4000)(n:Nat):∀(k:Nat)(out run:List Bs),k<=l.length->l.length-k<n->out.length<=2*k->(∀x∈out,x.length<=300000000)->run.length<=k->(∀x∈run,x.length<=4000) ->
  Ok dh (qhk fu n l (l.length:Int) (k:Int) out run):=by
 induction n with
 |zero=>intro k out run _ h;omega|succ n ih=>
  intro k out run hk h ho ho2 hr hr2;rw[qhk,qs4];refine ew (fun h0 => ?_) fun h0 => ?_
  ·refine bg (q07 (k:=k) oA hw) fun y1 hy=>cw (fun _=>bg (zcr fu hfu run out hr2 oA ho2) fun v hv=>dw (si _ _) ?_) fun _=>dw (si _ _) ?_
   ·rw[ce k,hv.1]
    exact ih (k+1) _ [] oA oA (by have:=hv.2.1;simp;omega) (q0r hv.2.2) oC (fun x hx=>by cases hx)
   ·rw[ce k]
    exact ih (k+1) out _ oA oA oA ho2 oE (q0r hr2 hy)
  ·refine bg (zcr fu hfu run out hr2 oA ho2) fun v hv=>bg (zbj _ v.2 oC hv.2.2 (by have:=hv.2.1;omega)) fun _ _=>bh trivial
def zcs(fu:Nat)(hfu:90000000<=fu)(l:List (Bs×Bool))(hl:l.length<=4000)(hw:∀w∈l,w.1.length<=4000):Ok dh (qc6 fu l):=
 zqq fu hfu l hl hw fu 0 [] [] oA oA oC (fun x hx=>by cases hx) oC (fun x hx=>by cases hx)
def qpx(fu:Nat)(hfu:90000000<=fu)(s:Bs):Ok dh (tc s):=by
 unfold tc jo;refine ew (fun _=>bh trivial) fun h=>bg (dw (P:=dh) oA (bh trivial)) fun _ _=>ig (fun _=>bh trivial) fun _=>bh trivial
def q7w(fu:Nat)(hfu:90000000<=fu)(a:Bs×Bs×Bs):Ok dh (xx fu a):=by
 unfold xx;refine bg (qpx fu hfu _) fun x1 _=>cw (fun _=>⟨_,rfl,trivial⟩) fun _=>bg (q0g fu hfu _) fun x3 _=>ig (fun _=>⟨_,rfl,trivial⟩) fun _=>bg (qy5 fu hfu _) fun x5 _=>ig (fun _=>⟨_,rfl,trivial⟩) fun _=>⟨_,rfl,trivial⟩
def zke(fu:Nat)(hfu:90000000<=fu)(l:List (Bs×Bs×Bs))(hl:l.length<=80000000)(n:Nat):∀k:Nat,l.length-k<n->Ok dh (td fu n l (l.length:Int) (k:Int)):=by
 induction n with
 |zero=>intro k h;omega|succ n ih=>
  intro k h;rw[td,qc5];refine ew (fun h0=>bg (iu (k:=k) oA) fun y _=>bg (q7w fu hfu y) fun x2 _=>bg (P:=dh) ⟨_,rfl,trivial⟩ fun x3 _=>cw (fun _=>bh trivial) fun _ => ?_) fun _=>bh trivial
  rw[ce k]
  exact ih (k+1) oA
def q7z(fu:Nat)(hfu:90000000<=fu)(x:Bs×Bool×(List (Bs×Bs×Bs)))(hx:x.2.2.length<=80000000:=by omega):Ok dh (x7 fu x):=by
 unfold x7;have p:∀b,Ok dh (o5 fu b x):=fun b=>by
  unfold o5 qhi;exact cw (fun _=>bh trivial) fun _=>zke fu hfu _ hx fu 0 oA
 exact bg (qpx fu hfu _) fun x1 _=>cw (fun _=>bh trivial) fun _=>ig (fun _=>p _) fun _=>ig (fun _=>p _) fun _=>p _
def zmi(fu:Nat)(hfu:90000000<=fu)(l:List (Bs×Bool×(List (Bs×Bs×Bs))))(hl:l.length<=80000000)(hm:∀x∈l,x.2.2.length<=80000000)(z:Int×Int)(n:Nat):∀k:Nat,l.length-k<n->Ok dh (ta fu n l (l.length:Int) (k:Int) z):=by
 induction n with
 |zero=>intro k h;omega|succ n ih=>
  intro k h;rw[ta,qc0];refine ew (fun h0=>bg (q07 (k:=k) oA hm) fun y hy=>bg (q7z fu hfu y hy) fun x2 _=>cw (fun _=>⟨_,rfl,trivial⟩) fun _ => ?_) fun _=>⟨_,rfl,trivial⟩
  rw[ce k]
  exact ih (k+1) oA
def zmg(fu:Nat)(hfu:90000000<=fu)(l:List (Bs×Bool×(List (Bs×Bs×Bs))))(hl:l.length<=80000000)(hm:∀x∈l,x.2.2.length<=80000000)(z:Int×Int)(n:Nat):∀(c:Int)(k:Nat),l.length-k<n->Ok dh (sx fu n l c l (l.length:Int) (k:Int) z):=by
 induction n with
 |zero=>intro c k h;omega|succ n ih=>
  intro c k h;rw[sx,qcz];have p:∀b,Ok dh (sy fu l b z):=fun b=>by
   unfold sy qhf;exact cw (fun _=>⟨_,rfl,trivial⟩) fun _=>zmi fu hfu l hl hm z fu 0 oA
  refine ew (fun h0=>bg (iu (k:=k) oA) fun y _ => ?_) fun _=>ew (fun _=>p _) fun _=>p _
  rw[ce k]
  exact ih _ (k+1) oA
def q83(fu:Nat)(hfu:90000000<=fu)(l:List (Bs×Bool×(List (Bs×Bs×Bs))))(hl:l.length<=80000000)(hm:∀x∈l,x.2.2.length<=80000000):Ok dh (qcy fu l):=zmg fu hfu l hl hm _ fu 0 0 oA
def AdQ(s:Bs)(k:Nat)(v:(Bs×Bs×Bs)×(Bs×Int)×(List (Bs×Bool))):Prop:=At s (k+1) v.2.1/\v.1.2.1.length<=s.length/\v.1.2.2.length<=s.length
def ze3(fu:Nat)(hfu:90000000<=fu)(s:Bs)(hs:s.length<=4000)(k:Nat)(hk:k<=s.length)(l:List (Bs×Bool))(hl:∀w∈l,w.1.length<=s.length):Ok (iv fun v=>AdQ s k v/\v.1.1=[]) (qhn fu (s,(k:Int)) l):=by
 unfold qhn;have pt:∀(l:List (Bs×Bool))(z:Bs×Bs×Bs),Ok (iv fun v=>AdQ s k v/\v.1.1=[]) (yd fu true (s,(k:Int)) l z):=fun l z=>⟨_,rfl,ez⟩
 by_cases h1:(l.length:Int)=1
 ·rw[ak (by simp[h1])]
  obtain⟨w,rfl⟩:∃w,l=[w]:=by
   match l,h1 with|[w],_=>exact⟨w,rfl⟩|[],h=>simp at h|_::_::_,h=>simp only[qL]at h;omega
  have hw:=hl w qH;have pf:∀z:Bs×Bs×Bs,Ok (iv fun v=>AdQ s k v/\v.1.1=[]) (yd fu false (s,(k:Int)) [w] z):=fun z=>by
   unfold yd qti;rw[ak rfl];refine bg (q0u fu hfu s hs 64 k hk) fun r hr=>fj (fun _ _=>bh ez) fun b hb => ?_
   obtain⟨j,rfl,a,b⟩:=hr b hb;refine bg (qk7 fu hfu s hs j b) fun r hr => ?_
   match r,hr with
   |.inl _,_=>exact⟨_,rfl,ez⟩|.inr (.inl m),h2=>exact⟨_,rfl,ez⟩|.inr (.inr (.inr (d,m))),h2=>exact⟨_,rfl,ez⟩|.inr (.inr (.inl (x,(q,m)))),h2=>
    refine cw (fun _=>⟨_,rfl,ez⟩) fun _=>bg (qy5 fu hfu x) fun x13 _=>ig (fun _=>⟨_,rfl,ez⟩) fun _=>dw ⟨oD,oC⟩ ?_
    exact⟨_,rfl,jr ⟨⟨at_le h2.1,hw,h2.2⟩,rfl⟩⟩
  refine dw ⟨oD,oC⟩ ?_
  rw[show([w]:List (Bs×Bool))[(0:Int).toNat]? = some w from rfl]
  simp only[qB];refine bg (q0g fu hfu w.1) fun x2 _=>ig (fun _=>pt _ _) fun _=>dw ⟨oD,oC⟩ (ig (fun _=>dw ⟨oD,oC⟩ (bg (zns fu hfu w.1) fun x5 _ => ?_)) fun _=>pf _)
  cases x5
  ·exact pt _ _
  ·exact pf _
 ·rw[au (by simp[h1])];exact pt _ _
def q7v(fu:Nat)(hfu:90000000<=fu)(s:Bs)(hs:s.length<=4000)(k:Nat)(hk:k<=s.length)(l:List (Bs×Bool))(hn:l.length<=s.length)(hl:∀w∈l,w.1.length<=s.length):Ok (iv (AdQ s k)) (qhl fu (s,(k:Int)) l):=by
 unfold qhl;refine bg (qfo fu hfu s hs 60 k hk) fun r hr=>fj (fun _ _=>bh ez) fun b hb => ?_
 obtain⟨b,m⟩:=b;obtain⟨⟨j,rfl,a1,b1⟩,_⟩:=hr _ hb;refine ig (fun _=>bg (ze3 fu hfu s hs j b1 l hl) fun r hr=>fj (fun _ _=>bh ez) fun b hb=>bh (jr ?_)) fun _ => ?_
 ·obtain⟨⟨h1,h2,h3⟩,_⟩:=hr b hb;exact⟨at_le h1,h2,h3⟩
 ·refine bg (q24 fu hfu s hs j b1) fun r hr=>fj (fun _ _=>bh ez) fun b hb => ?_
  obtain⟨m,ws⟩:=b;obtain⟨⟨i,rfl,a2,b2⟩,h4,h5⟩:=hr _ hb;refine bg (ze3 fu hfu s hs i b2 ws h5) fun r hr=>fj (fun _ _=>bh ez) fun b hb => ?_
  obtain⟨a,m,ws'⟩:=b;obtain⟨⟨⟨o,rfl,a3,b3⟩,h6,h7⟩,_⟩:=hr _ hb;refine bg (zcs fu hfu l oA (fun w hw=>by have:=hl w hw;omega)) fun x13 _=>bg (q0u fu hfu s hs 62 o b3) fun r hr=>fj (fun _ _=>bh ez) fun b hb=>bh (jr ⟨at_le (hr b hb),h6,h7⟩)
def ItP(s:Bs)(x:Bs×Bool×(List (Bs×Bs×Bs))):Prop:=x.2.2.length<=s.length+1/\(∀a∈x.2.2,a.2.1.length<=s.length/\a.2.2.length<=s.length)/\(x.2.1=false->x.2.2.length=1)
def zpo(fu:Nat)(hfu:90000000<=fu)(s:Bs)(hs:s.length<=4000)(z1:Bs)(z2:Bool)(g:Bs)(n:Nat):∀(k:Nat)(l:List (Bs×Bs×Bs)),k<=s.length->s.length-k<n->l.length<=k->(∀a∈l,a.2.1.length<=s.length/\a.2.2.length<=s.length) ->
  Ok (iv fun v=>At s (k+1) v.2/\ItP s v.1) (qhm fu n (s,(k:Int)) z1 z2 g l):=by
 induction n with
 |zero=>intro k l _ h;omega|succ n ih=>
  intro k l hk h hl hL;rw[qhm,qs8];refine bg (q24 fu hfu s hs k hk) fun r hr=>fj (fun _ _=>bh ez) fun b hb => ?_
  obtain⟨m,ws⟩:=b;obtain⟨⟨i,rfl,a2,b2⟩,h4,h5⟩:=hr _ hb;refine bg (q7v fu hfu s hs i b2 ws h4 h5) fun r hr=>fj (fun _ _=>bh ez) fun b hb => ?_
  obtain⟨a,m,ws'⟩:=b;obtain⟨⟨o,rfl,a3,b3⟩,h6,h7⟩:=hr _ hb;have hL2:∀x∈l++[a],x.2.1.length<=s.length/\x.2.2.length<=s.length:=fun x hx=>by
   rcases List.mem_append.1 hx with q|q
   ·exact hL x q
   ·rw[List.mem_singleton]at q;subst q;exact⟨h6,h7⟩
  refine dw (si _ _) (bg (qfo fu hfu s hs 59 o b3) fun r hr=>fj (fun _ _=>bh ez) fun b hb => ?_)
  obtain⟨b,m⟩:=b;obtain⟨⟨p,rfl,a4,b4⟩,_⟩:=hr _ hb;refine cw (fun _=>bh (jr ⟨jy oA b4,oE,hL2,fun q=>by cases q⟩)) fun _=>bg (q0u fu hfu s hs 44 p b4) fun r hr=>fj (fun _ _=>bh ez) fun b hb => ?_
  obtain⟨t,rfl,a5,b5⟩:=hr _ hb;exact ut (ih t _ b5 oA oE hL2) fun v hv m em=>⟨at_le (hv m em).1,(hv m em).2⟩
def zbg(fu:Nat)(hfu:90000000<=fu)(s:Bs)(hs:s.length<=4000)(k:Nat)(hk:k<=s.length:=by omega):Ok (iv fun v=>At s (k+1) v.2/\ItP s v.1) (qaq fu (s,(k:Int))):=by
 unfold qaq;refine bg (q24 fu hfu s hs k hk) fun r hr=>fj (fun _ _=>bh ez) fun b hb => ?_
 obtain⟨m,ws⟩:=b;obtain⟨⟨i,rfl,a2,b2⟩,h4,h5⟩:=hr _ hb;refine bg (qfo fu hfu s hs 58 i b2) fun r hr=>fj (fun _ _=>bh ez) fun b hb => ?_
 obtain⟨b,m⟩:=b;obtain⟨⟨o,rfl,a3,b3⟩,hb2⟩:=hr _ hb;refine ig (fun _=>bg (q7v fu hfu s hs o b3 ws h4 h5) fun r hr=>fj (fun _ _=>bh ez) fun b hb=>bh (jr ?_)) fun q=>bg (zcs fu hfu ws (by dsimp only at h4;omega) (fun w hw=>by have:=h5 w hw;omega)) fun x10 _=>cw (fun _=>⟨_,rfl,ez⟩) fun _ => ?_
 ·obtain⟨h1,h6,h7⟩:=hr b hb;refine⟨at_le h1,oC,fun a ha => ?_,fun _=>rfl⟩
  rw[List.mem_singleton]at ha;subst ha;exact⟨h6,h7⟩
 ·obtain⟨o',e,a4,b4⟩:=hb2 q;obtain rfl:o=o':=by have:=congrArg Prod.snd e;simp only[]at this;omega
  unfold qs9;refine bg (qfo fu hfu s hs 59 o b3) fun r hr=>fj (fun _ _=>bh ez) fun b hb => ?_
  obtain⟨b,m⟩:=b;obtain⟨⟨p,rfl,a5,b5⟩,_⟩:=hr _ hb;refine cw (fun _=>bh (jr ⟨jy oA b5,oC,fun a ha=>(by cases ha),fun q=>by cases q⟩)) fun _ => ?_
  exact ut (zpo fu hfu s hs [] false x10 fu p [] b5 oA oC (fun a ha=>by cases ha)) fun v hv m em=>⟨at_le (hv m em).1,(hv m em).2⟩
def LsP(s:Bs)(l:List (Bs×Bool×(List (Bs×Bs×Bs)))):Prop:=l.length<=s.length+1/\∀x∈l,ItP s x
def PsP(s:Bs)(r:qji):Prop:=∀v,r = .inr v->LsP s v.1
def qca{s:Bs}{x:Int×Bs}:PsP s (.inl x):=fun _ q=>by cases q
def zb8(s:Bs):LsP s []:=⟨oC,fun x hx=>by cases hx⟩
def zb9(s:Bs){l:List (Bs×Bool×(List (Bs×Bs×Bs)))}{x:Bs×Bool×(List (Bs×Bs×Bs))}(h:∀x∈l,ItP s x)(hx:ItP s x):∀y∈l++[x],ItP s y:=fun y hy=>by
 rcases List.mem_append.1 hy with q|q
 ·exact h y q
 ·rw[List.mem_singleton]at q;subst q;exact hx
def zdp(fu:Nat)(hfu:90000000<=fu)(s:Bs)(hs:s.length<=4000)(m1:Bs)(m3:Int×Int)(l:List (Bs×Bool×(List (Bs×Bs×Bs))))(hl:LsP s l):Ok (PsP s) (qhh fu m1 m3 l):=by
 unfold qhh;refine bg (q83 fu hfu l (by have:=hl.1;omega) (fun x hx=>by have:=(hl.2 x hx).1;omega)) fun x1 _=>bg (P:=dh) ⟨_,rfl,trivial⟩ fun x2 _=>cw (fun _=>⟨_,rfl,fun _ q => ?_⟩) fun _=>⟨_,rfl,fun _ q => ?_⟩
 ·cases q;exact zb8 s
 ·cases q;exact hl
def zr7(fu:Nat)(hfu:90000000<=fu)(s:Bs)(hs:s.length<=4000)(m1:Bs)(m3:Int×Int)(n:Nat):∀(k:Nat)(l:List (Bs×Bool×(List (Bs×Bs×Bs)))),k<=s.length->s.length-k<n->l.length<=k->(∀x∈l,ItP s x)->Ok (PsP s) (qao fu n m1 m3 (s,(k:Int)) l):=by
 induction n with
 |zero=>intro k l _ h;omega|succ n ih=>
  intro k l hk h hl hL;rw[qao,qs2];refine bg (qfo fu hfu s hs 44 k hk) fun r hr=>fj (fun _ _=>bh qca) fun b hb => ?_
  obtain⟨b,m⟩:=b;obtain⟨⟨o,rfl,a3,b3⟩,hb2⟩:=hr _ hb;refine cw (fun q=>bg (zbg fu hfu s hs o b3) fun r hr=>fj (fun _ _=>bh qca) fun b hb => ?_) fun _ => ?_
  ·obtain⟨x,m⟩:=b;obtain⟨⟨p,rfl,a4,b4⟩,hx⟩:=hr _ hb;exact dw (si _ _) (ih p _ b4 oA oE (zb9 s hL hx))
  ·unfold vj;obtain⟨r,e,hr⟩:=qk7 fu hfu s hs o b3;dsimp only;rw[e]
   match r,hr with|.inl _,_=>exact⟨_,rfl,qca⟩|.inr (.inl m),h2=>exact zdp fu hfu s hs m1 m3 l ⟨oA,hL⟩|.inr (.inr (.inl (w,(q,m)))),h2=>exact⟨_,rfl,qca⟩|.inr (.inr (.inr (d,m))),h2=>exact⟨_,rfl,qca⟩
def zr8(fu:Nat)(hfu:90000000<=fu)(s:Bs)(hs:s.length<=4000)(a b:Int):Ok (PsP s) (qhg fu s a b):=by
 unfold qhg qc2 vj;have hi:=zbg fu hfu s hs 0
 have h2:Ok (PsP s) ((qaq fu (s,(0:Int))).bind fun x8=>ay x8 (fun a9=>some (.inl (a9,s))) (fun b10=>bif decide (List.length ([b10.1]:List (Bs×Bool×(List (Bs×Bs×Bs))))<=aw) then qao fu fu s (a,b) b10.2 ([b10.1]:List (Bs×Bool×(List (Bs×Bs×Bs)))) else none)):=by
  refine bg hi fun r hr=>fj (fun _ _=>bh qca) fun b hb => ?_
  obtain⟨x,m⟩:=b;obtain⟨⟨p,rfl,a4,b4⟩,hx⟩:=hr _ hb;exact dw (by simp[aw]) (zr7 fu hfu s hs s _ fu p [x] b4 oA oE (zb9 s (l:=[]) (fun x hx=>by cases hx) hx))
 obtain⟨r,e,hr⟩:=qk7 fu hfu s hs 0
 rw[show((0:Nat):Int)=0 from rfl]at e
 rw[e]
 match r,hr with
 |.inl _,_=>exact⟨_,rfl,qca⟩|.inr (.inl m),h=>simp only[qB,ay];exact zdp fu hfu s hs s (a,b) [] (zb8 s)|.inr (.inr (.inl (w,(q,m)))),h=>
  obtain⟨⟨j,rfl,_,_⟩,_⟩:=h;exact h2
 |.inr (.inr (.inr (d,m))),h=>
  obtain⟨j,rfl,_,_⟩:=h;exact h2
def zrl(fu:Nat)(hfu:90000000<=fu)(s:Bs):Ok (fun v=>v.1.length<=4001/\∀x∈v.1,x.2.2.length<=4001/\(∀a∈x.2.2,a.2.1.length<=4000/\a.2.2.length<=4000)/\(x.2.1=false->x.2.2.length=1)) (qmk fu s):=by
 unfold qmk qc1;refine ew (fun _=>⟨_,rfl,oC,fun x hx=>by cases hx⟩) fun h=>bg (zr8 fu hfu s oA _ _) fun r hr=>fj (fun _ _=>⟨_,rfl,oC,fun x hx=>by cases hx⟩) fun b hb=>bh ?_
 obtain⟨h1,h2⟩:=hr b hb;refine⟨oA,fun x hx => ?_⟩
 obtain⟨h3,h4,h5⟩:=h2 x hx;exact⟨oA,fun a ha=>by have:=h4 a ha;omega,h5⟩
def pb(c:UInt8):Bool:=(vf c).getD false
def zlc(c:UInt8):vf c=some (pb c):=by
 obtain⟨v,e,_⟩:=qx6 c;unfold pb;rw[e];rfl
abbrev w8(w:Bs):Bs:=ei 92 34 [92,92] [92,34] w
inductive Tok where
 |sg (c:UInt8)
 |wd (w:Bs) (q:Bool)
def zvf:Tok->Bs|.sg c=>[c]|.wd w false=>w|.wd w true=>34::(w8 w++[34])
abbrev BT:=Bool×Tok
def Wds(W:List BT):Prop:=∀x∈W,∃w q,x.2 = .wd w q
def wof:List BT->List (Bs×Bool)|[]=>[]|(_,.wd w q)::W=>(w,q)::wof W|(_,.sg _)::W=>wof W
def LoT(fu:Nat)(lo:Bs)(q:Bool):Prop:=vh fu lo=some true/\(q=false->xz fu lo=some true)
abbrev spT(b:Bool)(lo dm:Bs)(q:Bool):List BT:=[(b,.wd lo q),(false,.sg 64),(false,.wd dm false)]
def AdT(fu:Nat)(a:Bs×Bs×Bs)(T:List BT):Prop:=∃q,LoT fu a.2.1 q/\vg fu a.2.2=some true /\
 ((a.1=[]/\T=spT false a.2.1 a.2.2 q)\/(a.1≠[]/\∃W,Wds W/\W≠[]/\qc6 fu (wof W)=some a.1/\T=W++(true,.sg 60)::(spT false a.2.1 a.2.2 q++[(false,.sg 62)])))
def bk1:List BT->List BT|[]=>[]|(_,t)::T=>(true,t)::T
inductive MsT(fu:Nat):List (Bs×Bs×Bs)->List BT->Prop where
 |one {a T}:AdT fu a T->MsT fu [a] T
 |cons {a T ms T'}:AdT fu a T->MsT fu ms T'->MsT fu (a::ms) (T++(false,.sg 44)::bk1 T')
def GnT(fu:Nat)(g:Bs)(W:List BT):Prop:=Wds W/\W≠[]/\qc6 fu (wof W)=some g/\g≠[]
inductive ItT(fu:Nat):(Bs×Bool×(List (Bs×Bs×Bs)))->List BT->Prop where
 |single {a T}:AdT fu a T->ItT fu ([],(false,[a])) T
 |grp0 {g W}:GnT fu g W->ItT fu (g,(true,[])) (W++[(false,.sg 58),(false,.sg 59)])
 |grp {g W ms T}:GnT fu g W->MsT fu ms T->ItT fu (g,(true,ms)) (W++(false,.sg 58)::(bk1 T++[(false,.sg 59)]))
inductive LsT(fu:Nat):List (Bs×Bool×(List (Bs×Bs×Bs)))->List BT->Prop where
 |one {x T}:ItT fu x T->LsT fu [x] T
 |cons {x T l T'}:ItT fu x T->LsT fu l T'->LsT fu (x::l) (T++(false,.sg 44)::bk1 T')

structure St1(k:Nat)(R:List Nat)(Gs:List (List Nat))(N:List Nat):Prop where
 all:∀G∈Gs,G≠[]/\(zge k G).length<=75
 cur:N≠[]->(zge k N).length<=75
 flat:Gs.flatten++N=R


def qo0(s:Bs)(hs:s.length<=10000000)(P0:Nat->Bs->Int->Int->Option Bool)(p:UInt8->Bool)
  (h0:∀n e k,P0 (n+1) s e k=(bif decide (k<e) then(ap s k).bind fun c=>(some (p c)).bind fun x=>bif !x then some false else P0 n s e (af (k+(1:Int))) else some true)) :
  ∀(n:Nat)(ab aa:Bs),s=ab++aa->aa.length<n->P0 n s (s.length:Int) (ab.length:Int)=some (aa.all p):=by
 intro n
 induction n with
 |zero=>intro ab aa _ h;omega|succ n ih=>
  intro ab aa e h;have hl:=congrArg List.length e;rw[qM]at hl;rw[h0]
  cases aa with
  |nil=>rw[bp (by simp at hl;omega)];rfl|cons c aa=>
   simp only[qL]at hl h;rw[ao oA,show ap s (ab.length:Int)=some c by rw[e];exact gx _ _ _,qB,qB,List.all_cons]
   cases hp:p c
   ·rfl
   ·rw[qj0,ce _]
    have:=ih (ab++[c]) aa (by rw[e];simp) oA
    rw[qM,wD]at this;rw[this];rfl
def ub(c:UInt8):Bool:=(xy c).getD false
def znn(c:UInt8):xy c=some (ub c):=by
 obtain⟨v,e,_⟩:=q9p c;unfold ub;rw[e];rfl
def zkj(fu:Nat)(s:Bs)(h:s.length<fu:=by omega)(hs:s.length<=10000000:=by omega):qht fu s=some (s.all pb):=
 qo0 s hs (qdg fu) pb (fun n e k=>by rw[qdg,qtp];simp only[zlc]) fu [] s rfl h
def zkl(fu:Nat)(s:Bs)(h:s.length<fu:=by omega)(hs:s.length<=10000000:=by omega):qmv fu s=some (s.all ub):=
 qo0 s hs (qdh fu) ub (fun n e k=>by rw[qdh,qtq];simp only[znn]) fu [] s rfl h
def b0:List BT->Prop|(true,_)::_=>False|_=>True
def zsd(s:Bs)(hs:s.length<=100000):qc7 s=some (34::(w8 s++[34]))/\(w8 s).length<=300000:=by
 have hc:ib 92 34 s<=2*s.length:=by
  have h1:=List.count_le_length (a:=(92:UInt8)) (l:=s);have h2:=List.count_le_length (a:=(34:UInt8)) (l:=s);unfold ib;omega
 have hl:=qfg (a:=92) (b:=34) oD 92 92 92 34 s
 unfold qc7;rw[show qiv ([([92]:Bs),([92,92]:Bs),([34]:Bs),([92,34]:Bs)]:List Bs)=some (0,0,0,[[92],[92,92],[34],[92,34]]) from rfl,qB]
 unfold tg;dsimp only;rw[ao ⟨rfl,rfl,oD,oA⟩,qB,ao (by simp only[qL,qZ,bi];omega),ao (by simp only[qM,qL,qZ,bi];omega)]
 exact⟨rfl,by show(ei 92 34 [92,92] [92,34] s).length<=300000;omega⟩
abbrev FU:Nat:=100000000
def VaA(a:Bs×Bs×Bs):Prop:=tc a.1=some 0/\vh FU a.2.1=some true/\vg FU a.2.2=some true
def VaI(x:Bs×Bool×(List (Bs×Bs×Bs))):Prop:=tc x.1=some 0/\(x.2.1=true↔x.1≠[])/\(x.2.1=false->x.2.2.length=1)/\∀a∈x.2.2,VaA a
def lst(T:List BT):Prop:=∃S x,T=S++[x]/\∀t,zvf x.2≠t++[32]
end Go.Sym
namespace Go.Sym
abbrev Adr:Type:=Bs×Bs×Bs
abbrev qm:Type:=Bs×Bool×(List Adr)
def zlf{a:Adr}{f:Int×Int}(h:xx FU a=some f)(h0:f.1=0):VaA a:=by
 obtain⟨d,hd,_⟩:=qpx FU oD a.1
 obtain⟨b1,hb1,_⟩:=q0g FU oD a.2.1
 obtain⟨b2,hb2,_⟩:=qy5 FU oD a.2.2
 unfold xx at h;rw[hd,qB,ia]at h;by_cases c:d≠0
 ·rw[qX c]at h;have:=congrArg (Option.map Prod.fst) h;simp[ax]at this;omega
 ·rw[qW c,hb1,qB]at h;cases b1
  ·have:=congrArg (Option.map Prod.fst) h;simp[ax]at this;omega
  ·rw[qj0,hb2,qB]at h;cases b2
   ·have:=congrArg (Option.map Prod.fst) h;simp[ax]at this;omega
   ·exact⟨by rw[hd,Classical.not_not.1 c],hb1,hb2⟩
def zlj(l:List Adr)(hl:l.length<=80000000)(n:Nat):∀ab aa:List Adr,l=ab++aa->aa.length<n->td FU n l (l.length:Int) (ab.length:Int)=some 0->∀a∈aa,VaA a:=by
 induction n with
 |zero=>intro ab aa _ h;omega|succ n ih=>
  intro ab aa e h hq
  cases aa with
  |nil=>intro a ha;cases ha
  |cons a aa=>
   have ac:=congrArg List.length e;simp only[qM,qL]at ac h;rw[td,qc5,ao oA,show ap l (ab.length:Int)=some a by rw[e];exact gx _ _ _,qB]at hq
   obtain⟨f,hf,_⟩:=q7w FU oD a
   rw[hf,qB,oc,qB,ia]at hq;by_cases c:f.1≠0
   ·rw[qX c]at hq;exact absurd (qJ hq) c
   ·rw[qW c,ce _]at hq
    have:=ih (ab++[a]) aa (by rw[e];simp) oA (by rw[qM,wD];exact hq)
    intro b hb;rcases List.mem_cons.1 hb with rfl|hb
    ·exact zlf hf (Classical.not_not.1 c)
    ·exact this b hb
def zkf{x:qm}(hx:x.2.2.length<=80000000)(h:x7 FU x=some 0):VaI x:=by
 obtain⟨d,hd,_⟩:=qpx FU oD x.1
 unfold x7 at h;rw[hd,qB,ia]at h;by_cases c:d≠0
 ·rw[qX c]at h;exact absurd (qJ h) c
 rw[qW c]at h;obtain⟨g,b,ms⟩:=x;simp only[]at hd h hx;have hd0:tc g=some 0:=by rw[hd,Classical.not_not.1 c]
 have pt:∀x,o5 FU true x≠some 0:=fun x q=>by
  unfold o5 at q;rw[au rfl]at q;exact absurd (qJ q) oD
 have pf:o5 FU false (g,(b,ms))=some 0->∀a∈ms,VaA a:=fun q=>by
  unfold o5 qhi at q;rw[ak rfl]at q;exact zlj ms hx FU [] ms rfl oL q
 by_cases hg:g=[]
 ·subst hg
  cases b with
  |true=>exact absurd h (pt _)|false=>
   rw[ak,au]at h
   by_cases hm:(ms.length:Int)=1
   ·rw[show((ms.length:Int) != (1:Int))=false by simp[hm]]at h
    exact⟨hd0,oC,fun _=>oN,pf h⟩
   ·rw[show((ms.length:Int) != (1:Int))=true by simp[hm]]at h
    exact absurd h (pt _)
 ·have hgb:(g==([]:Bs))=false:=by simp[hg]
  rw[hgb]at h
  cases b with
  |false=>exact absurd h (pt (g,(false,ms)))|true=>
   rw[ak,ak]at h
   exact⟨hd0,⟨fun _=>hg,fun _=>rfl⟩,(fun q=>by cases q),pf h⟩
def zmj(l:List qm)(hl:l.length<=2000000)(hm:∀x∈l,x.2.2.length<=2000000)(z f:Int×Int)(hf:f.1=0)(n:Nat):∀ab aa:List qm,l=ab++aa->aa.length<n->ta FU n l (l.length:Int) (ab.length:Int) z=some f->f=(0,0)/\∀x∈aa,VaI x:=by
 induction n with
 |zero=>intro ab aa _ h;omega|succ n ih=>
  intro ab aa e h hq;have ac:=congrArg List.length e;rw[qM]at ac;rw[ta,qc0]at hq
  cases aa with
  |nil=>
   rw[bp (by simp at ac;omega)]at hq
   exact⟨(qJ hq).symm,fun a ha=>by cases ha⟩
  |cons x aa=>
   simp only[qL]at ac h;have hxl:=hm x (by rw[e];simp)
   rw[ao oA,show ap l (ab.length:Int)=some x by rw[e];exact gx _ _ _,qB]at hq
   obtain⟨c,hc,_⟩:=q7z FU oD x
   rw[hc,qB,ia]at hq;by_cases c0:c≠0
   ·rw[qX c0]at hq;have:=congrArg (Option.map Prod.fst) hq;simp[ax]at this;omega
   ·rw[qW c0,ce _]at hq
    obtain⟨i1,i2⟩:=ih (ab++[x]) aa (by rw[e];simp) oA (by rw[qM,wD];exact hq)
    refine⟨i1,fun y hy => ?_⟩
    rcases List.mem_cons.1 hy with rfl|hy
    ·exact zkf oA (by rw[hc,Classical.not_not.1 c0])
    ·exact i2 y hy
def iq(l:List qm):Nat:=(l.map fun x=>x.2.2.length).sum
def qyp(x:qm)(l:List qm):iq (x::l)=x.2.2.length+iq l:=by simp[iq]
def q88(a b:List qm):iq (a++b)=iq a+iq b:=by simp[iq]
def q89:∀(l:List qm),(∀x∈l,x.2.2.length<=2000000)->iq l<=2000000*l.length
 |[],_=>by simp[iq]|x::l,h=>by
  have h1:=h x qH;have h2:=q89 l (fun y hy=>h y (qE _ hy))
  rw[qyp,qL];omega
def zmh(l:List qm)(hl:l.length<=2000000)(hm:∀x∈l,x.2.2.length<=2000000)(z f:Int×Int)(hf:f.1=0)(n:Nat):∀ab aa:List qm,l=ab++aa->aa.length<n->sx FU n l (iq ab:Int) l (l.length:Int) (ab.length:Int) z=some f->f=(0,0)/\l.length<=60/\iq l<=60/\∀x∈l,VaI x:=by
 have hcl:=q89 l hm
 induction n with
 |zero=>intro ab aa _ h;omega|succ n ih=>
  intro ab aa e h hq;have ac:=congrArg List.length e;rw[qM]at ac;rw[sx,qcz]at hq
  cases aa with
  |nil=>
   rw[List.append_nil]at e;subst e;rw[bp]at hq
   have pt:sy FU l true z≠some f:=fun q=>by
    unfold sy at q;rw[au rfl]at q;have:=congrArg (Option.map Prod.fst) q;simp[ax]at this;omega
   by_cases h6:(60:Int)<(l.length:Int)
   ·rw[ao h6]at hq;exact absurd hq pt
   ·rw[bp h6]at hq;by_cases h7:(60:Int)<(iq l:Int)
    ·rw[decide_eq_true h7]at hq;exact absurd hq pt
    ·rw[decide_eq_false h7]at hq;unfold sy qhf at hq;rw[ak rfl]at hq;obtain⟨i1,i2⟩:=zmj l hl hm z f hf FU [] l rfl oL hq
     exact⟨i1,oA,oA,i2⟩
  |cons x aa=>
   simp only[qL]at ac h;rw[ao oA,show ap l (ab.length:Int)=some x by rw[e];exact gx _ _ _,qB,ce _]at hq
   have hc:iq ab+x.2.2.length<=iq l:=by rw[e,q88,qyp];omega
   rw[bw (x:=(iq ab:Int)+(x.2.2.length:Int)) oA oA]at hq
   refine ih (ab++[x]) aa (by rw[e];simp) oA ?_
   rw[qM,wD,q88,qyp,show iq []=0 from rfl,show((iq ab+(x.2.2.length+0):Nat):Int)=(iq ab:Int)+(x.2.2.length:Int) by omega]
   exact hq
def zml(l:List qm)(hl:l.length<=2000000)(hm:∀x∈l,x.2.2.length<=2000000){f:Int×Int}(h:qcy FU l=some f)(hf:f.1=0):f=(0,0)/\l.length<=60/\iq l<=60/\∀x∈l,VaI x:=
 zmh l hl hm _ f hf FU [] l rfl oL h
end Go.Sym

namespace Go.Sym.Cal
def uk(y:Int):Bool:=y%4==0&&(y%100 != 0||y%400==0)
def lp(y:Int):Int:=if uk y=true then 1 else 0
def zb5(y:Int):0<=lp y/\lp y<=1:=by unfold lp;split<;>omega
def zqg(y:Int):lp y=(y/4-y/100+y/400)-((y-1)/4-(y-1)/100+(y-1)/400):=by
 unfold lp uk;split
 ·rename_i h;simp at h;omega
 ·rename_i h;simp at h;omega
def qbn(m:Int):Int:=if m=2 then 28 else if m=4\/m=6\/m=9\/m=11 then 30 else 31
def dim(y m:Int):Int:=if m=2 then 28+lp y else qbn m
def dim_bd(y m:Int):28<=dim y m/\dim y m<=31:=by
 have:=zb5 y;unfold dim qbn;split<;>(try split)<;>(try split)<;>omega
def qe2(m:Int):Int:=
 if m<=1 then 0 else if m=2 then 31 else if m=3 then 59 else if m=4 then 90 else if m=5 then 120 else if m=6 then 151 else if m=7 then 181
 else if m=8 then 212 else if m=9 then 243 else if m=10 then 273 else if m=11 then 304 else if m=12 then 334 else 365
def e7(y m:Int):Int:=qe2 m+if 3<=m then lp y else 0
def q9e(y:Int):e7 y 1=0:=by simp[e7,qe2]
def qyu(y:Int):e7 y 13=365+lp y:=by simp[e7,qe2]
def q0p(m:Int)(h1:1<=m)(h2:m<=12):m=1\/m=2\/m=3\/m=4\/m=5\/m=6\/m=7\/m=8\/m=9\/m=10\/m=11\/m=12:=oA
def qj6(y m:Int)(h1:1<=m:=by omega)(h2:m<=12:=by omega):e7 y (m+1)=e7 y m+dim y m:=by
 rcases q0p m h1 h2 with h|h|h|h|h|h|h|h|h|h|h|h<;>subst h<;>simp[e7,qe2,dim,qbn]<;>omega
def qyv(y m:Int)(h1:1<=m)(h2:m<=13:=by omega):0<=e7 y m/\e7 y m<=366:=by
 have:=zb5 y;rcases (show m=13\/m<=12 by omega) with h|h
 ·subst h;rw[qyu];omega
 ·rcases q0p m h1 h with h|h|h|h|h|h|h|h|h|h|h|h<;>subst h<;>simp[e7,qe2]<;>omega
def qj5(y a b:Int)(h1:1<=a:=by omega)(hab:a<=b:=by omega)(h2:b<=13:=by omega):e7 y a<=e7 y b:=by
 obtain⟨n,rfl⟩:∃n:Nat,b=a+n:=⟨(b-a).toNat,oA⟩
 induction n with
 |zero=>simp|succ n ih=>
  have h:=ih oA oA
  have hs:=qj6 y (a+n)
  have hd:=dim_bd y (a+n);have e:a+((n+1:Nat):Int)=a+n+1:=oA
  rw[e,hs];omega
def zmy(y a b:Int)(h1:1<=a)(hab:a<b)(h2:b<=13):e7 y a+dim y a<=e7 y b:=by
 rw[← qj6 y a h1];exact qj5 y _ _ oA oA h2
def dc(y:Int):Int:=365*(y-1)+(y-1)/4-(y-1)/100+(y-1)/400
def zln:dc 1970=719162:=oD
def q8g(y:Int):dc (y+1)=dc y+365+lp y:=by
 have:=zqg y;unfold dc;rw[show y+1-1=y by omega];omega
def yq(a b:Int)(h:a<=b:=by omega):dc a<=dc b:=by unfold dc;omega
def q8f(y:Int)(h1:1<=y)(h2:y<=4001):0<=dc y/\dc y<=1461000:=by unfold dc;omega
def cd(y m d:Int):Int:=dc y-719162+d-1+e7 y m
def day_bd(y m d:Int)(h1:1<=y)(h2:y<=4001)(h3:1<=m)(h4:m<=13)(h5 : -1000<=d)(h6:d<=1000) : -720200<=cd y m d/\cd y m d<=743300:=by
 have:=q8f y h1 h2;have:=qyv y m h3 h4;unfold cd;omega
def f8(y m d:Int):Prop:=1<=y/\y<=4000/\1<=m/\m<=12/\1<=d/\d<=dim y m
instance(y m d:Int):Decidable (f8 y m d):=by unfold f8;infer_instance
def qj7(y m d:Int)(h:f8 y m d):dc y<=cd y m d+719162/\cd y m d+719162<dc (y+1):=by
 obtain⟨_,_,h3,h4,h5,h6⟩:=h;have:=qyv y m h3;have:=zmy y m 13 h3 oA oA;have:=qyu y;have:=q8g y
 unfold cd;omega
def qy0(y m d:Int)(h:f8 y m d):e7 y m<=cd y m d+719162-dc y/\cd y m d+719162-dc y<e7 y (m+1):=by
 obtain⟨_,_,h3,h4,h5,h6⟩:=h;have:=qj6 y m h3 h4;unfold cd;omega
def zm7{y m d y' m' d':Int}(h:f8 y m d)(h':f8 y' m' d')(e:cd y m d=cd y' m' d'):y=y'/\m=m'/\d=d':=by
 have a:=qj7 y m d h;have a':=qj7 y' m' d' h';have hy:y=y':=by
  rcases Int.lt_trichotomy y y' with c|c|c
  ·have:=yq (y+1) y';omega
  ·exact c
  ·have:=yq (y'+1) y;omega
 subst hy;have b:=qy0 y m d h;have b':=qy0 y m' d' h';obtain⟨_,_,h3,h4,_,_⟩:=h;obtain⟨_,_,h3',h4',_,_⟩:=h';have hm:m=m':=by
  rcases Int.lt_trichotomy m m' with c|c|c
  ·have:=qj5 y (m+1) m';omega
  ·exact c
  ·have:=qj5 y (m'+1) m;omega
 subst hm;refine⟨rfl,rfl,?_⟩;unfold cd at e;omega
noncomputable def oa(n:Int):Int×Int×Int:=open Classical in if h:∃p:Int×Int×Int,f8 p.1 p.2.1 p.2.2/\cd p.1 p.2.1 p.2.2=n then Classical.choose h else(0,0,0)
def zmm{y m d:Int}(h:f8 y m d):oa (cd y m d)=(y,m,d):=by
 have hx:∃p:Int×Int×Int,f8 p.1 p.2.1 p.2.2/\cd p.1 p.2.1 p.2.2=cd y m d:=⟨(y,m,d),h,rfl⟩;unfold oa;rw[dif_pos hx];obtain⟨hv,he⟩:=Classical.choose_spec hx;obtain⟨a,b,c⟩:=zm7 hv h he;exact Prod.ext a (Prod.ext b c)
def zmo{n y m d:Int}(h:f8 y m d)(e:cd y m d=n):oa n=(y,m,d):=by rw[← e];exact zmm h
def zmn(n:Int)(h1 : -719162<=n)(h2:n<=741807):∃y m d:Int,f8 y m d/\cd y m d=n:=by
 have hyear:∀k:Nat,k<=4000->n+719162<dc (k+1:Int)->∃y:Int,1<=y/\y<=4000/\dc y<=n+719162/\n+719162<dc (y+1):=by
  intro k
  induction k with
  |zero=>intro _ h;simp[dc]at h;omega|succ k ih=>
   intro hk h;by_cases hc:n+719162<dc (k+1:Int)
   ·exact ih oA hc
   ·exact⟨k+1,oA,oA,oA,by
     have e:((k+1:Nat):Int)+1=(k:Int)+1+1:=oA
     rw[e]at h;exact h⟩
 obtain⟨y,hy1,hy2,hy3,hy4⟩:=hyear 4000 (wF _) (by
  have:dc ((4000:Nat)+1:Int)=1460970:=oD
  omega)
 have hmon:∀k:Nat,k<=12->n+719162-dc y<e7 y (k+1:Int)->∃m:Int,1<=m/\m<=12/\e7 y m<=n+719162-dc y/\n+719162-dc y<e7 y (m+1):=by
  intro k
  induction k with
  |zero=>intro _ h;simp[e7,qe2]at h;omega|succ k ih=>
   intro hk h;by_cases hc:n+719162-dc y<e7 y (k+1:Int)
   ·exact ih oA hc
   ·exact⟨k+1,oA,oA,oA,by
     have e:((k+1:Nat):Int)+1=(k:Int)+1+1:=oA
     rw[e]at h;exact h⟩
 obtain⟨m,hm1,hm2,hm3,hm4⟩:=hmon 12 (wF _) (by
  have:=qyu y;have:=q8g y;have e:((12:Nat):Int)+1=13:=oA
  rw[e];omega)
 have:=qj6 y m hm1 hm2;exact⟨y,m,n+719162-dc y-e7 y m+1,⟨hy1,hy2,hm1,hm2,oA,oA⟩,by unfold cd;omega⟩
def zm9:cd 4000 12 31=741807:=oD
def zna:cd 1 1 1 = -719162:=oD
def q2z(y m d:Int)(h:f8 y m d) : -719162<=cd y m d/\cd y m d<=741807:=by
 have a:=qj7 y m d h;have b:=yq 1 y h.1;have c:=yq (y+1) 4001 (by have:=h.2.1;omega)
 have e1:dc 1=0:=oD
 have e2:dc 4001=1460970:=oD
 omega
def zmp(n:Int)(h1 : -719162<=n:=by omega)(h2:n<=741807:=by omega):f8 (oa n).1 (oa n).2.1 (oa n).2.2/\cd (oa n).1 (oa n).2.1 (oa n).2.2=n:=by
 obtain⟨y,m,d,h,e⟩:=zmn n h1 h2;rw[zmo h e];exact⟨h,e⟩
def qcn(n:Int):Int:=(n+4)%7
def zv6(n:Int):0<=qcn n/\qcn n<=6:=by unfold qcn;omega
end Go.Sym.Cal
namespace Go.Sym.Zn
open Go.Sym.Cal
def ml(y mo wd:Int):Int:=(wd-qcn (cd y mo 1)+7)%7
def ux(y mo wk wd:Int):Int:=if wk=5/\dim y mo<29+ml y mo wd then 22+ml y mo wd else 1+ml y mo wd+7*(wk-1)
def zfq(y mo wk wd mi ah:Int):Int:=cd y mo (ux y mo wk wd)*86400+60*(mi-ah)
def TOk(mo wk wd mi:Int):Prop:=1<=mo/\mo<=12/\1<=wk/\wk<=5/\0<=wd/\wd<=6/\0<=mi/\mi<=1439
instance(mo wk wd mi:Int):Decidable (TOk mo wk wd mi):=by unfold TOk;infer_instance
def zfv(y mo wd:Int):0<=ml y mo wd/\ml y mo wd<=6:=by unfold ml;omega
def zvb(y mo wk wd:Int)(h1:1<=wk)(h2:wk<=5):1<=ux y mo wk wd/\ux y mo wk wd<=dim y mo:=by
 have:=zfv y mo wd;have:=dim_bd y mo;unfold ux;split
 ·omega
 ·rename_i h;by_cases h5:wk=5
  ·subst h5;simp at h;omega
  ·omega
def znb(y m d:Int):cd y m d=cd y m 1+d-1:=by unfold cd;omega
def zk(y:Int):Int:=86400*(dc y-719162)
structure z57(B E:Int->Int)(std sm:Int):Prop where
 d1:std+1<=sm
 d2:sm<=std+180
 b1:∀y,zk y<=B y+60*std
 b2:∀y,B y+60*std+60<=zk (y+1)
 e1:∀y,zk y<=E y+60*sm
 e2:∀y,E y+60*sm+60<=zk (y+1)
 bs:∀y,B (y+1)=B y+364*86400\/B (y+1)=B y+371*86400
 es:∀y,E (y+1)=E y+364*86400\/E (y+1)=E y+371*86400
 be:∀y,zk (y+1)-86400<=B y+60*std->E y+60*sm+86400<=zk (y+1)
 eb:∀y,zk (y+1)-86400<=E y+60*sm->B y+60*std+86400<=zk (y+1)
section
variable{B E:Int->Int}{std sm:Int}
def q7e(B E:Int->Int)(lo hi t:Int):Prop:=∃y,lo<=y/\y<=hi/\B y<=t/\∀z,lo<=z->z<=hi->E z<=t->E z<B y
def Inv(B E:Int->Int)(t:Int)(S:Int->Prop)(best:Int)(out has:Bool):Prop:=
 (has=false->out=false/\∀y,S y->t<B y/\t<E y) /\
 (has=true->best<=t/\(∀y,S y->B y<=t->B y<=best)/\(∀y,S y->E y<=t->E y<=best) /\
  (out=true->(∃y,S y/\B y=best)/\∀y,S y->E y<=t->E y<best)/\(out=false->∃y,S y/\E y=best))
def Inv.start(t best:Int):Inv B E t (fun _=>False) best false false:=⟨fun _=>⟨rfl,fun _ h=>h.elim⟩,fun h=>by cases h⟩
def Inv.fin{t lo hi best:Int}{out has:Bool}(h:Inv B E t (fun y=>lo<=y/\y<=hi) best out has):out=true↔q7e B E lo hi t:=by
 constructor
 ·intro ho
  cases has with
  |false=>have:=(h.1 rfl).1;rw[this]at ho;cases ho
  |true=>
   obtain⟨h1,h2,h3,h4,_⟩:=h.2 rfl;obtain⟨⟨y,hy,rfl⟩,hE⟩:=h4 ho;exact⟨y,hy.1,hy.2,h1,fun z z1 z2 hz=>hE z ⟨z1,z2⟩ hz⟩
 ·rintro⟨y,y1,y2,hy,hz⟩
  cases has with
  |false=>have:=(h.1 rfl).2 y ⟨y1,y2⟩;omega|true=>
   obtain⟨h1,h2,h3,_,h5⟩:=h.2 rfl
   cases out with
   |true=>rfl|false=>
    obtain⟨z,hz',he⟩:=h5 rfl;have:=h2 y ⟨y1,y2⟩ hy;have:=hz z hz'.1 hz'.2 oA
    omega
def Inv.next{t k best best1 best2:Int}{S S':Int->Prop}{out has out1 has1 out2 has2:Bool}(h:Inv B E t S best out has)(hS:∀y,S' y↔S y\/y=k)
  (h1:(B k<=t/\(has=false\/best<B k)/\best1=B k/\out1=true/\has1=true)\/(¬(B k<=t/\(has=false\/best<B k))/\best1=best/\out1=out/\has1=has))
  (h2:(E k<=t/\(has1=false\/best1<=E k)/\best2=E k/\out2=false/\has2=true)\/(¬(E k<=t/\(has1=false\/best1<=E k))/\best2=best1/\out2=out1/\has2=has1)) :
  Inv B E t S' best2 out2 has2:=by
 obtain⟨hf,ht⟩:=h;have hk:S' k:=(hS k).2 (.inr rfl);have hsub:∀y,S y->S' y:=fun y hy=>(hS y).2 (.inl hy)
 rcases h1 with⟨a1,a2,rfl,rfl,rfl⟩|⟨a1,rfl,rfl,rfl⟩
 ·rcases h2 with⟨c1,c2,rfl,rfl,rfl⟩|⟨c1,rfl,rfl,rfl⟩
  ·refine⟨fun h=>(by cases h),fun _=>⟨c1,fun y hy hy2 => ?_,fun y hy hy2 => ?_,fun h=>(by cases h),fun _=>⟨k,hk,rfl⟩⟩⟩
   ·rcases (hS y).1 hy with q|rfl
    ·cases has with|false=>have:=(hf rfl).2 y q;omega|true=>have:=(ht rfl).2.1 y q hy2;simp at a2 c2;omega
    ·simp at c2;exact c2
   ·rcases (hS y).1 hy with q|rfl
    ·cases has with|false=>have:=(hf rfl).2 y q;omega|true=>have:=(ht rfl).2.2.1 y q hy2;simp at a2 c2;omega
    ·omega
  ·simp at c1;refine⟨fun h=>(by cases h),fun _=>⟨a1,fun y hy hy2 => ?_,fun y hy hy2 => ?_,fun _=>⟨⟨k,hk,rfl⟩,fun y hy hy2 => ?_⟩,fun h=>(by cases h)⟩⟩
   ·rcases (hS y).1 hy with q|rfl
    ·cases has with|false=>have:=(hf rfl).2 y q;omega|true=>have:=(ht rfl).2.1 y q hy2;simp at a2;omega
    ·omega
   ·rcases (hS y).1 hy with q|rfl
    ·cases has with|false=>have:=(hf rfl).2 y q;omega|true=>have:=(ht rfl).2.2.1 y q hy2;simp at a2;omega
    ·have:=c1 hy2;omega
   ·rcases (hS y).1 hy with q|rfl
    ·cases has with|false=>have:=(hf rfl).2 y q;omega|true=>have:=(ht rfl).2.2.1 y q hy2;simp at a2;omega
    ·exact c1 hy2
 ·rcases h2 with⟨c1,c2,rfl,rfl,rfl⟩|⟨c1,rfl,rfl,rfl⟩
  ·refine⟨fun h=>(by cases h),fun _=>⟨c1,fun y hy hy2 => ?_,fun y hy hy2 => ?_,fun h=>(by cases h),fun _=>⟨k,hk,rfl⟩⟩⟩
   ·rcases (hS y).1 hy with q|rfl
    ·cases has1 with|false=>have:=(hf rfl).2 y q;omega|true=>have:=(ht rfl).2.1 y q hy2;simp at c2;omega
    ·cases has1 with|false=>exact absurd ⟨hy2,.inl rfl⟩ a1|true=>simp at a1 c2;have:=a1 hy2;omega
   ·rcases (hS y).1 hy with q|rfl
    ·cases has1 with|false=>have:=(hf rfl).2 y q;omega|true=>have:=(ht rfl).2.2.1 y q hy2;simp at c2;omega
    ·omega
  ·cases has2 with
   |false=>
    simp at a1 c1;obtain⟨o,hn⟩:=hf rfl;refine⟨fun _=>⟨o,fun y hy => ?_⟩,fun h=>(by cases h)⟩
    rcases (hS y).1 hy with q|rfl
    ·exact hn y q
    ·exact⟨a1,c1⟩
   |true=>
    simp at a1 c1;obtain⟨g1,g2,g3,g4,g5⟩:=ht rfl;refine⟨fun h=>(by cases h),fun _=>⟨g1,fun y hy hy2 => ?_,fun y hy hy2 => ?_,fun ho => ?_,fun ho => ?_⟩⟩
    ·rcases (hS y).1 hy with q|rfl
     ·exact g2 y q hy2
     ·exact a1 hy2
    ·rcases (hS y).1 hy with q|rfl
     ·exact g3 y q hy2
     ·have:=c1 hy2;omega
    ·obtain⟨⟨y,hy,e⟩,hE⟩:=g4 ho;refine⟨⟨y,hsub y hy,e⟩,fun z hz hz2 => ?_⟩
     rcases (hS z).1 hz with q|rfl
     ·exact hE z q hz2
     ·exact c1 hz2
    ·obtain⟨y,hy,e⟩:=g5 ho;exact⟨y,hsub y hy,e⟩
end
end Go.Sym.Zn
namespace Go.Sym
open Cal Zn
abbrev gm:Type:=Int×Int
abbrev dp:Type:=Int×Int×Int×Int×Int×Int×Int
abbrev wa:Type:=Int×Int×Int×Int
abbrev cz:Type:=List UInt8×Int×Int×wa×wa
@[simp] def dates_within_eq(x a b:Int):qj x a b=some (decide (a<=x/\x<=b)):=by
 unfold qj;by_cases h:a<=x<;>simp[h]
@[simp] def zones_within_eq(x a b:Int):o7 x a b=some (decide (a<=x/\x<=b)):=by
 unfold o7;by_cases h:a<=x<;>simp[h]
@[simp] def zr1_in_eq(x a b:Int):mp x a b=some (decide (a<=x/\x<=b)):=by
 unfold mp;by_cases h:a<=x<;>simp[h]
def zp1(y:Int)(h:0<=y):qm5 y=some (uk y):=by
 unfold qm5 uk;rw[Int.tmod_eq_emod_of_nonneg h,Int.tmod_eq_emod_of_nonneg h,Int.tmod_eq_emod_of_nonneg h];cases h1:(y%4==0)<;>cases h2:(y%100 != 0)<;>simp
def zte(y:Int)(h:0<=y):qsx y=some (uk y):=by
 unfold qsx uk;rw[Int.tmod_eq_emod_of_nonneg h,Int.tmod_eq_emod_of_nonneg h,Int.tmod_eq_emod_of_nonneg h];cases h1:(y%4==0)<;>cases h2:(y%100 != 0)<;>simp
 all_goals (simp at h1;omega)
def zb7{y:Int}(h:uk y=true):lp y=1:=by unfold lp;rw[qX h]
def zb6{y:Int}(h:uk y=false):lp y=0:=by unfold lp;rw[qW (by rw[h];decide)]
def zcq(m:Int)(h1:1<=m)(h2:m<=12):ap ([31,28,31,30,31,30,31,31,30,31,30,31]:List Int) (af (m-1))=some (qbn m):=by
 rw[bw]
 rcases q0p m h1 h2 with h|h|h|h|h|h|h|h|h|h|h|h<;>subst h<;>rfl
def zbr(y m:Int)(hy:0<=y)(h1:1<=m)(h2:m<=12):qh6 y m=some (dim y m):=by
 unfold qh6;rw[zcq m h1 h2,qB];by_cases e:m=2
 ·subst e;rw[zp1 y hy];cases hl:uk y
  ·simp[dim,qbn,zb6 hl]
  ·simp[dim,qbn,zb7 hl];rfl
 ·have e':(m==2)=false:=by simp[e]
  simp[e,e',dim]
def ztf(y m:Int)(hy:0<=y)(h1:1<=m)(h2:m<=12):qsy y m=some (dim y m):=by
 unfold qsy;simp only[zef];rw[zcq m h1 h2];by_cases e:m=2
 ·subst e;rw[zte y hy];cases hl:uk y
  ·simp[dim,qbn,zb6 hl]
  ·simp[dim,zb7 hl]
 ·have e':(m==2)=false:=by simp[e]
  simp[e,e',dim]
def q8h(y:Int)(h1:1<=y:=by omega)(h2:y<=4001:=by omega):qh4 y=some (dc y):=by
 unfold qh4 dc;rw[bw (x:=y-1) oA oA]
 rw[Int.tdiv_eq_ediv_of_nonneg oA,Int.tdiv_eq_ediv_of_nonneg oA,Int.tdiv_eq_ediv_of_nonneg oA]
 simp (discharger:=omega) only [bw ?_ ?_]
def zm8(fu:Nat)(y m:Int)(hy1:1<=y)(hy2:y<=4001)(hm:m<=12):∀(n:Nat)(a k:Int),1<=k->k<=m->m-k<n -> -10000000<=a-e7 y k->a-e7 y k<=10000000 ->
  qh5 fu n y m a k=some (a+e7 y m-e7 y k):=by
 intro n
 induction n with
 |zero=>intro a k h1 h2 h3;omega|succ n ih=>
  intro a k h1 h2 h3 h4 h5;rw[qh5,quf];by_cases c:k<m
  ·have hc:=qj6 y k h1
   have hb:=qyv y k h1
   have hd:=dim_bd y k;rw[au (by simp[c]),zbr y k oA h1 oA,qB,bw,bw,
    ih _ _ oA oA oA oA oA]
   congr 1;omega
  ·have:k=m:=oA
   subst this;rw[ak];congr 1;omega
def qe6(fu:Nat)(hf:20<=fu)(y m d:Int)(hy1:1<=y:=by omega)(hy2:y<=4001:=by omega)(h1:1<=m:=by omega)(h2:m<=12:=by omega)(h3 : -1000<=d:=by omega)(h4:d<=1000:=by omega):tf fu y m d=some (cd y m d):=by
 unfold tf;have hb:=q8f y hy1 hy2;have hc:=q9e y;rw[q8h y hy1 hy2,qB,q8h 1970,qB,zln]
 simp (discharger:=omega) only [bw ?_ ?_];rw[zm8 fu y m hy1 hy2 h2 fu _ 1 oA h1 oA oA oA,hc]
 unfold cd;congr 1;omega
def ze6(x b:Int)(hb:0<b:=by omega)(hb2:b<=100000:=by omega)(h1 : -1000000000000<=x:=by omega)(h2:x<=1000000000000:=by omega):qh7 x b=some (x/b,x%b):=by
 unfold qh7;have hb0:decide (b≠0)=true:=decide_eq_true oA
 rw[au hb0,au hb0,au hb0];have e:Int.tmod (af (Int.tmod x b+b)) b=x%b:=by
  have a1:=Int.tmod_lt_of_pos x hb;have a2 : -b<Int.tmod x b:=by
   have:=Int.lt_tmod_of_pos x hb;omega
  rw[bw,Int.tmod_eq_emod_of_nonneg oA]
  rw[Int.add_emod_right];by_cases hx:0<=x
  ·rw[Int.tmod_eq_emod_of_nonneg hx,Int.emod_emod]
  ·rw[Int.tmod_def x b,Int.sub_mul_emod_self_left]
 rw[e];have m1:=Int.emod_nonneg x (show b≠0 by omega)
 have m2:=Int.emod_lt_of_pos x hb;have ed:=Int.mul_ediv_add_emod x b;have e3:x-x%b=b*(x/b):=oA
 rw[bw (x:=x-x%b) oA oA,e3,Int.mul_tdiv_cancel_left _ oA]
 have bd : -1000000000000<=x/b/\x/b<=1000000000000:=by
  constructor
  ·rw[Int.le_ediv_iff_mul_le hb];have : -1000000000000*b <= -1000000000000*1:=oA
   omega
  ·exact Int.le_trans (Int.ediv_le_ediv hb h2) (Int.ediv_le_self _ oA)
 rw[bw]
end Go.Sym
namespace Go.Sym
open Cal Zn
def zfj{x k:Int}(h:0<=x):Int.tdiv x k=x/k:=Int.tdiv_eq_ediv_of_nonneg h
def zfr{x k:Int}(h:0<=x:=by omega):Int.tmod x k=x%k:=Int.tmod_eq_emod_of_nonneg h
@[simp] def none_eq:ck=some ⟨0,0⟩:=rfl
@[simp] def fault_eq(a b:Int):ax a b=some ⟨a,b⟩:=rfl
@[simp] def qx4(a b:Int):qg a b=some ⟨a,b⟩:=rfl
@[simp] def zfailed_eq(f:gm):eh f=some (f.1 != 0):=rfl
@[simp] def time_eq(t:Int):vp t=some (decide (-68719476736<=t/\t<=68719476736)):=by
 unfold vp;by_cases h : -68719476736<=t<;>simp[h]
noncomputable def qyn(n s z:Int):dp:=⟨(oa n).1,(oa n).2.1,(oa n).2.2,s/3600,s/60%60,s%60,z⟩
def z5p{n y m d k:Int}(h:f8 y m d)(e:cd y m d=n):cd k 1 1<=n↔k<=y:=by
 have a:=qj7 y m d h;have:cd k 1 1=dc k-719162:=by unfold cd;rw[q9e];omega
 rw[this];constructor
 ·intro hk;by_cases c:k<=y
  ·exact c
  ·have:=yq (y+1) k;omega
 ·intro hk;have:=yq k y hk;omega
def zqo{n y m d k:Int}(h:f8 y m d)(e:cd y m d=n)(k1:1<=k)(k2:k<=12):cd y k 1<=n↔k<=m:=by
 have a:=qy0 y m d h;have:cd y k 1=dc y-719162+e7 y k:=by unfold cd;omega
 rw[this];constructor
 ·intro hk;by_cases c:k<=m
  ·exact c
  ·have:=qj5 y (m+1) k (by have:=h.2.2.1;omega);omega
 ·intro hk;have:=qj5 y k m k1 hk (by have:=h.2.2.2.1;omega);omega
def zmr(fu:Nat)(hf:20<=fu){N y m d:Int}(s z:Int)(m1:dp)(m2:gm)(h:f8 y m d)(e:cd y m d=N)(hs:0<=s)(hs2:s<86400):∀(n:Nat)(k:Int),m<=k->k<=12->k-m<n ->
  qh3 fu n z N s y k m1 m2=some ((y,m,d,s/3600,s/60%60,s%60,z),(0,0)):=by
 obtain⟨v1,v2,v3,v4,v5,v6⟩:=h;have hd:=dim_bd y m;have hN:=q2z y m d ⟨v1,v2,v3,v4,v5,v6⟩;intro n
 induction n with
 |zero=>intro k h1 h2 h3;omega|succ n ih=>
  intro k h1 h2 h3;rw[qh3,qud,qe6 fu hf y k 1 v1 oA oA h2,qB]
  have hl:=zqo (k:=k) ⟨v1,v2,v3,v4,v5,v6⟩ e oA h2
  by_cases c:k<=m
  ·have:k=m:=oA
   subst this;have:=znb y k d;have b:=day_bd y k 1 v1 oA v3 oA oA oA
   rw[ak (by simp;exact hl.2 c),none_eq]
   simp only[qB];simp (discharger:=omega) only [bw ?_ ?_,zfj,zfr ?_];have e1:N-cd y k 1+1=d:=oA
   rw[e1]
  ·rw[au (by simp;have:=mt hl.1 c;omega),bw,ih _ oA oA oA]
def zms(fu:Nat)(hf:20<=fu){N y m d:Int}(s z:Int)(m1:dp)(m2:gm)(h:f8 y m d)(e:cd y m d=N)(hs:0<=s)(hs2:s<86400):∀(j n:Nat)(k:Int),j<=12->1<=k->k<=y->y<k+2 ^ j->j<n ->
  qdl fu n z N s k ((2 ^ j/2:Nat):Int) m1 m2=some ((y,m,d,s/3600,s/60%60,s%60,z),(0,0)):=by
 have h':=h;obtain⟨v1,v2,v3,v4,v5,v6⟩:=h';intro j
 induction j with
 |zero=>
  intro n k hj h1 h2 h3 h4;obtain⟨n,rfl⟩:∃q,n=q+1:=⟨n-1,oA⟩
  have:k=y:=by simp at h3;omega
  subst this;rw[qdl,qm1,ak,zmr fu hf s z m1 m2 h e hs hs2 fu 12 v4 oA oA]
 |succ j ih=>
  intro n k hj h1 h2 h3 h4;obtain⟨n,rfl⟩:∃q,n=q+1:=⟨n-1,oA⟩
  have e2:(2 ^ (j+1)/2:Nat)=2 ^ j:=by rw[Nat.pow_succ];omega
  have e3:(2:Int) ^ (j+1)=2*((2 ^ j:Nat):Int):=by rw[Int.pow_succ];simp;omega
  rw[e3]at h3;have e4:((2:Int) ^ j)=((2 ^ j:Nat):Int):=oC
  have ih':=ih n;rw[e4]at ih';have p1:0<2 ^ j:=Nat.pow_pos oA
  have p2:2 ^ j<=2 ^ 11:=Nat.pow_le_pow_right oA oA
  have ed:((2 ^ j/2:Nat):Int)=((2 ^ j:Nat):Int)/2:=oA
  rw[e2];rw[ed]at ih';generalize 2 ^ j=P at *;rw[qdl,qm1,au oE]
  simp only[qm3,qm4];simp (discharger:=omega) only [bw ?_ ?_,zfj];by_cases c:k+(P:Int)<=4000
  ·rw[au (by simp;exact c),qe6 fu hf _ 1 1,qB]
   have hl:=z5p (k:=k+(P:Int)) h e;by_cases c2:k+(P:Int)<=y
   ·rw[au (by simp;exact hl.2 c2)]
    exact ih' _ oA oA c2 oA oA
   ·rw[ak (by simp;have:=mt hl.1 c2;omega)]
    exact ih' _ oA oA h2 oA oA
  ·rw[ak oE]
   exact ih' _ oA oA h2 oA oA
noncomputable def qst(t z:Int):dp×gm:=
 if ¬(-68719476736<=t/\t<=68719476736) then(⟨0,0,0,0,0,0,0⟩,⟨3,-2⟩) else
 if ¬(-900<=z/\z<=900) then(⟨0,0,0,0,0,0,0⟩,⟨3,-4⟩) else
 if(t+60*z)/86400 < -719162\/741807<(t+60*z)/86400 then(⟨0,0,0,0,0,0,0⟩,⟨3,-3⟩) else
 (qyn ((t+60*z)/86400) ((t+60*z)%86400) z,⟨0,0⟩)
def zmq(fu:Nat)(hf:20<=fu)(t z:Int):qh2 fu t z=some (qst t z):=by
 unfold qh2 qst;rw[time_eq,qB];by_cases c1 : -68719476736<=t/\t<=68719476736
 ·rw[ak oU,qW oU,dates_within_eq,qB]
  by_cases c2 : -900<=z/\z<=900
  ·rw[ak (by simp[c2]),qW (by simp[c2])]
   simp (discharger:=omega) only [bw ?_ ?_];rw[ze6 _ _,qB,qe6 fu hf 1 1 1,qB,zna]
   generalize hN:(t+60*z)/86400=N;generalize hS:(t+60*z)%86400=S;by_cases c3:N < -719162
   ·rw[au (by simp;exact c3),qX (.inl c3)];rfl
   ·rw[ak oE,qe6 fu hf 4000 12 31,qB,zm9]
    unfold qm2 que;by_cases c4:741807<N
    ·rw[au (by simp;exact c4),qX (.inr c4)];rfl
    ·rw[ak oE,qW oA]
     obtain⟨hv,he⟩:=zmp N
     have:=zms fu hf S z (0,0,0,0,0,0,0) (0,0) hv he oA oA 12 fu 1 oA oA hv.1 (by have:=hv.2.1;omega) oA
     exact this
  ·rw[au oE,qX c2];rfl
 ·rw[au oE,qX c1];rfl
def d7(d:dp):Prop:=f8 d.1 d.2.1 d.2.2.1/\0<=d.2.2.2.1/\d.2.2.2.1<=23/\0<=d.2.2.2.2.1/\d.2.2.2.2.1<=59/\0<=d.2.2.2.2.2.1/\d.2.2.2.2.2.1<=59 /\ -900<=d.2.2.2.2.2.2/\d.2.2.2.2.2.2<=900
instance(d:dp):Decidable (d7 d):=by unfold d7;infer_instance
def qzb(d:dp):qdm d=some (if d7 d then⟨0,0⟩ else⟨3,-3⟩):=by
 unfold qdm;simp only[dates_within_eq,qB,fault_eq,none_eq,jz,qbj];have key:∀(f:gm),(if d7 d then(⟨0,0⟩:gm) else⟨3,-3⟩)=f->(d7 d->f=⟨0,0⟩)/\(¬d7 d->f=⟨3,-3⟩):=fun f h=>⟨fun k=>by rw[← h,qX k],fun k=>by rw[← h,qW k]⟩
 generalize hf:(if d7 d then(⟨0,0⟩:gm) else⟨3,-3⟩)=f
 obtain⟨k1,k2⟩:=key f hf;clear key hf;unfold d7 f8 at k1 k2;by_cases c1:1<=d.1/\d.1<=4000
 ·rw[qX c1];by_cases c2:1<=d.2.1/\d.2.1<=12
  ·have e:(if(12:Int)<(if(1:Int)>d.2.1 then 1 else d.2.1) then 12 else if(1:Int)>d.2.1 then 1 else d.2.1)=d.2.1:=by
    rw[qW (show ¬((1:Int)>d.2.1) by omega),qW oA]
   rw[qX c2,e,zbr _ _ oA c2.1 c2.2,qB]
   clear e
   repeat' split
   all_goals first|(rw[k1 oA])|(rw[k2 oA])
  ·rw[qW c2,k2 oA]
 ·rw[qW c1,k2 oA]
def zni(d:dp):qsu d=some (if d7 d then⟨0,0⟩ else⟨3,-3⟩):=by
 unfold qsu;simp only[zr1_in_eq,qB,qx4,qbj];have key:∀(f:gm),(if d7 d then(⟨0,0⟩:gm) else⟨3,-3⟩)=f->(d7 d->f=⟨0,0⟩)/\(¬d7 d->f=⟨3,-3⟩):=fun f h=>⟨fun k=>by rw[← h,qX k],fun k=>by rw[← h,qW k]⟩
 generalize hf:(if d7 d then(⟨0,0⟩:gm) else⟨3,-3⟩)=f
 obtain⟨k1,k2⟩:=key f hf;clear key hf;unfold d7 f8 at k1 k2;by_cases c1:1<=d.1/\d.1<=4000
 ·rw[qX c1];by_cases c2:1<=d.2.1/\d.2.1<=12
  ·rw[qX c2,ztf _ _ oA c2.1 c2.2,qB]
   repeat' split
   all_goals first|(rw[k1 oA])|(rw[k2 oA])
  ·rw[qW c2,k2 oA]
 ·rw[qW c1,k2 oA]
def oe(d:dp):Int:=cd d.1 d.2.1 d.2.2.1*86400+d.2.2.2.1*3600+(d.2.2.2.2.1-d.2.2.2.2.2.2)*60+d.2.2.2.2.2.1
def qyz{d:dp}(h:d7 d) : -719162<=cd d.1 d.2.1 d.2.2.1/\cd d.1 d.2.1 d.2.2.1<=741807:=q2z _ _ _ h.1
def zv7(fu:Nat)(hf:20<=fu)(d:dp)(h:d7 d):qdn fu d=some (qcn (cd d.1 d.2.1 d.2.2.1),⟨0,0⟩):=by
 unfold qdn;have hb:=qyz h;have hd:=dim_bd d.1 d.2.1;obtain⟨⟨v1,v2,v3,v4,v5,v6⟩,_⟩:=id h;rw[qzb,qX h,qB,zfailed_eq,qB,ak,qe6 fu hf _ _ _ v1 oA v3 v4,qB,bw,
  ze6 _ _]
 rfl
def za8(fu:Nat)(hf:20<=fu)(d:dp):qav fu d=some (if d7 d then(oe d,⟨0,0⟩) else(0,⟨3,-3⟩)):=by
 unfold qav;rw[qzb,qB,zfailed_eq,qB];by_cases h:d7 d
 ·have hb:=qyz h;have hd:=dim_bd d.1 d.2.1;obtain⟨⟨v1,v2,v3,v4,v5,v6⟩,v7,v8,v9,v10,v11,v12,v13,v14⟩:=id h;rw[qX h,qX h,ak,qe6 fu hf _ _ _ v1 oA v3 v4,qB,none_eq,qB]
  simp (discharger:=omega) only [bw ?_ ?_];rfl
 ·rw[qW h,qW h];rfl
def jw(u:wa):Prop:=TOk u.1 u.2.1 u.2.2.1 u.2.2.2
instance(u:wa):Decidable (jw u):=by unfold jw;infer_instance
def qga(u:wa)(y ah:Int):Int:=zfq y u.1 u.2.1 u.2.2.1 u.2.2.2 ah
def qpy{y m d:Int}(h:f8 y m d):d7 ⟨y,m,d,0,0,0,0⟩:=by refine⟨h,?_,?_,?_,?_,?_,?_,?_,?_⟩<;>simp
def znq{y m d:Int}:d7 ⟨y,m,d,0,0,0,0⟩↔f8 y m d:=⟨fun h=>h.1,qpy⟩
def zpe(y m d:Int):oe ⟨y,m,d,0,0,0,0⟩=cd y m d*86400:=by simp[oe]
def qzy(fu:Nat)(hf:20<=fu){y m d:Int}(h:f8 y m d)(mi ah:Int)(h1 : -10000<=mi)(h2:mi<=10000)(h3 : -10000<=ah)(h4:ah<=10000) :
  ((qav fu ⟨y,m,d,0,0,0,0⟩).bind fun x=>some (af (x.1+(af (60*(af (mi-ah)))))))=some (cd y m d*86400+60*(mi-ah)):=by
 have hb:=q2z _ _ _ h;rw[za8 fu hf,qX (qpy h),qB,zpe];simp (discharger:=omega) only [bw ?_ ?_]
def zit(fu:Nat)(hf:20<=fu)(u:wa)(hu:jw u)(y ah:Int)(hy1:1<=y)(hy2:y<=4000)(h3 : -10000<=ah:=by omega)(h4:ah<=10000:=by omega) :
  qjc fu u y ah=some (qga u y ah):=by
 obtain⟨u1,u2,u3,u4,u5,u6,u7,u8⟩:=hu;have hd:=dim_bd y u.1;have htd:=zvb y u.1 u.2.1 u.2.2.1 u3 u4;have hx:=zfv y u.1 u.2.2.1;unfold qjc;have h1:f8 y u.1 1:=⟨hy1,hy2,u1,u2,oA,oA⟩
 rw[zv7 fu hf _ (qpy h1),qB];have hw:=zv6 (cd y u.1 1);have e:(af ((af (1+(Int.tmod (af ((af (u.2.2.1-qcn (cd y u.1 1)))+7)) (7:Int))))+(af (7*(af (u.2.1-1))))))=1+ml y u.1 u.2.2.1+7*(u.2.1-1):=by
  unfold ml;generalize qcn (cd y u.1 1)=w at *;rw[bw (x:=u.2.2.1-w) oA oA,bw (x:=u.2.2.1-w+7) oA oA,zfr]
  simp (discharger:=omega) only [bw ?_ ?_]
 simp only[e];unfold qoe;unfold qga zfq;by_cases c:u.2.1=5
 ·rw[au (by simp[c]),qzb,qB,zfailed_eq,qB]
  by_cases c2:dim y u.1<29+ml y u.1 u.2.2.1
  ·have et:ux y u.1 u.2.1 u.2.2.1=22+ml y u.1 u.2.2.1:=by unfold ux;rw[qX ⟨c,c2⟩]
   rw[qW (by rw[znq];intro hv;have:=hv.2.2.2.2.2;omega),au]
   unfold qof;rw[bw (x:=1+ml y u.1 u.2.2.1+7*(u.2.1-1)-7) oA oA,
    show 1+ml y u.1 u.2.2.1+7*(u.2.1-1)-7=22+ml y u.1 u.2.2.1 by omega,← et]
   exact qzy fu hf ⟨hy1,hy2,u1,u2,htd.1,htd.2⟩ _ _ oA oA h3 h4
  ·have et:ux y u.1 u.2.1 u.2.2.1=1+ml y u.1 u.2.2.1+7*(u.2.1-1):=by unfold ux;rw[qW (fun h=>c2 h.2)]
   rw[← et];rw[qX (qpy ⟨hy1,hy2,u1,u2,htd.1,htd.2⟩),ak]
   exact qzy fu hf ⟨hy1,hy2,u1,u2,htd.1,htd.2⟩ _ _ oA oA h3 h4
 ·have et:ux y u.1 u.2.1 u.2.2.1=1+ml y u.1 u.2.2.1+7*(u.2.1-1):=by unfold ux;rw[qW (fun h=>c h.1)]
  rw[ak (by simp[c]),← et]
  exact qzy fu hf ⟨hy1,hy2,u1,u2,htd.1,htd.2⟩ _ _ oA oA h3 h4
def ng(z:cz):Prop:=z.2.2.2.1.1=0/\z.2.2.2.1.2.1=0/\z.2.2.2.1.2.2.1=0/\z.2.2.2.1.2.2.2=0
instance(z:cz):Decidable (ng z):=by unfold ng;infer_instance
@[simp] def fixed_eq(z:cz):qef z=some (decide (ng z)):=by
 unfold qef;congr 1;rw[Bool.eq_iff_iff,decide_eq_true_iff];simp[ng]
structure ZT(z:cz):Prop where
 s1 : -900<=z.2.1
 s2:z.2.1<=900
 m1 : -900<=z.2.2.1
 m2:z.2.2.1<=900
 d1:z.2.1+1<=z.2.2.1
 d2:z.2.2.1<=z.2.1+180
 b:jw z.2.2.2.1
 e:jw z.2.2.2.2
 ne:z.2.2.2.1.1≠z.2.2.2.2.1
def Bz(z:cz)(y:Int):Int:=qga z.2.2.2.1 y z.2.1
def Ez(z:cz)(y:Int):Int:=qga z.2.2.2.2 y z.2.2.1
def sel(z:cz)(o:Bool):Int:=bif o then z.2.2.1 else z.2.1
def q06(r0:Int->Int->Int->Int->Bool->Int->cz->Option Int)(fu:Nat)(hf:20<=fu)(z:cz)(h:ZT z)(t Y best k:Int)(o has:Bool)(S S':Int->Prop)
  (hk1:1<=k) (hk2:k<=4000) (hY:k<=Y+1) (hY2:Y<=4000) (hI:Zn.Inv (Bz z) (Ez z) t S best o has) (hS:∀y,S' y↔S y\/y=k) :
  ∃best' o' has',Zn.Inv (Bz z) (Ez z) t S' best' o' has'/\qjd fu r0 t Y best (sel z o) has k z=r0 t Y best' (sel z o') has' (k+1) z:=by
 have s1:=h.s1;have s2:=h.s2;have m1:=h.m1;have m2:=h.m2;unfold qjd;rw[bw (x:=Y+1) oA oA,au (by simp;exact hY)]
 rw[zit fu hf _ h.b k _ hk1 hk2,qB]
 unfold qje qog;rw[zit fu hf _ h.e k _ hk1 hk2]
 simp only[qB];rw[bw (x:=k+1) oA oA]
 have nx:=fun b1 b2 o1 h1 o2 h2=>Zn.Inv.next (best1:=b1) (best2:=b2) (out1:=o1) (has1:=h1) (out2:=o2) (has2:=h2) hI hS
 have eB:qga z.2.2.2.1 k z.2.1=Bz z k:=rfl;have eE:qga z.2.2.2.2 k z.2.2.1=Ez z k:=rfl;rw[eB,eE];generalize Bz z k=B at *;generalize Ez z k=E at *;have sT:z.2.2.1=sel z true:=rfl;have sF:z.2.1=sel z false:=rfl;have fin:∀b1 o1 h1,((B<=t/\(has=false\/best<B)/\b1=B/\o1=true/\h1=true)\/(¬(B<=t/\(has=false\/best<B))/\b1=best/\o1=o/\h1=has)) ->
   ∃best' o' has',Zn.Inv (Bz z) (Ez z) t S' best' o' has' /\
    (bif decide (E<=t) then bif !h1 then r0 t Y E z.2.1 true (k+1) z else bif decide (b1<=E) then r0 t Y E z.2.1 true (k+1) z else r0 t Y b1 (sel z o1) h1 (k+1) z else r0 t Y b1 (sel z o1) h1 (k+1) z)=r0 t Y best' (sel z o') has' (k+1) z:=by
  intro b1 o1 h1 hh;by_cases c:E<=t/\(h1=false\/b1<=E)
  ·refine⟨E,false,true,nx b1 E o1 h1 false true hh (.inl ⟨c.1,c.2,rfl,rfl,rfl⟩),?_⟩;rw[au (by simp;exact c.1)]
   cases h1 with|false=>rw[au];rfl|true=>rw[ak,au (by simp;exact c.2.resolve_left oC)];rfl
  ·refine⟨b1,o1,h1,nx b1 b1 o1 h1 o1 h1 hh (.inr ⟨c,rfl,rfl,rfl⟩),?_⟩;by_cases c1:E<=t
   ·rw[au (by simp;exact c1)]
    cases h1 with|false=>exact absurd ⟨c1,.inl rfl⟩ c|true=>rw[ak,ak (by simp;have:¬b1<=E:=fun q=>c ⟨c1,.inr q⟩;omega)]
   ·rw[ak oE]
 clear nx;by_cases c1:B<=t
 ·by_cases c2:has=false\/best<B
  ·obtain⟨b',o',h',hi,he⟩:=fin B true true (.inl ⟨c1,c2,rfl,rfl,rfl⟩);refine⟨b',o',h',hi,?_⟩;rw[← he,au (by simp;exact c1)]
   cases has with
   |false=>rfl|true=>
    simp at c2;rw[ak,au (by simp;exact c2)];rfl
  ·obtain⟨b',o',h',hi,he⟩:=fin best o has (.inr ⟨fun q=>c2 q.2,rfl,rfl,rfl⟩)
   refine⟨b',o',h',hi,?_⟩;rw[← he,au (by simp;exact c1)]
   cases has with
   |false=>simp at c2|true=>
    simp at c2;rw[ak,ak (by simp;exact c2)]
 ·obtain⟨b',o',h',hi,he⟩:=fin best o has (.inr ⟨fun q=>c1 q.1,rfl,rfl,rfl⟩)
  refine⟨b',o',h',hi,?_⟩;rw[← he,ak oE];rfl
open Classical in
noncomputable def qld(z:cz)(lo hi t:Int):Int:=if q7e (Bz z) (Ez z) lo hi t then z.2.2.1 else z.2.1
def zt9{z:cz}{lo hi t best:Int}{o has:Bool}(h:Zn.Inv (Bz z) (Ez z) t (fun y=>lo<=y/\y<=hi) best o has):sel z o=qld z lo hi t:=by
 have:=h.fin;unfold sel qld
 cases o with|true=>rw[qX (this.1 rfl)];rfl|false=>rw[qW (fun q=>by have:=this.2 q;cases this)];rfl
def z54(fu:Nat)(hf:20<=fu)(z:cz)(h:ZT z)(t Y:Int)(h1:2<=Y)(h2:Y<=3999):qeg fu z t Y=some (qld z (Y-1) (Y+1) t):=by
 unfold qeg;have hnf:¬ng z:=fun q=>by have:=h.b.1;have:=q.1;omega
 rw[fixed_eq,qB,ak (by simp[hnf]),bw]
 obtain⟨n,rfl⟩:∃n,fu=n+1+1+1+1:=⟨fu-4,oA⟩
 generalize hfu:n+1+1+1+1=fu at hf;have q:ql fu (n+1+1+1+1) t Y 0 z.2.1 false (Y-1) z=some (qld z (Y-1) (Y+1) t):=by
  obtain⟨b1,o1,a1,i1,e1⟩:=q06 (ql fu (n+1+1+1)) fu hf z h t Y 0 (Y-1) false false _ (fun y=>y=Y-1) oA oA oA oA (Zn.Inv.start t 0) (fun y=>oC)
  rw[ql];refine Eq.trans e1 ?_;obtain⟨b2,o2,a2,i2,e2⟩:=q06 (ql fu (n+1+1)) fu hf z h t Y b1 (Y-1+1) o1 a1 _ (fun y=>Y-1<=y/\y<=Y) oA oA oA oA i1 (fun y=>oA)
  rw[ql];refine Eq.trans e2 ?_;obtain⟨b3,o3,a3,i3,e3⟩:=q06 (ql fu (n+1)) fu hf z h t Y b2 (Y-1+1+1) o2 a2 _ (fun y=>Y-1<=y/\y<=Y+1) oA oA oA oA i2 (fun y=>oA)
  rw[ql];refine Eq.trans e3 ?_;rw[ql,qjd,bw (x:=Y+1) oA oA,ak oE,zt9 i3]
 rw[hfu]at q;exact q
def chB(c:UInt8):Bool:=(decide (97<=c.toNat)&&decide (c.toNat<=122))||(decide (65<=c.toNat)&&decide (c.toNat<=90))||(decide (48<=c.toNat)&&decide (c.toNat<=57))||c.toNat==45||c.toNat==95||c.toNat==46
def zvk{p:UInt8->Prop}(h:∀n:_root_.Fin 256,p (UInt8.ofFin n))(c:UInt8):p c:=by
 have:=h c.toFin
 rwa [UInt8.ofFin_toFin]at this
def z50(c:UInt8):qtx c=some (chB c):=by
 revert c;exact zvk (by decide +kernel)
def oo(s:List UInt8):Bool:=decide (1<=s.length)&&decide (s.length<=60)&&s.all chB
def zko(fu:Nat)(s:List UInt8)(hs:(s.length:Int)<9223372036854775808):∀(n:Nat)(k:Nat),k<=s.length->s.length-k<n ->
  qhu fu n s s.length k=some ((s.drop k).all chB):=by
 intro n
 induction n with
 |zero=>intro k h1 h2;omega|succ n ih=>
  intro k h1 h2;rw[qhu,qts];by_cases c:k<s.length
  ·have hi:ap s (k:Int)=some s[k]:=by unfold ap;rw[qX];simp[c]
   rw[au (by simp;exact c),hi,qB,z50,qB,List.drop_eq_getElem_cons c,List.all_cons]
   cases hc:chB s[k]
   ·rfl
   ·rw[ak,bw]
    have:=ih (k+1) oA oA
    rw[Int.natCast_add]at this;exact this
  ·rw[ak oE,List.drop_eq_nil_of_le oA];rfl
def zqp(fu:Nat)(s:List UInt8)(hs:(s.length:Int)<9223372036854775808)(hf:s.length<fu):qmw fu s=some (oo s):=by
 unfold qmw oo
 cases s with
 |nil=>rfl|cons a l=>
  rw[au]
  by_cases c:((a::l).length:Int)<=60
  ·rw[au (by simp only[decide_eq_true_iff];exact c)]
   unfold qtr;have:=zko fu (a::l) hs fu 0 oA oA
   rw[show((0:Nat):Int)=0 from rfl]at this
   rw[this,qB];have c':(a::l).length<=60:=oA
   simp only[List.drop_zero];rw[show decide (1<=(a::l).length)=true by simp,decide_eq_true c'];rfl
  ·rw[ak (by simp only[decide_eq_false_iff_not];exact c)]
   have c':¬(a::l).length<=60:=oA
   rw[decide_eq_false c'];simp
@[simp] def turn_eq(u:wa):qa9 u=some (decide (jw u)):=by
 unfold qa9;simp only[zones_within_eq,qB,jz];have key:∀b:Bool,decide (jw u)=b->(jw u->b=true)/\(¬jw u->b=false):=fun b h=>⟨fun k=>by rw[← h,decide_eq_true k],fun k=>by rw[← h,decide_eq_false k]⟩
 generalize hb:decide (jw u)=b;obtain⟨k1,k2⟩:=key b hb;clear key hb;unfold jw TOk at k1 k2
 repeat' split
 all_goals first|(rw[k2 oA])|skip
 congr 1;rw[Bool.eq_iff_iff,decide_eq_true_iff];constructor
 ·intro q;exact k1 oA
 ·intro q;by_cases c:0<=u.2.2.2/\u.2.2.2<=1439
  ·exact c
  ·have:=k2 oA;rw[this]at q;cases q
@[simp] def rturn_eq(u:wa):qs1 u=some (decide (jw u)):=by
 have e:qs1 u=qa9 u:=by unfold qs1 qa9;simp only[zr1_in_eq,zones_within_eq]
 rw[e,turn_eq]
def qfd(z:cz):Prop:=z.2.2.2.2.1=0/\z.2.2.2.2.2.1=0/\z.2.2.2.2.2.2.1=0/\z.2.2.2.2.2.2.2=0
instance(z:cz):Decidable (qfd z):=by unfold qfd;infer_instance
def z5t(u:wa):((u.1==(0:Int))&&((u.2.1==(0:Int))&&((u.2.2.1==(0:Int))&&((u.2.2.2==(0:Int))&&true))))=decide (u.1=0/\u.2.1=0/\u.2.2.1=0/\u.2.2.2=0):=by
 rw[Bool.eq_iff_iff,decide_eq_true_iff];simp
def mj(z:cz):gm:=
 if oo z.1=false then⟨10,-3⟩ else if ¬(-900<=z.2.1/\z.2.1<=900) then⟨3,-4⟩ else
 if ng z then(if z.2.2.1≠0 then⟨5,-5⟩ else if ¬qfd z then⟨5,-5⟩ else⟨0,0⟩) else
 if ¬(-900<=z.2.2.1/\z.2.2.1<=900) then⟨3,-5⟩ else if ¬(z.2.1+1<=z.2.2.1/\z.2.2.1<=z.2.1+180) then⟨3,-5⟩ else
 if ¬jw z.2.2.2.1 then⟨3,-6⟩ else if ¬jw z.2.2.2.2 then⟨3,-7⟩ else if z.2.2.2.1.1=z.2.2.2.2.1 then⟨5,-7⟩ else⟨0,0⟩
def q44(fu:Nat)(z:cz)(hs:(z.1.length:Int)<9223372036854775808)(hf:z.1.length<fu):qa8 fu z=some (mj z):=by
 unfold qa8 mj;rw[zqp fu _ hs hf];by_cases hn:oo z.1=false
 ·rw[qX hn,qB,au (by rw[hn];rfl)];rfl
 ·rw[qW hn,qB,ak (by simp at hn;rw[hn];rfl),zones_within_eq,qB]
  by_cases c1 : -900<=z.2.1/\z.2.1<=900
  ·rw[ak oU,qW oU]
   rw[bw (x:=z.2.1+1) oA oA,bw (x:=z.2.1+180) oA oA,z5t]
   rw[show decide (z.2.2.2.2.1=0/\z.2.2.2.2.2.1=0/\z.2.2.2.2.2.2.1=0/\z.2.2.2.2.2.2.2=0)=decide (qfd z) from rfl]
   simp only[qoc,qod,qwn,qT,fixed_eq,qB,fault_eq,none_eq,zones_within_eq,turn_eq,qbj,jz,ia,qpd]
   repeat' split
   all_goals first|rfl|contradiction|simp_all
  ·rw[au oE,qX c1];rfl
def zok(z:cz)(h:(mj z).1=0):mj z=⟨0,0⟩ /\ -900<=z.2.1/\z.2.1<=900/\(ng z\/ZT z):=by
 unfold mj at h ⊢;by_cases hn:oo z.1=false
 ·rw[qX hn]at h;simp at h
 rw[qW hn]at h ⊢;by_cases c1:¬(-900<=z.2.1/\z.2.1<=900)
 ·rw[qX c1]at h;simp at h
 rw[qW c1]at h ⊢;have c1' : -900<=z.2.1/\z.2.1<=900:=oA
 by_cases c2:ng z
 ·rw[qX c2]at h ⊢;by_cases c3:z.2.2.1≠0
  ·rw[qX c3]at h;simp at h
  rw[qW c3]at h ⊢;by_cases c4:¬qfd z
  ·rw[qX c4]at h;simp at h
  rw[qW c4];exact⟨rfl,c1'.1,c1'.2,.inl c2⟩
 rw[qW c2]at h ⊢;by_cases c3:¬(-900<=z.2.2.1/\z.2.2.1<=900)
 ·rw[qX c3]at h;simp at h
 rw[qW c3]at h ⊢;by_cases c4:¬(z.2.1+1<=z.2.2.1/\z.2.2.1<=z.2.1+180)
 ·rw[qX c4]at h;simp at h
 rw[qW c4]at h ⊢;by_cases c5:¬jw z.2.2.2.1
 ·rw[qX c5]at h;simp at h
 rw[qW c5]at h ⊢;by_cases c6:¬jw z.2.2.2.2
 ·rw[qX c6]at h;simp at h
 rw[qW c6]at h ⊢;by_cases c7:z.2.2.2.1.1=z.2.2.2.2.1
 ·rw[qX c7]at h;simp at h
 rw[qW c7];exact⟨rfl,c1'.1,c1'.2,.inr ⟨c1'.1,c1'.2,oA,oA,oA,oA,Classical.not_not.1 c5,Classical.not_not.1 c6,c7⟩⟩
noncomputable def q05(z:cz)(Y t:Int):Int:=if ng z then z.2.1 else qld z (Y-1) (Y+1) t
noncomputable def qe3(z:cz)(t:Int):Int:=(oa ((t+60*z.2.1)/86400)).1
def qfm(z:cz)(t:Int):Prop := -719162<=(t+60*z.2.1)/86400/\(t+60*z.2.1)/86400<=741807
instance(z:cz)(t:Int):Decidable (qfm z t):=by unfold qfm;infer_instance
noncomputable def q61(z:cz)(t:Int):Int×gm:=
 if ¬(-68719476736<=t/\t<=68719476736) then(0,⟨3,-2⟩) else
 if ¬qfm z t then(0,⟨3,-8⟩) else if ¬(2<=qe3 z t/\qe3 z t<=3999) then(0,⟨3,-8⟩) else(q05 z (qe3 z t) t,⟨0,0⟩)
noncomputable def qei(z:cz)(t:Int):Int×gm:=if(mj z).1≠0 then(0,mj z) else q61 z t
def z52(fu:Nat)(hf:20<=fu)(z:cz)(h:ng z\/ZT z)(t Y:Int)(h1:2<=Y)(h2:Y<=3999):qeg fu z t Y=some (q05 z Y t):=by
 unfold q05;by_cases c:ng z
 ·rw[qX c];unfold qeg;rw[fixed_eq,qB,au (by simp[c])]
 ·rw[qW c];exact z54 fu hf z (h.resolve_left c) t Y h1 h2
def z5s(fu:Nat)(hf:20<=fu)(z:cz)(hs:(z.1.length:Int)<9223372036854775808)(hf2:z.1.length<fu)(t:Int):qob fu z t=some (qei z t):=by
 unfold qob qei;rw[q44 fu z hs hf2,qB,zfailed_eq,qB,ia];by_cases c:(mj z).1≠0
 ·rw[qX c,qX c]
 ·rw[qW c,qW c];obtain⟨e,s1,s2,hz⟩:=zok z (Classical.not_not.1 c);unfold q61;rw[time_eq,qB];by_cases c1 : -68719476736<=t/\t<=68719476736
  ·rw[ak oU,qW (fun q=>q c1),zmq fu hf,qB]
   unfold qst;rw[qW (fun q=>q c1),qW (fun q=>q ⟨s1,s2⟩)]
   by_cases c2:qfm z t
   ·rw[qW (by unfold qfm at c2;omega),qW (fun q=>q c2),zfailed_eq,qB,ak,zones_within_eq,qB]
    have ey:(qyn ((t+60*z.2.1)/86400) ((t+60*z.2.1)%86400) z.2.1).1=qe3 z t:=rfl;simp only[ey];by_cases c3:2<=qe3 z t/\qe3 z t<=3999
    ·rw[ak (by simp[c3]),qW (fun q=>q c3),z52 fu hf z hz _ _ c3.1 c3.2];rfl
    ·rw[au oE,qX c3];rfl
   ·rw[qX (by unfold qfm at c2;omega),qX c2];rfl
  ·rw[au oE,qX c1];rfl
open Classical in
noncomputable def pick(z:cz)(L o:Int):List Int:=if(qei z (L-60*o)).2.1=0/\(qei z (L-60*o)).1=o then[L-60*o] else[]
def zdi(z:cz)(L o:Int):(pick z L o).length<=1:=by unfold pick;split<;>simp
def qzx(r1:Int->Int->Int->cz->gm->List Int->List Int->Option (gm×List Int))(fu:Nat)(hf:20<=fu)(z:cz)(hs:(z.1.length:Int)<9223372036854775808)(hf2:z.1.length<fu)
  (L len i o:Int) (f:gm) (acc offs:List Int) (hi:i<len) (hx:ap offs i=some o) (hi0 : -10<=i) (hi1:i<=10) (hL1 : -1000000000000<=L) (hL2:L<=1000000000000) (ho1 : -10000<=o) (ho2:o<=10000) (hl:acc.length<=10) :
  qee fu r1 L len i z f offs acc=r1 L len (i+1) z f offs (acc++pick z L o):=by
 rw[qee,au (by simp;exact hi),zef,hx,qB,bw (x:=60*o) oA oA,bw (x:=L-60*o) oA oA,bw (x:=i+1) oA oA,z5s fu hf z hs hf2,qB,zfailed_eq,qB]
 unfold pick;by_cases c1:(qei z (L-60*o)).2.1=0
 ·rw[au oU]
  by_cases c2:(qei z (L-60*o)).1=o
  ·rw[au (by simp[c2]),au oK,qX ⟨c1,c2⟩]
  ·rw[ak (by simp[c2]),qW (fun q=>c2 q.2),List.append_nil]
 ·rw[ak oU,qW (fun q=>c1 q.1),List.append_nil]
noncomputable def qle(z:cz)(L:Int):List Int:=pick z L z.2.1++(if ng z then[] else pick z L z.2.2.1)
noncomputable def qeh(z:cz)(d:dp):gm×List Int:=
 if(mj z).1≠0 then(mj z,[]) else if ¬d7 d then((3,-3),[]) else if d.2.2.2.2.2.2≠0 then((5,-9),[]) else if ¬(3<=d.1/\d.1<=3998) then((3,-9),[]) else((0,0),jj (qle z (oe d)))
def zpd{d:dp}(h:d7 d) : -100000000000<=oe d/\oe d<=100000000000:=by
 have:=qyz h;obtain⟨_,_,_,_,_,_,_,_,_⟩:=h;unfold oe;omega
def z5r(fu:Nat)(hf:20<=fu)(z:cz)(hs:(z.1.length:Int)<9223372036854775808)(hf2:z.1.length<fu)(d:dp):qed fu z d=some (qeh z d):=by
 unfold qed qeh;rw[q44 fu z hs hf2,qB,zfailed_eq,qB,ia];by_cases c:(mj z).1≠0
 ·rw[qX c,qX c]
 rw[qW c,qW c,za8 fu hf,qB];obtain⟨e,s1,s2,hz⟩:=zok z (Classical.not_not.1 c);by_cases c1:¬d7 d
 ·rw[qW c1,qX c1,zfailed_eq,qB,au]
 replace c1:=Classical.not_not.1 c1;rw[qX c1,qW (c:=¬d7 d) (fun q=>q c1),zfailed_eq,qB,ak,ia]
 have hb:=zpd c1;by_cases c2:d.2.2.2.2.2.2≠0
 ·rw[qX c2,qX c2];rfl
 rw[qW c2,qW c2,zones_within_eq,qB,qbj];by_cases c3:¬(3<=d.1/\d.1<=3998)
 ·rw[qW c3,qX c3];rfl
 replace c3:=Classical.not_not.1 c3;rw[qX c3,qW (c:=¬(3<=d.1/\d.1<=3998)) (fun q=>q c3),fixed_eq,qB,qbj]
 obtain⟨n,hn⟩:∃n,fu=n+1+1+1:=⟨fu-3,oA⟩
 have l1:=zdi z (oe d) z.2.1;have l2:=zdi z (oe d) z.2.2.1;have sortp:∀l:List Int,l.length<=10->vv l=some (jj l):=by
  intro l hl;unfold vv;rw[au (decide_eq_true (by unfold aw;omega))]
 unfold qoa;by_cases c4:ng z
 ·rw[qX c4];have q:ti fu (n+1+1+1) (oe d) (List.length ([z.2.1]:List Int):Int) 0 z (0,0) [z.2.1] []=some ((0,0),jj (qle z (oe d))):=by
   rw[ti,qzx _ fu hf z hs hf2 _ _ _ z.2.1 _ _ _ oC rfl oA oA oA oA oA oA oC]
   rw[ti,qee,ak,sortp _ oE,none_eq]
   simp[qle,c4]
  rw[← hn]at q;exact q
 ·rw[qW c4];have hz':=hz.resolve_left c4;have m1:=hz'.m1;have m2:=hz'.m2;rw[au (by simp[aw])]
  have q:ti fu (n+1+1+1) (oe d) (List.length (([z.2.1]:List Int)++[z.2.2.1]):Int) 0 z (0,0) ([z.2.1]++[z.2.2.1]) []=some ((0,0),jj (qle z (oe d))):=by
   rw[ti,qzx _ fu hf z hs hf2 _ _ _ z.2.1 _ _ _ oC rfl oA oA oA oA oA oA oC]
   rw[ti,qzx _ fu hf z hs hf2 _ _ _ z.2.2.1 _ _ _ oC rfl oA oA oA oA oA oA oE]
   rw[ti,qee,ak,sortp _ oE,none_eq]
   simp[qle,c4]
  rw[← hn]at q;exact q
def zph(fu:Nat)(a b:List Int)(hab:a.length=b.length)(hs:(a.length:Int)<9223372036854775808):∀(n k:Nat),k<=a.length->a.length-k<n->qha fu n a b k=some (decide (a.drop k=b.drop k)):=by
 intro n
 induction n with
 |zero=>intro k h1 h2;omega|succ n ih=>
  intro k h1 h2;rw[qha,qsw];by_cases c:k<a.length
  ·have hi:ap a (k:Int)=some a[k]:=by unfold ap;rw[qX];simp[c]
   have hi2:ap b (k:Int)=some (b[k]' oA):=by unfold ap;rw[qX];simp[show k<b.length by omega]
   rw[au (by simp;exact c),hi,qB,hi2,qB,ia,List.drop_eq_getElem_cons c,List.drop_eq_getElem_cons (show k<b.length by omega)]
   have:=ih (k+1) oA oA
   rw[Int.natCast_add]at this;rw[bw]
   by_cases g:a[k]=b[k]' oA
   ·rw[qW (by simp[g])]
    refine Eq.trans this ?_;congr 1;rw[decide_eq_decide];simp only[List.cons.injEq,g,true_and]
   ·rw[qX g];congr 1;exact(decide_eq_false (fun q=>g (List.cons.inj q).1)).symm
  ·rw[ak oE,List.drop_eq_nil_of_le oA,List.drop_eq_nil_of_le oA];rfl
def zpg(fu:Nat)(a b:List Int)(hs:(a.length:Int)<9223372036854775808)(hf:a.length<fu):xv fu a b=some (decide (a=b)):=by
 unfold xv;by_cases c:a.length=b.length
 ·rw[ak (by simp[c])]
  have:=zph fu a b c hs fu 0 oA oA
  exact this
 ·rw[au oE]
  have:a≠b:=fun q=>c (by rw[q])
  rw[decide_eq_false this]
def zb0(d:dp):qmh d=some (if ¬d7 d then⟨3,-3⟩ else if d.2.2.2.2.2.2≠0 then⟨5,-9⟩ else if ¬(3<=d.1/\d.1<=3998) then⟨3,-9⟩ else⟨0,0⟩):=by
 unfold qmh;rw[zni,qB];by_cases h:d7 d
 ·rw[qX h,ak,qW (fun q=>q h),ia,zr1_in_eq,qB,qbj]
  simp only[qx4,qB];by_cases c:d.2.2.2.2.2.2≠0
  ·rw[qX c,qX c]
  ·rw[qW c,qW c];by_cases c2:3<=d.1/\d.1<=3998
   ·rw[qX c2,qW (fun q=>q c2)]
   ·rw[qW c2,qX c2]
 ·rw[qW h,au,qX h]

abbrev qjl(l:List Int):Prop:=l.Pairwise (·<·)

def zo(p:Option Int)(x:Int):Bool:=match p with|some y=>decide (x<=y)|none=>false
def xm(f:Int->Bool):Option Int->List Int->Int|_,[]=>0|p,x::l=>if f x=false then 3 else if zo p x=true then 19 else xm f (some x) l
def qlp(f:Int->Bool):∀(l:List Int)(p:Option Int),xm f p l=0->qjl l/\(∀x∈l,f x=true)/\(∀y,p=some y->∀x∈l,y<x)
 |[],_,_=>⟨List.Pairwise.nil,fun x h=>(by cases h),fun y _ x h=>(by cases h)⟩
 |x::l,p,h=>by
  unfold xm at h;by_cases c:f x=false
  ·rw[qX c]at h;omega
  rw[qW c]at h;by_cases c2:zo p x=true
  ·rw[qX c2]at h;omega
  rw[qW c2]at h;obtain⟨i1,i2,i3⟩:=qlp f l _ h;have i3':=i3 x rfl;refine⟨List.pairwise_cons.2 ⟨i3',i1⟩,fun y hy => ?_,fun y hy t ht => ?_⟩
  ·rcases List.mem_cons.1 hy with q|q
   ·rw[q];simpa using c
   ·exact i2 y q
  ·subst hy;have hyx:y<x:=by simp[zo]at c2;exact c2
   rcases List.mem_cons.1 ht with q|q
   ·omega
   ·have:=i3' t q;omega
def mb(l:List Int)(k:Nat):Option Int:=if k=0 then none else l[k-1]?
def uz(t:Int):Bool:=decide (-68719476736<=t/\t<=68719476736)
def vb(t:Int):Bool:=decide (0<=t/\t<=6)
def ph(c a:Int):gm:=if c=0 then(0,0) else(c,a)
def q1l(l:List Int)(k:Nat)(h:k<l.length):mb l (k+1)=some l[k]:=by
 unfold mb;rw[qW oA];simp[h]
def zdm(l:List Int)(k:Nat)(h:k<l.length)(h0:0<k)(hs:(l.length:Int)<9223372036854775808):ap l (af ((k:Int)-1))=some (l[k-1]' oA)/\mb l k=some (l[k-1]' oA):=by
 rw[bw,show(k:Int)-1=((k-1:Nat):Int) by omega]
 refine⟨zf l (k-1),?_⟩
 unfold mb;rw[qW oA];simp[show k-1<l.length by omega]
def zer(f:Int->Bool)(l:List Int)(k:Nat)(h:k<l.length):xm f (mb l k) (l.drop k) =
  if f l[k]=false then 3 else if zo (mb l k) l[k]=true then 19 else xm f (mb l (k+1)) (l.drop (k+1)):=by
 rw[List.drop_eq_getElem_cons h,q1l l k h];rfl
def zp9(fu:Nat)(l:List Int)(a:Int)(m:gm)(hs:(l.length:Int)<9223372036854775808):∀(n k:Nat),k<=l.length->l.length-k<n ->
  qiq fu n l a l l.length k m=some (ph (xm uz (mb l k) (l.drop k)) a):=by
 intro n
 induction n with
 |zero=>intro k h1 h2;omega|succ n ih=>
  intro k h1 h2;rw[qiq,qve];by_cases c:k<l.length
  ·have nx:=ih (k+1) oA oA
   rw[Int.natCast_add]at nx;rw[au (by simp;exact c),zf l k c,qB,time_eq,qB,zer uz l k c,bw (x:=(k:Int)+1) oA oA]
   have eT:decide (-68719476736<=l[k]/\l[k]<=68719476736)=uz l[k]:=rfl;rw[eT]
   cases ht:uz l[k] with
   |false=>rfl|true=>
    rw[ak,qW oC]
    by_cases c0:0<k
    ·obtain⟨p1,p2⟩:=zdm l k c c0 hs;rw[au oE,p1,qB,p2]
     by_cases g:l[k]<=l[k-1]' oA
     ·rw[au (by simp;exact g),qX (by simp[zo];exact g)];rfl
     ·rw[ak oE,qW (by simp[zo];omega)];exact nx
    ·rw[ak oE]
     have e0:mb l k=none:=by unfold mb;rw[qX]
     rw[e0];exact nx
  ·rw[ak oE,List.drop_eq_nil_of_le oA];rfl
def lu(l:List Int):Int:=if 300<l.length then 2 else xm uz none l
def zp8(fu:Nat)(hf:400<=fu)(l:List Int)(a:Int):qip fu l a=some (ph (lu l) a):=by
 unfold qip lu;by_cases c:300<l.length
 ·rw[au oE,qX c];rfl
 ·rw[ak oE,qW c]
  have:=zp9 fu l a (0,0) oA fu 0 oA oA
  exact this
abbrev im:Type:=Int×Int×Int×Int×Bool×List Int×List Int×List Int
def zv5(fu:Nat)(r:im)(m:gm)(hs:(r.2.2.2.2.2.1.length:Int)<9223372036854775808):∀(n k:Nat),k<=r.2.2.2.2.2.1.length->8<=n+k->(∀p,mb r.2.2.2.2.2.1 k=some p->(k:Int)-1<=p/\p<=6)->(k<=7) ->
  qir fu n r.2.2.2.2.2.1 r.2.2.2.2.2.1.length k r m=some (ph (xm vb (mb r.2.2.2.2.2.1 k) (r.2.2.2.2.2.1.drop k)) (-7)):=by
 generalize hl:r.2.2.2.2.2.1=l at hs ⊢;intro n
 induction n with
 |zero=>intro k h1 h2;omega|succ n ih=>
  intro k h1 h2 h3 h4;rw[qir,qvf];by_cases c:k<l.length
  ·rw[au (by simp;exact c),zf l k c,qB,zer vb l k c]
   unfold qnu qvh;rw[hl];by_cases g1:l[k]<0
   ·rw[au (by simp;exact g1),au rfl,qX (by unfold vb;simp;omega)];rfl
   rw[ak oE]
   by_cases g2:6<l[k]
   ·rw[au (by simp;exact g2),qX (by unfold vb;simp;omega)];rfl
   rw[ak oE,qW (by unfold vb;simp;omega),bw (x:=(k:Int)+1) oA oA]
   by_cases c0:0<k
   ·obtain⟨p1,p2⟩:=zdm l k c c0 hs;rw[au oE,p1,qB,p2]
    by_cases g:l[k]<=l[k-1]' oA
    ·rw[au (by simp;exact g),qX (by simp[zo];exact g)];rfl
    ·rw[ak oE,qW (by simp[zo];omega)]
     have hp:=h3 _ p2;have nx:=ih (k+1) oA oA (fun p hp'=>by rw[q1l l k c]at hp';cases hp';omega) oA
     rw[Int.natCast_add]at nx;exact nx
   ·rw[ak oE]
    have e0:mb l k=none:=by unfold mb;rw[qX]
    rw[e0];have nx:=ih (k+1) oA oA (fun p hp'=>by rw[q1l l k c]at hp';cases hp';omega) oA
    rw[Int.natCast_add]at nx;exact nx
  ·rw[ak oE,List.drop_eq_nil_of_le oA];rfl
def mg(r:im):gm:=if 0<r.2.2.2.2.2.1.length/\r.1≠2 then(5,-7) else ph (xm vb none r.2.2.2.2.2.1) (-7)
def ko(r:im):gm:=
 if ¬(0<=r.1/\r.1<=4) then(4,-3) else if ¬(1<=r.2.1/\r.2.1<=100) then(3,-4) else if ¬(0<=r.2.2.1/\r.2.2.1<=1500) then(3,-5) else
 if r.2.2.2.2.1=true/\¬(-68719476736<=r.2.2.2.1/\r.2.2.2.1<=68719476736) then(3,-6) else if r.2.2.2.2.1=false/\r.2.2.2.1≠0 then(5,-6) else
 if(mg r).1≠0 then mg r else if lu r.2.2.2.2.2.2.1≠0 then(lu r.2.2.2.2.2.2.1,-8) else ph (lu r.2.2.2.2.2.2.2) (-9)
def qj4(c a:Int):(ph c a).1=c:=by
 unfold ph;split
 ·rename_i h;exact h.symm
 ·rfl
def zr5(l:List Int):mb l 0=none:=rfl
def zv8(fu:Nat)(hf:400<=fu)(r:im)(hs:(r.2.2.2.2.2.1.length:Int)<9223372036854775808):qns fu r=some (mg r):=by
 unfold qns qnt qvg mg;have lp:=zv5 fu r (0,0) hs fu 0 oA oA (fun p hp=>by cases hp) oA
 rw[show((0:Nat):Int)=0 from rfl,zr5,List.drop_zero]at lp
 rw[lp];by_cases c:0<r.2.2.2.2.2.1.length
 ·rw[ao oA,ia]
  by_cases c2:r.1≠2
  ·rw[qX (c:=¬_) c2,qX (c:=_/\_) ⟨c,c2⟩];rfl
  ·rw[qW (c:=¬_) c2,qW (c:=_/\_) (fun q=>c2 q.2)]
 ·rw[bp,qW (c:=_/\_) (fun q=>c q.1)];rfl
def zvy(fu:Nat)(hf:400<=fu)(r:im)(hs:(r.2.2.2.2.2.1.length:Int)<9223372036854775808:=by omega):qio fu r=some (ko r):=by
 unfold qio qnn qno qnp qnq qnr qu9 ko;simp only[fault_eq,qB,time_eq,zv8 fu hf r hs,zfailed_eq,zp8 fu hf,ia,qj4,qT,qF];by_cases c1:0<=r.1/\r.1<=4
 ·rw[ak oE,ak oE,qW (c:=¬_) (fun q=>q c1)]
  by_cases c2:1<=r.2.1/\r.2.1<=100
  ·rw[ak oE,ak oE,qW (c:=¬_) (fun q=>q c2)]
   by_cases c3:0<=r.2.2.1/\r.2.2.1<=1500
   ·rw[ak oE,ak oE,qW (c:=¬_) (fun q=>q c3)]
    have tail:(if(mg r).1≠0 then some (mg r) else if lu r.2.2.2.2.2.2.1≠0 then some (ph (lu r.2.2.2.2.2.2.1) (-8)) else some (ph (lu r.2.2.2.2.2.2.2) (-9))) =
      some (if(mg r).1≠0 then mg r else if lu r.2.2.2.2.2.2.1≠0 then(lu r.2.2.2.2.2.2.1,-8) else ph (lu r.2.2.2.2.2.2.2) (-9)):=by
     by_cases k1:(mg r).1≠0
     ·rw[qX k1,qX k1]
     ·rw[qW k1,qW k1];by_cases k2:lu r.2.2.2.2.2.2.1≠0
      ·rw[qX k2,qX k2];unfold ph;rw[qW k2]
      ·rw[qW k2,qW k2]
    rw[tail]
    cases h5:r.2.2.2.2.1 with
    |true=>
     simp only[qT,qF,Bool.not_true,qbj];by_cases c4 : -68719476736<=r.2.2.2.1/\r.2.2.2.1<=68719476736
     ·rw[qX (c:=_/\_) c4,qW (c:=True/\¬_) (fun q=>q.2 c4),qW (c:=true=false/\_) (fun q=>by cases q.1)]
     ·rw[qW (c:=_/\_) c4,qX (c:=True/\¬_) ⟨trivial,c4⟩]
    |false=>
     simp only[qT,qF,Bool.not_false];rw[qW (c:=false=true/\_) (fun q=>by cases q.1)]
     by_cases c4:r.2.2.2.1≠0
     ·rw[qX (c:=¬_) c4,qX (c:=True/\_) ⟨trivial,c4⟩]
     ·rw[qW (c:=¬_) c4,qW (c:=True/\_) (fun q=>c4 q.2)]
   ·rw[qX (c:=¬_) c3];by_cases g:r.2.2.1<0
    ·rw[au (by simp;exact g)]
    ·rw[ak oE,au oE]
  ·rw[qX (c:=¬_) c2];by_cases g:r.2.1<1
   ·rw[au (by simp;exact g)]
   ·rw[ak oE,au oE]
 ·rw[qX (c:=¬_) c1];by_cases g:r.1<0
  ·rw[au (by simp;exact g)]
  ·rw[ak oE,au oE]
structure q7d(d:dp):Prop where
 ok:d7 d
 zn:d.2.2.2.2.2.2=0
 y1:3<=d.1
 y2:d.1<=3980
def qpp(d:dp):Int:=cd d.1 d.2.1 d.2.2.1
def zt8(d:dp):Int:=d.2.2.2.1*3600+d.2.2.2.2.1*60+d.2.2.2.2.2.1
def zlo:dc 3=730/\dc 3981=1453665/\dc 3999=1460239:=oD
def q7d.day_bd{d:dp}(h:q7d d) : -718432<=qpp d/\qpp d<734503:=by
 have a:=qj7 _ _ _ h.ok.1;have b1:=yq 3 d.1 h.y1;have b2:=yq (d.1+1) 3981 (by have:=h.y2;omega)
 obtain⟨v1,v2,_⟩:=zlo;unfold qpp;omega
noncomputable def later(d:dp)(a:Int):dp:=qyn (qpp d+a) (zt8 d) 0
structure zjs(r:im):Prop where
 f1:0<=r.1
 f2:r.1<=4
 e1:1<=r.2.1
 e2:r.2.1<=100
 c1:0<=r.2.2.1
 c2:r.2.2.1<=1500
 wl:r.2.2.2.2.2.1.length<=7
 xs:qjl r.2.2.2.2.2.2.1
 xl:r.2.2.2.2.2.2.1.length<=300
 adS:qjl r.2.2.2.2.2.2.2
 al:r.2.2.2.2.2.2.2.length<=300
def zfc:∀(l:List Int)(lo hi:Int),qjl l->(∀x∈l,lo<=x/\x<=hi)->lo<=hi+1->(l.length:Int)<=hi+1-lo
 |[],lo,hi,_,_,h=>by simp;omega|x::l,lo,hi,h1,h2,h=>by
  have h1':=List.pairwise_cons.1 h1;have hx:=h2 x qH;have:=zfc l (x+1) hi h1'.2 (fun y hy=>⟨by have:=h1'.1 y hy;omega,(h2 y (qE _ hy)).2⟩) oA
  simp;omega
def zek(r:im)(h:(ko r).1=0):ko r=(0,0)/\zjs r/\(∀x∈r.2.2.2.2.2.2.1,uz x=true)/\(∀x∈r.2.2.2.2.2.2.2,uz x=true):=by
 unfold ko at h ⊢;by_cases c1:¬(0<=r.1/\r.1<=4)
 ·rw[qX c1]at h;simp at h
 rw[qW c1]at h ⊢;by_cases c2:¬(1<=r.2.1/\r.2.1<=100)
 ·rw[qX c2]at h;simp at h
 rw[qW c2]at h ⊢;by_cases c3:¬(0<=r.2.2.1/\r.2.2.1<=1500)
 ·rw[qX c3]at h;simp at h
 rw[qW c3]at h ⊢;by_cases c4:r.2.2.2.2.1=true/\¬(-68719476736<=r.2.2.2.1/\r.2.2.2.1<=68719476736)
 ·rw[qX c4]at h;simp at h
 rw[qW c4]at h ⊢;by_cases c5:r.2.2.2.2.1=false/\r.2.2.2.1≠0
 ·rw[qX c5]at h;simp at h
 rw[qW c5]at h ⊢;by_cases c6:(mg r).1≠0
 ·rw[qX c6]at h;exact absurd h c6
 rw[qW c6]at h ⊢;by_cases c7:lu r.2.2.2.2.2.2.1≠0
 ·rw[qX c7]at h;exact absurd h c7
 rw[qW c7]at h ⊢;rw[qj4]at h;have lc:∀l,lu l=0->l.length<=300/\qjl l/\∀x∈l,uz x=true:=by
  intro l hl;unfold lu at hl;by_cases q:300<l.length
  ·rw[qX q]at hl;omega
  ·rw[qW q]at hl;obtain⟨i1,i2,_⟩:=qlp uz l none hl;exact⟨oA,i1,i2⟩
 obtain⟨x1,x2,x3⟩:=lc _ (Classical.not_not.1 c7);obtain⟨y1,y2,y3⟩:=lc _ h;have hw:r.2.2.2.2.2.1.length<=7:=by
  have c6':=Classical.not_not.1 c6;unfold mg at c6';by_cases q:0<r.2.2.2.2.2.1.length/\r.1≠2
  ·rw[qX q]at c6';simp at c6'
  ·rw[qW q,qj4]at c6';obtain⟨i1,i2,_⟩:=qlp vb _ none c6';have:=zfc r.2.2.2.2.2.1 0 6 i1 (fun x hx=>by have:=i2 x hx;unfold vb at this;simpa using this) oA
   omega
 refine⟨by unfold ph;rw[qX h],⟨oA,oA,oA,oA,oA,oA,hw,x2,x1,y2,y1⟩,x3,y3⟩

def zqe(d:dp)(z:cz)(hz:(mj z).1=0):qmh d=some (qeh z d).1:=by
 rw[zb0];unfold qeh;rw[qW (c:=(mj z).1≠0) (by simp[hz])]
 by_cases c1:¬d7 d
 ·rw[qX c1,qX c1]
 rw[qW c1,qW c1];by_cases c2:d.2.2.2.2.2.2≠0
 ·rw[qX c2,qX c2]
 rw[qW c2,qW c2];by_cases c3:¬(3<=d.1/\d.1<=3998)
 ·rw[qX c3,qX c3]
 rw[qW c3,qW c3]
def uZ:cz:=([117],0,0,(0,0,0,0),(0,0,0,0))
def uD:dp:=(1970,1,1,0,0,0,0)
def uR:im:=(1,1,3,0,false,[],[],[])
section
variable(fu:Nat)(hf:5000<=fu)(z:cz)(hs:(z.1.length:Int)<9223372036854775808)(hf2:z.1.length<fu)(d:dp)(r:im)(hw:(r.2.2.2.2.2.1.length:Int)<9223372036854775808)
include hf hs hf2 hw
end
section
variable(fu:Nat)(hf:5000<=fu)(z:cz)(hs:(z.1.length:Int)<9223372036854775808)(hf2:z.1.length<fu)(d:dp)(r:im)(hw:(r.2.2.2.2.2.1.length:Int)<9223372036854775808)
include hf hs hf2
end
end Go.Sym
namespace Go.Sym
abbrev bz:Type:=Bs×Int×Int×Bs×Bs×Bs×(List (Bs×Int))×Bs×dp×Int×im
def jc(p:UInt8->Bool):Bool->Bs->Bool|e,[] => !e|e,c::s=>bif c==46 then !e&&jc p true s else p c&&jc p false s
def q9t(p:UInt8->Bool):∀(s:Bs)(e:Bool),(∀x∈s,x≠46)->jc p e s=((!e || !s.isEmpty)&&s.all p)
 |[],e,_=>by cases e<;>rfl
 |c::s,e,h=>by
  have hc:(c==46)=false:=by rw[beq_eq_false_iff_ne];exact h c qH
  rw[jc,hc,qF,q9t p s false fun x hx=>h x (qE _ hx)]
  cases e<;>simp
def q9s(p:UInt8->Bool)(r:Bs):∀(s:Bs)(e:Bool),(∀x∈s,x≠46)->jc p e (s++46::r)=(((!e || !s.isEmpty)&&s.all p)&&jc p true r)
 |[],e,_=>by cases e<;>rfl
 |c::s,e,h=>by
  have hc:(c==46)=false:=by rw[beq_eq_false_iff_ne];exact h c qH
  rw[wK,jc,hc,qF,q9s p r s false fun x hx=>h x (qE _ hx)]
  cases e<;>simp[Bool.and_assoc]
def zdn{R:Type}(P1:Nat->Bs->Bs->Int->Bool->Option R)(r0:Bs->Bool->Option (Bool ⊕ Bool))(A B:Bs×Bs×Int×Bool->R)(p:UInt8->Bool)(hr:∀s b,s.length<=100000->r0 s b=some (bif !s.isEmpty&&s.all p then .inr b else .inl false))
  (h0:∀n m1 m2 m3 m5,P1 (n+1) m1 m2 m3 m5=(eu m2 m1).bind fun x1=>bif decide (x1<(0:Int)) then(r0 m2 m5).bind fun x2=>ay x2 (fun a3=>some (A (m1,(m2,(m3,a3))))) (fun b4=>some (B (m1,(m2,(m3,b4))))) else bif decide (0<=af (x1+m3)/\af (x1+m3)<=(List.length m2:Int)) then(r0 (List.take (af (x1+m3)).toNat m2) m5).bind fun x5=>ay x5 (fun a6=>some (A (m1,(m2,(m3,a6))))) (fun b7=>bif decide (0<=af (x1+(List.length m1:Int))/\af (x1+(List.length m1:Int))<=(List.length m2:Int)) then P1 n m1 (List.drop (af (x1+(List.length m1:Int))).toNat m2) m3 b7 else none) else none) :
  ∀(n:Nat)(s:Bs)(b:Bool),s.length<n->s.length<=100000->∃t,P1 n [46] s 0 b=some (bif jc p true s then B ([46],(t,(0,b))) else A ([46],(t,(0,false)))):=by
 intro n
 induction n with
 |zero=>intro s b h;omega|succ n ih=>
  intro s b h hs;have hi:∀x:Int,Lib.index s [46]=x->eu s [46]=some x:=fun x q=>by
   unfold eu ju;rw[ao oA,qB,q]
  rw[h0];rcases qlq 46 s with⟨w,r,rfl,hw⟩|hw
  ·rw[hi _ (ixc 46 w r hw)];simp only[qM,qL]at h hs;rw[qB,bp,Int.add_zero,bw (x:=(w.length:Int)) oA oA,ao oE,zva,hr w b oA,qB,q9s p r w true hw,Bool.not_true,Bool.false_or]
   cases hq:(!w.isEmpty&&w.all p)
   ·exact⟨_,rfl⟩
   ·simp only[qT,ay];rw[show((List.length ([46]:Bs):Nat):Int)=1 from rfl,ce _,ao oE,q9u]
    exact ih r b oA oA
  ·rw[hi _ (ixn 46 s hw),qB,ao oA,hr s b hs,qB,q9t p s true hw,Bool.not_true,Bool.false_or]
   cases hq:(!s.isEmpty&&s.all p)
   ·exact⟨s,rfl⟩
   ·exact⟨s,rfl⟩
def znr(fu:Nat)(hfu:90000000<=fu)(s:Bs)(hs:s.length<=100000):xz fu s=some (jc pb true s):=by
 unfold xz qmp nz qd8;simp only[qB];unfold qn0;rw[ak]
 obtain⟨t,ht⟩:=zdn (qiz fu) (ya fu) _ _ pb (fun s b hs=>by
  unfold ya
  cases s with
  |nil=>rfl| cons c s=>rw[ak,zkj fu _,qB];cases List.all (c::s) pb<;>rfl) (fun _ _ _ _ _=>rfl) fu s false oA hs
 rw[ht];cases jc pb true s<;>rfl
def uc(s:Bs):Bool:=decide (s.length<=60)&&jc ub true s
def q9r(fu:Nat)(hfu:90000000<=fu)(s:Bs):vg fu s=some (uc s):=by
 unfold vg uc;by_cases h:s.length<=60
 ·rw[ao oA,decide_eq_true h,Bool.true_and]
  unfold qmq nz qd8;simp only[qB];unfold qn1;rw[ak]
  obtain⟨t,ht⟩:=zdn (qi0 fu) (yc fu) _ _ ub (fun s b hs=>by
   unfold yc
   cases s with
   |nil=>rfl| cons c s=>rw[ak,zkl fu _,qB];cases List.all (c::s) ub<;>rfl) (fun _ _ _ _ _=>rfl) fu s false oA oA
  rw[ht];cases jc ub true s<;>rfl
 ·rw[bp,decide_eq_false h];rfl
def qfx(c:UInt8):Bool:=decide (32<=c)&&decide (c<=126)
def zkh(fu:Nat)(s:Bs)(h:s.length<fu:=by omega)(hs:s.length<=10000000:=by omega):qmu fu s=some (s.all qfx):=
 qo0 s hs (qdf fu) qfx (fun n e k=>by
  rw[qdf,qto];simp only[show ∀c,x9 c=some (qfx c) from fun c=>by unfold x9 qfx;cases decide (32<=c)<;>rfl]) fu [] s rfl h
def uj(s:Bs):Bool:=(!s.isEmpty&&decide (s.length<=60))&&s.all qfx
def zb1(fu:Nat)(hfu:90000000<=fu)(s:Bs):vh fu s=some (uj s):=by
 unfold vh uj
 cases s with
 |nil=>rfl|cons c s=>
  rw[show(!((c::s)==([]:Bs)))=true from rfl,qT]
  by_cases h:(c::s).length<=60
  ·rw[ao oA,decide_eq_true h,zkh fu _];rfl
  ·rw[bp,decide_eq_false h];rfl


def rwl{α:Type}(l:List α)(x:α)(h:l.length<=1000000):(l++[x]).length<=aw:=by simp only[aw,qM,qL,qZ];omega

def mc(l d:Bs):Bs:=bif jc pb true l then(l++[64])++d else((34::(w8 l++[34]))++[64])++d
def vz(s:Bs):Prop:=∃l d,uj l=true/\uc d=true/\s=mc l d
def q90(s:Bs):(w8 s).length<=3*s.length:=by
 have h1:=List.count_le_length (a:=(92:UInt8)) (l:=s);have h2:=List.count_le_length (a:=(34:UInt8)) (l:=s);have:(w8 s).length=_:=qfg (a:=92) (b:=34) oD 92 92 92 34 s
 unfold ib at this;omega
def ze2(l d:Bs):(mc l d).length<=3*l.length+d.length+3:=by
 have:=q90 l;unfold mc;cases jc pb true l<;>simp only[qT,qF,qM,qL,qZ]<;>omega
def zbz{s:Bs}(h:uj s=true):s.length<=60:=by
 unfold uj at h;simp only[qA,decide_eq_true_iff]at h;exact h.1.2
def q9q{s:Bs}(h:uc s=true):s.length<=60:=by
 unfold uc at h;simp only[qA,decide_eq_true_iff]at h;exact h.1
def zuh{s:Bs}(h:vz s):s.length<=243:=by
 obtain⟨l,d,hl,hd,rfl⟩:=h;have h1:=zbz hl;have h2:=q9q hd;have:=ze2 l d;omega
def zla(fu:Nat)(hfu:90000000<=fu)(n l d:Bs)(hl:l.length<=100000:=by omega)(hd:d.length<=100000:=by omega):qhq fu (n,(l,d))=some (mc l d):=by
 have:=q90 l;unfold qhq mc;rw[znr fu hfu l hl,qB];cases jc pb true l
 ·rw[qF,qF,(zsd l hl).1,qB,ao oJ,ao oJ]
 ·rw[qT,qT,ao oI,ao oJ]
def zn8(c:UInt8)(w:Bs):w8 (c::w)=(bif c==34||c==92 then[92,c] else[c])++w8 w:=by
 show ei 92 34 [92,92] [92,34] (c::w)=_;unfold ei;rw[List.flatMap_cons];congr 1;unfold ud;by_cases h1:c=92
 ·subst h1;rfl
 ·by_cases h2:c=34
  ·subst h2;rfl
  ·have e1:(c==92)=false:=by simpa using h1
   have e2:(c==34)=false:=by simpa using h2
   simp only[h1,h2,if_false,e1,e2,Bool.or_self,qF]
def qy6{p:UInt8->Bool}:∀{s:Bs}{e:Bool},jc p e s=true->(e=true->s≠[])/\∀c∈s,p c=true\/c=46
 |[],true,h=>by cases h
 |[],false,h=>⟨(fun q=>by cases q),fun c hc=>by cases hc⟩
 |c::s,e,h=>by
  refine⟨fun _=>List.cons_ne_nil _ _,fun d hd => ?_⟩
  rw[jc]at h;by_cases q:c=46
  ·subst q;rw[show((46:UInt8)==46)=true from rfl,qT,qA]at h
   rcases List.mem_cons.1 hd with rfl|hd
   ·exact .inr rfl
   ·exact(qy6 h.2).2 d hd
  ·rw[show(c==46)=false by simpa using q,qF,qA]at h
   rcases List.mem_cons.1 hd with rfl|hd
   ·exact .inl h.1
   ·exact(qy6 h.2).2 d hd
abbrev ir(l d:Bs):Bs×Bool×List (Bs×Bs×Bs):=([],(false,[([],(l,d))]))
def hFU:90000000<=FU:=oD
def q9n:tc []=some 0:=by
 unfold tc jo;rw[bp,ao oC,qB,show Lib.validD []=true by rfl];rfl
def zvw(l d:Bs)(hl:uj l=true)(hd:uc d=true):xx FU ([],(l,d))=some (0,0):=by
 unfold xx;dsimp only;rw[q9n,qB,ak,zb1 FU hFU,qB,hl,ak,q9r FU hFU,qB,hd,ak]
 rfl
def zmk(l d:Bs)(hl:uj l=true)(hd:uc d=true):qcy FU [ir l d]=some (0,0):=by
 have hv:=zvw l d hl hd;have hi:x7 FU (ir l d)=some 0:=by
  have h2:td FU (99999998+1+1) [([],(l,d))] 1 0=some 0:=by
   rw[td,qc5,ao oD,show ap [(([]:Bs),(l,d))] (0:Int)=some ([],(l,d)) from rfl,qB,hv,qB,oc,qB,ak,show af ((0:Int)+1)=1 from rfl,td,qc5,bp oD]
  have h0:o5 FU false (ir l d)=some 0:=by
   unfold o5 qhi;rw[ak rfl];exact h2
  unfold x7;rw[show(ir l d).1=[] from rfl,q9n,qB,ak,ak,au]
  exact h0
 have h3:ta FU (99999998+1+1) [ir l d] 1 0 (0,0)=some (0,0):=by
  rw[ta,qc0,ao oD,show ap [ir l d] (0:Int)=some (ir l d) from rfl,qB,hi,qB,ak,show af ((0:Int)+1)=1 from rfl,ta,qc0,bp oD]
  rfl
 have h1:sy FU [ir l d] false (0,0)=some (0,0):=by
  unfold sy qhf;rw[ak rfl];exact h3
 have h0:sx FU (99999998+1+1) [ir l d] 0 [ir l d] 1 0 (0,0)=some (0,0):=by
  rw[sx,qcz,ao oD,show ap [ir l d] (0:Int)=some (ir l d) from rfl,qB,show af ((0:Int)+1)=1 from rfl,sx,qcz,bp oD,bp]
  exact h1
 exact h0
def zr6(l d:Bs)(hl:uj l=true)(hd:uc d=true):qc3 FU [ir l d]=some (mc l d,(0,0)):=by
 have l1:=zbz hl;have l2:=q9q hd;have sl:=ze2 l d;have mem:qmo FU ([],(l,d))=some (mc l d):=by
  unfold qmo;rw[au,zla FU hFU [] l d];rfl
 have e:f6 [mc l d] [44,32]=some (mc l d):=by
  unfold f6;rw[Lib.join_one,ao ⟨oC,oA⟩]
 have fin:xw FU (99999998+1) [ir l d] 1 1 (0,0) [mc l d]=some (mc l d,(0,0)):=by
  rw[xw,qml,bp,e,qB,bp];rfl
 have p1:qc4 FU (xw FU (99999998+1)) (99999998+1+1) [ir l d] 1 0 [([],(l,d))] 1 0 (0,0) (ir l d) [] []=some (mc l d,(0,0)):=by
  rw[qc4,qmm,ao oA,show ap [(([]:Bs),(l,d))] (0:Int)=some ([],(l,d)) from rfl,qB,mem,qB,ao (by simp[aw])]
  rw[show af ((0:Int)+1)=1 from rfl,qc4,qmm,bp,List.nil_append,e,qB,ak]
  unfold qmn qs3;rw[ao (by simp[aw]),show af ((0:Int)+1)=1 from rfl,List.nil_append]
  exact fin
 have p0:xw FU (99999998+1+1) [ir l d] 1 0 (0,0) []=some (mc l d,(0,0)):=by
  rw[xw,qml,ao oA,show ap [ir l d] (0:Int)=some (ir l d) from rfl,qB]
  exact p1
 unfold qc3;rw[zmk l d hl hd,qB,oc,qB,ak]
 exact p0
def zbe(s:Bs):Ok (fun b=>b=true->vz s) (qa2 FU s):=by
 have no:Ok (fun b=>b=true->vz s) (some false):=bh fun q=>(by cases q)
 unfold qa2;refine bg (zrl FU hFU s) fun x1 h1=>bg (P:=dh) ⟨_,rfl,trivial⟩ fun x2 _ => ?_
 obtain⟨l,f⟩:=x1;obtain⟨_,h1⟩:=h1;have pt:Ok (fun b=>b=true->vz s) (qa3 FU s l true f):=no
 refine cw (fun _=>pt) fun _ => ?_
 by_cases hl:(l.length:Int)=1
 ·rw[ak (by simp[hl])]
  obtain⟨x,rfl⟩:∃x,l=[x]:=List.length_eq_one_iff.1 oA
  obtain⟨h2,h3,h4⟩:=h1 x qH;obtain⟨g,b,ms⟩:=x;rw[show ap [(g,(b,ms))] (0:Int)=some (g,(b,ms)) from rfl]
  simp only[qB];cases b
  ·rw[ak rfl];have hm:=h4 rfl;obtain⟨a,rfl⟩:∃a,ms=[a]:=List.length_eq_one_iff.1 hm;obtain⟨h5,h6⟩:=h3 a qH;obtain⟨d,lo,dm⟩:=a;rw[show ap [(d,(lo,dm))] (0:Int)=some (d,(lo,dm)) from rfl,qB]
   by_cases hd:d=[]
   ·subst hd;rw[show(!((([]:Bs),(lo,dm)).1==([]:Bs)))=false from rfl]
    unfold qa3 qu5;rw[ak rfl];obtain⟨f2,hf2,_⟩:=q83 FU hFU [(g,(false,[([],(lo,dm))]))] oC (fun x hx=>by rw[List.mem_singleton]at hx;subst hx;simp)
    by_cases c:f2.1=0
    ·obtain⟨_,_,_,hv⟩:=zml _ oC (fun x hx=>by rw[List.mem_singleton]at hx;subst hx;simp) hf2 c
     have hv:=hv _ qH;have hg:g=[]:=Classical.not_not.1 fun q=>by have:=hv.2.1.2 q;cases this
     subst hg;have ha:=hv.2.2.2 ([],(lo,dm)) qH;have ha1:=ha.2.1;have ha2:=ha.2.2;rw[zb1 FU hFU]at ha1;rw[q9r FU hFU]at ha2;have ha1:uj lo=true:=qJ ha1;have ha2:uc dm=true:=qJ ha2;rw[show qc3 FU [(([]:Bs),(false,[(([]:Bs),(lo,dm))]))]=some (mc lo dm,(0,0)) from zr6 lo dm ha1 ha2,qB,oc,qB,au]
     exact bh fun q=>⟨lo,dm,ha1,ha2,(beq_iff_eq.1 q).symm⟩
    ·unfold qc3;rw[hf2];simp only[qB,oc];rw[show(f2.1 != 0)=true by simpa [bne] using c]
     simp only[qT,qB,oc];rw[show(f2.1 != 0)=true by simpa [bne] using c]
     exact no
   ·rw[show(!((d,(lo,dm)).1==([]:Bs)))=true by simp[hd]];exact pt
  ·rw[au rfl];exact pt
 ·rw[au (by simp[hl])];exact pt
noncomputable def ou(s:Bs):Bool:=(qa2 FU s).getD false
def ze0{s:Bs}(h:ou s=true):vz s:=by
 obtain⟨b,hb,k⟩:=zbe s;unfold ou at h;rw[hb]at h;exact k h
def zbf(s:Bs):qa2 FU s=some (ou s):=by
 obtain⟨b,hb,h⟩:=zbe s;unfold ou;rw[hb];rfl
def uch(c:UInt8):Bool:=decide (33<=c)&&decide (c<=126)
def xp(s:Bs):Bool:=(decide (1<=s.length)&&decide (s.length<=60))&&s.all uch
def fv(s:Bs):Int:=if 500<s.length then 1 else if Lib.validD s=false then 5 else if s.contains 13=true then 5 else 0
noncomputable def rh:List (Bs×Int)->List (Bs×Int)->Int×Int|_,[]=>(0,0)|ab,g::r=>if ou g.1=false then(10,(ab.length:Int)) else if ¬(1<=g.2/\g.2<=4) then(4,(ab.length:Int)) else if ab.any (fun x=>x.1==g.1)=true then(7,(ab.length:Int)) else rh (ab++[g]) r
def zp(d:dp):Int×Int:=if ¬d7 d then(3,-3) else if d.2.2.2.2.2.2≠0 then(5,-9) else if ¬(3<=d.1/\d.1<=3998) then(3,-9) else(0,0)
noncomputable def evT(e:bz):Int×Int:=
 if oo e.2.2.2.2.2.2.2.1=false then(10,-10) else if(zp e.2.2.2.2.2.2.2.2.1).1≠0 then((zp e.2.2.2.2.2.2.2.2.1).1,-11) else if ¬(0<=e.2.2.2.2.2.2.2.2.2.1/\e.2.2.2.2.2.2.2.2.2.1<=1000000) then(3,-12) else if(ko e.2.2.2.2.2.2.2.2.2.2).1≠0 then((ko e.2.2.2.2.2.2.2.2.2.2).1,-13) else(0,0)
noncomputable def y4(e:bz):Int×Int:=
 if 30<e.2.2.2.2.2.2.1.length then(2,-9) else if(rh [] e.2.2.2.2.2.2.1).1≠0 then rh [] e.2.2.2.2.2.2.1 else evT e
noncomputable def li(e:bz):Int×Int:=
 if xp e.1=false then(10,-3) else if ¬(1<=e.2.1/\e.2.1<=5) then(4,-4) else if ¬(0<=e.2.2.1/\e.2.2.1<=1000000) then(3,-5) else
 if fv e.2.2.2.1≠0 then(fv e.2.2.2.1,-6) else if fv e.2.2.2.2.1≠0 then(fv e.2.2.2.2.1,-7) else if e.2.2.2.2.2.1≠[]/\ou e.2.2.2.2.2.1=false then(10,-8) else y4 e
def qf(e:bz):Prop:=e.1.length<=2000000/\e.2.2.2.2.2.2.2.1.length<=2000000/\e.2.2.2.2.2.2.2.2.2.2.2.2.2.2.2.1.length<=2000000
def zkn(s:Bs)(hs:s.length<=10000000:=by omega):qtm FU s=some (s.all uch):=
 qo0 s hs (qhs FU) uch (fun n e k=>by
  rw[qhs,qtn];simp only[show ∀c,qm9 c=some (uch c) from fun c=>by unfold qm9 uch;cases decide (33<=c)<;>rfl]) FU [] s rfl oL
def zfk(s:Bs):qa4 s=some (fv s):=by
 unfold qa4 fv;by_cases h:500<s.length
 ·rw[ao oA,qX h]
 ·rw[bp,qW h]
  unfold jo qnw;rw[ao oA,qB]
  cases Lib.validD s
  ·rw[qX rfl];rfl
  ·rw[ak,qW oC]
   have hi:∀x:Int,Lib.index s [13]=x->eu s [13]=some x:=fun x q=>by
    unfold eu ju;rw[ao oA,qB,q]
   rcases qlq 13 s with⟨w,r,rfl,hw⟩|hw
   ·rw[hi _ (ixc 13 w r hw),qX]
    simp only[qB];rw[ao oA]
   ·rw[hi _ (ixn 13 s hw),qW (by simp;exact fun q=>hw 13 q rfl)]
    rfl
def zmd(l:List (Bs×Int))(g:Bs×Int)(hl:l.length<=1000)(n:Nat):∀ab aa:List (Bs×Int),l=ab++aa->aa.length<n->∃x,qis FU n l (l.length:Int) (ab.length:Int) g=some (x,g)/\decide (0<=x)=aa.any (fun y=>y.1==g.1):=by
 induction n with
 |zero=>intro ab aa _ h;omega|succ n ih=>
  intro ab aa e h;have hll:=congrArg List.length e;rw[qM]at hll;rw[qis,qvn]
  cases aa with
  |nil=>rw[bp (by simp at hll;omega)];exact⟨-1,rfl,rfl⟩|cons y aa=>
   simp only[qL]at h hll;rw[ao oA,show ap l (ab.length:Int)=some y by rw[e];exact gx _ _ _,qB]
   unfold qu1;rw[qB,List.any_cons];cases hq:(y.1==g.1)
   ·rw[qF,ce _]
    obtain⟨x,h1,h2⟩:=ih (ab++[y]) aa (by rw[e];simp) oA
    rw[qM,wD]at h1;exact⟨x,h1,by rw[h2,Bool.false_or]⟩
   ·exact⟨(ab.length:Int),rfl,by rw[Bool.true_or];exact decide_eq_true oA⟩
def zmc(l:List (Bs×Int))(g:Bs×Int)(hl:l.length<=1000:=by omega):qnv FU l g=some (l.any (fun y=>y.1==g.1),g):=by
 obtain⟨x,h1,h2⟩:=zmd l g hl FU [] l rfl oL
 unfold qnv qvm;rw[show(0:Int)=((([]:List (Bs×Int)).length:Nat):Int) from rfl,h1,qB]
 simp only[qZ];rw[← h2];rfl
def zor(l:List (Bs×Int))(hl:l.length<=30)(z:Int×Int)(n:Nat):∀ab aa:List (Bs×Int),l=ab++aa->aa.length<n->qa1 FU n l l (l.length:Int) (ab.length:Int) z=some (rh ab aa):=by
 induction n with
 |zero=>intro ab aa _ h;omega|succ n ih=>
  intro ab aa e h;have hll:=congrArg List.length e;rw[qM]at hll;rw[qa1,qu2]
  cases aa with
  |nil=>rw[bp (by simp at hll;omega)];rfl|cons g aa=>
   simp only[qL]at h hll;rw[ao oA,show ap l (ab.length:Int)=some g by rw[e];exact gx _ _ _,qB,zbf,qB,rh]
   cases ou g.1
   ·rw[qX rfl];rfl
   ·rw[qW oC,ak]
    have p1:∀b,(b=true↔¬(1<=g.2/\g.2<=4))->qii FU (qa1 FU n) l (ab.length:Int) l (l.length:Int) (ab.length:Int) b z g=some (if ¬(1<=g.2/\g.2<=4) then(4,(ab.length:Int)) else if ab.any (fun x=>x.1==g.1)=true then(7,(ab.length:Int)) else rh (ab++[g]) aa):=fun b hb=>by
     unfold qii;cases b
     ·rw[ak rfl,qW (fun q=>by have:=hb.2 q;cases this),ao ⟨oA,oA⟩]
      rw[show List.take (ab.length:Int).toNat l=ab by rw[e,show(ab.length:Int).toNat=ab.length by omega];simp,zmc ab g,qB]
      cases ab.any (fun x=>x.1==g.1)
      ·rw[qW oC,ak rfl,ce _]
       have:=ih (ab++[g]) aa (by rw[e];simp) oA
       rw[qM,wD]at this;exact this
      ·rw[qX rfl];rfl
     ·rw[au rfl,qX (hb.1 rfl)];rfl
    by_cases h1:g.2<1
    ·rw[ao h1];exact p1 true ⟨fun _ q=>oA,fun _=>rfl⟩
    ·rw[bp h1];exact p1 _ ⟨fun q=>by have:=of_decide_eq_true q;omega,fun q=>decide_eq_true oA⟩
def zqd(d:dp):qmh d=some (zp d):=by rw[zb0];rfl
abbrev zZ:cz:=([122],(0,(0,((0,(0,(0,0))),(0,(0,(0,0)))))))
def zfz(nm:Bs):mj (nm,(0,(0,((0,(0,(0,0))),(0,(0,(0,0)))))))=if oo nm=false then(10,-3) else(0,0):=by
 unfold mj;by_cases h:oo nm=false
 ·rw[qX h,qX h]
 ·rw[qW h,qW h,qW oC]
  rw[qX (by simp[ng]),qW oC,qW (by simp[qfd])]
def zpf(d:dp):(qeh zZ d).1=zp d:=by
 have:=zqe d zZ (by rw[zfz];decide)
 rw[zqd]at this;exact(qJ this).symm
def q96(e:bz)(he:qf e):vq FU e=some (li e):=by
 obtain⟨h1,h2,h3⟩:=he;have t5:∀b z,(b=true↔¬(0<=e.2.2.2.2.2.2.2.2.2.1/\e.2.2.2.2.2.2.2.2.2.1<=1000000))->qic FU b e z=some (if ¬(0<=e.2.2.2.2.2.2.2.2.2.1/\e.2.2.2.2.2.2.2.2.2.1<=1000000) then(3,-12) else if(ko e.2.2.2.2.2.2.2.2.2.2).1≠0 then((ko e.2.2.2.2.2.2.2.2.2.2).1,-13) else(0,0)):=fun b z hb=>by
  unfold qic;cases b
  ·rw[ak rfl,qW (fun q=>by have:=hb.2 q;cases this),zvy FU oD _,qB,oc,qB,ia]
   by_cases c:(ko e.2.2.2.2.2.2.2.2.2.2).1≠0
   ·rw[qX c,qX c];rfl
   ·rw[qW c,qW c];rfl
  ·rw[au rfl,qX (hb.1 rfl)];rfl
 have t4:∀z,qna FU e z=some (y4 e):=fun z=>by
  unfold qna qu0 y4;by_cases c:30<e.2.2.2.2.2.2.1.length
  ·rw[ao oA,qX c];rfl
  ·rw[bp,qW c]
   have g:=zor e.2.2.2.2.2.2.1 oA (0,0) FU [] _ rfl (Nat.lt_of_le_of_lt (show e.2.2.2.2.2.2.1.length<=30 by omega) oD)
   have g:qa1 FU FU e.2.2.2.2.2.2.1 e.2.2.2.2.2.2.1 (e.2.2.2.2.2.2.1.length:Int) 0 (0,0)=some (rh [] e.2.2.2.2.2.2.1):=g;rw[g,qB,oc,qB,ia];by_cases c:(rh [] e.2.2.2.2.2.2.1).1≠0
   ·rw[qX c,qX c]
   ·rw[qW c,qW c,q44 FU _ oN oL,qB,oc,qB,zfz]
    unfold evT;cases hn:oo e.2.2.2.2.2.2.2.1
    ·rw[qX rfl,qX rfl];rfl
    ·rw[qW oC,qW oC,ak,z5r FU oD _ oC (by simp[FU]),qB,oc,qB]
     rw[show(qeh ([122],(0,(0,((0,(0,(0,0))),(0,(0,(0,0))))))) e.2.2.2.2.2.2.2.2.1).1=zp e.2.2.2.2.2.2.2.2.1 from zpf _,ia]
     by_cases c:(zp e.2.2.2.2.2.2.2.2.1).1≠0
     ·rw[qX c,qX c];rfl
     ·rw[qW c,qW c];by_cases c:e.2.2.2.2.2.2.2.2.2.1<0
      ·rw[ao c];exact t5 _ _ ⟨fun _ q=>oA,fun _=>rfl⟩
      ·rw[bp c];exact t5 _ _ ⟨fun q=>by have:=of_decide_eq_true q;omega,fun q=>decide_eq_true oA⟩
 have t3:∀b z,qib FU b e z=some (if b=true then(10,-8) else y4 e):=fun b z=>by
  unfold qib;cases b
  ·rw[ak rfl,t4,qW oC]
  ·rw[au rfl,qX rfl];rfl
 have t2:∀b z,(b=true↔¬(0<=e.2.2.1/\e.2.2.1<=1000000))->qia FU b e z=some (if ¬(0<=e.2.2.1/\e.2.2.1<=1000000) then(3,-5) else
   if fv e.2.2.2.1≠0 then(fv e.2.2.2.1,-6) else if fv e.2.2.2.2.1≠0 then(fv e.2.2.2.2.1,-7) else if e.2.2.2.2.2.1≠[]/\ou e.2.2.2.2.2.1=false then(10,-8) else y4 e):=fun b z hb=>by
  unfold qia;cases b
  ·rw[ak rfl,qW (fun q=>by have:=hb.2 q;cases this),zfk,zfk]
   simp only[qB,ia];by_cases c:fv e.2.2.2.1≠0
   ·rw[qX c,qX c];rfl
   ·rw[qW c,qW c];by_cases c:fv e.2.2.2.2.1≠0
    ·rw[qX c,qX c];rfl
    ·rw[qW c,qW c];by_cases c:e.2.2.2.2.2.1=[]
     ·rw[ak (by simp[c]),t3,qW oC,qW (fun q=>q.1 c)]
     ·rw[au (by simp[c]),zbf,qB,t3]
      cases ou e.2.2.2.2.2.1
      ·rw[qX (c:=(!false)=true) rfl,qX ⟨c,rfl⟩]
      ·rw[qW (c:=(!true)=true) oC,qW oC]
  ·rw[au rfl,qX (hb.1 rfl)];rfl
 have t1:∀b z,(b=true↔¬(1<=e.2.1/\e.2.1<=5))->qh9 FU b e z=some (if ¬(1<=e.2.1/\e.2.1<=5) then(4,-4) else if ¬(0<=e.2.2.1/\e.2.2.1<=1000000) then(3,-5) else
   if fv e.2.2.2.1≠0 then(fv e.2.2.2.1,-6) else if fv e.2.2.2.2.1≠0 then(fv e.2.2.2.2.1,-7) else if e.2.2.2.2.2.1≠[]/\ou e.2.2.2.2.2.1=false then(10,-8) else y4 e):=fun b z hb=>by
  unfold qh9;cases b
  ·rw[ak rfl,qW (c:=¬(1<=e.2.1/\_)) (fun q=>by have:=hb.2 q;cases this)]
   by_cases c:e.2.2.1<0
   ·rw[ao c];exact t2 _ _ ⟨fun _ q=>oA,fun _=>rfl⟩
   ·rw[bp c];exact t2 _ _ ⟨fun q=>by have:=of_decide_eq_true q;omega,fun q=>decide_eq_true oA⟩
  ·rw[au rfl,qX (hb.1 rfl)];rfl
 have t0:∀b z,(b=true↔xp e.1=false)->qdq FU b e z=some (li e):=fun b z hb=>by
  unfold qdq li;cases b
  ·rw[ak rfl,qW (c:=xp e.1=false) (fun q=>by have:=hb.2 q;cases this)]
   by_cases c:e.2.1<1
   ·rw[ao c];exact t1 _ _ ⟨fun _ q=>oA,fun _=>rfl⟩
   ·rw[bp c];exact t1 _ _ ⟨fun q=>by have:=of_decide_eq_true q;omega,fun q=>decide_eq_true oA⟩
  ·rw[au rfl,qX (hb.1 rfl)];rfl
 unfold vq;by_cases c:e.1=[]
 ·rw[au (by simp[c])];exact t0 _ _ ⟨fun _=>by rw[c];rfl,fun _=>rfl⟩
 ·rw[ak (by simp[c])]
  have:1<=e.1.length:=by cases he:e.1 with|nil=>exact absurd he c|cons a b=>simp
  by_cases c:60<e.1.length
  ·rw[ao oA];exact t0 _ _ ⟨fun _=>by unfold xp;rw[decide_eq_false (p:=e.1.length<=60) oA,Bool.and_false];rfl,fun _=>rfl⟩
  ·rw[bp,zkn _,qB]
   refine t0 _ _ ?_;unfold xp;rw[decide_eq_true (p:=1<=e.1.length) this,decide_eq_true (p:=e.1.length<=60) oA]
   cases e.1.all uch<;>simp
def ztl:∀n:_root_.Fin 256,((UInt8.ofNat n.val&&&192) != 128)=(decide (n.val<128)||decide (192<=n.val)):=by decide +kernel
def q18(c:UInt8):((c&&&192) != 128)=(decide (c.toNat<128)||decide (192<=c.toNat)):=by
 have:=ztl ⟨c.toNat,c.toNat_lt⟩;simpa using this
def RC(c:Bs):Prop:=∃b t,c=b::t/\t.length<=3/\((b&&&192) != 128)=true/\∀x∈t,((x&&&192) != 128)=false
def qlc{n:Nat}(h:n<256:=by omega):(UInt8.ofNat n).toNat=n:=by simp[Nat.mod_eq_of_lt h]
def q1n{c:Nat}(h:ur c):RC (gg c):=by
 have co:∀k:Nat,((UInt8.ofNat (128+k%64)&&&192) != 128)=false:=fun k=>by
  have:k%64<64:=Nat.mod_lt _ oD
  rw[q18,qlc,Bool.or_eq_false_iff,decide_eq_false_iff_not,decide_eq_false_iff_not];omega
 have st:∀k:Nat,192<=k->k<256->((UInt8.ofNat k&&&192) != 128)=true:=fun k h1 h2=>by
  rw[q18,qlc h2,decide_eq_true h1,Bool.or_true]
 have hc:c<=1114111:=by rcases h with h|h<;>omega
 unfold gg;split
 ·refine⟨_,[],rfl,oC,?_,oC⟩
  rw[q18,qlc,decide_eq_true oA];rfl
 ·split
  ·refine⟨_,_,rfl,oC,st _ oA oA,fun x hx => ?_⟩
   simp only[wE,List.not_mem_nil,or_false]at hx;subst hx;exact co _
  ·split
   ·refine⟨_,_,rfl,oC,st _ oA oA,fun x hx => ?_⟩
    simp only[wE,List.not_mem_nil,or_false]at hx;rcases hx with rfl|rfl<;>exact co _
   ·refine⟨_,_,rfl,oC,st _ oA oA,fun x hx => ?_⟩
    simp only[wE,List.not_mem_nil,or_false]at hx;rcases hx with rfl|rfl|rfl<;>exact co _
def ic:Nat->List Bs->Bs|_,[]=>[13,10]|col,c::cs=>if 75<col+c.length then[13,10,32]++(c++ic (1+c.length) cs) else c++ic (col+c.length) cs
def zaj:∀(cs:List Bs)(col:Nat),col+cs.flatten.length<=75->ic col cs=cs.flatten++[13,10]
 |[],_,_=>rfl|c::cs,col,h=>by
  rw[List.flatten_cons,qM]at h;rw[ic,qW oA,zaj cs _ oA];simp
def zak:∀(cs:List Bs)(col:Nat)(c:Bs)(r:List Bs),col+cs.flatten.length<=75->75<col+cs.flatten.length+c.length->c.length<=4->ic col (cs++c::r)=cs.flatten++([13,10,32]++ic 1 (c::r))
 |[],col,c,r,h,h2,h4=>by
  rw[List.nil_append,ic,qX (by simpa using h2),ic,qW oA];simp
 |d::cs,col,c,r,h,h2,h4=>by
  rw[List.flatten_cons,qM]at h h2;rw[wK,ic,qW oA,zak cs _ c r oA oA h4];simp
def q9g:∀(cs:List Bs)(m:Nat),m<cs.flatten.length->∃a c r,cs=a++c::r/\a.flatten.length<=m/\m<a.flatten.length+c.length
 |[],m,h=>by simp at h|d::cs,m,h=>by
  rw[List.flatten_cons,qM]at h;by_cases q:m<d.length
  ·exact⟨[],d,cs,rfl,oC,by simpa using q⟩
  ·obtain⟨a,c,r,e,h1,h2⟩:=q9g cs (m-d.length) oA
   exact⟨d::a,c,r,by rw[e];rfl,by rw[List.flatten_cons,qM];omega,by rw[List.flatten_cons,qM];omega⟩
def q1o{c:Bs}(h:RC c):1<=c.length/\c.length<=4:=by
 obtain⟨b,t,rfl,h,_⟩:=h;rw[qL];omega
def znk(r0:Bs->Bs->Int->Option Bs)(ab t R out:Bs)(b:UInt8)(hb:((b&&&192) != 128)=true)(ht:∀x∈t,((x&&&192) != 128)=false)(hl:ab.length+t.length+R.length<=100000)(ho:out.length<=1000000):∀(j m:Nat),j<=t.length->j<m ->
  qdu FU r0 m (ab++(b::(t++R))) out ((ab.length+j:Nat):Int)=r0 (b::(t++R)) (out++(ab++[13,10,32])) 74:=by
 intro j
 induction j with
 |zero=>
  intro m _ hm;obtain⟨m,rfl⟩:∃k,m=k+1:=⟨m-1,oA⟩
  rw[qdu,qnb,Nat.add_zero,gx,qB];unfold qn5;rw[qB,hb,ak,ao ⟨oA,oM⟩]
  rw[show(ab.length:Int).toNat=ab.length by omega,List.take_left,List.drop_left,ao oI,ao oJ,ao ⟨oA,oM⟩]
 |succ j ih=>
  intro m hj hm;obtain⟨m,rfl⟩:∃k,m=k+1:=⟨m-1,oA⟩
  rw[qdu,qnb];have hjt:j<t.length:=oA
  rw[zf _ (ab.length+(j+1)) oP,qB]
  have e:(ab++(b::(t++R)))[ab.length+(j+1)]' oP=t[j]:=by
   rw[List.getElem_append_right oA]
   simp only[Nat.add_sub_cancel_left,List.getElem_cons_succ];rw[List.getElem_append_left hjt]
  rw[e];unfold qn5;rw[qB,ht _ (List.getElem_mem hjt),au,show af (((ab.length+(j+1):Nat):Int)-1)=((ab.length+j:Nat):Int) by rw[bw];omega]
  exact ih m oA oA
def znl(n:Nat):∀(cs:List Bs)(out:Bs)(col:Nat),cs.flatten.length<n->(∀c∈cs,RC c)->cs.flatten.length<=50000->out.length+4*cs.flatten.length<=1000000->(col=0\/col=1) ->
  qdt FU n cs.flatten out ((75-col:Nat):Int)=some (out++ic col cs):=by
 induction n with
 |zero=>intro cs out col h;omega|succ n ih=>
  intro cs out col h hc hl ho hcol;rw[qdt,qux];by_cases q:75-col<cs.flatten.length
  ·rw[ao oA]
   obtain⟨a,c,r,rfl,h1,h2⟩:=q9g cs (75-col) q;have hr:=hc c oC
   have l4:=q1o hr;have hr':=hr;obtain⟨b,t,rfl,t3,hb,ht⟩:=hr;simp only[List.flatten_append,List.flatten_cons,qM,qL]at h hl ho h1 h2 l4;have e:(a++(b::t)::r).flatten=a.flatten++(b::(t++r.flatten)):=oC
   have:=znk (qdt FU n) a.flatten t r.flatten out b hb ht oA oA (75-col-a.flatten.length) FU oA (Nat.lt_of_le_of_lt (show 75-col-a.flatten.length<=75 by omega) oD)
   rw[show a.flatten.length+(75-col-a.flatten.length)=75-col by omega]at this
   rw[e,this];have fl:((b::t)::r).flatten.length=1+t.length+r.flatten.length:=by rw[List.flatten_cons,qM,qL];omega
   have:=ih ((b::t)::r) (out++(a.flatten++[13,10,32])) 1 (by rw[fl];omega) (fun x hx=>hc x (by simp at hx ⊢;exact .inr hx)) (by rw[fl];omega) (by rw[fl];simp only[qM,qL,qZ];omega) (.inr rfl)
   rw[show((b::t)::r).flatten=b::(t++r.flatten) by simp]at this
   refine Eq.trans this ?_;rw[zak a col (b::t) r oA (by rw[qL];omega) (by rw[qL];omega)]
   simp
  ·rw[bp,ao (by simp only[bi];omega),ao oJ,zaj cs col oA]
   simp
def qcj(R:List Nat):(R.map gg).flatten=tx R:=by
 induction R with|nil=>rfl|cons c R ih=>rw[List.map_cons,List.flatten_cons,ih];rfl
def qy4(R:List Nat)(h:okT R)(hl:(tx R).length<=50000:=by omega):qif FU (tx R)=some (ic 0 (R.map gg)):=by
 have:=znl FU (R.map gg) [] 0 (by rw[qcj];exact Nat.lt_of_le_of_lt hl oD) (fun c hc=>by obtain⟨k,hk,rfl⟩:=List.mem_map.1 hc;exact q1n (h k hk)) (by rw[qcj];exact hl) (by rw[qcj];simp;omega) (.inl rfl)
 rw[qcj,List.nil_append]at this;exact this

def pos(s r:Bs):Int:=((s.length-r.length:Nat):Int)
open Go.Lib (decDigits nDigits itoa atoiAll parseUint10 parseMag NumEnd)
def qy3(d:Nat)(h:d<10:=by omega):(UInt8.ofNat (48+d)).toNat=48+d:=by
 rw[UInt8.toNat_ofNat'];omega
def qpu(u:Nat)(h:u<10):decDigits u=[UInt8.ofNat (48+u)]:=by rw[decDigits,dif_pos h]
def qps(u:Nat)(h:¬u<10):decDigits u=decDigits (u/10)++[UInt8.ofNat (48+u%10)]:=by rw[decDigits,dif_neg h]
def qpt(u:Nat):decDigits u≠[]:=by
 by_cases h:u<10
 ·rw[qpu u h];simp
 ·rw[qps u h];simp
def qe7(u:Nat):∀c∈decDigits u,48<=c.toNat/\c.toNat<=57:=by
 induction u using Nat.strongRecOn with
 |ind u ih=>
  intro c hc;by_cases h:u<10
  ·rw[qpu u h]at hc;rw[List.mem_singleton.1 hc,qy3 u h];omega
  ·rw[qps u h]at hc;rcases List.mem_append.1 hc with hc|hc
   ·exact ih (u/10) oA c hc
   ·rw[List.mem_singleton.1 hc,qy3 _];omega
def t7(k:Nat):∀u,u<10 ^ k->1<=k->(decDigits u).length<=k:=by
 induction k with
 |zero=>intro u _ h;omega|succ k ih=>
  intro u hu _;by_cases h:u<10
  ·rw[qpu u h];simp
  ·rw[qps u h,qM,wD];have hk:1<=k:=by
    rcases Nat.eq_zero_or_pos k with h0|h0
    ·subst h0;simp at hu;omega
    ·exact h0
   have:=ih (u/10) (by rw[Nat.pow_succ]at hu;omega) hk
   omega
def zrg:∀(l:Bs)(a:Nat)(c:UInt8),parseUint10 a (l++[c])=match parseUint10 a l with | .ok b=>parseUint10 b [c]|e=>e:=by
 intro l
 induction l with
 |nil=>intro a c;rfl|cons d l ih=>
  intro a c;rw[wK,parseUint10,parseUint10];by_cases h1:48<=d.toNat/\d.toNat<=57
  ·rw[qX h1,qX h1];by_cases h2:1844674407370955162<=a
   ·rw[qX h2,qX h2]
   ·rw[qW h2,qW h2];by_cases h3:18446744073709551616<=a*10+(d.toNat-48)
    ·rw[qX h3,qX h3]
    ·rw[qW h3,qW h3,ih]
  ·rw[qW h1,qW h1]
def zdb(u:Nat):u<9223372036854775808->parseUint10 0 (decDigits u) = .ok u:=by
 induction u using Nat.strongRecOn with
 |ind u ih=>
  intro hu;have step:∀a d,a*10+d=u->d<10->parseUint10 a [UInt8.ofNat (48+d)] = .ok u:=by
   intro a d h1 h2;rw[parseUint10,qy3 d h2,qX,qW oA,qW oA,parseUint10]
   congr 1;omega
  by_cases h:u<10
  ·rw[qpu u h];exact step 0 u oA h
  ·rw[qps u h,zrg,ih (u/10) oA oA]
   exact step (u/10) (u%10) oA oA
def zlb(u:Nat)(hu:u<9223372036854775808:=by omega):atoiAll (decDigits u) = .ok (u:Int):=by
 have hd:=qe7 u;have hp:=zdb u hu;have hne:=qpt u
 cases hl:decDigits u with
 |nil=>exact absurd hl hne|cons c r=>
  rw[hl]at hd hp;have hc:=hd c qH;unfold atoiAll;simp only[];rw[qW (c:=c.toNat=43\/c.toNat=45) oA,parseMag,qW oC,hp]
  simp only[];rw[qW oA,qW oA,qW oA]
def oh(u:Nat):itoa (u:Int)=decDigits u:=by unfold itoa;rw[qW oA];simp
end Go.Sym
namespace Go.Sym
open Go.Lib (decDigits itoa)
structure nw(e:bz):Prop where
 z:li e=(0,0)
 uid:xp e.1=true
 me:1<=e.2.1/\e.2.1<=5
 sq:0<=e.2.2.1/\e.2.2.1<=1000000
 su:fv e.2.2.2.1=0
 pl:fv e.2.2.2.2.1=0
 og:e.2.2.2.2.2.1=[]\/vz e.2.2.2.2.2.1
 gl:e.2.2.2.2.2.2.1.length<=30
 g:∀x∈e.2.2.2.2.2.2.1,vz x.1/\1<=x.2/\x.2<=4
 zn:oo e.2.2.2.2.2.2.2.1=true
 d:d7 e.2.2.2.2.2.2.2.2.1
 d0:e.2.2.2.2.2.2.2.2.1.2.2.2.2.2.2=0
 dy:3<=e.2.2.2.2.2.2.2.2.1.1/\e.2.2.2.2.2.2.2.2.1.1<=3998
 le:0<=e.2.2.2.2.2.2.2.2.2.1/\e.2.2.2.2.2.2.2.2.2.1<=1000000
 r:(ko e.2.2.2.2.2.2.2.2.2.2).1=0
def zar:∀(ab aa:List (Bs×Int)),(rh ab aa).1=0->∀x∈aa,vz x.1/\1<=x.2/\x.2<=4
 |_,[],_,x,hx=>by cases hx
 |ab,g::aa,h,x,hx=>by
  rw[rh]at h;by_cases c1:ou g.1=false
  ·rw[qX c1]at h;simp at h
  rw[qW c1]at h;by_cases c2:¬(1<=g.2/\g.2<=4)
  ·rw[qX c2]at h;simp at h
  rw[qW c2]at h;by_cases c3:ab.any (fun x=>x.1==g.1)=true
  ·rw[qX c3]at h;simp at h
  rw[qW c3]at h;rcases List.mem_cons.1 hx with rfl|hx
  ·exact⟨ze0 (by simpa using c1),Classical.not_not.1 c2⟩
  ·exact zar _ aa h x hx
def q98{e:bz}(h:(li e).1=0):nw e:=by
 have h0:=h;unfold li at h;by_cases c1:xp e.1=false
 ·rw[qX c1]at h;simp at h
 rw[qW c1]at h;by_cases c2:¬(1<=e.2.1/\e.2.1<=5)
 ·rw[qX c2]at h;simp at h
 rw[qW c2]at h;by_cases c3:¬(0<=e.2.2.1/\e.2.2.1<=1000000)
 ·rw[qX c3]at h;simp at h
 rw[qW c3]at h;by_cases c4:fv e.2.2.2.1≠0
 ·rw[qX c4]at h;exact absurd h c4
 rw[qW c4]at h;by_cases c5:fv e.2.2.2.2.1≠0
 ·rw[qX c5]at h;exact absurd h c5
 rw[qW c5]at h;by_cases c6:e.2.2.2.2.2.1≠[]/\ou e.2.2.2.2.2.1=false
 ·rw[qX c6]at h;simp at h
 rw[qW c6]at h;unfold y4 at h;by_cases c7:30<e.2.2.2.2.2.2.1.length
 ·rw[qX c7]at h;simp at h
 rw[qW c7]at h;by_cases c8:(rh [] e.2.2.2.2.2.2.1).1≠0
 ·rw[qX c8]at h;exact absurd h c8
 rw[qW c8]at h;unfold evT at h;by_cases c9:oo e.2.2.2.2.2.2.2.1=false
 ·rw[qX c9]at h;simp at h
 rw[qW c9]at h;by_cases ca:(zp e.2.2.2.2.2.2.2.2.1).1≠0
 ·rw[qX ca]at h;exact absurd h ca
 rw[qW ca]at h;by_cases cb:¬(0<=e.2.2.2.2.2.2.2.2.2.1/\e.2.2.2.2.2.2.2.2.2.1<=1000000)
 ·rw[qX cb]at h;simp at h
 rw[qW cb]at h;by_cases cc:(ko e.2.2.2.2.2.2.2.2.2.2).1≠0
 ·rw[qX cc]at h;exact absurd h cc
 have hd:d7 e.2.2.2.2.2.2.2.2.1/\e.2.2.2.2.2.2.2.2.1.2.2.2.2.2.2=0/\3<=e.2.2.2.2.2.2.2.2.1.1/\e.2.2.2.2.2.2.2.2.1.1<=3998:=by
  have ca:=Classical.not_not.1 ca;unfold zp at ca;by_cases d1:¬d7 e.2.2.2.2.2.2.2.2.1
  ·rw[qX d1]at ca;simp at ca
  rw[qW d1]at ca;by_cases d2:e.2.2.2.2.2.2.2.2.1.2.2.2.2.2.2≠0
  ·rw[qX d2]at ca;simp at ca
  rw[qW d2]at ca;by_cases d3:¬(3<=e.2.2.2.2.2.2.2.2.1.1/\e.2.2.2.2.2.2.2.2.1.1<=3998)
  ·rw[qX d3]at ca;simp at ca
  exact⟨Classical.not_not.1 d1,Classical.not_not.1 d2,Classical.not_not.1 d3⟩
 refine⟨?_,by simpa using c1,Classical.not_not.1 c2,Classical.not_not.1 c3,Classical.not_not.1 c4,Classical.not_not.1 c5,?_,oA,zar _ _ (Classical.not_not.1 c8),by simpa using c9,hd.1,hd.2.1,hd.2.2,Classical.not_not.1 cb,Classical.not_not.1 cc⟩
 ·unfold li y4 evT;rw[qW c1,qW c2,qW c3,qW c4,qW c5,qW c6,qW c7,qW c8,qW c9,qW ca,qW cb,qW cc]
 ·by_cases q:e.2.2.2.2.2.1=[]
  ·exact .inl q
  ·refine .inr (ze0 ?_);cases hs:ou e.2.2.2.2.2.1
   ·exact absurd ⟨q,hs⟩ c6
   ·rfl
def zj(n:Int)(h1 : -1000000000000<=n:=by omega)(h2:n<=1000000000000:=by omega):iz n=some (itoa n):=by
 unfold iz;rw[ao ⟨oA,oA⟩]
def qz6(u:Nat)(h:0<u:=by omega):itoa (-(u:Int))=45::decDigits u:=by
 unfold itoa;rw[qX];simp
def nj(n:Int)(h1 : -1000000000000<=n)(h2:n<=1000000000000):1<=(itoa n).length/\(itoa n).length<=14:=by
 have p:∀u:Nat,1<=(decDigits u).length:=fun u=>by
  have:=qpt u
  cases hd:decDigits u with|nil=>exact absurd hd this|cons a b=>simp
 rcases Int.lt_or_le n 0 with h|h
 ·obtain⟨u,rfl⟩:∃u:Nat,n = -(u:Int):=⟨n.natAbs,oA⟩
  rw[qz6 u,qL]
  have:=t7 13 u oA oA
  have:=p u;omega
 ·obtain⟨u,rfl⟩:∃u:Nat,n=(u:Int):=⟨n.natAbs,oA⟩
  rw[oh];have:=t7 13 u oA oA
  have:=p u;omega
def qb1(c:UInt8):Bool:=decide (48<=c.toNat/\c.toNat<=57)||c==45
def zbh(n:Int):∀c∈itoa n,qb1 c=true:=by
 rcases Int.lt_or_le n 0 with h|h
 ·obtain⟨u,rfl⟩:∃u:Nat,n = -(u:Int):=⟨n.natAbs,oA⟩
  rw[qz6 u]
  intro c hc;rcases List.mem_cons.1 hc with rfl|hc
  ·rfl
  ·unfold qb1;rw[decide_eq_true (qe7 u c hc)];rfl
 ·obtain⟨u,rfl⟩:∃u:Nat,n=(u:Int):=⟨n.natAbs,oA⟩
  rw[oh];intro c hc;unfold qb1;rw[decide_eq_true (qe7 u c hc)];rfl
def dz(l:List Int):Bs:=Lib.join (l.map itoa) [44]
def ik(x:Int):Prop := -1000000000000<=x/\x<=1000000000000
def zq2(l:List Int)(hl:l.length<=1000)(h:∀x∈l,ik x)(n:Nat):∀(ab aa:List Int),l=ab++aa->aa.length<n->qik FU n l (l.length:Int) (ab.length:Int) (ab.map itoa)=f6 (l.map itoa) [44]:=by
 induction n with
 |zero=>intro ab aa _ h;omega|succ n ih=>
  intro ab aa e hn;have hll:=congrArg List.length e;rw[qM]at hll;rw[qik,qu4]
  cases aa with
  |nil=>
   rw[List.append_nil]at e;rw[bp (by simp at hll;omega),← e]
   cases f6 (List.map itoa l) [44]<;>rfl
  |cons x aa=>
   simp only[qL]at hll hn;have hx:=h x (by rw[e];simp)
   rw[ao oA,show ap l (ab.length:Int)=some x by rw[e];exact gx _ _ _,qB,zj x hx.1 hx.2,qB,ao (rwl _ _ (by rw[wC];omega)),ce _]
   have:=ih (ab++[x]) aa (by rw[e];simp) oA
   rw[qM,wD,List.map_append]at this;exact this
def xh(l:List Int)(h:∀x∈l,ik x):(dz l).length<=15*l.length:=by
 have:=zbl [44] 14 (l.map itoa) (fun t ht=>by obtain⟨x,hx,rfl⟩:=List.mem_map.1 ht;exact(nj x (h x hx).1 (h x hx).2).2)
 rw[wC]at this;exact this
def q04(l:List Int)(hl:l.length<=1000)(h:∀x∈l,ik x):qd1 FU l=some (dz l):=by
 have:=xh l h;unfold qd1;have g:=zq2 l hl h FU [] l rfl (Nat.lt_of_le_of_lt hl oD)
 rw[show((([]:List Int).length:Nat):Int)=0 from rfl,List.map_nil]at g
 rw[g];unfold f6;rw[ao ⟨by rw[wC];omega,by unfold dz at this;omega⟩];rfl
def bf(n:Int)(k:Nat):Bs:=List.replicate (k-(itoa n).length) 48++itoa n
def qf1(n:Int)(k:Nat)(hk:k<=10)(h1:0<=n)(h2:n<=1000000000000):vu n (k:Int)=some (bf n k):=by
 have hl:=nj n oA h2
 unfold vu bf;rw[zj n oA h2,qB,bw]
 have e:(if(k:Int)-((itoa n).length:Int)>0 then(k:Int)-((itoa n).length:Int) else 0)=((k-(itoa n).length:Nat):Int):=by split<;>omega
 rw[e];unfold qd7;rw[ao ⟨oA,oA,oE⟩,qB,show((k-(itoa n).length:Nat):Int).toNat=k-(itoa n).length by omega]
 have r:Lib.repeatL [48] (k-(itoa n).length)=List.replicate (k-(itoa n).length) 48:=by
  have:=Lib.repeatL_replicate 48 1 (k-(itoa n).length);simpa using this
 rw[r,ao (by simp only[bi,List.length_replicate];omega)]
def jh(n:Int)(k:Nat)(hk:k<=10)(h1:0<=n)(h2:n<=1000000000000):(bf n k).length<=24:=by
 have hl:=nj n oA h2
 unfold bf;rw[qM,List.length_replicate];omega
def ov(d:dp):Bs:=((((((bf d.1 4++bf d.2.1 2)++bf d.2.2.1 2)++[84])++bf d.2.2.2.1 2)++bf d.2.2.2.2.1 2)++bf d.2.2.2.2.2.1 2)
def DtL(d:dp):Prop:=(0<=d.1/\d.1<=1000000000000)/\(0<=d.2.1/\d.2.1<=1000000000000)/\(0<=d.2.2.1/\d.2.2.1<=1000000000000)/\(0<=d.2.2.2.1/\d.2.2.2.1<=1000000000000)/\(0<=d.2.2.2.2.1/\d.2.2.2.2.1<=1000000000000)/\(0<=d.2.2.2.2.2.1/\d.2.2.2.2.2.1<=1000000000000)
def zup(d:dp)(h:DtL d):qnj d=some (ov d):=by
 obtain⟨a,b,c,x,y,z⟩:=h;have la:=jh d.1 4 oA a.1 a.2
 have lb:=jh d.2.1 2 oA b.1 b.2
 have lc:=jh d.2.2.1 2 oA c.1 c.2
 have lx:=jh d.2.2.2.1 2 oA x.1 x.2
 have ly:=jh d.2.2.2.2.1 2 oA y.1 y.2
 have lz:=jh d.2.2.2.2.2.1 2 oA z.1 z.2
 unfold qnj;rw[show(4:Int)=((4:Nat):Int) from rfl,show(2:Int)=((2:Nat):Int) from rfl,qf1 _ 4 oA a.1 a.2,qf1 _ 2 oA b.1 b.2,qf1 _ 2 oA c.1 c.2,qf1 _ 2 oA x.1 x.2,qf1 _ 2 oA y.1 y.2,qf1 _ 2 oA z.1 z.2]
 simp only[qB];rw[ao (by simp only[bi];omega),ao (by simp only[bi,qM];omega),ao oJ,ao oJ,ao oJ,ao oJ]
 rfl
def jq:List Bs:=[[80,85,66,76,73,83,72],[82,69,81,85,69,83,84],[82,69,80,76,89],[67,65,78,67,69,76],[67,79,85,78,84,69,82]]
def jk:List Bs:=[[87,65,73,84,83],[65,67,67,69,80,84,83],[68,69,67,76,73,78,69,83],[77,65,89,66,69]]
def lm:List Bs:=[[79,78,67,69],[68,65,73,76,89],[87,69,69,75,76,89],[77,79,78,84,72,76,89],[89,69,65,82,76,89]]
def zcf:qng=some jq:=rfl
def ze7:qnk=some jk:=rfl
def zap:qne=some lm:=rfl
def du(s:Bs):Bs:=ei 92 10 [92,92] [92,110] s
def qff(s:Bs):(du s).length<=3*s.length:=by
 have h1:=List.count_le_length (a:=(92:UInt8)) (l:=s);have h2:=List.count_le_length (a:=(10:UInt8)) (l:=s);have:(du s).length=_:=qfg (a:=92) (b:=10) oD 92 92 92 110 s
 unfold ib at this;omega
def q91(s:Bs)(h:s.length<=1000000:=by omega):qih s=some (du s):=by
 unfold qih;rw[show qiv ([([92]:Bs),([92,92]:Bs),([10]:Bs),([92,110]:Bs)]:List Bs)=some (0,0,0,[[92],[92,92],[10],[92,110]]) from rfl,qB]
 unfold tg;dsimp only;rw[ao ⟨rfl,rfl,oD,oA⟩];rfl
def p9(r:im):Bs:=if r.2.2.2.2.1=true then itoa r.2.2.2.1 else[]
def ot(r:im):Bs:=Lib.join [lm.getD r.1.toNat [],itoa r.2.1,itoa r.2.2.1,p9 r,dz r.2.2.2.2.2.1] [59]
structure RcL(r:im):Prop where
 f:0<=r.1/\r.1<=4
 e:ik r.2.1
 c:ik r.2.2.1
 u:r.2.2.2.2.1=true->ik r.2.2.2.1
 wl:r.2.2.2.2.2.1.length<=300
 w:∀x∈r.2.2.2.2.2.1,ik x
 xl:r.2.2.2.2.2.2.1.length<=300
 x:∀x∈r.2.2.2.2.2.2.1,ik x
 al:r.2.2.2.2.2.2.2.length<=300
 a:∀x∈r.2.2.2.2.2.2.2,ik x
def qzs{α:Type}(l:List α)(i:Nat)(d:α)(h:i<l.length):l[i]? = some (l.getD i d):=by
 rw[List.getElem?_eq_getElem h,List.getD_eq_getElem?_getD,List.getElem?_eq_getElem h];rfl
def zao(i:Nat):(lm.getD i []).length<=10:=by
 match i with
 |0|1|2|3|4=>decide
 |n+5=>simp[lm]
def q0l(i:Nat):(jq.getD i []).length<=10:=by
 match i with
 |0|1|2|3|4=>decide
 |n+5=>simp[jq]
def qrq(i:Nat):(jk.getD i []).length<=10:=by
 match i with
 |0|1|2|3=>decide
 |n+4=>simp[jk]
def q1s(r:im)(h:RcL r):(ot r).length<=6000:=by
 have u:(p9 r).length<=14:=by
  unfold p9;by_cases q:r.2.2.2.2.1=true
  ·rw[qX q];exact(nj _ (h.u q).1 (h.u q).2).2
  ·rw[qW q];simp
 have n:=xh _ h.w;have:=h.wl;have f:=zao r.1.toNat;have e:=(nj _ h.e.1 h.e.2).2;have c:=(nj _ h.c.1 h.c.2).2;unfold ot;rw[Lib.join_cons];simp only[Lib.joinTail,List.map_cons,List.map_nil,List.flatten_cons,List.flatten_nil,qM,qL,qZ];omega
def zsy(r:im)(h:RcL r):qni FU r=some (ot r):=by
 have hl:=q1s r h;have p0:∀s,s=p9 r->qim FU s r=some (ot r):=fun s hs=>by
  unfold qim;rw[zap,qB];have hf:=h.f;have hi:r.1.toNat<lm.length:=by show r.1.toNat<5;omega
  rw[ao ⟨oA,hi⟩,qzs lm _ [] hi,qB,zj _ h.e.1 h.e.2,zj _ h.c.1 h.c.2,q04 _ (by have:=h.wl;omega) h.w]
  simp only[qB];unfold f6;rw[hs];rw[ao ⟨oC,by
   have:(ot r).length<=140737488355328:=oA
   exact this⟩];rfl
 unfold qni;cases hu:r.2.2.2.2.1
 ·rw[ak rfl];exact p0 _ (by unfold p9;rw[hu];rfl)
 ·have:=h.u hu;rw[au rfl,zj _ this.1 this.2,qB];exact p0 _ (by unfold p9;rw[hu];rfl)
def rl(g:Bs×Int):Bs:=(([71,85,69,83,84,58]++jk.getD (g.2-1).toNat [])++[32])++g.1
def hdE(e:bz):List Bs:=[[66,69,71,73,78,58,69,86,69,78,84],[77,69,84,72,79,68,58]++jq.getD (e.2.1-1).toNat [],[85,73,68,58]++e.1,[83,69,81,85,69,78,67,69,58]++itoa e.2.2.1,[83,85,77,77,65,82,89,58]++du e.2.2.2.1,[80,76,65,67,69,58]++du e.2.2.2.2.1,[79,82,71,65,78,73,90,69,82,58]++e.2.2.2.2.2.1]
def tlE(e:bz):List Bs:=[[90,79,78,69,58]++e.2.2.2.2.2.2.2.1,[83,84,65,82,84,58]++ov e.2.2.2.2.2.2.2.2.1,[76,69,78,71,84,72,58]++itoa e.2.2.2.2.2.2.2.2.2.1,[82,69,80,69,65,84,58]++ot e.2.2.2.2.2.2.2.2.2.2,[69,88,67,69,80,84,58]++dz e.2.2.2.2.2.2.2.2.2.2.2.2.2.2.2.2.1,[65,68,68,58]++dz e.2.2.2.2.2.2.2.2.2.2.2.2.2.2.2.2.2,[69,78,68,58,69,86,69,78,84]]
def jf(e:bz):List Bs:=hdE e++e.2.2.2.2.2.2.1.map rl++tlE e
structure EvB(e:bz):Prop where
 ul:e.1.length<=60
 me:1<=e.2.1/\e.2.1<=5
 sq:ik e.2.2.1
 su:e.2.2.2.1.length<=500
 pl:e.2.2.2.2.1.length<=500
 og:e.2.2.2.2.2.1.length<=300
 gl:e.2.2.2.2.2.2.1.length<=30
 g:∀x∈e.2.2.2.2.2.2.1,x.1.length<=300/\1<=x.2/\x.2<=4
 zn:e.2.2.2.2.2.2.2.1.length<=60
 d:DtL e.2.2.2.2.2.2.2.2.1
 le:ik e.2.2.2.2.2.2.2.2.2.1
 r:RcL e.2.2.2.2.2.2.2.2.2.2
def zqb(e:bz)(he:EvB e)(hd:List Bs)(hhd:hd.length<=100)(n:Nat):∀(ab aa:List (Bs×Int)),e.2.2.2.2.2.2.1=ab++aa->aa.length<n->qij FU n e.2.2.2.2.2.2.1 (e.2.2.2.2.2.2.1.length:Int) (ab.length:Int) e (hd++ab.map rl)=some (hd++e.2.2.2.2.2.2.1.map rl++tlE e):=by
 have hgl:=he.gl
 induction n with
 |zero=>intro ab aa _ h;omega|succ n ih=>
  intro ab aa eg hn;have hll:=congrArg List.length eg;rw[qM]at hll;rw[qij,qu3]
  cases aa with
  |nil=>
   have l1:=he.zn;have l2:=(nj _ he.le.1 he.le.2).2;have l3:=q1s _ he.r;have l4:=xh _ he.r.x;have l5:=xh _ he.r.a;have x4:=he.r.xl;have x5:=he.r.al;have hst:=zup _ he.d;have l6:(ov e.2.2.2.2.2.2.2.2.1).length<=200:=by
    obtain⟨a,b,c,x,y,z⟩:=he.d;have la:=jh e.2.2.2.2.2.2.2.2.1.1 4 oA a.1 a.2
    have lb:=jh e.2.2.2.2.2.2.2.2.1.2.1 2 oA b.1 b.2
    have lc:=jh e.2.2.2.2.2.2.2.2.1.2.2.1 2 oA c.1 c.2
    have lx:=jh e.2.2.2.2.2.2.2.2.1.2.2.2.1 2 oA x.1 x.2
    have ly:=jh e.2.2.2.2.2.2.2.2.1.2.2.2.2.1 2 oA y.1 y.2
    have lz:=jh e.2.2.2.2.2.2.2.2.1.2.2.2.2.2.1 2 oA z.1 z.2
    unfold ov;simp only[qM,qL,qZ];omega
   rw[List.append_nil]at eg;rw[bp (by simp at hll;omega),ao oI,hst,qB,ao oI,zj _ he.le.1 he.le.2,qB,ao oI,zsy _ he.r,qB,ao oI,q04 _ oA he.r.x,qB,ao oI,q04 _ oA he.r.a,qB,ao oI,ao (by rw[← eg];simp only[aw,qM,wC,qL,qZ];omega),← eg]
   rfl
  |cons g aa=>
   simp only[qL]at hll hn;have hg:=he.g g (by rw[eg];simp)
   rw[ao oA,show ap e.2.2.2.2.2.2.1 (ab.length:Int)=some g by rw[eg];exact gx _ _ _,qB,ze7,qB,bw (x:=g.2-1) oA oA]
   have hi:(g.2-1).toNat<jk.length:=by show(g.2-1).toNat<4;omega
   have sl:=qrq (g.2-1).toNat;rw[ao ⟨oA,hi⟩,qzs jk _ [] hi,qB,ao oI,ao oJ,ao oJ,ao (rwl _ _ (by rw[qM,wC];omega)),ce _]
   have:=ih (ab++[g]) aa (by rw[eg];simp) oA
   rw[qM,wD,List.map_append,← qS]at this;exact this
def lnF(e:bz)(he:EvB e):qnf FU e=some (jf e):=by
 have hm:=he.me;have hi:(e.2.1-1).toNat<jq.length:=by show(e.2.1-1).toNat<5;omega
 have l0:=q0l (e.2.1-1).toNat;have l1:=he.ul;have l2:=(nj _ he.sq.1 he.sq.2).2;have l3:=qff e.2.2.2.1;have l4:=qff e.2.2.2.2.1;have l5:=he.su;have l6:=he.pl;have l7:=he.og;have gl:=he.gl;unfold qnf;rw[zcf,qB,bw (x:=e.2.1-1) oA oA,ao ⟨oA,hi⟩,qzs jq _ [] hi,qB,ao oI,ao oI,zj _ he.sq.1 he.sq.2,qB,ao oI,q91 _,qB,ao oI,q91 _,qB,ao oI,ao oI]
 have:=zqb e he (hdE e) (by simp[hdE]) FU [] e.2.2.2.2.2.2.1 rfl (Nat.lt_of_le_of_lt gl oD)
 rw[List.map_nil,List.append_nil]at this;exact this
def lg(s:Bs):Bs:=(qif FU s).getD []
def VL(s:Bs):Prop:=Lib.validD s=true/\s.length<=20000
def qzp:∀(cs:List Bs)(col:Nat),(∀c∈cs,1<=c.length)->(ic col cs).length<=4*cs.flatten.length+2
 |[],_,_=>by simp[ic]|c::cs,col,h=>by
  have h1:=h c qH;have h2:=qzp cs (1+c.length) (fun d hd=>h d (qE _ hd))
  have h3:=qzp cs (col+c.length) (fun d hd=>h d (qE _ hd))
  rw[ic,List.flatten_cons,qM];split
  ·simp only[qM,qL,qZ];omega
  ·simp only[qM];omega
def q2y{s:Bs}(h:VL s):∃R,okT R/\s=tx R:=qr0 s.length s (wF _) h.1
def q9o(s:Bs)(h:VL s):qif FU s=some (lg s)/\(lg s).length<=80002:=by
 obtain⟨R,hR,rfl⟩:=q2y h;have hl:=h.2;have e:=qy4 R hR
 refine⟨by unfold lg;rw[e];rfl,?_⟩
 have:=qzp (R.map gg) 0 (fun c hc=>by obtain⟨k,hk,rfl⟩:=List.mem_map.1 hc;exact(q1o (q1n (hR k hk))).1)
 rw[qcj]at this;unfold lg;rw[e,Option.getD_some];omega
def nt(e:bz):Bs:=(jf e).flatMap lg
def EvW(e:bz):Prop:=EvB e/\∀s∈jf e,VL s
def zwd(r1:List bz->Int->Int->(Int×Int)->Bs->Option (Bs×(Int×Int)))(l:List bz)(a b:Int)(z:Int×Int)(ls:List Bs)(hls:ls.length<=1000)(hv:∀s∈ls,VL s)(n:Nat):∀(ab aa:List Bs)(out:Bs),ls=ab++aa->aa.length<n->out.length+80002*aa.length<=3000000000 ->
  qie FU r1 n l a b (ls.length:Int) (ab.length:Int) z ls out=r1 l a (af (b+1)) z (out++aa.flatMap lg):=by
 induction n with
 |zero=>intro ab aa out _ h;omega|succ n ih=>
  intro ab aa out e hn ho;have hll:=congrArg List.length e;rw[qM]at hll;rw[qie,quw]
  cases aa with
  |nil=>rw[bp (by simp at hll;omega)];simp|cons s aa=>
   simp only[qL]at hll hn ho;obtain⟨h1,h2⟩:=q9o s (hv s (by rw[e];simp))
   rw[ao oA,ao ⟨oA,oA⟩,show ls[(ab.length:Int).toNat]? = some s by rw[e,show(ab.length:Int).toNat=ab.length by omega];simp,qB,h1,qB]
   unfold yi;rw[show qi out=some out from rfl,qB,ao (by simp only[aw,qM];omega),qB,ce _]
   have:=ih (ab++[s]) aa (out++lg s) (by rw[e];simp) oA oW
   rw[qM,wD]at this;rw[this,List.flatMap_cons,qS]
def zbw(e:bz)(he:EvB e):(jf e).length<=44:=by
 have:=he.gl;unfold jf hdE tlE;simp only[qM,wC,qL,qZ];omega
def zvi(e:bz)(he:EvW e):(nt e).length<=80002*44:=by
 have h1:=zbw e he.1;have:∀ls:List Bs,(∀s∈ls,VL s)->(ls.flatMap lg).length<=80002*ls.length:=by
  intro ls
  induction ls with
  |nil=>simp|cons s ls ih=>
   intro h;have a:=ih (fun t ht=>h t (qE _ ht))
   have b:=(q9o s (h s qH)).2;rw[List.flatMap_cons,qM,qL];omega
 have:=this (jf e) he.2;unfold nt;have:80002*(jf e).length<=80002*44:=Nat.mul_le_mul (wF _) h1;omega
def wrT(t:Bs):Bs×(Int×Int):=if 12000<t.length then([],(1,-2)) else(t,(0,0))
def zwc(l:List bz)(hl:l.length<=20)(hw:∀e∈l,EvW e)(z:Int×Int)(n:Nat):∀(ab aa:List bz)(out:Bs),l=ab++aa->aa.length<n->out.length+3520088*aa.length<=100000000 ->
  qds FU n l (l.length:Int) (ab.length:Int) z out=some (wrT (out++aa.flatMap nt)):=by
 induction n with
 |zero=>intro ab aa out _ h;omega|succ n ih=>
  intro ab aa out e hn ho;have hll:=congrArg List.length e;rw[qM]at hll;rw[qds,quv]
  cases aa with
  |nil=>
   rw[bp (by simp at hll;omega)]
   unfold qvu;rw[qB,List.flatMap_nil,List.append_nil];unfold wrT;by_cases c:12000<out.length
   ·rw[qX c,ao oA];rfl
   ·rw[qW c,bp];rfl
  |cons v aa=>
   simp only[qL]at hll hn ho;have hv:=hw v (by rw[e];simp)
   have ll:=zbw v hv.1;have tl:=zvi v hv;rw[ao oA,show ap l (ab.length:Int)=some v by rw[e];exact gx _ _ _,qB,lnF v hv.1,qB]
   have:=zwd (qds FU n) l (l.length:Int) (ab.length:Int) z (jf v) oA hv.2 FU [] (jf v) out rfl (Nat.lt_of_le_of_lt ll oD) oA
   rw[show((([]:List Bs).length:Nat):Int)=0 from rfl]at this
   rw[this,ce _]
   have:=ih (ab++[v]) aa (out++nt v) (by rw[e];simp) oA oW
   rw[qM,wD]at this;rw[List.flatMap_cons,← qS];exact this
noncomputable def tw:Nat->List bz->Option (Int×Int)|_,[]=>none|i,e::l=>if(li e).1≠0 then some ((li e).1,(i:Int)) else tw (i+1) l
noncomputable def wrR(l:List bz):Bs×(Int×Int):=if 20<l.length then([],(2,-1)) else match tw 0 l with|some f=>([],f)|none=>wrT (l.flatMap nt)
def zwb(l:List bz)(hl:l.length<=20)(hw:∀e∈l,qf e/\((li e).1=0->EvW e))(z:Int×Int)(n:Nat):∀(ab aa:List bz),l=ab++aa->aa.length<n->(∀e∈ab,(li e).1=0) ->
  qid FU n l l (l.length:Int) (ab.length:Int) z=some (match tw ab.length aa with|some f=>([],f)|none=>wrT (l.flatMap nt)):=by
 induction n with
 |zero=>intro ab aa _ h;omega|succ n ih=>
  intro ab aa e hn hp;have hll:=congrArg List.length e;rw[qM]at hll;rw[qid,quu]
  cases aa with
  |nil=>
   rw[List.append_nil]at e;rw[bp (by simp at hll;omega),tw]
   have:=zwc l hl (fun v hv=>(hw v hv).2 (hp v (by rw[← e];exact hv))) z FU [] l [] rfl (Nat.lt_of_le_of_lt hl oD) oE
   exact this
  |cons v aa=>
   simp only[qL]at hll hn;have hv:=hw v (by rw[e];simp)
   rw[ao oA,show ap l (ab.length:Int)=some v by rw[e];exact gx _ _ _,qB,q96 v hv.1,qB,oc,qB,ia,tw]
   by_cases c:(li v).1≠0
   ·rw[qX c,qX c];rfl
   ·rw[qW c,qW c,ce _]
    have:=ih (ab++[v]) aa (by rw[e];simp) oA (fun x hx=>by
     rcases List.mem_append.1 hx with hx|hx
     ·exact hp x hx
     ·rw[List.mem_singleton]at hx;subst hx;exact Classical.not_not.1 c)
    rw[qM,wD]at this;exact this
def zwg(l:List bz)(hw:∀e∈l,qf e/\((li e).1=0->EvW e)):qdr FU l=some (wrR l):=by
 unfold qdr wrR;by_cases c:20<l.length
 ·rw[ao oA,qX c];rfl
 ·rw[bp,qW c]
  exact zwb l oA hw (0,0) FU [] l rfl (Nat.lt_of_le_of_lt (show l.length<=20 by omega) oD) oC
end Go.Sym
namespace Go.Sym
open Go.Lib (decDigits itoa validD)
def vy(c:UInt8):Prop:=c.toNat<128/\c≠10/\c≠13
def db(s:Bs):Prop:=∀c∈s,vy c
instance(c:UInt8):Decidable (vy c):=by unfold vy;infer_instance
instance(s:Bs):Decidable (db s):=by unfold db;infer_instance
def ii{a b:Bs}(h:db a)(k:db b):db (a++b):=fun c hc=>by
 rcases List.mem_append.1 hc with hc|hc
 ·exact h c hc
 ·exact k c hc
def qb7{c:UInt8}{b:Bs}(h:vy c)(k:db b):db (c::b):=fun d hd=>by
 rcases List.mem_cons.1 hd with rfl|hd
 ·exact h
 ·exact k d hd
def qf4{c:UInt8}(h1:32<=c.toNat:=by omega)(h2:c.toNat<=126:=by omega):vy c:=⟨oA,fun e=>(by subst e;simp at h1),fun e=>(by subst e;simp at h1)⟩
def zrz{s:Bs}(h:∀c∈s,qb1 c=true):db s:=fun c hc=>by
 have:=h c hc;unfold qb1 at this;rw[Bool.or_eq_true,decide_eq_true_iff,beq_iff_eq]at this;rcases this with h|h
 ·exact qf4
 ·subst h;decide
def qb8(n:Int):db (itoa n):=zrz (zbh n)
def zdf{sep:Bs}(hs:db sep):∀l:List Bs,(∀x∈l,db x)->db (Lib.join l sep)
 |[],_=>fun c hc=>by cases hc
 |x::l,h=>by
  rw[Lib.join_cons];refine ii (h x qH) ?_;have:∀l:List Bs,(∀x∈l,db x)->db (Lib.joinTail sep l):=by
   intro l
   induction l with
   |nil=>intro _ c hc;cases hc
   |cons y l ih=>
    intro h;have e:Lib.joinTail sep (y::l)=(sep++y)++Lib.joinTail sep l:=by simp[Lib.joinTail]
    rw[e];exact ii (ii hs (h y qH)) (ih fun z hz=>h z (qE _ hz))
  exact this l fun z hz=>h z (qE _ hz)
def q1h(l:List Int):db (dz l):=zdf oD _ fun x hx=>by
 obtain⟨n,_,rfl⟩:=List.mem_map.1 hx;exact qb8 n
def qf5(n:Int)(k:Nat):db (bf n k):=by
 unfold bf;refine ii (fun c hc => ?_) (qb8 n)
 rw[(List.mem_replicate.1 hc).2];decide
def zr2(d:dp):db (ov d):=by
 unfold ov;exact ii (ii (ii (ii (ii (ii (qf5 _ _) (qf5 _ _)) (qf5 _ _)) oD) (qf5 _ _)) (qf5 _ _)) (qf5 _ _)
def zrx(i:Nat):db (lm.getD i []):=by
 match i with
 |0|1|2|3|4=>decide
 |n+5=>simp[lm,db]
def zry(i:Nat):db (jq.getD i []):=by
 match i with
 |0|1|2|3|4=>decide
 |n+5=>simp[jq,db]
def zr1(i:Nat):db (jk.getD i []):=by
 match i with
 |0|1|2|3=>decide
 |n+4=>simp[jk,db]
def zr0(r:im):db (ot r):=by
 unfold ot;refine zdf oD _ fun x hx => ?_
 simp only[wE,List.not_mem_nil,or_false]at hx;rcases hx with rfl|rfl|rfl|rfl|rfl
 ·exact zrx _
 ·exact qb8 _
 ·exact qb8 _
 ·unfold p9;split
  ·exact qb8 _
  ·intro c hc;cases hc
 ·exact q1h _
def zdh{s:Bs}(h:xp s=true):db s/\1<=s.length/\s.length<=60:=by
 unfold xp at h;simp only[qA,decide_eq_true_iff,List.all_eq_true]at h;refine⟨fun c hc => ?_,h.1.1,h.1.2⟩
 have:=h.2 c hc;unfold uch at this;rw[qA,decide_eq_true_iff,decide_eq_true_iff,UInt8.le_iff_toNat_le,UInt8.le_iff_toNat_le]at this;have h1:33<=c.toNat:=this.1;have h2:c.toNat<=126:=this.2;exact qf4
def zme:∀n:_root_.Fin 256,chB (UInt8.ofNat n.val)=true->vy (UInt8.ofNat n.val):=by decide +kernel
def zdg{s:Bs}(h:oo s=true):db s/\s.length<=60:=by
 unfold oo at h;simp only[qA,decide_eq_true_iff,List.all_eq_true]at h;exact⟨fun c hc=>ww (fun c=>chB c=true->vy c) zme c (h.2 c hc),h.1.2⟩
def zno:∀n:_root_.Fin 256,ub (UInt8.ofNat n.val)=true->vy (UInt8.ofNat n.val):=by decide +kernel
def qq1{s:Bs}(h:vz s):db s/\s.length<=300:=by
 refine⟨?_,by have:=zuh h;omega⟩
 obtain⟨l,d,hl,hd,rfl⟩:=h;have pl:db l:=fun c hc=>by
  unfold uj at hl;simp only[qA,decide_eq_true_iff,List.all_eq_true]at hl;have:=hl.2 c hc;unfold qfx at this;rw[qA,decide_eq_true_iff,decide_eq_true_iff,UInt8.le_iff_toNat_le,UInt8.le_iff_toNat_le]at this;have h1:32<=c.toNat:=this.1;have h2:c.toNat<=126:=this.2;exact qf4
 have pd:db d:=fun c hc=>by
  unfold uc at hd;rw[qA]at hd;rcases (qy6 hd.2).2 c hc with h|h
  ·exact ww (fun c=>ub c=true->vy c) zno c h
  ·subst h;decide
 have pq:∀w:Bs,db w->db (w8 w):=by
  intro w
  induction w with
  |nil=>intro _ c hc;cases hc
  |cons x w ih=>
   intro h;have:=ih (fun c hc=>h c (qE _ hc))
   rw[zn8];refine ii ?_ this;cases x==34||x==92
   ·exact qb7 (h x qH) oD
   ·exact qb7 oD (qb7 (h x qH) oD)
 unfold mc;cases jc pb true l
 ·exact ii (ii (qb7 oD (ii (pq l pl) oD)) oD) pd
 ·exact ii (ii pl oD) pd
def qry:∀s:Bs,(∀c∈s,c.toNat<128)->validD s=true
 |[],_=>rfl|c::s,h=>by
  rw[Lib.validD_cons c s (h c qH)];exact qry s fun d hd=>h d (qE _ hd)
def zf8{a b:Bs}(h:validD a=true)(k:validD b=true):validD (a++b)=true:=by
 obtain⟨R,hR,rfl⟩:=qr0 a.length a (wF _) h;obtain⟨S,hS,rfl⟩:=qr0 b.length b (wF _) k;rw[← zvh];exact q2w _ fun c hc=>by
  rcases List.mem_append.1 hc with hc|hc
  ·exact hR c hc
  ·exact hS c hc
def zvz{s:Bs}(h:db s)(hl:s.length<=20000):VL s:=⟨qry s fun c hc=>(h c hc).1,hl⟩
def zn2{c:Nat}(h:128<=c)(hc:ur c):∀x∈gg c,128<=x.toNat:=by
 have hc:c<=1114111:=by rcases hc with h|h<;>omega
 have f:∀n:Nat,128<=n->n<256->128<=(UInt8.ofNat n).toNat:=fun n h1 h2=>by rw[qlc h2];exact h1
 intro x hx;unfold gg at hx;rw[qW oA]at hx
 split at hx
 ·simp only[wE,List.not_mem_nil,or_false]at hx;rcases hx with rfl|rfl<;>exact f _ oA oA
 ·split at hx
  ·simp only[wE,List.not_mem_nil,or_false]at hx;rcases hx with rfl|rfl|rfl<;>exact f _ oA oA
  ·simp only[wE,List.not_mem_nil,or_false]at hx;rcases hx with rfl|rfl|rfl|rfl<;>exact f _ oA oA
def qp5(c:UInt8)(w:Bs):du (c::w)=(if c=92 then[92,92] else if c=10 then[92,110] else[c])++du w:=rfl
def zn9(a b:Bs):du (a++b)=du a++du b:=qkd _ _ _ _ _ _
def q92:∀w:Bs,(∀x∈w,128<=x.toNat)->du w=w
 |[],_=>rfl|c::w,h=>by
  have hc:=h c qH;rw[qp5,qW (fun e=>by subst e;simp at hc),qW (fun e=>by subst e;simp at hc),q92 w fun x hx=>h x (qE _ hx)]
  rfl
def q94:∀R:List Nat,okT R->validD (du (tx R))=true
 |[],_=>rfl|c::R,h=>by
  obtain⟨hc,hR⟩:=zc4 h;rw[qlu,zn9];refine zf8 ?_ (q94 R hR);rcases Nat.lt_or_ge c 128 with h|h
  ·have:gg c=[UInt8.ofNat c]:=by unfold gg;rw[qX h]
   rw[this,qp5,show du []=[] from rfl,List.append_nil]
   split
   ·rfl
   ·split
    ·rfl
    ·exact qry _ fun x hx=>by rw[List.mem_singleton]at hx;subst hx;rw[qlc];exact h
  ·rw[q92 _ (zn2 h hc)];have:=q2w [c] (fun d hd=>by rw[List.mem_singleton]at hd;subst hd;exact hc)
   rw[qlu,zfw,List.append_nil]at this;exact this
def qlt{s:Bs}(h:fv s=0):s.length<=500/\validD s=true/\13∉s:=by
 unfold fv at h;by_cases c1:500<s.length
 ·rw[qX c1]at h;cases h
 rw[qW c1]at h;by_cases c2:validD s=false
 ·rw[qX c2]at h;cases h
 rw[qW c2]at h;by_cases c3:s.contains 13=true
 ·rw[qX c3]at h;cases h
 exact⟨oA,by simpa using c2,by simpa using c3⟩
def zob{s:Bs}(h:fv s=0):validD (du s)=true:=by
 obtain⟨_,h2,_⟩:=qlt h;obtain⟨R,hR,rfl⟩:=qr0 s.length s (wF _) h2;exact q94 R hR
def q93:∀s:Bs,13∉s->∀c∈du s,c≠10/\c≠13
 |[],_,c,hc=>by cases hc
 |x::s,h3,c,hc=>by
  rw[qp5]at hc;rcases List.mem_append.1 hc with hc|hc
  ·split at hc
   ·simp only[wE,List.not_mem_nil,or_false,or_self]at hc;subst hc;decide
   ·split at hc
    ·simp only[wE,List.not_mem_nil,or_false]at hc;rcases hc with rfl|rfl<;>decide
    ·rename_i q1 q2;rw[List.mem_singleton]at hc;subst hc;exact⟨q2,fun e=>h3 (by rw[e];exact qH)⟩
  ·exact q93 s (fun q=>h3 (qE _ q)) c hc
def zoa{s:Bs}(h:fv s=0):∀c∈du s,c≠10/\c≠13:=q93 s (qlt h).2.2
def LnB(s:Bs):Prop:=VL s/\(∀c∈s,c≠10/\c≠13)/\∃c r,s=c::r/\65<=c.toNat/\c.toNat<=90
def qqp{c:UInt8}{s:Bs}(h1:65<=c.toNat)(h2:c.toNat<=90)(h:db s)(hl:s.length<=19999):LnB (c::s):=
 ⟨zvz (qb7 (qf4) h) (by rw[qL];omega),fun d hd=>(qb7 (qf4) h d hd).2,c,s,rfl,h1,h2⟩
def zby{c:UInt8}{p s:Bs}(h1:65<=c.toNat)(h2:c.toNat<=90)(hp:db p)(hl:p.length<=100)(h:fv s=0):LnB (c::(p++du s)):=by
 have hc:=qb7 (c:=c) (qf4) hp
 have l:=qff s;have ls:=(qlt h).1;refine⟨⟨?_,?_⟩,?_,c,_,rfl,h1,h2⟩
 ·rw[← wK];exact zf8 (qry _ fun d hd=>(hc d hd).1) (zob h)
 ·rw[qL,qM];omega
 ·rw[← wK];intro d hd;rcases List.mem_append.1 hd with hd|hd
  ·exact(hc d hd).2
  ·exact zoa h d hd
def q1p{r:im}(h:(ko r).1=0):RcL r/\r.2.2.2.2.2.1.length<=7:=by
 obtain⟨_,k,kx,ka⟩:=zek r h;have tb:∀x,uz x=true->ik x:=fun x hx=>by
  have:=of_decide_eq_true hx;exact⟨oA,oA⟩
 unfold ko at h;by_cases c1:¬(0<=r.1/\r.1<=4)
 ·rw[qX c1]at h;simp at h
 rw[qW c1]at h;by_cases c2:¬(1<=r.2.1/\r.2.1<=100)
 ·rw[qX c2]at h;simp at h
 rw[qW c2]at h;by_cases c3:¬(0<=r.2.2.1/\r.2.2.1<=1500)
 ·rw[qX c3]at h;simp at h
 rw[qW c3]at h;by_cases c4:r.2.2.2.2.1=true/\¬(-68719476736<=r.2.2.2.1/\r.2.2.2.1<=68719476736)
 ·rw[qX c4]at h;simp at h
 rw[qW c4]at h;by_cases c5:r.2.2.2.2.1=false/\r.2.2.2.1≠0
 ·rw[qX c5]at h;simp at h
 rw[qW c5]at h;by_cases c6:(mg r).1≠0
 ·rw[qX c6]at h;exact absurd h c6
 have c6':=Classical.not_not.1 c6;have hw:∀x∈r.2.2.2.2.2.1,ik x:=by
  unfold mg at c6';by_cases q:0<r.2.2.2.2.2.1.length/\r.1≠2
  ·rw[qX q]at c6';simp at c6'
  ·rw[qW q,qj4]at c6';obtain⟨_,i2,_⟩:=qlp vb _ none c6';intro x hx;have:=of_decide_eq_true (i2 x hx);exact⟨oA,oA⟩
 have e1:=k.e1;have e2:=k.e2;have k1:=k.c1;have k2:=k.c2;have wl:=k.wl;refine⟨⟨⟨k.f1,k.f2⟩,⟨oA,oA⟩,⟨oA,oA⟩,fun q => ?_,oA,hw,k.xl,fun x hx=>tb x (kx x hx),k.al,fun x hx=>tb x (ka x hx)⟩,wl⟩
 have : -68719476736<=r.2.2.2.1/\r.2.2.2.1<=68719476736:=Classical.not_not.1 fun c=>c4 ⟨q,c⟩
 exact⟨oA,oA⟩
def qp6{e:bz}(h:nw e):EvB e:=by
 have sq:=h.sq;have le:=h.le;refine⟨(zdh h.uid).2.2,h.me,⟨oA,oA⟩,(qlt h.su).1,(qlt h.pl).1,?_,h.gl,fun x hx => ?_,(zdg h.zn).2,?_,⟨oA,oA⟩,(q1p h.r).1⟩
 ·rcases h.og with q|q
  ·rw[q];simp
  ·exact(qq1 q).2
 ·obtain⟨g1,g2⟩:=h.g x hx;exact⟨(qq1 g1).2,g2⟩
 ·obtain⟨⟨a1,a2,b1,b2,c1,c2⟩,x1,x2,y1,y2,z1,z2,_⟩:=h.d;have:Cal.dim e.2.2.2.2.2.2.2.2.1.1 e.2.2.2.2.2.2.2.2.1.2.1<=31:=(Cal.dim_bd _ _).2;exact⟨⟨oA,oA⟩,⟨oA,oA⟩,⟨oA,oA⟩,⟨oA,oA⟩,⟨oA,oA⟩,⟨oA,oA⟩⟩
def ui{c:UInt8}{s:Bs}(p:Bs)(h1:65<=c.toNat)(h2:c.toNat<=90)(hp:db p)(h:db s)(hl:p.length+s.length<=19999):LnB (c::(p++s)):=
 qqp h1 h2 (ii hp h) (by rw[qM];exact hl)
def q0e{e:bz}(h:nw e):∀s∈jf e,LnB s:=by
 have hb:=qp6 h;intro s hs;unfold jf at hs;have l2:=(nj _ hb.sq.1 hb.sq.2).2;have l3:=(nj _ hb.le.1 hb.le.2).2;have l4:=q1s _ hb.r;have l5:=xh _ hb.r.x;have l6:=xh _ hb.r.a;have x5:=hb.r.xl;have x6:=hb.r.al;have l7:=hb.og;have l8:=hb.zn;have l9:=hb.ul;have l0:=q0l (e.2.1-1).toNat;rcases List.mem_append.1 hs with hs|hs
 ·rcases List.mem_append.1 hs with hs|hs
  ·unfold hdE at hs;simp only[wE,List.not_mem_nil,or_false]at hs;rcases hs with rfl|rfl|rfl|rfl|rfl|rfl|rfl
   ·exact qqp oD oD oD oD
   ·exact ui [69,84,72,79,68,58] oD oD oD (zry _) oH
   ·exact ui [73,68,58] oD oD oD (zdh h.uid).1 oH
   ·exact ui [69,81,85,69,78,67,69,58] oD oD oD (qb8 _) oH
   ·exact zby (p:=[85,77,77,65,82,89,58]) oD oD oD oD h.su
   ·exact zby (p:=[76,65,67,69,58]) oD oD oD oD h.pl
   ·refine ui [82,71,65,78,73,90,69,82,58] oD oD oD ?_ oH
    rcases h.og with q|q
    ·rw[q];intro c hc;cases hc
    ·exact(qq1 q).1
  ·obtain⟨g,hg,rfl⟩:=List.mem_map.1 hs;have hgb:=(hb.g g hg).1;have hl:=qrq (g.2-1).toNat;have:=qqp (c:=71) (s:=(([85,69,83,84,58]++jk.getD (g.2-1).toNat [])++[32])++g.1) oD oD (ii (ii (ii oD (zr1 _)) oD) (qq1 (h.g g hg).1).1) oF
   exact this
 ·unfold tlE at hs;simp only[wE,List.not_mem_nil,or_false]at hs;have l6':(ov e.2.2.2.2.2.2.2.2.1).length<=200:=by
   obtain⟨a,b,c,x,y,z⟩:=hb.d;have la:=jh e.2.2.2.2.2.2.2.2.1.1 4 oA a.1 a.2
   have lb:=jh e.2.2.2.2.2.2.2.2.1.2.1 2 oA b.1 b.2
   have lc:=jh e.2.2.2.2.2.2.2.2.1.2.2.1 2 oA c.1 c.2
   have lx:=jh e.2.2.2.2.2.2.2.2.1.2.2.2.1 2 oA x.1 x.2
   have ly:=jh e.2.2.2.2.2.2.2.2.1.2.2.2.2.1 2 oA y.1 y.2
   have lz:=jh e.2.2.2.2.2.2.2.2.1.2.2.2.2.2.1 2 oA z.1 z.2
   unfold ov;simp only[qM,qL,qZ];omega
  rcases hs with rfl|rfl|rfl|rfl|rfl|rfl|rfl
  ·exact ui [79,78,69,58] oD oD oD (zdg h.zn).1 oH
  ·exact ui [84,65,82,84,58] oD oD oD (zr2 _) oH
  ·exact ui [69,78,71,84,72,58] oD oD oD (qb8 _) oH
  ·exact ui [69,80,69,65,84,58] oD oD oD (zr0 _) oH
  ·exact ui [88,67,69,80,84,58] oD oD oD (q1h _) oH
  ·exact ui [68,68,58] oD oD oD (q1h _) oH
  ·exact qqp oD oD oD oD
def zod{e:bz}(h:nw e):EvW e:=⟨qp6 h,fun s hs=>(q0e h s hs).1⟩
def zwh(l:List bz)(hw:∀e∈l,qf e):qdr FU l=some (wrR l):=
 zwg l fun e he=>⟨hw e he,fun h=>zod (q98 h)⟩
def q84:∀(i:Nat)(l:List bz),tw i l=none->∀e∈l,nw e
 |_,[],_,e,he=>by cases he
 |i,x::l,h,e,he=>by
  rw[tw]at h;by_cases c:(li x).1≠0
  ·rw[qX c]at h;cases h
  rw[qW c]at h;rcases List.mem_cons.1 he with rfl|he
  ·exact q98 (Classical.not_not.1 c)
  ·exact q84 _ l h e he
def q85:∀(i:Nat)(l:List bz)(f:Int×Int),tw i l=some f->f.1≠0
 |_,[],f,h=>by cases h
 |i,x::l,f,h=>by
  rw[tw]at h;by_cases c:(li x).1≠0
  ·rw[qX c]at h;cases h;exact c
  rw[qW c]at h;exact q85 _ l f h
def zwe(l:List bz):((wrR l).2.1≠0/\(wrR l).1=[])\/(wrR l=(l.flatMap nt,(0,0))/\l.length<=20/\(∀e∈l,nw e)/\(l.flatMap nt).length<=12000):=by
 unfold wrR;by_cases c:20<l.length
 ·rw[qX c];exact .inl ⟨oD,rfl⟩
 rw[qW c]
 cases hc:tw 0 l with
 |some f=>exact .inl ⟨q85 0 l f hc,rfl⟩|none=>
  unfold wrT;by_cases c2:12000<(l.flatMap nt).length
  ·rw[qX c2];exact .inl ⟨oD,rfl⟩
  ·rw[qW c2];exact .inr ⟨rfl,oA,q84 0 l hc,oA⟩
end Go.Sym
namespace Go.Sym
open Go.Lib (decDigits itoa atoiAll)
def qqv(u:Bs)(me sq:Int)(su pl og zn:Bs)(y mo da hh mi ss tz le fr ev co un:Int)(hu go:Bool)(gs:List (Bs×Int))(wd ex ad:List Int):vt true u me sq su pl og zn y mo da hh mi ss tz le fr ev co un hu go gs wd ex ad=some (u,me,sq,su,pl,og,zn,y,mo,da,hh,mi,ss,tz,le,fr,ev,co,un,hu,go,gs,wd,ex,ad):=by cases go<;>rfl
def yw(n:Nat)(h:n<=1000000000000)(u:Bs)(me sq:Int)(su pl og zn:Bs)(y mo da hh mi ss tz le fr ev co un:Int)(hu go:Bool)(gs:List (Bs×Int))(wd ex ad:List Int):qk FU (decDigits n) u me sq su pl og zn y mo da hh mi ss tz le fr ev co un hu go gs wd ex ad=some ((n:Int),(u,me,sq,su,pl,og,zn,y,mo,da,hh,mi,ss,tz,le,fr,ev,co,un,hu,go,gs,wd,ex,ad)):=by
 have hl:=t7 13 n oA oA
 unfold qk vk wq;rw[ao oA,qB,zlb n]
 show qig FU (decDigits n) (n:Int) u me sq su pl og zn y mo da hh mi ss tz le fr ev co un hu go gs wd ex ad=_;unfold qig;rw[ao oA,zj _,qB,oh,beq_self_eq_true,qqv];rfl
def zm0(c:UInt8)(w:Bs)(h:w.length<=1000000:=by omega):qa5 (c::w) [c]=some (w,true):=by
 unfold qa5 qm7 qdo;rw[ao oH,ao ⟨oC,oH⟩]
 simp only[qL,qZ];rw[show List.take ((0+1:Nat):Int).toNat (c::w)=[c] from rfl]
 simp;exact ao oA
def zm1(c d:UInt8)(w:Bs)(h:w.length<=1000000)(hc:d≠c):qa5 (d::w) [c]=some (d::w,false):=by
 unfold qa5 qm7 qdo;rw[ao oH,ao ⟨oC,oH⟩]
 simp only[qL,qZ];rw[show List.take ((0+1:Nat):Int).toNat (d::w)=[d] from rfl,show([d]==[c])=false by simp[hc]]
 rfl
def q2t(x:Int)(h:ik x)(u:Bs)(me sq:Int)(su pl og zn:Bs)(y mo da hh mi ss tz le fr ev co un:Int)(hu go:Bool)(gs:List (Bs×Int))(wd ex ad:List Int):qd0 FU (itoa x) u me sq su pl og zn y mo da hh mi ss tz le fr ev co un hu go gs wd ex ad=some (x,(u,me,sq,su,pl,og,zn,y,mo,da,hh,mi,ss,tz,le,fr,ev,co,un,hu,go,gs,wd,ex,ad)):=by
 obtain⟨h1,h2⟩:=h;unfold qd0;rcases Int.lt_or_le x 0 with q|q
 ·obtain⟨n,rfl⟩:∃n:Nat,x = -(n:Int):=⟨x.natAbs,oA⟩
  have hl:=t7 13 n oA oA
  rw[qz6 n,zm0 45 _,qB,au rfl,yw n oA,qB]
  rw[show(((n:Int)) != 0)=true by simp;omega,qqv,qB,bw,show 0-(n:Int) = -(n:Int) by omega]
 ·obtain⟨n,rfl⟩:∃n:Nat,x=(n:Int):=⟨x.natAbs,oA⟩
  have hl:=t7 13 n oA oA
  have hd:=qe7 n;rw[oh];have hc:qa5 (decDigits n) [45]=some (decDigits n,false):=by
   cases hs:decDigits n with
   |nil=>exact absurd hs (qpt n)|cons d w=>
    rw[hs]at hd hl;exact zm1 45 d w (by rw[qL]at hl;omega) (fun e=>by have:=hd d qH;subst e;simp at this)
  rw[hc,qB,ak rfl,yw n oA];rfl
def ixS(c:UInt8)(w r:Bs)(h:∀x∈w,x≠c)(hl:(w++c::r).length<=1000000:=by omega):eu (w++c::r) [c]=some (w.length:Int):=by
 unfold eu ju;rw[ao oA,qB,ixc c w r h]
def ixN(c:UInt8)(w:Bs)(h:∀x∈w,x≠c)(hl:w.length<=1000000:=by omega):eu w [c]=some (-1):=by
 unfold eu ju;rw[ao oA,qB,ixn c w h]
def qfq{c:UInt8}(h:qb1 c=false)(n:Int):∀x∈itoa n,x≠c:=fun x hx e=>by
 have:=zbh n x hx;rw[e,h]at this;cases this
def qbt(s a b:Bs)(l:List Bs):Lib.join (a::b::l) s=a++(s++Lib.join (b::l) s):=by
 rw[Lib.join_cons,Lib.join_cons];simp[Lib.joinTail]
def zp6(r:List Int):∀(x:Int)(acc:List Int)(n:Nat)(u:Bs)(me sq:Int)(su pl og zn:Bs)(y mo da hh mi ss tz le fr ev co un:Int)(hu go:Bool)(gs:List (Bs×Int))(wd ex ad:List Int),r.length<n->acc.length+r.length<=1000->(∀z∈x::r,0<=z/\z<=1000000000000)->(Lib.join ((x::r).map itoa) [44]).length<=100000 ->
  ∃s,qea FU n [44] (Lib.join ((x::r).map itoa) [44]) 0 u me sq su pl og zn y mo da hh mi ss tz le fr ev co un hu go acc gs wd ex ad=some ([44],s,0,(u,me,sq,su,pl,og,zn,y,mo,da,hh,mi,ss,tz,le,fr,ev,co,un,hu,go,acc++x::r,gs,wd,ex,ad)):=by
 induction r with
 |nil=>
  intro x acc n u me sq su pl og zn y mo da hh mi ss tz le fr ev co un hu go gs wd ex ad hn ha h hl;obtain⟨n,rfl⟩:∃k,n=k+1:=⟨n-1,oA⟩
  rw[qea,qi2];simp only[List.map_cons,List.map_nil,Lib.join_one]at hl ⊢;rw[ixN 44 _ (qfq rfl x),qB,ao oD]
  unfold qax;obtain⟨k,hk⟩:∃k:Nat,x=k:=⟨x.toNat,by have:=h x qH;omega⟩
  have hx:itoa x=decDigits k:=by rw[hk,oh]
  have hk2:k<=1000000000000:=by have:=h x qH;omega
  rw[hx,yw k hk2,← hk,← hx];rw[qB,ao oK,qB]
  exact⟨itoa x,rfl⟩
 |cons b2 r ih=>
  intro x acc n u me sq su pl og zn y mo da hh mi ss tz le fr ev co un hu go gs wd ex ad hn ha h hl;obtain⟨n,rfl⟩:∃k,n=k+1:=⟨n-1,oA⟩
  rw[qea,qi2];have e:Lib.join ((x::b2::r).map itoa) [44]=itoa x++44::Lib.join ((b2::r).map itoa) [44]:=by simp only[List.map_cons];rw[qbt];rfl
  rw[e]at hl ⊢;have hl':(itoa x).length+((Lib.join ((b2::r).map itoa) [44]).length+1)<=100000:=by simpa using hl
  rw[ixS 44 _ _ (qfq rfl x),qB,bp,Int.add_zero,bw (x:=((itoa x).length:Int)) oA oA,ao ⟨oA,oE⟩]
  rw[show List.take (((itoa x).length:Nat):Int).toNat (itoa x++44::Lib.join ((b2::r).map itoa) [44])=itoa x by rw[show(((itoa x).length:Nat):Int).toNat=(itoa x).length by omega,List.take_left]]
  unfold qax;obtain⟨k,hk⟩:∃k:Nat,x=k:=⟨x.toNat,by have:=h x qH;omega⟩
  have hx:itoa x=decDigits k:=by rw[hk,oh]
  have hk2:k<=1000000000000:=by have:=h x qH;omega
  rw[hx,yw k hk2,← hk,← hx];rw[qB,ao oK,qB,show((([44]:Bs).length:Nat):Int)=1 from rfl,ce _,ao ⟨oA,oE⟩]
  rw[show List.drop (((itoa x).length+1:Nat):Int).toNat (itoa x++44::Lib.join ((b2::r).map itoa) [44])=Lib.join ((b2::r).map itoa) [44] by rw[show(((itoa x).length+1:Nat):Int).toNat=(itoa x).length+1 by omega,← List.drop_drop,List.drop_left];rfl]
  obtain⟨s,hs⟩:=ih b2 (acc++[x]) n u me sq su pl og zn y mo da hh mi ss tz le fr ev co un hu go gs wd ex ad (by simp at hn;omega) (by simp at ha ⊢;omega) (fun z hz=>h z (qE _ hz)) oA
  exact⟨s,hs.trans oC⟩
def zbs(l:List Int)(u:Bs)(me sq:Int)(su pl og zn:Bs)(y mo da hh mi ss tz le fr ev co un:Int)(hu go:Bool)(gs:List (Bs×Int))(wd ex ad:List Int)(hl:l.length<=300)(h:∀z∈l,0<=z/\z<=1000000000000):qdw FU (dz l) u me sq su pl og zn y mo da hh mi ss tz le fr ev co un hu go gs wd ex ad=some (u,me,sq,su,pl,og,zn,y,mo,da,hh,mi,ss,tz,le,fr,ev,co,un,hu,go,l,gs,wd,ex,ad):=by
 unfold qdw
 cases l with
 |nil=>rw[au]|cons x r=>
  have hb:=xh (x::r) (fun z hz=>by have:=h z hz;exact⟨oA,oA⟩)
  have ne:dz (x::r)≠[]:=by
   unfold dz;rw[List.map_cons,Lib.join_cons];have:=(nj x (by have:=h x qH;omega) (by have:=h x qH;omega)).1
   intro q;have:=congrArg List.length q;rw[qM]at this;have z:([]:Bs).length=0:=rfl;omega
  rw[ak (by simp[ne])]
  rw[show nz (dz (x::r)) [44]=some ([44],dz (x::r),0) from rfl,qB]
  obtain⟨s,hs⟩:=zp6 r x [] FU u me sq su pl og zn y mo da hh mi ss tz le fr ev co un hu go gs wd ex ad (Nat.lt_of_le_of_lt (show r.length<=300 by simp at hl;omega) oD) (by simp at hl ⊢;omega) h (by unfold dz at hb;omega)
  unfold qn3;rw[ak]
  unfold dz;dsimp only;rw[hs];rfl
def zp7(r:List Int):∀(x:Int)(acc:List Int)(n:Nat)(u:Bs)(me sq:Int)(su pl og zn:Bs)(y mo da hh mi ss tz le fr ev co un:Int)(hu go:Bool)(gs:List (Bs×Int))(wd ex ad:List Int),r.length<n->acc.length+r.length<=1000->(∀z∈x::r,ik z)->(Lib.join ((x::r).map itoa) [44]).length<=100000 ->
  ∃s,qeb FU n [44] (Lib.join ((x::r).map itoa) [44]) 0 u me sq su pl og zn y mo da hh mi ss tz le fr ev co un hu go acc gs wd ex ad=some ([44],s,0,(u,me,sq,su,pl,og,zn,y,mo,da,hh,mi,ss,tz,le,fr,ev,co,un,hu,go,acc++x::r,gs,wd,ex,ad)):=by
 induction r with
 |nil=>
  intro x acc n u me sq su pl og zn y mo da hh mi ss tz le fr ev co un hu go gs wd ex ad hn ha h hl;obtain⟨n,rfl⟩:∃k,n=k+1:=⟨n-1,oA⟩
  rw[qeb,qi3];simp only[List.map_cons,List.map_nil,Lib.join_one]at hl ⊢;rw[ixN 44 _ (qfq rfl x),qB,ao oD]
  unfold qay;rw[q2t x (h x qH)];rw[qB,ao oK,qB]
  exact⟨itoa x,rfl⟩
 |cons b2 r ih=>
  intro x acc n u me sq su pl og zn y mo da hh mi ss tz le fr ev co un hu go gs wd ex ad hn ha h hl;obtain⟨n,rfl⟩:∃k,n=k+1:=⟨n-1,oA⟩
  rw[qeb,qi3];have e:Lib.join ((x::b2::r).map itoa) [44]=itoa x++44::Lib.join ((b2::r).map itoa) [44]:=by simp only[List.map_cons];rw[qbt];rfl
  rw[e]at hl ⊢;have hl':(itoa x).length+((Lib.join ((b2::r).map itoa) [44]).length+1)<=100000:=by simpa using hl
  rw[ixS 44 _ _ (qfq rfl x),qB,bp,Int.add_zero,bw (x:=((itoa x).length:Int)) oA oA,ao ⟨oA,oE⟩]
  rw[show List.take (((itoa x).length:Nat):Int).toNat (itoa x++44::Lib.join ((b2::r).map itoa) [44])=itoa x by rw[show(((itoa x).length:Nat):Int).toNat=(itoa x).length by omega,List.take_left]]
  unfold qay;rw[q2t x (h x qH)];rw[qB,ao oK,qB,show((([44]:Bs).length:Nat):Int)=1 from rfl,ce _,ao ⟨oA,oE⟩]
  rw[show List.drop (((itoa x).length+1:Nat):Int).toNat (itoa x++44::Lib.join ((b2::r).map itoa) [44])=Lib.join ((b2::r).map itoa) [44] by rw[show(((itoa x).length+1:Nat):Int).toNat=(itoa x).length+1 by omega,← List.drop_drop,List.drop_left];rfl]
  obtain⟨s,hs⟩:=ih b2 (acc++[x]) n u me sq su pl og zn y mo da hh mi ss tz le fr ev co un hu go gs wd ex ad (by simp at hn;omega) (by simp at ha ⊢;omega) (fun z hz=>h z (qE _ hz)) oA
  exact⟨s,hs.trans oC⟩
def zbt(l:List Int)(u:Bs)(me sq:Int)(su pl og zn:Bs)(y mo da hh mi ss tz le fr ev co un:Int)(hu go:Bool)(gs:List (Bs×Int))(wd ex ad:List Int)(hl:l.length<=300)(h:∀z∈l,ik z):qdx FU (dz l) u me sq su pl og zn y mo da hh mi ss tz le fr ev co un hu go gs wd ex ad=some (u,me,sq,su,pl,og,zn,y,mo,da,hh,mi,ss,tz,le,fr,ev,co,un,hu,go,l,gs,wd,ex,ad):=by
 unfold qdx
 cases l with
 |nil=>rw[au]|cons x r=>
  have hb:=xh (x::r) (fun z hz=>by have:=h z hz;exact this)
  have ne:dz (x::r)≠[]:=by
   unfold dz;rw[List.map_cons,Lib.join_cons];have:=(nj x (h x qH).1 (h x qH).2).1;intro q;have:=congrArg List.length q;rw[qM]at this;have z:([]:Bs).length=0:=rfl;omega
  rw[ak (by simp[ne])]
  rw[show nz (dz (x::r)) [44]=some ([44],dz (x::r),0) from rfl,qB]
  obtain⟨s,hs⟩:=zp7 r x [] FU u me sq su pl og zn y mo da hh mi ss tz le fr ev co un hu go gs wd ex ad (Nat.lt_of_le_of_lt (show r.length<=300 by simp at hl;omega) oD) (by simp at hl ⊢;omega) h (by unfold dz at hb;omega)
  unfold qn4;rw[ak]
  unfold dz;dsimp only;rw[hs];rfl
end Go.Sym
namespace Go.Sym
open Go.Lib (decDigits itoa atoiAll parseUint10 parseMag)
def nf(c:UInt8)(w r:Bs)(h:∀x∈w,x≠c)(hl:(w++c::r).length<=1000000):qiu (w++c::r) [c]=some (w,r,true):=by
 have ac:(w++c::r).length=w.length+(r.length+1):=oC
 have hi:ju (w++c::r) [c]=some (w.length:Int):=by
  unfold ju;rw[ao oA,ixc c w r h]
 unfold qiu qus;rw[hi];simp only[qB];rw[ao oA,ao ⟨oA,oA⟩,show((([c]:Bs).length:Nat):Int)=1 from rfl,ce _,ao ⟨oA,oA⟩,show((w.length:Nat):Int).toNat=w.length by omega,show((w.length+1:Nat):Int).toNat=w.length+1 by omega,List.take_left,← List.drop_drop,List.drop_left]
 rfl
def za2(w:Bs):∀ab aa:List Bs,(∀x∈ab,x≠w)->(ab++w::aa).idxOf w=ab.length
 |[],aa,_=>by simp|x::ab,aa,h=>by
  rw[wK,List.idxOf_cons,show(x==w)=false by simp[h x qH],za2 w ab aa fun y hy=>h y (qE _ hy)];rfl
def zpt(l:List Bs)(hl:l.length<=1000)(w:Bs)(n:Nat):∀(ab aa:List Bs),l=ab++aa->aa.length<n->w∈aa->(∀x∈ab,x≠w)->qit FU n l w (l.length:Int) (ab.length:Int)=some (((l.idxOf w:Nat)):Int):=by
 induction n with
 |zero=>intro ab aa _ h;omega|succ n ih=>
  intro ab aa e hn hw hp;have hll:=congrArg List.length e;rw[qM]at hll;rw[qit,qvr]
  cases aa with
  |nil=>cases hw
  |cons x aa=>
   simp only[qL]at hll hn;rw[ao oA,show ap l (ab.length:Int)=some x by rw[e];exact gx _ _ _,qB]
   by_cases q:w=x
   ·subst q;rw[au]
    congr 1;rw[e,za2 w ab aa hp]
   ·rw[ak (by simp[q]),ce _]
    have:=ih (ab++[x]) aa (by rw[e];simp) oA (by
     rcases List.mem_cons.1 hw with h|h
     ·exact absurd h q
     ·exact h) (fun z hz=>by
     rcases List.mem_append.1 hz with hz|hz
     ·exact hp z hz
     ·rw[List.mem_singleton]at hz;subst hz;exact fun h=>q h.symm)
    rw[qM,wD]at this;exact this
def zps(l:List Bs)(hl:l.length<=1000)(w:Bs)(hw:w∈l):qvq FU l w=some ((l.idxOf w:Nat):Int):=
 zpt l hl w FU [] l rfl (Nat.lt_of_le_of_lt hl oD) hw (fun x hx=>by cases hx)
def q08(l:List Bs)(hl:l.length<=1000)(w:Bs)(hw:w∈l)(u:Bs)(me sq:Int)(su pl og zn:Bs)(y mo da hh mi ss tz le fr ev co un:Int)(hu go:Bool)(gs:List (Bs×Int))(wd ex ad:List Int):qaz FU w u me sq su pl og zn y mo da hh mi ss tz le fr ev co un hu go l gs wd ex ad=some (((l.idxOf w:Nat):Int),(u,me,sq,su,pl,og,zn,y,mo,da,hh,mi,ss,tz,le,fr,ev,co,un,hu,go,gs,wd,ex,ad)):=by
 unfold qaz;rw[zps l hl w hw,qB,decide_eq_true oA,qqv];rfl
def zcg(i:Nat)(h:i<5):jq.getD i []∈jq/\jq.idxOf (jq.getD i [])=i:=by
 match i,h with|0,_|1,_|2,_|3,_|4,_=>decide
def zun(i:Nat)(h:i<4):jk.getD i []∈jk/\jk.idxOf (jk.getD i [])=i/\∀c∈jk.getD i [],c≠32:=by
 match i,h with|0,_|1,_|2,_|3,_=>decide
def zop(i:Nat)(h:i<5):lm.getD i []∈lm/\lm.idxOf (lm.getD i [])=i/\∀c∈lm.getD i [],c≠59:=by
 match i,h with|0,_|1,_|2,_|3,_|4,_=>decide
def zpi(w:Bs)(n:Nat):∀(aa ab acc:Bs),w=ab++du aa->aa.length<n->w.length<=100000->acc.length+aa.length<=100000->qd3 FU n w (ab.length:Int) acc=some (acc++aa):=by
 induction n with
 |zero=>intro aa ab acc _ h;omega|succ n ih=>
  intro aa ab acc e hn hw ha;have hl:=congrArg List.length e;rw[qM]at hl;rw[qd3,qd2]
  cases aa with
  |nil=>rw[bp (by simp[du,ei]at hl;omega),List.append_nil]|cons c aa=>
   rw[qL]at hn ha;rw[qp5]at e hl;have two:∀d:UInt8,w=ab++([92,d]++du aa)->(if d=110 then 10 else d)=c->qd2 FU (qd3 FU n) w (ab.length:Int) acc=some (acc++c::aa):=fun d e hd=>by
    have hl:=congrArg List.length e;simp only[qM,qL,qZ]at hl;rw[qd2,ao oA,show ap w (ab.length:Int)=some 92 by rw[e];exact gx _ _ _,qB,au,ce _,decide_eq_true oA]
    unfold qil;have i2:ap w ((ab.length+1:Nat):Int)=some d:=by
     rw[e,show ab++([92,d]++du aa)=(ab++[92])++(d::du aa) by simp]
     have:=gx (ab++[92]) d (du aa);rw[qM,wD]at this;exact this
    rw[au rfl,ce _,i2,qB,ce _]
    have:=ih aa (ab++[92,d]) (acc++[c]) (by rw[e];simp) oA hw oE
    rw[qM,show([92,d]:Bs).length=2 from rfl]at this
    by_cases q:d=110
    ·rw[qX q]at hd;subst q hd;rw[au,ao oK]
     exact this.trans oC
    ·rw[qW q]at hd;subst hd;rw[ak (by simp[q]),ao oK]
     exact this.trans oC
   rw[qd2]at two;by_cases c1:c=92
   ·subst c1;exact two 92 e rfl
   rw[qW c1]at e hl;by_cases c2:c=10
   ·subst c2;exact two 110 e rfl
   rw[qW c2]at e hl;have hl:w.length=ab.length+(1+(du aa).length):=by simpa [Nat.add_comm] using hl
   rw[ao oA,show ap w (ab.length:Int)=some c by rw[e];exact gx _ _ _,qB,ak oU]
   unfold qil;rw[ak rfl,ao oK,ce _]
   have:=ih aa (ab++[c]) (acc++[c]) (by rw[e];simp) oA hw oE
   rw[qM,wD]at this;exact this.trans oC
def zdj(s:Bs)(h:s.length<=500):qnh FU (du s)=some s:=by
 have:=qff s;exact zpi (du s) FU s [] [] rfl (Nat.lt_of_le_of_lt h oD) oA oE
def zdd:∀(k:Nat)(l:Bs),parseUint10 0 (List.replicate k 48++l)=parseUint10 0 l|0,l=>rfl|k+1,l=>by rw[List.replicate_succ,wK,parseUint10,qX oD,qW oD,qW oD];exact zdd k l
def qb6(n k:Nat):∀c∈bf (n:Int) k,48<=c.toNat/\c.toNat<=57:=fun c hc=>by
 unfold bf at hc;rw[oh]at hc;rcases List.mem_append.1 hc with hc|hc
 ·rw[(List.mem_replicate.1 hc).2];decide
 ·exact qe7 n c hc
def zrb(n k:Nat)(h:n<9223372036854775808):atoiAll (bf (n:Int) k) = .ok (n:Int):=by
 have hp:parseUint10 0 (bf (n:Int) k) = .ok n:=by
  unfold bf;rw[oh,zdd,zdb n h]
 have hd:=qb6 n k
 cases hs:bf (n:Int) k with
 |nil=>unfold bf at hs;rw[oh]at hs;exact absurd (List.append_eq_nil_iff.1 hs).2 (qpt n)|cons c r=>
  rw[hs]at hp hd;have hc:=hd c qH;unfold atoiAll;simp only[];rw[qW (c:=c.toNat=43\/c.toNat=45) oA,parseMag,qW oC,hp]
  simp only[];rw[qW oA,qW oA,qW oA]
def qf2(n k:Nat)(hk:1<=k:=by omega)(h:n<10 ^ k:=by omega):(bf (n:Int) k).length=k:=by
 have:=t7 k n h hk;unfold bf;rw[oh,qM,List.length_replicate];omega
def qf3(a b:Nat)(p r:Bs)(n k:Nat)(h:n<9223372036854775808)(hp:p.length=a)(hk:(bf (n:Int) k).length=b-a)(hb:a<=b)(hl:b<=1000)(w:Bs)(e:w=p++(bf (n:Int) k++r)):kv (a:Int) (b:Int) w=some ((n:Int),w):=by
 have hw:=congrArg List.length e;simp only[qM]at hw;unfold kv vk wq;rw[ao ⟨oA,oA,oA⟩]
 rw[show List.take ((b:Int).toNat-(a:Int).toNat) (List.drop (a:Int).toNat w)=bf (n:Int) k by
  rw[e,show(a:Int).toNat=p.length by omega,List.drop_left,show(b:Int).toNat-p.length=(bf (n:Int) k).length by omega,List.take_left]]
 rw[ao oA,qB,zrb n k h];rfl
def znj(s:Bs)(hs:s.length<=1000)(h:∀c∈s,48<=c.toNat/\c.toNat<=57)(n:Nat):∀(ab aa:Bs),s=ab++aa->aa.length<n->qhx FU n s (s.length:Int) (ab.length:Int)=some (!(s==([]:Bs))):=by
 induction n with
 |zero=>intro ab aa _ h;omega|succ n ih=>
  intro ab aa e hn;have hl:=congrArg List.length e;rw[qM]at hl;rw[qhx,qtu]
  cases aa with
  |nil=>rw[bp (by simp at hl;omega)]|cons c aa=>
   simp only[qL]at hl hn;have hc:=h c (by rw[e];simp)
   rw[ao oA,show ap s (ab.length:Int)=some c by rw[e];exact gx _ _ _]
   simp only[qB];rw[bp (fun q=>by rw[UInt8.lt_iff_toNat_lt]at q;have:(48:UInt8).toNat=48:=rfl;omega),bp (fun q=>by rw[UInt8.lt_iff_toNat_lt]at q;have:(57:UInt8).toNat=57:=rfl;omega),ce _]
   have:=ih (ab++[c]) aa (by rw[e];simp) oA
   rw[qM,wD]at this;exact this
def q9l(s:Bs)(hs:s.length<=1000)(h:∀c∈s,48<=c.toNat/\c.toNat<=57)(h0:1<=s.length):qhw FU s=some true:=by
 have:=znj s hs h FU [] s rfl (Nat.lt_of_le_of_lt hs oD)
 refine Eq.trans this ?_
 cases s with|nil=>simp at h0|cons _ _=>rfl
def zuq(d1 d2 d3 d4 d5 d6:Nat)(h1:d1<10000)(h2:d2<100)(h3:d3<100)(h4:d4<100)(h5:d5<100)(h6:d6<100)(z:Int)(u:Bs)(me sq:Int)(su pl og zn:Bs)(y mo da hh mi ss tz le fr ev co un:Int)(hu go:Bool)(gs:List (Bs×Int))(wd ex ad:List Int):qdz FU (ov ((d1:Int),(d2:Int),(d3:Int),(d4:Int),(d5:Int),(d6:Int),z)) u me sq su pl og zn y mo da hh mi ss tz le fr ev co un hu go gs wd ex ad=some (u,me,sq,su,pl,og,zn,(d1:Int),(d2:Int),(d3:Int),(d4:Int),(d5:Int),(d6:Int),(0:Int),le,fr,ev,co,un,hu,go,gs,wd,ex,ad):=by
 have l1:=qf2 d1 4
 have l2:=qf2 d2 2
 have l3:=qf2 d3 2
 have l4:=qf2 d4 2
 have l5:=qf2 d5 2
 have l6:=qf2 d6 2
 have g1:=qb6 d1 4;have g2:=qb6 d2 2;have g3:=qb6 d3 2;have g4:=qb6 d4 2;have g5:=qb6 d5 2;have g6:=qb6 d6 2;obtain⟨w,hw⟩:∃w,w=ov ((d1:Int),(d2:Int),(d3:Int),(d4:Int),(d5:Int),(d6:Int),z):=⟨_,rfl⟩;rw[← hw];have hw:w=bf (d1:Int) 4++(bf (d2:Int) 2++(bf (d3:Int) 2++(84::(bf (d4:Int) 2++(bf (d5:Int) 2++bf (d6:Int) 2))))):=by
  rw[hw];unfold ov;simp
 have p1:=qf3 0 4 [] _ d1 4 oA rfl l1 oA oA w hw
 have p2:=qf3 4 6 (bf d1 4) _ d2 2 oA l1 l2 oA oA w hw
 have p3:=qf3 6 8 (bf d1 4++bf d2 2) (84::(bf d4 2++(bf d5 2++bf d6 2))) d3 2 oA oW l3 oA oA w (by rw[hw];simp)
 have p4:=qf3 9 11 (bf d1 4++(bf d2 2++(bf d3 2++[84]))) (bf d5 2++bf d6 2) d4 2 oA oF l4 oA oA w (by rw[hw];simp)
 have p5:=qf3 11 13 (bf d1 4++(bf d2 2++(bf d3 2++([84]++bf d4 2)))) (bf d6 2) d5 2 oA oF l5 oA oA w (by rw[hw];simp)
 have p6:=qf3 13 15 (bf d1 4++(bf d2 2++(bf d3 2++([84]++(bf d4 2++bf d5 2))))) [] d6 2 oA oF l6 oA oA w (by rw[hw];simp)
 have lw:w.length=15:=by rw[hw];simp only[qM,qL];omega
 have t8:List.take 8 w=bf d1 4++(bf d2 2++bf d3 2):=by
  rw[hw,show bf (d1:Int) 4++(bf (d2:Int) 2++(bf (d3:Int) 2++(84::(bf (d4:Int) 2++(bf (d5:Int) 2++bf (d6:Int) 2)))))=(bf d1 4++(bf d2 2++bf d3 2))++(84::(bf d4 2++(bf d5 2++bf d6 2))) by simp]
  exact List.take_left' oM
 have t9:List.drop 9 w=bf d4 2++(bf d5 2++bf d6 2):=by
  rw[hw,show bf (d1:Int) 4++(bf (d2:Int) 2++(bf (d3:Int) 2++(84::(bf (d4:Int) 2++(bf (d5:Int) 2++bf (d6:Int) 2)))))=(bf d1 4++(bf d2 2++(bf d3 2++[84])))++(bf d4 2++(bf d5 2++bf d6 2)) by simp]
  exact List.drop_left' oF
 have i8:ap w 8=some 84:=by
  have:=gx (bf (d1:Int) 4++(bf (d2:Int) 2++bf (d3:Int) 2)) 84 (bf d4 2++(bf d5 2++bf d6 2));rw[show((bf (d1:Int) 4++(bf (d2:Int) 2++bf (d3:Int) 2)).length:Int)=8 by simp only[qM];omega]at this
  rw[← this,hw];congr 1;simp
 have dg:∀a b c:Bs,(∀x∈a,48<=x.toNat/\x.toNat<=57)->(∀x∈b,48<=x.toNat/\x.toNat<=57)->(∀x∈c,48<=x.toNat/\x.toNat<=57)->∀x∈a++(b++c),48<=x.toNat/\x.toNat<=57:=fun a b c ha hb hc x hx=>by
  rcases List.mem_append.1 hx with hx|hx
  ·exact ha x hx
  ·rcases List.mem_append.1 hx with hx|hx
   ·exact hb x hx
   ·exact hc x hx
 unfold qdz;rw[ia,qW oA,i8,qB,ak,ao ⟨oA,oA⟩,show(8:Int).toNat=8 from rfl,t8,q9l _ oM (dg _ _ _ g1 g2 g3) oM,qB,ak,ao ⟨oA,oA⟩,show(9:Int).toNat=9 from rfl,t9,q9l _ oM (dg _ _ _ g4 g5 g6) oM,qB]
 unfold qa0 qnd;rw[ak]
 have p1:kv 0 4 w=some ((d1:Int),w):=p1;have p2:kv 4 6 w=some ((d2:Int),w):=p2;have p3:kv 6 8 w=some ((d3:Int),w):=p3;have p4:kv 9 11 w=some ((d4:Int),w):=p4;have p5:kv 11 13 w=some ((d5:Int),w):=p5;have p6:kv 13 15 w=some ((d6:Int),w):=p6;simp only[p1,p2,p3,p4,p5,p6,qB]
end Go.Sym
namespace Go.Sym
open Go.Lib (decDigits itoa)
def qpn(c:UInt8)(w r:Bs)(h:∀x∈w,x≠c)(hl:(w++c::r).length<=1000000)(i m n:Nat)(hm:i<m)(hm2:m<=100)(L:List Bs)(hL:L.length=m+1) :
  th FU (n+1) (w++c::r) [c] 0 (m:Int) (i:Int) L=th FU n r [c] 0 (m:Int) ((i+1:Nat):Int) (L.set i w):=by
 have ac:(w++c::r).length=w.length+(r.length+1):=oC
 have hg:L[((i:Nat):Int).toNat]? = some L[i]:=by rw[show((i:Nat):Int).toNat=i by omega];exact List.getElem?_eq_getElem oA
 rw[th,qix,ao oA,ixS c w r h hl,qB,bp,Int.add_zero,bw (x:=(w.length:Int)) oA oA,ao oA,ao oA,hg,qB,
  show((List.length ([c]:Bs):Nat):Int)=1 from rfl,ce _,ao oA,ce _]
 congr 1
 ·rw[show((w.length+1:Nat):Int).toNat=w.length+1 by omega,← List.drop_drop,List.drop_left];rfl
 ·rw[show((i:Nat):Int).toNat=i by omega,show((w.length:Nat):Int).toNat=w.length by omega,List.take_left]
def zuj(a b c d e:Bs)(ha:∀x∈a,x≠59)(hb:∀x∈b,x≠59)(hc:∀x∈c,x≠59)(hd:∀x∈d,x≠59)(he:∀x∈e,x≠59)(hl:a.length+b.length+c.length+d.length+e.length<=100000) :
  qny FU (Lib.join [a,b,c,d,e] [59]) [59]=some [a,b,c,d,e]:=by
 have ej:Lib.join [a,b,c,d,e] [59]=a++59::(b++59::(c++59::(d++59::e))):=by
  rw[qbt,qbt,qbt,qbt,Lib.join_one];rfl
 have l0:(a++59::(b++59::(c++59::(d++59::e)))).length<=1000000:=by simp only[qM,qL];omega
 have l1:(b++59::(c++59::(d++59::e))).length<=1000000:=by simp only[qM,qL];omega
 have l2:(c++59::(d++59::e)).length<=1000000:=by simp only[qM,qL];omega
 have l3:(d++59::e).length<=1000000:=by simp only[qM,qL];omega
 have ct:∀w:Bs,(∀x∈w,x≠59)->w.count 59=0:=fun w h=>List.count_eq_zero.2 fun q=>h 59 q rfl
 have hcnt:qnx FU (a++59::(b++59::(c++59::(d++59::e)))) [59]=some 4:=by
  unfold qnx;rw[ak,au]
  show(some ((Lib.countByte (a++59::(b++59::(c++59::(d++59::e)))) 59:Nat):Int):Option Int)=some 4;have:Lib.countByte (a++59::(b++59::(c++59::(d++59::e)))) 59=4:=by
   unfold Lib.countByte;simp[List.count_append,List.count_cons,ct a ha,ct b hb,ct c hc,ct d hd,ct e he]
  rw[this];rfl
 rw[ej];have s1:=qpn 59 a (b++59::(c++59::(d++59::e))) ha l0 0 4 99999999 oA oA [[],[],[],[],[]] rfl
 have s2:=qpn 59 b (c++59::(d++59::e)) hb l1 1 4 99999998 oA oA [a,[],[],[],[]] rfl
 have s3:=qpn 59 c (d++59::e) hc l2 2 4 99999997 oA oA [a,b,[],[],[]] rfl
 have s4:=qpn 59 d e hd l3 3 4 99999996 oA oA [a,b,c,[],[]] rfl
 have s5:th FU 99999996 e [59] 0 ((4:Nat):Int) ((3+1:Nat):Int) [a,b,c,d,[]]=some [a,b,c,d,e]:=by
  rw[show(99999996:Nat)=99999995+1 from rfl,th,qix,ak];rfl
 have:=(((s1.trans s2).trans s3).trans s4).trans s5;unfold qny qiw;rw[ak,ak,au,hcnt,qB]
 unfold qiy;have e5:(if af ((List.length (a++59::(b++59::(c++59::(d++59::e)))):Int)+(1:Int))<af (4+1) then af ((List.length (a++59::(b++59::(c++59::(d++59::e)))):Int)+(1:Int)) else af (4+1))=5:=by
  rw[ce _,show af (4+1)=5 from rfl,qW oP]
 rw[e5,au]
 exact congrArg (fun x=>Option.bind x some) this
def zq1(l:List Int){c:UInt8}(hc:qb1 c=false)(h:c≠44):∀x∈dz l,x≠c:=by
 have:∀l:List Bs,(∀w∈l,∀x∈w,x≠c)->∀x∈Lib.join l [44],x≠c:=by
  intro l
  induction l with
  |nil=>intro _ x hx;cases hx
  |cons a l ih=>
   intro h2
   cases l with
   |nil=>rw[Lib.join_one];exact h2 a qH|cons b l=>
    rw[qbt];intro x hx;rcases List.mem_append.1 hx with hx|hx
    ·exact h2 a qH x hx
    ·rcases List.mem_append.1 hx with hx|hx
     ·rw[List.mem_singleton]at hx;subst hx;exact fun q=>h q.symm
     ·exact ih (fun w hw=>h2 w (qE _ hw)) x hx
 exact this _ fun w hw=>by obtain⟨n,_,rfl⟩:=List.mem_map.1 hw;exact qfq hc n
def zs5(i e c:Nat)(hi:i<5)(he:e<=1000000000000)(hc:c<=1000000000000)(b:Bool)(v:Int)(hv:b=true->ik v)(h0:b=false->v=0)(l xl al:List Int)(hl:l.length<=300)(hw:∀z∈l,0<=z/\z<=1000000000000)(u:Bs)(me sq:Int)(su pl og zn:Bs)(y mo da hh mi ss tz le fr ev co un:Int)(hu go:Bool)(gs:List (Bs×Int))(wd ex ad:List Int) :
  qdy FU (ot ((i:Int),(e:Int),(c:Int),v,b,l,xl,al)) u me sq su pl og zn y mo da hh mi ss tz le fr ev co un hu go gs wd ex ad=some (u,me,sq,su,pl,og,zn,y,mo,da,hh,mi,ss,tz,le,(i:Int),(e:Int),(c:Int),v,b,go,gs,l,ex,ad):=by
 obtain⟨f1,f2,f3⟩:=zop i hi;have lf:=zao i;have le':=t7 13 e oA oA
 have lc:=t7 13 c oA oA
 have ln:=xh l (fun z hz=>by have:=hw z hz;exact⟨oA,oA⟩)
 have no:∀n:Nat,∀x∈decDigits n,x≠59:=fun n x hx q=>by have:=qe7 n x hx;subst q;simp at this
 have hu2:(∀x∈p9 ((i:Int),(e:Int),(c:Int),v,b,l,xl,al),x≠59)/\(p9 ((i:Int),(e:Int),(c:Int),v,b,l,xl,al)).length<=14:=by
  unfold p9;cases b
  ·exact⟨fun x hx=>(by cases hx),oC⟩
  ·exact⟨qfq rfl v,(nj v (hv rfl).1 (hv rfl).2).2⟩
 have hrep:ot ((i:Int),(e:Int),(c:Int),v,b,l,xl,al)=Lib.join [lm.getD i [],decDigits e,decDigits c,p9 ((i:Int),(e:Int),(c:Int),v,b,l,xl,al),dz l] [59]:=by
  unfold ot;simp only[oh,qY]
 unfold qdy;rw[hrep,zuj _ _ _ _ _ f3 (no e) (no c) hu2.1 (zq1 l rfl oD) (by have:=hu2.2;omega),qB,ak,zap]
 simp only[qB,show ∀a b c d e:Bs,ap [a,b,c,d,e] 0=some a from fun _ _ _ _ _=>rfl,show ∀a b c d e:Bs,ap [a,b,c,d,e] 1=some b from fun _ _ _ _ _=>rfl,show ∀a b c d e:Bs,ap [a,b,c,d,e] 2=some c from fun _ _ _ _ _=>rfl,show ∀a b c d e:Bs,ap [a,b,c,d,e] 3=some d from fun _ _ _ _ _=>rfl,show ∀a b c d e:Bs,ap [a,b,c,d,e] 4=some e from fun _ _ _ _ _=>rfl]
 rw[q08 lm oD _ f1,qB]
 dsimp only;rw[yw e he,qB];dsimp only;rw[yw c hc,qB];dsimp only;rw[f2];unfold p9;cases b
 ·rw[h0 rfl];dsimp only;rw[qW oD,ak,zbs l _ _ _ _ _ _ _ _ _ _ _ _ _ _ _ _ _ _ _ _ _ _ _ _ _ hl hw];rfl
 ·have ne:itoa v≠[]:=fun q=>by have:=(nj v (hv rfl).1 (hv rfl).2).1;rw[q]at this;simp at this
  have ne':(!(itoa v==([]:Bs)))=true:=by simp[ne]
  dsimp only;rw[qX rfl,ne',au rfl,q2t v (hv rfl),qB];dsimp only;rw[zbs l _ _ _ _ _ _ _ _ _ _ _ _ _ _ _ _ _ _ _ _ _ _ _ _ _ hl hw];rfl
def zow(i:Nat)(hi:i<4)(a:Bs)(ha:a.length<=1000)(u:Bs)(me sq:Int)(su pl og zn:Bs)(y mo da hh mi ss tz le fr ev co un:Int)(hu go:Bool)(gs:List (Bs×Int))(wd ex ad:List Int)(hg:gs.length<=1000:=by omega):qdv FU (jk.getD i []++32::a) u me sq su pl og zn y mo da hh mi ss tz le fr ev co un hu go gs wd ex ad=some (u,me,sq,su,pl,og,zn,y,mo,da,hh,mi,ss,tz,le,fr,ev,co,un,hu,go,gs++[(a,(i:Int)+1)],wd,ex,ad):=by
 obtain⟨f1,f2,f3⟩:=zun i hi;have lf:=qrq i;unfold qdv;rw[nf 32 _ a f3 oP,qB]
 dsimp only;rw[qqv,qB,ze7,qB];dsimp only;rw[q08 jk oD _ f1,qB]
 dsimp only;rw[f2,ao oK,bw,show(1:Int)+(i:Int)=(i:Int)+1 by omega]
def zsm(i:Nat)(hi:i<5)(u:Bs)(me sq:Int)(su pl og zn:Bs)(y mo da hh mi ss tz le fr ev co un:Int)(hu go:Bool)(gs:List (Bs×Int))(wd ex ad:List Int)(hv:(jq.getD i []).length<=100000:=by omega):ef FU ([77,69,84,72,79,68]++58::jq.getD i []) u me sq su pl og zn y mo da hh mi ss tz le fr ev co un hu go gs wd ex ad=some (u,(i:Int)+1,sq,su,pl,og,zn,y,mo,da,hh,mi,ss,tz,le,fr,ev,co,un,hu,go,gs,wd,ex,ad):=by
 unfold ef;rw[nf 58 [77,69,84,72,79,68] (jq.getD i []) oD oF,qB]
 dsimp only;rw[ak,au,zcf,qB,q08 jq oD _ (zcg i hi).1,qB,(zcg i hi).2,bw (x:=1+(i:Int)) oA oA,show(1:Int)+(i:Int)=(i:Int)+1 by omega]
def zsu(v:Bs)(u:Bs)(me sq:Int)(su pl og zn:Bs)(y mo da hh mi ss tz le fr ev co un:Int)(hu go:Bool)(gs:List (Bs×Int))(wd ex ad:List Int)(hv:(v).length<=100000:=by omega):ef FU ([85,73,68]++58::v) u me sq su pl og zn y mo da hh mi ss tz le fr ev co un hu go gs wd ex ad=some (v,me,sq,su,pl,og,zn,y,mo,da,hh,mi,ss,tz,le,fr,ev,co,un,hu,go,gs,wd,ex,ad):=by
 unfold ef;rw[nf 58 [85,73,68] (v) oD oF,qB]
 dsimp only;rw[ak,ak,au]
def zsq(n:Nat)(hn:n<=1000000000000)(u:Bs)(me sq:Int)(su pl og zn:Bs)(y mo da hh mi ss tz le fr ev co un:Int)(hu go:Bool)(gs:List (Bs×Int))(wd ex ad:List Int)(hv:(decDigits n).length<=100000:=by omega):ef FU ([83,69,81,85,69,78,67,69]++58::decDigits n) u me sq su pl og zn y mo da hh mi ss tz le fr ev co un hu go gs wd ex ad=some (u,me,(n:Int),su,pl,og,zn,y,mo,da,hh,mi,ss,tz,le,fr,ev,co,un,hu,go,gs,wd,ex,ad):=by
 unfold ef;rw[nf 58 [83,69,81,85,69,78,67,69] (decDigits n) oD oF,qB]
 dsimp only;rw[ak,ak,ak,au,yw n hn,qB]
def zst(s:Bs)(hs:s.length<=500)(u:Bs)(me sq:Int)(su pl og zn:Bs)(y mo da hh mi ss tz le fr ev co un:Int)(hu go:Bool)(gs:List (Bs×Int))(wd ex ad:List Int)(hv:(du s).length<=100000:=by omega):ef FU ([83,85,77,77,65,82,89]++58::du s) u me sq su pl og zn y mo da hh mi ss tz le fr ev co un hu go gs wd ex ad=some (u,me,sq,s,pl,og,zn,y,mo,da,hh,mi,ss,tz,le,fr,ev,co,un,hu,go,gs,wd,ex,ad):=by
 unfold ef;rw[nf 58 [83,85,77,77,65,82,89] (du s) oD oF,qB]
 dsimp only;rw[ak,ak,ak,ak,au,zdj s hs,qB]
def zso(s:Bs)(hs:s.length<=500)(u:Bs)(me sq:Int)(su pl og zn:Bs)(y mo da hh mi ss tz le fr ev co un:Int)(hu go:Bool)(gs:List (Bs×Int))(wd ex ad:List Int)(hv:(du s).length<=100000:=by omega):ef FU ([80,76,65,67,69]++58::du s) u me sq su pl og zn y mo da hh mi ss tz le fr ev co un hu go gs wd ex ad=some (u,me,sq,su,s,og,zn,y,mo,da,hh,mi,ss,tz,le,fr,ev,co,un,hu,go,gs,wd,ex,ad):=by
 unfold ef;rw[nf 58 [80,76,65,67,69] (du s) oD oF,qB]
 dsimp only;rw[ak,ak,ak,ak,ak,au,zdj s hs,qB]
def zsn(v:Bs)(u:Bs)(me sq:Int)(su pl og zn:Bs)(y mo da hh mi ss tz le fr ev co un:Int)(hu go:Bool)(gs:List (Bs×Int))(wd ex ad:List Int)(hv:(v).length<=100000:=by omega):ef FU ([79,82,71,65,78,73,90,69,82]++58::v) u me sq su pl og zn y mo da hh mi ss tz le fr ev co un hu go gs wd ex ad=some (u,me,sq,su,pl,v,zn,y,mo,da,hh,mi,ss,tz,le,fr,ev,co,un,hu,go,gs,wd,ex,ad):=by
 unfold ef;rw[nf 58 [79,82,71,65,78,73,90,69,82] (v) oD oF,qB]
 dsimp only;rw[ak,ak,ak,ak,ak,ak,au]
def zsv(v:Bs)(u:Bs)(me sq:Int)(su pl og zn:Bs)(y mo da hh mi ss tz le fr ev co un:Int)(hu go:Bool)(gs:List (Bs×Int))(wd ex ad:List Int)(hv:(v).length<=100000:=by omega):ef FU ([90,79,78,69]++58::v) u me sq su pl og zn y mo da hh mi ss tz le fr ev co un hu go gs wd ex ad=some (u,me,sq,su,pl,og,v,y,mo,da,hh,mi,ss,tz,le,fr,ev,co,un,hu,go,gs,wd,ex,ad):=by
 unfold ef;rw[nf 58 [90,79,78,69] (v) oD oF,qB]
 dsimp only;rw[ak,ak,ak,ak,ak,ak,ak,ak,au]
def zsl(n:Nat)(hn:n<=1000000000000)(u:Bs)(me sq:Int)(su pl og zn:Bs)(y mo da hh mi ss tz le fr ev co un:Int)(hu go:Bool)(gs:List (Bs×Int))(wd ex ad:List Int)(hv:(decDigits n).length<=100000:=by omega):ef FU ([76,69,78,71,84,72]++58::decDigits n) u me sq su pl og zn y mo da hh mi ss tz le fr ev co un hu go gs wd ex ad=some (u,me,sq,su,pl,og,zn,y,mo,da,hh,mi,ss,tz,(n:Int),fr,ev,co,un,hu,go,gs,wd,ex,ad):=by
 unfold ef;rw[nf 58 [76,69,78,71,84,72] (decDigits n) oD oF,qB]
 dsimp only;rw[ak,ak,ak,ak,ak,ak,ak,ak,ak,ak,au,yw n hn,qB]
def zsj(l:List Int)(hl:l.length<=300)(h:∀z∈l,ik z)(u:Bs)(me sq:Int)(su pl og zn:Bs)(y mo da hh mi ss tz le fr ev co un:Int)(hu go:Bool)(gs:List (Bs×Int))(wd ex ad:List Int)(hv:(dz l).length<=100000:=by omega):ef FU ([69,88,67,69,80,84]++58::dz l) u me sq su pl og zn y mo da hh mi ss tz le fr ev co un hu go gs wd ex ad=some (u,me,sq,su,pl,og,zn,y,mo,da,hh,mi,ss,tz,le,fr,ev,co,un,hu,go,gs,wd,l,ad):=by
 unfold ef;rw[nf 58 [69,88,67,69,80,84] (dz l) oD oF,qB]
 dsimp only;rw[ak,ak,ak,ak,ak,ak,ak,ak,ak,ak,ak,ak,au,zbt l _ _ _ _ _ _ _ _ _ _ _ _ _ _ _ _ _ _ _ _ _ _ _ _ _ hl h,qB]
def zsh(l:List Int)(hl:l.length<=300)(h:∀z∈l,ik z)(u:Bs)(me sq:Int)(su pl og zn:Bs)(y mo da hh mi ss tz le fr ev co un:Int)(hu go:Bool)(gs:List (Bs×Int))(wd ex ad:List Int)(hv:(dz l).length<=100000:=by omega):ef FU ([65,68,68]++58::dz l) u me sq su pl og zn y mo da hh mi ss tz le fr ev co un hu go gs wd ex ad=some (u,me,sq,su,pl,og,zn,y,mo,da,hh,mi,ss,tz,le,fr,ev,co,un,hu,go,gs,wd,ex,l):=by
 unfold ef;rw[nf 58 [65,68,68] (dz l) oD oF,qB]
 dsimp only;rw[ak,ak,ak,ak,ak,ak,ak,ak,ak,ak,ak,ak,ak,au,zbt l _ _ _ _ _ _ _ _ _ _ _ _ _ _ _ _ _ _ _ _ _ _ _ _ _ hl h,qB]
def zsk(v:Bs)(d:qej)(u:Bs)(me sq:Int)(su pl og zn:Bs)(y mo da hh mi ss tz le fr ev co un:Int)(hu go:Bool)(gs:List (Bs×Int))(wd ex ad:List Int)(hv:(v).length<=100000)(h:qdv FU v u me sq su pl og zn y mo da hh mi ss tz le fr ev co un hu go gs wd ex ad=some d):ef FU ([71,85,69,83,84]++58::v) u me sq su pl og zn y mo da hh mi ss tz le fr ev co un hu go gs wd ex ad=some d:=by
 unfold ef;rw[nf 58 [71,85,69,83,84] (v) oD oF,qB]
 dsimp only;rw[ak,ak,ak,ak,ak,ak,ak,au,h,qB]
def zsr(v:Bs)(d:qej)(u:Bs)(me sq:Int)(su pl og zn:Bs)(y mo da hh mi ss tz le fr ev co un:Int)(hu go:Bool)(gs:List (Bs×Int))(wd ex ad:List Int)(hv:(v).length<=100000)(h:qdz FU v u me sq su pl og zn y mo da hh mi ss tz le fr ev co un hu go gs wd ex ad=some d):ef FU ([83,84,65,82,84]++58::v) u me sq su pl og zn y mo da hh mi ss tz le fr ev co un hu go gs wd ex ad=some d:=by
 unfold ef;rw[nf 58 [83,84,65,82,84] (v) oD oF,qB]
 dsimp only;rw[ak,ak,ak,ak,ak,ak,ak,ak,ak,au,h,qB]
def zsp(v:Bs)(d:qej)(u:Bs)(me sq:Int)(su pl og zn:Bs)(y mo da hh mi ss tz le fr ev co un:Int)(hu go:Bool)(gs:List (Bs×Int))(wd ex ad:List Int)(hv:(v).length<=100000)(h:qdy FU v u me sq su pl og zn y mo da hh mi ss tz le fr ev co un hu go gs wd ex ad=some d):ef FU ([82,69,80,69,65,84]++58::v) u me sq su pl og zn y mo da hh mi ss tz le fr ev co un hu go gs wd ex ad=some d:=by
 unfold ef;rw[nf 58 [82,69,80,69,65,84] (v) oD oF,qB]
 dsimp only;rw[ak,ak,ak,ak,ak,ak,ak,ak,ak,ak,ak,au,h,qB]
end Go.Sym
namespace Go.Sym
def bnd{α:Type}{b:Bool}{x y:Option α}{z:α}(h:b=true->x=some z)(g:b=false->y=some z):(bif b then x else y)=some z:=by
 cases b
 ·exact g rfl
 ·exact h rfl
def zqi:qhe=some (([49]:Bs),((2:Int),((0:Int),(([97,10,98]:Bs),(([]:Bs),(([111,64,120]:Bs),(([(([103,64,120]:Bs),(1:Int))]:List (Bs×Int)),(([117]:Bs),(uD,((30:Int),uR)))))))))):=rfl
def zug:jj [0,86400]=[0,86400]:=by
 unfold jj;exact List.mergeSort_of_pairwise oC
def zq4:qm8 FU (([49]:Bs),((2:Int),((0:Int),(([97,10,98]:Bs),(([]:Bs),(([111,64,120]:Bs),(([(([103,64,120]:Bs),(1:Int))]:List (Bs×Int)),(([117]:Bs),(uD,((30:Int),uR)))))))))) uZ 0 100000=some ((0,0),[0,86400]):=by
 have hs:vv [0,86400]=some [0,86400]:=by
  have:vv [0,86400]=some (jj [0,86400]):=rfl;rw[this,zug]
 have i1:qvc FU uD uR uZ uR []=some (uD,(uR,(uZ,(uR,[0,86400,172800])))):=oB
 have d1:qvk FU [0,86400,172800] 0 100000=some (0,(100000,[0,86400])):=oB
 have h1:qin FU uZ uD uR 0 100000 (0,0)=some ((0,0),[0,86400]):=by
  unfold qin;rw[show qvb uZ uD uR=some (uD,(uR,uZ)) from rfl,qB]
  dsimp only;rw[i1,qB];dsimp only;rw[show([0,86400,172800]++uR.2.2.2.2.2.2.2:List Int)=[0,86400,172800] from rfl,d1,ao oD,qB,hs]
  rfl
 have b1:qu6 FU uZ uD uR 0 100000=qin FU uZ uD uR 0 100000 (0,0):=oB
 unfold qm8;rw[show vq FU (([49]:Bs),((2:Int),((0:Int),(([97,10,98]:Bs),(([]:Bs),(([111,64,120]:Bs),(([(([103,64,120]:Bs),(1:Int))]:List (Bs×Int)),(([117]:Bs),(uD,((30:Int),uR))))))))))=some (0,0) by kernel_rfl]
 rw[qB,oc,qB,ak,ak]
 dsimp only;rw[b1,h1];rfl
def zog:qmj FU=some true:=by
 unfold qmj;rw[zqi];simp only[qB];rw[show(([117]:List UInt8),((0:Int),((0:Int),(((0:Int),((0:Int),((0:Int),(0:Int)))),((0:Int),((0:Int),((0:Int),(0:Int))))))))=uZ from rfl,zq4]
 simp only[qB]
 kernel_rfl
def ue:Ty := .prod .str (.prod (.int .i64) (.prod (.int .i64) (.prod .str (.prod .str (.prod .str (.prod (.list (.prod .str (.int .i64))) (.prod .str (.prod (.prod (.int .i64) (.prod (.int .i64) (.prod (.int .i64) (.prod (.int .i64) (.prod (.int .i64) (.prod (.int .i64) (.int .i64))))))) (.prod (.int .i64) (.prod (.int .i64) (.prod (.int .i64) (.prod (.int .i64) (.prod (.int .i64) (.prod .bool (.prod (.list (.int .i64)) (.prod (.list (.int .i64)) (.list (.int .i64))))))))))))))))))
def zc6:∀l:List (Ty.den (.int .i64)),(l.map (Ty.bk (.int .i64))).sum=l.length
 |[]=>rfl|x::l=>by
  have:=zc6 l;rw[List.map_cons,List.sum_cons,this,qL];show 1+_=_;omega
def zoc(e:bz)(h:ue.bk e<=1048576:=by omega):qf e:=by
 obtain⟨u,me,sq,su,pl,og,gs,nm,d,le,r1,r2,r3,r4,r5,wd,ex,ad⟩:=e;have h:((u.length+1)+(1+(1+((su.length+1)+((pl.length+1)+((og.length+1)+((Ty.list (.prod .str (.int .i64))).bk gs+((nm.length+1)+((Ty.prod (.int .i64) (.prod (.int .i64) (.prod (.int .i64) (.prod (.int .i64) (.prod (.int .i64) (.prod (.int .i64) (.int .i64))))))).bk d+(1+(1+(1+(1+(1+(1+((((wd:List (Ty.den (.int .i64))).map (Ty.bk (.int .i64))).sum+1)+((Ty.list (.int .i64)).bk ex+(Ty.list (.int .i64)).bk ad)))))))))))))))))<=1048576:=h;rw[zc6 wd]at h;refine⟨?_,?_,?_⟩
 ·show u.length<=2000000;omega
 ·show nm.length<=2000000;omega
 ·show List.length (α:=Ty.den (.int .i64)) wd<=2000000;omega
def q97:∀(l:List bz),((l:List ue.den).map ue.bk).sum<=1048576->∀e∈l,qf e
 |[],_,e,he=>by cases he
 |x::l,h,e,he=>by
  have h:ue.bk x+((l:List ue.den).map ue.bk).sum<=1048576:=h;rcases List.mem_cons.1 he with rfl|he
  ·exact zoc _
  ·exact q97 l oA e he
open Go.Lib (validD)
inductive L75:Bs->Prop
 |nil:L75 []
 |cons (p s:Bs):10∉p->p.length<=75->validD p=true->L75 s->L75 (p++(13::10::s))
def zlu(x:List bz×Unit)(h:bks [.list ue] x<=1048576):∀e∈x.1,qf e:=by
 obtain⟨l,_⟩:=x;have h:(((l:List ue.den).map ue.bk).sum+1)+0<=1048576:=h;exact q97 l oA
end Go.Sym
namespace Go.Sym
def ij(old new s:Bs):Bs:=Lib.replaceK old new (Lib.count s old) s
def zti(a b:UInt8)(new:Bs):ij [a,b] new []=[]:=rfl
def q13(a b:UInt8)(new:Bs)(c:UInt8)(r:Bs)(h:¬([a,b]:Bs).isPrefixOf (c::r)=true):ij [a,b] new (c::r)=c::ij [a,b] new r:=by
 have hi:Lib.index (c::r) [a,b]=if Lib.index r [a,b] == -1 then -1 else Lib.index r [a,b]+1:=by rw[Lib.index,qW h]
 have hg:=Lib.index_ge r [a,b];unfold ij;by_cases q:Lib.index r [a,b] = -1
 ·rw[q]at hi;rw[Lib.count_miss q,Lib.count_miss (hi.trans rfl)];rfl
 ·obtain⟨i,e⟩:∃i:Nat,Lib.index r [a,b]=i:=⟨(Lib.index r [a,b]).toNat,oA⟩
  have e1:Lib.index (c::r) [a,b]=((i+1:Nat):Int):=by
   rw[hi,qW (by simpa using q),e];omega
  rw[Lib.count_hit oC e,Lib.count_hit oC e1,Nat.add_comm 1,Nat.add_comm 1,Lib.replaceK_hit _ _ _ _ _ e,Lib.replaceK_hit _ _ _ _ _ e1]
  simp[show i+1+2=i+2+1 by omega]
def q14(a b:UInt8)(new r:Bs):ij [a,b] new (a::b::r)=new++ij [a,b] new r:=by
 have h:([a,b]:Bs).isPrefixOf (a::b::r)=true:=by simp[List.isPrefixOf]
 have e0:Lib.index (a::b::r) [a,b]=((0:Nat):Int):=by rw[Lib.index,qX h];rfl
 unfold ij;rw[Lib.count_hit oC e0,Nat.add_comm 1,Lib.replaceK_hit _ _ _ _ _ e0]
 simp
def qlm(a b:UInt8)(new:Bs):∀(s r:Bs),(∀c∈s,c≠a)->ij [a,b] new (s++r)=s++ij [a,b] new r
 |[],_,_=>rfl|c::s,r,h=>by
  rw[wK,q13 a b new c _ (by simp[List.isPrefixOf];exact fun q=>absurd q.symm (h c qH)),qlm a b new s r (fun d hd=>h d (qE _ hd))];rfl
def qrh(old new:Bs)(h:new.length<=old.length):∀(k:Nat)(s:Bs),(Lib.replaceK old new k s).length<=s.length
 |0,s=>wF _|k+1,s=>by
  rw[Lib.replaceK];split
  ·exact wF _
  ·rename_i q;have hg:=Lib.index_ge s old;have hq:Lib.index s old ≠ -1:=by simpa using q
   have hr:=Lib.index_room s old oA
   have:=qrh old new h k (s.drop ((Lib.index s old).toNat+old.length));rw[List.length_drop]at this;simp only[qM,List.length_take];omega
def mf(t:Bs):Bs:=ij [10,32] [] (ij [13,10] [10] t)
def HdL(s:Bs):Prop:=s=[]\/∃c r,s=c::r/\c≠32/\c≠13
def zvo(s:Bs)(h:HdL s):ij [10,32] [] (10::ij [13,10] [10] s)=10::mf s:=by
 refine q13 10 32 [] 10 _ ?_;rcases h with rfl|⟨c,r,rfl,h1,h2⟩
 ·rw[zti];decide
 ·rw[q13 13 10 _ c r (by simp[List.isPrefixOf];exact fun q=>absurd q.symm h2)]
  simp[List.isPrefixOf];exact fun q=>h1 q.symm
def w9:Nat->List Bs->Bs|_,[]=>[]|col,c::cs=>if 75<col+c.length then[10,32]++(c++w9 (1+c.length) cs) else c++w9 (col+c.length) cs
def q16(s:Bs):∀(cs:List Bs)(col:Nat),(∀c∈cs,∀x∈c,x≠10/\x≠13)->ij [13,10] [10] (ic col cs++s)=w9 col cs++10::ij [13,10] [10] s
 |[],col,_=>by rw[ic,w9];exact q14 13 10 [10] s|c::cs,col,h=>by
  have hc:=h c qH;have hcs:=fun d hd=>h d (qE _ hd)
  rw[ic,w9];split
  ·have:=q16 s cs (1+c.length) hcs;rw[show([13,10,32]++(c++ic (1+c.length) cs))++s=13::10::((32::c)++(ic (1+c.length) cs++s)) by simp,q14,qlm _ _ _ (32::c) _ (fun x hx=>by
    rcases List.mem_cons.1 hx with rfl|hx
    ·decide
    ·exact(hc x hx).2),this]
   simp
  ·have:=q16 s cs (col+c.length) hcs;rw[qS,qlm _ _ _ c _ (fun x hx=>(hc x hx).2),this]
   simp
def q17(s:Bs):∀(cs:List Bs)(col:Nat),(∀c∈cs,∀x∈c,x≠10/\x≠13)->ij [10,32] [] (w9 col cs++s)=cs.flatten++ij [10,32] [] s
 |[],col,_=>rfl|c::cs,col,h=>by
  have hc:=h c qH;have hcs:=fun d hd=>h d (qE _ hd)
  rw[w9,List.flatten_cons];split
  ·rw[show([10,32]++(c++w9 (1+c.length) cs))++s=10::32::(c++(w9 (1+c.length) cs++s)) by simp,q14,qlm _ _ _ c _ (fun x hx=>(hc x hx).1),q17 s cs _ hcs]
   simp
  ·rw[qS,qlm _ _ _ c _ (fun x hx=>(hc x hx).1),q17 s cs _ hcs]
   simp
def zvp(t s:Bs)(ht:LnB t)(hs:HdL s):mf (lg t++s)=t++10::mf s:=by
 obtain⟨h,hn,_⟩:=ht;obtain⟨R,hR,rfl⟩:=q2y h;have hl:=h.2;have hc:∀c∈R.map gg,∀x∈c,x≠10/\x≠13:=fun c hc x hx=>by
  refine hn x ?_;rw[← qcj];exact List.mem_flatten.2 ⟨c,hc,hx⟩
 unfold mf lg;rw[qy4 R hR,Option.getD_some,q16 s _ 0 hc,q17 _ _ 0 hc,qcj]
 exact congrArg (tx R++·) (zvo s hs)
def fc(l:List Bs):Bs:=l.flatMap fun s=>s++[10]
def qge(a:Bs)(l:List Bs)(t:Bs):fc (a::l)++t=a++10::(fc l++t):=by simp[fc]
def zf6(t:Bs):fc []++t=t:=rfl
def znm{t:Bs}(h:LnB t)(r:Bs):HdL (lg t++r):=by
 obtain⟨hv,hn,c,q,rfl,h1,h2⟩:=h;obtain⟨R,hR,e⟩:=q2y hv;have hl:=hv.2;rw[e]at hl
 cases R with
 |nil=>rw[zfw]at e;cases e
 |cons k R=>
  have h4:=q1o (q1n (hR k qH));unfold lg;rw[e,qy4 _ hR,Option.getD_some,List.map_cons,ic,qW oA]
  rw[qlu]at e
  cases hk:gg k with
  |nil=>rw[hk]at h4;simp at h4|cons x w=>
   rw[hk]at e;have:c=x:=by injection e
   subst this;exact .inr ⟨c,_,rfl,fun e=>by subst e;simp at h1,fun e=>by subst e;simp at h1⟩
def zf3(s:Bs)(hs:HdL s):∀l:List Bs,(∀t∈l,LnB t)->mf (l.flatMap lg++s)=fc l++mf s/\HdL (l.flatMap lg++s)
 |[],_=>⟨rfl,hs⟩|t::l,h=>by
  have ht:=h t qH;obtain⟨i1,i2⟩:=zf3 s hs l fun x hx=>h x (qE _ hx)
  rw[List.flatMap_cons,qS];exact⟨by rw[zvp t _ ht i2,i1,qge],znm ht _⟩
def zvr(t:Bs)(h:t.length<=20000:=by omega):qnl t=some ([10],mf t,0):=by
 have r1:ny t [13,10] [10]=some (ij [13,10] [10] t):=by
  unfold ny;rw[ao oH]
  unfold Lib.replaceAll Lib.replace Lib.replaceNum;rw[qW oD,qX (.inl oD)];rfl
 have hl:(ij [13,10] [10] t).length<=t.length:=qrh [13,10] [10] oD _ t
 have r2:ny (ij [13,10] [10] t) [10,32] []=some (mf t):=by
  unfold ny;rw[ao oH]
  unfold Lib.replaceAll Lib.replace Lib.replaceNum;rw[qW oD,qX (.inl oD)];rfl
 unfold qnl;rw[r1,qB,r2];rfl
def zvq(t:Bs):(mf t).length<=t.length:=
 Nat.le_trans (qrh [10,32] [] oD _ _) (qrh [13,10] [10] oD _ t)
open Go.Lib (decDigits itoa)
abbrev P1:=qa6 FU
abbrev P3:=qd9 FU
def zsg(n:Nat)(l:Bs)(evs:List bz)(h:∀x∈l,x≠10)(hl:l.length<=1000000)(h1:l≠[66,69,71,73,78,58,69,86,69,78,84]):P1 (n+1) [10] l 0 evs=some (.inl ([10],l,0,evs)):=by
 rw[P1,qa6,qn2,ixN 10 l h hl,qB,ao oA]
 unfold qdp;rw[ak (by simp[h1]),qB];rfl
def zsf(n:Nat)(t:Bs)(evs:List bz)(hl:t.length<=900000:=by omega):P1 (n+1) [10] ([66,69,71,73,78,58,69,86,69,78,84]++10::t) 0 evs=P3 (P1 n) FU [10] t 0 evs [] 1 0 [] [] [] [] 0 0 0 0 0 0 0 0 0 1 0 0 false true [] [] [] []:=by
 have ac:([66,69,71,73,78,58,69,86,69,78,84]++10::t:Bs).length=12+t.length:=by simp only[qM,qL,qZ];omega
 rw[P1,qa6,qn2,ixS 10 [66,69,71,73,78,58,69,86,69,78,84] t oD,qB,bp,Int.add_zero,show af ((([66,69,71,73,78,58,69,86,69,78,84]:Bs).length:Nat):Int)=11 from rfl,ao ⟨oA,oA⟩,show List.take (11:Int).toNat ([66,69,71,73,78,58,69,86,69,78,84]++10::t)=[66,69,71,73,78,58,69,86,69,78,84] from rfl]
 unfold qdp;rw[au,qB]
 dsimp only[ay];rw[show((List.length ([10]:Bs):Nat):Int)=1 from rfl,show af (((([66,69,71,73,78,58,69,86,69,78,84]:Bs).length:Nat):Int)+1)=12 from rfl,ao ⟨oA,oA⟩]
 rfl
def zss(r1:mh)(n:Nat)(l t:Bs)(evs:List bz)(u:Bs)(me sq:Int)(su pl og zn:Bs)(y mo da hh mi ss tz le fr ev co un:Int)(hu go:Bool)(gs:List (Bs×Int))(wd ex ad:List Int)(d:qej)(h:ef FU l u me sq su pl og zn y mo da hh mi ss tz le fr ev co un hu go gs wd ex ad=some d)(hn:∀x∈l,x≠10)(hl:(l++10::t).length<=1000000)(h1:l≠[66,69,71,73,78,58,69,86,69,78,84])(h2:l≠[69,78,68,58,69,86,69,78,84]) :
  P3 r1 (n+1) [10] (l++10::t) 0 evs u me sq su pl og zn y mo da hh mi ss tz le fr ev co un hu go gs wd ex ad=P3 r1 n [10] t 0 evs d.1 d.2.1 d.2.2.1 d.2.2.2.1 d.2.2.2.2.1 d.2.2.2.2.2.1 d.2.2.2.2.2.2.1 d.2.2.2.2.2.2.2.1 d.2.2.2.2.2.2.2.2.1 d.2.2.2.2.2.2.2.2.2.1 d.2.2.2.2.2.2.2.2.2.2.1 d.2.2.2.2.2.2.2.2.2.2.2.1 d.2.2.2.2.2.2.2.2.2.2.2.2.1 d.2.2.2.2.2.2.2.2.2.2.2.2.2.1 d.2.2.2.2.2.2.2.2.2.2.2.2.2.2.1 d.2.2.2.2.2.2.2.2.2.2.2.2.2.2.2.1 d.2.2.2.2.2.2.2.2.2.2.2.2.2.2.2.2.1 d.2.2.2.2.2.2.2.2.2.2.2.2.2.2.2.2.2.1 d.2.2.2.2.2.2.2.2.2.2.2.2.2.2.2.2.2.2.1 d.2.2.2.2.2.2.2.2.2.2.2.2.2.2.2.2.2.2.2.1 d.2.2.2.2.2.2.2.2.2.2.2.2.2.2.2.2.2.2.2.2.1 d.2.2.2.2.2.2.2.2.2.2.2.2.2.2.2.2.2.2.2.2.2.1 d.2.2.2.2.2.2.2.2.2.2.2.2.2.2.2.2.2.2.2.2.2.2.1 d.2.2.2.2.2.2.2.2.2.2.2.2.2.2.2.2.2.2.2.2.2.2.2.1 d.2.2.2.2.2.2.2.2.2.2.2.2.2.2.2.2.2.2.2.2.2.2.2.2:=by
 have ac:(l++10::t).length=l.length+(t.length+1):=oC
 rw[P3,qd9,qi1,ixS 10 l t hn hl,qB,bp,Int.add_zero,bw (x:=(l.length:Int)) oA oA,ao ⟨oA,oA⟩,show((l.length:Nat):Int).toNat=l.length by omega,List.take_left]
 unfold qaw;rw[ak (by simp[h1]),ak (by simp[h2]),h,qB,qB]
 dsimp only[ay];rw[show((List.length ([10]:Bs):Nat):Int)=1 from rfl,ce _,ao ⟨oA,oA⟩,show((l.length+1:Nat):Int).toNat=l.length+1 by omega,← List.drop_drop,List.drop_left]
 rfl
def zsi(r1:mh)(n:Nat)(t:Bs)(evs:List bz)(u:Bs)(me sq:Int)(su pl og zn:Bs)(y mo da hh mi ss tz le fr ev co un:Int)(hu:Bool)(gs:List (Bs×Int))(wd ex ad:List Int)(h:vq FU (u,me,sq,su,pl,og,gs,zn,(y,mo,da,hh,mi,ss,tz),le,fr,ev,co,un,hu,wd,ex,ad)=some (0,0))(hl:t.length<=900000)(he:evs.length<=100000) :
  P3 r1 (n+1) [10] ([69,78,68,58,69,86,69,78,84]++10::t) 0 evs u me sq su pl og zn y mo da hh mi ss tz le fr ev co un hu true gs wd ex ad=r1 [10] t 0 (evs++[(u,me,sq,su,pl,og,gs,zn,(y,mo,da,hh,mi,ss,tz),le,fr,ev,co,un,hu,wd,ex,ad)]):=by
 have ac:([69,78,68,58,69,86,69,78,84]++10::t:Bs).length=10+t.length:=by simp only[qM,qL,qZ];omega
 rw[P3,qd9,qi1,ixS 10 [69,78,68,58,69,86,69,78,84] t oD,qB,bp,Int.add_zero,show af ((([69,78,68,58,69,86,69,78,84]:Bs).length:Nat):Int)=9 from rfl,ao ⟨oA,oA⟩,show List.take (9:Int).toNat ([69,78,68,58,69,86,69,78,84]++10::t)=[69,78,68,58,69,86,69,78,84] from rfl]
 unfold qaw;rw[ak,au,au rfl,h,qB,oc,qB,au,ao oK,qB]
 dsimp only[ay];rw[show((List.length ([10]:Bs):Nat):Int)=1 from rfl,show af (((([69,78,68,58,69,86,69,78,84]:Bs).length:Nat):Int)+1)=10 from rfl,ao ⟨oA,oA⟩]
 rfl
end Go.Sym
