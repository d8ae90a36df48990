/- What the claim rests on, part 7: gathered texts. -/
import Derived.Lib.CountLaws
import Derived.Lib.IndexLaws
import Derived.Lib.Join
import Derived.Test.YtdnaaelkpgijeabGreatDoorSyP4
set_option maxRecDepth 100000
set_option linter.defProp false
set_option linter.unusedSimpArgs false
set_option linter.unusedVariables false
namespace Go.Sym
def bf{x:Int}(h1 : -9223372036854775808<=x:=by omega)(h2:x<9223372036854775808:=by omega):ae x=x:=by
 unfold ae IntKind.wrap;simp[IntKind.signed,IntKind.bits];omega
def a8{α:Type}{b:Bool}{x y:α}(h:b=true:=by first|rfl|simp;done):(bif b then x else y)=x:=by subst h;rfl
def ax{α:Type}{b:Bool}{x y:α}(h:b=false:=by first|rfl|simp;done):(bif b then x else y)=y:=by subst h;rfl
def jd{α:Type}{p:Prop}[Decidable p]{x y:α}:(bif decide p then x else y)=if p then x else y:=by by_cases h:p<;>simp[h]
def bq{α:Type}{p:Prop}[Decidable p]{x y:α}(h:p:=by first|omega|simp;done|simp;omega):(bif decide p then x else y)=x:=a8 (decide_eq_true h)
def dv{α:Type}{p:Prop}[Decidable p]{x y:α}(h:¬p:=by first|omega|simp;done|simp;omega):(bif decide p then x else y)=y:=ax (decide_eq_false h)
def qb9{α:Type}{p:Prop}[Decidable p]{x y:α}:(bif !decide p then x else y)=if p then y else x:=by by_cases h:p<;>simp[h]
def zs2{α:Type}{b:Bool}{x y:α}:(bif !b then x else y)=if b=false then x else y:=by cases b<;>rfl
def nu{α:Type}{a b:Int}{x y:α}:(bif a != b then x else y)=if a≠b then x else y:=by
 by_cases h:a=b
 ·rw[ax (by simp[h]),qW (by simp[h])]
 ·rw[a8 (by simp[h]),qX h]
def td{α:Type}{a b:Int}{x y:α}:(bif a==b then x else y)=if a=b then x else y:=by
 by_cases h:a=b
 ·rw[a8 (by simp[h]),qX h]
 ·rw[ax (by simp[h]),qW h]
def zs1{α:Type}{a b:UInt8}{x y:α}:(bif a==b then x else y)=if a=b then x else y:=by
 by_cases h:a=b
 ·rw[a8 (by simp[h]),qX h]
 ·rw[ax (by simp[h]),qW h]
def zz{α β:Type}(l:List α)(i:Int)(f:α->Option β):(bif decide (0<=i/\i.toNat<List.length l) then(l[i.toNat]?).bind f else none)=(am l i).bind f:=by
 unfold am;by_cases h:0<=i
 ·by_cases h2:i.toNat<l.length
  ·simp[h,h2]
  ·simp[h,h2]
 ·simp[h]
def kq{α:Type}(l:List α)(k:Nat)(h:k<l.length:=by omega):am l (k:Int)=some l[k]:=by
 unfold am;rw[qX];simp[h]
def zha{α:Type}(ab:List α)(c:α)(aa:List α):am (ab++c::aa) (ab.length:Int)=some c:=by
 unfold am;rw[qX];simp
def qn1{α:Type}(ab:List α)(c:α)(aa:List α):(ab++c::aa)[((ab.length:Nat):Int).toNat]? = some c:=oC
def qo7{α:Type}(ab:List α)(c d:α)(aa:List α):List.set (ab++c::aa) ((ab.length:Nat):Int).toNat d=ab++d::aa:=oC
def zo(k:Nat)(h:k<9223372036854775807:=by omega):ae ((k:Int)+1)=((k+1:Nat):Int):=by rw[bf];omega
def vf(P:UInt8->Prop)(h:∀n:_root_.Fin 256,P (UInt8.ofNat n.val))(c:UInt8):P c:=by
 have:=h ⟨c.toNat,c.toNat_lt⟩;simpa using this
def lo(c:UInt8):UInt8:=if 65<=c/\c<=90 then c+32 else c
def bl(c:UInt8):Bool:=c==32||c==9
def z1z(n:Nat)(h:n<1000000000:=by omega):ae (((n+1:Nat):Int)-1)=(n:Int):=by rw[bf];omega
def q3d(k:UInt8):∀(s:List UInt8),(∃t r,s=t++k::r/\∀x∈t,x≠k)\/∀x∈s,x≠k
 |[] => .inr (fun _ h=>by cases h)
 |c::s=>by
  by_cases hc:c=k
  ·subst hc;exact .inl ⟨[],s,rfl,fun _ h=>by cases h⟩
  ·rcases q3d k s with⟨t,r,rfl,h⟩|h
   ·exact .inl ⟨c::t,r,rfl,fun x hx=>(List.mem_cons.1 hx).elim (fun e=>e▸hc) (h x)⟩
   ·exact .inr fun x hx=>(List.mem_cons.1 hx).elim (fun e=>e▸hc) (h x)
def qzs{α:Type}{x y:α}:(bif !true then x else y)=y:=rfl
def q1n(c:UInt8):(c+97)-65=c+32:=by
 rw[UInt8.sub_eq_add_neg,UInt8.add_assoc];rfl
def qh4(fu:Nat):∀(n:Nat)(ab aa:List UInt8),aa.length<n->ab.length+aa.length<=9223372036854775807 ->
  sh fu n ((ab.length+aa.length:Nat):Int) (ab.length:Int) (ab++aa)=some (ab++aa.map lo)
 |0,_,_,h,_=>absurd h oA|n+1,ab,[],_,_=>by simp[sh,qa9]|n+1,ab,c::aa,h,hb=>by
  simp only[qL]at h hb;have ih:=fun d=>qh4 fu n (ab++[d]) aa oA oD
  simp only[qM,qL,qZ,qS,wM,wO]at ih;have e:((ab.length+(c::aa).length:Nat):Int)=((ab.length+1+aa.length:Nat):Int):=by simp only[qL];omega
  have hl:0<=(ab.length:Int)/\(ab.length:Int).toNat<(ab++c::aa).length:=oC
  rw[e];simp only[sh,qa9];rw[bq,bq hl,qn1,qB,qo7,zo _,jd,jd,ih,ih,bq hl,qB]
  unfold lo;simp only[List.map_cons,q1n];by_cases h1:(65:UInt8)<=c
  ·by_cases h2:c<=90
   ·simp[h1,h2]
   ·simp[h1,h2]
  ·simp[h1]
def q1r(fu:Nat)(s:List UInt8)(h:s.length<fu)(hb:s.length<=maxLen):ur fu s=some (s.map lo):=by
 unfold ur;rw[bq hb];have:=qh4 fu fu [] s h (by simpa [maxLen] using hb)
 simpa using this
def zta(fu:Nat)(a b:List UInt8)(ha:a.length<fu)(hb:b.length<fu)(ha':a.length<=maxLen)(hb':b.length<=maxLen):fm fu a b=some (a.map lo==b.map lo):=by
 unfold fm;rw[td,q1r fu a ha ha',q1r fu b hb hb'];by_cases h:(a.length:Int)=b.length
 ·rw[qX h];rfl
 ·rw[qW h];have:(a.map lo==b.map lo)=false:=by
   rw[beq_eq_false_iff_ne];intro q;apply h;have:=congrArg List.length q;simp only[wC]at this;omega
  rw[this]
open Go.Lib (decodeL decodeN decodeL_N validD validD_step decodeL_le decodeL_width)
def qiw(rep:Bs):∀(n:Nat)(b:Bool)(l:Bs),l.length<=n->vu rep n b l=vu rep l.length b l:=by
 intro n
 induction n using Nat.strongRecOn with
 |ind n ih=>
  intro b l h
  cases l with
  |nil=>cases n<;>rfl
  |cons c t=>
   obtain⟨m,rfl⟩:∃m,n=m+1:=⟨n-1,by simp only[qL]at h;omega⟩
   simp only[qL]at h ⊢;have hw:=decodeL_width (c::t);rw[vu,vu];have hd:((c::t).drop (decodeL (c::t)).2).length<=t.length:=by rw[List.length_drop];simp only[qL];omega
   rw[ih m oA true t oA,ih m oA false _ oA]
   by_cases hm:t.length<m+1
   ·rw[ih t.length oA true t (wF _),ih t.length oA false _ hd]
   ·omega
end Go.Sym
namespace Go.Sym
def qzi(cs:List UInt8):List Bool:=cs.foldl (fun m c=>m.set c.toNat true) (List.replicate 256 false)
structure AC(cs:List UInt8):Prop where
 two:2<=cs.length
 few:cs.length<100
 low:∀c∈cs,c.toNat<128
 set:∀n,qbs (n+100) cs=some (qzi cs,true)
 get:∀c:UInt8,(qzi cs)[c.toNat]? = some (cs.contains c)
 len:(qzi cs).length=256
open Go.Lib (decodeL decodeN decodeL_N decodeL_le decodeL_width validD validD_step)
def zu0(c:Nat):Bs:=if c<128 then[UInt8.ofNat c] else if c<2048 then[UInt8.ofNat (192+c/64),UInt8.ofNat (128+c%64)] else if c<65536 then[UInt8.ofNat (224+c/4096),UInt8.ofNat (128+c/64%64),UInt8.ofNat (128+c%64)] else[UInt8.ofNat (240+c/262144),UInt8.ofNat (128+c/4096%64),UInt8.ofNat (128+c/64%64),UInt8.ofNat (128+c%64)]
def tx(R:List Nat):Bs:=R.flatMap zu0
end Go.Sym
namespace Go.Sym
def zfd(c:UInt8):oq c=some (bl c):=by unfold oq bl;cases c==32<;>rfl

open Go.Lib (validD)
abbrev Prm:Type:=Bs×Bs
def SmP(l:List Prm):Prop:=l.length<=4000000/\∀x∈l,x.1.length<=4000000/\x.2.length<=4000000
def lk(a b:Bs):Bool:=a.map lo==b.map lo
def qo6(fu:Nat)(hfu:90000000<=fu)(a b:Bs)(ha:a.length<=4000000)(hb:b.length<=4000000):fm fu a b=some (lk a b):=
 zta fu a b oA oA (by simp[maxLen];omega) (by simp[maxLen];omega)
def SmP.mono{l l':List Prm}(h:SmP l)(h1:l'.length<=l.length)(h2:∀x∈l',x∈l):SmP l':=⟨Nat.le_trans h1 h.1,fun x hx=>h.2 x (h2 x hx)⟩
end Go.Sym
namespace Go.Sym
end Go.Sym
namespace Go.Sym.Tr
def lo(c:UInt8):UInt8:=if 65<=c/\c<=90 then c+32 else c
def q1n(c:UInt8):(c+97)-65=c+32:=by
 rw[UInt8.sub_eq_add_neg,UInt8.add_assoc];rfl
def qh4(fu:Nat):∀(n:Nat)(ab aa:List UInt8),aa.length<n->ab.length+aa.length<=9223372036854775807 ->
  sh fu n ((ab.length+aa.length:Nat):Int) (ab.length:Int) (ab++aa)=some (ab++aa.map lo)
 |0,_,_,h,_=>absurd h oA|n+1,ab,[],_,_=>by simp[sh,qa9]|n+1,ab,c::aa,h,hb=>by
  simp only[qL]at h hb;have ih:=fun d=>qh4 fu n (ab++[d]) aa oA oD
  simp only[qM,qL,qZ,qS,wM,wO]at ih;have e:((ab.length+(c::aa).length:Nat):Int)=((ab.length+1+aa.length:Nat):Int):=by simp only[qL];omega
  have hl:0<=(ab.length:Int)/\(ab.length:Int).toNat<(ab++c::aa).length:=oC
  rw[e];simp only[sh,qa9];rw[bq,bq hl,qn1,qB,qo7,zo _,jd,jd,ih,ih,bq hl,qB]
  unfold lo;simp only[List.map_cons,q1n];by_cases h1:(65:UInt8)<=c
  ·by_cases h2:c<=90
   ·simp[h1,h2]
   ·simp[h1,h2]
  ·simp[h1]
def q1r(fu:Nat)(s:List UInt8)(h:s.length<fu)(hb:s.length<=maxLen):ur fu s=some (s.map lo):=by
 unfold ur;rw[bq hb];have:=qh4 fu fu [] s h (by simpa [maxLen] using hb)
 simpa using this
end Go.Sym.Tr
namespace Go.Sym.Tr
def wr(m:UInt8)(col i:Nat):List UInt8->Int|[] => -1|c::r=>if(c==13&&r.head? == some 10)=true then wr m 0 (i+2) r.tail else if c=0\/c=13\/c=10\/m<c\/col=998 then(i:Int) else wr m (col+1) (i+1) r
termination_by l=>l.length
decreasing_by all_goals (simp only[qL,List.length_tail];omega)
end Go.Sym.Tr
namespace Go.Sym.Tr
def mp:List UInt8:=[65,66,67,68,69,70,71,72,73,74,75,76,77,78,79,80,81,82,83,84,85,86,87,88,89,90,97,98,99,100,101,102,103,104,105,106,107,108,109,110,111,112,113,114,115,116,117,118,119,120,121,122,48,49,50,51,52,53,54,55,56,57,43,47]
def al(k:Nat):UInt8:=mp.getD k 0
def qmj(k:Nat)(h:k<64:=by omega):am mp (k:Int)=some (al k):=by
 have h':k<mp.length:=h;rw[kq _ _ h'];unfold al;simp[h']
def c0(x:Nat):UInt8:=al (x/262144%64)
def c1(x:Nat):UInt8:=al (x/4096%64)
def c2(x:Nat):UInt8:=al (x/64%64)
def c3(x:Nat):UInt8:=al (x%64)
def e64:List UInt8->List UInt8|[]=>[]|[a]=>[c0 (a.toNat*65536),c1 (a.toNat*65536),61,61]|[a,b]=>[c0 (a.toNat*65536+b.toNat*256),c1 (a.toNat*65536+b.toNat*256),c2 (a.toNat*65536+b.toNat*256),61]|a::b::c::r=>c0 (a.toNat*65536+b.toNat*256+c.toNat)::c1 (a.toNat*65536+b.toNat*256+c.toNat)::c2 (a.toNat*65536+b.toNat*256+c.toNat)::c3 (a.toNat*65536+b.toNat*256+c.toNat)::e64 r
def rm(x:Nat)(h:x<18446744073709551616:=by omega):(BitVec.ofInt 64 (x:Int)).toNat=x:=by
 rw[BitVec.toNat_ofInt];omega
def qo8(x:Nat)(h:x<1099511627776:=by omega):ae ((x:Int)*2 ^ min (8:Int).toNat 64)=((256*x:Nat):Int):=by
 rw[show(2:Int) ^ min (8:Int).toNat 64=256 by decide,bf];omega
def or8(x y:Nat)(h:x<1099511627776:=by omega)(hy:y<256:=by omega):ae (((BitVec.ofInt 64 (ae ((x:Int)*2 ^ min (8:Int).toNat 64))|||BitVec.ofInt 64 (y:Int)).toNat:Int))=((256*x+y:Nat):Int):=by
 rw[qo8 x h,BitVec.toNat_or,rm _,rm _]
 have:=Nat.two_pow_add_eq_or_of_lt (i:=8) (b:=y) (by simpa using hy) x
 rw[← show 2 ^ 8*x+y=256*x|||y from this]
 rw[bf]
def or0(y:Nat)(hy:y<256:=by omega):ae (((BitVec.ofInt 64 (0:Int)|||BitVec.ofInt 64 (y:Int)).toNat:Int))=(y:Int):=by
 have h0:(BitVec.ofInt 64 (0:Int)).toNat=0:=rm 0
 rw[BitVec.toNat_or,h0,rm _,Nat.zero_or,bf]
def qmm(x k:Nat)(p:Int)(hp:p=(k:Int))(hk:k<=30)(h:x<1099511627776):ae (((BitVec.ofInt 64 (Int.fdiv (x:Int) (2 ^ min p.toNat 64))&&&BitVec.ofInt 64 (63:Int)).toNat:Int))=((x/2 ^ k%64:Nat):Int):=by
 subst hp;have e1:min (k:Int).toNat 64=k:=oA
 have e2:Int.fdiv (x:Int) (2 ^ k)=((x/2 ^ k:Nat):Int):=by
  rw[Int.fdiv_eq_ediv_of_nonneg _ (by exact Int.le_of_lt (Int.pow_pos oE))]
  simp
 have hle:x/2 ^ k<=x:=Nat.div_le_self _ _;have h63:(BitVec.ofInt 64 (63:Int)).toNat=63:=rm 63
 rw[e1,e2,BitVec.toNat_and,rm _,h63]
 have:=Nat.and_two_pow_sub_one_eq_mod (x/2 ^ k) 6;rw[show(63:Nat)=2 ^ 6-1 by decide,this,show(2:Nat) ^ 6=64 by decide]
 rw[bf]
def qzc(x:Nat)(h:x<1099511627776):am mp (ae (((BitVec.ofInt 64 (Int.fdiv (x:Int) (2 ^ min (18:Int).toNat 64))&&&BitVec.ofInt 64 (63:Int)).toNat:Int)))=some (c0 x):=by
 rw[qmm x 18 18 rfl oA h,qmj _];rfl
def qzb(x:Nat)(h:x<1099511627776):am mp (ae (((BitVec.ofInt 64 (Int.fdiv (x:Int) (2 ^ min (12:Int).toNat 64))&&&BitVec.ofInt 64 (63:Int)).toNat:Int)))=some (c1 x):=by
 rw[qmm x 12 12 rfl oA h,qmj _];rfl
def qzd(x:Nat)(h:x<1099511627776):am mp (ae (((BitVec.ofInt 64 (Int.fdiv (x:Int) (2 ^ min (6:Int).toNat 64))&&&BitVec.ofInt 64 (63:Int)).toNat:Int)))=some (c2 x):=by
 rw[qmm x 6 6 rfl oA h,qmj _];rfl
def qza(x:Nat)(h:x<1099511627776):am mp (ae (((BitVec.ofInt 64 (Int.fdiv (x:Int) (2 ^ min (0:Int).toNat 64))&&&BitVec.ofInt 64 (63:Int)).toNat:Int)))=some (c3 x):=by
 rw[qmm x 0 0 rfl oA h,qmj _];unfold c3;simp
def wu(r0:List UInt8->Int->List UInt8->Option (List UInt8×Int×List UInt8))(k:Nat)(p0 p1 p2 p3:UInt8)(m1:List UInt8)(m3:Int)(m16:List UInt8):Option (List UInt8×Int×List UInt8):=
 (g7 p0 p1 p2 p3 m3 m16).bind fun v=>r0 (m1.drop k) v.1 v.2
def zx0(fu:Nat)(r0:List UInt8->Int->List UInt8->Option (List UInt8×Int×List UInt8))(x:Nat)(hx:x<1099511627776)(m1:List UInt8)(h:1<=m1.length)(m3:Int)(m16:List UInt8) :
  sg fu r0 1 (x:Int) m1 m3 m16=wu r0 1 (c0 x) (c1 x) 61 61 m1 m3 m16:=by
 unfold sg;rw[show([65,66,67,68,69,70,71,72,73,74,75,76,77,78,79,80,81,82,83,84,85,86,87,88,89,90,97,98,99,100,101,102,103,104,105,106,107,108,109,110,111,112,113,114,115,116,117,118,119,120,121,122,48,49,50,51,52,53,54,55,56,57,43,47]:List UInt8)=mp from rfl]
 rw[qzc x hx,qzb x hx,qzd x hx,qza x hx];simp only[qB,dv (show ¬(1:Int)<0 by decide),dv (show ¬(1:Int)<1 by decide),bq (show(1:Int)<2 by decide),bq (show(1:Int)<3 by decide),bq (show 0<=(1:Int)/\(1:Int)<=(m1.length:Int) by omega)]
 rfl
def zx1(fu:Nat)(r0:List UInt8->Int->List UInt8->Option (List UInt8×Int×List UInt8))(x:Nat)(hx:x<1099511627776)(m1:List UInt8)(h:2<=m1.length)(m3:Int)(m16:List UInt8) :
  sg fu r0 2 (x:Int) m1 m3 m16=wu r0 2 (c0 x) (c1 x) (c2 x) 61 m1 m3 m16:=by
 unfold sg;rw[show([65,66,67,68,69,70,71,72,73,74,75,76,77,78,79,80,81,82,83,84,85,86,87,88,89,90,97,98,99,100,101,102,103,104,105,106,107,108,109,110,111,112,113,114,115,116,117,118,119,120,121,122,48,49,50,51,52,53,54,55,56,57,43,47]:List UInt8)=mp from rfl]
 rw[qzc x hx,qzb x hx,qzd x hx,qza x hx];simp only[qB,dv (show ¬(2:Int)<0 by decide),dv (show ¬(2:Int)<1 by decide),dv (show ¬(2:Int)<2 by decide),bq (show(2:Int)<3 by decide),bq (show 0<=(2:Int)/\(2:Int)<=(m1.length:Int) by omega)]
 rfl
def zx2(fu:Nat)(r0:List UInt8->Int->List UInt8->Option (List UInt8×Int×List UInt8))(x:Nat)(hx:x<1099511627776)(m1:List UInt8)(h:3<=m1.length)(m3:Int)(m16:List UInt8) :
  sg fu r0 3 (x:Int) m1 m3 m16=wu r0 3 (c0 x) (c1 x) (c2 x) (c3 x) m1 m3 m16:=by
 unfold sg;rw[show([65,66,67,68,69,70,71,72,73,74,75,76,77,78,79,80,81,82,83,84,85,86,87,88,89,90,97,98,99,100,101,102,103,104,105,106,107,108,109,110,111,112,113,114,115,116,117,118,119,120,121,122,48,49,50,51,52,53,54,55,56,57,43,47]:List UInt8)=mp from rfl]
 rw[qzc x hx,qzb x hx,qzd x hx,qza x hx];simp only[qB,dv (show ¬(3:Int)<0 by decide),dv (show ¬(3:Int)<1 by decide),dv (show ¬(3:Int)<2 by decide),dv (show ¬(3:Int)<3 by decide),bq (show 0<=(3:Int)/\(3:Int)<=(m1.length:Int) by omega)]
 rfl
def zst(fu:Nat)(r0:List UInt8->Int->List UInt8->Option (List UInt8×Int×List UInt8))(a:UInt8)(m3:Int)(m16:List UInt8) :
  sf fu r0 [a] m3 m16=wu r0 1 (c0 (a.toNat*65536)) (c1 (a.toNat*65536)) 61 61 [a] m3 m16:=by
 have ha:=a.toNat_lt;unfold sf;have hm:(if(List.length [a]:Int)<3 then(List.length [a]:Int) else 3)=1:=rfl
 rw[hm,bq (show(0:Int)<(List.length [a]:Int) by simp),bq (show(0:Int)<1 by decide)]
 rw[show am [a] 0=some a from rfl,qB,or0 _]
 unfold qa6;rw[dv (show ¬(1:Int)<1 by decide),qo8 _]
 unfold qa7;rw[dv (show ¬(2:Int)<1 by decide),qo8 _,zx0 _ _ _ oA _ oC]
 rw[show 256*(256*a.toNat)=a.toNat*65536 by omega]
def zsu(fu:Nat)(r0:List UInt8->Int->List UInt8->Option (List UInt8×Int×List UInt8))(a b:UInt8)(m3:Int)(m16:List UInt8) :
  sf fu r0 [a,b] m3 m16=wu r0 2 (c0 (a.toNat*65536+b.toNat*256)) (c1 (a.toNat*65536+b.toNat*256)) (c2 (a.toNat*65536+b.toNat*256)) 61 [a,b] m3 m16:=by
 have ha:=a.toNat_lt;have hb:=b.toNat_lt;unfold sf;have hm:(if(List.length [a,b]:Int)<3 then(List.length [a,b]:Int) else 3)=2:=rfl
 rw[hm,bq (show(0:Int)<(List.length [a,b]:Int) by simp),bq (show(0:Int)<2 by decide)]
 rw[show am [a,b] 0=some a from rfl,qB,or0 _]
 unfold qa6;rw[bq (show(1:Int)<2 by decide),show am [a,b] 1=some b from rfl,qB,or8 _ _]
 unfold qa7;rw[dv (show ¬(2:Int)<2 by decide),qo8 _,zx1 _ _ _ oA _ oC]
 rw[show 256*(256*a.toNat+b.toNat)=a.toNat*65536+b.toNat*256 by omega]
def zsv(fu:Nat)(r0:List UInt8->Int->List UInt8->Option (List UInt8×Int×List UInt8))(a b c:UInt8)(r:List UInt8)(m3:Int)(m16:List UInt8) :
  sf fu r0 (a::b::c::r) m3 m16=wu r0 3 (c0 (a.toNat*65536+b.toNat*256+c.toNat)) (c1 (a.toNat*65536+b.toNat*256+c.toNat)) (c2 (a.toNat*65536+b.toNat*256+c.toNat)) (c3 (a.toNat*65536+b.toNat*256+c.toNat)) (a::b::c::r) m3 m16:=by
 have ha:=a.toNat_lt;have hb:=b.toNat_lt;have hc:=c.toNat_lt;unfold sf;have hl:((a::b::c::r).length:Int)=(r.length:Int)+3:=by simp;omega
 have hm:(if((a::b::c::r).length:Int)<3 then((a::b::c::r).length:Int) else 3)=3:=by rw[qW]
 rw[hm,bq (show(0:Int)<((a::b::c::r).length:Int) by omega),bq (show(0:Int)<3 by decide)]
 rw[show am (a::b::c::r) 0=some a from rfl,qB,or0 _]
 unfold qa6;rw[bq (show(1:Int)<3 by decide),show am (a::b::c::r) 1=some b from rfl,qB,or8 _ _]
 unfold qa7;rw[bq (show(2:Int)<3 by decide),show am (a::b::c::r) 2=some c from rfl,qB,or8 _ _,zx2 _ _ _ oA _ oC]
 rw[show 256*(256*a.toNat+b.toNat)+c.toNat=a.toNat*65536+b.toNat*256+c.toNat by omega]
end Go.Sym.Tr
namespace Go.Sym.Tr
def qcy:Nat->List UInt8->List UInt8|0,_=>[]|n+1,s=>if 76<s.length then s.take 76++[13,10]++qcy n (s.drop 76) else if s=[] then[] else s++[13,10]
def zh3:∀(n m:Nat)(s:List UInt8),s.length<n->s.length<m->qcy n s=qcy m s
 |0,_,_,h,_=>absurd h oA|_,0,_,_,h=>absurd h oA|n+1,m+1,s,h,k=>by
  unfold qcy;by_cases c:76<s.length
  ·rw[qX c,qX c,zh3 n m (s.drop 76) oD oD]
  ·rw[qW c,qW c]
def lines76(s:List UInt8):List UInt8:=qcy (s.length+1) s
def lines76_eq(s:List UInt8):lines76 s=if 76<s.length then s.take 76++[13,10]++lines76 (s.drop 76) else if s=[] then[] else s++[13,10]:=by
 unfold lines76;rw[qcy];by_cases c:76<s.length
 ·rw[qX c,qX c,zh3 s.length ((s.drop 76).length+1) (s.drop 76) oD oA]
 ·rw[qW c,qW c]
def p7(col:Nat)(s:List UInt8):List UInt8:=
 if 76<col+s.length then s.take (76-col)++[13,10]++lines76 (s.drop (76-col)) else if col=0/\s=[] then[] else s++[13,10]
def zkc(s:List UInt8):p7 0 s=lines76 s:=by
 unfold p7
 conv=>rhs;rw[lines76_eq]
 simp
def zzl(s:List UInt8)(h:s≠[]):p7 76 s=[13,10]++p7 0 s:=by
 rw[zkc];unfold p7;have:0<s.length:=List.length_pos_iff.2 h;rw[qX]
 simp
def zkd(col:Nat)(p0 p1 p2 p3:UInt8)(s:List UInt8)(h:col+4<=76:=by omega):p7 col (p0::p1::p2::p3::s)=[p0,p1,p2,p3]++p7 (col+4) s:=by
 unfold p7;simp only[qL];by_cases c:76<col+4+s.length
 ·rw[qX,qX]
  obtain⟨k,hk⟩:∃k,76-col=k+4:=⟨76-col-4,oA⟩
  have hk2:76-(col+4)=k:=oA
  rw[hk,hk2];simp[List.take_succ_cons,List.drop_succ_cons]
 ·rw[qW (show ¬76<col+(s.length+1+1+1+1) by omega),qW c,qW (show ¬(col=0/\p0::p1::p2::p3::s=[]) by simp),qW (show ¬(col+4=0/\s=[]) by omega)]
  simp
def qhd:∀(b:List UInt8),(e64 b).length=4*((b.length+2)/3)
 |[]=>rfl|[_]=>by simp[e64]|[_,_]=>by simp[e64]|a::b::c::r=>by
  simp only[e64,qL,qhd r];omega
def zu1(p0 p1 p2 p3:UInt8)(col:Nat)(out:List UInt8)(hc:col<=76)(ho:out.length+6<=ao) :
  g7 p0 p1 p2 p3 (col:Int) out=some (if col=76 then((4:Int),out++[13,10]++[p0,p1,p2,p3]) else(((col+4:Nat):Int),out++[p0,p1,p2,p3])):=by
 unfold g7;rw[td];by_cases c:col=76
 ·subst c;rw[qX (show((76:Nat):Int)=76 from rfl),qX rfl,bq,bq]
 ·rw[qW,qW c,bq,bf]
  simp
def zvm(fu n:Nat):∀(b:List UInt8)(col:Nat)(out:List UInt8),b.length<n->col<=76->col%4=0->out.length+2*(e64 b).length+8<=ao ->
  ∃col':Nat,∃out',nk fu n b (col:Int) out=some ([],((col':Int),out'))/\out'.length+2<=ao/\out'++(if 0<col' then[13,10] else[])=out++p7 col (e64 b):=by
 induction n with
 |zero=>intro b col out h;omega|succ n ih=>
  intro b col out h hc hm ho;have four:∀(k:Nat)(p0 p1 p2 p3:UInt8)(r:List UInt8),b.drop k=r->e64 b=p0::p1::p2::p3::e64 r->r.length<n->nk fu (n+1) b (col:Int) out=wu (nk fu n) k p0 p1 p2 p3 b (col:Int) out ->
    ∃col':Nat,∃out',nk fu (n+1) b (col:Int) out=some ([],((col':Int),out'))/\out'.length+2<=ao/\out'++(if 0<col' then[13,10] else[])=out++p7 col (e64 b):=by
   intro k p0 p1 p2 p3 r hd he hr hp;rw[he,qL,qL,qL,qL]at ho;rw[hp,he];unfold wu;rw[zu1 _ _ _ _ _ _ hc oA,qB,hd]
   by_cases c:col=76
   ·rw[qX c];obtain⟨col',out',h1,h2,h3⟩:=ih r 4 (out++[13,10]++[p0,p1,p2,p3]) hr oA oA oD
    refine⟨col',out',h1,h2,?_⟩;rw[h3,c,zzl _ oC,zkd _ _ _ _ _ _]
    simp
   ·rw[qW c];obtain⟨col',out',h1,h2,h3⟩:=ih r (col+4) (out++[p0,p1,p2,p3]) hr oA oA oD
    refine⟨col',out',h1,h2,?_⟩;rw[h3,zkd _ _ _ _ _ _]
    simp
  match b,four with
  |[],_=>
   refine⟨col,out,?_,oA,?_⟩
   ·rw[nk,sf,dv]
   ·unfold p7;simp only[e64,qZ];rw[qW (show ¬76<col+0 by omega)]
    by_cases c:col=0
    ·subst c;simp
    ·rw[qX (show 0<col by omega)];simp[c]
  |[a],four=>exact four 1 (c0 (a.toNat*65536)) (c1 (a.toNat*65536)) 61 61 [] rfl (by simp only[e64]) (by simp at h;simp;omega) (by rw[nk];exact zst fu _ a _ _)|[a,b],four=>exact four 2 (c0 (a.toNat*65536+b.toNat*256)) (c1 (a.toNat*65536+b.toNat*256)) (c2 (a.toNat*65536+b.toNat*256)) 61 [] rfl (by simp only[e64]) (by simp at h;simp;omega) (by rw[nk];exact zsu fu _ a b _ _)|a::b::c::r,four=>exact four 3 (c0 (a.toNat*65536+b.toNat*256+c.toNat)) (c1 (a.toNat*65536+b.toNat*256+c.toNat)) (c2 (a.toNat*65536+b.toNat*256+c.toNat)) (c3 (a.toNat*65536+b.toNat*256+c.toNat)) r rfl (by simp only[e64]) (by simp at h;omega) (by rw[nk];exact zsv fu _ a b c r _ _)
def enc64_eq(fu:Nat)(b:List UInt8)(hf:b.length<fu)(hb:b.length<=12000):qe1 fu b=some ((0,0),lines76 (e64 b)):=by
 unfold qe1 qri;rw[dv,qB]
 unfold qrj;obtain⟨col',out',h1,h2,h3⟩:=zvm fu fu b 0 [] hf oA rfl (by rw[qhd];simp only[ao,qZ];omega)
 rw[show nk fu fu b (0:Int) []=some ([],((col':Int),out')) from h1,qB]
 rw[zkc,List.nil_append]at h3;simp only[cd,qB];rw[← h3,jd];by_cases c:0<col'
 ·rw[qX (show(0:Int)<(col':Int) by omega),qX c,bq]
 ·rw[qW (show ¬(0:Int)<(col':Int) by omega),qW c];simp
end Go.Sym.Tr
namespace Go.Sym.Tr
def zxk(c:UInt8):List Nat:=[c.toNat/128%2,c.toNat/64%2,c.toNat/32%2,c.toNat/16%2,c.toNat/8%2,c.toNat/4%2,c.toNat/2%2,c.toNat%2]
def bits(b:List UInt8):List Nat:=b.flatMap zxk
def d6(a:Nat):List Nat->Nat|[]=>a|x::l=>d6 (2*a+x) l
def q3i:∀(l:List Nat)(a:Nat),(∀x∈l,x<=1)->d6 a l+1<=(a+1)*2 ^ l.length
 |[],a,_=>by simp[d6]|x::l,a,h=>by
  have:=q3i l (2*a+x) (fun y hy=>h y (qE _ hy))
  have hx:=h x qH;unfold d6;refine Nat.le_trans this ?_;rw[qL,Nat.pow_succ,Nat.mul_comm (2 ^ l.length) 2,← Nat.mul_assoc];exact Nat.mul_le_mul_right _ oA
def n6(a:Nat)(h:a<256):2*(2*(2*(2*(2*(2*0+a/128%2)+a/64%2)+a/32%2)+a/16%2)+a/8%2)+a/4%2=a/4:=oA
def n2(a:Nat):2*(2*0+a/2%2)+a%2=a%4:=oA
def n4(t b:Nat)(h:b<256):2*(2*(2*(2*t+b/128%2)+b/64%2)+b/32%2)+b/16%2=16*t+b/16:=oA
def x0(a b c:Nat)(h:a<256)(hb:b<256)(hc:c<256):(a*65536+b*256+c)/262144%64=a/4:=oA
def x1(a b c:Nat)(h:a<256)(hb:b<256)(hc:c<256):(a*65536+b*256+c)/4096%64=16*(a%4)+b/16:=oA
def x2(a b c:Nat)(h:a<256)(hb:b<256)(hc:c<256):(a*65536+b*256+c)/64%64=4*(b%16)+c/64:=oA
def x3(a b c:Nat)(h:a<256)(hb:b<256)(hc:c<256):(a*65536+b*256+c)%64=c%64:=oA
end Go.Sym.Tr
namespace Go.Sym.Tr
def vf(P:UInt8->Prop)(h:∀n:_root_.Fin 256,P (UInt8.ofNat n.val))(c:UInt8):P c:=by
 have:=h ⟨c.toNat,c.toNat_lt⟩;simpa using this
def isL:List UInt8->Bool|a::b::_=>a==13&&b==10|_=>false
end Go.Sym.Tr
namespace Go.Sym.Tr
end Go.Sym.Tr
namespace Go.Sym.Tr
def sp:List UInt8->List UInt8×List UInt8|[]=>([],[])|c::r=>if isL (c::r) then([],c::r) else(c::(sp r).1,(sp r).2)
end Go.Sym.Tr
namespace Go.Sym.Tr
end Go.Sym.Tr
namespace Go.Sym.Tr
def l9(c:UInt8):Int:=Lib.indexByte mp c
def z1t:∀n:_root_.Fin 256,l9 (UInt8.ofNat n.val) = -1\/(0<=l9 (UInt8.ofNat n.val)/\l9 (UInt8.ofNat n.val)<64):=by decide +kernel
def z1u(c:UInt8):l9 c = -1\/(0<=l9 c/\l9 c<64):=vf (fun c=>l9 c = -1\/(0<=l9 c/\l9 c<64)) z1t c
def jo(v:Nat):List Nat:=[v/32%2,v/16%2,v/8%2,v/4%2,v/2%2,v%2]
def pg:List UInt8->List Nat|[]=>[]|c::r=>if c=61 then[] else if l9 c<0 then pg r else jo (l9 c).toNat++pg r
def ve:List Nat->List UInt8|a::b::c::d::e::f::g::h::r=>di ((d6 0 [a,b,c,d,e,f,g,h]:Nat):Int)::ve r|_=>[]
def q3h:∀(l:List Nat)(a:Nat),d6 a l=a*2 ^ l.length+d6 0 l
 |[],a=>by simp[d6]|x::l,a=>by
  rw[d6,d6,q3h l (2*a+x),q3h l (2*0+x),qL,Nat.pow_succ,Nat.add_mul,Nat.add_mul];have:2*a*2 ^ l.length=a*(2 ^ l.length*2):=by rw[Nat.mul_comm 2 a,Nat.mul_assoc,Nat.mul_comm 2]
  omega
def q3g:∀(l m:List Nat)(a:Nat),d6 a (l++m)=d6 (d6 a l) m|[],_,_=>rfl|x::l,m,a=>q3g l m (2*a+x)
def z0e(a v:Nat)(h:v<64):d6 a (jo v)=64*a+v:=by
 simp only[jo,d6];omega
def z0d(v:Nat):∀x∈jo v,x<=1:=by
 intro x hx;simp only[jo,wE,List.not_mem_nil,or_false]at hx;omega
def ztf(q r:List Nat)(h:8<=q.length:=by omega):ve (q++r)=di ((d6 0 (q.take 8):Nat):Int)::ve (q.drop 8++r):=by
 match q,h with|a::b::c::d::e::f::g::i::t,_=>simp[ve]
def zfn(q:List Nat)(h:q.length<8):ve q=[]:=by
 match q,h with|[],_=>rfl|[_],_=>rfl|[_,_],_=>rfl|[_,_,_],_=>rfl|[_,_,_,_],_=>rfl|[_,_,_,_,_],_=>rfl|[_,_,_,_,_,_],_=>rfl|[_,_,_,_,_,_,_],_=>rfl|_::_::_::_::_::_::_::_::_,h=>simp at h;omega
def or6(x v:Nat)(h:x<1099511627776)(hv:v<64):ae (((BitVec.ofInt 64 (ae ((x:Int)*2 ^ min (6:Int).toNat 64))|||BitVec.ofInt 64 (v:Int)).toNat:Int))=((64*x+v:Nat):Int):=by
 have e:ae ((x:Int)*2 ^ min (6:Int).toNat 64)=((64*x:Nat):Int):=by
  rw[show(2:Int) ^ min (6:Int).toNat 64=64 by decide,bf];omega
 rw[e,BitVec.toNat_or,rm _,rm _]
 have:=Nat.two_pow_add_eq_or_of_lt (i:=6) (b:=v) (by simpa using hv) x
 rw[← show 2 ^ 6*x+v=64*x|||v from this]
 rw[bf]
def zr1(x k:Nat)(h:x<1099511627776:=by omega)(hk:k<=20:=by omega):ae (((BitVec.ofInt 64 (x:Int)&&&BitVec.ofInt 64 (ae ((ae ((1:Int)*2 ^ min (k:Int).toNat 64))-(1:Int)))).toNat:Int))=((x%2 ^ k:Nat):Int):=by
 have e1:min (k:Int).toNat 64=k:=oA
 have hp:2 ^ k<=2 ^ 20:=Nat.pow_le_pow_right oA hk
 have hp1:1<=2 ^ k:=Nat.one_le_two_pow;have e2:ae ((1:Int)*2 ^ k)=((2 ^ k:Nat):Int):=by
  have:((2:Int) ^ k)=((2 ^ k:Nat):Int):=oC
  rw[this,bf];omega
 have e3:ae (((2 ^ k:Nat):Int)-1)=((2 ^ k-1:Nat):Int):=by rw[bf];omega
 have hm:x%2 ^ k<=x:=Nat.mod_le _ _;rw[e1,e2,e3,BitVec.toNat_and,rm _,rm _,Nat.and_two_pow_sub_one_eq_mod,bf]
end Go.Sym.Tr
namespace Go.Sym.Tr
def z04(q:List Nat)(k:Nat)(h1:∀x∈q,x<=1):d6 0 (q.take k)=d6 0 q/2 ^ (q.length-k)/\d6 0 (q.drop k)=d6 0 q%2 ^ (q.length-k):=by
 have e:d6 0 q=d6 0 (q.take k)*2 ^ (q.drop k).length+d6 0 (q.drop k):=by
  rw[← q3h,← q3g,List.take_append_drop]
 have hd:=q3i (q.drop k) 0 (fun x hx=>h1 x (List.mem_of_mem_drop hx))
 rw[List.length_drop]at e hd;have hlt:d6 0 (q.drop k)<2 ^ (q.length-k):=oA
 rw[e,Nat.mul_comm,Nat.mul_add_div oA,Nat.mul_add_mod,Nat.div_eq_of_lt hlt,Nat.mod_eq_of_lt hlt]
 simp
def zwy(fu n:Nat)(m16:Int×Int):∀(ab aa:List UInt8)(p:List Nat)(out:List UInt8),aa.length<n->ab.length+aa.length<100000000->p.length<8->(∀x∈p,x<=1)->out.length+aa.length<=1000000000 ->
  yc fu n ((d6 0 p:Nat):Int) (p.length:Int) (ab++aa) ((ab.length+aa.length:Nat):Int) (ab.length:Int) m16 out=some ((0,0),out++ve (p++pg aa)):=by
 induction n with
 |zero=>intro ab aa p out h;omega|succ n ih=>
  intro ab aa p out h hb hp h1 ho
  cases aa with
  |nil=>
   rw[yc,qj0,dv]
   simp[cd,pg,zfn p hp]
  |cons c aa=>
   simp only[qL]at h hb ho;have nxt:∀(p:List Nat)(out:List UInt8),p.length<8->(∀x∈p,x<=1)->out.length+aa.length<=1000000000->yc fu n ((d6 0 p:Nat):Int) (p.length:Int) (ab++c::aa) ((ab.length+(aa.length+1):Nat):Int) ((ab.length+1:Nat):Int) m16 out=some ((0,0),out++ve (p++pg aa)):=by
    intro p out h2 h3 h4;have:=ih (ab++[c]) aa p out oA oD h2 h3 h4
    simp only[qM,qL,qZ,wO,qS,wK,List.nil_append]at this;rw[show ab.length+(aa.length+1)=ab.length+1+aa.length by omega]
    exact this
   rw[yc,qj0,bq,zha,qB,zs1]
   simp only[qL];by_cases k:c=61
   ·rw[qX k];simp[cd,pg,k,zfn p hp]
   ·rw[qW k,bq oE]
    rw[show([65,66,67,68,69,70,71,72,73,74,75,76,77,78,79,80,81,82,83,84,85,86,87,88,89,90,97,98,99,100,101,102,103,104,105,106,107,108,109,110,111,112,113,114,115,116,117,118,119,120,121,122,48,49,50,51,52,53,54,55,56,57,43,47]:List UInt8)=mp from rfl,show qe7 mp c=some (l9 c) from rfl,qB,zo _,jd]
    rcases z1u c with hv|⟨hv,hv2⟩
    ·rw[hv,qX oE,nxt p out hp h1 oA]
     simp[pg,k,hv]
    ·obtain⟨v,hvv⟩:∃v:Nat,l9 c=(v:Int):=⟨(l9 c).toNat,oA⟩
     have hv64:v<64:=oA
     have hd:pg (c::aa)=jo v++pg aa:=by
      rw[pg,qW k,qW,hvv];rfl
     have hq:d6 0 (p++jo v)=64*d6 0 p+v:=by rw[q3g,z0e _ _ hv64]
     have hpl:=q3i p 0 h1;have hp2:2 ^ p.length<=2 ^ 7:=Nat.pow_le_pow_right oA oA
     have hql:(p++jo v).length=p.length+6:=by simp[jo]
     have hq1:∀x∈p++jo v,x<=1:=fun x hx=>by
      rcases List.mem_append.1 hx with hx|hx
      ·exact h1 x hx
      ·exact z0d v x hx
     rw[hvv,qW,or6 _ _ oA hv64,← hq,hd,← qS]
     have e6:ae ((p.length:Int)+6)=((p.length+6:Nat):Int):=by rw[bf];omega
     rw[e6,jd];by_cases h8:8<=p.length+6
     ·have e8:ae (((p.length+6:Nat):Int)-8)=((p.length+6-8:Nat):Int):=by rw[bf];omega
      rw[qX,e8,bq,bq (by simp[ao];omega),bq]
      rw[zr1 _ _]
      obtain⟨s1,s2⟩:=z04 (p++jo v) 8 hq1;rw[hql]at s1 s2;rw[← s2,ztf _ _]
      have e9:Int.fdiv ((d6 0 (p++jo v):Nat):Int) (2 ^ min (((p.length+6-8:Nat):Int)).toNat 64)=((d6 0 ((p++jo v).take 8):Nat):Int):=by
       rw[s1,show min (((p.length+6-8:Nat):Int)).toNat 64=p.length+6-8 by omega,Int.fdiv_eq_ediv_of_nonneg _ (by exact Int.le_of_lt (Int.pow_pos oE))]
       simp
      rw[e9];have:=nxt ((p++jo v).drop 8) (out++[di ((d6 0 ((p++jo v).take 8):Nat):Int)]) (by simp[jo];omega) (fun x hx=>hq1 x (List.mem_of_mem_drop hx)) oD
      rw[List.length_drop,hql]at this;rw[this];simp
     ·rw[qW]
      have:=nxt (p++jo v) out oA hq1 oA
      rw[hql]at this;exact this
end Go.Sym.Tr
namespace Go.Sym.Tr
end Go.Sym.Tr
namespace Go.Sym.Tr
end Go.Sym.Tr
namespace Go.Sym.Tr
end Go.Sym.Tr
namespace Go.Sym.Tr
def lenient_eq(fu:Nat)(b:List UInt8)(hb:b.length<=24000)(hf:b.length<fu):qe2 fu b=some ((0,0),ve (pg b)):=by
 unfold qe2;rw[dv]
 have:=zwy fu fu (0,0) [] b [] [] hf oD oC (fun _ h=>by cases h) oD
 simpa [d6] using this
end Go.Sym.Tr
namespace Go.Sym.Tr
end Go.Sym.Tr
namespace Go.Sym
def p8(s:Bs):Bs:=Lib.replaceK [13,10] [] (Lib.count s [13,10]) s
def zzr(c:UInt8)(r:Bs)(h:c≠13):p8 (c::r)=c::p8 r:=by
 have h:¬([13,10]:Bs).isPrefixOf (c::r)=true:=by
  simp[List.isPrefixOf];intro q;exact absurd q.symm h
 have hi:Lib.index (c::r) [13,10]=if Lib.index r [13,10] == -1 then -1 else Lib.index r [13,10]+1:=by rw[Lib.index,qW h]
 have hg:=Lib.index_ge r [13,10];unfold p8;by_cases q:Lib.index r [13,10] = -1
 ·rw[q]at hi;rw[Lib.count_miss q,Lib.count_miss (hi.trans rfl)];rfl
 ·obtain⟨i,e⟩:∃i:Nat,Lib.index r [13,10]=i:=⟨(Lib.index r [13,10]).toNat,oA⟩
  have e1:Lib.index (c::r) [13,10]=((i+1:Nat):Int):=by
   rw[hi,qW (by simpa using q),e];omega
  rw[Lib.count_hit oC e,Lib.count_hit oC e1,Nat.add_comm 1,Nat.add_comm 1,Lib.replaceK_hit _ _ _ _ _ e,Lib.replaceK_hit _ _ _ _ _ e1]
  simp[show i+1+2=i+2+1 by omega]
def zkl(r:Bs):p8 (13::10::r)=p8 r:=by
 have h:([13,10]:Bs).isPrefixOf (13::10::r)=true:=by simp[List.isPrefixOf]
 have e0:Lib.index (13::10::r) [13,10]=((0:Nat):Int):=by rw[Lib.index,qX h];rfl
 unfold p8;rw[Lib.count_hit oC e0,Nat.add_comm 1,Lib.replaceK_hit _ _ _ _ _ e0]
 simp
def q21:∀(s r:Bs),(∀c∈s,c≠13)->p8 (s++r)=s++p8 r|[],_,_=>rfl|c::s,r,h=>by rw[wK,zzr c _ (h c qH),q21 s r (fun d hd=>h d (qE _ hd))];rfl
def zzs:∀(n:Nat)(s:Bs),s.length<n->(∀c∈s,c≠13)->p8 (Tr.lines76 s)=s:=by
 intro n
 induction n with
 |zero=>intro s h;omega|succ n ih=>
  intro s h hs;rw[Tr.lines76_eq];by_cases h76:76<s.length
  ·rw[qX h76,qS,q21 _ _ (fun c hc=>hs c (List.mem_of_mem_take hc))]
   show _++p8 (13::10::Tr.lines76 (s.drop 76))=_;rw[zkl,ih _ (by rw[List.length_drop];omega) (fun c hc=>hs c (List.mem_of_mem_drop hc)),List.take_append_drop]
  ·rw[qW h76];by_cases h0:s=[]
   ·subst h0;rw[qX rfl];rfl
   ·rw[qW h0,q21 _ _ hs];show s++p8 (13::10::[])=s;rw[zkl];show s++[]=s;simp
def zru:∀n:_root_.Fin 64,33<=(Tr.al n.val).toNat/\(Tr.al n.val).toNat<=126/\Tr.al n.val≠63:=by decide +kernel
def s8(k:Nat)(h:k<64):33<=(Tr.al k).toNat/\(Tr.al k).toNat<=126/\Tr.al k≠63:=zru ⟨k,h⟩
def zge:∀b:Bs,∀c∈Tr.e64 b,33<=c.toNat/\c.toNat<=126/\c≠63
 |[],c,h=>by cases h
 |[x],c,h=>by
  simp only[Tr.e64,Tr.c0,Tr.c1,wE,List.not_mem_nil,or_false]at h;rcases h with rfl|rfl|rfl|rfl
  ·exact s8 _ (Nat.mod_lt _ oA)
  ·exact s8 _ (Nat.mod_lt _ oA)
  ·decide
  ·decide
 |[x,y],c,h=>by
  simp only[Tr.e64,Tr.c0,Tr.c1,Tr.c2,wE,List.not_mem_nil,or_false]at h;rcases h with rfl|rfl|rfl|rfl
  ·exact s8 _ (Nat.mod_lt _ oA)
  ·exact s8 _ (Nat.mod_lt _ oA)
  ·exact s8 _ (Nat.mod_lt _ oA)
  ·decide
 |x::y::z::r,c,h=>by
  simp only[Tr.e64,Tr.c0,Tr.c1,Tr.c2,Tr.c3,wE]at h;rcases h with rfl|rfl|rfl|rfl|h
  ·exact s8 _ (Nat.mod_lt _ oA)
  ·exact s8 _ (Nat.mod_lt _ oA)
  ·exact s8 _ (Nat.mod_lt _ oA)
  ·exact s8 _ (Nat.mod_lt _ oA)
  ·exact zge r c h
def qhd:∀b:Bs,(Tr.e64 b).length<=4*b.length
 |[]=>by simp[Tr.e64]|[x]=>by simp[Tr.e64]|[x,y]=>by simp[Tr.e64]|x::y::z::r=>by
  have:=qhd r;simp only[Tr.e64,qL];omega
def zw1:∀(n:Nat)(s:Bs),s.length<n->(Tr.lines76 s).length<=2*s.length+2:=by
 intro n
 induction n with
 |zero=>intro s h;omega|succ n ih=>
  intro s h;rw[Tr.lines76_eq];by_cases h76:76<s.length
  ·have:=ih (s.drop 76) (by rw[List.length_drop];omega)
   rw[qX h76];simp only[qM,List.length_take,qL,qZ];rw[List.length_drop]at this;omega
  ·rw[qW h76];split
   ·simp
   ·simp only[qM,qL,qZ];omega
def zvf(fu:Nat)(hfu:90000000<=fu)(b:Bs)(hb:b.length<=12000):yl fu b=some (Tr.e64 b):=by
 have hl:=qhd b;unfold yl;rw[Tr.enc64_eq fu b oA hb,qB]
 unfold qbq;have h76:(Tr.lines76 (Tr.e64 b)).length<=1000000:=by have:=zw1 _ (Tr.e64 b) (Nat.lt_succ_self _);omega
 rw[bq (by simp only[qL,qZ];omega),qB]
 have:=zzs _ (Tr.e64 b) (Nat.lt_succ_self _) (fun c hc q=>by have:=zge b c hc;rw[q]at this;revert this;decide)
 unfold Lib.replaceAll Lib.replace Lib.replaceNum;rw[qW oE,qX (.inl oE)]
 exact congrArg some this
end Go.Sym
namespace Go.Sym
def z11(c:UInt8)(out:Bs)(h:out.length<=1000000000:=by omega):qbn c out=some (out++[c]):=by
 unfold qbn ql;rw[qB,bq oH]
def q33(t out:Bs)(h:out.length<=1000000000:=by omega)(ht:t.length<=1000000:=by omega):qbo t out=some ((List.length t:Int),out++t):=by
 unfold qbo ql;rw[qB,bq (by simp only[ao,qM];omega)]
open Go.Lib (indexByte)
def ixl:∀(w r:Bs),(∀c∈w,c≠63)->Lib.index (w++63::r) [63]=(w.length:Int)
 |[],r,_=>by rw[List.nil_append,Lib.index,qX (by simp[List.isPrefixOf])];rfl|c::w,r,h=>by
  have hc:=h c qH;rw[wK,Lib.index,qW (by simp[List.isPrefixOf];intro q;exact hc q.symm),ixl w r (fun d hd=>h d (qE _ hd)),qW (by rw[beq_iff_eq];omega)]
  simp
def zv0(w r:Bs)(h:∀c∈w,c≠63)(hl:w.length+r.length<=1000000):jr (w++63::r) [63]=some (w.length:Int):=by
 unfold jr qn;rw[bq (by simp only[qM,qL];omega),qB,ixl w r h]
end Go.Sym
namespace Go.Sym

def Ok{α:Type}(P:α->Prop)(x:Option α):Prop:=∃v,x=some v/\P v
def aw{α:Type}{P:α->Prop}{v:α}(h:P v):Ok P (some v):=⟨v,rfl,h⟩
def rn{α:Type}{P Q:α->Prop}{x:Option α}(h:Ok P x)(f:∀v,P v->Q v):Ok Q x:=by
 obtain⟨v,e,hv⟩:=h;exact⟨v,e,f v hv⟩
def au{α β:Type}{P:α->Prop}{Q:β->Prop}{x:Option α}{f:α->Option β}(h:Ok P x)(g:∀v,P v->Ok Q (f v)):Ok Q (x.bind f):=by
 obtain⟨v,e,hv⟩:=h;rw[e,qB];exact g v hv
def ci{α:Type}{P:α->Prop}{b:Bool}{x y:Option α}(h:b=true->Ok P x)(g:b=false->Ok P y):Ok P (bif b then x else y):=by
 cases b
 ·exact g rfl
 ·exact h rfl
def gd{α:Type}{P:α->Prop}{b:Bool}{x y:Option α}(h:b=false->Ok P x)(g:b=true->Ok P y):Ok P (bif !b then x else y):=by
 cases b
 ·exact h rfl
 ·exact g rfl
def db{α:Type}{P:α->Prop}{p:Prop}[Decidable p]{x y:Option α}(h:p->Ok P x)(g:¬p->Ok P y):Ok P (bif decide p then x else y):=by
 by_cases q:p
 ·rw[bq q];exact h q
 ·rw[dv q];exact g q
def cr{α:Type}{P:α->Prop}{p:Prop}[Decidable p]{x:Option α}(q:p)(h:Ok P x):Ok P (bif decide p then x else none):=by
 rw[bq q];exact h
def fk{α β γ:Type}{P:γ->Prop}{o:α ⊕ β}{f:α->Option γ}{g:β->Option γ}(h:∀a,o = .inl a->Ok P (f a))(h':∀b,o = .inr b->Ok P (g b)):Ok P (ay o f g):=by
 cases o with|inl a=>exact h a rfl|inr b=>exact h' b rfl
def q2a{α:Type}{P:α->Prop}{l:List α}{k:Nat}(h:k<l.length)(g:∀c∈l,P c):Ok P (am l (k:Int)):=⟨l[k],kq l k h,g _ (List.getElem_mem h)⟩
def gx{α:Type}{l:List α}{k:Nat}(h:k<l.length:=by omega):Ok (fun _=>True) (am l (k:Int)):=q2a h fun _ _=>trivial
def qo4:∀l:List Int,(ik l).length<=4*l.length
 |[]=>by simp[ik]|x::l=>by
  have:=qo4 l;have hx:(l7 x).length<=4:=by
   unfold l7 Utf8.encode;simp only[]
   repeat' split
   all_goals simp[ByteArray.size]
  have e:ik (x::l)=l7 x++ik l:=by simp[ik]
  rw[e,qM,qL];omega
def zz4(s:Bs):(ge s).length<=s.length:=q25 s s.length 0
def z0c(fu n:Nat)(m:Int):∀(ab aa:Bs)(out:List Int),aa.length<n->ab.length+aa.length<100000000->out.length+aa.length<=100000000 ->
  ∃r,qe8 fu n (ab++aa) ((ab.length+aa.length:Nat):Int) (ab.length:Int) m out=some (m,r)/\r.length<=out.length+aa.length:=by
 induction n with
 |zero=>intro ab aa out h;omega|succ n ih=>
  intro ab aa out h hb ho;rw[qe8,qsr]
  cases aa with
  |nil=>rw[dv];exact⟨out,rfl,oC⟩|cons c aa=>
   simp only[qL]at h hb ho;have ih:=fun out=>ih (ab++[c]) aa out oA oD
   simp only[qM,qL,qZ,qS,wM,wO]at ih;rw[bq (by simp only[qL];omega),zha,qB,zo _,show ab.length+(c::aa).length=ab.length+1+aa.length by simp only[qL];omega,jd]
   split
   ·rw[bq oH]
    obtain⟨r,h1,h2⟩:=ih (out++[65533]) oD
    exact⟨r,h1,by simp only[qM,qL,qZ]at h2 ⊢;omega⟩
   ·rw[bq oH]
    obtain⟨r,h1,h2⟩:=ih (out++[(c.toNat:Int)]) oD
    exact⟨r,h1,by simp only[qM,qL,qZ]at h2 ⊢;omega⟩
def zl2(k:Nat)(b:Bs)(h:k+1<b.length)(hb:b.length<100000000):∃v,qe9 (k:Int) b=some (v,b):=by
 unfold qe9;rw[kq b k,qB,zo k,kq b (k+1) h,qB]
 exact⟨_,rfl⟩
def qpn(k:Nat)(h:k<100000000:=by omega):ae ((k:Int)+2)=((k+2:Nat):Int):=by rw[bf];omega
def z1r(fu:Nat)(r0:Int->Bs->List Int->Option (List Int))(b:Bs)(hb:b.length<100000000)(j:Nat)(v:Int)(out:List Int)(hj:j+2<=b.length)(ho:out.length<=j)
  (h:∀out:List Int,out.length<=j+2->∃r,r0 ((j+2:Nat):Int) b out=some r/\r.length<=b.length):∃r,ye fu r0 (j:Int) v b out=some r/\r.length<=b.length:=by
 have g:∀x:Int,∃r,(bif decide (List.length (out++([x]:List Int))<=ao) then r0 (ae ((j:Int)+2)) b (out++([x]:List Int)) else none)=some r/\r.length<=b.length:=fun x=>by
  rw[bq oH,qpn j]
  exact h _ oO
 unfold ye;rw[jd];split
 ·rw[jd];split
  ·exact g 65533
  ·exact g v
 ·exact g v
def zt8(fu:Nat)(b:Bs)(hb:b.length<100000000)(n:Nat):∀(k:Nat)(out:List Int),k<=b.length->b.length-k<n->out.length<=k->∃r,uv fu n (k:Int) b out=some r/\r.length<=b.length:=by
 induction n with
 |zero=>intro k out _ h;omega|succ n ih=>
  intro k out hk h ho;rw[uv,qst];by_cases h0:(k:Int)<(b.length:Int)
  ·rw[bq h0,zo k,td]
   by_cases h1:((k+1:Nat):Int)=(b.length:Int)
   ·rw[qX h1,bq oH]
    exact⟨_,rfl,oO⟩
   ·rw[qW h1];obtain⟨v,hv⟩:=zl2 k b oA hb
    rw[hv,qB];have p3:∀(j:Nat)(v:Int),k<=j->j+2<=b.length->∃r,ye fu (uv fu n) (j:Int) v b out=some r/\r.length<=b.length:=fun j v h1 h2=>
     z1r fu _ b hb j v out h2 oA fun out ho=>ih (j+2) out oA oA oA
    have p2:∀(v w:Int)(c:Bool),k+3<b.length->∃r,qfa fu (uv fu n) (k:Int) v w c b out=some r/\r.length<=b.length:=fun v w c h4=>by
     unfold qfa;cases c
     ·rw[ax rfl];exact p3 k v (wF _) oA
     ·rw[a8 rfl,qpn k];exact p3 (k+2) _ oA oA
    have p1:∀(v:Int)(c:Bool),(c=true->k+3<b.length)->∃r,qbb fu (uv fu n) (k:Int) v c b out=some r/\r.length<=b.length:=fun v c hc=>by
     unfold qbb;cases c
     ·rw[ax rfl];exact p3 k v (wF _) oA
     ·have h4:=hc rfl;rw[a8 rfl,qpn k]
      obtain⟨w,hw⟩:=zl2 (k+2) b oA hb
      rw[hw,qB];dsimp only;rw[jd];split
      ·exact p2 v w _ h4
      ·exact p2 v w _ h4
    have e3:ae ((k:Int)+3)=((k+3:Nat):Int):=by rw[bf];omega
    dsimp only;rw[jd];split
    ·rw[jd];split
     ·rw[e3];exact p1 v _ fun q=>by have:=of_decide_eq_true q;omega
     ·exact p1 v false oC
    ·exact p1 v false oC
  ·rw[dv h0];exact⟨out,rfl,oA⟩
def zvb(fu:Nat)(hfu:90000000<=fu)(nm:Bs)(hn:nm.length<=4000000):(∃x:Bs,∃m:Int,uu fu nm=some (.inl (x,(true,m))))\/(∃x:Bs,uu fu nm=some (.inr (.inl (x,true))))\/(∃x:Bs,uu fu nm=some (.inr (.inr (.inl (x,true)))))\/uu fu nm=some (.inr (.inr (.inr ([],false)))):=by
 unfold uu qkc;simp only[qB];rw[qo6 fu hfu _ _ oC hn,qB]
 cases lk [97,115,99,105,105] nm
 ·rw[ax rfl,qo6 fu hfu _ _ oC hn,qB]
  cases lk [108,97,116,105,110,49] nm
  ·rw[ax rfl,qo6 fu hfu _ _ oC hn,qB]
   cases lk [117,116,102,56] nm
   ·rw[ax rfl,qo6 fu hfu _ _ oC hn,qB]
    cases lk [117,116,102,49,54,98,101] nm
    ·rw[ax rfl];exact .inr (.inr (.inr rfl))
    ·rw[a8 rfl];exact .inr (.inr (.inl ⟨_,rfl⟩))
   ·rw[a8 rfl];exact .inr (.inl ⟨_,rfl⟩)
  ·rw[a8 rfl];exact .inl ⟨_,_,rfl⟩
 ·rw[a8 rfl];exact .inl ⟨_,_,rfl⟩
def zto(fu:Nat)(hfu:90000000<=fu)(nm b:Bs)(hn:nm.length<=4000000:=by omega):∃s f,qkb fu nm b=some (s,f)/\s.length<=48000:=by
 unfold qkb;by_cases h12:(12000:Int)<(b.length:Int)
 ·rw[bq h12];exact⟨[],_,rfl,oC⟩
 ·rw[dv h12];rcases zvb fu hfu nm hn with⟨x,m,e⟩|⟨x,e⟩|⟨x,e⟩|e<;>rw[e,qB]<;>simp only[ay]
  ·rw[qzs];obtain⟨r,h1,h2⟩:=z0c fu fu m [] b [] oA oD oD
   have hr:=qo4 r;simp only[List.nil_append,qZ,wO]at h1 h2;rw[show((0:Nat):Int)=0 from rfl]at h1
   unfold qsq;rw[h1];exact⟨_,_,rfl,by simp only;omega⟩
  ·rw[qzs];have hr:=qo4 (ge b);have hv:=zz4 b;unfold qsp;rw[bq]
   exact⟨_,_,rfl,oA⟩
  ·rw[qzs];obtain⟨r,h1,h2⟩:=zt8 fu b oA fu 0 [] oA oA oC
   have hr:=qo4 r;unfold qss;rw[show(0:Int)=((0:Nat):Int) from rfl,h1]
   exact⟨_,_,rfl,oA⟩
  ·exact⟨_,_,rfl,oC⟩
def zvu:∀n:_root_.Fin 256,(qa8 (UInt8.ofNat n.val)).isSome=true:=by decide +kernel
def zg8(c:UInt8):Ok (fun _=>True) (qa8 c):=by
 obtain⟨v,e⟩:=Option.isSome_iff_exists.1 (vf (fun c=>(qa8 c).isSome=true) zvu c)
 exact⟨v,e,trivial⟩
def zx3(r:Bs):Ok (fun v=>v.2=true->2<=r.length) (qba r):=by
 unfold qba;refine db (fun _=>aw (fun q=>by cases q)) fun h => ?_
 have hl:2<=r.length:=oA
 refine au (gx (k:=0) oA) fun c1 _=>au (zg8 c1) fun x2 _=>au (gx (k:=1) oA) fun c3 _=>au (zg8 c3) fun x4 _ => ?_
 exact ci (fun _=>aw fun _=>hl) (fun _=>aw fun _=>hl)
def qa{α:Type}(out:List α)(c:α)(h:out.length<=1000000000:=by omega):(out++[c]).length<=ao:=by
 simp only[ao,qM,qL,qZ];omega
def fb(k:Nat)(h:k<100000000:=by omega):ae ((k:Int)+1)=((k+1:Nat):Int):=zo k
def z1p(fu n:Nat)(s:Bs)(hs:s.length<=100000):∀(k:Nat)(out:Bs),k<=s.length->s.length-k<n->out.length<=k->Ok (fun _=>True) (qbt fu n s (k:Int) out):=by
 induction n with
 |zero=>intro k out _ h;omega|succ n ih=>
  intro k out hk h ho;rw[qbt,qx0];refine db (fun h0 => ?_) (fun _=>aw trivial)
  have hk1:k<s.length:=oA
  have l1:∀c:UInt8,(out++[c]).length<=k+1:=fun c=>by simp;omega
  have p3:∀b:Bool,Ok (fun _=>True) (qgd fu (qbt fu n) s (k:Int) b out):=fun b=>by
   unfold qgd;refine ci (fun _=>au (gx hk1) fun c1 _=>cr (qa _ _) ?_) (fun _=>aw trivial)
   rw[fb k]
   exact ih (k+1) _ oA oA (l1 _)
  refine au (gx hk1) fun c1 _=>ci (fun _=>cr (qa _ _) ?_) fun _=>au (gx hk1) fun c2 _=>ci (fun _ => ?_) fun _ => ?_
  ·rw[fb k]
   exact ih (k+1) _ oA oA (l1 _)
  ·rw[fb k]
   refine cr oA (au (zx3 _) fun x3 h3=>gd (fun _=>aw trivial) fun q=>cr (qa _ _) ?_)
   have:=h3 q;rw[List.length_drop]at this;rw[qpn k,fb (k+2)]
   exact ih (k+2+1) _ oA oA (by have:=l1 x3.1;omega)
  ·exact au (gx hk1) fun c4 _=>db (fun _=>au (gx hk1) fun c5 _=>p3 _) fun _=>p3 _
def zvg(fu:Nat)(hfu:90000000<=fu)(b:Bs):Ok (fun _=>True) (yl fu b):=by
 by_cases h:b.length<=12000
 ·exact⟨_,zvf fu hfu b h,trivial⟩
 ·unfold yl qe1;rw[bq]
  exact⟨_,rfl,trivial⟩
def ztg(fu:Nat)(hfu:90000000<=fu)(k s:Bs)(hs:s.length<=24000:=by omega):Ok (fun _=>True) (qls fu k s):=by
 have p1:∀b:Bool,Ok (fun _=>True) (qgc fu s b):=fun b=>by
  unfold qgc;exact ci (fun _=>z1p fu fu s oA 0 [] oA oA oC) (fun _=>aw trivial)
 have p0:∀b:Bool,Ok (fun _=>True) (qgb fu s k b):=fun b=>by
  unfold qgb;refine ci (fun _=>cr (by unfold maxLen;omega) ?_) (fun _=>ci (fun _=>p1 _) (fun _=>p1 _))
  rw[Tr.lenient_eq fu s hs oA,qB]
  exact au (zvg fu hfu _) fun _ _=>aw trivial
 unfold qls;exact ci (fun _=>p0 _) (fun _=>p0 _)
def tot(l:List Bs):Nat:=(l.map List.length).sum
def qpf:tot []=0:=rfl
def q3q(a:Bs)(l:List Bs):tot (a::l)=a.length+tot l:=by simp[tot]
def zlu(a b:List Bs):tot (a++b)=tot a+tot b:=by simp[tot]
def zv1(s:Bs)(hl:s.length<=1000000:=by omega):(jr s [63]=some (-1))\/∃w r,s=w++63::r/\jr s [63]=some (w.length:Int):=by
 rcases q3d 63 s with⟨w,r,rfl,h⟩|h
 ·exact .inr ⟨w,r,rfl,zv0 w r h (by simp at hl;omega)⟩
 ·refine .inl ?_;unfold jr qn;rw[bq,qB]
  congr 1;clear hl
  induction s with
  |nil=>rfl|cons c s ih=>
   rw[Lib.index,qW (by simp[List.isPrefixOf];exact fun q=>h c qH q.symm),ih (fun x hx=>h x (qE _ hx))]
   rfl
def zvi(fu:Nat)(n:Nat)(m:Nat)(hm:m<=3):∀(s:Bs)(D E:List Bs),s.length<=100000->E.length+D.length=m+1->D.length<=m->m-D.length<n ->
  Ok (fun r=>r.length<=m+1/\tot r+r.length=tot D+D.length+s.length+1) (qf7 fu n s [63] 0 (m:Int) (D.length:Int) (D++E)):=by
 induction n with
 |zero=>intro s D E _ _ _ h;omega|succ n ih=>
  intro s D E hs hE hD hn;rw[qf7,qwv];obtain⟨e,E,rfl⟩:∃e E',E=e::E':=by cases E with|nil=>simp at hE;omega|cons e E=>exact⟨e,E,rfl⟩
  have hlt:(D.length:Int).toNat<(D++e::E).length:=oC
  have fin:Ok (fun r=>r.length<=m+1/\tot r+r.length=tot D+D.length+s.length+1) (bif decide (0<=(D.length:Int)/\(D.length:Int).toNat<List.length (D++e::E)) then((D++e::E)[(D.length:Int).toNat]?).bind fun _=>bif decide (0<=ae ((D.length:Int)+(1:Int))/\ae ((D.length:Int)+(1:Int))<=(List.length (List.set (D++e::E) (D.length:Int).toNat s):Int)) then some (List.take (ae ((D.length:Int)+(1:Int))).toNat (List.set (D++e::E) (D.length:Int).toNat s)) else none else none):=by
   refine cr ⟨oA,hlt⟩ ?_
   rw[qn1,qB,qo7,fb _]
   refine cr ⟨oA,oD⟩ (aw ?_)
   rw[show((D.length+1:Nat):Int).toNat=(D++[s]).length by simp,show D++s::E=(D++[s])++E by simp,List.take_left,zlu,q3q,qpf]
   simp;omega
  refine db (fun h0 => ?_) (fun h0=>fin)
  rcases zv1 s with hi|⟨w,r,rfl,hi⟩
  ·rw[hi,qB,bq];exact fin
  ·simp only[qM,qL]at hs;rw[hi,qB,dv,Int.add_zero,bf (x:=(w.length:Int)) oA oA]
   refine cr oD (cr ⟨oA,hlt⟩ ?_)
   rw[qn1,qB,show((List.length ([63]:Bs):Nat):Int)=1 from rfl,fb _,fb _,qo7]
   refine cr oD ?_
   rw[show((w.length+1:Nat):Int).toNat=w.length+1 by omega,← List.drop_drop,List.drop_left,show((w.length:Nat):Int).toNat=w.length by omega,List.take_left]
   have:=ih r (D++[w]) E oA (by simp at hE ⊢;omega) oD oD
   simp only[qM,qL,qZ,wO,qS,wM]at this;refine rn this fun v hv=>⟨hv.1,?_⟩
   have h2:=hv.2;rw[zlu,q3q,qpf]at h2;simp only[qM,qL];omega
def z0o(fu:Nat)(hfu:100<=fu)(s:Bs)(hs:s.length<=100000:=by omega):Ok (fun r=>r.length<=4/\tot r+r.length=s.length+1) (qlj fu s [63] 4):=by
 unfold qlj qwu;rw[ax,ax,dv oE]
 unfold qlm;rw[fb _]
 generalize hx:(if((s.length+1:Nat):Int)<(4:Int) then((s.length+1:Nat):Int) else(4:Int))=x
 obtain⟨m,rfl,hm⟩:∃m:Nat,x=((m+1:Nat):Int)/\m<=3:=by
  by_cases h:((s.length+1:Nat):Int)<(4:Int)
  ·rw[qX h]at hx;exact⟨s.length,hx.symm,oA⟩
  ·rw[qW h]at hx;exact⟨3,oA,oA⟩
 refine au (P:=fun r=>r.length<=4/\tot r+r.length=s.length+1) (cr oA ?_) fun v hv=>aw hv
 rw[z1z m,show((m+1:Nat):Int).toNat=m+1 by omega]
 have:=zvi fu fu m hm s [] (List.replicate (m+1) []) hs oC oC oD
 rw[List.nil_append,qpf]at this;refine rn this fun v hv=>⟨oA,?_⟩
 have:=hv.2;simp at this;exact this
def zg4(s p:Bs):Ok (fun b=>b=true->p.length<=s.length) (qbp s p):=by
 unfold qbp qtk;refine au (P:=fun b=>b=true->p.length<=s.length) (db (fun h=>cr oA (aw fun _=>oA)) fun h=>aw fun q=>by cases q) fun v hv=>aw hv
def four{r:List Bs}(h:¬(r.length:Int)<4)(h':r.length<=4):∃a b c d,r=[a,b,c,d]:=by
 match r,h,h' with|[a,b,c,d],_,_=>exact⟨a,b,c,d,rfl⟩|[],h,_=>exact absurd h oC|[_],h,_=>exact absurd h oC|[_,_],h,_=>exact absurd h oC|[_,_,_],h,_=>exact absurd h oC|_::_::_::_::_::_,_,h=>exact absurd h oC
def zy4(fu:Nat)(hfu:90000000<=fu)(s:Bs)(hs:s.length<=100000):Ok (fun v=>v.1.length<=48000/\(v.2.2=true->∃k:Nat,v.2.1=(k:Int)/\6<=k/\k<=s.length)) (qlt fu s):=by
 unfold qlt;refine au (zg4 s [61,63]) fun b hb=>gd (fun _=>aw ⟨oC,fun q=>by cases q⟩) fun q => ?_
 have h2:2<=s.length:=hb q;generalize hx:(if(75:Int)<(List.length s:Int) then(75:Int) else(List.length s:Int))=x
 obtain⟨m,rfl,hm,hm2,hm3⟩:∃m:Nat,x=(m:Int)/\2<=m/\m<=s.length/\m<=75:=by
  by_cases h:(75:Int)<(List.length s:Int)
  ·rw[qX h]at hx;exact⟨75,oA,oA,oA,oA⟩
  ·rw[qW h]at hx;exact⟨s.length,hx.symm,oA,oA,oA⟩
 refine cr oA ?_
 have hl:(List.take ((m:Int).toNat-(2:Int).toNat) (List.drop (2:Int).toNat s)).length=m-2:=by
  rw[List.length_take,List.length_drop,show(2:Int).toNat=2 from rfl,show(m:Int).toNat=m by omega];omega
 refine au (z0o fu oA _) fun r hr => ?_
 rw[hl]at hr;refine db (fun _ => ?_) fun h4 => ?_
 ·unfold qge;rw[a8 rfl];exact aw ⟨oC,fun q=>by cases q⟩
 ·obtain⟨a,b,c,d,rfl⟩:=four h4 hr.1;have ht:=hr.2;simp only[q3q,qpf,qL,qZ]at ht;rw[show am [a,b,c,d] (3:Int)=some d from rfl,qB]
  refine au (zg4 d [61]) fun b4 hb4 => ?_
  unfold qge;refine gd (fun _ => ?_) fun q => ?_
  ·exact aw ⟨oC,fun q=>by cases q⟩
  ·have hd:1<=d.length:=hb4 q;unfold qx4;rw[show am [a,b,c,d] (1:Int)=some b from rfl,show am [a,b,c,d] (2:Int)=some c from rfl,show am [a,b,c,d] (0:Int)=some a from rfl]
   simp only[qB];refine au (ztg fu hfu b c) fun x3 _ => ?_
   obtain⟨t,f,e,hlt⟩:=zto fu hfu a x3.2
   rw[e,qB];have e2:ae (ae (ae (ae ((2:Int)+(a.length:Int))+(b.length:Int))+(c.length:Int))+4)=((2+a.length+b.length+c.length+4:Nat):Int):=by
    rw[bf (x:=2+(a.length:Int)) oA oA,bf (x:=2+(a.length:Int)+(b.length:Int)) oA oA,bf (x:=2+(a.length:Int)+(b.length:Int)+(c.length:Int)) oA oA,bf]
    omega
   rw[e2];refine ci (fun _ => ?_) fun _=>aw ⟨hlt,fun q=>by cases q⟩
   exact⟨_,rfl,hlt,fun _=>⟨_,rfl,oA,oA⟩⟩
def Gp(g:Int)(k:Nat):Prop:=g<0\/∃j:Nat,g=(j:Int)/\j<=k
def zui(fu:Nat)(hfu:90000000<=fu)(z:Int×Int)(s:Bs)(hs:s.length<=4000)(n:Nat):∀(k:Nat)(g:Int)(out:Bs),k<=s.length->s.length-k<n->Gp g k->out.length<=60000*k ->
  Ok (fun v=>v.1.length<=300000000) (uw fu n s g (k:Int) z out):=by
 induction n with
 |zero=>intro k g out _ h;omega|succ n ih=>
  intro k g out hk h hg ho;rw[uw,qxy];refine db (fun h0 => ?_) fun h0 => ?_
  ·have hk1:k<s.length:=oA
   refine cr oA (au (zy4 fu hfu _ (by rw[List.length_drop];omega)) fun v hv => ?_)
   have p3:∀(g:Int)(out:Bs),Gp g k->out.length<=60000*k+10000->Ok (fun v=>v.1.length<=300000000) (qga fu (uw fu n) s g (k:Int) z out):=fun g out hg ho=>by
    unfold qga;rw[fb k]
    exact ih (k+1) g out oA oA (hg.imp id fun⟨j,e,hj⟩=>⟨j,e,oA⟩) oA
   have p2:∀(b:Bool)(g:Int)(out:Bs),(b=true->0<=g)->Gp g k->out.length<=60000*k+1->Ok (fun v=>v.1.length<=300000000) (qf9 fu (uw fu n) s g (k:Int) b z out):=fun b g out hb hg ho=>by
    unfold qf9;refine ci (fun q => ?_) fun _=>p3 g out hg oA
    have:=hb q;obtain⟨j,rfl,hj⟩:∃j:Nat,g=(j:Int)/\j<=k:=hg.resolve_left oA
    rw[fb k]
    refine cr oA ?_
    have hl:(List.take (((k+1:Nat):Int).toNat-(j:Int).toNat) (List.drop (j:Int).toNat s)).length<=4000:=by
     rw[List.length_take,List.length_drop];omega
    rw[q33 _ _,qB]
    exact p3 (-1) _ (.inl oA) (by rw[qM];omega)
   have p1:∀(g:Int)(out:Bs),Gp g k->out.length<=60000*k+1->Ok (fun v=>v.1.length<=300000000) (qf8 fu (uw fu n) s g (k:Int) z out):=fun g out hg ho=>by
    unfold qf8;refine db (fun h=>au (gx hk1) fun c _ => ?_) fun h=>p2 false g out (fun q=>by cases q) hg ho
    rw[zfd,qB];exact p2 _ g out (fun _=>h) hg ho
   refine gd (fun _=>db (fun _=>au (gx hk1) fun c _ => ?_) fun _=>p1 g out hg oA) fun q => ?_
   ·rw[z11 _ _,qB]
    exact p1 g _ hg oO
   ·obtain⟨j,e,h6,hj⟩:=hv.2 q;rw[List.length_drop]at hj;have hv1:=hv.1;rw[q33 _ _,qB,e,bf (x:=(k:Int)+(j:Int)) oA oA,show(k:Int)+(j:Int)=((k+j:Nat):Int) by omega]
    exact ih (k+j) _ _ oA oA (.inr ⟨k+j,rfl,wF _⟩) (by rw[qM];omega)
  ·refine db (fun h => ?_) fun h => ?_
   ·obtain⟨j,rfl,hj⟩:∃j:Nat,g=(j:Int)/\j<=k:=hg.resolve_left oA
    refine cr oA ?_
    have hl:(List.drop (j:Int).toNat s).length<=4000:=by rw[List.length_drop];omega
    rw[q33 _ _,qB]
    exact⟨_,rfl,by simp only[qM];omega⟩
   ·exact⟨_,rfl,oG⟩
def zul(fu:Nat)(hfu:90000000<=fu)(s:Bs):Ok (fun v=>v.1.length<=300000000) (qlr fu s):=by
 unfold qlr;refine db (fun _=>⟨_,rfl,oC⟩) fun h => ?_
 exact zui fu hfu _ s oA fu 0 (-1) [] oA oA (.inl oA) oC
abbrev bu{α:Type}:α->Prop:=fun _=>True
def qg6:∀n:_root_.Fin 256,(xx (UInt8.ofNat n.val)).isSome=true/\(qax (UInt8.ofNat n.val)).isSome=true/\(qav (UInt8.ofNat n.val)).isSome=true/\(qbg (UInt8.ofNat n.val)).isSome=true/\(sn ([58,59,44,64,60,62]:Bs) (UInt8.ofNat n.val)).isSome=true:=by decide +kernel
def qig{α:Type}{x:Option α}(h:x.isSome=true):Ok bu x:=by
 obtain⟨v,e⟩:=Option.isSome_iff_exists.1 h;exact⟨v,e,trivial⟩
def zez(c:UInt8):Ok bu (xx c):=qig (vf (fun c=>(xx c).isSome=true) (fun n=>(qg6 n).1) c)
def zw4(c:UInt8):Ok bu (qax c):=qig (vf (fun c=>(qax c).isSome=true) (fun n=>(qg6 n).2.1) c)
def zus(c:UInt8):Ok bu (qav c):=qig (vf (fun c=>(qav c).isSome=true) (fun n=>(qg6 n).2.2.1) c)
def z1v(c:UInt8):Ok bu (qbg c):=qig (vf (fun c=>(qbg c).isSome=true) (fun n=>(qg6 n).2.2.2.1) c)
def z0a(c:UInt8):Ok bu (sn ([58,59,44,64,60,62]:Bs) c):=qig (vf (fun c=>(sn ([58,59,44,64,60,62]:Bs) c).isSome=true) (fun n=>(qg6 n).2.2.2.2) c)
def qmk(s:Bs)(hs:s.length<=10000000)(P0:Nat->Bs->Int->Int->Option Bool)(p:UInt8->Option Bool)(hp:∀c,Ok bu (p c))
  (h0:∀n e k,P0 (n+1) s e k=(bif decide (k<e) then(am s k).bind fun c=>(p c).bind fun x=>bif !x then some false else P0 n s e (ae (k+(1:Int))) else some true)) :
  ∀n k:Nat,s.length-k<n->Ok bu (P0 n s (s.length:Int) (k:Int)):=by
 intro n
 induction n with
 |zero=>intro k h;omega|succ n ih=>
  intro k h;rw[h0];refine db (fun q=>au (gx (k:=k) oA) fun c _=>au (hp c) fun x _=>gd (fun _=>aw trivial) fun _ => ?_) fun _=>aw trivial
  rw[fb k]
  exact ih (k+1) oA
def ixc(c:UInt8):∀(w r:Bs),(∀x∈w,x≠c)->Lib.index (w++c::r) [c]=(w.length:Int)
 |[],r,_=>by rw[List.nil_append,Lib.index,qX (by simp[List.isPrefixOf])];rfl|d::w,r,h=>by
  have hc:=h d qH;rw[wK,Lib.index,qW (by simp[List.isPrefixOf];intro q;exact hc q.symm),ixc c w r (fun d hd=>h d (qE _ hd)),qW (by rw[beq_iff_eq];omega)]
  simp
def ixn(c:UInt8):∀s:Bs,(∀x∈s,x≠c)->Lib.index s [c] = -1
 |[],_=>rfl|d::s,h=>by
  rw[Lib.index,qW (by simp[List.isPrefixOf];exact fun q=>h d qH q.symm),ixn c s (fun x hx=>h x (qE _ hx))]
  rfl
def zhf(c:UInt8)(s:Bs)(hl:s.length<=1000000:=by omega):(jr s [c]=some (-1))\/∃w r,s=w++c::r/\jr s [c]=some (w.length:Int):=by
 unfold jr qn;rw[bq,qB]
 rcases q3d c s with⟨w,r,rfl,h⟩|h
 ·exact .inr ⟨w,r,rfl,congrArg some (ixc c w r h)⟩
 ·exact .inl (congrArg some (ixn c s h))
def zjl{R:Type}(P1:Nat->Bs->Bs->Int->Bool->Option R)(r0:Bs->Bool->Option (Bool ⊕ Bool))(A B:Bs×Bs×Int×Bool->R)(hr:∀s b,s.length<=100000->Ok bu (r0 s b))
  (h0:∀n m1 m2 m3 m5,P1 (n+1) m1 m2 m3 m5=(jr m2 m1).bind fun x1=>bif decide (x1<(0:Int)) then(r0 m2 m5).bind fun x2=>ay x2 (fun a3=>some (A (m1,(m2,(m3,a3))))) (fun b4=>some (B (m1,(m2,(m3,b4))))) else bif decide (0<=ae (x1+m3)/\ae (x1+m3)<=(List.length m2:Int)) then(r0 (List.take (ae (x1+m3)).toNat m2) m5).bind fun x5=>ay x5 (fun a6=>some (A (m1,(m2,(m3,a6))))) (fun b7=>bif decide (0<=ae (x1+(List.length m1:Int))/\ae (x1+(List.length m1:Int))<=(List.length m2:Int)) then P1 n m1 (List.drop (ae (x1+(List.length m1:Int))).toNat m2) m3 b7 else none) else none) :
  ∀(n:Nat)(s:Bs)(b:Bool),s.length<n->s.length<=100000->Ok bu (P1 n [46] s 0 b):=by
 intro n
 induction n with
 |zero=>intro s b h;omega|succ n ih=>
  intro s b h hs;rw[h0];rcases zhf 46 s with e|⟨w,r,rfl,e⟩
  ·rw[e,qB,bq]
   exact au (hr s b hs) fun x2 _=>fk (fun _ _=>aw trivial) fun _ _=>aw trivial
  ·simp only[qM,qL]at h hs;rw[e,qB,dv,Int.add_zero,bf (x:=(w.length:Int)) oA oA]
   refine cr oD (au (hr _ b (by rw[List.length_take];simp;omega)) fun x2 _=>fk (fun _ _=>aw trivial) fun b7 _ => ?_)
   rw[show((List.length ([46]:Bs):Nat):Int)=1 from rfl,fb _]
   refine cr oD ?_
   rw[show((w.length+1:Nat):Int).toNat=w.length+1 by omega,← List.drop_drop,List.drop_left]
   exact ih r b7 oA oA
def zrw(fu:Nat)(hfu:90000000<=fu)(s:Bs)(hs:s.length<=100000:=by omega):Ok bu (qrp fu s):=qmk s oA (qj2 fu) qax zw4 (fun _ _ _=>rfl) fu 0 oA
def zrx(fu:Nat)(hfu:90000000<=fu)(s:Bs)(hs:s.length<=100000):Ok bu (qj3 fu s):=qmk s oA (qj4 fu) xx zez (fun _ _ _=>rfl) fu 0 oA
def zry(fu:Nat)(hfu:90000000<=fu)(s:Bs)(hs:s.length<=100000):Ok bu (qrq fu s):=qmk s oA (qj5 fu) qav zus (fun _ _ _=>rfl) fu 0 oA
def zrv(fu:Nat)(hfu:90000000<=fu)(s:Bs)(hs:s.length<=100000:=by omega):Ok bu (qro fu s):=qmk s oA (qj1 fu) qbg z1v (fun _ _ _=>rfl) fu 0 oA
def zh4(fu:Nat)(hfu:90000000<=fu)(s:Bs):Ok bu (qes fu s):=by
 unfold qes;exact gd (fun _=>db (fun h=>au (zrw fu hfu s) fun _ _=>aw trivial) fun _=>aw trivial) fun _=>aw trivial
def zgd(fu:Nat)(hfu:90000000<=fu)(s:Bs)(hs:s.length<=100000:=by omega):Ok bu (qeq fu s):=by
 unfold qeq qq1 qbr qln;simp only[qB];unfold qwx;rw[ax]
 refine au (P:=bu) (au (P:=bu) ?_ fun x _=>fk (fun _ _=>aw trivial) fun _ _=>aw trivial) fun _ _=>aw trivial
 refine zjl (qlo fu) (qay fu) _ _ (fun s b hs => ?_) (fun _ _ _ _ _=>rfl) fu s false oA hs
 unfold qay;exact ci (fun _=>aw trivial) fun _=>au (zrx fu hfu s hs) fun _ _=>gd (fun _=>aw trivial) fun _=>aw trivial
def zgc(fu:Nat)(hfu:90000000<=fu)(s:Bs):Ok bu (qep fu s):=by
 unfold qep;refine db (fun h => ?_) fun _=>aw trivial
 unfold qq2 qbr qln;simp only[qB];unfold qwz;rw[ax]
 refine au (P:=bu) (au (P:=bu) ?_ fun x _=>fk (fun _ _=>aw trivial) fun _ _=>aw trivial) fun _ _=>aw trivial
 refine zjl (qlp fu) (qaz fu) _ _ (fun s b hs => ?_) (fun _ _ _ _ _=>rfl) fu s false oA oA
 unfold qaz;exact ci (fun _=>aw trivial) fun _=>au (zry fu hfu s hs) fun _ _=>gd (fun _=>aw trivial) fun _=>aw trivial
def At(s:Bs)(k:Nat)(m:Bs×Int):Prop:=∃j:Nat,m=(s,(j:Int))/\k<=j/\j<=s.length
def jw{s:Bs}{k j:Nat}(h:k<=j)(h':j<=s.length):At s k (s,(j:Int)):=⟨j,rfl,h,h'⟩
def at_le{s:Bs}{k l:Nat}{m:Bs×Int}(h:At s k m)(q:l<=k:=by omega):At s l m:=by obtain⟨j,e,a,b⟩:=h;exact⟨j,e,oA,b⟩
def ig{α:Type}(P:α->Prop)(r:Int ⊕ α):Prop:=∀m,r = .inr m->P m
def eu{α:Type}{P:α->Prop}{x:Int}:ig P (.inl x):=fun _ q=>by cases q
def ji{α:Type}{P:α->Prop}{x:α}(h:P x):ig P (.inr x):=fun _ q=>by cases q;exact h
def zt4(fu:Nat)(hfu:90000000<=fu)(s:Bs)(hs:s.length<=4000)(n:Nat):∀(d:Int)(k:Nat),k<=s.length+1->s.length+1-k<n->Ok (ig (At s (k+1))) (xy fu n d (s,(k:Int))):=by
 induction n with
 |zero=>intro d k _ h;omega|succ n ih=>
  intro d k hk h;rw[xy,qq4];refine db (fun _=>⟨_,rfl,eu⟩) fun h0 => ?_
  have h1:k<s.length:=by simp only[]at h0;omega
  unfold qq5;have e1:ae ((k:Int)+1)=((k+1:Nat):Int):=fb k
  have e2:ae (((k+1:Nat):Int)+1)=((k+2:Nat):Int):=fb (k+1)
  have i1:∀d,Ok (ig (At s (k+1))) (xy fu n d (s,((k+1:Nat):Int))):=fun d=>rn (ih d (k+1) oA oA) fun r hr m e=>at_le (hr m e)
  have i2:∀d,Ok (ig (At s (k+1))) (xy fu n d (s,((k+2:Nat):Int))):=fun d=>rn (ih d (k+2) oA oA) fun r hr m e=>at_le (hr m e)
  dsimp only;simp only[e1,e2];refine au (gx h1) fun c _=>ci (fun _=>i1 _) fun _=>ci (fun _=>ci (fun _=>aw (ji (jw oA oA))) fun _=>i1 _) fun _=>ci (fun _=>i2 _) fun _=>i1 _
def z0f(fu:Nat)(hfu:90000000<=fu)(s:Bs)(hs:s.length<=4000)(n:Nat):∀k:Nat,k<=s.length->s.length-k<n->Ok (ig (At s k)) (qa5 fu n (s,(k:Int))):=by
 induction n with
 |zero=>intro k _ h;omega|succ n ih=>
  intro k hk h;rw[qa5,qrf];refine db (fun h0 => ?_) fun _=>aw (ji (jw (wF _) hk))
  have h1:k<s.length:=by simp only[]at h0;omega
  have i1:∀j:Nat,k<j->j<=s.length->Ok (ig (At s k)) (qa5 fu n (s,(j:Int))):=fun j a b=>rn (ih j b oA) fun r hr m e=>at_le (hr m e)
  refine au (gx h1) fun c _ => ?_
  rw[zfd,qB];refine ci (fun _ => ?_) fun _=>ci (fun _=>au (zt4 fu hfu s hs fu 0 k oA oA) fun r hr=>fk (fun _ _=>aw eu) fun b hb => ?_) fun _=>aw (ji (jw (wF _) hk))
  ·dsimp only;rw[fb k];exact i1 (k+1) oA oA
  ·obtain⟨j,rfl,a,b⟩:=hr b hb;exact i1 j oA b
def zy1(fu:Nat)(hfu:90000000<=fu)(s:Bs)(hs:s.length<=4000)(n:Nat):∀(k:Nat)(out:Bs),k<=s.length->s.length-k<n->out.length<=k->Ok (ig fun v=>At s (k+1) v.2/\v.1.length<=s.length) (qa4 fu n (s,(k:Int)) out):=by
 induction n with
 |zero=>intro k out _ h;omega|succ n ih=>
  intro k out hk h ho;rw[qa4,qrb];refine db (fun _=>⟨_,rfl,eu⟩) fun h0 => ?_
  have h1:k<s.length:=by simp only[]at h0;omega
  have e1:ae ((k:Int)+1)=((k+1:Nat):Int):=fb k
  have e2:ae (((k+1:Nat):Int)+1)=((k+2:Nat):Int):=fb (k+1)
  have i1:∀(j:Nat)(c:UInt8),k<j->j<=s.length->Ok (ig fun v=>At s (k+1) v.2/\v.1.length<=s.length) (qa4 fu n (s,(j:Int)) (out++[c])):=fun j c a b=>
   rn (ih j (out++[c]) b oA oD) fun r hr m e=>⟨at_le (hr m e).1,(hr m e).2⟩
  unfold qrc qrd;dsimp only;simp only[e1,e2];refine au (gx h1) fun c _=>ci (fun _=>aw (ji ⟨jw (wF _) oA,oG⟩)) fun _=>ci (fun _=>db (fun _=>⟨_,rfl,eu⟩) fun h2=>au (gx) fun c2 _=>cr (qa _ _) (i1 (k+2) c2 oA oA)) fun _=>cr (qa _ _) (i1 (k+1) c oA oA)
def NxP(s:Bs)(k:Nat):ql3->Prop|.inl _=>True|.inr (.inl m)=>At s k m|.inr (.inr (.inl (w,(_,m))))=>At s (k+1) m/\w.length<=s.length|.inr (.inr (.inr (_,m)))=>At s (k+1) m
def zxn(fu:Nat)(hfu:90000000<=fu)(s:Bs)(hs:s.length<=4000)(n:Nat)(k0:Nat):∀k:Nat,k0<=k->k<=s.length->s.length-k<n->Ok (NxP s k0) (qa2 fu n (k0:Int) (s,(k:Int))):=by
 induction n with
 |zero=>intro k _ _ h;omega|succ n ih=>
  intro k hk hk2 h;rw[qa2,qq8];have p1:∀b:Bool,(b=true->k<s.length)->Ok (NxP s k0) (qa3 fu (qa2 fu n) (k0:Int) b (s,(k:Int))):=fun b hb=>by
   unfold qa3 qq9;refine ci (fun q => ?_) fun _=>ci (fun _=>⟨_,rfl,trivial⟩) fun q=>cr oG (aw ⟨jw ?_ hk2,?_⟩)
   ·have:=hb q;dsimp only;rw[fb k]
    exact ih (k+1) oA oA oA
   ·have:¬(k:Int)=(k0:Int):=by simpa using q
    omega
   ·rw[List.length_take,List.length_drop];simp only[];omega
  refine db (fun h0 => ?_) fun _=>p1 false (fun q=>by cases q)
  have h1:k<s.length:=by simp only[]at h0;omega
  exact au (gx h1) fun c _=>au (zez c) fun b _=>ci (fun _=>p1 true fun _=>h1) fun _=>au (gx h1) fun c2 _=>p1 _ fun _=>h1
def qib(fu:Nat)(hfu:90000000<=fu)(s:Bs)(hs:s.length<=4000)(k:Nat)(hk:k<=s.length:=by omega):Ok (NxP s k) (x6 fu (s,(k:Int))):=by
 unfold x6 qre;refine au (z0f fu hfu s hs fu k hk oA) fun r hr=>fk (fun _ _=>aw trivial) fun b hb => ?_
 obtain⟨j,rfl,a,b⟩:=hr b hb;refine db (fun _=>aw (jw a b)) fun h0 => ?_
 have h1:j<s.length:=by simp only[]at h0;omega
 refine au (gx h1) fun c _=>ci (fun _ => ?_) fun _=>au (z0a c) fun x _=>db (fun _=>aw ?_) fun _ => ?_
 ·unfold qra;dsimp only;rw[fb j]
  refine au (zy1 fu hfu s hs fu (j+1) [] oA oA oC) fun v hv=>fk (fun _ _=>aw trivial) fun b7 h7=>aw ⟨at_le (hv b7 h7).1,(hv b7 h7).2⟩
 ·show At s (k+1) (s,ae ((j:Int)+1));rw[fb j];exact jw oA oA
 ·refine rn (zxn fu hfu s hs fu j j (wF _) b oA) fun r hr => ?_
  match r,hr with|.inl _,_=>trivial|.inr (.inl m),h=>exact at_le h a|.inr (.inr (.inl (w,(q,m)))),h=>exact⟨at_le h.1,h.2⟩|.inr (.inr (.inr (c,m))),h=>exact at_le h
def z17(fu:Nat)(hfu:90000000<=fu)(s:Bs)(hs:s.length<=4000)(n:Nat):∀(k:Nat)(l:List (Bs×Bool)),k<=s.length->s.length-k<n->l.length<=k->(∀w∈l,w.1.length<=s.length)->Ok (ig fun v=>At s k v.1/\v.2.length<=s.length/\∀w∈v.2,w.1.length<=s.length) (qez fu n (s,(k:Int)) l):=by
 induction n with
 |zero=>intro k l _ h;omega|succ n ih=>
  intro k l hk h hl hw;rw[qez,qrh];unfold sc;obtain⟨r,e,hr⟩:=qib fu hfu s hs k hk;rw[e]
  match r,hr with
  |.inl _,_=>exact⟨_,rfl,eu⟩|.inr (.inl m),h2=>
   obtain⟨j,rfl,a,b⟩:=h2;exact⟨_,rfl,ji ⟨jw (wF _) hk,oG,hw⟩⟩
  |.inr (.inr (.inl (w,(q,m)))),h2=>
   obtain⟨⟨j,rfl,a,b⟩,h3⟩:=h2;simp only[qB,ay];rw[e];simp only[qB,ay];refine cr (qa _ _) (rn (ih j _ b oA oD fun x hx => ?_) fun v hv m em=>⟨at_le (hv m em).1,(hv m em).2⟩)
   rcases List.mem_append.1 hx with q|q
   ·exact hw x q
   ·rw[List.mem_singleton]at q;subst q;exact h3
  |.inr (.inr (.inr (c,m))),h2=>
   obtain⟨j,rfl,a,b⟩:=h2;exact⟨_,rfl,ji ⟨jw (wF _) hk,oG,hw⟩⟩
def q31(fu:Nat)(hfu:90000000<=fu)(s:Bs)(hs:s.length<=4000)(k:Nat)(hk:k<=s.length):Ok (ig fun v=>At s k v.1/\v.2.length<=s.length/\∀w∈v.2,w.1.length<=s.length) (qey fu (s,(k:Int))):=
 z17 fu hfu s hs fu k [] hk oA oC (fun _ h=>by cases h)
def qcv(fu:Nat)(hfu:90000000<=fu)(s:Bs)(hs:s.length<=4000)(c:UInt8)(k:Nat)(hk:k<=s.length):Ok (ig fun v=>At s k v.2/\(v.1=true->At s (k+1) v.2)) (rz fu c (s,(k:Int))):=by
 unfold rz sc;obtain⟨r,e,hr⟩:=qib fu hfu s hs k hk;rw[e]
 match r,hr with
 |.inl _,_=>exact⟨_,rfl,eu⟩|.inr (.inl m),h2=>
  obtain⟨j,rfl,a,b⟩:=h2;exact⟨_,rfl,ji ⟨jw (wF _) hk,fun q=>by cases q⟩⟩
 |.inr (.inr (.inl (w,(q,m)))),h2=>
  obtain⟨⟨j,rfl,a,b⟩,h3⟩:=h2;exact⟨_,rfl,ji ⟨jw (wF _) hk,fun q=>by cases q⟩⟩
 |.inr (.inr (.inr (d,m))),h2=>
  obtain⟨j,rfl,a,b⟩:=h2;simp only[qB,ay];refine gd (fun _=>aw (ji ⟨jw (wF _) hk,fun q=>by cases q⟩)) fun _ => ?_
  rw[e];exact⟨_,rfl,ji ⟨jw oA b,fun _=>jw a b⟩⟩
def q10(fu:Nat)(hfu:90000000<=fu)(s:Bs)(hs:s.length<=4000)(c:UInt8)(k:Nat)(hk:k<=s.length):Ok (ig (At s (k+1))) (qa1 fu c (s,(k:Int))):=by
 unfold qa1;refine au (qcv fu hfu s hs c k hk) fun r hr=>fk (fun _ _=>aw eu) fun b hb=>gd (fun _=>⟨_,rfl,eu⟩) fun q=>aw (ji ((hr b hb).2 q))
end Go.Sym
namespace Go.Sym
def zhw(sep:Bs)(m:Nat):∀r:List Bs,(∀x∈r,x.length<=m)->(Lib.joinTail sep r).length<=(m+sep.length)*r.length
 |[],_=>by simp[Lib.joinTail]|x::r,h=>by
  have h1:=h x qH;have h2:=zhw sep m r (fun y hy=>h y (qE _ hy))
  have e:Lib.joinTail sep (x::r)=sep++x++Lib.joinTail sep r:=by simp[Lib.joinTail]
  rw[e,qM,qM,qL,Nat.mul_add];omega
def zwn(sep:Bs)(m:Nat)(r:List Bs)(h:∀x∈r,x.length<=m):(Lib.join r sep).length<=(m+sep.length)*r.length:=by
 cases r with
 |nil=>simp[Lib.join_nil]|cons x r=>
  have h1:=h x qH;have h2:=zhw sep m r (fun y hy=>h y (qE _ hy))
  rw[Lib.join_cons,qM,qL,Nat.mul_add];omega
def q1h(sep:Bs)(r:List Bs)(hs:sep.length<=10)(h:∀x∈r,x.length<=300000000)(hl:r.length<=10000:=by omega):Ok bu (jt r sep):=by
 have:=zwn sep 300000000 r h;unfold jt;have h2:(300000000+sep.length)*r.length<=300000010*10000:=Nat.mul_le_mul oA hl
 exact cr ⟨oA,oA⟩ (aw trivial)
def q1x{l:List Bs}{x:Bs}{m:Nat}(h:∀y∈l,y.length<=m)(hx:x.length<=m:=by omega):∀y∈l++[x],y.length<=m:=fun y hy=>by
 rcases List.mem_append.1 hy with q|q
 ·exact h y q
 ·rw[List.mem_singleton]at q;subst q;exact hx
def zio(fu:Nat)(hfu:90000000<=fu)(run out:List Bs)(h1:∀x∈run,x.length<=4000)(h2:run.length<=4000)(h3:∀x∈out,x.length<=300000000)(h4:out.length<=9000:=by omega) :
  Ok (fun v=>v.1=[]/\v.2.length<=out.length+1/\∀x∈v.2,x.length<=300000000) (qet fu run out):=by
 unfold qet;refine db (fun _=>au (q1h _ run oC (fun x hx=>by have:=h1 x hx;omega)) fun x1 _=>au (zul fu hfu x1) fun x2 hx2=>cr (qa _ _) (aw ⟨rfl,oC,q1x h3 hx2⟩)) fun h=>aw ⟨?_,oC,h3⟩
 exact List.length_eq_zero_iff.1 oG
def zxj(fu:Nat)(hfu:90000000<=fu)(l:List (Bs×Bool))(hl:l.length<=4000)(hw:∀w∈l,w.1.length<=4000)(n:Nat):∀(k:Nat)(out run:List Bs),k<=l.length->l.length-k<n->out.length<=2*k->(∀x∈out,x.length<=300000000)->run.length<=k->(∀x∈run,x.length<=4000) ->
  Ok bu (qeu fu n l (l.length:Int) (k:Int) out run):=by
 induction n with
 |zero=>intro k out run _ h;omega|succ n ih=>
  intro k out run hk h ho ho2 hr hr2;rw[qeu,qq0];refine db (fun h0 => ?_) fun h0 => ?_
  ·refine au (q2a (k:=k) oA hw) fun y1 hy=>ci (fun _=>au (zio fu hfu run out hr2 oA ho2) fun v hv=>cr (qa _ _) ?_) fun _=>cr (qa _ _) ?_
   ·rw[fb k,hv.1]
    exact ih (k+1) _ [] oA oA (by have:=hv.2.1;simp;omega) (q1x hv.2.2) oC (fun x hx=>by cases hx)
   ·rw[fb k]
    exact ih (k+1) out _ oA oA oA ho2 oD (q1x hr2 hy)
  ·refine au (zio fu hfu run out hr2 oA ho2) fun v hv=>au (q1h _ v.2 oC hv.2.2 (by have:=hv.2.1;omega)) fun _ _=>aw trivial
def ziq(fu:Nat)(hfu:90000000<=fu)(l:List (Bs×Bool))(hl:l.length<=4000)(hw:∀w∈l,w.1.length<=4000):Ok bu (qjy fu l):=
 zxj fu hfu l hl hw fu 0 [] [] oA oA oC (fun x hx=>by cases hx) oC (fun x hx=>by cases hx)
def zga(fu:Nat)(hfu:90000000<=fu)(s:Bs):Ok bu (qeo s):=by
 unfold qeo im;refine db (fun _=>aw trivial) fun h=>au (cr (P:=bu) oA (aw trivial)) fun _ _=>gd (fun _=>aw trivial) fun _=>aw trivial
def zro(fu:Nat)(hfu:90000000<=fu)(a:Bs×Bs×Bs):Ok bu (qjv fu a):=by
 unfold qjv;refine au (zga fu hfu _) fun x1 _=>ci (fun _=>⟨_,rfl,trivial⟩) fun _=>au (zh4 fu hfu _) fun x3 _=>gd (fun _=>⟨_,rfl,trivial⟩) fun _=>au (zgc fu hfu _) fun x5 _=>gd (fun _=>⟨_,rfl,trivial⟩) fun _=>⟨_,rfl,trivial⟩
def zrs(fu:Nat)(hfu:90000000<=fu)(l:List (Bs×Bs×Bs))(hl:l.length<=80000000)(n:Nat):∀k:Nat,l.length-k<n->Ok bu (qer fu n l (l.length:Int) (k:Int)):=by
 induction n with
 |zero=>intro k h;omega|succ n ih=>
  intro k h;rw[qer,qqy];refine db (fun h0=>au (gx (k:=k) oA) fun y _=>au (zro fu hfu y) fun x2 _=>au (P:=bu) ⟨_,rfl,trivial⟩ fun x3 _=>ci (fun _=>aw trivial) fun _ => ?_) fun _=>aw trivial
  rw[fb k]
  exact ih (k+1) oA
def zrt(fu:Nat)(hfu:90000000<=fu)(x:Bs×Bool×(List (Bs×Bs×Bs)))(hx:x.2.2.length<=80000000):Ok bu (qjw fu x):=by
 unfold qjw;have p:∀b,Ok bu (qaw fu b x):=fun b=>by
  unfold qaw qqz;exact ci (fun _=>aw trivial) fun _=>zrs fu hfu _ hx fu 0 oA
 exact au (zga fu hfu _) fun x1 _=>ci (fun _=>aw trivial) fun _=>gd (fun _=>p _) fun _=>gd (fun _=>p _) fun _=>p _
def ztq(fu:Nat)(hfu:90000000<=fu)(l:List (Bs×Bool×(List (Bs×Bs×Bs))))(hl:l.length<=80000000)(hm:∀x∈l,x.2.2.length<=80000000)(z:Int×Int)(n:Nat):∀k:Nat,l.length-k<n->Ok bu (qel fu n l (l.length:Int) (k:Int) z):=by
 induction n with
 |zero=>intro k h;omega|succ n ih=>
  intro k h;rw[qel,qqu];refine db (fun h0=>au (q2a (k:=k) oA hm) fun y hy=>au (zrt fu hfu y hy) fun x2 _=>ci (fun _=>⟨_,rfl,trivial⟩) fun _ => ?_) fun _=>⟨_,rfl,trivial⟩
  rw[fb k]
  exact ih (k+1) oA
def ztp(fu:Nat)(hfu:90000000<=fu)(l:List (Bs×Bool×(List (Bs×Bs×Bs))))(hl:l.length<=80000000)(hm:∀x∈l,x.2.2.length<=80000000)(z:Int×Int)(n:Nat):∀(c:Int)(k:Nat),l.length-k<n->Ok bu (qej fu n l c l (l.length:Int) (k:Int) z):=by
 induction n with
 |zero=>intro c k h;omega|succ n ih=>
  intro c k h;rw[qej,qqt];have p:∀b,Ok bu (qek fu l b z):=fun b=>by
   unfold qek qqv;exact ci (fun _=>⟨_,rfl,trivial⟩) fun _=>ztq fu hfu l hl hm z fu 0 oA
  refine db (fun h0=>au (gx (k:=k) oA) fun y _ => ?_) fun _=>db (fun _=>p _) fun _=>p _
  rw[fb k]
  exact ih _ (k+1) oA
def zfu(fu:Nat)(hfu:90000000<=fu)(l:List (Bs×Bool×(List (Bs×Bs×Bs))))(hl:l.length<=80000000)(hm:∀x∈l,x.2.2.length<=80000000):Ok bu (qjp fu l):=ztp fu hfu l hl hm _ fu 0 0 oA
def AdQ(s:Bs)(k:Nat)(v:(Bs×Bs×Bs)×(Bs×Int)×(List (Bs×Bool))):Prop:=At s (k+1) v.2.1/\v.1.2.1.length<=s.length/\v.1.2.2.length<=s.length
def zk5(fu:Nat)(hfu:90000000<=fu)(s:Bs)(hs:s.length<=4000)(k:Nat)(hk:k<=s.length)(l:List (Bs×Bool))(hl:∀w∈l,w.1.length<=s.length):Ok (ig fun v=>AdQ s k v/\v.1.1=[]) (qex fu (s,(k:Int)) l):=by
 unfold qex;have pt:∀(l:List (Bs×Bool))(z:Bs×Bs×Bs),Ok (ig fun v=>AdQ s k v/\v.1.1=[]) (uq fu true (s,(k:Int)) l z):=fun l z=>⟨_,rfl,eu⟩
 by_cases h1:(l.length:Int)=1
 ·rw[ax (by simp[h1])]
  obtain⟨w,rfl⟩:∃w,l=[w]:=by
   match l,h1 with|[w],_=>exact⟨w,rfl⟩|[],h=>simp at h|_::_::_,h=>simp only[qL]at h;omega
  have hw:=hl w qH;have pf:∀z:Bs×Bs×Bs,Ok (ig fun v=>AdQ s k v/\v.1.1=[]) (uq fu false (s,(k:Int)) [w] z):=fun z=>by
   unfold uq qrg;rw[ax rfl];refine au (q10 fu hfu s hs 64 k hk) fun r hr=>fk (fun _ _=>aw eu) fun b hb => ?_
   obtain⟨j,rfl,a,b⟩:=hr b hb;refine au (qib fu hfu s hs j b) fun r hr => ?_
   match r,hr with
   |.inl _,_=>exact⟨_,rfl,eu⟩|.inr (.inl m),h2=>exact⟨_,rfl,eu⟩|.inr (.inr (.inr (d,m))),h2=>exact⟨_,rfl,eu⟩|.inr (.inr (.inl (x,(q,m)))),h2=>
    refine ci (fun _=>⟨_,rfl,eu⟩) fun _=>au (zgc fu hfu x) fun x13 _=>gd (fun _=>⟨_,rfl,eu⟩) fun _=>cr ⟨oE,oC⟩ ?_
    exact⟨_,rfl,ji ⟨⟨at_le h2.1,hw,h2.2⟩,rfl⟩⟩
  refine cr ⟨oE,oC⟩ ?_
  rw[show([w]:List (Bs×Bool))[(0:Int).toNat]? = some w from rfl]
  simp only[qB];refine au (zh4 fu hfu w.1) fun x2 _=>gd (fun _=>pt _ _) fun _=>cr ⟨oE,oC⟩ (gd (fun _=>cr ⟨oE,oC⟩ (au (zgd fu hfu w.1) fun x5 _ => ?_)) fun _=>pf _)
  cases x5
  ·exact pt _ _
  ·exact pf _
 ·rw[a8 (by simp[h1])];exact pt _ _
def zei(fu:Nat)(hfu:90000000<=fu)(s:Bs)(hs:s.length<=4000)(k:Nat)(hk:k<=s.length)(l:List (Bs×Bool))(hn:l.length<=s.length)(hl:∀w∈l,w.1.length<=s.length):Ok (ig (AdQ s k)) (qev fu (s,(k:Int)) l):=by
 unfold qev;refine au (qcv fu hfu s hs 60 k hk) fun r hr=>fk (fun _ _=>aw eu) fun b hb => ?_
 obtain⟨b,m⟩:=b;obtain⟨⟨j,rfl,a1,b1⟩,_⟩:=hr _ hb;refine gd (fun _=>au (zk5 fu hfu s hs j b1 l hl) fun r hr=>fk (fun _ _=>aw eu) fun b hb=>aw (ji ?_)) fun _ => ?_
 ·obtain⟨⟨h1,h2,h3⟩,_⟩:=hr b hb;exact⟨at_le h1,h2,h3⟩
 ·refine au (q31 fu hfu s hs j b1) fun r hr=>fk (fun _ _=>aw eu) fun b hb => ?_
  obtain⟨m,ws⟩:=b;obtain⟨⟨i,rfl,a2,b2⟩,h4,h5⟩:=hr _ hb;refine au (zk5 fu hfu s hs i b2 ws h5) fun r hr=>fk (fun _ _=>aw eu) fun b hb => ?_
  obtain⟨a,m,ws'⟩:=b;obtain⟨⟨⟨o,rfl,a3,b3⟩,h6,h7⟩,_⟩:=hr _ hb;refine au (ziq fu hfu l oA (fun w hw=>by have:=hl w hw;omega)) fun x13 _=>au (q10 fu hfu s hs 62 o b3) fun r hr=>fk (fun _ _=>aw eu) fun b hb=>aw (ji ⟨at_le (hr b hb),h6,h7⟩)
def yp(s:Bs)(x:Bs×Bool×(List (Bs×Bs×Bs))):Prop:=x.2.2.length<=s.length+1/\(∀a∈x.2.2,a.2.1.length<=s.length/\a.2.2.length<=s.length)/\(x.2.1=false->x.2.2.length=1)
def zwi(fu:Nat)(hfu:90000000<=fu)(s:Bs)(hs:s.length<=4000)(z1:Bs)(z2:Bool)(g:Bs)(n:Nat):∀(k:Nat)(l:List (Bs×Bs×Bs)),k<=s.length->s.length-k<n->l.length<=k->(∀a∈l,a.2.1.length<=s.length/\a.2.2.length<=s.length) ->
  Ok (ig fun v=>At s (k+1) v.2/\yp s v.1) (qew fu n (s,(k:Int)) z1 z2 g l):=by
 induction n with
 |zero=>intro k l _ h;omega|succ n ih=>
  intro k l hk h hl hL;rw[qew,qq6];refine au (q31 fu hfu s hs k hk) fun r hr=>fk (fun _ _=>aw eu) fun b hb => ?_
  obtain⟨m,ws⟩:=b;obtain⟨⟨i,rfl,a2,b2⟩,h4,h5⟩:=hr _ hb;refine au (zei fu hfu s hs i b2 ws h4 h5) fun r hr=>fk (fun _ _=>aw eu) fun b hb => ?_
  obtain⟨a,m,ws'⟩:=b;obtain⟨⟨o,rfl,a3,b3⟩,h6,h7⟩:=hr _ hb;have hL2:∀x∈l++[a],x.2.1.length<=s.length/\x.2.2.length<=s.length:=fun x hx=>by
   rcases List.mem_append.1 hx with q|q
   ·exact hL x q
   ·rw[List.mem_singleton]at q;subst q;exact⟨h6,h7⟩
  refine cr (qa _ _) (au (qcv fu hfu s hs 59 o b3) fun r hr=>fk (fun _ _=>aw eu) fun b hb => ?_)
  obtain⟨b,m⟩:=b;obtain⟨⟨p,rfl,a4,b4⟩,_⟩:=hr _ hb;refine ci (fun _=>aw (ji ⟨jw oA b4,oD,hL2,fun q=>by cases q⟩)) fun _=>au (q10 fu hfu s hs 44 p b4) fun r hr=>fk (fun _ _=>aw eu) fun b hb => ?_
  obtain⟨t,rfl,a5,b5⟩:=hr _ hb;exact rn (ih t _ b5 oA oD hL2) fun v hv m em=>⟨at_le (hv m em).1,(hv m em).2⟩
def zho(fu:Nat)(hfu:90000000<=fu)(s:Bs)(hs:s.length<=4000)(k:Nat)(hk:k<=s.length:=by omega):Ok (ig fun v=>At s (k+1) v.2/\yp s v.1) (xz fu (s,(k:Int))):=by
 unfold xz;refine au (q31 fu hfu s hs k hk) fun r hr=>fk (fun _ _=>aw eu) fun b hb => ?_
 obtain⟨m,ws⟩:=b;obtain⟨⟨i,rfl,a2,b2⟩,h4,h5⟩:=hr _ hb;refine au (qcv fu hfu s hs 58 i b2) fun r hr=>fk (fun _ _=>aw eu) fun b hb => ?_
 obtain⟨b,m⟩:=b;obtain⟨⟨o,rfl,a3,b3⟩,hb2⟩:=hr _ hb;refine gd (fun _=>au (zei fu hfu s hs o b3 ws h4 h5) fun r hr=>fk (fun _ _=>aw eu) fun b hb=>aw (ji ?_)) fun q=>au (ziq fu hfu ws (by dsimp only at h4;omega) (fun w hw=>by have:=h5 w hw;omega)) fun x10 _=>ci (fun _=>⟨_,rfl,eu⟩) fun _ => ?_
 ·obtain⟨h1,h6,h7⟩:=hr b hb;refine⟨at_le h1,oC,fun a ha => ?_,fun _=>rfl⟩
  rw[List.mem_singleton]at ha;subst ha;exact⟨h6,h7⟩
 ·obtain⟨o',e,a4,b4⟩:=hb2 q;obtain rfl:o=o':=by have:=congrArg Prod.snd e;simp only[]at this;omega
  unfold qq7;refine au (qcv fu hfu s hs 59 o b3) fun r hr=>fk (fun _ _=>aw eu) fun b hb => ?_
  obtain⟨b,m⟩:=b;obtain⟨⟨p,rfl,a5,b5⟩,_⟩:=hr _ hb;refine ci (fun _=>aw (ji ⟨jw oA b5,oC,fun a ha=>(by cases ha),fun q=>by cases q⟩)) fun _ => ?_
  exact rn (zwi fu hfu s hs [] false x10 fu p [] b5 oA oC (fun a ha=>by cases ha)) fun v hv m em=>⟨at_le (hv m em).1,(hv m em).2⟩
def LsP(s:Bs)(l:List (Bs×Bool×(List (Bs×Bs×Bs)))):Prop:=l.length<=s.length+1/\∀x∈l,yp s x
def PsP(s:Bs)(r:qgm):Prop:=∀v,r = .inr v->LsP s v.1
def zw{s:Bs}{x:Int×Bs}:PsP s (.inl x):=fun _ q=>by cases q
def zh8(s:Bs):LsP s []:=⟨oC,fun x hx=>by cases hx⟩
def zh9(s:Bs){l:List (Bs×Bool×(List (Bs×Bs×Bs)))}{x:Bs×Bool×(List (Bs×Bs×Bs))}(h:∀x∈l,yp s x)(hx:yp s x):∀y∈l++[x],yp s y:=fun y hy=>by
 rcases List.mem_append.1 hy with q|q
 ·exact h y q
 ·rw[List.mem_singleton]at q;subst q;exact hx
def zjm(fu:Nat)(hfu:90000000<=fu)(s:Bs)(hs:s.length<=4000)(m1:Bs)(m3:Int×Int)(l:List (Bs×Bool×(List (Bs×Bs×Bs))))(hl:LsP s l):Ok (PsP s) (qen fu m1 m3 l):=by
 unfold qen;refine au (zfu fu hfu l (by have:=hl.1;omega) (fun x hx=>by have:=(hl.2 x hx).1;omega)) fun x1 _=>au (P:=bu) ⟨_,rfl,trivial⟩ fun x2 _=>ci (fun _=>⟨_,rfl,fun _ q => ?_⟩) fun _=>⟨_,rfl,fun _ q => ?_⟩
 ·cases q;exact zh8 s
 ·cases q;exact hl
def zyr(fu:Nat)(hfu:90000000<=fu)(s:Bs)(hs:s.length<=4000)(m1:Bs)(m3:Int×Int)(n:Nat):∀(k:Nat)(l:List (Bs×Bool×(List (Bs×Bs×Bs)))),k<=s.length->s.length-k<n->l.length<=k->(∀x∈l,yp s x)->Ok (PsP s) (xw fu n m1 m3 (s,(k:Int)) l):=by
 induction n with
 |zero=>intro k l _ h;omega|succ n ih=>
  intro k l hk h hl hL;rw[xw,qqw];refine au (qcv fu hfu s hs 44 k hk) fun r hr=>fk (fun _ _=>aw zw) fun b hb => ?_
  obtain⟨b,m⟩:=b;obtain⟨⟨o,rfl,a3,b3⟩,hb2⟩:=hr _ hb;refine ci (fun q=>au (zho fu hfu s hs o b3) fun r hr=>fk (fun _ _=>aw zw) fun b hb => ?_) fun _ => ?_
  ·obtain⟨x,m⟩:=b;obtain⟨⟨p,rfl,a4,b4⟩,hx⟩:=hr _ hb;exact cr (qa _ _) (ih p _ b4 oA oD (zh9 s hL hx))
  ·unfold sc;obtain⟨r,e,hr⟩:=qib fu hfu s hs o b3;dsimp only;rw[e]
   match r,hr with|.inl _,_=>exact⟨_,rfl,zw⟩|.inr (.inl m),h2=>exact zjm fu hfu s hs m1 m3 l ⟨oA,hL⟩|.inr (.inr (.inl (w,(q,m)))),h2=>exact⟨_,rfl,zw⟩|.inr (.inr (.inr (d,m))),h2=>exact⟨_,rfl,zw⟩
def zys(fu:Nat)(hfu:90000000<=fu)(s:Bs)(hs:s.length<=4000)(a b:Int):Ok (PsP s) (qem fu s a b):=by
 unfold qem qau sc;have hi:=zho fu hfu s hs 0
 have h2:Ok (PsP s) ((xz fu (s,(0:Int))).bind fun x8=>ay x8 (fun a9=>some (.inl (a9,s))) (fun b10=>bif decide (List.length ([b10.1]:List (Bs×Bool×(List (Bs×Bs×Bs))))<=ao) then xw fu fu s (a,b) b10.2 ([b10.1]:List (Bs×Bool×(List (Bs×Bs×Bs)))) else none)):=by
  refine au hi fun r hr=>fk (fun _ _=>aw zw) fun b hb => ?_
  obtain⟨x,m⟩:=b;obtain⟨⟨p,rfl,a4,b4⟩,hx⟩:=hr _ hb;exact cr (by simp[ao]) (zyr fu hfu s hs s _ fu p [x] b4 oA oD (zh9 s (l:=[]) (fun x hx=>by cases hx) hx))
 obtain⟨r,e,hr⟩:=qib fu hfu s hs 0
 rw[show((0:Nat):Int)=0 from rfl]at e
 rw[e]
 match r,hr with
 |.inl _,_=>exact⟨_,rfl,zw⟩|.inr (.inl m),h=>simp only[qB,ay];exact zjm fu hfu s hs s (a,b) [] (zh8 s)|.inr (.inr (.inl (w,(q,m)))),h=>
  obtain⟨⟨j,rfl,_,_⟩,_⟩:=h;exact h2
 |.inr (.inr (.inr (d,m))),h=>
  obtain⟨j,rfl,_,_⟩:=h;exact h2
def zyb(fu:Nat)(hfu:90000000<=fu)(s:Bs):Ok (fun v=>v.1.length<=4001/\∀x∈v.1,x.2.2.length<=4001/\(∀a∈x.2.2,a.2.1.length<=4000/\a.2.2.length<=4000)/\(x.2.1=false->x.2.2.length=1)) (qjq fu s):=by
 unfold qjq qat;refine db (fun _=>⟨_,rfl,oC,fun x hx=>by cases hx⟩) fun h=>au (zys fu hfu s oA _ _) fun r hr=>fk (fun _ _=>⟨_,rfl,oC,fun x hx=>by cases hx⟩) fun b hb=>aw ?_
 obtain⟨h1,h2⟩:=hr b hb;refine⟨oA,fun x hx => ?_⟩
 obtain⟨h3,h4,h5⟩:=h2 x hx;exact⟨oA,fun a ha=>by have:=h4 a ha;omega,h5⟩
end Go.Sym

namespace Go.Sym.Cal
def zh(y:Int):Bool:=y%4==0&&(y%100 != 0||y%400==0)
def lp(y:Int):Int:=if zh y=true then 1 else 0
def qh5(y:Int):0<=lp y/\lp y<=1:=by unfold lp;split<;>omega
def zw6(y:Int):lp y=(y/4-y/100+y/400)-((y-1)/4-(y-1)/100+(y-1)/400):=by
 unfold lp zh;split
 ·rename_i h;simp at h;omega
 ·rename_i h;simp at h;omega
def y7(m:Int):Int:=if m=2 then 28 else if m=4\/m=6\/m=9\/m=11 then 30 else 31
def fe(y m:Int):Int:=if m=2 then 28+lp y else y7 m
def tk(y m:Int):28<=fe y m/\fe y m<=31:=by
 have:=qh5 y;unfold fe y7;split<;>(try split)<;>(try split)<;>omega
def qcg(m:Int):Int:=
 if m<=1 then 0 else if m=2 then 31 else if m=3 then 59 else if m=4 then 90 else if m=5 then 120 else if m=6 then 151 else if m=7 then 181
 else if m=8 then 212 else if m=9 then 243 else if m=10 then 273 else if m=11 then 304 else if m=12 then 334 else 365
def dq(y m:Int):Int:=qcg m+if 3<=m then lp y else 0
def zf3(y:Int):dq y 1=0:=by simp[dq,qcg]
def qm9(y:Int):dq y 13=365+lp y:=by simp[dq,qcg]
def q1v(m:Int)(h1:1<=m)(h2:m<=12):m=1\/m=2\/m=3\/m=4\/m=5\/m=6\/m=7\/m=8\/m=9\/m=10\/m=11\/m=12:=oA
def qch(y m:Int)(h1:1<=m:=by omega)(h2:m<=12:=by omega):dq y (m+1)=dq y m+fe y m:=by
 rcases q1v m h1 h2 with h|h|h|h|h|h|h|h|h|h|h|h<;>subst h<;>simp[dq,qcg,fe,y7]<;>omega
def qna(y m:Int)(h1:1<=m)(h2:m<=13:=by omega):0<=dq y m/\dq y m<=366:=by
 have:=qh5 y;rcases (show m=13\/m<=12 by omega) with h|h
 ·subst h;rw[qm9];omega
 ·rcases q1v m h1 h with h|h|h|h|h|h|h|h|h|h|h|h<;>subst h<;>simp[dq,qcg]<;>omega
def qg9(y a b:Int)(h1:1<=a:=by omega)(hab:a<=b:=by omega)(h2:b<=13:=by omega):dq y a<=dq y b:=by
 obtain⟨n,rfl⟩:∃n:Nat,b=a+n:=⟨(b-a).toNat,oA⟩
 induction n with
 |zero=>simp|succ n ih=>
  have h:=ih oA oA
  have hs:=qch y (a+n)
  have hd:=tk y (a+n);have e:a+((n+1:Nat):Int)=a+n+1:=oA
  rw[e,hs];omega
def q0d(y a b:Int)(h1:1<=a)(hab:a<b:=by omega)(h2:b<=13:=by omega):dq y a+fe y a<=dq y b:=by
 rw[← qch y a h1];exact qg9 y _ _ oA oA h2
def dn(y:Int):Int:=365*(y-1)+(y-1)/4-(y-1)/100+(y-1)/400
def zsw:dn 1970=719162:=oE
def qg3(y:Int):dn (y+1)=dn y+365+lp y:=by
 have:=zw6 y;unfold dn;rw[show y+1-1=y by omega];omega
def o8(a b:Int)(h:a<=b:=by omega):dn a<=dn b:=by unfold dn;omega
def ze1(y:Int)(h1:1<=y)(h2:y<=4001):0<=dn y/\dn y<=1461000:=by unfold dn;omega
def bg(y m d:Int):Int:=dn y-719162+d-1+dq y m
def day_bd(y m d:Int)(h1:1<=y)(h2:y<=4001)(h3:1<=m)(h4:m<=13)(h5 : -1000<=d)(h6:d<=1000) : -720200<=bg y m d/\bg y m d<=743300:=by
 have:=ze1 y h1 h2;have:=qna y m h3 h4;unfold bg;omega
def gg(y m d:Int):Prop:=1<=y/\y<=4000/\1<=m/\m<=12/\1<=d/\d<=fe y m
instance(y m d:Int):Decidable (gg y m d):=by unfold gg;infer_instance
def ti(y m d:Int)(h:gg y m d):dn y<=bg y m d+719162/\bg y m d+719162<dn (y+1):=by
 obtain⟨_,_,h3,h4,h5,h6⟩:=h;have:=qna y m h3;have:=q0d y m 13 h3;have:=qm9 y;have:=qg3 y
 unfold bg;omega
def q0i(y m d:Int)(h:gg y m d):dq y m<=bg y m d+719162-dn y/\bg y m d+719162-dn y<dq y (m+1):=by
 obtain⟨_,_,h3,h4,h5,h6⟩:=h;have:=qch y m h3 h4;unfold bg;omega
def zue{y m d y' m' d':Int}(h:gg y m d)(h':gg y' m' d')(e:bg y m d=bg y' m' d'):y=y'/\m=m'/\d=d':=by
 have a:=ti y m d h;have a':=ti y' m' d' h';have hy:y=y':=by
  rcases Int.lt_trichotomy y y' with c|c|c
  ·have:=o8 (y+1) y';omega
  ·exact c
  ·have:=o8 (y'+1) y;omega
 subst hy;have b:=q0i y m d h;have b':=q0i y m' d' h';obtain⟨_,_,h3,h4,_,_⟩:=h;obtain⟨_,_,h3',h4',_,_⟩:=h';have hm:m=m':=by
  rcases Int.lt_trichotomy m m' with c|c|c
  ·have:=qg9 y (m+1) m';omega
  ·exact c
  ·have:=qg9 y (m'+1) m;omega
 subst hm;refine⟨rfl,rfl,?_⟩;unfold bg at e;omega
noncomputable def ic(n:Int):Int×Int×Int:=open Classical in if h:∃p:Int×Int×Int,gg p.1 p.2.1 p.2.2/\bg p.1 p.2.1 p.2.2=n then Classical.choose h else(0,0,0)
def zts{y m d:Int}(h:gg y m d):ic (bg y m d)=(y,m,d):=by
 have hx:∃p:Int×Int×Int,gg p.1 p.2.1 p.2.2/\bg p.1 p.2.1 p.2.2=bg y m d:=⟨(y,m,d),h,rfl⟩;unfold ic;rw[dif_pos hx];obtain⟨hv,he⟩:=Classical.choose_spec hx;obtain⟨a,b,c⟩:=zue hv h he;exact Prod.ext a (Prod.ext b c)
def ztu{n y m d:Int}(h:gg y m d)(e:bg y m d=n):ic n=(y,m,d):=by rw[← e];exact zts h
def ztt(n:Int)(h1 : -719162<=n)(h2:n<=741807):∃y m d:Int,gg y m d/\bg y m d=n:=by
 have hyear:∀k:Nat,k<=4000->n+719162<dn (k+1:Int)->∃y:Int,1<=y/\y<=4000/\dn y<=n+719162/\n+719162<dn (y+1):=by
  intro k
  induction k with
  |zero=>intro _ h;simp[dn]at h;omega|succ k ih=>
   intro hk h;by_cases hc:n+719162<dn (k+1:Int)
   ·exact ih oA hc
   ·exact⟨k+1,oA,oA,oA,by
     have e:((k+1:Nat):Int)+1=(k:Int)+1+1:=oA
     rw[e]at h;exact h⟩
 obtain⟨y,hy1,hy2,hy3,hy4⟩:=hyear 4000 (wF _) (by
  have:dn ((4000:Nat)+1:Int)=1460970:=oE
  omega)
 have hmon:∀k:Nat,k<=12->n+719162-dn y<dq y (k+1:Int)->∃m:Int,1<=m/\m<=12/\dq y m<=n+719162-dn y/\n+719162-dn y<dq y (m+1):=by
  intro k
  induction k with
  |zero=>intro _ h;simp[dq,qcg]at h;omega|succ k ih=>
   intro hk h;by_cases hc:n+719162-dn y<dq y (k+1:Int)
   ·exact ih oA hc
   ·exact⟨k+1,oA,oA,oA,by
     have e:((k+1:Nat):Int)+1=(k:Int)+1+1:=oA
     rw[e]at h;exact h⟩
 obtain⟨m,hm1,hm2,hm3,hm4⟩:=hmon 12 (wF _) (by
  have:=qm9 y;have:=qg3 y;have e:((12:Nat):Int)+1=13:=oA
  rw[e];omega)
 have:=qch y m hm1 hm2;exact⟨y,m,n+719162-dn y-dq y m+1,⟨hy1,hy2,hm1,hm2,oA,oA⟩,by unfold bg;omega⟩
def zug:bg 4000 12 31=741807:=oE
def zuh:bg 1 1 1 = -719162:=oE
def q3u(y m d:Int)(h:gg y m d) : -719162<=bg y m d/\bg y m d<=741807:=by
 have a:=ti y m d h;have b:=o8 1 y h.1;have c:=o8 (y+1) 4001 (by have:=h.2.1;omega)
 have e1:dn 1=0:=oE
 have e2:dn 4001=1460970:=oE
 omega
def qcf(n:Int)(h1 : -719162<=n:=by omega)(h2:n<=741807:=by omega):gg (ic n).1 (ic n).2.1 (ic n).2.2/\bg (ic n).1 (ic n).2.1 (ic n).2.2=n:=by
 obtain⟨y,m,d,h,e⟩:=ztt n h1 h2;rw[ztu h e];exact⟨h,e⟩
def ni(n:Int):Int:=(n+4)%7
def zl9(n:Int):0<=ni n/\ni n<=6:=by unfold ni;omega
end Go.Sym.Cal
namespace Go.Sym.Zn
open Go.Sym.Cal
def vhg(y mo wd:Int):Int:=(wd-ni (bg y mo 1)+7)%7
def fa(y mo wk wd:Int):Int:=if wk=5/\fe y mo<29+vhg y mo wd then 22+vhg y mo wd else 1+vhg y mo wd+7*(wk-1)
def qiq(y mo wk wd mi ah:Int):Int:=bg y mo (fa y mo wk wd)*86400+60*(mi-ah)
def TOk(mo wk wd mi:Int):Prop:=1<=mo/\mo<=12/\1<=wk/\wk<=5/\0<=wd/\wd<=6/\0<=mi/\mi<=1439
instance(mo wk wd mi:Int):Decidable (TOk mo wk wd mi):=by unfold TOk;infer_instance
def qpg(y mo wd:Int):0<=vhg y mo wd/\vhg y mo wd<=6:=by unfold vhg;omega
def qab(y mo wk wd:Int)(h1:1<=wk)(h2:wk<=5):1<=fa y mo wk wd/\fa y mo wk wd<=fe y mo:=by
 have:=qpg y mo wd;have:=tk y mo;unfold fa;split
 ·omega
 ·rename_i h;by_cases h5:wk=5
  ·subst h5;simp at h;omega
  ·omega
def qnd(y m d:Int):bg y m d=bg y m 1+d-1:=by unfold bg;omega
def zlm(y mo wk wd:Int)(h1:0<=wd)(h2:wd<=6):(bg y mo (fa y mo wk wd)+4)%7=wd:=by
 rw[qnd];generalize hF:bg y mo 1=F;unfold fa vhg ni;rw[hF];split<;>omega
def zvc(y mo:Int)(h1:1<=mo)(h2:mo<=12):bg y mo 1+365<=bg (y+1) mo 1/\bg (y+1) mo 1<=bg y mo 1+366 /\
  bg y mo 1+fe y mo+365<=bg (y+1) mo 1+fe (y+1) mo/\bg (y+1) mo 1+fe (y+1) mo<=bg y mo 1+fe y mo+366:=by
 have a:=qg3 y;have b:=qh5 y;have c:=qh5 (y+1);have hd:fe (y+1) mo-fe y mo=if mo=2 then lp (y+1)-lp y else 0:=by
  unfold fe;split<;>omega
 have hc:dq (y+1) mo-dq y mo=if 3<=mo then lp (y+1)-lp y else 0:=by
  unfold dq;split<;>omega
 unfold bg;by_cases e:mo=2
 ·subst e;simp at hd hc;omega
 ·rw[qW e]at hd;split at hc<;>omega
def zll(y mo wk wd:Int)(h1:1<=mo)(h2:mo<=12)(h3:1<=wk)(h4:wk<=5)(h5:0<=wd)(h6:wd<=6) :
  bg (y+1) mo (fa (y+1) mo wk wd)=bg y mo (fa y mo wk wd)+364\/bg (y+1) mo (fa (y+1) mo wk wd)=bg y mo (fa y mo wk wd)+371:=by
 have a:=zlm y mo wk wd h5 h6;have b:=zlm (y+1) mo wk wd h5 h6;have f:=zvc y mo h1 h2;have x:=qpg y mo wd;have x':=qpg (y+1) mo wd;have bd:=qab y mo wk wd h3 h4;have bd':=qab (y+1) mo wk wd h3 h4;have dd:=tk y mo;have dd':=tk (y+1) mo;rw[qnd y mo (fa y mo wk wd),qnd (y+1) mo (fa (y+1) mo wk wd)]at *;by_cases e:wk=5
 ·have t:fe y mo-6<=fa y mo wk wd:=by
   unfold fa;subst e;split
   ·omega
   ·rename_i h;simp at h;omega
  have t':fe (y+1) mo-6<=fa (y+1) mo wk wd:=by
   unfold fa;subst e;split
   ·omega
   ·rename_i h;simp at h;omega
  omega
 ·have t:fa y mo wk wd=1+vhg y mo wd+7*(wk-1):=by unfold fa;rw[qW (by simp[e])]
  have t':fa (y+1) mo wk wd=1+vhg (y+1) mo wd+7*(wk-1):=by unfold fa;rw[qW (by simp[e])]
  omega
def d5(y:Int):Int:=86400*(dn y-719162)
def ze(y:Int):d5 y+31536000<=d5 (y+1)/\d5 (y+1)<=d5 y+31622400:=by
 have a:=qg3 y;have b:=qh5 y;unfold d5;omega
def q9(a b:Int)(h:a<=b:=by omega):d5 a<=d5 b:=by have:=o8 a b h;unfold d5;omega
structure qma(B E:Int->Int)(std sm:Int):Prop where
 d1:std+1<=sm
 d2:sm<=std+180
 b1:∀y,d5 y<=B y+60*std
 b2:∀y,B y+60*std+60<=d5 (y+1)
 e1:∀y,d5 y<=E y+60*sm
 e2:∀y,E y+60*sm+60<=d5 (y+1)
 bs:∀y,B (y+1)=B y+364*86400\/B (y+1)=B y+371*86400
 es:∀y,E (y+1)=E y+364*86400\/E (y+1)=E y+371*86400
 be:∀y,d5 (y+1)-86400<=B y+60*std->E y+60*sm+86400<=d5 (y+1)
 eb:∀y,d5 (y+1)-86400<=E y+60*sm->B y+60*std+86400<=d5 (y+1)
def zhu(y mo d:Int)(h1:1<=mo)(h2:mo<=12)(h3:1<=d)(h4:d<=fe y mo):d5 y<=bg y mo d*86400/\bg y mo d*86400+86400<=d5 (y+1)/\(mo<=11->bg y mo d*86400+2678400+86400<=d5 (y+1)):=by
 have a:=qna y mo h1;have b:=q0d y mo 13 h1;have c:=qm9 y;have e:=qg3 y
 have f:mo<=11->dq y mo+fe y mo+31<=dq y 13:=fun h=>by
  have:=q0d y mo 12 h1;have:=qch y 12
  have:fe y 12=31:=by simp[fe,y7]
  have:dq y (12+1)=dq y 13:=rfl;omega
 unfold d5 bg;refine⟨oA,oA,fun h => ?_⟩
 have:=f h;omega
def z1l{std sm bmo bwk bwd bmi emo ewk ewd emi:Int}(h1:std+1<=sm)(h2:sm<=std+180)(hb:TOk bmo bwk bwd bmi)(he:TOk emo ewk ewd emi)(hne:bmo≠emo) :
  qma (fun y=>qiq y bmo bwk bwd bmi std) (fun y=>qiq y emo ewk ewd emi sm) std sm:=by
 obtain⟨b1,b2,b3,b4,b5,b6,b7,b8⟩:=hb;obtain⟨e1,e2,e3,e4,e5,e6,e7,e8⟩:=he;have jb:=fun y=>zhu y bmo (fa y bmo bwk bwd) b1 b2 (qab y bmo bwk bwd b3 b4).1 (qab y bmo bwk bwd b3 b4).2
 have je:=fun y=>zhu y emo (fa y emo ewk ewd) e1 e2 (qab y emo ewk ewd e3 e4).1 (qab y emo ewk ewd e3 e4).2
 have sb:=fun y=>zll y bmo bwk bwd b1 b2 b3 b4 b5 b6
 have se:=fun y=>zll y emo ewk ewd e1 e2 e3 e4 e5 e6
 refine⟨h1,h2,fun y => ?_,fun y => ?_,fun y => ?_,fun y => ?_,fun y => ?_,fun y => ?_,fun y => ?_,fun y => ?_⟩<;>simp only[qiq]
 ·have:=jb y;omega
 ·have:=jb y;omega
 ·have:=je y;omega
 ·have:=je y;omega
 ·have:=sb y;omega
 ·have:=se y;omega
 ·have⟨p1,p2,p3⟩:=jb y;have⟨q1,q2,q3⟩:=je y;intro h;have hm:bmo=12:=by
   by_cases c:bmo<=11
   ·have:=p3 c;omega
   ·omega
  have:=q3 oA;omega
 ·have⟨p1,p2,p3⟩:=jb y;have⟨q1,q2,q3⟩:=je y;intro h;have hm:emo=12:=by
   by_cases c:emo<=11
   ·have:=q3 c;omega
   ·omega
  have:=p3 oA;omega
section
variable{B E:Int->Int}{std sm:Int}
def qio{f:Int->Int}(h:∀y,f (y+1)=f y+364*86400\/f (y+1)=f y+371*86400){a b:Int}(hab:a<b):f a+364*86400<=f b:=by
 obtain⟨n,rfl⟩:∃n:Nat,b=a+n+1:=⟨(b-a-1).toNat,oA⟩
 clear hab
 induction n with
 |zero=>have:=h a;simp;omega|succ n ih=>
  have e:a+((n+1:Nat):Int)+1=a+n+1+1:=oA
  rw[e];have:=h (a+n+1);omega
def yw(B E:Int->Int)(lo hi t:Int):Prop:=∃y,lo<=y/\y<=hi/\B y<=t/\∀z,lo<=z->z<=hi->E z<=t->E z<B y
def zd3(B E:Int->Int)(t:Int):Prop:=∃y,B y<=t/\∀z,E z<=t->E z<B y
def qmb(std t c:Int):Prop:=d5 c<=t+60*std/\t+60*std<d5 (c+1)
def z06(h:qma B E std sm){t c:Int}(hc:qmb std t c):yw B E (c-1) (c+1) t↔zd3 B E t:=by
 obtain⟨h1,h2⟩:=hc;have d1:=h.d1;have d2:=h.d2
 -- all turns of c-1 are over
 have hB1:B (c-1)<=t:=by have:=h.b2 (c-1);rw[show c-1+1=c by omega]at this;omega
 have hE1:E (c-1)<=t:=by have:=h.e2 (c-1);rw[show c-1+1=c by omega]at this;omega
 -- none of c+2 and later
 have hB2:∀y,c+2<=y->t<B y:=fun y hy=>by have:=h.b1 y;have:=q9 (c+2) y hy;have j:=ze (c+1);rw[show c+1+1=c+2 by omega]at j;omega
 have hE2:∀y,c+2<=y->t<E y:=fun y hy=>by have:=h.e1 y;have:=q9 (c+2) y hy;have j:=ze (c+1);rw[show c+1+1=c+2 by omega]at j;omega
 constructor
 ·rintro⟨y,y1,y2,hy,hz⟩
  refine⟨y,hy,fun z hzt => ?_⟩
  by_cases z1:c-1<=z
  ·by_cases z2:z<=c+1
   ·exact hz z z1 z2 hzt
   ·have:=hE2 z oA;omega
  ·have a:=qio h.es (show z<c-1 by omega);have:=hz (c-1) oA oA hE1;omega
 ·rintro⟨y,hy,hz⟩
  have y2:y<=c+1:=by
   by_cases q:y<=c+1
   ·exact q
   ·have:=hB2 y oA;omega
  by_cases y1:c-1<=y
  ·exact⟨y,y1,y2,hy,fun z _ _ hzt=>hz z hzt⟩
  ·have a:=qio h.bs (show y<c-1 by omega)
   exact⟨c-1,oA,oA,hB1,fun z _ _ hzt=>by have:=hz z hzt;omega⟩
def z05(h:qma B E std sm){t c:Int}(hc:qmb std t c)(hl:d5 (c+1)<=t+60*sm):yw B E c (c+2) t↔zd3 B E t:=by
 obtain⟨h1,h2⟩:=hc;have d1:=h.d1;have d2:=h.d2;have hB2:∀y,c+2<=y->t<B y:=fun y hy=>by have:=h.b1 y;have:=q9 (c+2) y hy;have j:=ze (c+1);rw[show c+1+1=c+2 by omega]at j;omega
 have hE2:∀y,c+2<=y->t<E y:=fun y hy=>by have:=h.e1 y;have:=q9 (c+2) y hy;have j:=ze (c+1);rw[show c+1+1=c+2 by omega]at j;omega
 have js:=ze c;have jp:=ze (c-1);rw[show c-1+1=c by omega]at jp
 have bp2:=h.b2 (c-1);rw[show c-1+1=c by omega]at bp2
 have ep2:=h.e2 (c-1);rw[show c-1+1=c by omega]at ep2
 have b1:=h.b1 c;have b2:=h.b2 c;have e1:=h.e1 c;have e2:=h.e2 c;have be:=h.be c;have eb:=h.eb c;have bs:=h.bs (c-1);rw[show c-1+1=c by omega]at bs
 constructor
 ·rintro⟨y,y1,y2,hy,hz⟩
  refine⟨y,hy,fun z hzt => ?_⟩
  by_cases z1:c<=z
  ·by_cases z2:z<=c+2
   ·exact hz z z1 z2 hzt
   ·have:=hE2 z oA;omega
  ·
   have a:E z<=E (c-1):=by
    by_cases q:z=c-1
    ·subst q;omega
    ·have:=qio h.es (show z<c-1 by omega);omega
   have b:B c<=B y:=by
    by_cases q:y=c
    ·subst q;omega
    ·have:=qio h.bs (show c<y by omega);omega
   omega
 ·rintro⟨y,hy,hz⟩
  have y2:y<=c+2:=by
   by_cases q:y<=c+2
   ·exact q
   ·have:=hB2 y oA;omega
  by_cases y1:c<=y
  ·exact⟨y,y1,y2,hy,fun z _ _ hzt=>hz z hzt⟩
  ·have a:B y<=B (c-1):=by
    by_cases q:y=c-1
    ·subst q;omega
    ·have:=qio h.bs (show y<c-1 by omega);omega
   by_cases q:B c<=t
   ·exact⟨c,oA,oA,q,fun z _ _ hzt=>by have:=hz z hzt;omega⟩
   ·
    have hEc:E c<=t:=by have:=be oA;omega
    have:=hz c hEc;omega
def Inv(B E:Int->Int)(t:Int)(S:Int->Prop)(best:Int)(out has:Bool):Prop:=
 (has=false->out=false/\∀y,S y->t<B y/\t<E y) /\
 (has=true->best<=t/\(∀y,S y->B y<=t->B y<=best)/\(∀y,S y->E y<=t->E y<=best) /\
  (out=true->(∃y,S y/\B y=best)/\∀y,S y->E y<=t->E y<best)/\(out=false->∃y,S y/\E y=best))
def Inv.start(t best:Int):Inv B E t (fun _=>False) best false false:=⟨fun _=>⟨rfl,fun _ h=>h.elim⟩,fun h=>by cases h⟩
def Inv.fin{t lo hi best:Int}{out has:Bool}(h:Inv B E t (fun y=>lo<=y/\y<=hi) best out has):out=true↔yw B E lo hi t:=by
 constructor
 ·intro ho
  cases has with
  |false=>have:=(h.1 rfl).1;rw[this]at ho;cases ho
  |true=>
   obtain⟨h1,h2,h3,h4,_⟩:=h.2 rfl;obtain⟨⟨y,hy,rfl⟩,hE⟩:=h4 ho;exact⟨y,hy.1,hy.2,h1,fun z z1 z2 hz=>hE z ⟨z1,z2⟩ hz⟩
 ·rintro⟨y,y1,y2,hy,hz⟩
  cases has with
  |false=>have:=(h.1 rfl).2 y ⟨y1,y2⟩;omega|true=>
   obtain⟨h1,h2,h3,_,h5⟩:=h.2 rfl
   cases out with
   |true=>rfl|false=>
    obtain⟨z,hz',he⟩:=h5 rfl;have:=h2 y ⟨y1,y2⟩ hy;have:=hz z hz'.1 hz'.2 oA
    omega
def Inv.next{t k best best1 best2:Int}{S S':Int->Prop}{out has out1 has1 out2 has2:Bool}(h:Inv B E t S best out has)(hS:∀y,S' y↔S y\/y=k)
  (h1:(B k<=t/\(has=false\/best<B k)/\best1=B k/\out1=true/\has1=true)\/(¬(B k<=t/\(has=false\/best<B k))/\best1=best/\out1=out/\has1=has))
  (h2:(E k<=t/\(has1=false\/best1<=E k)/\best2=E k/\out2=false/\has2=true)\/(¬(E k<=t/\(has1=false\/best1<=E k))/\best2=best1/\out2=out1/\has2=has1)) :
  Inv B E t S' best2 out2 has2:=by
 obtain⟨hf,ht⟩:=h;have hk:S' k:=(hS k).2 (.inr rfl);have hsub:∀y,S y->S' y:=fun y hy=>(hS y).2 (.inl hy)
 rcases h1 with⟨a1,a2,rfl,rfl,rfl⟩|⟨a1,rfl,rfl,rfl⟩
 ·rcases h2 with⟨c1,c2,rfl,rfl,rfl⟩|⟨c1,rfl,rfl,rfl⟩
  ·refine⟨fun h=>(by cases h),fun _=>⟨c1,fun y hy hy2 => ?_,fun y hy hy2 => ?_,fun h=>(by cases h),fun _=>⟨k,hk,rfl⟩⟩⟩
   ·rcases (hS y).1 hy with q|rfl
    ·cases has with|false=>have:=(hf rfl).2 y q;omega|true=>have:=(ht rfl).2.1 y q hy2;simp at a2 c2;omega
    ·simp at c2;exact c2
   ·rcases (hS y).1 hy with q|rfl
    ·cases has with|false=>have:=(hf rfl).2 y q;omega|true=>have:=(ht rfl).2.2.1 y q hy2;simp at a2 c2;omega
    ·omega
  ·simp at c1;refine⟨fun h=>(by cases h),fun _=>⟨a1,fun y hy hy2 => ?_,fun y hy hy2 => ?_,fun _=>⟨⟨k,hk,rfl⟩,fun y hy hy2 => ?_⟩,fun h=>(by cases h)⟩⟩
   ·rcases (hS y).1 hy with q|rfl
    ·cases has with|false=>have:=(hf rfl).2 y q;omega|true=>have:=(ht rfl).2.1 y q hy2;simp at a2;omega
    ·omega
   ·rcases (hS y).1 hy with q|rfl
    ·cases has with|false=>have:=(hf rfl).2 y q;omega|true=>have:=(ht rfl).2.2.1 y q hy2;simp at a2;omega
    ·have:=c1 hy2;omega
   ·rcases (hS y).1 hy with q|rfl
    ·cases has with|false=>have:=(hf rfl).2 y q;omega|true=>have:=(ht rfl).2.2.1 y q hy2;simp at a2;omega
    ·exact c1 hy2
 ·rcases h2 with⟨c1,c2,rfl,rfl,rfl⟩|⟨c1,rfl,rfl,rfl⟩
  ·refine⟨fun h=>(by cases h),fun _=>⟨c1,fun y hy hy2 => ?_,fun y hy hy2 => ?_,fun h=>(by cases h),fun _=>⟨k,hk,rfl⟩⟩⟩
   ·rcases (hS y).1 hy with q|rfl
    ·cases has1 with|false=>have:=(hf rfl).2 y q;omega|true=>have:=(ht rfl).2.1 y q hy2;simp at c2;omega
    ·cases has1 with|false=>exact absurd ⟨hy2,.inl rfl⟩ a1|true=>simp at a1 c2;have:=a1 hy2;omega
   ·rcases (hS y).1 hy with q|rfl
    ·cases has1 with|false=>have:=(hf rfl).2 y q;omega|true=>have:=(ht rfl).2.2.1 y q hy2;simp at c2;omega
    ·omega
  ·cases has2 with
   |false=>
    simp at a1 c1;obtain⟨o,hn⟩:=hf rfl;refine⟨fun _=>⟨o,fun y hy => ?_⟩,fun h=>(by cases h)⟩
    rcases (hS y).1 hy with q|rfl
    ·exact hn y q
    ·exact⟨a1,c1⟩
   |true=>
    simp at a1 c1;obtain⟨g1,g2,g3,g4,g5⟩:=ht rfl;refine⟨fun h=>(by cases h),fun _=>⟨g1,fun y hy hy2 => ?_,fun y hy hy2 => ?_,fun ho => ?_,fun ho => ?_⟩⟩
    ·rcases (hS y).1 hy with q|rfl
     ·exact g2 y q hy2
     ·exact a1 hy2
    ·rcases (hS y).1 hy with q|rfl
     ·exact g3 y q hy2
     ·have:=c1 hy2;omega
    ·obtain⟨⟨y,hy,e⟩,hE⟩:=g4 ho;refine⟨⟨y,hsub y hy,e⟩,fun z hz hz2 => ?_⟩
     rcases (hS z).1 hz with q|rfl
     ·exact hE z q hz2
     ·exact c1 hz2
    ·obtain⟨y,hy,e⟩:=g5 ho;exact⟨y,hsub y hy,e⟩
end
end Go.Sym.Zn
namespace Go.Sym
open Cal Zn
abbrev gw:Type:=Int×Int
abbrev cf:Type:=Int×Int×Int×Int×Int×Int×Int
abbrev ux:Type:=Int×Int×Int×Int
abbrev bt:Type:=List UInt8×Int×Int×ux×ux
@[simp] def dates_within_eq(x a b:Int):ot x a b=some (decide (a<=x/\x<=b)):=by
 unfold ot;by_cases h:a<=x<;>simp[h]
@[simp] def zones_within_eq(x a b:Int):np x a b=some (decide (a<=x/\x<=b)):=by
 unfold np;by_cases h:a<=x<;>simp[h]
def zww(y:Int)(h:0<=y):qkj y=some (zh y):=by
 unfold qkj zh;rw[Int.tmod_eq_emod_of_nonneg h,Int.tmod_eq_emod_of_nonneg h,Int.tmod_eq_emod_of_nonneg h];cases h1:(y%4==0)<;>cases h2:(y%100 != 0)<;>simp
def zw8{y:Int}(h:zh y=true):lp y=1:=by unfold lp;rw[qX h]
def zw7{y:Int}(h:zh y=false):lp y=0:=by unfold lp;rw[qW (by rw[h];decide)]
def zxh(m:Int)(h1:1<=m)(h2:m<=12):am ([31,28,31,30,31,30,31,31,30,31,30,31]:List Int) (ae (m-1))=some (y7 m):=by
 rw[bf]
 rcases q1v m h1 h2 with h|h|h|h|h|h|h|h|h|h|h|h<;>subst h<;>rfl
def zh2(y m:Int)(hy:0<=y)(h1:1<=m)(h2:m<=12):qfe y m=some (fe y m):=by
 unfold qfe;rw[zxh m h1 h2,qB];by_cases e:m=2
 ·subst e;rw[zww y hy];cases hl:zh y
  ·simp[fe,y7,zw7 hl]
  ·simp[fe,y7,zw8 hl];rfl
 ·have e':(m==2)=false:=by simp[e]
  simp[e,e',fe]
def ze2(y:Int)(h1:1<=y:=by omega)(h2:y<=4001:=by omega):qfc y=some (dn y):=by
 unfold qfc dn;rw[bf (x:=y-1) oA oA]
 rw[Int.tdiv_eq_ediv_of_nonneg oA,Int.tdiv_eq_ediv_of_nonneg oA,Int.tdiv_eq_ediv_of_nonneg oA]
 simp (discharger:=omega) only [bf ?_ ?_]
def zuf(fu:Nat)(y m:Int)(hy1:1<=y)(hy2:y<=4001)(hm:m<=12):∀(n:Nat)(a k:Int),1<=k->k<=m->m-k<n -> -10000000<=a-dq y k->a-dq y k<=10000000 ->
  qfd fu n y m a k=some (a+dq y m-dq y k):=by
 intro n
 induction n with
 |zero=>intro a k h1 h2 h3;omega|succ n ih=>
  intro a k h1 h2 h3 h4 h5;rw[qfd,qsw];by_cases c:k<m
  ·have hc:=qch y k h1
   have hb:=qna y k h1
   have hd:=tk y k;rw[a8 (by simp[c]),zh2 y k oA h1 oA,qB,bf,bf,
    ih _ _ oA oA oA oA oA]
   congr 1;omega
  ·have:k=m:=oA
   subst this;rw[ax];congr 1;omega
def qck(fu:Nat)(hf:20<=fu)(y m d:Int)(hy1:1<=y:=by omega)(hy2:y<=4001:=by omega)(h1:1<=m:=by omega)(h2:m<=12:=by omega)(h3 : -1000<=d:=by omega)(h4:d<=1000:=by omega):qm fu y m d=some (bg y m d):=by
 unfold qm;have hb:=ze1 y hy1 hy2;have hc:=zf3 y;rw[ze2 y hy1 hy2,qB,ze2 1970,qB,zsw]
 simp (discharger:=omega) only [bf ?_ ?_];rw[zuf fu y m hy1 hy2 h2 fu _ 1 oA h1 oA oA oA,hc]
 unfold bg;congr 1;omega
def zk8(x b:Int)(hb:0<b:=by omega)(hb2:b<=100000:=by omega)(h1 : -1000000000000<=x:=by omega)(h2:x<=1000000000000:=by omega):qff x b=some (x/b,x%b):=by
 unfold qff;have hb0:decide (b≠0)=true:=decide_eq_true oA
 rw[a8 hb0,a8 hb0,a8 hb0];have e:Int.tmod (ae (Int.tmod x b+b)) b=x%b:=by
  have a1:=Int.tmod_lt_of_pos x hb;have a2 : -b<Int.tmod x b:=by
   have:=Int.lt_tmod_of_pos x hb;omega
  rw[bf,Int.tmod_eq_emod_of_nonneg oA]
  rw[Int.add_emod_right];by_cases hx:0<=x
  ·rw[Int.tmod_eq_emod_of_nonneg hx,Int.emod_emod]
  ·rw[Int.tmod_def x b,Int.sub_mul_emod_self_left]
 rw[e];have m1:=Int.emod_nonneg x (show b≠0 by omega)
 have m2:=Int.emod_lt_of_pos x hb;have ed:=Int.mul_ediv_add_emod x b;have e3:x-x%b=b*(x/b):=oA
 rw[bf (x:=x-x%b) oA oA,e3,Int.mul_tdiv_cancel_left _ oA]
 have bd : -1000000000000<=x/b/\x/b<=1000000000000:=by
  constructor
  ·rw[Int.le_ediv_iff_mul_le hb];have : -1000000000000*b <= -1000000000000*1:=oA
   omega
  ·exact Int.le_trans (Int.ediv_le_ediv hb h2) (Int.ediv_le_self _ oA)
 rw[bf]
end Go.Sym
namespace Go.Sym
open Cal Zn
def q3o{x k:Int}(h:0<=x:=by omega):Int.tdiv x k=x/k:=Int.tdiv_eq_ediv_of_nonneg h
def zls{x k:Int}(h:0<=x:=by omega):Int.tmod x k=x%k:=Int.tmod_eq_emod_of_nonneg h
@[simp] def none_eq:cd=some ⟨0,0⟩:=rfl
@[simp] def fault_eq(a b:Int):aq a b=some ⟨a,b⟩:=rfl
@[simp] def zfailed_eq(f:gw):ck f=some (f.1 != 0):=rfl
@[simp] def time_eq(t:Int):qk t=some (decide (-68719476736<=t/\t<=68719476736)):=by
 unfold qk;by_cases h : -68719476736<=t<;>simp[h]
noncomputable def vi(n s z:Int):cf:=⟨(ic n).1,(ic n).2.1,(ic n).2.2,s/3600,s/60%60,s%60,z⟩
def vgt{n y m d k:Int}(h:gg y m d)(e:bg y m d=n):bg k 1 1<=n↔k<=y:=by
 have a:=ti y m d h;have:bg k 1 1=dn k-719162:=by unfold bg;rw[zf3];omega
 rw[this];constructor
 ·intro hk;by_cases c:k<=y
  ·exact c
  ·have:=o8 (y+1) k;omega
 ·intro hk;have:=o8 k y hk;omega
def zxg{n y m d k:Int}(h:gg y m d)(e:bg y m d=n)(k1:1<=k)(k2:k<=12):bg y k 1<=n↔k<=m:=by
 have a:=q0i y m d h;have:bg y k 1=dn y-719162+dq y k:=by unfold bg;omega
 rw[this];constructor
 ·intro hk;by_cases c:k<=m
  ·exact c
  ·have:=qg9 y (m+1) k (by have:=h.2.2.1;omega);omega
 ·intro hk;have:=qg9 y k m k1 hk (by have:=h.2.2.2.1;omega);omega
def ztw(fu:Nat)(hf:20<=fu){N y m d:Int}(s z:Int)(m1:cf)(m2:gw)(h:gg y m d)(e:bg y m d=N)(hs:0<=s)(hs2:s<86400):∀(n:Nat)(k:Int),m<=k->k<=12->k-m<n ->
  qfb fu n z N s y k m1 m2=some ((y,m,d,s/3600,s/60%60,s%60,z),(0,0)):=by
 obtain⟨v1,v2,v3,v4,v5,v6⟩:=h;have hd:=tk y m;have hN:=q3u y m d ⟨v1,v2,v3,v4,v5,v6⟩;intro n
 induction n with
 |zero=>intro k h1 h2 h3;omega|succ n ih=>
  intro k h1 h2 h3;rw[qfb,qsu,qck fu hf y k 1 v1 oA oA h2,qB]
  have hl:=zxg (k:=k) ⟨v1,v2,v3,v4,v5,v6⟩ e oA h2
  by_cases c:k<=m
  ·have:k=m:=oA
   subst this;have:=qnd y k d;have b:=day_bd y k 1 v1 oA v3 oA oA oA
   rw[ax (by simp;exact hl.2 c),none_eq]
   simp only[qB];simp (discharger:=omega) only [bf ?_ ?_,q3o ?_,zls ?_];have e1:N-bg y k 1+1=d:=oA
   rw[e1]
  ·rw[a8 (by simp;have:=mt hl.1 c;omega),bf,ih _ oA oA oA]
def ztx(fu:Nat)(hf:20<=fu){N y m d:Int}(s z:Int)(m1:cf)(m2:gw)(h:gg y m d)(e:bg y m d=N)(hs:0<=s)(hs2:s<86400):∀(j n:Nat)(k:Int),j<=12->1<=k->k<=y->y<k+2 ^ j->j<n ->
  qbd fu n z N s k ((2 ^ j/2:Nat):Int) m1 m2=some ((y,m,d,s/3600,s/60%60,s%60,z),(0,0)):=by
 have h':=h;obtain⟨v1,v2,v3,v4,v5,v6⟩:=h';intro j
 induction j with
 |zero=>
  intro n k hj h1 h2 h3 h4;obtain⟨n,rfl⟩:∃q,n=q+1:=⟨n-1,oA⟩
  have:k=y:=by simp at h3;omega
  subst this;rw[qbd,qkf,ax,ztw fu hf s z m1 m2 h e hs hs2 fu 12 v4 oA oA]
 |succ j ih=>
  intro n k hj h1 h2 h3 h4;obtain⟨n,rfl⟩:∃q,n=q+1:=⟨n-1,oA⟩
  have e2:(2 ^ (j+1)/2:Nat)=2 ^ j:=by rw[Nat.pow_succ];omega
  have e3:(2:Int) ^ (j+1)=2*((2 ^ j:Nat):Int):=by rw[Int.pow_succ];simp;omega
  rw[e3]at h3;have e4:((2:Int) ^ j)=((2 ^ j:Nat):Int):=oC
  have ih':=ih n;rw[e4]at ih';have p1:0<2 ^ j:=Nat.pow_pos oA
  have p2:2 ^ j<=2 ^ 11:=Nat.pow_le_pow_right oA oA
  have ed:((2 ^ j/2:Nat):Int)=((2 ^ j:Nat):Int)/2:=oA
  rw[e2];rw[ed]at ih';generalize 2 ^ j=P at *;rw[qbd,qkf,a8 oD]
  simp only[qkh,qki];simp (discharger:=omega) only [bf ?_ ?_,q3o ?_];by_cases c:k+(P:Int)<=4000
  ·rw[a8 (by simp;exact c),qck fu hf _ 1 1,qB]
   have hl:=vgt (k:=k+(P:Int)) h e;by_cases c2:k+(P:Int)<=y
   ·rw[a8 (by simp;exact hl.2 c2)]
    exact ih' _ oA oA c2 oA oA
   ·rw[ax (by simp;have:=mt hl.1 c2;omega)]
    exact ih' _ oA oA h2 oA oA
  ·rw[ax oD]
   exact ih' _ oA oA h2 oA oA
noncomputable def xu(t z:Int):cf×gw:=
 if ¬(-68719476736<=t/\t<=68719476736) then(⟨0,0,0,0,0,0,0⟩,⟨3,-2⟩) else
 if ¬(-900<=z/\z<=900) then(⟨0,0,0,0,0,0,0⟩,⟨3,-4⟩) else
 if(t+60*z)/86400 < -719162\/741807<(t+60*z)/86400 then(⟨0,0,0,0,0,0,0⟩,⟨3,-3⟩) else
 (vi ((t+60*z)/86400) ((t+60*z)%86400) z,⟨0,0⟩)
def zfv(fu:Nat)(hf:20<=fu)(t z:Int):qbc fu t z=some (xu t z):=by
 unfold qbc xu;rw[time_eq,qB];by_cases c1 : -68719476736<=t/\t<=68719476736
 ·rw[ax oN,qW oN,dates_within_eq,qB]
  by_cases c2 : -900<=z/\z<=900
  ·rw[ax (by simp[c2]),qW (by simp[c2])]
   simp (discharger:=omega) only [bf ?_ ?_];rw[zk8 _ _,qB,qck fu hf 1 1 1,qB,zuh]
   generalize hN:(t+60*z)/86400=N;generalize hS:(t+60*z)%86400=S;by_cases c3:N < -719162
   ·rw[a8 (by simp;exact c3),qX (.inl c3)];rfl
   ·rw[ax oD,qck fu hf 4000 12 31,qB,zug]
    unfold qkg qsv;by_cases c4:741807<N
    ·rw[a8 (by simp;exact c4),qX (.inr c4)];rfl
    ·rw[ax oD,qW]
     obtain⟨hv,he⟩:=qcf N
     have:=ztx fu hf S z (0,0,0,0,0,0,0) (0,0) hv he oA oA 12 fu 1 oA oA hv.1 (by have:=hv.2.1;omega) oA
     exact this
  ·rw[a8 oD,qX c2];rfl
 ·rw[a8 oD,qX c1];rfl
def ew(d:cf):Prop:=gg d.1 d.2.1 d.2.2.1/\0<=d.2.2.2.1/\d.2.2.2.1<=23/\0<=d.2.2.2.2.1/\d.2.2.2.2.1<=59/\0<=d.2.2.2.2.2.1/\d.2.2.2.2.2.1<=59 /\ -900<=d.2.2.2.2.2.2/\d.2.2.2.2.2.2<=900
instance(d:cf):Decidable (ew d):=by unfold ew;infer_instance
def q0p(d:cf):qbe d=some (if ew d then⟨0,0⟩ else⟨3,-3⟩):=by
 unfold qbe;simp only[dates_within_eq,qB,fault_eq,none_eq,jd,qb9];have key:∀(f:gw),(if ew d then(⟨0,0⟩:gw) else⟨3,-3⟩)=f->(ew d->f=⟨0,0⟩)/\(¬ew d->f=⟨3,-3⟩):=fun f h=>⟨fun k=>by rw[← h,qX k],fun k=>by rw[← h,qW k]⟩
 generalize hf:(if ew d then(⟨0,0⟩:gw) else⟨3,-3⟩)=f
 obtain⟨k1,k2⟩:=key f hf;clear key hf;unfold ew gg at k1 k2;by_cases c1:1<=d.1/\d.1<=4000
 ·rw[qX c1];by_cases c2:1<=d.2.1/\d.2.1<=12
  ·have e:(if(12:Int)<(if(1:Int)>d.2.1 then 1 else d.2.1) then 12 else if(1:Int)>d.2.1 then 1 else d.2.1)=d.2.1:=by
    rw[qW (show ¬((1:Int)>d.2.1) by omega),qW]
   rw[qX c2,e,zh2 _ _ oA c2.1 c2.2,qB]
   clear e
   repeat' split
   all_goals first|(rw[k1 oA])|(rw[k2 oA])
  ·rw[qW c2,k2 oA]
 ·rw[qW c1,k2 oA]
def cq(d:cf):Int:=bg d.1 d.2.1 d.2.2.1*86400+d.2.2.2.1*3600+(d.2.2.2.2.1-d.2.2.2.2.2.2)*60+d.2.2.2.2.2.1
def q0h{d:cf}(h:ew d) : -719162<=bg d.1 d.2.1 d.2.2.1/\bg d.1 d.2.1 d.2.2.1<=741807:=q3u _ _ _ h.1
def q30(fu:Nat)(hf:20<=fu)(d:cf)(h:ew d):qbf fu d=some (ni (bg d.1 d.2.1 d.2.2.1),⟨0,0⟩):=by
 unfold qbf;have hb:=q0h h;have hd:=tk d.1 d.2.1;obtain⟨⟨v1,v2,v3,v4,v5,v6⟩,_⟩:=id h;rw[q0p,qX h,qB,zfailed_eq,qB,ax,qck fu hf _ _ _ v1 oA v3 v4,qB,bf,
  zk8 _ _]
 rfl
def q09(fu:Nat)(hf:20<=fu)(d:cf):yf fu d=some (if ew d then(cq d,⟨0,0⟩) else(0,⟨3,-3⟩)):=by
 unfold yf;rw[q0p,qB,zfailed_eq,qB];by_cases h:ew d
 ·have hb:=q0h h;have hd:=tk d.1 d.2.1;obtain⟨⟨v1,v2,v3,v4,v5,v6⟩,v7,v8,v9,v10,v11,v12,v13,v14⟩:=id h;rw[qX h,qX h,ax,qck fu hf _ _ _ v1 oA v3 v4,qB,none_eq,qB]
  simp (discharger:=omega) only [bf ?_ ?_];rfl
 ·rw[qW h,qW h];rfl
def ki(u:ux):Prop:=TOk u.1 u.2.1 u.2.2.1 u.2.2.2
instance(u:ux):Decidable (ki u):=by unfold ki;infer_instance
def qc7(u:ux)(y ah:Int):Int:=qiq y u.1 u.2.1 u.2.2.1 u.2.2.2 ah
def qni{y m d:Int}(h:gg y m d):ew ⟨y,m,d,0,0,0,0⟩:=by refine⟨h,?_,?_,?_,?_,?_,?_,?_,?_⟩<;>simp
def zur{y m d:Int}:ew ⟨y,m,d,0,0,0,0⟩↔gg y m d:=⟨fun h=>h.1,qni⟩
def zv9(y m d:Int):cq ⟨y,m,d,0,0,0,0⟩=bg y m d*86400:=by simp[cq]
def q08(fu:Nat)(hf:20<=fu){y m d:Int}(h:gg y m d)(mi ah:Int)(h1 : -10000<=mi)(h2:mi<=10000)(h3 : -10000<=ah)(h4:ah<=10000) :
  ((yf fu ⟨y,m,d,0,0,0,0⟩).bind fun x=>some (ae (x.1+(ae (60*(ae (mi-ah)))))))=some (bg y m d*86400+60*(mi-ah)):=by
 have hb:=q3u _ _ _ h;rw[q09 fu hf,qX (qni h),qB,zv9];simp (discharger:=omega) only [bf ?_ ?_]
def zpy(fu:Nat)(hf:20<=fu)(u:ux)(hu:ki u)(y ah:Int)(hy1:1<=y)(hy2:y<=4000)(h3 : -10000<=ah:=by omega)(h4:ah<=10000:=by omega) :
  qgg fu u y ah=some (qc7 u y ah):=by
 obtain⟨u1,u2,u3,u4,u5,u6,u7,u8⟩:=hu;have hd:=tk y u.1;have htd:=qab y u.1 u.2.1 u.2.2.1 u3 u4;have hx:=qpg y u.1 u.2.2.1;unfold qgg;have h1:gg y u.1 1:=⟨hy1,hy2,u1,u2,oA,oA⟩
 rw[q30 fu hf _ (qni h1),qB];have hw:=zl9 (bg y u.1 1);have e:(ae ((ae (1+(Int.tmod (ae ((ae (u.2.2.1-ni (bg y u.1 1)))+7)) (7:Int))))+(ae (7*(ae (u.2.1-1))))))=1+vhg y u.1 u.2.2.1+7*(u.2.1-1):=by
  unfold vhg;generalize ni (bg y u.1 1)=w at *;rw[bf (x:=u.2.2.1-w) oA oA,bf (x:=u.2.2.1-w+7) oA oA,zls]
  simp (discharger:=omega) only [bf ?_ ?_]
 simp only[e];unfold qly;unfold qc7 qiq;by_cases c:u.2.1=5
 ·rw[a8 (by simp[c]),q0p,qB,zfailed_eq,qB]
  by_cases c2:fe y u.1<29+vhg y u.1 u.2.2.1
  ·have et:fa y u.1 u.2.1 u.2.2.1=22+vhg y u.1 u.2.2.1:=by unfold fa;rw[qX ⟨c,c2⟩]
   rw[qW (by rw[zur];intro hv;have:=hv.2.2.2.2.2;omega),a8]
   unfold qlz;rw[bf (x:=1+vhg y u.1 u.2.2.1+7*(u.2.1-1)-7) oA oA,
    show 1+vhg y u.1 u.2.2.1+7*(u.2.1-1)-7=22+vhg y u.1 u.2.2.1 by omega,← et]
   exact q08 fu hf ⟨hy1,hy2,u1,u2,htd.1,htd.2⟩ _ _ oA oA h3 h4
  ·have et:fa y u.1 u.2.1 u.2.2.1=1+vhg y u.1 u.2.2.1+7*(u.2.1-1):=by unfold fa;rw[qW (fun h=>c2 h.2)]
   rw[← et];rw[qX (qni ⟨hy1,hy2,u1,u2,htd.1,htd.2⟩),ax]
   exact q08 fu hf ⟨hy1,hy2,u1,u2,htd.1,htd.2⟩ _ _ oA oA h3 h4
 ·have et:fa y u.1 u.2.1 u.2.2.1=1+vhg y u.1 u.2.2.1+7*(u.2.1-1):=by unfold fa;rw[qW (fun h=>c h.1)]
  rw[ax (by simp[c]),← et]
  exact q08 fu hf ⟨hy1,hy2,u1,u2,htd.1,htd.2⟩ _ _ oA oA h3 h4
def gp(z:bt):Prop:=z.2.2.2.1.1=0/\z.2.2.2.1.2.1=0/\z.2.2.2.1.2.2.1=0/\z.2.2.2.1.2.2.2=0
instance(z:bt):Decidable (gp z):=by unfold gp;infer_instance
@[simp] def fixed_eq(z:bt):qbw z=some (decide (gp z)):=by
 unfold qbw;congr 1;rw[Bool.eq_iff_iff,decide_eq_true_iff];simp[gp]
structure ZT(z:bt):Prop where
 s1 : -900<=z.2.1
 s2:z.2.1<=900
 m1 : -900<=z.2.2.1
 m2:z.2.2.1<=900
 d1:z.2.1+1<=z.2.2.1
 d2:z.2.2.1<=z.2.1+180
 b:ki z.2.2.2.1
 e:ki z.2.2.2.2
 ne:z.2.2.2.1.1≠z.2.2.2.2.1
def Bz(z:bt)(y:Int):Int:=qc7 z.2.2.2.1 y z.2.1
def Ez(z:bt)(y:Int):Int:=qc7 z.2.2.2.2 y z.2.2.1
def ZT.turns{z:bt}(h:ZT z):qma (Bz z) (Ez z) z.2.1 z.2.2.1:=z1l h.d1 h.d2 h.b h.e h.ne
def sel(z:bt)(o:Bool):Int:=bif o then z.2.2.1 else z.2.1
def q19(r0:Int->Int->Int->Int->Bool->Int->bt->Option Int)(fu:Nat)(hf:20<=fu)(z:bt)(h:ZT z)(t Y best k:Int)(o has:Bool)(S S':Int->Prop)
  (hk1:1<=k) (hk2:k<=4000) (hY:k<=Y+1) (hY2:Y<=4000) (hI:Zn.Inv (Bz z) (Ez z) t S best o has) (hS:∀y,S' y↔S y\/y=k) :
  ∃best' o' has',Zn.Inv (Bz z) (Ez z) t S' best' o' has'/\qgh fu r0 t Y best (sel z o) has k z=r0 t Y best' (sel z o') has' (k+1) z:=by
 have s1:=h.s1;have s2:=h.s2;have m1:=h.m1;have m2:=h.m2;unfold qgh;rw[bf (x:=Y+1) oA oA,a8 (by simp;exact hY)]
 rw[zpy fu hf _ h.b k _ hk1 hk2,qB]
 unfold qgi ql0;rw[zpy fu hf _ h.e k _ hk1 hk2]
 simp only[qB];rw[bf (x:=k+1) oA oA]
 have nx:=fun b1 b2 o1 h1 o2 h2=>Zn.Inv.next (best1:=b1) (best2:=b2) (out1:=o1) (has1:=h1) (out2:=o2) (has2:=h2) hI hS
 have eB:qc7 z.2.2.2.1 k z.2.1=Bz z k:=rfl;have eE:qc7 z.2.2.2.2 k z.2.2.1=Ez z k:=rfl;rw[eB,eE];generalize Bz z k=B at *;generalize Ez z k=E at *;have sT:z.2.2.1=sel z true:=rfl;have sF:z.2.1=sel z false:=rfl;have fin:∀b1 o1 h1,((B<=t/\(has=false\/best<B)/\b1=B/\o1=true/\h1=true)\/(¬(B<=t/\(has=false\/best<B))/\b1=best/\o1=o/\h1=has)) ->
   ∃best' o' has',Zn.Inv (Bz z) (Ez z) t S' best' o' has' /\
    (bif decide (E<=t) then bif !h1 then r0 t Y E z.2.1 true (k+1) z else bif decide (b1<=E) then r0 t Y E z.2.1 true (k+1) z else r0 t Y b1 (sel z o1) h1 (k+1) z else r0 t Y b1 (sel z o1) h1 (k+1) z)=r0 t Y best' (sel z o') has' (k+1) z:=by
  intro b1 o1 h1 hh;by_cases c:E<=t/\(h1=false\/b1<=E)
  ·refine⟨E,false,true,nx b1 E o1 h1 false true hh (.inl ⟨c.1,c.2,rfl,rfl,rfl⟩),?_⟩;rw[a8 (by simp;exact c.1)]
   cases h1 with|false=>rw[a8];rfl|true=>rw[ax,a8 (by simp;exact c.2.resolve_left oC)];rfl
  ·refine⟨b1,o1,h1,nx b1 b1 o1 h1 o1 h1 hh (.inr ⟨c,rfl,rfl,rfl⟩),?_⟩;by_cases c1:E<=t
   ·rw[a8 (by simp;exact c1)]
    cases h1 with|false=>exact absurd ⟨c1,.inl rfl⟩ c|true=>rw[ax,ax (by simp;have:¬b1<=E:=fun q=>c ⟨c1,.inr q⟩;omega)]
   ·rw[ax oD]
 clear nx;by_cases c1:B<=t
 ·by_cases c2:has=false\/best<B
  ·obtain⟨b',o',h',hi,he⟩:=fin B true true (.inl ⟨c1,c2,rfl,rfl,rfl⟩);refine⟨b',o',h',hi,?_⟩;rw[← he,a8 (by simp;exact c1)]
   cases has with
   |false=>rfl|true=>
    simp at c2;rw[ax,a8 (by simp;exact c2)];rfl
  ·obtain⟨b',o',h',hi,he⟩:=fin best o has (.inr ⟨fun q=>c2 q.2,rfl,rfl,rfl⟩)
   refine⟨b',o',h',hi,?_⟩;rw[← he,a8 (by simp;exact c1)]
   cases has with
   |false=>simp at c2|true=>
    simp at c2;rw[ax,ax (by simp;exact c2)]
 ·obtain⟨b',o',h',hi,he⟩:=fin best o has (.inr ⟨fun q=>c1 q.1,rfl,rfl,rfl⟩)
  refine⟨b',o',h',hi,?_⟩;rw[← he,ax oD];rfl
open Classical in
noncomputable def wt(z:bt)(lo hi t:Int):Int:=if yw (Bz z) (Ez z) lo hi t then z.2.2.1 else z.2.1
def zz9{z:bt}{lo hi t best:Int}{o has:Bool}(h:Zn.Inv (Bz z) (Ez z) t (fun y=>lo<=y/\y<=hi) best o has):sel z o=wt z lo hi t:=by
 have:=h.fin;unfold sel wt
 cases o with|true=>rw[qX (this.1 rfl)];rfl|false=>rw[qW (fun q=>by have:=this.2 q;cases this)];rfl
def vg6(fu:Nat)(hf:20<=fu)(z:bt)(h:ZT z)(t Y:Int)(h1:2<=Y)(h2:Y<=3999):qbx fu z t Y=some (wt z (Y-1) (Y+1) t):=by
 unfold qbx;have hnf:¬gp z:=fun q=>by have:=h.b.1;have:=q.1;omega
 rw[fixed_eq,qB,ax (by simp[hnf]),bf]
 obtain⟨n,rfl⟩:∃n,fu=n+1+1+1+1:=⟨fu-4,oA⟩
 generalize hfu:n+1+1+1+1=fu at hf;have q:ou fu (n+1+1+1+1) t Y 0 z.2.1 false (Y-1) z=some (wt z (Y-1) (Y+1) t):=by
  obtain⟨b1,o1,a1,i1,e1⟩:=q19 (ou fu (n+1+1+1)) fu hf z h t Y 0 (Y-1) false false _ (fun y=>y=Y-1) oA oA oA oA (Zn.Inv.start t 0) (fun y=>oC)
  rw[ou];refine Eq.trans e1 ?_;obtain⟨b2,o2,a2,i2,e2⟩:=q19 (ou fu (n+1+1)) fu hf z h t Y b1 (Y-1+1) o1 a1 _ (fun y=>Y-1<=y/\y<=Y) oA oA oA oA i1 (fun y=>oA)
  rw[ou];refine Eq.trans e2 ?_;obtain⟨b3,o3,a3,i3,e3⟩:=q19 (ou fu (n+1)) fu hf z h t Y b2 (Y-1+1+1) o2 a2 _ (fun y=>Y-1<=y/\y<=Y+1) oA oA oA oA i2 (fun y=>oA)
  rw[ou];refine Eq.trans e3 ?_;rw[ou,qgh,bf (x:=Y+1) oA oA,ax oD,zz9 i3]
 rw[hfu]at q;exact q
def chB(c:UInt8):Bool:=(decide (97<=c.toNat)&&decide (c.toNat<=122))||(decide (65<=c.toNat)&&decide (c.toNat<=90))||(decide (48<=c.toNat)&&decide (c.toNat<=57))||c.toNat==45||c.toNat==95||c.toNat==46
def z1n{p:UInt8->Prop}(h:∀n:_root_.Fin 256,p (UInt8.ofFin n))(c:UInt8):p c:=by
 have:=h c.toFin
 rwa [UInt8.ofFin_toFin]at this
def vg4(c:UInt8):qrx c=some (chB c):=by
 revert c;exact z1n (by decide +kernel)
def qc1(s:List UInt8):Bool:=decide (1<=s.length)&&decide (s.length<=60)&&s.all chB
def zrz(fu:Nat)(s:List UInt8)(hs:(s.length:Int)<9223372036854775808):∀(n:Nat)(k:Nat),k<=s.length->s.length-k<n ->
  qe3 fu n s s.length k=some ((s.drop k).all chB):=by
 intro n
 induction n with
 |zero=>intro k h1 h2;omega|succ n ih=>
  intro k h1 h2;rw[qe3,qrs];by_cases c:k<s.length
  ·have hi:am s (k:Int)=some s[k]:=by unfold am;rw[qX];simp[c]
   rw[a8 (by simp;exact c),hi,qB,vg4,qB,List.drop_eq_getElem_cons c,List.all_cons]
   cases hc:chB s[k]
   ·rfl
   ·rw[ax,bf]
    have:=ih (k+1) oA oA
    rw[Int.natCast_add]at this;exact this
  ·rw[ax oD,List.drop_eq_nil_of_le oA];rfl
def zxi(fu:Nat)(s:List UInt8)(hs:(s.length:Int)<9223372036854775808)(hf:s.length<fu):qj7 fu s=some (qc1 s):=by
 unfold qj7 qc1
 cases s with
 |nil=>rfl|cons a l=>
  rw[a8]
  by_cases c:((a::l).length:Int)<=60
  ·rw[a8 (by simp only[decide_eq_true_iff];exact c)]
   unfold qrr;have:=zrz fu (a::l) hs fu 0 oA oA
   rw[show((0:Nat):Int)=0 from rfl]at this
   rw[this,qB];have c':(a::l).length<=60:=oA
   simp only[List.drop_zero];rw[show decide (1<=(a::l).length)=true by simp,decide_eq_true c'];rfl
  ·rw[ax (by simp only[decide_eq_false_iff_not];exact c)]
   have c':¬(a::l).length<=60:=oA
   rw[decide_eq_false c'];simp
@[simp] def turn_eq(u:ux):qgj u=some (decide (ki u)):=by
 unfold qgj;simp only[zones_within_eq,qB,jd];have key:∀b:Bool,decide (ki u)=b->(ki u->b=true)/\(¬ki u->b=false):=fun b h=>⟨fun k=>by rw[← h,decide_eq_true k],fun k=>by rw[← h,decide_eq_false k]⟩
 generalize hb:decide (ki u)=b;obtain⟨k1,k2⟩:=key b hb;clear key hb;unfold ki TOk at k1 k2
 repeat' split
 all_goals first|(rw[k2 oA])|skip
 congr 1;rw[Bool.eq_iff_iff,decide_eq_true_iff];constructor
 ·intro q;exact k1 oA
 ·intro q;by_cases c:0<=u.2.2.2/\u.2.2.2<=1439
  ·exact c
  ·have:=k2 oA;rw[this]at q;cases q
def qhf(z:bt):Prop:=z.2.2.2.2.1=0/\z.2.2.2.2.2.1=0/\z.2.2.2.2.2.2.1=0/\z.2.2.2.2.2.2.2=0
instance(z:bt):Decidable (qhf z):=by unfold qhf;infer_instance
def vgx(u:ux):((u.1==(0:Int))&&((u.2.1==(0:Int))&&((u.2.2.1==(0:Int))&&((u.2.2.2==(0:Int))&&true))))=decide (u.1=0/\u.2.1=0/\u.2.2.1=0/\u.2.2.2=0):=by
 rw[Bool.eq_iff_iff,decide_eq_true_iff];simp
def eh(z:bt):gw:=
 if qc1 z.1=false then⟨10,-3⟩ else if ¬(-900<=z.2.1/\z.2.1<=900) then⟨3,-4⟩ else
 if gp z then(if z.2.2.1≠0 then⟨5,-5⟩ else if ¬qhf z then⟨5,-5⟩ else⟨0,0⟩) else
 if ¬(-900<=z.2.2.1/\z.2.2.1<=900) then⟨3,-5⟩ else if ¬(z.2.1+1<=z.2.2.1/\z.2.2.1<=z.2.1+180) then⟨3,-5⟩ else
 if ¬ki z.2.2.2.1 then⟨3,-6⟩ else if ¬ki z.2.2.2.2 then⟨3,-7⟩ else if z.2.2.2.1.1=z.2.2.2.2.1 then⟨5,-7⟩ else⟨0,0⟩
def qqo(fu:Nat)(z:bt)(hs:(z.1.length:Int)<9223372036854775808)(hf:z.1.length<fu):ym fu z=some (eh z):=by
 unfold ym eh;rw[zxi fu _ hs hf];by_cases hn:qc1 z.1=false
 ·rw[qX hn,qB,a8 (by rw[hn];rfl)];rfl
 ·rw[qW hn,qB,ax (by simp at hn;rw[hn];rfl),zones_within_eq,qB]
  by_cases c1 : -900<=z.2.1/\z.2.1<=900
  ·rw[ax oN,qW oN]
   rw[bf (x:=z.2.1+1) oA oA,bf (x:=z.2.1+180) oA oA,vgx]
   rw[show decide (z.2.2.2.2.1=0/\z.2.2.2.2.2.1=0/\z.2.2.2.2.2.2.1=0/\z.2.2.2.2.2.2.2=0)=decide (qhf z) from rfl]
   simp only[qlw,qlx,qx7,qT,fixed_eq,qB,fault_eq,none_eq,zones_within_eq,turn_eq,qb9,jd,nu,td]
   repeat' split
   all_goals first|rfl|contradiction|simp_all
  ·rw[a8 oD,qX c1];rfl
def zok(z:bt)(h:(eh z).1=0):eh z=⟨0,0⟩ /\ -900<=z.2.1/\z.2.1<=900/\(gp z\/ZT z):=by
 unfold eh at h ⊢;by_cases hn:qc1 z.1=false
 ·rw[qX hn]at h;simp at h
 rw[qW hn]at h ⊢;by_cases c1:¬(-900<=z.2.1/\z.2.1<=900)
 ·rw[qX c1]at h;simp at h
 rw[qW c1]at h ⊢;have c1' : -900<=z.2.1/\z.2.1<=900:=oA
 by_cases c2:gp z
 ·rw[qX c2]at h ⊢;by_cases c3:z.2.2.1≠0
  ·rw[qX c3]at h;simp at h
  rw[qW c3]at h ⊢;by_cases c4:¬qhf z
  ·rw[qX c4]at h;simp at h
  rw[qW c4];exact⟨rfl,c1'.1,c1'.2,.inl c2⟩
 rw[qW c2]at h ⊢;by_cases c3:¬(-900<=z.2.2.1/\z.2.2.1<=900)
 ·rw[qX c3]at h;simp at h
 rw[qW c3]at h ⊢;by_cases c4:¬(z.2.1+1<=z.2.2.1/\z.2.2.1<=z.2.1+180)
 ·rw[qX c4]at h;simp at h
 rw[qW c4]at h ⊢;by_cases c5:¬ki z.2.2.2.1
 ·rw[qX c5]at h;simp at h
 rw[qW c5]at h ⊢;by_cases c6:¬ki z.2.2.2.2
 ·rw[qX c6]at h;simp at h
 rw[qW c6]at h ⊢;by_cases c7:z.2.2.2.1.1=z.2.2.2.2.1
 ·rw[qX c7]at h;simp at h
 rw[qW c7];exact⟨rfl,c1'.1,c1'.2,.inr ⟨c1'.1,c1'.2,oA,oA,oA,oA,Classical.not_not.1 c5,Classical.not_not.1 c6,c7⟩⟩
noncomputable def ua(z:bt)(Y t:Int):Int:=if gp z then z.2.1 else wt z (Y-1) (Y+1) t
noncomputable def lu(z:bt)(t:Int):Int:=(ic ((t+60*z.2.1)/86400)).1
def tu(z:bt)(t:Int):Prop := -719162<=(t+60*z.2.1)/86400/\(t+60*z.2.1)/86400<=741807
instance(z:bt)(t:Int):Decidable (tu z t):=by unfold tu;infer_instance
noncomputable def qyc(z:bt)(t:Int):Int×gw:=
 if ¬(-68719476736<=t/\t<=68719476736) then(0,⟨3,-2⟩) else
 if ¬tu z t then(0,⟨3,-8⟩) else if ¬(2<=lu z t/\lu z t<=3999) then(0,⟨3,-8⟩) else(ua z (lu z t) t,⟨0,0⟩)
noncomputable def qp(z:bt)(t:Int):Int×gw:=if(eh z).1≠0 then(0,eh z) else qyc z t
def vg5(fu:Nat)(hf:20<=fu)(z:bt)(h:gp z\/ZT z)(t Y:Int)(h1:2<=Y)(h2:Y<=3999):qbx fu z t Y=some (ua z Y t):=by
 unfold ua;by_cases c:gp z
 ·rw[qX c];unfold qbx;rw[fixed_eq,qB,a8 (by simp[c])]
 ·rw[qW c];exact vg6 fu hf z (h.resolve_left c) t Y h1 h2
def vgv(fu:Nat)(hf:20<=fu)(z:bt)(hs:(z.1.length:Int)<9223372036854775808)(hf2:z.1.length<fu)(t:Int):qlv fu z t=some (qp z t):=by
 unfold qlv qp;rw[qqo fu z hs hf2,qB,zfailed_eq,qB,nu];by_cases c:(eh z).1≠0
 ·rw[qX c,qX c]
 ·rw[qW c,qW c];obtain⟨e,s1,s2,hz⟩:=zok z (Classical.not_not.1 c);unfold qyc;rw[time_eq,qB];by_cases c1 : -68719476736<=t/\t<=68719476736
  ·rw[ax oN,qW (fun q=>q c1),zfv fu hf,qB]
   unfold xu;rw[qW (fun q=>q c1),qW (fun q=>q ⟨s1,s2⟩)]
   by_cases c2:tu z t
   ·rw[qW (by unfold tu at c2;omega),qW (fun q=>q c2),zfailed_eq,qB,ax,zones_within_eq,qB]
    have ey:(vi ((t+60*z.2.1)/86400) ((t+60*z.2.1)%86400) z.2.1).1=lu z t:=rfl;simp only[ey];by_cases c3:2<=lu z t/\lu z t<=3999
    ·rw[ax (by simp[c3]),qW (fun q=>q c3),vg5 fu hf z hz _ _ c3.1 c3.2];rfl
    ·rw[a8 oD,qX c3];rfl
   ·rw[qX (by unfold tu at c2;omega),qX c2];rfl
  ·rw[a8 oD,qX c1];rfl
open Classical in
noncomputable def pick(z:bt)(L o:Int):List Int:=if(qp z (L-60*o)).2.1=0/\(qp z (L-60*o)).1=o then[L-60*o] else[]
def zjf(z:bt)(L o:Int):(pick z L o).length<=1:=by unfold pick;split<;>simp
def q07(r1:Int->Int->Int->bt->gw->List Int->List Int->Option (gw×List Int))(fu:Nat)(hf:20<=fu)(z:bt)(hs:(z.1.length:Int)<9223372036854775808)(hf2:z.1.length<fu)
  (L len i o:Int) (f:gw) (acc offs:List Int) (hi:i<len) (hx:am offs i=some o) (hi0 : -10<=i) (hi1:i<=10) (hL1 : -1000000000000<=L) (hL2:L<=1000000000000) (ho1 : -10000<=o) (ho2:o<=10000) (hl:acc.length<=10) :
  qbv fu r1 L len i z f offs acc=r1 L len (i+1) z f offs (acc++pick z L o):=by
 rw[qbv,a8 (by simp;exact hi),zz,hx,qB,bf (x:=60*o) oA oA,bf (x:=L-60*o) oA oA,bf (x:=i+1) oA oA,vgv fu hf z hs hf2,qB,zfailed_eq,qB]
 unfold pick;by_cases c1:(qp z (L-60*o)).2.1=0
 ·rw[a8 oN]
  by_cases c2:(qp z (L-60*o)).1=o
  ·rw[a8 (by simp[c2]),a8 (by simp[ao];omega),qX ⟨c1,c2⟩]
  ·rw[ax (by simp[c2]),qW (fun q=>c2 q.2),List.append_nil]
 ·rw[ax oN,qW (fun q=>c1 q.1),List.append_nil]
noncomputable def zu(z:bt)(L:Int):List Int:=pick z L z.2.1++(if gp z then[] else pick z L z.2.2.1)
noncomputable def mg(z:bt)(d:cf):gw×List Int:=
 if(eh z).1≠0 then(eh z,[]) else if ¬ew d then((3,-3),[]) else if d.2.2.2.2.2.2≠0 then((5,-9),[]) else if ¬(3<=d.1/\d.1<=3998) then((3,-9),[]) else((0,0),d9 (zu z (cq d)))
def zv8{d:cf}(h:ew d) : -100000000000<=cq d/\cq d<=100000000000:=by
 have:=q0h h;obtain⟨_,_,_,_,_,_,_,_,_⟩:=h;unfold cq;omega
def q62(fu:Nat)(hf:20<=fu)(z:bt)(hs:(z.1.length:Int)<9223372036854775808)(hf2:z.1.length<fu)(d:cf):qbu fu z d=some (mg z d):=by
 unfold qbu mg;rw[qqo fu z hs hf2,qB,zfailed_eq,qB,nu];by_cases c:(eh z).1≠0
 ·rw[qX c,qX c]
 rw[qW c,qW c,q09 fu hf,qB];obtain⟨e,s1,s2,hz⟩:=zok z (Classical.not_not.1 c);by_cases c1:¬ew d
 ·rw[qW c1,qX c1,zfailed_eq,qB,a8]
 replace c1:=Classical.not_not.1 c1;rw[qX c1,qW (c:=¬ew d) (fun q=>q c1),zfailed_eq,qB,ax,nu]
 have hb:=zv8 c1;by_cases c2:d.2.2.2.2.2.2≠0
 ·rw[qX c2,qX c2];rfl
 rw[qW c2,qW c2,zones_within_eq,qB,qb9];by_cases c3:¬(3<=d.1/\d.1<=3998)
 ·rw[qW c3,qX c3];rfl
 replace c3:=Classical.not_not.1 c3;rw[qX c3,qW (c:=¬(3<=d.1/\d.1<=3998)) (fun q=>q c3),fixed_eq,qB,qb9]
 obtain⟨n,hn⟩:∃n,fu=n+1+1+1:=⟨fu-3,oA⟩
 have l1:=zjf z (cq d) z.2.1;have l2:=zjf z (cq d) z.2.2.1;have sortp:∀l:List Int,l.length<=10->sj l=some (d9 l):=by
  intro l hl;unfold sj;rw[a8 (decide_eq_true (by unfold ao;omega))]
 unfold qlu;by_cases c4:gp z
 ·rw[qX c4];have q:qo fu (n+1+1+1) (cq d) (List.length ([z.2.1]:List Int):Int) 0 z (0,0) [z.2.1] []=some ((0,0),d9 (zu z (cq d))):=by
   rw[qo,q07 _ fu hf z hs hf2 _ _ _ z.2.1 _ _ _ oC rfl oA oA oA oA oA oA oC]
   rw[qo,qbv,ax,sortp _ oD,none_eq]
   simp[zu,c4]
  rw[← hn]at q;exact q
 ·rw[qW c4];have hz':=hz.resolve_left c4;have m1:=hz'.m1;have m2:=hz'.m2;rw[a8 (by simp[ao])]
  have q:qo fu (n+1+1+1) (cq d) (List.length (([z.2.1]:List Int)++[z.2.2.1]):Int) 0 z (0,0) ([z.2.1]++[z.2.2.1]) []=some ((0,0),d9 (zu z (cq d))):=by
   rw[qo,q07 _ fu hf z hs hf2 _ _ _ z.2.1 _ _ _ oC rfl oA oA oA oA oA oA oC]
   rw[qo,q07 _ fu hf z hs hf2 _ _ _ z.2.2.1 _ _ _ oC rfl oA oA oA oA oA oA oD]
   rw[qo,qbv,ax,sortp _ oD,none_eq]
   simp[zu,c4]
  rw[← hn]at q;exact q
def zk4:d9 []=[]:=by simp[d9]
def q3b(x:Int):d9 [x]=[x]:=by simp[d9]
def z0m(x y:Int)(h:y<x:=by omega):d9 [x,y]=[y,x]:=by
 simp[d9,List.mergeSort,List.MergeSort.Internal.splitInTwo,List.merge];omega
def zub{z:bt}{t:Int}(h:tu z t):qmb z.2.1 t (lu z t)/\1<=lu z t/\lu z t<=4000:=by
 obtain⟨hv,he⟩:=qcf _ h.1 h.2;have a:=ti _ _ _ hv;rw[he]at a;unfold lu qmb d5;refine⟨⟨oA,oA⟩,hv.1,hv.2.1⟩
def zhh{d:cf}(h:ew d)(hz:d.2.2.2.2.2.2=0):d5 d.1<=cq d/\cq d<d5 (d.1+1):=by
 have a:=ti _ _ _ h.1;obtain⟨_,_,_,_,_,_,_,_,_⟩:=h;unfold cq d5;rw[hz];omega
def zhv:d5 3 = -62072524800/\d5 2 = -62104060800/\d5 3999=64029052800/\d5 4000=64060588800:=by
 refine⟨?_,?_,?_,?_⟩<;>decide
def zxw{z:bt}{a b c d t:Int}(h:yw (Bz z) (Ez z) a b t↔yw (Bz z) (Ez z) c d t):wt z a b t=wt z c d t:=by
 unfold wt;by_cases q:yw (Bz z) (Ez z) a b t
 ·rw[qX q,qX (h.1 q)]
 ·rw[qW q,qW (fun k=>q (h.2 k))]
def zi4{z:bt}(hz0:(eh z).1=0){d:cf}(h:ew d)(hzn:d.2.2.2.2.2.2=0)(hy1:3<=d.1)(hy2:d.1<=3998)(o:Int)
  (ho:o=z.2.1\/(¬gp z/\o=z.2.2.1)):qp z (cq d-60*o)=(ua z d.1 (cq d-60*o),⟨0,0⟩):=by
 obtain⟨_,s1,s2,hz⟩:=zok z hz0;obtain⟨L1,L2⟩:=zhh h hzn;obtain⟨v3,v2,v9,v0⟩:=zhv;have j1:=q9 3 d.1 hy1;have j2:=q9 (d.1+1) 3999
 have ho':z.2.1<=o/\o<=z.2.1+180:=by
  rcases ho with rfl|⟨q,rfl⟩
  ·omega
  ·have:=(hz.resolve_left q).d1;have:=(hz.resolve_left q).d2;omega
 have hin:tu z (cq d-60*o):=by unfold tu;omega
 obtain⟨hY,c1,c2⟩:=zub hin;have hcy:lu z (cq d-60*o)=d.1\/lu z (cq d-60*o)+1=d.1:=by
  obtain⟨y1,y2⟩:=hY;generalize lu z (cq d-60*o)=c at *;rcases Int.lt_trichotomy (c+1) d.1 with q|q|q
  ·have:=q9 (c+2) d.1
   have:=ze (c+1);rw[show c+1+1=c+2 by omega]at this
   omega
  ·exact .inr q
  ·by_cases q2:c=d.1
   ·exact .inl q2
   ·have:=q9 (d.1+1) c;omega
 unfold qp qyc;rw[qW (by simp[hz0]),qW,qW (fun q=>q hin),qW]
 congr 1;unfold ua;by_cases hfx:gp z
 ·rw[qX hfx,qX hfx]
 ·rw[qW hfx,qW hfx];rcases hcy with e|e
  ·rw[e]
  ·have hT:=(hz.resolve_left hfx).turns;have hl:d5 (lu z (cq d-60*o)+1)<=cq d-60*o+60*z.2.2.1:=by
    rw[e];rcases ho with rfl|⟨_,rfl⟩
    ·have:=(hz.resolve_left hfx).d1;omega
    ·omega
   have w1:=z06 hT hY;have w2:=z05 hT hY hl;have:=zxw (w1.trans w2.symm);rw[this,← e];congr 1<;>omega
open Classical in
noncomputable def nd(z:bt)(Y L o:Int):List Int:=if ua z Y (L-60*o)=o then[L-60*o] else[]
def zjg{z:bt}(hz0:(eh z).1=0){d:cf}(h:ew d)(hzn:d.2.2.2.2.2.2=0)(hy1:3<=d.1)(hy2:d.1<=3998)(o:Int)
  (ho:o=z.2.1\/(¬gp z/\o=z.2.2.1)):pick z (cq d) o=nd z d.1 (cq d) o:=by
 unfold pick nd;rw[zi4 hz0 h hzn hy1 hy2 o ho];simp
def zjh{z:bt}(hz0:(eh z).1=0){d:cf}(h:ew d)(hzn:d.2.2.2.2.2.2=0)(hy1:3<=d.1)(hy2:d.1<=3998) :
  d9 (zu z (cq d))=(if gp z then[] else nd z d.1 (cq d) z.2.2.1)++nd z d.1 (cq d) z.2.1:=by
 obtain⟨_,s1,s2,hz⟩:=zok z hz0;unfold zu;rw[zjg hz0 h hzn hy1 hy2 _ (.inl rfl)];by_cases hfx:gp z
 ·rw[qX hfx,qX hfx,List.append_nil,List.nil_append];unfold nd;split
  ·exact q3b _
  ·exact zk4
 ·rw[qW hfx,qW hfx,zjg hz0 h hzn hy1 hy2 _ (.inr ⟨hfx,rfl⟩)];have d1:=(hz.resolve_left hfx).d1;unfold nd;split<;>split
  ·exact z0m _ _
  ·exact q3b _
  ·exact q3b _
  ·exact zk4
def zwa(z:bt)(d:cf):((mg z d).1.1≠0/\(mg z d).2=[]) \/
  ((mg z d).1=⟨0,0⟩/\(eh z).1=0/\ew d/\d.2.2.2.2.2.2=0/\3<=d.1/\d.1<=3998/\(mg z d).2=(if gp z then[] else nd z d.1 (cq d) z.2.2.1)++nd z d.1 (cq d) z.2.1):=by
 unfold mg;by_cases c:(eh z).1≠0
 ·rw[qX c];exact .inl ⟨c,rfl⟩
 rw[qW c];by_cases c1:¬ew d
 ·rw[qX c1];exact .inl ⟨oE,rfl⟩
 rw[qW c1];by_cases c2:d.2.2.2.2.2.2≠0
 ·rw[qX c2];exact .inl ⟨oE,rfl⟩
 rw[qW c2];by_cases c3:¬(3<=d.1/\d.1<=3998)
 ·rw[qX c3];exact .inl ⟨oE,rfl⟩
 rw[qW c3];exact .inr ⟨rfl,Classical.not_not.1 c,Classical.not_not.1 c1,Classical.not_not.1 c2,oA,oA,zjh (Classical.not_not.1 c) (Classical.not_not.1 c1) (Classical.not_not.1 c2) oA oA⟩
def ztr{n s:Int}(h1 : -719162<=n)(h2:n<=741807)(hs:0<=s)(hs2:s<86400)(z:Int)(hz1 : -900<=z)(hz2:z<=900):ew (vi n s z)/\cq (vi n s z)=n*86400+s-60*z:=by
 obtain⟨hv,he⟩:=qcf n h1 h2;refine⟨⟨hv,?_,?_,?_,?_,?_,?_,hz1,hz2⟩,?_⟩<;>simp only[vi,cq]<;>(try rw[he])<;>omega
abbrev kh(l:List Int):Prop:=l.Pairwise (·<·)
def zlc:∀(a b:List Int),kh a->kh b->(∀x,x∈a↔x∈b)->a=b
 |[],[],_,_,_=>rfl|[],y::b,_,_,h=>by have:=(h y).2 qH;cases this
 |x::a,[],_,_,h=>by have:=(h x).1 qH;cases this
 |x::a,y::b,ha,hb,h=>by
  have ha':=List.pairwise_cons.1 ha;have hb':=List.pairwise_cons.1 hb;have e:x=y:=by
   rcases List.mem_cons.1 ((h x).1 qH) with q|q
   ·exact q
   ·rcases List.mem_cons.1 ((h y).2 qH) with q2|q2
    ·exact q2.symm
    ·have:=hb'.1 x q;have:=ha'.1 y q2;omega
  subst e;rw[zlc a b ha'.2 hb'.2 (fun t => ?_)]
  constructor
  ·intro ht;rcases List.mem_cons.1 ((h t).1 (qE _ ht)) with q|q
   ·have:=ha'.1 t ht;omega
   ·exact q
  ·intro ht;rcases List.mem_cons.1 ((h t).2 (qE _ ht)) with q|q
   ·have:=hb'.1 t ht;omega
   ·exact q
def zt7(d:Array Int)(hs:∀i j:Nat,i<=j->j<d.size->d[i]! <= d[j]!):∀m:Nat,m<=d.size->kh (Lib.compactUpTo d m)/\∀x,x∈Lib.compactUpTo d m↔∃j:Nat,j<m/\d[j]! = x:=by
 intro m
 induction m with
 |zero=>intro _;exact⟨List.Pairwise.nil,fun x=>⟨fun h=>(by cases h),fun⟨j,hj,_⟩=>oA⟩⟩
 |succ m ih=>
  intro hm;obtain⟨h1,h2⟩:=ih oA
  rw[Lib.compactUpTo_succ];by_cases k:Lib.keeps d m=true
  ·rw[qX k];refine⟨?_,fun x => ?_⟩
   ·refine List.pairwise_append.2 ⟨h1,List.pairwise_singleton _ _,fun a ha b hb => ?_⟩
    rw[List.mem_singleton]at hb;subst hb;obtain⟨j,hj,rfl⟩:=(h2 a).1 ha;have k':m=0\/d[m]! ≠ d[m-1]! := by simpa [Lib.keeps] using k
    rcases k' with q|q
    ·omega
    ·have a1:=hs j (m-1) oA oA
     have a2:=hs (m-1) m oA oA
     omega
   ·rw[wA,List.mem_singleton,h2];constructor
    ·rintro (⟨j,hj,e⟩|e)
     ·exact⟨j,oA,e⟩
     ·exact⟨m,oA,e.symm⟩
    ·rintro⟨j,hj,e⟩
     by_cases c:j=m
     ·subst c;exact .inr e.symm
     ·exact .inl ⟨j,oA,e⟩
  ·rw[qW k,List.append_nil];refine⟨h1,fun x => ?_⟩
   rw[h2];have k':¬(m=0\/d[m]! ≠ d[m-1]!):=by simpa [Lib.keeps] using k
   have k1:m≠0:=fun q=>k' (.inl q)
   have k2:d[m]! = d[m-1]! := Classical.not_not.1 (fun q=>k' (.inr q))
   constructor
   ·rintro⟨j,hj,e⟩;exact⟨j,oA,e⟩
   ·rintro⟨j,hj,e⟩
    by_cases c:j=m
    ·subst c;exact⟨j-1,oA,by rw[← k2,e]⟩
    ·exact⟨j,oA,e⟩
def qn0(l:List Int)(i:Nat)(h:i<l.length:=by omega):l.toArray[i]! = l[i]:=by simp[h]
def z0l(l:List Int):(d9 l).Pairwise (·<=·):=by
 have:=List.pairwise_mergeSort (le:=fun x y:Int=>decide (x<=y)) (fun a b c h1 h2=>by simp at *;omega) (fun a b=>oD) l
 exact this.imp (fun h=>by simpa using h)
def z0k(l:List Int)(x:Int):x∈d9 l↔x∈l:=by unfold d9;exact List.mem_mergeSort
def qpi(l:List Int):List Int:=jf (d9 l)
def z1q(l:List Int):kh (qpi l)/\∀x,x∈qpi l↔x∈l:=by
 have hp:=z0l l;have:=zt7 (d9 l).toArray (fun i j hij hj=>by
  have hj':j<(d9 l).length:=by simpa using hj
  rw[qn0 _ i,qn0 _ j hj']
  by_cases c:i=j
  ·subst c;omega
  ·exact List.pairwise_iff_getElem.1 hp i j oA hj' oA) (d9 l).length oC
 refine⟨this.1,fun x => ?_⟩
 have h2:=this.2 x;unfold qpi jf Lib.compact;rw[h2,← z0k l x];constructor
 ·rintro⟨j,hj,rfl⟩
  rw[qn0 _ j hj];exact List.getElem_mem hj
 ·intro hx;obtain⟨j,hj,e⟩:=List.getElem_of_mem hx;exact⟨j,hj,by rw[qn0 _ j hj,e]⟩
def lw(a b t:Int):Bool:=decide (a<=t)&&decide (t<=b)
def zjb(t a b:Int):qfq t a b=some (!lw a b t,a,b):=by
 unfold qfq lw;by_cases h:t<a
 ·rw[a8 (by simp;exact h),decide_eq_false (show ¬a<=t by omega)];rfl
 ·rw[ax oD,decide_eq_true (show a<=t by omega)]
  by_cases h2:b<t
  ·rw[decide_eq_true h2,decide_eq_false (show ¬t<=b by omega)];rfl
  ·rw[decide_eq_false h2,decide_eq_true (show t<=b by omega)];rfl
def zv5(fu:Nat)(l:List Int)(a b:Int)(hs:(l.length:Int)<4611686018427387904):∀(n k:Nat),k<=l.length->l.length-k<n->(∀x∈l.take k,lw a b x=true) ->
  ∃i:Int,qf1 fu n l.length k l a b=some (i,l,a,b)/\((i = -1/\∀x∈l,lw a b x=true)\/∃j:Nat,∃h:j<l.length,i=j/\(∀x∈l.take j,lw a b x=true)/\lw a b l[j]=false):=by
 intro n
 induction n with
 |zero=>intro k h1 h2;omega|succ n ih=>
  intro k h1 h2 h3;rw[qf1,qvr];by_cases c:k<l.length
  ·rw[a8 (by simp;exact c),zz,kq l k c,qB,zjb,qB,zs2,bf]
   cases hr:lw a b l[k] with
   |false=>exact⟨k,rfl,.inr ⟨k,c,rfl,h3,hr⟩⟩|true=>
    have:=ih (k+1) oA oA (fun x hx=>by
     rw[List.take_succ_eq_append_getElem c,wA,List.mem_singleton]at hx;rcases hx with q|q
     ·exact h3 x q
     ·rw[q];exact hr)
    rw[Int.natCast_add]at this;exact this
  ·rw[ax oD]
   exact⟨-1,rfl,.inl ⟨rfl,fun x hx=>h3 x (by rw[List.take_of_length_le oA];exact hx)⟩⟩
def zup(fu:Nat)(l0:List Int)(a b:Int)(hs:(l0.length:Int)<4611686018427387904):∀(n i j:Nat)(l:List Int),i<j->j<=l0.length->l.length=l0.length->l0.length-j<n->l.take i=(l0.take j).filter (lw a b)->l.drop j=l0.drop j ->
  qfz fu n i j a b l=some (a,b,l0.filter (lw a b)):=by
 intro n
 induction n with
 |zero=>intro i j l h1 h2 h3 h4;omega|succ n ih=>
  intro i j l h1 h2 h3 h4 h5 h6;rw[qfz,qvk];by_cases c:j<l0.length
  ·have cj:j<l.length:=oA
   have ej:l[j]=l0[j]:=by
    have e1:=List.drop_eq_getElem_cons cj;have e2:=List.drop_eq_getElem_cons c;rw[e1,e2]at h6;exact(List.cons.inj h6).1
   have ed:l.drop (j+1)=l0.drop (j+1):=by
    have e1:=List.drop_eq_getElem_cons cj;have e2:=List.drop_eq_getElem_cons c;rw[e1,e2]at h6;exact(List.cons.inj h6).2
   rw[a8 (by simp;exact cj),zz,kq l j cj,qB,zjb,qB]
   simp only[Bool.not_not];have et:l0.take (j+1)=l0.take j++[l0[j]]:=List.take_succ_eq_append_getElem c
   cases hr:lw a b l[j] with
   |true=>
    rw[a8 rfl,zz,kq l i,qB,bf,bf]
    have:=ih (i+1) (j+1) (l.set i l[j]) oA oA (by rw[List.length_set];exact h3) oA (by
     rw[et,List.filter_append,← h5,List.take_succ_eq_append_getElem (by rw[List.length_set];omega),List.getElem_set_self,List.take_set_of_le (wF _)]
     rw[← ej];simp[hr]) (by
     rw[List.drop_set_of_lt oA,ed])
    rw[Int.natCast_add,Int.natCast_add]at this;exact this
   |false=>
    rw[ax rfl,bf (x:=(j:Int)+1) oA oA]
    have:=ih i (j+1) l oA oA h3 oA (by
     rw[et,List.filter_append,← h5,← ej];simp[hr]) ed
    rw[Int.natCast_add]at this;exact this
  ·rw[ax oD,a8 oD,a8 oD]
   have e:l0.take j=l0:=List.take_of_length_le oA
   rw[e]at h5;simp only[qY];rw[List.take_append_of_le_length oD,List.take_take,Nat.min_self,h5]
def zuo(fu:Nat)(l:List Int)(a b:Int)(hs:(l.length:Int)<4611686018427387904:=by omega)(hf:l.length<fu:=by omega):qle fu l a b=some (a,b,l.filter (lw a b)):=by
 unfold qle qvq;obtain⟨i,e,h⟩:=zv5 fu l a b hs fu 0 oA oA (fun x hx=>by cases hx)
 rw[show((0:Nat):Int)=0 from rfl]at e
 rw[e,qB];simp only[];rcases h with⟨rfl,h⟩|⟨j,hj,rfl,h1,h2⟩
 ·rw[a8]
  rw[List.filter_eq_self.2 h]
 ·rw[ax,bf]
  have:=zup fu l a b hs fu j (j+1) l oA oA rfl oA (by
   rw[List.take_succ_eq_append_getElem hj,List.filter_append,List.filter_eq_self.2 h1];simp[h2]) rfl
  rw[Int.natCast_add]at this;exact this
def zxa(i j:Nat)(h:(i:Int)+j<4611686018427387904:=by omega):ae (Int.fdiv (IntKind.u64.wrap (ae ((i:Int)+j))) (2 ^ min (1:Int).toNat 64))=(((i+j)/2:Nat):Int):=by
 rw[bf (x:=(i:Int)+j) oA oA]
 have e:IntKind.u64.wrap ((i:Int)+j)=(i:Int)+j:=by
  unfold IntKind.wrap;simp[IntKind.signed,IntKind.bits];omega
 rw[e,show(2:Int) ^ min (1:Int).toNat 64=2 from rfl,Int.fdiv_eq_ediv_of_nonneg _ oA,bf]
 omega
def zwz(a b:Int):qkd a b=some (decide (a<b)):=by
 unfold qkd qke;rw[qB,ax]
def zz8(fu:Nat)(l:List Int)(x:Int)(hl:kh l)(hs:(l.length:Int)<2305843009213693952):∀(n i j:Nat),i<=j->j<=l.length->j-i<n->(∀k,∀h:k<l.length,k<i->l[k]<x)->(∀k,∀h:k<l.length,j<=k->x<=l[k]) ->
  ∃p,qfy fu n l x l.length i j=some (p,decide (x∈l)):=by
 intro n
 induction n with
 |zero=>intro i j h1 h2 h3;omega|succ n ih=>
  intro i j h1 h2 h3 h4 h5;have pw:=fun(a b:Nat)(ha:a<l.length)(hb:b<l.length)(hab:a<b)=>List.pairwise_iff_getElem.1 hl a b ha hb hab
  rw[qfy,qvg];simp only[zxa i j]
  by_cases c:i<j
  ·rw[a8 (by simp;exact c),kq l ((i+j)/2),qB,zwz,qB]
   by_cases g:l[(i+j)/2]<x
   ·rw[a8 (by simp;exact g),bf]
    have:=ih ((i+j)/2+1) j oA h2 oA (fun k hk hki=>by
     by_cases e:k=(i+j)/2
     ·subst e;exact g
     ·have:=pw k ((i+j)/2) hk oA oA;omega) h5
    rw[Int.natCast_add]at this;exact this
   ·rw[ax oD]
    exact ih i ((i+j)/2) oA oA oA h4 (fun k hk hki=>by
     by_cases e:k=(i+j)/2
     ·subst e;omega
     ·have:=pw ((i+j)/2) k oA hk oA;omega)
  ·have:i=j:=oA
   subst this;rw[ax]
   by_cases c2:i<l.length
   ·rw[a8 (by simp;exact c2),kq l i c2,qB]
    by_cases e:l[i]=x
    ·rw[a8 (by simp[e])]
     exact⟨i,by rw[decide_eq_true (by rw[← e];exact List.getElem_mem c2)]⟩
    ·rw[ax (by simp[e]),qB]
     unfold qlf;rw[qB,ax]
     refine⟨i,?_⟩;rw[decide_eq_false];intro hx;obtain⟨k,hk,ek⟩:=List.getElem_of_mem hx;have:=h5 i c2 oA
     rcases Nat.lt_trichotomy k i with q|q|q
     ·have:=h4 k hk q;omega
     ·subst q;exact e ek
     ·have:=pw i k c2 hk q;omega
   ·rw[ax oD]
    refine⟨i,?_⟩;rw[decide_eq_false];intro hx;obtain⟨k,hk,ek⟩:=List.getElem_of_mem hx;have:=h4 k hk oA;omega
def zz7(fu:Nat)(l:List Int)(x:Int)(hl:kh l)(hs:(l.length:Int)<2305843009213693952:=by omega)(hf:l.length<fu:=by omega):∃p,qlb fu l x=some (p,decide (x∈l)):=by
 unfold qlb;exact zz8 fu l x hl hs fu 0 l.length oA oA oA (fun k hk q=>oA) (fun k hk q=>oA)
def zv6(fu:Nat)(l:List Int)(x:Int)(hs:(l.length:Int)<4611686018427387904):∀(n k:Nat),k<=l.length->l.length-k<n ->
  ∃i:Int,qf2 fu n l x l.length k=some i/\(0<=i↔x∈l.drop k):=by
 intro n
 induction n with
 |zero=>intro k h1 h2;omega|succ n ih=>
  intro k h1 h2;rw[qf2,qvu];by_cases c:k<l.length
  ·rw[a8 (by simp;exact c),kq l k c,qB,td,List.drop_eq_getElem_cons c]
   by_cases g:x=l[k]
   ·rw[qX g];exact⟨k,rfl,⟨fun _=>by rw[← g];exact qH,fun _=>oA⟩⟩
   ·rw[qW g,bf]
    obtain⟨i,e,h⟩:=ih (k+1) oA oA
    rw[Int.natCast_add]at e;refine⟨i,e,?_⟩;rw[h,wE];exact⟨.inr,fun q=>q.resolve_left g⟩
  ·rw[ax oD,List.drop_eq_nil_of_le oA]
   exact⟨-1,rfl,⟨fun q=>oA,fun q=>by cases q⟩⟩
def vgw(fu:Nat)(l:List Int)(x:Int)(hs:(l.length:Int)<4611686018427387904:=by omega)(hf:l.length<fu:=by omega):qld fu l x=some (decide (x∈l)):=by
 unfold qld qvt;obtain⟨i,e,h⟩:=zv6 fu l x hs fu 0 oA oA
 rw[show((0:Nat):Int)=0 from rfl]at e
 rw[e,qB];congr 1;rw[decide_eq_decide,h,List.drop_zero]
def wi(p:Option Int)(x:Int):Bool:=match p with|some y=>decide (x<=y)|none=>false
def ue(f:Int->Bool):Option Int->List Int->Int|_,[]=>0|p,x::l=>if f x=false then 3 else if wi p x=true then 19 else ue f (some x) l
def q27(f:Int->Bool):∀(l:List Int)(p:Option Int),ue f p l=0->kh l/\(∀x∈l,f x=true)/\(∀y,p=some y->∀x∈l,y<x)
 |[],_,_=>⟨List.Pairwise.nil,fun x h=>(by cases h),fun y _ x h=>(by cases h)⟩
 |x::l,p,h=>by
  unfold ue at h;by_cases c:f x=false
  ·rw[qX c]at h;omega
  rw[qW c]at h;by_cases c2:wi p x=true
  ·rw[qX c2]at h;omega
  rw[qW c2]at h;obtain⟨i1,i2,i3⟩:=q27 f l _ h;have i3':=i3 x rfl;refine⟨List.pairwise_cons.2 ⟨i3',i1⟩,fun y hy => ?_,fun y hy t ht => ?_⟩
  ·rcases List.mem_cons.1 hy with q|q
   ·rw[q];simpa using c
   ·exact i2 y q
  ·subst hy;have hyx:y<x:=by simp[wi]at c2;exact c2
   rcases List.mem_cons.1 ht with q|q
   ·omega
   ·have:=i3' t q;omega
def kz(l:List Int)(k:Nat):Option Int:=if k=0 then none else l[k-1]?
def ib(t:Int):Bool:=decide (-68719476736<=t/\t<=68719476736)
def xd(t:Int):Bool:=decide (0<=t/\t<=6)
def ny(c a:Int):gw:=if c=0 then(0,0) else(c,a)
def q2o(l:List Int)(k:Nat)(h:k<l.length):kz l (k+1)=some l[k]:=by
 unfold kz;rw[qW];simp[h]
def zjk(l:List Int)(k:Nat)(h:k<l.length)(h0:0<k)(hs:(l.length:Int)<9223372036854775808):am l (ae ((k:Int)-1))=some (l[k-1]' oA)/\kz l k=some (l[k-1]' oA):=by
 rw[bf,show(k:Int)-1=((k-1:Nat):Int) by omega]
 refine⟨kq l (k-1),?_⟩
 unfold kz;rw[qW];simp[show k-1<l.length by omega]
def zkt(f:Int->Bool)(l:List Int)(k:Nat)(h:k<l.length):ue f (kz l k) (l.drop k) =
  if f l[k]=false then 3 else if wi (kz l k) l[k]=true then 19 else ue f (kz l (k+1)) (l.drop (k+1)):=by
 rw[List.drop_eq_getElem_cons h,q2o l k h];rfl
def zw3(fu:Nat)(l:List Int)(a:Int)(m:gw)(hs:(l.length:Int)<9223372036854775808):∀(n k:Nat),k<=l.length->l.length-k<n ->
  qfu fu n l a l l.length k m=some (ny (ue ib (kz l k) (l.drop k)) a):=by
 intro n
 induction n with
 |zero=>intro k h1 h2;omega|succ n ih=>
  intro k h1 h2;rw[qfu,qvc];by_cases c:k<l.length
  ·have nx:=ih (k+1) oA oA
   rw[Int.natCast_add]at nx;rw[a8 (by simp;exact c),kq l k c,qB,time_eq,qB,zkt ib l k c,bf (x:=(k:Int)+1) oA oA]
   have eT:decide (-68719476736<=l[k]/\l[k]<=68719476736)=ib l[k]:=rfl;rw[eT]
   cases ht:ib l[k] with
   |false=>rfl|true=>
    rw[ax,qW]
    by_cases c0:0<k
    ·obtain⟨p1,p2⟩:=zjk l k c c0 hs;rw[a8 oD,p1,qB,p2]
     by_cases g:l[k]<=l[k-1]' oA
     ·rw[a8 (by simp;exact g),qX (by simp[wi];exact g)];rfl
     ·rw[ax oD,qW (by simp[wi];omega)];exact nx
    ·rw[ax oD]
     have e0:kz l k=none:=by unfold kz;rw[qX]
     rw[e0];exact nx
  ·rw[ax oD,List.drop_eq_nil_of_le oA];rfl
def ku(l:List Int):Int:=if 300<l.length then 2 else ue ib none l
def zw2(fu:Nat)(hf:400<=fu)(l:List Int)(a:Int):qft fu l a=some (ny (ku l) a):=by
 unfold qft ku;by_cases c:300<l.length
 ·rw[a8 oD,qX c];rfl
 ·rw[ax oD,qW c]
  have:=zw3 fu l a (0,0) oA fu 0 oA oA
  exact this
abbrev dj:Type:=Int×Int×Int×Int×Bool×List Int×List Int×List Int
def z14(fu:Nat)(r:dj)(m:gw)(hs:(r.2.2.2.2.2.1.length:Int)<9223372036854775808):∀(n k:Nat),k<=r.2.2.2.2.2.1.length->8<=n+k->(∀p,kz r.2.2.2.2.2.1 k=some p->(k:Int)-1<=p/\p<=6)->(k<=7) ->
  qfv fu n r.2.2.2.2.2.1 r.2.2.2.2.2.1.length k r m=some (ny (ue xd (kz r.2.2.2.2.2.1 k) (r.2.2.2.2.2.1.drop k)) (-7)):=by
 generalize hl:r.2.2.2.2.2.1=l at hs ⊢;intro n
 induction n with
 |zero=>intro k h1 h2;omega|succ n ih=>
  intro k h1 h2 h3 h4;rw[qfv,qvd];by_cases c:k<l.length
  ·rw[a8 (by simp;exact c),kq l k c,qB,zkt xd l k c]
   unfold qla qvf;rw[hl];by_cases g1:l[k]<0
   ·rw[a8 (by simp;exact g1),a8 rfl,qX (by unfold xd;simp;omega)];rfl
   rw[ax oD]
   by_cases g2:6<l[k]
   ·rw[a8 (by simp;exact g2),qX (by unfold xd;simp;omega)];rfl
   rw[ax oD,qW (by unfold xd;simp;omega),bf (x:=(k:Int)+1) oA oA]
   by_cases c0:0<k
   ·obtain⟨p1,p2⟩:=zjk l k c c0 hs;rw[a8 oD,p1,qB,p2]
    by_cases g:l[k]<=l[k-1]' oA
    ·rw[a8 (by simp;exact g),qX (by simp[wi];exact g)];rfl
    ·rw[ax oD,qW (by simp[wi];omega)]
     have hp:=h3 _ p2;have nx:=ih (k+1) oA oA (fun p hp'=>by rw[q2o l k c]at hp';cases hp';omega) oA
     rw[Int.natCast_add]at nx;exact nx
   ·rw[ax oD]
    have e0:kz l k=none:=by unfold kz;rw[qX]
    rw[e0];have nx:=ih (k+1) oA oA (fun p hp'=>by rw[q2o l k c]at hp';cases hp';omega) oA
    rw[Int.natCast_add]at nx;exact nx
  ·rw[ax oD,List.drop_eq_nil_of_le oA];rfl
def qg(r:dj):gw:=if 0<r.2.2.2.2.2.1.length/\r.1≠2 then(5,-7) else ny (ue xd none r.2.2.2.2.2.1) (-7)
def rp(r:dj):gw:=
 if ¬(0<=r.1/\r.1<=4) then(4,-3) else if ¬(1<=r.2.1/\r.2.1<=100) then(3,-4) else if ¬(0<=r.2.2.1/\r.2.2.1<=1500) then(3,-5) else
 if r.2.2.2.2.1=true/\¬(-68719476736<=r.2.2.2.1/\r.2.2.2.1<=68719476736) then(3,-6) else if r.2.2.2.2.1=false/\r.2.2.2.1≠0 then(5,-6) else
 if(qg r).1≠0 then qg r else if ku r.2.2.2.2.2.2.1≠0 then(ku r.2.2.2.2.2.2.1,-8) else ny (ku r.2.2.2.2.2.2.2) (-9)
def q0a(c a:Int):(ny c a).1=c:=by
 unfold ny;split
 ·rename_i h;exact h.symm
 ·rfl
def zyp(l:List Int):kz l 0=none:=rfl
def z15(fu:Nat)(hf:400<=fu)(r:dj)(hs:(r.2.2.2.2.2.1.length:Int)<9223372036854775808):qk8 fu r=some (qg r):=by
 unfold qk8 qk9 qve qg;have lp:=z14 fu r (0,0) hs fu 0 oA oA (fun p hp=>by cases hp) oA
 rw[show((0:Nat):Int)=0 from rfl,zyp,List.drop_zero]at lp
 rw[lp];by_cases c:0<r.2.2.2.2.2.1.length
 ·rw[bq,nu]
  by_cases c2:r.1≠2
  ·rw[qX (c:=¬_) c2,qX (c:=_/\_) ⟨c,c2⟩];rfl
  ·rw[qW (c:=¬_) c2,qW (c:=_/\_) (fun q=>c2 q.2)]
 ·rw[dv,qW (c:=_/\_) (fun q=>c q.1)];rfl
def zl3(fu:Nat)(hf:400<=fu)(r:dj)(hs:(r.2.2.2.2.2.1.length:Int)<9223372036854775808:=by omega):qfs fu r=some (rp r):=by
 unfold qfs qk1 qk2 qk3 qk4 qk5 qu8 rp;simp only[fault_eq,qB,time_eq,z15 fu hf r hs,zfailed_eq,zw2 fu hf,nu,q0a,qT,qF];by_cases c1:0<=r.1/\r.1<=4
 ·rw[ax oD,ax oD,qW (c:=¬_) (fun q=>q c1)]
  by_cases c2:1<=r.2.1/\r.2.1<=100
  ·rw[ax oD,ax oD,qW (c:=¬_) (fun q=>q c2)]
   by_cases c3:0<=r.2.2.1/\r.2.2.1<=1500
   ·rw[ax oD,ax oD,qW (c:=¬_) (fun q=>q c3)]
    have tail:(if(qg r).1≠0 then some (qg r) else if ku r.2.2.2.2.2.2.1≠0 then some (ny (ku r.2.2.2.2.2.2.1) (-8)) else some (ny (ku r.2.2.2.2.2.2.2) (-9))) =
      some (if(qg r).1≠0 then qg r else if ku r.2.2.2.2.2.2.1≠0 then(ku r.2.2.2.2.2.2.1,-8) else ny (ku r.2.2.2.2.2.2.2) (-9)):=by
     by_cases k1:(qg r).1≠0
     ·rw[qX k1,qX k1]
     ·rw[qW k1,qW k1];by_cases k2:ku r.2.2.2.2.2.2.1≠0
      ·rw[qX k2,qX k2];unfold ny;rw[qW k2]
      ·rw[qW k2,qW k2]
    rw[tail]
    cases h5:r.2.2.2.2.1 with
    |true=>
     simp only[qT,qF,Bool.not_true,qb9];by_cases c4 : -68719476736<=r.2.2.2.1/\r.2.2.2.1<=68719476736
     ·rw[qX (c:=_/\_) c4,qW (c:=True/\¬_) (fun q=>q.2 c4),qW (c:=true=false/\_) (fun q=>by cases q.1)]
     ·rw[qW (c:=_/\_) c4,qX (c:=True/\¬_) ⟨trivial,c4⟩]
    |false=>
     simp only[qT,qF,Bool.not_false];rw[qW (c:=false=true/\_) (fun q=>by cases q.1)]
     by_cases c4:r.2.2.2.1≠0
     ·rw[qX (c:=¬_) c4,qX (c:=True/\_) ⟨trivial,c4⟩]
     ·rw[qW (c:=¬_) c4,qW (c:=True/\_) (fun q=>c4 q.2)]
   ·rw[qX (c:=¬_) c3];by_cases g:r.2.2.1<0
    ·rw[a8 (by simp;exact g)]
    ·rw[ax oD,a8 oD]
  ·rw[qX (c:=¬_) c2];by_cases g:r.2.1<1
   ·rw[a8 (by simp;exact g)]
   ·rw[ax oD,a8 oD]
 ·rw[qX (c:=¬_) c1];by_cases g:r.1<0
  ·rw[a8 (by simp;exact g)]
  ·rw[ax oD,a8 oD]
structure jv(d:cf):Prop where
 ok:ew d
 zn:d.2.2.2.2.2.2=0
 y1:3<=d.1
 y2:d.1<=3980
def ei(d:cf):Int:=bg d.1 d.2.1 d.2.2.1
def qb(d:cf):Int:=d.2.2.2.1*3600+d.2.2.2.2.1*60+d.2.2.2.2.2.1
def q28{d:cf}(h:ew d):0<=qb d/\qb d<86400:=by
 obtain⟨_,_,_,_,_,_,_,_,_⟩:=h;unfold qb;omega
def jv.ins{d:cf}(h:jv d):cq d=ei d*86400+qb d:=by
 unfold cq ei qb;rw[h.zn];omega
def qzo:dn 3=730/\dn 3981=1453665/\dn 3999=1460239:=oE
def jv.day_bd{d:cf}(h:jv d) : -718432<=ei d/\ei d<734503:=by
 have a:=ti _ _ _ h.ok.1;have b1:=o8 3 d.1 h.y1;have b2:=o8 (d.1+1) 3981 (by have:=h.y2;omega)
 obtain⟨v1,v2,_⟩:=qzo;unfold ei;omega
noncomputable def later(d:cf)(a:Int):cf:=vi (ei d+a) (qb d) 0
def qh3{d:cf}(h:jv d){a:Int}(a1:0<=a)(a2:a<=1500):ew (later d a)/\cq (later d a)=cq d+a*86400/\(later d a).2.2.2.2.2.2=0/\3<=(later d a).1/\(later d a).1<=3998:=by
 have hb:=h.day_bd;have hs:=q28 h.ok;obtain⟨k1,k2⟩:=ztr (n:=ei d+a) (s:=qb d) oA oA hs.1 hs.2 0 oA oA
 refine⟨k1,by unfold later;rw[k2,h.ins];omega,rfl,?_,?_⟩
 ·obtain⟨hv,he⟩:=qcf (ei d+a)
  have hy:=ti _ _ _ hv;rw[he]at hy;obtain⟨v1,v2,v3⟩:=qzo;show 3<=(ic (ei d+a)).1;by_cases c:3<=(ic (ei d+a)).1
  ·exact c
  ·have:=o8 ((ic (ei d+a)).1+1) 3;omega
 ·obtain⟨hv,he⟩:=qcf (ei d+a)
  have hy:=ti _ _ _ hv;rw[he]at hy;obtain⟨v1,v2,v3⟩:=qzo;show(ic (ei d+a)).1<=3998;by_cases c:(ic (ei d+a)).1<=3998
  ·exact c
  ·have:=o8 3999 (ic (ei d+a)).1;omega
def zws{d:cf}(h:jv d){a:Int}(a1:0<=a)(a2:a<=1500):ei (later d a)=ei d+a:=by
 have hb:=h.day_bd;exact(qcf (ei d+a)).2
def ztv(fu:Nat)(hf:20<=fu){d:cf}(h:jv d){a:Int}(a1:0<=a)(a2:a<=1500):qbc fu (ae (cq d+ae (a*86400))) 0=some (later d a,(0,0)):=by
 have hb:=h.day_bd;have hs:=q28 h.ok;have hi:=h.ins;rw[bf (x:=a*86400) oA oA,bf,zfv fu hf]
 unfold xu later;rw[qW,qW]
 have e1:(cq d+a*86400+60*0)/86400=ei d+a:=oA
 have e2:(cq d+a*86400+60*0)%86400=qb d:=oA
 rw[e1,e2,qW]
noncomputable def qhl(r:dj)(d:cf)(a:Int):Bool:=
 if r.1=1 then decide (r.2.1 ∣ a) else
 if r.1=2 then(if r.2.2.2.2.2.1=[] then decide (ni (ei d+a)=ni (ei d)) else decide (ni (ei d+a)∈r.2.2.2.2.2.1))&&decide (r.2.1 ∣ (a+ni (ei d))/7) else
 if r.1=3 then decide ((later d a).2.2.1=d.2.2.1)&&decide (r.2.1 ∣ 12*((later d a).1-d.1)+(later d a).2.1-d.2.1) else
 if r.1=4 then decide ((later d a).2.2.1=d.2.2.1)&&(decide ((later d a).2.1=d.2.1)&&decide (r.2.1 ∣ (later d a).1-d.1)) else decide (a=0)
def z1h(x e:Int):((Int.tmod x e==0):Bool)=decide (e ∣ x):=by
 rw[Bool.eq_iff_iff,decide_eq_true_iff,beq_iff_eq];exact Int.dvd_iff_tmod_eq_zero.symm
def zu4(x y:Int):((x==y):Bool)=decide (x=y):=by
 rw[Bool.eq_iff_iff,decide_eq_true_iff,beq_iff_eq]
structure ql8(r:dj):Prop where
 f1:0<=r.1
 f2:r.1<=4
 e1:1<=r.2.1
 e2:r.2.1<=100
 c1:0<=r.2.2.1
 c2:r.2.2.1<=1500
 wl:r.2.2.2.2.2.1.length<=7
 xs:kh r.2.2.2.2.2.2.1
 xl:r.2.2.2.2.2.2.1.length<=300
 adS:kh r.2.2.2.2.2.2.2
 al:r.2.2.2.2.2.2.2.length<=300
def zvd(fu:Nat)(hf:20<=fu)(r:dj)(hr:ql8 r){d:cf}(h:jv d){a:Int}(a1:0<=a)(a2:a<=1500):qk6 fu r d (later d a) a=some (qhl r d a):=by
 unfold qk6 qk7;obtain⟨k1,k2,k3,k4,k5⟩:=qh3 h a1 a2;have kd:=zws h a1 a2;have e1:=hr.e1;have wl:=hr.wl;have v1:=h.ok.1;have v2:=k1.1;have y1:=h.y1;have y2:=h.y2;have w1:=zl9 (ei d);rw[q30 fu hf _ k1,q30 fu hf _ h.ok,qB,qB];rw[show bg (later d a).1 (later d a).2.1 (later d a).2.2.1=ei d+a from kd,show bg d.1 d.2.1 d.2.2.1=ei d from rfl]
 have eE:∀{α:Type}(x y:α),(bif decide (r.2.1≠0) then x else y)=x:=fun x y=>bq
 simp only[eE,td,z1h];unfold qhl;by_cases c1:r.1=1
 ·rw[qX c1,qX c1]
 rw[qW c1,qW c1];by_cases c2:r.1=2
 ·rw[qX c2,qX c2];rw[bf (x:=a+ni (ei d)) oA oA,q3o,bf]
  by_cases cw:r.2.2.2.2.2.1=[]
  ·rw[dv (by rw[cw];simp),qX cw]
   split
   ·rename_i q;rw[decide_eq_true q];rfl
   ·rename_i q;rw[decide_eq_false q];rfl
  ·have:0<r.2.2.2.2.2.1.length:=List.length_pos_iff.2 cw;rw[bq,qW cw,vgw fu _ _,qB,jd]
   split
   ·rename_i q;rw[decide_eq_true q];rfl
   ·rename_i q;rw[decide_eq_false q];rfl
 rw[qW c2,qW c2];obtain⟨b1,b2,b3,b4,b5,b6⟩:=v1;obtain⟨g1,g2,g3,g4,g5,g6⟩:=v2;simp (discharger:=omega) only [bf ?_ ?_];by_cases c3:r.1=3
 ·rw[qX c3,qX c3];by_cases q:(later d a).2.2.1=d.2.2.1
  ·rw[qX q,decide_eq_true q];rfl
  ·rw[qW q,decide_eq_false q];rfl
 rw[qW c3,qW c3];by_cases c4:r.1=4
 ·rw[qX c4,qX c4];by_cases q:(later d a).2.2.1=d.2.2.1
  ·rw[qX q,decide_eq_true q];by_cases q2:(later d a).2.1=d.2.1
   ·rw[qX q2,decide_eq_true q2];rfl
   ·rw[qW q2,decide_eq_false q2];rfl
  ·rw[qW q,decide_eq_false q];rfl
 rw[qW c4,qW c4,zu4]
def zld:∀(l:List Int)(lo hi:Int),kh l->(∀x∈l,lo<=x/\x<=hi)->lo<=hi+1->(l.length:Int)<=hi+1-lo
 |[],lo,hi,_,_,h=>by simp;omega|x::l,lo,hi,h1,h2,h=>by
  have h1':=List.pairwise_cons.1 h1;have hx:=h2 x qH;have:=zld l (x+1) hi h1'.2 (fun y hy=>⟨by have:=h1'.1 y hy;omega,(h2 y (qE _ hy)).2⟩) oA
  simp;omega
def zzt(r:dj)(h:(rp r).1=0):rp r=(0,0)/\ql8 r/\(∀x∈r.2.2.2.2.2.2.1,ib x=true)/\(∀x∈r.2.2.2.2.2.2.2,ib x=true):=by
 unfold rp at h ⊢;by_cases c1:¬(0<=r.1/\r.1<=4)
 ·rw[qX c1]at h;simp at h
 rw[qW c1]at h ⊢;by_cases c2:¬(1<=r.2.1/\r.2.1<=100)
 ·rw[qX c2]at h;simp at h
 rw[qW c2]at h ⊢;by_cases c3:¬(0<=r.2.2.1/\r.2.2.1<=1500)
 ·rw[qX c3]at h;simp at h
 rw[qW c3]at h ⊢;by_cases c4:r.2.2.2.2.1=true/\¬(-68719476736<=r.2.2.2.1/\r.2.2.2.1<=68719476736)
 ·rw[qX c4]at h;simp at h
 rw[qW c4]at h ⊢;by_cases c5:r.2.2.2.2.1=false/\r.2.2.2.1≠0
 ·rw[qX c5]at h;simp at h
 rw[qW c5]at h ⊢;by_cases c6:(qg r).1≠0
 ·rw[qX c6]at h;exact absurd h c6
 rw[qW c6]at h ⊢;by_cases c7:ku r.2.2.2.2.2.2.1≠0
 ·rw[qX c7]at h;exact absurd h c7
 rw[qW c7]at h ⊢;rw[q0a]at h;have lc:∀l,ku l=0->l.length<=300/\kh l/\∀x∈l,ib x=true:=by
  intro l hl;unfold ku at hl;by_cases q:300<l.length
  ·rw[qX q]at hl;omega
  ·rw[qW q]at hl;obtain⟨i1,i2,_⟩:=q27 ib l none hl;exact⟨oA,i1,i2⟩
 obtain⟨x1,x2,x3⟩:=lc _ (Classical.not_not.1 c7);obtain⟨y1,y2,y3⟩:=lc _ h;have hw:r.2.2.2.2.2.1.length<=7:=by
  have c6':=Classical.not_not.1 c6;unfold qg at c6';by_cases q:0<r.2.2.2.2.2.1.length/\r.1≠2
  ·rw[qX q]at c6';simp at c6'
  ·rw[qW q,q0a]at c6';obtain⟨i1,i2,_⟩:=q27 xd _ none c6';have:=zld r.2.2.2.2.2.1 0 6 i1 (fun x hx=>by have:=i2 x hx;unfold xd at this;simpa using this) oA
   omega
 refine⟨by unfold ny;rw[qX h],⟨oA,oA,oA,oA,oA,oA,hw,x2,x1,y2,y1⟩,x3,y3⟩
noncomputable def sr(z:bt)(d:cf)(a:Int):List Int:=
 (if gp z then[] else nd z (later d a).1 (cq (later d a)) z.2.2.1)++nd z (later d a).1 (cq (later d a)) z.2.1
def zwb{z:bt}(hz:(eh z).1=0){d:cf}(h:jv d){a:Int}(a1:0<=a)(a2:a<=1500):mg z (later d a)=((0,0),sr z d a):=by
 obtain⟨k1,k2,k3,k4,k5⟩:=qh3 h a1 a2;unfold mg;rw[qW (by simp[hz]),qW (fun q=>q k1),qW (fun q=>q k3),qW (fun q=>q ⟨k4,k5⟩),zjh hz k1 k3 k4 k5]
 rfl
noncomputable def nw(z:bt)(r:dj)(d:cf)(a:Int):Option Int:=if qhl r d a=true then(sr z d a).head? else none
def iu(c:Int->Option Int)(hu:Bool)(u cnt:Int):Nat->Int->Int->List Int
 |0,_,_=>[]|n+1,many,a=>match c a with|none=>iu c hu u cnt n many (a+1)|some t=>if hu=true/\u<t then[] else if many+1=cnt then[t] else t::iu c hu u cnt n (many+1) (a+1)
def zzo(fu:Nat)(r:dj)(hr:ql8 r)(hf:400<=fu)(t:Int)(out:List Int)(ho:out.length<=10000:=by omega):qfr fu t r out=some (r,out++[t].filter (fun t=>decide (t∉r.2.2.2.2.2.2.1))):=by
 unfold qfr;have xl:=hr.xl;obtain⟨p,e⟩:=zz7 fu r.2.2.2.2.2.2.1 t hr.xs
 rw[e,qB,qb9];by_cases c:t∈r.2.2.2.2.2.2.1
 ·rw[qX c];simp[c]
 ·rw[qW c,bq (by unfold ao;simp;omega)];simp[c]
def zwc(fu:Nat)(hf:5000<=fu)(z:bt)(hz:(eh z).1=0)(hs:(z.1.length:Int)<9223372036854775808)(hf2:z.1.length<fu)(r:dj)(hr:ql8 r)(d:cf)(h:jv d) :
  ∀(n N:Nat)(a many:Int)(out:List Int),0<=a->N+a=1501->N<n->0<=many->many<=a->(out.length:Int)<=a ->
  qbm fu n (cq d) many a d r z r out=some (d,r,z,r,out++(iu (nw z r d) r.2.2.2.2.1 r.2.2.2.1 r.2.2.1 N many a).filter (fun t=>decide (t∉r.2.2.2.2.2.2.1))):=by
 intro n
 induction n with
 |zero=>intro N a many out h1 h2 h3;omega|succ n ih=>
  intro N a many out h1 h2 h3 h4 h5 h6;rw[qbm,qvb]
  cases N with
  |zero=>rw[dv];simp[iu]|succ N=>
   rw[bq,ztv fu oA h h1 oA,qB,zvd fu oA r hr h h1 oA,qB,bf (x:=a+1) oA oA]
   unfold iu nw
   cases hfit:qhl r d a with
   |false=>
    rw[a8]
    exact ih N (a+1) many out oA oA oA h4 oA oA
   |true=>
    rw[ax,q62 fu oA z hs hf2,qB,zwb hz h h1 oA]
    simp only[if_true];generalize sr z d a=L
    cases L with
    |nil=>
     rw[a8]
     exact ih N (a+1) many out oA oA oA h4 oA oA
    |cons t L=>
     rw[ax oD,bf (x:=many+1) oA oA]
     simp only[zz];have hi:am (t::L) 0=some t:=rfl;rw[hi];simp only[qB,zzo fu r hr oA t out,List.head?_cons]
     have fin:(bif many+1==r.2.2.1 then some (d,r,z,(r,out++List.filter (fun t=>decide (t∉r.2.2.2.2.2.2.1)) [t])) else qbm fu n (cq d) (many+1) (a+1) d r z r (out++List.filter (fun t=>decide (t∉r.2.2.2.2.2.2.1)) [t])) =
       some (d,r,z,r,out++List.filter (fun t=>decide (t∉r.2.2.2.2.2.2.1)) (if many+1=r.2.2.1 then[t] else t::iu (nw z r d) r.2.2.2.2.1 r.2.2.2.1 r.2.2.1 N (many+1) (a+1))):=by
      rw[td];by_cases c:many+1=r.2.2.1
      ·rw[qX c,qX c]
      ·rw[qW c,qW c,ih N (a+1) (many+1) _ oA oA oA oA oA (by
        rw[qM];have:=List.length_filter_le (fun t=>decide (t∉r.2.2.2.2.2.2.1)) [t]
        simp only[wD]at this;omega)]
       rw[qS,← List.filter_append];rfl
     cases hu:r.2.2.2.2.1 with
     |true=>
      rw[a8 rfl];by_cases g:r.2.2.2.1<t
      ·rw[bq g,qX ⟨rfl,g⟩];simp
      ·rw[dv g,qW (fun q=>g q.2)]
       rw[hu]at fin;exact fin
     |false=>
      rw[ax rfl,qW (fun q=>by cases q.1)]
      rw[hu]at fin;exact fin
def zg1(c:Int->Option Int)(hu:Bool)(u cnt:Int):∀(n:Nat)(many a t:Int),t∈iu c hu u cnt n many a->∃b,a<=b/\b<a+n/\c b=some t:=by
 intro n
 induction n with
 |zero=>intro many a t h;cases h
 |succ n ih=>
  intro many a t h;unfold iu at h
  cases hc:c a with
  |none=>
   rw[hc]at h;obtain⟨b,b1,b2,b3⟩:=ih _ _ _ h;exact⟨b,oA,oA,b3⟩
  |some x=>
   rw[hc]at h;simp only[]at h;split at h
   ·cases h
   split at h
   ·rw[List.mem_singleton]at h;subst h;exact⟨a,oA,oA,hc⟩
   ·rcases List.mem_cons.1 h with q|q
    ·subst q;exact⟨a,oA,oA,hc⟩
    ·obtain⟨b,b1,b2,b3⟩:=ih _ _ _ q;exact⟨b,oA,oA,b3⟩
def zvj(c:Int->Option Int)(hu:Bool)(u cnt:Int):∀(n:Nat)(many a:Int),(iu c hu u cnt n many a).length<=n:=by
 intro n
 induction n with
 |zero=>intro many a;simp[iu]|succ n ih=>
  intro many a;unfold iu
  cases hc:c a with
  |none=>have:=ih many (a+1);simp only[];omega|some x=>
   simp only[];split
   ·simp
   split
   ·simp
   ·have:=ih (many+1) (a+1);simp;omega
def zvk(c:Int->Option Int)(hu:Bool)(u cnt:Int)(M:Int)(hc:∀a b x y,0<=a->a<b->b<M->c a=some x->c b=some y->x<y):∀(n:Nat)(many a:Int),0<=a->a+n<=M->kh (iu c hu u cnt n many a):=by
 intro n
 induction n with
 |zero=>intro many a _ _;exact List.Pairwise.nil|succ n ih=>
  intro many a h0 hM;unfold iu
  cases hca:c a with
  |none=>exact ih many (a+1) oA oA|some x=>
   simp only[];split
   ·exact List.Pairwise.nil
   split
   ·exact List.pairwise_singleton _ _
   ·refine List.pairwise_cons.2 ⟨fun y hy => ?_,ih (many+1) (a+1) oA oA⟩
    obtain⟨b,b1,b2,b3⟩:=zg1 c hu u cnt n _ _ _ hy;exact hc a b x y h0 oA oA hca b3
def zje{z:bt}{Y L o t:Int}(h:t∈nd z Y L o):t=L-60*o/\ua z Y (L-60*o)=o:=by
 unfold nd at h;split at h
 ·rename_i e;exact⟨by simpa using h,e⟩
 ·cases h
def q1s{z:bt}(hz:(eh z).1=0){d:cf}{a t:Int}(h:t∈sr z d a):∃o,(o=z.2.1\/(¬gp z/\o=z.2.2.1))/\t=cq (later d a)-60*o/\z.2.1<=o/\o<=z.2.1+180/\ua z (later d a).1 t=o:=by
 obtain⟨_,s1,s2,hzz⟩:=zok z hz;unfold sr at h;rcases List.mem_append.1 h with q|q
 ·split at q
  ·cases q
  ·rename_i hf;obtain⟨e,e2⟩:=zje q;have:=(hzz.resolve_left hf).d1;have:=(hzz.resolve_left hf).d2;exact⟨_,.inr ⟨hf,rfl⟩,e,oA,oA,by rw[e];exact e2⟩
 ·obtain⟨e,e2⟩:=zje q;exact⟨_,.inl rfl,e,oA,oA,by rw[e];exact e2⟩
def qz0{z:bt}{r:dj}{d:cf}{a t:Int}(h:nw z r d a=some t):t∈sr z d a/\qhl r d a=true:=by
 unfold nw at h;split at h
 ·rename_i hf;exact⟨List.mem_of_mem_head? h,hf⟩
 ·cases h
def ztk{z:bt}(hz:(eh z).1=0)(r:dj){d:cf}(h:jv d):∀a b x y,0<=a->a<b->b<1501->nw z r d a=some x->nw z r d b=some y->x<y:=by
 intro a b x y h0 hab hb hx hy;obtain⟨o,_,e1,o1,o2,_⟩:=q1s hz (qz0 hx).1;obtain⟨p,_,e2,p1,p2,_⟩:=q1s hz (qz0 hy).1;have k1:=(qh3 h h0 (show a<=1500 by omega)).2.1
 have k2:=(qh3 h (show 0<=b by omega) (show b<=1500 by omega)).2.1
 omega
noncomputable def nf(z:bt)(r:dj)(d:cf):List Int:=iu (nw z r d) r.2.2.2.2.1 r.2.2.2.1 r.2.2.1 1501 0 0
def zy5{z:bt}(hz:(eh z).1=0)(r:dj){d:cf}(h:jv d):kh (nf z r d):=
 zvk _ _ _ _ 1501 (ztk hz r h) 1501 0 0 oA oA
def zju(z:bt)(r:dj)(d:cf):(nf z r d).length<=1501:=zvj _ _ _ _ _ _ _
def qmz(L X A:List Int)(f t:Int):List Int:=qpi ((L.filter (fun t=>decide (t∉X))++A).filter (lw f t))
def ztb(L X A:List Int)(f t:Int):kh (qmz L X A f t)/\∀x,x∈qmz L X A f t↔((x∈L/\x∉X)\/x∈A)/\f<=x/\x<=t:=by
 obtain⟨h1,h2⟩:=z1q ((L.filter (fun t=>decide (t∉X))++A).filter (lw f t))
 refine⟨h1,fun x => ?_⟩
 unfold qmz;rw[h2,List.mem_filter,wA,List.mem_filter];unfold lw;simp
noncomputable def vd(z:bt)(d:cf)(r:dj)(f t:Int):List Int:=qmz (nf z r d) r.2.2.2.2.2.2.1 r.2.2.2.2.2.2.2 f t
noncomputable def g9(z:bt)(d:cf)(r:dj)(f t:Int):gw:=
 if(eh z).1≠0 then((eh z).1,-10) else if(mg z d).1.1≠0 then((mg z d).1.1,-11) else if 3980<d.1 then(3,-11) else if(rp r).1≠0 then rp r else
 if ¬(ib f=true/\ib t=true/\f<=t) then(3,-12) else(0,0)
noncomputable def mc(z:bt)(d:cf)(r:dj)(f t:Int):gw×List Int:=if(g9 z d r f t).1≠0 then(g9 z d r f t,[]) else((0,0),vd z d r f t)
def qzx{z:bt}{d:cf}{r:dj}{f t:Int}(h:(g9 z d r f t).1=0):g9 z d r f t=(0,0)/\(eh z).1=0/\jv d/\(rp r).1=0/\ib f=true/\ib t=true/\f<=t:=by
 unfold g9 at h ⊢;by_cases c1:(eh z).1≠0
 ·rw[qX c1]at h;exact absurd h c1
 rw[qW c1]at h ⊢;by_cases c2:(mg z d).1.1≠0
 ·rw[qX c2]at h;exact absurd h c2
 rw[qW c2]at h ⊢;by_cases c3:3980<d.1
 ·rw[qX c3]at h;simp at h
 rw[qW c3]at h ⊢;by_cases c4:(rp r).1≠0
 ·rw[qX c4]at h;exact absurd h c4
 rw[qW c4]at h ⊢;by_cases c5:¬(ib f=true/\ib t=true/\f<=t)
 ·rw[qX c5]at h;simp at h
 rw[qW c5];have c5':=Classical.not_not.1 c5;rcases zwa z d with⟨q,_⟩|⟨_,_,q1,q2,q3,q4,_⟩
 ·exact absurd q c2
 ·exact⟨rfl,Classical.not_not.1 c1,⟨q1,q2,q3,oA⟩,Classical.not_not.1 c4,c5'⟩
def z1g(t:Int):qk t=some (ib t):=time_eq t
def z0i(l:List Int)(h:l.length<=1000000):sj l=some (d9 l):=by
 unfold sj;rw[bq (by unfold ao;omega)]
def ze6(fu:Nat)(hf:5000<=fu)(z:bt)(hs:(z.1.length:Int)<9223372036854775808)(hf2:z.1.length<fu)(d:cf)(r:dj)(hw:(r.2.2.2.2.2.1.length:Int)<9223372036854775808)(f t:Int) :
  yj fu z d r f t=some (mc z d r f t):=by
 unfold yj;simp only[qqo fu z hs hf2,qB,zfailed_eq,nu,q62 fu oA z hs hf2,zl3 fu oA r hw,fault_eq,z1g]
 by_cases c1:(eh z).1≠0
 ·unfold mc g9;rw[qX c1,qX c1,qX (by exact c1)]
 by_cases c2:(mg z d).1.1≠0
 ·unfold mc g9;rw[qW c1,qW c1,qX c2,qX c2,qX (by exact c2)]
 by_cases c3:3980<d.1
 ·unfold mc g9;rw[qW c1,qW c1,qW c2,qW c2,bq c3,qX c3];rfl
 by_cases c4:(rp r).1≠0
 ·unfold mc g9;rw[qW c1,qW c1,qW c2,qW c2,dv c3,qW c3,qX c4,qX c4,qX c4]
 by_cases c5:¬(ib f=true/\ib t=true/\f<=t)
 ·unfold mc g9;rw[qW c1,qW c1,qW c2,qW c2,dv c3,qW c3,qW c4,qW c4,qX c5];unfold qbl;simp only[fault_eq,qB,qT]
  cases hb:ib f with
  |false=>rfl|true=>
   cases hb2:ib t with
   |false=>rfl|true=>
    rw[ax,ax,bq (by rw[hb,hb2]at c5;simp at c5;exact c5)];rfl
 have c5':=Classical.not_not.1 c5;have h0:(g9 z d r f t).1=0:=by
  unfold g9;rw[qW c1,qW c2,qW c3,qW c4,qW c5]
 obtain⟨_,hz,hst,hrf,_⟩:=qzx h0;obtain⟨_,hr,_,_⟩:=zzt r hrf;rw[qW c1,qW c2,dv c3,qW c4,c5'.1,c5'.2.1,ax,ax]
 unfold qbl;rw[dv (by have:=c5'.2.2;omega)]
 unfold qu7 qu9 qva mc;rw[qW (by simp[h0]),qB]
 simp only[];rw[q09 fu oA,qX hst.ok,qB]
 simp only[];rw[zwc fu hf z hz hs hf2 r hr d hst fu 1501 0 0 [] oA oA oA oA oA oC,qB]
 simp only[List.nil_append];rw[show iu (nw z r d) r.2.2.2.2.1 r.2.2.2.1 r.2.2.1 1501 0 0=nf z r d from rfl]
 have l1:=zju z r d;have l2:=List.length_filter_le (fun t=>decide (t∉r.2.2.2.2.2.2.1)) (nf z r d)
 have l3:=hr.al;have ll:((nf z r d).filter (fun t=>decide (t∉r.2.2.2.2.2.2.1))++r.2.2.2.2.2.2.2).length<=1801:=by rw[qM];omega
 rw[bq (by unfold ao;omega),zuo fu _ f t,qB]
 rw[z0i _ (Nat.le_trans (List.length_filter_le _ _) oA),qB]
 unfold qlc;rw[show ∀l,(d9 l).length=l.length from fun l=>List.length_mergeSort l,bq (Nat.le_trans (List.length_filter_le _ _) (by unfold ao;omega)),none_eq]
 rfl

def ztc(z:bt)(d:cf)(r:dj)(f t:Int):kh (vd z d r f t)/\∀x,x∈vd z d r f t↔((x∈nf z r d/\x∉r.2.2.2.2.2.2.1)\/x∈r.2.2.2.2.2.2.2)/\f<=x/\x<=t:=ztb _ _ _ _ _
def ze5{z:bt}{d:cf}{r:dj}{f t:Int}(h:(g9 z d r f t).1=0):mc z d r f t=((0,0),vd z d r f t):=by
 unfold mc;rw[qW (by simp[h])]
def ze4{z:bt}{d:cf}{r:dj}{f t:Int}(h:(g9 z d r f t).1≠0):mc z d r f t=(g9 z d r f t,[]):=by
 unfold mc;rw[qX h]
section
variable(fu:Nat)(hf:5000<=fu)(z:bt)(hs:(z.1.length:Int)<9223372036854775808)(hf2:z.1.length<fu)(d:cf)(r:dj)(hw:(r.2.2.2.2.2.1.length:Int)<9223372036854775808)
include hf hs hf2 hw
end
def zsm{z:bt}(hz:(eh z).1=0){d:cf}(h:jv d){a t:Int}(h1:0<=a)(h2:a<=1500)(ht:t∈sr z d a) :
  ∃o,qp z t=(o,(0,0))/\xu t o=(vi (ei d+a) (qb d) o,(0,0)) /\ -68719476736<=t/\t<=68719476736:=by
 obtain⟨o,ho,e,o1,o2,e2⟩:=q1s hz ht;obtain⟨k1,k2,k3,k4,k5⟩:=qh3 h h1 h2;obtain⟨_,s1,s2,hzz⟩:=zok z hz;have hloc:=zi4 hz k1 k3 k4 k5 o ho;rw[← e,e2]at hloc;have ho' : -900<=o/\o<=900:=by
  rcases ho with q|⟨q,q'⟩
  ·omega
  ·have:=(hzz.resolve_left q).m1;have:=(hzz.resolve_left q).m2;omega
 obtain⟨L1,L2⟩:=zhh k1 k3;obtain⟨v3,v2,v9,v0⟩:=zhv;have j1:=q9 3 _ k4;have j2:=q9 ((later d a).1+1) 3999
 have hb:=h.day_bd;have hsd:=q28 h.ok;have hi:=h.ins;refine⟨o,hloc,?_,oA,oA⟩
 unfold xu;rw[qW,qW]
 have ea:(t+60*o)/86400=ei d+a:=oA
 have eb:(t+60*o)%86400=qb d:=oA
 rw[ea,eb,qW]
def zjv{z:bt}(hz:(eh z).1=0){d:cf}(h:jv d)(r:dj){t:Int}(ht:t∈nf z r d) :
  ∃a o,qp z t=(o,(0,0))/\xu t o=(vi (ei d+a) (qb d) o,(0,0)) /\ -68719476736<=t/\t<=68719476736:=by
 obtain⟨a,a1,a2,a3⟩:=zg1 _ _ _ _ _ _ _ _ ht;obtain⟨o,q⟩:=zsm hz h (show 0<=a by omega) (show a<=1500 by omega) (qz0 a3).1
 exact⟨a,o,q⟩
section
variable(fu:Nat)(hf:5000<=fu)(z:bt)(hs:(z.1.length:Int)<9223372036854775808)(hf2:z.1.length<fu)(d:cf)(r:dj)(hw:(r.2.2.2.2.2.1.length:Int)<9223372036854775808)
include hf hs hf2
end
abbrev qz9(r:dj)(n:Int):dj:=(r.1,r.2.1,n,r.2.2.2.1,r.2.2.2.2.1,r.2.2.2.2.2.1,[],[])
def zfh{z:bt}(hz:(eh z).1=0){d:cf}(h:jv d)(r:dj)(n:Int):vd z d (qz9 r n) (-68719476736) 68719476736=nf z (qz9 r n) d:=by
 obtain⟨s3,m3⟩:=ztc z d (qz9 r n) (-68719476736) 68719476736;refine zlc _ _ s3 (zy5 hz _ h) (fun x => ?_)
 rw[m3];constructor
 ·rintro⟨⟨p,_⟩|p,_⟩
  ·exact p
  ·cases p
 ·intro p;obtain⟨_,_,_,_,q⟩:=zjv hz h _ p;exact⟨.inl ⟨p,oC⟩,q⟩
end Go.Sym
namespace Go.Sym
def zt2(a b:UInt8)(l:Bs):iq a b l<=2*l.length:=by
 have h1:=List.count_le_length (a:=a) (l:=l);have h2:=List.count_le_length (a:=b) (l:=l);unfold iq;omega
def zy2(s:Bs)(hs:s.length<=100000:=by omega):Ok (fun v=>v.length<=400000) (qa0 s):=by
 have hc:=zt2 92 34 s;have hl:=qnr (a:=92) (b:=34) oE 92 92 92 34 s
 unfold qa0;rw[show qf4 ([([92]:Bs),([92,92]:Bs),([34]:Bs),([92,34]:Bs)]:List Bs)=some (0,0,0,[[92],[92,92],[34],[92,34]]) from rfl,qB]
 unfold si;dsimp only;rw[bq ⟨rfl,rfl,oE,oA⟩,qB]
 refine cr (by simp only[qL,qZ,bz];omega) (cr ?_ (aw ?_))
 ·simp only[qM,qL,qZ,bz];omega
 ·simp only[qM,qL,qZ];omega
def zsl(fu:Nat)(hfu:90000000<=fu)(a:Bs×Bs×Bs)(h1:a.2.1.length<=4000)(h2:a.2.2.length<=4000):Ok (fun v=>v.length<=1000000) (qe0 fu a):=by
 unfold qe0;refine au (zgd fu hfu _) fun x1 _=>ci (fun _=>cr ?_ (cr ?_ (aw ?_))) fun _=>au (zy2 _) fun x2 h3=>cr ?_ (cr ?_ (aw ?_))
 all_goals simp only[qM,qL,qZ,bz];omega
def zyq(fu:Nat)(hfu:90000000<=fu)(g lo dm:Bs)(h1:lo.length<=4000)(h2:dm.length<=4000):Ok bu (qjr fu [(g,(false,[([],(lo,dm))]))]):=by
 unfold qjr;refine au (zfu fu hfu _ oC (fun x hx=>by rw[List.mem_singleton]at hx;subst hx;simp)) fun x1 _=>au (P:=bu) ⟨_,rfl,trivial⟩ fun x2 _=>ci (fun _=>aw trivial) fun _ => ?_
 obtain⟨n,hn⟩:∃n,fu=n+1+1:=⟨fu-2,oA⟩
 obtain⟨t,ht,hl⟩:=zsl fu hfu ([],(lo,dm)) h1 h2;have fin:Ok bu (nj fu (n+1) [(g,(false,[([],(lo,dm))]))] 1 1 (0,0) [t]):=by
  rw[nj,qjs,dv]
  refine au (q1h _ [t] oC (fun x hx=>by rw[List.mem_singleton]at hx;subst hx;omega) oC) fun x2 _=>db (fun _=>⟨_,rfl,trivial⟩) fun _=>⟨_,rfl,trivial⟩
 have mem:qjx fu ([],(lo,dm))=some t:=by
  unfold qjx;rw[a8,ht];rfl
 have p1:Ok bu (up fu (nj fu (n+1)) (n+1+1) [(g,(false,[([],(lo,dm))]))] 1 0 [([],(lo,dm))] 1 0 (0,0) (g,(false,[([],(lo,dm))])) [] []):=by
  rw[up,qjt,bq]
  rw[show am [(([]:Bs),(lo,dm))] (0:Int)=some ([],(lo,dm)) from rfl,qB,mem,qB]
  refine cr (by simp[ao]) ?_
  rw[show ae ((0:Int)+1)=1 from rfl,up,qjt,dv,List.nil_append]
  have e:jt [t] [44,32]=some t:=by
   unfold jt;rw[Lib.join_one,bq ⟨oC,oA⟩]
  rw[e,qB,ax]
  unfold qju qqx;refine cr (by simp[ao]) ?_
  rw[show ae ((0:Int)+1)=1 from rfl,List.nil_append]
  exact fin
 have:Ok bu (nj fu (n+1+1) [(g,(false,[([],(lo,dm))]))] 1 0 (0,0) []):=by
  rw[nj,qjs,bq]
  rw[show am [(g,(false,[(([]:Bs),(lo,dm))]))] (0:Int)=some (g,(false,[([],(lo,dm))])) from rfl,qB]
  rw[show up fu (nj fu (n+1)) fu=up fu (nj fu (n+1)) (n+1+1) by rw[← hn]]
  exact p1
 rw[show nj fu fu=nj fu (n+1+1) by rw[← hn]]
 exact this
def zhn(fu:Nat)(hfu:90000000<=fu)(s:Bs):Ok bu (qfl fu s):=by
 unfold qfl;refine au (zyb fu hfu s) fun x1 h1=>au (P:=bu) ⟨_,rfl,trivial⟩ fun x2 _ => ?_
 obtain⟨l,f⟩:=x1;obtain⟨_,h1⟩:=h1;have pt:Ok bu (yg fu s l true f):=aw trivial;refine ci (fun _=>pt) fun _ => ?_
 by_cases hl:(l.length:Int)=1
 ·rw[ax (by simp[hl])]
  obtain⟨x,rfl⟩:∃x,l=[x]:=by
   match l,hl with|[w],_=>exact⟨w,rfl⟩|[],h=>simp at h|_::_::_,h=>simp only[qL]at h;omega
  obtain⟨_,h3,h4⟩:=h1 x qH;obtain⟨g,b,ms⟩:=x;rw[show am [(g,(b,ms))] (0:Int)=some (g,(b,ms)) from rfl]
  simp only[qB];cases b
  ·rw[ax rfl];have hm:=h4 rfl;obtain⟨a,rfl⟩:∃a,ms=[a]:=by
    match ms,hm with|[w],_=>exact⟨w,rfl⟩|[],h=>simp at h|_::_::_,h=>simp only[qL]at h;omega
   obtain⟨h5,h6⟩:=h3 a qH;obtain⟨d,lo,dm⟩:=a;rw[show am [(d,(lo,dm))] (0:Int)=some (d,(lo,dm)) from rfl,qB]
   by_cases hd:d=[]
   ·subst hd;rw[show(!((([]:Bs),(lo,dm)).1==([]:Bs)))=false from rfl]
    unfold yg qtn;rw[ax rfl];exact au (zyq fu hfu g lo dm h5 h6) fun x1 _=>au (P:=bu) ⟨_,rfl,trivial⟩ fun x2 _=>gd (fun _=>aw trivial) fun _=>aw trivial
   ·rw[show(!((d,(lo,dm)).1==([]:Bs)))=true by simp[hd]];exact pt
  ·rw[a8 rfl];exact pt
 ·rw[a8 (by simp[hl])];exact pt
def qob(fu:Nat)(hfu:90000000<=fu)(s:Bs):Ok bu (yh s):=by
 unfold yh;refine db (fun _=>aw trivial) fun h => ?_
 unfold im qlg;refine au (cr (P:=bu) oA (aw trivial)) fun x1 _=>gd (fun _=>aw trivial) fun _=>au (P:=bu) (au (P:=bu) ?_ fun _ _=>aw trivial) fun _ _=>ci (fun _=>aw trivial) fun _=>aw trivial
 rcases zhf 13 s with e|⟨w,r,_,e⟩
 ·exact⟨_,e,trivial⟩
 ·exact⟨_,e,trivial⟩
def ztn(fu:Nat)(hfu:90000000<=fu)(l:List (Bs×Int))(g:Bs×Int)(hl:l.length<=1000)(n:Nat):∀k:Nat,l.length-k<n->Ok bu (qf0 fu n l (l.length:Int) (k:Int) g):=by
 induction n with
 |zero=>intro k h;omega|succ n ih=>
  intro k h;rw[qf0,qvm];refine db (fun h0=>au (gx (k:=k) oA) fun y _ => ?_) fun _=>aw trivial
  unfold qtl;rw[qB];refine ci (fun _=>aw trivial) fun _ => ?_
  rw[fb k]
  exact ih (k+1) oA
def zvp(fu:Nat)(hfu:90000000<=fu)(l:List (Bs×Int))(hl:l.length<=30)(z:Int×Int)(n:Nat):∀k:Nat,l.length-k<n->Ok bu (qbi fu n l l (l.length:Int) (k:Int) z):=by
 induction n with
 |zero=>intro k h;omega|succ n ih=>
  intro k h;rw[qbi,qtm];refine db (fun h0=>au (gx (k:=k) oA) fun y _=>au (zhn fu hfu y.1) fun x2 _=>gd (fun _=>⟨_,rfl,trivial⟩) fun _ => ?_) fun _=>⟨_,rfl,trivial⟩
  have p:∀b,Ok bu (qfk fu (qbi fu n) l (k:Int) l (l.length:Int) (k:Int) b z y):=fun b=>by
   unfold qfk qvh qvl;refine ci (fun _=>⟨_,rfl,trivial⟩) fun _=>cr oA (au (P:=bu) (au (ztn fu hfu (List.take (k:Int).toNat l) y (by rw[List.length_take];omega) fu 0 (by rw[List.length_take];omega)) fun _ _=>aw trivial) fun x2 _=>ci (fun _=>⟨_,rfl,trivial⟩) fun _ => ?_)
   rw[fb k]
   exact ih (k+1) oA
  exact db (fun _=>p _) fun _=>p _
def zvq(fu:Nat)(hfu:90000000<=fu)(l:List (Bs×Int)):Ok bu (qkr fu l):=by
 unfold qkr;exact db (fun _=>⟨_,rfl,trivial⟩) fun h=>zvp fu hfu l oA _ fu 0 oA
abbrev qyn:Type:=Bs×Int×Int×Bs×Bs×Bs×(List (Bs×Int))×Bs×cf×Int×dj
def zwl(fu:Nat)(hfu:90000000<=fu)(e:qyn)(hn:e.2.2.2.2.2.2.2.1.length<=80000000)(hw:e.2.2.2.2.2.2.2.2.2.2.2.2.2.2.2.1.length<=80000000):Ok bu (qkp fu e):=by
 have t5:∀b z,Ok bu (qfj fu b e z):=fun b z=>by
  unfold qfj;refine ci (fun _=>⟨_,rfl,trivial⟩) fun _ => ?_
  rw[zl3 fu oA _,qB]
  exact au (P:=bu) ⟨_,rfl,trivial⟩ fun x3 _=>ci (fun _=>⟨_,rfl,trivial⟩) fun _=>⟨_,rfl,trivial⟩
 have t4:∀z,Ok bu (qkq fu e z):=fun z=>by
  unfold qkq;refine au (zvq fu hfu _) fun x1 _=>au (P:=bu) ⟨_,rfl,trivial⟩ fun x2 _=>ci (fun _=>aw trivial) fun _ => ?_
  rw[qqo fu _ oG oG,qB]
  refine au (P:=bu) ⟨_,rfl,trivial⟩ fun x4 _=>ci (fun _=>⟨_,rfl,trivial⟩) fun _ => ?_
  rw[q62 fu oA _ oC oD,qB]
  exact au (P:=bu) ⟨_,rfl,trivial⟩ fun x7 _=>ci (fun _=>⟨_,rfl,trivial⟩) fun _=>db (fun _=>t5 _ _) fun _=>t5 _ _
 have t3:∀b z,Ok bu (qfi fu b e z):=fun b z=>by
  unfold qfi;exact ci (fun _=>⟨_,rfl,trivial⟩) fun _=>t4 _
 have t2:∀b z,Ok bu (qfh fu b e z):=fun b z=>by
  unfold qfh;exact ci (fun _=>⟨_,rfl,trivial⟩) fun _=>au (qob fu hfu _) fun x2 _=>ci (fun _=>au (qob fu hfu _) fun x3 _=>⟨_,rfl,trivial⟩) fun _=>au (qob fu hfu _) fun x5 _=>ci (fun _=>au (qob fu hfu _) fun x3 _=>⟨_,rfl,trivial⟩) fun _=>gd (fun _=>au (zhn fu hfu _) fun x8 _=>t3 _ _) fun _=>t3 _ _
 have t1:∀b z,Ok bu (qfg fu b e z):=fun b z=>by
  unfold qfg;exact ci (fun _=>⟨_,rfl,trivial⟩) fun _=>db (fun _=>t2 _ _) fun _=>t2 _ _
 have t0:∀b z,Ok bu (qbh fu b e z):=fun b z=>by
  unfold qbh;exact ci (fun _=>⟨_,rfl,trivial⟩) fun _=>db (fun _=>t1 _ _) fun _=>t1 _ _
 unfold qkp;exact ci (fun _=>t0 _ _) fun _=>db (fun _=>t0 _ _) fun h=>au (zrv fu hfu _) fun x1 _=>t0 _ _
open Cal Zn
def fz(n:Bs)(a:Int):bt:=(n,(a,(0,((0,(0,(0,0))),(0,(0,(0,0)))))))
def zgz(n:Bs)(a:Int):gp (fz n a):=⟨rfl,rfl,rfl,rfl⟩
def zib(n:Bs)(a:Int)(d:cf)(i:Int):sr (fz n a) d i=[cq (later d i)-60*a]:=by
 unfold sr nd ua;rw[qX (zgz n a),qX (zgz n a),qX (show(fz n a).2.1=(fz n a).2.1 from rfl)]
 rfl
def ztj(n:Bs)(a b:Int)(r:dj)(d:cf)(i:Int):nw (fz n a) r d i=(nw (fz n b) r d i).map (·+60*(b-a)):=by
 unfold nw;rw[zib,zib];split
 ·simp only[List.head?_cons,wQ];congr 1;omega
 ·rfl
def zg0(c c':Int->Option Int)(k:Int)(h:∀a,c a=(c' a).map (·+k))(cnt:Int):∀(n:Nat)(many a:Int),iu c false 0 cnt n many a=(iu c' false 0 cnt n many a).map (·+k)
 |0,_,_=>rfl|n+1,many,a=>by
  have ih:=zg0 c c' k h cnt n;unfold iu;rw[h a]
  cases c' a with
  |none=>exact ih many (a+1)|some t=>
   simp only[wQ,wJ,false_and,if_false];by_cases q:many+1=cnt
   ·rw[qX q,qX q];rfl
   ·rw[qW q,qW q,ih (many+1) (a+1)];rfl
abbrev gf(r:dj):dj:=(r.1,(r.2.1,(r.2.2.1,(0,(false,(r.2.2.2.2.2.1,([],[])))))))
def zy6(n:Bs)(a b:Int)(r:dj)(d:cf):nf (fz n a) (gf r) d=(nf (fz n b) (gf r) d).map (·+60*(b-a)):=
 zg0 _ _ _ (fun i=>ztj n a b (gf r) d i) _ 1501 0 0
def zgy{n:Bs}{a:Int}(h:(eh (fz n a)).1=0) : -900<=a/\a<=900:=by
 unfold eh at h;by_cases c1:qc1 (fz n a).1=false
 ·rw[qX c1]at h;simp at h
 ·rw[qW c1]at h;by_cases c2:¬(-900<=(fz n a).2.1/\(fz n a).2.1<=900)
  ·rw[qX c2]at h;simp at h
  ·exact Classical.not_not.1 c2
def z0b(fu:Nat)(a b:Int)(ha : -900<=a/\a<=900)(hb : -900<=b/\b<=900)(m:List Int)(hm:∀x∈m,-1000000000000<=x/\x<=1000000000000)(hl:m.length<=2000)(n:Nat):∀k:Nat,m.length-k<n ->
  qei fu n a b (k:Int) (m.map (·+60*(b-a))) m=some true:=by
 induction n with
 |zero=>intro k h;omega|succ n ih=>
  intro k h;rw[qei,qqq];by_cases h0:k<m.length
  ·rw[bq,zz,kq _ k oD,qB,zz,kq _ k h0,qB,List.getElem_map]
   have hx:=hm _ (List.getElem_mem h0);rw[ax ?_,fb k]
   ·exact ih (k+1) oA
   ·rw[bf (x:=b-a) oA oA,bf (x:=60*(b-a)) oA oA,bf (x:=m[k]+60*(b-a)-m[k]) oA oA]
    simp;omega
  ·rw[dv]
def zxd:qqs 100000000=some true:=oB
def zwt(e:qyn)(a b:Int)(hn:e.2.2.2.2.2.2.2.1.length<=80000000)(hw:e.2.2.2.2.2.2.2.2.2.2.2.2.2.2.2.1.length<=80000000):qas 100000000 e a b=some true:=by
 unfold qas;rw[zxd,qB,ax]
 obtain⟨u,me,sq,su,pl,og,gs,nm,d,le,r⟩:=e;have ra:=ze6 100000000 oA (fz nm a) (by show(nm.length:Int)<_;simp only[]at hn;omega) (by show nm.length<_;simp only[]at hn;omega) d (gf r) (by simp only[]at hw;show((r.2.2.2.2.2.1.length:Nat):Int)<_;omega) (-68719476736) 68719476736
 have rb:=ze6 100000000 oA (fz nm b) (by show(nm.length:Int)<_;simp only[]at hn;omega) (by show nm.length<_;simp only[]at hn;omega) d (gf r) (by simp only[]at hw;show((r.2.2.2.2.2.1.length:Nat):Int)<_;omega) (-68719476736) 68719476736
 obtain⟨f,ef,_⟩:=zwl 100000000 oA (u,me,sq,su,pl,og,gs,nm,d,le,gf r) hn hw
 have rb':yj 100000000 (nm,(b,((0:Int),(((0:Int),((0:Int),((0:Int),(0:Int)))),((0:Int),((0:Int),((0:Int),(0:Int)))))))) d (gf r) (-68719476736) 68719476736=some (mc (fz nm b) d (gf r) (-68719476736) 68719476736):=rb;have ro:qko 100000000 (u,me,sq,su,pl,og,gs,nm,d,le,gf r) (nm,(a,((0:Int),(((0:Int),((0:Int),((0:Int),(0:Int)))),((0:Int),((0:Int),((0:Int),(0:Int)))))))) (-68719476736) 68719476736 =
   some (if f.1≠0 then(f,[]) else if(g9 (fz nm a) d (gf r) (-68719476736) 68719476736).1≠0 then(((g9 (fz nm a) d (gf r) (-68719476736) 68719476736).1,-15),[]) else((0,0),vd (fz nm a) d (gf r) (-68719476736) 68719476736)):=by
  unfold qko;rw[ef,qB,zfailed_eq,qB,nu];by_cases c1:f.1≠0
  ·rw[qX c1,qX c1]
  rw[qW c1,qW c1,ax]
  have ra':yj 100000000 (nm,(a,((0:Int),(((0:Int),((0:Int),((0:Int),(0:Int)))),((0:Int),((0:Int),((0:Int),(0:Int)))))))) d (gf r) (-68719476736) 68719476736=some (mc (fz nm a) d (gf r) (-68719476736) 68719476736):=ra;dsimp only;rw[ra',qB,zfailed_eq,qB,nu];by_cases c2:(g9 (fz nm a) d (gf r) (-68719476736) 68719476736).1≠0
  ·rw[ze4 c2,qX c2,qX c2];rfl
  ·rw[ze5 (Classical.not_not.1 c2),qW c2,qW];rfl
 dsimp only at ro ⊢;rw[ro,qB,rb',qB];have tr:∀(f:Int×Int)(m:List Int),f.1≠0->xv 100000000 a b true [] f m=some true:=fun f m h=>by
  unfold xv;rw[a8 rfl,td,qW h];rfl
 by_cases c1:f.1≠0
 ·rw[qX c1,nu,qX c1];exact tr f _ c1
 rw[qW c1];by_cases c2:(g9 (fz nm a) d (gf r) (-68719476736) 68719476736).1≠0
 ·rw[qX c2,nu,qX c2];exact tr _ _ c2
 rw[qW c2,nu,qW]
 have ha:=Classical.not_not.1 c2;by_cases c3:(g9 (fz nm b) d (gf r) (-68719476736) 68719476736).1≠0
 ·rw[ze4 c3];unfold xv;rw[a8 (by simp[c3]),td,qX rfl]
 have hb:=Classical.not_not.1 c3;rw[ze5 hb];obtain⟨_,za,hd,_⟩:=qzx ha;obtain⟨_,zb,_,_⟩:=qzx hb;have la:=zfh za hd (gf r) r.2.2.1;have lb:=zfh zb hd (gf r) r.2.2.1;have e1:vd (fz nm a) d (gf r) (-68719476736) 68719476736=nf (fz nm a) (gf r) d:=la;have e2:vd (fz nm b) d (gf r) (-68719476736) 68719476736=nf (fz nm b) (gf r) d:=lb;have ac:=zju (fz nm b) (gf r) d;unfold xv;rw[ax]
 unfold qqr;dsimp only;rw[e1,e2,zy6 nm a b,ax]
 exact z0b _ a b (zgy za) (zgy zb) _ (fun x hx=>by
  obtain⟨_,_,_,_,q⟩:=zjv zb hd _ hx;omega) oA _ 0 oA
def zu7:Ty := .prod .str (.prod (.int .i64) (.prod (.int .i64) (.prod .str (.prod .str (.prod .str (.prod (.list (.prod .str (.int .i64))) (.prod .str (.prod (.prod (.int .i64) (.prod (.int .i64) (.prod (.int .i64) (.prod (.int .i64) (.prod (.int .i64) (.prod (.int .i64) (.int .i64))))))) (.prod (.int .i64) (.prod (.int .i64) (.prod (.int .i64) (.prod (.int .i64) (.prod (.int .i64) (.prod .bool (.prod (.list (.int .i64)) (.prod (.list (.int .i64)) (.list (.int .i64))))))))))))))))))
def zi6:∀l:List (Ty.den (.int .i64)),(l.map (Ty.bk (.int .i64))).sum=l.length
 |[]=>rfl|x::l=>by
  have:=zi6 l;rw[List.map_cons,List.sum_cons,this,qL];show 1+_=_;omega
def zwu(x:qyn×Int×Int×Unit)(h:bks [zu7,.int .i64,.int .i64] x<=1048576):qas 100000000 x.1 x.2.1 x.2.2.1=some true:=by
 obtain⟨⟨u,me,sq,su,pl,og,gs,nm,d,le,r1,r2,r3,r4,r5,wd,ex,ad⟩,a,b,_⟩:=x;have h:((u.length+1)+(1+(1+((su.length+1)+((pl.length+1)+((og.length+1)+((Ty.list (.prod .str (.int .i64))).bk gs+((nm.length+1)+((Ty.prod (.int .i64) (.prod (.int .i64) (.prod (.int .i64) (.prod (.int .i64) (.prod (.int .i64) (.prod (.int .i64) (.int .i64))))))).bk d+(1+(1+(1+(1+(1+(1+((((wd:List (Ty.den (.int .i64))).map (Ty.bk (.int .i64))).sum+1)+((Ty.list (.int .i64)).bk ex+(Ty.list (.int .i64)).bk ad)))))))))))))))))+bks [.int .i64,.int .i64] (a,(b,()))<=1048576:=h;rw[zi6 wd]at h;refine zwt _ a b ?_ ?_
 ·show nm.length<=80000000;omega
 ·show List.length (α:=Ty.den (.int .i64)) wd<=80000000;omega
end Go.Sym
