/- What the claim rests on, part 6: gathered texts. -/
import Derived.Lib.CountLaws
import Derived.Lib.IndexLaws
import Derived.Lib.Join
import Derived.Test.YtekaipjfmlnggaaGreatDoorSyX4
set_option maxRecDepth 100000
set_option linter.defProp false
set_option linter.unusedSimpArgs false
set_option linter.unusedVariables false
namespace Go.Sym
def bq{x:Int}(a : -9223372036854775808<=x:=by omega)(b:x<9223372036854775808:=by omega):ae x=x:=by
 unfold ae IntKind.wrap;simp[IntKind.signed,IntKind.bits];omega
def ax{α:Type}{b:Bool}{x y:α}(h:b=true:=by first|rfl|simp;done):(bif b then x else y)=x:=by subst h;rfl
def aq{α:Type}{b:Bool}{x y:α}(h:b=false:=by first|rfl|simp;done):(bif b then x else y)=y:=by subst h;rfl
def ln{α:Type}{p:Prop}[Decidable p]{x y:α}:(bif decide p then x else y)=if p then x else y:=by by_cases h:p<;>simp[h]
def ag{α:Type}{p:Prop}[Decidable p]{x y:α}(h:p):(bif decide p then x else y)=x:=ax (decide_eq_true h)
def bf{α:Type}{p:Prop}[Decidable p]{x y:α}(h:¬p:=by first|omega|simp;done|simp;omega):(bif decide p then x else y)=y:=aq (decide_eq_false h)
def o7{α:Type}{p:Prop}[Decidable p]{x y:α}:(bif !decide p then x else y)=if p then y else x:=by by_cases h:p<;>simp[h]
def fh{α:Type}{a b:Int}{x y:α}:(bif a != b then x else y)=if a≠b then x else y:=by
 by_cases h:a=b
 ·rw[aq (by simp[h]),qW (by simp[h])]
 ·rw[ax (by simp[h]),qX h]
def gU{α:Type}{a b:Int}{x y:α}:(bif a==b then x else y)=if a=b then x else y:=by
 by_cases h:a=b
 ·rw[ax (by simp[h]),qX h]
 ·rw[aq (by simp[h]),qW h]
def qjc{α:Type}{a b:UInt8}{x y:α}:(bif a==b then x else y)=if a=b then x else y:=by
 by_cases h:a=b
 ·rw[ax (by simp[h]),qX h]
 ·rw[aq (by simp[h]),qW h]
def Mt{α:Type}{p:Prop}[Decidable p]{x y:α}:(if p then some x else some y)=some (if p then x else y):=by split<;>rfl
def qa6{α β:Type}(l:List α)(i:Int)(f:α->Option β):(bif decide (0<=i/\i.toNat<List.length l) then(l[i.toNat]?).bind f else none)=(aj l i).bind f:=by
 unfold aj;by_cases h:0<=i
 ·by_cases a:i.toNat<l.length
  ·simp[h,a]
  ·simp[h,a]
 ·simp[h]
def fv{α:Type}(l:List α)(k:Nat)(h:k<l.length:=by omega):aj l (k:Int)=some l[k]:=by
 unfold aj;rw[qX];simp[h]
def dp{α:Type}(a:List α)(c:α)(b:List α):aj (a++c::b) (a.length:Int)=some c:=by
 unfold aj;rw[qX];simp
def oE{α:Type}(a:List α)(c:α)(b:List α):(a++c::b)[((a.length:Nat):Int).toNat]? = some c:=Td
def oZ{α:Type}(a:List α)(c d:α)(b:List α):List.set (a++c::b) ((a.length:Nat):Int).toNat d=a++d::b:=Td
def lu(k:Nat)(h:k<9223372036854775807:=by omega):ae ((k:Int)+1)=((k+1:Nat):Int):=by rw[bq];omega
def o8(P:UInt8->Prop)(h:∀n:_root_.Fin 256,P (UInt8.ofNat n.val))(c:UInt8):P c:=by
 have:=h ⟨c.toNat,c.toNat_lt⟩;simpa using this
def lo(c:UInt8):UInt8:=if 65<=c/\c<=90 then c+32 else c
def bl(c:UInt8):Bool:=c==32||c==9
def quv(n:Nat)(h:n<1000000000:=by omega):ae (((n+1:Nat):Int)-1)=(n:Int):=by rw[bq];omega
def qcg{α:Type}(a:List α)(b:List α):List.take ((a.length:Nat):Int).toNat (a++b)=a:=Td
def Ky{α:Type}(a:List α)(c:α)(b:List α):List.drop ((a.length+1:Nat):Int).toNat (a++c::b)=b:=by
 rw[show((a.length+1:Nat):Int).toNat=(a++[c]).length by simp,show a++c::b=(a++[c])++b by simp]
 simp
def RN{α:Type}(b:List α)(c:α)(a:List α):((b++c::a).length:Int)=((b.length+a.length+1:Nat):Int):=by simp;omega
def RM{α:Type}(b:List α)(a:List α):((b++a).length:Int)=((b.length+a.length:Nat):Int):=Td
def AU(k:UInt8):∀(s:List UInt8),(∃t r,s=t++k::r/\∀x∈t,x≠k)\/∀x∈s,x≠k
 |[] => .inr (fun _ h=>by cases h)
 |c::s=>by
  by_cases a:c=k
  ·subst a;exact .inl ⟨[],s,rfl,fun _ h=>by cases h⟩
  ·rcases AU k s with⟨t,r,rfl,h⟩|h
   ·exact .inl ⟨c::t,r,rfl,fun x b=>(List.mem_cons.1 b).elim (fun e=>e▸a) (h x)⟩
   ·exact .inr fun x b=>(List.mem_cons.1 b).elim (fun e=>e▸a) (h x)
def qjd{α:Type}{x y:α}:(bif !false then x else y)=x:=rfl
def nA{α:Type}{x y:α}:(bif !true then x else y)=y:=rfl
def Lh(c:UInt8):(c+97)-65=c+32:=by
 rw[UInt8.sub_eq_add_neg,UInt8.add_assoc];rfl
def Aw(i:Nat):∀(n:Nat)(a b:List UInt8),b.length<n->a.length+b.length<=9223372036854775807 ->
  za i n ((a.length+b.length:Nat):Int) (a.length:Int) (a++b)=some (a++b.map lo)
 |0,_,_,h,_=>absurd h Ta|n+1,a,[],_,_=>by simp[za,lJ]|n+1,a,c::b,h,hb=>by
  simp only[qL]at h hb;have g:=fun d=>Aw i n (a++[d]) b Ta Te
  simp only[qM,qL,qZ,qS,wM,wO]at g;have e:((a.length+(c::b).length:Nat):Int)=((a.length+1+b.length:Nat):Int):=by simp only[qL];omega
  have k:0<=(a.length:Int)/\(a.length:Int).toNat<(a++c::b).length:=Td
  rw[e];simp only[za,lJ];rw[ag Ta,ag k,oE,qB,oZ,lu _,ln,ln,g,g,ag k,qB]
  unfold lo;simp only[List.map_cons,Lh];by_cases f:(65:UInt8)<=c
  ·by_cases j:c<=90
   ·simp[f,j]
   ·simp[f,j]
  ·simp[f]
def Ln(a:Nat)(s:List UInt8)(h:s.length<a)(b:s.length<=maxLen):fU a s=some (s.map lo):=by
 unfold fU;rw[ag b];have:=Aw a a [] s h (by simpa [maxLen] using b)
 simpa using this
def ku(x a b:Int):ck x a b=some (decide (a<=x/\x<=b)):=by
 unfold ck;by_cases h:a<=x<;>simp[h]
def AX(a b:UInt8):((a.toNat:Int)<=(b.toNat:Int))↔a<=b:=by rw[UInt8.le_iff_toNat_le];omega
def AI(k:Nat):∀(n:Nat)(a b:List UInt8),b.length<n->a.length+b.length<=9223372036854775807 ->
  yu k n (a.length:Int) (a++b)=some (a++b.map lo)
 |0,_,_,h,_=>absurd h Ta|n+1,a,[],_,_=>by simp[yu,kH]|n+1,a,c::b,h,hb=>by
  simp only[qL]at h hb;have j:=fun d=>AI k n (a++[d]) b Ta Te
  simp only[qM,qL,qZ,qS,wM,wO]at j;have i:0<=(a.length:Int)/\(a.length:Int).toNat<(a++c::b).length:=Td
  simp only[yu,kH];rw[ag Te,ag i,oE,qB,ku,qB,lu _,ln,ag i,qB,ag i,qB,oZ,j,j]
  unfold lo;simp only[List.map_cons];have f:=AX 65 c;have g:=AX c 90;have l:((65:UInt8).toNat:Int)=65:=rfl;have m:((90:UInt8).toNat:Int)=90:=rfl;rw[l]at f;rw[m]at g;by_cases e:(65:UInt8)<=c/\c<=90
  ·rw[qX ⟨f.2 e.1,g.2 e.2⟩,qX e]
  ·rw[qW (fun q=>e ⟨f.1 q.1,g.1 q.2⟩),qW e]
def iU(a:Nat)(s:List UInt8)(h:s.length<a)(b:s.length<=maxLen):yt a s=some (s.map lo):=by
 unfold yt;rw[ag b];have:=AI a a [] s h (by simpa [maxLen] using b)
 simpa using this
def qjo(c:Nat)(a b:List UInt8)(f:a.length<c)(g:b.length<c)(d:a.length<=maxLen)(e:b.length<=maxLen):bU c a b=some (a.map lo==b.map lo):=by
 unfold bU;rw[gU,Ln c a f d,Ln c b g e];by_cases h:(a.length:Int)=b.length
 ·rw[qX h];rfl
 ·rw[qW h];have:(a.map lo==b.map lo)=false:=by
   rw[beq_eq_false_iff_ne];intro q;apply h;have:=congrArg List.length q;simp only[wC]at this;omega
  rw[this]
def Ps(c:Nat)(a b:List UInt8)(f:a.length<c)(g:b.length<c)(d:a.length<=maxLen)(e:b.length<=maxLen):jX c a b=some (a.map lo==b.map lo):=by
 unfold jX;rw[iU c a f d,iU c b g e];rfl
open Go.Lib (decodeL decodeN decodeL_N validD validD_step decodeL_le decodeL_width)
def rn(l:Bs):Int×Int:=if(decodeL l).1=65533/\(decodeL l).2=1 then(-1,1) else(((decodeL l).1:Nat),((decodeL l).2:Nat))
def FF(a b:Nat)(h:a+b<9223372036854775808:=by omega):ae ((a:Int)+(b:Int))=((a+b:Nat):Int):=by rw[bq];omega
def qm1{α:Type}(a l:List α)(k:Nat)(h:k<l.length):aj (a++l) ((a.length+k:Nat):Int)=some l[k]:=by
 rw[fv _ _ Te];simp
def qm2(a l:Bs)(k:Nat)(h:k<l.length):aj (a++l) ((a.length+k:Nat):Int)=some (l.getD k 0):=by
 rw[qm1 a l k h];simp[List.getD,h]
def oR(d n:Nat)(c l:Bs)(a v b k:Nat)(i:k<a:=by omega)(f:k<l.length:=by omega)(m:v<10000000:=by omega)(g:c.length+l.length<1000000000:=by omega)(j:a<=4:=by omega) :
  yw d (n+1) (c++l) (c.length:Int) (a:Int) (v:Int) (b:Int) (k:Int) =
   if 128<=(l.getD k 0).toNat/\(l.getD k 0).toNat<=191 then yw d n (c++l) (c.length:Int) (a:Int) ((64*v+(l.getD k 0).toNat-128:Nat):Int) (b:Int) ((k+1:Nat):Int) else some (-1,1):=by
 have e:(l.getD k 0).toNat<256:=(l.getD k 0).toNat_lt;rw[yw,BK,ag Ta,FF _ _,qm2 c l k f,qB,ku,qB,lu k]
 generalize (l.getD k 0).toNat=x at e;by_cases h:128<=x/\x<=191
 ·rw[qX h,decide_eq_true Ta,nA,show(64:Int)*(v:Int)=((64*v:Nat):Int) by omega,bq (x:=((64*v:Nat):Int)) Ta Ta,bq (x:=((64*v:Nat):Int)+(x:Int)) Ta Ta,bq]
  congr 1;omega
 ·rw[qW h,decide_eq_false Ta,qjd]
def LM(c n:Nat)(s:Bs)(i:Int)(b v a:Nat) :
  yw c (n+1) s i (b:Int) (v:Int) (a:Int) (b:Int)=if v<a\/1114111<v\/(55296<=v/\v<=57343) then some (-1,1) else some ((v:Int),(b:Int)):=by
 rw[yw,BK,bf]
 by_cases d:v<a
 ·rw[ag Ta,qX (.inl d)]
 rw[bf]
 by_cases e:1114111<v
 ·rw[ag Ta,qX (.inr (.inl e))]
 rw[bf,ku,qB]
 by_cases f:55296<=v/\v<=57343
 ·rw[ag Ta,qX (.inr (.inr f))]
 ·rw[bf,qW Ta]
def LL(d:Nat)(c l:Bs)(a v b:Nat)(h:l.length<a)(f:a<=4:=by omega)(e:c.length+l.length<1000000000:=by omega):yv d (c++l) (c.length:Int) (a:Int) (v:Int) (b:Int)=some (-1,1):=by
 rw[yv,gU,qW Ta,FF _ _,sP,ag (by rw[RM];omega)]
def LK(d:Nat)(c l:Bs)(a v b:Nat)(h:¬l.length<a)(e:a≠0:=by omega)(g:a<=4:=by omega)(f:c.length+l.length<1000000000:=by omega):yv d (c++l) (c.length:Int) (a:Int) (v:Int) (b:Int)=yw d d (c++l) (c.length:Int) (a:Int) (v:Int) (b:Int) ((1:Nat):Int):=by
 rw[yv,gU,qW Ta,FF _ _,sP,bf (by rw[RM];omega)];rfl
def zW(x:Nat×Nat):Int×Int:=if x.1=65533/\x.2=1 then(-1,1) else((x.1:Nat),(x.2:Nat))
def oA:zW (65533,1)=(-1,1):=rfl
def KB(x k:Nat)(h:k≠1):zW (x,k)=((x:Int),(k:Int)):=qW (fun q=>h q.2)
def tc(n b0 a b c:Nat):Int×Int:=zW (decodeN n b0 a b c)
def qr9(n b0 a b c:Nat)(h:b0<128):tc n b0 a b c=((b0:Int),1):=by
 unfold tc decodeN;rw[qX h];unfold zW;rw[qW (fun q=>by have:=q.1;simp only at this;omega)];rfl
def qsa(n b0 a g i:Nat)(h:192<=b0/\b0<=223)(l:a<256):tc n b0 a g i=if n<2 then(-1,1) else if 128<=a/\a<=191 then(if(64*(b0-192)+a-128)<128\/1114111<(64*(b0-192)+a-128)\/(55296<=(64*(b0-192)+a-128)/\(64*(b0-192)+a-128)<=57343) then(-1,1) else(((64*(b0-192)+a-128:Nat):Int),2)) else(-1,1):=by
 unfold tc decodeN;rw[qW (c:=b0<128) Ta]
 by_cases d:b0/32=6/\(1<n/\a/64=2)
 ·rw[qX d,qW (c:=n<2) Ta,qX (c:=128<=a/\a<=191) Ta]
  obtain⟨z,k⟩:∃z,b0%32*64+a%64=z:=⟨_,rfl⟩;obtain⟨y,j⟩:∃y,64*(b0-192)+a-128=y:=⟨_,rfl⟩;have b:z=y:=Ta
  have m:y<2048:=Ta
  rw[k,j,b];by_cases e:y ≥ 128
  ·rw[qX e,KB _ _ Tf,qW Ta];rfl
  ·rw[qW e,oA,qX]
 ·rw[qW d,qW (c:=b0/16=14/\_) Ta,qW (c:=b0/8=30/\_) Ta,oA]
  by_cases f:n<2
  ·rw[qX f]
  ·rw[qW f,qW Ta]
def qsb(n b0 a b j:Nat)(h:224<=b0/\b0<=239)(m:a<256)(o:b<256):tc n b0 a b j=if n<3 then(-1,1) else if 128<=a/\a<=191 then(if 128<=b/\b<=191 then(if(64*(64*(b0-224)+a-128)+b-128)<2048\/1114111<(64*(64*(b0-224)+a-128)+b-128)\/(55296<=(64*(64*(b0-224)+a-128)+b-128)/\(64*(64*(b0-224)+a-128)+b-128)<=57343) then(-1,1) else(((64*(64*(b0-224)+a-128)+b-128:Nat):Int),3)) else(-1,1)) else(-1,1):=by
 unfold tc decodeN;rw[qW (c:=b0<128) Ta,qW (c:=b0/32=6/\_) Ta]
 by_cases e:b0/16=14/\(1<n/\a/64=2)/\(2<n/\b/64=2)
 ·rw[qX e,qW (c:=n<3) Ta,qX (c:=128<=a/\a<=191) Ta,qX (c:=128<=b/\b<=191) Ta]
  obtain⟨z,l⟩:∃z,b0%16*4096+a%64*64+b%64=z:=⟨_,rfl⟩;obtain⟨y,k⟩:∃y,64*(64*(b0-224)+a-128)+b-128=y:=⟨_,rfl⟩;have d:z=y:=Ta
  have p:y<65536:=Ta
  rw[l,k,d];by_cases f:y ≥ 2048/\(y<55296\/(57344<=y/\y<=1114111))
  ·rw[qX f,KB _ _ Tf,qW Ta];rfl
  ·rw[qW f,oA,qX]
 ·rw[qW e,qW (c:=b0/8=30/\_) Ta,oA]
  by_cases g:n<3
  ·rw[qX g]
  ·rw[qW g];by_cases i:128<=a/\a<=191
   ·rw[qX i,qW Ta]
   ·rw[qW i]
def qsc(n b0 a b d:Nat)(h:240<=b0/\b0<=247)(o:a<256)(p:b<256)(q:d<256):tc n b0 a b d=if n<4 then(-1,1) else if 128<=a/\a<=191 then(if 128<=b/\b<=191 then(if 128<=d/\d<=191 then(if(64*(64*(64*(b0-240)+a-128)+b-128)+d-128)<65536\/1114111<(64*(64*(64*(b0-240)+a-128)+b-128)+d-128)\/(55296<=(64*(64*(64*(b0-240)+a-128)+b-128)+d-128)/\(64*(64*(64*(b0-240)+a-128)+b-128)+d-128)<=57343) then(-1,1) else(((64*(64*(64*(b0-240)+a-128)+b-128)+d-128:Nat):Int),4)) else(-1,1)) else(-1,1)) else(-1,1):=by
 unfold tc decodeN;rw[qW (c:=b0<128) Ta,qW (c:=b0/32=6/\_) Ta,qW (c:=b0/16=14/\_) Ta]
 by_cases f:b0/8=30/\(1<n/\a/64=2)/\(2<n/\b/64=2)/\(3<n/\d/64=2)
 ·rw[qX f,qW (c:=n<4) Ta,qX (c:=128<=a/\a<=191) Ta,qX (c:=128<=b/\b<=191) Ta,qX (c:=128<=d/\d<=191) Ta]
  obtain⟨z,m⟩:∃z,b0%8*262144+a%64*4096+b%64*64+d%64=z:=⟨_,rfl⟩;obtain⟨y,l⟩:∃y,64*(64*(64*(b0-240)+a-128)+b-128)+d-128=y:=⟨_,rfl⟩;have e:z=y:=Ta
  rw[m,l,e];by_cases g:y ≥ 65536/\(y<55296\/(57344<=y/\y<=1114111))
  ·rw[qX g,KB _ _ Tf,qW Ta];rfl
  ·rw[qW g,oA,qX]
 ·rw[qW f,oA];by_cases i:n<4
  ·rw[qX i]
  ·rw[qW i];by_cases j:128<=a/\a<=191
   ·rw[qX j];by_cases k:128<=b/\b<=191
    ·rw[qX k,qW Ta]
    ·rw[qW k]
   ·rw[qW j]
def qsd(n b0 a b d:Nat)(h:(128<=b0/\b0<192)\/248<=b0)(e:b0<256):tc n b0 a b d=(-1,1):=by
 unfold tc decodeN;rw[qW (c:=b0<128) Ta,qW (c:=b0/32=6/\_) Ta,qW (c:=b0/16=14/\_) Ta,qW (c:=b0/8=30/\_) Ta];rfl
def qrl(l:Bs):rn l=tc l.length (l.getD 0 0).toNat (l.getD 1 0).toNat (l.getD 2 0).toNat (l.getD 3 0).toNat:=by unfold rn tc zW;rw[decodeL_N]
def Mn(e:Nat)(s:10<=e)(a:Bs)(c:UInt8)(t:Bs)(u:a.length+t.length<100000000:=by omega):fE e (a++c::t) (a.length:Int)=some (rn (c::t)):=by
 have v:(c::t).length=t.length+1:=rfl;obtain⟨n,rfl⟩:∃n,e=n+10:=⟨e-10,Ta⟩
 rw[qrl,show(c::t).getD 0 0=c from rfl]
 generalize i:c::t=l at *;have h:=(l.getD 1 0).toNat_lt;have j:=(l.getD 2 0).toNat_lt;have k:=(l.getD 3 0).toNat_lt;have r:=c.toNat_lt;unfold fE;rw[show aj (a++l) (a.length:Int)=some c by rw[← i];exact dp a c t,qB]
 by_cases m:c.toNat<128
 ·rw[ag Ta,qr9 _ _ _ _ _ m]
 rw[bf,ku,qB]
 by_cases o:192<=c.toNat/\c.toNat<=223
 ·rw[ag Ta,qsa _ _ _ _ _ o h,bq,show(c.toNat:Int)-192=((c.toNat-192:Nat):Int) by omega]
  by_cases g:l.length<2
  ·rw[qX g];exact LL (n+10) a l 2 _ 128 g
  ·rw[qW g];refine(LK (n+10) a l 2 _ 128 g).trans ?_
   rw[oR (n+10) (n+9) a l 2 _ 128 1]
   by_cases b:128<=(l.getD 1 0).toNat/\(l.getD 1 0).toNat<=191
   ·rw[qX b,qX b];refine(LM (n+10) (n+8) _ _ 2 _ 128).trans ?_;rw[Mt];rfl
   ·rw[qW b,qW b]
 rw[bf,ku,qB]
 by_cases p:224<=c.toNat/\c.toNat<=239
 ·rw[ag Ta,qsb _ _ _ _ _ p h j,bq,show(c.toNat:Int)-224=((c.toNat-224:Nat):Int) by omega]
  by_cases g:l.length<3
  ·rw[qX g];exact LL (n+10) a l 3 _ 2048 g
  ·rw[qW g];refine(LK (n+10) a l 3 _ 2048 g).trans ?_
   rw[oR (n+10) (n+9) a l 3 _ 2048 1]
   by_cases b:128<=(l.getD 1 0).toNat/\(l.getD 1 0).toNat<=191
   ·rw[qX b,qX b,oR (n+10) (n+8) a l 3 _ 2048 2]
    by_cases d:128<=(l.getD 2 0).toNat/\(l.getD 2 0).toNat<=191
    ·rw[qX d,qX d];refine(LM (n+10) (n+7) _ _ 3 _ 2048).trans ?_;rw[Mt];rfl
    ·rw[qW d,qW d]
   ·rw[qW b,qW b]
 rw[bf,ku,qB]
 by_cases q:240<=c.toNat/\c.toNat<=247
 ·rw[ag Ta,qsc _ _ _ _ _ q h j k,bq,show(c.toNat:Int)-240=((c.toNat-240:Nat):Int) by omega]
  by_cases g:l.length<4
  ·rw[qX g];exact LL (n+10) a l 4 _ 65536 g
  ·rw[qW g];refine(LK (n+10) a l 4 _ 65536 g).trans ?_
   rw[oR (n+10) (n+9) a l 4 _ 65536 1]
   by_cases b:128<=(l.getD 1 0).toNat/\(l.getD 1 0).toNat<=191
   ·rw[qX b,qX b,oR (n+10) (n+8) a l 4 _ 65536 2]
    by_cases d:128<=(l.getD 2 0).toNat/\(l.getD 2 0).toNat<=191
    ·rw[qX d,qX d,oR (n+10) (n+7) a l 4 _ 65536 3]
     by_cases f:128<=(l.getD 3 0).toNat/\(l.getD 3 0).toNat<=191
     ·rw[qX f,qX f];refine(LM (n+10) (n+6) _ _ 4 _ 65536).trans ?_;rw[Mt];rfl
     ·rw[qW f,qW f]
    ·rw[qW d,qW d]
   ·rw[qW b,qW b]
 rw[bf,qsd _ _ _ _ _ Ta r]
 rfl
def qa4(l:Bs):(rn l).1<0↔((decodeL l).1=65533/\(decodeL l).2=1):=by
 unfold rn;split
 ·rename_i h;exact⟨fun _=>h,fun _=>Tf⟩
 ·rename_i h;exact⟨fun q=>absurd q Tu,fun q=>absurd q h⟩
def qa5(l:Bs):(rn l).2=((decodeL l).2:Int):=by
 unfold rn;split
 ·rename_i h;rw[h.2];rfl
 ·rfl
def qup(f n:Nat)(g:10<=f):∀(d b:Bs),b.length<n->d.length+b.length<100000000->sY f n (d++b) (d.length:Int)=some (validD b):=by
 induction n with
 |zero=>intro d b h;omega|succ n ih=>
  intro d b h i;rw[sY,GM]
  cases b with
  |nil=>rw[bf];rfl|cons c t=>
   have j:=decodeL_width (c::t);have e:=decodeL_le (c::t) Td
   simp only[qL]at h i;rw[ag (by rw[RN];omega),Mn f g d c t,qB,validD_step (c::t) Td]
   by_cases a:(decodeL (c::t)).1=65533/\(decodeL (c::t)).2=1
   ·rw[ag ((qa4 _).2 a),qX a]
   ·rw[bf (fun q=>a ((qa4 _).1 q)),qW a,qa5,FF _ _ (by simp only[qL]at e;omega)]
    have:=ih (d++(c::t).take (decodeL (c::t)).2) ((c::t).drop (decodeL (c::t)).2) (by rw[List.length_drop];simp only[qL];omega) (by rw[qM,List.length_take,List.length_drop];simp only[qL]at e ⊢;omega)
    rw[qS,List.take_append_drop,qM,List.length_take,Nat.min_eq_left e]at this;exact this
def Mo(a:Nat)(b:10<=a)(s:Bs)(h:s.length<a:=by omega)(c:s.length<100000000:=by omega):sX a s=some (validD s):=by
 have:=qup a a b [] s h (by simpa using c)
 simpa [sX] using this
end Go.Sym
namespace Go.Sym

open Go.Lib (decodeL decodeN decodeL_N decodeL_le decodeL_width validD validD_step)
def cy(c:Nat):Bs:=if c<128 then[UInt8.ofNat c] else if c<2048 then[UInt8.ofNat (192+c/64),UInt8.ofNat (128+c%64)] else if c<65536 then[UInt8.ofNat (224+c/4096),UInt8.ofNat (128+c/64%64),UInt8.ofNat (128+c%64)] else[UInt8.ofNat (240+c/262144),UInt8.ofNat (128+c/4096%64),UInt8.ofNat (128+c/64%64),UInt8.ofNat (128+c%64)]
def vc(c:Nat):Prop:=c<55296\/(57344<=c/\c<=1114111)
def QG{c:Nat}:1<=(cy c).length/\(cy c).length<=4:=by
 unfold cy;repeat' split
 all_goals simp
def qlx{c:Nat}:cy c≠[]:=fun q=>by have:=QG (c:=c);rw[q]at this;simp at this
def xt(n:Nat)(h:n<256:=by omega):(UInt8.ofNat n).toNat=n:=by rw[UInt8.toNat_ofNat'];omega
def Q3{c:Nat}(h:vc c)(t:Bs):decodeL (cy c++t)=(c,(cy c).length):=by
 unfold vc at h;rw[decodeL_N];unfold cy;by_cases a:c<128
 ·rw[qX a];show decodeN (t.length+1) (UInt8.ofNat c).toNat _ _ _=_;rw[xt c]
  unfold decodeN;rw[qX a];rfl
 rw[qW a];by_cases b:c<2048
 ·rw[qX b];show decodeN (t.length+1+1) (UInt8.ofNat (192+c/64)).toNat (UInt8.ofNat (128+c%64)).toNat _ _=_;rw[xt _,xt _]
  unfold decodeN;rw[qW Ta,qX ⟨Ta,Ta,Ta⟩,qX,show(192+c/64)%32*64+(128+c%64)%64=c by omega];rfl
 rw[qW b];by_cases d:c<65536
 ·rw[qX d];show decodeN (t.length+1+1+1) (UInt8.ofNat (224+c/4096)).toNat (UInt8.ofNat (128+c/64%64)).toNat (UInt8.ofNat (128+c%64)).toNat _=_;rw[xt _,xt _,xt _]
  have e:(224+c/4096)%16*4096+(128+c/64%64)%64*64+(128+c%64)%64=c:=Ta
  unfold decodeN;rw[qW Ta,qW Ta,qX ⟨Ta,⟨Ta,Ta⟩,Ta,Ta⟩,e,qX ⟨Ta,Ta⟩];rfl
 ·rw[qW d];show decodeN (t.length+1+1+1+1) (UInt8.ofNat (240+c/262144)).toNat (UInt8.ofNat (128+c/4096%64)).toNat (UInt8.ofNat (128+c/64%64)).toNat (UInt8.ofNat (128+c%64)).toNat=_;rw[xt _,xt _,xt _,xt _]
  have e:(240+c/262144)%8*262144+(128+c/4096%64)%64*4096+(128+c/64%64)%64*64+(128+c%64)%64=c:=Ta
  unfold decodeN;rw[qW Ta,qW Ta,qW Ta,qX ⟨Ta,⟨Ta,Ta⟩,⟨Ta,Ta⟩,Ta,Ta⟩,e,qX ⟨Ta,Ta⟩];rfl
def tx(R:List Nat):Bs:=R.flatMap cy
def qua:tx []=[]:=rfl
def F4(c:Nat)(R:List Nat):tx (c::R)=cy c++tx R:=by simp[tx]
def qt9(R S:List Nat):tx (R++S)=tx R++tx S:=by simp[tx]
def aN(R:List Nat):Prop:=∀c∈R,vc c
def AA{c:Nat}{R:List Nat}(h:aN (c::R)):vc c/\aN R:=⟨h c qH,fun d a=>h d (qE _ a)⟩
def qk9(l:Bs)(a:l≠[])(b:¬((decodeL l).1=65533/\(decodeL l).2=1)):vc (decodeL l).1:=by
 have k:=Lib.decodeL_rune l;rw[decodeL_N]at *;unfold vc;unfold decodeN at *
 repeat' split at b
 all_goals repeat' split
 all_goals simp only at *
 all_goals omega
def qly{c:Nat}(h:vc c):Lib.encodeRune (c:Int)=cy c:=by
 unfold vc at h;unfold Lib.encodeRune cy;by_cases a:c<128
 ·rw[Lib.encodeRuneZ_one Ta Ta,qX a];rfl
 rw[qW a];by_cases b:c<2048
 ·rw[Lib.encodeRuneZ_two Ta Ta,qX b];rfl
 rw[qW b];by_cases d:c<65536
 ·rw[Lib.encodeRuneZ_three Ta,qX d];rfl
 ·rw[Lib.encodeRuneZ_four Ta Ta,qW d];rfl
def FB:∀(n:Nat)(l:Bs),l.length<=n->validD l=true->∃R,aN R/\l=tx R:=by
 intro n
 induction n with
 |zero=>
  intro l j _;have:l=[]:=List.eq_nil_of_length_eq_zero Ta
  exact⟨[],(fun c b=>by cases b),this⟩
 |succ n ih=>
  intro l j d;by_cases a:l=[]
  ·exact⟨[],(fun c b=>by cases b),a⟩
  ·rw[validD_step l a]at d;split at d
   ·cases d
   ·rename_i f;have w:=decodeL_width l;have k:=decodeL_le l a;obtain⟨R,h,i⟩:=ih (l.drop (decodeL l).2) (by rw[List.length_drop];omega) d
    have g:=qk9 l a f;refine⟨(decodeL l).1::R,?_,?_⟩
    ·intro c b;rcases List.mem_cons.1 b with rfl|b
     ·exact g
     ·exact h c b
    ·rw[F4,← i];have e:=Lib.encode_decode l a f;rw[qly g]at e;rw[e,List.take_append_drop]
end Go.Sym
namespace Go.Sym
def DO(c:UInt8):uV c=some (bl c):=by unfold uV bl;cases c==32<;>rfl
def oW(c:UInt8):eX c=some (bl c):=by unfold eX bl;cases c==32<;>rfl
def n6(f:Int×Int):fg f=some (f.1 != 0):=rfl
def qph(f n:Nat)(c:UInt8):∀(b a:Bs),a.length<n->b.length+a.length<1000000000 ->
  sL f n c (b++a) (b.length:Int)=some (a.contains c):=by
 induction n with
 |zero=>intro b a h;omega|succ n ih=>
  intro b a h g;rw[sL,GB]
  cases a with
  |nil=>rw[bf];rfl|cons d a=>
   simp only[qL]at h g;rw[RN,ag Ta,dp,qB,lu _,qjc,List.contains_cons]
   have:=ih (b++[d]) a Ta Te
   simp only[qM,qL,qZ,qS,wM]at this;by_cases e:d=c
   ·rw[qX e];simp[e]
   ·rw[qW e,this];have:(c==d)=false:=by simp;exact fun h=>e h.symm
    rw[this,Bool.false_or]
def LF(a:Nat)(c:UInt8)(l:Bs)(h:l.length<a)(b:l.length<1000000000):sK a c l=some (l.contains c):=by
 have:=qph a a c [] l h (by simpa using b)
 simpa [sK] using this
open Go.Lib (validD)
abbrev OK:Type:=Bs×Bs
def Jo(l:List OK):Prop:=l.length<=4000000/\∀x∈l,x.1.length<=4000000/\x.2.length<=4000000
def lk(a b:Bs):Bool:=a.map lo==b.map lo
def Fr(c:Nat)(d:90000000<=c)(a b:Bs)(e:a.length<=4000000)(f:b.length<=4000000):bU c a b=some (lk a b):=
 qjo c a b Ta Ta (by simp[maxLen];omega) (by simp[maxLen];omega)
def Jo.mono{l l':List OK}(h:Jo l)(a:l'.length<=l.length)(b:∀x∈l',x∈l):Jo l':=⟨Nat.le_trans a h.1,fun x c=>h.2 x (b x c)⟩
end Go.Sym
namespace Go.Sym
end Go.Sym
namespace Go.Sym.Tr
def lo(c:UInt8):UInt8:=if 65<=c/\c<=90 then c+32 else c
def Lh(c:UInt8):(c+97)-65=c+32:=by
 rw[UInt8.sub_eq_add_neg,UInt8.add_assoc];rfl
def Aw(i:Nat):∀(n:Nat)(a b:List UInt8),b.length<n->a.length+b.length<=9223372036854775807 ->
  za i n ((a.length+b.length:Nat):Int) (a.length:Int) (a++b)=some (a++b.map lo)
 |0,_,_,h,_=>absurd h Ta|n+1,a,[],_,_=>by simp[za,lJ]|n+1,a,c::b,h,hb=>by
  simp only[qL]at h hb;have g:=fun d=>Aw i n (a++[d]) b Ta Te
  simp only[qM,qL,qZ,qS,wM,wO]at g;have e:((a.length+(c::b).length:Nat):Int)=((a.length+1+b.length:Nat):Int):=by simp only[qL];omega
  have k:0<=(a.length:Int)/\(a.length:Int).toNat<(a++c::b).length:=Td
  rw[e];simp only[za,lJ];rw[ag Ta,ag k,oE,qB,oZ,lu _,ln,ln,g,g,ag k,qB]
  unfold lo;simp only[List.map_cons,Lh];by_cases f:(65:UInt8)<=c
  ·by_cases j:c<=90
   ·simp[f,j]
   ·simp[f,j]
  ·simp[f]
def Ln(a:Nat)(s:List UInt8)(h:s.length<a)(b:s.length<=maxLen):fU a s=some (s.map lo):=by
 unfold fU;rw[ag b];have:=Aw a a [] s h (by simpa [maxLen] using b)
 simpa using this
def ku(x a b:Int):ck x a b=some (decide (a<=x/\x<=b)):=by
 unfold ck;by_cases h:a<=x<;>simp[h]
def AX(a b:UInt8):((a.toNat:Int)<=(b.toNat:Int))↔a<=b:=by rw[UInt8.le_iff_toNat_le];omega
def AI(k:Nat):∀(n:Nat)(a b:List UInt8),b.length<n->a.length+b.length<=9223372036854775807 ->
  yu k n (a.length:Int) (a++b)=some (a++b.map lo)
 |0,_,_,h,_=>absurd h Ta|n+1,a,[],_,_=>by simp[yu,kH]|n+1,a,c::b,h,hb=>by
  simp only[qL]at h hb;have j:=fun d=>AI k n (a++[d]) b Ta Te
  simp only[qM,qL,qZ,qS,wM,wO]at j;have i:0<=(a.length:Int)/\(a.length:Int).toNat<(a++c::b).length:=Td
  simp only[yu,kH];rw[ag Te,ag i,oE,qB,ku,qB,lu _,ln,ag i,qB,ag i,qB,oZ,j,j]
  unfold lo;simp only[List.map_cons];have f:=AX 65 c;have g:=AX c 90;have l:((65:UInt8).toNat:Int)=65:=rfl;have m:((90:UInt8).toNat:Int)=90:=rfl;rw[l]at f;rw[m]at g;by_cases e:(65:UInt8)<=c/\c<=90
  ·rw[qX ⟨f.2 e.1,g.2 e.2⟩,qX e]
  ·rw[qW (fun q=>e ⟨f.1 q.1,g.1 q.2⟩),qW e]
def iU(a:Nat)(s:List UInt8)(h:s.length<a)(b:s.length<=maxLen):yt a s=some (s.map lo):=by
 unfold yt;rw[ag b];have:=AI a a [] s h (by simpa [maxLen] using b)
 simpa using this
def Ps(c:Nat)(a b:List UInt8)(f:a.length<c)(g:b.length<c)(d:a.length<=maxLen)(e:b.length<=maxLen):jX c a b=some (a.map lo==b.map lo):=by
 unfold jX;rw[iU c a f d,iU c b g e];rfl
end Go.Sym.Tr
namespace Go.Sym.Tr
def wr(m:UInt8)(a i:Nat):List UInt8->Int|[] => -1|c::r=>if(c==13&&r.head? == some 10)=true then wr m 0 (i+2) r.tail else if c=0\/c=13\/c=10\/m<c\/a=998 then(i:Int) else wr m (a+1) (i+1) r
termination_by l=>l.length
decreasing_by all_goals (simp only[qL,List.length_tail];omega)
end Go.Sym.Tr
namespace Go.Sym.Tr
def mX:List UInt8:=[65,66,67,68,69,70,71,72,73,74,75,76,77,78,79,80,81,82,83,84,85,86,87,88,89,90,97,98,99,100,101,102,103,104,105,106,107,108,109,110,111,112,113,114,115,116,117,118,119,120,121,122,48,49,50,51,52,53,54,55,56,57,43,47]
def al(k:Nat):UInt8:=mX.getD k 0
def c0(x:Nat):UInt8:=al (x/262144%64)
def c1(x:Nat):UInt8:=al (x/4096%64)
def c2(x:Nat):UInt8:=al (x/64%64)
def c3(x:Nat):UInt8:=al (x%64)
def e64:List UInt8->List UInt8|[]=>[]|[a]=>[c0 (a.toNat*65536),c1 (a.toNat*65536),61,61]|[a,b]=>[c0 (a.toNat*65536+b.toNat*256),c1 (a.toNat*65536+b.toNat*256),c2 (a.toNat*65536+b.toNat*256),61]|a::b::c::r=>c0 (a.toNat*65536+b.toNat*256+c.toNat)::c1 (a.toNat*65536+b.toNat*256+c.toNat)::c2 (a.toNat*65536+b.toNat*256+c.toNat)::c3 (a.toNat*65536+b.toNat*256+c.toNat)::e64 r
end Go.Sym.Tr
namespace Go.Sym.Tr
end Go.Sym.Tr
namespace Go.Sym.Tr
def dN(c:UInt8):List Nat:=[c.toNat/128%2,c.toNat/64%2,c.toNat/32%2,c.toNat/16%2,c.toNat/8%2,c.toNat/4%2,c.toNat/2%2,c.toNat%2]
def bits(b:List UInt8):List Nat:=b.flatMap dN
abbrev js(l:List Nat):List Int:=l.map Int.ofNat
def cN(x k:Nat)(p:Int)(hp:p=(k:Int))(c:k<=30:=by omega):Int.tmod (Int.fdiv (x:Int) (2 ^ min p.toNat 64)) 2=((x/2 ^ k%2:Nat):Int):=by
 subst hp;have a:min (k:Int).toNat 64=k:=Ta
 have b:Int.fdiv (x:Int) (2 ^ k)=((x/2 ^ k:Nat):Int):=by
  rw[Int.fdiv_eq_ediv_of_nonneg _ (by exact Int.le_of_lt (Int.pow_pos Tf))]
  simp
 rw[a,b,Int.tmod_eq_emod_of_nonneg (Int.natCast_nonneg _)];generalize x/2 ^ k=y;omega
def qjf(f n:Nat):∀(d b:List UInt8)(a:List Int),b.length<n->d.length+b.length<9223372036854775807->a.length+8*b.length<=az ->
  jY f n (d++b) (d.length:Int) a=some (a++js (bits b)):=by
 induction n with
 |zero=>intro d b a h;omega|succ n ih=>
  intro d b a h g i
  cases b with
  |nil=>
   rw[jY,B7,bf];simp[bits]
  |cons c b=>
   simp only[qL]at h g i;rw[jY,B7,ag Te]
   simp only[dp,qB,cN c.toNat 7 7 rfl,cN c.toNat 6 6 rfl,cN c.toNat 5 5 rfl,cN c.toNat 4 4 rfl,cN c.toNat 3 3 rfl,cN c.toNat 2 2 rfl,cN c.toNat 1 1 rfl,cN c.toNat 0 0 rfl]
   rw[ag Te,ag Te,ag Te,ag Te,ag Te,ag Te,ag Te,ag Te,lu _]
   have:=ih (d++[c]) b (a++js (dN c)) Ta Te (by simp[dN];omega)
   simp only[qM,qL,qZ,wO,qS,wM]at this;have e:((((((((a++[((c.toNat/2 ^ 7%2:Nat):Int)])++[((c.toNat/2 ^ 6%2:Nat):Int)])++[((c.toNat/2 ^ 5%2:Nat):Int)])++[((c.toNat/2 ^ 4%2:Nat):Int)])++[((c.toNat/2 ^ 3%2:Nat):Int)])++[((c.toNat/2 ^ 2%2:Nat):Int)])++[((c.toNat/2 ^ 1%2:Nat):Int)])++[((c.toNat/2 ^ 0%2:Nat):Int)])=a++js (dN c):=by
    simp[dN]
   rw[e,this];simp[bits]
def rbits_eq(a:Nat)(b:List UInt8)(h:b.length<a)(c:b.length<=100000000):Gi a b=some (js (bits b)):=by
 have:=qjf a a [] b [] h Te Tn
 exact this
def aS(a:Nat):List Nat->Nat|[]=>a|x::l=>aS (2*a+x) l
def qtn(m n:Nat):∀(d b:List Nat)(a:Nat),b.length<n->d.length+b.length<9223372036854775807->(∀x∈b,x<=1)->(a+1)*2 ^ b.length<=1099511627776 ->
  bH m n (js (d++b)) (a:Int) (d.length:Int)=some ((aS a b:Nat):Int):=by
 induction n with
 |zero=>intro d b a h;omega|succ n ih=>
  intro d b a h o j i
  cases b with
  |nil=>rw[bH,tK,bf];rfl|cons c b=>
   simp only[qL]at h o i;have r:=j c qH;have f:aj (js (d++c::b)) (d.length:Int)=some (c:Int):=by
    have:=dp (js d) (c:Int) (js b);simpa [js] using this
   have k:2 ^ (b.length+1)=2*2 ^ b.length:=by rw[Nat.pow_succ];omega
   have l:1<=2 ^ b.length:=Nat.one_le_two_pow;have g:(2*a+c+1)*2 ^ b.length<=1099511627776:=by
    refine Nat.le_trans ?_ i;rw[k,← Nat.mul_assoc];exact Nat.mul_le_mul_right _ Ta
   have q:a+1<=1099511627776:=by
    refine Nat.le_trans ?_ i;exact Nat.le_mul_of_pos_right _ (by rw[k];omega)
   rw[bH,tK,ag Te,f,qB,lu _]
   have e:ae (ae (2*(a:Int))+(c:Int))=((2*a+c:Nat):Int):=by
    rw[bq (x:=2*(a:Int)) Ta Ta,bq];omega
   rw[e];have:=ih (d++[c]) b (2*a+c) Ta Te (fun x p=>j x (qE _ p)) g
   simp only[qM,qL,qZ,wO,qS,wM]at this;rw[this];rfl
def qtm(a:Nat)(l:List Nat)(h:8<a)(c:l.length<=8)(b:∀x∈l,x<=1):tJ a (js l)=some ((aS 0 l:Nat):Int):=by
 have:=qtn a a [] l 0 Ta Te b (by
  have:2 ^ l.length<=2 ^ 8:=Nat.pow_le_pow_right Ta c
  omega)
 exact this
def qca:∀(l:List Nat)(a:Nat),(∀x∈l,x<=1)->aS a l+1<=(a+1)*2 ^ l.length
 |[],a,_=>by simp[aS]|x::l,a,h=>by
  have:=qca l (2*a+x) (fun y b=>h y (qE _ b))
  have c:=h x qH;unfold aS;refine Nat.le_trans this ?_;rw[qL,Nat.pow_succ,Nat.mul_comm (2 ^ l.length) 2,← Nat.mul_assoc];exact Nat.mul_le_mul_right _ Ta
def ml:List Nat->List UInt8|a::b::c::d::e::f::r=>al (aS 0 [a,b,c,d,e,f])::ml r|_=>[]
def qtv(k:Nat)(h:k<64):List.take ((ae ((k:Int)+1)).toNat-(k:Int).toNat) (List.drop (k:Int).toNat mX)=[al k]:=by
 have a:k<mX.length:=h;rw[lu _]
 rw[show((k+1:Nat):Int).toNat-(k:Int).toNat=1 by omega,show(k:Int).toNat=k by omega]
 have e:al k=mX[k]:=by unfold al;simp[a]
 rw[List.drop_eq_getElem_cons a,e];rfl
def qjs(k n:Nat)(l:8<k):∀(g i:List Nat)(s:List UInt8),i.length<n->g.length+i.length<1000000000->(∀x∈i,x<=1)->i.length%6=0->s.length+i.length<=2000000000 ->
  eY k n (js (g++i)) s (g.length:Int)=eZ k k (s++ml i):=by
 induction n with
 |zero=>intro g i s h;omega|succ n ih=>
  intro g i s h v p j y
  match i with
  |[]=>rw[eY,B9,bf];simp[ml]|[_]=>simp at j|[_,_]=>simp at j|[_,_,_]=>simp at j|[_,_,_,_]=>simp at j|[_,_,_,_,_]=>simp at j|a::b::c::d::e::f::r=>
   have q:∀x∈[a,b,c,d,e,f],x<=1:=fun x o=>p x (by simp at o ⊢;omega)
   have m:=qca [a,b,c,d,e,f] 0 q;simp only[qL,qZ]at m;have w:aS 0 [a,b,c,d,e,f]<64:=Ta
   simp only[qL]at h v y j;rw[eY,B9,ag Te]
   have t:ae ((g.length:Int)+6)=((g.length+6:Nat):Int):=by rw[bq];omega
   rw[t,ag Te]
   have u:List.take (((g.length+6:Nat):Int).toNat-(g.length:Int).toNat) (List.drop (g.length:Int).toNat (js (g++a::b::c::d::e::f::r)))=js [a,b,c,d,e,f]:=by
    rw[show((g.length+6:Nat):Int).toNat-(g.length:Int).toNat=6 by omega,show(g.length:Int).toNat=g.length by omega]
    simp[js]
   rw[u,qtm k _ l Td q,qB]
   rw[show([65,66,67,68,69,70,71,72,73,74,75,76,77,78,79,80,81,82,83,84,85,86,87,88,89,90,97,98,99,100,101,102,103,104,105,106,107,108,109,110,111,112,113,114,115,116,117,118,119,120,121,122,48,49,50,51,52,53,54,55,56,57,43,47]:List UInt8)=mX from rfl]
   rw[qtv _ w,ag (by rw[lu _,show(mX.length:Int)=64 from rfl];omega),ag Tg]
   have:=ih (g++[a,b,c,d,e,f]) r (s++[al (aS 0 [a,b,c,d,e,f])]) Ta Te (fun x o=>p x (by simp[o])) Ta Te
   simp only[qM,qL,qZ,wO,qS,wK,List.nil_append]at this;rw[this];simp[ml]
def AB(s:List UInt8):List UInt8:=s++List.replicate ((4-s.length%4)%4) 61
def qpn(a:Nat)(n:Nat):∀(s:List UInt8),(4-s.length%4)%4<n->s.length<=2000000000->eZ a n s=some (AB s):=by
 induction n with
 |zero=>intro s h;omega|succ n ih=>
  intro s h d;rw[eZ,Gk,fh,Int.tmod_eq_emod_of_nonneg (Int.natCast_nonneg _)];by_cases c:s.length%4=0
  ·rw[qW Ta];unfold AB;rw[c];simp
  ·rw[qX,ag (by simp[ao];omega)]
   by_cases b:s.length%4=3
   ·rw[ih _ Te Te]
    unfold AB;have:(s++[61]).length%4=0:=by simp;omega
    rw[this,b];simp
   ·rw[ih _ Te Te]
    unfold AB;have:(4-s.length%4)%4=(4-(s++[61]).length%4)%4+1:=by simp;omega
    rw[this,List.replicate_succ];simp
def aP(s:List Nat):List Nat:=s++List.replicate ((6-s.length%6)%6) 0
def pad6_go(g n:Nat)(p:8<g):∀(s:List Nat),(6-s.length%6)%6<n->s.length+(6-s.length%6)%6<g->s.length+(6-s.length%6)%6<=1000000->(∀x∈s,x<=1)->rP g n (js s)=some (AB (ml (aP s))):=by
 induction n with
 |zero=>intro s h;omega|succ n ih=>
  intro s h v u o;rw[rP,Gj,fh,Int.tmod_eq_emod_of_nonneg (Int.natCast_nonneg _)];have k:(js s).length=s.length:=Td
  by_cases c:s.length%6=0
  ·rw[qW (by rw[k];omega)]
   have e:aP s=s:=by unfold aP;rw[c];simp
   rw[e];have:=qjs g g p [] s [] Ta Te o c Te
   rw[List.nil_append,List.nil_append]at this;rw[show eY g g (js s) ([]:List UInt8) (0:Int)=eZ g g (ml s) from this]
   have q:∀(n:Nat)(l:List Nat),l.length<=n->(ml l).length<=l.length:=by
    intro n
    induction n with
    |zero=>intro l k;have:l=[]:=List.eq_nil_of_length_eq_zero Ta;subst this;simp[ml]|succ n ih2=>
     intro l k
     match l with
     |[]=>simp[ml]|[_]=>simp[ml]|[_,_]=>simp[ml]|[_,_,_]=>simp[ml]|[_,_,_,_]=>simp[ml]|[_,_,_,_,_]=>simp[ml]|a::b::c::d::e::f::r=>
      simp only[qL]at k;have:=ih2 r Ta
      simp only[ml,qL];omega
   have:=q _ s (wF _);exact qpn g g (ml s) Ta Ta
  ·rw[qX (by rw[k];omega),ag Tn]
   have e:js s++[(0:Int)]=js (s++[0]):=Td
   rw[e];by_cases t:s.length%6=5
   ·have m:aP (s++[0])=aP s:=by
     unfold aP;have:(s++[0]).length%6=0:=by simp;omega
     rw[this,t];simp
    have j:(s++[0]).length%6=0:=by simp;omega
    rw[← m];rw[ih (s++[0]) (by rw[j];omega) (by rw[j];simp;omega) (by rw[j];simp;omega) (fun x i=>by simp at i;rcases i with i|i;exact o x i;omega)]
   ·have m:aP (s++[0])=aP s:=by
     unfold aP;have:(6-s.length%6)%6=(6-(s++[0]).length%6)%6+1:=by simp;omega
     rw[this,List.replicate_succ];simp
    rw[← m];rw[ih (s++[0]) Te Te Te (fun x i=>by simp at i;rcases i with i|i;exact o x i;omega)]
def n2(a:Nat):2*(2*0+a/2%2)+a%2=a%4:=Ta
def n4(t b:Nat)(h:b<256):2*(2*(2*(2*t+b/128%2)+b/64%2)+b/32%2)+b/16%2=16*t+b/16:=Ta
def x0(a b c:Nat)(h:a<256)(d:b<256)(e:c<256):(a*65536+b*256+c)/262144%64=a/4:=Ta
def x1(a b c:Nat)(h:a<256)(d:b<256)(e:c<256):(a*65536+b*256+c)/4096%64=16*(a%4)+b/16:=Ta
def x2(a b c:Nat)(h:a<256)(d:b<256)(e:c<256):(a*65536+b*256+c)/64%64=4*(b%16)+c/64:=Ta
def x3(a b c:Nat)(h:a<256)(d:b<256)(e:c<256):(a*65536+b*256+c)%64=c%64:=Ta
def bits_len(b:List UInt8):(bits b).length=8*b.length:=by
 induction b with|nil=>rfl|cons c b ih=>rw[show bits (c::b)=dN c++bits b from rfl,qM,ih];simp[dN];omega
def bits_one(b:List UInt8):∀x∈bits b,x<=1:=by
 intro x a;obtain⟨c,_,a⟩:=List.mem_flatMap.1 a;simp only[dN,wE,List.not_mem_nil,or_false]at a;omega
end Go.Sym.Tr
namespace Go.Sym.Tr
def o8(P:UInt8->Prop)(h:∀n:_root_.Fin 256,P (UInt8.ofNat n.val))(c:UInt8):P c:=by
 have:=h ⟨c.toNat,c.toNat_lt⟩;simpa using this
def isL:List UInt8->Bool|a::b::_=>a==13&&b==10|_=>false
def Ky{α:Type}(a:List α)(c:α)(b:List α):List.drop ((a.length+1:Nat):Int).toNat (a++c::b)=b:=by
 rw[show((a.length+1:Nat):Int).toNat=(a++[c]).length by simp,show a++c::b=(a++[c])++b by simp]
 simp
end Go.Sym.Tr
namespace Go.Sym.Tr
def PQ(c:UInt8):Bool:=bif c==32 then true else c==9
def oW(c:UInt8):eX c=some (PQ c):=by unfold eX PQ;cases c==32<;>rfl
end Go.Sym.Tr
namespace Go.Sym.Tr
def sp:List UInt8->List UInt8×List UInt8|[]=>([],[])|c::r=>if isL (c::r) then([],c::r) else(c::(sp r).1,(sp r).2)
end Go.Sym.Tr
namespace Go.Sym.Tr
def zB(a b:Int):ce a b=some (a,b):=rfl
end Go.Sym.Tr
namespace Go.Sym.Tr
end Go.Sym.Tr
namespace Go.Sym.Tr
end Go.Sym.Tr
namespace Go.Sym.Tr
end Go.Sym.Tr
namespace Go.Sym.Tr
end Go.Sym.Tr
namespace Go.Sym.Tr
end Go.Sym.Tr
namespace Go.Sym.Tr
end Go.Sym.Tr
namespace Go.Sym.Tr
end Go.Sym.Tr
namespace Go.Sym
abbrev sAs:Bs:=[97,115,99,105,105]
abbrev sLa:Bs:=[108,97,116,105,110,49]
abbrev sU8:Bs:=[117,116,102,56]
def nmK:Nat->Bs|0=>sAs|1=>sLa|_=>sU8
def M9:∀(R:List Nat),aN R->Lib.validD (tx R)=true
 |[],_=>rfl|c::R,h=>by
  obtain⟨a,b⟩:=AA h;have g:=QG (c:=c);have d:=Q3 a (tx R);rw[F4,Lib.validD_step _ (by intro q;exact qlx (List.append_eq_nil_iff.1 q).1),d]
  simp only;rw[qW (by
   rintro⟨e,f⟩
   subst e;revert f;decide),List.drop_left]
  exact M9 R b
end Go.Sym
namespace Go.Sym
def ltr(c:UInt8):Bool:=decide (97<=c/\c<=122)||decide (65<=c/\c<=90)||decide (48<=c/\c<=57)
abbrev Ry:Bs:=[48,49,50,51,52,53,54,55,56,57,65,66,67,68,69,70]
def hxH(c:UInt8):UInt8:=Ry.getD (c.toNat/16) 0
def hxL(c:UInt8):UInt8:=Ry.getD (c.toNat%16) 0
def dq(c:UInt8):Bs:=if c=32 then[95] else if ltr c=true then[c] else[61,hxH c,hxL c]
def qux(c:UInt8)(a:Bs)(h:a.length<=1000000000:=by omega):CX c a=some (a++[c]):=by
 unfold CX zd;rw[qB,ag Tq]
def MJ(t a:Bs)(h:a.length<=1000000000:=by omega)(b:t.length<=1000000:=by omega):cB t a=some ((List.length t:Int),a++t):=by
 unfold cB zd;rw[qB,ag (by simp only[az,qM];omega)]
open Go.Lib (indexByte)
def qky(k:Nat)(R:List Nat):Bs:=if k=2 then Tr.e64 (tx R) else(R.map UInt8.ofNat).flatMap dq
def qn0(k:Nat):UInt8:=if k=2 then 66 else 81
def qdg(k:Nat)(R:List Nat):Bs:=61::63::(nmK k++63::qn0 k::63::(qky k R++[63,61]))
end Go.Sym
namespace Go.Sym

def Ok{α:Type}(P:α->Prop)(x:Option α):Prop:=∃v,x=some v/\P v
def au{α:Type}{P:α->Prop}{v:α}(h:P v):Ok P (some v):=⟨v,rfl,h⟩
def lv{α:Type}{P Q:α->Prop}{x:Option α}(h:Ok P x)(f:∀v,P v->Q v):Ok Q x:=by
 obtain⟨v,e,a⟩:=h;exact⟨v,e,f v a⟩
def ar{α β:Type}{P:α->Prop}{Q:β->Prop}{x:Option α}{f:α->Option β}(h:Ok P x)(g:∀v,P v->Ok Q (f v)):Ok Q (x.bind f):=by
 obtain⟨v,e,a⟩:=h;rw[e,qB];exact g v a
def bg{α:Type}{P:α->Prop}{b:Bool}{x y:Option α}(h:b=true->Ok P x)(g:b=false->Ok P y):Ok P (bif b then x else y):=by
 cases b
 ·exact g rfl
 ·exact h rfl
def fa{α:Type}{P:α->Prop}{b:Bool}{x y:Option α}(h:b=false->Ok P x)(g:b=true->Ok P y):Ok P (bif !b then x else y):=by
 cases b
 ·exact h rfl
 ·exact g rfl
def bn{α:Type}{P:α->Prop}{p:Prop}[Decidable p]{x y:Option α}(h:p->Ok P x)(g:¬p->Ok P y):Ok P (bif decide p then x else y):=by
 by_cases q:p
 ·rw[ag q];exact h q
 ·rw[bf q];exact g q
def bm{α:Type}{P:α->Prop}{p:Prop}[Decidable p]{x:Option α}(q:p)(h:Ok P x):Ok P (bif decide p then x else none):=by
 rw[ag q];exact h
def gm{α β γ:Type}{P:γ->Prop}{o:α ⊕ β}{f:α->Option γ}{g:β->Option γ}(h:∀a,o = .inl a->Ok P (f a))(c:∀b,o = .inr b->Ok P (g b)):Ok P (aw o f g):=by
 cases o with|inl a=>exact h a rfl|inr b=>exact c b rfl
def LE{α:Type}{P:α->Prop}{l:List α}{k:Nat}(h:k<l.length)(g:∀c∈l,P c):Ok P (aj l (k:Int)):=⟨l[k],fv l k h,g _ (List.getElem_mem h)⟩
def EQ{α:Type}{P:α->Prop}{l:List α}{k:Nat}(h:k<l.length)(g:∀c∈l,P c):Ok P (l[k]?):=⟨l[k],List.getElem?_eq_getElem h,g _ (List.getElem_mem h)⟩
def cf{α:Type}{l:List α}{k:Nat}(h:k<l.length:=by omega):Ok (fun _=>True) (aj l (k:Int)):=LE h fun _ _=>trivial
def Fq:∀l:List Int,(jw l).length<=4*l.length
 |[]=>by simp[jw]|x::l=>by
  have:=Fq l;have a:(xv x).length<=4:=by
   unfold xv Utf8.encode;simp only[]
   repeat' split
   all_goals simp[ByteArray.size]
  have e:jw (x::l)=xv x++jw l:=by simp[jw]
  rw[e,qM,qL];omega
def qsh(s:Bs):(g8 s).length<=s.length:=Mp s s.length 0
def qss(i n:Nat)(m:Int):∀(d b:Bs)(a:List Int),b.length<n->d.length+b.length<100000000->a.length+b.length<=100000000 ->
  ∃r,uX i n (d++b) ((d.length+b.length:Nat):Int) (d.length:Int) m a=some (m,r)/\r.length<=a.length+b.length:=by
 induction n with
 |zero=>intro d b a h;omega|succ n e=>
  intro d b a h j k;rw[uX,HH]
  cases b with
  |nil=>rw[bf];exact⟨a,rfl,Td⟩|cons c b=>
   simp only[qL]at h j k;have e:=fun a=>e (d++[c]) b a Ta Te
   simp only[qM,qL,qZ,qS,wM,wO]at e;rw[ag (by simp only[qL];omega),dp,qB,lu _,show d.length+(c::b).length=d.length+1+b.length by simp only[qL];omega,ln]
   split
   ·rw[ag Tq]
    obtain⟨r,f,g⟩:=e (a++[65533]) Te
    exact⟨r,f,by simp only[qM,qL,qZ]at g ⊢;omega⟩
   ·rw[ag Tq]
    obtain⟨r,f,g⟩:=e (a++[(c.toNat:Int)]) Te
    exact⟨r,f,by simp only[qM,qL,qZ]at g ⊢;omega⟩
def qc3(k:Nat)(b:Bs)(h:k+1<b.length)(a:b.length<100000000):∃v,uY (k:Int) b=some (v,b):=by
 unfold uY;rw[fv b k,qB,lu k,fv b (k+1) h,qB]
 exact⟨_,rfl⟩
def FE(k:Nat)(h:k<100000000:=by omega):ae ((k:Int)+2)=((k+2:Nat):Int):=by rw[bq];omega
def quh(c:Nat)(r0:Int->Bs->List Int->Option TJ)(b:Bs)(d:b.length<100000000)(j:Nat)(v:Int)(a:List Int)(e:j+2<=b.length)(f:a.length<=j)
  (h:∀a:List Int,a.length<=j+2->∃r,r0 ((j+2:Nat):Int) b a=some r/\r.length<=b.length):∃r,fW c r0 (j:Int) v b a=some r/\r.length<=b.length:=by
 have g:∀x:Int,∃r,(bif decide (List.length (a++([x]:List Int))<=az) then r0 (ae ((j:Int)+2)) b (a++([x]:List Int)) else none)=some r/\r.length<=b.length:=fun x=>by
  rw[ag Tq,FE j]
  exact h _ Tm
 unfold fW;rw[ln];split
 ·rw[ln];split
  ·exact g 65533
  ·exact g v
 ·exact g v
def qko(d:Nat)(b:Bs)(g:b.length<100000000)(n:Nat):∀(k:Nat)(a:List Int),k<=b.length->b.length-k<n->a.length<=k->∃r,bW d n (k:Int) b a=some r/\r.length<=b.length:=by
 induction n with
 |zero=>intro k a _ h;omega|succ n ih=>
  intro k a z h u;rw[bW,HO];by_cases m:(k:Int)<(b.length:Int)
  ·rw[ag m,lu k,gU]
   by_cases e:((k+1:Nat):Int)=(b.length:Int)
   ·rw[qX e,ag Tq]
    exact⟨_,rfl,Tm⟩
   ·rw[qW e];obtain⟨v,x⟩:=qc3 k b Ta g
    rw[x,qB];have l:∀(j:Nat)(v:Int),k<=j->j+2<=b.length->∃r,fW d (bW d n) (j:Int) v b a=some r/\r.length<=b.length:=fun j v e s=>
     quh d _ b g j v a s Ta fun a u=>ih (j+2) a Ta Ta Ta
    have o:∀(v w:Int)(c:Bool),k+3<b.length->∃r,vA d (bW d n) (k:Int) v w c b a=some r/\r.length<=b.length:=fun v w c f=>by
     unfold vA;cases c
     ·rw[aq rfl];exact l k v (wF _) Ta
     ·rw[ax rfl,FE k];exact l (k+2) _ Ta Ta
    have i:∀(v:Int)(c:Bool),(c=true->k+3<b.length)->∃r,lK d (bW d n) (k:Int) v c b a=some r/\r.length<=b.length:=fun v c t=>by
     unfold lK;cases c
     ·rw[aq rfl];exact l k v (wF _) Ta
     ·have f:=t rfl;rw[ax rfl,FE k]
      obtain⟨w,y⟩:=qc3 (k+2) b Ta g
      rw[y,qB];dsimp only;rw[ln];split
      ·exact o v w _ f
      ·exact o v w _ f
    have p:ae ((k:Int)+3)=((k+3:Nat):Int):=by rw[bq];omega
    dsimp only;rw[ln];split
    ·rw[ln];split
     ·rw[p];exact i v _ fun q=>by have:=of_decide_eq_true q;omega
     ·exact i v false Td
    ·exact i v false Td
  ·rw[bf m];exact⟨a,rfl,Ta⟩
def qmg(a:Nat)(b:90000000<=a)(nm:Bs)(c:nm.length<=4000000):(∃x:Bs,∃m:Int,fV a nm=some (.inl (x,(true,m))))\/(∃x:Bs,fV a nm=some (.inr (.inl (x,true))))\/(∃x:Bs,fV a nm=some (.inr (.inr (.inl (x,true)))))\/fV a nm=some (.inr (.inr (.inr ([],false)))):=by
 unfold fV Cw;simp only[qB];rw[Fr a b _ _ Td c,qB]
 cases lk [97,115,99,105,105] nm
 ·rw[aq rfl,Fr a b _ _ Td c,qB]
  cases lk [108,97,116,105,110,49] nm
  ·rw[aq rfl,Fr a b _ _ Td c,qB]
   cases lk [117,116,102,56] nm
   ·rw[aq rfl,Fr a b _ _ Td c,qB]
    cases lk [117,116,102,49,54,98,101] nm
    ·rw[aq rfl];exact .inr (.inr (.inr rfl))
    ·rw[ax rfl];exact .inr (.inr (.inl ⟨_,rfl⟩))
   ·rw[ax rfl];exact .inr (.inl ⟨_,rfl⟩)
  ·rw[ax rfl];exact .inl ⟨_,_,rfl⟩
 ·rw[ax rfl];exact .inl ⟨_,_,rfl⟩
def qj2(a:Nat)(g:90000000<=a)(nm b:Bs)(j:nm.length<=4000000:=by omega):∃s f,Cv a nm b=some (s,f)/\s.length<=48000:=by
 unfold Cv;by_cases d:(12000:Int)<(b.length:Int)
 ·rw[ag d];exact⟨[],_,rfl,Td⟩
 ·rw[bf d];rcases qmg a g nm j with⟨x,m,e⟩|⟨x,e⟩|⟨x,e⟩|e<;>rw[e,qB]<;>simp only[aw]
  ·rw[nA];obtain⟨r,c,h⟩:=qss a a m [] b [] Ta Te Te
   have i:=Fq r;simp only[List.nil_append,qZ,wO]at c h;rw[show((0:Nat):Int)=0 from rfl]at c
   unfold HF;rw[c];exact⟨_,_,rfl,Tu⟩
  ·rw[nA];have i:=Fq (g8 b);have k:=qsh b;unfold HD;rw[ag Ta]
   exact⟨_,_,rfl,Ta⟩
  ·rw[nA];obtain⟨r,c,h⟩:=qko a b Ta a 0 [] Ta Ta Td
   have i:=Fq r;unfold HK;rw[show(0:Int)=((0:Nat):Int) from rfl,c]
   exact⟨_,_,rfl,Ta⟩
  ·exact⟨_,_,rfl,Td⟩
def qmx:∀n:_root_.Fin 256,(lI (UInt8.ofNat n.val)).isSome=true:=by decide +kernel
def Rv(c:UInt8):Ok (fun _=>True) (lI c):=by
 obtain⟨v,e⟩:=Option.isSome_iff_exists.1 (o8 (fun c=>(lI c).isSome=true) qmx c)
 exact⟨v,e,trivial⟩
def qpo(r:Bs):Ok (fun v=>v.2=true->2<=r.length) (Ct r):=by
 unfold Ct;refine bn (fun _=>au (fun q=>by cases q)) fun h => ?_
 have a:2<=r.length:=Ta
 refine ar (cf (k:=0) Ta) fun c1 _=>ar (Rv c1) fun x2 _=>ar (cf (k:=1) Ta) fun c3 _=>ar (Rv c3) fun x4 _ => ?_
 exact bg (fun _=>au fun _=>a) (fun _=>au fun _=>a)
def kz{α:Type}(a:List α)(c:α)(h:a.length<=1000000000:=by omega):(a++[c]).length<=az:=by
 simp only[az,qM,qL,qZ];omega
def bc(k:Nat)(h:k<100000000:=by omega):ae ((k:Int)+1)=((k+1:Nat):Int):=lu k
def que(e n:Nat)(s:Bs)(r:s.length<=100000):∀(k:Nat)(a:Bs),k<=s.length->s.length-k<n->a.length<=k->Ok (fun _=>True) (mF e n s (k:Int) a):=by
 induction n with
 |zero=>intro k a _ h;omega|succ n ih=>
  intro k a o h p;rw[mF,IS];refine bn (fun m => ?_) (fun _=>au trivial)
  have d:k<s.length:=Ta
  have f:∀c:UInt8,(a++[c]).length<=k+1:=fun c=>by simp;omega
  have g:∀b:Bool,Ok (fun _=>True) (xV e (mF e n) s (k:Int) b a):=fun b=>by
   unfold xV;refine bg (fun _=>ar (cf d) fun c1 _=>bm (kz _ _) ?_) (fun _=>au trivial)
   rw[bc k]
   exact ih (k+1) _ Ta Ta (f _)
  refine ar (cf d) fun c1 _=>bg (fun _=>bm (kz _ _) ?_) fun _=>ar (cf d) fun c2 _=>bg (fun _ => ?_) fun _ => ?_
  ·rw[bc k]
   exact ih (k+1) _ Ta Ta (f _)
  ·rw[bc k]
   refine bm Ta (ar (qpo _) fun x3 i=>fa (fun _=>au trivial) fun q=>bm (kz _ _) ?_)
   have:=i q;rw[List.length_drop]at this;rw[FE k,bc (k+2)]
   exact ih (k+2+1) _ Ta Ta (by have:=f x3.1;omega)
  ·exact ar (cf d) fun j _=>bn (fun _=>ar (cf d) fun l _=>g _) fun _=>g _
def qnv(v:Int):Ok (fun _=>True) (aj ([65,66,67,68,69,70,71,72,73,74,75,76,77,78,79,80,81,82,83,84,85,86,87,88,89,90,97,98,99,100,101,102,103,104,105,106,107,108,109,110,111,112,113,114,115,116,117,118,119,120,121,122,48,49,50,51,52,53,54,55,56,57,43,47]:Bs) (ae (((BitVec.ofInt 64 v&&&BitVec.ofInt 64 (63:Int)).toNat:Int)))):=by
 have h:(BitVec.ofInt 64 v&&&BitVec.ofInt 64 (63:Int)).toNat<=63:=by
  rw[BitVec.toNat_and];exact Nat.le_trans Nat.and_le_right Tf
 generalize (BitVec.ofInt 64 v&&&BitVec.ofInt 64 (63:Int)).toNat=k at h;rw[bq]
 exact cf Tj
def qlz(a b c d:UInt8)(k:Int)(o:Bs)(h:o.length<=1000000:=by omega):Ok (fun r=>r.2.length<=o.length+6) (jo a b c d k o):=by
 unfold jo;exact bg (fun _=>bm Tn (bm Tn (au Td))) fun _=>bm Tn (au Td)
def qmr(f n:Nat):∀(m o:Bs)(l:Int),m.length<n->o.length+6*m.length<=900000->Ok (fun r=>r.2.2.length<=900000) (y9 f n m l o):=by
 induction n with
 |zero=>intro m o l h;omega|succ n ih=>
  intro m o l h t;rw[y9,Hw];refine bn (fun s => ?_) fun _=>au (by show o.length<=900000;omega)
  obtain⟨k,p,w,x⟩:∃k:Nat,(if(List.length m:Int)<(3:Int) then(List.length m:Int) else(3:Int))=k/\1<=k/\k<=m.length:=by
   split
   ·exact⟨m.length,rfl,Ta,Ta⟩
   ·exact⟨3,rfl,Ta,Ta⟩
  rw[p];have q:∀v:Int×Bs,v.2.length<=o.length+6->Ok (fun r=>r.2.2.length<=900000) (bif decide (0<=(k:Int)/\(k:Int)<=(List.length m:Int)) then y9 f n (List.drop (k:Int).toNat m) v.1 v.2 else none):=fun v u=>
   bm ⟨Ta,Ta⟩ (ih _ _ _ (by rw[List.length_drop];omega) (by rw[List.length_drop];omega))
  have j:∀v,Ok (fun r=>r.2.2.length<=900000) (uS f (y9 f n) (k:Int) v m l o):=fun v=>by
   unfold uS;have e:=fun a b c d=>qlz a b c d l o
   repeat' first|exact ar (e _ _ _ _) q|refine ar (qnv _) fun _ _ => ?_|refine bn (fun _ => ?_) fun _ => ?_
  have i:∀v,Ok (fun r=>r.2.2.length<=900000) (uQ f (y9 f n) (k:Int) v m l o):=fun v=>by
   unfold uQ;exact bn (fun _=>ar (cf (k:=2) Ta) fun _ _=>j _) fun _=>j _
  have g:∀v,Ok (fun r=>r.2.2.length<=900000) (uP f (y9 f n) (k:Int) v m l o):=fun v=>by
   unfold uP;exact bn (fun _=>ar (cf (k:=1) Ta) fun _ _=>i _) fun _=>i _
  exact bn (fun _=>ar (cf (k:=0) Ta) fun _ _=>g _) fun _=>g _
def qmk(a:Nat)(c:90000000<=a)(b:Bs):Ok (fun _=>True) (Dj a b):=by
 unfold Dj;refine ar (P:=fun r=>r.2.length<=1000000) ?_ fun x h=>ar (P:=fun _=>True) ?_ fun _ _=>au trivial
 ·unfold Ht;refine bn (fun _=>⟨_,rfl,Td⟩) fun h => ?_
  rw[show Hv b=some b from rfl,qB]
  refine ar (qmr a a b [] 0 Ta Te) fun x d=>bn (fun _=>bm Tn ⟨_,rfl,Te⟩) fun _=>⟨_,rfl,by show x.2.2.length<=1000000;omega⟩
 ·unfold qg;exact bm Tj (au trivial)
def qn7(a n:Nat)(s:Bs)(g:s.length<=24000)(z:Int×Int):∀(k j:Nat)(v:Int)(o:Bs),k<=s.length->s.length-k<n->o.length<=k->j<=7->Ok (fun _=>True) (uO a n v (j:Int) s (s.length:Int) (k:Int) z o):=by
 induction n with
 |zero=>intro k j v o _ h;omega|succ n ih=>
  intro k j v o e h f c;rw[uO,Hu];refine bn (fun d => ?_) fun _=>⟨_,rfl,trivial⟩
  refine ar (cf) fun y _=>bg (fun _=>⟨_,rfl,trivial⟩) fun _=>bm Tf (ar (P:=fun _=>True) ⟨_,rfl,trivial⟩ fun x _ => ?_)
  rw[bc k,bq (x:=(j:Int)+6) Ta Ta]
  refine bn (fun _=>ih (k+1) j v o Ta Ta Ta c) fun _=>bn (fun b => ?_) fun b => ?_
  ·rw[bq (x:=(j:Int)+6-8) Ta Ta,show(j:Int)+6-8=((j-2:Nat):Int) by omega]
   exact bm Ta (bm Tn (bm Ta (ih (k+1) (j-2) _ _ Ta Ta Te Ta)))
  ·rw[show(j:Int)+6=((j+6:Nat):Int) by omega]
   exact ih (k+1) (j+6) _ _ Ta Ta Ta Ta
def qjr(a:Nat)(c:90000000<=a)(k s:Bs)(g:s.length<=24000:=by omega):Ok (fun _=>True) (Di a k s):=by
 have e:∀b:Bool,Ok (fun _=>True) (xU a s b):=fun b=>by
  unfold xU;exact bg (fun _=>que a a s Ta 0 [] Ta Ta Td) (fun _=>au trivial)
 have d:∀b:Bool,Ok (fun _=>True) (xS a s k b):=fun b=>by
  unfold xS;refine bg (fun _=>bm (by unfold maxLen;omega) ?_) (fun _=>bg (fun _=>e _) (fun _=>e _))
  have f:Ok (fun _=>True) (Cm a s):=by
   unfold Cm;exact bn (fun _=>⟨_,rfl,trivial⟩) fun _=>qn7 a a s g (0,0) 0 0 0 [] Ta Ta Td Ta
  exact ar f fun _ _=>ar (qmk a c _) fun _ _=>au trivial
 unfold Di;exact bg (fun _=>d _) (fun _=>d _)
def tot(l:List Bs):Nat:=(l.map List.length).sum
def pE:tot []=0:=rfl
def F3(a:Bs)(l:List Bs):tot (a::l)=a.length+tot l:=by simp[tot]
def qcs(a b:List Bs):tot (a++b)=tot a+tot b:=by simp[tot]
def Ap(c:UInt8):∀(w r:Bs),(∀x∈w,x≠c)->Lib.index (w++c::r) [c]=(w.length:Int)
 |[],r,_=>by rw[List.nil_append,Lib.index,qX (by simp[List.isPrefixOf])];rfl|d::w,r,h=>by
  have a:=h d qH;rw[wK,Lib.index,qW (by simp[List.isPrefixOf];intro q;exact a q.symm),Ap c w r (fun d b=>h d (qE _ b)),qW (by rw[beq_iff_eq];omega)]
  simp
def Aq(c:UInt8):∀s:Bs,(∀x∈s,x≠c)->Lib.index s [c] = -1
 |[],_=>rfl|d::s,h=>by
  rw[Lib.index,qW (by simp[List.isPrefixOf];exact fun q=>h d qH q.symm),Aq c s (fun x a=>h x (qE _ a))]
  rfl
def iE(c:UInt8)(s:Bs)(a:s.length<=1000000:=by omega):(jf s [c]=some (-1))\/∃w r,s=w++c::r/\jf s [c]=some (w.length:Int):=by
 unfold jf qf;rw[ag Ta,qB]
 rcases AU c s with⟨w,r,rfl,h⟩|h
 ·exact .inr ⟨w,r,rfl,congrArg some (Ap c w r h)⟩
 ·exact .inl (congrArg some (Aq c s h))
def Rl(j:Nat)(n:Nat)(c:UInt8)(m:Nat)(q:m<=100000):∀(s:Bs)(D E:List Bs),s.length<=100000->E.length+D.length=m+1->D.length<=m->m-D.length<n ->
  Ok (fun r=>r.length<=m+1/\tot r+r.length=tot D+D.length+s.length+1) (mB j n s [c] 0 (m:Int) (D.length:Int) (D++E)):=by
 induction n with
 |zero=>intro s D E _ _ _ h;omega|succ n ih=>
  intro s D E o f p t;rw[mB,IC];obtain⟨e,E,rfl⟩:∃e i,E=e::i:=by cases E with|nil=>simp at f;omega|cons e E=>exact⟨e,E,rfl⟩
  have b:(D.length:Int).toNat<(D++e::E).length:=Td
  have a:Ok (fun r=>r.length<=m+1/\tot r+r.length=tot D+D.length+s.length+1) (bif decide (0<=(D.length:Int)/\(D.length:Int).toNat<List.length (D++e::E)) then((D++e::E)[(D.length:Int).toNat]?).bind fun _=>bif decide (0<=ae ((D.length:Int)+(1:Int))/\ae ((D.length:Int)+(1:Int))<=(List.length (List.set (D++e::E) (D.length:Int).toNat s):Int)) then some (List.take (ae ((D.length:Int)+(1:Int))).toNat (List.set (D++e::E) (D.length:Int).toNat s)) else none else none):=by
   refine bm ⟨Ta,b⟩ ?_
   rw[oE,qB,oZ,bc _]
   refine bm ⟨Ta,Te⟩ (au ?_)
   rw[show((D.length+1:Nat):Int).toNat=(D++[s]).length by simp,show D++s::E=(D++[s])++E by simp,List.take_left,qcs,F3,pE]
   simp;omega
  refine bn (fun k => ?_) (fun k=>a)
  rcases iE c s with d|⟨w,r,rfl,d⟩
  ·rw[d,qB,ag Ta];exact a
  ·simp only[qM,qL]at o;rw[d,qB,bf,Int.add_zero,bq (x:=(w.length:Int)) Ta Ta]
   refine bm Te (bm ⟨Ta,b⟩ ?_)
   rw[oE,qB,show((List.length ([c]:Bs):Nat):Int)=1 from rfl,bc _,bc _,oZ]
   refine bm Te ?_
   rw[show((w.length+1:Nat):Int).toNat=w.length+1 by omega,← List.drop_drop,List.drop_left,show((w.length:Nat):Int).toNat=w.length by omega,List.take_left]
   have:=ih r (D++[w]) E Ta (by simp at f ⊢;omega) Te Te
   simp only[qM,qL,qZ,wO,qS,wM]at this;refine lv this fun v g=>⟨g.1,?_⟩
   have l:=g.2;rw[qcs,F3,pE]at l;simp only[qM,qL];omega
def qs0(a:Nat)(d:100<=a)(s:Bs)(e:s.length<=100000:=by omega):Ok (fun r=>r.length<=4/\tot r+r.length=s.length+1) (Da a s [63] 4):=by
 unfold Da xH;rw[aq,aq,bf Tf]
 unfold xI;rw[bc _]
 generalize c:(if((s.length+1:Nat):Int)<(4:Int) then((s.length+1:Nat):Int) else(4:Int))=x
 obtain⟨m,rfl,f⟩:∃m:Nat,x=((m+1:Nat):Int)/\m<=3:=by
  by_cases h:((s.length+1:Nat):Int)<(4:Int)
  ·rw[qX h]at c;exact⟨s.length,c.symm,Ta⟩
  ·rw[qW h]at c;exact⟨3,Ta,Ta⟩
 refine ar (P:=fun r=>r.length<=4/\tot r+r.length=s.length+1) (bm Ta ?_) fun v b=>au b
 rw[quv m,show((m+1:Nat):Int).toNat=m+1 by omega]
 have:=Rl a a 63 m Ta s [] (List.replicate (m+1) []) e Td Td Te
 rw[List.nil_append,pE]at this;refine lv this fun v b=>⟨Ta,?_⟩
 have:=b.2;simp at this;exact this
def Rp(s p:Bs):Ok (fun b=>b=true->p.length<=s.length) (xB s p):=by
 unfold xB lO;refine ar (P:=fun b=>b=true->p.length<=s.length) (bn (fun h=>bm Ta (au fun _=>Ta)) fun h=>au fun q=>by cases q) fun v a=>au a
def qml{r:List Bs}(h:¬(r.length:Int)<4)(e:r.length<=4):∃a b c d,r=[a,b,c,d]:=by
 match r,h,e with|[a,b,c,d],_,_=>exact⟨a,b,c,d,rfl⟩|[],h,_=>exact absurd h Td|[_],h,_=>exact absurd h Td|[_,_],h,_=>exact absurd h Td|[_,_,_],h,_=>exact absurd h Td|_::_::_::_::_::_,_,h=>exact absurd h Td
def qqu(g:Nat)(i:90000000<=g)(s:Bs)(H:s.length<=100000):Ok (fun v=>v.1.length<=48000/\(v.2.2=true->∃k:Nat,v.2.1=(k:Int)/\6<=k/\k<=s.length)) (Dk g s):=by
 unfold Dk;refine ar (Rp s [61,63]) fun b w=>fa (fun _=>au ⟨Td,fun q=>by cases q⟩) fun q => ?_
 have E:2<=s.length:=w q;generalize o:(if(75:Int)<(List.length s:Int) then(75:Int) else(List.length s:Int))=x
 obtain⟨m,rfl,G,z,A⟩:∃m:Nat,x=(m:Int)/\2<=m/\m<=s.length/\m<=75:=by
  by_cases h:(75:Int)<(List.length s:Int)
  ·rw[qX h]at o;exact⟨75,Ta,Ta,Ta,Ta⟩
  ·rw[qW h]at o;exact⟨s.length,o.symm,Ta,Ta,Ta⟩
 refine bm Ta ?_
 have y:(List.take ((m:Int).toNat-(2:Int).toNat) (List.drop (2:Int).toNat s)).length=m-2:=by
  rw[List.length_take,List.length_drop,show(2:Int).toNat=2 from rfl,show(m:Int).toNat=m by omega];omega
 refine ar (qs0 g Ta _) fun r n => ?_
 rw[y]at n;refine bn (fun _ => ?_) fun u => ?_
 ·unfold xW;rw[ax rfl];exact au ⟨Td,fun q=>by cases q⟩
 ·obtain⟨a,b,c,d,rfl⟩:=qml u n.1;have B:=n.2;simp only[F3,pE,qL,qZ]at B;rw[show aj [a,b,c,d] (3:Int)=some d from rfl,qB]
  refine ar (Rp d [61]) fun C l => ?_
  unfold xW;refine fa (fun _ => ?_) fun q => ?_
  ·exact au ⟨Td,fun q=>by cases q⟩
  ·have F:1<=d.length:=l q;unfold IT;rw[show aj [a,b,c,d] (1:Int)=some b from rfl,show aj [a,b,c,d] (2:Int)=some c from rfl,show aj [a,b,c,d] (0:Int)=some a from rfl]
   simp only[qB];refine ar (qjr g i b c) fun x3 _ => ?_
   obtain⟨t,f,e,j⟩:=qj2 g i a x3.2
   rw[e,qB];have p:ae (ae (ae (ae ((2:Int)+(a.length:Int))+(b.length:Int))+(c.length:Int))+4)=((2+a.length+b.length+c.length+4:Nat):Int):=by
    rw[bq (x:=2+(a.length:Int)) Ta Ta,bq (x:=2+(a.length:Int)+(b.length:Int)) Ta Ta,bq (x:=2+(a.length:Int)+(b.length:Int)+(c.length:Int)) Ta Ta,bq]
    omega
   rw[p];refine bg (fun _ => ?_) fun _=>au ⟨j,fun q=>by cases q⟩
   exact⟨_,rfl,j,fun _=>⟨_,rfl,Ta,Ta⟩⟩
def Gp(g:Int)(k:Nat):Prop:=g<0\/∃j:Nat,g=(j:Int)/\j<=k
def qk8(f:Nat)(o:90000000<=f)(z:Int×Int)(s:Bs)(F:s.length<=4000)(n:Nat):∀(k:Nat)(g:Int)(a:Bs),k<=s.length->s.length-k<n->Gp g k->a.length<=60000*k ->
  Ok (fun v=>v.1.length<=300000000) (cE f n s g (k:Int) z a):=by
 induction n with
 |zero=>intro k g a _ h;omega|succ n ih=>
  intro k g a E h d l;rw[cE,IR];refine bn (fun w => ?_) fun w => ?_
  ·have i:k<s.length:=Ta
   refine bm Ta (ar (qqu f o _ (by rw[List.length_drop];omega)) fun v p => ?_)
   have u:∀(g:Int)(a:Bs),Gp g k->a.length<=60000*k+10000->Ok (fun v=>v.1.length<=300000000) (xQ f (cE f n) s g (k:Int) z a):=fun g a d l=>by
    unfold xQ;rw[bc k]
    exact ih (k+1) g a Ta Ta (d.imp id fun⟨j,e,m⟩=>⟨j,e,Ta⟩) Ta
   have t:∀(b:Bool)(g:Int)(a:Bs),(b=true->0<=g)->Gp g k->a.length<=60000*k+1->Ok (fun v=>v.1.length<=300000000) (xP f (cE f n) s g (k:Int) b z a):=fun b g a y d l=>by
    unfold xP;refine bg (fun q => ?_) fun _=>u g a d Ta
    have:=y q;obtain⟨j,rfl,m⟩:∃j:Nat,g=(j:Int)/\j<=k:=d.resolve_left Ta
    rw[bc k]
    refine bm Ta ?_
    have A:(List.take (((k+1:Nat):Int).toNat-(j:Int).toNat) (List.drop (j:Int).toNat s)).length<=4000:=by
     rw[List.length_take,List.length_drop];omega
    rw[MJ _ _,qB]
    exact u (-1) _ (.inl Ta) Tp
   have r:∀(g:Int)(a:Bs),Gp g k->a.length<=60000*k+1->Ok (fun v=>v.1.length<=300000000) (xO f (cE f n) s g (k:Int) z a):=fun g a d l=>by
    unfold xO;refine bn (fun h=>ar (cf i) fun c _ => ?_) fun h=>t false g a (fun q=>by cases q) d l
    rw[DO,qB];exact t _ g a (fun _=>h) d l
   refine fa (fun _=>bn (fun _=>ar (cf i) fun c _ => ?_) fun _=>r g a d Ta) fun q => ?_
   ·rw[qux _ _,qB]
    exact r g _ d Tm
   ·obtain⟨j,e,C,m⟩:=p.2 q;rw[List.length_drop]at m;have B:=p.1;rw[MJ _ _,qB,e,bq (x:=(k:Int)+(j:Int)) Ta Ta,show(k:Int)+(j:Int)=((k+j:Nat):Int) by omega]
    exact ih (k+j) _ _ Ta Ta (.inr ⟨k+j,rfl,wF _⟩) Tp
  ·refine bn (fun h => ?_) fun h => ?_
   ·obtain⟨j,rfl,m⟩:∃j:Nat,g=(j:Int)/\j<=k:=d.resolve_left Ta
    refine bm Ta ?_
    have A:(List.drop (j:Int).toNat s).length<=4000:=by rw[List.length_drop];omega
    rw[MJ _ _,qB]
    exact⟨_,rfl,TA⟩
   ·exact⟨_,rfl,Tv⟩
def qla(a:Nat)(b:90000000<=a)(s:Bs):Ok (fun v=>v.1.length<=300000000) (Dh a s):=by
 unfold Dh;refine bn (fun _=>⟨_,rfl,Td⟩) fun h => ?_
 exact qk8 a b _ s Ta a 0 (-1) [] Ta Ta (.inl Ta) Td
abbrev db{α:Type}:α->Prop:=fun _=>True
def DQ:∀n:_root_.Fin 256,(y4 (UInt8.ofNat n.val)).isSome=true/\(bO (UInt8.ofNat n.val)).isSome=true/\(bM (UInt8.ofNat n.val)).isSome=true/\(cC ([58,59,44,64,60,62]:Bs) (UInt8.ofNat n.val)).isSome=true:=by decide +kernel
def ER{α:Type}{x:Option α}(h:x.isSome=true):Ok db x:=by
 obtain⟨v,e⟩:=Option.isSome_iff_exists.1 h;exact⟨v,e,trivial⟩
def JJ(c:UInt8):Ok db (y4 c):=ER (o8 (fun c=>(y4 c).isSome=true) (fun n=>(DQ n).1) c)
def qog(c:UInt8):Ok db (bO c):=ER (o8 (fun c=>(bO c).isSome=true) (fun n=>(DQ n).2.1) c)
def QC(c:UInt8):Ok db (bM c):=ER (o8 (fun c=>(bM c).isSome=true) (fun n=>(DQ n).2.2.1) c)
def qbl(c:UInt8):Ok db (cC ([58,59,44,64,60,62]:Bs) c):=ER (o8 (fun c=>(cC ([58,59,44,64,60,62]:Bs) c).isSome=true) (fun n=>(DQ n).2.2.2) c)
def JB(s:Bs)(d:s.length<=10000000)(a:Nat->Bs->Int->Int->Option Bool)(p:UInt8->Option Bool)(hp:∀c,Ok db (p c))
  (b:∀n e k,a (n+1) s e k=(bif decide (k<e) then(aj s k).bind fun c=>(p c).bind fun x=>bif !x then some false else a n s e (ae (k+(1:Int))) else some true)) :
  ∀n k:Nat,s.length-k<n->Ok db (a n s (s.length:Int) (k:Int)):=by
 intro n
 induction n with
 |zero=>intro k h;omega|succ n ih=>
  intro k h;rw[b];refine bn (fun q=>ar (cf (k:=k) Ta) fun c _=>ar (hp c) fun x _=>fa (fun _=>au trivial) fun _ => ?_) fun _=>au trivial
  rw[bc k]
  exact ih (k+1) Ta
def qaa{R:Type}(P1:Nat->Bs->Bs->Int->Bool->Option R)(r0:Bs->Bool->Option T4)(A B:Bs×Bs×Int×Bool->R)(i:∀s b,s.length<=100000->Ok db (r0 s b))
  (o:∀n c a d g,P1 (n+1) c a d g=(jf a c).bind fun x1=>bif decide (x1<(0:Int)) then(r0 a g).bind fun x2=>aw x2 (fun k=>some (A (c,(a,(d,k))))) (fun m=>some (B (c,(a,(d,m))))) else bif decide (0<=ae (x1+d)/\ae (x1+d)<=(List.length a:Int)) then(r0 (List.take (ae (x1+d)).toNat a) g).bind fun p=>aw p (fun l=>some (A (c,(a,(d,l))))) (fun f=>bif decide (0<=ae (x1+(List.length c:Int))/\ae (x1+(List.length c:Int))<=(List.length a:Int)) then P1 n c (List.drop (ae (x1+(List.length c:Int))).toNat a) d f else none) else none) :
  ∀(n:Nat)(s:Bs)(b:Bool),s.length<n->s.length<=100000->Ok db (P1 n [46] s 0 b):=by
 intro n
 induction n with
 |zero=>intro s b h;omega|succ n ih=>
  intro s b h j;rw[o];rcases iE 46 s with e|⟨w,r,rfl,e⟩
  ·rw[e,qB,ag Ta]
   exact ar (i s b j) fun x2 _=>gm (fun _ _=>au trivial) fun _ _=>au trivial
  ·simp only[qM,qL]at h j;rw[e,qB,bf,Int.add_zero,bq (x:=(w.length:Int)) Ta Ta]
   refine bm Te (ar (i _ b (by rw[List.length_take];simp;omega)) fun x2 _=>gm (fun _ _=>au trivial) fun f _ => ?_)
   rw[show((List.length ([46]:Bs):Nat):Int)=1 from rfl,bc _]
   refine bm Te ?_
   rw[show((w.length+1:Nat):Int).toNat=w.length+1 by omega,← List.drop_drop,List.drop_left]
   exact ih r f Ta Ta
def qib(a:Nat)(b:90000000<=a)(s:Bs)(c:s.length<=100000:=by omega):Ok db (Cn a s):=JB s Ta (lF a) bO qog (fun _ _ _=>rfl) a 0 Ta
def qic(a:Nat)(b:90000000<=a)(s:Bs)(c:s.length<=100000):Ok db (Co a s):=JB s Ta (lG a) y4 JJ (fun _ _ _=>rfl) a 0 Ta
def qid(a:Nat)(b:90000000<=a)(s:Bs)(c:s.length<=100000):Ok db (Cp a s):=JB s Ta (lH a) bM QC (fun _ _ _=>rfl) a 0 Ta
def Lj(a:Nat)(b:90000000<=a)(s:Bs):Ok db (t7 a s):=by
 unfold t7;exact fa (fun _=>bn (fun h=>ar (qib a b s) fun _ _=>au trivial) fun _=>au trivial) fun _=>au trivial
def QF(a:Nat)(c:90000000<=a)(s:Bs)(d:s.length<=100000:=by omega):Ok db (wi a s):=by
 unfold wi uH ow cD;simp only[qB];unfold xJ;rw[aq]
 refine ar (P:=db) (ar (P:=db) ?_ fun x _=>gm (fun _ _=>au trivial) fun _ _=>au trivial) fun _ _=>au trivial
 refine qaa (mC a) (wm a) _ _ (fun s b d => ?_) (fun _ _ _ _ _=>rfl) a s false Ta d
 unfold wm;exact bg (fun _=>au trivial) fun _=>ar (qic a c s d) fun _ _=>fa (fun _=>au trivial) fun _=>au trivial
def Kt(a:Nat)(c:90000000<=a)(s:Bs):Ok db (rm a s):=by
 unfold rm;refine bn (fun h => ?_) fun _=>au trivial
 unfold uI ow cD;simp only[qB];unfold xK;rw[aq]
 refine ar (P:=db) (ar (P:=db) ?_ fun x _=>gm (fun _ _=>au trivial) fun _ _=>au trivial) fun _ _=>au trivial
 refine qaa (mD a) (wn a) _ _ (fun s b d => ?_) (fun _ _ _ _ _=>rfl) a s false Ta Ta
 unfold wn;exact bg (fun _=>au trivial) fun _=>ar (qid a c s d) fun _ _=>fa (fun _=>au trivial) fun _=>au trivial
def At(s:Bs)(k:Nat)(m:Bs×Int):Prop:=∃j:Nat,m=(s,(j:Int))/\k<=j/\j<=s.length
def mj{s:Bs}{k j:Nat}(h:k<=j)(a:j<=s.length):At s k (s,(j:Int)):=⟨j,rfl,h,a⟩
def at_le{s:Bs}{k l:Nat}{m:Bs×Int}(h:At s k m)(q:l<=k:=by omega):At s l m:=by obtain⟨j,e,a,b⟩:=h;exact⟨j,e,Ta,b⟩
def jt{α:Type}(P:α->Prop)(r:Int ⊕ α):Prop:=∀m,r = .inr m->P m
def fw{α:Type}{P:α->Prop}{x:Int}:jt P (.inl x):=fun _ q=>by cases q
def ma{α:Type}{P:α->Prop}{x:α}(h:P x):jt P (.inr x):=fun _ q=>by cases q;exact h
def qkk(a:Nat)(o:90000000<=a)(s:Bs)(t:s.length<=4000)(n:Nat):∀(d:Int)(k:Nat),k<=s.length+1->s.length+1-k<n->Ok (jt (At s (k+1))) (fQ a n d (s,(k:Int))):=by
 induction n with
 |zero=>intro d k _ h;omega|succ n ih=>
  intro d k q h;rw[fQ,Hr];refine bn (fun _=>⟨_,rfl,fw⟩) fun j => ?_
  have l:k<s.length:=by simp only[]at j;omega
  unfold Hs;have g:ae ((k:Int)+1)=((k+1:Nat):Int):=bc k
  have i:ae (((k+1:Nat):Int)+1)=((k+2:Nat):Int):=bc (k+1)
  have f:∀d,Ok (jt (At s (k+1))) (fQ a n d (s,((k+1:Nat):Int))):=fun d=>lv (ih d (k+1) Ta Ta) fun r b m e=>at_le (b m e)
  have p:∀d,Ok (jt (At s (k+1))) (fQ a n d (s,((k+2:Nat):Int))):=fun d=>lv (ih d (k+2) Ta Ta) fun r b m e=>at_le (b m e)
  dsimp only;simp only[g,i];refine ar (cf l) fun c _=>bg (fun _=>f _) fun _=>bg (fun _=>bg (fun _=>au (ma (mj Ta Ta))) fun _=>f _) fun _=>bg (fun _=>p _) fun _=>f _
def qst(d:Nat)(f:90000000<=d)(s:Bs)(t:s.length<=4000)(n:Nat):∀k:Nat,k<=s.length->s.length-k<n->Ok (jt (At s k)) (ua d n (s,(k:Int))):=by
 induction n with
 |zero=>intro k _ h;omega|succ n ih=>
  intro k i h;rw[ua,uM];refine bn (fun o => ?_) fun _=>au (ma (mj (wF _) i))
  have p:k<s.length:=by simp only[]at o;omega
  have l:∀j:Nat,k<j->j<=s.length->Ok (jt (At s k)) (ua d n (s,(j:Int))):=fun j a b=>lv (ih j b Ta) fun r g m e=>at_le (g m e)
  refine ar (cf p) fun c _ => ?_
  rw[DO,qB];refine bg (fun _ => ?_) fun _=>bg (fun _=>ar (qkk d f s t d 0 k Ta Ta) fun r g=>gm (fun _ _=>au fw) fun b q => ?_) fun _=>au (ma (mj (wF _) i))
  ·dsimp only;rw[bc k];exact l (k+1) Ta Ta
  ·obtain⟨j,rfl,a,b⟩:=g b q;exact l j Ta b
def qqp(f:Nat)(t:90000000<=f)(s:Bs)(y:s.length<=4000)(n:Nat):∀(k:Nat)(d:Bs),k<=s.length->s.length-k<n->d.length<=k->Ok (jt fun v=>At s (k+1) v.2/\v.1.length<=s.length) (y7 f n (s,(k:Int)) d):=by
 induction n with
 |zero=>intro k d _ h;omega|succ n ih=>
  intro k d w h x;rw[y7,Cj];refine bn (fun _=>⟨_,rfl,fw⟩) fun p => ?_
  have q:k<s.length:=by simp only[]at p;omega
  have l:ae ((k:Int)+1)=((k+1:Nat):Int):=bc k
  have o:ae (((k+1:Nat):Int)+1)=((k+2:Nat):Int):=bc (k+1)
  have i:∀(j:Nat)(c:UInt8),k<j->j<=s.length->Ok (jt fun v=>At s (k+1) v.2/\v.1.length<=s.length) (y7 f n (s,(j:Int)) (d++[c])):=fun j c a b=>
   lv (ih j (d++[c]) b Ta Te) fun r g m e=>⟨at_le (g m e).1,(g m e).2⟩
  unfold lD Ck;dsimp only;simp only[l,o];refine ar (cf q) fun c _=>bg (fun _=>au (ma ⟨mj (wF _) Ta,Tv⟩)) fun _=>bg (fun _=>bn (fun _=>⟨_,rfl,fw⟩) fun u=>ar (cf) fun c2 _=>bm (kz _ _) (i (k+2) c2 Ta Ta)) fun _=>bm (kz _ _) (i (k+1) c Ta Ta)
def Ja(s:Bs)(k:Nat):Dx->Prop|.inl _=>True|.inr (.inl m)=>At s k m|.inr (.inr (.inl (w,(_,m))))=>At s (k+1) m/\w.length<=s.length|.inr (.inr (.inr (_,m)))=>At s (k+1) m
def qo3(d:Nat)(l:90000000<=d)(s:Bs)(o:s.length<=4000)(n:Nat)(a:Nat):∀k:Nat,a<=k->k<=s.length->s.length-k<n->Ok (Ja s a) (wo d n (a:Int) (s,(k:Int))):=by
 induction n with
 |zero=>intro k _ _ h;omega|succ n ih=>
  intro k m f h;rw[wo,Cg];have g:∀b:Bool,(b=true->k<s.length)->Ok (Ja s a) (wq d (wo d n) (a:Int) b (s,(k:Int))):=fun b j=>by
   unfold wq Ch;refine bg (fun q => ?_) fun _=>bg (fun _=>⟨_,rfl,trivial⟩) fun q=>bm Tv (au ⟨mj ?_ f,?_⟩)
   ·have:=j q;dsimp only;rw[bc k]
    exact ih (k+1) Ta Ta Ta
   ·have:¬(k:Int)=(a:Int):=by simpa using q
    omega
   ·rw[List.length_take,List.length_drop];simp only[];omega
  refine bn (fun i => ?_) fun _=>g false (fun q=>by cases q)
  have e:k<s.length:=by simp only[]at i;omega
  exact ar (cf e) fun c _=>ar (JJ c) fun b _=>bg (fun _=>g true fun _=>e) fun _=>ar (cf e) fun c2 _=>g _ fun _=>e
def A2(d:Nat)(e:90000000<=d)(s:Bs)(g:s.length<=4000)(k:Nat)(u:k<=s.length:=by omega):Ok (Ja s k) (t8 d (s,(k:Int))):=by
 unfold t8 uL;refine ar (qst d e s g d k u Ta) fun r f=>gm (fun _ _=>au trivial) fun b t => ?_
 obtain⟨j,rfl,a,b⟩:=f b t;refine bn (fun _=>au (mj a b)) fun o => ?_
 have p:j<s.length:=by simp only[]at o;omega
 refine ar (cf p) fun c _=>bg (fun _ => ?_) fun _=>ar (qbl c) fun x _=>bn (fun _=>au ?_) fun _ => ?_
 ·unfold Ci;dsimp only;rw[bc j]
  refine ar (qqp d e s g d (j+1) [] Ta Ta Td) fun v n=>gm (fun _ _=>au trivial) fun i l=>au ⟨at_le (n i l).1,(n i l).2⟩
 ·show At s (k+1) (s,ae ((j:Int)+1));rw[bc j];exact mj Ta Ta
 ·refine lv (qo3 d e s g d j j (wF _) b Ta) fun r f => ?_
  match r,f with|.inl _,_=>trivial|.inr (.inl m),h=>exact at_le h a|.inr (.inr (.inl (w,(q,m)))),h=>exact⟨at_le h.1,h.2⟩|.inr (.inr (.inr (c,m))),h=>exact at_le h
def qva(d:Nat)(f:90000000<=d)(s:Bs)(y:s.length<=4000)(n:Nat):∀(k:Nat)(l:List TR),k<=s.length->s.length-k<n->l.length<=k->(∀w∈l,w.1.length<=s.length)->Ok (jt fun v=>At s k v.1/\v.2.length<=s.length/\∀w∈v.2,w.1.length<=s.length) (fS d n (s,(k:Int)) l):=by
 induction n with
 |zero=>intro k l _ h;omega|succ n ih=>
  intro k l g h A i;rw[fS,Cl];unfold np;obtain⟨r,e,u⟩:=A2 d f s y k g;rw[e]
  match r,u with
  |.inl _,_=>exact⟨_,rfl,fw⟩|.inr (.inl m),h2=>
   obtain⟨j,rfl,a,b⟩:=h2;exact⟨_,rfl,ma ⟨mj (wF _) g,Tv,i⟩⟩
  |.inr (.inr (.inl (w,(q,m)))),h2=>
   obtain⟨⟨j,rfl,a,b⟩,t⟩:=h2;simp only[qB,aw];rw[e];simp only[qB,aw];refine bm (kz _ _) (lv (ih j _ b Ta Te fun x z => ?_) fun v p m o=>⟨at_le (p m o).1,(p m o).2⟩)
   rcases List.mem_append.1 z with q|q
   ·exact i x q
   ·rw[List.mem_singleton]at q;subst q;exact t
  |.inr (.inr (.inr (c,m))),h2=>
   obtain⟨j,rfl,a,b⟩:=h2;exact⟨_,rfl,ma ⟨mj (wF _) g,Tv,i⟩⟩
def MH(a:Nat)(b:90000000<=a)(s:Bs)(d:s.length<=4000)(k:Nat)(c:k<=s.length):Ok (jt fun v=>At s k v.1/\v.2.length<=s.length/\∀w∈v.2,w.1.length<=s.length) (fR a (s,(k:Int))):=
 qva a b s d a k [] c Ta Td (fun _ h=>by cases h)
def oI(g:Nat)(h:90000000<=g)(s:Bs)(l:s.length<=4000)(c:UInt8)(k:Nat)(f:k<=s.length):Ok (jt fun v=>At s k v.2/\(v.1=true->At s (k+1) v.2)) (qe g c (s,(k:Int))):=by
 unfold qe np;obtain⟨r,e,i⟩:=A2 g h s l k f;rw[e]
 match r,i with
 |.inl _,_=>exact⟨_,rfl,fw⟩|.inr (.inl m),h2=>
  obtain⟨j,rfl,a,b⟩:=h2;exact⟨_,rfl,ma ⟨mj (wF _) f,fun q=>by cases q⟩⟩
 |.inr (.inr (.inl (w,(q,m)))),h2=>
  obtain⟨⟨j,rfl,a,b⟩,n⟩:=h2;exact⟨_,rfl,ma ⟨mj (wF _) f,fun q=>by cases q⟩⟩
 |.inr (.inr (.inr (d,m))),h2=>
  obtain⟨j,rfl,a,b⟩:=h2;simp only[qB,aw];refine fa (fun _=>au (ma ⟨mj (wF _) f,fun q=>by cases q⟩)) fun _ => ?_
  rw[e];exact⟨_,rfl,ma ⟨mj Ta b,fun _=>mj a b⟩⟩
def Lz(a:Nat)(d:90000000<=a)(s:Bs)(h:s.length<=4000)(c:UInt8)(k:Nat)(f:k<=s.length):Ok (jt (At s (k+1))) (bQ a c (s,(k:Int))):=by
 unfold bQ;refine ar (oI a d s h c k f) fun r g=>gm (fun _ _=>au fw) fun b e=>fa (fun _=>⟨_,rfl,fw⟩) fun q=>au (ma ((g b e).2 q))
def RF(a:Bs)(m:Nat):∀r:List Bs,(∀x∈r,x.length<=m)->(Lib.joinTail a r).length<=(m+a.length)*r.length
 |[],_=>by simp[Lib.joinTail]|x::r,h=>by
  have c:=h x qH;have d:=RF a m r (fun y b=>h y (qE _ b))
  have e:Lib.joinTail a (x::r)=a++x++Lib.joinTail a r:=by simp[Lib.joinTail]
  rw[e,qM,qM,qL,Nat.mul_add];omega
def RG(a:Bs)(m:Nat)(r:List Bs)(h:∀x∈r,x.length<=m):(Lib.join r a).length<=(m+a.length)*r.length:=by
 cases r with
 |nil=>simp[Lib.join_nil]|cons x r=>
  have c:=h x qH;have d:=RF a m r (fun y b=>h y (qE _ b))
  rw[Lib.join_cons,qM,qL,Nat.mul_add];omega
def RE(a:Bs)(r:List Bs)(d:a.length<=10)(h:∀x∈r,x.length<=300000000)(b:r.length<=10000:=by omega):Ok db (im r a):=by
 have:=RG a 300000000 r h;unfold im;have c:(300000000+a.length)*r.length<=300000010*10000:=Nat.mul_le_mul Ta b
 exact bm ⟨Ta,Ta⟩ (au trivial)
def Lv{l:List Bs}{x:Bs}{m:Nat}(h:∀y∈l,y.length<=m)(a:x.length<=m:=by omega):∀y∈l++[x],y.length<=m:=fun y b=>by
 rcases List.mem_append.1 b with q|q
 ·exact h y q
 ·rw[List.mem_singleton]at q;subst q;exact a
def S2(b:Nat)(c:90000000<=b)(run a:List Bs)(f:∀x∈run,x.length<=4000)(i:run.length<=4000)(e:∀x∈a,x.length<=300000000)(j:a.length<=9000:=by omega) :
  Ok (fun v=>v.1=[]/\v.2.length<=a.length+1/\∀x∈v.2,x.length<=300000000) (uF b run a):=by
 unfold uF;refine bn (fun _=>ar (RE _ run Td (fun x g=>by have:=f x g;omega)) fun x1 _=>ar (qla b c x1) fun x2 d=>bm (kz _ _) (au ⟨rfl,Td,Lv e d⟩)) fun h=>au ⟨?_,Td,e⟩
 exact List.length_eq_zero_iff.1 Tv
def qo0(f:Nat)(e:90000000<=f)(l:List TR)(p:l.length<=4000)(i:∀w∈l,w.1.length<=4000)(n:Nat):∀(k:Nat)(a run:List Bs),k<=l.length->l.length-k<n->a.length<=2*k->(∀x∈a,x.length<=300000000)->run.length<=k->(∀x∈run,x.length<=4000) ->
  Ok db (uG f n l (l.length:Int) (k:Int) a run):=by
 induction n with
 |zero=>intro k a run _ h;omega|succ n ih=>
  intro k a run o h q b r c;rw[uG,Hq];refine bn (fun g => ?_) fun g => ?_
  ·refine ar (LE (k:=k) Ta i) fun s m=>bg (fun _=>ar (S2 f e run a c Ta b) fun v d=>bm (kz _ _) ?_) fun _=>bm (kz _ _) ?_
   ·rw[bc k,d.1]
    exact ih (k+1) _ [] Ta Ta (by have:=d.2.1;simp;omega) (Lv d.2.2) Td (fun x j=>by cases j)
   ·rw[bc k]
    exact ih (k+1) a _ Ta Ta Ta b Te (Lv c m)
  ·refine ar (S2 f e run a c Ta b) fun v d=>ar (RE _ v.2 Td d.2.2 (by have:=d.2.1;omega)) fun _ _=>au trivial
def S3(a:Nat)(b:90000000<=a)(l:List TR)(d:l.length<=4000)(e:∀w∈l,w.1.length<=4000):Ok db (lC a l):=
 qo0 a b l d e a 0 [] [] Ta Ta Td (fun x c=>by cases c) Td (fun x c=>by cases c)
def Eg(a:Nat)(b:90000000<=a)(s:Bs):Ok db (wh s):=by
 unfold wh ww;refine bn (fun _=>au trivial) fun h=>ar (bm (P:=db) Ta (au trivial)) fun _ _=>fa (fun _=>au trivial) fun _=>au trivial
def Pn(c:Nat)(b:90000000<=c)(a:Bs×Bs×Bs):Ok db (bL c a):=by
 unfold bL;refine ar (Eg c b _) fun x1 _=>bg (fun _=>⟨_,rfl,trivial⟩) fun _=>ar (Lj c b _) fun x3 _=>fa (fun _=>⟨_,rfl,trivial⟩) fun _=>ar (Kt c b _) fun d _=>fa (fun _=>⟨_,rfl,trivial⟩) fun _=>⟨_,rfl,trivial⟩
def qh8(a:Nat)(b:90000000<=a)(l:List TP)(d:l.length<=80000000)(n:Nat):∀k:Nat,l.length-k<n->Ok db (wj a n l (l.length:Int) (k:Int)):=by
 induction n with
 |zero=>intro k h;omega|succ n ih=>
  intro k h;rw[wj,lB];refine bn (fun c=>ar (cf (k:=k) Ta) fun y _=>ar (Pn a b y) fun x2 _=>ar (P:=db) ⟨_,rfl,trivial⟩ fun x3 _=>bg (fun _=>au trivial) fun _ => ?_) fun _=>au trivial
  rw[bc k]
  exact ih (k+1) Ta
def Pr(a:Nat)(c:90000000<=a)(x:Bs×Bool×TY)(d:x.2.2.length<=80000000:=by omega):Ok db (bN a x):=by
 unfold bN;have p:∀b,Ok db (rq a b x):=fun b=>by
  unfold rq uE;exact bg (fun _=>au trivial) fun _=>qh8 a c _ d a 0 Ta
 exact ar (Eg a c _) fun x1 _=>bg (fun _=>au trivial) fun _=>fa (fun _=>p _) fun _=>fa (fun _=>p _) fun _=>p _
def qj5(a:Nat)(b:90000000<=a)(l:List TI)(f:l.length<=80000000)(c:∀x∈l,x.2.2.length<=80000000)(z:Int×Int)(n:Nat):∀k:Nat,l.length-k<n->Ok db (wg a n l (l.length:Int) (k:Int) z):=by
 induction n with
 |zero=>intro k h;omega|succ n ih=>
  intro k h;rw[wg,kX];refine bn (fun e=>ar (LE (k:=k) Ta c) fun y d=>ar (Pr a b y d) fun x2 _=>bg (fun _=>⟨_,rfl,trivial⟩) fun _ => ?_) fun _=>⟨_,rfl,trivial⟩
  rw[bc k]
  exact ih (k+1) Ta
def qj3(a:Nat)(d:90000000<=a)(l:List TI)(e:l.length<=80000000)(f:∀x∈l,x.2.2.length<=80000000)(z:Int×Int)(n:Nat):∀(c:Int)(k:Nat),l.length-k<n->Ok db (wb a n l c l (l.length:Int) (k:Int) z):=by
 induction n with
 |zero=>intro c k h;omega|succ n ih=>
  intro c k h;rw[wb,kW];have p:∀b,Ok db (we a l b z):=fun b=>by
   unfold we uC;exact bg (fun _=>⟨_,rfl,trivial⟩) fun _=>qj5 a d l e f z a 0 Ta
  refine bn (fun g=>ar (cf (k:=k) Ta) fun y _ => ?_) fun _=>bn (fun _=>p _) fun _=>p _
  rw[bc k]
  exact ih _ (k+1) Ta
def Qi(a:Nat)(b:90000000<=a)(l:List TI)(c:l.length<=80000000)(d:∀x∈l,x.2.2.length<=80000000):Ok db (bJ a l):=qj3 a b l c d _ a 0 0 Ta
def Bw(s:Bs)(k:Nat)(v:TP×TL×T7):Prop:=At s (k+1) v.2.1/\v.1.2.1.length<=s.length/\v.1.2.2.length<=s.length
def qbw(e:Nat)(c:90000000<=e)(s:Bs)(n:s.length<=4000)(k:Nat)(t:k<=s.length)(l:List TR)(u:∀w∈l,w.1.length<=s.length):Ok (jt fun v=>Bw s k v/\v.1.1=[]) (bR e (s,(k:Int)) l):=by
 unfold bR;have i:∀(l:List (Bs×Bool))(z:Bs×Bs×Bs),Ok (jt fun v=>Bw s k v/\v.1.1=[]) (bS e true (s,(k:Int)) l z):=fun l z=>⟨_,rfl,fw⟩
 by_cases f:(l.length:Int)=1
 ·rw[aq (by simp[f])]
  obtain⟨w,rfl⟩:∃w,l=[w]:=by
   match l,f with|[w],_=>exact⟨w,rfl⟩|[],h=>simp at h|_::_::_,h=>simp only[qL]at h;omega
  have y:=u w qH;have o:∀z:Bs×Bs×Bs,Ok (jt fun v=>Bw s k v/\v.1.1=[]) (bS e false (s,(k:Int)) [w] z):=fun z=>by
   unfold bS uN;rw[aq rfl];refine ar (Lz e c s n 64 k t) fun r g=>gm (fun _ _=>au fw) fun b p => ?_
   obtain⟨j,rfl,a,b⟩:=g b p;refine ar (A2 e c s n j b) fun r g => ?_
   match r,g with
   |.inl _,_=>exact⟨_,rfl,fw⟩|.inr (.inl m),h2=>exact⟨_,rfl,fw⟩|.inr (.inr (.inr (d,m))),h2=>exact⟨_,rfl,fw⟩|.inr (.inr (.inl (x,(q,m)))),h2=>
    refine bg (fun _=>⟨_,rfl,fw⟩) fun _=>ar (Kt e c x) fun A _=>fa (fun _=>⟨_,rfl,fw⟩) fun _=>bm ⟨Tf,Td⟩ ?_
    exact⟨_,rfl,ma ⟨⟨at_le h2.1,y,h2.2⟩,rfl⟩⟩
  refine bm ⟨Tf,Td⟩ ?_
  rw[show([w]:List (Bs×Bool))[(0:Int).toNat]? = some w from rfl]
  simp only[qB];refine ar (Lj e c w.1) fun x2 _=>fa (fun _=>i _ _) fun _=>bm ⟨Tf,Td⟩ (fa (fun _=>bm ⟨Tf,Td⟩ (ar (QF e c w.1) fun B _ => ?_)) fun _=>o _)
  cases B
  ·exact i _ _
  ·exact o _
 ·rw[ax (by simp[f])];exact i _ _
def Pl(f:Nat)(c:90000000<=f)(s:Bs)(g:s.length<=4000)(k:Nat)(A:k<=s.length)(l:List TR)(K:l.length<=s.length)(n:∀w∈l,w.1.length<=s.length):Ok (jt (Bw s k)) (y5 f (s,(k:Int)) l):=by
 unfold y5;refine ar (oI f c s g 60 k A) fun r e=>gm (fun _ _=>au fw) fun b d => ?_
 obtain⟨b,m⟩:=b;obtain⟨⟨j,rfl,G,h⟩,_⟩:=e _ d;refine fa (fun _=>ar (qbw f c s g j h l n) fun r e=>gm (fun _ _=>au fw) fun b d=>au (ma ?_)) fun _ => ?_
 ·obtain⟨⟨t,u,v⟩,_⟩:=e b d;exact⟨at_le t,u,v⟩
 ·refine ar (MH f c s g j h) fun r e=>gm (fun _ _=>au fw) fun b d => ?_
  obtain⟨m,C⟩:=b;obtain⟨⟨i,rfl,H,p⟩,J,x⟩:=e _ d;refine ar (qbw f c s g i p C x) fun r e=>gm (fun _ _=>au fw) fun b d => ?_
  obtain⟨a,m,E⟩:=b;obtain⟨⟨⟨o,rfl,I,q⟩,y,z⟩,_⟩:=e _ d;refine ar (S3 f c l Ta (fun w B=>by have:=n w B;omega)) fun F _=>ar (Lz f c s g 62 o q) fun r e=>gm (fun _ _=>au fw) fun b d=>au (ma ⟨at_le (e b d),y,z⟩)
def gL(s:Bs)(x:Bs×Bool×TY):Prop:=x.2.2.length<=s.length+1/\(∀a∈x.2.2,a.2.1.length<=s.length/\a.2.2.length<=s.length)/\(x.2.1=false->x.2.2.length=1)
def qnm(f:Nat)(c:90000000<=f)(s:Bs)(u:s.length<=4000)(z1:Bs)(N:Bool)(g:Bs)(n:Nat):∀(k:Nat)(l:List TP),k<=s.length->s.length-k<n->l.length<=k->(∀a∈l,a.2.1.length<=s.length/\a.2.2.length<=s.length) ->
  Ok (jt fun v=>At s (k+1) v.2/\gL s v.1) (bP f n (s,(k:Int)) z1 N g l):=by
 induction n with
 |zero=>intro k l _ h;omega|succ n ih=>
  intro k l J h S I;rw[bP,uJ];refine ar (MH f c s u k J) fun r e=>gm (fun _ _=>au fw) fun b d => ?_
  obtain⟨m,L⟩:=b;obtain⟨⟨i,rfl,O,A⟩,E,F⟩:=e _ d;refine ar (Pl f c s u i A L E F) fun r e=>gm (fun _ _=>au fw) fun b d => ?_
  obtain⟨a,m,M⟩:=b;obtain⟨⟨o,rfl,P,B⟩,G,H⟩:=e _ d;have j:∀x∈l++[a],x.2.1.length<=s.length/\x.2.2.length<=s.length:=fun x K=>by
   rcases List.mem_append.1 K with q|q
   ·exact I x q
   ·rw[List.mem_singleton]at q;subst q;exact⟨G,H⟩
  refine bm (kz _ _) (ar (oI f c s u 59 o B) fun r e=>gm (fun _ _=>au fw) fun b d => ?_)
  obtain⟨b,m⟩:=b;obtain⟨⟨p,rfl,Q,w⟩,_⟩:=e _ d;refine bg (fun _=>au (ma ⟨mj Ta w,Te,j,fun q=>by cases q⟩)) fun _=>ar (Lz f c s u 44 p w) fun r e=>gm (fun _ _=>au fw) fun b d => ?_
  obtain⟨t,rfl,R,C⟩:=e _ d;exact lv (ih t _ C Ta Te j) fun v z m y=>⟨at_le (z m y).1,(z m y).2⟩
def RD(d:Nat)(c:90000000<=d)(s:Bs)(j:s.length<=4000)(k:Nat)(G:k<=s.length:=by omega):Ok (jt fun v=>At s (k+1) v.2/\gL s v.1) (y6 d (s,(k:Int))):=by
 unfold y6;refine ar (MH d c s j k G) fun r g=>gm (fun _ _=>au fw) fun b f => ?_
 obtain⟨m,A⟩:=b;obtain⟨⟨i,rfl,J,B⟩,x,y⟩:=g _ f;refine ar (oI d c s j 58 i B) fun r g=>gm (fun _ _=>au fw) fun b f => ?_
 obtain⟨b,m⟩:=b;obtain⟨⟨o,rfl,K,n⟩,l⟩:=g _ f;refine fa (fun _=>ar (Pl d c s j o n A x y) fun r g=>gm (fun _ _=>au fw) fun b f=>au (ma ?_)) fun q=>ar (S3 d c A (by dsimp only at x;omega) (fun w H=>by have:=y w H;omega)) fun yj _=>bg (fun _=>⟨_,rfl,fw⟩) fun _ => ?_
 ·obtain⟨C,E,F⟩:=g b f;refine⟨at_le C,Td,fun a h => ?_,fun _=>rfl⟩
  rw[List.mem_singleton]at h;subst h;exact⟨E,F⟩
 ·obtain⟨I,e,L,N⟩:=l q;obtain rfl:o=I:=by have:=congrArg Prod.snd e;simp only[]at this;omega
  unfold uK;refine ar (oI d c s j 59 o n) fun r g=>gm (fun _ _=>au fw) fun b f => ?_
  obtain⟨b,m⟩:=b;obtain⟨⟨p,rfl,M,t⟩,_⟩:=g _ f;refine bg (fun _=>au (ma ⟨mj Ta t,Td,fun a h=>(by cases h),fun q=>by cases q⟩)) fun _ => ?_
  exact lv (qnm d c s j [] false yj d p [] t Ta Td (fun a h=>by cases h)) fun v z m u=>⟨at_le (z m u).1,(z m u).2⟩
def IZ(s:Bs)(l:List TI):Prop:=l.length<=s.length+1/\∀x∈l,gL s x
def yE(s:Bs)(r:yF):Prop:=∀v,r = .inr v->IZ s v.1
def iS{s:Bs}{x:Int×Bs}:yE s (.inl x):=fun _ q=>by cases q
def Se(s:Bs):IZ s []:=⟨Td,fun x a=>by cases a⟩
def Sf(s:Bs){l:List TI}{x:Bs×Bool×TY}(h:∀x∈l,gL s x)(a:gL s x):∀y∈l++[x],gL s y:=fun y b=>by
 rcases List.mem_append.1 b with q|q
 ·exact h y q
 ·rw[List.mem_singleton]at q;subst q;exact a
def qab(a:Nat)(b:90000000<=a)(s:Bs)(g:s.length<=4000)(e:Bs)(f:Int×Int)(l:List TI)(c:IZ s l):Ok (yE s) (fP a e f l):=by
 unfold fP;refine ar (Qi a b l (by have:=c.1;omega) (fun x d=>by have:=(c.2 x d).1;omega)) fun x1 _=>ar (P:=db) ⟨_,rfl,trivial⟩ fun x2 _=>bg (fun _=>⟨_,rfl,fun _ q => ?_⟩) fun _=>⟨_,rfl,fun _ q => ?_⟩
 ·cases q;exact Se s
 ·cases q;exact c
def qqj(c:Nat)(a:90000000<=c)(s:Bs)(g:s.length<=4000)(u:Bs)(v:Int×Int)(n:Nat):∀(k:Nat)(l:List TI),k<=s.length->s.length-k<n->l.length<=k->(∀x∈l,gL s x)->Ok (yE s) (mc c n u v (s,(k:Int)) l):=by
 induction n with
 |zero=>intro k l _ h;omega|succ n ih=>
  intro k l A h F t;rw[mc,fN];refine ar (oI c a s g 44 k A) fun r f=>gm (fun _ _=>au iS) fun b i => ?_
  obtain⟨b,m⟩:=b;obtain⟨⟨o,rfl,C,j⟩,z⟩:=f _ i;refine bg (fun q=>ar (RD c a s g o j) fun r f=>gm (fun _ _=>au iS) fun b i => ?_) fun _ => ?_
  ·obtain⟨x,m⟩:=b;obtain⟨⟨p,rfl,E,y⟩,B⟩:=f _ i;exact bm (kz _ _) (ih p _ y Ta Te (Sf s t B))
  ·unfold np;obtain⟨r,e,f⟩:=A2 c a s g o j;dsimp only;rw[e]
   match r,f with|.inl _,_=>exact⟨_,rfl,iS⟩|.inr (.inl m),h2=>exact qab c a s g u v l ⟨Ta,t⟩|.inr (.inr (.inl (w,(q,m)))),h2=>exact⟨_,rfl,iS⟩|.inr (.inr (.inr (d,m))),h2=>exact⟨_,rfl,iS⟩
def qqk(c:Nat)(f:90000000<=c)(s:Bs)(i:s.length<=4000)(a b:Int):Ok (yE s) (kY c s a b):=by
 unfold kY fO np;have y:=RD c f s i 0
 have o:Ok (yE s) ((y6 c (s,(0:Int))).bind fun z=>aw z (fun t=>some (.inl (t,s))) (fun g=>bif decide (List.length ([g.1]:List (Bs×Bool×(List (Bs×Bs×Bs))))<=az) then mc c c s (a,b) g.2 ([g.1]:List (Bs×Bool×(List (Bs×Bs×Bs)))) else none)):=by
  refine ar y fun r k=>gm (fun _ _=>au iS) fun b v => ?_
  obtain⟨x,m⟩:=b;obtain⟨⟨p,rfl,A,u⟩,n⟩:=k _ v;exact bm TF (qqj c f s i s _ c p [x] u Ta Te (Sf s (l:=[]) (fun x n=>by cases n) n))
 obtain⟨r,e,k⟩:=A2 c f s i 0
 rw[show((0:Nat):Int)=0 from rfl]at e
 rw[e]
 match r,k with
 |.inl _,_=>exact⟨_,rfl,iS⟩|.inr (.inl m),h=>simp only[qB,aw];exact qab c f s i s (a,b) [] (Se s)|.inr (.inr (.inl (w,(q,m)))),h=>
  obtain⟨⟨j,rfl,_,_⟩,_⟩:=h;exact o
 |.inr (.inr (.inr (d,m))),h=>
  obtain⟨j,rfl,_,_⟩:=h;exact o
def qpy(d:Nat)(e:90000000<=d)(s:Bs):Ok (fun v=>v.1.length<=4001/\∀x∈v.1,x.2.2.length<=4001/\(∀a∈x.2.2,a.2.1.length<=4000/\a.2.2.length<=4000)/\(x.2.1=false->x.2.2.length=1)) (fL d s):=by
 unfold fL fM;refine bn (fun _=>⟨_,rfl,Td,fun x c=>by cases c⟩) fun h=>ar (qqk d e s Ta _ _) fun r l=>gm (fun _ _=>⟨_,rfl,Td,fun x c=>by cases c⟩) fun b k=>au ?_
 obtain⟨m,f⟩:=l b k;refine⟨Ta,fun x c => ?_⟩
 obtain⟨n,g,i⟩:=f x c;exact⟨Ta,fun a j=>by have:=g a j;omega,i⟩
def dc(c:UInt8):Bool:=(y4 c).getD false
def JI(c:UInt8):y4 c=some (dc c):=by
 obtain⟨v,e,_⟩:=JJ c;unfold dc;rw[e];rfl
def dx(c:UInt8):Bool:=dc c||c==46
abbrev dS:Bs:=[58,59,44,64,60,62]
def yd(c:UInt8):Int:=(cC dS c).getD 0
def qbk(c:UInt8):cC dS c=some (yd c):=by
 obtain⟨v,e,_⟩:=qbl c;unfold yd;rw[e];rfl
def Qe:∀n:_root_.Fin 256,(dS.contains (UInt8.ofNat n.val)=true->dx (UInt8.ofNat n.val)=false/\0<=yd (UInt8.ofNat n.val)/\bl (UInt8.ofNat n.val)=false/\UInt8.ofNat n.val≠40/\UInt8.ofNat n.val≠34)/\(dx (UInt8.ofNat n.val)=true->yd (UInt8.ofNat n.val)<0/\bl (UInt8.ofNat n.val)=false/\UInt8.ofNat n.val≠40/\UInt8.ofNat n.val≠34):=by decide +kernel
def Qf{c:UInt8}(h:c∈dS):dx c=false/\0<=yd c/\bl c=false/\c≠40/\c≠34:=
 (o8 (fun c=>(dS.contains c=true->dx c=false/\0<=yd c/\bl c=false/\c≠40/\c≠34)/\(dx c=true->yd c<0/\bl c=false/\c≠40/\c≠34)) Qe c).1 (by simpa using h)
def qj0{c:UInt8}(h:dx c=true):yd c<0/\bl c=false/\c≠40/\c≠34:=
 (o8 (fun c=>(dS.contains c=true->dx c=false/\0<=yd c/\bl c=false/\c≠40/\c≠34)/\(dx c=true->yd c<0/\bl c=false/\c≠40/\c≠34)) Qe c).2 h
def quz:dx 34=false:=by decide +kernel
def quy:dx 32=false:=by decide +kernel
def Sx(s:Bs)(k:Nat)(r:Bs):Prop:=s.drop k=r/\k<=s.length
def td{s r:Bs}{k:Nat}(h:Sx s k r):k+r.length=s.length:=by
 have:=congrArg List.length h.1;rw[List.length_drop]at this;have:=h.2;omega
def iv{s a r:Bs}{k:Nat}(h:Sx s k (a++r)):Sx s (k+a.length) r:=by
 have b:=td h;rw[qM]at b;refine⟨?_,Ta⟩
 rw[← List.drop_drop,h.1,List.drop_left]
def AW{s r:Bs}{c:UInt8}{k:Nat}(h:Sx s k (c::r)):Sx s (k+1) r:=iv (a:=[c]) h
def vi{s r:Bs}{c:UInt8}{k:Nat}(h:Sx s k (c::r)):aj s (k:Int)=some c:=by
 have a:=td h;rw[qL]at a;rw[fv s k]
 have:=congrArg List.head? h.1;rw[List.head?_drop,List.head?_cons,List.getElem?_eq_getElem Ta]at this
 exact this
def jy{s r:Bs}{c:UInt8}{k:Nat}(h:Sx s k (c::r)):k<s.length:=by
 have a:=td h;rw[qL]at a;omega
def qto{s a r:Bs}{k:Nat}(h:Sx s k (a++r)):List.take (((k+a.length:Nat):Int).toNat-(k:Int).toNat) (List.drop (k:Int).toNat s)=a:=by
 rw[show((k:Nat):Int).toNat=k by omega,h.1,show((k+a.length:Nat):Int).toNat-k=a.length by omega,List.take_left]
def stp(r:Bs):Prop:=∀c t,r=c::t->bl c=false/\c≠40
def qbp(a:Nat)(s:Bs)(g:s.length<=4000)(n:Nat){k:Nat}{r:Bs}(h:Sx s k r)(f:stp r):ua a (n+1) (s,(k:Int))=some (.inr (s,(k:Int))):=by
 rw[ua,uM];have e:=td h
 cases r with
 |nil=>rw[bf (by simp only[];simp at e;omega)]|cons c t=>
  obtain⟨b,d⟩:=f c t rfl;rw[ag (by simp only[];have:=jy h;omega)]
  dsimp only;rw[vi h,qB,DO,qB,b,aq rfl,aq (by simp[d])]
def Fu(a:Nat)(s:Bs)(d:s.length<=4000){k:Nat}{b:Bool}{r:Bs}(e:90000000<=a)(h:Sx s k ((if b then[32] else[])++r))(c:stp r):uL a (s,(k:Int))=some (.inr (s,((k+(if b then 1 else 0):Nat):Int))):=by
 unfold uL;obtain⟨n,f⟩:∃n,a=n+1+1:=⟨a-2,Ta⟩
 rw[show ua a a=ua a (n+1+1) by rw[← f]]
 cases b with
 |false=>exact qbp a s d (n+1) h c|true=>
  have h:Sx s k (32::r):=h;rw[ua,uM,ag (by simp only[];have:=jy h;omega)]
  dsimp only;rw[vi h,qB,DO,qB,ax,bc k (by have:=jy h;omega)]
  exact qbp a s d n (AW h) c
def qu8(j:Nat)(s:Bs)(v:s.length<=4000)(b:Nat)(n:Nat):∀(a w r:Bs),Sx s b (a++(w++r))->w.length<n->(∀c∈w,dx c=true)->(∀c t,r=c::t->dx c=false)->a++w≠[] ->
  wo j n (b:Int) (s,((b+a.length:Nat):Int))=some (.inr (.inr (.inl (a++w,(false,(s,((b+(a++w).length:Nat):Int))))))):=by
 induction n with
 |zero=>intro a w r _ h;omega|succ n ih=>
  intro a w r h u o m k;have l:=td h;rw[wo,Cg]
  cases w with
  |nil=>
   rw[List.append_nil]at k ⊢;rw[List.nil_append]at h;have i:wq j (wo j n) (b:Int) false (s,((b+a.length:Nat):Int))=some (.inr (.inr (.inl (a,(false,(s,((b+a.length:Nat):Int))))))):=by
    unfold wq;have:1<=a.length:=by cases a with|nil=>exact absurd rfl k|cons _ _=>simp
    simp only[qM]at l;rw[aq rfl,aq Te]
    dsimp only;rw[ag Ta,qto h]
   have g:=iv h
   cases r with
   |nil=>rw[bf (by simp only[];simp at l;omega)];exact i|cons c t=>
    have e:=m c t rfl;unfold dx at e;rw[Bool.or_eq_false_iff]at e;rw[ag (by simp only[];have:=jy g;omega)]
    dsimp only;rw[vi g,qB,JI,qB,e.1,aq rfl,qB,e.2];exact i
  |cons c w=>
   have e:=o c qH;have g:Sx s (b+a.length) (c::(w++r)):=iv h;have f:wq j (wo j n) (b:Int) true (s,((b+a.length:Nat):Int))=some (.inr (.inr (.inl (a++c::w,(false,(s,((b+(a++c::w).length:Nat):Int))))))):=by
    unfold wq Ch;rw[ax rfl];dsimp only;rw[bc _ (by have:=jy g;omega)]
    have:=ih (a++[c]) w r (by simpa using h) (by simp at u;omega) (fun d q=>o d (qE _ q)) m Td
    simp only[qS,wM]at this;rw[show b+(a++[c]).length=b+a.length+1 by simp;omega]at this
    exact this
   rw[ag (by simp only[];have:=jy g;omega)]
   dsimp only;rw[vi g,qB,JI,qB];cases p:dc c
   ·rw[aq rfl,qB];unfold dx at e;rw[p,Bool.false_or]at e;rw[e];exact f
   ·rw[ax rfl];exact f
abbrev de(w:Bs):Bs:=fk 92 34 [92,92] [92,34] w
def qqo(l:Nat)(s:Bs)(u:s.length<=4000)(n:Nat):∀(w r:Bs)(k:Nat)(a:Bs),Sx s k (de w++34::r)->w.length<n->a.length+w.length<=100000 ->
  y7 l n (s,(k:Int)) a=some (.inr (a++w,(s,((k+(de w).length+1:Nat):Int)))):=by
 induction n with
 |zero=>intro w r k a _ h;omega|succ n ih=>
  intro w r k a h p q;have t:=td h;rw[y7,Cj]
  cases w with
  |nil=>
   have h:Sx s k (34::r):=h;rw[bf (by simp only[];have:=jy h;omega)]
   unfold lD;dsimp only;rw[vi h,qB,ax,bc k (by have:=jy h;omega),List.append_nil]
   rfl
  |cons c w=>
   simp only[qL]at p q;have e:de (c::w)=nz 92 34 [92,92] [92,34] c++de w:=rfl;rw[e,qS]at h;have d:∀j:Nat,Sx s j (de w++34::r)->y7 l n (s,(j:Int)) (a++[c])=some (.inr (a++c::w,(s,((j+(de w).length+1:Nat):Int)))):=fun j o=>by
    have:=ih w r j (a++[c]) o Ta Te
    rwa [qS,wM]at this
   rw[e,qM];by_cases f:c=92\/c=34
   ·have i:nz 92 34 [92,92] [92,34] c=[92,c]:=by
     unfold nz;rcases f with rfl|rfl<;>rfl
    rw[i]at h ⊢;have b:Sx s k (92::(c::(de w++34::r))):=h;have g:=AW b;have m:=AW g;rw[bf (by simp only[];have:=jy b;omega)]
    unfold lD Ck;dsimp only;rw[vi b,qB,aq,ax,bc k (by have:=jy b;omega),bf (by have:=jy g;omega),vi g,qB,ag (kz _ _),bc (k+1) (by have:=jy g;omega),d _ m]
    simp only[qL,qZ];rw[show k+1+1+(de w).length+1=k+(0+1+1+(de w).length)+1 by omega]
   ·rw[not_or]at f;have i:nz 92 34 [92,92] [92,34] c=[c]:=by
     unfold nz;rw[qW f.1,qW f.2]
    rw[i]at h ⊢;have b:Sx s k (c::(de w++34::r)):=h;rw[bf (by simp only[];have:=jy b;omega)]
    unfold lD;dsimp only;rw[vi b,qB,aq (by simp[f.2]),aq (by simp[f.1]),ag (kz _ _),bc k (by have:=jy b;omega),d _ (AW b)]
    simp only[qL,qZ];rw[show k+1+(de w).length+1=k+(0+1+(de w).length)+1 by omega]
inductive w6 where
 |sg (c:UInt8)
 |wd (w:Bs) (q:Bool)
def ij:w6->Bs|.sg c=>[c]|.wd w false=>w|.wd w true=>34::(de w++[34])
def qpg:w6->Prop|.sg c=>c∈dS|.wd w false=>w≠[]/\∀c∈w,dx c=true|.wd _ true=>True
abbrev BT:=Bool×w6
def fj(x:BT):Bs:=(if x.1 then[32] else[])++ij x.2
def bi(T:List BT):Bs:=T.flatMap fj
def aU:bi []=[]:=rfl
def jc(x:BT)(T:List BT):bi (x::T)=fj x++bi T:=by simp[bi]
def od(S T:List BT):bi (S++T)=bi S++bi T:=by simp[bi]
def nw:List BT->Prop|[]=>True|(true,_)::_=>True|(false,.sg _)::_=>True|(false,.wd _ true)::_=>True|(false,.wd _ false)::_=>False
def fe:List BT->Prop|[]=>True|(_,t)::T=>qpg t/\(∀w,t = .wd w false->nw T)/\fe T
def qpc:∀{T:List BT},nw T->fe T->∀c t,bi T=c::t->dx c=false
 |[],_,_,c,t,h=>by cases h
 |(true,x)::T,_,_,c,t,h=>by
  rw[jc]at h;have:c=32:=by simp only[fj,if_true,wK]at h;injection h with h _;exact h.symm
  rw[this];exact quy
 |(false,.sg d)::T,_,ho,c,t,h=>by
  rw[jc]at h;have:c=d:=by simp only[fj,ij,wJ,if_false,List.nil_append,wK]at h;injection h with h _;exact h.symm
  rw[this];exact(Qf ho.1).1
 |(false,.wd w true)::T,_,ho,c,t,h=>by
  rw[jc]at h;have:c=34:=by simp only[fj,ij,wJ,if_false,List.nil_append,wK]at h;injection h with h _;exact h.symm
  rw[this];exact quz
 |(false,.wd w false)::T,hn,_,_,_,_=>absurd hn id
def xy(t:w6)(m:Bs×Int):(Bs×Bool×TL) ⊕ (UInt8×TL):=match t with|.sg c => .inr (c,m)|.wd w q => .inl (w,(q,m))
def PU(b:Bool)(t:w6):(fj (b,t)).length=(if b then 1 else 0)+(ij t).length:=by
 cases b<;>simp[fj]<;>omega
def EO(a:Nat)(d:90000000<=a)(s:Bs)(f:s.length<=4000){k:Nat}(h:Sx s k (bi [])):t8 a (s,(k:Int))=some (.inr (.inl (s,(k:Int)))):=by
 unfold t8;have e:=td h;rw[Fu a s f (b:=false) (r:=[]) d h (fun c t q=>by cases q),qB]
 simp only[aw];rw[ag (by simp[aU]at e ⊢;omega)]
 rfl
def dQ(a:Nat)(i:90000000<=a)(s:Bs)(j:s.length<=4000){k:Nat}{b:Bool}{t:w6}{T:List BT}(h:Sx s k (bi ((b,t)::T)))(x:fe ((b,t)::T)):t8 a (s,(k:Int))=some (.inr (.inr (xy t (s,((k+(fj (b,t)).length:Nat):Int))))):=by
 rw[jc]at h;have l:Sx s k ((if b then[32] else[])++(ij t++bi T)):=by rw[← qS];exact h
 have m:=PU b t;have z:(if b=true then([32]:Bs) else[]).length=(if b then 1 else 0):=by cases b<;>rfl
 have e:Sx s (k+(if b then 1 else 0)) (ij t++bi T):=by
  have:=iv l;rwa [z]at this
 have B:=td e;unfold t8
 cases t with
 |sg c=>
  have g:=Qf x.1;have e:Sx s (k+(if b then 1 else 0)) (c::bi T):=e
  rw[Fu a s j (b:=b) (r:=c::bi T) i l (fun d t q=>by cases q;exact⟨g.2.2.1,g.2.2.2.1⟩),qB]
  simp only[aw];rw[bf (by have:=jy e;omega),vi e,qB,aq (by simp[g.2.2.2.2]),qbk,qB,ag g.2.1,bc _ (by have:=jy e;omega),m]
  rfl
 |wd w q=>
  cases q with
  |false=>
   obtain⟨⟨C,y⟩,o,u⟩:=x;have p:=qpc (o w rfl) u;obtain⟨c,w,rfl⟩:∃c v,w=c::v:=by
    cases w with|nil=>exact absurd rfl C|cons c v=>exact⟨c,v,rfl⟩
   have g:=qj0 (y c qH);have f:Sx s (k+(if b then 1 else 0)) (c::(w++bi T)):=e
   rw[Fu a s j (b:=b) (r:=c::(w++bi T)) i l (fun d t q=>by cases q;exact⟨g.2.1,g.2.2.1⟩),qB]
   simp only[aw];rw[bf (by have:=jy f;omega),vi f,qB,aq (by simp[g.2.2.2]),qbk,qB,bf]
   have:=qu8 a s j (k+(if b then 1 else 0)) a [] (c::w) (bi T) e (by simp only[ij,qM]at B;omega) y p Td
   rw[qZ,Nat.add_zero,List.nil_append]at this;rw[this,m];simp only[xy,ij,Nat.add_assoc]
  |true=>
   have f:Sx s (k+(if b then 1 else 0)) (34::(de w++34::bi T)):=by
    have:ij (.wd w true)++bi T=34::(de w++34::bi T):=by simp[ij]
    rwa [this]at e
   rw[Fu a s j (b:=b) (r:=ij (.wd w true)++bi T) i l (fun d t q=>by
    have:ij (.wd w true)++bi T=34::(de w++34::bi T):=by simp[ij]
    rw[this]at q;cases q;exact⟨by rfl,Tf⟩),qB]
   simp only[aw];rw[bf (by have:=jy f;omega),vi f,qB,ax]
   unfold Ci;dsimp only;rw[bc _ (by have:=jy f;omega)]
   have A:w.length<=(de w).length:=by rw[show(de w).length=w.length+iy 92 34 w from hK Tf 92 92 92 34 w];omega
   have n:=td f;simp only[qL,qM]at n;rw[qqo a s j a w (bi T) _ [] (AW f) Ta Te,qB,m]
   simp only[xy,ij,List.nil_append,qL,qM,qZ];rw[show k+(if b then 1 else 0)+1+(de w).length+1=k+((if b then 1 else 0)+((de w).length+(0+1)+1)) by omega]
def yM(W:List BT):Prop:=∀x∈W,∃w q,x.2 = .wd w q
def oh:List BT->List TR|[]=>[]|(_,.wd w q)::W=>(w,q)::oh W|(_,.sg _)::W=>oh W
def AT:List BT->Prop|[]=>True|(_,.sg _)::_=>True|(_,.wd _ _)::_=>False
def sw{x:BT}{T:List BT}(h:fe (x::T)):fe T:=by
 obtain⟨b,t⟩:=x;exact h.2.2
def xu:∀{S T:List BT},fe (S++T)->fe T|[],_,h=>h|_::S,_,h=>xu (S:=S) (sw h)
def qu9(f:Nat)(a:90000000<=f)(s:Bs)(i:s.length<=4000)(n:Nat):∀(W T:List BT)(k:Nat)(l:List TR),Sx s k (bi (W++T))->fe (W++T)->yM W->AT T->W.length<n->l.length+W.length<=100000 ->
  fS f n (s,(k:Int)) l=some (.inr ((s,((k+(bi W).length:Nat):Int)),l++oh W)):=by
 induction n with
 |zero=>intro W T k l _ _ _ _ h;omega|succ n ih=>
  intro W T k l h j o m u r;rw[fS,Cl];unfold np;dsimp only
  cases W with
  |nil=>
   rw[List.nil_append]at h j
   cases T with
   |nil=>
    rw[EO f a s i h];simp[aw,oh,aU]
   |cons x T=>
    obtain⟨b,t⟩:=x
    cases t with
    |wd w q=>exact absurd m id|sg c=>
     rw[dQ f a s i h j];simp[aw,oh,aU,xy]
  |cons x W=>
   obtain⟨b,t⟩:=x;obtain⟨w,q,e⟩:=o _ qH;simp only[]at e;subst e;have g:Sx s k (bi ((b,.wd w q)::(W++T))):=h;have d:fe ((b,.wd w q)::(W++T)):=j;rw[dQ f a s i g d];simp only[qB,aw,xy];rw[dQ f a s i g d];simp only[qB,aw,xy,qL]at u r ⊢;rw[ag (kz _ _)]
   have p:Sx s (k+(fj (b,.wd w q)).length) (bi (W++T)):=by rw[jc]at g;exact iv g
   rw[ih W T _ (l++[(w,q)]) p (sw d) (fun y v=>o y (qE _ v)) m Ta Te,jc,qM,qS,Nat.add_assoc]
   rfl
def FH(a:Nat)(b:90000000<=a)(s:Bs)(e:s.length<=4000){W T:List BT}{k:Nat}(h:Sx s k (bi (W++T)))(d:fe (W++T))(f:yM W)(c:AT T)(g:W.length<=4000:=by omega) :
  fR a (s,(k:Int))=some (.inr ((s,((k+(bi W).length:Nat):Int)),oh W)):=qu9 a b s e a W T k [] h d f c Ta Te
def oH(e:Nat)(a:90000000<=e)(s:Bs)(f:s.length<=4000){c:UInt8}{T:List BT}{k:Nat}(h:Sx s k (bi T))(j:fe T)(i:∀b d g,T=(b,.sg d)::g->d≠c):qe e c (s,(k:Int))=some (.inr (false,(s,(k:Int)))):=by
 unfold qe np
 cases T with
 |nil=>rw[EO e a s f h];rfl|cons x T=>
  obtain⟨b,t⟩:=x;rw[dQ e a s f h j]
  cases t with
  |wd w q=>rfl|sg d=>
   simp only[qB,aw,xy];rw[ax (by simp[i b d T rfl])]
def dF(d:Nat)(a:90000000<=d)(s:Bs)(f:s.length<=4000){c:UInt8}{b:Bool}{T:List BT}{k:Nat}(h:Sx s k (bi ((b,.sg c)::T)))(e:fe ((b,.sg c)::T)) :
  qe d c (s,(k:Int))=some (.inr (true,(s,((k+(fj (b,.sg c)).length:Nat):Int)))):=by
 unfold qe np;rw[dQ d a s f h e];simp only[qB,aw,xy];rw[aq,dQ d a s f h e]
 rfl
def Ly(a:Nat)(d:90000000<=a)(s:Bs)(f:s.length<=4000){c:UInt8}{b:Bool}{T:List BT}{k:Nat}(h:Sx s k (bi ((b,.sg c)::T)))(e:fe ((b,.sg c)::T)) :
  bQ a c (s,(k:Int))=some (.inr (s,((k+(fj (b,.sg c)).length:Nat):Int))):=by
 unfold bQ;rw[dF a d s f h e];rfl
def Du(a:Nat)(lo:Bs)(q:Bool):Prop:=t7 a lo=some true/\(q=false->wi a lo=some true)
def qsx(a:Nat)(lo:Bs)(q:Bool)(b:Du a lo q)(m:Bs×Int):bR a m [(lo,q)]=uN a m [(lo,q)] ([],([],[])):=by
 unfold bR;rw[aq,ag ⟨Tf,Td⟩,show([(lo,q)]:List (Bs×Bool))[(0:Int).toNat]? = some (lo,q) from rfl,qB,b.1,qB,aq,ag ⟨Tf,Td⟩,qB]
 cases q with
 |true=>rw[aq];rfl|false=>
  rw[ax,ag ⟨Tf,Td⟩,qB,b.2 rfl,qB]
  rfl
def qbv(a:Nat)(c:90000000<=a)(s:Bs)(g:s.length<=4000){lo b:Bs}{q d e:Bool}{T:List BT}{k:Nat}(l:Du a lo q)(j:rm a b=some true)(h:Sx s k (bi ((d,.sg 64)::(e,.wd b false)::T)))(f:fe ((d,.sg 64)::(e,.wd b false)::T)) :
  bR a (s,(k:Int)) [(lo,q)]=some (.inr (([],(lo,b)),((s,((k+((fj (d,.sg 64)).length+(fj (e,.wd b false)).length):Nat):Int)),[(lo,q)]))):=by
 rw[qsx a lo q l];unfold uN;rw[Ly a c s g h f];simp only[qB,aw];have i:Sx s (k+(fj (d,.sg 64)).length) (bi ((e,.wd b false)::T)):=by rw[jc]at h;exact iv h
 rw[dQ a c s g i (sw f)];simp only[qB,aw,xy];rw[aq rfl,j,qB,aq,ag ⟨Tf,Td⟩,Nat.add_assoc]
 rfl
abbrev vg(b:Bool)(lo a:Bs)(q:Bool):List BT:=[(b,.wd lo q),(false,.sg 64),(false,.wd a false)]
def jU(b:Nat)(a:Bs×Bs×Bs)(T:List BT):Prop:=∃q,Du b a.2.1 q/\rm b a.2.2=some true /\
 ((a.1=[]/\T=vg false a.2.1 a.2.2 q)\/(a.1≠[]/\∃W,yM W/\W≠[]/\lC b (oh W)=some a.1/\T=W++(true,.sg 60)::(vg false a.2.1 a.2.2 q++[(false,.sg 62)])))
def cr:List BT->List BT|[]=>[]|(_,t)::T=>(true,t)::T
def qh0(l:Nat)(i:90000000<=l)(s:Bs)(n:s.length<=4000){a:Bs×Bs×Bs}{T:List BT}(h:jU l a T)(j:Bool):∃W V,(if j then cr T else T)=W++V/\yM W/\W≠[]/\AT V/\V≠[]/\(∀d b p,V=(b,.sg d)::p->d=64\/d=60) /\
  ∀(R:List BT)(k:Nat),Sx s k (bi (V++R))->fe (V++R)->y5 l (s,(k:Int)) (oh W)=some (.inr (a,((s,((k+(bi V).length:Nat):Int)),oh W))):=by
 obtain⟨q,z,y,h⟩:=h;obtain⟨I,lo,g⟩:=a;simp only[]at z y h;rcases h with⟨rfl,rfl⟩|⟨H,W,o,W0,G,rfl⟩
 ·refine⟨[(j,.wd lo q)],[(false,.sg 64),(false,.wd g false)],by cases j<;>rfl,?_,Td,trivial,Td,?_,?_⟩
  ·intro x f;rw[List.mem_singleton]at f;subst f;exact⟨lo,q,rfl⟩
  ·intro d b p e;simp only[List.cons.injEq,qP,w6.sg.injEq]at e;exact .inl e.1.2.symm
  ·intro R k f m;unfold y5;have f:Sx s k (bi ((false,.sg 64)::(false,.wd g false)::R)):=f;have m:fe ((false,.sg 64)::(false,.wd g false)::R):=m;rw[oH l i s n f m (fun b d p e=>by simp only[List.cons.injEq,qP,w6.sg.injEq]at e;rw[← e.1.2];decide)]
   simp only[qB,aw];have:=qbv l i s n z y f m;rw[ax,show oh [(j,.wd lo q)]=[(lo,q)] from rfl,this]
   simp[aw,jc,aU]
 ·have v:(if j then cr (W++(true,.sg 60)::(vg false lo g q++[(false,.sg 62)])) else W++(true,.sg 60)::(vg false lo g q++[(false,.sg 62)]))=(if j then cr W else W)++(true,.sg 60)::(vg false lo g q++[(false,.sg 62)]):=by
   cases j with
   |false=>rfl|true=>cases W with|nil=>exact absurd rfl W0|cons x W=>rfl
  have A:oh (if j then cr W else W)=oh W:=by
   cases j with
   |false=>rfl|true=>match W with|[]=>rfl|(b,.wd w q)::W=>rfl|(b,.sg c)::W=>rfl
  refine⟨if j then cr W else W,(true,.sg 60)::(vg false lo g q++[(false,.sg 62)]),v,?_,?_,trivial,Td,?_,?_⟩
  ·cases j with
   |false=>exact o|true=>match W,o with
    |[],_=>intro x f;cases f
    |(b,t)::W,o=>
     intro x f;rcases List.mem_cons.1 f with rfl|f
     ·exact o (b,t) qH
     ·exact o x (qE _ f)
  ·cases j with
   |false=>exact W0|true=>cases W with|nil=>exact absurd rfl W0|cons x W=>exact List.cons_ne_nil _ _
  ·intro d b p e;simp only[List.cons.injEq,qP,w6.sg.injEq]at e;exact .inr e.1.2.symm
  ·intro R k f m;rw[A];unfold y5;have f:Sx s k (bi ((true,.sg 60)::(vg false lo g q++(false,.sg 62)::R))):=by simpa using f
   have m:fe ((true,.sg 60)::(vg false lo g q++(false,.sg 62)::R)):=by simpa using m
   rw[dF l i s n f m];simp only[qB,aw];rw[aq]
   have r:Sx s (k+(fj (true,.sg 60)).length) (bi ([(false,.wd lo q)]++((false,.sg 64)::(false,.wd g false)::(false,.sg 62)::R))):=by rw[jc]at f;exact iv f
   have B:fe ([(false,.wd lo q)]++((false,.sg 64)::(false,.wd g false)::(false,.sg 62)::R)):=sw m;rw[FH l i s n r B (fun x f=>by rw[List.mem_singleton]at f;subst f;exact⟨lo,q,rfl⟩) trivial Td]
   simp only[qB,aw];have u:Sx s (k+(fj (true,.sg 60)).length+(bi [(false,.wd lo q)]).length) (bi ((false,.sg 64)::(false,.wd g false)::(false,.sg 62)::R)):=by rw[od]at r;exact iv r
   have C:fe ((false,.sg 64)::(false,.wd g false)::(false,.sg 62)::R):=xu B;have E:=qbv l i s n z y u C;rw[show oh [(false,.wd lo q)]=[(lo,q)] from rfl,E]
   simp only[qB,aw];rw[G,qB];have F:Sx s (k+(fj (true,.sg 60)).length+(bi [(false,.wd lo q)]).length+((fj (false,.sg 64)).length+(fj (false,.wd g false)).length)) (bi ((false,.sg 62)::R)):=by
    have e:bi ((false,.sg 64)::(false,.wd g false)::(false,.sg 62)::R)=(fj (false,.sg 64)++fj (false,.wd g false))++bi ((false,.sg 62)::R):=by simp only[jc,qS]
    rw[e]at u;have:=iv u
    rwa [qM]at this
   rw[Ly l i s n F (sw (sw C))];simp only[qB,aw,jc,od,aU,qM,qZ];congr 6;omega
def F5:∀{T:List BT},fe T->T.length<=(bi T).length
 |[],_=>by simp|(b,t)::T,h=>by
  have e:=F5 h.2.2;have d:1<=(ij t).length:=by
   match t,h.1 with
   |.sg c,_=>simp[ij]|.wd w true,_=>simp[ij]|.wd w false,h=>
    have a:w≠[]:=h.1
    cases w with|nil=>exact absurd rfl a|cons c v=>simp[ij]
  rw[jc,qM,PU,qL];omega
def zD{T S:List BT}(h:T≠[]):cr (T++S)=cr T++S:=by
 cases T with|nil=>exact absurd rfl h|cons x T=>rfl
def qsr{V R:List BT}(h:AT V)(a:V≠[]):AT (V++R):=by
 match V,h with|[],_=>exact absurd rfl a|(b,.sg c)::V,_=>exact trivial
inductive yD(fu:Nat):List (Bs×Bs×Bs)->List BT->Prop where
 |one {a T}:jU fu a T->yD fu [a] T
 |cons {a T ms T'}:jU fu a T->yD fu ms T'->yD fu (a::ms) (T++(false,.sg 44)::cr T')
def yA(a:Nat)(g:Bs)(W:List BT):Prop:=yM W/\W≠[]/\lC a (oh W)=some g/\g≠[]
inductive gM(fu:Nat):(Bs×Bool×(List (Bs×Bs×Bs)))->List BT->Prop where
 |single {a T}:jU fu a T->gM fu ([],(false,[a])) T
 |grp0 {g W}:yA fu g W->gM fu (g,(true,[])) (W++[(false,.sg 58),(false,.sg 59)])
 |grp {g W ms T}:yA fu g W->yD fu ms T->gM fu (g,(true,ms)) (W++(false,.sg 58)::(cr T++[(false,.sg 59)]))
inductive mM(fu:Nat):List (Bs×Bool×(List (Bs×Bs×Bs)))->List BT->Prop where
 |one {x T}:gM fu x T->mM fu [x] T
 |cons {x T l T'}:gM fu x T->mM fu l T'->mM fu (x::l) (T++(false,.sg 44)::cr T')
def D7{f:Nat}{a:Bs×Bs×Bs}{T:List BT}(h:jU f a T):∃b w q d,T=(b,.wd w q)::d:=by
 obtain⟨q,_,_,h⟩:=h;rcases h with⟨_,rfl⟩|⟨_,W,c,W0,_,rfl⟩
 ·exact⟨_,_,_,_,rfl⟩
 ·match W,c with
  |[],_=>exact absurd rfl W0|(b,t)::W,c=>
   obtain⟨w,q,e⟩:=c _ qH;simp only[]at e;subst e;exact⟨b,w,q,_,rfl⟩
def KK{d:Nat}{g:Bs}{W:List BT}(h:yA d g W):∃b w q c,W=(b,.wd w q)::c:=by
 obtain⟨a,W0,_,_⟩:=h
 match W,a with
 |[],_=>exact absurd rfl W0|(b,t)::W,a=>
  obtain⟨w,q,e⟩:=a _ qH;simp only[]at e;subst e;exact⟨b,w,q,_,rfl⟩
def KX{c:Nat}{x:Bs×Bool×TY}{T:List BT}(h:gM c x T):∃b w q a,T=(b,.wd w q)::a:=by
 cases h with
 |single h=>exact D7 h|grp0 h=>obtain⟨b,w,q,a,rfl⟩:=KK h;exact⟨b,w,q,_,rfl⟩
 |grp h _=>obtain⟨b,w,q,a,rfl⟩:=KK h;exact⟨b,w,q,_,rfl⟩
def qoo{c:Nat}{l:List TI}{T:List BT}(h:mM c l T):∃b w q a,T=(b,.wd w q)::a:=by
 cases h with|one h=>exact KX h|cons h _=>obtain⟨b,w,q,a,rfl⟩:=KX h;exact⟨b,w,q,_,rfl⟩
def Rm{d:Nat}{g:Bs}{W:List BT}(h:yA d g W)(c:Bool):yA d g (if c then cr W else W):=by
 cases c with
 |false=>exact h|true=>
  obtain⟨b,w,q,T',rfl⟩:=KK h;obtain⟨e,_,f,i⟩:=h;refine⟨fun x a => ?_,List.cons_ne_nil _ _,f,i⟩
  rcases List.mem_cons.1 a with rfl|a
  ·exact⟨w,q,rfl⟩
  ·exact e x (qE _ a)
def MF(f:Nat)(l:90000000<=f)(s:Bs)(r:s.length<=4000){a:Bs×Bs×Bs}{T R:List BT}{k:Nat}(h:jU f a T)(m:Bool)(i:Sx s k (bi ((if m then cr T else T)++R)))(g:fe ((if m then cr T else T)++R)) :
  ∃(j:Nat)(n:List (Bs×Bool))(V:List BT),fR f (s,(k:Int))=some (.inr ((s,(j:Int)),n))/\Sx s j (bi (V++R))/\fe (V++R)/\(∀d b o,V++R=(b,.sg d)::o->d=64\/d=60) /\
   y5 f (s,(j:Int)) n=some (.inr (a,((s,((k+(bi (if m then cr T else T)).length:Nat):Int)),n))):=by
 obtain⟨W,V,e,v,W0,u,V0,c,t⟩:=qh0 f l s r h m;rw[e]at i g ⊢;rw[qS]at i g;have y:=td i;have w:=F5 g;rw[qM]at w;have p:Sx s (k+(bi W).length) (bi (V++R)):=by rw[od]at i;exact iv i
 refine⟨k+(bi W).length,oh W,V,FH f l s r i g v (qsr u V0),p,xu g,fun d b o q => ?_,?_⟩
 ·match V,V0,c with
  |x::V,_,c=>
   injection q with q _
   subst q;exact c d b V rfl
 ·rw[t R _ p (xu g),od,qM,Nat.add_assoc]
def qnl(i:Nat)(f:90000000<=i)(s:Bs)(r:s.length<=4000){t:List TP}{T:List BT}(h:yD i t T):∀(n:Nat)(c:List TP)(k:Nat)(R:List BT)(z1:Bs)(v:Bool)(g:Bs),t.length<n->c.length+t.length<=100000->Sx s k (bi (cr T++(false,.sg 59)::R))->fe (cr T++(false,.sg 59)::R) ->
  bP i n (s,(k:Int)) z1 v g c=some (.inr ((g,(true,c++t)),(s,((k+(bi (cr T++[(false,.sg 59)])).length:Nat):Int)))):=by
 induction h with
 |@one a T h=>
  intro n c k R z1 v g A z l p;obtain⟨n,rfl⟩:∃m,n=m+1:=⟨n-1,by simp at A;omega⟩
  simp only[qL,qZ]at z;rw[bP,uJ];obtain⟨j,F,V,x,_,_,_,y⟩:=MF i f s r h true l p;have o:Sx s (k+(bi (cr T)).length) (bi ((false,.sg 59)::R)):=by rw[od]at l;exact iv l
  rw[x];simp only[qB,aw];rw[y];simp only[qB,aw,if_true];rw[ag (kz _ _),dF i f s r o (xu p)]
  simp only[qB,aw,qT];rw[od,qM,jc,aU,List.append_nil,Nat.add_assoc]
 |@cons a T t u h hm ih=>
  intro n c k R z1 v g A z l p;simp only[qL]at A z;obtain⟨n,rfl⟩:∃m,n=m+1:=⟨n-1,Ta⟩
  rw[bP,uJ];have C:T≠[]:=by obtain⟨b,w,q,u,rfl⟩:=D7 h;simp
  rw[zD C,qS,wK]at l p;obtain⟨j,F,V,x,_,_,_,y⟩:=MF i f s r h true l p;have o:Sx s (k+(bi (cr T)).length) (bi ((false,.sg 44)::(cr u++(false,.sg 59)::R))):=by rw[od]at l;exact iv l
  have B:=xu p;rw[x];simp only[qB,aw];rw[y];simp only[qB,aw,if_true];rw[ag (kz _ _),oH i f s r o B (fun b d u e=>by simp only[List.cons.injEq,qP,w6.sg.injEq]at e;rw[← e.1.2];decide)]
  simp only[qB,aw,qF];rw[Ly i f s r o B];simp only[qB,aw];have E:Sx s (k+(bi (cr T)).length+(fj (false,.sg 44)).length) (bi (cr u++(false,.sg 59)::R)):=by rw[jc]at o;exact iv o
  rw[ih n (c++[a]) _ R z1 v g Ta Te E (sw B),zD C]
  simp only[qS,wM,wK,od,jc,qM];congr 4;omega
def ED(m:Nat)(c:90000000<=m)(s:Bs)(p:s.length<=4000){x:Bs×Bool×TY}{T R:List BT}{k:Nat}(h:gM m x T)(l:Bool)(f:Sx s k (bi ((if l then cr T else T)++R)))(i:fe ((if l then cr T else T)++R))(H:x.2.2.length<=100000) :
  y6 m (s,(k:Int))=some (.inr (x,(s,((k+(bi (if l then cr T else T)).length:Nat):Int)))):=by
 unfold y6
 cases h with
 |@single a T h=>
  obtain⟨j,L,V,C,n,t,F,E⟩:=MF m c s p h l f i;rw[C];simp only[qB,aw];rw[oH m c s p n t (fun b d u e=>by rcases F d b u e with rfl|rfl<;>decide)]
  simp only[qB,aw];rw[ax,E]
  rfl
 |@grp0 g W h=>
  have o:=Rm h l;have y:W≠[]:=h.2.1;have e:(if l then cr (W++[(false,.sg 58),(false,.sg 59)]) else W++[(false,.sg 58),(false,.sg 59)])=(if l then cr W else W)++[(false,.sg 58),(false,.sg 59)]:=by
   cases l with|false=>rfl|true=>exact zD y
  rw[e]at f i ⊢;generalize (if l then cr W else W)=W at o f i ⊢
  rw[qS]at f i;have f:Sx s k (bi (W++((false,.sg 58)::(false,.sg 59)::R))):=f;have i:fe (W++((false,.sg 58)::(false,.sg 59)::R)):=i;have G:=td f;have r:=F5 i;rw[qM]at r;have n:Sx s (k+(bi W).length) (bi ((false,.sg 58)::(false,.sg 59)::R)):=by rw[od]at f;exact iv f
  have t:=xu i;have v:Sx s (k+(bi W).length+(fj (false,.sg 58)).length) (bi ((false,.sg 59)::R)):=by rw[jc]at n;exact iv n
  rw[FH m c s p f i o.1 trivial]
  simp only[qB,aw];rw[dF m c s p n t];simp only[qB,aw];rw[aq,o.2.2.1,qB,aq (by simp[o.2.2.2])]
  unfold uK;rw[dF m c s p v (sw t)];simp only[qB,aw,qT,od,jc,aU,qM,qZ,Nat.add_zero,Nat.add_assoc]
 |@grp g W ms T h hms=>
  have o:=Rm h l;have y:W≠[]:=h.2.1;have e:(if l then cr (W++(false,.sg 58)::(cr T++[(false,.sg 59)])) else W++(false,.sg 58)::(cr T++[(false,.sg 59)]))=(if l then cr W else W)++(false,.sg 58)::(cr T++[(false,.sg 59)]):=by
   cases l with|false=>rfl|true=>exact zD y
  rw[e]at f i ⊢;generalize (if l then cr W else W)=W at o f i ⊢
  have f:Sx s k (bi (W++((false,.sg 58)::(cr T++(false,.sg 59)::R)))):=by simpa using f
  have i:fe (W++((false,.sg 58)::(cr T++(false,.sg 59)::R))):=by simpa using i
  have G:=td f;have r:=F5 i;rw[qM]at r;have n:Sx s (k+(bi W).length) (bi ((false,.sg 58)::(cr T++(false,.sg 59)::R))):=by rw[od]at f;exact iv f
  have t:=xu i;have v:Sx s (k+(bi W).length+(fj (false,.sg 58)).length) (bi (cr T++(false,.sg 59)::R)):=by rw[jc]at n;exact iv n
  have B:=sw t;rw[FH m c s p f i o.1 trivial]
  simp only[qB,aw];rw[dF m c s p n t];simp only[qB,aw];rw[aq,o.2.2.1,qB,aq (by simp[o.2.2.2])]
  unfold uK;have z:∀b d u,cr T++(false,.sg 59)::R=(b,.sg d)::u->d≠59:=fun b d u q=>by
   have:∃b w q A,T=(b,.wd w q)::A:=by
    cases hms with|one h=>exact D7 h|cons h _=>obtain⟨b,w,I,u,rfl⟩:=D7 h;exact⟨b,w,I,_,rfl⟩
   obtain⟨J,w,K,A,rfl⟩:=this;cases q
  rw[oH m c s p v B z];simp only[qB,aw,qF];simp only[]at H;rw[qnl m c s p hms m [] _ R [] false g Ta Te v B]
  simp only[List.nil_append,od,jc,aU,qM,qZ];congr 4;omega
def qqi(f:Nat)(c:90000000<=f)(s:Bs)(p:s.length<=4000)(z:Int×Int)(L:List TI)(C:bJ f L=some (0,0))(y:∀x∈L,x.2.2.length<=100000)(A:L.length<=100000){l:List TI}{T:List BT}(h:mM f l T):∀(n:Nat)(a:List TI)(k:Nat),a++l=L->l.length<n ->
  Sx s k (bi ((false,.sg 44)::cr T))->fe ((false,.sg 44)::cr T)->mc f n s z (s,(k:Int)) a=some (.inr (L,(0,0))):=by
 have t:∀(n k:Nat),Sx s k (bi [])->mc f (n+1) s z (s,(k:Int)) L=some (.inr (L,(0,0))):=fun n k g=>by
  rw[mc,fN,oH f c s p g trivial (fun b d r e=>by cases e)]
  simp only[qB,aw,qF];unfold np;rw[EO f c s p g];simp only[qB,aw];unfold fP;rw[C];rfl
 induction h with
 |@one x T h=>
  intro n a k e v g j;obtain⟨n,rfl⟩:∃m,n=m+1+1:=⟨n-2,by simp at v;omega⟩
  have o:x∈L:=by rw[← e];simp
  have u:a.length<=100000:=by have:=congrArg List.length e;rw[qM]at this;omega
  rw[mc,fN,dF f c s p g j];simp only[qB,aw,qT];have i:Sx s (k+(fj (false,.sg 44)).length) (bi (cr T++[])):=by rw[jc]at g;rw[List.append_nil];exact iv g
  rw[ED f c s p h true i (by rw[List.append_nil];exact sw j) (y x o)]
  simp only[qB,aw,if_true];rw[ag (kz _ _),e]
  exact t n _ (by rw[od]at i;exact iv i)
 |@cons x T l r h hl ih=>
  intro n a k e v g j;simp only[qL]at v;obtain⟨n,rfl⟩:∃m,n=m+1:=⟨n-1,Ta⟩
  have o:x∈L:=by rw[← e];simp
  have u:a.length<=100000:=by have:=congrArg List.length e;rw[qM]at this;omega
  have B:T≠[]:=by obtain⟨b,w,q,r,rfl⟩:=KX h;simp
  rw[zD B]at g j;rw[mc,fN,dF f c s p g j];simp only[qB,aw,qT];have i:Sx s (k+(fj (false,.sg 44)).length) (bi (cr T++(false,.sg 44)::cr r)):=by rw[jc]at g;exact iv g
  rw[ED f c s p h true i (sw j) (y x o)];simp only[qB,aw,if_true];rw[ag (kz _ _)]
  exact ih n (a++[x]) _ (by rw[qS];exact e) Ta (by rw[od]at i;exact iv i) (xu (sw j))
def qpv(a:Nat)(c:90000000<=a){l:List TI}{T:List BT}(h:mM a l T)(j:(bi T).length<=4000)(r:fe T)(z:bJ a l=some (0,0))(t:∀x∈l,x.2.2.length<=100000)(m:l.length<=100000) :
  fL a (bi T)=some (l,(0,0)):=by
 unfold fL;rw[bf]
 unfold fM kY fO np;have f:Sx (bi T) 0 (bi T):=⟨rfl,Ta⟩
 obtain⟨b,w,q,T0,e⟩:=qoo h;have v:Sx (bi T) 0 (bi ((b,.wd w q)::T0)):=by rw[← e];exact f
 have u:fe ((b,.wd w q)::T0):=by rw[← e];exact r
 have p:=dQ a c (bi T) j v u;rw[show((0:Nat):Int)=0 from rfl]at p
 rw[p];simp only[qB,aw,xy]
 cases h with
 |@one x T h=>
  have o:=ED a c (bi T) j h false (R:=[]) (k:=0) (by simpa using f) (by simpa using r) (t x qH)
  rw[show((0:Nat):Int)=0 from rfl]at o
  rw[o];simp only[qB,aw,wJ,if_false,wO];rw[ag TF]
  obtain⟨n,p⟩:∃n,a=n+1:=⟨a-1,Ta⟩
  have g:Sx (bi T) (bi T).length (bi []):=⟨by simp[aU],wF _⟩
  have s:mc a (n+1) (bi T) (0,0) (bi T,((bi T).length:Int)) [x]=some (.inr ([x],(0,0))):=by
   rw[mc,fN,oH a c (bi T) j g trivial (fun b d i e=>by cases e)]
   simp only[qB,aw,qF];unfold np;rw[EO a c (bi T) j g];simp only[qB,aw];unfold fP;rw[z];rfl
  rw[show mc a a=mc a (n+1) by rw[← p],s]
  rfl
 |@cons x T l i h hl=>
  have o:=ED a c (bi (T++(false,.sg 44)::cr i)) j h false (R:=(false,.sg 44)::cr i) (k:=0) f r (t x qH);rw[show((0:Nat):Int)=0 from rfl]at o
  rw[o];simp only[qB,aw,wJ,if_false,wO];rw[ag TF]
  have g:Sx (bi (T++(false,.sg 44)::cr i)) (bi T).length (bi ((false,.sg 44)::cr i)):=by
   have y:=f;rw[show bi (T++(false,.sg 44)::cr i)=bi T++bi ((false,.sg 44)::cr i) from od _ _]at y ⊢
   have:=iv y
   rwa [wO]at this
  rw[qqi a c _ j (0,0) (x::l) z t m hl a [x] _ rfl (by simp only[qL]at m;omega) g (xu r)]
  rfl

structure St1(k:Nat)(R:List Nat)(Gs:List (List Nat))(N:List Nat):Prop where
 all:∀G∈Gs,G≠[]/\(qdg k G).length<=75
 cur:N≠[]->(qdg k N).length<=75
 flat:Gs.flatten++N=R


def DC(s:Bs)(j:s.length<=10000000)(d:Nat->Bs->Int->Int->Option Bool)(p:UInt8->Bool)
  (g:∀n e k,d (n+1) s e k=(bif decide (k<e) then(aj s k).bind fun c=>(some (p c)).bind fun x=>bif !x then some false else d n s e (ae (k+(1:Int))) else some true)) :
  ∀(n:Nat)(b a:Bs),s=b++a->a.length<n->d n s (s.length:Int) (b.length:Int)=some (a.all p):=by
 intro n
 induction n with
 |zero=>intro b a _ h;omega|succ n ih=>
  intro b a e h;have f:=congrArg List.length e;rw[qM]at f;rw[g]
  cases a with
  |nil=>rw[bf (by simp at f;omega)];rfl|cons c a=>
   simp only[qL]at f h;rw[ag Ta,show aj s (b.length:Int)=some c by rw[e];exact dp _ _ _,qB,qB,List.all_cons]
   cases i:p c
   ·rfl
   ·rw[nA,bc _]
    have:=ih (b++[c]) a (by rw[e];simp) Ta
    rw[qM,wD]at this;rw[this];rfl
def iz(c:UInt8):Bool:=(bM c).getD false
def qlh(c:UInt8):bM c=some (iz c):=by
 obtain⟨v,e,_⟩:=QC c;unfold iz;rw[e];rfl
def qlg:∀n:_root_.Fin 256,iz (UInt8.ofNat n.val)=true->dx (UInt8.ofNat n.val)=true:=by decide +kernel
def QB{c:UInt8}(h:iz c=true):dx c=true:=o8 (fun c=>iz c=true->dx c=true) qlg c h
def PD{c:UInt8}(h:dc c=true):dx c=true:=by unfold dx;rw[h];rfl
def FG:dx 46=true:=by decide +kernel
def Pu(a:Nat)(s:Bs)(h:s.length<a:=by omega)(b:s.length<=10000000:=by omega):Co a s=some (s.all dc):=
 DC s b (lG a) dc (fun n e k=>by rw[lG,H0];simp only[JI]) a [] s rfl h
def Pv(a:Nat)(s:Bs)(h:s.length<a:=by omega)(b:s.length<=10000000:=by omega):Cp a s=some (s.all iz):=
 DC s b (lH a) iz (fun n e k=>by rw[lH,H1];simp only[qlh]) a [] s rfl h
def SY{R:Type}(P1:Nat->Bs->Bs->Int->Bool->Option R)(r0:Bs->Bool->Option T4)(A B:Bs×Bs×Int×Bool->R)(P:UInt8->Prop)(l:∀s b,s.length<=100000->r0 s b=some (.inl false)\/(r0 s b=some (.inr b)/\s≠[]/\∀c∈s,P c))
  (z:∀n d a f j,P1 (n+1) d a f j=(jf a d).bind fun x1=>bif decide (x1<(0:Int)) then(r0 a j).bind fun x2=>aw x2 (fun p=>some (A (d,(a,(f,p))))) (fun v=>some (B (d,(a,(f,v))))) else bif decide (0<=ae (x1+f)/\ae (x1+f)<=(List.length a:Int)) then(r0 (List.take (ae (x1+f)).toNat a) j).bind fun E=>aw E (fun u=>some (A (d,(a,(f,u))))) (fun y=>bif decide (0<=ae (x1+(List.length d:Int))/\ae (x1+(List.length d:Int))<=(List.length a:Int)) then P1 n d (List.drop (ae (x1+(List.length d:Int))).toNat a) f y else none) else none) :
  ∀(n:Nat)(s:Bs)(b:Bool),s.length<n->s.length<=100000->(∃t,P1 n [46] s 0 b=some (A ([46],(t,(0,false)))))\/((∃t,P1 n [46] s 0 b=some (B ([46],(t,(0,b)))))/\s≠[]/\∀c∈s,P c\/c=46):=by
 intro n
 induction n with
 |zero=>intro s b h;omega|succ n ih=>
  intro s b h m;rw[z];rcases iE 46 s with e|⟨w,r,rfl,e⟩
  ·rw[e,qB,ag Ta]
   rcases l s b m with q|⟨q,o,k⟩
   ·exact .inl ⟨s,by rw[q];rfl⟩
   ·exact .inr ⟨⟨s,by rw[q];rfl⟩,o,fun c g => .inl (k c g)⟩
  ·simp only[qM,qL]at h m;rw[e,qB,bf,Int.add_zero,bq (x:=(w.length:Int)) Ta Ta,ag Te,qcg]
   rcases l w b Ta with q|⟨q,o,k⟩
   ·exact .inl ⟨_,by rw[q];rfl⟩
   ·rw[q,qB];simp only[aw];rw[show((List.length ([46]:Bs):Nat):Int)=1 from rfl,bc _,ag Te,Ky]
    rcases ih r b Ta Ta with⟨t,i⟩|⟨⟨t,i⟩,F,C⟩
    ·exact .inl ⟨t,i⟩
    ·refine .inr ⟨⟨t,i⟩,Td,fun c g => ?_⟩
     rcases List.mem_append.1 g with q|q
     ·exact .inl (k c q)
     ·rcases List.mem_cons.1 q with q|q
      ·exact .inr q
      ·exact C c q
def Py{l:Bs}{p:UInt8->Bool}{α:Type}{x y:α}:(bif !(l.all p) then x else y)=if l.all p=true then y else x:=by cases l.all p<;>rfl
def qlp{a:Nat}(l:90000000<=a){s:Bs}(f:s.length<=100000)(h:wi a s=some true):s≠[]/\∀c∈s,dx c=true:=by
 unfold wi uH ow cD at h;simp only[qB]at h;unfold xJ at h;rw[aq]at h
 have:=SY (mC a) (wm a) (fun x=>Sum.inl x) (fun x=>Sum.inr x) (fun c=>dc c=true) (fun s b f=>by
  unfold wm;by_cases d:s=[]
  ·exact .inl (by rw[ax (by simp[d])])
  ·rw[aq (by simp[d]),Pu a s,qB,Py]
   by_cases e:s.all dc=true
   ·exact .inr ⟨by rw[qX e],d,List.all_eq_true.1 e⟩
   ·exact .inl (by rw[qW e])) (fun _ _ _ _ _=>rfl) a s false Ta f
 rcases this with⟨t,g⟩|⟨⟨t,g⟩,i,j⟩
 ·rw[g]at h;simp[aw]at h
 ·refine⟨i,fun c k => ?_⟩
  rcases j c k with q|q
  ·exact PD q
  ·rw[q];exact FG
def qln{a:Nat}(l:90000000<=a){s:Bs}(h:rm a s=some true):s.length<=60/\s≠[]/\∀c∈s,dx c=true:=by
 unfold rm at h;by_cases f:(s.length:Int)<=60
 ·rw[ag f]at h;unfold uI ow cD at h;simp only[qB]at h;unfold xK at h;rw[aq]at h
  have:=SY (mD a) (wn a) (fun x=>Sum.inl x) (fun x=>Sum.inr x) (fun c=>iz c=true) (fun s b m=>by
   unfold wn;by_cases d:s=[]
   ·exact .inl (by rw[ax (by simp[d])])
   ·rw[aq (by simp[d]),Pv a s,qB,Py]
    by_cases e:s.all iz=true
    ·exact .inr ⟨by rw[qX e],d,List.all_eq_true.1 e⟩
    ·exact .inl (by rw[qW e])) (fun _ _ _ _ _=>rfl) a s false Ta Ta
  rcases this with⟨t,g⟩|⟨⟨t,g⟩,i,j⟩
  ·rw[g]at h;simp[aw]at h
  ·refine⟨Ta,i,fun c k => ?_⟩
   rcases j c k with q|q
   ·exact QB q
   ·rw[q];exact FG
 ·rw[bf f]at h;simp at h
def qoi{b:Nat}{s:Bs}(h:t7 b s=some true):s.length<=60:=by
 unfold t7 at h;by_cases a:s=[]
 ·subst a;simp
 ·rw[show(!(s==([]:Bs)))=true by simp[a],ax rfl]at h
  by_cases c:(s.length:Int)<=60
  ·omega
  ·rw[bf c]at h;simp at h
def b0:List BT->Prop|(true,_)::_=>False|_=>True
def qpf(W:List BT):Prop:=∀R,fe R->nw R->fe (W++R)
def qag(s:Bs)(g:s.length<=100000:=by omega):Cf s=some (34::(de s++[34]))/\(de s).length<=300000:=by
 have e:iy 92 34 s<=2*s.length:=by
  have c:=List.count_le_length (a:=(92:UInt8)) (l:=s);have d:=List.count_le_length (a:=(34:UInt8)) (l:=s);unfold iy;omega
 have f:=hK (a:=92) (b:=34) Tf 92 92 92 34 s
 unfold Cf;rw[show xC ([([92]:Bs),([92,92]:Bs),([34]:Bs),([92,34]:Bs)]:List Bs)=some (0,0,0,[[92],[92,92],[34],[92,34]]) from rfl,qB]
 unfold wu;dsimp only;rw[ag ⟨rfl,rfl,Tf,Ta⟩,qB,ag (by simp only[qL,qZ,ao];omega),ag Tw]
 exact⟨rfl,by show(fk 92 34 [92,92] [92,34] s).length<=300000;omega⟩
abbrev FU:Nat:=100000000
def mP(a:Bs×Bs×Bs):Prop:=wh a.1=some 0/\t7 FU a.2.1=some true/\rm FU a.2.2=some true
def D1(x:Bs×Bool×TY):Prop:=wh x.1=some 0/\(x.2.1=true↔x.1≠[])/\(x.2.1=false->x.2.2.length=1)/\∀a∈x.2.2,mP a
def Sh(T:List BT):Prop:=∃S x,T=S++[x]/\∀t,ij x.2≠t++[32]
def qsy(a:Bs×Bs×Bs)(h:mP a):∃q,Du FU a.2.1 q/\lE FU a=some (bi (vg false a.2.1 a.2.2 q))/\(bi (vg false a.2.1 a.2.2 q)).length<=400000/\qpf (vg false a.2.1 a.2.2 q):=by
 obtain⟨_,c,j⟩:=h;obtain⟨s,lo,o⟩:=a;simp only[]at c j;have p:=qoi c;obtain⟨r,g,i⟩:=qln Tf j
 obtain⟨b,f,_⟩:=QF FU Tf lo
 have e64:(64:UInt8)∈dS:=Tf
 unfold lE;dsimp only;rw[f,qB]
 cases b with
 |true=>
  obtain⟨k,n⟩:=qlp Tf Ta f
  refine⟨false,⟨c,fun _=>f⟩,?_,?_,fun R d e=>⟨⟨k,n⟩,fun _ _=>trivial,e64,(fun w q=>by cases q),⟨g,i⟩,fun _ _=>e,d⟩⟩
  ·rw[ax rfl,ag (by simp only[qL,qZ,ao];omega),ag Tw]
   simp[bi,fj,ij]
  ·simp[bi,fj,ij];omega
 |false=>
  obtain⟨l,m⟩:=qag lo
  refine⟨true,⟨c,fun q=>by cases q⟩,?_,?_,fun R d e=>⟨trivial,(fun w q=>by cases q),e64,(fun w q=>by cases q),⟨g,i⟩,fun _ _=>e,d⟩⟩
  ·rw[aq rfl,l,qB,ag Tw,ag Tw]
   simp[bi,fj,ij]
  ·simp[bi,fj,ij];omega
end Go.Sym
namespace Go.Sym
abbrev Bx:Type:=Bs×Bs×Bs
abbrev ue:Type:=Bs×Bool×(List Bx)
def qi1{a:Bx}{f:Int×Int}(h:bL FU a=some f)(k:f.1=0):mP a:=by
 obtain⟨d,g,_⟩:=Eg FU Tf a.1
 obtain⟨i,b,_⟩:=Lj FU Tf a.2.1
 obtain⟨j,e,_⟩:=Kt FU Tf a.2.2
 unfold bL at h;rw[g,qB,fh]at h;by_cases c:d≠0
 ·rw[qX c]at h;have:=congrArg (Option.map Prod.fst) h;simp[bu]at this;omega
 ·rw[qW c,b,qB]at h;cases i
  ·have:=congrArg (Option.map Prod.fst) h;simp[bu]at this;omega
  ·rw[nA,e,qB]at h;cases j
   ·have:=congrArg (Option.map Prod.fst) h;simp[bu]at this;omega
   ·exact⟨by rw[g,Classical.not_not.1 c],b,e⟩
def qi5(l:List Bx)(p:l.length<=80000000)(n:Nat):∀g d:List Bx,l=g++d->d.length<n->wj FU n l (l.length:Int) (g.length:Int)=some 0->∀a∈d,mP a:=by
 induction n with
 |zero=>intro g d _ h;omega|succ n ih=>
  intro g d e h i
  cases d with
  |nil=>intro a o;cases o
  |cons a d=>
   have m:=congrArg List.length e;simp only[qM,qL]at m h;rw[wj,lB,ag Ta,show aj l (g.length:Int)=some a by rw[e];exact dp _ _ _,qB]at i
   obtain⟨f,k,_⟩:=Pn FU Tf a
   rw[k,qB,n6,qB,fh]at i;by_cases c:f.1≠0
   ·rw[qX c]at i;exact absurd (qJ i) c
   ·rw[qW c,bc _]at i
    have:=ih (g++[a]) d (by rw[e];simp) Ta (by rw[qM,wD];exact i)
    intro b j;rcases List.mem_cons.1 j with rfl|j
    ·exact qi1 k (Classical.not_not.1 c)
    ·exact this b j
def qh9{x:ue}(n:x.2.2.length<=80000000)(h:bN FU x=some 0):D1 x:=by
 obtain⟨d,i,_⟩:=Eg FU Tf x.1
 unfold bN at h;rw[i,qB,fh]at h;by_cases c:d≠0
 ·rw[qX c]at h;exact absurd (qJ h) c
 rw[qW c]at h;obtain⟨g,b,e⟩:=x;simp only[]at i h n;have f:wh g=some 0:=by rw[i,Classical.not_not.1 c]
 have l:∀x,rq FU true x≠some 0:=fun x q=>by
  unfold rq at q;rw[ax rfl]at q;exact absurd (qJ q) Tf
 have o:rq FU false (g,(b,e))=some 0->∀a∈e,mP a:=fun q=>by
  unfold rq uE at q;rw[aq rfl]at q;exact qi5 e n FU [] e rfl Ts q
 by_cases j:g=[]
 ·subst j
  cases b with
  |true=>exact absurd h (l _)|false=>
   rw[aq,ax]at h
   by_cases m:(e.length:Int)=1
   ·rw[show((e.length:Int) != (1:Int))=false by simp[m]]at h
    exact⟨f,Td,fun _=>Tv,o h⟩
   ·rw[show((e.length:Int) != (1:Int))=true by simp[m]]at h
    exact absurd h (l _)
 ·have k:(g==([]:Bs))=false:=by simp[j]
  rw[k]at h
  cases b with
  |false=>exact absurd h (l (g,(false,e)))|true=>
   rw[aq,aq]at h
   exact⟨f,⟨fun _=>j,fun _=>rfl⟩,(fun q=>by cases q),o h⟩
def qj6(l:List ue)(t:l.length<=2000000)(o:∀x∈l,x.2.2.length<=2000000)(z f:Int×Int)(s:f.1=0)(n:Nat):∀g d:List ue,l=g++d->d.length<n->wg FU n l (l.length:Int) (g.length:Int) z=some f->f=(0,0)/\∀x∈d,D1 x:=by
 induction n with
 |zero=>intro g d _ h;omega|succ n ih=>
  intro g d e h b;have i:=congrArg List.length e;rw[qM]at i;rw[wg,kX]at b
  cases d with
  |nil=>
   rw[bf (by simp at i;omega)]at b
   exact⟨(qJ b).symm,fun a m=>by cases m⟩
  |cons x d=>
   simp only[qL]at i h;have p:=o x (by rw[e];simp)
   rw[ag Ta,show aj l (g.length:Int)=some x by rw[e];exact dp _ _ _,qB]at b
   obtain⟨c,k,_⟩:=Pr FU Tf x
   rw[k,qB,fh]at b;by_cases c0:c≠0
   ·rw[qX c0]at b;have:=congrArg (Option.map Prod.fst) b;simp[bu]at this;omega
   ·rw[qW c0,bc _]at b
    obtain⟨q,r⟩:=ih (g++[x]) d (by rw[e];simp) Ta (by rw[qM,wD];exact b)
    refine⟨q,fun y j => ?_⟩
    rcases List.mem_cons.1 j with rfl|j
    ·exact qh9 Ta (by rw[k,Classical.not_not.1 c0])
    ·exact r y j
def jr(l:List ue):Nat:=(l.map fun x=>x.2.2.length).sum
def Kb(x:ue)(l:List ue):jr (x::l)=x.2.2.length+jr l:=by simp[jr]
def Ql(a b:List ue):jr (a++b)=jr a+jr b:=by simp[jr]
def Qm:∀(l:List ue),(∀x∈l,x.2.2.length<=2000000)->jr l<=2000000*l.length
 |[],_=>by simp[jr]|x::l,h=>by
  have b:=h x qH;have c:=Qm l (fun y a=>h y (qE _ a))
  rw[Kb,qL];omega
def qj4(l:List ue)(p:l.length<=2000000)(j:∀x∈l,x.2.2.length<=2000000)(z f:Int×Int)(o:f.1=0)(n:Nat):∀b c:List ue,l=b++c->c.length<n->wb FU n l (jr b:Int) l (l.length:Int) (b.length:Int) z=some f->f=(0,0)/\l.length<=60/\jr l<=60/\∀x∈l,D1 x:=by
 have m:=Qm l j
 induction n with
 |zero=>intro b c _ h;omega|succ n ih=>
  intro b c e h a;have d:=congrArg List.length e;rw[qM]at d;rw[wb,kW]at a
  cases c with
  |nil=>
   rw[List.append_nil]at e;subst e;rw[bf]at a
   have k:we FU l true z≠some f:=fun q=>by
    unfold we at q;rw[ax rfl]at q;have:=congrArg (Option.map Prod.fst) q;simp[bu]at this;omega
   by_cases g:(60:Int)<(l.length:Int)
   ·rw[ag g]at a;exact absurd a k
   ·rw[bf g]at a;by_cases i:(60:Int)<(jr l:Int)
    ·rw[decide_eq_true i]at a;exact absurd a k
    ·rw[decide_eq_false i]at a;unfold we uC at a;rw[aq rfl]at a;obtain⟨r,s⟩:=qj6 l p j z f o FU [] l rfl Ts a
     exact⟨r,Ta,Ta,s⟩
  |cons x c=>
   simp only[qL]at d h;rw[ag Ta,show aj l (b.length:Int)=some x by rw[e];exact dp _ _ _,qB,bc _]at a
   have t:jr b+x.2.2.length<=jr l:=by rw[e,Ql,Kb];omega
   rw[bq (x:=(jr b:Int)+(x.2.2.length:Int)) Ta Ta]at a
   refine ih (b++[x]) c (by rw[e];simp) Ta ?_
   rw[qM,wD,Ql,Kb,show jr []=0 from rfl,show((jr b+(x.2.2.length+0):Nat):Int)=(jr b:Int)+(x.2.2.length:Int) by omega]
   exact a
def qj7(l:List ue)(b:l.length<=2000000)(c:∀x∈l,x.2.2.length<=2000000){f:Int×Int}(h:bJ FU l=some f)(a:f.1=0):f=(0,0)/\l.length<=60/\jr l<=60/\∀x∈l,D1 x:=
 qj4 l b c _ f a FU [] l rfl Ts h
end Go.Sym

namespace Go.Sym.Cal
def xn(y:Int):Bool:=y%4==0&&(y%100 != 0||y%400==0)
def lp(y:Int):Int:=if xn y=true then 1 else 0
def Sb(y:Int):0<=lp y/\lp y<=1:=by unfold lp;split<;>omega
def qon(y:Int):lp y=(y/4-y/100+y/400)-((y-1)/4-(y-1)/100+(y-1)/400):=by
 unfold lp xn;split
 ·rename_i h;simp at h;omega
 ·rename_i h;simp at h;omega
def gZ(m:Int):Int:=if m=2 then 28 else if m=4\/m=6\/m=9\/m=11 then 30 else 31
def dim(y m:Int):Int:=if m=2 then 28+lp y else gZ m
def dim_bd(y m:Int):28<=dim y m/\dim y m<=31:=by
 have:=Sb y;unfold dim gZ;split<;>(try split)<;>(try split)<;>omega
def nI(m:Int):Int:=
 if m<=1 then 0 else if m=2 then 31 else if m=3 then 59 else if m=4 then 90 else if m=5 then 120 else if m=6 then 151 else if m=7 then 181
 else if m=8 then 212 else if m=9 then 243 else if m=10 then 273 else if m=11 then 304 else if m=12 then 334 else 365
def f7(y m:Int):Int:=nI m+if 3<=m then lp y else 0
def Qs(y:Int):f7 y 1=0:=by simp[f7,nI]
def Kg(y:Int):f7 y 13=365+lp y:=by simp[f7,nI]
def Lt(m:Int)(a:1<=m)(b:m<=12):m=1\/m=2\/m=3\/m=4\/m=5\/m=6\/m=7\/m=8\/m=9\/m=10\/m=11\/m=12:=Ta
def zJ(y m:Int)(a:1<=m:=by omega)(b:m<=12:=by omega):f7 y (m+1)=f7 y m+dim y m:=by
 rcases Lt m a b with h|h|h|h|h|h|h|h|h|h|h|h<;>subst h<;>simp[f7,nI,dim,gZ]<;>omega
def Kh(y m:Int)(a:1<=m)(b:m<=13:=by omega):0<=f7 y m/\f7 y m<=366:=by
 have:=Sb y;rcases (show m=13\/m<=12 by omega) with h|h
 ·subst h;rw[Kg];omega
 ·rcases Lt m a h with h|h|h|h|h|h|h|h|h|h|h|h<;>subst h<;>simp[f7,nI]<;>omega
def zI(y a b:Int)(f:1<=a:=by omega)(c:a<=b:=by omega)(g:b<=13:=by omega):f7 y a<=f7 y b:=by
 obtain⟨n,rfl⟩:∃n:Nat,b=a+n:=⟨(b-a).toNat,Ta⟩
 induction n with
 |zero=>simp|succ n ih=>
  have h:=ih Ta Ta
  have d:=zJ y (a+n)
  have i:=dim_bd y (a+n);have e:a+((n+1:Nat):Int)=a+n+1:=Ta
  rw[e,d];omega
def qkn(y a b:Int)(c:1<=a)(e:a<b)(d:b<=13):f7 y a+dim y a<=f7 y b:=by
 rw[← zJ y a c];exact zI y _ _ Ta Ta d
def d7(y:Int):Int:=365*(y-1)+(y-1)/4-(y-1)/100+(y-1)/400
def qi6:d7 1970=719162:=Tf
def PG(y:Int):d7 (y+1)=d7 y+365+lp y:=by
 have:=qon y;unfold d7;rw[show y+1-1=y by omega];omega
def cL(a b:Int)(h:a<=b:=by omega):d7 a<=d7 b:=by unfold d7;omega
def PF(y:Int)(a:1<=y)(b:y<=4001):0<=d7 y/\d7 y<=1461000:=by unfold d7;omega
def cn(y m d:Int):Int:=d7 y-719162+d-1+f7 y m
def day_bd(y m d:Int)(a:1<=y)(b:y<=4001)(c:1<=m)(e:m<=13)(f : -1000<=d)(g:d<=1000) : -720200<=cn y m d/\cn y m d<=743300:=by
 have:=PF y a b;have:=Kh y m c e;unfold cn;omega
def g6(y m d:Int):Prop:=1<=y/\y<=4000/\1<=m/\m<=12/\1<=d/\d<=dim y m
instance(y m d:Int):Decidable (g6 y m d):=by unfold g6;infer_instance
def zL(y m d:Int)(h:g6 y m d):d7 y<=cn y m d+719162/\cn y m d+719162<d7 (y+1):=by
 obtain⟨_,_,a,b,c,e⟩:=h;have:=Kh y m a;have:=qkn y m 13 a Ta Ta;have:=Kg y;have:=PG y
 unfold cn;omega
def Km(y m d:Int)(h:g6 y m d):f7 y m<=cn y m d+719162-d7 y/\cn y m d+719162-d7 y<f7 y (m+1):=by
 obtain⟨_,_,a,b,c,e⟩:=h;have:=zJ y m a b;unfold cn;omega
def qkz{y m d f m' g:Int}(h:g6 y m d)(i:g6 f m' g)(e:cn y m d=cn f m' g):y=f/\m=m'/\d=g:=by
 have a:=zL y m d h;have o:=zL f m' g i;have n:y=f:=by
  rcases Int.lt_trichotomy y f with c|c|c
  ·have:=cL (y+1) f;omega
  ·exact c
  ·have:=cL (f+1) y;omega
 subst n;have b:=Km y m d h;have p:=Km y m' g i;obtain⟨_,_,q,r,_,_⟩:=h;obtain⟨_,_,j,k,_,_⟩:=i;have l:m=m':=by
  rcases Int.lt_trichotomy m m' with c|c|c
  ·have:=zI y (m+1) m';omega
  ·exact c
  ·have:=zI y (m'+1) m;omega
 subst l;refine⟨rfl,rfl,?_⟩;unfold cn at e;omega
noncomputable def qm(n:Int):Int×Int×Int:=open Classical in if h:∃p:Int×Int×Int,g6 p.1 p.2.1 p.2.2/\cn p.1 p.2.1 p.2.2=n then Classical.choose h else(0,0,0)
def qj8{y m d:Int}(h:g6 y m d):qm (cn y m d)=(y,m,d):=by
 have e:∃p:Int×Int×Int,g6 p.1 p.2.1 p.2.2/\cn p.1 p.2.1 p.2.2=cn y m d:=⟨(y,m,d),h,rfl⟩;unfold qm;rw[dif_pos e];obtain⟨g,f⟩:=Classical.choose_spec e;obtain⟨a,b,c⟩:=qkz g h f;exact Prod.ext a (Prod.ext b c)
def qka{n y m d:Int}(h:g6 y m d)(e:cn y m d=n):qm n=(y,m,d):=by rw[← e];exact qj8 h
def qj9(n:Int)(s : -719162<=n)(t:n<=741807):∃y m d:Int,g6 y m d/\cn y m d=n:=by
 have a:∀k:Nat,k<=4000->n+719162<d7 (k+1:Int)->∃y:Int,1<=y/\y<=4000/\d7 y<=n+719162/\n+719162<d7 (y+1):=by
  intro k
  induction k with
  |zero=>intro _ h;simp[d7]at h;omega|succ k ih=>
   intro l h;by_cases g:n+719162<d7 (k+1:Int)
   ·exact ih Ta g
   ·exact⟨k+1,Ta,Ta,Ta,by
     have e:((k+1:Nat):Int)+1=(k:Int)+1+1:=Ta
     rw[e]at h;exact h⟩
 obtain⟨y,i,j,q,r⟩:=a 4000 (wF _) (by
  have:d7 ((4000:Nat)+1:Int)=1460970:=Tf
  omega)
 have f:∀k:Nat,k<=12->n+719162-d7 y<f7 y (k+1:Int)->∃m:Int,1<=m/\m<=12/\f7 y m<=n+719162-d7 y/\n+719162-d7 y<f7 y (m+1):=by
  intro k
  induction k with
  |zero=>intro _ h;simp[f7,nI]at h;omega|succ k ih=>
   intro l h;by_cases g:n+719162-d7 y<f7 y (k+1:Int)
   ·exact ih Ta g
   ·exact⟨k+1,Ta,Ta,Ta,by
     have e:((k+1:Nat):Int)+1=(k:Int)+1+1:=Ta
     rw[e]at h;exact h⟩
 obtain⟨m,b,c,o,p⟩:=f 12 (wF _) (by
  have:=Kg y;have:=PG y;have e:((12:Nat):Int)+1=13:=Ta
  rw[e];omega)
 have:=zJ y m b c;exact⟨y,m,n+719162-d7 y-f7 y m+1,⟨i,j,b,c,Ta,Ta⟩,by unfold cn;omega⟩
def qk1:cn 4000 12 31=741807:=Tf
def qk2:cn 1 1 1 = -719162:=Tf
def MC(y m d:Int)(h:g6 y m d) : -719162<=cn y m d/\cn y m d<=741807:=by
 have a:=zL y m d h;have b:=cL 1 y h.1;have c:=cL (y+1) 4001 (by have:=h.2.1;omega)
 have e:d7 1=0:=Tf
 have f:d7 4001=1460970:=Tf
 omega
def qkb(n:Int)(a : -719162<=n:=by omega)(b:n<=741807:=by omega):g6 (qm n).1 (qm n).2.1 (qm n).2.2/\cn (qm n).1 (qm n).2.1 (qm n).2.2=n:=by
 obtain⟨y,m,d,h,e⟩:=qj9 n a b;rw[qka h e];exact⟨h,e⟩
def jH(n:Int):Int:=(n+4)%7
def qu5(n:Int):0<=jH n/\jH n<=6:=by unfold jH;omega
end Go.Sym.Cal
namespace Go.Sym.Zn
open Go.Sym.Cal
def ot(y a b:Int):Int:=(b-jH (cn y a 1)+7)%7
def yf(y a c b:Int):Int:=if c=5/\dim y a<29+ot y a b then 22+ot y a b else 1+ot y a b+7*(c-1)
def qcp(y a e d c b:Int):Int:=cn y a (yf y a e d)*86400+60*(c-b)
def Dz(b d c a:Int):Prop:=1<=b/\b<=12/\1<=d/\d<=5/\0<=c/\c<=6/\0<=a/\a<=1439
instance(b d c a:Int):Decidable (Dz b d c a):=by unfold Dz;infer_instance
def qcv(y a b:Int):0<=ot y a b/\ot y a b<=6:=by unfold ot;omega
def qtw(y a b c:Int)(e:1<=b)(f:b<=5):1<=yf y a b c/\yf y a b c<=dim y a:=by
 have:=qcv y a c;have:=dim_bd y a;unfold yf;split
 ·omega
 ·rename_i h;by_cases d:b=5
  ·subst d;simp at h;omega
  ·omega
def qk3(y m d:Int):cn y m d=cn y m 1+d-1:=by unfold cn;omega
def dH(y:Int):Int:=86400*(d7 y-719162)
structure q7s(B E:Int->Int)(std sm:Int):Prop where
 d1:std+1<=sm
 d2:sm<=std+180
 b1:∀y,dH y<=B y+60*std
 b2:∀y,B y+60*std+60<=dH (y+1)
 e1:∀y,dH y<=E y+60*sm
 e2:∀y,E y+60*sm+60<=dH (y+1)
 bs:∀y,B (y+1)=B y+364*86400\/B (y+1)=B y+371*86400
 es:∀y,E (y+1)=E y+364*86400\/E (y+1)=E y+371*86400
 be:∀y,dH (y+1)-86400<=B y+60*std->E y+60*sm+86400<=dH (y+1)
 eb:∀y,dH (y+1)-86400<=E y+60*sm->B y+60*std+86400<=dH (y+1)
section
variable{B E:Int->Int}{std sm:Int}
def OV(B E:Int->Int)(lo a t:Int):Prop:=∃y,lo<=y/\y<=a/\B y<=t/\∀z,lo<=z->z<=a->E z<=t->E z<B y
def Inv(B E:Int->Int)(t:Int)(S:Int->Prop)(a:Int)(b c:Bool):Prop:=
 (c=false->b=false/\∀y,S y->t<B y/\t<E y) /\
 (c=true->a<=t/\(∀y,S y->B y<=t->B y<=a)/\(∀y,S y->E y<=t->E y<=a) /\
  (b=true->(∃y,S y/\B y=a)/\∀y,S y->E y<=t->E y<a)/\(b=false->∃y,S y/\E y=a))
def Inv.start(t a:Int):Inv B E t (fun _=>False) a false false:=⟨fun _=>⟨rfl,fun _ h=>h.elim⟩,fun h=>by cases h⟩
def Inv.fin{t lo k c:Int}{b a:Bool}(h:Inv B E t (fun y=>lo<=y/\y<=k) c b a):b=true↔OV B E lo k t:=by
 constructor
 ·intro f
  cases a with
  |false=>have:=(h.1 rfl).1;rw[this]at f;cases f
  |true=>
   obtain⟨i,j,n,o,_⟩:=h.2 rfl;obtain⟨⟨y,e,rfl⟩,q⟩:=o f;exact⟨y,e.1,e.2,i,fun z z1 r g=>q z ⟨z1,r⟩ g⟩
 ·rintro⟨y,l,m,e,g⟩
  cases a with
  |false=>have:=(h.1 rfl).2 y ⟨l,m⟩;omega|true=>
   obtain⟨i,j,n,_,p⟩:=h.2 rfl
   cases b with
   |true=>rfl|false=>
    obtain⟨z,d,s⟩:=p rfl;have:=j y ⟨l,m⟩ e;have:=g z d.1 d.2 Ta
    omega
def Inv.next{t k d best1 best2:Int}{S r:Int->Prop}{p c out1 has1 out2 has2:Bool}(h:Inv B E t S d p c)(f:∀y,r y↔S y\/y=k)
  (G:(B k<=t/\(c=false\/d<B k)/\best1=B k/\out1=true/\has1=true)\/(¬(B k<=t/\(c=false\/d<B k))/\best1=d/\out1=p/\has1=c))
  (v:(E k<=t/\(has1=false\/best1<=E k)/\best2=E k/\out2=false/\has2=true)\/(¬(E k<=t/\(has1=false\/best1<=E k))/\best2=best1/\out2=out1/\has2=has1)) :
  Inv B E t r best2 out2 has2:=by
 obtain⟨i,l⟩:=h;have s:r k:=(f k).2 (.inr rfl);have j:∀y,S y->r y:=fun y b=>(f y).2 (.inl b)
 rcases G with⟨g,m,rfl,rfl,rfl⟩|⟨g,rfl,rfl,rfl⟩
 ·rcases v with⟨c1,c2,rfl,rfl,rfl⟩|⟨c1,rfl,rfl,rfl⟩
  ·refine⟨fun h=>(by cases h),fun _=>⟨c1,fun y b a => ?_,fun y b a => ?_,fun h=>(by cases h),fun _=>⟨k,s,rfl⟩⟩⟩
   ·rcases (f y).1 b with q|rfl
    ·cases c with|false=>have:=(i rfl).2 y q;omega|true=>have:=(l rfl).2.1 y q a;simp at m c2;omega
    ·simp at c2;exact c2
   ·rcases (f y).1 b with q|rfl
    ·cases c with|false=>have:=(i rfl).2 y q;omega|true=>have:=(l rfl).2.2.1 y q a;simp at m c2;omega
    ·omega
  ·simp at c1;refine⟨fun h=>(by cases h),fun _=>⟨g,fun y b a => ?_,fun y b a => ?_,fun _=>⟨⟨k,s,rfl⟩,fun y b a => ?_⟩,fun h=>(by cases h)⟩⟩
   ·rcases (f y).1 b with q|rfl
    ·cases c with|false=>have:=(i rfl).2 y q;omega|true=>have:=(l rfl).2.1 y q a;simp at m;omega
    ·omega
   ·rcases (f y).1 b with q|rfl
    ·cases c with|false=>have:=(i rfl).2 y q;omega|true=>have:=(l rfl).2.2.1 y q a;simp at m;omega
    ·have:=c1 a;omega
   ·rcases (f y).1 b with q|rfl
    ·cases c with|false=>have:=(i rfl).2 y q;omega|true=>have:=(l rfl).2.2.1 y q a;simp at m;omega
    ·exact c1 a
 ·rcases v with⟨c1,c2,rfl,rfl,rfl⟩|⟨c1,rfl,rfl,rfl⟩
  ·refine⟨fun h=>(by cases h),fun _=>⟨c1,fun y b a => ?_,fun y b a => ?_,fun h=>(by cases h),fun _=>⟨k,s,rfl⟩⟩⟩
   ·rcases (f y).1 b with q|rfl
    ·cases has1 with|false=>have:=(i rfl).2 y q;omega|true=>have:=(l rfl).2.1 y q a;simp at c2;omega
    ·cases has1 with|false=>exact absurd ⟨a,.inl rfl⟩ g|true=>simp at g c2;have:=g a;omega
   ·rcases (f y).1 b with q|rfl
    ·cases has1 with|false=>have:=(i rfl).2 y q;omega|true=>have:=(l rfl).2.2.1 y q a;simp at c2;omega
    ·omega
  ·cases has2 with
   |false=>
    simp at g c1;obtain⟨o,I⟩:=i rfl;refine⟨fun _=>⟨o,fun y b => ?_⟩,fun h=>(by cases h)⟩
    rcases (f y).1 b with q|rfl
    ·exact I y q
    ·exact⟨g,c1⟩
   |true=>
    simp at g c1;obtain⟨w,x,A,C,F⟩:=l rfl;refine⟨fun h=>(by cases h),fun _=>⟨w,fun y b a => ?_,fun y b a => ?_,fun u => ?_,fun u => ?_⟩⟩
    ·rcases (f y).1 b with q|rfl
     ·exact x y q a
     ·exact g a
    ·rcases (f y).1 b with q|rfl
     ·exact A y q a
     ·have:=c1 a;omega
    ·obtain⟨⟨y,b,e⟩,H⟩:=C u;refine⟨⟨y,j y b,e⟩,fun z J n => ?_⟩
     rcases (f z).1 J with q|rfl
     ·exact H z q n
     ·exact c1 n
    ·obtain⟨y,b,e⟩:=F u;exact⟨y,j y b,e⟩
end
end Go.Sym.Zn
namespace Go.Sym
open Cal Zn
abbrev fq:Type:=Int×Int
abbrev d9:Type:=Int×Int×Int×Int×Int×Int×Int
abbrev zm:Type:=Int×Int×Int×Int
abbrev dv:Type:=List UInt8×Int×Int×zm×zm
@[simp] def dates_within_eq(x a b:Int):ub x a b=some (decide (a<=x/\x<=b)):=by
 unfold ub;by_cases h:a<=x<;>simp[h]
@[simp] def zones_within_eq(x a b:Int):rr x a b=some (decide (a<=x/\x<=b)):=by
 unfold rr;by_cases h:a<=x<;>simp[h]
@[simp] def zr1_in_eq(x a b:Int):ck x a b=some (decide (a<=x/\x<=b)):=by
 unfold ck;by_cases h:a<=x<;>simp[h]
def qn6(y:Int)(h:0<=y):C5 y=some (xn y):=by
 unfold C5 xn;rw[Int.tmod_eq_emod_of_nonneg h,Int.tmod_eq_emod_of_nonneg h,Int.tmod_eq_emod_of_nonneg h];cases a:(y%4==0)<;>cases b:(y%100 != 0)<;>simp
def qrh(y:Int)(h:0<=y):BG y=some (xn y):=by
 unfold BG xn;rw[Int.tmod_eq_emod_of_nonneg h,Int.tmod_eq_emod_of_nonneg h,Int.tmod_eq_emod_of_nonneg h];cases a:(y%4==0)<;>cases b:(y%100 != 0)<;>simp
 all_goals (simp at a;omega)
def Sd{y:Int}(h:xn y=true):lp y=1:=by unfold lp;rw[qX h]
def Sc{y:Int}(h:xn y=false):lp y=0:=by unfold lp;rw[qW (by rw[h];decide)]
def S0(m:Int)(a:1<=m)(b:m<=12):aj ([31,28,31,30,31,30,31,31,30,31,30,31]:List Int) (ae (m-1))=some (gZ m):=by
 rw[bq]
 rcases Lt m a b with h|h|h|h|h|h|h|h|h|h|h|h<;>subst h<;>rfl
def RO(y m:Int)(f:0<=y)(c:1<=m)(d:m<=12):vF y m=some (dim y m):=by
 unfold vF;rw[S0 m c d,qB];by_cases e:m=2
 ·subst e;rw[qn6 y f];cases a:xn y
  ·simp[dim,gZ,Sc a]
  ·simp[dim,gZ,Sd a];rfl
 ·have b:(m==2)=false:=by simp[e]
  simp[e,b,dim]
def qri(y m:Int)(f:0<=y)(c:1<=m)(d:m<=12):BI y m=some (dim y m):=by
 unfold BI;simp only[qa6];rw[S0 m c d];by_cases e:m=2
 ·subst e;rw[qrh y f];cases a:xn y
  ·simp[dim,gZ,Sc a]
  ·simp[dim,Sd a]
 ·have b:(m==2)=false:=by simp[e]
  simp[e,b,dim]
def PH(y:Int)(a:1<=y:=by omega)(b:y<=4001:=by omega):vD y=some (d7 y):=by
 unfold vD d7;rw[bq (x:=y-1) Ta Ta]
 rw[Int.tdiv_eq_ediv_of_nonneg Ta,Int.tdiv_eq_ediv_of_nonneg Ta,Int.tdiv_eq_ediv_of_nonneg Ta]
 simp (discharger:=omega) only [bq ?_ ?_]
def qk0(d:Nat)(y m:Int)(g:1<=y)(h:y<=4001)(q:m<=12):∀(n:Nat)(a k:Int),1<=k->k<=m->m-k<n -> -10000000<=a-f7 y k->a-f7 y k<=10000000 ->
  vE d n y m a k=some (a+f7 y m-f7 y k):=by
 intro n
 induction n with
 |zero=>intro a k b e f;omega|succ n ih=>
  intro a k b e f i j;rw[vE,HV];by_cases c:k<m
  ·have o:=zJ y k b
   have l:=Kh y k b
   have p:=dim_bd y k;rw[ax (by simp[c]),RO y k Ta b Ta,qB,bq,bq,
    ih _ _ Ta Ta Ta Ta Ta]
   congr 1;omega
  ·have:k=m:=Ta
   subst this;rw[aq];congr 1;omega
def nM(c:Nat)(k:20<=c)(y m d:Int)(a:1<=y:=by omega)(b:y<=4001:=by omega)(e:1<=m:=by omega)(f:m<=12:=by omega)(h : -1000<=d:=by omega)(i:d<=1000:=by omega):wt c y m d=some (cn y m d):=by
 unfold wt;have j:=PF y a b;have g:=Qs y;rw[PH y a b,qB,PH 1970,qB,qi6]
 simp (discharger:=omega) only [bq ?_ ?_];rw[qk0 c y m a b f c _ 1 Ta e Ta Ta Ta,g]
 unfold cn;congr 1;omega
def qbz(x b:Int)(c:0<b:=by omega)(g:b<=100000:=by omega)(m : -1000000000000<=x:=by omega)(f:x<=1000000000000:=by omega):vG x b=some (x/b,x%b):=by
 unfold vG;have a:decide (b≠0)=true:=decide_eq_true Ta
 rw[ax a,ax a,ax a];have e:Int.tmod (ae (Int.tmod x b+b)) b=x%b:=by
  have i:=Int.tmod_lt_of_pos x c;have j : -b<Int.tmod x b:=by
   have:=Int.lt_tmod_of_pos x c;omega
  rw[bq,Int.tmod_eq_emod_of_nonneg Ta]
  rw[Int.add_emod_right];by_cases h:0<=x
  ·rw[Int.tmod_eq_emod_of_nonneg h,Int.emod_emod]
  ·rw[Int.tmod_def x b,Int.sub_mul_emod_self_left]
 rw[e];have n:=Int.emod_nonneg x (show b≠0 by omega)
 have o:=Int.emod_lt_of_pos x c;have l:=Int.mul_ediv_add_emod x b;have d:x-x%b=b*(x/b):=Ta
 rw[bq (x:=x-x%b) Ta Ta,d,Int.mul_tdiv_cancel_left _ Ta]
 have k : -1000000000000<=x/b/\x/b<=1000000000000:=by
  constructor
  ·rw[Int.le_ediv_iff_mul_le c];have : -1000000000000*b <= -1000000000000*1:=Ta
   omega
  ·exact Int.le_trans (Int.ediv_le_ediv c f) (Int.ediv_le_self _ Ta)
 rw[bq]
end Go.Sym
namespace Go.Sym
open Cal Zn
def qci{x k:Int}(h:0<=x):Int.tdiv x k=x/k:=Int.tdiv_eq_ediv_of_nonneg h
def qcq{x k:Int}(h:0<=x:=by omega):Int.tmod x k=x%k:=Int.tmod_eq_emod_of_nonneg h
@[simp] def none_eq:e8=some ⟨0,0⟩:=rfl
@[simp] def fault_eq(a b:Int):bu a b=some ⟨a,b⟩:=rfl
@[simp] def zB(a b:Int):ce a b=some ⟨a,b⟩:=rfl
@[simp] def zfailed_eq(f:fq):fg f=some (f.1 != 0):=rfl
@[simp] def time_eq(t:Int):zb t=some (decide (-68719476736<=t/\t<=68719476736)):=by
 unfold zb;by_cases h : -68719476736<=t<;>simp[h]
noncomputable def JZ(n s z:Int):d9:=⟨(qm n).1,(qm n).2.1,(qm n).2.2,s/3600,s/60%60,s%60,z⟩
def q7d{n y m d k:Int}(h:g6 y m d)(e:cn y m d=n):cn k 1 1<=n↔k<=y:=by
 have a:=zL y m d h;have:cn k 1 1=d7 k-719162:=by unfold cn;rw[Qs];omega
 rw[this];constructor
 ·intro b;by_cases c:k<=y
  ·exact c
  ·have:=cL (y+1) k;omega
 ·intro b;have:=cL k y b;omega
def qox{n y m d k:Int}(h:g6 y m d)(e:cn y m d=n)(f:1<=k)(g:k<=12):cn y k 1<=n↔k<=m:=by
 have a:=Km y m d h;have:cn y k 1=d7 y-719162+f7 y k:=by unfold cn;omega
 rw[this];constructor
 ·intro b;by_cases c:k<=m
  ·exact c
  ·have:=zI y (m+1) k (by have:=h.2.2.1;omega);omega
 ·intro b;have:=zI y k m f b (by have:=h.2.2.2.1;omega);omega
def qkd(f:Nat)(v:20<=f){N y m d:Int}(s z:Int)(x:d9)(A:fq)(h:g6 y m d)(e:cn y m d=N)(E:0<=s)(w:s<86400):∀(n:Nat)(k:Int),m<=k->k<=12->k-m<n ->
  vC f n z N s y k x A=some ((y,m,d,s/3600,s/60%60,s%60,z),(0,0)):=by
 obtain⟨a,l,i,o,p,q⟩:=h;have C:=dim_bd y m;have B:=MC y m d ⟨a,l,i,o,p,q⟩;intro n
 induction n with
 |zero=>intro k t g u;omega|succ n ih=>
  intro k t g u;rw[vC,HQ,nM f v y k 1 a Ta Ta g,qB]
  have j:=qox (k:=k) ⟨a,l,i,o,p,q⟩ e Ta g
  by_cases c:k<=m
  ·have:k=m:=Ta
   subst this;have:=qk3 y k d;have b:=day_bd y k 1 a Ta i Ta Ta Ta
   rw[aq (by simp;exact j.2 c),none_eq]
   simp only[qB];simp (discharger:=omega) only [bq ?_ ?_,qci,qcq ?_];have r:N-cn y k 1+1=d:=Ta
   rw[r]
  ·rw[ax (by simp;have:=mt j.1 c;omega),bq,ih _ Ta Ta Ta]
def qke(b:Nat)(l:20<=b){N y m d:Int}(s z:Int)(p:d9)(r:fq)(h:g6 y m d)(e:cn y m d=N)(E:0<=s)(i:s<86400):∀(j n:Nat)(k:Int),j<=12->1<=k->k<=y->y<k+2 ^ j->j<n ->
  lL b n z N s k ((2 ^ j/2:Nat):Int) p r=some ((y,m,d,s/3600,s/60%60,s%60,z),(0,0)):=by
 have x:=h;obtain⟨I,J,K,F,L,M⟩:=x;intro j
 induction j with
 |zero=>
  intro n k C A f g B;obtain⟨n,rfl⟩:∃q,n=q+1:=⟨n-1,Ta⟩
  have:k=y:=by simp at g;omega
  subst this;rw[lL,Cy,aq,qkd b l s z p r h e E i b 12 F Ta Ta]
 |succ j ih=>
  intro n k C A f g B;obtain⟨n,rfl⟩:∃q,n=q+1:=⟨n-1,Ta⟩
  have t:(2 ^ (j+1)/2:Nat)=2 ^ j:=by rw[Nat.pow_succ];omega
  have u:(2:Int) ^ (j+1)=2*((2 ^ j:Nat):Int):=by rw[Int.pow_succ];simp;omega
  rw[u]at g;have v:((2:Int) ^ j)=((2 ^ j:Nat):Int):=Td
  have a:=ih n;rw[v]at a;have G:0<2 ^ j:=Nat.pow_pos Ta
  have H:2 ^ j<=2 ^ 11:=Nat.pow_le_pow_right Ta Ta
  have w:((2 ^ j/2:Nat):Int)=((2 ^ j:Nat):Int)/2:=Ta
  rw[t];rw[w]at a;generalize 2 ^ j=P at *;rw[lL,Cy,ax Te]
  simp only[C0,C4];simp (discharger:=omega) only [bq ?_ ?_,qci];by_cases c:k+(P:Int)<=4000
  ·rw[ax (by simp;exact c),nM b l _ 1 1,qB]
   have o:=q7d (k:=k+(P:Int)) h e;by_cases c2:k+(P:Int)<=y
   ·rw[ax (by simp;exact o.2 c2)]
    exact a _ Ta Ta c2 Ta Ta
   ·rw[aq (by simp;have:=mt o.1 c2;omega)]
    exact a _ Ta Ta f Ta Ta
  ·rw[aq Te]
   exact a _ Ta Ta f Ta Ta
noncomputable def Ge(t z:Int):d9×fq:=
 if ¬(-68719476736<=t/\t<=68719476736) then(⟨0,0,0,0,0,0,0⟩,⟨3,-2⟩) else
 if ¬(-900<=z/\z<=900) then(⟨0,0,0,0,0,0,0⟩,⟨3,-4⟩) else
 if(t+60*z)/86400 < -719162\/741807<(t+60*z)/86400 then(⟨0,0,0,0,0,0,0⟩,⟨3,-3⟩) else
 (JZ ((t+60*z)/86400) ((t+60*z)%86400) z,⟨0,0⟩)
def qkc(a:Nat)(b:20<=a)(t z:Int):vB a t z=some (Ge t z):=by
 unfold vB Ge;rw[time_eq,qB];by_cases c1 : -68719476736<=t/\t<=68719476736
 ·rw[aq Tz,qW Tz,dates_within_eq,qB]
  by_cases c2 : -900<=z/\z<=900
  ·rw[aq TG,qW TG]
   simp (discharger:=omega) only [bq ?_ ?_];rw[qbz _ _,qB,nM a b 1 1 1,qB,qk2]
   generalize f:(t+60*z)/86400=N;generalize g:(t+60*z)%86400=S;by_cases c3:N < -719162
   ·rw[ax (by simp;exact c3),qX (.inl c3)];rfl
   ·rw[aq Te,nM a b 4000 12 31,qB,qk1]
    unfold Cz HU;by_cases d:741807<N
    ·rw[ax (by simp;exact d),qX (.inr d)];rfl
    ·rw[aq Te,qW Ta]
     obtain⟨c,e⟩:=qkb N
     have:=qke a b S z (0,0,0,0,0,0,0) (0,0) c e Ta Ta 12 a 1 Ta Ta c.1 (by have:=c.2.1;omega) Ta
     exact this
  ·rw[ax Te,qX c2];rfl
 ·rw[ax Te,qX c1];rfl
def ez(d:d9):Prop:=g6 d.1 d.2.1 d.2.2.1/\0<=d.2.2.2.1/\d.2.2.2.1<=23/\0<=d.2.2.2.2.1/\d.2.2.2.2.1<=59/\0<=d.2.2.2.2.2.1/\d.2.2.2.2.2.1<=59 /\ -900<=d.2.2.2.2.2.2/\d.2.2.2.2.2.2<=900
instance(d:d9):Decidable (ez d):=by unfold ez;infer_instance
def Kz(d:d9):lM d=some (if ez d then⟨0,0⟩ else⟨3,-3⟩):=by
 unfold lM;simp only[dates_within_eq,qB,fault_eq,none_eq,ln,o7];have a:∀(f:fq),(if ez d then(⟨0,0⟩:fq) else⟨3,-3⟩)=f->(ez d->f=⟨0,0⟩)/\(¬ez d->f=⟨3,-3⟩):=fun f h=>⟨fun k=>by rw[← h,qX k],fun k=>by rw[← h,qW k]⟩
 generalize c:(if ez d then(⟨0,0⟩:fq) else⟨3,-3⟩)=f
 obtain⟨g,b⟩:=a f c;clear a c;unfold ez g6 at g b;by_cases c1:1<=d.1/\d.1<=4000
 ·rw[qX c1];by_cases c2:1<=d.2.1/\d.2.1<=12
  ·have e:(if(12:Int)<(if(1:Int)>d.2.1 then 1 else d.2.1) then 12 else if(1:Int)>d.2.1 then 1 else d.2.1)=d.2.1:=by
    rw[qW (show ¬((1:Int)>d.2.1) by omega),qW Ta]
   rw[qX c2,e,RO _ _ Ta c2.1 c2.2,qB]
   clear e
   repeat' split
   all_goals first|(rw[g Ta])|(rw[b Ta])
  ·rw[qW c2,b Ta]
 ·rw[qW c1,b Ta]
def qld(d:d9):BA d=some (if ez d then⟨0,0⟩ else⟨3,-3⟩):=by
 unfold BA;simp only[zr1_in_eq,qB,zB,o7];have a:∀(f:fq),(if ez d then(⟨0,0⟩:fq) else⟨3,-3⟩)=f->(ez d->f=⟨0,0⟩)/\(¬ez d->f=⟨3,-3⟩):=fun f h=>⟨fun k=>by rw[← h,qX k],fun k=>by rw[← h,qW k]⟩
 generalize c:(if ez d then(⟨0,0⟩:fq) else⟨3,-3⟩)=f
 obtain⟨e,b⟩:=a f c;clear a c;unfold ez g6 at e b;by_cases c1:1<=d.1/\d.1<=4000
 ·rw[qX c1];by_cases c2:1<=d.2.1/\d.2.1<=12
  ·rw[qX c2,qri _ _ Ta c2.1 c2.2,qB]
   repeat' split
   all_goals first|(rw[e Ta])|(rw[b Ta])
  ·rw[qW c2,b Ta]
 ·rw[qW c1,b Ta]
def qq(d:d9):Int:=cn d.1 d.2.1 d.2.2.1*86400+d.2.2.2.1*3600+(d.2.2.2.2.1-d.2.2.2.2.2.2)*60+d.2.2.2.2.2.1
def Kl{d:d9}(h:ez d) : -719162<=cn d.1 d.2.1 d.2.2.1/\cn d.1 d.2.1 d.2.2.1<=741807:=MC _ _ _ h.1
def qu6(a:Nat)(b:20<=a)(d:d9)(h:ez d):lN a d=some (jH (cn d.1 d.2.1 d.2.2.1),⟨0,0⟩):=by
 unfold lN;have g:=Kl h;have i:=dim_bd d.1 d.2.1;obtain⟨⟨c,j,e,f,k,l⟩,_⟩:=id h;rw[Kz,qX h,qB,zfailed_eq,qB,aq,nM a b _ _ _ c Ta e f,qB,bq,
  qbz _ _]
 rfl
def R4(a:Nat)(b:20<=a)(d:d9):fX a d=some (if ez d then(qq d,⟨0,0⟩) else(0,⟨3,-3⟩)):=by
 unfold fX;rw[Kz,qB,zfailed_eq,qB];by_cases h:ez d
 ·have m:=Kl h;have n:=dim_bd d.1 d.2.1;obtain⟨⟨c,o,k,l,p,q⟩,r,s,t,e,f,g,i,j⟩:=id h;rw[qX h,qX h,aq,nM a b _ _ _ c Ta k l,qB,none_eq,qB]
  simp (discharger:=omega) only [bq ?_ ?_];rfl
 ·rw[qW h,qW h];rfl
def mg(u:zm):Prop:=Dz u.1 u.2.1 u.2.2.1 u.2.2.2
instance(u:zm):Decidable (mg u):=by unfold mg;infer_instance
def pD(u:zm)(y a:Int):Int:=qcp y u.1 u.2.1 u.2.2.1 u.2.2.2 a
def Eh{y m d:Int}(h:g6 y m d):ez ⟨y,m,d,0,0,0,0⟩:=by refine⟨h,?_,?_,?_,?_,?_,?_,?_,?_⟩<;>simp
def qlm{y m d:Int}:ez ⟨y,m,d,0,0,0,0⟩↔g6 y m d:=⟨fun h=>h.1,Eh⟩
def qm9(y m d:Int):qq ⟨y,m,d,0,0,0,0⟩=cn y m d*86400:=by simp[qq]
def KP(c:Nat)(e:20<=c){y m d:Int}(h:g6 y m d)(b a:Int)(f : -10000<=b)(g:b<=10000)(i : -10000<=a)(j:a<=10000) :
  ((fX c ⟨y,m,d,0,0,0,0⟩).bind fun x=>some (ae (x.1+(ae (60*(ae (b-a)))))))=some (cn y m d*86400+60*(b-a)):=by
 have k:=MC _ _ _ h;rw[R4 c e,qX (Eh h),qB,qm9];simp (discharger:=omega) only [bq ?_ ?_]
def qgk(f:Nat)(l:20<=f)(u:zm)(p:mg u)(y k:Int)(b:1<=y)(d:y<=4000)(m : -10000<=k:=by omega)(n:k<=10000:=by omega) :
  xX f u y k=some (pD u y k):=by
 obtain⟨i,j,r,s,A,B,C,E⟩:=p;have t:=dim_bd y u.1;have a:=qtw y u.1 u.2.1 u.2.2.1 r s;have z:=qcv y u.1 u.2.2.1;unfold xX;have o:g6 y u.1 1:=⟨b,d,i,j,Ta,Ta⟩
 rw[qu6 f l _ (Eh o),qB];have v:=qu5 (cn y u.1 1);have e:(ae ((ae (1+(Int.tmod (ae ((ae (u.2.2.1-jH (cn y u.1 1)))+7)) (7:Int))))+(ae (7*(ae (u.2.1-1))))))=1+ot y u.1 u.2.2.1+7*(u.2.1-1):=by
  unfold ot;generalize jH (cn y u.1 1)=w at *;rw[bq (x:=u.2.2.1-w) Ta Ta,bq (x:=u.2.2.1-w+7) Ta Ta,qcq]
  simp (discharger:=omega) only [bq ?_ ?_]
 simp only[e];unfold Dp;unfold pD qcp;by_cases c:u.2.1=5
 ·rw[ax (by simp[c]),Kz,qB,zfailed_eq,qB]
  by_cases c2:dim y u.1<29+ot y u.1 u.2.2.1
  ·have g:yf y u.1 u.2.1 u.2.2.1=22+ot y u.1 u.2.2.1:=by unfold yf;rw[qX ⟨c,c2⟩]
   rw[qW (by rw[qlm];intro q;have:=q.2.2.2.2.2;omega),ax]
   unfold Dq;rw[bq (x:=1+ot y u.1 u.2.2.1+7*(u.2.1-1)-7) Ta Ta,
    show 1+ot y u.1 u.2.2.1+7*(u.2.1-1)-7=22+ot y u.1 u.2.2.1 by omega,← g]
   exact KP f l ⟨b,d,i,j,a.1,a.2⟩ _ _ Ta Ta m n
  ·have g:yf y u.1 u.2.1 u.2.2.1=1+ot y u.1 u.2.2.1+7*(u.2.1-1):=by unfold yf;rw[qW (fun h=>c2 h.2)]
   rw[← g];rw[qX (Eh ⟨b,d,i,j,a.1,a.2⟩),aq]
   exact KP f l ⟨b,d,i,j,a.1,a.2⟩ _ _ Ta Ta m n
 ·have g:yf y u.1 u.2.1 u.2.2.1=1+ot y u.1 u.2.2.1+7*(u.2.1-1):=by unfold yf;rw[qW (fun h=>c h.1)]
  rw[aq (by simp[c]),← g]
  exact KP f l ⟨b,d,i,j,a.1,a.2⟩ _ _ Ta Ta m n
def pb(z:dv):Prop:=z.2.2.2.1.1=0/\z.2.2.2.1.2.1=0/\z.2.2.2.1.2.2.1=0/\z.2.2.2.1.2.2.2=0
instance(z:dv):Decidable (pb z):=by unfold pb;infer_instance
@[simp] def fixed_eq(z:dv):mI z=some (decide (pb z)):=by
 unfold mI;congr 1;rw[Bool.eq_iff_iff,decide_eq_true_iff];simp[pb]
structure ZT(z:dv):Prop where
 s1 : -900<=z.2.1
 s2:z.2.1<=900
 m1 : -900<=z.2.2.1
 m2:z.2.2.1<=900
 d1:z.2.1+1<=z.2.2.1
 d2:z.2.2.1<=z.2.1+180
 b:mg z.2.2.2.1
 e:mg z.2.2.2.2
 ne:z.2.2.2.1.1≠z.2.2.2.2.1
def Bz(z:dv)(y:Int):Int:=pD z.2.2.2.1 y z.2.1
def Ez(z:dv)(y:Int):Int:=pD z.2.2.2.2 y z.2.2.1
def sel(z:dv)(o:Bool):Int:=bif o then z.2.2.1 else z.2.1
def LD(r0:Int->Int->Int->Int->Bool->Int->dv->Option Int)(v:Nat)(C:20<=v)(z:dv)(h:ZT z)(t Y a k:Int)(o d:Bool)(S w:Int->Prop)
  (s:1<=k) (u:k<=4000) (M:k<=Y+1) (N:Y<=4000) (K:Zn.Inv (Bz z) (Ez z) t S a o d) (L:∀y,w y↔S y\/y=k) :
  ∃b i e,Zn.Inv (Bz z) (Ez z) t w b i e/\xY v r0 t Y a (sel z o) d k z=r0 t Y b (sel z i) e (k+1) z:=by
 have R:=h.s1;have T:=h.s2;have P:=h.m1;have Q:=h.m2;unfold xY;rw[bq (x:=Y+1) Ta Ta,ax (by simp;exact M)]
 rw[qgk v C _ h.b k _ s u,qB]
 unfold xZ Dr;rw[qgk v C _ h.e k _ s u]
 simp only[qB];rw[bq (x:=k+1) Ta Ta]
 have A:=fun g G j f O J=>Zn.Inv.next (best1:=g) (best2:=G) (out1:=j) (has1:=f) (out2:=O) (has2:=J) K L
 have H:pD z.2.2.2.1 k z.2.1=Bz z k:=rfl;have I:pD z.2.2.2.2 k z.2.2.1=Ez z k:=rfl;rw[H,I];generalize Bz z k=B at *;generalize Ez z k=E at *;have V:z.2.2.1=sel z true:=rfl;have U:z.2.1=sel z false:=rfl;have l:∀g j f,((B<=t/\(d=false\/a<B)/\g=B/\j=true/\f=true)\/(¬(B<=t/\(d=false\/a<B))/\g=a/\j=o/\f=d)) ->
   ∃b i e,Zn.Inv (Bz z) (Ez z) t w b i e /\
    (bif decide (E<=t) then bif !f then r0 t Y E z.2.1 true (k+1) z else bif decide (g<=E) then r0 t Y E z.2.1 true (k+1) z else r0 t Y g (sel z j) f (k+1) z else r0 t Y g (sel z j) f (k+1) z)=r0 t Y b (sel z i) e (k+1) z:=by
  intro g j f F;by_cases c:E<=t/\(f=false\/g<=E)
  ·refine⟨E,false,true,A g E j f false true F (.inl ⟨c.1,c.2,rfl,rfl,rfl⟩),?_⟩;rw[ax (by simp;exact c.1)]
   cases f with|false=>rw[ax];rfl|true=>rw[aq,ax (by simp;exact c.2.resolve_left Td)];rfl
  ·refine⟨g,j,f,A g g j f j f F (.inr ⟨c,rfl,rfl,rfl⟩),?_⟩;by_cases c1:E<=t
   ·rw[ax (by simp;exact c1)]
    cases f with|false=>exact absurd ⟨c1,.inl rfl⟩ c|true=>rw[aq,aq (by simp;have:¬g<=E:=fun q=>c ⟨c1,.inr q⟩;omega)]
   ·rw[aq Te]
 clear A;by_cases c1:B<=t
 ·by_cases c2:d=false\/a<B
  ·obtain⟨m,i,n,r,p⟩:=l B true true (.inl ⟨c1,c2,rfl,rfl,rfl⟩);refine⟨m,i,n,r,?_⟩;rw[← p,ax (by simp;exact c1)]
   cases d with
   |false=>rfl|true=>
    simp at c2;rw[aq,ax (by simp;exact c2)];rfl
  ·obtain⟨m,i,n,r,p⟩:=l a o d (.inr ⟨fun q=>c2 q.2,rfl,rfl,rfl⟩)
   refine⟨m,i,n,r,?_⟩;rw[← p,ax (by simp;exact c1)]
   cases d with
   |false=>simp at c2|true=>
    simp at c2;rw[aq,aq (by simp;exact c2)]
 ·obtain⟨m,i,n,r,p⟩:=l a o d (.inr ⟨fun q=>c1 q.1,rfl,rfl,rfl⟩)
  refine⟨m,i,n,r,?_⟩;rw[← p,aq Te];rfl
open Classical in
noncomputable def A9(z:dv)(lo a t:Int):Int:=if OV (Bz z) (Ez z) lo a t then z.2.2.1 else z.2.1
def qsp{z:dv}{lo c t a:Int}{o b:Bool}(h:Zn.Inv (Bz z) (Ez z) t (fun y=>lo<=y/\y<=c) a o b):sel z o=A9 z lo c t:=by
 have:=h.fin;unfold sel A9
 cases o with|true=>rw[qX (this.1 rfl)];rfl|false=>rw[qW (fun q=>by have:=this.2 q;cases this)];rfl
def q7p(a:Nat)(b:20<=a)(z:dv)(h:ZT z)(t Y:Int)(w:2<=Y)(A:Y<=3999):mJ a z t Y=some (A9 z (Y-1) (Y+1) t):=by
 unfold mJ;have d:¬pb z:=fun q=>by have:=h.b.1;have:=q.1;omega
 rw[fixed_eq,qB,aq (by simp[d]),bq]
 obtain⟨n,rfl⟩:∃n,a=n+1+1+1+1:=⟨a-4,Ta⟩
 generalize c:n+1+1+1+1=a at b;have q:ud a (n+1+1+1+1) t Y 0 z.2.1 false (Y-1) z=some (A9 z (Y-1) (Y+1) t):=by
  obtain⟨g,r,e,m,j⟩:=LD (ud a (n+1+1+1)) a b z h t Y 0 (Y-1) false false _ (fun y=>y=Y-1) Ta Ta Ta Ta (Zn.Inv.start t 0) (fun y=>Td)
  rw[ud];refine Eq.trans j ?_;obtain⟨i,s,f,o,k⟩:=LD (ud a (n+1+1)) a b z h t Y g (Y-1+1) r e _ (fun y=>Y-1<=y/\y<=Y) Ta Ta Ta Ta m (fun y=>Ta)
  rw[ud];refine Eq.trans k ?_;obtain⟨v,B,u,p,l⟩:=LD (ud a (n+1)) a b z h t Y i (Y-1+1+1) s f _ (fun y=>Y-1<=y/\y<=Y+1) Ta Ta Ta Ta o (fun y=>Ta)
  rw[ud];refine Eq.trans l ?_;rw[ud,xY,bq (x:=Y+1) Ta Ta,aq Te,qsp p]
 rw[c]at q;exact q
def z8(c:UInt8):Bool:=(decide (97<=c.toNat)&&decide (c.toNat<=122))||(decide (65<=c.toNat)&&decide (c.toNat<=90))||(decide (48<=c.toNat)&&decide (c.toNat<=57))||c.toNat==45||c.toNat==95||c.toNat==46
def qc2{p:UInt8->Prop}(h:∀n:_root_.Fin 256,p (UInt8.ofFin n))(c:UInt8):p c:=by
 have:=h c.toFin
 rwa [UInt8.ofFin_toFin]at this
def q7n(c:UInt8):H7 c=some (z8 c):=by
 revert c;exact qc2 (by decide +kernel)
def mu(s:List UInt8):Bool:=decide (1<=s.length)&&decide (s.length<=60)&&s.all z8
def qif(a:Nat)(s:List UInt8)(g:(s.length:Int)<9223372036854775808):∀(n:Nat)(k:Nat),k<=s.length->s.length-k<n ->
  uU a n s s.length k=some ((s.drop k).all z8):=by
 intro n
 induction n with
 |zero=>intro k b d;omega|succ n ih=>
  intro k b d;rw[uU,H3];by_cases c:k<s.length
  ·have e:aj s (k:Int)=some s[k]:=by unfold aj;rw[qX];simp[c]
   rw[ax (by simp;exact c),e,qB,q7n,qB,List.drop_eq_getElem_cons c,List.all_cons]
   cases f:z8 s[k]
   ·rfl
   ·rw[aq,bq]
    have:=ih (k+1) Ta Ta
    rw[Int.natCast_add]at this;exact this
  ·rw[aq Te,List.drop_eq_nil_of_le Ta];rfl
def qoz(b:Nat)(s:List UInt8)(e:(s.length:Int)<9223372036854775808)(f:s.length<b):Cr b s=some (mu s):=by
 unfold Cr mu
 cases s with
 |nil=>rfl|cons a l=>
  rw[ax]
  by_cases c:((a::l).length:Int)<=60
  ·rw[ax (by simp only[decide_eq_true_iff];exact c)]
   unfold H2;have:=qif b (a::l) e b 0 Ta Ta
   rw[show((0:Nat):Int)=0 from rfl]at this
   rw[this,qB];have d:(a::l).length<=60:=Ta
   simp only[List.drop_zero];rw[show decide (1<=(a::l).length)=true by simp,decide_eq_true d];rfl
  ·rw[aq (by simp only[decide_eq_false_iff_not];exact c)]
   have d:¬(a::l).length<=60:=Ta
   rw[decide_eq_false d];simp
def qro(b:Nat)(s:List UInt8)(g:(s.length:Int)<9223372036854775808):∀(n:Nat)(k:Nat),k<=s.length->s.length-k<n ->
  tS b n s k=some ((s.drop k).all z8&&(decide (1<=s.length)&&decide (s.length<=60))):=by
 intro n
 induction n with
 |zero=>intro k d e;omega|succ n ih=>
  intro k d e;rw[tS,Hg];by_cases c:k<s.length
  ·have f:aj s (k:Int)=some s[k]:=by unfold aj;rw[qX];simp[c]
   have:=ih (k+1) Ta Ta
   rw[Int.natCast_add]at this;rw[ax (by simp;exact c),f]
   simp only[qB,zr1_in_eq];rw[bq,List.drop_eq_getElem_cons c,List.all_cons]
   have a:(1:Nat)=(1:Int):=rfl;rw[a]at this;rw[this];generalize ((List.drop (k+1) s).all z8)=R;generalize (decide (1<=s.length)&&decide (s.length<=60))=Q;generalize s[k]=x;have:∀(x:UInt8),(bif !decide ((97:Int)<=x.toNat/\(x.toNat:Int)<=122) then bif !decide ((65:Int)<=x.toNat/\(x.toNat:Int)<=90) then bif !decide ((48:Int)<=x.toNat/\(x.toNat:Int)<=57) then
     bif x != 45 then bif x != 95 then bif x != 46 then false else true else true else true else true else true else true)=z8 x:=qc2 (by decide +kernel)
   rw[← this x];cases decide ((97:Int)<=x.toNat/\(x.toNat:Int)<=122)<;>cases decide ((65:Int)<=x.toNat/\(x.toNat:Int)<=90)<;>cases decide ((48:Int)<=x.toNat/\(x.toNat:Int)<=57)<;>cases (x != 45)<;>cases (x != 95)<;>cases (x != 46)<;>simp
  ·rw[aq Te,List.drop_eq_nil_of_le Ta,zr1_in_eq,qB]
   congr 1;rw[Bool.eq_iff_iff];simp;omega
def qrn(a:Nat)(s:List UInt8)(b:(s.length:Int)<9223372036854775808)(c:s.length<a):tR a s=some (mu s):=by
 unfold tR mu;have:=qro a s b a 0 Ta Ta
 rw[show((0:Nat):Int)=0 from rfl]at this
 rw[this,List.drop_zero,Bool.and_comm]
@[simp] def turn_eq(u:zm):gI u=some (decide (mg u)):=by
 unfold gI;simp only[zones_within_eq,qB,ln];have a:∀b:Bool,decide (mg u)=b->(mg u->b=true)/\(¬mg u->b=false):=fun b h=>⟨fun k=>by rw[← h,decide_eq_true k],fun k=>by rw[← h,decide_eq_false k]⟩
 generalize e:decide (mg u)=b;obtain⟨f,d⟩:=a b e;clear a e;unfold mg Dz at f d
 repeat' split
 all_goals first|(rw[d Ta])|skip
 congr 1;rw[Bool.eq_iff_iff,decide_eq_true_iff];constructor
 ·intro q;exact f Ta
 ·intro q;by_cases c:0<=u.2.2.2/\u.2.2.2<=1439
  ·exact c
  ·have:=d Ta;rw[this]at q;cases q
@[simp] def rturn_eq(u:zm):Hl u=some (decide (mg u)):=by
 have e:Hl u=gI u:=by unfold Hl gI;simp only[zr1_in_eq,zones_within_eq]
 rw[e,turn_eq]
def nU(z:dv):Prop:=z.2.2.2.2.1=0/\z.2.2.2.2.2.1=0/\z.2.2.2.2.2.2.1=0/\z.2.2.2.2.2.2.2=0
instance(z:dv):Decidable (nU z):=by unfold nU;infer_instance
def q7h(u:zm):((u.1==(0:Int))&&((u.2.1==(0:Int))&&((u.2.2.1==(0:Int))&&((u.2.2.2==(0:Int))&&true))))=decide (u.1=0/\u.2.1=0/\u.2.2.1=0/\u.2.2.2=0):=by
 rw[Bool.eq_iff_iff,decide_eq_true_iff];simp
def oq(z:dv):fq:=
 if mu z.1=false then⟨10,-3⟩ else if ¬(-900<=z.2.1/\z.2.1<=900) then⟨3,-4⟩ else
 if pb z then(if z.2.2.1≠0 then⟨5,-5⟩ else if ¬nU z then⟨5,-5⟩ else⟨0,0⟩) else
 if ¬(-900<=z.2.2.1/\z.2.2.1<=900) then⟨3,-5⟩ else if ¬(z.2.1+1<=z.2.2.1/\z.2.2.1<=z.2.1+180) then⟨3,-5⟩ else
 if ¬mg z.2.2.2.1 then⟨3,-6⟩ else if ¬mg z.2.2.2.2 then⟨3,-7⟩ else if z.2.2.2.1.1=z.2.2.2.2.1 then⟨5,-7⟩ else⟨0,0⟩
def Oj(b:Nat)(z:dv)(d:(z.1.length:Int)<9223372036854775808)(c:z.1.length<b):gH b z=some (oq z):=by
 unfold gH oq;rw[qoz b _ d c];by_cases a:mu z.1=false
 ·rw[qX a,qB,ax (by rw[a];rfl)];rfl
 ·rw[qW a,qB,aq (by simp at a;rw[a];rfl),zones_within_eq,qB]
  by_cases c1 : -900<=z.2.1/\z.2.1<=900
  ·rw[aq Tz,qW Tz]
   rw[bq (x:=z.2.1+1) Ta Ta,bq (x:=z.2.1+180) Ta Ta,q7h]
   rw[show decide (z.2.2.2.2.1=0/\z.2.2.2.2.2.1=0/\z.2.2.2.2.2.2.1=0/\z.2.2.2.2.2.2.2=0)=decide (nU z) from rfl]
   simp only[Dn,Do,IU,qT,fixed_eq,qB,fault_eq,none_eq,zones_within_eq,turn_eq,o7,ln,fh,gU]
   repeat' split
   all_goals first|rfl|contradiction|simp_all
  ·rw[ax Te,qX c1];rfl
def zok(z:dv)(h:(oq z).1=0):oq z=⟨0,0⟩ /\ -900<=z.2.1/\z.2.1<=900/\(pb z\/ZT z):=by
 unfold oq at h ⊢;by_cases f:mu z.1=false
 ·rw[qX f]at h;simp at h
 rw[qW f]at h ⊢;by_cases c1:¬(-900<=z.2.1/\z.2.1<=900)
 ·rw[qX c1]at h;simp at h
 rw[qW c1]at h ⊢;have a : -900<=z.2.1/\z.2.1<=900:=Ta
 by_cases c2:pb z
 ·rw[qX c2]at h ⊢;by_cases c3:z.2.2.1≠0
  ·rw[qX c3]at h;simp at h
  rw[qW c3]at h ⊢;by_cases b:¬nU z
  ·rw[qX b]at h;simp at h
  rw[qW b];exact⟨rfl,a.1,a.2,.inl c2⟩
 rw[qW c2]at h ⊢;by_cases c3:¬(-900<=z.2.2.1/\z.2.2.1<=900)
 ·rw[qX c3]at h;simp at h
 rw[qW c3]at h ⊢;by_cases b:¬(z.2.1+1<=z.2.2.1/\z.2.2.1<=z.2.1+180)
 ·rw[qX b]at h;simp at h
 rw[qW b]at h ⊢;by_cases c:¬mg z.2.2.2.1
 ·rw[qX c]at h;simp at h
 rw[qW c]at h ⊢;by_cases d:¬mg z.2.2.2.2
 ·rw[qX d]at h;simp at h
 rw[qW d]at h ⊢;by_cases e:z.2.2.2.1.1=z.2.2.2.2.1
 ·rw[qX e]at h;simp at h
 rw[qW e];exact⟨rfl,a.1,a.2,.inr ⟨a.1,a.2,Ta,Ta,Ta,Ta,Classical.not_not.1 c,Classical.not_not.1 d,e⟩⟩
noncomputable def LA(z:dv)(Y t:Int):Int:=if pb z then z.2.1 else A9 z (Y-1) (Y+1) t
noncomputable def nJ(z:dv)(t:Int):Int:=(qm ((t+60*z.2.1)/86400)).1
def oG(z:dv)(t:Int):Prop := -719162<=(t+60*z.2.1)/86400/\(t+60*z.2.1)/86400<=741807
instance(z:dv)(t:Int):Decidable (oG z t):=by unfold oG;infer_instance
noncomputable def OJ(z:dv)(t:Int):Int×fq:=
 if ¬(-68719476736<=t/\t<=68719476736) then(0,⟨3,-2⟩) else
 if ¬oG z t then(0,⟨3,-8⟩) else if ¬(2<=nJ z t/\nJ z t<=3999) then(0,⟨3,-8⟩) else(LA z (nJ z t) t,⟨0,0⟩)
noncomputable def mN(z:dv)(t:Int):Int×fq:=if(oq z).1≠0 then(0,oq z) else OJ z t
def q7o(a:Nat)(e:20<=a)(z:dv)(h:pb z\/ZT z)(t Y:Int)(b:2<=Y)(d:Y<=3999):mJ a z t Y=some (LA z Y t):=by
 unfold LA;by_cases c:pb z
 ·rw[qX c];unfold mJ;rw[fixed_eq,qB,ax (by simp[c])]
 ·rw[qW c];exact q7p a e z (h.resolve_left c) t Y b d
def q7g(a:Nat)(d:20<=a)(z:dv)(g:(z.1.length:Int)<9223372036854775808)(b:z.1.length<a)(t:Int):Dm a z t=some (mN z t):=by
 unfold Dm mN;rw[Oj a z g b,qB,zfailed_eq,qB,fh];by_cases c:(oq z).1≠0
 ·rw[qX c,qX c]
 ·rw[qW c,qW c];obtain⟨e,i,j,h⟩:=zok z (Classical.not_not.1 c);unfold OJ;rw[time_eq,qB];by_cases c1 : -68719476736<=t/\t<=68719476736
  ·rw[aq Tz,qW (fun q=>q c1),qkc a d,qB]
   unfold Ge;rw[qW (fun q=>q c1),qW (fun q=>q ⟨i,j⟩)]
   by_cases c2:oG z t
   ·rw[qW (by unfold oG at c2;omega),qW (fun q=>q c2),zfailed_eq,qB,aq,zones_within_eq,qB]
    have f:(JZ ((t+60*z.2.1)/86400) ((t+60*z.2.1)%86400) z.2.1).1=nJ z t:=rfl;simp only[f];by_cases c3:2<=nJ z t/\nJ z t<=3999
    ·rw[aq (by simp[c3]),qW (fun q=>q c3),q7o a d z h _ _ c3.1 c3.2];rfl
    ·rw[ax Te,qX c3];rfl
   ·rw[qX (by unfold oG at c2;omega),qX c2];rfl
  ·rw[ax Te,qX c1];rfl
open Classical in
noncomputable def pick(z:dv)(L o:Int):List Int:=if(mN z (L-60*o)).2.1=0/\(mN z (L-60*o)).1=o then[L-60*o] else[]
def SS(z:dv)(L o:Int):(pick z L o).length<=1:=by unfold pick;split<;>simp
def KO(g:Int->Int->Int->dv->fq->List Int->List Int->Option (fq×List Int))(d:Nat)(k:20<=d)(z:dv)(s:(z.1.length:Int)<9223372036854775808)(e:z.1.length<d)
  (L c i o:Int) (f:fq) (b a:List Int) (l:i<c) (t:aj a i=some o) (m : -10<=i) (n:i<=10) (h : -1000000000000<=L) (j:L<=1000000000000) (p : -10000<=o) (r:o<=10000) (u:b.length<=10) :
  mH d g L c i z f a b=g L c (i+1) z f a (b++pick z L o):=by
 rw[mH,ax (by simp;exact l),qa6,t,qB,bq (x:=60*o) Ta Ta,bq (x:=L-60*o) Ta Ta,bq (x:=i+1) Ta Ta,q7g d k z s e,qB,zfailed_eq,qB]
 unfold pick;by_cases c1:(mN z (L-60*o)).2.1=0
 ·rw[ax Tz]
  by_cases c2:(mN z (L-60*o)).1=o
  ·rw[ax TG,ax Tn,qX ⟨c1,c2⟩]
  ·rw[aq TG,qW (fun q=>c2 q.2),List.append_nil]
 ·rw[aq Tz,qW (fun q=>c1 q.1),List.append_nil]
noncomputable def AC(z:dv)(L:Int):List Int:=pick z L z.2.1++(if pb z then[] else pick z L z.2.2.1)
noncomputable def mK(z:dv)(d:d9):fq×List Int:=
 if(oq z).1≠0 then(oq z,[]) else if ¬ez d then((3,-3),[]) else if d.2.2.2.2.2.2≠0 then((5,-9),[]) else if ¬(3<=d.1/\d.1<=3998) then((3,-9),[]) else((0,0),ld (AC z (qq d)))
def qm8{d:d9}(h:ez d) : -100000000000<=qq d/\qq d<=100000000000:=by
 have:=Kl h;obtain⟨_,_,_,_,_,_,_,_,_⟩:=h;unfold qq;omega
def q7f(a:Nat)(i:20<=a)(z:dv)(j:(z.1.length:Int)<9223372036854775808)(f:z.1.length<a)(d:d9):mG a z d=some (mK z d):=by
 unfold mG mK;rw[Oj a z j f,qB,zfailed_eq,qB,fh];by_cases c:(oq z).1≠0
 ·rw[qX c,qX c]
 rw[qW c,qW c,R4 a i,qB];obtain⟨e,v,w,m⟩:=zok z (Classical.not_not.1 c);by_cases c1:¬ez d
 ·rw[qW c1,qX c1,zfailed_eq,qB,ax]
 replace c1:=Classical.not_not.1 c1;rw[qX c1,qW (c:=¬ez d) (fun q=>q c1),zfailed_eq,qB,aq,fh]
 have o:=qm8 c1;by_cases c2:d.2.2.2.2.2.2≠0
 ·rw[qX c2,qX c2];rfl
 rw[qW c2,qW c2,zones_within_eq,qB,o7];by_cases c3:¬(3<=d.1/\d.1<=3998)
 ·rw[qW c3,qX c3];rfl
 replace c3:=Classical.not_not.1 c3;rw[qX c3,qW (c:=¬(3<=d.1/\d.1<=3998)) (fun q=>q c3),fixed_eq,qB,o7]
 obtain⟨n,k⟩:∃n,a=n+1+1+1:=⟨a-3,Ta⟩
 have r:=SS z (qq d) z.2.1;have s:=SS z (qq d) z.2.2.1;have b:∀l:List Int,l.length<=10->zi l=some (ld l):=by
  intro l p;unfold zi;rw[ax (decide_eq_true (by unfold az;omega))]
 unfold Dl;by_cases g:pb z
 ·rw[qX g];have q:wy a (n+1+1+1) (qq d) (List.length ([z.2.1]:List Int):Int) 0 z (0,0) [z.2.1] []=some ((0,0),ld (AC z (qq d))):=by
   rw[wy,KO _ a i z j f _ _ _ z.2.1 _ _ _ Td rfl Ta Ta Ta Ta Ta Ta Td]
   rw[wy,mH,aq,b _ Te,none_eq]
   simp[AC,g]
  rw[← k]at q;exact q
 ·rw[qW g];have h:=m.resolve_left g;have t:=h.m1;have u:=h.m2;rw[ax TF]
  have q:wy a (n+1+1+1) (qq d) (List.length (([z.2.1]:List Int)++[z.2.2.1]):Int) 0 z (0,0) ([z.2.1]++[z.2.2.1]) []=some ((0,0),ld (AC z (qq d))):=by
   rw[wy,KO _ a i z j f _ _ _ z.2.1 _ _ _ Td rfl Ta Ta Ta Ta Ta Ta Td]
   rw[wy,KO _ a i z j f _ _ _ z.2.2.1 _ _ _ Td rfl Ta Ta Ta Ta Ta Ta Te]
   rw[wy,mH,aq,b _ Te,none_eq]
   simp[AC,g]
  rw[← k]at q;exact q
def RX(d:d9):yz d=some (if ¬ez d then⟨3,-3⟩ else if d.2.2.2.2.2.2≠0 then⟨5,-9⟩ else if ¬(3<=d.1/\d.1<=3998) then⟨3,-9⟩ else⟨0,0⟩):=by
 unfold yz;rw[qld,qB];by_cases h:ez d
 ·rw[qX h,aq,qW (fun q=>q h),fh,zr1_in_eq,qB,o7]
  simp only[zB,qB];by_cases c:d.2.2.2.2.2.2≠0
  ·rw[qX c,qX c]
  ·rw[qW c,qW c];by_cases c2:3<=d.1/\d.1<=3998
   ·rw[qX c2,qW (fun q=>q c2)]
   ·rw[qW c2,qX c2]
 ·rw[qW h,ax,qX h]

abbrev yJ(l:List Int):Prop:=l.Pairwise (·<·)

def mr(p:Option Int)(x:Int):Bool:=match p with|some y=>decide (x<=y)|none=>false
def f5(f:Int->Bool):Option Int->List Int->Int|_,[]=>0|p,x::l=>if f x=false then 3 else if mr p x=true then 19 else f5 f (some x) l
def Fs(f:Int->Bool):∀(l:List Int)(p:Option Int),f5 f p l=0->yJ l/\(∀x∈l,f x=true)/\(∀y,p=some y->∀x∈l,y<x)
 |[],_,_=>⟨List.Pairwise.nil,fun x h=>(by cases h),fun y _ x h=>(by cases h)⟩
 |x::l,p,h=>by
  unfold f5 at h;by_cases c:f x=false
  ·rw[qX c]at h;omega
  rw[qW c]at h;by_cases c2:mr p x=true
  ·rw[qX c2]at h;omega
  rw[qW c2]at h;obtain⟨g,i,j⟩:=Fs f l _ h;have a:=j x rfl;refine⟨List.pairwise_cons.2 ⟨a,g⟩,fun y b => ?_,fun y b t d => ?_⟩
  ·rcases List.mem_cons.1 b with q|q
   ·rw[q];simpa using c
   ·exact i y q
  ·subst b;have e:y<x:=by simp[mr]at c2;exact c2
   rcases List.mem_cons.1 d with q|q
   ·omega
   ·have:=a t q;omega
def ii(l:List Int)(k:Nat):Option Int:=if k=0 then none else l[k-1]?
def py(t:Int):Bool:=decide (-68719476736<=t/\t<=68719476736)
def ff(t:Int):Bool:=decide (0<=t/\t<=6)
def gq(c a:Int):fq:=if c=0 then(0,0) else(c,a)
def AG(l:List Int)(k:Nat)(h:k<l.length):ii l (k+1)=some l[k]:=by
 unfold ii;rw[qW Ta];simp[h]
def EV(l:List Int)(k:Nat)(h:k<l.length)(a:0<k)(b:(l.length:Int)<9223372036854775808):aj l (ae ((k:Int)-1))=some (l[k-1]' Ta)/\ii l k=some (l[k-1]' Ta):=by
 rw[bq,show(k:Int)-1=((k-1:Nat):Int) by omega]
 refine⟨fv l (k-1),?_⟩
 unfold ii;rw[qW Ta];simp[show k-1<l.length by omega]
def Ft(f:Int->Bool)(l:List Int)(k:Nat)(h:k<l.length):f5 f (ii l k) (l.drop k) =
  if f l[k]=false then 3 else if mr (ii l k) l[k]=true then 19 else f5 f (ii l (k+1)) (l.drop (k+1)):=by
 rw[List.drop_eq_getElem_cons h,AG l k h];rfl
def qoc(f:Nat)(l:List Int)(a:Int)(m:fq)(j:(l.length:Int)<9223372036854775808):∀(n k:Nat),k<=l.length->l.length-k<n ->
  wX f n l a l l.length k m=some (gq (f5 py (ii l k) (l.drop k)) a):=by
 intro n
 induction n with
 |zero=>intro k h i;omega|succ n ih=>
  intro k h i;rw[wX,It];by_cases c:k<l.length
  ·have b:=ih (k+1) Ta Ta
   rw[Int.natCast_add]at b;rw[ax (by simp;exact c),fv l k c,qB,time_eq,qB,Ft py l k c,bq (x:=(k:Int)+1) Ta Ta]
   have e:decide (-68719476736<=l[k]/\l[k]<=68719476736)=py l[k]:=rfl;rw[e]
   cases q:py l[k] with
   |false=>rfl|true=>
    rw[aq,qW Td]
    by_cases c0:0<k
    ·obtain⟨o,p⟩:=EV l k c c0 j;rw[ax Te,o,qB,p]
     by_cases g:l[k]<=l[k-1]' Ta
     ·rw[ax (by simp;exact g),qX (by simp[mr];exact g)];rfl
     ·rw[aq Te,qW TH];exact b
    ·rw[aq Te]
     have d:ii l k=none:=by unfold ii;rw[qX]
     rw[d];exact b
  ·rw[aq Te,List.drop_eq_nil_of_le Ta];rfl
def ja(l:List Int):Int:=if 300<l.length then 2 else f5 py none l
def qob(b:Nat)(d:400<=b)(l:List Int)(a:Int):wW b l a=some (gq (ja l) a):=by
 unfold wW ja;by_cases c:300<l.length
 ·rw[ax Te,qX c];rfl
 ·rw[aq Te,qW c]
  have:=qoc b l a (0,0) Ta b 0 Ta Ta
  exact this
def qki(e:Nat)(l:List Int)(i:(l.length:Int)<9223372036854775808):∀(n k:Nat),k<=l.length->l.length-k<n ->
  tU e n l k=some (f5 py (ii l k) (l.drop k)):=by
 intro n
 induction n with
 |zero=>intro k f h;omega|succ n ih=>
  intro k f h;rw[tU,Hj];by_cases c:k<l.length
  ·have a:=ih (k+1) Ta Ta
   rw[Int.natCast_add]at a;rw[ax (by simp;exact c),fv l k c,qB,zr1_in_eq,qB,Ft py l k c,bq (x:=(k:Int)+1) Ta Ta]
   have d:decide (-68719476736<=l[k]/\l[k]<=68719476736)=py l[k]:=rfl;rw[d]
   cases o:py l[k] with
   |false=>rfl|true=>
    rw[aq,qW Td]
    by_cases c0:0<k
    ·obtain⟨j,m⟩:=EV l k c c0 i;rw[ax Te,qB,j,qB,m]
     by_cases g:l[k]<=l[k-1]' Ta
     ·rw[ax (by simp;exact g),qX (by simp[mr];exact g)]
     ·rw[aq Te,qW TH];exact a
    ·rw[aq Te]
     have b:ii l k=none:=by unfold ii;rw[qX]
     rw[b];exact a
  ·rw[aq Te,List.drop_eq_nil_of_le Ta];rfl
def qkh(a:Nat)(b:400<=a)(l:List Int):fJ a l=some (ja l):=by
 unfold fJ ja;by_cases c:300<l.length
 ·rw[ax Te,qX c]
 ·rw[aq Te,qW c]
  have:=qki a l Ta a 0 Ta Ta
  exact this
abbrev g9:Type:=Int×Int×Int×Int×Bool×List Int×List Int×List Int
def qu4(h:Nat)(r:g9)(m:fq)(d:(r.2.2.2.2.2.1.length:Int)<9223372036854775808):∀(n k:Nat),k<=r.2.2.2.2.2.1.length->8<=n+k->(∀p,ii r.2.2.2.2.2.1 k=some p->(k:Int)-1<=p/\p<=6)->(k<=7) ->
  wY h n r.2.2.2.2.2.1 r.2.2.2.2.2.1.length k r m=some (gq (f5 ff (ii r.2.2.2.2.2.1 k) (r.2.2.2.2.2.1.drop k)) (-7)):=by
 generalize t:r.2.2.2.2.2.1=l at d ⊢;intro n
 induction n with
 |zero=>intro k o q;omega|succ n ih=>
  intro k o q s v;rw[wY,Iu];by_cases c:k<l.length
  ·rw[ax (by simp;exact c),fv l k c,qB,Ft ff l k c]
   unfold CU Iw;rw[t];by_cases i:l[k]<0
   ·rw[ax (by simp;exact i),ax rfl,qX (by unfold ff;simp;omega)];rfl
   rw[aq Te]
   by_cases j:6<l[k]
   ·rw[ax (by simp;exact j),qX (by unfold ff;simp;omega)];rfl
   rw[aq Te,qW (by unfold ff;simp;omega),bq (x:=(k:Int)+1) Ta Ta]
   by_cases c0:0<k
   ·obtain⟨u,e⟩:=EV l k c c0 d;rw[ax Te,u,qB,e]
    by_cases g:l[k]<=l[k-1]' Ta
    ·rw[ax (by simp;exact g),qX (by simp[mr];exact g)];rfl
    ·rw[aq Te,qW TH]
     have w:=s _ e;have b:=ih (k+1) Ta Ta (fun p a=>by rw[AG l k c]at a;cases a;omega) Ta
     rw[Int.natCast_add]at b;exact b
   ·rw[aq Te]
    have f:ii l k=none:=by unfold ii;rw[qX]
    rw[f];have b:=ih (k+1) Ta Ta (fun p a=>by rw[AG l k c]at a;cases a;omega) Ta
    rw[Int.natCast_add]at b;exact b
  ·rw[aq Te,List.drop_eq_nil_of_le Ta];rfl
def p8(r:g9):fq:=if 0<r.2.2.2.2.2.1.length/\r.1≠2 then(5,-7) else gq (f5 ff none r.2.2.2.2.2.1) (-7)
def kw(r:g9):fq:=
 if ¬(0<=r.1/\r.1<=4) then(4,-3) else if ¬(1<=r.2.1/\r.2.1<=100) then(3,-4) else if ¬(0<=r.2.2.1/\r.2.2.1<=1500) then(3,-5) else
 if r.2.2.2.2.1=true/\¬(-68719476736<=r.2.2.2.1/\r.2.2.2.1<=68719476736) then(3,-6) else if r.2.2.2.2.1=false/\r.2.2.2.1≠0 then(5,-6) else
 if(p8 r).1≠0 then p8 r else if ja r.2.2.2.2.2.2.1≠0 then(ja r.2.2.2.2.2.2.1,-8) else gq (ja r.2.2.2.2.2.2.2) (-9)
def zH(c a:Int):(gq c a).1=c:=by
 unfold gq;split
 ·rename_i h;exact h.symm
 ·rfl
def SW(l:List Int):ii l 0=none:=rfl
def qu7(a:Nat)(e:400<=a)(r:g9)(d:(r.2.2.2.2.2.1.length:Int)<9223372036854775808):CS a r=some (p8 r):=by
 unfold CS CT Iv p8;have lp:=qu4 a r (0,0) d a 0 Ta Ta (fun p b=>by cases b) Ta
 rw[show((0:Nat):Int)=0 from rfl,SW,List.drop_zero]at lp
 rw[lp];by_cases c:0<r.2.2.2.2.2.1.length
 ·rw[ag Ta,fh]
  by_cases c2:r.1≠2
  ·rw[qX (c:=¬_) c2,qX (c:=_/\_) ⟨c,c2⟩];rfl
  ·rw[qW (c:=¬_) c2,qW (c:=_/\_) (fun q=>c2 q.2)]
 ·rw[bf,qW (c:=_/\_) (fun q=>c q.1)];rfl
def qkg(c a:Int):(if c≠0 then some (c,a) else some (0,0))=some (gq c a):=by
 unfold gq;by_cases h:c=0<;>simp[h]
def quq(e:Nat)(h:400<=e)(r:g9)(i:(r.2.2.2.2.2.1.length:Int)<9223372036854775808:=by omega):wR e r=some (kw r):=by
 unfold wR CN CO CP CQ CR Io kw;simp only[fault_eq,qB,time_eq,qu7 e h r i,zfailed_eq,qob e h,fh,zH,qT,qF];by_cases c1:0<=r.1/\r.1<=4
 ·rw[aq Te,aq Te,qW (c:=¬_) (fun q=>q c1)]
  by_cases c2:1<=r.2.1/\r.2.1<=100
  ·rw[aq Te,aq Te,qW (c:=¬_) (fun q=>q c2)]
   by_cases c3:0<=r.2.2.1/\r.2.2.1<=1500
   ·rw[aq Te,aq Te,qW (c:=¬_) (fun q=>q c3)]
    have d:(if(p8 r).1≠0 then some (p8 r) else if ja r.2.2.2.2.2.2.1≠0 then some (gq (ja r.2.2.2.2.2.2.1) (-8)) else some (gq (ja r.2.2.2.2.2.2.2) (-9))) =
      some (if(p8 r).1≠0 then p8 r else if ja r.2.2.2.2.2.2.1≠0 then(ja r.2.2.2.2.2.2.1,-8) else gq (ja r.2.2.2.2.2.2.2) (-9)):=by
     by_cases f:(p8 r).1≠0
     ·rw[qX f,qX f]
     ·rw[qW f,qW f];by_cases b:ja r.2.2.2.2.2.2.1≠0
      ·rw[qX b,qX b];unfold gq;rw[qW b]
      ·rw[qW b,qW b]
    rw[d]
    cases j:r.2.2.2.2.1 with
    |true=>
     simp only[qT,qF,Bool.not_true,o7];by_cases a : -68719476736<=r.2.2.2.1/\r.2.2.2.1<=68719476736
     ·rw[qX (c:=_/\_) a,qW (c:=True/\¬_) (fun q=>q.2 a),qW (c:=true=false/\_) (fun q=>by cases q.1)]
     ·rw[qW (c:=_/\_) a,qX (c:=True/\¬_) ⟨trivial,a⟩]
    |false=>
     simp only[qT,qF,Bool.not_false];rw[qW (c:=false=true/\_) (fun q=>by cases q.1)]
     by_cases a:r.2.2.2.1≠0
     ·rw[qX (c:=¬_) a,qX (c:=True/\_) ⟨trivial,a⟩]
     ·rw[qW (c:=¬_) a,qW (c:=True/\_) (fun q=>a q.2)]
   ·rw[qX (c:=¬_) c3];by_cases g:r.2.2.1<0
    ·rw[ax (by simp;exact g)]
    ·rw[aq Te,ax Te]
  ·rw[qX (c:=¬_) c2];by_cases g:r.2.1<1
   ·rw[ax (by simp;exact g)]
   ·rw[aq Te,ax Te]
 ·rw[qX (c:=¬_) c1];by_cases g:r.1<0
  ·rw[ax (by simp;exact g)]
  ·rw[aq Te,ax Te]
def dW(r:g9):fq:=if ja r.2.2.2.2.2.2.1≠0 then(ja r.2.2.2.2.2.2.1,-8) else gq (ja r.2.2.2.2.2.2.2) (-9)
def qsi(e:Nat)(s:400<=e)(r:g9)(m:fq)(t:(r.2.2.2.2.2.1.length:Int)<9223372036854775808):∀(n k:Nat),k<=r.2.2.2.2.2.1.length->8<=n+k->(∀p,ii r.2.2.2.2.2.1 k=some p->(k:Int)-1<=p/\p<=6)->(k<=7) ->
  tQ e n k r m=some (if f5 ff (ii r.2.2.2.2.2.1 k) (r.2.2.2.2.2.1.drop k)≠0 then(f5 ff (ii r.2.2.2.2.2.1 k) (r.2.2.2.2.2.1.drop k),-7) else dW r):=by
 intro n
 induction n with
 |zero=>intro k l o;omega|succ n ih=>
  intro k l o q w;rw[tQ,Ha];by_cases c:k<r.2.2.2.2.2.1.length
  ·rw[ax (by simp;exact c),fv _ k c,qB,Ft ff _ k c,zr1_in_eq,qB]
   unfold BY He;have j:decide (0<=r.2.2.2.2.2.1[k]/\r.2.2.2.2.2.1[k]<=6)=ff r.2.2.2.2.2.1[k]:=rfl;rw[j]
   cases f:ff r.2.2.2.2.2.1[k] with
   |false=>rfl|true=>
    have u:0<=r.2.2.2.2.2.1[k]/\r.2.2.2.2.2.1[k]<=6:=by unfold ff at f;simpa using f
    rw[aq,qW (c:=true=false) Td,bq (x:=(k:Int)+1) Ta Ta]
    by_cases c0:0<k
    ·obtain⟨v,h⟩:=EV _ k c c0 t;rw[ax Te,qB,v,qB,h]
     by_cases g:r.2.2.2.2.2.1[k]<=r.2.2.2.2.2.1[k-1]' Ta
     ·rw[ax (by simp;exact g),qX (c:=mr _ _=true) (by simp[mr];exact g)];rfl
     ·rw[aq Te,qW (c:=mr _ _=true) TH]
      have y:=q _ h;have b:=ih (k+1) Ta Ta (fun p a=>by rw[AG _ k c]at a;cases a;omega) Ta
      rw[Int.natCast_add]at b;exact b
    ·rw[aq Te]
     have i:ii r.2.2.2.2.2.1 k=none:=by unfold ii;rw[qX]
     rw[i,qW (c:=mr _ _=true) (by simp[mr])]
     have b:=ih (k+1) Ta Ta (fun p a=>by rw[AG _ k c]at a;cases a;omega) Ta
     rw[Int.natCast_add]at b;exact b
  ·rw[aq Te,List.drop_eq_nil_of_le Ta,qW (by simp[f5])]
   simp only[qkh e s,qB,zB,fh];unfold dW;by_cases d:ja r.2.2.2.2.2.2.1≠0
   ·rw[qX d,qX d]
   ·rw[qW d,qW d];exact qkg _ _
def qry(d:Nat)(g:400<=d)(r:g9)(i:(r.2.2.2.2.2.1.length:Int)<9223372036854775808:=by omega):fI d r=some (kw r):=by
 unfold fI BV Hb BW Hc BX Hd kw p8;have lp:=qsi d g r (0,0) i d 0 Ta Ta (fun p h=>by cases h) Ta
 rw[show((0:Nat):Int)=0 from rfl,SW,List.drop_zero]at lp
 simp only[lp,zB,zr1_in_eq,qB,o7,fh,qF];by_cases c1:0<=r.1/\r.1<=4
 ·rw[qX c1,qW (c:=¬_) (fun q=>q c1)]
  by_cases c2:1<=r.2.1/\r.2.1<=100
  ·rw[qX c2,qW (c:=¬_) (fun q=>q c2)]
   by_cases c3:0<=r.2.2.1/\r.2.2.1<=1500
   ·rw[qX c3,qW (c:=¬_) (fun q=>q c3)]
    have b:(bif decide (0<(r.2.2.2.2.2.1.length:Int)) then if r.1≠2 then some (5,-7) else some (if f5 ff none r.2.2.2.2.2.1≠0 then(f5 ff none r.2.2.2.2.2.1,-7) else dW r) else some (if f5 ff none r.2.2.2.2.2.1≠0 then(f5 ff none r.2.2.2.2.2.1,-7) else dW r)) =
      some (if(if 0<r.2.2.2.2.2.1.length/\r.1≠2 then((5,-7):fq) else gq (f5 ff none r.2.2.2.2.2.1) (-7)).1≠0 then(if 0<r.2.2.2.2.2.1.length/\r.1≠2 then((5,-7):fq) else gq (f5 ff none r.2.2.2.2.2.1) (-7)) else dW r):=by
     have f:(if f5 ff none r.2.2.2.2.2.1≠0 then(f5 ff none r.2.2.2.2.2.1,-7) else dW r)=(if(gq (f5 ff none r.2.2.2.2.2.1) (-7)).1≠0 then gq (f5 ff none r.2.2.2.2.2.1) (-7) else dW r):=by
      rw[zH];by_cases k:f5 ff none r.2.2.2.2.2.1≠0
      ·rw[qX k,qX k];unfold gq;rw[qW k]
      ·rw[qW k,qW k]
     by_cases c:0<r.2.2.2.2.2.1.length
     ·rw[ag Ta]
      by_cases k:r.1≠2
      ·have e:(if 0<r.2.2.2.2.2.1.length/\r.1≠2 then((5,-7):fq) else gq (f5 ff none r.2.2.2.2.2.1) (-7))=(5,-7):=qX ⟨c,k⟩
       rw[e,qX k];rfl
      ·have e:(if 0<r.2.2.2.2.2.1.length/\r.1≠2 then((5,-7):fq) else gq (f5 ff none r.2.2.2.2.2.1) (-7))=gq (f5 ff none r.2.2.2.2.2.1) (-7):=qW (fun q=>k q.2)
       rw[e,qW k,f]
     ·have e:(if 0<r.2.2.2.2.2.1.length/\r.1≠2 then((5,-7):fq) else gq (f5 ff none r.2.2.2.2.2.1) (-7))=gq (f5 ff none r.2.2.2.2.2.1) (-7):=qW (fun q=>c q.1)
      rw[bf,e,f]
    rw[b];unfold dW
    cases j:r.2.2.2.2.1 with
    |true=>
     simp only[qT,qF,Bool.not_true];by_cases a : -68719476736<=r.2.2.2.1/\r.2.2.2.1<=68719476736
     ·rw[qX a,qW (c:=True/\¬_) (fun q=>q.2 a),qW (c:=true=false/\_) (fun q=>by cases q.1)]
     ·rw[qW a,qX (c:=True/\¬_) ⟨trivial,a⟩]
    |false=>
     simp only[qT,qF,Bool.not_false];rw[qW (c:=false=true/\_) (fun q=>by cases q.1)]
     by_cases a:r.2.2.2.1≠0
     ·rw[qX a,qX (c:=True/\_) ⟨trivial,a⟩]
     ·rw[qW a,qW (c:=True/\_) (fun q=>a q.2)]
   ·rw[qW c3,qX (c:=¬_) c3]
  ·rw[qW c2,qX (c:=¬_) c2]
 ·rw[qW c1,qX (c:=¬_) c1]
structure OU(d:d9):Prop where
 ok:ez d
 zn:d.2.2.2.2.2.2=0
 y1:3<=d.1
 y2:d.1<=3980
def DY(d:d9):Int:=cn d.1 d.2.1 d.2.2.1
def qso(d:d9):Int:=d.2.2.2.1*3600+d.2.2.2.2.1*60+d.2.2.2.2.2.1
def qi7:d7 3=730/\d7 3981=1453665/\d7 3999=1460239:=Tf
def OU.day_bd{d:d9}(h:OU d) : -718432<=DY d/\DY d<734503:=by
 have a:=zL _ _ _ h.ok.1;have b:=cL 3 d.1 h.y1;have c:=cL (d.1+1) 3981 (by have:=h.y2;omega)
 obtain⟨e,f,_⟩:=qi7;unfold DY;omega
noncomputable def later(d:d9)(a:Int):d9:=JZ (DY d+a) (qso d) 0
structure qhh(r:g9):Prop where
 f1:0<=r.1
 f2:r.1<=4
 e1:1<=r.2.1
 e2:r.2.1<=100
 c1:0<=r.2.2.1
 c2:r.2.2.1<=1500
 wl:r.2.2.2.2.2.1.length<=7
 xs:yJ r.2.2.2.2.2.2.1
 xl:r.2.2.2.2.2.2.1.length<=300
 adS:yJ r.2.2.2.2.2.2.2
 al:r.2.2.2.2.2.2.2.length<=300
def qb7:∀(l:List Int)(lo a:Int),yJ l->(∀x∈l,lo<=x/\x<=a)->lo<=a+1->(l.length:Int)<=a+1-lo
 |[],lo,a,_,_,h=>by simp;omega|x::l,lo,a,h1,h2,h=>by
  have b:=List.pairwise_cons.1 h1;have d:=h2 x qH;have:=qb7 l (x+1) a b.2 (fun y c=>⟨by have:=b.1 y c;omega,(h2 y (qE _ c)).2⟩) Ta
  simp;omega
def qrx(r:g9)(h:(kw r).1=0):kw r=(0,0)/\qhh r/\(∀x∈r.2.2.2.2.2.2.1,py x=true)/\(∀x∈r.2.2.2.2.2.2.2,py x=true):=by
 unfold kw at h ⊢;by_cases c1:¬(0<=r.1/\r.1<=4)
 ·rw[qX c1]at h;simp at h
 rw[qW c1]at h ⊢;by_cases c2:¬(1<=r.2.1/\r.2.1<=100)
 ·rw[qX c2]at h;simp at h
 rw[qW c2]at h ⊢;by_cases c3:¬(0<=r.2.2.1/\r.2.2.1<=1500)
 ·rw[qX c3]at h;simp at h
 rw[qW c3]at h ⊢;by_cases g:r.2.2.2.2.1=true/\¬(-68719476736<=r.2.2.2.1/\r.2.2.2.1<=68719476736)
 ·rw[qX g]at h;simp at h
 rw[qW g]at h ⊢;by_cases i:r.2.2.2.2.1=false/\r.2.2.2.1≠0
 ·rw[qX i]at h;simp at h
 rw[qW i]at h ⊢;by_cases b:(p8 r).1≠0
 ·rw[qX b]at h;exact absurd h b
 rw[qW b]at h ⊢;by_cases c:ja r.2.2.2.2.2.2.1≠0
 ·rw[qX c]at h;exact absurd h c
 rw[qW c]at h ⊢;rw[zH]at h;have j:∀l,ja l=0->l.length<=300/\yJ l/\∀x∈l,py x=true:=by
  intro l d;unfold ja at d;by_cases q:300<l.length
  ·rw[qX q]at d;omega
  ·rw[qW q]at d;obtain⟨e,f,_⟩:=Fs py l none d;exact⟨Ta,e,f⟩
 obtain⟨x1,x2,x3⟩:=j _ (Classical.not_not.1 c);obtain⟨n,o,p⟩:=j _ h;have k:r.2.2.2.2.2.1.length<=7:=by
  have a:=Classical.not_not.1 b;unfold p8 at a;by_cases q:0<r.2.2.2.2.2.1.length/\r.1≠2
  ·rw[qX q]at a;simp at a
  ·rw[qW q,zH]at a;obtain⟨e,f,_⟩:=Fs ff _ none a;have:=qb7 r.2.2.2.2.2.1 0 6 e (fun x m=>by have:=f x m;unfold ff at this;simpa using this) Ta
   omega
 refine⟨by unfold gq;rw[qX h],⟨Ta,Ta,Ta,Ta,Ta,Ta,k,x2,x1,o,n⟩,x3,p⟩

def qoh(d:d9)(z:dv)(a:(oq z).1=0):yz d=some (mK z d).1:=by
 rw[RX];unfold mK;rw[qW (c:=(oq z).1≠0) (by simp[a])]
 by_cases c1:¬ez d
 ·rw[qX c1,qX c1]
 rw[qW c1,qW c1];by_cases c2:d.2.2.2.2.2.2≠0
 ·rw[qX c2,qX c2]
 rw[qW c2,qW c2];by_cases c3:¬(3<=d.1/\d.1<=3998)
 ·rw[qX c3,qX c3]
 rw[qW c3,qW c3]
def uZ:dv:=([117],0,0,(0,0,0,0),(0,0,0,0))
def uD:d9:=(1970,1,1,0,0,0,0)
def uR:g9:=(1,1,3,0,false,[],[],[])
section
variable(fu:Nat)(hf:5000<=fu)(z:dv)(hs:(z.1.length:Int)<9223372036854775808)(hf2:z.1.length<fu)(d:d9)(r:g9)(hw:(r.2.2.2.2.2.1.length:Int)<9223372036854775808)
include hf hs hf2 hw
end
section
variable(fu:Nat)(hf:5000<=fu)(z:dv)(hs:(z.1.length:Int)<9223372036854775808)(hf2:z.1.length<fu)(d:d9)(r:g9)(hw:(r.2.2.2.2.2.1.length:Int)<9223372036854775808)
include hf hs hf2
end
end Go.Sym
namespace Go.Sym
abbrev ci:Type:=Bs×Int×Int×Bs×Bs×Bs×TQ×Bs×d9×Int×g9
def fc(p:UInt8->Bool):Bool->Bs->Bool|e,[] => !e|e,c::s=>bif c==46 then !e&&fc p true s else p c&&fc p false s
def QE(p:UInt8->Bool):∀(s:Bs)(e:Bool),(∀x∈s,x≠46)->fc p e s=((!e || !s.isEmpty)&&s.all p)
 |[],e,_=>by cases e<;>rfl
 |c::s,e,h=>by
  have a:(c==46)=false:=by rw[beq_eq_false_iff_ne];exact h c qH
  rw[fc,a,qF,QE p s false fun x b=>h x (qE _ b)]
  cases e<;>simp
def QD(p:UInt8->Bool)(r:Bs):∀(s:Bs)(e:Bool),(∀x∈s,x≠46)->fc p e (s++46::r)=(((!e || !s.isEmpty)&&s.all p)&&fc p true r)
 |[],e,_=>by cases e<;>rfl
 |c::s,e,h=>by
  have a:(c==46)=false:=by rw[beq_eq_false_iff_ne];exact h c qH
  rw[wK,fc,a,qF,QD p r s false fun x b=>h x (qE _ b)]
  cases e<;>simp[Bool.and_assoc]
def SZ{R:Type}(P1:Nat->Bs->Bs->Int->Bool->Option R)(r0:Bs->Bool->Option T4)(A B:Bs×Bs×Int×Bool->R)(p:UInt8->Bool)(i:∀s b,s.length<=100000->r0 s b=some (bif !s.isEmpty&&s.all p then .inr b else .inl false))
  (u:∀n c a d f,P1 (n+1) c a d f=(jf a c).bind fun x1=>bif decide (x1<(0:Int)) then(r0 a f).bind fun x2=>aw x2 (fun k=>some (A (c,(a,(d,k))))) (fun m=>some (B (c,(a,(d,m))))) else bif decide (0<=ae (x1+d)/\ae (x1+d)<=(List.length a:Int)) then(r0 (List.take (ae (x1+d)).toNat a) f).bind fun y=>aw y (fun l=>some (A (c,(a,(d,l))))) (fun o=>bif decide (0<=ae (x1+(List.length c:Int))/\ae (x1+(List.length c:Int))<=(List.length a:Int)) then P1 n c (List.drop (ae (x1+(List.length c:Int))).toNat a) d o else none) else none) :
  ∀(n:Nat)(s:Bs)(b:Bool),s.length<n->s.length<=100000->∃t,P1 n [46] s 0 b=some (bif fc p true s then B ([46],(t,(0,b))) else A ([46],(t,(0,false)))):=by
 intro n
 induction n with
 |zero=>intro s b h;omega|succ n ih=>
  intro s b h j;have g:∀x:Int,Lib.index s [46]=x->jf s [46]=some x:=fun x q=>by
   unfold jf qf;rw[ag Ta,qB,q]
  rw[u];rcases AU 46 s with⟨w,r,rfl,e⟩|e
  ·rw[g _ (Ap 46 w r e)];simp only[qM,qL]at h j;rw[qB,bf,Int.add_zero,bq (x:=(w.length:Int)) Ta Ta,ag Te,qcg,i w b Ta,qB,QD p r w true e,Bool.not_true,Bool.false_or]
   cases v:(!w.isEmpty&&w.all p)
   ·exact⟨_,rfl⟩
   ·simp only[qT,aw];rw[show((List.length ([46]:Bs):Nat):Int)=1 from rfl,bc _,ag Te,Ky]
    exact ih r b Ta Ta
  ·rw[g _ (Aq 46 s e),qB,ag Ta,i s b j,qB,QE p s true e,Bool.not_true,Bool.false_or]
   cases v:(!s.isEmpty&&s.all p)
   ·exact⟨s,rfl⟩
   ·exact⟨s,rfl⟩
def qlo(a:Nat)(e:90000000<=a)(s:Bs)(d:s.length<=100000):wi a s=some (fc dc true s):=by
 unfold wi uH ow cD;simp only[qB];unfold xJ;rw[aq]
 obtain⟨t,f⟩:=SZ (mC a) (wm a) _ _ dc (fun s b d=>by
  unfold wm
  cases s with
  |nil=>rfl| cons c s=>rw[aq,Pu a _,qB];cases List.all (c::s) dc<;>rfl) (fun _ _ _ _ _=>rfl) a s false Ta d
 rw[f];cases fc dc true s<;>rfl
def ie(s:Bs):Bool:=decide (s.length<=60)&&fc iz true s
def Ks(a:Nat)(d:90000000<=a)(s:Bs):rm a s=some (ie s):=by
 unfold rm ie;by_cases h:s.length<=60
 ·rw[ag Ta,decide_eq_true h,Bool.true_and]
  unfold uI ow cD;simp only[qB];unfold xK;rw[aq]
  obtain⟨t,e⟩:=SZ (mD a) (wn a) _ _ iz (fun s b f=>by
   unfold wn
   cases s with
   |nil=>rfl| cons c s=>rw[aq,Pv a _,qB];cases List.all (c::s) iz<;>rfl) (fun _ _ _ _ _=>rfl) a s false Ta Ta
  rw[e];cases fc iz true s<;>rfl
 ·rw[bf,decide_eq_false h];rfl
def xm(c:UInt8):Bool:=decide (32<=c)&&decide (c<=126)
def qia(a:Nat)(s:Bs)(h:s.length<a:=by omega)(b:s.length<=10000000:=by omega):Cn a s=some (s.all xm):=
 DC s b (lF a) xm (fun n e k=>by
  rw[lF,Hz];simp only[show ∀c,bO c=some (xm c) from fun c=>by unfold bO xm;cases decide (32<=c)<;>rfl]) a [] s rfl h
def ji(s:Bs):Bool:=(!s.isEmpty&&decide (s.length<=60))&&s.all xm
def Li(a:Nat)(b:90000000<=a)(s:Bs):t7 a s=some (ji s):=by
 unfold t7 ji
 cases s with
 |nil=>rfl|cons c s=>
  rw[show(!((c::s)==([]:Bs)))=true from rfl,qT]
  by_cases h:(c::s).length<=60
  ·rw[ag Ta,decide_eq_true h,qia a _];rfl
  ·rw[bf,decide_eq_false h];rfl
def RP(c:UInt8):qc c=some ((qc c).getD false):=by
 unfold qc;simp only[ku,qB];rw[ln];split
 ·rfl
 ·rw[ln];split<;>rfl
def qhy(a:Nat)(b:1000<=a)(c:UInt8):eW a c=some (((qc c).getD false)||([33,35,36,37,38,39,42,43,45,47,61,63,94,95,96,123,124,125,126]:Bs).contains c):=by
 unfold eW;rw[RP,qB,LF a c _ Te Td]
 cases (qc c).getD false<;>rfl
def qhz:∀n:_root_.Fin 256,(((qc (UInt8.ofNat n.val)).getD false)||([33,35,36,37,38,39,42,43,45,47,61,63,94,95,96,123,124,125,126]:Bs).contains (UInt8.ofNat n.val))=dc (UInt8.ofNat n.val):=by decide +kernel
def cK(a:Nat)(b:1000<=a)(c:UInt8):eW a c=some (dc c):=by
 rw[qhy a b,o8 (fun c=>(((qc c).getD false)||([33,35,36,37,38,39,42,43,45,47,61,63,94,95,96,123,124,125,126]:Bs).contains c)=dc c) qhz c]
def nR(c:UInt8):Bool:=dc c&&(((qc c).getD false)||c==45)
def qlj:∀n:_root_.Fin 256,nR (UInt8.ofNat n.val)=iz (UInt8.ofNat n.val):=by decide +kernel
def qlk(c:UInt8):nR c=iz c:=o8 (fun c=>nR c=iz c) qlj c
def qqs(g:Nat)(i:1000<=g)(d:Bool)(n:Nat):∀(f b:Bs)(e:Bool),b.length<n->f.length+b.length<100000000->rU g n (f++b) d e (f.length:Int)=some (fc (if d then nR else dc) e b):=by
 induction n with
 |zero=>intro f b e h;omega|succ n a=>
  intro f b e h j;rw[rU,Gq]
  cases b with
  |nil=>rw[bf];rfl|cons c b=>
   simp only[qL]at h j;have a:=fun e=>a (f++[c]) b e Ta Te
   simp only[qM,qL,qZ,qS,wM,wO]at a;rw[ag Tk,dp,fc]
   simp only[qB];cases c==46
   ·rw[qF,qF,cK g i,qB,lu _,RP]
    have a:=a false;cases d
    ·simp only[wJ,if_false]at a ⊢;cases dc c
     ·rfl
     ·exact a
    ·simp only[if_true]at a ⊢;rw[show nR c=(dc c&&(((qc c).getD false)||c==45)) from rfl]
     cases dc c
     ·rfl
     ·simp only[qB,Bool.not_true,qF,qT,Bool.true_and];cases (qc c).getD false
      ·simp only[Bool.not_false,qT,Bool.false_or,bne];cases c==45
       ·rfl
       ·exact a
      ·exact a
   ·rw[qT,qT,lu _]
    cases e
    ·exact a true
    ·rfl
def iV(a:Nat)(b:1000<=a)(s:Bs)(d:Bool)(h:s.length<a:=by omega)(e:s.length<100000000:=by omega):fB a s d=some (fc (if d then iz else dc) true s):=by
 have:=qqs a b d a [] s true h (by simpa using e)
 rw[show(if d then nR else dc)=(if d then iz else dc) by cases d<;>simp;funext c;exact qlk c]at this
 exact this
def qrk(f n:Nat)(s:Bs)(i:s.length<100000000):∀(b a:Bs),s=b++a->a.length<n->sE f n s (b.length:Int)=some (a.all xm&&(decide (1<=s.length)&&decide (s.length<=60))):=by
 induction n with
 |zero=>intro b a e h;omega|succ n ih=>
  intro b a e h;have d:=congrArg List.length e;rw[qM]at d;rw[sE,Gy]
  cases a with
  |nil=>
   rw[bf (by simp at d;omega),ku]
   simp only[qB,List.all_nil,Bool.true_and,qI];rw[Bool.eq_iff_iff];simp;omega
  |cons c a=>
   simp only[qL]at h d;rw[ag Ta,show aj s (b.length:Int)=some c by rw[e];exact dp _ _ _,qB,ku,qB,lu _]
   have:=ih (b++[c]) a (by rw[e];simp) Ta
   rw[qM,wD]at this;rw[List.all_cons];have g:decide ((32:Int)<=(c.toNat:Int)/\(c.toNat:Int)<=126)=xm c:=by
    unfold xm;rw[Bool.eq_iff_iff,decide_eq_true_iff,qA,decide_eq_true_iff,decide_eq_true_iff,UInt8.le_iff_toNat_le,UInt8.le_iff_toNat_le];simp;omega
   rw[g];cases xm c
   ·rfl
   ·exact this
def Fk(a:Nat)(s:Bs)(h:s.length<a:=by omega)(b:s.length<100000000:=by omega):sD a s=some (ji s):=by
 have:=qrk a a s b [] s rfl h;unfold sD ji;rw[show((([]:Bs).length:Nat):Int)=0 from rfl]at this
 rw[this,Bool.and_comm];cases s<;>rfl
def AH(x a b:Int){α:Type}{P:α->Prop}{f:Bool->Option α}(h:∀c:Bool,(c=true->a<=x/\x<=b)->(c=false->¬(a<=x/\x<=b))->Ok P (f c)):Ok P ((ck x a b).bind f):=by
 rw[ku,qB];exact h _ (fun q=>of_decide_eq_true q) (fun q=>of_decide_eq_false q)
def Bd(r:Int):Ok (fun v=>v.length<=4) (qb r):=by
 have d:∀r,Ok (fun v=>v.length<=4) (sW r):=fun r=>by
  unfold sW;exact bn (fun _=>au Td) fun _=>bn (fun _=>au Td) fun _=>bn (fun _=>au Td) fun _=>au Td
 have a:∀b r,Ok (fun v=>v.length<=4) (sV r b):=fun b r=>by
  unfold sV;exact bg (fun _=>d _) fun _=>d _
 unfold qb;exact AH _ _ _ fun c _ _=>fa (fun _=>a _ _) fun _=>AH _ _ _ fun c _ _=>a _ _
def qmh(a n:Nat)(s k:Bs)(g:s.length<=100000)(f:k.length<=100):∀i:Nat,s.length+1-i<n->i<=200000->Ok (fun x=>x = -1\/((i:Int)<=x/\x+k.length<=s.length)) (fC a n s k (i:Int)):=by
 induction n with
 |zero=>intro i h;omega|succ n ih=>
  intro i h e;rw[fC,BB,show ae ((i:Int)+(k.length:Int))=((i+k.length:Nat):Int) by rw[bq];omega]
  refine bn (fun c=>bm ⟨Ta,Ta,Ta⟩ (bg (fun _=>au (.inr ⟨Ta,Ta⟩)) fun _ => ?_)) fun _=>au (.inl rfl)
  rw[bc i]
  refine lv (ih (i+1) Ta Ta) fun x h => ?_
  rcases h with h|⟨d,b⟩
  ·exact .inl h
  ·exact .inr ⟨Ta,b⟩
def Ev(a:Nat)(b:90000000<=a)(s k:Bs)(e:s.length<=100000)(d:k.length<=100)(i:Nat)(c:i<=200000:=by omega):Ok (fun x=>x = -1\/((i:Int)<=x/\x+k.length<=s.length)) (rh a s k (i:Int)):=qmh a a s k e d i Ta c
def E6(a:Nat)(b:1000<=a)(c:UInt8):Ok db (kA a c):=by
 have:∀n k:Nat,16-k<n->Ok db (rV a n c (k:Int)):=by
  intro n
  induction n with
  |zero=>intro k h;omega|succ n ih=>
   intro k h;rw[rV,Gr];refine bn (fun d=>ar (cf (k:=k) Te) fun _ _=>bg (fun _=>au trivial) fun _ => ?_) fun _=>au trivial
   rw[iU a _ Te (by simp[maxLen]),qB]
   refine ar (cf (k:=k) Te) fun _ _=>bg (fun _=>au trivial) fun _ => ?_
   rw[bc k]
   exact ih (k+1) Ta
 exact this a 0 Ta
def qsq(a:Nat)(c:1000000<=a)(s:Bs)(g:s.length<=100000:=by omega):Ok db (GG a s):=by
 have:∀(l:List Bs),(∀x∈l,x.length<=100)->l.length<=100->∀n k:Nat,l.length-k<n->Ok db (sR a n s (k:Int) l):=by
  intro l d e n
  induction n with
  |zero=>intro k h;omega|succ n ih=>
   intro k h;rw[sR,GH];refine bn (fun f=>bm ⟨Ta,Ta⟩ (ar (EQ (k:=(k:Int).toNat) (P:=fun x=>x.length<=100) Ta d) fun y i => ?_)) fun _=>au trivial
   rw[Ps a y s Ta Ta Tt Tt,qB]
   refine bg (fun _=>au trivial) fun _ => ?_
   rw[bc k]
   exact ih (k+1) Ta
 refine this _ (fun x b => ?_) Td a 0 Te
 simp only[wE,List.not_mem_nil,or_false]at b;rcases b with rfl|rfl|rfl|rfl<;>simp
def qje{α:Type}{b:Bool}{x y:Option α}(h:∃v,x=some v)(k:∃v,y=some v):∃v,(bif b then x else y)=some v:=by cases b<;>assumption
def qul(a n:Nat)(c:UInt8):∀k:Nat,k<=64->64-k<n->∃v,tL a n c (k:Int)=some v:=by
 induction n with
 |zero=>intro k _ h;omega|succ n ih=>
  intro k d e;rw[tL,GU];by_cases q:k<64
  ·rw[ag Ta,fv _ k Tj,qB,bc k]
   obtain⟨v,b⟩:=ih (k+1) Ta Ta
   exact qje ⟨_,rfl⟩ ⟨v,b⟩
  ·rw[bf];exact⟨_,rfl⟩
def qtl(a n:Nat)(l:List Int)(c:l.length<=1000):∀(k:Nat)(v:Int),k<=l.length->l.length-k<n->∃w,bH a n l v (k:Int)=some w:=by
 induction n with
 |zero=>intro k v _ h;omega|succ n ih=>
  intro k v b d;rw[bH,tK];by_cases q:k<l.length
  ·rw[ag Ta,fv l k q,qB,bc k]
   exact ih (k+1) _ Ta Ta
  ·rw[bf];exact⟨_,rfl⟩
def qol(a n:Nat)(b:90000000<=a)(l:List Int)(e:l.length<=100000):∀(k:Nat)(o:Bs),l.length-k<n->k<=l.length->8*o.length<=k->Ok (fun v=>8*v.length<=l.length) (sG a n l (k:Int) o):=by
 induction n with
 |zero=>intro k o h;omega|succ n ih=>
  intro k o f d g;rw[sG,G5,bq (x:=(k:Int)+8) Ta Ta]
  refine bn (fun h=>bm ⟨Ta,Ta,Ta⟩ ?_) fun _=>au Ta
  obtain⟨w,c⟩:=qtl a a (List.take (((k:Int)+8).toNat-(k:Int).toNat) (List.drop (k:Int).toNat l)) (by rw[List.length_take];omega) 0 0 Ta (by rw[List.length_take];omega)
  rw[show tJ a (List.take (((k:Int)+8).toNat-(k:Int).toNat) (List.drop (k:Int).toNat l))=some w from c,qB,show(k:Int)+8=((k+8:Nat):Int) by omega]
  exact bm Tn (ih (k+8) _ Ta Ta Te)
def qok(a n:Nat)(d:90000000<=a)(s:Bs)(u:s.length<=10000):∀(k:Nat)(m:List Int),s.length-k<n->k<=s.length->m.length<=6*k->Ok (fun v=>v.length<=s.length) (fD a n s (k:Int) m):=by
 induction n with
 |zero=>intro k m h;omega|succ n ih=>
  intro k m t p r;rw[fD,G4];have f:Ok (fun v=>v.length<=s.length) (kF a (fD a n) s (k:Int) false m):=by
   unfold kF;rw[aq rfl];exact lv (qol a a d m Ta 0 [] Ta Ta Td) fun v e=>Ta
  refine bn (fun h=>ar (cf) fun c _ => ?_) fun _=>f
  cases c != (61:UInt8)
  ·exact f
  ·unfold kF G6;rw[ax rfl];refine ar (cf) fun c2 _ => ?_
   obtain⟨v,e⟩:=qul a a c2 0 Ta Ta
   rw[show GT a c2=some v from e,qB]
   have l:∀(j n2:Nat)(b:List Int),j<=6->j<n2->b.length+j<=6*(k+1)->Ok (fun v=>v.length<=s.length) (kG a (fD a n) n2 s (k:Int) v ((j:Int)-1) b):=by
    intro j
    induction j with
    |zero=>
     intro n2 b _ g i;obtain⟨n2,rfl⟩:∃q,n2=q+1:=⟨n2-1,Ta⟩
     rw[kG,BH,bf]
     unfold sH;rw[aq rfl,bc k]
     exact ih (k+1) b Ta Ta Ta
    |succ j ihj=>
     intro n2 b o g i;obtain⟨n2,rfl⟩:∃q,n2=q+1:=⟨n2-1,Ta⟩
     rw[kG,BH,ag Ta]
     unfold sH;refine bg (fun _ => ?_) fun _ => ?_
     ·unfold G7;refine bm (by rw[show((j+1:Nat):Int)-1=(j:Int) by omega];unfold IntKind.wrap;simp[IntKind.signed,IntKind.bits];omega) (bm Tn ?_)
      rw[bq (x:=((j+1:Nat):Int)-1-1) Ta Ta,show((j+1:Nat):Int)-1-1=(j:Int)-1 by omega]
      exact ihj n2 _ Ta Ta Te
     ·rw[bc k]
      exact ih (k+1) b Ta Ta Ta
   exact l 6 a m Ta Ta Ta
def qom(a:Nat)(c:90000000<=a)(b:Bs)(d:b.length<=10000:=by omega):Ok (fun v=>v.length<=b.length) (G3 a b):=
 qok a a c b d 0 [] Ta Ta Td
def qj1(a:Nat)(c:90000000<=a)(b:Bs)(d:b.length<=100000:=by omega):Ok db (B8 a b):=by
 unfold B8;have e:=Tr.bits_len b;rw[Tr.rbits_eq a b Ta Ta,qB]
 exact⟨_,Tr.pad6_go a a Ta _ Ta Ta Ta (Tr.bits_one b),trivial⟩
def qk4(b n:Nat)(k:Int)(s:Bs)(f:s.length<=100000):∀(i:Nat)(a:Bs),s.length-i<n->i<=s.length->a.length<=4*i->Ok (fun v=>v.length<=4*s.length) (jZ b n k s a (i:Int)):=by
 induction n with
 |zero=>intro i a h;omega|succ n ih=>
  intro i a h d e;rw[jZ,Gl];have g:∀x:Int,i<s.length->Ok (fun v=>v.length<=4*s.length) ((qb x).bind fun x2=>bif decide (List.length a+List.length x2<=ao) then jZ b n k s (a++x2) (ae ((i:Int)+(1:Int))) else none):=fun x c=>
   ar (Bd x) fun v j=>bm Tl (by
    rw[bc i]
    exact ih (i+1) _ Ta Ta Tp)
  exact bn (fun c=>ar (cf (k:=i) Ta) fun y _=>bg (fun _=>bn (fun _=>g _ Ta) fun _=>g _ Ta) fun _=>g _ Ta) fun _=>au Ta
def qse(f n:Nat)(g:10<=f):∀(m:Nat)(b a:Bs)(d:List Int),a.length<=m->a.length<n->b.length+a.length<=100000->d.length<=b.length->Ok (fun v=>v.length<=b.length+a.length) (sQ f n (b++a) (b.length:Int) d):=by
 induction n with
 |zero=>intro m b a d _ h;omega|succ n ih=>
  intro m b a d l h j o;rw[sQ,GF]
  cases a with
  |nil=>rw[bf];exact au (by simpa using o)|cons c a=>
   simp only[qL]at l h j;rw[ag Tk,Mn f g b c a,qB]
   refine bm Tq ?_
   rw[qa5];have i:=Lib.decodeL_width (c::a);have e:=Lib.decodeL_le (c::a) (List.cons_ne_nil _ _);generalize p:(Lib.decodeL (c::a)).2=k at i e;rw[show ae ((b.length:Int)+(k:Int))=((b.length+k:Nat):Int) by rw[bq Ta (by simp only[qL]at e;omega)];omega]
   simp only[qL]at e;have:=ih m (b++(c::a).take k) ((c::a).drop k) (d++[(rn (c::a)).1]) (by rw[List.length_drop,qL];omega) (by rw[List.length_drop,qL];omega) (by rw[qM,List.length_take,List.length_drop,qL];omega) Te
   rw[qS,List.take_append_drop,qM,List.length_take,List.length_drop,qL,show b.length+min k (a.length+1)=b.length+k by omega]at this
   exact lv this fun v q=>by simp only[qL];omega
def qsf(a:Nat)(b:90000000<=a)(s:Bs)(c:s.length<=100000):Ok (fun v=>v.length<=s.length) (BL a s):=by
 have:=qse a a Ta s.length [] s [] Ta Ta (by simpa using c) Td
 unfold BL;simpa using this
def qk5(b n:Nat)(l:List Int)(f:l.length<=100000):∀(i:Nat)(a:Bs),l.length-i<n->i<=l.length->a.length<=4*i->Ok (fun v=>v.length<=4*l.length) (rS b n a (i:Int) l):=by
 induction n with
 |zero=>intro i a h;omega|succ n ih=>
  intro i a h d e;rw[rS,Gm];refine bn (fun c=>bm ⟨Ta,Ta⟩ (ar (EQ (k:=(i:Int).toNat) (P:=fun _=>True) Ta fun _ _=>trivial) fun y _=>ar (Bd y) fun v g=>bm Tl ?_)) fun _=>au Ta
  rw[bc i]
  exact ih (i+1) _ Ta Ta Tp
def vn(k:Nat)(h:k<100000000:=by omega):ae ((k:Int)+2)=((k+2:Nat):Int):=by rw[bq];omega
def qde(k:Nat)(h:k<100000000:=by omega):ae ((k:Int)+3)=((k+3:Nat):Int):=by rw[bq];omega
def qk6(d n:Nat)(s:Bs)(y:s.length<=100000):∀(i:Nat)(a:Bs),s.length-i<n->i<=s.length->a.length<=4*i->Ok (fun v=>v.length<=4*s.length) (fA d n s a (i:Int)):=by
 induction n with
 |zero=>intro i a h;omega|succ n ih=>
  intro i a h t w;rw[fA,Gn];refine bn (fun r => ?_) fun _=>au Ta
  rw[bc i,gU]
  by_cases e:((i+1:Nat):Int)=(s.length:Int)
  ·rw[qX e];exact ar (Bd _) fun v f=>bm Tl (au Tp)
  ·rw[qW e];refine ar (cf (k:=i) Ta) fun m _=>ar (cf (k:=i+1) Ta) fun p _=>AH _ _ _ fun c _ _ => ?_
   generalize ae ((ae ((256:Int)*(m.toNat:Int)))+(p.toNat:Int))=u;have g:∀b:Bool,(b=true->i+3<s.length)->Ok (fun v=>v.length<=4*s.length) (rT d (fA d n) s a (i:Int) u b):=fun b o=>by
    have j:∀x:Int,Ok (fun v=>v.length<=4*s.length) ((qb x).bind fun l=>bif decide (List.length a+List.length l<=ao) then fA d n s (a++l) (ae ((i:Int)+(2:Int))) else none):=fun x=>
     ar (Bd x) fun v f=>bm Tl (by
      rw[vn i]
      exact ih (i+2) _ Ta Ta Tp)
    unfold rT;refine bg (fun q => ?_) fun _=>j _
    have:=o q;rw[vn i,qde i]
    refine ar (cf (k:=i+2) Ta) fun z _=>ar (cf (k:=i+3) Ta) fun m _=>AH _ _ _ fun c _ _=>bg (fun _=>ar (Bd _) fun v f=>bm Tl ?_) fun _=>by
     have:=j u;rw[vn i]at this
     exact this
    rw[vn (i+2)]
    exact ih (i+2+2) _ Ta Ta Tp
   rw[qde i]
   exact bg (fun _=>g _ fun q=>by have:=of_decide_eq_true q;omega) fun _=>g false Td
def Q2(a:Nat)(c:90000000<=a)(k:Int)(s:Bs)(d:s.length<=100000:=by omega):Ok (fun v=>v.length<=4*s.length) (rQ a k s):=by
 have e:∀b,Ok (fun v=>v.length<=4*s.length) (rR a k s [] k b):=fun b=>by
  unfold rR;refine bg (fun _=>qk4 a a k s d 0 [] Ta Ta Td) fun _=>bg (fun _=>ar (qsf a c s d) fun l f=>lv (qk5 a a l Ta 0 [] Ta Ta Td) fun v g=>Ta) fun _=>bg (fun _=>qk6 a a s d 0 [] Ta Ta Td) fun _=>au Td
 unfold rQ;exact bg (fun _=>e _) fun _=>e _
def qvb(e:Nat)(l:90000000<=e)(i c k:Int)(d:Bs)(u:d.length<=1000)(n:Nat):∀(j:Nat)(a:Bs),d.length-j<n->j<=d.length->a.length<=j->Ok (fun v=>(v.2=0\/v.2=ae ((ae (c+(2:Int)))-i))/\v.1.length<=4*d.length) (bF e n i c k d (j:Int) a):=by
 induction n with
 |zero=>intro j a h;omega|succ n ih=>
  intro j a h w y;rw[bF,GN];have m:∀x:UInt8,j<d.length->Ok (fun v:Bs×Int=>(v.2=0\/v.2=ae ((ae (c+(2:Int)))-i))/\v.1.length<=4*d.length) (bif decide (List.length (a++([x]:Bs))<=az) then bF e n i c k d (ae ((j:Int)+(1:Int))) (a++([x]:Bs)) else none):=fun x f=>
   bm Tq (by
    rw[bc j]
    exact ih (j+1) _ Ta Ta Te)
  have o:∀x b,j<d.length->Ok (fun v:Bs×Int=>(v.2=0\/v.2=ae ((ae (c+(2:Int)))-i))/\v.1.length<=4*d.length) (tA e (bF e n) i c k d (j:Int) x b a):=fun x b f=>by
   unfold tA;exact bg (fun _=>au ⟨.inl rfl,Td⟩) fun _=>m x f
  have g:∀x b,j<d.length->(b=true->j+2<d.length)->Ok (fun v:Bs×Int=>(v.2=0\/v.2=ae ((ae (c+(2:Int)))-i))/\v.1.length<=4*d.length) (fF e (bF e n) i c k d (j:Int) x b a):=fun x b f p=>by
   unfold fF;refine bg (fun q => ?_) fun _=>bg (fun _=>o _ _ f) fun _=>AH _ _ _ fun b _ _=>o _ _ f
   have:=p q;rw[bc j,vn j]
   refine ar (cf (k:=j+1) Ta) fun c1 _=>ar (E6 e Ta _) fun x2 _=>ar (cf (k:=j+2) Ta) fun c3 _=>ar (E6 e Ta _) fun x4 _=>bm Tq ?_
   rw[bc (j+2)]
   exact ih (j+2+1) _ Ta Ta Te
  refine bn (fun f=>ar (cf (k:=j) Ta) fun c1 _=>bg (fun _=>m _ Ta) fun _=>bg (fun _ => ?_) fun _=>g _ _ Ta Td) fun _=>ar (Q2 e l k a) fun A t=>au ⟨.inr rfl,Tu⟩
  rw[vn j,bc j]
  refine bn (fun s=>ar (cf (k:=j+1) Ta) fun c2 _=>ar (E6 e Ta _) fun x3 _=>bn (fun _=>ar (cf (k:=j+2) Ta) fun r _=>ar (E6 e Ta _) fun z _=>g _ _ Ta (fun _=>Ta)) fun _=>g _ _ Ta Td) fun _=>g _ _ Ta Td
def qdh(f:Nat)(e:90000000<=f)(s:Bs)(l:s.length<=100000)(i:Nat)(O:i<s.length:=by omega):Ok (fun v=>v.1.length<=1000/\(v.2=0\/∃k:Nat,v.2=(k:Int)/\0<k/\i+k<=s.length)) (sZ f s (i:Int)):=by
 have z:Ok (fun v:Bs×Int=>v.1.length<=1000/\(v.2=0\/∃k:Nat,v.2=(k:Int)/\0<k/\i+k<=s.length)) (some (([]:Bs),(0:Int))):=au ⟨Td,.inl rfl⟩
 unfold sZ;refine ar (Ev f e s _ l Td i) fun x1 K => ?_
 rw[fh];by_cases j:x1≠(i:Int)
 ·rw[qX j];exact z
 rw[qW j,vn i]
 have j:=Classical.not_not.1 j;refine ar (Ev f e s _ l Td (i+2)) fun a t=>bn (fun _=>z) fun B => ?_
 obtain⟨a,rfl⟩:∃n:Nat,a=(n:Int):=⟨a.toNat,Ta⟩
 have t:i+2<=a/\a+1<=s.length:=by rcases t with h|⟨h,r⟩<;>simp at *<;>omega
 rw[bc a]
 refine ar (Ev f e s _ l Td (a+1)) fun b u=>bn (fun _=>z) fun C => ?_
 obtain⟨b,rfl⟩:∃n:Nat,b=(n:Int):=⟨b.toNat,Ta⟩
 have u:a+1<=b/\b+1<=s.length:=by rcases u with h|⟨h,r⟩<;>simp at *<;>omega
 rw[bc b]
 have q:∀c,Ok (fun v:Bs×Int=>v.1.length<=1000/\(v.2=0\/∃k:Nat,v.2=(k:Int)/\0<k/\i+k<=s.length)) (bE f s (i:Int) (a:Int) (b:Int) c true):=fun c=>by
  unfold bE;rw[ax rfl];exact z
 refine ar (Ev f e s _ l Td (b+1)) fun c w=>bn (fun _=>q _) fun E => ?_
 obtain⟨c,rfl⟩:∃n:Nat,c=(n:Int):=⟨c.toNat,Ta⟩
 have w:b+1<=c/\c+1<=s.length:=by rcases w with h|⟨h,r⟩<;>simp at *<;>omega
 rw[bc c,vn c]
 refine bn (fun _=>q _) fun P=>ar (cf (k:=c+1) Ta) fun J _=>bg (fun _=>q _) fun _ => ?_
 have o:ae (((c+2:Nat):Int)-(i:Int))=((c+2-i:Nat):Int):=by rw[bq];omega
 rw[o];unfold bE;refine bg (fun _=>z) fun F => ?_
 have A:¬(75:Int)<((c+2-i:Nat):Int):=of_decide_eq_false F;unfold GO;rw[vn i,bc a,bc b,vn c,o]
 have p:∀m x:Nat,(List.take m (List.drop x s)).length<=m:=fun m x=>by rw[List.length_take];omega
 have g:∃k:Nat,((c+2-i:Nat):Int)=(k:Int)/\0<k/\i+k<=s.length:=⟨c+2-i,rfl,Ta,Ta⟩
 have I:=p ((c:Int).toNat-((b+1:Nat):Int).toNat) ((b+1:Nat):Int).toNat;have G:=p ((a:Int).toNat-((i+2:Nat):Int).toNat) ((i+2:Nat):Int).toNat;have H:=p ((b:Int).toNat-((a+1:Nat):Int).toNat) ((a+1:Nat):Int).toNat;generalize List.take ((c:Int).toNat-((b+1:Nat):Int).toNat) (List.drop ((b+1:Nat):Int).toNat s)=d at I ⊢;generalize List.take ((a:Int).toNat-((i+2:Nat):Int).toNat) (List.drop ((i+2:Nat):Int).toNat s)=d1 at G ⊢;generalize List.take ((b:Int).toNat-((a+1:Nat):Int).toNat) (List.drop ((a+1:Nat):Int).toNat s)=d2 at H ⊢;have N:d.length<=75:=Ta
 refine bm ⟨Ta,Ta,Ta⟩ (ar (qsq f Ta d1) fun k _=>bm ⟨Ta,Ta,Ta⟩ ?_)
 rw[iU f d2 Ta Tt,qB]
 refine bm ⟨Ta,Ta,Ta⟩ (bn (fun _=>z) fun _=>bg (fun _=>bm Tt (ar (qom f e d) fun x3 L=>ar (qj1 f e x3) fun x4 _=>fa (fun _=>z) fun _=>ar (Q2 f e k x3) fun Q M=>au ⟨Tu,.inr g⟩)) fun _=>bg (fun _ => ?_) fun _=>z)
 refine lv (qvb f e (i:Int) (c:Int) k d Ta f 0 [] Ta Ta Td) fun v y=>⟨Ta,?_⟩
 rw[vn c,o]at y
 rcases y.1 with h|h
 ·exact .inl h
 ·exact .inr (by rw[h];exact g)
def DV(s:Bs)(i:Nat)(a:i<s.length:=by omega)(b:s.length<=100000:=by omega):(decide (0<=(i:Int)/\(i:Int)<=ae ((i:Int)+(1:Int))/\ae ((i:Int)+(1:Int))<=(List.length s:Int))=true)/\(List.take ((ae ((i:Int)+(1:Int))).toNat-(i:Int).toNat) (List.drop (i:Int).toNat s)).length<=1:=by
 rw[bc i]
 exact⟨decide_eq_true ⟨Ta,Ta,Ta⟩,by rw[List.length_take];omega⟩
def quj(g n:Nat)(l:90000000<=g)(s:Bs)(F:s.length<=20000):∀(i:Nat)(f:Bs),s.length-i<n->i<=s.length->f.length<=1000*i->Ok (fun v=>v.length<=1000*s.length) (vz g n s f (i:Int)):=by
 induction n with
 |zero=>intro i f h;omega|succ n ih=>
  intro i f h B E;rw[vz,GJ];refine bn (fun A=>ar (qdh g l s Ta i) fun x1 w => ?_) fun _=>au Ta
  obtain⟨c1,c2⟩:=DV s i
  rw[gU];by_cases e:x1.2=0
  ·rw[qX e,c1,qT];refine bm Tl ?_
   have:=ih (i+1) (f++(List.take ((ae ((i:Int)+(1:Int))).toNat-(i:Int).toNat) (List.drop (i:Int).toNat s))) Ta Ta Tp
   rw[bc i]at this ⊢
   exact this
  ·rw[qW e];obtain⟨t,m⟩:=x1;simp only[]at w e ⊢;obtain⟨k,rfl,G,u⟩:=w.2.resolve_left e;refine bm Tl ?_
   rw[show ae ((i:Int)+(k:Int))=((i+k:Nat):Int) by rw[bq];omega]
   have ib:∀j:Nat,i<j->j<=s.length->i+k<=j->Ok (fun v=>v.length<=1000*s.length) (vz g n s (f++t) (j:Int)):=fun j a b d=>ih j _ Ta b Tp
   have z:∀(m j:Nat),s.length-j<m->i+k<=j->j<=s.length->Ok (fun v=>v.length<=1000*s.length) (kK g (vz g n) m s (f++t) ((i+k:Nat):Int) (j:Int)):=by
    intro m
    induction m with
    |zero=>intro j h;omega|succ m ihm=>
     intro j C p r;rw[kK,GK];have y:∀b,(b=true->j<s.length)->Ok (fun v=>v.length<=1000*s.length) (sU g (vz g n) s (f++t) ((i+k:Nat):Int) (j:Int) b):=fun b o=>by
      unfold sU;exact bg (fun q=>ar (qdh g l s Ta j (o q)) fun _ _=>bn (fun _=>ib j Ta r p) fun _=>ib (i+k) Ta u (wF _)) fun _=>ib (i+k) Ta u (wF _)
     have x:∀b,(b=true->j<s.length)->Ok (fun v=>v.length<=1000*s.length) (sS g (vz g n) (kK g (vz g n) m) s (f++t) ((i+k:Nat):Int) (j:Int) b):=fun b o=>by
      unfold sS;refine bg (fun q => ?_) fun _=>bn (fun _=>y _ fun q=>by have:=of_decide_eq_true q;omega) fun _=>y false Td
      have:=o q;unfold GL;rw[bc j]
      exact ihm (j+1) Ta Ta Ta
     exact bn (fun q=>ar (cf (k:=j) Ta) fun c _=>ar (P:=db) ⟨_,oW c,trivial⟩ fun b _=>x b (fun _=>Ta)) fun _=>x false Td
   exact z g (i+k) Ta (wF _) u
def quk(a:Nat)(b:90000000<=a)(s:Bs)(c:s.length<=20000:=by omega):Ok (fun v=>v.length<=1000*s.length) (GI a s):=quj a a b s c 0 [] Ta Ta Td
abbrev cq:Type:=UInt8×Bs
def bw:List cq->Nat|[]=>0|t::l=>t.2.length+1+bw l
def dV:∀a b:List cq,bw (a++b)=bw a+bw b|[],b=>by simp[bw]|t::a,b=>by rw[wK,bw,bw,dV a b];omega
def Fz(t:cq):bw [t]=t.2.length+1:=by simp[bw]
def ye(l:List cq)(k:Nat):bw (l.take k)<=bw l:=by
 have h:=dV (l.take k) (l.drop k);rw[List.take_append_drop]at h;omega
def qcb(l:List cq)(k:Nat):bw (l.drop k)<=bw l:=by
 have h:=dV (l.take k) (l.drop k);rw[List.take_append_drop]at h;omega
def qx:∀l:List cq,l.length<=bw l|[]=>by simp|t::l=>by have:=qx l;rw[qL,bw];omega
def qcc{l:List cq}{t:cq}(h:t∈l):t.2.length+1<=bw l:=by
 induction l with
 |nil=>cases h
 |cons x l ih=>
  rw[bw];rcases List.mem_cons.1 h with rfl|h
  ·omega
  ·have:=ih h;omega
def M0(l:List cq)(k:Nat)(h:k<l.length):bw (l.take (k+1))=bw (l.take k)+(l[k].2.length+1):=by
 rw[List.take_add_one,List.getElem?_eq_getElem h,dV];simp[bw]
def pw{α:Type}(l:List α)(x:α)(h:l.length<=1000000:=by omega):(l++[x]).length<=az:=by simp only[az,qM,qL,qZ];omega
def qt2(e n:Nat)(I:90000000<=e)(s:Bs)(Q:s.length<=4000):∀(i:Nat)(f:List cq),s.length+1-i<n->i<=s.length+1->bw f<=2*i->Ok (fun v=>bw v.2<=2*s.length+2) (dh e n s (i:Int) f):=by
 induction n with
 |zero=>intro i f h;omega|succ n ih=>
  intro i f h O P;have K:=qx f;rw[dh,eS];have z:Ok (fun v:Bool×List cq=>bw v.2<=2*s.length+2) (some (false,[])):=au (by simp[bw])
  refine bn (fun G => ?_) fun _=>au Tu
  have p:i<s.length:=Ta
  rw[fv s i p,qB,oW,qB,bc i]
  refine bg (fun _=>ih (i+1) f Ta Ta Ta) fun _=>bg (fun _ => ?_) fun _=>bg (fun _ => ?_) fun _ => ?_
  ·
   have L:∀(m j:Nat)(d:Int),s.length+1-j<m->i<=j->j<=s.length+1->Ok (fun v:Bool×List cq=>bw v.2<=2*s.length+2) (eU e (dh e n) m s (j:Int) d f):=by
    intro m
    induction m with
    |zero=>intro j d h;omega|succ m ihm=>
     intro j d w y A;rw[eU,Gg];refine bn (fun _=>z) fun J => ?_
     have l:j<s.length:=Ta
     have F:∀d,Ok (fun v:Bool×List cq=>bw v.2<=2*s.length+2) (rN e (dh e n) (eU e (dh e n) m) s (j:Int) d f):=fun d=>by
      unfold rN;rw[bc j,bc (j+1)]
      exact ar (cf l) fun _ _=>bg (fun _=>bg (fun _=>ih (j+1+1) f Ta Ta Ta) fun _=>ihm (j+1+1) d Ta Ta Ta) fun _=>bg (fun _=>ih (j+1) f Ta Ta Ta) fun _=>ihm (j+1) d Ta Ta Ta
     have C:∀d,Ok (fun v:Bool×List cq=>bw v.2<=2*s.length+2) (rM e (dh e n) (eU e (dh e n) m) s (j:Int) d f):=fun d=>by
      unfold rM;exact ar (cf l) fun _ _=>bg (fun _=>F _) fun _=>F _
     exact ar (cf l) fun _ _=>bg (fun _=>C _) fun _=>C _
   exact L e i 0 Ta (wF _) Ta
  ·
   have M:∀(m j:Nat)(g:Bs),s.length+1-j<m->i+1<=j->j<=s.length->g.length<=j-(i+1)->Ok (fun v:Bool×List cq=>bw v.2<=2*s.length+2) (tn e (dh e n) m s (j:Int) g f):=by
    intro m
    induction m with
    |zero=>intro j g h;omega|succ m ihm=>
     intro j g w y A H;rw[tn,B6];have r:∀o:Nat,j<=o->o<s.length->Ok (fun v:Bool×List cq=>bw v.2<=2*s.length+2) (eV e (dh e n) (tn e (dh e n) m) s (o:Int) g f):=fun o R x=>by
      obtain⟨c1,c2⟩:=DV s o x
      unfold eV;rw[c1,qT];have:=ihm (o+1) (g++(List.take ((ae ((o:Int)+(1:Int))).toNat-(o:Int).toNat) (List.drop (o:Int).toNat s))) Ta Ta Ta Tp
      refine bm Tl ?_
      rw[bc o]at this ⊢
      exact this
     have E:∀b,(b=true->j<s.length)->Ok (fun v:Bool×List cq=>bw v.2<=2*s.length+2) (bC e (dh e n) (tn e (dh e n) m) s (j:Int) g b f):=fun b u=>by
      unfold bC;refine bg (fun q => ?_) fun _=>bn (fun _=>z) fun J=>bm (pw _ _) ?_
      ·have l:=u q;unfold rO jW;rw[bc j]
       refine ar (cf l) fun _ _=>bg (fun _=>bn (fun q => ?_) fun _=>r j (wF _) l) fun _=>bg (fun q=>by cases q) fun _=>r j (wF _) l
       exact r (j+1) Ta Ta
      ·rw[bc j]
       exact ih (j+1) _ Ta Ta (by rw[dV,Fz];simp only;omega)
     exact bn (fun q=>ar (cf (k:=j) Ta) fun _ _=>E _ fun _=>Ta) fun _=>E false Td
   exact M e (i+1) [] Ta (wF _) Ta Td
  ·rw[cK e Ta,qB]
   have N:∀(m j:Nat)(g:Bs),s.length+1-j<m->i+1<=j->j<=s.length->g.length<=j-i->Ok (fun v:Bool×List cq=>bw v.2<=2*s.length+2) (ni e (dh e n) m s (j:Int) g f):=by
    intro m
    induction m with
    |zero=>intro j g h;omega|succ m ihm=>
     intro j g w y A H;rw[ni,rK];have t:∀b,(b=true->j<s.length)->Ok (fun v:Bool×List cq=>bw v.2<=2*s.length+2) (rg e (dh e n) (ni e (dh e n) m) s (j:Int) g b f):=fun b u=>by
      unfold rg;refine bg (fun q => ?_) fun _=>bm (pw _ _) (ih j _ Ta Ta (by rw[dV,Fz];simp only;omega))
      have x:=u q;obtain⟨c1,c2⟩:=DV s j x
      unfold rL;rw[c1,qT];have:=ihm (j+1) (g++(List.take ((ae ((j:Int)+(1:Int))).toNat-(j:Int).toNat) (List.drop (j:Int).toNat s))) Ta Ta Ta Tp
      refine bm Tl ?_
      rw[bc j]at this ⊢
      exact this
     refine bn (fun q=>ar (cf (k:=j) Ta) fun c _ => ?_) fun _=>t false Td
     rw[cK e Ta,qB]
     exact bg (fun _=>t _ fun _=>Ta) fun _=>ar (cf (k:=j) Ta) fun c _=>t _ fun _=>Ta
   have first:(dc s[i]=true\/(s[i]==46)=true)->Ok (fun v:Bool×List cq=>bw v.2<=2*s.length+2) (ni e (dh e n) e s (i:Int) [] f):=fun q=>by
    obtain⟨m,w⟩:∃m,e=m+1:=⟨e-1,Ta⟩
    rw[show ni e (dh e n) e=ni e (dh e n) (m+1) by rw[← w],ni,rK,ag G,fv s i p,qB,cK e Ta,qB]
    have t:Ok (fun v:Bool×List cq=>bw v.2<=2*s.length+2) (rg e (dh e n) (ni e (dh e n) m) s (i:Int) [] true f):=by
     unfold rg rL;rw[ax rfl];obtain⟨c1,c2⟩:=DV s i p
     rw[c1,qT];have:=N m (i+1) ([]++(List.take ((ae ((i:Int)+(1:Int))).toNat-(i:Int).toNat) (List.drop (i:Int).toNat s))) Ta Ta Ta (by rw[List.nil_append];omega)
     refine bm (by simp only[ao,qZ];omega) ?_
     rw[bc i]at this ⊢
     exact this
    rcases q with q|q
    ·rw[q,qT];exact t
    ·rw[qB,q];cases dc s[i]
     ·exact t
     ·exact t
   have B:∀b,(b=true->(dc s[i]=true\/(s[i]==46)=true))->Ok (fun v:Bool×List cq=>bw v.2<=2*s.length+2) (bB e (dh e n) s (i:Int) s[i] b f):=fun b u=>by
    unfold bB;refine bg (fun q=>first (u q)) fun _ => ?_
    rw[LF e _ _ Te Td,qB,bc i]
    exact bg (fun _=>bm (pw _ _) (ih (i+1) _ Ta Ta (by rw[dV,Fz];simp only[qZ];omega))) fun _=>z
   exact bg (fun q=>B true fun _ => .inl q) fun _=>B _ fun q => .inr q
def qt4(a:Nat)(b:90000000<=a)(s:Bs)(c:s.length<=4000):Ok (fun v=>bw v.2<=2*s.length+2) (rJ a s):=qt2 a a b s c 0 [] Ta Ta (by simp[bw])
def qkp(f n:Nat)(b:Bool)(l:List cq)(A:bw l<=10000):∀(k:Nat)(o:Bool)(d:List (List cq))(a:List cq),l.length-k<n->k<=l.length->d.length<=k->(∀p∈d,bw p<=bw l)->bw a<=bw (l.take k)->Ok (fun v=>v.length<=l.length+1/\∀p∈v,bw p<=bw l) (rl f n l b o (k:Int) d a):=by
 have s:=qx l
 induction n with
 |zero=>intro k o d a h;omega|succ n ih=>
  intro k o d a h z B i C;have x:=ye l k;have t:=qx a;rw[rl,GP];refine bn (fun w => ?_) fun _=>bm (pw _ _) (au ⟨Te,fun p e => ?_⟩)
  ·have g:k<l.length:=Ta
   have y:=M0 l k g;have u:∀o,Ok (fun v:List (List cq)=>v.length<=l.length+1/\∀p∈v,bw p<=bw l) (BN f (rl f n) l b o (k:Int) d a):=fun o=>by
    unfold BN;rw[fv l k g,qB,bc k]
    exact bm (pw _ _) (ih (k+1) o d _ Ta Ta Ta i (by rw[dV,Fz];omega))
   have r:∀o c,Ok (fun v:List (List cq)=>v.length<=l.length+1/\∀p∈v,bw p<=bw l) (tE f (rl f n) l b o (k:Int) c d a):=fun o c=>by
    unfold tE;rw[bc k]
    refine bg (fun _=>bm (pw _ _) (ih (k+1) o _ [] Ta Ta Te (fun p e => ?_) (by simp[bw]))) fun _=>u o
    rcases List.mem_append.1 e with e|e
    ·exact i p e
    ·rw[List.mem_singleton]at e;subst e;omega
   have q:∀o,Ok (fun v:List (List cq)=>v.length<=l.length+1/\∀p∈v,bw p<=bw l) (tD f (rl f n) l b o (k:Int) d a):=fun o=>by
    unfold tD;exact ar (cf g) fun _ _=>bg (fun _=>r _ _) fun _=>r _ _
   have m:∀o,Ok (fun v:List (List cq)=>v.length<=l.length+1/\∀p∈v,bw p<=bw l) (tC f (rl f n) l b o (k:Int) d a):=fun o=>by
    unfold tC;exact ar (cf g) fun _ _=>bg (fun _=>q _) fun _=>q _
   have j:∀o c,Ok (fun v:List (List cq)=>v.length<=l.length+1/\∀p∈v,bw p<=bw l) (tB f (rl f n) l b o (k:Int) c d a):=fun o c=>by
    unfold tB;exact bg (fun _=>m _) fun _=>m _
   exact ar (cf g) fun _ _=>bg (fun _=>j _ _) fun _=>j _ _
  ·rcases List.mem_append.1 e with e|e
   ·exact i p e
   ·rw[List.mem_singleton]at e;subst e;omega
def Qu(a:Nat)(c:90000000<=a)(b:Bool)(l:List cq)(d:bw l<=10000:=by omega):Ok (fun v=>v.length<=l.length+1/\∀p∈v,bw p<=bw l) (kL a l b):=by
 have:=qx l;exact qkp a a b l d 0 false [] [] Ta Ta Td Td (by simp[bw])
def qdi(a:Nat)(b:90000000<=a)(l:List cq)(e:bw l<=10000:=by omega):Ok db (BR a l):=by
 have c:=qx l;have:∀n k:Nat,l.length-k<n->Ok db (tM a n l (k:Int)):=by
  intro n
  induction n with
  |zero=>intro k h;omega|succ n ih=>
   intro k h;rw[tM,GV];refine bn (fun d => ?_) fun _=>au trivial
   rw[bc k]
   exact ar (cf (k:=k) Ta) fun _ _=>bg (fun _=>ar (cf (k:=k) Ta) fun _ _=>bg (fun _=>au trivial) fun _=>ih (k+1) Ta) fun _=>ih (k+1) Ta
 exact this a 0 Ta
def qbu(a:Nat)(g:90000000<=a)(l:List cq)(h:bw l<=10000:=by omega):Ok (fun v=>v.1.1.length<=10000/\v.1.2.1.length<=10000/\v.1.2.2.length<=10000) (bG a l):=by
 have z:Ok (fun v:(Bs×Bs×Bs)×Bool=>v.1.1.length<=10000/\v.1.2.1.length<=10000/\v.1.2.2.length<=10000) (some ((([]:Bs),(([]:Bs),([]:Bs))),false)):=au ⟨Td,Td,Td⟩
 have d:∀b m,(b=false->l.length=3)->Ok (fun v:(Bs×Bs×Bs)×Bool=>v.1.1.length<=10000/\v.1.2.1.length<=10000/\v.1.2.2.length<=10000) (wa a l b m):=fun b m e=>by
  unfold wa;refine bg (fun _=>z) fun q => ?_
  have c:=e q;have i:=qcc (List.getElem_mem (show 0<l.length by omega))
  have j:=qcc (List.getElem_mem (show 2<l.length by omega))
  unfold tI;rw[show aj l (0:Int)=some l[0] from fv l 0,show aj l (2:Int)=some l[2] from fv l 2]
  simp only[qB];rw[Fk a _,iV a Ta _ _,iV a Ta _ _]
  simp only[qB];have f:∀b,Ok (fun v:(Bs×Bs×Bs)×Bool=>v.1.1.length<=10000/\v.1.2.1.length<=10000/\v.1.2.2.length<=10000) (some ((([]:Bs),(l[0].2,l[2].2)),b)):=fun b=>au ⟨Td,Tu,Tu⟩
  exact bg (fun _=>bg (fun _=>bn (fun _=>f _) fun _=>f _) fun _=>bg (fun _=>bn (fun _=>f _) fun _=>f _) fun _=>f _) fun _=>f _
 unfold bG;rw[fh];by_cases c:(l.length:Int)≠3
 ·rw[qX c];exact d _ _ Td
 ·rw[qW c];have c:l.length=3:=Ta
  exact ar (cf (k:=1) Ta) fun _ _=>bg (fun _=>d _ _ Td) fun _=>ar (cf (k:=2) Ta) fun _ _=>bg (fun _=>d _ _ Td) fun _=>ar (cf (k:=0) Ta) fun _ _=>bg (fun _=>ar (cf (k:=0) Ta) fun _ _=>d _ _ fun _=>c) fun _=>d _ _ fun _=>c
def jG(k:Nat)(h:k<100000000:=by omega):ae ((k:Int)-1)=(k:Int)-1:=bq
def qmi(a:Nat)(b:90000000<=a)(l:List cq)(f:bw l<=10000)(k:Nat)(c:k<l.length):Ok db (BQ a l (k:Int)):=by
 have d:=qx l;have:∀n j:Nat,j<n->j<=l.length->Ok db (tG a n l ((j:Int)-1)):=by
  intro n
  induction n with
  |zero=>intro k h;omega|succ n ih=>
   intro j h e;rw[tG,GQ]
   cases j with
   |zero=>rw[bf];exact au trivial|succ j=>
    rw[ag Ta,show((j+1:Nat):Int)-1=(j:Int) by omega,jG j]
    exact ar (cf) fun _ _=>bg (fun _=>au trivial) fun _=>ih j Ta Ta
 unfold BQ;refine ar (cf c) fun _ _=>bg (fun _=>au trivial) fun _ => ?_
 have:=this a (k+1) Ta Ta
 rwa [show((k+1:Nat):Int)-1=(k:Int) by omega]at this
def qoy(d n:Nat)(g:90000000<=d)(l:List cq)(y:bw l<=10000):∀(i:Nat)(c:Bs),l.length-i<n->i<=l.length->c.length<=1001*bw (l.take i)->Ok (fun v=>v.length<=1001*bw l) (tu d n l c (i:Int)):=by
 have z:=qx l
 induction n with
 |zero=>intro i c h;omega|succ n ih=>
  intro i c h I K;rw[tu,G8];have A:=ye l i;refine bn (fun F => ?_) fun _=>au Ta
  have e:i<l.length:=Ta
  have s:∀(j f:Nat)(t:Bs),i<=j->j<l.length->bw (l.take i)+f+1<=bw (l.take (j+1))->t.length<=1000*f->Ok (fun v=>v.length<=1001*bw l) (sI d (tu d n) l c (j:Int) t):=fun j f t p o r G=>by
   have w:=ye l (j+1);unfold sI;rw[bc j]
   have a:Ok (fun v=>v.length<=1001*bw l) (bif decide (List.length c+List.length ([32]:Bs)<=ao) then bif decide (List.length (c++([32]:Bs))+List.length t<=ao) then tu d n l ((c++([32]:Bs))++t) ((j+1:Nat):Int) else none else none):=
    bm Tg (bm Th (ih (j+1) _ Ta Ta Tm))
   have b:Ok (fun v=>v.length<=1001*bw l) (bif decide (List.length c+List.length t<=ao) then tu d n l (c++t) ((j+1:Nat):Int) else none):=
    bm Tl (ih (j+1) _ Ta Ta Tp)
   exact bg (fun _=>a) fun _=>bn (fun _=>bn (fun _=>ar (qmi d g l y j o) fun _ _=>bg (fun _=>a) fun _=>b) fun _=>b) fun _=>b
  have E:=M0 l i e;rw[fv l i e];simp only[qB];refine bg (fun _ => ?_) fun _=>s i l[i].2.length _ (wF _) e Ta Ta
  have C:∀(m j:Nat)(t:Bs),l.length-j<m->i<=j->j<l.length->bw (l.take i)+t.length+1<=bw (l.take (j+1))->Ok (fun v=>v.length<=1001*bw l) (kI d (tu d n) m l c (j:Int) t):=by
   intro m
   induction m with
   |zero=>intro j t h;omega|succ m ihm=>
    intro j t J p o r;have w:=ye l (j+1);rw[kI,G9,bc j]
    have u:∀b,(b=true->j+1<l.length)->Ok (fun v=>v.length<=1001*bw l) (sJ d (tu d n) (kI d (tu d n) m) l c (j:Int) t b):=fun b x=>by
     unfold sJ;refine bg (fun q => ?_) fun _=>ar (quk d g t) fun x1 B=>s j t.length x1 p o r B
     have q:=x q;have H:=M0 l (j+1) q;unfold GA;rw[bc j,fv l (j+1) q,qB]
     exact bm Tg (bm (by simp only[ao,qM,qL,qZ];have:=ye l (j+1+1);omega) (ihm (j+1) _ Ta Ta q Tm))
    exact bn (fun q=>ar (cf (k:=j+1) Ta) fun _ _=>u _ fun _=>Ta) fun _=>u false Td
  exact C d i _ Ta (wF _) e Ta
def S1(a:Nat)(b:90000000<=a)(l:List cq)(c:bw l<=10000:=by omega):Ok (fun v=>v.length<=11000000) (BJ a l):=by
 have:=qx l;exact lv (qoy a a b l c 0 [] Ta Ta Td) fun v d=>Ta
def eQ(a:Bs×Bs×Bs):Prop:=a.1.length<=11000000/\a.2.1.length<=10000/\a.2.2.length<=10000
def Sk(a:Nat)(c:90000000<=a)(l:List cq)(o:bw l<=10000):Ok (fun v=>eQ v.1) (fG a l):=by
 have p:=qx l;have z:Ok (fun v:(Bs×Bs×Bs)×Bool=>eQ v.1) (some ((([]:Bs),(([]:Bs),([]:Bs))),false)):=au ⟨Td,Td,Td⟩
 have:∀n(k:Nat) e,l.length-k<n->Ok (fun v=>eQ v.1) (yy a n l (k:Int) e):=by
  intro n
  induction n with
  |zero=>intro k e h;omega|succ n ih=>
   intro k e h;rw[yy,GR];refine bn (fun A => ?_) fun _=>ar (qbu a c l o) fun x d=>au ⟨Ta,d.2.1,d.2.2⟩
   have f:k<l.length:=Ta
   rw[bc k,jG l.length,fv l k f,qB]
   refine bg (fun _=>ih (k+1) e Ta) fun s => ?_
   rw[show((l.length:Int)-1)=((l.length-1:Nat):Int) by omega,fv l (l.length-1),qB]
   have i:∀b,(b=false->k+1<=l.length-1)->Ok (fun v=>eQ v.1) (tH a (yy a n) l (k:Int) b e):=fun b g=>by
    unfold tH;refine bg (fun _=>z) fun q => ?_
    have g:=g q;unfold GS;rw[bc k,jG l.length]
    have B:=ye (List.drop ((k+1:Nat):Int).toNat l) (((l.length:Int)-1).toNat-((k+1:Nat):Int).toNat);have C:=qcb l ((k+1:Nat):Int).toNat;have u:=ye l (k:Int).toNat;exact bm ⟨Ta,Ta,Ta⟩ (ar (qbu a c _) fun x d=>bm ⟨Ta,Ta⟩ (ar (S1 a c _) fun y r=>au ⟨r,d.2.1,d.2.2⟩))
   refine bg (fun _=>i true Td) fun t => ?_
   have j:l[k].1=60:=by simpa [bne] using s
   have m:(l[l.length-1]' Ta).1=62:=by simpa [bne] using t
   have u:=ye l (k:Int).toNat;refine bm ⟨Ta,Ta⟩ (ar (qdi a c _) fun x _=>i _ fun _ => ?_)
   apply Classical.byContradiction;intro q;have w:k=l.length-1:=Ta
   have:l[k].1=(l[l.length-1]' Ta).1:=by congr 2
   rw[j,m]at this;exact absurd this Tf
 exact this a 0 _ Ta
def yC(x:Bs×Bool×List TP):Prop:=x.1.length<=11000000/\x.2.2.length<=20000/\∀a∈x.2.2,eQ a
def zj(v:Bool×List T6):Prop:=v.2.length<=20000/\∀x∈v.2,yC x
def Sg(b:Bool):zj (b,[]):=⟨Td,Td⟩
def Lr{α:Type}{P:α->Prop}{l:List α}{x:α}(h:∀y∈l,P y)(b:P x):∀y∈l++[x],P y:=fun y a=>by
 rcases List.mem_append.1 a with a|a
 ·exact h y a
 ·rw[List.mem_singleton]at a;subst a;exact b
def qnp(e n:Nat)(l:90000000<=e)(ps:List (List cq))(L:ps.length<=20000)(hp:∀p∈ps,bw p<=10000):∀(i:Nat)(d:List T6),ps.length-i<n->i<=ps.length->d.length<=i->(∀x∈d,yC x)->Ok zj (nk e n (i:Int) ps d):=by
 induction n with
 |zero=>intro i d h;omega|succ n ih=>
  intro i d h V X F;rw[nk,sB];have z:Ok zj (some (false,[])):=au (Sg _);refine bn (fun R=>bm ⟨Ta,Ta⟩ (ar (EQ (P:=fun p=>bw p<=10000) (k:=(i:Int).toNat) Ta hp) fun p B => ?_)) fun _=>au ⟨Tu,F⟩
  have K:=qx p;rw[jG p.length]
  have ib:∀x,yC x->Ok zj (bif decide (List.length (d++[x])<=az) then nk e n (ae ((i:Int)+(1:Int))) ps (d++[x]) else none):=fun x q=>by
   rw[bc i]
   exact bm (pw _ _) (ih (i+1) _ Ta Ta Te (Lr F q))
  have N:∀(g:Bs)(r:List (List cq)),g.length<=11000000->r.length<=20000->(∀q∈r,bw q<=10000)->∀(m j:Nat)(f:List (Bs×Bs×Bs)),r.length-j<m->f.length<=j->j<=r.length->(∀a∈f,eQ a)->Ok zj (sC e (nk e n) m (i:Int) (j:Int) d ps g r f):=by
   intro g r o T s m
   induction m with
   |zero=>intro j f h;omega|succ m ihm=>
    intro j f J U I t;rw[sC,Gv];refine bn (fun S=>bm ⟨Ta,Ta⟩ (ar (EQ (P:=fun p=>bw p<=10000) (k:=(j:Int).toNat) Ta s) fun q A=>ar (Sk e l q A) fun a w=>fa (fun _=>z) fun _ => ?_)) fun _=>ib _ ⟨o,Tu,t⟩
    rw[bc j]
    exact bm (pw _ _) (ihm (j+1) _ Ta Te Ta (Lr t w))
  have C:∀(k:Nat)(b:Bool)(g:Bs),g.length<=11000000->(b=false->k+1<=p.length-1)->Ok zj (kE e (nk e n) (i:Int) p (k:Int) b d ps g):=fun k b g o u=>by
   unfold kE;refine bg (fun _=>z) fun q => ?_
   have u:=u q;unfold Gx;rw[bc k,jG p.length]
   have O:=ye (List.drop ((k+1:Nat):Int).toNat p) (((p.length:Int)-1).toNat-((k+1:Nat):Int).toNat);have Y:=qcb p ((k+1:Nat):Int).toNat;generalize List.take (((p.length:Int)-1).toNat-((k+1:Nat):Int).toNat) (List.drop ((k+1:Nat):Int).toNat p)=inn at O ⊢;have H:=qx inn;exact bm ⟨Ta,Ta,Ta⟩ (bn (fun _=>ar (Qu e l true inn) fun r s=>N g r o Ta (fun q A=>by have:=s.2 q A;omega) e 0 [] Ta Td Ta Td) fun _=>ib _ ⟨o,Td,Td⟩)
  have M:∀(m j:Nat)(c:Int),j<m->j<=p.length->(c = -1\/∃k:Nat,c=(k:Int)/\∃h:k<p.length,p[k].1=58)->Ok zj (yq e (nk e n) m (i:Int) p c ((j:Int)-1) ps d):=by
   intro m
   induction m with
   |zero=>intro j c h;omega|succ m ihm=>
    intro j c J I E;rw[yq,Gu]
    cases j with
    |zero=>
     rw[bf]
     refine bn (fun _=>ar (Sk e l p B) fun a w=>fa (fun _=>z) fun _=>ib _ ⟨Td,Td,fun b u => ?_⟩) fun y => ?_
     ·simp only[List.mem_singleton]at u;subst u;exact w
     ·rcases E with rfl|⟨k,rfl,W,v⟩
      ·exact absurd Tf y
      ·have Z:=ye p (k:Int).toNat;refine bm ⟨Ta,Ta⟩ (ar (S1 e l _) fun g o=>bm ⟨Ta,Ta⟩ (ar (qdi e l _) fun x _=>fa (fun _=>C k true g o Td) fun _=>bg (fun _=>C k true g o Td) fun _ => ?_))
       rw[jG p.length,show((p.length:Int)-1)=((p.length-1:Nat):Int) by omega,fv p (p.length-1),qB]
       refine C k _ g o fun q => ?_
       have G:(p[p.length-1]' Ta).1=59:=by simpa [bne] using q
       apply Classical.byContradiction;intro q;have Q:k=p.length-1:=Ta
       have:p[k].1=(p[p.length-1]' Ta).1:=by congr 2
       rw[v,G]at this;exact absurd this Tf
    |succ j=>
     rw[ag Ta,show((j+1:Nat):Int)-1=(j:Int) by omega,fv p j,qB]
     unfold BF;rw[jG j]
     exact bg (fun q=>ihm j _ Ta Ta (.inr ⟨j,rfl,Ta,by simpa using q⟩)) fun _=>ihm j _ Ta Ta E
  exact M e p.length (-1) Ta (wF _) (.inl rfl)
def qnq(a:Nat)(c:90000000<=a)(s:Bs)(g:s.length<=4000:=by omega):Ok zj (kC a s):=by
 unfold kC;refine ar (qt4 a c s g) fun x j => ?_
 have i:=qx x.2;have d:∀b,Ok zj (kD a x.1 b x.2):=fun b=>by
  unfold kD BE;exact bg (fun _=>au (Sg _)) fun _=>ar (Qu a c false x.2) fun h e=>qnp a a c h Ta (fun p f=>by have:=e.2 p f;omega) 0 [] Ta Ta Td Td
 exact fa (fun _=>d _) fun _=>d _
def Q8(a:Nat)(b:90000000<=a)(s:Bs):Ok db (yx a s):=by
 unfold yx;refine bn (fun _=>au trivial) fun h => ?_
 rw[Mo a Ta s,qB]
 exact bg (fun _=>au trivial) fun _=>au trivial
def jb(l d:Bs):Bs:=bif fc dc true l then(l++[64])++d else((34::(de l++[34]))++[64])++d
def qk(s:Bs):Prop:=∃l d,ji l=true/\ie d=true/\s=jb l d
def nW(s:Bs):(de s).length<=3*s.length:=by
 have c:=List.count_le_length (a:=(92:UInt8)) (l:=s);have d:=List.count_le_length (a:=(34:UInt8)) (l:=s);have:(de s).length=_:=hK (a:=92) (b:=34) Tf 92 92 92 34 s
 unfold iy at this;omega
def Mu(l d:Bs):(jb l d).length<=3*l.length+d.length+3:=by
 have:=nW l;unfold jb;cases fc dc true l<;>simp only[qT,qF,qM,qL,qZ]<;>omega
def iG{s:Bs}(h:ji s=true):s.length<=60:=by
 unfold ji at h;simp only[qA,decide_eq_true_iff]at h;exact h.1.2
def hJ{s:Bs}(h:ie s=true):s.length<=60:=by
 unfold ie at h;simp only[qA,decide_eq_true_iff]at h;exact h.1
def qbt{s:Bs}(h:qk s):s.length<=243:=by
 obtain⟨l,d,b,a,rfl⟩:=h;have c:=iG b;have e:=hJ a;have:=Mu l d;omega
def PA(a:Nat)(b:90000000<=a)(n l d:Bs)(c:l.length<=100000:=by omega)(e:d.length<=100000:=by omega):lE a (n,(l,d))=some (jb l d):=by
 have:=nW l;unfold lE jb;rw[qlo a b l c,qB];cases fc dc true l
 ·rw[qF,qF,(qag l c).1,qB,ag Th,ag Th]
 ·rw[qT,qT,ag Tg,ag Th]
def K2(c:UInt8)(w:Bs):de (c::w)=(bif c==34||c==92 then[92,c] else[c])++de w:=by
 show fk 92 34 [92,92] [92,34] (c::w)=_;unfold fk;rw[List.flatMap_cons];congr 1;unfold nz;by_cases a:c=92
 ·subst a;rfl
 ·by_cases b:c=34
  ·subst b;rfl
  ·have d:(c==92)=false:=by simpa using a
   have e:(c==34)=false:=by simpa using b
   simp only[a,b,if_false,d,e,Bool.or_self,qF]
def zK(a:Bs)(c:UInt8)(r:Bs)(h:a.length<100000000:=by omega):List.take ((ae ((a.length:Int)+(1:Int))).toNat-(a.length:Int).toNat) (List.drop (a.length:Int).toNat (a++c::r))=[c]:=by
 rw[bc _,show((a.length+1:Nat):Int).toNat-(a.length:Int).toNat=1 by omega,show(a.length:Int).toNat=a.length by omega,List.drop_left];rfl
def qru(g n:Nat):∀(e d a:Bs),d.length<n->e.length+d.length<=100000->a.length<=1+3*e.length->kJ g n (e++d) a (e.length:Int)=some (a++(de d++[34])):=by
 induction n with
 |zero=>intro e d a h;omega|succ n f=>
  intro e d a h i k;rw[kJ,GE]
  cases d with
  |nil=>
   simp only[qZ]at i;rw[bf,ag Tg];rfl
  |cons c d=>
   simp only[qL]at h i;have f:=fun a=>f (e++[c]) d a Ta Te
   simp only[qM,qL,qZ,qS,wM,wO]at f;rw[ag Tk,dp]
   simp only[qB];have j:∀b,sO g (kJ g n) (e++c::d) a (e.length:Int) b=some (a++(((bif b then[92,c] else[c])++de d)++[34])):=fun b=>by
    unfold sO;rw[zK e c d,bc _]
    cases b
    ·rw[qF,ag ⟨Ta,Ta,Tk⟩,ag Tg,f _ Te]
     simp
    ·rw[qT,ag Tg,ag ⟨Ta,Ta,Tk⟩,ag Th,f _ Te]
     simp
   rw[j,j,K2];cases c==34<;>rfl
def qrt(a:Nat)(s:Bs)(h:s.length<a)(b:s.length<=100000):GD a s=some (34::(de s++[34])):=by
 have:=qru a a [] s [34] h (by simpa using b) Td
 exact this
def qbb(a:Nat)(b:90000000<=a)(n l d:Bs)(c:l.length<=100000:=by omega)(e:d.length<=100000:=by omega):BM a (n,(l,d))=some (jb l d):=by
 have:=nW l;unfold BM jb;rw[iV a Ta l false,qB]
 simp only[wJ,if_false];cases fc dc true l
 ·rw[qF,qF,qrt a l Ta c,qB,ag Th,ag Th]
 ·rw[qT,qT,ag Tg,ag Th]
def zP{p:UInt8->Bool}:∀{s:Bs}{e:Bool},fc p e s=true->(e=true->s≠[])/\∀c∈s,p c=true\/c=46
 |[],true,h=>by cases h
 |[],false,h=>⟨(fun q=>by cases q),fun c b=>by cases b⟩
 |c::s,e,h=>by
  refine⟨fun _=>List.cons_ne_nil _ _,fun d a => ?_⟩
  rw[fc]at h;by_cases q:c=46
  ·subst q;rw[show((46:UInt8)==46)=true from rfl,qT,qA]at h
   rcases List.mem_cons.1 a with rfl|a
   ·exact .inr rfl
   ·exact(zP h.2).2 d a
  ·rw[show(c==46)=false by simpa using q,qF,qA]at h
   rcases List.mem_cons.1 a with rfl|a
   ·exact .inl h.1
   ·exact(zP h.2).2 d a
def qu3{c:UInt8}(h:dc c=true\/c=46):dx c=true:=by
 rcases h with h|rfl
 ·exact PD h
 ·exact FG
def qu1{c:UInt8}(h:iz c=true\/c=46):dx c=true:=by
 rcases h with h|rfl
 ·exact QB h
 ·exact FG
def qu0:∀n:_root_.Fin 256,dx (UInt8.ofNat n.val)=true->bl (UInt8.ofNat n.val)=false/\(UInt8.ofNat n.val==40)=false/\(UInt8.ofNat n.val==34)=false:=by decide +kernel
def qu2{c:UInt8}(h:dx c=true):bl c=false/\(c==40)=false/\(c==34)=false:=o8 (fun c=>dx c=true->bl c=false/\(c==40)=false/\(c==34)=false) qu0 c h
def qt8(e:Nat)(n:90000000<=e)(r0:Bs->Int->List cq->Option (Bool×List cq))(R:Bs)(k:∀c r,R=c::r->dx c=false)(d:List cq)(p:d.length<=1000)(m:Nat):∀(b w a:Bs),w.length<m->b.length+w.length+R.length<=100000->a.length<=b.length->(∀c∈w,dx c=true) ->
  ni e r0 m (b++(w++R)) (b.length:Int) a d=r0 (b++(w++R)) ((b.length+w.length:Nat):Int) (d++[(119,a++w)]):=by
 induction m with
 |zero=>intro b w a h;omega|succ m ih=>
  intro b w a h l i j;rw[ni,rK]
  cases w with
  |nil=>
   have g:rg e r0 (ni e r0 m) (b++([]++R)) (b.length:Int) a false d=r0 (b++([]++R)) ((b.length+([]:Bs).length:Nat):Int) (d++[(119,a++[])]):=by
    unfold rg;rw[aq rfl,ag (pw _ _)];simp
   cases R with
   |nil=>rw[bf];exact g|cons c R=>
    have f:=k c R rfl;unfold dx at f;rw[Bool.or_eq_false_iff]at f;rw[ag Tk,List.nil_append,dp,qB,cK e Ta,qB,f.1,qF,qB,f.2]
    exact g
  |cons c w=>
   simp only[qL]at h l;rw[wK,ag Tk,dp,qB,cK e Ta,qB]
   have g:rg e r0 (ni e r0 m) (b++c::(w++R)) (b.length:Int) a true d=r0 (b++c::(w++R)) ((b.length+(c::w).length:Nat):Int) (d++[(119,a++c::w)]):=by
    unfold rg rL;rw[ax rfl,zK b c _,bc _,ag ⟨Ta,Ta,Tk⟩,ag Tg]
    have:=ih (b++[c]) w (a++[c]) Ta Te Te (fun x o=>j x (qE _ o))
    simp only[qM,qL,qZ,qS,wM,wO]at this;rw[this,qL,show b.length+1+w.length=b.length+(w.length+1) by omega]
   have f:=j c qH;unfold dx at f;cases i:dc c
   ·rw[i,Bool.false_or]at f;rw[qF,qB,f];exact g
   ·exact g
def qcr(d:Nat)(g:90000000<=d)(n:Nat)(b w R:Bs)(a:List cq)(i:∀c∈w,dx c=true)(o:w≠[])(p:∀c r,R=c::r->dx c=false)(h:b.length+w.length+R.length<=100000)(s:a.length<=1000) :
  dh d (n+1) (b++(w++R)) (b.length:Int) a=dh d n (b++(w++R)) ((b.length+w.length:Nat):Int) (a++[(119,w)]):=by
 have e:=qt8 d g (dh d n) R p a s d b w [] Ta h Td i
 rw[dh,eS]
 cases w with
 |nil=>exact absurd rfl o|cons c w=>
  simp only[qL]at h;have f:=i c qH;obtain⟨k,l,m⟩:=qu2 f;rw[ag Tk,wK,dp,qB,oW,qB,k,l,m,cK d Ta,qB]
  simp only[qF];rw[wK]at e;have j:bB d (dh d n) (b++c::(w++R)) (b.length:Int) c true a=dh d n (b++c::(w++R)) ((b.length+(c::w).length:Nat):Int) (a++[(119,c::w)]):=by
   unfold bB;rw[ax rfl,e];rfl
  unfold dx at f;cases q:dc c
  ·rw[q,Bool.false_or]at f;rw[qF,f];exact j
  ·exact j
def qt1(c:Nat)(d:90000000<=c)(n:Nat)(b R:Bs)(a:List cq)(e:b.length+R.length<=100000:=by omega)(f:a.length<=1000:=by omega) :
  dh c (n+1) (b++64::R) (b.length:Int) a=dh c n (b++64::R) ((b.length+1:Nat):Int) (a++[(64,[])]):=by
 rw[dh,eS];rw[ag Tk,dp,qB,oW,qB,show bl 64=false from rfl,show((64:UInt8)==40)=false from rfl,show((64:UInt8)==34)=false from rfl,cK c Ta,qB,show dc 64=false by decide +kernel]
 simp only[qF];unfold bB;rw[show((64:UInt8)==46)=false from rfl,aq rfl,LF c _ _ Te Td,qB,ax Tf,ag (pw _ _),bc _]
def qt6(e:Nat)(j:90000000<=e)(r0:Bs->Int->List cq->Option (Bool×List cq))(R:Bs)(d:List cq)(n:d.length<=1000)(m:Nat):∀(b w a:Bs),w.length<m->b.length+3*w.length+R.length<=100000->a.length<=b.length ->
  tn e r0 m (b++(de w++34::R)) (b.length:Int) a d=r0 (b++(de w++34::R)) ((b.length+(de w).length+1:Nat):Int) (d++[(113,a++w)]):=by
 induction m with
 |zero=>intro b w a h;omega|succ m ih=>
  intro b w a h i l;rw[tn,B6]
  cases w with
  |nil=>
   rw[show de []=[] from rfl,List.nil_append,ag Tk,dp,qB,show((34:UInt8) != 34)=false from rfl]
   unfold bC;rw[aq rfl,bf Tk,ag (pw _ _),bc _]
   simp
  |cons c w=>
   simp only[qL]at h i;have q:=nW w;rw[K2];have f:∀(p:Bs),p.length<=b.length+1->eV e r0 (tn e r0 m) (p++c::(de w++34::R)) (p.length:Int) a d=tn e r0 m (p++c::(de w++34::R)) ((p.length+1:Nat):Int) (a++[c]) d:=fun p o=>by
    unfold eV;rw[zK p c _,bc _,ag ⟨Ta,Ta,Tk⟩,ag Tg]
   cases g:(c==34||c==92)
   ·rw[Bool.or_eq_false_iff]at g;rw[qF,wM,wK,ag Tk,dp,qB,show(c != 34)=true by rw[bne,g.1];rfl]
    unfold bC rO;rw[ax rfl,dp,qB,g.2,qF];unfold jW;rw[aq rfl,f b Ta]
    have:=ih (b++[c]) w (a++[c]) Ta Te Te
    simp only[qM,qL,qZ,qS,wM,wO]at this;rw[this];simp only[qL];congr 1;omega
   ·have k:(c==34||c==92)=true:=g;simp only[qT,wK,List.nil_append];rw[ag Tk,dp,qB,show((92:UInt8) != 34)=true from rfl]
    unfold bC rO;rw[ax rfl,dp,qB,show((92:UInt8)==92)=true from rfl,qT,bc _]
    unfold jW;rw[ax (by rw[decide_eq_true_iff];simp only[qM,qL];omega),bc _]
    have:=f (b++[92]) Td
    simp only[qM,qL,qZ,qS,wM,wO]at this;rw[this];have:=ih (b++[92,c]) w (a++[c]) Ta Te Te
    simp only[qM,qL,qZ,qS,wM,wO,wK,List.nil_append]at this ⊢;rw[this];congr 1;omega
def qt3(c:Nat)(d:90000000<=c)(n:Nat)(b w R:Bs)(a:List cq)(f:b.length+1+3*w.length+R.length<=100000)(e:a.length<=1000) :
  dh c (n+1) (b++34::(de w++34::R)) (b.length:Int) a=dh c n (b++34::(de w++34::R)) ((b.length+1+(de w).length+1:Nat):Int) (a++[(113,w)]):=by
 have g:=nW w;rw[dh,eS];rw[ag Tk,dp,qB,oW,qB,show bl 34=false from rfl,show((34:UInt8)==40)=false from rfl,show((34:UInt8)==34)=true from rfl]
 simp only[qF,qT];have:=qt6 c d (dh c n) R a e c (b++[34]) w [] Ta Te Td
 simp only[qM,qL,qZ,qS,wM,wO,List.nil_append]at this;rw[bc _,this]
def f8(l d:Bs):List cq:=[((bif fc dc true l then 119 else 113),l),(64,[]),(119,d)]
def qt5(a:Nat)(e:90000000<=a)(l d:Bs)(p:l.length<=60)(i:ie d=true):rJ a (jb l d)=some (true,f8 l d):=by
 have u:=hJ i;have x:=nW l;unfold ie at i;rw[qA]at i;obtain⟨j,k⟩:=zP i.2;have j:=j rfl;have k:∀c∈d,dx c=true:=fun c m=>qu1 (k c m)
 obtain⟨n,rfl⟩:∃n,a=n+1+1+1+1:=⟨a-4,Ta⟩
 unfold rJ jb f8;generalize o:n+1+1+1+1=a at e;have h:∀(g:Bs)(b:List cq),g.length<=1000->b.length<=10->dh a (n+1+1+1) ((g++[64])++d) (g.length:Int) b=some (true,b++[(64,[]),(119,d)]):=fun g b w v=>by
  rw[qS,wM,qt1 a e _ g d b]
  have:=qcr a e (n+1) (g++[64]) d [] (b++[(64,[])]) k j (fun c r q=>by cases q) Te Te
  rw[List.append_nil,qS,wM,qM,wD]at this;rw[this,dh,eS,bf Tk]
  simp
 cases p:fc dc true l
 ·rw[qF,qF];have:=qt3 a e (n+1+1+1) [] l ([64]++d) [] Te Td
  simp only[List.nil_append,qZ,wO]at this;rw[show(34::(de l++[34])++[64])++d=34::(de l++34::([64]++d)) by simp]
  rw[show dh a a=dh a (n+1+1+1+1) by rw[o]]
  refine Eq.trans this ?_;have f:=h (34::(de l++[34])) [(113,l)] Te Td
  rw[show(34::(de l++[34])++[64])++d=34::(de l++34::([64]++d)) by simp]at f
  refine Eq.trans ?_ f;congr 2;simp only[qL,qM,qZ];omega
 ·rw[qT,qT];obtain⟨s,t⟩:=zP p;have:=qcr a e (n+1+1+1) [] l ([64]++d) [] (fun c m=>qu3 (t c m)) (s rfl) (fun c r q=>by injection q with q _;subst q;decide +kernel) Te Td
  simp only[List.nil_append,qZ,wO]at this;rw[show dh a a=dh a (n+1+1+1+1) by rw[o],qS]
  refine Eq.trans this ?_;have f:=h l [(119,l)] Ta Td
  rw[qS]at f;exact f
def mL(x:Bs×Bool×List TP):Prop:=(x.2.1=false->x.2.2.length=1)/\∀a∈x.2.2,ji a.2.1=true/\ie a.2.2=true
def qh4(b:Nat)(c:90000000<=b)(a:Bs×Bs×Bs)(h:eQ a):Ok (fun f=>f.1=0->ji a.2.1=true/\ie a.2.2=true) (jV b a):=by
 obtain⟨_,k,l⟩:=h;unfold jV;rw[Fk b _,iV b Ta _ _]
 simp only[if_true];obtain⟨d,g,_⟩:=Q8 b c a.1;rw[g];simp only[qB];refine bg (fun q=>⟨_,rfl,fun e => ?_⟩) fun _=>fa (fun _=>⟨_,rfl,fun q=>absurd q Tf⟩) fun i=>bn (fun _=>⟨_,rfl,fun q=>absurd q Tf⟩) fun m=>fa (fun _=>⟨_,rfl,fun q=>absurd q Tf⟩) fun j=>au fun _=>⟨i,?_⟩
 ·simp only[]at e;rw[e]at q;exact absurd q Tf
 ·unfold ie;rw[j,decide_eq_true (show a.2.2.length<=60 by omega)];rfl
def qni(c n:Nat)(r:90000000<=c)(l:List T6)(L:l.length<=20000)(F:∀x∈l,yC x)(z:Int×Int):∀k:Nat,l.length-k<n->k<=l.length->Ok (fun f=>f.1=0->∀x∈l.drop k,mL x) (nj c n l (k:Int) z):=by
 induction n with
 |zero=>intro k h;omega|succ n ih=>
  intro k h K;rw[nj,rZ];refine bn (fun H => ?_) fun _=>au fun _=>by rw[List.drop_eq_nil_of_le Ta];simp
  have g:k<l.length:=Ta
  rw[fv l k g,qB,List.drop_eq_getElem_cons g];have i:=F l[k] (List.getElem_mem g);generalize l[k]=x at i ⊢;obtain⟨I,E,A⟩:=i;have u:∀b,(b=false->(x.2.1=false->x.2.2.length=1))->Ok (fun f:Int×Int=>f.1=0->∀y∈x::l.drop (k+1),mL y) (tp c (nj c n) l (k:Int) b z x):=fun b w=>by
   unfold tp;refine bg (fun _=>⟨_,rfl,fun q=>by simp at q⟩) fun q => ?_
   have w:=w q;unfold BD;have G:∀m j:Nat,x.2.2.length-j<m->j<=x.2.2.length->(∀a∈x.2.2.take j,ji a.2.1=true/\ie a.2.2=true)->Ok (fun f:Int×Int=>f.1=0->∀y∈x::l.drop (k+1),mL y) (vy c (nj c n) m l (k:Int) (j:Int) z x):=by
    intro m
    induction m with
    |zero=>intro j h;omega|succ m ihm=>
     intro j M J v;rw[vy,sA];refine bn (fun B => ?_) fun B => ?_
     ·have e:j<x.2.2.length:=Ta
      rw[fv _ j e,qB,bc j]
      refine ar (qh4 c r _ (A _ (List.getElem_mem e))) fun f p=>bg (fun q=>⟨_,rfl,fun s => ?_⟩) fun q=>ihm (j+1) Ta Ta ?_
      ·simp only[]at s;rw[s]at q;exact absurd q Tf
      ·have p:=p (by simpa [bne] using q)
       rw[List.take_add_one,List.getElem?_eq_getElem e];exact Lr v p
     ·rw[bc k]
      refine lv (ih (k+1) Ta Ta) fun f p q => ?_
      intro y i;rcases List.mem_cons.1 i with rfl|i
      ·rw[List.take_of_length_le Ta]at v
       exact⟨w,v⟩
      ·exact p q y i
   exact G c 0 Ta Ta Td
  obtain⟨d,C,_⟩:=Q8 c r x.1;rw[C];simp only[qB];refine bg (fun q=>⟨_,rfl,fun s => ?_⟩) fun _=>bg (fun t=>bg (fun _=>u true Td) fun _=>fa (fun o=>by rw[t]at o;cases o) fun _=>u false fun _ q=>by rw[t]at q;cases q) fun t=>fa (fun _=>fa (fun _=>u true Td) fun _=>u _ fun q _ => ?_) fun o=>by rw[t]at o;cases o
  ·simp only[]at s;rw[s]at q;exact absurd q Tf
  ·have:(x.2.2.length:Int)=1:=by simpa [bne] using q
   omega
def qnj(a:Nat)(d:90000000<=a)(l:List T6)(g:l.length<=20000)(i:∀x∈l,yC x):Ok (fun f=>f.1=0->∀x∈l,mL x) (rX a l):=by
 have e:∀b z,Ok (fun f=>f.1=0->∀x∈l,mL x) (kB a l b z):=fun b z=>by
  unfold kB BC;refine bg (fun _=>⟨_,rfl,fun q=>absurd q Tf⟩) fun _ => ?_
  have:=qni a a d l g i z 0 Ta Ta
  simpa using this
 have j:∀(n k:Nat)(c:Int) z,l.length-k<n->Ok (fun f=>f.1=0->∀x∈l,mL x) (bD a n l c (k:Int) z):=by
  intro n
  induction n with
  |zero=>intro k c z h;omega|succ n ih=>
   intro k c z h;rw[bD,rY];refine bn (fun m=>ar (cf (k:=k) Ta) fun x _ => ?_) fun _=>bn (fun _=>e _ _) fun _=>e _ _
   rw[bc k]
   exact ih (k+1) _ z Ta
 exact j a 0 0 _ Ta
def Q9(a:Nat)(b:90000000<=a):yx a []=some 0:=by
 unfold yx;rw[bf,Mo a Ta [] Te Td,qB,show Lib.validD []=true by rfl]
 rfl
def qh3(a:Nat)(c:90000000<=a)(l d:Bs)(e:ji l=true)(b:ie d=true):jV a ([],(l,d))=some (0,0):=by
 have f:=iG e;have g:=hJ b;unfold ie at b;rw[qA]at b;unfold jV;dsimp only;rw[Q9 a c,qB,aq,Fk a _,qB,e,aq,bf,iV a Ta _ _,qB,qX rfl,b.2,aq]
abbrev di(l d:Bs):Bs×Bool×List TP:=([],(false,[([],(l,d))]))
def qnh(c:Nat)(e:90000000<=c)(l d:Bs)(j:ji l=true)(i:ie d=true):rX c [di l d]=some (0,0):=by
 have a:=qh3 c e l d j i;have b:=Q9 c e;obtain⟨n,f⟩:∃n,c=n+1+1:=⟨c-2,Ta⟩
 have k:∀F:Nat->Nat->List (Bs×Bool×List (Bs×Bs×Bs))->Int->Int->(Int×Int)->Option (Int×Int),F c c=F c (n+1+1):=fun F=>by rw[← f]
 unfold rX;rw[k bD];have g:nj c (n+1+1) [di l d] 0 (0,0)=some (0,0):=by
  rw[nj,rZ,ag Td,show aj [di l d] (0:Int)=some (di l d) from rfl,qB]
  dsimp only[di];rw[b];simp only[qB];rw[aq,aq rfl,ax,aq]
  unfold tp BD;rw[aq]
  have h:vy c (nj c (n+1)) (n+1+1) [di l d] 0 0 (0,0) (di l d)=some (0,0):=by
   rw[vy,sA,ag (by simp[di]),show aj (di l d).2.2 (0:Int)=some ([],(l,d)) from rfl,qB,a,qB,aq,show ae ((0:Int)+1)=1 from rfl,vy,sA,bf (by simp[di]),show ae ((0:Int)+1)=1 from rfl,nj,rZ,bf]
  rw[show vy c (nj c (n+1)) c=vy c (nj c (n+1)) (n+1+1) by rw[← f]]
  exact h
 rw[bD,rY,ag Td,show aj [di l d] (0:Int)=some (di l d) from rfl,qB,bD,rY,bf (by rw[show ae ((0:Int)+1)=1 from rfl];simp),bf]
 unfold kB;rw[show(decide ((60:Int)<ae (0+((di l d).2.2.length:Int))))=false from rfl,aq rfl]
 unfold BC;rw[show nj c c=nj c (n+1+1) by rw[← f]]
 exact g
def qrw(a:Nat)(g:90000000<=a)(l d:Bs)(c:ji l=true)(b:ie d=true):bG a (f8 l d)=some (([],(l,d)),true):=by
 have i:=iG c;have j:=hJ b;unfold ie at b;rw[qA]at b;have h:∀z,tI a (f8 l d) z=some (([],(l,d)),true):=fun z=>by
  unfold tI;rw[show aj (f8 l d) (0:Int)=some ((bif fc dc true l then 119 else 113),l) from rfl,show aj (f8 l d) (2:Int)=some (119,d) from rfl]
  simp only[qB];rw[Fk a _,qB,c,qT,iV a Ta _ _,iV a Ta _ _,qX rfl,b.2,ag Ta]
  simp only[wJ,if_false,qB];cases fc dc true l<;>rfl
 unfold bG;have f:aj (f8 l d) (0:Int)=some ((bif fc dc true l then 119 else 113),l):=rfl
 rw[aq,show aj (f8 l d) (1:Int)=some (64,[]) from rfl,qB,aq,show aj (f8 l d) (2:Int)=some (119,d) from rfl,qB,aq,f]
 simp only[qB];have e:∀z,wa a (f8 l d) false z=some (([],(l,d)),true):=fun z=>by
  unfold wa;rw[aq rfl];exact h z
 cases fc dc true l
 ·exact e ([],([],[]))
 ·exact e ([],([],[]))
def qnr(a:Nat)(b:90000000<=a)(l d:Bs)(g:ji l=true)(f:ie d=true):kC a (jb l d)=some (true,[di l d]):=by
 have h:=iG g;have sp:=qrw a b l d g f;obtain⟨n,e⟩:∃n,a=n+1+1+1+1:=⟨a-4,Ta⟩
 have j:fG a (f8 l d)=some (([],(l,d)),true):=by
  unfold fG;rw[show yy a a=yy a (n+1+1+1+1) by rw[← e]]
  have:yy a (n+1+1+1+1) (f8 l d) 0 ([],([],[]))=(bG a (f8 l d)).bind fun x4=>some x4:=by
   unfold f8;cases fc dc true l<;>rfl
  rw[this,sp];rfl
 have i:kL a (f8 l d) false=some [f8 l d]:=by
  unfold kL;rw[show rl a a=rl a (n+1+1+1+1) by rw[← e]]
  unfold f8;cases fc dc true l<;>rfl
 unfold kC;rw[qt5 a b l d h f,qB,aq]
 unfold kD;rw[aq]
 unfold BE;dsimp only;rw[i,qB];have k:∀c,yq a c (n+1+1+1+1) 0 (f8 l d) (-1) 2 [f8 l d] []=c 1 [f8 l d] [di l d]:=fun c=>by
  have:yq a c (n+1+1+1+1) 0 (f8 l d) (-1) 2 [f8 l d] []=(fG a (f8 l d)).bind fun x2=>bif !x2.2 then some (false,[]) else bif decide (List.length (([]:List (Bs×Bool×List (Bs×Bs×Bs)))++([(([]:Bs),(false,([x2.1]:List (Bs×Bs×Bs))))]:List (Bs×Bool×(List (Bs×Bs×Bs)))))<=az) then c (ae (0+(1:Int))) [f8 l d] ([]++([(([]:Bs),(false,([x2.1]:List (Bs×Bs×Bs))))]:List (Bs×Bool×(List (Bs×Bs×Bs))))) else none:=by
   unfold f8;cases fc dc true l<;>rfl
  rw[this,j,qB,aq,ag (pw _ _ Td)];rfl
 rw[show nk a a=nk a (n+1+1+1+1) by rw[← e],nk,sB,ag Td,ag ⟨Tf,Td⟩,show([f8 l d])[(0:Int).toNat]? = some (f8 l d) from rfl,qB,show ae (((f8 l d).length:Int)-1)=2 from rfl]
 rw[show yq a (nk a (n+1+1+1)) a=yq a (nk a (n+1+1+1)) (n+1+1+1+1) by rw[← e],k]
 rw[nk,sB,bf]
def KV(b:Nat)(a:90000000<=b){s:Bs}(hp:qk s):qd b s=some true:=by
 have f:=qbt hp;obtain⟨l,d,e,c,rfl⟩:=hp;have g:=iG e;have h:=hJ c;unfold qd;rw[bf,qnr b a l d e c,qB,ax rfl,qnh b a l d e c,qB,ax,ax,ag ⟨Tf,Td⟩,show([di l d])[(0:Int).toNat]? = some (di l d) from rfl,qB,ax,ag ⟨Tf,Td⟩,qB,show aj (di l d).2.2 (0:Int)=some ([],(l,d)) from rfl,qB,ax,ag ⟨Tf,Td⟩,qB]
 rw[show aj (di l d).2.2 (0:Int)=some ([],(l,d)) from rfl,qB,qbb b a [] l d,qB]
 simp
def qng(e:Nat)(c:90000000<=e)(s:Bs):Ok (fun b=>b=true↔qk s) (qd e s):=by
 by_cases h:qk s
 ·exact⟨true,KV e c h,fun _=>h,fun _=>rfl⟩
 ·have g:Ok (fun b=>b=true↔qk s) (some false):=au ⟨fun q=>(by cases q),fun q=>absurd q h⟩
  unfold qd;refine bn (fun _=>g) fun C=>ar (qnq e c s) fun x k=>bg (fun _=>ar (qnj e c x.2 k.1 k.2) fun f j=>bg (fun v=>bg (fun z => ?_) fun _=>g) fun _=>g) fun _=>g
  have j:=j (by simpa using v)
  have t:x.2.length=1:=by
   have:(x.2.length:Int)=1:=by simpa using z
   omega
  obtain⟨y,m⟩:∃y,x.2=[y]:=by
   match x.2,t with|[w],_=>exact⟨w,rfl⟩
  have B:=k.2 y (by rw[m];simp)
  have r:=j y (by rw[m];simp)
  rw[m,ag ⟨Tf,Td⟩,show([y])[(0:Int).toNat]? = some y from rfl]
  simp only[qB];refine fa (fun A=>bm ⟨Tf,Td⟩ ?_) fun _=>g
  have u:=r.1 A;obtain⟨a,i⟩:∃a,y.2.2=[a]:=by
   match y.2.2,u with|[w],_=>exact⟨w,rfl⟩
  have o:=B.2.2 a (by rw[i];simp)
  have p:=r.2 a (by rw[i];simp)
  rw[i,show aj [a] (0:Int)=some a from rfl]
  simp only[qB];refine bg (fun _=>bm ⟨Tf,Td⟩ ?_) fun _=>g
  obtain⟨n,l,d⟩:=a;rw[qbb e c n l d (by have:=o.2.1;simp only at this;omega) (by have:=o.2.2;simp only at this;omega),qB]
  exact au ⟨fun q=>⟨l,d,p.1,p.2,(beq_iff_eq.1 q).symm⟩,fun q=>absurd q h⟩
end Go.Sym
