/- What the claim rests on, part 6: gathered texts. -/
import Derived.Lib.CountLaws
import Derived.Lib.IndexLaws
import Derived.Lib.Join
import Derived.Test.YtekaipjfmlnggaaGreatDoorSyO4
set_option maxRecDepth 100000
set_option linter.defProp false
set_option linter.unusedSimpArgs false
set_option linter.unusedVariables false
namespace Go.Sym
def au{x:Int}(a : -9223372036854775808<=x:=by omega)(b:x<9223372036854775808:=by omega):ae x=x:=by
 unfold ae IntKind.wrap;simp[IntKind.signed,IntKind.bits];omega
def aq{α:Type}{b:Bool}{x y:α}(h:b=true:=by first|rfl|simp;done):(bif b then x else y)=x:=by subst h;rfl
def am{α:Type}{b:Bool}{x y:α}(h:b=false:=by first|rfl|simp;done):(bif b then x else y)=y:=by subst h;rfl
def ir{α:Type}{p:Prop}[Decidable p]{x y:α}:(bif decide p then x else y)=if p then x else y:=by by_cases h:p<;>simp[h]
def ap{α:Type}{p:Prop}[Decidable p]{x y:α}(h:p:=by first|omega|simp;done|simp;omega):(bif decide p then x else y)=x:=aq (decide_eq_true h)
def bi{α:Type}{p:Prop}[Decidable p]{x y:α}(h:¬p:=by first|omega|simp;done|simp;omega):(bif decide p then x else y)=y:=am (decide_eq_false h)
def jw{α:Type}{p:Prop}[Decidable p]{x y:α}:(bif !decide p then x else y)=if p then y else x:=by by_cases h:p<;>simp[h]
def qjg{α:Type}{b:Bool}{x y:α}:(bif !b then x else y)=if b=false then x else y:=by cases b<;>rfl
def qjd{α:Type}{b:Bool}{x y:α}:(bif b then x else y)=if b=true then x else y:=by cases b<;>rfl
def gc{α:Type}{a b:Int}{x y:α}:(bif a != b then x else y)=if a≠b then x else y:=by
 by_cases h:a=b
 ·rw[am (by simp[h]),qW (by simp[h])]
 ·rw[aq (by simp[h]),qX h]
def lh{α:Type}{a b:Int}{x y:α}:(bif a==b then x else y)=if a=b then x else y:=by
 by_cases h:a=b
 ·rw[aq (by simp[h]),qX h]
 ·rw[am (by simp[h]),qW h]
def qje{α:Type}{a b:UInt8}{x y:α}:(bif a==b then x else y)=if a=b then x else y:=by
 by_cases h:a=b
 ·rw[aq (by simp[h]),qX h]
 ·rw[am (by simp[h]),qW h]
def Mk{α:Type}{p:Prop}[Decidable p]{x y:α}:(if p then some x else some y)=some (if p then x else y):=by split<;>rfl
def zq{α β:Type}(l:List α)(i:Int)(f:α->Option β):(bif decide (0<=i/\i.toNat<List.length l) then(l[i.toNat]?).bind f else none)=(ak l i).bind f:=by
 unfold ak;by_cases h:0<=i
 ·by_cases a:i.toNat<l.length
  ·simp[h,a]
  ·simp[h,a]
 ·simp[h]
def ef{α:Type}(l:List α)(k:Nat)(h:k<l.length:=by omega):ak l (k:Int)=some l[k]:=by
 unfold ak;rw[qX];simp[h]
def gh{α:Type}(a:List α)(c:α)(b:List α):ak (a++c::b) (a.length:Int)=some c:=by
 unfold ak;rw[qX];simp
def nK{α:Type}(a:List α)(c:α)(b:List α):(a++c::b)[((a.length:Nat):Int).toNat]? = some c:=Te
def oB{α:Type}(a:List α)(c d:α)(b:List α):List.set (a++c::b) ((a.length:Nat):Int).toNat d=a++d::b:=Te
def l9(k:Nat)(h:k<9223372036854775807:=by omega):ae ((k:Int)+1)=((k+1:Nat):Int):=by rw[au];omega
def qx(P:UInt8->Prop)(h:∀n:_root_.Fin 256,P (UInt8.ofNat n.val))(c:UInt8):P c:=by
 have:=h ⟨c.toNat,c.toNat_lt⟩;simpa using this
def lo(c:UInt8):UInt8:=if 65<=c/\c<=90 then c+32 else c
def bl(c:UInt8):Bool:=c==32||c==9
def quj(n:Nat)(h:n<1000000000:=by omega):ae (((n+1:Nat):Int)-1)=(n:Int):=by rw[au];omega
def qb6{α:Type}(a:List α)(b:List α):List.take ((a.length:Nat):Int).toNat (a++b)=a:=Te
def Kt{α:Type}(a:List α)(c:α)(b:List α):List.drop ((a.length+1:Nat):Int).toNat (a++c::b)=b:=by
 rw[show((a.length+1:Nat):Int).toNat=(a++[c]).length by simp,show a++c::b=(a++[c])++b by simp]
 simp
def RL{α:Type}(b:List α)(c:α)(a:List α):((b++c::a).length:Int)=((b.length+a.length+1:Nat):Int):=by simp;omega
def RK{α:Type}(b:List α)(a:List α):((b++a).length:Int)=((b.length+a.length:Nat):Int):=Te
def Fc(k:UInt8):∀(s:List UInt8),(∃t r,s=t++k::r/\∀x∈t,x≠k)\/∀x∈s,x≠k
 |[] => .inr (fun _ h=>by cases h)
 |c::s=>by
  by_cases a:c=k
  ·subst a;exact .inl ⟨[],s,rfl,fun _ h=>by cases h⟩
  ·rcases Fc k s with⟨t,r,rfl,h⟩|h
   ·exact .inl ⟨c::t,r,rfl,fun x b=>(List.mem_cons.1 b).elim (fun e=>e▸a) (h x)⟩
   ·exact .inr fun x b=>(List.mem_cons.1 b).elim (fun e=>e▸a) (h x)
def qjf{α:Type}{x y:α}:(bif !false then x else y)=x:=rfl
def mF{α:Type}{x y:α}:(bif !true then x else y)=y:=rfl
def La(c:UInt8):(c+97)-65=c+32:=by
 rw[UInt8.sub_eq_add_neg,UInt8.add_assoc];rfl
def zP(i:Nat):∀(n:Nat)(a b:List UInt8),b.length<n->a.length+b.length<=9223372036854775807 ->
  ym i n ((a.length+b.length:Nat):Int) (a.length:Int) (a++b)=some (a++b.map lo)
 |0,_,_,h,_=>absurd h Ta|n+1,a,[],_,_=>by simp[ym,kX]|n+1,a,c::b,h,hb=>by
  simp only[qL]at h hb;have g:=fun d=>zP i n (a++[d]) b Ta Td
  simp only[qM,qL,qZ,qS,wM,wO]at g;have e:((a.length+(c::b).length:Nat):Int)=((a.length+1+b.length:Nat):Int):=by simp only[qL];omega
  have k:0<=(a.length:Int)/\(a.length:Int).toNat<(a++c::b).length:=Te
  rw[e];simp only[ym,kX];rw[ap,ap k,nK,qB,oB,l9 _,ir,ir,g,g,ap k,qB]
  unfold lo;simp only[List.map_cons,La];by_cases f:(65:UInt8)<=c
  ·by_cases j:c<=90
   ·simp[f,j]
   ·simp[f,j]
  ·simp[f]
def Lg(a:Nat)(s:List UInt8)(h:s.length<a)(b:s.length<=maxLen):fJ a s=some (s.map lo):=by
 unfold fJ;rw[ap b];have:=zP a a [] s h (by simpa [maxLen] using b)
 simpa using this
def lu(x a b:Int):cn x a b=some (decide (a<=x/\x<=b)):=by
 unfold cn;by_cases h:a<=x<;>simp[h]
def Au(a b:UInt8):((a.toNat:Int)<=(b.toNat:Int))↔a<=b:=by rw[UInt8.le_iff_toNat_le];omega
def Ah(k:Nat):∀(n:Nat)(a b:List UInt8),b.length<n->a.length+b.length<=9223372036854775807 ->
  ya k n (a.length:Int) (a++b)=some (a++b.map lo)
 |0,_,_,h,_=>absurd h Ta|n+1,a,[],_,_=>by simp[ya,jW]|n+1,a,c::b,h,hb=>by
  simp only[qL]at h hb;have j:=fun d=>Ah k n (a++[d]) b Ta Td
  simp only[qM,qL,qZ,qS,wM,wO]at j;have i:0<=(a.length:Int)/\(a.length:Int).toNat<(a++c::b).length:=Te
  simp only[ya,jW];rw[ap,ap i,nK,qB,lu,qB,l9 _,ir,ap i,qB,ap i,qB,oB,j,j]
  unfold lo;simp only[List.map_cons];have f:=Au 65 c;have g:=Au c 90;have l:((65:UInt8).toNat:Int)=65:=rfl;have m:((90:UInt8).toNat:Int)=90:=rfl;rw[l]at f;rw[m]at g;by_cases e:(65:UInt8)<=c/\c<=90
  ·rw[qX ⟨f.2 e.1,g.2 e.2⟩,qX e]
  ·rw[qW (fun q=>e ⟨f.1 q.1,g.1 q.2⟩),qW e]
def iD(a:Nat)(s:List UInt8)(h:s.length<a)(b:s.length<=maxLen):xz a s=some (s.map lo):=by
 unfold xz;rw[ap b];have:=Ah a a [] s h (by simpa [maxLen] using b)
 simpa using this
def qjq(c:Nat)(a b:List UInt8)(f:a.length<c)(g:b.length<c)(d:a.length<=maxLen)(e:b.length<=maxLen):bD c a b=some (a.map lo==b.map lo):=by
 unfold bD;rw[lh,Lg c a f d,Lg c b g e];by_cases h:(a.length:Int)=b.length
 ·rw[qX h];rfl
 ·rw[qW h];have:(a.map lo==b.map lo)=false:=by
   rw[beq_eq_false_iff_ne];intro q;apply h;have:=congrArg List.length q;simp only[wC]at this;omega
  rw[this]
def P6(c:Nat)(a b:List UInt8)(f:a.length<c)(g:b.length<c)(d:a.length<=maxLen)(e:b.length<=maxLen):jJ c a b=some (a.map lo==b.map lo):=by
 unfold jJ;rw[iD c a f d,iD c b g e];rfl
open Go.Lib (decodeL decodeN decodeL_N validD validD_step decodeL_le decodeL_width)
def rn(l:Bs):Int×Int:=if(decodeL l).1=65533/\(decodeL l).2=1 then(-1,1) else(((decodeL l).1:Nat),((decodeL l).2:Nat))
def Fu(a b:Nat)(h:a+b<9223372036854775808:=by omega):ae ((a:Int)+(b:Int))=((a+b:Nat):Int):=by rw[au];omega
def qm7{α:Type}(a l:List α)(k:Nat)(h:k<l.length):ak (a++l) ((a.length+k:Nat):Int)=some l[k]:=by
 rw[ef _ _ Td];simp
def qm8(a l:Bs)(k:Nat)(h:k<l.length):ak (a++l) ((a.length+k:Nat):Int)=some (l.getD k 0):=by
 rw[qm7 a l k h];simp[List.getD,h]
def nX(d n:Nat)(c l:Bs)(a v b k:Nat)(i:k<a:=by omega)(f:k<l.length:=by omega)(m:v<10000000:=by omega)(g:c.length+l.length<1000000000:=by omega)(j:a<=4:=by omega) :
  yd d (n+1) (c++l) (c.length:Int) (a:Int) (v:Int) (b:Int) (k:Int) =
   if 128<=(l.getD k 0).toNat/\(l.getD k 0).toNat<=191 then yd d n (c++l) (c.length:Int) (a:Int) ((64*v+(l.getD k 0).toNat-128:Nat):Int) (b:Int) ((k+1:Nat):Int) else some (-1,1):=by
 have e:(l.getD k 0).toNat<256:=(l.getD k 0).toNat_lt;rw[yd,Bi,ap,Fu _ _,qm8 c l k f,qB,lu,qB,l9 k]
 generalize (l.getD k 0).toNat=x at e;by_cases h:128<=x/\x<=191
 ·rw[qX h,decide_eq_true Ta,mF,show(64:Int)*(v:Int)=((64*v:Nat):Int) by omega,au (x:=((64*v:Nat):Int)) Ta Ta,au (x:=((64*v:Nat):Int)+(x:Int)) Ta Ta,au]
  congr 1;omega
 ·rw[qW h,decide_eq_false Ta,qjf]
def LE(c n:Nat)(s:Bs)(i:Int)(b v a:Nat) :
  yd c (n+1) s i (b:Int) (v:Int) (a:Int) (b:Int)=if v<a\/1114111<v\/(55296<=v/\v<=57343) then some (-1,1) else some ((v:Int),(b:Int)):=by
 rw[yd,Bi,bi]
 by_cases d:v<a
 ·rw[ap,qX (.inl d)]
 rw[bi]
 by_cases e:1114111<v
 ·rw[ap,qX (.inr (.inl e))]
 rw[bi,lu,qB]
 by_cases f:55296<=v/\v<=57343
 ·rw[ap,qX (.inr (.inr f))]
 ·rw[bi,qW]
def LD(d:Nat)(c l:Bs)(a v b:Nat)(h:l.length<a)(f:a<=4:=by omega)(e:c.length+l.length<1000000000:=by omega):yc d (c++l) (c.length:Int) (a:Int) (v:Int) (b:Int)=some (-1,1):=by
 rw[yc,lh,qW,Fu _ _,rR,ap (by rw[RK];omega)]
def LA(d:Nat)(c l:Bs)(a v b:Nat)(h:¬l.length<a)(e:a≠0:=by omega)(g:a<=4:=by omega)(f:c.length+l.length<1000000000:=by omega):yc d (c++l) (c.length:Int) (a:Int) (v:Int) (b:Int)=yd d d (c++l) (c.length:Int) (a:Int) (v:Int) (b:Int) ((1:Nat):Int):=by
 rw[yc,lh,qW,Fu _ _,rR,bi (by rw[RK];omega)];rfl
def yU(x:Nat×Nat):Int×Int:=if x.1=65533/\x.2=1 then(-1,1) else((x.1:Nat),(x.2:Nat))
def nH:yU (65533,1)=(-1,1):=rfl
def K4(x k:Nat)(h:k≠1):yU (x,k)=((x:Int),(k:Int)):=qW (fun q=>h q.2)
def ru(n b0 a b c:Nat):Int×Int:=yU (decodeN n b0 a b c)
def qr0(n b0 a b c:Nat)(h:b0<128):ru n b0 a b c=((b0:Int),1):=by
 unfold ru decodeN;rw[qX h];unfold yU;rw[qW (fun q=>by have:=q.1;simp only at this;omega)];rfl
def qr1(n b0 a g i:Nat)(h:192<=b0/\b0<=223)(l:a<256):ru n b0 a g i=if n<2 then(-1,1) else if 128<=a/\a<=191 then(if(64*(b0-192)+a-128)<128\/1114111<(64*(b0-192)+a-128)\/(55296<=(64*(b0-192)+a-128)/\(64*(b0-192)+a-128)<=57343) then(-1,1) else(((64*(b0-192)+a-128:Nat):Int),2)) else(-1,1):=by
 unfold ru decodeN;rw[qW (c:=b0<128) Ta]
 by_cases d:b0/32=6/\(1<n/\a/64=2)
 ·rw[qX d,qW (c:=n<2) Ta,qX (c:=128<=a/\a<=191) Ta]
  obtain⟨z,k⟩:∃z,b0%32*64+a%64=z:=⟨_,rfl⟩;obtain⟨y,j⟩:∃y,64*(b0-192)+a-128=y:=⟨_,rfl⟩;have b:z=y:=Ta
  have m:y<2048:=Ta
  rw[k,j,b];by_cases e:y ≥ 128
  ·rw[qX e,K4 _ _ Tf,qW];rfl
  ·rw[qW e,nH,qX]
 ·rw[qW d,qW (c:=b0/16=14/\_) Ta,qW (c:=b0/8=30/\_) Ta,nH]
  by_cases f:n<2
  ·rw[qX f]
  ·rw[qW f,qW]
def qr2(n b0 a b j:Nat)(h:224<=b0/\b0<=239)(m:a<256)(o:b<256):ru n b0 a b j=if n<3 then(-1,1) else if 128<=a/\a<=191 then(if 128<=b/\b<=191 then(if(64*(64*(b0-224)+a-128)+b-128)<2048\/1114111<(64*(64*(b0-224)+a-128)+b-128)\/(55296<=(64*(64*(b0-224)+a-128)+b-128)/\(64*(64*(b0-224)+a-128)+b-128)<=57343) then(-1,1) else(((64*(64*(b0-224)+a-128)+b-128:Nat):Int),3)) else(-1,1)) else(-1,1):=by
 unfold ru decodeN;rw[qW (c:=b0<128) Ta,qW (c:=b0/32=6/\_) Ta]
 by_cases e:b0/16=14/\(1<n/\a/64=2)/\(2<n/\b/64=2)
 ·rw[qX e,qW (c:=n<3) Ta,qX (c:=128<=a/\a<=191) Ta,qX (c:=128<=b/\b<=191) Ta]
  obtain⟨z,l⟩:∃z,b0%16*4096+a%64*64+b%64=z:=⟨_,rfl⟩;obtain⟨y,k⟩:∃y,64*(64*(b0-224)+a-128)+b-128=y:=⟨_,rfl⟩;have d:z=y:=Ta
  have p:y<65536:=Ta
  rw[l,k,d];by_cases f:y ≥ 2048/\(y<55296\/(57344<=y/\y<=1114111))
  ·rw[qX f,K4 _ _ Tf,qW];rfl
  ·rw[qW f,nH,qX]
 ·rw[qW e,qW (c:=b0/8=30/\_) Ta,nH]
  by_cases g:n<3
  ·rw[qX g]
  ·rw[qW g];by_cases i:128<=a/\a<=191
   ·rw[qX i,qW]
   ·rw[qW i]
def qr3(n b0 a b d:Nat)(h:240<=b0/\b0<=247)(o:a<256)(p:b<256)(q:d<256):ru n b0 a b d=if n<4 then(-1,1) else if 128<=a/\a<=191 then(if 128<=b/\b<=191 then(if 128<=d/\d<=191 then(if(64*(64*(64*(b0-240)+a-128)+b-128)+d-128)<65536\/1114111<(64*(64*(64*(b0-240)+a-128)+b-128)+d-128)\/(55296<=(64*(64*(64*(b0-240)+a-128)+b-128)+d-128)/\(64*(64*(64*(b0-240)+a-128)+b-128)+d-128)<=57343) then(-1,1) else(((64*(64*(64*(b0-240)+a-128)+b-128)+d-128:Nat):Int),4)) else(-1,1)) else(-1,1)) else(-1,1):=by
 unfold ru decodeN;rw[qW (c:=b0<128) Ta,qW (c:=b0/32=6/\_) Ta,qW (c:=b0/16=14/\_) Ta]
 by_cases f:b0/8=30/\(1<n/\a/64=2)/\(2<n/\b/64=2)/\(3<n/\d/64=2)
 ·rw[qX f,qW (c:=n<4) Ta,qX (c:=128<=a/\a<=191) Ta,qX (c:=128<=b/\b<=191) Ta,qX (c:=128<=d/\d<=191) Ta]
  obtain⟨z,m⟩:∃z,b0%8*262144+a%64*4096+b%64*64+d%64=z:=⟨_,rfl⟩;obtain⟨y,l⟩:∃y,64*(64*(64*(b0-240)+a-128)+b-128)+d-128=y:=⟨_,rfl⟩;have e:z=y:=Ta
  rw[m,l,e];by_cases g:y ≥ 65536/\(y<55296\/(57344<=y/\y<=1114111))
  ·rw[qX g,K4 _ _ Tf,qW];rfl
  ·rw[qW g,nH,qX]
 ·rw[qW f,nH];by_cases i:n<4
  ·rw[qX i]
  ·rw[qW i];by_cases j:128<=a/\a<=191
   ·rw[qX j];by_cases k:128<=b/\b<=191
    ·rw[qX k,qW]
    ·rw[qW k]
   ·rw[qW j]
def qr4(n b0 a b d:Nat)(h:(128<=b0/\b0<192)\/248<=b0)(e:b0<256):ru n b0 a b d=(-1,1):=by
 unfold ru decodeN;rw[qW (c:=b0<128) Ta,qW (c:=b0/32=6/\_) Ta,qW (c:=b0/16=14/\_) Ta,qW (c:=b0/8=30/\_) Ta];rfl
def qrh(l:Bs):rn l=ru l.length (l.getD 0 0).toNat (l.getD 1 0).toNat (l.getD 2 0).toNat (l.getD 3 0).toNat:=by unfold rn ru yU;rw[decodeL_N]
def qa2(e:Nat)(s:10<=e)(a:Bs)(c:UInt8)(t:Bs)(u:a.length+t.length<100000000:=by omega):rQ e (a++c::t) (a.length:Int)=some (rn (c::t)):=by
 have v:(c::t).length=t.length+1:=rfl;obtain⟨n,rfl⟩:∃n,e=n+10:=⟨e-10,Ta⟩
 rw[qrh,show(c::t).getD 0 0=c from rfl]
 generalize i:c::t=l at *;have h:=(l.getD 1 0).toNat_lt;have j:=(l.getD 2 0).toNat_lt;have k:=(l.getD 3 0).toNat_lt;have r:=c.toNat_lt;unfold rQ;rw[show ak (a++l) (a.length:Int)=some c by rw[← i];exact gh a c t,qB]
 by_cases m:c.toNat<128
 ·rw[ap,qr0 _ _ _ _ _ m]
 rw[bi,lu,qB]
 by_cases o:192<=c.toNat/\c.toNat<=223
 ·rw[ap,qr1 _ _ _ _ _ o h,au,show(c.toNat:Int)-192=((c.toNat-192:Nat):Int) by omega]
  by_cases g:l.length<2
  ·rw[qX g];exact LD (n+10) a l 2 _ 128 g
  ·rw[qW g];refine(LA (n+10) a l 2 _ 128 g).trans ?_
   rw[nX (n+10) (n+9) a l 2 _ 128 1]
   by_cases b:128<=(l.getD 1 0).toNat/\(l.getD 1 0).toNat<=191
   ·rw[qX b,qX b];refine(LE (n+10) (n+8) _ _ 2 _ 128).trans ?_;rw[Mk];rfl
   ·rw[qW b,qW b]
 rw[bi,lu,qB]
 by_cases p:224<=c.toNat/\c.toNat<=239
 ·rw[ap,qr2 _ _ _ _ _ p h j,au,show(c.toNat:Int)-224=((c.toNat-224:Nat):Int) by omega]
  by_cases g:l.length<3
  ·rw[qX g];exact LD (n+10) a l 3 _ 2048 g
  ·rw[qW g];refine(LA (n+10) a l 3 _ 2048 g).trans ?_
   rw[nX (n+10) (n+9) a l 3 _ 2048 1]
   by_cases b:128<=(l.getD 1 0).toNat/\(l.getD 1 0).toNat<=191
   ·rw[qX b,qX b,nX (n+10) (n+8) a l 3 _ 2048 2]
    by_cases d:128<=(l.getD 2 0).toNat/\(l.getD 2 0).toNat<=191
    ·rw[qX d,qX d];refine(LE (n+10) (n+7) _ _ 3 _ 2048).trans ?_;rw[Mk];rfl
    ·rw[qW d,qW d]
   ·rw[qW b,qW b]
 rw[bi,lu,qB]
 by_cases q:240<=c.toNat/\c.toNat<=247
 ·rw[ap,qr3 _ _ _ _ _ q h j k,au,show(c.toNat:Int)-240=((c.toNat-240:Nat):Int) by omega]
  by_cases g:l.length<4
  ·rw[qX g];exact LD (n+10) a l 4 _ 65536 g
  ·rw[qW g];refine(LA (n+10) a l 4 _ 65536 g).trans ?_
   rw[nX (n+10) (n+9) a l 4 _ 65536 1]
   by_cases b:128<=(l.getD 1 0).toNat/\(l.getD 1 0).toNat<=191
   ·rw[qX b,qX b,nX (n+10) (n+8) a l 4 _ 65536 2]
    by_cases d:128<=(l.getD 2 0).toNat/\(l.getD 2 0).toNat<=191
    ·rw[qX d,qX d,nX (n+10) (n+7) a l 4 _ 65536 3]
     by_cases f:128<=(l.getD 3 0).toNat/\(l.getD 3 0).toNat<=191
     ·rw[qX f,qX f];refine(LE (n+10) (n+6) _ _ 4 _ 65536).trans ?_;rw[Mk];rfl
     ·rw[qW f,qW f]
    ·rw[qW d,qW d]
   ·rw[qW b,qW b]
 rw[bi,qr4 _ _ _ _ _ Ta r]
 rfl
def qar(l:Bs):(rn l).1<0↔((decodeL l).1=65533/\(decodeL l).2=1):=by
 unfold rn;split
 ·rename_i h;exact⟨fun _=>h,fun _=>Tf⟩
 ·rename_i h;exact⟨fun q=>absurd q Tq,fun q=>absurd q h⟩
def qas(l:Bs):(rn l).2=((decodeL l).2:Int):=by
 unfold rn;split
 ·rename_i h;rw[h.2];rfl
 ·rfl
def qug(f n:Nat)(g:10<=f):∀(d b:Bs),b.length<n->d.length+b.length<100000000->sA f n (d++b) (d.length:Int)=some (validD b):=by
 induction n with
 |zero=>intro d b h;omega|succ n ih=>
  intro d b h i;rw[sA,G7]
  cases b with
  |nil=>rw[bi];rfl|cons c t=>
   have j:=decodeL_width (c::t);have e:=decodeL_le (c::t) Te
   simp only[qL]at h i;rw[ap (by rw[RL];omega),qa2 f g d c t,qB,validD_step (c::t) Te]
   by_cases a:(decodeL (c::t)).1=65533/\(decodeL (c::t)).2=1
   ·rw[ap ((qar _).2 a),qX a]
   ·rw[bi (fun q=>a ((qar _).1 q)),qW a,qas,Fu _ _ (by simp only[qL]at e;omega)]
    have:=ih (d++(c::t).take (decodeL (c::t)).2) ((c::t).drop (decodeL (c::t)).2) (by rw[List.length_drop];simp only[qL];omega) (by rw[qM,List.length_take,List.length_drop];simp only[qL]at e ⊢;omega)
    rw[qS,List.take_append_drop,qM,List.length_take,Nat.min_eq_left e]at this;exact this
def Me(a:Nat)(b:10<=a)(s:Bs)(h:s.length<a:=by omega)(c:s.length<100000000:=by omega):rZ a s=some (validD s):=by
 have:=qug a a b [] s h (by simpa using c)
 simpa [rZ] using this
end Go.Sym
namespace Go.Sym

open Go.Lib (decodeL decodeN decodeL_N decodeL_le decodeL_width validD validD_step)
def qlx(c:Nat):Bs:=if c<128 then[UInt8.ofNat c] else if c<2048 then[UInt8.ofNat (192+c/64),UInt8.ofNat (128+c%64)] else if c<65536 then[UInt8.ofNat (224+c/4096),UInt8.ofNat (128+c/64%64),UInt8.ofNat (128+c%64)] else[UInt8.ofNat (240+c/262144),UInt8.ofNat (128+c/4096%64),UInt8.ofNat (128+c/64%64),UInt8.ofNat (128+c%64)]
def tx(R:List Nat):Bs:=R.flatMap qlx
end Go.Sym
namespace Go.Sym
def D0(c:UInt8):uH c=some (bl c):=by unfold uH bl;cases c==32<;>rfl
def nY(c:UInt8):eI c=some (bl c):=by unfold eI bl;cases c==32<;>rfl
def o5(f:Int×Int):fq f=some (f.1 != 0):=rfl
def qpw(f n:Nat)(c:UInt8):∀(b a:Bs),a.length<n->b.length+a.length<1000000000 ->
  rO f n c (b++a) (b.length:Int)=some (a.contains c):=by
 induction n with
 |zero=>intro b a h;omega|succ n ih=>
  intro b a h g;rw[rO,Gr]
  cases a with
  |nil=>rw[bi];rfl|cons d a=>
   simp only[qL]at h g;rw[RL,ap,gh,qB,l9 _,qje,List.contains_cons]
   have:=ih (b++[d]) a Ta Td
   simp only[qM,qL,qZ,qS,wM]at this;by_cases e:d=c
   ·rw[qX e];simp[e]
   ·rw[qW e,this];have:(c==d)=false:=by simp;exact fun h=>e h.symm
    rw[this,Bool.false_or]
def L6(a:Nat)(c:UInt8)(l:Bs)(h:l.length<a)(b:l.length<1000000000):rN a c l=some (l.contains c):=by
 have:=qpw a a c [] l h (by simpa using b)
 simpa [rN] using this
open Go.Lib (validD)
abbrev OW:Type:=Bs×Bs
def Jm(l:List OW):Prop:=l.length<=4000000/\∀x∈l,x.1.length<=4000000/\x.2.length<=4000000
def lk(a b:Bs):Bool:=a.map lo==b.map lo
def EY(c:Nat)(d:90000000<=c)(a b:Bs)(e:a.length<=4000000)(f:b.length<=4000000):bD c a b=some (lk a b):=
 qjq c a b Ta Ta (by simp[maxLen];omega) (by simp[maxLen];omega)
def Jm.mono{l l':List OW}(h:Jm l)(a:l'.length<=l.length)(b:∀x∈l',x∈l):Jm l':=⟨Nat.le_trans a h.1,fun x c=>h.2 x (b x c)⟩
end Go.Sym
namespace Go.Sym
end Go.Sym
namespace Go.Sym.Tr
def lo(c:UInt8):UInt8:=if 65<=c/\c<=90 then c+32 else c
def La(c:UInt8):(c+97)-65=c+32:=by
 rw[UInt8.sub_eq_add_neg,UInt8.add_assoc];rfl
def zP(i:Nat):∀(n:Nat)(a b:List UInt8),b.length<n->a.length+b.length<=9223372036854775807 ->
  ym i n ((a.length+b.length:Nat):Int) (a.length:Int) (a++b)=some (a++b.map lo)
 |0,_,_,h,_=>absurd h Ta|n+1,a,[],_,_=>by simp[ym,kX]|n+1,a,c::b,h,hb=>by
  simp only[qL]at h hb;have g:=fun d=>zP i n (a++[d]) b Ta Td
  simp only[qM,qL,qZ,qS,wM,wO]at g;have e:((a.length+(c::b).length:Nat):Int)=((a.length+1+b.length:Nat):Int):=by simp only[qL];omega
  have k:0<=(a.length:Int)/\(a.length:Int).toNat<(a++c::b).length:=Te
  rw[e];simp only[ym,kX];rw[ap,ap k,nK,qB,oB,l9 _,ir,ir,g,g,ap k,qB]
  unfold lo;simp only[List.map_cons,La];by_cases f:(65:UInt8)<=c
  ·by_cases j:c<=90
   ·simp[f,j]
   ·simp[f,j]
  ·simp[f]
def Lg(a:Nat)(s:List UInt8)(h:s.length<a)(b:s.length<=maxLen):fJ a s=some (s.map lo):=by
 unfold fJ;rw[ap b];have:=zP a a [] s h (by simpa [maxLen] using b)
 simpa using this
def lu(x a b:Int):cn x a b=some (decide (a<=x/\x<=b)):=by
 unfold cn;by_cases h:a<=x<;>simp[h]
def Au(a b:UInt8):((a.toNat:Int)<=(b.toNat:Int))↔a<=b:=by rw[UInt8.le_iff_toNat_le];omega
def Ah(k:Nat):∀(n:Nat)(a b:List UInt8),b.length<n->a.length+b.length<=9223372036854775807 ->
  ya k n (a.length:Int) (a++b)=some (a++b.map lo)
 |0,_,_,h,_=>absurd h Ta|n+1,a,[],_,_=>by simp[ya,jW]|n+1,a,c::b,h,hb=>by
  simp only[qL]at h hb;have j:=fun d=>Ah k n (a++[d]) b Ta Td
  simp only[qM,qL,qZ,qS,wM,wO]at j;have i:0<=(a.length:Int)/\(a.length:Int).toNat<(a++c::b).length:=Te
  simp only[ya,jW];rw[ap,ap i,nK,qB,lu,qB,l9 _,ir,ap i,qB,ap i,qB,oB,j,j]
  unfold lo;simp only[List.map_cons];have f:=Au 65 c;have g:=Au c 90;have l:((65:UInt8).toNat:Int)=65:=rfl;have m:((90:UInt8).toNat:Int)=90:=rfl;rw[l]at f;rw[m]at g;by_cases e:(65:UInt8)<=c/\c<=90
  ·rw[qX ⟨f.2 e.1,g.2 e.2⟩,qX e]
  ·rw[qW (fun q=>e ⟨f.1 q.1,g.1 q.2⟩),qW e]
def iD(a:Nat)(s:List UInt8)(h:s.length<a)(b:s.length<=maxLen):xz a s=some (s.map lo):=by
 unfold xz;rw[ap b];have:=Ah a a [] s h (by simpa [maxLen] using b)
 simpa using this
def P6(c:Nat)(a b:List UInt8)(f:a.length<c)(g:b.length<c)(d:a.length<=maxLen)(e:b.length<=maxLen):jJ c a b=some (a.map lo==b.map lo):=by
 unfold jJ;rw[iD c a f d,iD c b g e];rfl
end Go.Sym.Tr
namespace Go.Sym.Tr
def wr(m:UInt8)(a i:Nat):List UInt8->Int|[] => -1|c::r=>if(c==13&&r.head? == some 10)=true then wr m 0 (i+2) r.tail else if c=0\/c=13\/c=10\/m<c\/a=998 then(i:Int) else wr m (a+1) (i+1) r
termination_by l=>l.length
decreasing_by all_goals (simp only[qL,List.length_tail];omega)
end Go.Sym.Tr
namespace Go.Sym.Tr
def mC:List UInt8:=[65,66,67,68,69,70,71,72,73,74,75,76,77,78,79,80,81,82,83,84,85,86,87,88,89,90,97,98,99,100,101,102,103,104,105,106,107,108,109,110,111,112,113,114,115,116,117,118,119,120,121,122,48,49,50,51,52,53,54,55,56,57,43,47]
def al(k:Nat):UInt8:=mC.getD k 0
def c0(x:Nat):UInt8:=al (x/262144%64)
def c1(x:Nat):UInt8:=al (x/4096%64)
def c2(x:Nat):UInt8:=al (x/64%64)
def c3(x:Nat):UInt8:=al (x%64)
def e64:List UInt8->List UInt8|[]=>[]|[a]=>[c0 (a.toNat*65536),c1 (a.toNat*65536),61,61]|[a,b]=>[c0 (a.toNat*65536+b.toNat*256),c1 (a.toNat*65536+b.toNat*256),c2 (a.toNat*65536+b.toNat*256),61]|a::b::c::r=>c0 (a.toNat*65536+b.toNat*256+c.toNat)::c1 (a.toNat*65536+b.toNat*256+c.toNat)::c2 (a.toNat*65536+b.toNat*256+c.toNat)::c3 (a.toNat*65536+b.toNat*256+c.toNat)::e64 r
end Go.Sym.Tr
namespace Go.Sym.Tr
end Go.Sym.Tr
namespace Go.Sym.Tr
def dB(c:UInt8):List Nat:=[c.toNat/128%2,c.toNat/64%2,c.toNat/32%2,c.toNat/16%2,c.toNat/8%2,c.toNat/4%2,c.toNat/2%2,c.toNat%2]
def bits(b:List UInt8):List Nat:=b.flatMap dB
abbrev ke(l:List Nat):List Int:=l.map Int.ofNat
def bZ(x k:Nat)(p:Int)(hp:p=(k:Int))(c:k<=30:=by omega):Int.tmod (Int.fdiv (x:Int) (2 ^ min p.toNat 64)) 2=((x/2 ^ k%2:Nat):Int):=by
 subst hp;have a:min (k:Int).toNat 64=k:=Ta
 have b:Int.fdiv (x:Int) (2 ^ k)=((x/2 ^ k:Nat):Int):=by
  rw[Int.fdiv_eq_ediv_of_nonneg _ (by exact Int.le_of_lt (Int.pow_pos Tf))]
  simp
 rw[a,b,Int.tmod_eq_emod_of_nonneg (Int.natCast_nonneg _)];generalize x/2 ^ k=y;omega
def qji(f n:Nat):∀(d b:List UInt8)(a:List Int),b.length<n->d.length+b.length<9223372036854775807->a.length+8*b.length<=ax ->
  jK f n (d++b) (d.length:Int) a=some (a++ke (bits b)):=by
 induction n with
 |zero=>intro d b a h;omega|succ n ih=>
  intro d b a h g i
  cases b with
  |nil=>
   rw[jK,AT,bi];simp[bits]
  |cons c b=>
   simp only[qL]at h g i;rw[jK,AT,ap]
   simp only[gh,qB,bZ c.toNat 7 7 rfl,bZ c.toNat 6 6 rfl,bZ c.toNat 5 5 rfl,bZ c.toNat 4 4 rfl,bZ c.toNat 3 3 rfl,bZ c.toNat 2 2 rfl,bZ c.toNat 1 1 rfl,bZ c.toNat 0 0 rfl]
   rw[ap,ap,ap,ap,ap,ap,ap,ap,l9 _]
   have:=ih (d++[c]) b (a++ke (dB c)) Ta Td (by simp[dB];omega)
   simp only[qM,qL,qZ,wO,qS,wM]at this;have e:((((((((a++[((c.toNat/2 ^ 7%2:Nat):Int)])++[((c.toNat/2 ^ 6%2:Nat):Int)])++[((c.toNat/2 ^ 5%2:Nat):Int)])++[((c.toNat/2 ^ 4%2:Nat):Int)])++[((c.toNat/2 ^ 3%2:Nat):Int)])++[((c.toNat/2 ^ 2%2:Nat):Int)])++[((c.toNat/2 ^ 1%2:Nat):Int)])++[((c.toNat/2 ^ 0%2:Nat):Int)])=a++ke (dB c):=by
    simp[dB]
   rw[e,this];simp[bits]
def rbits_eq(a:Nat)(b:List UInt8)(h:b.length<a)(c:b.length<=100000000):FP a b=some (ke (bits b)):=by
 have:=qji a a [] b [] h Td To
 exact this
def zx(a:Nat):List Nat->Nat|[]=>a|x::l=>zx (2*a+x) l
def qth(m n:Nat):∀(d b:List Nat)(a:Nat),b.length<n->d.length+b.length<9223372036854775807->(∀x∈b,x<=1)->(a+1)*2 ^ b.length<=1099511627776 ->
  aN m n (ke (d++b)) (a:Int) (d.length:Int)=some ((zx a b:Nat):Int):=by
 induction n with
 |zero=>intro d b a h;omega|succ n ih=>
  intro d b a h o j i
  cases b with
  |nil=>rw[aN,sP,bi];rfl|cons c b=>
   simp only[qL]at h o i;have r:=j c qH;have f:ak (ke (d++c::b)) (d.length:Int)=some (c:Int):=by
    have:=gh (ke d) (c:Int) (ke b);simpa [ke] using this
   have k:2 ^ (b.length+1)=2*2 ^ b.length:=by rw[Nat.pow_succ];omega
   have l:1<=2 ^ b.length:=Nat.one_le_two_pow;have g:(2*a+c+1)*2 ^ b.length<=1099511627776:=by
    refine Nat.le_trans ?_ i;rw[k,← Nat.mul_assoc];exact Nat.mul_le_mul_right _ Ta
   have q:a+1<=1099511627776:=by
    refine Nat.le_trans ?_ i;exact Nat.le_mul_of_pos_right _ (by rw[k];omega)
   rw[aN,sP,ap,f,qB,l9 _]
   have e:ae (ae (2*(a:Int))+(c:Int))=((2*a+c:Nat):Int):=by
    rw[au (x:=2*(a:Int)) Ta Ta,au];omega
   rw[e];have:=ih (d++[c]) b (2*a+c) Ta Td (fun x p=>j x (qE _ p)) g
   simp only[qM,qL,qZ,wO,qS,wM]at this;rw[this];rfl
def qtg(a:Nat)(l:List Nat)(h:8<a)(c:l.length<=8)(b:∀x∈l,x<=1):sO a (ke l)=some ((zx 0 l:Nat):Int):=by
 have:=qth a a [] l 0 Ta Td b (by
  have:2 ^ l.length<=2 ^ 8:=Nat.pow_le_pow_right Ta c
  omega)
 exact this
def qb0:∀(l:List Nat)(a:Nat),(∀x∈l,x<=1)->zx a l+1<=(a+1)*2 ^ l.length
 |[],a,_=>by simp[zx]|x::l,a,h=>by
  have:=qb0 l (2*a+x) (fun y b=>h y (qE _ b))
  have c:=h x qH;unfold zx;refine Nat.le_trans this ?_;rw[qL,Nat.pow_succ,Nat.mul_comm (2 ^ l.length) 2,← Nat.mul_assoc];exact Nat.mul_le_mul_right _ Ta
def mu:List Nat->List UInt8|a::b::c::d::e::f::r=>al (zx 0 [a,b,c,d,e,f])::mu r|_=>[]
def qto(k:Nat)(h:k<64):List.take ((ae ((k:Int)+1)).toNat-(k:Int).toNat) (List.drop (k:Int).toNat mC)=[al k]:=by
 have a:k<mC.length:=h;rw[l9 _]
 rw[show((k+1:Nat):Int).toNat-(k:Int).toNat=1 by omega,show(k:Int).toNat=k by omega]
 have e:al k=mC[k]:=by unfold al;simp[a]
 rw[List.drop_eq_getElem_cons a,e];rfl
def qjw(k n:Nat)(l:8<k):∀(g i:List Nat)(s:List UInt8),i.length<n->g.length+i.length<1000000000->(∀x∈i,x<=1)->i.length%6=0->s.length+i.length<=2000000000 ->
  eJ k n (ke (g++i)) s (g.length:Int)=eK k k (s++mu i):=by
 induction n with
 |zero=>intro g i s h;omega|succ n ih=>
  intro g i s h v p j y
  match i with
  |[]=>rw[eJ,AW,bi];simp[mu]|[_]=>simp at j|[_,_]=>simp at j|[_,_,_]=>simp at j|[_,_,_,_]=>simp at j|[_,_,_,_,_]=>simp at j|a::b::c::d::e::f::r=>
   have q:∀x∈[a,b,c,d,e,f],x<=1:=fun x o=>p x (by simp at o ⊢;omega)
   have m:=qb0 [a,b,c,d,e,f] 0 q;simp only[qL,qZ]at m;have w:zx 0 [a,b,c,d,e,f]<64:=Ta
   simp only[qL]at h v y j;rw[eJ,AW,ap]
   have t:ae ((g.length:Int)+6)=((g.length+6:Nat):Int):=by rw[au];omega
   rw[t,ap]
   have u:List.take (((g.length+6:Nat):Int).toNat-(g.length:Int).toNat) (List.drop (g.length:Int).toNat (ke (g++a::b::c::d::e::f::r)))=ke [a,b,c,d,e,f]:=by
    rw[show((g.length+6:Nat):Int).toNat-(g.length:Int).toNat=6 by omega,show(g.length:Int).toNat=g.length by omega]
    simp[ke]
   rw[u,qtg k _ l Te q,qB]
   rw[show([65,66,67,68,69,70,71,72,73,74,75,76,77,78,79,80,81,82,83,84,85,86,87,88,89,90,97,98,99,100,101,102,103,104,105,106,107,108,109,110,111,112,113,114,115,116,117,118,119,120,121,122,48,49,50,51,52,53,54,55,56,57,43,47]:List UInt8)=mC from rfl]
   rw[qto _ w,ap (by rw[l9 _,show(mC.length:Int)=64 from rfl];omega),ap Ti]
   have:=ih (g++[a,b,c,d,e,f]) r (s++[al (zx 0 [a,b,c,d,e,f])]) Ta Td (fun x o=>p x (by simp[o])) Ta Td
   simp only[qM,qL,qZ,wO,qS,wK,List.nil_append]at this;rw[this];simp[mu]
def Ab(s:List UInt8):List UInt8:=s++List.replicate ((4-s.length%4)%4) 61
def qpz(a:Nat)(n:Nat):∀(s:List UInt8),(4-s.length%4)%4<n->s.length<=2000000000->eK a n s=some (Ab s):=by
 induction n with
 |zero=>intro s h;omega|succ n ih=>
  intro s h d;rw[eK,FR,gc,Int.tmod_eq_emod_of_nonneg (Int.natCast_nonneg _)];by_cases c:s.length%4=0
  ·rw[qW];unfold Ab;rw[c];simp
  ·rw[qX,ap (by simp[bg];omega)]
   by_cases b:s.length%4=3
   ·rw[ih _ Td Td]
    unfold Ab;have:(s++[61]).length%4=0:=by simp;omega
    rw[this,b];simp
   ·rw[ih _ Td Td]
    unfold Ab;have:(4-s.length%4)%4=(4-(s++[61]).length%4)%4+1:=by simp;omega
    rw[this,List.replicate_succ];simp
def zo(s:List Nat):List Nat:=s++List.replicate ((6-s.length%6)%6) 0
def pad6_go(g n:Nat)(p:8<g):∀(s:List Nat),(6-s.length%6)%6<n->s.length+(6-s.length%6)%6<g->s.length+(6-s.length%6)%6<=1000000->(∀x∈s,x<=1)->pZ g n (ke s)=some (Ab (mu (zo s))):=by
 induction n with
 |zero=>intro s h;omega|succ n ih=>
  intro s h v u o;rw[pZ,FQ,gc,Int.tmod_eq_emod_of_nonneg (Int.natCast_nonneg _)];have k:(ke s).length=s.length:=Te
  by_cases c:s.length%6=0
  ·rw[qW (by rw[k];omega)]
   have e:zo s=s:=by unfold zo;rw[c];simp
   rw[e];have:=qjw g g p [] s [] Ta Td o c Td
   rw[List.nil_append,List.nil_append]at this;rw[show eJ g g (ke s) ([]:List UInt8) (0:Int)=eK g g (mu s) from this]
   have q:∀(n:Nat)(l:List Nat),l.length<=n->(mu l).length<=l.length:=by
    intro n
    induction n with
    |zero=>intro l k;have:l=[]:=List.eq_nil_of_length_eq_zero Ta;subst this;simp[mu]|succ n ih2=>
     intro l k
     match l with
     |[]=>simp[mu]|[_]=>simp[mu]|[_,_]=>simp[mu]|[_,_,_]=>simp[mu]|[_,_,_,_]=>simp[mu]|[_,_,_,_,_]=>simp[mu]|a::b::c::d::e::f::r=>
      simp only[qL]at k;have:=ih2 r Ta
      simp only[mu,qL];omega
   have:=q _ s (wF _);exact qpz g g (mu s) Ta Ta
  ·rw[qX (by rw[k];omega),ap To]
   have e:ke s++[(0:Int)]=ke (s++[0]):=Te
   rw[e];by_cases t:s.length%6=5
   ·have m:zo (s++[0])=zo s:=by
     unfold zo;have:(s++[0]).length%6=0:=by simp;omega
     rw[this,t];simp
    have j:(s++[0]).length%6=0:=by simp;omega
    rw[← m];rw[ih (s++[0]) (by rw[j];omega) (by rw[j];simp;omega) (by rw[j];simp;omega) (fun x i=>by simp at i;rcases i with i|i;exact o x i;omega)]
   ·have m:zo (s++[0])=zo s:=by
     unfold zo;have:(6-s.length%6)%6=(6-(s++[0]).length%6)%6+1:=by simp;omega
     rw[this,List.replicate_succ];simp
    rw[← m];rw[ih (s++[0]) Td Td Td (fun x i=>by simp at i;rcases i with i|i;exact o x i;omega)]
def n2(a:Nat):2*(2*0+a/2%2)+a%2=a%4:=Ta
def n4(t b:Nat)(h:b<256):2*(2*(2*(2*t+b/128%2)+b/64%2)+b/32%2)+b/16%2=16*t+b/16:=Ta
def x0(a b c:Nat)(h:a<256)(d:b<256)(e:c<256):(a*65536+b*256+c)/262144%64=a/4:=Ta
def x1(a b c:Nat)(h:a<256)(d:b<256)(e:c<256):(a*65536+b*256+c)/4096%64=16*(a%4)+b/16:=Ta
def x2(a b c:Nat)(h:a<256)(d:b<256)(e:c<256):(a*65536+b*256+c)/64%64=4*(b%16)+c/64:=Ta
def x3(a b c:Nat)(h:a<256)(d:b<256)(e:c<256):(a*65536+b*256+c)%64=c%64:=Ta
def bits_len(b:List UInt8):(bits b).length=8*b.length:=by
 induction b with|nil=>rfl|cons c b ih=>rw[show bits (c::b)=dB c++bits b from rfl,qM,ih];simp[dB];omega
def bits_one(b:List UInt8):∀x∈bits b,x<=1:=by
 intro x a;obtain⟨c,_,a⟩:=List.mem_flatMap.1 a;simp only[dB,wE,List.not_mem_nil,or_false]at a;omega
end Go.Sym.Tr
namespace Go.Sym.Tr
def qx(P:UInt8->Prop)(h:∀n:_root_.Fin 256,P (UInt8.ofNat n.val))(c:UInt8):P c:=by
 have:=h ⟨c.toNat,c.toNat_lt⟩;simpa using this
def isL:List UInt8->Bool|a::b::_=>a==13&&b==10|_=>false
def Kt{α:Type}(a:List α)(c:α)(b:List α):List.drop ((a.length+1:Nat):Int).toNat (a++c::b)=b:=by
 rw[show((a.length+1:Nat):Int).toNat=(a++[c]).length by simp,show a++c::b=(a++[c])++b by simp]
 simp
end Go.Sym.Tr
namespace Go.Sym.Tr
def Qa(c:UInt8):Bool:=bif c==32 then true else c==9
def nY(c:UInt8):eI c=some (Qa c):=by unfold eI Qa;cases c==32<;>rfl
end Go.Sym.Tr
namespace Go.Sym.Tr
def sp:List UInt8->List UInt8×List UInt8|[]=>([],[])|c::r=>if isL (c::r) then([],c::r) else(c::(sp r).1,(sp r).2)
end Go.Sym.Tr
namespace Go.Sym.Tr
def bW(a b:Int):ck a b=some (a,b):=rfl
end Go.Sym.Tr
namespace Go.Sym.Tr
end Go.Sym.Tr
namespace Go.Sym.Tr
end Go.Sym.Tr
namespace Go.Sym.Tr
end Go.Sym.Tr
namespace Go.Sym.Tr
end Go.Sym.Tr
namespace Go.Sym.Tr
end Go.Sym.Tr
namespace Go.Sym.Tr
end Go.Sym.Tr
namespace Go.Sym.Tr
end Go.Sym.Tr
namespace Go.Sym
abbrev sAs:Bs:=[97,115,99,105,105]
abbrev sLa:Bs:=[108,97,116,105,110,49]
abbrev sU8:Bs:=[117,116,102,56]
def nmK:Nat->Bs|0=>sAs|1=>sLa|_=>sU8
end Go.Sym
namespace Go.Sym
def ltr(c:UInt8):Bool:=decide (97<=c/\c<=122)||decide (65<=c/\c<=90)||decide (48<=c/\c<=57)
abbrev Rr:Bs:=[48,49,50,51,52,53,54,55,56,57,65,66,67,68,69,70]
def hxH(c:UInt8):UInt8:=Rr.getD (c.toNat/16) 0
def hxL(c:UInt8):UInt8:=Rr.getD (c.toNat%16) 0
def dq(c:UInt8):Bs:=if c=32 then[95] else if ltr c=true then[c] else[61,hxH c,hxL c]
def qul(c:UInt8)(a:Bs)(h:a.length<=1000000000:=by omega):CE c a=some (a++[c]):=by
 unfold CE bH;rw[qB,ap Tj]
def MC(t a:Bs)(h:a.length<=1000000000:=by omega)(b:t.length<=1000000:=by omega):fS t a=some ((List.length t:Int),a++t):=by
 unfold fS bH;rw[qB,ap (by simp only[ax,qM];omega)]
open Go.Lib (indexByte)
def qkz(k:Nat)(R:List Nat):Bs:=if k=2 then Tr.e64 (tx R) else(R.map UInt8.ofNat).flatMap dq
def qoh(k:Nat):UInt8:=if k=2 then 66 else 81
def qc4(k:Nat)(R:List Nat):Bs:=61::63::(nmK k++63::qoh k::63::(qkz k R++[63,61]))
end Go.Sym
namespace Go.Sym

def Ok{α:Type}(P:α->Prop)(x:Option α):Prop:=∃v,x=some v/\P v
def aw{α:Type}{P:α->Prop}{v:α}(h:P v):Ok P (some v):=⟨v,rfl,h⟩
def ma{α:Type}{P Q:α->Prop}{x:Option α}(h:Ok P x)(f:∀v,P v->Q v):Ok Q x:=by
 obtain⟨v,e,a⟩:=h;exact⟨v,e,f v a⟩
def ar{α β:Type}{P:α->Prop}{Q:β->Prop}{x:Option α}{f:α->Option β}(h:Ok P x)(g:∀v,P v->Ok Q (f v)):Ok Q (x.bind f):=by
 obtain⟨v,e,a⟩:=h;rw[e,qB];exact g v a
def bc{α:Type}{P:α->Prop}{b:Bool}{x y:Option α}(h:b=true->Ok P x)(g:b=false->Ok P y):Ok P (bif b then x else y):=by
 cases b
 ·exact g rfl
 ·exact h rfl
def fj{α:Type}{P:α->Prop}{b:Bool}{x y:Option α}(h:b=false->Ok P x)(g:b=true->Ok P y):Ok P (bif !b then x else y):=by
 cases b
 ·exact h rfl
 ·exact g rfl
def bp{α:Type}{P:α->Prop}{p:Prop}[Decidable p]{x y:Option α}(h:p->Ok P x)(g:¬p->Ok P y):Ok P (bif decide p then x else y):=by
 by_cases q:p
 ·rw[ap q];exact h q
 ·rw[bi q];exact g q
def bn{α:Type}{P:α->Prop}{p:Prop}[Decidable p]{x:Option α}(q:p)(h:Ok P x):Ok P (bif decide p then x else none):=by
 rw[ap q];exact h
def gv{α β γ:Type}{P:γ->Prop}{o:α ⊕ β}{f:α->Option γ}{g:β->Option γ}(h:∀a,o = .inl a->Ok P (f a))(c:∀b,o = .inr b->Ok P (g b)):Ok P (az o f g):=by
 cases o with|inl a=>exact h a rfl|inr b=>exact c b rfl
def L5{α:Type}{P:α->Prop}{l:List α}{k:Nat}(h:k<l.length)(g:∀c∈l,P c):Ok P (ak l (k:Int)):=⟨l[k],ef l k h,g _ (List.getElem_mem h)⟩
def E8{α:Type}{P:α->Prop}{l:List α}{k:Nat}(h:k<l.length)(g:∀c∈l,P c):Ok P (l[k]?):=⟨l[k],List.getElem?_eq_getElem h,g _ (List.getElem_mem h)⟩
def cq{α:Type}{l:List α}{k:Nat}(h:k<l.length:=by omega):Ok (fun _=>True) (ak l (k:Int)):=L5 h fun _ _=>trivial
def EW:∀l:List Int,(kq l).length<=4*l.length
 |[]=>by simp[kq]|x::l=>by
  have:=EW l;have a:(w8 x).length<=4:=by
   unfold w8 Utf8.encode;simp only[]
   repeat' split
   all_goals simp[ByteArray.size]
  have e:kq (x::l)=w8 x++kq l:=by simp[kq]
  rw[e,qM,qL];omega
def qr8(s:Bs):(ig s).length<=s.length:=Mf s s.length 0
def qsk(i n:Nat)(m:Int):∀(d b:Bs)(a:List Int),b.length<n->d.length+b.length<100000000->a.length+b.length<=100000000 ->
  ∃r,uI i n (d++b) ((d.length+b.length:Nat):Int) (d.length:Int) m a=some (m,r)/\r.length<=a.length+b.length:=by
 induction n with
 |zero=>intro d b a h;omega|succ n e=>
  intro d b a h j k;rw[uI,Hz]
  cases b with
  |nil=>rw[bi];exact⟨a,rfl,Te⟩|cons c b=>
   simp only[qL]at h j k;have e:=fun a=>e (d++[c]) b a Ta Td
   simp only[qM,qL,qZ,qS,wM,wO]at e;rw[ap (by simp only[qL];omega),gh,qB,l9 _,show d.length+(c::b).length=d.length+1+b.length by simp only[qL];omega,ir]
   split
   ·rw[ap Tj]
    obtain⟨r,f,g⟩:=e (a++[65533]) Td
    exact⟨r,f,by simp only[qM,qL,qZ]at g ⊢;omega⟩
   ·rw[ap Tj]
    obtain⟨r,f,g⟩:=e (a++[(c.toNat:Int)]) Td
    exact⟨r,f,by simp only[qM,qL,qZ]at g ⊢;omega⟩
def qct(k:Nat)(b:Bs)(h:k+1<b.length)(a:b.length<100000000):∃v,uJ (k:Int) b=some (v,b):=by
 unfold uJ;rw[ef b k,qB,l9 k,ef b (k+1) h,qB]
 exact⟨_,rfl⟩
def Ft(k:Nat)(h:k<100000000:=by omega):ae ((k:Int)+2)=((k+2:Nat):Int):=by rw[au];omega
def qt9(c:Nat)(r0:Int->Bs->List Int->Option TD)(b:Bs)(d:b.length<100000000)(j:Nat)(v:Int)(a:List Int)(e:j+2<=b.length)(f:a.length<=j)
  (h:∀a:List Int,a.length<=j+2->∃r,r0 ((j+2:Nat):Int) b a=some r/\r.length<=b.length):∃r,fL c r0 (j:Int) v b a=some r/\r.length<=b.length:=by
 have g:∀x:Int,∃r,(bif decide (List.length (a++([x]:List Int))<=ax) then r0 (ae ((j:Int)+2)) b (a++([x]:List Int)) else none)=some r/\r.length<=b.length:=fun x=>by
  rw[ap Tj,Ft j]
  exact h _ Tt
 unfold fL;rw[ir];split
 ·rw[ir];split
  ·exact g 65533
  ·exact g v
 ·exact g v
def qks(d:Nat)(b:Bs)(g:b.length<100000000)(n:Nat):∀(k:Nat)(a:List Int),k<=b.length->b.length-k<n->a.length<=k->∃r,bG d n (k:Int) b a=some r/\r.length<=b.length:=by
 induction n with
 |zero=>intro k a _ h;omega|succ n ih=>
  intro k a z h u;rw[bG,H1];by_cases m:(k:Int)<(b.length:Int)
  ·rw[ap m,l9 k,lh]
   by_cases e:((k+1:Nat):Int)=(b.length:Int)
   ·rw[qX e,ap Tj]
    exact⟨_,rfl,Tt⟩
   ·rw[qW e];obtain⟨v,x⟩:=qct k b Ta g
    rw[x,qB];have l:∀(j:Nat)(v:Int),k<=j->j+2<=b.length->∃r,fL d (bG d n) (j:Int) v b a=some r/\r.length<=b.length:=fun j v e s=>
     qt9 d _ b g j v a s Ta fun a u=>ih (j+2) a Ta Ta Ta
    have o:∀(v w:Int)(c:Bool),k+3<b.length->∃r,uK d (bG d n) (k:Int) v w c b a=some r/\r.length<=b.length:=fun v w c f=>by
     unfold uK;cases c
     ·rw[am rfl];exact l k v (wF _) Ta
     ·rw[aq rfl,Ft k];exact l (k+2) _ Ta Ta
    have i:∀(v:Int)(c:Bool),(c=true->k+3<b.length)->∃r,kY d (bG d n) (k:Int) v c b a=some r/\r.length<=b.length:=fun v c t=>by
     unfold kY;cases c
     ·rw[am rfl];exact l k v (wF _) Ta
     ·have f:=t rfl;rw[aq rfl,Ft k]
      obtain⟨w,y⟩:=qct (k+2) b Ta g
      rw[y,qB];dsimp only;rw[ir];split
      ·exact o v w _ f
      ·exact o v w _ f
    have p:ae ((k:Int)+3)=((k+3:Nat):Int):=by rw[au];omega
    dsimp only;rw[ir];split
    ·rw[ir];split
     ·rw[p];exact i v _ fun q=>by have:=of_decide_eq_true q;omega
     ·exact i v false Te
    ·exact i v false Te
  ·rw[bi m];exact⟨a,rfl,Ta⟩
def qmd(a:Nat)(b:90000000<=a)(nm:Bs)(c:nm.length<=4000000):(∃x:Bs,∃m:Int,fK a nm=some (.inl (x,(true,m))))\/(∃x:Bs,fK a nm=some (.inr (.inl (x,true))))\/(∃x:Bs,fK a nm=some (.inr (.inr (.inl (x,true)))))\/fK a nm=some (.inr (.inr (.inr ([],false)))):=by
 unfold fK Ca;simp only[qB];rw[EY a b _ _ Te c,qB]
 cases lk [97,115,99,105,105] nm
 ·rw[am rfl,EY a b _ _ Te c,qB]
  cases lk [108,97,116,105,110,49] nm
  ·rw[am rfl,EY a b _ _ Te c,qB]
   cases lk [117,116,102,56] nm
   ·rw[am rfl,EY a b _ _ Te c,qB]
    cases lk [117,116,102,49,54,98,101] nm
    ·rw[am rfl];exact .inr (.inr (.inr rfl))
    ·rw[aq rfl];exact .inr (.inr (.inl ⟨_,rfl⟩))
   ·rw[aq rfl];exact .inr (.inl ⟨_,rfl⟩)
  ·rw[aq rfl];exact .inl ⟨_,_,rfl⟩
 ·rw[aq rfl];exact .inl ⟨_,_,rfl⟩
def qj6(a:Nat)(g:90000000<=a)(nm b:Bs)(j:nm.length<=4000000:=by omega):∃s f,BZ a nm b=some (s,f)/\s.length<=48000:=by
 unfold BZ;by_cases d:(12000:Int)<(b.length:Int)
 ·rw[ap d];exact⟨[],_,rfl,Te⟩
 ·rw[bi d];rcases qmd a g nm j with⟨x,m,e⟩|⟨x,e⟩|⟨x,e⟩|e<;>rw[e,qB]<;>simp only[az]
  ·rw[mF];obtain⟨r,c,h⟩:=qsk a a m [] b [] Ta Td Td
   have i:=EW r;simp only[List.nil_append,qZ,wO]at c h;rw[show((0:Nat):Int)=0 from rfl]at c
   unfold Hy;rw[c];exact⟨_,_,rfl,Tq⟩
  ·rw[mF];have i:=EW (ig b);have k:=qr8 b;unfold Hx;rw[ap]
   exact⟨_,_,rfl,Ta⟩
  ·rw[mF];obtain⟨r,c,h⟩:=qks a b Ta a 0 [] Ta Ta Te
   have i:=EW r;unfold H0;rw[show(0:Int)=((0:Nat):Int) from rfl,c]
   exact⟨_,_,rfl,Ta⟩
  ·exact⟨_,_,rfl,Te⟩
def qm2:∀n:_root_.Fin 256,(kW (UInt8.ofNat n.val)).isSome=true:=by decide +kernel
def Ro(c:UInt8):Ok (fun _=>True) (kW c):=by
 obtain⟨v,e⟩:=Option.isSome_iff_exists.1 (qx (fun c=>(kW c).isSome=true) qm2 c)
 exact⟨v,e,trivial⟩
def qp0(r:Bs):Ok (fun v=>v.2=true->2<=r.length) (BX r):=by
 unfold BX;refine bp (fun _=>aw (fun q=>by cases q)) fun h => ?_
 have a:2<=r.length:=Ta
 refine ar (cq (k:=0) Ta) fun c1 _=>ar (Ro c1) fun x2 _=>ar (cq (k:=1) Ta) fun c3 _=>ar (Ro c3) fun x4 _ => ?_
 exact bc (fun _=>aw fun _=>a) (fun _=>aw fun _=>a)
def lx{α:Type}(a:List α)(c:α)(h:a.length<=1000000000:=by omega):(a++[c]).length<=ax:=by
 simp only[ax,qM,qL,qZ];omega
def bj(k:Nat)(h:k<100000000:=by omega):ae ((k:Int)+1)=((k+1:Nat):Int):=l9 k
def qt7(e n:Nat)(s:Bs)(r:s.length<=100000):∀(k:Nat)(a:Bs),k<=s.length->s.length-k<n->a.length<=k->Ok (fun _=>True) (lL e n s (k:Int) a):=by
 induction n with
 |zero=>intro k a _ h;omega|succ n ih=>
  intro k a o h p;rw[lL,IR];refine bp (fun m => ?_) (fun _=>aw trivial)
  have d:k<s.length:=Ta
  have f:∀c:UInt8,(a++[c]).length<=k+1:=fun c=>by simp;omega
  have g:∀b:Bool,Ok (fun _=>True) (vY e (lL e n) s (k:Int) b a):=fun b=>by
   unfold vY;refine bc (fun _=>ar (cq d) fun c1 _=>bn (lx _ _) ?_) (fun _=>aw trivial)
   rw[bj k]
   exact ih (k+1) _ Ta Ta (f _)
  refine ar (cq d) fun c1 _=>bc (fun _=>bn (lx _ _) ?_) fun _=>ar (cq d) fun c2 _=>bc (fun _ => ?_) fun _ => ?_
  ·rw[bj k]
   exact ih (k+1) _ Ta Ta (f _)
  ·rw[bj k]
   refine bn Ta (ar (qp0 _) fun x3 i=>fj (fun _=>aw trivial) fun q=>bn (lx _ _) ?_)
   have:=i q;rw[List.length_drop]at this;rw[Ft k,bj (k+2)]
   exact ih (k+2+1) _ Ta Ta (by have:=f x3.1;omega)
  ·exact ar (cq d) fun j _=>bp (fun _=>ar (cq d) fun l _=>g _) fun _=>g _
def qob(v:Int):Ok (fun _=>True) (ak ([65,66,67,68,69,70,71,72,73,74,75,76,77,78,79,80,81,82,83,84,85,86,87,88,89,90,97,98,99,100,101,102,103,104,105,106,107,108,109,110,111,112,113,114,115,116,117,118,119,120,121,122,48,49,50,51,52,53,54,55,56,57,43,47]:Bs) (ae (((BitVec.ofInt 64 v&&&BitVec.ofInt 64 (63:Int)).toNat:Int)))):=by
 have h:(BitVec.ofInt 64 v&&&BitVec.ofInt 64 (63:Int)).toNat<=63:=by
  rw[BitVec.toNat_and];exact Nat.le_trans Nat.and_le_right Tf
 generalize (BitVec.ofInt 64 v&&&BitVec.ofInt 64 (63:Int)).toNat=k at h;rw[au]
 exact cq TA
def qly(a b c d:UInt8)(k:Int)(o:Bs)(h:o.length<=1000000:=by omega):Ok (fun r=>r.2.length<=o.length+6) (ju a b c d k o):=by
 unfold ju;exact bc (fun _=>bn To (bn To (aw Te))) fun _=>bn To (aw Te)
def qmu(f n:Nat):∀(m o:Bs)(l:Int),m.length<n->o.length+6*m.length<=900000->Ok (fun r=>r.2.2.length<=900000) (yl f n m l o):=by
 induction n with
 |zero=>intro m o l h;omega|succ n ih=>
  intro m o l h t;rw[yl,Hi];refine bp (fun s => ?_) fun _=>aw (by show o.length<=900000;omega)
  obtain⟨k,p,w,x⟩:∃k:Nat,(if(List.length m:Int)<(3:Int) then(List.length m:Int) else(3:Int))=k/\1<=k/\k<=m.length:=by
   split
   ·exact⟨m.length,rfl,Ta,Ta⟩
   ·exact⟨3,rfl,Ta,Ta⟩
  rw[p];have q:∀v:Int×Bs,v.2.length<=o.length+6->Ok (fun r=>r.2.2.length<=900000) (bif decide (0<=(k:Int)/\(k:Int)<=(List.length m:Int)) then yl f n (List.drop (k:Int).toNat m) v.1 v.2 else none):=fun v u=>
   bn ⟨Ta,Ta⟩ (ih _ _ _ (by rw[List.length_drop];omega) (by rw[List.length_drop];omega))
  have j:∀v,Ok (fun r=>r.2.2.length<=900000) (uE f (yl f n) (k:Int) v m l o):=fun v=>by
   unfold uE;have e:=fun a b c d=>qly a b c d l o
   repeat' first|exact ar (e _ _ _ _) q|refine ar (qob _) fun _ _ => ?_|refine bp (fun _ => ?_) fun _ => ?_
  have i:∀v,Ok (fun r=>r.2.2.length<=900000) (uC f (yl f n) (k:Int) v m l o):=fun v=>by
   unfold uC;exact bp (fun _=>ar (cq (k:=2) Ta) fun _ _=>j _) fun _=>j _
  have g:∀v,Ok (fun r=>r.2.2.length<=900000) (uB f (yl f n) (k:Int) v m l o):=fun v=>by
   unfold uB;exact bp (fun _=>ar (cq (k:=1) Ta) fun _ _=>i _) fun _=>i _
  exact bp (fun _=>ar (cq (k:=0) Ta) fun _ _=>g _) fun _=>g _
def qmj(a:Nat)(c:90000000<=a)(b:Bs):Ok (fun _=>True) (CL a b):=by
 unfold CL;refine ar (P:=fun r=>r.2.length<=1000000) ?_ fun x h=>ar (P:=fun _=>True) ?_ fun _ _=>aw trivial
 ·unfold Hf;refine bp (fun _=>⟨_,rfl,Te⟩) fun h => ?_
  rw[show Hh b=some b from rfl,qB]
  refine ar (qmu a a b [] 0 Ta Td) fun x d=>bp (fun _=>bn To ⟨_,rfl,Td⟩) fun _=>⟨_,rfl,by show x.2.2.length<=1000000;omega⟩
 ·unfold yt;exact bn TA (aw trivial)
def qon(a n:Nat)(s:Bs)(g:s.length<=24000)(z:Int×Int):∀(k j:Nat)(v:Int)(o:Bs),k<=s.length->s.length-k<n->o.length<=k->j<=7->Ok (fun _=>True) (uA a n v (j:Int) s (s.length:Int) (k:Int) z o):=by
 induction n with
 |zero=>intro k j v o _ h;omega|succ n ih=>
  intro k j v o e h f c;rw[uA,Hg];refine bp (fun d => ?_) fun _=>⟨_,rfl,trivial⟩
  refine ar (cq) fun y _=>bc (fun _=>⟨_,rfl,trivial⟩) fun _=>bn Tf (ar (P:=fun _=>True) ⟨_,rfl,trivial⟩ fun x _ => ?_)
  rw[bj k,au (x:=(j:Int)+6) Ta Ta]
  refine bp (fun _=>ih (k+1) j v o Ta Ta Ta c) fun _=>bp (fun b => ?_) fun b => ?_
  ·rw[au (x:=(j:Int)+6-8) Ta Ta,show(j:Int)+6-8=((j-2:Nat):Int) by omega]
   exact bn Ta (bn To (bn Ta (ih (k+1) (j-2) _ _ Ta Ta Td Ta)))
  ·rw[show(j:Int)+6=((j+6:Nat):Int) by omega]
   exact ih (k+1) (j+6) _ _ Ta Ta Ta Ta
def qjv(a:Nat)(c:90000000<=a)(k s:Bs)(g:s.length<=24000:=by omega):Ok (fun _=>True) (CK a k s):=by
 have e:∀b:Bool,Ok (fun _=>True) (vX a s b):=fun b=>by
  unfold vX;exact bc (fun _=>qt7 a a s Ta 0 [] Ta Ta Te) (fun _=>aw trivial)
 have d:∀b:Bool,Ok (fun _=>True) (vW a s k b):=fun b=>by
  unfold vW;refine bc (fun _=>bn (by unfold maxLen;omega) ?_) (fun _=>bc (fun _=>e _) (fun _=>e _))
  have f:Ok (fun _=>True) (BP a s):=by
   unfold BP;exact bp (fun _=>⟨_,rfl,trivial⟩) fun _=>qon a a s g (0,0) 0 0 0 [] Ta Ta Te Ta
  exact ar f fun _ _=>ar (qmj a c _) fun _ _=>aw trivial
 unfold CK;exact bc (fun _=>d _) (fun _=>d _)
def tot(l:List Bs):Nat:=(l.map List.length).sum
def Fj:tot []=0:=rfl
def M2(a:Bs)(l:List Bs):tot (a::l)=a.length+tot l:=by simp[tot]
def qcj(a b:List Bs):tot (a++b)=tot a+tot b:=by simp[tot]
def Er(c:UInt8):∀(w r:Bs),(∀x∈w,x≠c)->Lib.index (w++c::r) [c]=(w.length:Int)
 |[],r,_=>by rw[List.nil_append,Lib.index,qX (by simp[List.isPrefixOf])];rfl|d::w,r,h=>by
  have a:=h d qH;rw[wK,Lib.index,qW (by simp[List.isPrefixOf];intro q;exact a q.symm),Er c w r (fun d b=>h d (qE _ b)),qW (by rw[beq_iff_eq];omega)]
  simp
def Es(c:UInt8):∀s:Bs,(∀x∈s,x≠c)->Lib.index s [c] = -1
 |[],_=>rfl|d::s,h=>by
  rw[Lib.index,qW (by simp[List.isPrefixOf];exact fun q=>h d qH q.symm),Es c s (fun x a=>h x (qE _ a))]
  rfl
def KH(c:UInt8)(s:Bs)(a:s.length<=1000000:=by omega):(jh s [c]=some (-1))\/∃w r,s=w++c::r/\jh s [c]=some (w.length:Int):=by
 unfold jh vx;rw[ap,qB]
 rcases Fc c s with⟨w,r,rfl,h⟩|h
 ·exact .inr ⟨w,r,rfl,congrArg some (Er c w r h)⟩
 ·exact .inl (congrArg some (Es c s h))
def qmp(j:Nat)(n:Nat)(c:UInt8)(m:Nat)(q:m<=100000):∀(s:Bs)(D E:List Bs),s.length<=100000->E.length+D.length=m+1->D.length<=m->m-D.length<n ->
  Ok (fun r=>r.length<=m+1/\tot r+r.length=tot D+D.length+s.length+1) (vQ j n s [c] 0 (m:Int) (D.length:Int) (D++E)):=by
 induction n with
 |zero=>intro s D E _ _ _ h;omega|succ n ih=>
  intro s D E o f p t;rw[vQ,I4];obtain⟨e,E,rfl⟩:∃e i,E=e::i:=by cases E with|nil=>simp at f;omega|cons e E=>exact⟨e,E,rfl⟩
  have b:(D.length:Int).toNat<(D++e::E).length:=Te
  have a:Ok (fun r=>r.length<=m+1/\tot r+r.length=tot D+D.length+s.length+1) (bif decide (0<=(D.length:Int)/\(D.length:Int).toNat<List.length (D++e::E)) then((D++e::E)[(D.length:Int).toNat]?).bind fun _=>bif decide (0<=ae ((D.length:Int)+(1:Int))/\ae ((D.length:Int)+(1:Int))<=(List.length (List.set (D++e::E) (D.length:Int).toNat s):Int)) then some (List.take (ae ((D.length:Int)+(1:Int))).toNat (List.set (D++e::E) (D.length:Int).toNat s)) else none else none):=by
   refine bn ⟨Ta,b⟩ ?_
   rw[nK,qB,oB,bj _]
   refine bn ⟨Ta,Td⟩ (aw ?_)
   rw[show((D.length+1:Nat):Int).toNat=(D++[s]).length by simp,show D++s::E=(D++[s])++E by simp,List.take_left,qcj,M2,Fj]
   simp;omega
  refine bp (fun k => ?_) (fun k=>a)
  rcases KH c s with d|⟨w,r,rfl,d⟩
  ·rw[d,qB,ap];exact a
  ·simp only[qM,qL]at o;rw[d,qB,bi,Int.add_zero,au (x:=(w.length:Int)) Ta Ta]
   refine bn Td (bn ⟨Ta,b⟩ ?_)
   rw[nK,qB,show((List.length ([c]:Bs):Nat):Int)=1 from rfl,bj _,bj _,oB]
   refine bn Td ?_
   rw[show((w.length+1:Nat):Int).toNat=w.length+1 by omega,← List.drop_drop,List.drop_left,show((w.length:Nat):Int).toNat=w.length by omega,List.take_left]
   have:=ih r (D++[w]) E Ta (by simp at f ⊢;omega) Td Td
   simp only[qM,qL,qZ,wO,qS,wM]at this;refine ma this fun v g=>⟨g.1,?_⟩
   have l:=g.2;rw[qcj,M2,Fj]at l;simp only[qM,qL];omega
def qsx(a:Nat)(d:100<=a)(s:Bs)(e:s.length<=100000:=by omega):Ok (fun r=>r.length<=4/\tot r+r.length=s.length+1) (CG a s [63] 4):=by
 unfold CG CH;rw[am,am,bi Tf]
 unfold CI;rw[bj _]
 generalize c:(if((s.length+1:Nat):Int)<(4:Int) then((s.length+1:Nat):Int) else(4:Int))=x
 obtain⟨m,rfl,f⟩:∃m:Nat,x=((m+1:Nat):Int)/\m<=3:=by
  by_cases h:((s.length+1:Nat):Int)<(4:Int)
  ·rw[qX h]at c;exact⟨s.length,c.symm,Ta⟩
  ·rw[qW h]at c;exact⟨3,Ta,Ta⟩
 refine ar (P:=fun r=>r.length<=4/\tot r+r.length=s.length+1) (bn Ta ?_) fun v b=>aw b
 rw[quj m,show((m+1:Nat):Int).toNat=m+1 by omega]
 have:=qmp a a 63 m Ta s [] (List.replicate (m+1) []) e Te Te Td
 rw[List.nil_append,Fj]at this;refine ma this fun v b=>⟨Ta,?_⟩
 have:=b.2;simp at this;exact this
def Rk(s p:Bs):Ok (fun b=>b=true->p.length<=s.length) (vO s p):=by
 unfold vO Ci;refine ar (P:=fun b=>b=true->p.length<=s.length) (bp (fun h=>bn Ta (aw fun _=>Ta)) fun h=>aw fun q=>by cases q) fun v a=>aw a
def qmk{r:List Bs}(h:¬(r.length:Int)<4)(e:r.length<=4):∃a b c d,r=[a,b,c,d]:=by
 match r,h,e with|[a,b,c,d],_,_=>exact⟨a,b,c,d,rfl⟩|[],h,_=>exact absurd h Te|[_],h,_=>exact absurd h Te|[_,_],h,_=>exact absurd h Te|[_,_,_],h,_=>exact absurd h Te|_::_::_::_::_::_,_,h=>exact absurd h Te
def qqy(g:Nat)(i:90000000<=g)(s:Bs)(H:s.length<=100000):Ok (fun v=>v.1.length<=48000/\(v.2.2=true->∃k:Nat,v.2.1=(k:Int)/\6<=k/\k<=s.length)) (CM g s):=by
 unfold CM;refine ar (Rk s [61,63]) fun b w=>fj (fun _=>aw ⟨Te,fun q=>by cases q⟩) fun q => ?_
 have E:2<=s.length:=w q;generalize o:(if(75:Int)<(List.length s:Int) then(75:Int) else(List.length s:Int))=x
 obtain⟨m,rfl,G,z,A⟩:∃m:Nat,x=(m:Int)/\2<=m/\m<=s.length/\m<=75:=by
  by_cases h:(75:Int)<(List.length s:Int)
  ·rw[qX h]at o;exact⟨75,Ta,Ta,Ta,Ta⟩
  ·rw[qW h]at o;exact⟨s.length,o.symm,Ta,Ta,Ta⟩
 refine bn Ta ?_
 have y:(List.take ((m:Int).toNat-(2:Int).toNat) (List.drop (2:Int).toNat s)).length=m-2:=by
  rw[List.length_take,List.length_drop,show(2:Int).toNat=2 from rfl,show(m:Int).toNat=m by omega];omega
 refine ar (qsx g Ta _) fun r n => ?_
 rw[y]at n;refine bp (fun _ => ?_) fun u => ?_
 ·unfold vZ;rw[aq rfl];exact aw ⟨Te,fun q=>by cases q⟩
 ·obtain⟨a,b,c,d,rfl⟩:=qmk u n.1;have B:=n.2;simp only[M2,Fj,qL,qZ]at B;rw[show ak [a,b,c,d] (3:Int)=some d from rfl,qB]
  refine ar (Rk d [61]) fun C l => ?_
  unfold vZ;refine fj (fun _ => ?_) fun q => ?_
  ·exact aw ⟨Te,fun q=>by cases q⟩
  ·have F:1<=d.length:=l q;unfold IS;rw[show ak [a,b,c,d] (1:Int)=some b from rfl,show ak [a,b,c,d] (2:Int)=some c from rfl,show ak [a,b,c,d] (0:Int)=some a from rfl]
   simp only[qB];refine ar (qjv g i b c) fun x3 _ => ?_
   obtain⟨t,f,e,j⟩:=qj6 g i a x3.2
   rw[e,qB];have p:ae (ae (ae (ae ((2:Int)+(a.length:Int))+(b.length:Int))+(c.length:Int))+4)=((2+a.length+b.length+c.length+4:Nat):Int):=by
    rw[au (x:=2+(a.length:Int)) Ta Ta,au (x:=2+(a.length:Int)+(b.length:Int)) Ta Ta,au (x:=2+(a.length:Int)+(b.length:Int)+(c.length:Int)) Ta Ta,au]
    omega
   rw[p];refine bc (fun _ => ?_) fun _=>aw ⟨j,fun q=>by cases q⟩
   exact⟨_,rfl,j,fun _=>⟨_,rfl,Ta,Ta⟩⟩
def Gp(g:Int)(k:Nat):Prop:=g<0\/∃j:Nat,g=(j:Int)/\j<=k
def qk6(f:Nat)(o:90000000<=f)(z:Int×Int)(s:Bs)(F:s.length<=4000)(n:Nat):∀(k:Nat)(g:Int)(a:Bs),k<=s.length->s.length-k<n->Gp g k->a.length<=60000*k ->
  Ok (fun v=>v.1.length<=300000000) (bM f n s g (k:Int) z a):=by
 induction n with
 |zero=>intro k g a _ h;omega|succ n ih=>
  intro k g a E h d l;rw[bM,IQ];refine bp (fun w => ?_) fun w => ?_
  ·have i:k<s.length:=Ta
   refine bn Ta (ar (qqy f o _ (by rw[List.length_drop];omega)) fun v p => ?_)
   have u:∀(g:Int)(a:Bs),Gp g k->a.length<=60000*k+10000->Ok (fun v=>v.1.length<=300000000) (vV f (bM f n) s g (k:Int) z a):=fun g a d l=>by
    unfold vV;rw[bj k]
    exact ih (k+1) g a Ta Ta (d.imp id fun⟨j,e,m⟩=>⟨j,e,Ta⟩) Ta
   have t:∀(b:Bool)(g:Int)(a:Bs),(b=true->0<=g)->Gp g k->a.length<=60000*k+1->Ok (fun v=>v.1.length<=300000000) (vU f (bM f n) s g (k:Int) b z a):=fun b g a y d l=>by
    unfold vU;refine bc (fun q => ?_) fun _=>u g a d Ta
    have:=y q;obtain⟨j,rfl,m⟩:∃j:Nat,g=(j:Int)/\j<=k:=d.resolve_left Ta
    rw[bj k]
    refine bn Ta ?_
    have A:(List.take (((k+1:Nat):Int).toNat-(j:Int).toNat) (List.drop (j:Int).toNat s)).length<=4000:=by
     rw[List.length_take,List.length_drop];omega
    rw[MC _ _,qB]
    exact u (-1) _ (.inl Ta) Tn
   have r:∀(g:Int)(a:Bs),Gp g k->a.length<=60000*k+1->Ok (fun v=>v.1.length<=300000000) (vT f (bM f n) s g (k:Int) z a):=fun g a d l=>by
    unfold vT;refine bp (fun h=>ar (cq i) fun c _ => ?_) fun h=>t false g a (fun q=>by cases q) d l
    rw[D0,qB];exact t _ g a (fun _=>h) d l
   refine fj (fun _=>bp (fun _=>ar (cq i) fun c _ => ?_) fun _=>r g a d Ta) fun q => ?_
   ·rw[qul _ _,qB]
    exact r g _ d Tt
   ·obtain⟨j,e,C,m⟩:=p.2 q;rw[List.length_drop]at m;have B:=p.1;rw[MC _ _,qB,e,au (x:=(k:Int)+(j:Int)) Ta Ta,show(k:Int)+(j:Int)=((k+j:Nat):Int) by omega]
    exact ih (k+j) _ _ Ta Ta (.inr ⟨k+j,rfl,wF _⟩) Tn
  ·refine bp (fun h => ?_) fun h => ?_
   ·obtain⟨j,rfl,m⟩:∃j:Nat,g=(j:Int)/\j<=k:=d.resolve_left Ta
    refine bn Ta ?_
    have A:(List.drop (j:Int).toNat s).length<=4000:=by rw[List.length_drop];omega
    rw[MC _ _,qB]
    exact⟨_,rfl,by simp only[qM];omega⟩
   ·exact⟨_,rfl,Ts⟩
def qk7(a:Nat)(b:90000000<=a)(s:Bs):Ok (fun v=>v.1.length<=300000000) (CJ a s):=by
 unfold CJ;refine bp (fun _=>⟨_,rfl,Te⟩) fun h => ?_
 exact qk6 a b _ s Ta a 0 (-1) [] Ta Ta (.inl Ta) Te
abbrev dj{α:Type}:α->Prop:=fun _=>True
def D2:∀n:_root_.Fin 256,(yg (UInt8.ofNat n.val)).isSome=true/\(aX (UInt8.ofNat n.val)).isSome=true/\(aV (UInt8.ofNat n.val)).isSome=true/\(bK ([58,59,44,64,60,62]:Bs) (UInt8.ofNat n.val)).isSome=true:=by decide +kernel
def E9{α:Type}{x:Option α}(h:x.isSome=true):Ok dj x:=by
 obtain⟨v,e⟩:=Option.isSome_iff_exists.1 h;exact⟨v,e,trivial⟩
def JH(c:UInt8):Ok dj (yg c):=E9 (qx (fun c=>(yg c).isSome=true) (fun n=>(D2 n).1) c)
def qot(c:UInt8):Ok dj (aX c):=E9 (qx (fun c=>(aX c).isSome=true) (fun n=>(D2 n).2.1) c)
def QJ(c:UInt8):Ok dj (aV c):=E9 (qx (fun c=>(aV c).isSome=true) (fun n=>(D2 n).2.2.1) c)
def qbc(c:UInt8):Ok dj (bK ([58,59,44,64,60,62]:Bs) c):=E9 (qx (fun c=>(bK ([58,59,44,64,60,62]:Bs) c).isSome=true) (fun n=>(D2 n).2.2.2) c)
def J9(s:Bs)(d:s.length<=10000000)(a:Nat->Bs->Int->Int->Option Bool)(p:UInt8->Option Bool)(hp:∀c,Ok dj (p c))
  (b:∀n e k,a (n+1) s e k=(bif decide (k<e) then(ak s k).bind fun c=>(p c).bind fun x=>bif !x then some false else a n s e (ae (k+(1:Int))) else some true)) :
  ∀n k:Nat,s.length-k<n->Ok dj (a n s (s.length:Int) (k:Int)):=by
 intro n
 induction n with
 |zero=>intro k h;omega|succ n ih=>
  intro k h;rw[b];refine bp (fun q=>ar (cq (k:=k) Ta) fun c _=>ar (hp c) fun x _=>fj (fun _=>aw trivial) fun _ => ?_) fun _=>aw trivial
  rw[bj k]
  exact ih (k+1) Ta
def SQ{R:Type}(f:Nat->Bs->Bs->Int->Bool->Option R)(r0:Bs->Bool->Option TX)(A B:Bs×Bs×Int×Bool->R)(j:∀s b,s.length<=100000->Ok dj (r0 s b))
  (p:∀n c a d i,f (n+1) c a d i=(jh a c).bind fun x1=>bif decide (x1<(0:Int)) then(r0 a i).bind fun x2=>az x2 (fun l=>some (A (c,(a,(d,l))))) (fun o=>some (B (c,(a,(d,o))))) else bif decide (0<=ae (x1+d)/\ae (x1+d)<=(List.length a:Int)) then(r0 (List.take (ae (x1+d)).toNat a) i).bind fun q=>az q (fun m=>some (A (c,(a,(d,m))))) (fun g=>bif decide (0<=ae (x1+(List.length c:Int))/\ae (x1+(List.length c:Int))<=(List.length a:Int)) then f n c (List.drop (ae (x1+(List.length c:Int))).toNat a) d g else none) else none) :
  ∀(n:Nat)(s:Bs)(b:Bool),s.length<n->s.length<=100000->Ok dj (f n [46] s 0 b):=by
 intro n
 induction n with
 |zero=>intro s b h;omega|succ n ih=>
  intro s b h k;rw[p];rcases KH 46 s with e|⟨w,r,rfl,e⟩
  ·rw[e,qB,ap]
   exact ar (j s b k) fun x2 _=>gv (fun _ _=>aw trivial) fun _ _=>aw trivial
  ·simp only[qM,qL]at h k;rw[e,qB,bi,Int.add_zero,au (x:=(w.length:Int)) Ta Ta]
   refine bn Td (ar (j _ b (by rw[List.length_take];simp;omega)) fun x2 _=>gv (fun _ _=>aw trivial) fun g _ => ?_)
   rw[show((List.length ([46]:Bs):Nat):Int)=1 from rfl,bj _]
   refine bn Td ?_
   rw[show((w.length+1:Nat):Int).toNat=w.length+1 by omega,← List.drop_drop,List.drop_left]
   exact ih r g Ta Ta
def qh8(a:Nat)(b:90000000<=a)(s:Bs)(c:s.length<=100000:=by omega):Ok dj (BQ a s):=J9 s Ta (kT a) aX qot (fun _ _ _=>rfl) a 0 Ta
def qh9(a:Nat)(b:90000000<=a)(s:Bs)(c:s.length<=100000):Ok dj (BR a s):=J9 s Ta (kU a) yg JH (fun _ _ _=>rfl) a 0 Ta
def qia(a:Nat)(b:90000000<=a)(s:Bs)(c:s.length<=100000):Ok dj (BS a s):=J9 s Ta (kV a) aV QJ (fun _ _ _=>rfl) a 0 Ta
def Lc(a:Nat)(b:90000000<=a)(s:Bs):Ok dj (th a s):=by
 unfold th;exact fj (fun _=>bp (fun h=>ar (qh8 a b s) fun _ _=>aw trivial) fun _=>aw trivial) fun _=>aw trivial
def QM(a:Nat)(c:90000000<=a)(s:Bs)(d:s.length<=100000:=by omega):Ok dj (vm a s):=by
 unfold vm tT qq bL;simp only[qB];unfold vR;rw[am]
 refine ar (P:=dj) (ar (P:=dj) ?_ fun x _=>gv (fun _ _=>aw trivial) fun _ _=>aw trivial) fun _ _=>aw trivial
 refine SQ (lJ a) (vo a) _ _ (fun s b d => ?_) (fun _ _ _ _ _=>rfl) a s false Ta d
 unfold vo;exact bc (fun _=>aw trivial) fun _=>ar (qh9 a c s d) fun _ _=>fj (fun _=>aw trivial) fun _=>aw trivial
def Ko(a:Nat)(c:90000000<=a)(s:Bs):Ok dj (qo a s):=by
 unfold qo;refine bp (fun h => ?_) fun _=>aw trivial
 unfold tU qq bL;simp only[qB];unfold vS;rw[am]
 refine ar (P:=dj) (ar (P:=dj) ?_ fun x _=>gv (fun _ _=>aw trivial) fun _ _=>aw trivial) fun _ _=>aw trivial
 refine SQ (lK a) (vp a) _ _ (fun s b d => ?_) (fun _ _ _ _ _=>rfl) a s false Ta Ta
 unfold vp;exact bc (fun _=>aw trivial) fun _=>ar (qia a c s d) fun _ _=>fj (fun _=>aw trivial) fun _=>aw trivial
def At(s:Bs)(k:Nat)(m:Bs×Int):Prop:=∃j:Nat,m=(s,(j:Int))/\k<=j/\j<=s.length
def mr{s:Bs}{k j:Nat}(h:k<=j)(a:j<=s.length):At s k (s,(j:Int)):=⟨j,rfl,h,a⟩
def at_le{s:Bs}{k l:Nat}{m:Bs×Int}(h:At s k m)(q:l<=k:=by omega):At s l m:=by obtain⟨j,e,a,b⟩:=h;exact⟨j,e,Ta,b⟩
def ki{α:Type}(P:α->Prop)(r:Int ⊕ α):Prop:=∀m,r = .inr m->P m
def gd{α:Type}{P:α->Prop}{x:Int}:ki P (.inl x):=fun _ q=>by cases q
def mb{α:Type}{P:α->Prop}{x:α}(h:P x):ki P (.inr x):=fun _ q=>by cases q;exact h
def qko(a:Nat)(o:90000000<=a)(s:Bs)(t:s.length<=4000)(n:Nat):∀(d:Int)(k:Nat),k<=s.length+1->s.length+1-k<n->Ok (ki (At s (k+1))) (fE a n d (s,(k:Int))):=by
 induction n with
 |zero=>intro d k _ h;omega|succ n ih=>
  intro d k q h;rw[fE,Hd];refine bp (fun _=>⟨_,rfl,gd⟩) fun j => ?_
  have l:k<s.length:=by simp only[]at j;omega
  unfold He;have g:ae ((k:Int)+1)=((k+1:Nat):Int):=bj k
  have i:ae (((k+1:Nat):Int)+1)=((k+2:Nat):Int):=bj (k+1)
  have f:∀d,Ok (ki (At s (k+1))) (fE a n d (s,((k+1:Nat):Int))):=fun d=>ma (ih d (k+1) Ta Ta) fun r b m e=>at_le (b m e)
  have p:∀d,Ok (ki (At s (k+1))) (fE a n d (s,((k+2:Nat):Int))):=fun d=>ma (ih d (k+2) Ta Ta) fun r b m e=>at_le (b m e)
  dsimp only;simp only[g,i];refine ar (cq l) fun c _=>bc (fun _=>f _) fun _=>bc (fun _=>bc (fun _=>aw (mb (mr Ta Ta))) fun _=>f _) fun _=>bc (fun _=>p _) fun _=>f _
def qsl(d:Nat)(f:90000000<=d)(s:Bs)(t:s.length<=4000)(n:Nat):∀k:Nat,k<=s.length->s.length-k<n->Ok (ki (At s k)) (tj d n (s,(k:Int))):=by
 induction n with
 |zero=>intro k _ h;omega|succ n ih=>
  intro k i h;rw[tj,tY];refine bp (fun o => ?_) fun _=>aw (mb (mr (wF _) i))
  have p:k<s.length:=by simp only[]at o;omega
  have l:∀j:Nat,k<j->j<=s.length->Ok (ki (At s k)) (tj d n (s,(j:Int))):=fun j a b=>ma (ih j b Ta) fun r g m e=>at_le (g m e)
  refine ar (cq p) fun c _ => ?_
  rw[D0,qB];refine bc (fun _ => ?_) fun _=>bc (fun _=>ar (qko d f s t d 0 k Ta Ta) fun r g=>gv (fun _ _=>aw gd) fun b q => ?_) fun _=>aw (mb (mr (wF _) i))
  ·dsimp only;rw[bj k];exact l (k+1) Ta Ta
  ·obtain⟨j,rfl,a,b⟩:=g b q;exact l j Ta b
def qqv(f:Nat)(t:90000000<=f)(s:Bs)(y:s.length<=4000)(n:Nat):∀(k:Nat)(d:Bs),k<=s.length->s.length-k<n->d.length<=k->Ok (ki fun v=>At s (k+1) v.2/\v.1.length<=s.length) (yj f n (s,(k:Int)) d):=by
 induction n with
 |zero=>intro k d _ h;omega|succ n ih=>
  intro k d w h x;rw[yj,BM];refine bp (fun _=>⟨_,rfl,gd⟩) fun p => ?_
  have q:k<s.length:=by simp only[]at p;omega
  have l:ae ((k:Int)+1)=((k+1:Nat):Int):=bj k
  have o:ae (((k+1:Nat):Int)+1)=((k+2:Nat):Int):=bj (k+1)
  have i:∀(j:Nat)(c:UInt8),k<j->j<=s.length->Ok (ki fun v=>At s (k+1) v.2/\v.1.length<=s.length) (yj f n (s,(j:Int)) (d++[c])):=fun j c a b=>
   ma (ih j (d++[c]) b Ta Td) fun r g m e=>⟨at_le (g m e).1,(g m e).2⟩
  unfold kQ BN;dsimp only;simp only[l,o];refine ar (cq q) fun c _=>bc (fun _=>aw (mb ⟨mr (wF _) Ta,Ts⟩)) fun _=>bc (fun _=>bp (fun _=>⟨_,rfl,gd⟩) fun u=>ar (cq) fun c2 _=>bn (lx _ _) (i (k+2) c2 Ta Ta)) fun _=>bn (lx _ _) (i (k+1) c Ta Ta)
def IY(s:Bs)(k:Nat):Da->Prop|.inl _=>True|.inr (.inl m)=>At s k m|.inr (.inr (.inl (w,(_,m))))=>At s (k+1) m/\w.length<=s.length|.inr (.inr (.inr (_,m)))=>At s (k+1) m
def qph(d:Nat)(l:90000000<=d)(s:Bs)(o:s.length<=4000)(n:Nat)(a:Nat):∀k:Nat,a<=k->k<=s.length->s.length-k<n->Ok (IY s a) (vq d n (a:Int) (s,(k:Int))):=by
 induction n with
 |zero=>intro k _ _ h;omega|succ n ih=>
  intro k m f h;rw[vq,BJ];have g:∀b:Bool,(b=true->k<s.length)->Ok (IY s a) (vt d (vq d n) (a:Int) b (s,(k:Int))):=fun b j=>by
   unfold vt BK;refine bc (fun q => ?_) fun _=>bc (fun _=>⟨_,rfl,trivial⟩) fun q=>bn Ts (aw ⟨mr ?_ f,?_⟩)
   ·have:=j q;dsimp only;rw[bj k]
    exact ih (k+1) Ta Ta Ta
   ·have:¬(k:Int)=(a:Int):=by simpa using q
    omega
   ·rw[List.length_take,List.length_drop];simp only[];omega
  refine bp (fun i => ?_) fun _=>g false (fun q=>by cases q)
  have e:k<s.length:=by simp only[]at i;omega
  exact ar (cq e) fun c _=>ar (JH c) fun b _=>bc (fun _=>g true fun _=>e) fun _=>ar (cq e) fun c2 _=>g _ fun _=>e
def zV(d:Nat)(e:90000000<=d)(s:Bs)(g:s.length<=4000)(k:Nat)(u:k<=s.length:=by omega):Ok (IY s k) (ti d (s,(k:Int))):=by
 unfold ti tX;refine ar (qsl d e s g d k u Ta) fun r f=>gv (fun _ _=>aw trivial) fun b t => ?_
 obtain⟨j,rfl,a,b⟩:=f b t;refine bp (fun _=>aw (mr a b)) fun o => ?_
 have p:j<s.length:=by simp only[]at o;omega
 refine ar (cq p) fun c _=>bc (fun _ => ?_) fun _=>ar (qbc c) fun x _=>bp (fun _=>aw ?_) fun _ => ?_
 ·unfold BL;dsimp only;rw[bj j]
  refine ar (qqv d e s g d (j+1) [] Ta Ta Te) fun v n=>gv (fun _ _=>aw trivial) fun i l=>aw ⟨at_le (n i l).1,(n i l).2⟩
 ·show At s (k+1) (s,ae ((j:Int)+1));rw[bj j];exact mr Ta Ta
 ·refine ma (qph d e s g d j j (wF _) b Ta) fun r f => ?_
  match r,f with|.inl _,_=>trivial|.inr (.inl m),h=>exact at_le h a|.inr (.inr (.inl (w,(q,m)))),h=>exact⟨at_le h.1,h.2⟩|.inr (.inr (.inr (c,m))),h=>exact at_le h
def quy(d:Nat)(f:90000000<=d)(s:Bs)(y:s.length<=4000)(n:Nat):∀(k:Nat)(l:List TN),k<=s.length->s.length-k<n->l.length<=k->(∀w∈l,w.1.length<=s.length)->Ok (ki fun v=>At s k v.1/\v.2.length<=s.length/\∀w∈v.2,w.1.length<=s.length) (fG d n (s,(k:Int)) l):=by
 induction n with
 |zero=>intro k l _ h;omega|succ n ih=>
  intro k l g h A i;rw[fG,BO];unfold nu;obtain⟨r,e,u⟩:=zV d f s y k g;rw[e]
  match r,u with
  |.inl _,_=>exact⟨_,rfl,gd⟩|.inr (.inl m),h2=>
   obtain⟨j,rfl,a,b⟩:=h2;exact⟨_,rfl,mb ⟨mr (wF _) g,Ts,i⟩⟩
  |.inr (.inr (.inl (w,(q,m)))),h2=>
   obtain⟨⟨j,rfl,a,b⟩,t⟩:=h2;simp only[qB,az];rw[e];simp only[qB,az];refine bn (lx _ _) (ma (ih j _ b Ta Td fun x z => ?_) fun v p m o=>⟨at_le (p m o).1,(p m o).2⟩)
   rcases List.mem_append.1 z with q|q
   ·exact i x q
   ·rw[List.mem_singleton]at q;subst q;exact t
  |.inr (.inr (.inr (c,m))),h2=>
   obtain⟨j,rfl,a,b⟩:=h2;exact⟨_,rfl,mb ⟨mr (wF _) g,Ts,i⟩⟩
def MA(a:Nat)(b:90000000<=a)(s:Bs)(d:s.length<=4000)(k:Nat)(c:k<=s.length):Ok (ki fun v=>At s k v.1/\v.2.length<=s.length/\∀w∈v.2,w.1.length<=s.length) (fF a (s,(k:Int))):=
 quy a b s d a k [] c Ta Te (fun _ h=>by cases h)
def nN(g:Nat)(h:90000000<=g)(s:Bs)(l:s.length<=4000)(c:UInt8)(k:Nat)(f:k<=s.length):Ok (ki fun v=>At s k v.2/\(v.1=true->At s (k+1) v.2)) (po g c (s,(k:Int))):=by
 unfold po nu;obtain⟨r,e,i⟩:=zV g h s l k f;rw[e]
 match r,i with
 |.inl _,_=>exact⟨_,rfl,gd⟩|.inr (.inl m),h2=>
  obtain⟨j,rfl,a,b⟩:=h2;exact⟨_,rfl,mb ⟨mr (wF _) f,fun q=>by cases q⟩⟩
 |.inr (.inr (.inl (w,(q,m)))),h2=>
  obtain⟨⟨j,rfl,a,b⟩,n⟩:=h2;exact⟨_,rfl,mb ⟨mr (wF _) f,fun q=>by cases q⟩⟩
 |.inr (.inr (.inr (d,m))),h2=>
  obtain⟨j,rfl,a,b⟩:=h2;simp only[qB,az];refine fj (fun _=>aw (mb ⟨mr (wF _) f,fun q=>by cases q⟩)) fun _ => ?_
  rw[e];exact⟨_,rfl,mb ⟨mr Ta b,fun _=>mr a b⟩⟩
def Ls(a:Nat)(d:90000000<=a)(s:Bs)(h:s.length<=4000)(c:UInt8)(k:Nat)(f:k<=s.length):Ok (ki (At s (k+1))) (aZ a c (s,(k:Int))):=by
 unfold aZ;refine ar (nN a d s h c k f) fun r g=>gv (fun _ _=>aw gd) fun b e=>fj (fun _=>⟨_,rfl,gd⟩) fun q=>aw (mb ((g b e).2 q))
def RD(a:Bs)(m:Nat):∀r:List Bs,(∀x∈r,x.length<=m)->(Lib.joinTail a r).length<=(m+a.length)*r.length
 |[],_=>by simp[Lib.joinTail]|x::r,h=>by
  have c:=h x qH;have d:=RD a m r (fun y b=>h y (qE _ b))
  have e:Lib.joinTail a (x::r)=a++x++Lib.joinTail a r:=by simp[Lib.joinTail]
  rw[e,qM,qM,qL,Nat.mul_add];omega
def qoe(a:Bs)(m:Nat)(r:List Bs)(h:∀x∈r,x.length<=m):(Lib.join r a).length<=(m+a.length)*r.length:=by
 cases r with
 |nil=>simp[Lib.join_nil]|cons x r=>
  have c:=h x qH;have d:=RD a m r (fun y b=>h y (qE _ b))
  rw[Lib.join_cons,qM,qL,Nat.mul_add];omega
def RC(a:Bs)(r:List Bs)(d:a.length<=10)(h:∀x∈r,x.length<=300000000)(b:r.length<=10000:=by omega):Ok dj (kz r a):=by
 have:=qoe a 300000000 r h;unfold kz;have c:(300000000+a.length)*r.length<=300000010*10000:=Nat.mul_le_mul Ta b
 exact bn ⟨Ta,Ta⟩ (aw trivial)
def Ln{l:List Bs}{x:Bs}{m:Nat}(h:∀y∈l,y.length<=m)(a:x.length<=m:=by omega):∀y∈l++[x],y.length<=m:=fun y b=>by
 rcases List.mem_append.1 b with q|q
 ·exact h y q
 ·rw[List.mem_singleton]at q;subst q;exact a
def Sr(b:Nat)(c:90000000<=b)(run a:List Bs)(f:∀x∈run,x.length<=4000)(i:run.length<=4000)(e:∀x∈a,x.length<=300000000)(j:a.length<=9000:=by omega) :
  Ok (fun v=>v.1=[]/\v.2.length<=a.length+1/\∀x∈v.2,x.length<=300000000) (tR b run a):=by
 unfold tR;refine bp (fun _=>ar (RC _ run Te (fun x g=>by have:=f x g;omega)) fun x1 _=>ar (qk7 b c x1) fun x2 d=>bn (lx _ _) (aw ⟨rfl,Te,Ln e d⟩)) fun h=>aw ⟨?_,Te,e⟩
 exact List.length_eq_zero_iff.1 Ts
def qpc(f:Nat)(e:90000000<=f)(l:List TN)(p:l.length<=4000)(i:∀w∈l,w.1.length<=4000)(n:Nat):∀(k:Nat)(a run:List Bs),k<=l.length->l.length-k<n->a.length<=2*k->(∀x∈a,x.length<=300000000)->run.length<=k->(∀x∈run,x.length<=4000) ->
  Ok dj (tS f n l (l.length:Int) (k:Int) a run):=by
 induction n with
 |zero=>intro k a run _ h;omega|succ n ih=>
  intro k a run o h q b r c;rw[tS,Hc];refine bp (fun g => ?_) fun g => ?_
  ·refine ar (L5 (k:=k) Ta i) fun s m=>bc (fun _=>ar (Sr f e run a c Ta b) fun v d=>bn (lx _ _) ?_) fun _=>bn (lx _ _) ?_
   ·rw[bj k,d.1]
    exact ih (k+1) _ [] Ta Ta (by have:=d.2.1;simp;omega) (Ln d.2.2) Te (fun x j=>by cases j)
   ·rw[bj k]
    exact ih (k+1) a _ Ta Ta Ta b Td (Ln c m)
  ·refine ar (Sr f e run a c Ta b) fun v d=>ar (RC _ v.2 Te d.2.2 (by have:=d.2.1;omega)) fun _ _=>aw trivial
def Ss(a:Nat)(b:90000000<=a)(l:List TN)(d:l.length<=4000)(e:∀w∈l,w.1.length<=4000):Ok dj (kP a l):=
 qpc a b l d e a 0 [] [] Ta Ta Te (fun x c=>by cases c) Te (fun x c=>by cases c)
def DN(a:Nat)(b:90000000<=a)(s:Bs):Ok dj (vl s):=by
 unfold vl vy;refine bp (fun _=>aw trivial) fun h=>ar (bn (P:=dj) Ta (aw trivial)) fun _ _=>fj (fun _=>aw trivial) fun _=>aw trivial
def P2(c:Nat)(b:90000000<=c)(a:Bs×Bs×Bs):Ok dj (aU c a):=by
 unfold aU;refine ar (DN c b _) fun x1 _=>bc (fun _=>⟨_,rfl,trivial⟩) fun _=>ar (Lc c b _) fun x3 _=>fj (fun _=>⟨_,rfl,trivial⟩) fun _=>ar (Ko c b _) fun d _=>fj (fun _=>⟨_,rfl,trivial⟩) fun _=>⟨_,rfl,trivial⟩
def qh5(a:Nat)(b:90000000<=a)(l:List TK)(d:l.length<=80000000)(n:Nat):∀k:Nat,l.length-k<n->Ok dj (vn a n l (l.length:Int) (k:Int)):=by
 induction n with
 |zero=>intro k h;omega|succ n ih=>
  intro k h;rw[vn,kO];refine bp (fun c=>ar (cq (k:=k) Ta) fun y _=>ar (P2 a b y) fun x2 _=>ar (P:=dj) ⟨_,rfl,trivial⟩ fun x3 _=>bc (fun _=>aw trivial) fun _ => ?_) fun _=>aw trivial
  rw[bj k]
  exact ih (k+1) Ta
def P5(a:Nat)(c:90000000<=a)(x:Bs×Bool×TS)(d:x.2.2.length<=80000000:=by omega):Ok dj (aW a x):=by
 unfold aW;have p:∀b,Ok dj (qp a b x):=fun b=>by
  unfold qp tQ;exact bc (fun _=>aw trivial) fun _=>qh5 a c _ d a 0 Ta
 exact ar (DN a c _) fun x1 _=>bc (fun _=>aw trivial) fun _=>fj (fun _=>p _) fun _=>fj (fun _=>p _) fun _=>p _
def qj9(a:Nat)(b:90000000<=a)(l:List TE)(f:l.length<=80000000)(c:∀x∈l,x.2.2.length<=80000000)(z:Int×Int)(n:Nat):∀k:Nat,l.length-k<n->Ok dj (vk a n l (l.length:Int) (k:Int) z):=by
 induction n with
 |zero=>intro k h;omega|succ n ih=>
  intro k h;rw[vk,kK];refine bp (fun e=>ar (L5 (k:=k) Ta c) fun y d=>ar (P5 a b y d) fun x2 _=>bc (fun _=>⟨_,rfl,trivial⟩) fun _ => ?_) fun _=>⟨_,rfl,trivial⟩
  rw[bj k]
  exact ih (k+1) Ta
def qj7(a:Nat)(d:90000000<=a)(l:List TE)(e:l.length<=80000000)(f:∀x∈l,x.2.2.length<=80000000)(z:Int×Int)(n:Nat):∀(c:Int)(k:Nat),l.length-k<n->Ok dj (vi a n l c l (l.length:Int) (k:Int) z):=by
 induction n with
 |zero=>intro c k h;omega|succ n ih=>
  intro c k h;rw[vi,kJ];have p:∀b,Ok dj (vj a l b z):=fun b=>by
   unfold vj tP;exact bc (fun _=>⟨_,rfl,trivial⟩) fun _=>qj9 a d l e f z a 0 Ta
  refine bp (fun g=>ar (cq (k:=k) Ta) fun y _ => ?_) fun _=>bp (fun _=>p _) fun _=>p _
  rw[bj k]
  exact ih _ (k+1) Ta
def Qt(a:Nat)(b:90000000<=a)(l:List TE)(c:l.length<=80000000)(d:∀x∈l,x.2.2.length<=80000000):Ok dj (aR a l):=qj7 a b l c d _ a 0 0 Ta
def AM(s:Bs)(k:Nat)(v:TK×TI×T1):Prop:=At s (k+1) v.2.1/\v.1.2.1.length<=s.length/\v.1.2.2.length<=s.length
def qbn(e:Nat)(c:90000000<=e)(s:Bs)(n:s.length<=4000)(k:Nat)(t:k<=s.length)(l:List TN)(u:∀w∈l,w.1.length<=s.length):Ok (ki fun v=>AM s k v/\v.1.1=[]) (bA e (s,(k:Int)) l):=by
 unfold bA;have i:∀(l:List (Bs×Bool))(z:Bs×Bs×Bs),Ok (ki fun v=>AM s k v/\v.1.1=[]) (bC e true (s,(k:Int)) l z):=fun l z=>⟨_,rfl,gd⟩
 by_cases f:(l.length:Int)=1
 ·rw[am (by simp[f])]
  obtain⟨w,rfl⟩:∃w,l=[w]:=by
   match l,f with|[w],_=>exact⟨w,rfl⟩|[],h=>simp at h|_::_::_,h=>simp only[qL]at h;omega
  have y:=u w qH;have o:∀z:Bs×Bs×Bs,Ok (ki fun v=>AM s k v/\v.1.1=[]) (bC e false (s,(k:Int)) [w] z):=fun z=>by
   unfold bC tZ;rw[am rfl];refine ar (Ls e c s n 64 k t) fun r g=>gv (fun _ _=>aw gd) fun b p => ?_
   obtain⟨j,rfl,a,b⟩:=g b p;refine ar (zV e c s n j b) fun r g => ?_
   match r,g with
   |.inl _,_=>exact⟨_,rfl,gd⟩|.inr (.inl m),h2=>exact⟨_,rfl,gd⟩|.inr (.inr (.inr (d,m))),h2=>exact⟨_,rfl,gd⟩|.inr (.inr (.inl (x,(q,m)))),h2=>
    refine bc (fun _=>⟨_,rfl,gd⟩) fun _=>ar (Ko e c x) fun A _=>fj (fun _=>⟨_,rfl,gd⟩) fun _=>bn ⟨Tf,Te⟩ ?_
    exact⟨_,rfl,mb ⟨⟨at_le h2.1,y,h2.2⟩,rfl⟩⟩
  refine bn ⟨Tf,Te⟩ ?_
  rw[show([w]:List (Bs×Bool))[(0:Int).toNat]? = some w from rfl]
  simp only[qB];refine ar (Lc e c w.1) fun x2 _=>fj (fun _=>i _ _) fun _=>bn ⟨Tf,Te⟩ (fj (fun _=>bn ⟨Tf,Te⟩ (ar (QM e c w.1) fun B _ => ?_)) fun _=>o _)
  cases B
  ·exact i _ _
  ·exact o _
 ·rw[aq (by simp[f])];exact i _ _
def Pz(f:Nat)(c:90000000<=f)(s:Bs)(g:s.length<=4000)(k:Nat)(A:k<=s.length)(l:List TN)(K:l.length<=s.length)(n:∀w∈l,w.1.length<=s.length):Ok (ki (AM s k)) (yh f (s,(k:Int)) l):=by
 unfold yh;refine ar (nN f c s g 60 k A) fun r e=>gv (fun _ _=>aw gd) fun b d => ?_
 obtain⟨b,m⟩:=b;obtain⟨⟨j,rfl,G,h⟩,_⟩:=e _ d;refine fj (fun _=>ar (qbn f c s g j h l n) fun r e=>gv (fun _ _=>aw gd) fun b d=>aw (mb ?_)) fun _ => ?_
 ·obtain⟨⟨t,u,v⟩,_⟩:=e b d;exact⟨at_le t,u,v⟩
 ·refine ar (MA f c s g j h) fun r e=>gv (fun _ _=>aw gd) fun b d => ?_
  obtain⟨m,C⟩:=b;obtain⟨⟨i,rfl,H,p⟩,J,x⟩:=e _ d;refine ar (qbn f c s g i p C x) fun r e=>gv (fun _ _=>aw gd) fun b d => ?_
  obtain⟨a,m,E⟩:=b;obtain⟨⟨⟨o,rfl,I,q⟩,y,z⟩,_⟩:=e _ d;refine ar (Ss f c l Ta (fun w B=>by have:=n w B;omega)) fun F _=>ar (Ls f c s g 62 o q) fun r e=>gv (fun _ _=>aw gd) fun b d=>aw (mb ⟨at_le (e b d),y,z⟩)
def fW(s:Bs)(x:Bs×Bool×TS):Prop:=x.2.2.length<=s.length+1/\(∀a∈x.2.2,a.2.1.length<=s.length/\a.2.2.length<=s.length)/\(x.2.1=false->x.2.2.length=1)
def qn4(f:Nat)(c:90000000<=f)(s:Bs)(u:s.length<=4000)(z1:Bs)(N:Bool)(g:Bs)(n:Nat):∀(k:Nat)(l:List TK),k<=s.length->s.length-k<n->l.length<=k->(∀a∈l,a.2.1.length<=s.length/\a.2.2.length<=s.length) ->
  Ok (ki fun v=>At s (k+1) v.2/\fW s v.1) (aY f n (s,(k:Int)) z1 N g l):=by
 induction n with
 |zero=>intro k l _ h;omega|succ n ih=>
  intro k l J h S I;rw[aY,tV];refine ar (MA f c s u k J) fun r e=>gv (fun _ _=>aw gd) fun b d => ?_
  obtain⟨m,L⟩:=b;obtain⟨⟨i,rfl,O,A⟩,E,F⟩:=e _ d;refine ar (Pz f c s u i A L E F) fun r e=>gv (fun _ _=>aw gd) fun b d => ?_
  obtain⟨a,m,M⟩:=b;obtain⟨⟨o,rfl,P,B⟩,G,H⟩:=e _ d;have j:∀x∈l++[a],x.2.1.length<=s.length/\x.2.2.length<=s.length:=fun x K=>by
   rcases List.mem_append.1 K with q|q
   ·exact I x q
   ·rw[List.mem_singleton]at q;subst q;exact⟨G,H⟩
  refine bn (lx _ _) (ar (nN f c s u 59 o B) fun r e=>gv (fun _ _=>aw gd) fun b d => ?_)
  obtain⟨b,m⟩:=b;obtain⟨⟨p,rfl,Q,w⟩,_⟩:=e _ d;refine bc (fun _=>aw (mb ⟨mr Ta w,Td,j,fun q=>by cases q⟩)) fun _=>ar (Ls f c s u 44 p w) fun r e=>gv (fun _ _=>aw gd) fun b d => ?_
  obtain⟨t,rfl,R,C⟩:=e _ d;exact ma (ih t _ C Ta Td j) fun v z m y=>⟨at_le (z m y).1,(z m y).2⟩
def RA(d:Nat)(c:90000000<=d)(s:Bs)(j:s.length<=4000)(k:Nat)(G:k<=s.length:=by omega):Ok (ki fun v=>At s (k+1) v.2/\fW s v.1) (yi d (s,(k:Int))):=by
 unfold yi;refine ar (MA d c s j k G) fun r g=>gv (fun _ _=>aw gd) fun b f => ?_
 obtain⟨m,A⟩:=b;obtain⟨⟨i,rfl,J,B⟩,x,y⟩:=g _ f;refine ar (nN d c s j 58 i B) fun r g=>gv (fun _ _=>aw gd) fun b f => ?_
 obtain⟨b,m⟩:=b;obtain⟨⟨o,rfl,K,n⟩,l⟩:=g _ f;refine fj (fun _=>ar (Pz d c s j o n A x y) fun r g=>gv (fun _ _=>aw gd) fun b f=>aw (mb ?_)) fun q=>ar (Ss d c A (by dsimp only at x;omega) (fun w H=>by have:=y w H;omega)) fun xn _=>bc (fun _=>⟨_,rfl,gd⟩) fun _ => ?_
 ·obtain⟨C,E,F⟩:=g b f;refine⟨at_le C,Te,fun a h => ?_,fun _=>rfl⟩
  rw[List.mem_singleton]at h;subst h;exact⟨E,F⟩
 ·obtain⟨I,e,L,N⟩:=l q;obtain rfl:o=I:=by have:=congrArg Prod.snd e;simp only[]at this;omega
  unfold tW;refine ar (nN d c s j 59 o n) fun r g=>gv (fun _ _=>aw gd) fun b f => ?_
  obtain⟨b,m⟩:=b;obtain⟨⟨p,rfl,M,t⟩,_⟩:=g _ f;refine bc (fun _=>aw (mb ⟨mr Ta t,Te,fun a h=>(by cases h),fun q=>by cases q⟩)) fun _ => ?_
  exact ma (qn4 d c s j [] false xn d p [] t Ta Te (fun a h=>by cases h)) fun v z m u=>⟨at_le (z m u).1,(z m u).2⟩
def IX(s:Bs)(l:List TE):Prop:=l.length<=s.length+1/\∀x∈l,fW s x
def xC(s:Bs)(r:xI):Prop:=∀v,r = .inr v->IX s v.1
def iB{s:Bs}{x:Int×Bs}:xC s (.inl x):=fun _ q=>by cases q
def RV(s:Bs):IX s []:=⟨Te,fun x a=>by cases a⟩
def RW(s:Bs){l:List TE}{x:Bs×Bool×TS}(h:∀x∈l,fW s x)(a:fW s x):∀y∈l++[x],fW s y:=fun y b=>by
 rcases List.mem_append.1 b with q|q
 ·exact h y q
 ·rw[List.mem_singleton]at q;subst q;exact a
def SR(a:Nat)(b:90000000<=a)(s:Bs)(g:s.length<=4000)(e:Bs)(f:Int×Int)(l:List TE)(c:IX s l):Ok (xC s) (fD a e f l):=by
 unfold fD;refine ar (Qt a b l (by have:=c.1;omega) (fun x d=>by have:=(c.2 x d).1;omega)) fun x1 _=>ar (P:=dj) ⟨_,rfl,trivial⟩ fun x2 _=>bc (fun _=>⟨_,rfl,fun _ q => ?_⟩) fun _=>⟨_,rfl,fun _ q => ?_⟩
 ·cases q;exact RV s
 ·cases q;exact c
def qqp(c:Nat)(a:90000000<=c)(s:Bs)(g:s.length<=4000)(u:Bs)(v:Int×Int)(n:Nat):∀(k:Nat)(l:List TE),k<=s.length->s.length-k<n->l.length<=k->(∀x∈l,fW s x)->Ok (xC s) (mh c n u v (s,(k:Int)) l):=by
 induction n with
 |zero=>intro k l _ h;omega|succ n ih=>
  intro k l A h F t;rw[mh,fB];refine ar (nN c a s g 44 k A) fun r f=>gv (fun _ _=>aw iB) fun b i => ?_
  obtain⟨b,m⟩:=b;obtain⟨⟨o,rfl,C,j⟩,z⟩:=f _ i;refine bc (fun q=>ar (RA c a s g o j) fun r f=>gv (fun _ _=>aw iB) fun b i => ?_) fun _ => ?_
  ·obtain⟨x,m⟩:=b;obtain⟨⟨p,rfl,E,y⟩,B⟩:=f _ i;exact bn (lx _ _) (ih p _ y Ta Td (RW s t B))
  ·unfold nu;obtain⟨r,e,f⟩:=zV c a s g o j;dsimp only;rw[e]
   match r,f with|.inl _,_=>exact⟨_,rfl,iB⟩|.inr (.inl m),h2=>exact SR c a s g u v l ⟨Ta,t⟩|.inr (.inr (.inl (w,(q,m)))),h2=>exact⟨_,rfl,iB⟩|.inr (.inr (.inr (d,m))),h2=>exact⟨_,rfl,iB⟩
def qqq(c:Nat)(f:90000000<=c)(s:Bs)(i:s.length<=4000)(a b:Int):Ok (xC s) (kL c s a b):=by
 unfold kL fC nu;have y:=RA c f s i 0
 have o:Ok (xC s) ((yi c (s,(0:Int))).bind fun z=>az z (fun t=>some (.inl (t,s))) (fun g=>bif decide (List.length ([g.1]:List (Bs×Bool×(List (Bs×Bs×Bs))))<=ax) then mh c c s (a,b) g.2 ([g.1]:List (Bs×Bool×(List (Bs×Bs×Bs)))) else none)):=by
  refine ar y fun r k=>gv (fun _ _=>aw iB) fun b v => ?_
  obtain⟨x,m⟩:=b;obtain⟨⟨p,rfl,A,u⟩,n⟩:=k _ v;exact bn TB (qqp c f s i s _ c p [x] u Ta Td (RW s (l:=[]) (fun x n=>by cases n) n))
 obtain⟨r,e,k⟩:=zV c f s i 0
 rw[show((0:Nat):Int)=0 from rfl]at e
 rw[e]
 match r,k with
 |.inl _,_=>exact⟨_,rfl,iB⟩|.inr (.inl m),h=>simp only[qB,az];exact SR c f s i s (a,b) [] (RV s)|.inr (.inr (.inl (w,(q,m)))),h=>
  obtain⟨⟨j,rfl,_,_⟩,_⟩:=h;exact o
 |.inr (.inr (.inr (d,m))),h=>
  obtain⟨j,rfl,_,_⟩:=h;exact o
def qqa(d:Nat)(e:90000000<=d)(s:Bs):Ok (fun v=>v.1.length<=4001/\∀x∈v.1,x.2.2.length<=4001/\(∀a∈x.2.2,a.2.1.length<=4000/\a.2.2.length<=4000)/\(x.2.1=false->x.2.2.length=1)) (eZ d s):=by
 unfold eZ fA;refine bp (fun _=>⟨_,rfl,Te,fun x c=>by cases c⟩) fun h=>ar (qqq d e s Ta _ _) fun r l=>gv (fun _ _=>⟨_,rfl,Te,fun x c=>by cases c⟩) fun b k=>aw ?_
 obtain⟨m,f⟩:=l b k;refine⟨Ta,fun x c => ?_⟩
 obtain⟨n,g,i⟩:=f x c;exact⟨Ta,fun a j=>by have:=g a j;omega,i⟩
def dk(c:UInt8):Bool:=(yg c).getD false
def JG(c:UInt8):yg c=some (dk c):=by
 obtain⟨v,e,_⟩:=JH c;unfold dk;rw[e];rfl
def d8(c:UInt8):Bool:=dk c||c==46
abbrev dG:Bs:=[58,59,44,64,60,62]
def xg(c:UInt8):Int:=(bK dG c).getD 0
def qbb(c:UInt8):bK dG c=some (xg c):=by
 obtain⟨v,e,_⟩:=qbc c;unfold xg;rw[e];rfl
def Qp:∀n:_root_.Fin 256,(dG.contains (UInt8.ofNat n.val)=true->d8 (UInt8.ofNat n.val)=false/\0<=xg (UInt8.ofNat n.val)/\bl (UInt8.ofNat n.val)=false/\UInt8.ofNat n.val≠40/\UInt8.ofNat n.val≠34)/\(d8 (UInt8.ofNat n.val)=true->xg (UInt8.ofNat n.val)<0/\bl (UInt8.ofNat n.val)=false/\UInt8.ofNat n.val≠40/\UInt8.ofNat n.val≠34):=by decide +kernel
def Qq{c:UInt8}(h:c∈dG):d8 c=false/\0<=xg c/\bl c=false/\c≠40/\c≠34:=
 (qx (fun c=>(dG.contains c=true->d8 c=false/\0<=xg c/\bl c=false/\c≠40/\c≠34)/\(d8 c=true->xg c<0/\bl c=false/\c≠40/\c≠34)) Qp c).1 (by simpa using h)
def qj4{c:UInt8}(h:d8 c=true):xg c<0/\bl c=false/\c≠40/\c≠34:=
 (qx (fun c=>(dG.contains c=true->d8 c=false/\0<=xg c/\bl c=false/\c≠40/\c≠34)/\(d8 c=true->xg c<0/\bl c=false/\c≠40/\c≠34)) Qp c).2 h
def qun:d8 34=false:=by decide +kernel
def qum:d8 32=false:=by decide +kernel
def Sx(s:Bs)(k:Nat)(r:Bs):Prop:=s.drop k=r/\k<=s.length
def ry{s r:Bs}{k:Nat}(h:Sx s k r):k+r.length=s.length:=by
 have:=congrArg List.length h.1;rw[List.length_drop]at this;have:=h.2;omega
def iz{s a r:Bs}{k:Nat}(h:Sx s k (a++r)):Sx s (k+a.length) r:=by
 have b:=ry h;rw[qM]at b;refine⟨?_,Ta⟩
 rw[← List.drop_drop,h.1,List.drop_left]
def As{s r:Bs}{c:UInt8}{k:Nat}(h:Sx s k (c::r)):Sx s (k+1) r:=iz (a:=[c]) h
def uv{s r:Bs}{c:UInt8}{k:Nat}(h:Sx s k (c::r)):ak s (k:Int)=some c:=by
 have a:=ry h;rw[qL]at a;rw[ef s k]
 have:=congrArg List.head? h.1;rw[List.head?_drop,List.head?_cons,List.getElem?_eq_getElem Ta]at this
 exact this
def kv{s r:Bs}{c:UInt8}{k:Nat}(h:Sx s k (c::r)):k<s.length:=by
 have a:=ry h;rw[qL]at a;omega
def qti{s a r:Bs}{k:Nat}(h:Sx s k (a++r)):List.take (((k+a.length:Nat):Int).toNat-(k:Int).toNat) (List.drop (k:Int).toNat s)=a:=by
 rw[show((k:Nat):Int).toNat=k by omega,h.1,show((k+a.length:Nat):Int).toNat-k=a.length by omega,List.take_left]
def stp(r:Bs):Prop:=∀c t,r=c::t->bl c=false/\c≠40
def qbg(a:Nat)(s:Bs)(g:s.length<=4000)(n:Nat){k:Nat}{r:Bs}(h:Sx s k r)(f:stp r):tj a (n+1) (s,(k:Int))=some (.inr (s,(k:Int))):=by
 rw[tj,tY];have e:=ry h
 cases r with
 |nil=>rw[bi (by simp only[];simp at e;omega)]|cons c t=>
  obtain⟨b,d⟩:=f c t rfl;rw[ap (by simp only[];have:=kv h;omega)]
  dsimp only;rw[uv h,qB,D0,qB,b,am rfl,am (by simp[d])]
def Fa(a:Nat)(s:Bs)(d:s.length<=4000){k:Nat}{b:Bool}{r:Bs}(e:90000000<=a)(h:Sx s k ((if b then[32] else[])++r))(c:stp r):tX a (s,(k:Int))=some (.inr (s,((k+(if b then 1 else 0):Nat):Int))):=by
 unfold tX;obtain⟨n,f⟩:∃n,a=n+1+1:=⟨a-2,Ta⟩
 rw[show tj a a=tj a (n+1+1) by rw[← f]]
 cases b with
 |false=>exact qbg a s d (n+1) h c|true=>
  have h:Sx s k (32::r):=h;rw[tj,tY,ap (by simp only[];have:=kv h;omega)]
  dsimp only;rw[uv h,qB,D0,qB,aq,bj k (by have:=kv h;omega)]
  exact qbg a s d n (As h) c
def quw(j:Nat)(s:Bs)(v:s.length<=4000)(b:Nat)(n:Nat):∀(a w r:Bs),Sx s b (a++(w++r))->w.length<n->(∀c∈w,d8 c=true)->(∀c t,r=c::t->d8 c=false)->a++w≠[] ->
  vq j n (b:Int) (s,((b+a.length:Nat):Int))=some (.inr (.inr (.inl (a++w,(false,(s,((b+(a++w).length:Nat):Int))))))):=by
 induction n with
 |zero=>intro a w r _ h;omega|succ n ih=>
  intro a w r h u o m k;have l:=ry h;rw[vq,BJ]
  cases w with
  |nil=>
   rw[List.append_nil]at k ⊢;rw[List.nil_append]at h;have i:vt j (vq j n) (b:Int) false (s,((b+a.length:Nat):Int))=some (.inr (.inr (.inl (a,(false,(s,((b+a.length:Nat):Int))))))):=by
    unfold vt;have:1<=a.length:=by cases a with|nil=>exact absurd rfl k|cons _ _=>simp
    simp only[qM]at l;rw[am rfl,am Td]
    dsimp only;rw[ap,qti h]
   have g:=iz h
   cases r with
   |nil=>rw[bi (by simp only[];simp at l;omega)];exact i|cons c t=>
    have e:=m c t rfl;unfold d8 at e;rw[Bool.or_eq_false_iff]at e;rw[ap (by simp only[];have:=kv g;omega)]
    dsimp only;rw[uv g,qB,JG,qB,e.1,am rfl,qB,e.2];exact i
  |cons c w=>
   have e:=o c qH;have g:Sx s (b+a.length) (c::(w++r)):=iz h;have f:vt j (vq j n) (b:Int) true (s,((b+a.length:Nat):Int))=some (.inr (.inr (.inl (a++c::w,(false,(s,((b+(a++c::w).length:Nat):Int))))))):=by
    unfold vt BK;rw[aq rfl];dsimp only;rw[bj _ (by have:=kv g;omega)]
    have:=ih (a++[c]) w r (by simpa using h) (by simp at u;omega) (fun d q=>o d (qE _ q)) m Te
    simp only[qS,wM]at this;rw[show b+(a++[c]).length=b+a.length+1 by simp;omega]at this
    exact this
   rw[ap (by simp only[];have:=kv g;omega)]
   dsimp only;rw[uv g,qB,JG,qB];cases p:dk c
   ·rw[am rfl,qB];unfold d8 at e;rw[p,Bool.false_or]at e;rw[e];exact f
   ·rw[aq rfl];exact f
abbrev dn(w:Bs):Bs:=gf 92 34 [92,92] [92,34] w
def qqu(l:Nat)(s:Bs)(u:s.length<=4000)(n:Nat):∀(w r:Bs)(k:Nat)(a:Bs),Sx s k (dn w++34::r)->w.length<n->a.length+w.length<=100000 ->
  yj l n (s,(k:Int)) a=some (.inr (a++w,(s,((k+(dn w).length+1:Nat):Int)))):=by
 induction n with
 |zero=>intro w r k a _ h;omega|succ n ih=>
  intro w r k a h p q;have t:=ry h;rw[yj,BM]
  cases w with
  |nil=>
   have h:Sx s k (34::r):=h;rw[bi (by simp only[];have:=kv h;omega)]
   unfold kQ;dsimp only;rw[uv h,qB,aq,bj k (by have:=kv h;omega),List.append_nil]
   rfl
  |cons c w=>
   simp only[qL]at p q;have e:dn (c::w)=n6 92 34 [92,92] [92,34] c++dn w:=rfl;rw[e,qS]at h;have d:∀j:Nat,Sx s j (dn w++34::r)->yj l n (s,(j:Int)) (a++[c])=some (.inr (a++c::w,(s,((j+(dn w).length+1:Nat):Int)))):=fun j o=>by
    have:=ih w r j (a++[c]) o Ta Td
    rwa [qS,wM]at this
   rw[e,qM];by_cases f:c=92\/c=34
   ·have i:n6 92 34 [92,92] [92,34] c=[92,c]:=by
     unfold n6;rcases f with rfl|rfl<;>rfl
    rw[i]at h ⊢;have b:Sx s k (92::(c::(dn w++34::r))):=h;have g:=As b;have m:=As g;rw[bi (by simp only[];have:=kv b;omega)]
    unfold kQ BN;dsimp only;rw[uv b,qB,am,aq,bj k (by have:=kv b;omega),bi (by have:=kv g;omega),uv g,qB,ap (lx _ _),bj (k+1) (by have:=kv g;omega),d _ m]
    simp only[qL,qZ];rw[show k+1+1+(dn w).length+1=k+(0+1+1+(dn w).length)+1 by omega]
   ·rw[not_or]at f;have i:n6 92 34 [92,92] [92,34] c=[c]:=by
     unfold n6;rw[qW f.1,qW f.2]
    rw[i]at h ⊢;have b:Sx s k (c::(dn w++34::r)):=h;rw[bi (by simp only[];have:=kv b;omega)]
    unfold kQ;dsimp only;rw[uv b,qB,am (by simp[f.2]),am (by simp[f.1]),ap (lx _ _),bj k (by have:=kv b;omega),d _ (As b)]
    simp only[qL,qZ];rw[show k+1+(dn w).length+1=k+(0+1+(dn w).length)+1 by omega]
inductive wb where
 |sg (c:UInt8)
 |wd (w:Bs) (q:Bool)
def im:wb->Bs|.sg c=>[c]|.wd w false=>w|.wd w true=>34::(dn w++[34])
def qpu:wb->Prop|.sg c=>c∈dG|.wd w false=>w≠[]/\∀c∈w,d8 c=true|.wd _ true=>True
abbrev BT:=Bool×wb
def fw(x:BT):Bs:=(if x.1 then[32] else[])++im x.2
def bh(T:List BT):Bs:=T.flatMap fw
def zy:bh []=[]:=rfl
def jf(x:BT)(T:List BT):bh (x::T)=fw x++bh T:=by simp[bh]
def oc(S T:List BT):bh (S++T)=bh S++bh T:=by simp[bh]
def nw:List BT->Prop|[]=>True|(true,_)::_=>True|(false,.sg _)::_=>True|(false,.wd _ true)::_=>True|(false,.wd _ false)::_=>False
def fm:List BT->Prop|[]=>True|(_,t)::T=>qpu t/\(∀w,t = .wd w false->nw T)/\fm T
def qpo:∀{T:List BT},nw T->fm T->∀c t,bh T=c::t->d8 c=false
 |[],_,_,c,t,h=>by cases h
 |(true,x)::T,_,_,c,t,h=>by
  rw[jf]at h;have:c=32:=by simp only[fw,if_true,wK]at h;injection h with h _;exact h.symm
  rw[this];exact qum
 |(false,.sg d)::T,_,ho,c,t,h=>by
  rw[jf]at h;have:c=d:=by simp only[fw,im,wJ,if_false,List.nil_append,wK]at h;injection h with h _;exact h.symm
  rw[this];exact(Qq ho.1).1
 |(false,.wd w true)::T,_,ho,c,t,h=>by
  rw[jf]at h;have:c=34:=by simp only[fw,im,wJ,if_false,List.nil_append,wK]at h;injection h with h _;exact h.symm
  rw[this];exact qun
 |(false,.wd w false)::T,hn,_,_,_,_=>absurd hn id
def xc(t:wb)(m:Bs×Int):(Bs×Bool×TI) ⊕ (UInt8×TI):=match t with|.sg c => .inr (c,m)|.wd w q => .inl (w,(q,m))
def Qe(b:Bool)(t:wb):(fw (b,t)).length=(if b then 1 else 0)+(im t).length:=by
 cases b<;>simp[fw]<;>omega
def E7(a:Nat)(d:90000000<=a)(s:Bs)(f:s.length<=4000){k:Nat}(h:Sx s k (bh [])):ti a (s,(k:Int))=some (.inr (.inl (s,(k:Int)))):=by
 unfold ti;have e:=ry h;rw[Fa a s f (b:=false) (r:=[]) d h (fun c t q=>by cases q),qB]
 simp only[az];rw[ap (by simp[zy]at e ⊢;omega)]
 rfl
def dE(a:Nat)(i:90000000<=a)(s:Bs)(j:s.length<=4000){k:Nat}{b:Bool}{t:wb}{T:List BT}(h:Sx s k (bh ((b,t)::T)))(x:fm ((b,t)::T)):ti a (s,(k:Int))=some (.inr (.inr (xc t (s,((k+(fw (b,t)).length:Nat):Int))))):=by
 rw[jf]at h;have l:Sx s k ((if b then[32] else[])++(im t++bh T)):=by rw[← qS];exact h
 have m:=Qe b t;have z:(if b=true then([32]:Bs) else[]).length=(if b then 1 else 0):=by cases b<;>rfl
 have e:Sx s (k+(if b then 1 else 0)) (im t++bh T):=by
  have:=iz l;rwa [z]at this
 have B:=ry e;unfold ti
 cases t with
 |sg c=>
  have g:=Qq x.1;have e:Sx s (k+(if b then 1 else 0)) (c::bh T):=e
  rw[Fa a s j (b:=b) (r:=c::bh T) i l (fun d t q=>by cases q;exact⟨g.2.2.1,g.2.2.2.1⟩),qB]
  simp only[az];rw[bi (by have:=kv e;omega),uv e,qB,am (by simp[g.2.2.2.2]),qbb,qB,ap g.2.1,bj _ (by have:=kv e;omega),m]
  rfl
 |wd w q=>
  cases q with
  |false=>
   obtain⟨⟨C,y⟩,o,u⟩:=x;have p:=qpo (o w rfl) u;obtain⟨c,w,rfl⟩:∃c v,w=c::v:=by
    cases w with|nil=>exact absurd rfl C|cons c v=>exact⟨c,v,rfl⟩
   have g:=qj4 (y c qH);have f:Sx s (k+(if b then 1 else 0)) (c::(w++bh T)):=e
   rw[Fa a s j (b:=b) (r:=c::(w++bh T)) i l (fun d t q=>by cases q;exact⟨g.2.1,g.2.2.1⟩),qB]
   simp only[az];rw[bi (by have:=kv f;omega),uv f,qB,am (by simp[g.2.2.2]),qbb,qB,bi]
   have:=quw a s j (k+(if b then 1 else 0)) a [] (c::w) (bh T) e (by simp only[im,qM]at B;omega) y p Te
   rw[qZ,Nat.add_zero,List.nil_append]at this;rw[this,m];simp only[xc,im,Nat.add_assoc]
  |true=>
   have f:Sx s (k+(if b then 1 else 0)) (34::(dn w++34::bh T)):=by
    have:im (.wd w true)++bh T=34::(dn w++34::bh T):=by simp[im]
    rwa [this]at e
   rw[Fa a s j (b:=b) (r:=im (.wd w true)++bh T) i l (fun d t q=>by
    have:im (.wd w true)++bh T=34::(dn w++34::bh T):=by simp[im]
    rw[this]at q;cases q;exact⟨by rfl,Tf⟩),qB]
   simp only[az];rw[bi (by have:=kv f;omega),uv f,qB,aq]
   unfold BL;dsimp only;rw[bj _ (by have:=kv f;omega)]
   have A:w.length<=(dn w).length:=by rw[show(dn w).length=w.length+jl 92 34 w from nE Tf 92 92 92 34 w];omega
   have n:=ry f;simp only[qL,qM]at n;rw[qqu a s j a w (bh T) _ [] (As f) Ta Td,qB,m]
   simp only[xc,im,List.nil_append,qL,qM,qZ];rw[show k+(if b then 1 else 0)+1+(dn w).length+1=k+((if b then 1 else 0)+((dn w).length+(0+1)+1)) by omega]
def xM(W:List BT):Prop:=∀x∈W,∃w q,x.2 = .wd w q
def od:List BT->List TN|[]=>[]|(_,.wd w q)::W=>(w,q)::od W|(_,.sg _)::W=>od W
def Aq:List BT->Prop|[]=>True|(_,.sg _)::_=>True|(_,.wd _ _)::_=>False
def rq{x:BT}{T:List BT}(h:fm (x::T)):fm T:=by
 obtain⟨b,t⟩:=x;exact h.2.2
def w7:∀{S T:List BT},fm (S++T)->fm T|[],_,h=>h|_::S,_,h=>w7 (S:=S) (rq h)
def qux(f:Nat)(a:90000000<=f)(s:Bs)(i:s.length<=4000)(n:Nat):∀(W T:List BT)(k:Nat)(l:List TN),Sx s k (bh (W++T))->fm (W++T)->xM W->Aq T->W.length<n->l.length+W.length<=100000 ->
  fG f n (s,(k:Int)) l=some (.inr ((s,((k+(bh W).length:Nat):Int)),l++od W)):=by
 induction n with
 |zero=>intro W T k l _ _ _ _ h;omega|succ n ih=>
  intro W T k l h j o m u r;rw[fG,BO];unfold nu;dsimp only
  cases W with
  |nil=>
   rw[List.nil_append]at h j
   cases T with
   |nil=>
    rw[E7 f a s i h];simp[az,od,zy]
   |cons x T=>
    obtain⟨b,t⟩:=x
    cases t with
    |wd w q=>exact absurd m id|sg c=>
     rw[dE f a s i h j];simp[az,od,zy,xc]
  |cons x W=>
   obtain⟨b,t⟩:=x;obtain⟨w,q,e⟩:=o _ qH;simp only[]at e;subst e;have g:Sx s k (bh ((b,.wd w q)::(W++T))):=h;have d:fm ((b,.wd w q)::(W++T)):=j;rw[dE f a s i g d];simp only[qB,az,xc];rw[dE f a s i g d];simp only[qB,az,xc,qL]at u r ⊢;rw[ap (lx _ _)]
   have p:Sx s (k+(fw (b,.wd w q)).length) (bh (W++T)):=by rw[jf]at g;exact iz g
   rw[ih W T _ (l++[(w,q)]) p (rq d) (fun y v=>o y (qE _ v)) m Ta Td,jf,qM,qS,Nat.add_assoc]
   rfl
def Fy(a:Nat)(b:90000000<=a)(s:Bs)(e:s.length<=4000){W T:List BT}{k:Nat}(h:Sx s k (bh (W++T)))(d:fm (W++T))(f:xM W)(c:Aq T)(g:W.length<=4000:=by omega) :
  fF a (s,(k:Int))=some (.inr ((s,((k+(bh W).length:Nat):Int)),od W)):=qux a b s e a W T k [] h d f c Ta Td
def nM(e:Nat)(a:90000000<=e)(s:Bs)(f:s.length<=4000){c:UInt8}{T:List BT}{k:Nat}(h:Sx s k (bh T))(j:fm T)(i:∀b d g,T=(b,.sg d)::g->d≠c):po e c (s,(k:Int))=some (.inr (false,(s,(k:Int)))):=by
 unfold po nu
 cases T with
 |nil=>rw[E7 e a s f h];rfl|cons x T=>
  obtain⟨b,t⟩:=x;rw[dE e a s f h j]
  cases t with
  |wd w q=>rfl|sg d=>
   simp only[qB,az,xc];rw[aq (by simp[i b d T rfl])]
def cS(d:Nat)(a:90000000<=d)(s:Bs)(f:s.length<=4000){c:UInt8}{b:Bool}{T:List BT}{k:Nat}(h:Sx s k (bh ((b,.sg c)::T)))(e:fm ((b,.sg c)::T)) :
  po d c (s,(k:Int))=some (.inr (true,(s,((k+(fw (b,.sg c)).length:Nat):Int)))):=by
 unfold po nu;rw[dE d a s f h e];simp only[qB,az,xc];rw[am,dE d a s f h e]
 rfl
def Lr(a:Nat)(d:90000000<=a)(s:Bs)(f:s.length<=4000){c:UInt8}{b:Bool}{T:List BT}{k:Nat}(h:Sx s k (bh ((b,.sg c)::T)))(e:fm ((b,.sg c)::T)) :
  aZ a c (s,(k:Int))=some (.inr (s,((k+(fw (b,.sg c)).length:Nat):Int))):=by
 unfold aZ;rw[cS a d s f h e];rfl
def CW(a:Nat)(lo:Bs)(q:Bool):Prop:=th a lo=some true/\(q=false->vm a lo=some true)
def qst(a:Nat)(lo:Bs)(q:Bool)(b:CW a lo q)(m:Bs×Int):bA a m [(lo,q)]=tZ a m [(lo,q)] ([],([],[])):=by
 unfold bA;rw[am,ap ⟨Tf,Te⟩,show([(lo,q)]:List (Bs×Bool))[(0:Int).toNat]? = some (lo,q) from rfl,qB,b.1,qB,am,ap ⟨Tf,Te⟩,qB]
 cases q with
 |true=>rw[am];rfl|false=>
  rw[aq,ap ⟨Tf,Te⟩,qB,b.2 rfl,qB]
  rfl
def qbm(a:Nat)(c:90000000<=a)(s:Bs)(g:s.length<=4000){lo b:Bs}{q d e:Bool}{T:List BT}{k:Nat}(l:CW a lo q)(j:qo a b=some true)(h:Sx s k (bh ((d,.sg 64)::(e,.wd b false)::T)))(f:fm ((d,.sg 64)::(e,.wd b false)::T)) :
  bA a (s,(k:Int)) [(lo,q)]=some (.inr (([],(lo,b)),((s,((k+((fw (d,.sg 64)).length+(fw (e,.wd b false)).length):Nat):Int)),[(lo,q)]))):=by
 rw[qst a lo q l];unfold tZ;rw[Lr a c s g h f];simp only[qB,az];have i:Sx s (k+(fw (d,.sg 64)).length) (bh ((e,.wd b false)::T)):=by rw[jf]at h;exact iz h
 rw[dE a c s g i (rq f)];simp only[qB,az,xc];rw[am rfl,j,qB,am,ap ⟨Tf,Te⟩,Nat.add_assoc]
 rfl
abbrev uu(b:Bool)(lo a:Bs)(q:Bool):List BT:=[(b,.wd lo q),(false,.sg 64),(false,.wd a false)]
def jG(b:Nat)(a:Bs×Bs×Bs)(T:List BT):Prop:=∃q,CW b a.2.1 q/\qo b a.2.2=some true /\
 ((a.1=[]/\T=uu false a.2.1 a.2.2 q)\/(a.1≠[]/\∃W,xM W/\W≠[]/\kP b (od W)=some a.1/\T=W++(true,.sg 60)::(uu false a.2.1 a.2.2 q++[(false,.sg 62)])))
def db:List BT->List BT|[]=>[]|(_,t)::T=>(true,t)::T
def qhw(l:Nat)(i:90000000<=l)(s:Bs)(n:s.length<=4000){a:Bs×Bs×Bs}{T:List BT}(h:jG l a T)(j:Bool):∃W V,(if j then db T else T)=W++V/\xM W/\W≠[]/\Aq V/\V≠[]/\(∀d b p,V=(b,.sg d)::p->d=64\/d=60) /\
  ∀(R:List BT)(k:Nat),Sx s k (bh (V++R))->fm (V++R)->yh l (s,(k:Int)) (od W)=some (.inr (a,((s,((k+(bh V).length:Nat):Int)),od W))):=by
 obtain⟨q,z,y,h⟩:=h;obtain⟨I,lo,g⟩:=a;simp only[]at z y h;rcases h with⟨rfl,rfl⟩|⟨H,W,o,W0,G,rfl⟩
 ·refine⟨[(j,.wd lo q)],[(false,.sg 64),(false,.wd g false)],by cases j<;>rfl,?_,Te,trivial,Te,?_,?_⟩
  ·intro x f;rw[List.mem_singleton]at f;subst f;exact⟨lo,q,rfl⟩
  ·intro d b p e;simp only[List.cons.injEq,qP,wb.sg.injEq]at e;exact .inl e.1.2.symm
  ·intro R k f m;unfold yh;have f:Sx s k (bh ((false,.sg 64)::(false,.wd g false)::R)):=f;have m:fm ((false,.sg 64)::(false,.wd g false)::R):=m;rw[nM l i s n f m (fun b d p e=>by simp only[List.cons.injEq,qP,wb.sg.injEq]at e;rw[← e.1.2];decide)]
   simp only[qB,az];have:=qbm l i s n z y f m;rw[aq,show od [(j,.wd lo q)]=[(lo,q)] from rfl,this]
   simp[az,jf,zy]
 ·have v:(if j then db (W++(true,.sg 60)::(uu false lo g q++[(false,.sg 62)])) else W++(true,.sg 60)::(uu false lo g q++[(false,.sg 62)]))=(if j then db W else W)++(true,.sg 60)::(uu false lo g q++[(false,.sg 62)]):=by
   cases j with
   |false=>rfl|true=>cases W with|nil=>exact absurd rfl W0|cons x W=>rfl
  have A:od (if j then db W else W)=od W:=by
   cases j with
   |false=>rfl|true=>match W with|[]=>rfl|(b,.wd w q)::W=>rfl|(b,.sg c)::W=>rfl
  refine⟨if j then db W else W,(true,.sg 60)::(uu false lo g q++[(false,.sg 62)]),v,?_,?_,trivial,Te,?_,?_⟩
  ·cases j with
   |false=>exact o|true=>match W,o with
    |[],_=>intro x f;cases f
    |(b,t)::W,o=>
     intro x f;rcases List.mem_cons.1 f with rfl|f
     ·exact o (b,t) qH
     ·exact o x (qE _ f)
  ·cases j with
   |false=>exact W0|true=>cases W with|nil=>exact absurd rfl W0|cons x W=>exact List.cons_ne_nil _ _
  ·intro d b p e;simp only[List.cons.injEq,qP,wb.sg.injEq]at e;exact .inr e.1.2.symm
  ·intro R k f m;rw[A];unfold yh;have f:Sx s k (bh ((true,.sg 60)::(uu false lo g q++(false,.sg 62)::R))):=by simpa using f
   have m:fm ((true,.sg 60)::(uu false lo g q++(false,.sg 62)::R)):=by simpa using m
   rw[cS l i s n f m];simp only[qB,az];rw[am]
   have r:Sx s (k+(fw (true,.sg 60)).length) (bh ([(false,.wd lo q)]++((false,.sg 64)::(false,.wd g false)::(false,.sg 62)::R))):=by rw[jf]at f;exact iz f
   have B:fm ([(false,.wd lo q)]++((false,.sg 64)::(false,.wd g false)::(false,.sg 62)::R)):=rq m;rw[Fy l i s n r B (fun x f=>by rw[List.mem_singleton]at f;subst f;exact⟨lo,q,rfl⟩) trivial Te]
   simp only[qB,az];have u:Sx s (k+(fw (true,.sg 60)).length+(bh [(false,.wd lo q)]).length) (bh ((false,.sg 64)::(false,.wd g false)::(false,.sg 62)::R)):=by rw[oc]at r;exact iz r
   have C:fm ((false,.sg 64)::(false,.wd g false)::(false,.sg 62)::R):=w7 B;have E:=qbm l i s n z y u C;rw[show od [(false,.wd lo q)]=[(lo,q)] from rfl,E]
   simp only[qB,az];rw[G,qB];have F:Sx s (k+(fw (true,.sg 60)).length+(bh [(false,.wd lo q)]).length+((fw (false,.sg 64)).length+(fw (false,.wd g false)).length)) (bh ((false,.sg 62)::R)):=by
    have e:bh ((false,.sg 64)::(false,.wd g false)::(false,.sg 62)::R)=(fw (false,.sg 64)++fw (false,.wd g false))++bh ((false,.sg 62)::R):=by simp only[jf,qS]
    rw[e]at u;have:=iz u
    rwa [qM]at this
   rw[Lr l i s n F (rq (rq C))];simp only[qB,az,jf,oc,zy,qM,qZ];congr 6;omega
def Fl:∀{T:List BT},fm T->T.length<=(bh T).length
 |[],_=>by simp|(b,t)::T,h=>by
  have e:=Fl h.2.2;have d:1<=(im t).length:=by
   match t,h.1 with
   |.sg c,_=>simp[im]|.wd w true,_=>simp[im]|.wd w false,h=>
    have a:w≠[]:=h.1
    cases w with|nil=>exact absurd rfl a|cons c v=>simp[im]
  rw[jf,qM,Qe,qL];omega
def yE{T S:List BT}(h:T≠[]):db (T++S)=db T++S:=by
 cases T with|nil=>exact absurd rfl h|cons x T=>rfl
def qsj{V R:List BT}(h:Aq V)(a:V≠[]):Aq (V++R):=by
 match V,h with|[],_=>exact absurd rfl a|(b,.sg c)::V,_=>exact trivial
inductive xB(fu:Nat):List (Bs×Bs×Bs)->List BT->Prop where
 |one {a T}:jG fu a T->xB fu [a] T
 |cons {a T ms T'}:jG fu a T->xB fu ms T'->xB fu (a::ms) (T++(false,.sg 44)::db T')
def wY(a:Nat)(g:Bs)(W:List BT):Prop:=xM W/\W≠[]/\kP a (od W)=some g/\g≠[]
inductive fX(fu:Nat):(Bs×Bool×(List (Bs×Bs×Bs)))->List BT->Prop where
 |single {a T}:jG fu a T->fX fu ([],(false,[a])) T
 |grp0 {g W}:wY fu g W->fX fu (g,(true,[])) (W++[(false,.sg 58),(false,.sg 59)])
 |grp {g W ms T}:wY fu g W->xB fu ms T->fX fu (g,(true,ms)) (W++(false,.sg 58)::(db T++[(false,.sg 59)]))
inductive lR(fu:Nat):List (Bs×Bool×(List (Bs×Bs×Bs)))->List BT->Prop where
 |one {x T}:fX fu x T->lR fu [x] T
 |cons {x T l T'}:fX fu x T->lR fu l T'->lR fu (x::l) (T++(false,.sg 44)::db T')
def Dk{f:Nat}{a:Bs×Bs×Bs}{T:List BT}(h:jG f a T):∃b w q d,T=(b,.wd w q)::d:=by
 obtain⟨q,_,_,h⟩:=h;rcases h with⟨_,rfl⟩|⟨_,W,c,W0,_,rfl⟩
 ·exact⟨_,_,_,_,rfl⟩
 ·match W,c with
  |[],_=>exact absurd rfl W0|(b,t)::W,c=>
   obtain⟨w,q,e⟩:=c _ qH;simp only[]at e;subst e;exact⟨b,w,q,_,rfl⟩
def KD{d:Nat}{g:Bs}{W:List BT}(h:wY d g W):∃b w q c,W=(b,.wd w q)::c:=by
 obtain⟨a,W0,_,_⟩:=h
 match W,a with
 |[],_=>exact absurd rfl W0|(b,t)::W,a=>
  obtain⟨w,q,e⟩:=a _ qH;simp only[]at e;subst e;exact⟨b,w,q,_,rfl⟩
def KS{c:Nat}{x:Bs×Bool×TS}{T:List BT}(h:fX c x T):∃b w q a,T=(b,.wd w q)::a:=by
 cases h with
 |single h=>exact Dk h|grp0 h=>obtain⟨b,w,q,a,rfl⟩:=KD h;exact⟨b,w,q,_,rfl⟩
 |grp h _=>obtain⟨b,w,q,a,rfl⟩:=KD h;exact⟨b,w,q,_,rfl⟩
def qo0{c:Nat}{l:List TE}{T:List BT}(h:lR c l T):∃b w q a,T=(b,.wd w q)::a:=by
 cases h with|one h=>exact KS h|cons h _=>obtain⟨b,w,q,a,rfl⟩:=KS h;exact⟨b,w,q,_,rfl⟩
def Rh{d:Nat}{g:Bs}{W:List BT}(h:wY d g W)(c:Bool):wY d g (if c then db W else W):=by
 cases c with
 |false=>exact h|true=>
  obtain⟨b,w,q,T',rfl⟩:=KD h;obtain⟨e,_,f,i⟩:=h;refine⟨fun x a => ?_,List.cons_ne_nil _ _,f,i⟩
  rcases List.mem_cons.1 a with rfl|a
  ·exact⟨w,q,rfl⟩
  ·exact e x (qE _ a)
def M7(f:Nat)(l:90000000<=f)(s:Bs)(r:s.length<=4000){a:Bs×Bs×Bs}{T R:List BT}{k:Nat}(h:jG f a T)(m:Bool)(i:Sx s k (bh ((if m then db T else T)++R)))(g:fm ((if m then db T else T)++R)) :
  ∃(j:Nat)(n:List (Bs×Bool))(V:List BT),fF f (s,(k:Int))=some (.inr ((s,(j:Int)),n))/\Sx s j (bh (V++R))/\fm (V++R)/\(∀d b o,V++R=(b,.sg d)::o->d=64\/d=60) /\
   yh f (s,(j:Int)) n=some (.inr (a,((s,((k+(bh (if m then db T else T)).length:Nat):Int)),n))):=by
 obtain⟨W,V,e,v,W0,u,V0,c,t⟩:=qhw f l s r h m;rw[e]at i g ⊢;rw[qS]at i g;have y:=ry i;have w:=Fl g;rw[qM]at w;have p:Sx s (k+(bh W).length) (bh (V++R)):=by rw[oc]at i;exact iz i
 refine⟨k+(bh W).length,od W,V,Fy f l s r i g v (qsj u V0),p,w7 g,fun d b o q => ?_,?_⟩
 ·match V,V0,c with
  |x::V,_,c=>
   injection q with q _
   subst q;exact c d b V rfl
 ·rw[t R _ p (w7 g),oc,qM,Nat.add_assoc]
def qn3(i:Nat)(f:90000000<=i)(s:Bs)(r:s.length<=4000){t:List TK}{T:List BT}(h:xB i t T):∀(n:Nat)(c:List TK)(k:Nat)(R:List BT)(z1:Bs)(v:Bool)(g:Bs),t.length<n->c.length+t.length<=100000->Sx s k (bh (db T++(false,.sg 59)::R))->fm (db T++(false,.sg 59)::R) ->
  aY i n (s,(k:Int)) z1 v g c=some (.inr ((g,(true,c++t)),(s,((k+(bh (db T++[(false,.sg 59)])).length:Nat):Int)))):=by
 induction h with
 |@one a T h=>
  intro n c k R z1 v g A z l p;obtain⟨n,rfl⟩:∃m,n=m+1:=⟨n-1,by simp at A;omega⟩
  simp only[qL,qZ]at z;rw[aY,tV];obtain⟨j,F,V,x,_,_,_,y⟩:=M7 i f s r h true l p;have o:Sx s (k+(bh (db T)).length) (bh ((false,.sg 59)::R)):=by rw[oc]at l;exact iz l
  rw[x];simp only[qB,az];rw[y];simp only[qB,az,if_true];rw[ap (lx _ _),cS i f s r o (w7 p)]
  simp only[qB,az,qT];rw[oc,qM,jf,zy,List.append_nil,Nat.add_assoc]
 |@cons a T t u h hm ih=>
  intro n c k R z1 v g A z l p;simp only[qL]at A z;obtain⟨n,rfl⟩:∃m,n=m+1:=⟨n-1,Ta⟩
  rw[aY,tV];have C:T≠[]:=by obtain⟨b,w,q,u,rfl⟩:=Dk h;simp
  rw[yE C,qS,wK]at l p;obtain⟨j,F,V,x,_,_,_,y⟩:=M7 i f s r h true l p;have o:Sx s (k+(bh (db T)).length) (bh ((false,.sg 44)::(db u++(false,.sg 59)::R))):=by rw[oc]at l;exact iz l
  have B:=w7 p;rw[x];simp only[qB,az];rw[y];simp only[qB,az,if_true];rw[ap (lx _ _),nM i f s r o B (fun b d u e=>by simp only[List.cons.injEq,qP,wb.sg.injEq]at e;rw[← e.1.2];decide)]
  simp only[qB,az,qF];rw[Lr i f s r o B];simp only[qB,az];have E:Sx s (k+(bh (db T)).length+(fw (false,.sg 44)).length) (bh (db u++(false,.sg 59)::R)):=by rw[jf]at o;exact iz o
  rw[ih n (c++[a]) _ R z1 v g Ta Td E (rq B),yE C]
  simp only[qS,wM,wK,oc,jf,qM];congr 4;omega
def Ep(m:Nat)(c:90000000<=m)(s:Bs)(p:s.length<=4000){x:Bs×Bool×TS}{T R:List BT}{k:Nat}(h:fX m x T)(l:Bool)(f:Sx s k (bh ((if l then db T else T)++R)))(i:fm ((if l then db T else T)++R))(H:x.2.2.length<=100000) :
  yi m (s,(k:Int))=some (.inr (x,(s,((k+(bh (if l then db T else T)).length:Nat):Int)))):=by
 unfold yi
 cases h with
 |@single a T h=>
  obtain⟨j,L,V,C,n,t,F,E⟩:=M7 m c s p h l f i;rw[C];simp only[qB,az];rw[nM m c s p n t (fun b d u e=>by rcases F d b u e with rfl|rfl<;>decide)]
  simp only[qB,az];rw[aq,E]
  rfl
 |@grp0 g W h=>
  have o:=Rh h l;have y:W≠[]:=h.2.1;have e:(if l then db (W++[(false,.sg 58),(false,.sg 59)]) else W++[(false,.sg 58),(false,.sg 59)])=(if l then db W else W)++[(false,.sg 58),(false,.sg 59)]:=by
   cases l with|false=>rfl|true=>exact yE y
  rw[e]at f i ⊢;generalize (if l then db W else W)=W at o f i ⊢
  rw[qS]at f i;have f:Sx s k (bh (W++((false,.sg 58)::(false,.sg 59)::R))):=f;have i:fm (W++((false,.sg 58)::(false,.sg 59)::R)):=i;have G:=ry f;have r:=Fl i;rw[qM]at r;have n:Sx s (k+(bh W).length) (bh ((false,.sg 58)::(false,.sg 59)::R)):=by rw[oc]at f;exact iz f
  have t:=w7 i;have v:Sx s (k+(bh W).length+(fw (false,.sg 58)).length) (bh ((false,.sg 59)::R)):=by rw[jf]at n;exact iz n
  rw[Fy m c s p f i o.1 trivial]
  simp only[qB,az];rw[cS m c s p n t];simp only[qB,az];rw[am,o.2.2.1,qB,am (by simp[o.2.2.2])]
  unfold tW;rw[cS m c s p v (rq t)];simp only[qB,az,qT,oc,jf,zy,qM,qZ,Nat.add_zero,Nat.add_assoc]
 |@grp g W ms T h hms=>
  have o:=Rh h l;have y:W≠[]:=h.2.1;have e:(if l then db (W++(false,.sg 58)::(db T++[(false,.sg 59)])) else W++(false,.sg 58)::(db T++[(false,.sg 59)]))=(if l then db W else W)++(false,.sg 58)::(db T++[(false,.sg 59)]):=by
   cases l with|false=>rfl|true=>exact yE y
  rw[e]at f i ⊢;generalize (if l then db W else W)=W at o f i ⊢
  have f:Sx s k (bh (W++((false,.sg 58)::(db T++(false,.sg 59)::R)))):=by simpa using f
  have i:fm (W++((false,.sg 58)::(db T++(false,.sg 59)::R))):=by simpa using i
  have G:=ry f;have r:=Fl i;rw[qM]at r;have n:Sx s (k+(bh W).length) (bh ((false,.sg 58)::(db T++(false,.sg 59)::R))):=by rw[oc]at f;exact iz f
  have t:=w7 i;have v:Sx s (k+(bh W).length+(fw (false,.sg 58)).length) (bh (db T++(false,.sg 59)::R)):=by rw[jf]at n;exact iz n
  have B:=rq t;rw[Fy m c s p f i o.1 trivial]
  simp only[qB,az];rw[cS m c s p n t];simp only[qB,az];rw[am,o.2.2.1,qB,am (by simp[o.2.2.2])]
  unfold tW;have z:∀b d u,db T++(false,.sg 59)::R=(b,.sg d)::u->d≠59:=fun b d u q=>by
   have:∃b w q A,T=(b,.wd w q)::A:=by
    cases hms with|one h=>exact Dk h|cons h _=>obtain⟨b,w,I,u,rfl⟩:=Dk h;exact⟨b,w,I,_,rfl⟩
   obtain⟨J,w,K,A,rfl⟩:=this;cases q
  rw[nM m c s p v B z];simp only[qB,az,qF];simp only[]at H;rw[qn3 m c s p hms m [] _ R [] false g Ta Td v B]
  simp only[List.nil_append,oc,jf,zy,qM,qZ];congr 4;omega
def qqo(f:Nat)(c:90000000<=f)(s:Bs)(p:s.length<=4000)(z:Int×Int)(L:List TE)(C:aR f L=some (0,0))(y:∀x∈L,x.2.2.length<=100000)(A:L.length<=100000){l:List TE}{T:List BT}(h:lR f l T):∀(n:Nat)(a:List TE)(k:Nat),a++l=L->l.length<n ->
  Sx s k (bh ((false,.sg 44)::db T))->fm ((false,.sg 44)::db T)->mh f n s z (s,(k:Int)) a=some (.inr (L,(0,0))):=by
 have t:∀(n k:Nat),Sx s k (bh [])->mh f (n+1) s z (s,(k:Int)) L=some (.inr (L,(0,0))):=fun n k g=>by
  rw[mh,fB,nM f c s p g trivial (fun b d r e=>by cases e)]
  simp only[qB,az,qF];unfold nu;rw[E7 f c s p g];simp only[qB,az];unfold fD;rw[C];rfl
 induction h with
 |@one x T h=>
  intro n a k e v g j;obtain⟨n,rfl⟩:∃m,n=m+1+1:=⟨n-2,by simp at v;omega⟩
  have o:x∈L:=by rw[← e];simp
  have u:a.length<=100000:=by have:=congrArg List.length e;rw[qM]at this;omega
  rw[mh,fB,cS f c s p g j];simp only[qB,az,qT];have i:Sx s (k+(fw (false,.sg 44)).length) (bh (db T++[])):=by rw[jf]at g;rw[List.append_nil];exact iz g
  rw[Ep f c s p h true i (by rw[List.append_nil];exact rq j) (y x o)]
  simp only[qB,az,if_true];rw[ap (lx _ _),e]
  exact t n _ (by rw[oc]at i;exact iz i)
 |@cons x T l r h hl ih=>
  intro n a k e v g j;simp only[qL]at v;obtain⟨n,rfl⟩:∃m,n=m+1:=⟨n-1,Ta⟩
  have o:x∈L:=by rw[← e];simp
  have u:a.length<=100000:=by have:=congrArg List.length e;rw[qM]at this;omega
  have B:T≠[]:=by obtain⟨b,w,q,r,rfl⟩:=KS h;simp
  rw[yE B]at g j;rw[mh,fB,cS f c s p g j];simp only[qB,az,qT];have i:Sx s (k+(fw (false,.sg 44)).length) (bh (db T++(false,.sg 44)::db r)):=by rw[jf]at g;exact iz g
  rw[Ep f c s p h true i (rq j) (y x o)];simp only[qB,az,if_true];rw[ap (lx _ _)]
  exact ih n (a++[x]) _ (by rw[qS];exact e) Ta (by rw[oc]at i;exact iz i) (w7 (rq j))
def qp7(a:Nat)(c:90000000<=a){l:List TE}{T:List BT}(h:lR a l T)(j:(bh T).length<=4000)(r:fm T)(z:aR a l=some (0,0))(t:∀x∈l,x.2.2.length<=100000)(m:l.length<=100000) :
  eZ a (bh T)=some (l,(0,0)):=by
 unfold eZ;rw[bi]
 unfold fA kL fC nu;have f:Sx (bh T) 0 (bh T):=⟨rfl,Ta⟩
 obtain⟨b,w,q,T0,e⟩:=qo0 h;have v:Sx (bh T) 0 (bh ((b,.wd w q)::T0)):=by rw[← e];exact f
 have u:fm ((b,.wd w q)::T0):=by rw[← e];exact r
 have p:=dE a c (bh T) j v u;rw[show((0:Nat):Int)=0 from rfl]at p
 rw[p];simp only[qB,az,xc]
 cases h with
 |@one x T h=>
  have o:=Ep a c (bh T) j h false (R:=[]) (k:=0) (by simpa using f) (by simpa using r) (t x qH)
  rw[show((0:Nat):Int)=0 from rfl]at o
  rw[o];simp only[qB,az,wJ,if_false,wO];rw[ap TB]
  obtain⟨n,p⟩:∃n,a=n+1:=⟨a-1,Ta⟩
  have g:Sx (bh T) (bh T).length (bh []):=⟨by simp[zy],wF _⟩
  have s:mh a (n+1) (bh T) (0,0) (bh T,((bh T).length:Int)) [x]=some (.inr ([x],(0,0))):=by
   rw[mh,fB,nM a c (bh T) j g trivial (fun b d i e=>by cases e)]
   simp only[qB,az,qF];unfold nu;rw[E7 a c (bh T) j g];simp only[qB,az];unfold fD;rw[z];rfl
  rw[show mh a a=mh a (n+1) by rw[← p],s]
  rfl
 |@cons x T l i h hl=>
  have o:=Ep a c (bh (T++(false,.sg 44)::db i)) j h false (R:=(false,.sg 44)::db i) (k:=0) f r (t x qH);rw[show((0:Nat):Int)=0 from rfl]at o
  rw[o];simp only[qB,az,wJ,if_false,wO];rw[ap TB]
  have g:Sx (bh (T++(false,.sg 44)::db i)) (bh T).length (bh ((false,.sg 44)::db i)):=by
   have y:=f;rw[show bh (T++(false,.sg 44)::db i)=bh T++bh ((false,.sg 44)::db i) from oc _ _]at y ⊢
   have:=iz y
   rwa [wO]at this
  rw[qqo a c _ j (0,0) (x::l) z t m hl a [x] _ rfl (by simp only[qL]at m;omega) g (w7 r)]
  rfl

structure St1(k:Nat)(R:List Nat)(Gs:List (List Nat))(N:List Nat):Prop where
 all:∀G∈Gs,G≠[]/\(qc4 k G).length<=75
 cur:N≠[]->(qc4 k N).length<=75
 flat:Gs.flatten++N=R


def Do(s:Bs)(j:s.length<=10000000)(d:Nat->Bs->Int->Int->Option Bool)(p:UInt8->Bool)
  (g:∀n e k,d (n+1) s e k=(bif decide (k<e) then(ak s k).bind fun c=>(some (p c)).bind fun x=>bif !x then some false else d n s e (ae (k+(1:Int))) else some true)) :
  ∀(n:Nat)(b a:Bs),s=b++a->a.length<n->d n s (s.length:Int) (b.length:Int)=some (a.all p):=by
 intro n
 induction n with
 |zero=>intro b a _ h;omega|succ n ih=>
  intro b a e h;have f:=congrArg List.length e;rw[qM]at f;rw[g]
  cases a with
  |nil=>rw[bi (by simp at f;omega)];rfl|cons c a=>
   simp only[qL]at f h;rw[ap,show ak s (b.length:Int)=some c by rw[e];exact gh _ _ _,qB,qB,List.all_cons]
   cases i:p c
   ·rfl
   ·rw[mF,bj _]
    have:=ih (b++[c]) a (by rw[e];simp) Ta
    rw[qM,wD]at this;rw[this];rfl
def kg(c:UInt8):Bool:=(aV c).getD false
def qle(c:UInt8):aV c=some (kg c):=by
 obtain⟨v,e,_⟩:=QJ c;unfold kg;rw[e];rfl
def qld:∀n:_root_.Fin 256,kg (UInt8.ofNat n.val)=true->d8 (UInt8.ofNat n.val)=true:=by decide +kernel
def QH{c:UInt8}(h:kg c=true):d8 c=true:=qx (fun c=>kg c=true->d8 c=true) qld c h
def PP{c:UInt8}(h:dk c=true):d8 c=true:=by unfold d8;rw[h];rfl
def Fv:d8 46=true:=by decide +kernel
def P7(a:Nat)(s:Bs)(h:s.length<a:=by omega)(b:s.length<=10000000:=by omega):BR a s=some (s.all dk):=
 Do s b (kU a) dk (fun n e k=>by rw[kU,Hm];simp only[JG]) a [] s rfl h
def P8(a:Nat)(s:Bs)(h:s.length<a:=by omega)(b:s.length<=10000000:=by omega):BS a s=some (s.all kg):=
 Do s b (kV a) kg (fun n e k=>by rw[kV,Hn];simp only[qle]) a [] s rfl h
def SO{R:Type}(g:Nat->Bs->Bs->Int->Bool->Option R)(r0:Bs->Bool->Option TX)(A B:Bs×Bs×Int×Bool->R)(P:UInt8->Prop)(m:∀s b,s.length<=100000->r0 s b=some (.inl false)\/(r0 s b=some (.inr b)/\s≠[]/\∀c∈s,P c))
  (C:∀n d a f k,g (n+1) d a f k=(jh a d).bind fun x1=>bif decide (x1<(0:Int)) then(r0 a k).bind fun x2=>az x2 (fun u=>some (A (d,(a,(f,u))))) (fun y=>some (B (d,(a,(f,y))))) else bif decide (0<=ae (x1+f)/\ae (x1+f)<=(List.length a:Int)) then(r0 (List.take (ae (x1+f)).toNat a) k).bind fun F=>az F (fun v=>some (A (d,(a,(f,v))))) (fun z=>bif decide (0<=ae (x1+(List.length d:Int))/\ae (x1+(List.length d:Int))<=(List.length a:Int)) then g n d (List.drop (ae (x1+(List.length d:Int))).toNat a) f z else none) else none) :
  ∀(n:Nat)(s:Bs)(b:Bool),s.length<n->s.length<=100000->(∃t,g n [46] s 0 b=some (A ([46],(t,(0,false)))))\/((∃t,g n [46] s 0 b=some (B ([46],(t,(0,b)))))/\s≠[]/\∀c∈s,P c\/c=46):=by
 intro n
 induction n with
 |zero=>intro s b h;omega|succ n ih=>
  intro s b h o;rw[C];rcases KH 46 s with e|⟨w,r,rfl,e⟩
  ·rw[e,qB,ap]
   rcases m s b o with q|⟨q,p,l⟩
   ·exact .inl ⟨s,by rw[q];rfl⟩
   ·exact .inr ⟨⟨s,by rw[q];rfl⟩,p,fun c i => .inl (l c i)⟩
  ·simp only[qM,qL]at h o;rw[e,qB,bi,Int.add_zero,au (x:=(w.length:Int)) Ta Ta,ap,qb6]
   rcases m w b Ta with q|⟨q,p,l⟩
   ·exact .inl ⟨_,by rw[q];rfl⟩
   ·rw[q,qB];simp only[az];rw[show((List.length ([46]:Bs):Nat):Int)=1 from rfl,bj _,ap,Kt]
    rcases ih r b Ta Ta with⟨t,j⟩|⟨⟨t,j⟩,G,E⟩
    ·exact .inl ⟨t,j⟩
    ·refine .inr ⟨⟨t,j⟩,Te,fun c i => ?_⟩
     rcases List.mem_append.1 i with q|q
     ·exact .inl (l c q)
     ·rcases List.mem_cons.1 q with q|q
      ·exact .inr q
      ·exact E c q
def PB{l:Bs}{p:UInt8->Bool}{α:Type}{x y:α}:(bif !(l.all p) then x else y)=if l.all p=true then y else x:=by cases l.all p<;>rfl
def qlo{a:Nat}(l:90000000<=a){s:Bs}(f:s.length<=100000)(h:vm a s=some true):s≠[]/\∀c∈s,d8 c=true:=by
 unfold vm tT qq bL at h;simp only[qB]at h;unfold vR at h;rw[am]at h
 have:=SO (lJ a) (vo a) (fun x=>Sum.inl x) (fun x=>Sum.inr x) (fun c=>dk c=true) (fun s b f=>by
  unfold vo;by_cases d:s=[]
  ·exact .inl (by rw[aq (by simp[d])])
  ·rw[am (by simp[d]),P7 a s,qB,PB]
   by_cases e:s.all dk=true
   ·exact .inr ⟨by rw[qX e],d,List.all_eq_true.1 e⟩
   ·exact .inl (by rw[qW e])) (fun _ _ _ _ _=>rfl) a s false Ta f
 rcases this with⟨t,g⟩|⟨⟨t,g⟩,i,j⟩
 ·rw[g]at h;simp[az]at h
 ·refine⟨i,fun c k => ?_⟩
  rcases j c k with q|q
  ·exact PP q
  ·rw[q];exact Fv
def qlm{a:Nat}(l:90000000<=a){s:Bs}(h:qo a s=some true):s.length<=60/\s≠[]/\∀c∈s,d8 c=true:=by
 unfold qo at h;by_cases f:(s.length:Int)<=60
 ·rw[ap f]at h;unfold tU qq bL at h;simp only[qB]at h;unfold vS at h;rw[am]at h
  have:=SO (lK a) (vp a) (fun x=>Sum.inl x) (fun x=>Sum.inr x) (fun c=>kg c=true) (fun s b m=>by
   unfold vp;by_cases d:s=[]
   ·exact .inl (by rw[aq (by simp[d])])
   ·rw[am (by simp[d]),P8 a s,qB,PB]
    by_cases e:s.all kg=true
    ·exact .inr ⟨by rw[qX e],d,List.all_eq_true.1 e⟩
    ·exact .inl (by rw[qW e])) (fun _ _ _ _ _=>rfl) a s false Ta Ta
  rcases this with⟨t,g⟩|⟨⟨t,g⟩,i,j⟩
  ·rw[g]at h;simp[az]at h
  ·refine⟨Ta,i,fun c k => ?_⟩
   rcases j c k with q|q
   ·exact QH q
   ·rw[q];exact Fv
 ·rw[bi f]at h;simp at h
def qou{b:Nat}{s:Bs}(h:th b s=some true):s.length<=60:=by
 unfold th at h;by_cases a:s=[]
 ·subst a;simp
 ·rw[show(!(s==([]:Bs)))=true by simp[a],aq rfl]at h
  by_cases c:(s.length:Int)<=60
  ·omega
  ·rw[bi c]at h;simp at h
def b0:List BT->Prop|(true,_)::_=>False|_=>True
def qpt(W:List BT):Prop:=∀R,fm R->nw R->fm (W++R)
def SW(s:Bs)(g:s.length<=100000:=by omega):BI s=some (34::(dn s++[34]))/\(dn s).length<=300000:=by
 have e:jl 92 34 s<=2*s.length:=by
  have c:=List.count_le_length (a:=(92:UInt8)) (l:=s);have d:=List.count_le_length (a:=(34:UInt8)) (l:=s);unfold jl;omega
 have f:=nE (a:=92) (b:=34) Tf 92 92 92 34 s
 unfold BI;rw[show CF ([([92]:Bs),([92,92]:Bs),([34]:Bs),([92,34]:Bs)]:List Bs)=some (0,0,0,[[92],[92,92],[34],[92,34]]) from rfl,qB]
 unfold yq;dsimp only;rw[ap ⟨rfl,rfl,Tf,Ta⟩,qB,ap (by simp only[qL,qZ,bg];omega),ap Tu]
 exact⟨rfl,by show(gf 92 34 [92,92] [92,34] s).length<=300000;omega⟩
abbrev FU:Nat:=100000000
def lU(a:Bs×Bs×Bs):Prop:=vl a.1=some 0/\th FU a.2.1=some true/\qo FU a.2.2=some true
def Dd(x:Bs×Bool×TS):Prop:=vl x.1=some 0/\(x.2.1=true↔x.1≠[])/\(x.2.1=false->x.2.2.length=1)/\∀a∈x.2.2,lU a
def RY(T:List BT):Prop:=∃S x,T=S++[x]/\∀t,im x.2≠t++[32]
def qsv(a:Bs×Bs×Bs)(h:lU a):∃q,CW FU a.2.1 q/\kS FU a=some (bh (uu false a.2.1 a.2.2 q))/\(bh (uu false a.2.1 a.2.2 q)).length<=400000/\qpt (uu false a.2.1 a.2.2 q):=by
 obtain⟨_,c,j⟩:=h;obtain⟨s,lo,o⟩:=a;simp only[]at c j;have p:=qou c;obtain⟨r,g,i⟩:=qlm Tf j
 obtain⟨b,f,_⟩:=QM FU Tf lo
 have e64:(64:UInt8)∈dG:=Tf
 unfold kS;dsimp only;rw[f,qB]
 cases b with
 |true=>
  obtain⟨k,n⟩:=qlo Tf Ta f
  refine⟨false,⟨c,fun _=>f⟩,?_,?_,fun R d e=>⟨⟨k,n⟩,fun _ _=>trivial,e64,(fun w q=>by cases q),⟨g,i⟩,fun _ _=>e,d⟩⟩
  ·rw[aq rfl,ap (by simp only[qL,qZ,bg];omega),ap Tu]
   simp[bh,fw,im]
  ·simp[bh,fw,im];omega
 |false=>
  obtain⟨l,m⟩:=SW lo
  refine⟨true,⟨c,fun q=>by cases q⟩,?_,?_,fun R d e=>⟨trivial,(fun w q=>by cases q),e64,(fun w q=>by cases q),⟨g,i⟩,fun _ _=>e,d⟩⟩
  ·rw[am rfl,l,qB,ap Tu,ap Tu]
   simp[bh,fw,im]
  ·simp[bh,fw,im];omega
end Go.Sym
namespace Go.Sym
abbrev AN:Type:=Bs×Bs×Bs
abbrev tu:Type:=Bs×Bool×(List AN)
def qiy{a:AN}{f:Int×Int}(h:aU FU a=some f)(k:f.1=0):lU a:=by
 obtain⟨d,g,_⟩:=DN FU Tf a.1
 obtain⟨i,b,_⟩:=Lc FU Tf a.2.1
 obtain⟨j,e,_⟩:=Ko FU Tf a.2.2
 unfold aU at h;rw[g,qB,gc]at h;by_cases c:d≠0
 ·rw[qX c]at h;have:=congrArg (Option.map Prod.fst) h;simp[bw]at this;omega
 ·rw[qW c,b,qB]at h;cases i
  ·have:=congrArg (Option.map Prod.fst) h;simp[bw]at this;omega
  ·rw[mF,e,qB]at h;cases j
   ·have:=congrArg (Option.map Prod.fst) h;simp[bw]at this;omega
   ·exact⟨by rw[g,Classical.not_not.1 c],b,e⟩
def qi2(l:List AN)(p:l.length<=80000000)(n:Nat):∀g d:List AN,l=g++d->d.length<n->vn FU n l (l.length:Int) (g.length:Int)=some 0->∀a∈d,lU a:=by
 induction n with
 |zero=>intro g d _ h;omega|succ n ih=>
  intro g d e h i
  cases d with
  |nil=>intro a o;cases o
  |cons a d=>
   have m:=congrArg List.length e;simp only[qM,qL]at m h;rw[vn,kO,ap,show ak l (g.length:Int)=some a by rw[e];exact gh _ _ _,qB]at i
   obtain⟨f,k,_⟩:=P2 FU Tf a
   rw[k,qB,o5,qB,gc]at i;by_cases c:f.1≠0
   ·rw[qX c]at i;exact absurd (qJ i) c
   ·rw[qW c,bj _]at i
    have:=ih (g++[a]) d (by rw[e];simp) Ta (by rw[qM,wD];exact i)
    intro b j;rcases List.mem_cons.1 j with rfl|j
    ·exact qiy k (Classical.not_not.1 c)
    ·exact this b j
def qh6{x:tu}(n:x.2.2.length<=80000000)(h:aW FU x=some 0):Dd x:=by
 obtain⟨d,i,_⟩:=DN FU Tf x.1
 unfold aW at h;rw[i,qB,gc]at h;by_cases c:d≠0
 ·rw[qX c]at h;exact absurd (qJ h) c
 rw[qW c]at h;obtain⟨g,b,e⟩:=x;simp only[]at i h n;have f:vl g=some 0:=by rw[i,Classical.not_not.1 c]
 have l:∀x,qp FU true x≠some 0:=fun x q=>by
  unfold qp at q;rw[aq rfl]at q;exact absurd (qJ q) Tf
 have o:qp FU false (g,(b,e))=some 0->∀a∈e,lU a:=fun q=>by
  unfold qp tQ at q;rw[am rfl]at q;exact qi2 e n FU [] e rfl Tm q
 by_cases j:g=[]
 ·subst j
  cases b with
  |true=>exact absurd h (l _)|false=>
   rw[am,aq]at h
   by_cases m:(e.length:Int)=1
   ·rw[show((e.length:Int) != (1:Int))=false by simp[m]]at h
    exact⟨f,Te,fun _=>Ts,o h⟩
   ·rw[show((e.length:Int) != (1:Int))=true by simp[m]]at h
    exact absurd h (l _)
 ·have k:(g==([]:Bs))=false:=by simp[j]
  rw[k]at h
  cases b with
  |false=>exact absurd h (l (g,(false,e)))|true=>
   rw[am,am]at h
   exact⟨f,⟨fun _=>j,fun _=>rfl⟩,(fun q=>by cases q),o h⟩
def qka(l:List tu)(t:l.length<=2000000)(o:∀x∈l,x.2.2.length<=2000000)(z f:Int×Int)(s:f.1=0)(n:Nat):∀g d:List tu,l=g++d->d.length<n->vk FU n l (l.length:Int) (g.length:Int) z=some f->f=(0,0)/\∀x∈d,Dd x:=by
 induction n with
 |zero=>intro g d _ h;omega|succ n ih=>
  intro g d e h b;have i:=congrArg List.length e;rw[qM]at i;rw[vk,kK]at b
  cases d with
  |nil=>
   rw[bi (by simp at i;omega)]at b
   exact⟨(qJ b).symm,fun a m=>by cases m⟩
  |cons x d=>
   simp only[qL]at i h;have p:=o x (by rw[e];simp)
   rw[ap,show ak l (g.length:Int)=some x by rw[e];exact gh _ _ _,qB]at b
   obtain⟨c,k,_⟩:=P5 FU Tf x
   rw[k,qB,gc]at b;by_cases c0:c≠0
   ·rw[qX c0]at b;have:=congrArg (Option.map Prod.fst) b;simp[bw]at this;omega
   ·rw[qW c0,bj _]at b
    obtain⟨q,r⟩:=ih (g++[x]) d (by rw[e];simp) Ta (by rw[qM,wD];exact b)
    refine⟨q,fun y j => ?_⟩
    rcases List.mem_cons.1 j with rfl|j
    ·exact qh6 Ta (by rw[k,Classical.not_not.1 c0])
    ·exact r y j
def jz(l:List tu):Nat:=(l.map fun x=>x.2.2.length).sum
def Ka(x:tu)(l:List tu):jz (x::l)=x.2.2.length+jz l:=by simp[jz]
def Qx(a b:List tu):jz (a++b)=jz a+jz b:=by simp[jz]
def Qy:∀(l:List tu),(∀x∈l,x.2.2.length<=2000000)->jz l<=2000000*l.length
 |[],_=>by simp[jz]|x::l,h=>by
  have b:=h x qH;have c:=Qy l (fun y a=>h y (qE _ a))
  rw[Ka,qL];omega
def qj8(l:List tu)(p:l.length<=2000000)(j:∀x∈l,x.2.2.length<=2000000)(z f:Int×Int)(o:f.1=0)(n:Nat):∀b c:List tu,l=b++c->c.length<n->vi FU n l (jz b:Int) l (l.length:Int) (b.length:Int) z=some f->f=(0,0)/\l.length<=60/\jz l<=60/\∀x∈l,Dd x:=by
 have m:=Qy l j
 induction n with
 |zero=>intro b c _ h;omega|succ n ih=>
  intro b c e h a;have d:=congrArg List.length e;rw[qM]at d;rw[vi,kJ]at a
  cases c with
  |nil=>
   rw[List.append_nil]at e;subst e;rw[bi]at a
   have k:vj FU l true z≠some f:=fun q=>by
    unfold vj at q;rw[aq rfl]at q;have:=congrArg (Option.map Prod.fst) q;simp[bw]at this;omega
   by_cases g:(60:Int)<(l.length:Int)
   ·rw[ap g]at a;exact absurd a k
   ·rw[bi g]at a;by_cases i:(60:Int)<(jz l:Int)
    ·rw[decide_eq_true i]at a;exact absurd a k
    ·rw[decide_eq_false i]at a;unfold vj tP at a;rw[am rfl]at a;obtain⟨r,s⟩:=qka l p j z f o FU [] l rfl Tm a
     exact⟨r,Ta,Ta,s⟩
  |cons x c=>
   simp only[qL]at d h;rw[ap,show ak l (b.length:Int)=some x by rw[e];exact gh _ _ _,qB,bj _]at a
   have t:jz b+x.2.2.length<=jz l:=by rw[e,Qx,Ka];omega
   rw[au (x:=(jz b:Int)+(x.2.2.length:Int)) Ta Ta]at a
   refine ih (b++[x]) c (by rw[e];simp) Ta ?_
   rw[qM,wD,Qx,Ka,show jz []=0 from rfl,show((jz b+(x.2.2.length+0):Nat):Int)=(jz b:Int)+(x.2.2.length:Int) by omega]
   exact a
def qkb(l:List tu)(b:l.length<=2000000)(c:∀x∈l,x.2.2.length<=2000000){f:Int×Int}(h:aR FU l=some f)(a:f.1=0):f=(0,0)/\l.length<=60/\jz l<=60/\∀x∈l,Dd x:=
 qj8 l b c _ f a FU [] l rfl Tm h
end Go.Sym

namespace Go.Sym.Cal
def rp(y:Int):Bool:=y%4==0&&(y%100 != 0||y%400==0)
def lp(y:Int):Int:=if rp y=true then 1 else 0
def nU(y:Int):0<=lp y/\lp y<=1:=by unfold lp;split<;>omega
def qoz(y:Int):lp y=(y/4-y/100+y/400)-((y-1)/4-(y-1)/100+(y-1)/400):=by
 unfold lp rp;split
 ·rename_i h;simp at h;omega
 ·rename_i h;simp at h;omega
def cB(m:Int):Int:=if m=2 then 28 else if m=4\/m=6\/m=9\/m=11 then 30 else 31
def d9(y m:Int):Int:=if m=2 then 28+lp y else cB m
def mw(y m:Int):28<=d9 y m/\d9 y m<=31:=by
 have:=nU y;unfold d9 cB;split<;>(try split)<;>(try split)<;>omega
def mO(m:Int):Int:=
 if m<=1 then 0 else if m=2 then 31 else if m=3 then 59 else if m=4 then 90 else if m=5 then 120 else if m=6 then 151 else if m=7 then 181
 else if m=8 then 212 else if m=9 then 243 else if m=10 then 273 else if m=11 then 304 else if m=12 then 334 else 365
def dr(y m:Int):Int:=mO m+if 3<=m then lp y else 0
def DA(y:Int):dr y 1=0:=by simp[dr,mO]
def D9(y:Int):dr y 13=365+lp y:=by simp[dr,mO]
def Ll(m:Int)(a:1<=m)(b:m<=12):m=1\/m=2\/m=3\/m=4\/m=5\/m=6\/m=7\/m=8\/m=9\/m=10\/m=11\/m=12:=Ta
def cA(y m:Int)(a:1<=m:=by omega)(b:m<=12:=by omega):dr y (m+1)=dr y m+d9 y m:=by
 rcases Ll m a b with h|h|h|h|h|h|h|h|h|h|h|h<;>subst h<;>simp[dr,mO,d9,cB]<;>omega
def mP(y m:Int)(a:1<=m)(b:m<=13:=by omega):0<=dr y m/\dr y m<=366:=by
 have:=nU y;rcases (show m=13\/m<=12 by omega) with h|h
 ·subst h;rw[D9];omega
 ·rcases Ll m a h with h|h|h|h|h|h|h|h|h|h|h|h<;>subst h<;>simp[dr,mO]<;>omega
def mQ(y a b:Int)(f:1<=a:=by omega)(c:a<=b:=by omega)(g:b<=13:=by omega):dr y a<=dr y b:=by
 obtain⟨n,rfl⟩:∃n:Nat,b=a+n:=⟨(b-a).toNat,Ta⟩
 induction n with
 |zero=>simp|succ n ih=>
  have h:=ih Ta Ta
  have d:=cA y (a+n)
  have i:=mw y (a+n);have e:a+((n+1:Nat):Int)=a+n+1:=Ta
  rw[e,d];omega
def Kf(y a b:Int)(c:1<=a)(e:a<b:=by omega)(d:b<=13:=by omega):dr y a+d9 y a<=dr y b:=by
 rw[← cA y a c];exact mQ y _ _ Ta Ta d
def dh(y:Int):Int:=365*(y-1)+(y-1)/4-(y-1)/100+(y-1)/400
def PR:dh 1970=719162:=Tf
def bX(y:Int):dh (y+1)=dh y+365+lp y:=by
 have:=qoz y;unfold dh;rw[show y+1-1=y by omega];omega
def ox(a b:Int)(h:a<=b:=by omega):dh a<=dh b:=by unfold dh;omega
def yC(y:Int)(a:1<=y)(b:y<=4001:=by omega):0<=dh y/\dh y<=1461000:=by unfold dh;omega
def bt(y m d:Int):Int:=dh y-719162+d-1+dr y m
def day_bd(y m d:Int)(a:1<=y)(b:y<=4001)(c:1<=m)(e:m<=13)(f : -1000<=d)(g:d<=1000) : -720200<=bt y m d/\bt y m d<=743300:=by
 have:=yC y a b;have:=mP y m c e;unfold bt;omega
def fv(y m d:Int):Prop:=1<=y/\y<=4000/\1<=m/\m<=12/\1<=d/\d<=d9 y m
instance(y m d:Int):Decidable (fv y m d):=by unfold fv;infer_instance
def qy(y m d:Int)(h:fv y m d):dh y<=bt y m d+719162/\bt y m d+719162<dh (y+1):=by
 obtain⟨_,_,a,b,c,e⟩:=h;have:=mP y m a;have:=Kf y m 13 a;have:=D9 y;have:=bX y
 unfold bt;omega
def DH(y m d:Int)(h:fv y m d):dr y m<=bt y m d+719162-dh y/\bt y m d+719162-dh y<dr y (m+1):=by
 obtain⟨_,_,a,b,c,e⟩:=h;have:=cA y m a b;unfold bt;omega
def qk1{y m d f m' g:Int}(h:fv y m d)(i:fv f m' g)(e:bt y m d=bt f m' g):y=f/\m=m'/\d=g:=by
 have a:=qy y m d h;have o:=qy f m' g i;have n:y=f:=by
  rcases Int.lt_trichotomy y f with c|c|c
  ·have:=ox (y+1) f;omega
  ·exact c
  ·have:=ox (f+1) y;omega
 subst n;have b:=DH y m d h;have p:=DH y m' g i;obtain⟨_,_,q,r,_,_⟩:=h;obtain⟨_,_,j,k,_,_⟩:=i;have l:m=m':=by
  rcases Int.lt_trichotomy m m' with c|c|c
  ·have:=mQ y (m+1) m';omega
  ·exact c
  ·have:=mQ y (m'+1) m;omega
 subst l;refine⟨rfl,rfl,?_⟩;unfold bt at e;omega
noncomputable def jy(n:Int):Int×Int×Int:=open Classical in if h:∃p:Int×Int×Int,fv p.1 p.2.1 p.2.2/\bt p.1 p.2.1 p.2.2=n then Classical.choose h else(0,0,0)
def qkd{y m d:Int}(h:fv y m d):jy (bt y m d)=(y,m,d):=by
 have e:∃p:Int×Int×Int,fv p.1 p.2.1 p.2.2/\bt p.1 p.2.1 p.2.2=bt y m d:=⟨(y,m,d),h,rfl⟩;unfold jy;rw[dif_pos e];obtain⟨g,f⟩:=Classical.choose_spec e;obtain⟨a,b,c⟩:=qk1 g h f;exact Prod.ext a (Prod.ext b c)
def qkf{n y m d:Int}(h:fv y m d)(e:bt y m d=n):jy n=(y,m,d):=by rw[← e];exact qkd h
def qke(n:Int)(s : -719162<=n)(t:n<=741807):∃y m d:Int,fv y m d/\bt y m d=n:=by
 have a:∀k:Nat,k<=4000->n+719162<dh (k+1:Int)->∃y:Int,1<=y/\y<=4000/\dh y<=n+719162/\n+719162<dh (y+1):=by
  intro k
  induction k with
  |zero=>intro _ h;simp[dh]at h;omega|succ k ih=>
   intro l h;by_cases g:n+719162<dh (k+1:Int)
   ·exact ih Ta g
   ·exact⟨k+1,Ta,Ta,Ta,by
     have e:((k+1:Nat):Int)+1=(k:Int)+1+1:=Ta
     rw[e]at h;exact h⟩
 obtain⟨y,i,j,q,r⟩:=a 4000 (wF _) (by
  have:dh ((4000:Nat)+1:Int)=1460970:=Tf
  omega)
 have f:∀k:Nat,k<=12->n+719162-dh y<dr y (k+1:Int)->∃m:Int,1<=m/\m<=12/\dr y m<=n+719162-dh y/\n+719162-dh y<dr y (m+1):=by
  intro k
  induction k with
  |zero=>intro _ h;simp[dr,mO]at h;omega|succ k ih=>
   intro l h;by_cases g:n+719162-dh y<dr y (k+1:Int)
   ·exact ih Ta g
   ·exact⟨k+1,Ta,Ta,Ta,by
     have e:((k+1:Nat):Int)+1=(k:Int)+1+1:=Ta
     rw[e]at h;exact h⟩
 obtain⟨m,b,c,o,p⟩:=f 12 (wF _) (by
  have:=D9 y;have:=bX y;have e:((12:Nat):Int)+1=13:=Ta
  rw[e];omega)
 have:=cA y m b c;exact⟨y,m,n+719162-dh y-dr y m+1,⟨i,j,b,c,Ta,Ta⟩,by unfold bt;omega⟩
def QA:bt 4000 12 31=741807:=Tf
def QB:bt 1 1 1 = -719162:=Tf
def dN(y m d:Int)(h:fv y m d) : -719162<=bt y m d/\bt y m d<=741807:=by
 have a:=qy y m d h;have b:=ox 1 y h.1;have c:=ox (y+1) 4001 (by have:=h.2.1;omega)
 have e:dh 1=0:=Tf
 have f:dh 4001=1460970:=Tf
 omega
def gL(n:Int)(a : -719162<=n:=by omega)(b:n<=741807:=by omega):fv (jy n).1 (jy n).2.1 (jy n).2.2/\bt (jy n).1 (jy n).2.1 (jy n).2.2=n:=by
 obtain⟨y,m,d,h,e⟩:=qke n a b;rw[qkf h e];exact⟨h,e⟩
def jc(n:Int):Int:=(n+4)%7
def Fw(n:Int):0<=jc n/\jc n<=6:=by unfold jc;omega
end Go.Sym.Cal
namespace Go.Sym.Zn
open Go.Sym.Cal
def gx(y a b:Int):Int:=(b-jc (bt y a 1)+7)%7
def fa(y a c b:Int):Int:=if c=5/\d9 y a<29+gx y a b then 22+gx y a b else 1+gx y a b+7*(c-1)
def oE(y a d c b ah:Int):Int:=bt y a (fa y a d c)*86400+60*(b-ah)
def lT(b d c a:Int):Prop:=1<=b/\b<=12/\1<=d/\d<=5/\0<=c/\c<=6/\0<=a/\a<=1439
instance(b d c a:Int):Decidable (lT b d c a):=by unfold lT;infer_instance
def oG(y a b:Int):0<=gx y a b/\gx y a b<=6:=by unfold gx;omega
def xi(y a b c:Int)(e:1<=b)(f:b<=5):1<=fa y a b c/\fa y a b c<=d9 y a:=by
 have:=oG y a c;have:=mw y a;unfold fa;split
 ·omega
 ·rename_i h;by_cases d:b=5
  ·subst d;simp at h;omega
  ·omega
def DI(y m d:Int):bt y m d=bt y m 1+d-1:=by unfold bt;omega
def qb9(y b d a:Int)(e:0<=a)(f:a<=6):(bt y b (fa y b d a)+4)%7=a:=by
 rw[DI];generalize c:bt y b 1=F;unfold fa gx jc;rw[c];split<;>omega
def qmg(y d:Int)(h:1<=d)(i:d<=12):bt y d 1+365<=bt (y+1) d 1/\bt (y+1) d 1<=bt y d 1+366 /\
  bt y d 1+d9 y d+365<=bt (y+1) d 1+d9 (y+1) d/\bt (y+1) d 1+d9 (y+1) d<=bt y d 1+d9 y d+366:=by
 have a:=bX y;have b:=nU y;have c:=nU (y+1);have g:d9 (y+1) d-d9 y d=if d=2 then lp (y+1)-lp y else 0:=by
  unfold d9;split<;>omega
 have f:dr (y+1) d-dr y d=if 3<=d then lp (y+1)-lp y else 0:=by
  unfold dr;split<;>omega
 unfold bt;by_cases e:d=2
 ·subst e;simp at g f;omega
 ·rw[qW e]at g;split at f<;>omega
def qb8(y c g d:Int)(o:1<=c)(p:c<=12)(i:1<=g)(j:g<=5)(k:0<=d)(l:d<=6) :
  bt (y+1) c (fa (y+1) c g d)=bt y c (fa y c g d)+364\/bt (y+1) c (fa (y+1) c g d)=bt y c (fa y c g d)+371:=by
 have a:=qb9 y c g d k l;have b:=qb9 (y+1) c g d k l;have f:=qmg y c o p;have x:=oG y c d;have u:=oG (y+1) c d;have r:=xi y c g d i j;have m:=xi (y+1) c g d i j;have s:=mw y c;have n:=mw (y+1) c;rw[DI y c (fa y c g d),DI (y+1) c (fa (y+1) c g d)]at *;by_cases e:g=5
 ·have t:d9 y c-6<=fa y c g d:=by
   unfold fa;subst e;split
   ·omega
   ·rename_i h;simp at h;omega
  have q:d9 (y+1) c-6<=fa (y+1) c g d:=by
   unfold fa;subst e;split
   ·omega
   ·rename_i h;simp at h;omega
  omega
 ·have t:fa y c g d=1+gx y c d+7*(g-1):=by unfold fa;rw[qW (by simp[e])]
  have q:fa (y+1) c g d=1+gx (y+1) c d+7*(g-1):=by unfold fa;rw[qW (by simp[e])]
  omega
def fh(y:Int):Int:=86400*(dh y-719162)
def gS(y:Int):fh y+31536000<=fh (y+1)/\fh (y+1)<=fh y+31622400:=by
 have a:=bX y;have b:=nU y;unfold fh;omega
def cU(a b:Int)(h:a<=b:=by omega):fh a<=fh b:=by have:=ox a b h;unfold fh;omega
structure Dc(B E:Int->Int)(std sm:Int):Prop where
 d1:std+1<=sm
 d2:sm<=std+180
 b1:∀y,fh y<=B y+60*std
 b2:∀y,B y+60*std+60<=fh (y+1)
 e1:∀y,fh y<=E y+60*sm
 e2:∀y,E y+60*sm+60<=fh (y+1)
 bs:∀y,B (y+1)=B y+364*86400\/B (y+1)=B y+371*86400
 es:∀y,E (y+1)=E y+364*86400\/E (y+1)=E y+371*86400
 be:∀y,fh (y+1)-86400<=B y+60*std->E y+60*sm+86400<=fh (y+1)
 eb:∀y,fh (y+1)-86400<=E y+60*sm->B y+60*std+86400<=fh (y+1)
def RB(y g d:Int)(i:1<=g)(j:g<=12)(k:1<=d)(l:d<=d9 y g):fh y<=bt y g d*86400/\bt y g d*86400+86400<=fh (y+1)/\(g<=11->bt y g d*86400+2678400+86400<=fh (y+1)):=by
 have a:=mP y g i;have b:=Kf y g 13 i;have c:=D9 y;have e:=bX y
 have f:g<=11->dr y g+d9 y g+31<=dr y 13:=fun h=>by
  have:=Kf y g 12 i;have:=cA y 12
  have:d9 y 12=31:=by simp[d9,cB]
  have:dr y (12+1)=dr y 13:=rfl;omega
 unfold fh bt;refine⟨Ta,Ta,fun h => ?_⟩
 have:=f h;omega
def qt2{i n a e d j b g f k:Int}(E:i+1<=n)(F:n<=i+180)(G:lT a e d j)(H:lT b g f k)(J:a≠b) :
  Dc (fun y=>oE y a e d j i) (fun y=>oE y b g f k n) i n:=by
 obtain⟨u,v,o,p,z,A,Q,R⟩:=G;obtain⟨w,x,q,r,B,C,S,T⟩:=H;have l:=fun y=>RB y a (fa y a e d) u v (xi y a e d o p).1 (xi y a e d o p).2
 have m:=fun y=>RB y b (fa y b g f) w x (xi y b g f q r).1 (xi y b g f q r).2
 have O:=fun y=>qb8 y a e d u v o p z A
 have P:=fun y=>qb8 y b g f w x q r B C
 refine⟨E,F,fun y => ?_,fun y => ?_,fun y => ?_,fun y => ?_,fun y => ?_,fun y => ?_,fun y => ?_,fun y => ?_⟩<;>simp only[oE]
 ·have:=l y;omega
 ·have:=l y;omega
 ·have:=m y;omega
 ·have:=m y;omega
 ·have:=O y;omega
 ·have:=P y;omega
 ·have⟨K,L,s⟩:=l y;have⟨M,N,t⟩:=m y;intro h;have I:a=12:=by
   by_cases c:a<=11
   ·have:=s c;omega
   ·omega
  have:=t Ta;omega
 ·have⟨K,L,s⟩:=l y;have⟨M,N,t⟩:=m y;intro h;have I:b=12:=by
   by_cases c:b<=11
   ·have:=t c;omega
   ·omega
  have:=s Ta;omega
section
variable{B E:Int->Int}{std sm:Int}
def Ar{f:Int->Int}(h:∀y,f (y+1)=f y+364*86400\/f (y+1)=f y+371*86400){a b:Int}(c:a<b):f a+364*86400<=f b:=by
 obtain⟨n,rfl⟩:∃n:Nat,b=a+n+1:=⟨(b-a-1).toNat,Ta⟩
 clear c
 induction n with
 |zero=>have:=h a;simp;omega|succ n ih=>
  have e:a+((n+1:Nat):Int)+1=a+n+1+1:=Ta
  rw[e];have:=h (a+n+1);omega
def gA(B E:Int->Int)(lo a t:Int):Prop:=∃y,lo<=y/\y<=a/\B y<=t/\∀z,lo<=z->z<=a->E z<=t->E z<B y
def Ph(B E:Int->Int)(t:Int):Prop:=∃y,B y<=t/\∀z,E z<=t->E z<B y
def De(std t c:Int):Prop:=fh c<=t+60*std/\t+60*std<fh (c+1)
def qtf(h:Dc B E std sm){t c:Int}(n:De std t c):gA B E (c-1) (c+1) t↔Ph B E t:=by
 obtain⟨s,u⟩:=n;have p:=h.d1;have r:=h.d2
 -- all turns of c-1 are over
 have f:B (c-1)<=t:=by have:=h.b2 (c-1);rw[show c-1+1=c by omega]at this;omega
 have i:E (c-1)<=t:=by have:=h.e2 (c-1);rw[show c-1+1=c by omega]at this;omega
 -- none of c+2 and later
 have g:∀y,c+2<=y->t<B y:=fun y d=>by have:=h.b1 y;have:=cU (c+2) y d;have j:=gS (c+1);rw[show c+1+1=c+2 by omega]at j;omega
 have k:∀y,c+2<=y->t<E y:=fun y d=>by have:=h.e1 y;have:=cU (c+2) y d;have j:=gS (c+1);rw[show c+1+1=c+2 by omega]at j;omega
 constructor
 ·rintro⟨y,l,m,d,e⟩
  refine⟨y,d,fun z b => ?_⟩
  by_cases z1:c-1<=z
  ·by_cases o:z<=c+1
   ·exact e z z1 o b
   ·have:=k z Ta;omega
  ·have a:=Ar h.es (show z<c-1 by omega);have:=e (c-1) Ta Ta i;omega
 ·rintro⟨y,d,e⟩
  have m:y<=c+1:=by
   by_cases q:y<=c+1
   ·exact q
   ·have:=g y Ta;omega
  by_cases l:c-1<=y
  ·exact⟨y,l,m,d,fun z _ _ b=>e z b⟩
  ·have a:=Ar h.bs (show y<c-1 by omega)
   exact⟨c-1,Ta,Ta,f,fun z _ _ b=>by have:=e z b;omega⟩
def qte(h:Dc B E std sm){t c:Int}(s:De std t c)(K:fh (c+1)<=t+60*sm):gA B E c (c+2) t↔Ph B E t:=by
 obtain⟨I,J⟩:=s;have A:=h.d1;have C:=h.d2;have k:∀y,c+2<=y->t<B y:=fun y e=>by have:=h.b1 y;have:=cU (c+2) y e;have j:=gS (c+1);rw[show c+1+1=c+2 by omega]at j;omega
 have l:∀y,c+2<=y->t<E y:=fun y e=>by have:=h.e1 y;have:=cU (c+2) y e;have j:=gS (c+1);rw[show c+1+1=c+2 by omega]at j;omega
 have L:=gS c;have u:=gS (c-1);rw[show c-1+1=c by omega]at u
 have g:=h.b2 (c-1);rw[show c-1+1=c by omega]at g
 have i:=h.e2 (c-1);rw[show c-1+1=c by omega]at i
 have w:=h.b1 c;have x:=h.b2 c;have F:=h.e1 c;have G:=h.e2 c;have p:=h.be c;have H:=h.eb c;have r:=h.bs (c-1);rw[show c-1+1=c by omega]at r
 constructor
 ·rintro⟨y,n,o,e,f⟩
  refine⟨y,e,fun z d => ?_⟩
  by_cases z1:c<=z
  ·by_cases v:z<=c+2
   ·exact f z z1 v d
   ·have:=l z Ta;omega
  ·
   have a:E z<=E (c-1):=by
    by_cases q:z=c-1
    ·subst q;omega
    ·have:=Ar h.es (show z<c-1 by omega);omega
   have b:B c<=B y:=by
    by_cases q:y=c
    ·subst q;omega
    ·have:=Ar h.bs (show c<y by omega);omega
   omega
 ·rintro⟨y,e,f⟩
  have o:y<=c+2:=by
   by_cases q:y<=c+2
   ·exact q
   ·have:=k y Ta;omega
  by_cases n:c<=y
  ·exact⟨y,n,o,e,fun z _ _ d=>f z d⟩
  ·have a:B y<=B (c-1):=by
    by_cases q:y=c-1
    ·subst q;omega
    ·have:=Ar h.bs (show y<c-1 by omega);omega
   by_cases q:B c<=t
   ·exact⟨c,Ta,Ta,q,fun z _ _ d=>by have:=f z d;omega⟩
   ·
    have m:E c<=t:=by have:=p Ta;omega
    have:=f c m;omega
def Inv(B E:Int->Int)(t:Int)(S:Int->Prop)(a:Int)(b c:Bool):Prop:=
 (c=false->b=false/\∀y,S y->t<B y/\t<E y) /\
 (c=true->a<=t/\(∀y,S y->B y<=t->B y<=a)/\(∀y,S y->E y<=t->E y<=a) /\
  (b=true->(∃y,S y/\B y=a)/\∀y,S y->E y<=t->E y<a)/\(b=false->∃y,S y/\E y=a))
def Inv.start(t a:Int):Inv B E t (fun _=>False) a false false:=⟨fun _=>⟨rfl,fun _ h=>h.elim⟩,fun h=>by cases h⟩
def Inv.fin{t lo k c:Int}{b a:Bool}(h:Inv B E t (fun y=>lo<=y/\y<=k) c b a):b=true↔gA B E lo k t:=by
 constructor
 ·intro f
  cases a with
  |false=>have:=(h.1 rfl).1;rw[this]at f;cases f
  |true=>
   obtain⟨i,j,n,o,_⟩:=h.2 rfl;obtain⟨⟨y,e,rfl⟩,q⟩:=o f;exact⟨y,e.1,e.2,i,fun z z1 r g=>q z ⟨z1,r⟩ g⟩
 ·rintro⟨y,l,m,e,g⟩
  cases a with
  |false=>have:=(h.1 rfl).2 y ⟨l,m⟩;omega|true=>
   obtain⟨i,j,n,_,p⟩:=h.2 rfl
   cases b with
   |true=>rfl|false=>
    obtain⟨z,d,s⟩:=p rfl;have:=j y ⟨l,m⟩ e;have:=g z d.1 d.2 Ta
    omega
def Inv.next{t k d best1 best2:Int}{S r:Int->Prop}{p c out1 has1 out2 has2:Bool}(h:Inv B E t S d p c)(f:∀y,r y↔S y\/y=k)
  (G:(B k<=t/\(c=false\/d<B k)/\best1=B k/\out1=true/\has1=true)\/(¬(B k<=t/\(c=false\/d<B k))/\best1=d/\out1=p/\has1=c))
  (v:(E k<=t/\(has1=false\/best1<=E k)/\best2=E k/\out2=false/\has2=true)\/(¬(E k<=t/\(has1=false\/best1<=E k))/\best2=best1/\out2=out1/\has2=has1)) :
  Inv B E t r best2 out2 has2:=by
 obtain⟨i,l⟩:=h;have s:r k:=(f k).2 (.inr rfl);have j:∀y,S y->r y:=fun y b=>(f y).2 (.inl b)
 rcases G with⟨g,m,rfl,rfl,rfl⟩|⟨g,rfl,rfl,rfl⟩
 ·rcases v with⟨c1,c2,rfl,rfl,rfl⟩|⟨c1,rfl,rfl,rfl⟩
  ·refine⟨fun h=>(by cases h),fun _=>⟨c1,fun y b a => ?_,fun y b a => ?_,fun h=>(by cases h),fun _=>⟨k,s,rfl⟩⟩⟩
   ·rcases (f y).1 b with q|rfl
    ·cases c with|false=>have:=(i rfl).2 y q;omega|true=>have:=(l rfl).2.1 y q a;simp at m c2;omega
    ·simp at c2;exact c2
   ·rcases (f y).1 b with q|rfl
    ·cases c with|false=>have:=(i rfl).2 y q;omega|true=>have:=(l rfl).2.2.1 y q a;simp at m c2;omega
    ·omega
  ·simp at c1;refine⟨fun h=>(by cases h),fun _=>⟨g,fun y b a => ?_,fun y b a => ?_,fun _=>⟨⟨k,s,rfl⟩,fun y b a => ?_⟩,fun h=>(by cases h)⟩⟩
   ·rcases (f y).1 b with q|rfl
    ·cases c with|false=>have:=(i rfl).2 y q;omega|true=>have:=(l rfl).2.1 y q a;simp at m;omega
    ·omega
   ·rcases (f y).1 b with q|rfl
    ·cases c with|false=>have:=(i rfl).2 y q;omega|true=>have:=(l rfl).2.2.1 y q a;simp at m;omega
    ·have:=c1 a;omega
   ·rcases (f y).1 b with q|rfl
    ·cases c with|false=>have:=(i rfl).2 y q;omega|true=>have:=(l rfl).2.2.1 y q a;simp at m;omega
    ·exact c1 a
 ·rcases v with⟨c1,c2,rfl,rfl,rfl⟩|⟨c1,rfl,rfl,rfl⟩
  ·refine⟨fun h=>(by cases h),fun _=>⟨c1,fun y b a => ?_,fun y b a => ?_,fun h=>(by cases h),fun _=>⟨k,s,rfl⟩⟩⟩
   ·rcases (f y).1 b with q|rfl
    ·cases has1 with|false=>have:=(i rfl).2 y q;omega|true=>have:=(l rfl).2.1 y q a;simp at c2;omega
    ·cases has1 with|false=>exact absurd ⟨a,.inl rfl⟩ g|true=>simp at g c2;have:=g a;omega
   ·rcases (f y).1 b with q|rfl
    ·cases has1 with|false=>have:=(i rfl).2 y q;omega|true=>have:=(l rfl).2.2.1 y q a;simp at c2;omega
    ·omega
  ·cases has2 with
   |false=>
    simp at g c1;obtain⟨o,I⟩:=i rfl;refine⟨fun _=>⟨o,fun y b => ?_⟩,fun h=>(by cases h)⟩
    rcases (f y).1 b with q|rfl
    ·exact I y q
    ·exact⟨g,c1⟩
   |true=>
    simp at g c1;obtain⟨w,x,A,C,F⟩:=l rfl;refine⟨fun h=>(by cases h),fun _=>⟨w,fun y b a => ?_,fun y b a => ?_,fun u => ?_,fun u => ?_⟩⟩
    ·rcases (f y).1 b with q|rfl
     ·exact x y q a
     ·exact g a
    ·rcases (f y).1 b with q|rfl
     ·exact A y q a
     ·have:=c1 a;omega
    ·obtain⟨⟨y,b,e⟩,H⟩:=C u;refine⟨⟨y,j y b,e⟩,fun z J n => ?_⟩
     rcases (f z).1 J with q|rfl
     ·exact H z q n
     ·exact c1 n
    ·obtain⟨y,b,e⟩:=F u;exact⟨y,j y b,e⟩
end
end Go.Sym.Zn
namespace Go.Sym
open Cal Zn
abbrev fe:Type:=Int×Int
abbrev cd:Type:=Int×Int×Int×Int×Int×Int×Int
abbrev px:Type:=Int×Int×Int×Int
abbrev b9:Type:=List UInt8×Int×Int×px×px
@[simp] def dates_within_eq(x a b:Int):tk x a b=some (decide (a<=x/\x<=b)):=by
 unfold tk;by_cases h:a<=x<;>simp[h]
@[simp] def zones_within_eq(x a b:Int):qr x a b=some (decide (a<=x/\x<=b)):=by
 unfold qr;by_cases h:a<=x<;>simp[h]
@[simp] def zr1_in_eq(x a b:Int):cn x a b=some (decide (a<=x/\x<=b)):=by
 unfold cn;by_cases h:a<=x<;>simp[h]
def qom(y:Int)(h:0<=y):Ch y=some (rp y):=by
 unfold Ch rp;rw[Int.tmod_eq_emod_of_nonneg h,Int.tmod_eq_emod_of_nonneg h,Int.tmod_eq_emod_of_nonneg h];cases a:(y%4==0)<;>cases b:(y%100 != 0)<;>simp
def LZ(y:Int)(h:0<=y:=by omega):jT y=some (rp y):=by
 unfold jT rp;rw[Int.tmod_eq_emod_of_nonneg h,Int.tmod_eq_emod_of_nonneg h,Int.tmod_eq_emod_of_nonneg h];cases a:(y%4==0)<;>cases b:(y%100 != 0)<;>simp
 all_goals (simp at a;omega)
def Ev{y:Int}(h:rp y=true):lp y=1:=by unfold lp;rw[qX h]
def Eu{y:Int}(h:rp y=false):lp y=0:=by unfold lp;rw[qW (by rw[h];decide)]
def So(m:Int)(a:1<=m)(b:m<=12):ak ([31,28,31,30,31,30,31,31,30,31,30,31]:List Int) (ae (m-1))=some (cB m):=by
 rw[au]
 rcases Ll m a b with h|h|h|h|h|h|h|h|h|h|h|h<;>subst h<;>rfl
def RM(y m:Int)(f:0<=y)(c:1<=m)(d:m<=12):uO y m=some (d9 y m):=by
 unfold uO;rw[So m c d,qB];by_cases e:m=2
 ·subst e;rw[qom y f];cases a:rp y
  ·simp[d9,cB,Eu a]
  ·simp[d9,cB,Ev a];rfl
 ·have b:(m==2)=false:=by simp[e]
  simp[e,b,d9]
def ER(y m:Int)(f:0<=y)(c:1<=m)(d:m<=12):aI y m=some (d9 y m):=by
 unfold aI;simp only[zq];rw[So m c d];by_cases e:m=2
 ·subst e;rw[LZ y f];cases a:rp y
  ·simp[d9,cB,Eu a]
  ·simp[d9,Ev a]
 ·have b:(m==2)=false:=by simp[e]
  simp[e,b,d9]
def PS(y:Int)(a:1<=y:=by omega)(b:y<=4001:=by omega):uM y=some (dh y):=by
 unfold uM dh;rw[au (x:=y-1) Ta Ta]
 rw[Int.tdiv_eq_ediv_of_nonneg Ta,Int.tdiv_eq_ediv_of_nonneg Ta,Int.tdiv_eq_ediv_of_nonneg Ta]
 simp (discharger:=omega) only [au ?_ ?_]
def qk2(d:Nat)(y m:Int)(g:1<=y)(h:y<=4001)(q:m<=12):∀(n:Nat)(a k:Int),1<=k->k<=m->m-k<n -> -10000000<=a-dr y k->a-dr y k<=10000000 ->
  uN d n y m a k=some (a+dr y m-dr y k):=by
 intro n
 induction n with
 |zero=>intro a k b e f;omega|succ n ih=>
  intro a k b e f i j;rw[uN,H4];by_cases c:k<m
  ·have o:=cA y k b
   have l:=mP y k b
   have p:=mw y k;rw[aq (by simp[c]),RM y k Ta b Ta,qB,au,au,
    ih _ _ Ta Ta Ta Ta Ta]
   congr 1;omega
  ·have:k=m:=Ta
   subst this;rw[am];congr 1;omega
def mT(c:Nat)(k:20<=c)(y m d:Int)(a:1<=y:=by omega)(b:y<=4001:=by omega)(e:1<=m:=by omega)(f:m<=12:=by omega)(h : -1000<=d:=by omega)(i:d<=1000:=by omega):vv c y m d=some (bt y m d):=by
 unfold vv;have j:=yC y a b;have g:=DA y;rw[PS y a b,qB,PS 1970,qB,PR]
 simp (discharger:=omega) only [au ?_ ?_];rw[qk2 c y m a b f c _ 1 Ta e Ta Ta Ta,g]
 unfold bt;congr 1;omega
def q7g(d:Nat):∀(n:Nat)(a k:Int),1<=k->k<=1970->1970-k<n -> -10000000<=a-(1970-k)->a<=10000000 ->
  eQ d n a k=some (a-(dh 1970-dh k-365*(1970-k))):=by
 intro n
 induction n with
 |zero=>intro a k e f g;omega|succ n ih=>
  intro a k e f g h i;rw[eQ,Bm];by_cases c:k<1970
  ·have j:=bX k;rw[aq (by simp[c]),LZ k,qB]
   cases b:rp k
   ·have:=Eu b;rw[am rfl,au,ih _ _ Ta Ta Ta Ta Ta];congr 1;omega
   ·have:=Ev b;rw[aq rfl,au,au,ih _ _ Ta Ta Ta Ta Ta];congr 1;omega
  ·have:k=1970:=Ta
   subst this;rw[am];congr 1;omega
def q7h(b:Nat)(c:1<=b)(a y:Int)(d:1970<=y:=by omega):eQ b b a y=some a:=by
 obtain⟨n,rfl⟩:∃n,b=n+1:=⟨b-1,Ta⟩
 rw[eQ,Bm,am Td]
def q7i(b:Nat)(h:1<=b)(y:Int)(i:y<=4001):∀(n:Nat)(a k:Int),1970<=k->k<=y->y-k<n -> -1000000<=a->a+(4001-k)<=1000000 ->
  kB b n y a k=some (a+(dh y-dh k-365*(y-k))):=by
 intro n
 induction n with
 |zero=>intro a k e f g;omega|succ n ih=>
  intro a k e f g j l;rw[kB,Bl];by_cases c:k<y
  ·have m:=bX k;rw[aq (by simp[c]),LZ k,qB]
   cases d:rp k
   ·have:=Eu d;rw[am rfl,sE,au,ih _ _ Ta Ta Ta Ta Ta];congr 1;omega
   ·have:=Ev d;rw[aq rfl,sE,au,au,ih _ _ Ta Ta Ta Ta Ta];congr 1;omega
  ·have:k=y:=Ta
   subst this;rw[am,q7h b h _ _];congr 1;omega
def Of(a:Nat)(f:5000<=a)(y:Int)(d:1<=y:=by omega)(b:y<=4001:=by omega):kA a y=some (dh y-719162):=by
 unfold kA;simp (discharger:=omega) only [au ?_ ?_];have e:=PR;by_cases c:1970<=y
 ·rw[q7i a Ta y b a _ _ Ta c Ta Ta Ta,e];congr 1;omega
 ·obtain⟨n,rfl⟩:∃n,a=n+1:=⟨a-1,Ta⟩
  rw[kB,Bl,am Td,q7g _ _ _ _ Ta Ta Ta Ta Ta,e];congr 1;omega
def qlh(d:Nat)(y m:Int)(g:1<=y)(h:y<=4001)(q:m<=12):∀(n:Nat)(a k:Int),1<=k->k<=m->m-k<n -> -10000000<=a-dr y k->a-dr y k<=10000000 ->
  qG d n y m a k=some (a+dr y m-dr y k):=by
 intro n
 induction n with
 |zero=>intro a k b e f;omega|succ n ih=>
  intro a k b e f i j;rw[qG,FV];by_cases c:k<m
  ·have o:=cA y k b
   have l:=mP y k b
   have p:=mw y k;rw[aq (by simp[c]),ER y k Ta b Ta,qB,au,au,
    ih _ _ Ta Ta Ta Ta Ta]
   congr 1;omega
  ·have:k=m:=Ta
   subst this;rw[am];congr 1;omega
def yN(c:Nat)(h:5000<=c)(y m d:Int)(a:1<=y:=by omega)(b:y<=4001:=by omega)(e:1<=m:=by omega)(f:m<=12:=by omega)(i : -1000<=d:=by omega)(j:d<=1000:=by omega):aF c y m d=some (bt y m d):=by
 unfold aF;have k:=yC y a b;have g:=DA y;rw[Of c h y a b,qB];simp (discharger:=omega) only [au ?_ ?_];rw[qlh c y m a b f c _ 1 Ta e Ta Ta Ta,g]
 unfold bt;congr 1;omega
def qbq(x b:Int)(c:0<b:=by omega)(g:b<=100000:=by omega)(m : -1000000000000<=x:=by omega)(f:x<=1000000000000:=by omega):uP x b=some (x/b,x%b):=by
 unfold uP;have a:decide (b≠0)=true:=decide_eq_true Ta
 rw[aq a,aq a,aq a];have e:Int.tmod (ae (Int.tmod x b+b)) b=x%b:=by
  have i:=Int.tmod_lt_of_pos x c;have j : -b<Int.tmod x b:=by
   have:=Int.lt_tmod_of_pos x c;omega
  rw[au,Int.tmod_eq_emod_of_nonneg Ta]
  rw[Int.add_emod_right];by_cases h:0<=x
  ·rw[Int.tmod_eq_emod_of_nonneg h,Int.emod_emod]
  ·rw[Int.tmod_def x b,Int.sub_mul_emod_self_left]
 rw[e];have n:=Int.emod_nonneg x (show b≠0 by omega)
 have o:=Int.emod_lt_of_pos x c;have l:=Int.mul_ediv_add_emod x b;have d:x-x%b=b*(x/b):=Ta
 rw[au (x:=x-x%b) Ta Ta,d,Int.mul_tdiv_cancel_left _ Ta]
 have k : -1000000000000<=x/b/\x/b<=1000000000000:=by
  constructor
  ·rw[Int.le_ediv_iff_mul_le c];have : -1000000000000*b <= -1000000000000*1:=Ta
   omega
  ·exact Int.le_trans (Int.ediv_le_ediv c f) (Int.ediv_le_self _ Ta)
 rw[au]
end Go.Sym
namespace Go.Sym
open Cal Zn
def Mz{x k:Int}(h:x<0:=by omega):Int.tdiv x k = -((-x)/k):=by
 have:=Int.neg_tdiv (a := -x) (b:=k);rw[Int.neg_neg]at this;rw[this,Int.tdiv_eq_ediv_of_nonneg Ta]
def M1{x k:Int}(h:x<0):Int.tmod x k = -((-x)%k):=by
 have:=Int.neg_tmod (a := -x) (b:=k);rw[Int.neg_neg]at this;rw[this,Int.tmod_eq_emod_of_nonneg Ta]
def iL{x k:Int}(h:0<=x:=by omega):Int.tdiv x k=x/k:=Int.tdiv_eq_ediv_of_nonneg h
def iN{x k:Int}(h:0<=x:=by omega):Int.tmod x k=x%k:=Int.tmod_eq_emod_of_nonneg h
@[simp] def none_eq:fc=some ⟨0,0⟩:=rfl
@[simp] def fault_eq(a b:Int):bw a b=some ⟨a,b⟩:=rfl
@[simp] def bW(a b:Int):ck a b=some ⟨a,b⟩:=rfl
@[simp] def zfailed_eq(f:fe):fq f=some (f.1 != 0):=rfl
@[simp] def time_eq(t:Int):vu t=some (decide (-68719476736<=t/\t<=68719476736)):=by
 unfold vu;by_cases h : -68719476736<=t<;>simp[h]
noncomputable def wm(n s z:Int):cd:=⟨(jy n).1,(jy n).2.1,(jy n).2.2,s/3600,s/60%60,s%60,z⟩
def q7e{n y m d k:Int}(h:fv y m d)(e:bt y m d=n):bt k 1 1<=n↔k<=y:=by
 have a:=qy y m d h;have:bt k 1 1=dh k-719162:=by unfold bt;rw[DA];omega
 rw[this];constructor
 ·intro b;by_cases c:k<=y
  ·exact c
  ·have:=ox (y+1) k;omega
 ·intro b;have:=ox k y b;omega
def qo9{n y m d k:Int}(h:fv y m d)(e:bt y m d=n)(f:1<=k)(g:k<=12):bt y k 1<=n↔k<=m:=by
 have a:=DH y m d h;have:bt y k 1=dh y-719162+dr y k:=by unfold bt;omega
 rw[this];constructor
 ·intro b;by_cases c:k<=m
  ·exact c
  ·have:=mQ y (m+1) k (by have:=h.2.2.1;omega);omega
 ·intro b;have:=mQ y k m f b (by have:=h.2.2.2.1;omega);omega
def qkh(f:Nat)(v:20<=f){N y m d:Int}(s z:Int)(x:cd)(A:fe)(h:fv y m d)(e:bt y m d=N)(E:0<=s)(w:s<86400):∀(n:Nat)(k:Int),m<=k->k<=12->k-m<n ->
  uL f n z N s y k x A=some ((y,m,d,s/3600,s/60%60,s%60,z),(0,0)):=by
 obtain⟨a,l,i,o,p,q⟩:=h;have C:=mw y m;have B:=dN y m d ⟨a,l,i,o,p,q⟩;intro n
 induction n with
 |zero=>intro k t g u;omega|succ n ih=>
  intro k t g u;rw[uL,H2,mT f v y k 1 a Ta Ta g,qB]
  have j:=qo9 (k:=k) ⟨a,l,i,o,p,q⟩ e Ta g
  by_cases c:k<=m
  ·have:k=m:=Ta
   subst this;have:=DI y k d;have b:=day_bd y k 1 a Ta i Ta Ta Ta
   rw[am (by simp;exact j.2 c),none_eq]
   simp only[qB];simp (discharger:=omega) only [au ?_ ?_,iL ?_,iN ?_];have r:N-bt y k 1+1=d:=Ta
   rw[r]
  ·rw[aq (by simp;have:=mt j.1 c;omega),au,ih _ Ta Ta Ta]
def qki(b:Nat)(l:20<=b){N y m d:Int}(s z:Int)(p:cd)(r:fe)(h:fv y m d)(e:bt y m d=N)(E:0<=s)(i:s<86400):∀(j n:Nat)(k:Int),j<=12->1<=k->k<=y->y<k+2 ^ j->j<n ->
  lA b n z N s k ((2 ^ j/2:Nat):Int) p r=some ((y,m,d,s/3600,s/60%60,s%60,z),(0,0)):=by
 have x:=h;obtain⟨I,J,K,F,L,M⟩:=x;intro j
 induction j with
 |zero=>
  intro n k C A f g B;obtain⟨n,rfl⟩:∃q,n=q+1:=⟨n-1,Ta⟩
  have:k=y:=by simp at g;omega
  subst this;rw[lA,Cd,am,qkh b l s z p r h e E i b 12 F Ta Ta]
 |succ j ih=>
  intro n k C A f g B;obtain⟨n,rfl⟩:∃q,n=q+1:=⟨n-1,Ta⟩
  have t:(2 ^ (j+1)/2:Nat)=2 ^ j:=by rw[Nat.pow_succ];omega
  have u:(2:Int) ^ (j+1)=2*((2 ^ j:Nat):Int):=by rw[Int.pow_succ];simp;omega
  rw[u]at g;have v:((2:Int) ^ j)=((2 ^ j:Nat):Int):=Te
  have a:=ih n;rw[v]at a;have G:0<2 ^ j:=Nat.pow_pos Ta
  have H:2 ^ j<=2 ^ 11:=Nat.pow_le_pow_right Ta Ta
  have w:((2 ^ j/2:Nat):Int)=((2 ^ j:Nat):Int)/2:=Ta
  rw[t];rw[w]at a;generalize 2 ^ j=P at *;rw[lA,Cd,aq Td]
  simp only[Cf,Cg];simp (discharger:=omega) only [au ?_ ?_,iL ?_];by_cases c:k+(P:Int)<=4000
  ·rw[aq (by simp;exact c),mT b l _ 1 1,qB]
   have o:=q7e (k:=k+(P:Int)) h e;by_cases c2:k+(P:Int)<=y
   ·rw[aq (by simp;exact o.2 c2)]
    exact a _ Ta Ta c2 Ta Ta
   ·rw[am (by simp;have:=mt o.1 c2;omega)]
    exact a _ Ta Ta f Ta Ta
  ·rw[am Td]
   exact a _ Ta Ta f Ta Ta
noncomputable def AP(t z:Int):cd×fe:=
 if ¬(-68719476736<=t/\t<=68719476736) then(⟨0,0,0,0,0,0,0⟩,⟨3,-2⟩) else
 if ¬(-900<=z/\z<=900) then(⟨0,0,0,0,0,0,0⟩,⟨3,-4⟩) else
 if(t+60*z)/86400 < -719162\/741807<(t+60*z)/86400 then(⟨0,0,0,0,0,0,0⟩,⟨3,-3⟩) else
 (wm ((t+60*z)/86400) ((t+60*z)%86400) z,⟨0,0⟩)
def Qu(a:Nat)(b:20<=a)(t z:Int):kZ a t z=some (AP t z):=by
 unfold kZ AP;rw[time_eq,qB];by_cases c1 : -68719476736<=t/\t<=68719476736
 ·rw[am Tw,qW Tw,dates_within_eq,qB]
  by_cases c2 : -900<=z/\z<=900
  ·rw[am (by simp[c2]),qW (by simp[c2])]
   simp (discharger:=omega) only [au ?_ ?_];rw[qbq _ _,qB,mT a b 1 1 1,qB,QB]
   generalize f:(t+60*z)/86400=N;generalize g:(t+60*z)%86400=S;by_cases c3:N < -719162
   ·rw[aq (by simp;exact c3),qX (.inl c3)];rfl
   ·rw[am Td,mT a b 4000 12 31,qB,QA]
    unfold Ce H3;by_cases d:741807<N
    ·rw[aq (by simp;exact d),qX (.inr d)];rfl
    ·rw[am Td,qW]
     obtain⟨c,e⟩:=gL N
     have:=qki a b S z (0,0,0,0,0,0,0) (0,0) c e Ta Ta 12 a 1 Ta Ta c.1 (by have:=c.2.1;omega) Ta
     exact this
  ·rw[aq Td,qX c2];rfl
 ·rw[aq Td,qX c1];rfl
def qlj(i:Nat){N y m d:Int}(s z:Int)(q:cd)(h:fv y m d)(e:bt y m d=N)(x:0<=s)(p:s<86400):∀(n:Nat)(k:Int),1<=k->k<=m->m-k<n ->
  qD i n z s (N+719162-dh y-dr y k) y k q=some ((y,m,d,s/3600,s/60%60,s%60,z),true):=by
 have a:=DH y m d h;have t:=dN y m d h;obtain⟨r,A,B,C,E,F⟩:=h;have u:=yC y r
 rw[e]at a;intro n
 induction n with
 |zero=>intro k b j l;omega|succ n ih=>
  intro k b j l;have v:=cA y k b
  have w:=mw y k;have o:=mP y k b
  rw[qD,FT,ER y k Ta b Ta,qB]
  by_cases c:k<m
  ·have:=mQ y (k+1) m
   rw[aq Td,qB,au,au]
   have g:N+719162-dh y-dr y k-d9 y k=N+719162-dh y-dr y (k+1):=Ta
   rw[g,ih _ Ta Ta Ta]
  ·have:k=m:=Ta
   subst this;rw[am Td]
   simp (discharger:=omega) only [au ?_ ?_,iL ?_,iN ?_];have f:N+719162-dh y-dr y k+1=d:=by unfold bt at e;omega
   rw[f]
def Km(b:Nat)(g:5000<=b){N y m d:Int}(s z:Int)(j:cd)(h:fv y m d)(e:bt y m d=N)(r:0<=s)(f:s<86400):∀(n:Nat)(k:Int),1<=k->k<=y->y-k<n ->
  jM b n z s N k j=some ((y,m,d,s/3600,s/60%60,s%60,z),true):=by
 have a:=qy y m d h;have u:=dN y m d h;have i:=qlj b s z j h e r f b 1 Ta h.2.2.1 (by have:=h.2.2.2.1;omega)
 obtain⟨t,w,x,A,B,C⟩:=h;have v:=yC y t
 rw[e]at a;rw[DA]at i;intro n
 induction n with
 |zero=>intro k o p q;omega|succ n ih=>
  intro k o p q;rw[jM,Zb,au,Of b g _,qB]
  by_cases c:k<y
  ·have:=ox (k+1) y
   rw[aq Td,ih _ Ta Ta Ta]
  ·have:k=y:=Ta
   subst this;rw[am Td,Of b g _,qB,au]
   have l:N-(dh k-719162)=N+719162-dh k-0:=Ta
   rw[l,i]
noncomputable def FN(t z:Int):cd×Bool:=
 if(t+60*z)/86400 < -719162\/741807<(t+60*z)/86400 then(⟨0,0,0,0,0,0,0⟩,false) else
 (wm ((t+60*z)/86400) ((t+60*z)%86400) z,true)
def qmw{N y m d:Int}(h:fv y m d)(e:bt y m d=N)(b:N<0):1970 + -(-N/365)-2<=y:=by
 have a:=qy y m d h;rw[e]at a;by_cases c:1970 + -(-N/365)-2<=y
 ·exact c
 ·have:=ox (y+1) (1970 + -(-N/365)-2)
  unfold dh at *;omega
def qi3(k:Nat):dh (1970+k)<=719162+366*k:=by
 induction k with
 |zero=>decide|succ k ih=>
  have a:=bX (1970+k);have b:=nU (1970+k);rw[show(1970:Int)+((k+1:Nat):Int)=1970+k+1 by omega];omega
def qmx{N y m d:Int}(h:fv y m d)(e:bt y m d=N)(b:0<=N):1970+N/366<=y:=by
 have a:=qy y m d h;rw[e]at a;by_cases c:1970+N/366<=y
 ·exact c
 ·have:=ox (y+1) (1970+N/366)
  have g:=qi3 (N/366).toNat;rw[Int.toNat_of_nonneg Ta]at g
  omega
def qlk(a:Nat)(k:5000<=a)(N s z:Int)(f:cd)(l:0<=s)(b:s<86400)(i : -719162<=N)(j:N<=741807) :
  AZ a z s N f=some (wm N s z,true):=by
 obtain⟨d,e⟩:=gL N i j;have m:=d.2.1;unfold AZ Ba;by_cases h:N<0
 ·have g:=qmw d e h;rw[aq (by simp;exact h),Mz h]
  simp (discharger:=omega) only [au ?_ ?_];by_cases c:1970 + -(-N/365)-2<1
  ·rw[aq (by simp;exact c),Km a k s z f d e l b a 1 Ta d.1 Ta];rfl
  ·rw[am Td,Km a k s z f d e l b a _ Ta g Ta];rfl
 ·have g:=qmx d e Ta
  rw[am Td,iL]
  simp (discharger:=omega) only [au ?_ ?_];rw[am Td,Km a k s z f d e l b a _ Ta g Ta];rfl
def QI(a:Nat)(b:5000<=a)(x s z:Int)(d:cd)(f : -100000000000<=x)(g:x<=100000000000)(e:x%86400=s)(h:ae (Int.tdiv (ae (x-s)) 86400)=x/86400) :
  qC a z x s d=some (if x/86400 < -719162\/741807<x/86400 then((0,0,0,0,0,0,0),false) else(wm (x/86400) s z,true)):=by
 unfold qC AY;rw[h,yN a b 1 1 1,qB,QB]
 have i:=qlk a b (x/86400) s z d Ta Ta
 generalize x/86400=N at *;by_cases c3:N < -719162
 ·rw[aq (by simp;exact c3),qX (.inl c3)];rfl
 ·rw[am Td,yN a b 4000 12 31,qB,QA]
  by_cases c:741807<N
  ·rw[aq (by simp;exact c),qX (.inr c)]
  ·rw[am Td,qW,i Ta Ta]
def qk0(d:Nat)(e:5000<=d)(t z:Int)(h : -68719476736<=t:=by omega)(i:t<=68719476736:=by omega)(z1 : -900<=z:=by omega)(j:z<=900:=by omega):jL d t z=some (FN t z):=by
 unfold jL FN;simp (discharger:=omega) only [au (x:=60*z) ?_,au (x:=t+60*z) ?_];generalize g:t+60*z=x;have a : -100000000000<=x:=Ta
 have b:x<=100000000000:=Ta
 clear g;by_cases c:x<0/\x%86400≠0
 ·rw[M1 c.1,aq Td,au,show -(-x%86400)+86400=x%86400 by omega,QI d e x _ z _ a b rfl (by
   rw[au (x:=x-x%86400) Ta Ta,Mz,au];omega)]
 ·have f:Int.tmod x 86400=x%86400:=by
   by_cases c0:x<0
   ·rw[M1 c0];omega
   ·exact iN
  rw[f,am Td,QI d e x _ z _ a b rfl (by
   by_cases c0:x<0
   ·rw[au (x:=x-x%86400) Ta Ta,Mz,au];omega
   ·rw[au (x:=x-x%86400) Ta Ta,iL,au];omega)]
def du(d:cd):Prop:=fv d.1 d.2.1 d.2.2.1/\0<=d.2.2.2.1/\d.2.2.2.1<=23/\0<=d.2.2.2.2.1/\d.2.2.2.2.1<=59/\0<=d.2.2.2.2.2.1/\d.2.2.2.2.2.1<=59 /\ -900<=d.2.2.2.2.2.2/\d.2.2.2.2.2.2<=900
instance(d:cd):Decidable (du d):=by unfold du;infer_instance
def Ku(d:cd):lB d=some (if du d then⟨0,0⟩ else⟨3,-3⟩):=by
 unfold lB;simp only[dates_within_eq,qB,fault_eq,none_eq,ir,jw];have a:∀(f:fe),(if du d then(⟨0,0⟩:fe) else⟨3,-3⟩)=f->(du d->f=⟨0,0⟩)/\(¬du d->f=⟨3,-3⟩):=fun f h=>⟨fun k=>by rw[← h,qX k],fun k=>by rw[← h,qW k]⟩
 generalize c:(if du d then(⟨0,0⟩:fe) else⟨3,-3⟩)=f
 obtain⟨g,b⟩:=a f c;clear a c;unfold du fv at g b;by_cases c1:1<=d.1/\d.1<=4000
 ·rw[qX c1];by_cases c2:1<=d.2.1/\d.2.1<=12
  ·have e:(if(12:Int)<(if(1:Int)>d.2.1 then 1 else d.2.1) then 12 else if(1:Int)>d.2.1 then 1 else d.2.1)=d.2.1:=by
    rw[qW (show ¬((1:Int)>d.2.1) by omega),qW]
   rw[qX c2,e,RM _ _ Ta c2.1 c2.2,qB]
   clear e
   repeat' split
   all_goals first|(rw[g Ta])|(rw[b Ta])
  ·rw[qW c2,b Ta]
 ·rw[qW c1,b Ta]
def qlc(d:cd):AX d=some (if du d then⟨0,0⟩ else⟨3,-3⟩):=by
 unfold AX;simp only[zr1_in_eq,qB,bW,jw];have a:∀(f:fe),(if du d then(⟨0,0⟩:fe) else⟨3,-3⟩)=f->(du d->f=⟨0,0⟩)/\(¬du d->f=⟨3,-3⟩):=fun f h=>⟨fun k=>by rw[← h,qX k],fun k=>by rw[← h,qW k]⟩
 generalize c:(if du d then(⟨0,0⟩:fe) else⟨3,-3⟩)=f
 obtain⟨e,b⟩:=a f c;clear a c;unfold du fv at e b;by_cases c1:1<=d.1/\d.1<=4000
 ·rw[qX c1];by_cases c2:1<=d.2.1/\d.2.1<=12
  ·rw[qX c2,ER _ _ Ta c2.1 c2.2,qB]
   repeat' split
   all_goals first|(rw[e Ta])|(rw[b Ta])
  ·rw[qW c2,b Ta]
 ·rw[qW c1,b Ta]
def cy(d:cd):Int:=bt d.1 d.2.1 d.2.2.1*86400+d.2.2.2.1*3600+(d.2.2.2.2.1-d.2.2.2.2.2.2)*60+d.2.2.2.2.2.1
def DG{d:cd}(h:du d) : -719162<=bt d.1 d.2.1 d.2.2.1/\bt d.1 d.2.1 d.2.2.1<=741807:=dN _ _ _ h.1
def M9(a:Nat)(b:20<=a)(d:cd)(h:du d):lC a d=some (jc (bt d.1 d.2.1 d.2.2.1),⟨0,0⟩):=by
 unfold lC;have g:=DG h;have i:=mw d.1 d.2.1;obtain⟨⟨c,j,e,f,k,l⟩,_⟩:=id h;rw[Ku,qX h,qB,zfailed_eq,qB,am,mT a b _ _ _ c Ta e f,qB,au,
  qbq _ _]
 rfl
def KM(a:Nat)(b:20<=a)(d:cd):fM a d=some (if du d then(cy d,⟨0,0⟩) else(0,⟨3,-3⟩)):=by
 unfold fM;rw[Ku,qB,zfailed_eq,qB];by_cases h:du d
 ·have m:=DG h;have n:=mw d.1 d.2.1;obtain⟨⟨c,o,k,l,p,q⟩,r,s,t,e,f,g,i,j⟩:=id h;rw[qX h,qX h,am,mT a b _ _ _ c Ta k l,qB,none_eq,qB]
  simp (discharger:=omega) only [au ?_ ?_];rfl
 ·rw[qW h,qW h];rfl
def qa7(a:Nat)(b:5000<=a)(d:cd)(h:du d):rT a d=some (cy d):=by
 unfold rT;have m:=DG h;have n:=mw d.1 d.2.1;obtain⟨⟨c,o,k,l,p,q⟩,r,s,t,e,f,g,i,j⟩:=id h;rw[yN a b _ _ _ c Ta k l,qB]
 simp (discharger:=omega) only [au ?_ ?_];unfold cy;congr 1;omega
def qa6(a:Nat)(b:5000<=a)(y m d:Int)(h:fv y m d):sB a y m d=some (jc (bt y m d)):=by
 unfold sB;have i:=dN _ _ _ h;have j:=mw y m;obtain⟨e,k,f,g,l,n⟩:=id h;rw[yN a b _ _ _ e Ta f g,qB,au]
 generalize bt y m d=N at *;unfold jc;by_cases c:N+4<0
 ·rw[M1 c];by_cases c2 : -(N+4)%7=0
  ·rw[am Td];congr 1;omega
  ·rw[aq Td,au];congr 1;omega
 ·rw[iN,am Td]
def jk(u:px):Prop:=lT u.1 u.2.1 u.2.2.1 u.2.2.2
instance(u:px):Decidable (jk u):=by unfold jk;infer_instance
def rz(u:px)(y ah:Int):Int:=oE y u.1 u.2.1 u.2.2.1 u.2.2.2 ah
def yP{y m d:Int}(h:fv y m d):du ⟨y,m,d,0,0,0,0⟩:=by refine⟨h,?_,?_,?_,?_,?_,?_,?_,?_⟩<;>simp
def qll{y m d:Int}:du ⟨y,m,d,0,0,0,0⟩↔fv y m d:=⟨fun h=>h.1,yP⟩
def Rz(y m d:Int):cy ⟨y,m,d,0,0,0,0⟩=bt y m d*86400:=by simp[cy]
def KK(b:Nat)(c:20<=b){y m d:Int}(h:fv y m d)(a ah:Int)(e : -10000<=a)(f:a<=10000)(g : -10000<=ah)(i:ah<=10000) :
  ((fM b ⟨y,m,d,0,0,0,0⟩).bind fun x=>some (ae (x.1+(ae (60*(ae (a-ah)))))))=some (bt y m d*86400+60*(a-ah)):=by
 have j:=dN _ _ _ h;rw[KM b c,qX (yP h),qB,Rz];simp (discharger:=omega) only [au ?_ ?_]
def qgh(f:Nat)(k:20<=f)(u:px)(o:jk u)(y ah:Int)(b:1<=y)(d:y<=4000)(l : -10000<=ah:=by omega)(m:ah<=10000:=by omega) :
  wR f u y ah=some (rz u y ah):=by
 obtain⟨i,j,q,r,z,A,B,C⟩:=o;have s:=mw y u.1;have a:=xi y u.1 u.2.1 u.2.2.1 q r;have v:=oG y u.1 u.2.2.1;unfold wR;have n:fv y u.1 1:=⟨b,d,i,j,Ta,Ta⟩
 rw[M9 f k _ (yP n),qB];have t:=Fw (bt y u.1 1);have e:(ae ((ae (1+(Int.tmod (ae ((ae (u.2.2.1-jc (bt y u.1 1)))+7)) (7:Int))))+(ae (7*(ae (u.2.1-1))))))=1+gx y u.1 u.2.2.1+7*(u.2.1-1):=by
  unfold gx;generalize jc (bt y u.1 1)=w at *;rw[au (x:=u.2.2.1-w) Ta Ta,au (x:=u.2.2.1-w+7) Ta Ta,iN]
  simp (discharger:=omega) only [au ?_ ?_]
 simp only[e];unfold CR;unfold rz oE;by_cases c:u.2.1=5
 ·rw[aq (by simp[c]),Ku,qB,zfailed_eq,qB]
  by_cases c2:d9 y u.1<29+gx y u.1 u.2.2.1
  ·have g:fa y u.1 u.2.1 u.2.2.1=22+gx y u.1 u.2.2.1:=by unfold fa;rw[qX ⟨c,c2⟩]
   rw[qW (by rw[qll];intro p;have:=p.2.2.2.2.2;omega),aq]
   unfold CS;rw[au (x:=1+gx y u.1 u.2.2.1+7*(u.2.1-1)-7) Ta Ta,
    show 1+gx y u.1 u.2.2.1+7*(u.2.1-1)-7=22+gx y u.1 u.2.2.1 by omega,← g]
   exact KK f k ⟨b,d,i,j,a.1,a.2⟩ _ _ Ta Ta l m
  ·have g:fa y u.1 u.2.1 u.2.2.1=1+gx y u.1 u.2.2.1+7*(u.2.1-1):=by unfold fa;rw[qW (fun h=>c2 h.2)]
   rw[← g];rw[qX (yP ⟨b,d,i,j,a.1,a.2⟩),am]
   exact KK f k ⟨b,d,i,j,a.1,a.2⟩ _ _ Ta Ta l m
 ·have g:fa y u.1 u.2.1 u.2.2.1=1+gx y u.1 u.2.2.1+7*(u.2.1-1):=by unfold fa;rw[qW (fun h=>c h.1)]
  rw[am (by simp[c]),← g]
  exact KK f k ⟨b,d,i,j,a.1,a.2⟩ _ _ Ta Ta l m
def qt1(e:Nat)(u:px)(m:jk u)(y:Int)(o:1<=y)(p:y<=4000):∀(n:Nat)(c k:Int),1<=k->k<=d9 y u.1+1->d9 y u.1+1-k<n->0<=c->c<u.2.1 ->
  k-1<=7*c+gx y u.1 u.2.2.1->(c=0\/7*(c-1)+gx y u.1 u.2.2.1<k-1) ->
  tE e n y c (if c=0 then 0 else 1+gx y u.1 u.2.2.1+7*(c-1)) (jc (bt y u.1 1)) k u=some (fa y u.1 u.2.1 u.2.2.1):=by
 obtain⟨r,s,t,v,H,I,J,K⟩:=m;have E:=mw y u.1;have l:=xi y u.1 u.2.1 u.2.2.1 t v;have G:=oG y u.1 u.2.2.1;have F:=Fw (bt y u.1 1);have w:gx y u.1 u.2.2.1=(u.2.2.1-jc (bt y u.1 1)+7)%7:=rfl;have d:fa y u.1 u.2.1 u.2.2.1=if u.2.1=5/\d9 y u.1<29+gx y u.1 u.2.2.1 then 22+gx y u.1 u.2.2.1 else 1+gx y u.1 u.2.2.1+7*(u.2.1-1):=rfl
 generalize fa y u.1 u.2.1 u.2.2.1=T at *;generalize gx y u.1 u.2.2.1=X at *;generalize C:jc (bt y u.1 1)=W at *;intro n
 induction n with
 |zero=>intro c k f h i;omega|succ n ih=>
  intro c k f h i x z A B;rw[tE,GW,ER _ _ Ta r s,qB]
  by_cases q:k<=d9 y u.1
  ·rw[aq (by simp;exact q)]
   simp (discharger:=omega) only [au ?_ ?_];rw[iN]
   by_cases g:k-1=7*c+X
   ·rw[am Td]
    by_cases b:c+1=u.2.1
    ·rw[aq (by simp;exact b)]
     congr 1;rw[d,qW];omega
    ·rw[am (by simp;exact b)]
     have:=ih (c+1) (k+1) Ta Ta Ta Ta Ta Ta Ta
     rw[qW,show 1+X+7*(c+1-1)=k by omega]at this
     exact this
   ·rw[aq Td]
    exact ih c (k+1) Ta Ta Ta Ta Ta Ta Ta
  ·rw[am Td]
   have j:c≠0:=Ta
   rw[qW j];congr 1;have a:c=4:=Ta
   subst a;rw[d,qX];omega
def qt0(a:Nat)(e:5000<=a)(u:px)(d:jk u)(y:Int)(b:1<=y)(c:y<=4000):BA a u y=some (fa y u.1 u.2.1 u.2.2.1):=by
 unfold BA;have f:=mw y u.1;have g:=oG y u.1 u.2.2.1;rw[qa6 a e y _ _ ⟨b,c,d.1,d.2.1,Ta,Ta⟩,qB]
 have:=qt1 a u d y b c a 0 1 Ta Ta Ta Ta (by have:=d.2.2.1;omega) Ta (.inl rfl)
 rw[qX rfl]at this;exact this
def qcm(d:Nat)(e:5000<=d)(u:px)(f:jk u)(y ah:Int)(b:1<=y)(c:y<=4000)(l : -10000<=ah:=by omega)(m:ah<=10000:=by omega) :
  tF d u y ah=some (rz u y ah):=by
 unfold tF;obtain⟨h,i,j,k,o,p,q,r⟩:=id f;have a:=xi y u.1 u.2.1 u.2.2.1 j k;have g:fv y u.1 (fa y u.1 u.2.1 u.2.2.1):=⟨b,c,h,i,a.1,a.2⟩;have n:=dN _ _ _ g;rw[qt0 d e u f y b c,qB,qa7 d e _ (yP g),qB,Rz];simp (discharger:=omega) only [au ?_ ?_];rfl
def gg(z:b9):Prop:=z.2.2.2.1.1=0/\z.2.2.2.1.2.1=0/\z.2.2.2.1.2.2.1=0/\z.2.2.2.1.2.2.2=0
instance(z:b9):Decidable (gg z):=by unfold gg;infer_instance
@[simp] def fixed_eq(z:b9):lO z=some (decide (gg z)):=by
 unfold lO;congr 1;rw[Bool.eq_iff_iff,decide_eq_true_iff];simp[gg]
structure ZT(z:b9):Prop where
 s1 : -900<=z.2.1
 s2:z.2.1<=900
 m1 : -900<=z.2.2.1
 m2:z.2.2.1<=900
 d1:z.2.1+1<=z.2.2.1
 d2:z.2.2.1<=z.2.1+180
 b:jk z.2.2.2.1
 e:jk z.2.2.2.2
 ne:z.2.2.2.1.1≠z.2.2.2.2.1
def Bz(z:b9)(y:Int):Int:=rz z.2.2.2.1 y z.2.1
def Ez(z:b9)(y:Int):Int:=rz z.2.2.2.2 y z.2.2.1
def ZT.turns{z:b9}(h:ZT z):Dc (Bz z) (Ez z) z.2.1 z.2.2.1:=qt2 h.d1 h.d2 h.b h.e h.ne
def sel(z:b9)(o:Bool):Int:=bif o then z.2.2.1 else z.2.1
def L4(r0:Int->Int->Int->Int->Bool->Int->b9->Option Int)(v:Nat)(C:20<=v)(z:b9)(h:ZT z)(t Y a k:Int)(o d:Bool)(S w:Int->Prop)
  (s:1<=k) (u:k<=4000) (M:k<=Y+1) (N:Y<=4000) (K:Zn.Inv (Bz z) (Ez z) t S a o d) (L:∀y,w y↔S y\/y=k) :
  ∃b i e,Zn.Inv (Bz z) (Ez z) t w b i e/\wW v r0 t Y a (sel z o) d k z=r0 t Y b (sel z i) e (k+1) z:=by
 have R:=h.s1;have T:=h.s2;have P:=h.m1;have Q:=h.m2;unfold wW;rw[au (x:=Y+1) Ta Ta,aq (by simp;exact M)]
 rw[qgh v C _ h.b k _ s u,qB]
 unfold wX CT;rw[qgh v C _ h.e k _ s u]
 simp only[qB];rw[au (x:=k+1) Ta Ta]
 have A:=fun g G j f O J=>Zn.Inv.next (best1:=g) (best2:=G) (out1:=j) (has1:=f) (out2:=O) (has2:=J) K L
 have H:rz z.2.2.2.1 k z.2.1=Bz z k:=rfl;have I:rz z.2.2.2.2 k z.2.2.1=Ez z k:=rfl;rw[H,I];generalize Bz z k=B at *;generalize Ez z k=E at *;have V:z.2.2.1=sel z true:=rfl;have U:z.2.1=sel z false:=rfl;have l:∀g j f,((B<=t/\(d=false\/a<B)/\g=B/\j=true/\f=true)\/(¬(B<=t/\(d=false\/a<B))/\g=a/\j=o/\f=d)) ->
   ∃b i e,Zn.Inv (Bz z) (Ez z) t w b i e /\
    (bif decide (E<=t) then bif !f then r0 t Y E z.2.1 true (k+1) z else bif decide (g<=E) then r0 t Y E z.2.1 true (k+1) z else r0 t Y g (sel z j) f (k+1) z else r0 t Y g (sel z j) f (k+1) z)=r0 t Y b (sel z i) e (k+1) z:=by
  intro g j f F;by_cases c:E<=t/\(f=false\/g<=E)
  ·refine⟨E,false,true,A g E j f false true F (.inl ⟨c.1,c.2,rfl,rfl,rfl⟩),?_⟩;rw[aq (by simp;exact c.1)]
   cases f with|false=>rw[aq];rfl|true=>rw[am,aq (by simp;exact c.2.resolve_left Te)];rfl
  ·refine⟨g,j,f,A g g j f j f F (.inr ⟨c,rfl,rfl,rfl⟩),?_⟩;by_cases c1:E<=t
   ·rw[aq (by simp;exact c1)]
    cases f with|false=>exact absurd ⟨c1,.inl rfl⟩ c|true=>rw[am,am (by simp;have:¬g<=E:=fun q=>c ⟨c1,.inr q⟩;omega)]
   ·rw[am Td]
 clear A;by_cases c1:B<=t
 ·by_cases c2:d=false\/a<B
  ·obtain⟨m,i,n,r,p⟩:=l B true true (.inl ⟨c1,c2,rfl,rfl,rfl⟩);refine⟨m,i,n,r,?_⟩;rw[← p,aq (by simp;exact c1)]
   cases d with
   |false=>rfl|true=>
    simp at c2;rw[am,aq (by simp;exact c2)];rfl
  ·obtain⟨m,i,n,r,p⟩:=l a o d (.inr ⟨fun q=>c2 q.2,rfl,rfl,rfl⟩)
   refine⟨m,i,n,r,?_⟩;rw[← p,aq (by simp;exact c1)]
   cases d with
   |false=>simp at c2|true=>
    simp at c2;rw[am,am (by simp;exact c2)]
 ·obtain⟨m,i,n,r,p⟩:=l a o d (.inr ⟨fun q=>c1 q.1,rfl,rfl,rfl⟩)
  refine⟨m,i,n,r,?_⟩;rw[← p,am Td];rfl
open Classical in
noncomputable def w6(z:b9)(lo a t:Int):Int:=if gA (Bz z) (Ez z) lo a t then z.2.2.1 else z.2.1
def qa9{z:b9}{lo c t a:Int}{o b:Bool}(h:Zn.Inv (Bz z) (Ez z) t (fun y=>lo<=y/\y<=c) a o b):sel z o=w6 z lo c t:=by
 have:=h.fin;unfold sel w6
 cases o with|true=>rw[qX (this.1 rfl)];rfl|false=>rw[qW (fun q=>by have:=this.2 q;cases this)];rfl
def q7t(a:Nat)(b:20<=a)(z:b9)(h:ZT z)(t Y:Int)(w:2<=Y)(A:Y<=3999):lP a z t Y=some (w6 z (Y-1) (Y+1) t):=by
 unfold lP;have d:¬gg z:=fun q=>by have:=h.b.1;have:=q.1;omega
 rw[fixed_eq,qB,am (by simp[d]),au]
 obtain⟨n,rfl⟩:∃n,a=n+1+1+1+1:=⟨a-4,Ta⟩
 generalize c:n+1+1+1+1=a at b;have q:tp a (n+1+1+1+1) t Y 0 z.2.1 false (Y-1) z=some (w6 z (Y-1) (Y+1) t):=by
  obtain⟨g,r,e,m,j⟩:=L4 (tp a (n+1+1+1)) a b z h t Y 0 (Y-1) false false _ (fun y=>y=Y-1) Ta Ta Ta Ta (Zn.Inv.start t 0) (fun y=>Te)
  rw[tp];refine Eq.trans j ?_;obtain⟨i,s,f,o,k⟩:=L4 (tp a (n+1+1)) a b z h t Y g (Y-1+1) r e _ (fun y=>Y-1<=y/\y<=Y) Ta Ta Ta Ta m (fun y=>Ta)
  rw[tp];refine Eq.trans k ?_;obtain⟨v,B,u,p,l⟩:=L4 (tp a (n+1)) a b z h t Y i (Y-1+1+1) s f _ (fun y=>Y-1<=y/\y<=Y+1) Ta Ta Ta Ta o (fun y=>Ta)
  rw[tp];refine Eq.trans l ?_;rw[tp,wW,au (x:=Y+1) Ta Ta,am Td,qa9 p]
 rw[c]at q;exact q
def qcg{u:px}(d:jk u){y ah:Int}(b:1<=y)(c:y<=4000)(i : -10000<=ah)(j:ah<=10000) : -100000000000<=rz u y ah/\rz u y ah<=100000000000:=by
 obtain⟨e,f,g,h,l,m,n,o⟩:=id d;have a:=xi y u.1 u.2.1 u.2.2.1 g h;have k:=dN y u.1 (fa y u.1 u.2.1 u.2.2.1) ⟨b,c,e,f,a.1,a.2⟩;unfold rz oE;omega
def CX(a:Int)(b:Bool):Prop:=(b=false->a = -1152921504606846976)/\(b=true -> -1000000000000<=a)
def Lq(r0:Int->Int->Int->Int->Int->b9->Option Int)(p:Nat)(K:5000<=p)(z:b9)(h:ZT z)(t Y a k:Int)(o d:Bool)(S u:Int->Prop)
  (j:1<=k) (l:k<=4000) (V:Y-1<=k) (W:1<=Y) (X:Y<=4000) (T:Zn.Inv (Bz z) (Ez z) t S a o d) (I:CX a d) (U:∀y,u y↔S y\/y=k) :
  ∃b m f,Zn.Inv (Bz z) (Ez z) t u b m f/\CX b f/\sZ p r0 t Y (sel z o) a k z=r0 t Y (sel z m) b (k-1) z:=by
 have s1:=h.s1;have s2:=h.s2;have m1:=h.m1;have m2:=h.m2;unfold sZ;rw[au (x:=Y-1) Ta Ta,aq (by simp;exact V)]
 rw[qcm p K _ h.b k _ j l,qcm p K _ h.e k _ j l]
 simp only[qB];have w:=qcg h.b j l (ah:=z.2.1) Ta Ta
 have N:=qcg h.e j l (ah:=z.2.2.1) Ta Ta
 have H:=fun e M i g Z R=>Zn.Inv.next (best1:=e) (best2:=M) (out1:=i) (has1:=g) (out2:=Z) (has2:=R) T U
 have O:rz z.2.2.2.1 k z.2.1=Bz z k:=rfl;have P:rz z.2.2.2.2 k z.2.2.1=Ez z k:=rfl;rw[O]at w ⊢;rw[P]at N ⊢;generalize Bz z k=B at *;generalize Ez z k=E at *;have s:∀x,-100000000000<=x->((d=false\/a<x)↔a<x)/\((d=false\/a<=x)↔a<=x):=by
  intro x hx
  cases d with|false=>have:=I.1 rfl;constructor<;>simp<;>omega|true=>constructor<;>simp
 have n:∀e i g,CX e g->((B<=t/\(d=false\/a<B)/\e=B/\i=true/\g=true)\/(¬(B<=t/\(d=false\/a<B))/\e=a/\i=o/\g=d)) ->
   ∃b m f,Zn.Inv (Bz z) (Ez z) t u b m f/\CX b f /\
    tB p r0 t Y (sel z i) e k E z=r0 t Y (sel z m) b (k-1) z:=by
  intro e i g r L;have J:(g=false\/e<=E)↔e<=E:=by
   cases g with|false=>have:=r.1 rfl;simp;omega|true=>simp
  unfold tB;rw[au (x:=k-1) Ta Ta]
  have Q:∀x y:Option Int,(bif decide (E<=t) then bif decide (e<=E) then x else y else y)=if E<=t/\e<=E then x else y:=by
   intro x y;by_cases c1:E<=t<;>by_cases c2:e<=E<;>simp[c1,c2]
  rw[Q];by_cases c:E<=t/\e<=E
  ·exact⟨E,false,true,H e E i g false true L (.inl ⟨c.1,J.2 c.2,rfl,rfl,rfl⟩),⟨fun q=>(by cases q),fun _=>Ta⟩,by rw[qX c];rfl⟩
  ·exact⟨e,i,g,H e e i g i g L (.inr ⟨fun q=>c ⟨q.1,J.1 q.2⟩,rfl,rfl,rfl⟩),r,by rw[qW c]⟩
 clear H;by_cases c1:B<=t/\a<B
 ·obtain⟨v,m,A,F,G,C⟩:=n B true true ⟨fun q=>(by cases q),fun _=>Ta⟩ (.inl ⟨c1.1,(s B w.1).1.2 c1.2,rfl,rfl,rfl⟩)
  refine⟨v,m,A,F,G,?_⟩;rw[← C,aq (by simp;exact c1.1)]
  unfold tA;rw[aq (by simp;exact c1.2)];rfl
 ·obtain⟨v,m,A,F,G,C⟩:=n a o d I (.inr ⟨fun q=>c1 ⟨q.1,(s B w.1).1.1 q.2⟩,rfl,rfl,rfl⟩)
  refine⟨v,m,A,F,G,?_⟩;rw[← C];unfold tA;by_cases c2:B<=t
  ·rw[aq (by simp;exact c2),am Td]
  ·rw[am Td];rfl
def qpe(a:Nat)(b:5000<=a)(z:b9)(h:ZT z)(t Y:Int)(A:2<=Y)(B:Y<=3999):eU a z t Y=some (w6 z (Y-1) (Y+1) t):=by
 unfold eU;rw[am (by have:=h.b.1;simp;omega),au]
 obtain⟨n,rfl⟩:∃n,a=n+1+1+1+1:=⟨a-4,Ta⟩
 generalize c:n+1+1+1+1=a at b;have q:tc a (n+1+1+1+1) t Y z.2.1 (-1152921504606846976) (Y+1) z=some (w6 z (Y-1) (Y+1) t):=by
  obtain⟨f,s,d,l,p,i⟩:=Lq (tc a (n+1+1+1)) a b z h t Y (-1152921504606846976) (Y+1) false false _ (fun y=>y=Y+1) Ta Ta Ta Ta Ta (Zn.Inv.start t _) ⟨fun _=>rfl,fun q=>(by cases q)⟩ (fun y=>Te)
  rw[tc];refine Eq.trans i ?_;obtain⟨g,u,e,m,r,j⟩:=Lq (tc a (n+1+1)) a b z h t Y f (Y+1-1) s d _ (fun y=>Y<=y/\y<=Y+1) Ta Ta Ta Ta Ta l p (fun y=>Ta)
  rw[tc];refine Eq.trans j ?_;obtain⟨w,E,v,o,C,k⟩:=Lq (tc a (n+1)) a b z h t Y g (Y+1-1-1) u e _ (fun y=>Y-1<=y/\y<=Y+1) Ta Ta Ta Ta Ta m r (fun y=>Ta)
  rw[tc];refine Eq.trans k ?_;rw[tc,sZ,au (x:=Y-1) Ta Ta,am Td,qa9 o]
 rw[c]at q;exact q
def gK(c:UInt8):Bool:=(decide (97<=c.toNat)&&decide (c.toNat<=122))||(decide (65<=c.toNat)&&decide (c.toNat<=90))||(decide (48<=c.toNat)&&decide (c.toNat<=57))||c.toNat==45||c.toNat==95||c.toNat==46
def qcs{p:UInt8->Prop}(h:∀n:_root_.Fin 256,p (UInt8.ofFin n))(c:UInt8):p c:=by
 have:=h c.toFin
 rwa [UInt8.ofFin_toFin]at this
def q7q(c:UInt8):Ht c=some (gK c):=by
 revert c;exact qcs (by decide +kernel)
def qd(s:List UInt8):Bool:=decide (1<=s.length)&&decide (s.length<=60)&&s.all gK
def qic(a:Nat)(s:List UInt8)(g:(s.length:Int)<9223372036854775808):∀(n:Nat)(k:Nat),k<=s.length->s.length-k<n ->
  uG a n s s.length k=some ((s.drop k).all gK):=by
 intro n
 induction n with
 |zero=>intro k b d;omega|succ n ih=>
  intro k b d;rw[uG,Hp];by_cases c:k<s.length
  ·have e:ak s (k:Int)=some s[k]:=by unfold ak;rw[qX];simp[c]
   rw[aq (by simp;exact c),e,qB,q7q,qB,List.drop_eq_getElem_cons c,List.all_cons]
   cases f:gK s[k]
   ·rfl
   ·rw[am,au]
    have:=ih (k+1) Ta Ta
    rw[Int.natCast_add]at this;exact this
  ·rw[am Td,List.drop_eq_nil_of_le Ta];rfl
def qpb(b:Nat)(s:List UInt8)(e:(s.length:Int)<9223372036854775808)(f:s.length<b):BW b s=some (qd s):=by
 unfold BW qd
 cases s with
 |nil=>rfl|cons a l=>
  rw[aq]
  by_cases c:((a::l).length:Int)<=60
  ·rw[aq (by simp only[decide_eq_true_iff];exact c)]
   unfold Ho;have:=qic b (a::l) e b 0 Ta Ta
   rw[show((0:Nat):Int)=0 from rfl]at this
   rw[this,qB];have d:(a::l).length<=60:=Ta
   simp only[List.drop_zero];rw[show decide (1<=(a::l).length)=true by simp,decide_eq_true d];rfl
  ·rw[am (by simp only[decide_eq_false_iff_not];exact c)]
   have d:¬(a::l).length<=60:=Ta
   rw[decide_eq_false d];simp
def qri(b:Nat)(s:List UInt8)(g:(s.length:Int)<9223372036854775808):∀(n:Nat)(k:Nat),k<=s.length->s.length-k<n ->
  tJ b n s k=some ((s.drop k).all gK&&(decide (1<=s.length)&&decide (s.length<=60))):=by
 intro n
 induction n with
 |zero=>intro k d e;omega|succ n ih=>
  intro k d e;rw[tJ,GX];by_cases c:k<s.length
  ·have f:ak s (k:Int)=some s[k]:=by unfold ak;rw[qX];simp[c]
   have:=ih (k+1) Ta Ta
   rw[Int.natCast_add]at this;rw[aq (by simp;exact c),f]
   simp only[qB,zr1_in_eq];rw[au,List.drop_eq_getElem_cons c,List.all_cons]
   have a:(1:Nat)=(1:Int):=rfl;rw[a]at this;rw[this];generalize ((List.drop (k+1) s).all gK)=R;generalize (decide (1<=s.length)&&decide (s.length<=60))=Q;generalize s[k]=x;have:∀(x:UInt8),(bif !decide ((97:Int)<=x.toNat/\(x.toNat:Int)<=122) then bif !decide ((65:Int)<=x.toNat/\(x.toNat:Int)<=90) then bif !decide ((48:Int)<=x.toNat/\(x.toNat:Int)<=57) then
     bif x != 45 then bif x != 95 then bif x != 46 then false else true else true else true else true else true else true)=gK x:=qcs (by decide +kernel)
   rw[← this x];cases decide ((97:Int)<=x.toNat/\(x.toNat:Int)<=122)<;>cases decide ((65:Int)<=x.toNat/\(x.toNat:Int)<=90)<;>cases decide ((48:Int)<=x.toNat/\(x.toNat:Int)<=57)<;>cases (x != 45)<;>cases (x != 95)<;>cases (x != 46)<;>simp
  ·rw[am Td,List.drop_eq_nil_of_le Ta,zr1_in_eq,qB]
   congr 1;rw[Bool.eq_iff_iff];simp;omega
def qat(a:Nat)(s:List UInt8)(b:(s.length:Int)<9223372036854775808)(c:s.length<a):kF a s=some (qd s):=by
 unfold kF qd;have:=qri a s b a 0 Ta Ta
 rw[show((0:Nat):Int)=0 from rfl]at this
 rw[this,List.drop_zero,Bool.and_comm]
@[simp] def turn_eq(u:px):fU u=some (decide (jk u)):=by
 unfold fU;simp only[zones_within_eq,qB,ir];have a:∀b:Bool,decide (jk u)=b->(jk u->b=true)/\(¬jk u->b=false):=fun b h=>⟨fun k=>by rw[← h,decide_eq_true k],fun k=>by rw[← h,decide_eq_false k]⟩
 generalize e:decide (jk u)=b;obtain⟨f,d⟩:=a b e;clear a e;unfold jk lT at f d
 repeat' split
 all_goals first|(rw[d Ta])|skip
 congr 1;rw[Bool.eq_iff_iff,decide_eq_true_iff];constructor
 ·intro q;exact f Ta
 ·intro q;by_cases c:0<=u.2.2.2/\u.2.2.2<=1439
  ·exact c
  ·have:=d Ta;rw[this]at q;cases q
@[simp] def rturn_eq(u:px):kH u=some (decide (jk u)):=by
 have e:kH u=fU u:=by unfold kH fU;simp only[zr1_in_eq,zones_within_eq]
 rw[e,turn_eq]
def gN(z:b9):Prop:=z.2.2.2.2.1=0/\z.2.2.2.2.2.1=0/\z.2.2.2.2.2.2.1=0/\z.2.2.2.2.2.2.2=0
instance(z:b9):Decidable (gN z):=by unfold gN;infer_instance
def Oh(u:px):((u.1==(0:Int))&&((u.2.1==(0:Int))&&((u.2.2.1==(0:Int))&&((u.2.2.2==(0:Int))&&true))))=decide (u.1=0/\u.2.1=0/\u.2.2.1=0/\u.2.2.2=0):=by
 rw[Bool.eq_iff_iff,decide_eq_true_iff];simp
def ep(z:b9):fe:=
 if qd z.1=false then⟨10,-3⟩ else if ¬(-900<=z.2.1/\z.2.1<=900) then⟨3,-4⟩ else
 if gg z then(if z.2.2.1≠0 then⟨5,-5⟩ else if ¬gN z then⟨5,-5⟩ else⟨0,0⟩) else
 if ¬(-900<=z.2.2.1/\z.2.2.1<=900) then⟨3,-5⟩ else if ¬(z.2.1+1<=z.2.2.1/\z.2.2.1<=z.2.1+180) then⟨3,-5⟩ else
 if ¬jk z.2.2.2.1 then⟨3,-6⟩ else if ¬jk z.2.2.2.2 then⟨3,-7⟩ else if z.2.2.2.1.1=z.2.2.2.2.1 then⟨5,-7⟩ else⟨0,0⟩
def FL(b:Nat)(z:b9)(d:(z.1.length:Int)<9223372036854775808)(c:z.1.length<b):fT b z=some (ep z):=by
 unfold fT ep;rw[qpb b _ d c];by_cases a:qd z.1=false
 ·rw[qX a,qB,aq (by rw[a];rfl)];rfl
 ·rw[qW a,qB,am (by simp at a;rw[a];rfl),zones_within_eq,qB]
  by_cases c1 : -900<=z.2.1/\z.2.1<=900
  ·rw[am Tw,qW Tw]
   rw[au (x:=z.2.1+1) Ta Ta,au (x:=z.2.1+180) Ta Ta,Oh]
   rw[show decide (z.2.2.2.2.1=0/\z.2.2.2.2.2.1=0/\z.2.2.2.2.2.2.1=0/\z.2.2.2.2.2.2.2=0)=decide (gN z) from rfl]
   simp only[CP,CQ,IT,qT,fixed_eq,qB,fault_eq,none_eq,zones_within_eq,turn_eq,jw,ir,gc,lh]
   repeat' split
   all_goals first|rfl|contradiction|simp_all
  ·rw[aq Td,qX c1];rfl
def qsa(b:Nat)(z:b9)(e:(z.1.length:Int)<9223372036854775808)(d:z.1.length<b):tG b z=some (ep z):=by
 unfold tG ep;rw[qat b _ e d];by_cases a:qd z.1=false
 ·rw[qX a,qB,aq (by rw[a];rfl)];rfl
 ·rw[qW a,qB,am (by simp at a;rw[a];rfl),zr1_in_eq,qB]
  by_cases c1 : -900<=z.2.1/\z.2.1<=900
  ·rw[am Tw,qW Tw]
   rw[Oh,Oh];rw[show decide (z.2.2.2.2.1=0/\z.2.2.2.2.2.1=0/\z.2.2.2.2.2.2.1=0/\z.2.2.2.2.2.2.2=0)=decide (gN z) from rfl,show decide (z.2.2.2.1.1=0/\z.2.2.2.1.2.1=0/\z.2.2.2.1.2.2.1=0/\z.2.2.2.1.2.2.2=0)=decide (gg z) from rfl]
   by_cases c2 : -900<=z.2.2.1/\z.2.2.1<=900
   ·rw[au (x:=z.2.2.1-z.2.1) Ta Ta]
    have c:(1<=z.2.2.1-z.2.1/\z.2.2.1-z.2.1<=180)↔(z.2.1+1<=z.2.2.1/\z.2.2.1<=z.2.1+180):=Ta
    simp only[tH,tI,BB,BC,qT,qB,bW,zr1_in_eq,rturn_eq,jw,ir,gc,lh,c]
    repeat' split
    all_goals first|rfl|contradiction|simp_all
   ·simp only[tH,tI,BB,BC,qT,rturn_eq,qB,bW,zr1_in_eq,jw,ir,gc,lh]
    repeat' split
    all_goals first|rfl|contradiction|simp_all
  ·rw[aq Td,qX c1];rfl
def pR(z:b9)(h:(ep z).1=0):ep z=⟨0,0⟩ /\ -900<=z.2.1/\z.2.1<=900/\(gg z\/ZT z):=by
 unfold ep at h ⊢;by_cases f:qd z.1=false
 ·rw[qX f]at h;simp at h
 rw[qW f]at h ⊢;by_cases c1:¬(-900<=z.2.1/\z.2.1<=900)
 ·rw[qX c1]at h;simp at h
 rw[qW c1]at h ⊢;have a : -900<=z.2.1/\z.2.1<=900:=Ta
 by_cases c2:gg z
 ·rw[qX c2]at h ⊢;by_cases c3:z.2.2.1≠0
  ·rw[qX c3]at h;simp at h
  rw[qW c3]at h ⊢;by_cases b:¬gN z
  ·rw[qX b]at h;simp at h
  rw[qW b];exact⟨rfl,a.1,a.2,.inl c2⟩
 rw[qW c2]at h ⊢;by_cases c3:¬(-900<=z.2.2.1/\z.2.2.1<=900)
 ·rw[qX c3]at h;simp at h
 rw[qW c3]at h ⊢;by_cases b:¬(z.2.1+1<=z.2.2.1/\z.2.2.1<=z.2.1+180)
 ·rw[qX b]at h;simp at h
 rw[qW b]at h ⊢;by_cases c:¬jk z.2.2.2.1
 ·rw[qX c]at h;simp at h
 rw[qW c]at h ⊢;by_cases d:¬jk z.2.2.2.2
 ·rw[qX d]at h;simp at h
 rw[qW d]at h ⊢;by_cases e:z.2.2.2.1.1=z.2.2.2.2.1
 ·rw[qX e]at h;simp at h
 rw[qW e];exact⟨rfl,a.1,a.2,.inr ⟨a.1,a.2,Ta,Ta,Ta,Ta,Classical.not_not.1 c,Classical.not_not.1 d,e⟩⟩
noncomputable def qe(z:b9)(Y t:Int):Int:=if gg z then z.2.1 else w6 z (Y-1) (Y+1) t
noncomputable def oz(z:b9)(t:Int):Int:=(jy ((t+60*z.2.1)/86400)).1
def zf(z:b9)(t:Int):Prop := -719162<=(t+60*z.2.1)/86400/\(t+60*z.2.1)/86400<=741807
instance(z:b9)(t:Int):Decidable (zf z t):=by unfold zf;infer_instance
noncomputable def IZ(z:b9)(t:Int):Int×fe:=
 if ¬(-68719476736<=t/\t<=68719476736) then(0,⟨3,-2⟩) else
 if ¬zf z t then(0,⟨3,-8⟩) else if ¬(2<=oz z t/\oz z t<=3999) then(0,⟨3,-8⟩) else(qe z (oz z t) t,⟨0,0⟩)
noncomputable def bO(z:b9)(t:Int):Int×fe:=if(ep z).1≠0 then(0,ep z) else IZ z t
def q7s(a:Nat)(e:20<=a)(z:b9)(h:gg z\/ZT z)(t Y:Int)(b:2<=Y)(d:Y<=3999):lP a z t Y=some (qe z Y t):=by
 unfold qe;by_cases c:gg z
 ·rw[qX c];unfold lP;rw[fixed_eq,qB,aq (by simp[c])]
 ·rw[qW c];exact q7t a e z (h.resolve_left c) t Y b d
def qpd(a:Nat)(e:5000<=a)(z:b9)(h:gg z\/ZT z)(t Y:Int)(b:2<=Y:=by omega)(d:Y<=3999:=by omega):eU a z t Y=some (qe z Y t):=by
 unfold qe;by_cases c:gg z
 ·rw[qX c];unfold eU;rw[aq (by simp[c.1])]
 ·rw[qW c];exact qpe a e z (h.resolve_left c) t Y b d
def q7j(a:Nat)(d:20<=a)(z:b9)(g:(z.1.length:Int)<9223372036854775808)(b:z.1.length<a)(t:Int):CO a z t=some (bO z t):=by
 unfold CO bO;rw[FL a z g b,qB,zfailed_eq,qB,gc];by_cases c:(ep z).1≠0
 ·rw[qX c,qX c]
 ·rw[qW c,qW c];obtain⟨e,i,j,h⟩:=pR z (Classical.not_not.1 c);unfold IZ;rw[time_eq,qB];by_cases c1 : -68719476736<=t/\t<=68719476736
  ·rw[am Tw,qW (fun q=>q c1),Qu a d,qB]
   unfold AP;rw[qW (fun q=>q c1),qW (fun q=>q ⟨i,j⟩)]
   by_cases c2:zf z t
   ·rw[qW (by unfold zf at c2;omega),qW (fun q=>q c2),zfailed_eq,qB,am,zones_within_eq,qB]
    have f:(wm ((t+60*z.2.1)/86400) ((t+60*z.2.1)%86400) z.2.1).1=oz z t:=rfl;simp only[f];by_cases c3:2<=oz z t/\oz z t<=3999
    ·rw[am (by simp[c3]),qW (fun q=>q c3),q7s a d z h _ _ c3.1 c3.2];rfl
    ·rw[aq Td,qX c3];rfl
   ·rw[qX (by unfold zf at c2;omega),qX c2];rfl
  ·rw[aq Td,qX c1];rfl
open Classical in
noncomputable def pick(z:b9)(L o:Int):List Int:=if(bO z (L-60*o)).2.1=0/\(bO z (L-60*o)).1=o then[L-60*o] else[]
def SG(z:b9)(L o:Int):(pick z L o).length<=1:=by unfold pick;split<;>simp
def KJ(g:Int->Int->Int->b9->fe->List Int->List Int->Option (fe×List Int))(d:Nat)(k:20<=d)(z:b9)(s:(z.1.length:Int)<9223372036854775808)(e:z.1.length<d)
  (L c i o:Int) (f:fe) (b a:List Int) (l:i<c) (t:ak a i=some o) (m : -10<=i) (n:i<=10) (h : -1000000000000<=L) (j:L<=1000000000000) (p : -10000<=o) (r:o<=10000) (u:b.length<=10) :
  lN d g L c i z f a b=g L c (i+1) z f a (b++pick z L o):=by
 rw[lN,aq (by simp;exact l),zq,t,qB,au (x:=60*o) Ta Ta,au (x:=L-60*o) Ta Ta,au (x:=i+1) Ta Ta,q7j d k z s e,qB,zfailed_eq,qB]
 unfold pick;by_cases c1:(bO z (L-60*o)).2.1=0
 ·rw[aq Tw]
  by_cases c2:(bO z (L-60*o)).1=o
  ·rw[aq (by simp[c2]),aq To,qX ⟨c1,c2⟩]
  ·rw[am (by simp[c2]),qW (fun q=>c2 q.2),List.append_nil]
 ·rw[am Tw,qW (fun q=>c1 q.1),List.append_nil]
noncomputable def iA(z:b9)(L:Int):List Int:=pick z L z.2.1++(if gg z then[] else pick z L z.2.2.1)
noncomputable def la(z:b9)(d:cd):fe×List Int:=
 if(ep z).1≠0 then(ep z,[]) else if ¬du d then((3,-3),[]) else if d.2.2.2.2.2.2≠0 then((5,-9),[]) else if ¬(3<=d.1/\d.1<=3998) then((3,-9),[]) else((0,0),ei (iA z (cy d)))
def Ry{d:cd}(h:du d) : -100000000000<=cy d/\cy d<=100000000000:=by
 have:=DG h;obtain⟨_,_,_,_,_,_,_,_,_⟩:=h;unfold cy;omega
def Og(a:Nat)(i:20<=a)(z:b9)(j:(z.1.length:Int)<9223372036854775808)(f:z.1.length<a)(d:cd):lM a z d=some (la z d):=by
 unfold lM la;rw[FL a z j f,qB,zfailed_eq,qB,gc];by_cases c:(ep z).1≠0
 ·rw[qX c,qX c]
 rw[qW c,qW c,KM a i,qB];obtain⟨e,v,w,m⟩:=pR z (Classical.not_not.1 c);by_cases c1:¬du d
 ·rw[qW c1,qX c1,zfailed_eq,qB,aq]
 replace c1:=Classical.not_not.1 c1;rw[qX c1,qW (c:=¬du d) (fun q=>q c1),zfailed_eq,qB,am,gc]
 have o:=Ry c1;by_cases c2:d.2.2.2.2.2.2≠0
 ·rw[qX c2,qX c2];rfl
 rw[qW c2,qW c2,zones_within_eq,qB,jw];by_cases c3:¬(3<=d.1/\d.1<=3998)
 ·rw[qW c3,qX c3];rfl
 replace c3:=Classical.not_not.1 c3;rw[qX c3,qW (c:=¬(3<=d.1/\d.1<=3998)) (fun q=>q c3),fixed_eq,qB,jw]
 obtain⟨n,k⟩:∃n,a=n+1+1+1:=⟨a-3,Ta⟩
 have r:=SG z (cy d) z.2.1;have s:=SG z (cy d) z.2.2.1;have b:∀l:List Int,l.length<=10->tn l=some (ei l):=by
  intro l p;unfold tn;rw[aq (decide_eq_true (by unfold ax;omega))]
 unfold CN;by_cases g:gg z
 ·rw[qX g];have q:vz a (n+1+1+1) (cy d) (List.length ([z.2.1]:List Int):Int) 0 z (0,0) [z.2.1] []=some ((0,0),ei (iA z (cy d))):=by
   rw[vz,KJ _ a i z j f _ _ _ z.2.1 _ _ _ Te rfl Ta Ta Ta Ta Ta Ta Te]
   rw[vz,lN,am,b _ Td,none_eq]
   simp[iA,g]
  rw[← k]at q;exact q
 ·rw[qW g];have h:=m.resolve_left g;have t:=h.m1;have u:=h.m2;rw[aq TB]
  have q:vz a (n+1+1+1) (cy d) (List.length (([z.2.1]:List Int)++[z.2.2.1]):Int) 0 z (0,0) ([z.2.1]++[z.2.2.1]) []=some ((0,0),ei (iA z (cy d))):=by
   rw[vz,KJ _ a i z j f _ _ _ z.2.1 _ _ _ Te rfl Ta Ta Ta Ta Ta Ta Te]
   rw[vz,KJ _ a i z j f _ _ _ z.2.2.1 _ _ _ Te rfl Ta Ta Ta Ta Ta Ta Td]
   rw[vz,lN,am,b _ Td,none_eq]
   simp[iA,g]
  rw[← k]at q;exact q
def qnr(e:Nat)(a b:List Int)(i:a.length=b.length)(l:(a.length:Int)<9223372036854775808):∀(n k:Nat),k<=a.length->a.length-k<n->rA e n a b k=some (decide (a.drop k=b.drop k)):=by
 intro n
 induction n with
 |zero=>intro k f h;omega|succ n ih=>
  intro k f h;rw[rA,Gb];by_cases c:k<a.length
  ·have j:ak a (k:Int)=some a[k]:=by unfold ak;rw[qX];simp[c]
   have d:ak b (k:Int)=some (b[k]' Ta):=by unfold ak;rw[qX];simp[show k<b.length by omega]
   rw[aq (by simp;exact c),j,qB,d,qB,gc,List.drop_eq_getElem_cons c,List.drop_eq_getElem_cons (show k<b.length by omega)]
   have:=ih (k+1) Ta Ta
   rw[Int.natCast_add]at this;rw[au]
   by_cases g:a[k]=b[k]' Ta
   ·rw[qW (by simp[g])]
    refine Eq.trans this ?_;congr 1;rw[decide_eq_decide];simp only[List.cons.injEq,g,true_and]
   ·rw[qX g];congr 1;exact(decide_eq_false (fun q=>g (List.cons.inj q).1)).symm
  ·rw[am Td,List.drop_eq_nil_of_le Ta,List.drop_eq_nil_of_le Ta];rfl
def qnq(d:Nat)(a b:List Int)(e:(a.length:Int)<9223372036854775808)(f:a.length<d):aG d a b=some (decide (a=b)):=by
 unfold aG;by_cases c:a.length=b.length
 ·rw[am (by simp[c])]
  have:=qnr d a b c e d 0 Ta Ta
  exact this
 ·rw[aq Td]
  have:a≠b:=fun q=>c (by rw[q])
  rw[decide_eq_false this]
def qbk:ei []=[]:=by simp[ei]
def Ml(x:Int):ei [x]=[x]:=by simp[ei]
def qsr(x y:Int)(h:y<x:=by omega):ei [x,y]=[y,x]:=by
 simp[ei,List.mergeSort,List.MergeSort.Internal.splitInTwo,List.merge];omega
def qkw{z:b9}{t:Int}(h:zf z t):De z.2.1 t (oz z t)/\1<=oz z t/\oz z t<=4000:=by
 obtain⟨b,c⟩:=gL _ h.1 h.2;have a:=qy _ _ _ b;rw[c]at a;unfold oz De fh;refine⟨⟨Ta,Ta⟩,b.1,b.2.1⟩
def qng{d:cd}(h:du d)(b:d.2.2.2.2.2.2=0):fh d.1<=cy d/\cy d<fh (d.1+1):=by
 have a:=qy _ _ _ h.1;obtain⟨_,_,_,_,_,_,_,_,_⟩:=h;unfold cy fh;rw[b];omega
def qoc:fh 3 = -62072524800/\fh 2 = -62104060800/\fh 3999=64029052800/\fh 4000=64060588800:=by
 refine⟨?_,?_,?_,?_⟩<;>decide
def qpr{z:b9}{a b c d t:Int}(h:gA (Bz z) (Ez z) a b t↔gA (Bz z) (Ez z) c d t):w6 z a b t=w6 z c d t:=by
 unfold w6;by_cases q:gA (Bz z) (Ez z) a b t
 ·rw[qX q,qX (h.1 q)]
 ·rw[qW q,qW (fun k=>q (h.2 k))]
def qps{z:b9}(f:(ep z).1=0){d:cd}(h:du d)(l:d.2.2.2.2.2.2=0)(k:3<=d.1)(s:d.1<=3998)(o:Int)
  (n:o=z.2.1\/(¬gg z/\o=z.2.2.1)):bO z (cy d-60*o)=(qe z d.1 (cy d-60*o),⟨0,0⟩):=by
 obtain⟨_,y,A,g⟩:=pR z f;obtain⟨L1,L2⟩:=qng h l;obtain⟨E,C,F,B⟩:=qoc;have w:=cU 3 d.1 k;have x:=cU (d.1+1) 3999
 have r:z.2.1<=o/\o<=z.2.1+180:=by
  rcases n with rfl|⟨q,rfl⟩
  ·omega
  ·have:=(g.resolve_left q).d1;have:=(g.resolve_left q).d2;omega
 have b:zf z (cy d-60*o):=by unfold zf;omega
 obtain⟨i,c1,c2⟩:=qkw b;have j:oz z (cy d-60*o)=d.1\/oz z (cy d-60*o)+1=d.1:=by
  obtain⟨G,H⟩:=i;generalize oz z (cy d-60*o)=c at *;rcases Int.lt_trichotomy (c+1) d.1 with q|q|q
  ·have:=cU (c+2) d.1
   have:=gS (c+1);rw[show c+1+1=c+2 by omega]at this
   omega
  ·exact .inr q
  ·by_cases t:c=d.1
   ·exact .inl t
   ·have:=cU (d.1+1) c;omega
 unfold bO IZ;rw[qW (by simp[f]),qW,qW (fun q=>q b),qW]
 congr 1;unfold qe;by_cases a:gg z
 ·rw[qX a,qX a]
 ·rw[qW a,qW a];rcases j with e|e
  ·rw[e]
  ·have m:=(g.resolve_left a).turns;have p:fh (oz z (cy d-60*o)+1)<=cy d-60*o+60*z.2.2.1:=by
    rw[e];rcases n with rfl|⟨_,rfl⟩
    ·have:=(g.resolve_left a).d1;omega
    ·omega
   have u:=qtf m i;have v:=qte m i p;have:=qpr (u.trans v.symm);rw[this,← e];congr 1<;>omega
open Classical in
noncomputable def lr(z:b9)(Y L o:Int):List Int:=if qe z Y (L-60*o)=o then[L-60*o] else[]
def SH{z:b9}(c:(ep z).1=0){d:cd}(h:du d)(e:d.2.2.2.2.2.2=0)(a:3<=d.1)(b:d.1<=3998)(o:Int)
  (f:o=z.2.1\/(¬gg z/\o=z.2.2.1)):pick z (cy d) o=lr z d.1 (cy d) o:=by
 unfold pick lr;rw[qps c h e a b o f];simp
def SI{z:b9}(b:(ep z).1=0){d:cd}(h:du d)(f:d.2.2.2.2.2.2=0)(c:3<=d.1)(e:d.1<=3998) :
  ei (iA z (cy d))=(if gg z then[] else lr z d.1 (cy d) z.2.2.1)++lr z d.1 (cy d) z.2.1:=by
 obtain⟨_,j,k,i⟩:=pR z b;unfold iA;rw[SH b h f c e _ (.inl rfl)];by_cases a:gg z
 ·rw[qX a,qX a,List.append_nil,List.nil_append];unfold lr;split
  ·exact Ml _
  ·exact qbk
 ·rw[qW a,qW a,SH b h f c e _ (.inr ⟨a,rfl⟩)];have g:=(i.resolve_left a).d1;unfold lr;split<;>split
  ·exact qsr _ _
  ·exact Ml _
  ·exact Ml _
  ·exact qbk
def qno(b:Nat)(i:5000<=b){z:b9}(e:(ep z).1=0){d:cd}(h:du d)(f:d.2.2.2.2.2.2=0)(m:3<=d.1)(n:d.1<=3998) :
  Bw b z d=some ((if gg z then[] else lr z d.1 (cy d) z.2.2.1)++lr z d.1 (cy d) z.2.1):=by
 obtain⟨_,q,r,j⟩:=pR z e;have p:=Ry h;unfold Bw Bx By;have l:(d.1,d.2.1,d.2.2.1,d.2.2.2.1,d.2.2.2.2.1,d.2.2.2.2.2.1,(0:Int))=d:=by rw[← f]
 rw[l,qa7 b i d h];simp only[qB];have k:=fun t=>qpd b i z j t d.1
 rw[au (x:=60*z.2.1) Ta Ta,au (x:=cy d-60*z.2.1) Ta Ta]
 by_cases a:gg z
 ·rw[qX a,am (by have:=a.1;simp;omega)]
  simp only[k,qB,lh,qF];by_cases g:qe z d.1 (cy d-60*z.2.1)=z.2.1<;>simp[lr,g,ax]
 ·rw[qW a];have c:=j.resolve_left a;have:=c.m1;have:=c.m2;have:=c.b.1;rw[aq Td,au (x:=60*z.2.2.1) Ta Ta,au (x:=cy d-60*z.2.2.1) Ta Ta]
  simp only[k,qB,lh];by_cases o:qe z d.1 (cy d-60*z.2.2.1)=z.2.2.1<;>by_cases g:qe z d.1 (cy d-60*z.2.1)=z.2.1<;>simp[lr,o,g,ax]
def RQ(d:cd):ta d=some (if ¬du d then⟨3,-3⟩ else if d.2.2.2.2.2.2≠0 then⟨5,-9⟩ else if ¬(3<=d.1/\d.1<=3998) then⟨3,-9⟩ else⟨0,0⟩):=by
 unfold ta;rw[qlc,qB];by_cases h:du d
 ·rw[qX h,am,qW (fun q=>q h),gc,zr1_in_eq,qB,jw]
  simp only[bW,qB];by_cases c:d.2.2.2.2.2.2≠0
  ·rw[qX c,qX c]
  ·rw[qW c,qW c];by_cases c2:3<=d.1/\d.1<=3998
   ·rw[qX c2,qW (fun q=>q c2)]
   ·rw[qW c2,qX c2]
 ·rw[qW h,aq,qX h]
def qnh(z:b9)(d:cd):((la z d).1.1≠0/\(la z d).2=[]) \/
  ((la z d).1=⟨0,0⟩/\(ep z).1=0/\du d/\d.2.2.2.2.2.2=0/\3<=d.1/\d.1<=3998/\(la z d).2=(if gg z then[] else lr z d.1 (cy d) z.2.2.1)++lr z d.1 (cy d) z.2.1):=by
 unfold la;by_cases c:(ep z).1≠0
 ·rw[qX c];exact .inl ⟨c,rfl⟩
 rw[qW c];by_cases c1:¬du d
 ·rw[qX c1];exact .inl ⟨Tf,rfl⟩
 rw[qW c1];by_cases c2:d.2.2.2.2.2.2≠0
 ·rw[qX c2];exact .inl ⟨Tf,rfl⟩
 rw[qW c2];by_cases c3:¬(3<=d.1/\d.1<=3998)
 ·rw[qX c3];exact .inl ⟨Tf,rfl⟩
 rw[qW c3];exact .inr ⟨rfl,Classical.not_not.1 c,Classical.not_not.1 c1,Classical.not_not.1 c2,Ta,Ta,SI (Classical.not_not.1 c) (Classical.not_not.1 c1) (Classical.not_not.1 c2) Ta Ta⟩
def qmy(b:Nat)(a:List Int)(x:Int)(h:(a.length:Int)<9223372036854775808):∀(n k:Nat),k<=a.length->a.length-k<n->sY b n a x k=some (decide (x∈a.drop k)):=by
 intro n
 induction n with
 |zero=>intro k d e;omega|succ n ih=>
  intro k d e;rw[sY,GM];by_cases c:k<a.length
  ·have f:ak a (k:Int)=some a[k]:=by unfold ak;rw[qX];simp[c]
   have:=ih (k+1) Ta Ta
   rw[Int.natCast_add]at this;rw[aq (by simp;exact c),f,qB,lh,au,List.drop_eq_getElem_cons c]
   by_cases g:a[k]=x
   ·rw[qX g,decide_eq_true (by rw[g];exact qH)]
   ·rw[qW g];refine Eq.trans this ?_;congr 1;rw[decide_eq_decide,wE];constructor
    ·exact .inr
    ·rintro (q|q)
     ·exact absurd q.symm g
     ·exact q
  ·rw[am Td,List.drop_eq_nil_of_le Ta];rfl
def KF(b:Nat)(a:List Int)(x:Int)(c:(a.length:Int)<9223372036854775808:=by omega)(d:a.length<b:=by omega):kE b a x=some (decide (x∈a)):=by
 unfold kE;exact qmy b a x c b 0 Ta Ta
def qkc{n s:Int}(c : -719162<=n)(d:n<=741807)(h:0<=s)(f:s<86400)(z:Int)(a : -900<=z)(b:z<=900):du (wm n s z)/\cy (wm n s z)=n*86400+s-60*z:=by
 obtain⟨g,e⟩:=gL n c d;refine⟨⟨g,?_,?_,?_,?_,?_,?_,a,b⟩,?_⟩<;>simp only[wm,cy]<;>(try rw[e])<;>omega
abbrev jj(l:List Int):Prop:=l.Pairwise (·<·)
def qbw:∀(a b:List Int),jj a->jj b->(∀x,x∈a↔x∈b)->a=b
 |[],[],_,_,_=>rfl|[],y::b,_,_,h=>by have:=(h y).2 qH;cases this
 |x::a,[],_,_,h=>by have:=(h x).1 qH;cases this
 |x::a,y::b,ha,hb,h=>by
  have c:=List.pairwise_cons.1 ha;have d:=List.pairwise_cons.1 hb;have e:x=y:=by
   rcases List.mem_cons.1 ((h x).1 qH) with q|q
   ·exact q
   ·rcases List.mem_cons.1 ((h y).2 qH) with q2|q2
    ·exact q2.symm
    ·have:=d.1 x q;have:=c.1 y q2;omega
  subst e;rw[qbw a b c.2 d.2 (fun t => ?_)]
  constructor
  ·intro f;rcases List.mem_cons.1 ((h t).1 (qE _ f)) with q|q
   ·have:=c.1 t f;omega
   ·exact q
  ·intro f;rcases List.mem_cons.1 ((h t).2 (qE _ f)) with q|q
   ·have:=d.1 t f;omega
   ·exact q
def qkr(d:Array Int)(p:∀i j:Nat,i<=j->j<d.size->d[i]! <= d[j]!):∀m:Nat,m<=d.size->jj (Lib.compactUpTo d m)/\∀x,x∈Lib.compactUpTo d m↔∃j:Nat,j<m/\d[j]! = x:=by
 intro m
 induction m with
 |zero=>intro _;exact⟨List.Pairwise.nil,fun x=>⟨fun h=>(by cases h),fun⟨j,f,_⟩=>Ta⟩⟩
 |succ m ih=>
  intro v;obtain⟨n,l⟩:=ih Ta
  rw[Lib.compactUpTo_succ];by_cases k:Lib.keeps d m=true
  ·rw[qX k];refine⟨?_,fun x => ?_⟩
   ·refine List.pairwise_append.2 ⟨n,List.pairwise_singleton _ _,fun a r b o => ?_⟩
    rw[List.mem_singleton]at o;subst o;obtain⟨j,f,rfl⟩:=(l a).1 r;have g:m=0\/d[m]! ≠ d[m-1]! := by simpa [Lib.keeps] using k
    rcases g with q|q
    ·omega
    ·have t:=p j (m-1) Ta Ta
     have u:=p (m-1) m Ta Ta
     omega
   ·rw[wA,List.mem_singleton,l];constructor
    ·rintro (⟨j,f,e⟩|e)
     ·exact⟨j,Ta,e⟩
     ·exact⟨m,Ta,e.symm⟩
    ·rintro⟨j,f,e⟩
     by_cases c:j=m
     ·subst c;exact .inr e.symm
     ·exact .inl ⟨j,Ta,e⟩
  ·rw[qW k,List.append_nil];refine⟨n,fun x => ?_⟩
   rw[l];have g:¬(m=0\/d[m]! ≠ d[m-1]!):=by simpa [Lib.keeps] using k
   have w:m≠0:=fun q=>g (.inl q)
   have s:d[m]! = d[m-1]! := Classical.not_not.1 (fun q=>g (.inr q))
   constructor
   ·rintro⟨j,f,e⟩;exact⟨j,Ta,e⟩
   ·rintro⟨j,f,e⟩
    by_cases c:j=m
    ·subst c;exact⟨j-1,Ta,by rw[← s,e]⟩
    ·exact⟨j,Ta,e⟩
def Ee(l:List Int)(i:Nat)(h:i<l.length:=by omega):l.toArray[i]! = l[i]:=by simp[h]
def qsq(l:List Int):(ei l).Pairwise (·<=·):=by
 have:=List.pairwise_mergeSort (le:=fun x y:Int=>decide (x<=y)) (fun a b c d e=>by simp at *;omega) (fun a b=>Td) l
 exact this.imp (fun h=>by simpa using h)
def qsp(l:List Int)(x:Int):x∈ei l↔x∈l:=by unfold ei;exact List.mem_mergeSort
def Ay(l:List Int):List Int:=li (ei l)
def qt8(l:List Int):jj (Ay l)/\∀x,x∈Ay l↔x∈l:=by
 have g:=qsq l;have:=qkr (ei l).toArray (fun i j f a=>by
  have b:j<(ei l).length:=by simpa using a
  rw[Ee _ i,Ee _ j b]
  by_cases c:i=j
  ·subst c;omega
  ·exact List.pairwise_iff_getElem.1 g i j Ta b Ta) (ei l).length Te
 refine⟨this.1,fun x => ?_⟩
 have d:=this.2 x;unfold Ay li Lib.compact;rw[d,← qsp l x];constructor
 ·rintro⟨j,a,rfl⟩
  rw[Ee _ j a];exact List.getElem_mem a
 ·intro h;obtain⟨j,a,e⟩:=List.getElem_of_mem h;exact⟨j,a,by rw[Ee _ j a,e]⟩
def g7(a b t:Int):Bool:=decide (a<=t)&&decide (t<=b)
def SC(t a b:Int):vC t a b=some (!g7 a b t,a,b):=by
 unfold vC g7;by_cases h:t<a
 ·rw[aq (by simp;exact h),decide_eq_false (show ¬a<=t by omega)];rfl
 ·rw[am Td,decide_eq_true (show a<=t by omega)]
  by_cases c:b<t
  ·rw[decide_eq_true c,decide_eq_false (show ¬t<=b by omega)];rfl
  ·rw[decide_eq_false c,decide_eq_true (show t<=b by omega)];rfl
def qnd(g:Nat)(l:List Int)(a b:Int)(p:(l.length:Int)<4611686018427387904):∀(n k:Nat),k<=l.length->l.length-k<n->(∀x∈l.take k,g7 a b x=true) ->
  ∃i:Int,vM g n l.length k l a b=some (i,l,a,b)/\((i = -1/\∀x∈l,g7 a b x=true)\/∃j:Nat,∃h:j<l.length,i=j/\(∀x∈l.take j,g7 a b x=true)/\g7 a b l[j]=false):=by
 intro n
 induction n with
 |zero=>intro k m o;omega|succ n ih=>
  intro k m o e;rw[vM,Iw];by_cases c:k<l.length
  ·rw[aq (by simp;exact c),zq,ef l k c,qB,SC,qB,qjg,au]
   cases f:g7 a b l[k] with
   |false=>exact⟨k,rfl,.inr ⟨k,c,rfl,e,f⟩⟩|true=>
    have:=ih (k+1) Ta Ta (fun x d=>by
     rw[List.take_succ_eq_append_getElem c,wA,List.mem_singleton]at d;rcases d with q|q
     ·exact e x q
     ·rw[q];exact f)
    rw[Int.natCast_add]at this;exact this
  ·rw[am Td]
   exact⟨-1,rfl,.inl ⟨rfl,fun x d=>e x (by rw[List.take_of_length_le Ta];exact d)⟩⟩
def qlb(t:Nat)(d:List Int)(a b:Int)(y:(d.length:Int)<4611686018427387904):∀(n i j:Nat)(l:List Int),i<j->j<=d.length->l.length=d.length->d.length-j<n->l.take i=(d.take j).filter (g7 a b)->l.drop j=d.drop j ->
  vK t n i j a b l=some (a,b,d.filter (g7 a b)):=by
 intro n
 induction n with
 |zero=>intro i j l u v o w;omega|succ n ih=>
  intro i j l u v o w g h;rw[vK,Is];by_cases c:j<d.length
  ·have f:j<l.length:=Ta
   have q:l[j]=d[j]:=by
    have k:=List.drop_eq_getElem_cons f;have m:=List.drop_eq_getElem_cons c;rw[k,m]at h;exact(List.cons.inj h).1
   have p:l.drop (j+1)=d.drop (j+1):=by
    have k:=List.drop_eq_getElem_cons f;have m:=List.drop_eq_getElem_cons c;rw[k,m]at h;exact(List.cons.inj h).2
   rw[aq (by simp;exact f),zq,ef l j f,qB,SC,qB]
   simp only[Bool.not_not];have r:d.take (j+1)=d.take j++[d[j]]:=List.take_succ_eq_append_getElem c
   cases s:g7 a b l[j] with
   |true=>
    rw[aq rfl,zq,ef l i,qB,au,au]
    have:=ih (i+1) (j+1) (l.set i l[j]) Ta Ta (by rw[List.length_set];exact o) Ta (by
     rw[r,List.filter_append,← g,List.take_succ_eq_append_getElem (by rw[List.length_set];omega),List.getElem_set_self,List.take_set_of_le (wF _)]
     rw[← q];simp[s]) (by
     rw[List.drop_set_of_lt Ta,p])
    rw[Int.natCast_add,Int.natCast_add]at this;exact this
   |false=>
    rw[am rfl,au (x:=(j:Int)+1) Ta Ta]
    have:=ih i (j+1) l Ta Ta o Ta (by
     rw[r,List.filter_append,← g,← q];simp[s]) p
    rw[Int.natCast_add]at this;exact this
  ·rw[am Td,aq Td,aq Td]
   have e:d.take j=d:=List.take_of_length_le Ta
   rw[e]at g;simp only[qY];rw[List.take_append_of_le_length Td,List.take_take,Nat.min_self,g]
def qla(c:Nat)(l:List Int)(a b:Int)(d:(l.length:Int)<4611686018427387904:=by omega)(n:l.length<c:=by omega):vJ c l a b=some (a,b,l.filter (g7 a b)):=by
 unfold vJ Iv;obtain⟨i,e,h⟩:=qnd c l a b d c 0 Ta Ta (fun x m=>by cases m)
 rw[show((0:Nat):Int)=0 from rfl]at e
 rw[e,qB];simp only[];rcases h with⟨rfl,h⟩|⟨j,k,rfl,f,g⟩
 ·rw[aq]
  rw[List.filter_eq_self.2 h]
 ·rw[am,au]
  have:=qlb c l a b d c j (j+1) l Ta Ta rfl Ta (by
   rw[List.take_succ_eq_append_getElem k,List.filter_append,List.filter_eq_self.2 f];simp[g]) rfl
  rw[Int.natCast_add]at this;exact this
def qo4(i j:Nat)(h:(i:Int)+j<4611686018427387904:=by omega):ae (Int.fdiv (IntKind.u64.wrap (ae ((i:Int)+j))) (2 ^ min (1:Int).toNat 64))=(((i+j)/2:Nat):Int):=by
 rw[au (x:=(i:Int)+j) Ta Ta]
 have e:IntKind.u64.wrap ((i:Int)+j)=(i:Int)+j:=by
  unfold IntKind.wrap;simp[IntKind.signed,IntKind.bits];omega
 rw[e,show(2:Int) ^ min (1:Int).toNat 64=2 from rfl,Int.fdiv_eq_ediv_of_nonneg _ Ta,au]
 omega
def qop(a b:Int):Cb a b=some (decide (a<b)):=by
 unfold Cb Cc;rw[qB,am]
def qsh(w:Nat)(l:List Int)(x:Int)(C:jj l)(E:(l.length:Int)<2305843009213693952):∀(n i j:Nat),i<=j->j<=l.length->j-i<n->(∀k,∀h:k<l.length,k<i->l[k]<x)->(∀k,∀h:k<l.length,j<=k->x<=l[k]) ->
  ∃p,vI w n l x l.length i j=some (p,decide (x∈l)):=by
 intro n
 induction n with
 |zero=>intro i j y u z;omega|succ n ih=>
  intro i j y u z f v;have s:=fun(a b:Nat)(A:a<l.length)(B:b<l.length)(m:a<b)=>List.pairwise_iff_getElem.1 C a b A B m
  rw[vI,Ir];simp only[qo4 i j]
  by_cases c:i<j
  ·rw[aq (by simp;exact c),ef l ((i+j)/2),qB,qop,qB]
   by_cases g:l[(i+j)/2]<x
   ·rw[aq (by simp;exact g),au]
    have:=ih ((i+j)/2+1) j Ta u Ta (fun k d o=>by
     by_cases e:k=(i+j)/2
     ·subst e;exact g
     ·have:=s k ((i+j)/2) d Ta Ta;omega) v
    rw[Int.natCast_add]at this;exact this
   ·rw[am Td]
    exact ih i ((i+j)/2) Ta Ta Ta f (fun k d o=>by
     by_cases e:k=(i+j)/2
     ·subst e;omega
     ·have:=s ((i+j)/2) k Ta d Ta;omega)
  ·have:i=j:=Ta
   subst this;rw[am]
   by_cases c2:i<l.length
   ·rw[aq (by simp;exact c2),ef l i c2,qB]
    by_cases e:l[i]=x
    ·rw[aq (by simp[e])]
     exact⟨i,by rw[decide_eq_true (by rw[← e];exact List.getElem_mem c2)]⟩
    ·rw[am (by simp[e]),qB]
     unfold CD;rw[qB,am]
     refine⟨i,?_⟩;rw[decide_eq_false];intro r;obtain⟨k,d,t⟩:=List.getElem_of_mem r;have:=v i c2 Ta
     rcases Nat.lt_trichotomy k i with q|q|q
     ·have:=f k d q;omega
     ·subst q;exact e t
     ·have:=s i k c2 d q;omega
   ·rw[am Td]
    refine⟨i,?_⟩;rw[decide_eq_false];intro r;obtain⟨k,d,t⟩:=List.getElem_of_mem r;have:=f k d Ta;omega
def qsg(a:Nat)(l:List Int)(x:Int)(c:jj l)(d:(l.length:Int)<2305843009213693952:=by omega)(e:l.length<a:=by omega):∃p,C9 a l x=some (p,decide (x∈l)):=by
 unfold C9;exact qsh a l x c d a 0 l.length Ta Ta Ta (fun k b q=>Ta) (fun k b q=>Ta)
def qne(a:Nat)(l:List Int)(x:Int)(f:(l.length:Int)<4611686018427387904):∀(n k:Nat),k<=l.length->l.length-k<n ->
  ∃i:Int,vN a n l x l.length k=some i/\(0<=i↔x∈l.drop k):=by
 intro n
 induction n with
 |zero=>intro k b d;omega|succ n ih=>
  intro k b d;rw[vN,Iy];by_cases c:k<l.length
  ·rw[aq (by simp;exact c),ef l k c,qB,lh,List.drop_eq_getElem_cons c]
   by_cases g:x=l[k]
   ·rw[qX g];exact⟨k,rfl,⟨fun _=>by rw[← g];exact qH,fun _=>Ta⟩⟩
   ·rw[qW g,au]
    obtain⟨i,e,h⟩:=ih (k+1) Ta Ta
    rw[Int.natCast_add]at e;refine⟨i,e,?_⟩;rw[h,wE];exact⟨.inr,fun q=>q.resolve_left g⟩
  ·rw[am Td,List.drop_eq_nil_of_le Ta]
   exact⟨-1,rfl,⟨fun q=>Ta,fun q=>by cases q⟩⟩
def q7k(a:Nat)(l:List Int)(x:Int)(b:(l.length:Int)<4611686018427387904:=by omega)(c:l.length<a:=by omega):CC a l x=some (decide (x∈l)):=by
 unfold CC Ix;obtain⟨i,e,h⟩:=qne a l x b a 0 Ta Ta
 rw[show((0:Nat):Int)=0 from rfl]at e
 rw[e,qB];congr 1;rw[decide_eq_decide,h,List.drop_zero]
def o7(x:Int):Bool->List Int->List Int|true,l=>l|false,[]=>[x]|false,y::l=>if x<y then x::y::l else y::o7 x false l
def zJ(x:Int)(l:List Int):o7 x true l=l:=by cases l<;>rfl
def R1(x:Int):∀l:List Int,jj l->x∉l->jj (o7 x false l)/\(∀t,t∈o7 x false l↔t=x\/t∈l)
 |[],_,_=>⟨List.pairwise_singleton _ _,fun t=>by simp[o7]⟩
 |y::l,h,hx=>by
  have a:=List.pairwise_cons.1 h;have e:x≠y:=fun q=>hx (by rw[q];exact qH)
  unfold o7;by_cases c:x<y
  ·rw[qX c];refine⟨List.pairwise_cons.2 ⟨fun t b => ?_,h⟩,fun t=>by rw[wE]⟩
   rcases List.mem_cons.1 b with q|q
   ·omega
   ·have:=a.1 t q;omega
  ·rw[qW c];obtain⟨f,d⟩:=R1 x l a.2 (fun q=>hx (qE _ q))
   refine⟨List.pairwise_cons.2 ⟨fun t b => ?_,f⟩,fun t => ?_⟩
   ·rcases (d t).1 b with q|q
    ·omega
    ·exact a.1 t q
   ·rw[wE,d,wE];constructor
    ·rintro (q|q|q)
     ·exact .inr (.inl q)
     ·exact .inl q
     ·exact .inr (.inr q)
    ·rintro (q|q|q)
     ·exact .inr (.inl q)
     ·exact .inl q
     ·exact .inr (.inr q)
def R0(x:Int):∀(b:Bool)(l:List Int),(o7 x b l).length<=l.length+1
 |true,l=>by rw[zJ];omega|false,[]=>by simp[o7]|false,y::l=>by
  unfold o7;have:=R0 x false l;split<;>simp<;>omega
def qnm(i:Nat)(l:List Int)(x:Int)(q:l.length<1000000):∀(n k:Nat)(b:Bool)(a:List Int),k<=l.length->l.length-k<n->a.length<=2*k+1 ->
  kG i n l x b k a=some (a++o7 x b (l.drop k)):=by
 intro n
 induction n with
 |zero=>intro k b a j m;omega|succ n ih=>
  intro k b a j m p;rw[kG,GY];by_cases c:k<l.length
  ·have e:∀(f:Bool)(d:List Int),d.length<=2*k+2->tL i (kG i n) l x f k d=some (d++l[k]::o7 x f (l.drop (k+1))):=by
    intro f d h;unfold tL;rw[ef l k c,qB,aq (decide_eq_true (by unfold ax;simp;omega)),au]
    have:=ih (k+1) f (d++[l[k]]) Ta Ta Td
    rw[Int.natCast_add]at this;refine Eq.trans this ?_;simp
   rw[aq (by simp;exact c),List.drop_eq_getElem_cons c]
   cases b with
   |true=>
    rw[am]
    unfold tK;rw[am,e true a Ta,zJ,zJ]
   |false=>
    rw[aq,ef l k c,qB]
    unfold tK;have o:o7 x false (l[k]::l.drop (k+1))=if x<l[k] then x::l[k]::l.drop (k+1) else l[k]::o7 x false (l.drop (k+1)):=rfl
    rw[o];by_cases g:x<l[k]
    ·rw[qX g,aq (by simp;exact g),aq (decide_eq_true (by unfold ax;simp;omega))]
     rw[e true (a++[x]) Td,zJ]
     simp
    ·rw[qW g,am Td,e false a Ta]
  ·rw[am Td,List.drop_eq_nil_of_le Ta]
   cases b with|true=>rw[am,zJ,List.append_nil]|false=>rw[aq,aq (decide_eq_true (by unfold ax;simp;omega))];rfl
def zg(x:Int)(l:List Int):List Int:=if x∈l then l else o7 x false l
def qnk(x:Int)(l:List Int)(h:jj l):jj (zg x l)/\(∀t,t∈zg x l↔t=x\/t∈l):=by
 unfold zg;by_cases c:x∈l
 ·rw[qX c];refine⟨h,fun t=>⟨.inr,?_⟩⟩
  rintro (q|q)
  ·rw[q];exact c
  ·exact q
 ·rw[qW c];exact R1 x l h c
def qnj(x:Int)(l:List Int):(zg x l).length<=l.length+1:=by
 unfold zg;have:=R0 x false l;split<;>omega
def qnl(a:Nat)(l:List Int)(x:Int)(d:l.length<1000000:=by omega)(b:l.length<a:=by omega):BD a l x=some (zg x l):=by
 unfold BD zg;rw[KF a l x Ta b,qB,ir]
 by_cases c:x∈l
 ·rw[qX c,qX c]
 ·rw[qW c,qW c];have:=qnm a l x d a 0 false [] Ta Ta Te
  exact this
def ng(p:Option Int)(x:Int):Bool:=match p with|some y=>decide (x<=y)|none=>false
def ge(f:Int->Bool):Option Int->List Int->Int|_,[]=>0|p,x::l=>if f x=false then 3 else if ng p x=true then 19 else ge f (some x) l
def Mh(f:Int->Bool):∀(l:List Int)(p:Option Int),ge f p l=0->jj l/\(∀x∈l,f x=true)/\(∀y,p=some y->∀x∈l,y<x)
 |[],_,_=>⟨List.Pairwise.nil,fun x h=>(by cases h),fun y _ x h=>(by cases h)⟩
 |x::l,p,h=>by
  unfold ge at h;by_cases c:f x=false
  ·rw[qX c]at h;omega
  rw[qW c]at h;by_cases c2:ng p x=true
  ·rw[qX c2]at h;omega
  rw[qW c2]at h;obtain⟨g,i,j⟩:=Mh f l _ h;have a:=j x rfl;refine⟨List.pairwise_cons.2 ⟨a,g⟩,fun y b => ?_,fun y b t d => ?_⟩
  ·rcases List.mem_cons.1 b with q|q
   ·rw[q];simpa using c
   ·exact i y q
  ·subst b;have e:y<x:=by simp[ng]at c2;exact c2
   rcases List.mem_cons.1 d with q|q
   ·omega
   ·have:=a t q;omega
def il(l:List Int)(k:Nat):Option Int:=if k=0 then none else l[k-1]?
def fp(t:Int):Bool:=decide (-68719476736<=t/\t<=68719476736)
def f9(t:Int):Bool:=decide (0<=t/\t<=6)
def gz(c a:Int):fe:=if c=0 then(0,0) else(c,a)
def Af(l:List Int)(k:Nat)(h:k<l.length):il l (k+1)=some l[k]:=by
 unfold il;rw[qW];simp[h]
def EC(l:List Int)(k:Nat)(h:k<l.length)(a:0<k)(b:(l.length:Int)<9223372036854775808):ak l (ae ((k:Int)-1))=some (l[k-1]' Ta)/\il l k=some (l[k-1]' Ta):=by
 rw[au,show(k:Int)-1=((k-1:Nat):Int) by omega]
 refine⟨ef l (k-1),?_⟩
 unfold il;rw[qW];simp[show k-1<l.length by omega]
def EZ(f:Int->Bool)(l:List Int)(k:Nat)(h:k<l.length):ge f (il l k) (l.drop k) =
  if f l[k]=false then 3 else if ng (il l k) l[k]=true then 19 else ge f (il l (k+1)) (l.drop (k+1)):=by
 rw[List.drop_eq_getElem_cons h,Af l k h];rfl
def qos(f:Nat)(l:List Int)(a:Int)(m:fe)(j:(l.length:Int)<9223372036854775808):∀(n k:Nat),k<=l.length->l.length-k<n ->
  vG f n l a l l.length k m=some (gz (ge fp (il l k) (l.drop k)) a):=by
 intro n
 induction n with
 |zero=>intro k h i;omega|succ n ih=>
  intro k h i;rw[vG,Im];by_cases c:k<l.length
  ·have b:=ih (k+1) Ta Ta
   rw[Int.natCast_add]at b;rw[aq (by simp;exact c),ef l k c,qB,time_eq,qB,EZ fp l k c,au (x:=(k:Int)+1) Ta Ta]
   have e:decide (-68719476736<=l[k]/\l[k]<=68719476736)=fp l[k]:=rfl;rw[e]
   cases q:fp l[k] with
   |false=>rfl|true=>
    rw[am,qW]
    by_cases c0:0<k
    ·obtain⟨o,p⟩:=EC l k c c0 j;rw[aq Td,o,qB,p]
     by_cases g:l[k]<=l[k-1]' Ta
     ·rw[aq (by simp;exact g),qX (by simp[ng];exact g)];rfl
     ·rw[am Td,qW TC];exact b
    ·rw[am Td]
     have d:il l k=none:=by unfold il;rw[qX]
     rw[d];exact b
  ·rw[am Td,List.drop_eq_nil_of_le Ta];rfl
def jd(l:List Int):Int:=if 300<l.length then 2 else ge fp none l
def qor(b:Nat)(d:400<=b)(l:List Int)(a:Int):vF b l a=some (gz (jd l) a):=by
 unfold vF jd;by_cases c:300<l.length
 ·rw[aq Td,qX c];rfl
 ·rw[am Td,qW c]
  have:=qos b l a (0,0) Ta b 0 Ta Ta
  exact this
def qkm(e:Nat)(l:List Int)(i:(l.length:Int)<9223372036854775808):∀(n k:Nat),k<=l.length->l.length-k<n ->
  tM e n l k=some (ge fp (il l k) (l.drop k)):=by
 intro n
 induction n with
 |zero=>intro k f h;omega|succ n ih=>
  intro k f h;rw[tM,GZ];by_cases c:k<l.length
  ·have a:=ih (k+1) Ta Ta
   rw[Int.natCast_add]at a;rw[aq (by simp;exact c),ef l k c,qB,zr1_in_eq,qB,EZ fp l k c,au (x:=(k:Int)+1) Ta Ta]
   have d:decide (-68719476736<=l[k]/\l[k]<=68719476736)=fp l[k]:=rfl;rw[d]
   cases o:fp l[k] with
   |false=>rfl|true=>
    rw[am,qW]
    by_cases c0:0<k
    ·obtain⟨j,m⟩:=EC l k c c0 i;rw[aq Td,qB,j,qB,m]
     by_cases g:l[k]<=l[k-1]' Ta
     ·rw[aq (by simp;exact g),qX (by simp[ng];exact g)]
     ·rw[am Td,qW TC];exact a
    ·rw[am Td]
     have b:il l k=none:=by unfold il;rw[qX]
     rw[b];exact a
  ·rw[am Td,List.drop_eq_nil_of_le Ta];rfl
def qkl(a:Nat)(b:400<=a)(l:List Int):eW a l=some (jd l):=by
 unfold eW jd;by_cases c:300<l.length
 ·rw[aq Td,qX c]
 ·rw[am Td,qW c]
  have:=qkm a l Ta a 0 Ta Ta
  exact this
abbrev dz:Type:=Int×Int×Int×Int×Bool×List Int×List Int×List Int
def qut(h:Nat)(r:dz)(m:fe)(d:(r.2.2.2.2.2.1.length:Int)<9223372036854775808):∀(n k:Nat),k<=r.2.2.2.2.2.1.length->8<=n+k->(∀p,il r.2.2.2.2.2.1 k=some p->(k:Int)-1<=p/\p<=6)->(k<=7) ->
  vH h n r.2.2.2.2.2.1 r.2.2.2.2.2.1.length k r m=some (gz (ge f9 (il r.2.2.2.2.2.1 k) (r.2.2.2.2.2.1.drop k)) (-7)):=by
 generalize t:r.2.2.2.2.2.1=l at d ⊢;intro n
 induction n with
 |zero=>intro k o q;omega|succ n ih=>
  intro k o q s v;rw[vH,Io];by_cases c:k<l.length
  ·rw[aq (by simp;exact c),ef l k c,qB,EZ f9 l k c]
   unfold C8 Iq;rw[t];by_cases i:l[k]<0
   ·rw[aq (by simp;exact i),aq rfl,qX (by unfold f9;simp;omega)];rfl
   rw[am Td]
   by_cases j:6<l[k]
   ·rw[aq (by simp;exact j),qX (by unfold f9;simp;omega)];rfl
   rw[am Td,qW (by unfold f9;simp;omega),au (x:=(k:Int)+1) Ta Ta]
   by_cases c0:0<k
   ·obtain⟨u,e⟩:=EC l k c c0 d;rw[aq Td,u,qB,e]
    by_cases g:l[k]<=l[k-1]' Ta
    ·rw[aq (by simp;exact g),qX (by simp[ng];exact g)];rfl
    ·rw[am Td,qW TC]
     have w:=s _ e;have b:=ih (k+1) Ta Ta (fun p a=>by rw[Af l k c]at a;cases a;omega) Ta
     rw[Int.natCast_add]at b;exact b
   ·rw[am Td]
    have f:il l k=none:=by unfold il;rw[qX]
    rw[f];have b:=ih (k+1) Ta Ta (fun p a=>by rw[Af l k c]at a;cases a;omega) Ta
    rw[Int.natCast_add]at b;exact b
  ·rw[am Td,List.drop_eq_nil_of_le Ta];rfl
def sf(r:dz):fe:=if 0<r.2.2.2.2.2.1.length/\r.1≠2 then(5,-7) else gz (ge f9 none r.2.2.2.2.2.1) (-7)
def kp(r:dz):fe:=
 if ¬(0<=r.1/\r.1<=4) then(4,-3) else if ¬(1<=r.2.1/\r.2.1<=100) then(3,-4) else if ¬(0<=r.2.2.1/\r.2.2.1<=1500) then(3,-5) else
 if r.2.2.2.2.1=true/\¬(-68719476736<=r.2.2.2.1/\r.2.2.2.1<=68719476736) then(3,-6) else if r.2.2.2.2.1=false/\r.2.2.2.1≠0 then(5,-6) else
 if(sf r).1≠0 then sf r else if jd r.2.2.2.2.2.2.1≠0 then(jd r.2.2.2.2.2.2.1,-8) else gz (jd r.2.2.2.2.2.2.2) (-9)
def D8(c a:Int):(gz c a).1=c:=by
 unfold gz;split
 ·rename_i h;exact h.symm
 ·rfl
def SM(l:List Int):il l 0=none:=rfl
def quu(a:Nat)(e:400<=a)(r:dz)(d:(r.2.2.2.2.2.1.length:Int)<9223372036854775808):C6 a r=some (sf r):=by
 unfold C6 C7 Ip sf;have lp:=qut a r (0,0) d a 0 Ta Ta (fun p b=>by cases b) Ta
 rw[show((0:Nat):Int)=0 from rfl,SM,List.drop_zero]at lp
 rw[lp];by_cases c:0<r.2.2.2.2.2.1.length
 ·rw[ap,gc]
  by_cases c2:r.1≠2
  ·rw[qX (c:=¬_) c2,qX (c:=_/\_) ⟨c,c2⟩];rfl
  ·rw[qW (c:=¬_) c2,qW (c:=_/\_) (fun q=>c2 q.2)]
 ·rw[bi,qW (c:=_/\_) (fun q=>c q.1)];rfl
def qkk(c a:Int):(if c≠0 then some (c,a) else some (0,0))=some (gz c a):=by
 unfold gz;by_cases h:c=0<;>simp[h]
def qcw(e:Nat)(h:400<=e)(r:dz)(i:(r.2.2.2.2.2.1.length:Int)<9223372036854775808:=by omega):vE e r=some (kp r):=by
 unfold vE Ct Cu Cv Cw Cy Ik kp;simp only[fault_eq,qB,time_eq,quu e h r i,zfailed_eq,qor e h,gc,D8,qT,qF];by_cases c1:0<=r.1/\r.1<=4
 ·rw[am Td,am Td,qW (c:=¬_) (fun q=>q c1)]
  by_cases c2:1<=r.2.1/\r.2.1<=100
  ·rw[am Td,am Td,qW (c:=¬_) (fun q=>q c2)]
   by_cases c3:0<=r.2.2.1/\r.2.2.1<=1500
   ·rw[am Td,am Td,qW (c:=¬_) (fun q=>q c3)]
    have d:(if(sf r).1≠0 then some (sf r) else if jd r.2.2.2.2.2.2.1≠0 then some (gz (jd r.2.2.2.2.2.2.1) (-8)) else some (gz (jd r.2.2.2.2.2.2.2) (-9))) =
      some (if(sf r).1≠0 then sf r else if jd r.2.2.2.2.2.2.1≠0 then(jd r.2.2.2.2.2.2.1,-8) else gz (jd r.2.2.2.2.2.2.2) (-9)):=by
     by_cases f:(sf r).1≠0
     ·rw[qX f,qX f]
     ·rw[qW f,qW f];by_cases b:jd r.2.2.2.2.2.2.1≠0
      ·rw[qX b,qX b];unfold gz;rw[qW b]
      ·rw[qW b,qW b]
    rw[d]
    cases j:r.2.2.2.2.1 with
    |true=>
     simp only[qT,qF,Bool.not_true,jw];by_cases a : -68719476736<=r.2.2.2.1/\r.2.2.2.1<=68719476736
     ·rw[qX (c:=_/\_) a,qW (c:=True/\¬_) (fun q=>q.2 a),qW (c:=true=false/\_) (fun q=>by cases q.1)]
     ·rw[qW (c:=_/\_) a,qX (c:=True/\¬_) ⟨trivial,a⟩]
    |false=>
     simp only[qT,qF,Bool.not_false];rw[qW (c:=false=true/\_) (fun q=>by cases q.1)]
     by_cases a:r.2.2.2.1≠0
     ·rw[qX (c:=¬_) a,qX (c:=True/\_) ⟨trivial,a⟩]
     ·rw[qW (c:=¬_) a,qW (c:=True/\_) (fun q=>a q.2)]
   ·rw[qX (c:=¬_) c3];by_cases g:r.2.2.1<0
    ·rw[aq (by simp;exact g)]
    ·rw[am Td,aq Td]
  ·rw[qX (c:=¬_) c2];by_cases g:r.2.1<1
   ·rw[aq (by simp;exact g)]
   ·rw[am Td,aq Td]
 ·rw[qX (c:=¬_) c1];by_cases g:r.1<0
  ·rw[aq (by simp;exact g)]
  ·rw[am Td,aq Td]
def dK(r:dz):fe:=if jd r.2.2.2.2.2.2.1≠0 then(jd r.2.2.2.2.2.2.1,-8) else gz (jd r.2.2.2.2.2.2.2) (-9)
def qr9(e:Nat)(s:400<=e)(r:dz)(m:fe)(t:(r.2.2.2.2.2.1.length:Int)<9223372036854775808):∀(n k:Nat),k<=r.2.2.2.2.2.1.length->8<=n+k->(∀p,il r.2.2.2.2.2.1 k=some p->(k:Int)-1<=p/\p<=6)->(k<=7) ->
  tD e n k r m=some (if ge f9 (il r.2.2.2.2.2.1 k) (r.2.2.2.2.2.1.drop k)≠0 then(ge f9 (il r.2.2.2.2.2.1 k) (r.2.2.2.2.2.1.drop k),-7) else dK r):=by
 intro n
 induction n with
 |zero=>intro k l o;omega|succ n ih=>
  intro k l o q w;rw[tD,GQ];by_cases c:k<r.2.2.2.2.2.1.length
  ·rw[aq (by simp;exact c),ef _ k c,qB,EZ f9 _ k c,zr1_in_eq,qB]
   unfold B9 GU;have j:decide (0<=r.2.2.2.2.2.1[k]/\r.2.2.2.2.2.1[k]<=6)=f9 r.2.2.2.2.2.1[k]:=rfl;rw[j]
   cases f:f9 r.2.2.2.2.2.1[k] with
   |false=>rfl|true=>
    have u:0<=r.2.2.2.2.2.1[k]/\r.2.2.2.2.2.1[k]<=6:=by unfold f9 at f;simpa using f
    rw[am,qW (c:=true=false) Te,au (x:=(k:Int)+1) Ta Ta]
    by_cases c0:0<k
    ·obtain⟨v,h⟩:=EC _ k c c0 t;rw[aq Td,qB,v,qB,h]
     by_cases g:r.2.2.2.2.2.1[k]<=r.2.2.2.2.2.1[k-1]' Ta
     ·rw[aq (by simp;exact g),qX (c:=ng _ _=true) (by simp[ng];exact g)];rfl
     ·rw[am Td,qW (c:=ng _ _=true) TC]
      have y:=q _ h;have b:=ih (k+1) Ta Ta (fun p a=>by rw[Af _ k c]at a;cases a;omega) Ta
      rw[Int.natCast_add]at b;exact b
    ·rw[am Td]
     have i:il r.2.2.2.2.2.1 k=none:=by unfold il;rw[qX]
     rw[i,qW (c:=ng _ _=true) (by simp[ng])]
     have b:=ih (k+1) Ta Ta (fun p a=>by rw[Af _ k c]at a;cases a;omega) Ta
     rw[Int.natCast_add]at b;exact b
  ·rw[am Td,List.drop_eq_nil_of_le Ta,qW (by simp[ge])]
   simp only[qkl e s,qB,bW,gc];unfold dK;by_cases d:jd r.2.2.2.2.2.2.1≠0
   ·rw[qX d,qX d]
   ·rw[qW d,qW d];exact qkk _ _
def qaz(d:Nat)(g:400<=d)(r:dz)(i:(r.2.2.2.2.2.1.length:Int)<9223372036854775808:=by omega):aP d r=some (kp r):=by
 unfold aP B6 GR B7 GS B8 GT kp sf;have lp:=qr9 d g r (0,0) i d 0 Ta Ta (fun p h=>by cases h) Ta
 rw[show((0:Nat):Int)=0 from rfl,SM,List.drop_zero]at lp
 simp only[lp,bW,zr1_in_eq,qB,jw,gc,qF];by_cases c1:0<=r.1/\r.1<=4
 ·rw[qX c1,qW (c:=¬_) (fun q=>q c1)]
  by_cases c2:1<=r.2.1/\r.2.1<=100
  ·rw[qX c2,qW (c:=¬_) (fun q=>q c2)]
   by_cases c3:0<=r.2.2.1/\r.2.2.1<=1500
   ·rw[qX c3,qW (c:=¬_) (fun q=>q c3)]
    have b:(bif decide (0<(r.2.2.2.2.2.1.length:Int)) then if r.1≠2 then some (5,-7) else some (if ge f9 none r.2.2.2.2.2.1≠0 then(ge f9 none r.2.2.2.2.2.1,-7) else dK r) else some (if ge f9 none r.2.2.2.2.2.1≠0 then(ge f9 none r.2.2.2.2.2.1,-7) else dK r)) =
      some (if(if 0<r.2.2.2.2.2.1.length/\r.1≠2 then((5,-7):fe) else gz (ge f9 none r.2.2.2.2.2.1) (-7)).1≠0 then(if 0<r.2.2.2.2.2.1.length/\r.1≠2 then((5,-7):fe) else gz (ge f9 none r.2.2.2.2.2.1) (-7)) else dK r):=by
     have f:(if ge f9 none r.2.2.2.2.2.1≠0 then(ge f9 none r.2.2.2.2.2.1,-7) else dK r)=(if(gz (ge f9 none r.2.2.2.2.2.1) (-7)).1≠0 then gz (ge f9 none r.2.2.2.2.2.1) (-7) else dK r):=by
      rw[D8];by_cases k:ge f9 none r.2.2.2.2.2.1≠0
      ·rw[qX k,qX k];unfold gz;rw[qW k]
      ·rw[qW k,qW k]
     by_cases c:0<r.2.2.2.2.2.1.length
     ·rw[ap]
      by_cases k:r.1≠2
      ·have e:(if 0<r.2.2.2.2.2.1.length/\r.1≠2 then((5,-7):fe) else gz (ge f9 none r.2.2.2.2.2.1) (-7))=(5,-7):=qX ⟨c,k⟩
       rw[e,qX k];rfl
      ·have e:(if 0<r.2.2.2.2.2.1.length/\r.1≠2 then((5,-7):fe) else gz (ge f9 none r.2.2.2.2.2.1) (-7))=gz (ge f9 none r.2.2.2.2.2.1) (-7):=qW (fun q=>k q.2)
       rw[e,qW k,f]
     ·have e:(if 0<r.2.2.2.2.2.1.length/\r.1≠2 then((5,-7):fe) else gz (ge f9 none r.2.2.2.2.2.1) (-7))=gz (ge f9 none r.2.2.2.2.2.1) (-7):=qW (fun q=>c q.1)
      rw[bi,e,f]
    rw[b];unfold dK
    cases j:r.2.2.2.2.1 with
    |true=>
     simp only[qT,qF,Bool.not_true];by_cases a : -68719476736<=r.2.2.2.1/\r.2.2.2.1<=68719476736
     ·rw[qX a,qW (c:=True/\¬_) (fun q=>q.2 a),qW (c:=true=false/\_) (fun q=>by cases q.1)]
     ·rw[qW a,qX (c:=True/\¬_) ⟨trivial,a⟩]
    |false=>
     simp only[qT,qF,Bool.not_false];rw[qW (c:=false=true/\_) (fun q=>by cases q.1)]
     by_cases a:r.2.2.2.1≠0
     ·rw[qX a,qX (c:=True/\_) ⟨trivial,a⟩]
     ·rw[qW a,qW (c:=True/\_) (fun q=>a q.2)]
   ·rw[qW c3,qX (c:=¬_) c3]
  ·rw[qW c2,qX (c:=¬_) c2]
 ·rw[qW c1,qX (c:=¬_) c1]
structure mn(d:cd):Prop where
 ok:du d
 zn:d.2.2.2.2.2.2=0
 y1:3<=d.1
 y2:d.1<=3980
def cu(d:cd):Int:=bt d.1 d.2.1 d.2.2.1
def zw(d:cd):Int:=d.2.2.2.1*3600+d.2.2.2.2.1*60+d.2.2.2.2.2.1
def Mi{d:cd}(h:du d):0<=zw d/\zw d<86400:=by
 obtain⟨_,_,_,_,_,_,_,_,_⟩:=h;unfold zw;omega
def mn.ins{d:cd}(h:mn d):cy d=cu d*86400+zw d:=by
 unfold cy cu zw;rw[h.zn];omega
def JN:dh 3=730/\dh 3981=1453665/\dh 3999=1460239:=Tf
def mn.day_bd{d:cd}(h:mn d) : -718432<=cu d/\cu d<734503:=by
 have a:=qy _ _ _ h.ok.1;have b:=ox 3 d.1 h.y1;have c:=ox (d.1+1) 3981 (by have:=h.y2;omega)
 obtain⟨e,f,_⟩:=JN;unfold cu;omega
noncomputable def later(d:cd)(a:Int):cd:=wm (cu d+a) (zw d) 0
def nR{d:cd}(h:mn d){a:Int}(o:0<=a)(p:a<=1500):du (later d a)/\cy (later d a)=cy d+a*86400/\(later d a).2.2.2.2.2.2=0/\3<=(later d a).1/\(later d a).1<=3998:=by
 have q:=h.day_bd;have g:=Mi h.ok;obtain⟨i,j⟩:=qkc (n:=cu d+a) (s:=zw d) Ta Ta g.1 g.2 0 Ta Ta
 refine⟨i,by unfold later;rw[j,h.ins];omega,rfl,?_,?_⟩
 ·obtain⟨e,b⟩:=gL (cu d+a)
  have f:=qy _ _ _ e;rw[b]at f;obtain⟨k,l,m⟩:=JN;show 3<=(jy (cu d+a)).1;by_cases c:3<=(jy (cu d+a)).1
  ·exact c
  ·have:=ox ((jy (cu d+a)).1+1) 3;omega
 ·obtain⟨e,b⟩:=gL (cu d+a)
  have f:=qy _ _ _ e;rw[b]at f;obtain⟨k,l,m⟩:=JN;show(jy (cu d+a)).1<=3998;by_cases c:(jy (cu d+a)).1<=3998
  ·exact c
  ·have:=ox 3999 (jy (cu d+a)).1;omega
def RJ{d:cd}(h:mn d){a:Int}(b:0<=a)(c:a<=1500):cu (later d a)=cu d+a:=by
 have e:=h.day_bd;exact(gL (cu d+a)).2
def qoi{d:cd}(h:du d)(a:Int):(later d a).2.2.2.1=d.2.2.2.1/\(later d a).2.2.2.2.1=d.2.2.2.2.1/\(later d a).2.2.2.2.2.1=d.2.2.2.2.2.1:=by
 obtain⟨_,_,_,_,_,_,_,_,_⟩:=h;refine⟨?_,?_,?_⟩<;>simp only[later,wm,zw]<;>omega
def qkg(b:Nat)(f:20<=b){d:cd}(h:mn d){a:Int}(g:0<=a)(i:a<=1500):kZ b (ae (cy d+ae (a*86400))) 0=some (later d a,(0,0)):=by
 have j:=h.day_bd;have l:=Mi h.ok;have k:=h.ins;rw[au (x:=a*86400) Ta Ta,au,Qu b f]
 unfold AP later;rw[qW,qW]
 have c:(cy d+a*86400+60*0)/86400=cu d+a:=Ta
 have e:(cy d+a*86400+60*0)%86400=zw d:=Ta
 rw[c,e,qW]
def Q8(b:Nat)(e:5000<=b){d:cd}(h:mn d){a:Int}(f:0<=a)(g:a<=1500):∃x,jL b (ae (86400*(cu d+a))) 0=some x /\
  x.1.1=(later d a).1/\x.1.2.1=(later d a).2.1/\x.1.2.2.1=(later d a).2.2.1/\x.1.2.2.2.2.2.2=0:=by
 have i:=h.day_bd;have j:=Mi h.ok;rw[au,qk0 b e _ _]
 refine⟨_,rfl,?_⟩;unfold FN later;have c:(86400*(cu d+a)+60*0)/86400=cu d+a:=Ta
 rw[c,qW]
 exact⟨rfl,rfl,rfl,rfl⟩
noncomputable def cJ(r:dz)(d:cd)(a:Int):Bool:=
 if r.1=1 then decide (r.2.1 ∣ a) else
 if r.1=2 then(if r.2.2.2.2.2.1=[] then decide (jc (cu d+a)=jc (cu d)) else decide (jc (cu d+a)∈r.2.2.2.2.2.1))&&decide (r.2.1 ∣ (a+jc (cu d))/7) else
 if r.1=3 then decide ((later d a).2.2.1=d.2.2.1)&&decide (r.2.1 ∣ 12*((later d a).1-d.1)+(later d a).2.1-d.2.1) else
 if r.1=4 then decide ((later d a).2.2.1=d.2.2.1)&&(decide ((later d a).2.1=d.2.1)&&decide (r.2.1 ∣ (later d a).1-d.1)) else decide (a=0)
def qch(x e:Int):((Int.tmod x e==0):Bool)=decide (e ∣ x):=by
 rw[Bool.eq_iff_iff,decide_eq_true_iff,beq_iff_eq];exact Int.dvd_iff_tmod_eq_zero.symm
def QQ(x y:Int):((x==y):Bool)=decide (x=y):=by
 rw[Bool.eq_iff_iff,decide_eq_true_iff,beq_iff_eq]
structure bQ(r:dz):Prop where
 f1:0<=r.1
 f2:r.1<=4
 e1:1<=r.2.1
 e2:r.2.1<=100
 c1:0<=r.2.2.1
 c2:r.2.2.1<=1500
 wl:r.2.2.2.2.2.1.length<=7
 xs:jj r.2.2.2.2.2.2.1
 xl:r.2.2.2.2.2.2.1.length<=300
 adS:jj r.2.2.2.2.2.2.2
 al:r.2.2.2.2.2.2.2.length<=300
def qmh(b:Nat)(j:20<=b)(r:dz)(k:bQ r){d:cd}(h:mn d){a:Int}(g:0<=a)(i:a<=1500):Cz b r d (later d a) a=some (cJ r d a):=by
 unfold Cz C0;obtain⟨l,I,J,K,L⟩:=nR h g i;have n:=RJ h g i;have A:=k.e1;have N:=k.wl;have o:=h.ok.1;have p:=l.1;have O:=h.y1;have P:=h.y2;have M:=Fw (cu d);rw[M9 b j _ l,M9 b j _ h.ok,qB,qB];rw[show bt (later d a).1 (later d a).2.1 (later d a).2.2.1=cu d+a from n,show bt d.1 d.2.1 d.2.2.1=cu d from rfl]
 have m:∀{α:Type}(x y:α),(bif decide (r.2.1≠0) then x else y)=x:=fun x y=>ap
 simp only[m,lh,qch];unfold cJ;by_cases c1:r.1=1
 ·rw[qX c1,qX c1]
 rw[qW c1,qW c1];by_cases c2:r.1=2
 ·rw[qX c2,qX c2];rw[au (x:=a+jc (cu d)) Ta Ta,iL,au]
  by_cases e:r.2.2.2.2.2.1=[]
  ·rw[bi (by rw[e];simp),qX e]
   split
   ·rename_i q;rw[decide_eq_true q];rfl
   ·rename_i q;rw[decide_eq_false q];rfl
  ·have:0<r.2.2.2.2.2.1.length:=List.length_pos_iff.2 e;rw[ap,qW e,q7k b _ _,qB,ir]
   split
   ·rename_i q;rw[decide_eq_true q];rfl
   ·rename_i q;rw[decide_eq_false q];rfl
 rw[qW c2,qW c2];obtain⟨s,t,u,v,w,z⟩:=o;obtain⟨B,C,E,F,G,H⟩:=p;simp (discharger:=omega) only [au ?_ ?_];by_cases c3:r.1=3
 ·rw[qX c3,qX c3];by_cases q:(later d a).2.2.1=d.2.2.1
  ·rw[qX q,decide_eq_true q];rfl
  ·rw[qW q,decide_eq_false q];rfl
 rw[qW c3,qW c3];by_cases c:r.1=4
 ·rw[qX c,qX c];by_cases q:(later d a).2.2.1=d.2.2.1
  ·rw[qX q,decide_eq_true q];by_cases f:(later d a).2.1=d.2.1
   ·rw[qX f,decide_eq_true f];rfl
   ·rw[qW f,decide_eq_false f];rfl
  ·rw[qW q,decide_eq_false q];rfl
 rw[qW c,qW c,QQ]
def qlu(e Y D:Int)(b : -11<=D:=by omega)(c:D<=11:=by omega):(12*e ∣ 12*Y+D)↔(D=0/\e ∣ Y):=by
 constructor
 ·rintro⟨k,a⟩
  rw[Int.mul_assoc]at a;generalize d:e*k=m at a;have:D=0:=Ta
  exact⟨this,⟨k,Ta⟩⟩
 ·rintro⟨rfl,k,rfl⟩
  exact⟨k,by rw[Int.mul_assoc,Int.add_zero]⟩
def qpv(b:Nat)(j:5000<=b)(r:dz)(c:bQ r){d:cd}(h:mn d){a:Int}(f:0<=a)(g:a<=1500):B4 b d r (cu d) (cu d+a)=some (cJ r d a):=by
 unfold B4 tC;obtain⟨p,P,Q,R,S⟩:=nR h f g;have T:=RJ h f g;have E:=c.e1;have F:=c.e2;have G:=c.f1;have H:=c.f2;have V:=c.wl;have k:=h.ok.1;have s:=p.1;have W:=h.y1;have X:=h.y2;have U:=Fw (cu d);have O:=h.day_bd;obtain⟨x,o,x1,x2,x3,x4⟩:=Q8 b j h f g;rw[o,qB,au (x:=cu d+a-cu d) Ta Ta,show cu d+a-cu d=a by omega]
 rw[au (x:=12*r.2.1) Ta Ta]
 have l:∀{α:Type}(x y:α),(bif decide (r.2.1≠0) then x else y)=x:=fun x y=>ap
 have i:∀{α:Type}(x y:α),(bif decide (12*r.2.1≠0) then x else y)=x:=fun x y=>ap
 simp only[l,i,lh,qch,x1,x2,x3];unfold cJ;by_cases c0:r.1=0
 ·rw[qX c0,qW,qW,qW,qW,QQ]
  congr 1;rw[decide_eq_decide];omega
 rw[qW c0];by_cases c1:r.1=1
 ·rw[qX c1,qX c1]
 rw[qW c1,qW c1];by_cases c2:r.1=2
 ·rw[qX c2,qX c2,qa6 b j _ _ _ k,qB];rw[show bt d.1 d.2.1 d.2.2.1=cu d from rfl]
  rw[au (x:=a+jc (cu d)) Ta Ta,iL,iN,au]
  have n:(a+jc (cu d))%7=jc (cu d+a):=by unfold jc;omega
  rw[n,KF b _ _,qB]
  by_cases e:r.2.2.2.2.2.1=[]
  ·rw[qX e,e,bi,qX (by rfl)]
   split
   ·rename_i q;rw[decide_eq_true q];rfl
   ·rename_i q;rw[decide_eq_false q];rfl
  ·have:0<r.2.2.2.2.2.1.length:=List.length_pos_iff.2 e;rw[qW e,qW]
   simp only[ir,qF,qT];split
   ·rename_i q;rw[decide_eq_true q];rfl
   ·rename_i q;rw[decide_eq_false q];rfl
 rw[qW c2,qW c2];obtain⟨t,w,z,A,B,C⟩:=k;obtain⟨I,J,K,L,M,N⟩:=s;simp (discharger:=omega) only [au ?_ ?_];by_cases c3:r.1=3
 ·rw[qX c3,qX c3];by_cases q:(later d a).2.2.1=d.2.2.1
  ·rw[qX q,decide_eq_true q];rfl
  ·rw[qW q,decide_eq_false q];rfl
 rw[qW c3,qW c3,qX (show r.1=4 by omega)]
 by_cases q:(later d a).2.2.1=d.2.2.1
 ·rw[qX q,decide_eq_true q];congr 1;have m:12*((later d a).1-d.1)+(later d a).2.1-d.2.1=12*((later d a).1-d.1)+((later d a).2.1-d.2.1):=Ta
  rw[m,Bool.true_and,Bool.eq_iff_iff,decide_eq_true_iff,qlu _ _ _,qA,decide_eq_true_iff,decide_eq_true_iff]
  constructor
  ·rintro⟨u,v⟩;exact⟨Ta,v⟩
  ·rintro⟨u,v⟩;exact⟨Ta,v⟩
 ·rw[qW q,decide_eq_false q];rfl
def qbx:∀(l:List Int)(lo a:Int),jj l->(∀x∈l,lo<=x/\x<=a)->lo<=a+1->(l.length:Int)<=a+1-lo
 |[],lo,a,_,_,h=>by simp;omega|x::l,lo,a,h1,h2,h=>by
  have b:=List.pairwise_cons.1 h1;have d:=h2 x qH;have:=qbx l (x+1) a b.2 (fun y c=>⟨by have:=b.1 y c;omega,(h2 y (qE _ c)).2⟩) Ta
  simp;omega
def EX(r:dz)(h:(kp r).1=0):kp r=(0,0)/\bQ r/\(∀x∈r.2.2.2.2.2.2.1,fp x=true)/\(∀x∈r.2.2.2.2.2.2.2,fp x=true):=by
 unfold kp at h ⊢;by_cases c1:¬(0<=r.1/\r.1<=4)
 ·rw[qX c1]at h;simp at h
 rw[qW c1]at h ⊢;by_cases c2:¬(1<=r.2.1/\r.2.1<=100)
 ·rw[qX c2]at h;simp at h
 rw[qW c2]at h ⊢;by_cases c3:¬(0<=r.2.2.1/\r.2.2.1<=1500)
 ·rw[qX c3]at h;simp at h
 rw[qW c3]at h ⊢;by_cases g:r.2.2.2.2.1=true/\¬(-68719476736<=r.2.2.2.1/\r.2.2.2.1<=68719476736)
 ·rw[qX g]at h;simp at h
 rw[qW g]at h ⊢;by_cases i:r.2.2.2.2.1=false/\r.2.2.2.1≠0
 ·rw[qX i]at h;simp at h
 rw[qW i]at h ⊢;by_cases b:(sf r).1≠0
 ·rw[qX b]at h;exact absurd h b
 rw[qW b]at h ⊢;by_cases c:jd r.2.2.2.2.2.2.1≠0
 ·rw[qX c]at h;exact absurd h c
 rw[qW c]at h ⊢;rw[D8]at h;have j:∀l,jd l=0->l.length<=300/\jj l/\∀x∈l,fp x=true:=by
  intro l d;unfold jd at d;by_cases q:300<l.length
  ·rw[qX q]at d;omega
  ·rw[qW q]at d;obtain⟨e,f,_⟩:=Mh fp l none d;exact⟨Ta,e,f⟩
 obtain⟨x1,x2,x3⟩:=j _ (Classical.not_not.1 c);obtain⟨n,o,p⟩:=j _ h;have k:r.2.2.2.2.2.1.length<=7:=by
  have a:=Classical.not_not.1 b;unfold sf at a;by_cases q:0<r.2.2.2.2.2.1.length/\r.1≠2
  ·rw[qX q]at a;simp at a
  ·rw[qW q,D8]at a;obtain⟨e,f,_⟩:=Mh f9 _ none a;have:=qbx r.2.2.2.2.2.1 0 6 e (fun x m=>by have:=f x m;unfold f9 at this;simpa using this) Ta
   omega
 refine⟨by unfold gz;rw[qX h],⟨Ta,Ta,Ta,Ta,Ta,Ta,k,x2,x1,o,n⟩,x3,p⟩
noncomputable def bN(z:b9)(d:cd)(a:Int):List Int:=
 (if gg z then[] else lr z (later d a).1 (cy (later d a)) z.2.2.1)++lr z (later d a).1 (cy (later d a)) z.2.1
def qni{z:b9}(b:(ep z).1=0){d:cd}(h:mn d){a:Int}(i:0<=a)(j:a<=1500):la z (later d a)=((0,0),bN z d a):=by
 obtain⟨c,k,e,f,g⟩:=nR h i j;unfold la;rw[qW (by simp[b]),qW (fun q=>q c),qW (fun q=>q e),qW (fun q=>q ⟨f,g⟩),SI b c e f g]
 rfl
noncomputable def py(z:b9)(r:dz)(d:cd)(a:Int):Option Int:=if cJ r d a=true then(bN z d a).head? else none
def jo(c:Int->Option Int)(b:Bool)(u cnt:Int):Nat->Int->Int->List Int
 |0,_,_=>[]|n+1,many,a=>match c a with|none=>jo c b u cnt n many (a+1)|some t=>if b=true/\u<t then[] else if many+1=cnt then[t] else t::jo c b u cnt n (many+1) (a+1)
def qrj(b:Nat)(r:dz)(d:bQ r)(f:400<=b)(t:Int)(a:List Int)(g:a.length<=10000:=by omega):vD b t r a=some (r,a++[t].filter (fun t=>decide (t∉r.2.2.2.2.2.2.1))):=by
 unfold vD;have h:=d.xl;obtain⟨p,e⟩:=qsg b r.2.2.2.2.2.2.1 t d.xs
 rw[e,qB,jw];by_cases c:t∈r.2.2.2.2.2.2.1
 ·rw[qX c];simp[c]
 ·rw[qW c,ap (by unfold ax;simp;omega)];simp[c]
def qnn(i:Nat)(C:5000<=i)(z:b9)(y:(ep z).1=0)(w:(z.1.length:Int)<9223372036854775808)(k:z.1.length<i)(r:dz)(o:bQ r)(d:cd)(h:mn d) :
  ∀(n N:Nat)(a b:Int)(e:List Int),0<=a->N+a=1501->N<n->0<=b->b<=a->(e.length:Int)<=a ->
  lI i n (cy d) b a d r z r e=some (d,r,z,r,e++(jo (py z r d) r.2.2.2.2.1 r.2.2.2.1 r.2.2.1 N b a).filter (fun t=>decide (t∉r.2.2.2.2.2.2.1))):=by
 intro n
 induction n with
 |zero=>intro N a b e j s u;omega|succ n ih=>
  intro N a b e j s u l A B;rw[lI,Il]
  cases N with
  |zero=>rw[bi];simp[jo]|succ N=>
   rw[ap,qkg i Ta h j Ta,qB,qmh i Ta r o h j Ta,qB,au (x:=a+1) Ta Ta]
   unfold jo py
   cases m:cJ r d a with
   |false=>
    rw[aq]
    exact ih N (a+1) b e Ta Ta Ta l Ta Ta
   |true=>
    rw[am,Og i Ta z w k,qB,qni y h j Ta]
    simp only[if_true];generalize bN z d a=L
    cases L with
    |nil=>
     rw[aq]
     exact ih N (a+1) b e Ta Ta Ta l Ta Ta
    |cons t L=>
     rw[am Td,au (x:=b+1) Ta Ta]
     simp only[zq];have v:ak (t::L) 0=some t:=rfl;rw[v];simp only[qB,qrj i r o Ta t e,List.head?_cons]
     have f:(bif b+1==r.2.2.1 then some (d,r,z,(r,e++List.filter (fun t=>decide (t∉r.2.2.2.2.2.2.1)) [t])) else lI i n (cy d) (b+1) (a+1) d r z r (e++List.filter (fun t=>decide (t∉r.2.2.2.2.2.2.1)) [t])) =
       some (d,r,z,r,e++List.filter (fun t=>decide (t∉r.2.2.2.2.2.2.1)) (if b+1=r.2.2.1 then[t] else t::jo (py z r d) r.2.2.2.2.1 r.2.2.2.1 r.2.2.1 N (b+1) (a+1))):=by
      rw[lh];by_cases c:b+1=r.2.2.1
      ·rw[qX c,qX c]
      ·rw[qW c,qW c,ih N (a+1) (b+1) _ Ta Ta Ta Ta Ta (by
        rw[qM];have:=List.length_filter_le (fun t=>decide (t∉r.2.2.2.2.2.2.1)) [t]
        simp only[wD]at this;omega)]
       rw[qS,← List.filter_append];rfl
     cases p:r.2.2.2.2.1 with
     |true=>
      rw[aq rfl];by_cases g:r.2.2.2.1<t
      ·rw[ap g,qX ⟨rfl,g⟩];simp
      ·rw[bi g,qW (fun q=>g q.2)]
       rw[p]at f;exact f
     |false=>
      rw[am rfl,qW (fun q=>by cases q.1)]
      rw[p]at f;exact f
def qq0(f:Nat)(j:5000<=f)(z:b9)(E:(ep z).1=0)(r:dz)(C:bQ r)(d:cd)(h:mn d) :
  ∀(n N:Nat)(a:Int)(b:List Int),0<=a->N+a=1501->N<n->(b.length:Int)<=a ->
  eV f n (cu d) (cu d+a) z d r b=some (b++jo (py z r d) r.2.2.2.2.1 r.2.2.2.1 r.2.2.1 N b.length a):=by
 have O:=h.day_bd;intro n
 induction n with
 |zero=>intro N a b i w A;omega|succ n ih=>
  intro N a b i w A M;rw[eV,GO,au (x:=cu d+1500) Ta Ta]
  cases N with
  |zero=>rw[bi];simp[jo]|succ N=>
   rw[ap,qpv f j r C h i Ta,qB,au (x:=cu d+a+1) Ta Ta,show cu d+a+1=cu d+(a+1) by omega]
   unfold jo py
   cases l:cJ r d a with
   |false=>
    rw[aq]
    exact ih N (a+1) b Ta Ta Ta Ta
   |true=>
    rw[am]
    obtain⟨x,v,x1,x2,x3,x4⟩:=Q8 f j h i (show a<=1500 by omega)
    obtain⟨I,J,K⟩:=qoi h.ok a;obtain⟨F,P,o,G,H⟩:=nR h i (show a<=1500 by omega)
    have u:((later d a).1,(later d a).2.1,(later d a).2.2.1,(later d a).2.2.2.1,(later d a).2.2.2.2.1,(later d a).2.2.2.2.2.1,(0:Int))=later d a:=by rw[← o]
    rw[v,qB,x1,x2,x3,x4,← I,← J,← K,u];rw[qno f j E F o G H,qB];rw[show(if gg z then[] else lr z (later d a).1 (cy (later d a)) z.2.2.1)++lr z (later d a).1 (cy (later d a)) z.2.1=bN z d a from rfl]
    simp only[if_true];generalize bN z d a=L
    cases L with
    |nil=>
     rw[aq]
     exact ih N (a+1) b Ta Ta Ta Ta
    |cons t L=>
     rw[am Td]
     unfold B5 GP;simp only[zq];have B:ak (t::L) 0=some t:=rfl;rw[B];simp only[qB,List.head?_cons];rw[au (x:=cu d+a+1) Ta Ta,show cu d+a+1=cu d+(a+1) by omega]
     have k:((b++[t]).length:Int)=(b.length:Int)+1:=Te
     have e:(bif decide ((b++[t]).length<=ax) then bif decide (0<r.2.2.1) then bif((b++[t]).length:Int)==r.2.2.1 then some (b++[t]) else eV f n (cu d) (cu d+(a+1)) z d r (b++[t]) else eV f n (cu d) (cu d+(a+1)) z d r (b++[t]) else none) =
       some (b++(if(b.length:Int)+1=r.2.2.1 then[t] else t::jo (py z r d) r.2.2.2.2.1 r.2.2.2.1 r.2.2.1 N (b.length+1) (a+1))):=by
      rw[ap (by unfold ax;simp;omega)]
      have p:=ih N (a+1) (b++[t]) Ta Ta Ta Ta
      rw[k]at p;rw[k,lh];by_cases c:(b.length:Int)+1=r.2.2.1
      ·rw[qX c,qX c,ap]
      ·rw[qW c,qW c];have s:∀y:Option (List Int),(bif decide (0<r.2.2.1) then y else y)=y:=fun y=>by cases decide (0<r.2.2.1)<;>rfl
       rw[s,p,qS];rfl
     cases m:r.2.2.2.2.1 with
     |true=>
      rw[aq rfl];by_cases g:r.2.2.2.1<t
      ·rw[ap g,qX ⟨rfl,g⟩];simp
      ·rw[bi g,qW (fun q=>g q.2)]
       rw[m]at e;exact e
     |false=>
      rw[am rfl,am rfl,qW (fun q=>by cases q.1)]
      rw[m]at e;exact e
def qmr(c:Int->Option Int)(j:Bool)(u cnt:Int):∀(n:Nat)(d a t:Int),t∈jo c j u cnt n d a->∃b,a<=b/\b<a+n/\c b=some t:=by
 intro n
 induction n with
 |zero=>intro d a t h;cases h
 |succ n ih=>
  intro d a t h;unfold jo at h
  cases e:c a with
  |none=>
   rw[e]at h;obtain⟨b,g,i,f⟩:=ih _ _ _ h;exact⟨b,Ta,Ta,f⟩
  |some x=>
   rw[e]at h;simp only[]at h;split at h
   ·cases h
   split at h
   ·rw[List.mem_singleton]at h;subst h;exact⟨a,Ta,Ta,e⟩
   ·rcases List.mem_cons.1 h with q|q
    ·subst q;exact⟨a,Ta,Ta,e⟩
    ·obtain⟨b,g,i,f⟩:=ih _ _ _ q;exact⟨b,Ta,Ta,f⟩
def qmq(c:Int->Option Int)(d:Bool)(u cnt:Int):∀(n:Nat)(b a:Int),(jo c d u cnt n b a).length<=n:=by
 intro n
 induction n with
 |zero=>intro b a;simp[jo]|succ n ih=>
  intro b a;unfold jo
  cases e:c a with
  |none=>have:=ih b (a+1);simp only[];omega|some x=>
   simp only[];split
   ·simp
   split
   ·simp
   ·have:=ih (b+1) (a+1);simp;omega
def qms(c:Int->Option Int)(f:Bool)(u cnt:Int)(M:Int)(i:∀a b x y,0<=a->a<b->b<M->c a=some x->c b=some y->x<y):∀(n:Nat)(d a:Int),0<=a->a+n<=M->jj (jo c f u cnt n d a):=by
 intro n
 induction n with
 |zero=>intro d a _ _;exact List.Pairwise.nil|succ n ih=>
  intro d a h m;unfold jo
  cases e:c a with
  |none=>exact ih d (a+1) Ta Ta|some x=>
   simp only[];split
   ·exact List.Pairwise.nil
   split
   ·exact List.pairwise_singleton _ _
   ·refine List.pairwise_cons.2 ⟨fun y j => ?_,ih (d+1) (a+1) Ta Ta⟩
    obtain⟨b,k,l,g⟩:=qmr c f u cnt n _ _ _ j;exact i a b x y h Ta Ta e g
def SF{z:b9}{Y L o t:Int}(h:t∈lr z Y L o):t=L-60*o/\qe z Y (L-60*o)=o:=by
 unfold lr at h;split at h
 ·rename_i e;exact⟨by simpa using h,e⟩
 ·cases h
def Sa{z:b9}(g:(ep z).1=0){d:cd}{a t:Int}(h:t∈bN z d a):∃o,(o=z.2.1\/(¬gg z/\o=z.2.2.1))/\t=cy (later d a)-60*o/\z.2.1<=o/\o<=z.2.1+180/\qe z (later d a).1 t=o:=by
 obtain⟨_,i,j,b⟩:=pR z g;unfold bN at h;rcases List.mem_append.1 h with q|q
 ·split at q
  ·cases q
  ·rename_i f;obtain⟨e,c⟩:=SF q;have:=(b.resolve_left f).d1;have:=(b.resolve_left f).d2;exact⟨_,.inr ⟨f,rfl⟩,e,Ta,Ta,by rw[e];exact c⟩
 ·obtain⟨e,c⟩:=SF q;exact⟨_,.inl rfl,e,Ta,Ta,by rw[e];exact c⟩
def Qm{z:b9}{r:dz}{d:cd}{a t:Int}(h:py z r d a=some t):t∈bN z d a/\cJ r d a=true:=by
 unfold py at h;split at h
 ·rename_i b;exact⟨List.mem_of_mem_head? h,b⟩
 ·cases h
def qjz{z:b9}(c:(ep z).1=0)(r:dz){d:cd}(h:mn d):∀a b x y,0<=a->a<b->b<1501->py z r d a=some x->py z r d b=some y->x<y:=by
 intro a b x y e f l g i;obtain⟨o,_,j,q,s,_⟩:=Sa c (Qm g).1;obtain⟨p,_,k,t,u,_⟩:=Sa c (Qm i).1;have m:=(nR h e (show a<=1500 by omega)).2.1
 have n:=(nR h (show 0<=b by omega) (show b<=1500 by omega)).2.1
 omega
noncomputable def ur(z:b9)(r:dz)(d:cd):List Int:=jo (py z r d) r.2.2.2.2.1 r.2.2.2.1 r.2.2.1 1501 0 0
def qqz{z:b9}(a:(ep z).1=0)(r:dz){d:cd}(h:mn d):jj (ur z r d):=
 qms _ _ _ _ 1501 (qjz a r h) 1501 0 0 Ta Ta
def LN(z:b9)(r:dz)(d:cd):(ur z r d).length<=1501:=qmq _ _ _ _ _ _ _
def yF(L X A:List Int)(f t:Int):List Int:=Ay ((L.filter (fun t=>decide (t∉X))++A).filter (g7 f t))
def qjr(L X A:List Int)(f t:Int):jj (yF L X A f t)/\∀x,x∈yF L X A f t↔((x∈L/\x∉X)\/x∈A)/\f<=x/\x<=t:=by
 obtain⟨a,b⟩:=qt8 ((L.filter (fun t=>decide (t∉X))++A).filter (g7 f t))
 refine⟨a,fun x => ?_⟩
 unfold yF;rw[b,List.mem_filter,wA,List.mem_filter];unfold g7;simp
noncomputable def mK(z:b9)(d:cd)(r:dz)(f t:Int):List Int:=yF (ur z r d) r.2.2.2.2.2.2.1 r.2.2.2.2.2.2.2 f t
noncomputable def ie(z:b9)(d:cd)(r:dz)(f t:Int):fe:=
 if(ep z).1≠0 then((ep z).1,-10) else if(la z d).1.1≠0 then((la z d).1.1,-11) else if 3980<d.1 then(3,-11) else if(kp r).1≠0 then kp r else
 if ¬(fp f=true/\fp t=true/\f<=t) then(3,-12) else(0,0)
noncomputable def ss(z:b9)(d:cd)(r:dz)(f t:Int):fe×List Int:=if(ie z d r f t).1≠0 then(ie z d r f t,[]) else((0,0),mK z d r f t)
def JT{z:b9}{d:cd}{r:dz}{f t:Int}(h:(ie z d r f t).1=0):ie z d r f t=(0,0)/\(ep z).1=0/\mn d/\(kp r).1=0/\fp f=true/\fp t=true/\f<=t:=by
 unfold ie at h ⊢;by_cases c1:(ep z).1≠0
 ·rw[qX c1]at h;exact absurd h c1
 rw[qW c1]at h ⊢;by_cases c2:(la z d).1.1≠0
 ·rw[qX c2]at h;exact absurd h c2
 rw[qW c2]at h ⊢;by_cases c3:3980<d.1
 ·rw[qX c3]at h;simp at h
 rw[qW c3]at h ⊢;by_cases a:(kp r).1≠0
 ·rw[qX a]at h;exact absurd h a
 rw[qW a]at h ⊢;by_cases b:¬(fp f=true/\fp t=true/\f<=t)
 ·rw[qX b]at h;simp at h
 rw[qW b];have c:=Classical.not_not.1 b;rcases qnh z d with⟨q,_⟩|⟨_,_,e,g,i,j,_⟩
 ·exact absurd q c2
 ·exact⟨rfl,Classical.not_not.1 c1,⟨e,g,i,Ta⟩,Classical.not_not.1 a,c⟩
def qts(t:Int):vu t=some (fp t):=time_eq t
def qsn(l:List Int)(h:l.length<=1000000):tn l=some (ei l):=by
 unfold tn;rw[ap (by unfold ax;omega)]
def qjb(a:Nat)(p:5000<=a)(z:b9)(k:(z.1.length:Int)<9223372036854775808)(e:z.1.length<a)(d:cd)(r:dz)(q:(r.2.2.2.2.2.1.length:Int)<9223372036854775808)(f t:Int) :
  vB a z d r f t=some (ss z d r f t):=by
 unfold vB;simp only[FL a z k e,qB,zfailed_eq,gc,Og a Ta z k e,qcw a Ta r q,fault_eq,qts]
 by_cases c1:(ep z).1≠0
 ·unfold ss ie;rw[qX c1,qX c1,qX (by exact c1)]
 by_cases c2:(la z d).1.1≠0
 ·unfold ss ie;rw[qW c1,qW c1,qX c2,qX c2,qX (by exact c2)]
 by_cases c3:3980<d.1
 ·unfold ss ie;rw[qW c1,qW c1,qW c2,qW c2,ap c3,qX c3];rfl
 by_cases b:(kp r).1≠0
 ·unfold ss ie;rw[qW c1,qW c1,qW c2,qW c2,bi c3,qW c3,qX b,qX b,qX b]
 by_cases g:¬(fp f=true/\fp t=true/\f<=t)
 ·unfold ss ie;rw[qW c1,qW c1,qW c2,qW c2,bi c3,qW c3,qW b,qW b,qX g];unfold lG;simp only[fault_eq,qB,qT]
  cases o:fp f with
  |false=>rfl|true=>
   cases i:fp t with
   |false=>rfl|true=>
    rw[am,am,ap (by rw[o,i]at g;simp at g;exact g)];rfl
 have c:=Classical.not_not.1 g;have m:(ie z d r f t).1=0:=by
  unfold ie;rw[qW c1,qW c2,qW c3,qW b,qW g]
 obtain⟨_,s,h,j,_⟩:=JT m;obtain⟨_,n,_,_⟩:=EX r j;rw[qW c1,qW c2,bi c3,qW b,c.1,c.2.1,am,am]
 unfold lG;rw[bi (by have:=c.2.2;omega)]
 unfold lH C4 C5 ss;rw[qW (by simp[m]),qB]
 simp only[];rw[KM a Ta,qX h.ok,qB]
 simp only[];rw[qnn a p z s k e r n d h a 1501 0 0 [] Ta Ta Ta Ta Ta Te,qB]
 simp only[List.nil_append];rw[show jo (py z r d) r.2.2.2.2.1 r.2.2.2.1 r.2.2.1 1501 0 0=ur z r d from rfl]
 have u:=LN z r d;have v:=List.length_filter_le (fun t=>decide (t∉r.2.2.2.2.2.2.1)) (ur z r d)
 have w:=n.al;have x:((ur z r d).filter (fun t=>decide (t∉r.2.2.2.2.2.2.1))++r.2.2.2.2.2.2.2).length<=1801:=by rw[qM];omega
 rw[ap (by unfold ax;omega),qla a _ f t,qB]
 rw[qsn _ (Nat.le_trans (List.length_filter_le _ _) Ta),qB]
 unfold CA;rw[show ∀l,(ei l).length=l.length from fun l=>List.length_mergeSort l,ap (Nat.le_trans (List.length_filter_le _ _) (by unfold ax;omega)),none_eq]
 rfl
def RP(d:cd)(z:b9)(a:(ep z).1=0):ta d=some (la z d).1:=by
 rw[RQ];unfold la;rw[qW (c:=(ep z).1≠0) (by simp[a])]
 by_cases c1:¬du d
 ·rw[qX c1,qX c1]
 rw[qW c1,qW c1];by_cases c2:d.2.2.2.2.2.2≠0
 ·rw[qX c2,qX c2]
 rw[qW c2,qW c2];by_cases c3:¬(3<=d.1/\d.1<=3998)
 ·rw[qX c3,qX c3]
 rw[qW c3,qW c3]
def qgi(x a b:Int):cn x a b=some (g7 a b x):=by
 rw[zr1_in_eq];congr 1;unfold g7;rw[Bool.eq_iff_iff,decide_eq_true_iff,qA,decide_eq_true_iff,decide_eq_true_iff]
def qi9(g:Nat)(p:5000<=g)(z:b9)(m:(z.1.length:Int)<9223372036854775808)(j:z.1.length<g)(d:cd)(r:dz)(n:(r.2.2.2.2.2.1.length:Int)<9223372036854775808)(f t:Int) :
  sS g z d r f t=some (ie z d r f t):=by
 unfold sS ie;simp only[qsa g z m j,qB,gc,bW,qaz g Ta r n]
 by_cases c1:(ep z).1≠0
 ·rw[qX c1,qX c1]
 rw[qW c1,qW c1];simp only[RP d z (Classical.not_not.1 c1),qB];by_cases c2:(la z d).1.1≠0
 ·rw[qX c2,qX c2]
 rw[qW c2,qW c2];by_cases c3:3980<d.1
 ·rw[ap c3,qX c3]
 rw[bi c3,qW c3,lh];by_cases b:(kp r).1=0
 ·rw[qX b,qW (c:=¬_) (fun q=>q b),(EX r b).1,zr1_in_eq,zr1_in_eq]
  simp only[qB,jw];by_cases i:fp f=true/\fp t=true/\f<=t
  ·have e:(if ¬(fp f=true/\fp t=true/\f<=t) then((3,-12):fe) else(0,0))=(0,0):=qW (fun q=>q i)
   rw[e];obtain⟨a,h,o⟩:=i;unfold fp at a h;have k:=of_decide_eq_true a;have l:=of_decide_eq_true h;rw[qX k,qX ⟨o,l.2⟩]
  ·have e:(if ¬(fp f=true/\fp t=true/\f<=t) then((3,-12):fe) else(0,0))=(3,-12):=qX i
   rw[e];by_cases a : -68719476736<=f/\f<=68719476736
   ·rw[qX a];by_cases h:f<=t/\t<=68719476736
    ·exact absurd ⟨decide_eq_true a,decide_eq_true Ta,h.1⟩ i
    ·rw[qW h]
   ·rw[qW a]
 ·rw[qW b,qX b]
def cQ(f t:Int):List Int->List Int->List Int|[],l=>l|x::A,l=>cQ f t A (if g7 f t x=true then zg x l else l)
def KI(f t:Int):∀(A l:List Int),jj l->jj (cQ f t A l)/\∀x,x∈cQ f t A l↔x∈l\/(x∈A/\f<=x/\x<=t)
 |[],l,h=>⟨h,fun x=>by simp[cQ]⟩
 |y::A,l,h=>by
  unfold cQ;by_cases c:g7 f t y=true
  ·rw[qX c];obtain⟨e,g⟩:=qnk y l h;obtain⟨b,d⟩:=KI f t A _ e;refine⟨b,fun x => ?_⟩
   rw[d,g,wE];have a:f<=y/\y<=t:=by unfold g7 at c;simpa using c
   constructor
   ·rintro ((q|q)|q)
    ·subst q;exact .inr ⟨.inl rfl,a⟩
    ·exact .inl q
    ·exact .inr ⟨.inr q.1,q.2⟩
   ·rintro (q|⟨q|q,q2⟩)
    ·exact .inl (.inr q)
    ·exact .inl (.inl q)
    ·exact .inr ⟨q,q2⟩
  ·rw[qW c];obtain⟨b,d⟩:=KI f t A l h;refine⟨b,fun x => ?_⟩
   rw[d,wE];have a:¬(f<=y/\y<=t):=by unfold g7 at c;simpa using c
   constructor
   ·rintro (q|q)
    ·exact .inl q
    ·exact .inr ⟨.inr q.1,q.2⟩
   ·rintro (q|⟨q|q,q2⟩)
    ·exact .inl q
    ·subst q;exact absurd q2 a
    ·exact .inr ⟨q,q2⟩
def qhy(b:Nat)(j:5000<=b)(r:dz)(h:bQ r)(f t:Int):∀(n k:Nat)(l:List Int),k<=r.2.2.2.2.2.2.2.length->r.2.2.2.2.2.2.2.length-k<n->l.length<=2000+k ->
  sV b n f t l k r=some (cQ f t (r.2.2.2.2.2.2.2.drop k) l):=by
 have al:=h.al;intro n
 induction n with
 |zero=>intro k l d e;omega|succ n ih=>
  intro k l d e i;rw[sV,GI];by_cases c:k<r.2.2.2.2.2.2.2.length
  ·rw[ap,ef _ k c,qB,qgi,qB,au,List.drop_eq_getElem_cons c]
   unfold cQ;rw[qjd];by_cases g:g7 f t r.2.2.2.2.2.2.2[k]=true
   ·rw[qX g,qX g,qB,qnl b l _,qB]
    have:=qnj r.2.2.2.2.2.2.2[k] l;have a:=ih (k+1) (zg r.2.2.2.2.2.2.2[k] l) Ta Ta Ta
    rw[Int.natCast_add]at a;exact a
   ·rw[qW g,qW g];have a:=ih (k+1) l Ta Ta Ta
    rw[Int.natCast_add]at a;exact a
  ·rw[bi,List.drop_eq_nil_of_le Ta];rfl
def qma(b:Nat)(o:5000<=b)(r:dz)(j:bQ r)(f t:Int)(L:List Int)(q:L.length<=1501):∀(n k:Nat)(a:List Int),k<=L.length->L.length-k<n->a.length<=k ->
  sU b n f t k r L a=some (cQ f t r.2.2.2.2.2.2.2 (a++(L.drop k).filter (fun x=>g7 f t x&&decide (x∉r.2.2.2.2.2.2.1)))):=by
 have u:=j.xl;intro n
 induction n with
 |zero=>intro k a l m;omega|succ n ih=>
  intro k a l m p;rw[sU,GH];by_cases c:k<L.length
  ·rw[ap,zq,ef _ k c,qB,qgi,qB,List.drop_eq_getElem_cons c]
   unfold Br Bt;rw[au]
   simp only[zq,ef _ k c,qB,qF,KF b _ _ (show(r.2.2.2.2.2.2.1.length:Int)<9223372036854775808 by omega) (show r.2.2.2.2.2.2.1.length<b by omega)]
   have i:=fun d h=>ih (k+1) d Ta Ta h
   rw[Int.natCast_add]at i
   cases g:g7 f t L[k] with
   |false=>
    rw[am rfl];refine(i a Ta).trans ?_
    rw[List.filter_cons_of_neg (by simp[g])]
   |true=>
    rw[aq rfl,jw];by_cases e:L[k]∈r.2.2.2.2.2.2.1
    ·rw[qX e];refine(i a Ta).trans ?_
     rw[List.filter_cons_of_neg (by simp[e])]
    ·rw[qW e,ap (by unfold ax;simp;omega)]
     refine(i (a++[L[k]]) Td).trans ?_
     rw[List.filter_cons_of_pos (by simp[g,e]),qS];rfl
  ·rw[bi,List.drop_eq_nil_of_le Ta,List.filter_nil,List.append_nil]
   have s:a.length<=2000:=Ta
   have:=qhy b o r j f t b 0 a Ta (by have:=j.al;omega) Ta
   rw[List.drop_zero]at this;exact this
def qja(b:Nat)(g:5000<=b){z:b9}{d:cd}{r:dz}{f t:Int}(h:(ie z d r f t).1=0):Bq b z d r f t=some (mK z d r f t):=by
 obtain⟨_,l,a,i,_⟩:=JT h;obtain⟨_,k,_,_⟩:=EX r i;unfold Bq GN;have E:=a.day_bd;obtain⟨⟨A,G,B,C,H,I⟩,_⟩:=id a.ok;have F:=mw d.1 d.2.1;rw[yN b g _ _ _ A Ta B C,qB]
 have m:=qq0 b g z l r k d a b 1501 0 [] Ta Ta Ta Te
 rw[show bt d.1 d.2.1 d.2.2.1=cu d from rfl]
 rw[show cu d+0=cu d by omega]at m
 rw[m,qB,List.nil_append];rw[show jo (py z r d) r.2.2.2.2.1 r.2.2.2.1 r.2.2.1 1501 (([]:List Int).length:Int) 0=ur z r d from rfl]
 have w:=LN z r d;have j:=qma b g r k f t (ur z r d) w b 0 [] Ta Ta Te
 rw[List.drop_zero,List.nil_append]at j;refine Eq.trans j ?_;congr 1;have v:=qqz l r a;obtain⟨n,o⟩:=KI f t r.2.2.2.2.2.2.2 ((ur z r d).filter (fun x=>g7 f t x&&decide (x∉r.2.2.2.2.2.2.1))) (v.filter _)
 obtain⟨s,u⟩:=qjr (ur z r d) r.2.2.2.2.2.2.1 r.2.2.2.2.2.2.2 f t;refine qbw _ _ n s (fun x => ?_)
 rw[o,show x∈mK z d r f t↔_ from u x,List.mem_filter]
 unfold g7;simp only[qA,decide_eq_true_iff];constructor
 ·rintro (⟨p,⟨c,e⟩,y⟩|⟨p,q⟩)
  ·exact⟨.inl ⟨p,y⟩,c,e⟩
  ·exact⟨.inr p,q⟩
 ·rintro⟨⟨p,q⟩|p,c,e⟩
  ·exact .inl ⟨p,⟨c,e⟩,q⟩
  ·exact .inr ⟨p,c,e⟩
def qjs{z:b9}{d:cd}{r:dz}{f t:Int}(h:(ie z d r f t).1=0):(mK z d r f t).length<=1801:=by
 obtain⟨_,e,c,a,_⟩:=JT h;obtain⟨_,b,_,_⟩:=EX r a;unfold mK yF Ay li Lib.compact Lib.compactUpTo;have g:=LN z r d;have i:=List.length_filter_le (fun t=>decide (t∉r.2.2.2.2.2.2.1)) (ur z r d)
 have j:=b.al;rw[wC];refine Nat.le_trans (List.length_filter_le _ _) ?_;rw[List.length_range,show ∀l,(ei l).length=l.length from fun l=>List.length_mergeSort l]
 refine Nat.le_trans (List.length_filter_le _ _) ?_;rw[qM];omega
def uZ:b9:=([117],0,0,(0,0,0,0),(0,0,0,0))
def uD:cd:=(1970,1,1,0,0,0,0)
def uR:dz:=(1,1,3,0,false,[],[],[])
def qi8{z:b9}{d:cd}{r:dz}{f t:Int}(h:(ie z d r f t).1=0):ss z d r f t=((0,0),mK z d r f t):=by
 unfold ss;rw[qW (by simp[h])]
def qi7{z:b9}{d:cd}{r:dz}{f t:Int}(h:(ie z d r f t).1≠0):ss z d r f t=(ie z d r f t,[]):=by
 unfold ss;rw[qX h]
section
variable(fu:Nat)(hf:5000<=fu)(z:b9)(hs:(z.1.length:Int)<9223372036854775808)(hf2:z.1.length<fu)(d:cd)(r:dz)(hw:(r.2.2.2.2.2.1.length:Int)<9223372036854775808)
include hf hs hf2 hw
end
section
variable(fu:Nat)(hf:5000<=fu)(z:b9)(hs:(z.1.length:Int)<9223372036854775808)(hf2:z.1.length<fu)(d:cd)(r:dz)(hw:(r.2.2.2.2.2.1.length:Int)<9223372036854775808)
include hf hs hf2
end
end Go.Sym
namespace Go.Sym
abbrev mp:Type:=Bs×Int×Int×Bs×Bs×Bs×TM×Bs×cd×Int×dz
end Go.Sym
