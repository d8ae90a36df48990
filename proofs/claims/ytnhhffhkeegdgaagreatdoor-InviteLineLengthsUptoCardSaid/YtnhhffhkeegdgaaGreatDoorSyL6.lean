/- What the claim rests on, part 6: gathered texts. -/
import Derived.Lib.CountLaws
import Derived.Lib.IndexLaws
import Derived.Lib.Join
import Derived.Test.YtnhhffhkeegdgaaGreatDoorSyL4
set_option maxRecDepth 100000
set_option linter.defProp false
set_option linter.unusedSimpArgs false
set_option linter.unusedVariables false
namespace Go.Sym
def bn{x:Int}(h1 : -9223372036854775808<=x:=by omega)(h2:x<9223372036854775808:=by omega):af x=x:=by
 unfold af IntKind.wrap;simp[IntKind.signed,IntKind.bits];omega
def bi{α:Type}{b:Bool}{x y:α}(h:b=true:=by first|rfl|simp;done):(bif b then x else y)=x:=by subst h;rfl
def ar{α:Type}{b:Bool}{x y:α}(h:b=false:=by first|rfl|simp;done):(bif b then x else y)=y:=by subst h;rfl
def jk{α:Type}{p:Prop}[Decidable p]{x y:α}:(bif decide p then x else y)=if p then x else y:=by by_cases h:p<;>simp[h]
def ao{α:Type}{p:Prop}[Decidable p]{x y:α}(h:p):(bif decide p then x else y)=x:=bi (decide_eq_true h)
def bu{α:Type}{p:Prop}[Decidable p]{x y:α}(h:¬p:=by first|omega|simp;done|simp;omega):(bif decide p then x else y)=y:=ar (decide_eq_false h)
def qai{α:Type}{p:Prop}[Decidable p]{x y:α}:(bif !decide p then x else y)=if p then y else x:=by by_cases h:p<;>simp[h]
def im{α:Type}{a b:Int}{x y:α}:(bif a != b then x else y)=if a≠b then x else y:=by
 by_cases h:a=b
 ·rw[ar (by simp[h]),qW (by simp[h])]
 ·rw[bi (by simp[h]),qX h]
def qah{α:Type}{a b:Int}{x y:α}:(bif a==b then x else y)=if a=b then x else y:=by
 by_cases h:a=b
 ·rw[bi (by simp[h]),qX h]
 ·rw[ar (by simp[h]),qW h]
def zkl{α:Type}{a b:UInt8}{x y:α}:(bif a==b then x else y)=if a=b then x else y:=by
 by_cases h:a=b
 ·rw[bi (by simp[h]),qX h]
 ·rw[ar (by simp[h]),qW h]
def q0w{α:Type}{p:Prop}[Decidable p]{x y:α}:(if p then some x else some y)=some (if p then x else y):=by split<;>rfl
def zdb{α β:Type}(l:List α)(i:Int)(f:α->Option β):(bif decide (0<=i/\i.toNat<List.length l) then(l[i.toNat]?).bind f else none)=(am l i).bind f:=by
 unfold am;by_cases h:0<=i
 ·by_cases h2:i.toNat<l.length
  ·simp[h,h2]
  ·simp[h,h2]
 ·simp[h]
def vf{α:Type}(l:List α)(k:Nat)(h:k<l.length:=by omega):am l (k:Int)=some l[k]:=by
 unfold am;rw[qX];simp[h]
def jc{α:Type}(ab:List α)(c:α)(aa:List α):am (ab++c::aa) (ab.length:Int)=some c:=by
 unfold am;rw[qX];simp
def qoh{α:Type}(ab:List α)(c:α)(aa:List α):(ab++c::aa)[((ab.length:Nat):Int).toNat]? = some c:=oC
def qpo{α:Type}(ab:List α)(c d:α)(aa:List α):List.set (ab++c::aa) ((ab.length:Nat):Int).toNat d=ab++d::aa:=oC
def yl(k:Nat)(h:k<9223372036854775807:=by omega):af ((k:Int)+1)=((k+1:Nat):Int):=by rw[bn];omega
def uy(P:UInt8->Prop)(h:∀n:_root_.Fin 256,P (UInt8.ofNat n.val))(c:UInt8):P c:=by
 have:=h ⟨c.toNat,c.toNat_lt⟩;simpa using this
def lo(c:UInt8):UInt8:=if 65<=c/\c<=90 then c+32 else c
def bl(c:UInt8):Bool:=c==32||c==9
def zt4(n:Nat)(h:n<1000000000:=by omega):af (((n+1:Nat):Int)-1)=(n:Int):=by rw[bn];omega
def ztf{α:Type}(ab:List α)(aa:List α):List.take ((ab.length:Nat):Int).toNat (ab++aa)=ab:=oC
def q8w{α:Type}(ab:List α)(c:α)(aa:List α):List.drop ((ab.length+1:Nat):Int).toNat (ab++c::aa)=aa:=by
 rw[show((ab.length+1:Nat):Int).toNat=(ab++[c]).length by simp,show ab++c::aa=(ab++[c])++aa by simp]
 simp
def zop{α:Type}(ab:List α)(c:α)(aa:List α):((ab++c::aa).length:Int)=((ab.length+aa.length+1:Nat):Int):=by simp;omega
def zas{α:Type}(ab:List α)(aa:List α):((ab++aa).length:Int)=((ab.length+aa.length:Nat):Int):=oC
def qjv(k:UInt8):∀(s:List UInt8),(∃t r,s=t++k::r/\∀x∈t,x≠k)\/∀x∈s,x≠k
 |[] => .inr (fun _ h=>by cases h)
 |c::s=>by
  by_cases hc:c=k
  ·subst hc;exact .inl ⟨[],s,rfl,fun _ h=>by cases h⟩
  ·rcases qjv k s with⟨t,r,rfl,h⟩|h
   ·exact .inl ⟨c::t,r,rfl,fun x hx=>(List.mem_cons.1 hx).elim (fun e=>e▸hc) (h x)⟩
   ·exact .inr fun x hx=>(List.mem_cons.1 hx).elim (fun e=>e▸hc) (h x)
def zkm{α:Type}{x y:α}:(bif !false then x else y)=x:=rfl
def qdc{α:Type}{x y:α}:(bif !true then x else y)=y:=rfl
def qy1(c:UInt8):(c+97)-65=c+32:=by
 rw[UInt8.sub_eq_add_neg,UInt8.add_assoc];rfl
def qi8(fu:Nat):∀(n:Nat)(ab aa:List UInt8),aa.length<n->ab.length+aa.length<=9223372036854775807 ->
  ua fu n ((ab.length+aa.length:Nat):Int) (ab.length:Int) (ab++aa)=some (ab++aa.map lo)
 |0,_,_,h,_=>absurd h oA|n+1,ab,[],_,_=>by simp[ua,qcd]|n+1,ab,c::aa,h,hb=>by
  simp only[qL]at h hb;have ih:=fun d=>qi8 fu n (ab++[d]) aa oA oD
  simp only[qM,qL,qZ,qS,wM,wO]at ih;have e:((ab.length+(c::aa).length:Nat):Int)=((ab.length+1+aa.length:Nat):Int):=by simp only[qL];omega
  have hl:0<=(ab.length:Int)/\(ab.length:Int).toNat<(ab++c::aa).length:=oC
  rw[e];simp only[ua,qcd];rw[ao oA,ao hl,qoh,qB,qpo,yl _,jk,jk,ih,ih,ao hl,qB]
  unfold lo;simp only[List.map_cons,qy1];by_cases h1:(65:UInt8)<=c
  ·by_cases h2:c<=90
   ·simp[h1,h2]
   ·simp[h1,h2]
  ·simp[h1]
def qy6(fu:Nat)(s:List UInt8)(h:s.length<fu)(hb:s.length<=maxLen):zm fu s=some (s.map lo):=by
 unfold zm;rw[ao hb];have:=qi8 fu fu [] s h (by simpa [maxLen] using hb)
 simpa using this
def qem(x a b:Int):fj x a b=some (decide (a<=x/\x<=b)):=by
 unfold fj;by_cases h:a<=x<;>simp[h]
def zkv(fu:Nat)(a b:List UInt8)(ha:a.length<fu)(hb:b.length<fu)(ha':a.length<=maxLen)(hb':b.length<=maxLen):wn fu a b=some (a.map lo==b.map lo):=by
 unfold wn;rw[qah,qy6 fu a ha ha',qy6 fu b hb hb'];by_cases h:(a.length:Int)=b.length
 ·rw[qX h];rfl
 ·rw[qW h];have:(a.map lo==b.map lo)=false:=by
   rw[beq_eq_false_iff_ne];intro q;apply h;have:=congrArg List.length q;simp only[wC]at this;omega
  rw[this]
open Go.Lib (decodeL decodeN decodeL_N validD validD_step decodeL_le decodeL_width)
def rn(l:Bs):Int×Int:=if(decodeL l).1=65533/\(decodeL l).2=1 then(-1,1) else(((decodeL l).1:Nat),((decodeL l).2:Nat))
def qp8(a b:Nat)(h:a+b<9223372036854775808:=by omega):af ((a:Int)+(b:Int))=((a+b:Nat):Int):=by rw[bn];omega
def znt{α:Type}(ab l:List α)(k:Nat)(h:k<l.length):am (ab++l) ((ab.length+k:Nat):Int)=some l[k]:=by
 rw[vf _ _ oD];simp
def znu(ab l:Bs)(k:Nat)(h:k<l.length):am (ab++l) ((ab.length+k:Nat):Int)=some (l.getD k 0):=by
 rw[znt ab l k h];simp[List.getD,h]
def qei(fu n:Nat)(ab l:Bs)(size v least k:Nat)(hk:k<size:=by omega)(hl:k<l.length:=by omega)(hv:v<10000000:=by omega)(hb:ab.length+l.length<1000000000:=by omega)(hs:size<=4:=by omega) :
  tn fu (n+1) (ab++l) (ab.length:Int) (size:Int) (v:Int) (least:Int) (k:Int) =
   if 128<=(l.getD k 0).toNat/\(l.getD k 0).toNat<=191 then tn fu n (ab++l) (ab.length:Int) (size:Int) ((64*v+(l.getD k 0).toNat-128:Nat):Int) (least:Int) ((k+1:Nat):Int) else some (-1,1):=by
 have hc:(l.getD k 0).toNat<256:=(l.getD k 0).toNat_lt;rw[tn,qko,ao oA,qp8 _ _,znu ab l k hl,qB,qem,qB,yl k]
 generalize (l.getD k 0).toNat=x at hc;by_cases h:128<=x/\x<=191
 ·rw[qX h,decide_eq_true oA,qdc,show(64:Int)*(v:Int)=((64*v:Nat):Int) by omega,bn (x:=((64*v:Nat):Int)) oA oA,bn (x:=((64*v:Nat):Int)+(x:Int)) oA oA,bn]
  congr 1;omega
 ·rw[qW h,decide_eq_false oA,zkm]
def qz0(fu n:Nat)(s:Bs)(i:Int)(size v least:Nat) :
  tn fu (n+1) s i (size:Int) (v:Int) (least:Int) (size:Int)=if v<least\/1114111<v\/(55296<=v/\v<=57343) then some (-1,1) else some ((v:Int),(size:Int)):=by
 rw[tn,qko,bu]
 by_cases h1:v<least
 ·rw[ao oA,qX (.inl h1)]
 rw[bu]
 by_cases h2:1114111<v
 ·rw[ao oA,qX (.inr (.inl h2))]
 rw[bu,qem,qB]
 by_cases h3:55296<=v/\v<=57343
 ·rw[ao oA,qX (.inr (.inr h3))]
 ·rw[bu,qW oA]
def qzz(fu:Nat)(ab l:Bs)(size v least:Nat)(h:l.length<size)(hs:size<=4:=by omega)(hb:ab.length+l.length<1000000000:=by omega):tk fu (ab++l) (ab.length:Int) (size:Int) (v:Int) (least:Int)=some (-1,1):=by
 rw[tk,qah,qW oA,qp8 _ _,qfs,ao (by rw[zas];omega)]
def qzy(fu:Nat)(ab l:Bs)(size v least:Nat)(h:¬l.length<size)(h0:size≠0:=by omega)(hs:size<=4:=by omega)(hb:ab.length+l.length<1000000000:=by omega):tk fu (ab++l) (ab.length:Int) (size:Int) (v:Int) (least:Int)=tn fu fu (ab++l) (ab.length:Int) (size:Int) (v:Int) (least:Int) ((1:Nat):Int):=by
 rw[tk,qah,qW oA,qp8 _ _,qfs,bu (by rw[zas];omega)];rfl
def qim(x:Nat×Nat):Int×Int:=if x.1=65533/\x.2=1 then(-1,1) else((x.1:Nat),(x.2:Nat))
def qd0:qim (65533,1)=(-1,1):=rfl
def qx8(x k:Nat)(h:k≠1):qim (x,k)=((x:Int),(k:Int)):=qW (fun q=>h q.2)
def oq(n b0 b1 b2 b3:Nat):Int×Int:=qim (decodeN n b0 b1 b2 b3)
def zr1(n b0 b1 b2 b3:Nat)(h:b0<128):oq n b0 b1 b2 b3=((b0:Int),1):=by
 unfold oq decodeN;rw[qX h];unfold qim;rw[qW (fun q=>by have:=q.1;simp only at this;omega)];rfl
def zr2(n b0 b1 b2 b3:Nat)(h:192<=b0/\b0<=223)(h1:b1<256):oq n b0 b1 b2 b3=if n<2 then(-1,1) else if 128<=b1/\b1<=191 then(if(64*(b0-192)+b1-128)<128\/1114111<(64*(b0-192)+b1-128)\/(55296<=(64*(b0-192)+b1-128)/\(64*(b0-192)+b1-128)<=57343) then(-1,1) else(((64*(b0-192)+b1-128:Nat):Int),2)) else(-1,1):=by
 unfold oq decodeN;rw[qW (c:=b0<128) oA]
 by_cases a1:b0/32=6/\(1<n/\b1/64=2)
 ·rw[qX a1,qW (c:=n<2) oA,qX (c:=128<=b1/\b1<=191) oA]
  obtain⟨z,hz⟩:∃z,b0%32*64+b1%64=z:=⟨_,rfl⟩;obtain⟨y,hy⟩:∃y,64*(b0-192)+b1-128=y:=⟨_,rfl⟩;have hzy:z=y:=oA
  have hm:y<2048:=oA
  rw[hz,hy,hzy];by_cases a2:y ≥ 128
  ·rw[qX a2,qx8 _ _ oE,qW oA];rfl
  ·rw[qW a2,qd0,qX]
 ·rw[qW a1,qW (c:=b0/16=14/\_) oA,qW (c:=b0/8=30/\_) oA,qd0]
  by_cases a3:n<2
  ·rw[qX a3]
  ·rw[qW a3,qW oA]
def zr3(n b0 b1 b2 b3:Nat)(h:224<=b0/\b0<=239)(h1:b1<256)(h2:b2<256):oq n b0 b1 b2 b3=if n<3 then(-1,1) else if 128<=b1/\b1<=191 then(if 128<=b2/\b2<=191 then(if(64*(64*(b0-224)+b1-128)+b2-128)<2048\/1114111<(64*(64*(b0-224)+b1-128)+b2-128)\/(55296<=(64*(64*(b0-224)+b1-128)+b2-128)/\(64*(64*(b0-224)+b1-128)+b2-128)<=57343) then(-1,1) else(((64*(64*(b0-224)+b1-128)+b2-128:Nat):Int),3)) else(-1,1)) else(-1,1):=by
 unfold oq decodeN;rw[qW (c:=b0<128) oA,qW (c:=b0/32=6/\_) oA]
 by_cases a1:b0/16=14/\(1<n/\b1/64=2)/\(2<n/\b2/64=2)
 ·rw[qX a1,qW (c:=n<3) oA,qX (c:=128<=b1/\b1<=191) oA,qX (c:=128<=b2/\b2<=191) oA]
  obtain⟨z,hz⟩:∃z,b0%16*4096+b1%64*64+b2%64=z:=⟨_,rfl⟩;obtain⟨y,hy⟩:∃y,64*(64*(b0-224)+b1-128)+b2-128=y:=⟨_,rfl⟩;have hzy:z=y:=oA
  have hm:y<65536:=oA
  rw[hz,hy,hzy];by_cases a2:y ≥ 2048/\(y<55296\/(57344<=y/\y<=1114111))
  ·rw[qX a2,qx8 _ _ oE,qW oA];rfl
  ·rw[qW a2,qd0,qX]
 ·rw[qW a1,qW (c:=b0/8=30/\_) oA,qd0]
  by_cases a3:n<3
  ·rw[qX a3]
  ·rw[qW a3];by_cases a4:128<=b1/\b1<=191
   ·rw[qX a4,qW oA]
   ·rw[qW a4]
def zr4(n b0 b1 b2 b3:Nat)(h:240<=b0/\b0<=247)(h1:b1<256)(h2:b2<256)(h3:b3<256):oq n b0 b1 b2 b3=if n<4 then(-1,1) else if 128<=b1/\b1<=191 then(if 128<=b2/\b2<=191 then(if 128<=b3/\b3<=191 then(if(64*(64*(64*(b0-240)+b1-128)+b2-128)+b3-128)<65536\/1114111<(64*(64*(64*(b0-240)+b1-128)+b2-128)+b3-128)\/(55296<=(64*(64*(64*(b0-240)+b1-128)+b2-128)+b3-128)/\(64*(64*(64*(b0-240)+b1-128)+b2-128)+b3-128)<=57343) then(-1,1) else(((64*(64*(64*(b0-240)+b1-128)+b2-128)+b3-128:Nat):Int),4)) else(-1,1)) else(-1,1)) else(-1,1):=by
 unfold oq decodeN;rw[qW (c:=b0<128) oA,qW (c:=b0/32=6/\_) oA,qW (c:=b0/16=14/\_) oA]
 by_cases a1:b0/8=30/\(1<n/\b1/64=2)/\(2<n/\b2/64=2)/\(3<n/\b3/64=2)
 ·rw[qX a1,qW (c:=n<4) oA,qX (c:=128<=b1/\b1<=191) oA,qX (c:=128<=b2/\b2<=191) oA,qX (c:=128<=b3/\b3<=191) oA]
  obtain⟨z,hz⟩:∃z,b0%8*262144+b1%64*4096+b2%64*64+b3%64=z:=⟨_,rfl⟩;obtain⟨y,hy⟩:∃y,64*(64*(64*(b0-240)+b1-128)+b2-128)+b3-128=y:=⟨_,rfl⟩;have hzy:z=y:=oA
  rw[hz,hy,hzy];by_cases a2:y ≥ 65536/\(y<55296\/(57344<=y/\y<=1114111))
  ·rw[qX a2,qx8 _ _ oE,qW oA];rfl
  ·rw[qW a2,qd0,qX]
 ·rw[qW a1,qd0];by_cases a3:n<4
  ·rw[qX a3]
  ·rw[qW a3];by_cases a4:128<=b1/\b1<=191
   ·rw[qX a4];by_cases a5:128<=b2/\b2<=191
    ·rw[qX a5,qW oA]
    ·rw[qW a5]
   ·rw[qW a4]
def zr5(n b0 b1 b2 b3:Nat)(h:(128<=b0/\b0<192)\/248<=b0)(hb:b0<256):oq n b0 b1 b2 b3=(-1,1):=by
 unfold oq decodeN;rw[qW (c:=b0<128) oA,qW (c:=b0/32=6/\_) oA,qW (c:=b0/16=14/\_) oA,qW (c:=b0/8=30/\_) oA];rfl
def zrj(l:Bs):rn l=oq l.length (l.getD 0 0).toNat (l.getD 1 0).toNat (l.getD 2 0).toNat (l.getD 3 0).toNat:=by unfold rn oq qim;rw[decodeL_N]
def zr6(fu:Nat)(hfu:10<=fu)(ab:Bs)(c:UInt8)(t:Bs)(hb:ab.length+t.length<100000000:=by omega):qkn fu (ab++c::t) (ab.length:Int)=some (rn (c::t)):=by
 have hl:(c::t).length=t.length+1:=rfl;obtain⟨n,rfl⟩:∃n,fu=n+10:=⟨fu-10,oA⟩
 rw[zrj,show(c::t).getD 0 0=c from rfl]
 generalize hl2:c::t=l at *;have b1:=(l.getD 1 0).toNat_lt;have b2:=(l.getD 2 0).toNat_lt;have b3:=(l.getD 3 0).toNat_lt;have hc:=c.toNat_lt;unfold qkn;rw[show am (ab++l) (ab.length:Int)=some c by rw[← hl2];exact jc ab c t,qB]
 by_cases h0:c.toNat<128
 ·rw[ao oA,zr1 _ _ _ _ _ h0]
 rw[bu,qem,qB]
 by_cases h2:192<=c.toNat/\c.toNat<=223
 ·rw[ao oA,zr2 _ _ _ _ _ h2 b1,bn,show(c.toNat:Int)-192=((c.toNat-192:Nat):Int) by omega]
  by_cases g:l.length<2
  ·rw[qX g];exact qzz (n+10) ab l 2 _ 128 g
  ·rw[qW g];refine(qzy (n+10) ab l 2 _ 128 g).trans ?_
   rw[qei (n+10) (n+9) ab l 2 _ 128 1]
   by_cases g1:128<=(l.getD 1 0).toNat/\(l.getD 1 0).toNat<=191
   ·rw[qX g1,qX g1];refine(qz0 (n+10) (n+8) _ _ 2 _ 128).trans ?_;rw[q0w];rfl
   ·rw[qW g1,qW g1]
 rw[bu,qem,qB]
 by_cases h3:224<=c.toNat/\c.toNat<=239
 ·rw[ao oA,zr3 _ _ _ _ _ h3 b1 b2,bn,show(c.toNat:Int)-224=((c.toNat-224:Nat):Int) by omega]
  by_cases g:l.length<3
  ·rw[qX g];exact qzz (n+10) ab l 3 _ 2048 g
  ·rw[qW g];refine(qzy (n+10) ab l 3 _ 2048 g).trans ?_
   rw[qei (n+10) (n+9) ab l 3 _ 2048 1]
   by_cases g1:128<=(l.getD 1 0).toNat/\(l.getD 1 0).toNat<=191
   ·rw[qX g1,qX g1,qei (n+10) (n+8) ab l 3 _ 2048 2]
    by_cases g2:128<=(l.getD 2 0).toNat/\(l.getD 2 0).toNat<=191
    ·rw[qX g2,qX g2];refine(qz0 (n+10) (n+7) _ _ 3 _ 2048).trans ?_;rw[q0w];rfl
    ·rw[qW g2,qW g2]
   ·rw[qW g1,qW g1]
 rw[bu,qem,qB]
 by_cases h4:240<=c.toNat/\c.toNat<=247
 ·rw[ao oA,zr4 _ _ _ _ _ h4 b1 b2 b3,bn,show(c.toNat:Int)-240=((c.toNat-240:Nat):Int) by omega]
  by_cases g:l.length<4
  ·rw[qX g];exact qzz (n+10) ab l 4 _ 65536 g
  ·rw[qW g];refine(qzy (n+10) ab l 4 _ 65536 g).trans ?_
   rw[qei (n+10) (n+9) ab l 4 _ 65536 1]
   by_cases g1:128<=(l.getD 1 0).toNat/\(l.getD 1 0).toNat<=191
   ·rw[qX g1,qX g1,qei (n+10) (n+8) ab l 4 _ 65536 2]
    by_cases g2:128<=(l.getD 2 0).toNat/\(l.getD 2 0).toNat<=191
    ·rw[qX g2,qX g2,qei (n+10) (n+7) ab l 4 _ 65536 3]
     by_cases g3:128<=(l.getD 3 0).toNat/\(l.getD 3 0).toNat<=191
     ·rw[qX g3,qX g3];refine(qz0 (n+10) (n+6) _ _ 4 _ 65536).trans ?_;rw[q0w];rfl
     ·rw[qW g3,qW g3]
    ·rw[qW g2,qW g2]
   ·rw[qW g1,qW g1]
 rw[bu,zr5 _ _ _ _ _ oA hc]
 rfl
def zc9(l:Bs):(rn l).1<0↔((decodeL l).1=65533/\(decodeL l).2=1):=by
 unfold rn;split
 ·rename_i h;exact⟨fun _=>h,fun _=>oE⟩
 ·rename_i h;exact⟨fun q=>absurd q (by simp only;omega),fun q=>absurd q h⟩
def zrk(l:Bs):(rn l).2=((decodeL l).2:Int):=by
 unfold rn;split
 ·rename_i h;rw[h.2];rfl
 ·rfl
def ztz(fu n:Nat)(hfu:10<=fu):∀(ab aa:Bs),aa.length<n->ab.length+aa.length<100000000->qft fu n (ab++aa) (ab.length:Int)=some (validD aa):=by
 induction n with
 |zero=>intro ab aa h;omega|succ n ih=>
  intro ab aa h hb;rw[qft,qq4]
  cases aa with
  |nil=>rw[bu];rfl|cons c t=>
   have hw:=decodeL_width (c::t);have hle:=decodeL_le (c::t) oC
   simp only[qL]at h hb;rw[ao (by rw[zop];omega),zr6 fu hfu ab c t,qB,validD_step (c::t) oC]
   by_cases hbad:(decodeL (c::t)).1=65533/\(decodeL (c::t)).2=1
   ·rw[ao ((zc9 _).2 hbad),qX hbad]
   ·rw[bu (fun q=>hbad ((zc9 _).1 q)),qW hbad,zrk,qp8 _ _ (by simp only[qL]at hle;omega)]
    have:=ih (ab++(c::t).take (decodeL (c::t)).2) ((c::t).drop (decodeL (c::t)).2) (by rw[List.length_drop];simp only[qL];omega) (by rw[qM,List.length_take,List.length_drop];simp only[qL]at hle ⊢;omega)
    rw[qS,List.take_append_drop,qM,List.length_take,Nat.min_eq_left hle]at this;exact this
def zr8(fu:Nat)(hfu:10<=fu)(s:Bs)(h:s.length<fu)(hb:s.length<100000000):qkp fu s=some (validD s):=by
 have:=ztz fu fu hfu [] s h (by simpa using hb)
 simpa [qkp] using this
end Go.Sym
namespace Go.Sym

open Go.Lib (decodeL decodeN decodeL_N decodeL_le decodeL_width validD validD_step)
def fv(c:Nat):Bs:=if c<128 then[UInt8.ofNat c] else if c<2048 then[UInt8.ofNat (192+c/64),UInt8.ofNat (128+c%64)] else if c<65536 then[UInt8.ofNat (224+c/4096),UInt8.ofNat (128+c/64%64),UInt8.ofNat (128+c%64)] else[UInt8.ofNat (240+c/262144),UInt8.ofNat (128+c/4096%64),UInt8.ofNat (128+c/64%64),UInt8.ofNat (128+c%64)]
def qb(c:Nat):Prop:=c<55296\/(57344<=c/\c<=1114111)
def q8y{c:Nat}:1<=(fv c).length/\(fv c).length<=4:=by
 unfold fv;repeat' split
 all_goals simp
def zmq{c:Nat}:fv c≠[]:=fun q=>by have:=q8y (c:=c);rw[q]at this;simp at this
def sk(n:Nat)(h:n<256:=by omega):(UInt8.ofNat n).toNat=n:=by rw[UInt8.toNat_ofNat'];omega
def zl3{c:Nat}(h:qb c)(t:Bs):decodeL (fv c++t)=(c,(fv c).length):=by
 unfold qb at h;rw[decodeL_N];unfold fv;by_cases h1:c<128
 ·rw[qX h1];show decodeN (t.length+1) (UInt8.ofNat c).toNat _ _ _=_;rw[sk c]
  unfold decodeN;rw[qX h1];rfl
 rw[qW h1];by_cases h2:c<2048
 ·rw[qX h2];show decodeN (t.length+1+1) (UInt8.ofNat (192+c/64)).toNat (UInt8.ofNat (128+c%64)).toNat _ _=_;rw[sk _,sk _]
  unfold decodeN;rw[qW oA,qX ⟨oA,oA,oA⟩,qX,show(192+c/64)%32*64+(128+c%64)%64=c by omega];rfl
 rw[qW h2];by_cases h3:c<65536
 ·rw[qX h3];show decodeN (t.length+1+1+1) (UInt8.ofNat (224+c/4096)).toNat (UInt8.ofNat (128+c/64%64)).toNat (UInt8.ofNat (128+c%64)).toNat _=_;rw[sk _,sk _,sk _]
  have e:(224+c/4096)%16*4096+(128+c/64%64)%64*64+(128+c%64)%64=c:=oA
  unfold decodeN;rw[qW oA,qW oA,qX ⟨oA,⟨oA,oA⟩,oA,oA⟩,e,qX ⟨oA,oA⟩];rfl
 ·rw[qW h3];show decodeN (t.length+1+1+1+1) (UInt8.ofNat (240+c/262144)).toNat (UInt8.ofNat (128+c/4096%64)).toNat (UInt8.ofNat (128+c/64%64)).toNat (UInt8.ofNat (128+c%64)).toNat=_;rw[sk _,sk _,sk _,sk _]
  have e:(240+c/262144)%8*262144+(128+c/4096%64)%64*4096+(128+c/64%64)%64*64+(128+c%64)%64=c:=oA
  unfold decodeN;rw[qW oA,qW oA,qW oA,qX ⟨oA,⟨oA,oA⟩,⟨oA,oA⟩,oA,oA⟩,e,qX ⟨oA,oA⟩];rfl
def tx(R:List Nat):Bs:=R.flatMap fv
def zer:tx []=[]:=rfl
def qet(c:Nat)(R:List Nat):tx (c::R)=fv c++tx R:=by simp[tx]
def ztm(R S:List Nat):tx (R++S)=tx R++tx S:=by simp[tx]
def okT(R:List Nat):Prop:=∀c∈R,qb c
def zb2{c:Nat}{R:List Nat}(h:okT (c::R)):qb c/\okT R:=⟨h c qH,fun d hd=>h d (qE _ hd)⟩
def zl5(l:Bs)(hne:l≠[])(hv:¬((decodeL l).1=65533/\(decodeL l).2=1)):qb (decodeL l).1:=by
 have k:=Lib.decodeL_rune l;rw[decodeL_N]at *;unfold qb;unfold decodeN at *
 repeat' split at hv
 all_goals repeat' split
 all_goals simp only at *
 all_goals omega
def zmr{c:Nat}(h:qb c):Lib.encodeRune (c:Int)=fv c:=by
 unfold qb at h;unfold Lib.encodeRune fv;by_cases h1:c<128
 ·rw[Lib.encodeRuneZ_one oA oA,qX h1];rfl
 rw[qW h1];by_cases h2:c<2048
 ·rw[Lib.encodeRuneZ_two oA oA,qX h2];rfl
 rw[qW h2];by_cases h3:c<65536
 ·rw[Lib.encodeRuneZ_three oA,qX h3];rfl
 ·rw[Lib.encodeRuneZ_four oA oA,qW h3];rfl
def qp4:∀(n:Nat)(l:Bs),l.length<=n->validD l=true->∃R,okT R/\l=tx R:=by
 intro n
 induction n with
 |zero=>
  intro l hl _;have:l=[]:=List.eq_nil_of_length_eq_zero oA
  exact⟨[],(fun c hc=>by cases hc),this⟩
 |succ n ih=>
  intro l hl hv;by_cases hne:l=[]
  ·exact⟨[],(fun c hc=>by cases hc),hne⟩
  ·rw[validD_step l hne]at hv;split at hv
   ·cases hv
   ·rename_i hg;have w:=decodeL_width l;have wl:=decodeL_le l hne;obtain⟨R,h1,h2⟩:=ih (l.drop (decodeL l).2) (by rw[List.length_drop];omega) hv
    have ho:=zl5 l hne hg;refine⟨(decodeL l).1::R,?_,?_⟩
    ·intro c hc;rcases List.mem_cons.1 hc with rfl|hc
     ·exact ho
     ·exact h1 c hc
    ·rw[qet,← h2];have e:=Lib.encode_decode l hne hg;rw[zmr ho]at e;rw[e,List.take_append_drop]
end Go.Sym
namespace Go.Sym
def q7n(c:UInt8):qgc c=some (bl c):=by unfold qgc bl;cases c==32<;>rfl
def n9(f:Int×Int):d5 f=some (f.1 != 0):=rfl

open Go.Lib (validD)
abbrev Prm:Type:=Bs×Bs
def SmP(l:List Prm):Prop:=l.length<=4000000/\∀x∈l,x.1.length<=4000000/\x.2.length<=4000000
def lk(a b:Bs):Bool:=a.map lo==b.map lo
def qpm(fu:Nat)(hfu:90000000<=fu)(a b:Bs)(ha:a.length<=4000000)(hb:b.length<=4000000):wn fu a b=some (lk a b):=
 zkv fu a b oA oA (by simp[maxLen];omega) (by simp[maxLen];omega)
def SmP.mono{l l':List Prm}(h:SmP l)(h1:l'.length<=l.length)(h2:∀x∈l',x∈l):SmP l':=⟨Nat.le_trans h1 h.1,fun x hx=>h.2 x (h2 x hx)⟩
end Go.Sym
namespace Go.Sym
end Go.Sym
namespace Go.Sym.Tr
def lo(c:UInt8):UInt8:=if 65<=c/\c<=90 then c+32 else c
def qy1(c:UInt8):(c+97)-65=c+32:=by
 rw[UInt8.sub_eq_add_neg,UInt8.add_assoc];rfl
def qi8(fu:Nat):∀(n:Nat)(ab aa:List UInt8),aa.length<n->ab.length+aa.length<=9223372036854775807 ->
  ua fu n ((ab.length+aa.length:Nat):Int) (ab.length:Int) (ab++aa)=some (ab++aa.map lo)
 |0,_,_,h,_=>absurd h oA|n+1,ab,[],_,_=>by simp[ua,qcd]|n+1,ab,c::aa,h,hb=>by
  simp only[qL]at h hb;have ih:=fun d=>qi8 fu n (ab++[d]) aa oA oD
  simp only[qM,qL,qZ,qS,wM,wO]at ih;have e:((ab.length+(c::aa).length:Nat):Int)=((ab.length+1+aa.length:Nat):Int):=by simp only[qL];omega
  have hl:0<=(ab.length:Int)/\(ab.length:Int).toNat<(ab++c::aa).length:=oC
  rw[e];simp only[ua,qcd];rw[ao oA,ao hl,qoh,qB,qpo,yl _,jk,jk,ih,ih,ao hl,qB]
  unfold lo;simp only[List.map_cons,qy1];by_cases h1:(65:UInt8)<=c
  ·by_cases h2:c<=90
   ·simp[h1,h2]
   ·simp[h1,h2]
  ·simp[h1]
def qy6(fu:Nat)(s:List UInt8)(h:s.length<fu)(hb:s.length<=maxLen):zm fu s=some (s.map lo):=by
 unfold zm;rw[ao hb];have:=qi8 fu fu [] s h (by simpa [maxLen] using hb)
 simpa using this
def qem(x a b:Int):fj x a b=some (decide (a<=x/\x<=b)):=by
 unfold fj;by_cases h:a<=x<;>simp[h]
end Go.Sym.Tr
namespace Go.Sym.Tr
def wr(m:UInt8)(col i:Nat):List UInt8->Int|[] => -1|c::r=>if(c==13&&r.head? == some 10)=true then wr m 0 (i+2) r.tail else if c=0\/c=13\/c=10\/m<c\/col=998 then(i:Int) else wr m (col+1) (i+1) r
termination_by l=>l.length
decreasing_by all_goals (simp only[qL,List.length_tail];omega)
end Go.Sym.Tr
namespace Go.Sym.Tr
def mp:List UInt8:=[65,66,67,68,69,70,71,72,73,74,75,76,77,78,79,80,81,82,83,84,85,86,87,88,89,90,97,98,99,100,101,102,103,104,105,106,107,108,109,110,111,112,113,114,115,116,117,118,119,120,121,122,48,49,50,51,52,53,54,55,56,57,43,47]
def al(k:Nat):UInt8:=mp.getD k 0
def qm5(k:Nat)(h:k<64:=by omega):am mp (k:Int)=some (al k):=by
 have h':k<mp.length:=h;rw[vf _ _ h'];unfold al;simp[h']
def c0(x:Nat):UInt8:=al (x/262144%64)
def c1(x:Nat):UInt8:=al (x/4096%64)
def c2(x:Nat):UInt8:=al (x/64%64)
def c3(x:Nat):UInt8:=al (x%64)
def e64:List UInt8->List UInt8|[]=>[]|[a]=>[c0 (a.toNat*65536),c1 (a.toNat*65536),61,61]|[a,b]=>[c0 (a.toNat*65536+b.toNat*256),c1 (a.toNat*65536+b.toNat*256),c2 (a.toNat*65536+b.toNat*256),61]|a::b::c::r=>c0 (a.toNat*65536+b.toNat*256+c.toNat)::c1 (a.toNat*65536+b.toNat*256+c.toNat)::c2 (a.toNat*65536+b.toNat*256+c.toNat)::c3 (a.toNat*65536+b.toNat*256+c.toNat)::e64 r
def sj(x:Nat)(h:x<18446744073709551616:=by omega):(BitVec.ofInt 64 (x:Int)).toNat=x:=by
 rw[BitVec.toNat_ofInt];omega
def qpp(x:Nat)(h:x<1099511627776:=by omega):af ((x:Int)*2 ^ min (8:Int).toNat 64)=((256*x:Nat):Int):=by
 rw[show(2:Int) ^ min (8:Int).toNat 64=256 by decide,bn];omega
def or8(x y:Nat)(h:x<1099511627776:=by omega)(hy:y<256:=by omega):af (((BitVec.ofInt 64 (af ((x:Int)*2 ^ min (8:Int).toNat 64))|||BitVec.ofInt 64 (y:Int)).toNat:Int))=((256*x+y:Nat):Int):=by
 rw[qpp x h,BitVec.toNat_or,sj _,sj _]
 have:=Nat.two_pow_add_eq_or_of_lt (i:=8) (b:=y) (by simpa using hy) x
 rw[← show 2 ^ 8*x+y=256*x|||y from this]
 rw[bn]
def or0(y:Nat)(hy:y<256:=by omega):af (((BitVec.ofInt 64 (0:Int)|||BitVec.ofInt 64 (y:Int)).toNat:Int))=(y:Int):=by
 have h0:(BitVec.ofInt 64 (0:Int)).toNat=0:=sj 0
 rw[BitVec.toNat_or,h0,sj _,Nat.zero_or,bn]
def qm8(x k:Nat)(p:Int)(hp:p=(k:Int))(hk:k<=30)(h:x<1099511627776):af (((BitVec.ofInt 64 (Int.fdiv (x:Int) (2 ^ min p.toNat 64))&&&BitVec.ofInt 64 (63:Int)).toNat:Int))=((x/2 ^ k%64:Nat):Int):=by
 subst hp;have e1:min (k:Int).toNat 64=k:=oA
 have e2:Int.fdiv (x:Int) (2 ^ k)=((x/2 ^ k:Nat):Int):=by
  rw[Int.fdiv_eq_ediv_of_nonneg _ (by exact Int.le_of_lt (Int.pow_pos oE))]
  simp
 have hle:x/2 ^ k<=x:=Nat.div_le_self _ _;have h63:(BitVec.ofInt 64 (63:Int)).toNat=63:=sj 63
 rw[e1,e2,BitVec.toNat_and,sj _,h63]
 have:=Nat.and_two_pow_sub_one_eq_mod (x/2 ^ k) 6;rw[show(63:Nat)=2 ^ 6-1 by decide,this,show(2:Nat) ^ 6=64 by decide]
 rw[bn]
def qwi(x:Nat)(h:x<1099511627776):am mp (af (((BitVec.ofInt 64 (Int.fdiv (x:Int) (2 ^ min (18:Int).toNat 64))&&&BitVec.ofInt 64 (63:Int)).toNat:Int)))=some (c0 x):=by
 rw[qm8 x 18 18 rfl oA h,qm5 _];rfl
def qwh(x:Nat)(h:x<1099511627776):am mp (af (((BitVec.ofInt 64 (Int.fdiv (x:Int) (2 ^ min (12:Int).toNat 64))&&&BitVec.ofInt 64 (63:Int)).toNat:Int)))=some (c1 x):=by
 rw[qm8 x 12 12 rfl oA h,qm5 _];rfl
def qwj(x:Nat)(h:x<1099511627776):am mp (af (((BitVec.ofInt 64 (Int.fdiv (x:Int) (2 ^ min (6:Int).toNat 64))&&&BitVec.ofInt 64 (63:Int)).toNat:Int)))=some (c2 x):=by
 rw[qm8 x 6 6 rfl oA h,qm5 _];rfl
def qwg(x:Nat)(h:x<1099511627776):am mp (af (((BitVec.ofInt 64 (Int.fdiv (x:Int) (2 ^ min (0:Int).toNat 64))&&&BitVec.ofInt 64 (63:Int)).toNat:Int)))=some (c3 x):=by
 rw[qm8 x 0 0 rfl oA h,qm5 _];unfold c3;simp
def ym(r0:List UInt8->Int->List UInt8->Option (List UInt8×Int×List UInt8))(k:Nat)(p0 p1 p2 p3:UInt8)(m1:List UInt8)(m3:Int)(m16:List UInt8):Option (List UInt8×Int×List UInt8):=
 (gp p0 p1 p2 p3 m3 m16).bind fun v=>r0 (m1.drop k) v.1 v.2
def zpv(fu:Nat)(r0:List UInt8->Int->List UInt8->Option (List UInt8×Int×List UInt8))(x:Nat)(hx:x<1099511627776)(m1:List UInt8)(h:1<=m1.length)(m3:Int)(m16:List UInt8) :
  t8 fu r0 1 (x:Int) m1 m3 m16=ym r0 1 (c0 x) (c1 x) 61 61 m1 m3 m16:=by
 unfold t8;rw[show([65,66,67,68,69,70,71,72,73,74,75,76,77,78,79,80,81,82,83,84,85,86,87,88,89,90,97,98,99,100,101,102,103,104,105,106,107,108,109,110,111,112,113,114,115,116,117,118,119,120,121,122,48,49,50,51,52,53,54,55,56,57,43,47]:List UInt8)=mp from rfl]
 rw[qwi x hx,qwh x hx,qwj x hx,qwg x hx];simp only[qB,bu (show ¬(1:Int)<0 by decide),bu (show ¬(1:Int)<1 by decide),ao (show(1:Int)<2 by decide),ao (show(1:Int)<3 by decide),ao (show 0<=(1:Int)/\(1:Int)<=(m1.length:Int) by omega)]
 rfl
def zpw(fu:Nat)(r0:List UInt8->Int->List UInt8->Option (List UInt8×Int×List UInt8))(x:Nat)(hx:x<1099511627776)(m1:List UInt8)(h:2<=m1.length)(m3:Int)(m16:List UInt8) :
  t8 fu r0 2 (x:Int) m1 m3 m16=ym r0 2 (c0 x) (c1 x) (c2 x) 61 m1 m3 m16:=by
 unfold t8;rw[show([65,66,67,68,69,70,71,72,73,74,75,76,77,78,79,80,81,82,83,84,85,86,87,88,89,90,97,98,99,100,101,102,103,104,105,106,107,108,109,110,111,112,113,114,115,116,117,118,119,120,121,122,48,49,50,51,52,53,54,55,56,57,43,47]:List UInt8)=mp from rfl]
 rw[qwi x hx,qwh x hx,qwj x hx,qwg x hx];simp only[qB,bu (show ¬(2:Int)<0 by decide),bu (show ¬(2:Int)<1 by decide),bu (show ¬(2:Int)<2 by decide),ao (show(2:Int)<3 by decide),ao (show 0<=(2:Int)/\(2:Int)<=(m1.length:Int) by omega)]
 rfl
def zpx(fu:Nat)(r0:List UInt8->Int->List UInt8->Option (List UInt8×Int×List UInt8))(x:Nat)(hx:x<1099511627776)(m1:List UInt8)(h:3<=m1.length)(m3:Int)(m16:List UInt8) :
  t8 fu r0 3 (x:Int) m1 m3 m16=ym r0 3 (c0 x) (c1 x) (c2 x) (c3 x) m1 m3 m16:=by
 unfold t8;rw[show([65,66,67,68,69,70,71,72,73,74,75,76,77,78,79,80,81,82,83,84,85,86,87,88,89,90,97,98,99,100,101,102,103,104,105,106,107,108,109,110,111,112,113,114,115,116,117,118,119,120,121,122,48,49,50,51,52,53,54,55,56,57,43,47]:List UInt8)=mp from rfl]
 rw[qwi x hx,qwh x hx,qwj x hx,qwg x hx];simp only[qB,bu (show ¬(3:Int)<0 by decide),bu (show ¬(3:Int)<1 by decide),bu (show ¬(3:Int)<2 by decide),bu (show ¬(3:Int)<3 by decide),ao (show 0<=(3:Int)/\(3:Int)<=(m1.length:Int) by omega)]
 rfl
def zkc(fu:Nat)(r0:List UInt8->Int->List UInt8->Option (List UInt8×Int×List UInt8))(a:UInt8)(m3:Int)(m16:List UInt8) :
  t7 fu r0 [a] m3 m16=ym r0 1 (c0 (a.toNat*65536)) (c1 (a.toNat*65536)) 61 61 [a] m3 m16:=by
 have ha:=a.toNat_lt;unfold t7;have hm:(if(List.length [a]:Int)<3 then(List.length [a]:Int) else 3)=1:=rfl
 rw[hm,ao (show(0:Int)<(List.length [a]:Int) by simp),ao (show(0:Int)<1 by decide)]
 rw[show am [a] 0=some a from rfl,qB,or0 _]
 unfold qb7;rw[bu (show ¬(1:Int)<1 by decide),qpp _]
 unfold qb8;rw[bu (show ¬(2:Int)<1 by decide),qpp _,zpv _ _ _ oA _ oC]
 rw[show 256*(256*a.toNat)=a.toNat*65536 by omega]
def zkd(fu:Nat)(r0:List UInt8->Int->List UInt8->Option (List UInt8×Int×List UInt8))(a b:UInt8)(m3:Int)(m16:List UInt8) :
  t7 fu r0 [a,b] m3 m16=ym r0 2 (c0 (a.toNat*65536+b.toNat*256)) (c1 (a.toNat*65536+b.toNat*256)) (c2 (a.toNat*65536+b.toNat*256)) 61 [a,b] m3 m16:=by
 have ha:=a.toNat_lt;have hb:=b.toNat_lt;unfold t7;have hm:(if(List.length [a,b]:Int)<3 then(List.length [a,b]:Int) else 3)=2:=rfl
 rw[hm,ao (show(0:Int)<(List.length [a,b]:Int) by simp),ao (show(0:Int)<2 by decide)]
 rw[show am [a,b] 0=some a from rfl,qB,or0 _]
 unfold qb7;rw[ao (show(1:Int)<2 by decide),show am [a,b] 1=some b from rfl,qB,or8 _ _]
 unfold qb8;rw[bu (show ¬(2:Int)<2 by decide),qpp _,zpw _ _ _ oA _ oC]
 rw[show 256*(256*a.toNat+b.toNat)=a.toNat*65536+b.toNat*256 by omega]
def zke(fu:Nat)(r0:List UInt8->Int->List UInt8->Option (List UInt8×Int×List UInt8))(a b c:UInt8)(r:List UInt8)(m3:Int)(m16:List UInt8) :
  t7 fu r0 (a::b::c::r) m3 m16=ym r0 3 (c0 (a.toNat*65536+b.toNat*256+c.toNat)) (c1 (a.toNat*65536+b.toNat*256+c.toNat)) (c2 (a.toNat*65536+b.toNat*256+c.toNat)) (c3 (a.toNat*65536+b.toNat*256+c.toNat)) (a::b::c::r) m3 m16:=by
 have ha:=a.toNat_lt;have hb:=b.toNat_lt;have hc:=c.toNat_lt;unfold t7;have hl:((a::b::c::r).length:Int)=(r.length:Int)+3:=by simp;omega
 have hm:(if((a::b::c::r).length:Int)<3 then((a::b::c::r).length:Int) else 3)=3:=by rw[qW oA]
 rw[hm,ao (show(0:Int)<((a::b::c::r).length:Int) by omega),ao (show(0:Int)<3 by decide)]
 rw[show am (a::b::c::r) 0=some a from rfl,qB,or0 _]
 unfold qb7;rw[ao (show(1:Int)<3 by decide),show am (a::b::c::r) 1=some b from rfl,qB,or8 _ _]
 unfold qb8;rw[ao (show(2:Int)<3 by decide),show am (a::b::c::r) 2=some c from rfl,qB,or8 _ _,zpx _ _ _ oA _ oC]
 rw[show 256*(256*a.toNat+b.toNat)+c.toNat=a.toNat*65536+b.toNat*256+c.toNat by omega]
end Go.Sym.Tr
namespace Go.Sym.Tr
def qeb:Nat->List UInt8->List UInt8|0,_=>[]|n+1,s=>if 76<s.length then s.take 76++[13,10]++qeb n (s.drop 76) else if s=[] then[] else s++[13,10]
def zau:∀(n m:Nat)(s:List UInt8),s.length<n->s.length<m->qeb n s=qeb m s
 |0,_,_,h,_=>absurd h oA|_,0,_,_,h=>absurd h oA|n+1,m+1,s,h,k=>by
  unfold qeb;by_cases c:76<s.length
  ·rw[qX c,qX c,zau n m (s.drop 76) oD oD]
  ·rw[qW c,qW c]
def lines76(s:List UInt8):List UInt8:=qeb (s.length+1) s
def lines76_eq(s:List UInt8):lines76 s=if 76<s.length then s.take 76++[13,10]++lines76 (s.drop 76) else if s=[] then[] else s++[13,10]:=by
 unfold lines76;rw[qeb];by_cases c:76<s.length
 ·rw[qX c,qX c,zau s.length ((s.drop 76).length+1) (s.drop 76) oD oA]
 ·rw[qW c,qW c]
def qg(col:Nat)(s:List UInt8):List UInt8:=
 if 76<col+s.length then s.take (76-col)++[13,10]++lines76 (s.drop (76-col)) else if col=0/\s=[] then[] else s++[13,10]
def zc4(s:List UInt8):qg 0 s=lines76 s:=by
 unfold qg
 conv=>rhs;rw[lines76_eq]
 simp
def zre(s:List UInt8)(h:s≠[]):qg 76 s=[13,10]++qg 0 s:=by
 rw[zc4];unfold qg;have:0<s.length:=List.length_pos_iff.2 h;rw[qX]
 simp
def zc5(col:Nat)(p0 p1 p2 p3:UInt8)(s:List UInt8)(h:col+4<=76:=by omega):qg col (p0::p1::p2::p3::s)=[p0,p1,p2,p3]++qg (col+4) s:=by
 unfold qg;simp only[qL];by_cases c:76<col+4+s.length
 ·rw[qX,qX]
  obtain⟨k,hk⟩:∃k,76-col=k+4:=⟨76-col-4,oA⟩
  have hk2:76-(col+4)=k:=oA
  rw[hk,hk2];simp[List.take_succ_cons,List.drop_succ_cons]
 ·rw[qW (show ¬76<col+(s.length+1+1+1+1) by omega),qW c,qW (show ¬(col=0/\p0::p1::p2::p3::s=[]) by simp),qW (show ¬(col+4=0/\s=[]) by omega)]
  simp
def qih:∀(b:List UInt8),(e64 b).length=4*((b.length+2)/3)
 |[]=>rfl|[_]=>by simp[e64]|[_,_]=>by simp[e64]|a::b::c::r=>by
  simp only[e64,qL,qih r];omega
def zmt(p0 p1 p2 p3:UInt8)(col:Nat)(out:List UInt8)(hc:col<=76)(ho:out.length+6<=au) :
  gp p0 p1 p2 p3 (col:Int) out=some (if col=76 then((4:Int),out++[13,10]++[p0,p1,p2,p3]) else(((col+4:Nat):Int),out++[p0,p1,p2,p3])):=by
 unfold gp;rw[qah];by_cases c:col=76
 ·subst c;rw[qX (show((76:Nat):Int)=76 from rfl),qX rfl,ao oD,ao oD]
 ·rw[qW oA,qW c,ao oD,bn]
  simp
def znj(fu n:Nat):∀(b:List UInt8)(col:Nat)(out:List UInt8),b.length<n->col<=76->col%4=0->out.length+2*(e64 b).length+8<=au ->
  ∃col':Nat,∃out',nk fu n b (col:Int) out=some ([],((col':Int),out'))/\out'.length+2<=au/\out'++(if 0<col' then[13,10] else[])=out++qg col (e64 b):=by
 induction n with
 |zero=>intro b col out h;omega|succ n ih=>
  intro b col out h hc hm ho;have four:∀(k:Nat)(p0 p1 p2 p3:UInt8)(r:List UInt8),b.drop k=r->e64 b=p0::p1::p2::p3::e64 r->r.length<n->nk fu (n+1) b (col:Int) out=ym (nk fu n) k p0 p1 p2 p3 b (col:Int) out ->
    ∃col':Nat,∃out',nk fu (n+1) b (col:Int) out=some ([],((col':Int),out'))/\out'.length+2<=au/\out'++(if 0<col' then[13,10] else[])=out++qg col (e64 b):=by
   intro k p0 p1 p2 p3 r hd he hr hp;rw[he,qL,qL,qL,qL]at ho;rw[hp,he];unfold ym;rw[zmt _ _ _ _ _ _ hc oA,qB,hd]
   by_cases c:col=76
   ·rw[qX c];obtain⟨col',out',h1,h2,h3⟩:=ih r 4 (out++[13,10]++[p0,p1,p2,p3]) hr oA oA oD
    refine⟨col',out',h1,h2,?_⟩;rw[h3,c,zre _ oC,zc5 _ _ _ _ _ _]
    simp
   ·rw[qW c];obtain⟨col',out',h1,h2,h3⟩:=ih r (col+4) (out++[p0,p1,p2,p3]) hr oA oA oD
    refine⟨col',out',h1,h2,?_⟩;rw[h3,zc5 _ _ _ _ _ _]
    simp
  match b,four with
  |[],_=>
   refine⟨col,out,?_,oA,?_⟩
   ·rw[nk,t7,bu]
   ·unfold qg;simp only[e64,qZ];rw[qW (show ¬76<col+0 by omega)]
    by_cases c:col=0
    ·subst c;simp
    ·rw[qX (show 0<col by omega)];simp[c]
  |[a],four=>exact four 1 (c0 (a.toNat*65536)) (c1 (a.toNat*65536)) 61 61 [] rfl (by simp only[e64]) (by simp at h;simp;omega) (by rw[nk];exact zkc fu _ a _ _)|[a,b],four=>exact four 2 (c0 (a.toNat*65536+b.toNat*256)) (c1 (a.toNat*65536+b.toNat*256)) (c2 (a.toNat*65536+b.toNat*256)) 61 [] rfl (by simp only[e64]) (by simp at h;simp;omega) (by rw[nk];exact zkd fu _ a b _ _)|a::b::c::r,four=>exact four 3 (c0 (a.toNat*65536+b.toNat*256+c.toNat)) (c1 (a.toNat*65536+b.toNat*256+c.toNat)) (c2 (a.toNat*65536+b.toNat*256+c.toNat)) (c3 (a.toNat*65536+b.toNat*256+c.toNat)) r rfl (by simp only[e64]) (by simp at h;omega) (by rw[nk];exact zke fu _ a b c r _ _)
def enc64_eq(fu:Nat)(b:List UInt8)(hf:b.length<fu)(hb:b.length<=12000):qf8 fu b=some ((0,0),lines76 (e64 b)):=by
 unfold qf8 qrq;rw[bu,qB]
 unfold qrr;obtain⟨col',out',h1,h2,h3⟩:=znj fu fu b 0 [] hf oA rfl (by rw[qih];simp only[au,qZ];omega)
 rw[show nk fu fu b (0:Int) []=some ([],((col':Int),out')) from h1,qB]
 rw[zc4,List.nil_append]at h3;simp only[cf,qB];rw[← h3,jk];by_cases c:0<col'
 ·rw[qX (show(0:Int)<(col':Int) by omega),qX c,ao oD]
 ·rw[qW (show ¬(0:Int)<(col':Int) by omega),qW c];simp
end Go.Sym.Tr
namespace Go.Sym.Tr
def zpf(c:UInt8):List Nat:=[c.toNat/128%2,c.toNat/64%2,c.toNat/32%2,c.toNat/16%2,c.toNat/8%2,c.toNat/4%2,c.toNat/2%2,c.toNat%2]
def bits(b:List UInt8):List Nat:=b.flatMap zpf
def dz(a:Nat):List Nat->Nat|[]=>a|x::l=>dz (2*a+x) l
def q03:∀(l:List Nat)(a:Nat),(∀x∈l,x<=1)->dz a l+1<=(a+1)*2 ^ l.length
 |[],a,_=>by simp[dz]|x::l,a,h=>by
  have:=q03 l (2*a+x) (fun y hy=>h y (qE _ hy))
  have hx:=h x qH;unfold dz;refine Nat.le_trans this ?_;rw[qL,Nat.pow_succ,Nat.mul_comm (2 ^ l.length) 2,← Nat.mul_assoc];exact Nat.mul_le_mul_right _ oA
def n2(a:Nat):2*(2*0+a/2%2)+a%2=a%4:=oA
def n4(t b:Nat)(h:b<256):2*(2*(2*(2*t+b/128%2)+b/64%2)+b/32%2)+b/16%2=16*t+b/16:=oA
def x0(a b c:Nat)(h:a<256)(hb:b<256)(hc:c<256):(a*65536+b*256+c)/262144%64=a/4:=oA
def x1(a b c:Nat)(h:a<256)(hb:b<256)(hc:c<256):(a*65536+b*256+c)/4096%64=16*(a%4)+b/16:=oA
def x2(a b c:Nat)(h:a<256)(hb:b<256)(hc:c<256):(a*65536+b*256+c)/64%64=4*(b%16)+c/64:=oA
def x3(a b c:Nat)(h:a<256)(hb:b<256)(hc:c<256):(a*65536+b*256+c)%64=c%64:=oA
end Go.Sym.Tr
namespace Go.Sym.Tr
def uy(P:UInt8->Prop)(h:∀n:_root_.Fin 256,P (UInt8.ofNat n.val))(c:UInt8):P c:=by
 have:=h ⟨c.toNat,c.toNat_lt⟩;simpa using this
def isL:List UInt8->Bool|a::b::_=>a==13&&b==10|_=>false
def q8w{α:Type}(ab:List α)(c:α)(aa:List α):List.drop ((ab.length+1:Nat):Int).toNat (ab++c::aa)=aa:=by
 rw[show((ab.length+1:Nat):Int).toNat=(ab++[c]).length by simp,show ab++c::aa=(ab++[c])++aa by simp]
 simp
end Go.Sym.Tr
namespace Go.Sym.Tr
end Go.Sym.Tr
namespace Go.Sym.Tr
def sp:List UInt8->List UInt8×List UInt8|[]=>([],[])|c::r=>if isL (c::r) then([],c::r) else(c::(sp r).1,(sp r).2)
end Go.Sym.Tr
namespace Go.Sym.Tr
def qwq(a b:Int):ou a b=some (a,b):=rfl
end Go.Sym.Tr
namespace Go.Sym.Tr
def mf(c:UInt8):Int:=Lib.indexByte mp c
def ztu:∀n:_root_.Fin 256,mf (UInt8.ofNat n.val) = -1\/(0<=mf (UInt8.ofNat n.val)/\mf (UInt8.ofNat n.val)<64):=by decide +kernel
def ztv(c:UInt8):mf c = -1\/(0<=mf c/\mf c<64):=uy (fun c=>mf c = -1\/(0<=mf c/\mf c<64)) ztu c
def jf(v:Nat):List Nat:=[v/32%2,v/16%2,v/8%2,v/4%2,v/2%2,v%2]
def pm:List UInt8->List Nat|[]=>[]|c::r=>if c=61 then[] else if mf c<0 then pm r else jf (mf c).toNat++pm r
def xd:List Nat->List UInt8|a::b::c::d::e::f::g::h::r=>dh ((dz 0 [a,b,c,d,e,f,g,h]:Nat):Int)::xd r|_=>[]
def q02:∀(l:List Nat)(a:Nat),dz a l=a*2 ^ l.length+dz 0 l
 |[],a=>by simp[dz]|x::l,a=>by
  rw[dz,dz,q02 l (2*a+x),q02 l (2*0+x),qL,Nat.pow_succ,Nat.add_mul,Nat.add_mul];have:2*a*2 ^ l.length=a*(2 ^ l.length*2):=by rw[Nat.mul_comm 2 a,Nat.mul_assoc,Nat.mul_comm 2]
  omega
def q01:∀(l m:List Nat)(a:Nat),dz a (l++m)=dz (dz a l) m|[],_,_=>rfl|x::l,m,a=>q01 l m (2*a+x)
def zsk(a v:Nat)(h:v<64):dz a (jf v)=64*a+v:=by
 simp only[jf,dz];omega
def zsj(v:Nat):∀x∈jf v,x<=1:=by
 intro x hx;simp only[jf,wE,List.not_mem_nil,or_false]at hx;omega
def zky(q r:List Nat)(h:8<=q.length:=by omega):xd (q++r)=dh ((dz 0 (q.take 8):Nat):Int)::xd (q.drop 8++r):=by
 match q,h with|a::b::c::d::e::f::g::i::t,_=>simp[xd]
def q7v(q:List Nat)(h:q.length<8):xd q=[]:=by
 match q,h with|[],_=>rfl|[_],_=>rfl|[_,_],_=>rfl|[_,_,_],_=>rfl|[_,_,_,_],_=>rfl|[_,_,_,_,_],_=>rfl|[_,_,_,_,_,_],_=>rfl|[_,_,_,_,_,_,_],_=>rfl|_::_::_::_::_::_::_::_::_,h=>simp at h;omega
def or6(x v:Nat)(h:x<1099511627776)(hv:v<64):af (((BitVec.ofInt 64 (af ((x:Int)*2 ^ min (6:Int).toNat 64))|||BitVec.ofInt 64 (v:Int)).toNat:Int))=((64*x+v:Nat):Int):=by
 have e:af ((x:Int)*2 ^ min (6:Int).toNat 64)=((64*x:Nat):Int):=by
  rw[show(2:Int) ^ min (6:Int).toNat 64=64 by decide,bn];omega
 rw[e,BitVec.toNat_or,sj _,sj _]
 have:=Nat.two_pow_add_eq_or_of_lt (i:=6) (b:=v) (by simpa using hv) x
 rw[← show 2 ^ 6*x+v=64*x|||v from this]
 rw[bn]
def zjj(x k:Nat)(h:x<1099511627776:=by omega)(hk:k<=20:=by omega):af (((BitVec.ofInt 64 (x:Int)&&&BitVec.ofInt 64 (af ((af ((1:Int)*2 ^ min (k:Int).toNat 64))-(1:Int)))).toNat:Int))=((x%2 ^ k:Nat):Int):=by
 have e1:min (k:Int).toNat 64=k:=oA
 have hp:2 ^ k<=2 ^ 20:=Nat.pow_le_pow_right oA hk
 have hp1:1<=2 ^ k:=Nat.one_le_two_pow;have e2:af ((1:Int)*2 ^ k)=((2 ^ k:Nat):Int):=by
  have:((2:Int) ^ k)=((2 ^ k:Nat):Int):=oC
  rw[this,bn];omega
 have e3:af (((2 ^ k:Nat):Int)-1)=((2 ^ k-1:Nat):Int):=by rw[bn];omega
 have hm:x%2 ^ k<=x:=Nat.mod_le _ _;rw[e1,e2,e3,BitVec.toNat_and,sj _,sj _,Nat.and_two_pow_sub_one_eq_mod,bn]
end Go.Sym.Tr
namespace Go.Sym.Tr
def zs8(q:List Nat)(k:Nat)(h1:∀x∈q,x<=1):dz 0 (q.take k)=dz 0 q/2 ^ (q.length-k)/\dz 0 (q.drop k)=dz 0 q%2 ^ (q.length-k):=by
 have e:dz 0 q=dz 0 (q.take k)*2 ^ (q.drop k).length+dz 0 (q.drop k):=by
  rw[← q02,← q01,List.take_append_drop]
 have hd:=q03 (q.drop k) 0 (fun x hx=>h1 x (List.mem_of_mem_drop hx))
 rw[List.length_drop]at e hd;have hlt:dz 0 (q.drop k)<2 ^ (q.length-k):=oA
 rw[e,Nat.mul_comm,Nat.mul_add_div oA,Nat.mul_add_mod,Nat.div_eq_of_lt hlt,Nat.mod_eq_of_lt hlt]
 simp
def zor(fu n:Nat)(m16:Int×Int):∀(ab aa:List UInt8)(p:List Nat)(out:List UInt8),aa.length<n->ab.length+aa.length<100000000->p.length<8->(∀x∈p,x<=1)->out.length+aa.length<=1000000000 ->
  zl fu n ((dz 0 p:Nat):Int) (p.length:Int) (ab++aa) ((ab.length+aa.length:Nat):Int) (ab.length:Int) m16 out=some ((0,0),out++xd (p++pm aa)):=by
 induction n with
 |zero=>intro ab aa p out h;omega|succ n ih=>
  intro ab aa p out h hb hp h1 ho
  cases aa with
  |nil=>
   rw[zl,qk1,bu]
   simp[cf,pm,q7v p hp]
  |cons c aa=>
   simp only[qL]at h hb ho;have nxt:∀(p:List Nat)(out:List UInt8),p.length<8->(∀x∈p,x<=1)->out.length+aa.length<=1000000000->zl fu n ((dz 0 p:Nat):Int) (p.length:Int) (ab++c::aa) ((ab.length+(aa.length+1):Nat):Int) ((ab.length+1:Nat):Int) m16 out=some ((0,0),out++xd (p++pm aa)):=by
    intro p out h2 h3 h4;have:=ih (ab++[c]) aa p out oA oD h2 h3 h4
    simp only[qM,qL,qZ,wO,qS,wK,List.nil_append]at this;rw[show ab.length+(aa.length+1)=ab.length+1+aa.length by omega]
    exact this
   rw[zl,qk1,ao oD,jc,qB,zkl]
   simp only[qL];by_cases k:c=61
   ·rw[qX k];simp[cf,pm,k,q7v p hp]
   ·rw[qW k,ao oE]
    rw[show([65,66,67,68,69,70,71,72,73,74,75,76,77,78,79,80,81,82,83,84,85,86,87,88,89,90,97,98,99,100,101,102,103,104,105,106,107,108,109,110,111,112,113,114,115,116,117,118,119,120,121,122,48,49,50,51,52,53,54,55,56,57,43,47]:List UInt8)=mp from rfl,show qr7 mp c=some (mf c) from rfl,qB,yl _,jk]
    rcases ztv c with hv|⟨hv,hv2⟩
    ·rw[hv,qX oE,nxt p out hp h1 oA]
     simp[pm,k,hv]
    ·obtain⟨v,hvv⟩:∃v:Nat,mf c=(v:Int):=⟨(mf c).toNat,oA⟩
     have hv64:v<64:=oA
     have hd:pm (c::aa)=jf v++pm aa:=by
      rw[pm,qW k,qW oA,hvv];rfl
     have hq:dz 0 (p++jf v)=64*dz 0 p+v:=by rw[q01,zsk _ _ hv64]
     have hpl:=q03 p 0 h1;have hp2:2 ^ p.length<=2 ^ 7:=Nat.pow_le_pow_right oA oA
     have hql:(p++jf v).length=p.length+6:=by simp[jf]
     have hq1:∀x∈p++jf v,x<=1:=fun x hx=>by
      rcases List.mem_append.1 hx with hx|hx
      ·exact h1 x hx
      ·exact zsj v x hx
     rw[hvv,qW oA,or6 _ _ oA hv64,← hq,hd,← qS]
     have e6:af ((p.length:Int)+6)=((p.length+6:Nat):Int):=by rw[bn];omega
     rw[e6,jk];by_cases h8:8<=p.length+6
     ·have e8:af (((p.length+6:Nat):Int)-8)=((p.length+6-8:Nat):Int):=by rw[bn];omega
      rw[qX,e8,ao oA,ao (by simp[au];omega),ao oA]
      rw[zjj _ _]
      obtain⟨s1,s2⟩:=zs8 (p++jf v) 8 hq1;rw[hql]at s1 s2;rw[← s2,zky _ _]
      have e9:Int.fdiv ((dz 0 (p++jf v):Nat):Int) (2 ^ min (((p.length+6-8:Nat):Int)).toNat 64)=((dz 0 ((p++jf v).take 8):Nat):Int):=by
       rw[s1,show min (((p.length+6-8:Nat):Int)).toNat 64=p.length+6-8 by omega,Int.fdiv_eq_ediv_of_nonneg _ (by exact Int.le_of_lt (Int.pow_pos oE))]
       simp
      rw[e9];have:=nxt ((p++jf v).drop 8) (out++[dh ((dz 0 ((p++jf v).take 8):Nat):Int)]) (by simp[jf];omega) (fun x hx=>hq1 x (List.mem_of_mem_drop hx)) oD
      rw[List.length_drop,hql]at this;rw[this];simp
     ·rw[qW oA]
      have:=nxt (p++jf v) out oA hq1 oA
      rw[hql]at this;exact this
end Go.Sym.Tr
namespace Go.Sym.Tr
end Go.Sym.Tr
namespace Go.Sym.Tr
end Go.Sym.Tr
namespace Go.Sym.Tr
end Go.Sym.Tr
namespace Go.Sym.Tr
def lenient_eq(fu:Nat)(b:List UInt8)(hb:b.length<=24000)(hf:b.length<fu):qk0 fu b=some ((0,0),xd (pm b)):=by
 unfold qk0;rw[bu]
 have:=zor fu fu (0,0) [] b [] [] hf oD oC (fun _ h=>by cases h) oD
 simpa [dz] using this
end Go.Sym.Tr
namespace Go.Sym.Tr
end Go.Sym.Tr
namespace Go.Sym
abbrev sAs:Bs:=[97,115,99,105,105]
abbrev sLa:Bs:=[108,97,116,105,110,49]
abbrev sU8:Bs:=[117,116,102,56]
def nmK:Nat->Bs|0=>sAs|1=>sLa|_=>sU8
def qp0:∀(R:List Nat),okT R->Lib.validD (tx R)=true
 |[],_=>rfl|c::R,h=>by
  obtain⟨h1,h2⟩:=zb2 h;have hl:=q8y (c:=c);have d:=zl3 h1 (tx R);rw[qet,Lib.validD_step _ (by intro q;exact zmq (List.append_eq_nil_iff.1 q).1),d]
  simp only;rw[qW (by
   rintro⟨q1,q2⟩
   subst q1;revert q2;decide),List.drop_left]
  exact qp0 R h2
def qh(s:Bs):Bs:=Lib.replaceK [13,10] [] (Lib.count s [13,10]) s
def zrn(c:UInt8)(r:Bs)(h:c≠13):qh (c::r)=c::qh r:=by
 have h:¬([13,10]:Bs).isPrefixOf (c::r)=true:=by
  simp[List.isPrefixOf];intro q;exact absurd q.symm h
 have hi:Lib.index (c::r) [13,10]=if Lib.index r [13,10] == -1 then -1 else Lib.index r [13,10]+1:=by rw[Lib.index,qW h]
 have hg:=Lib.index_ge r [13,10];unfold qh;by_cases q:Lib.index r [13,10] = -1
 ·rw[q]at hi;rw[Lib.count_miss q,Lib.count_miss (hi.trans rfl)];rfl
 ·obtain⟨i,e⟩:∃i:Nat,Lib.index r [13,10]=i:=⟨(Lib.index r [13,10]).toNat,oA⟩
  have e1:Lib.index (c::r) [13,10]=((i+1:Nat):Int):=by
   rw[hi,qW (by simpa using q),e];omega
  rw[Lib.count_hit oC e,Lib.count_hit oC e1,Nat.add_comm 1,Nat.add_comm 1,Lib.replaceK_hit _ _ _ _ _ e,Lib.replaceK_hit _ _ _ _ _ e1]
  simp[show i+1+2=i+2+1 by omega]
def zde(r:Bs):qh (13::10::r)=qh r:=by
 have h:([13,10]:Bs).isPrefixOf (13::10::r)=true:=by simp[List.isPrefixOf]
 have e0:Lib.index (13::10::r) [13,10]=((0:Nat):Int):=by rw[Lib.index,qX h];rfl
 unfold qh;rw[Lib.count_hit oC e0,Nat.add_comm 1,Lib.replaceK_hit _ _ _ _ _ e0]
 simp
def q0p:∀(s r:Bs),(∀c∈s,c≠13)->qh (s++r)=s++qh r|[],_,_=>rfl|c::s,r,h=>by rw[wK,zrn c _ (h c qH),q0p s r (fun d hd=>h d (qE _ hd))];rfl
def zro:∀(n:Nat)(s:Bs),s.length<n->(∀c∈s,c≠13)->qh (Tr.lines76 s)=s:=by
 intro n
 induction n with
 |zero=>intro s h;omega|succ n ih=>
  intro s h hs;rw[Tr.lines76_eq];by_cases h76:76<s.length
  ·rw[qX h76,qS,q0p _ _ (fun c hc=>hs c (List.mem_of_mem_take hc))]
   show _++qh (13::10::Tr.lines76 (s.drop 76))=_;rw[zde,ih _ (by rw[List.length_drop];omega) (fun c hc=>hs c (List.mem_of_mem_drop hc)),List.take_append_drop]
  ·rw[qW h76];by_cases h0:s=[]
   ·subst h0;rw[qX rfl];rfl
   ·rw[qW h0,q0p _ _ hs];show s++qh (13::10::[])=s;rw[zde];show s++[]=s;simp
def zi9:∀n:_root_.Fin 64,33<=(Tr.al n.val).toNat/\(Tr.al n.val).toNat<=126/\Tr.al n.val≠63:=by decide +kernel
def ur(k:Nat)(h:k<64):33<=(Tr.al k).toNat/\(Tr.al k).toNat<=126/\Tr.al k≠63:=zi9 ⟨k,h⟩
def q8x:∀b:Bs,∀c∈Tr.e64 b,33<=c.toNat/\c.toNat<=126/\c≠63
 |[],c,h=>by cases h
 |[x],c,h=>by
  simp only[Tr.e64,Tr.c0,Tr.c1,wE,List.not_mem_nil,or_false]at h;rcases h with rfl|rfl|rfl|rfl
  ·exact ur _ (Nat.mod_lt _ oA)
  ·exact ur _ (Nat.mod_lt _ oA)
  ·decide
  ·decide
 |[x,y],c,h=>by
  simp only[Tr.e64,Tr.c0,Tr.c1,Tr.c2,wE,List.not_mem_nil,or_false]at h;rcases h with rfl|rfl|rfl|rfl
  ·exact ur _ (Nat.mod_lt _ oA)
  ·exact ur _ (Nat.mod_lt _ oA)
  ·exact ur _ (Nat.mod_lt _ oA)
  ·decide
 |x::y::z::r,c,h=>by
  simp only[Tr.e64,Tr.c0,Tr.c1,Tr.c2,Tr.c3,wE]at h;rcases h with rfl|rfl|rfl|rfl|h
  ·exact ur _ (Nat.mod_lt _ oA)
  ·exact ur _ (Nat.mod_lt _ oA)
  ·exact ur _ (Nat.mod_lt _ oA)
  ·exact ur _ (Nat.mod_lt _ oA)
  ·exact q8x r c h
def qih:∀b:Bs,(Tr.e64 b).length<=4*b.length
 |[]=>by simp[Tr.e64]|[x]=>by simp[Tr.e64]|[x,y]=>by simp[Tr.e64]|x::y::z::r=>by
  have:=qih r;simp only[Tr.e64,qL];omega
def zot:∀(n:Nat)(s:Bs),s.length<n->(Tr.lines76 s).length<=2*s.length+2:=by
 intro n
 induction n with
 |zero=>intro s h;omega|succ n ih=>
  intro s h;rw[Tr.lines76_eq];by_cases h76:76<s.length
  ·have:=ih (s.drop 76) (by rw[List.length_drop];omega)
   rw[qX h76];simp only[qM,List.length_take,qL,qZ];rw[List.length_drop]at this;omega
  ·rw[qW h76];split
   ·simp
   ·simp only[qM,qL,qZ];omega
def znb(fu:Nat)(hfu:90000000<=fu)(b:Bs)(hb:b.length<=12000):zz fu b=some (Tr.e64 b):=by
 have hl:=qih b;unfold zz;rw[Tr.enc64_eq fu b oA hb,qB]
 unfold uf;have h76:(Tr.lines76 (Tr.e64 b)).length<=1000000:=by have:=zot _ (Tr.e64 b) (Nat.lt_succ_self _);omega
 rw[ao oI,qB]
 have:=zro _ (Tr.e64 b) (Nat.lt_succ_self _) (fun c hc q=>by have:=q8x b c hc;rw[q]at this;revert this;decide)
 unfold Lib.replaceAll Lib.replace Lib.replaceNum;rw[qW oE,qX (.inl oE)]
 exact congrArg some this
end Go.Sym
namespace Go.Sym
def ltr(c:UInt8):Bool:=decide (97<=c/\c<=122)||decide (65<=c/\c<=90)||decide (48<=c/\c<=57)
abbrev hxD:Bs:=[48,49,50,51,52,53,54,55,56,57,65,66,67,68,69,70]
def hxH(c:UInt8):UInt8:=hxD.getD (c.toNat/16) 0
def hxL(c:UInt8):UInt8:=hxD.getD (c.toNat%16) 0
def dq(c:UInt8):Bs:=if c=32 then[95] else if ltr c=true then[c] else[61,hxH c,hxL c]
def zt6(c:UInt8)(out:Bs)(h:out.length<=1000000000:=by omega):qcp c out=some (out++[c]):=by
 unfold qcp ow;rw[qB,ao oK]
def q1m(t out:Bs)(h:out.length<=1000000000:=by omega)(ht:t.length<=1000000:=by omega):ww t out=some ((List.length t:Int),out++t):=by
 unfold ww ow;rw[qB,ao (by simp only[au,qM];omega)]
open Go.Lib (indexByte)
def zlw(k:Nat)(R:List Nat):Bs:=if k=2 then Tr.e64 (tx R) else(R.map UInt8.ofNat).flatMap dq
def zoj(k:Nat):UInt8:=if k=2 then 66 else 81
def ze5(k:Nat)(R:List Nat):Bs:=61::63::(nmK k++63::zoj k::63::(zlw k R++[63,61]))
def ixl:∀(w r:Bs),(∀c∈w,c≠63)->Lib.index (w++63::r) [63]=(w.length:Int)
 |[],r,_=>by rw[List.nil_append,Lib.index,qX (by simp[List.isPrefixOf])];rfl|c::w,r,h=>by
  have hc:=h c qH;rw[wK,Lib.index,qW (by simp[List.isPrefixOf];intro q;exact hc q.symm),ixl w r (fun d hd=>h d (qE _ hd)),qW (by rw[beq_iff_eq];omega)]
  simp
def znx(w r:Bs)(h:∀c∈w,c≠63)(hl:w.length+r.length<=1000000):e7 (w++63::r) [63]=some (w.length:Int):=by
 unfold e7 np;rw[ao oU,qB,ixl w r h]
end Go.Sym
namespace Go.Sym

def Ok{α:Type}(P:α->Prop)(x:Option α):Prop:=∃v,x=some v/\P v
def bf{α:Type}{P:α->Prop}{v:α}(h:P v):Ok P (some v):=⟨v,rfl,h⟩
def sr{α:Type}{P Q:α->Prop}{x:Option α}(h:Ok P x)(f:∀v,P v->Q v):Ok Q x:=by
 obtain⟨v,e,hv⟩:=h;exact⟨v,e,f v hv⟩
def bc{α β:Type}{P:α->Prop}{Q:β->Prop}{x:Option α}{f:α->Option β}(h:Ok P x)(g:∀v,P v->Ok Q (f v)):Ok Q (x.bind f):=by
 obtain⟨v,e,hv⟩:=h;rw[e,qB];exact g v hv
def cu{α:Type}{P:α->Prop}{b:Bool}{x y:Option α}(h:b=true->Ok P x)(g:b=false->Ok P y):Ok P (bif b then x else y):=by
 cases b
 ·exact g rfl
 ·exact h rfl
def gx{α:Type}{P:α->Prop}{b:Bool}{x y:Option α}(h:b=false->Ok P x)(g:b=true->Ok P y):Ok P (bif !b then x else y):=by
 cases b
 ·exact h rfl
 ·exact g rfl
def ef{α:Type}{P:α->Prop}{p:Prop}[Decidable p]{x y:Option α}(h:p->Ok P x)(g:¬p->Ok P y):Ok P (bif decide p then x else y):=by
 by_cases q:p
 ·rw[ao q];exact h q
 ·rw[bu q];exact g q
def dt{α:Type}{P:α->Prop}{p:Prop}[Decidable p]{x:Option α}(q:p)(h:Ok P x):Ok P (bif decide p then x else none):=by
 rw[ao q];exact h
def ez{α β γ:Type}{P:γ->Prop}{o:α ⊕ β}{f:α->Option γ}{g:β->Option γ}(h:∀a,o = .inl a->Ok P (f a))(h':∀b,o = .inr b->Ok P (g b)):Ok P (ay o f g):=by
 cases o with|inl a=>exact h a rfl|inr b=>exact h' b rfl
def qzs{α:Type}{P:α->Prop}{l:List α}{k:Nat}(h:k<l.length)(g:∀c∈l,P c):Ok P (am l (k:Int)):=⟨l[k],vf l k h,g _ (List.getElem_mem h)⟩
def ia{α:Type}{l:List α}{k:Nat}(h:k<l.length:=by omega):Ok (fun _=>True) (am l (k:Int)):=qzs h fun _ _=>trivial
def qpk:∀l:List Int,(ig l).length<=4*l.length
 |[]=>by simp[ig]|x::l=>by
  have:=qpk l;have hx:(qe x).length<=4:=by
   unfold qe Utf8.encode;simp only[]
   repeat' split
   all_goals simp[ByteArray.size]
  have e:ig (x::l)=qe x++ig l:=by simp[ig]
  rw[e,qM,qL];omega
def zr9(s:Bs):(fw s).length<=s.length:=q0t s s.length 0
def zsi(fu n:Nat)(m:Int):∀(ab aa:Bs)(out:List Int),aa.length<n->ab.length+aa.length<100000000->out.length+aa.length<=100000000 ->
  ∃r,qge fu n (ab++aa) ((ab.length+aa.length:Nat):Int) (ab.length:Int) m out=some (m,r)/\r.length<=out.length+aa.length:=by
 induction n with
 |zero=>intro ab aa out h;omega|succ n ih=>
  intro ab aa out h hb ho;rw[qge,qsf]
  cases aa with
  |nil=>rw[bu];exact⟨out,rfl,oC⟩|cons c aa=>
   simp only[qL]at h hb ho;have ih:=fun out=>ih (ab++[c]) aa out oA oD
   simp only[qM,qL,qZ,qS,wM,wO]at ih;rw[ao (by simp only[qL];omega),jc,qB,yl _,show ab.length+(c::aa).length=ab.length+1+aa.length by simp only[qL];omega,jk]
   split
   ·rw[ao oK]
    obtain⟨r,h1,h2⟩:=ih (out++[65533]) oD
    exact⟨r,h1,by simp only[qM,qL,qZ]at h2 ⊢;omega⟩
   ·rw[ao oK]
    obtain⟨r,h1,h2⟩:=ih (out++[(c.toNat:Int)]) oD
    exact⟨r,h1,by simp only[qM,qL,qZ]at h2 ⊢;omega⟩
def zex(k:Nat)(b:Bs)(h:k+1<b.length)(hb:b.length<100000000):∃v,qgf (k:Int) b=some (v,b):=by
 unfold qgf;rw[vf b k,qB,yl k,vf b (k+1) h,qB]
 exact⟨_,rfl⟩
def qp7(k:Nat)(h:k<100000000:=by omega):af ((k:Int)+2)=((k+2:Nat):Int):=by rw[bn];omega
def zts(fu:Nat)(r0:Int->Bs->List Int->Option (List Int))(b:Bs)(hb:b.length<100000000)(j:Nat)(v:Int)(out:List Int)(hj:j+2<=b.length)(ho:out.length<=j)
  (h:∀out:List Int,out.length<=j+2->∃r,r0 ((j+2:Nat):Int) b out=some r/\r.length<=b.length):∃r,zo fu r0 (j:Int) v b out=some r/\r.length<=b.length:=by
 have g:∀x:Int,∃r,(bif decide (List.length (out++([x]:List Int))<=au) then r0 (af ((j:Int)+2)) b (out++([x]:List Int)) else none)=some r/\r.length<=b.length:=fun x=>by
  rw[ao oK,qp7 j]
  exact h _ oO
 unfold zo;rw[jk];split
 ·rw[jk];split
  ·exact g 65533
  ·exact g v
 ·exact g v
def zlr(fu:Nat)(b:Bs)(hb:b.length<100000000)(n:Nat):∀(k:Nat)(out:List Int),k<=b.length->b.length-k<n->out.length<=k->∃r,wt fu n (k:Int) b out=some r/\r.length<=b.length:=by
 induction n with
 |zero=>intro k out _ h;omega|succ n ih=>
  intro k out hk h ho;rw[wt,qsh];by_cases h0:(k:Int)<(b.length:Int)
  ·rw[ao h0,yl k,qah]
   by_cases h1:((k+1:Nat):Int)=(b.length:Int)
   ·rw[qX h1,ao oK]
    exact⟨_,rfl,oO⟩
   ·rw[qW h1];obtain⟨v,hv⟩:=zex k b oA hb
    rw[hv,qB];have p3:∀(j:Nat)(v:Int),k<=j->j+2<=b.length->∃r,zo fu (wt fu n) (j:Int) v b out=some r/\r.length<=b.length:=fun j v h1 h2=>
     zts fu _ b hb j v out h2 oA fun out ho=>ih (j+2) out oA oA oA
    have p2:∀(v w:Int)(c:Bool),k+3<b.length->∃r,qgg fu (wt fu n) (k:Int) v w c b out=some r/\r.length<=b.length:=fun v w c h4=>by
     unfold qgg;cases c
     ·rw[ar rfl];exact p3 k v (wF _) oA
     ·rw[bi rfl,qp7 k];exact p3 (k+2) _ oA oA
    have p1:∀(v:Int)(c:Bool),(c=true->k+3<b.length)->∃r,qce fu (wt fu n) (k:Int) v c b out=some r/\r.length<=b.length:=fun v c hc=>by
     unfold qce;cases c
     ·rw[ar rfl];exact p3 k v (wF _) oA
     ·have h4:=hc rfl;rw[bi rfl,qp7 k]
      obtain⟨w,hw⟩:=zex (k+2) b oA hb
      rw[hw,qB];dsimp only;rw[jk];split
      ·exact p2 v w _ h4
      ·exact p2 v w _ h4
    have e3:af ((k:Int)+3)=((k+3:Nat):Int):=by rw[bn];omega
    dsimp only;rw[jk];split
    ·rw[jk];split
     ·rw[e3];exact p1 v _ fun q=>by have:=of_decide_eq_true q;omega
     ·exact p1 v false oC
    ·exact p1 v false oC
  ·rw[bu h0];exact⟨out,rfl,oA⟩
def zm9(fu:Nat)(hfu:90000000<=fu)(nm:Bs)(hn:nm.length<=4000000):(∃x:Bs,∃m:Int,wq fu nm=some (.inl (x,(true,m))))\/(∃x:Bs,wq fu nm=some (.inr (.inl (x,true))))\/(∃x:Bs,wq fu nm=some (.inr (.inr (.inl (x,true)))))\/wq fu nm=some (.inr (.inr (.inr ([],false)))):=by
 unfold wq qk9;simp only[qB];rw[qpm fu hfu _ _ oC hn,qB]
 cases lk [97,115,99,105,105] nm
 ·rw[ar rfl,qpm fu hfu _ _ oC hn,qB]
  cases lk [108,97,116,105,110,49] nm
  ·rw[ar rfl,qpm fu hfu _ _ oC hn,qB]
   cases lk [117,116,102,56] nm
   ·rw[ar rfl,qpm fu hfu _ _ oC hn,qB]
    cases lk [117,116,102,49,54,98,101] nm
    ·rw[ar rfl];exact .inr (.inr (.inr rfl))
    ·rw[bi rfl];exact .inr (.inr (.inl ⟨_,rfl⟩))
   ·rw[bi rfl];exact .inr (.inl ⟨_,rfl⟩)
  ·rw[bi rfl];exact .inl ⟨_,_,rfl⟩
 ·rw[bi rfl];exact .inl ⟨_,_,rfl⟩
def zk7(fu:Nat)(hfu:90000000<=fu)(nm b:Bs)(hn:nm.length<=4000000:=by omega):∃s f,qk8 fu nm b=some (s,f)/\s.length<=48000:=by
 unfold qk8;by_cases h12:(12000:Int)<(b.length:Int)
 ·rw[ao h12];exact⟨[],_,rfl,oC⟩
 ·rw[bu h12];rcases zm9 fu hfu nm hn with⟨x,m,e⟩|⟨x,e⟩|⟨x,e⟩|e<;>rw[e,qB]<;>simp only[ay]
  ·rw[qdc];obtain⟨r,h1,h2⟩:=zsi fu fu m [] b [] oA oD oD
   have hr:=qpk r;simp only[List.nil_append,qZ,wO]at h1 h2;rw[show((0:Nat):Int)=0 from rfl]at h1
   unfold qse;rw[h1];exact⟨_,_,rfl,by simp only;omega⟩
  ·rw[qdc];have hr:=qpk (fw b);have hv:=zr9 b;unfold qsd;rw[ao oA]
   exact⟨_,_,rfl,oA⟩
  ·rw[qdc];obtain⟨r,h1,h2⟩:=zlr fu b oA fu 0 [] oA oA oC
   have hr:=qpk r;unfold qsg;rw[show(0:Int)=((0:Nat):Int) from rfl,h1]
   exact⟨_,_,rfl,oA⟩
  ·exact⟨_,_,rfl,oC⟩
def zno:∀n:_root_.Fin 256,(qcc (UInt8.ofNat n.val)).isSome=true:=by decide +kernel
def q9z(c:UInt8):Ok (fun _=>True) (qcc c):=by
 obtain⟨v,e⟩:=Option.isSome_iff_exists.1 (uy (fun c=>(qcc c).isSome=true) zno c)
 exact⟨v,e,trivial⟩
def zpy(r:Bs):Ok (fun v=>v.2=true->2<=r.length) (qk6 r):=by
 unfold qk6;refine ef (fun _=>bf (fun q=>by cases q)) fun h => ?_
 have hl:2<=r.length:=oA
 refine bc (ia (k:=0) oA) fun c1 _=>bc (q9z c1) fun x2 _=>bc (ia (k:=1) oA) fun c3 _=>bc (q9z c3) fun x4 _ => ?_
 exact cu (fun _=>bf fun _=>hl) (fun _=>bf fun _=>hl)
def qj{α:Type}(out:List α)(c:α)(h:out.length<=1000000000:=by omega):(out++[c]).length<=au:=by
 simp only[au,qM,qL,qZ];omega
def cn(k:Nat)(h:k<100000000:=by omega):af ((k:Int)+1)=((k+1:Nat):Int):=yl k
def ztr(fu n:Nat)(s:Bs)(hs:s.length<=100000):∀(k:Nat)(out:Bs),k<=s.length->s.length-k<n->out.length<=k->Ok (fun _=>True) (qcu fu n s (k:Int) out):=by
 induction n with
 |zero=>intro k out _ h;omega|succ n ih=>
  intro k out hk h ho;rw[qcu,qu3];refine ef (fun h0 => ?_) (fun _=>bf trivial)
  have hk1:k<s.length:=oA
  have l1:∀c:UInt8,(out++[c]).length<=k+1:=fun c=>by simp;omega
  have p3:∀b:Bool,Ok (fun _=>True) (qhi fu (qcu fu n) s (k:Int) b out):=fun b=>by
   unfold qhi;refine cu (fun _=>bc (ia hk1) fun c1 _=>dt (qj _ _) ?_) (fun _=>bf trivial)
   rw[cn k]
   exact ih (k+1) _ oA oA (l1 _)
  refine bc (ia hk1) fun c1 _=>cu (fun _=>dt (qj _ _) ?_) fun _=>bc (ia hk1) fun c2 _=>cu (fun _ => ?_) fun _ => ?_
  ·rw[cn k]
   exact ih (k+1) _ oA oA (l1 _)
  ·rw[cn k]
   refine dt oA (bc (zpy _) fun x3 h3=>gx (fun _=>bf trivial) fun q=>dt (qj _ _) ?_)
   have:=h3 q;rw[List.length_drop]at this;rw[qp7 k,cn (k+2)]
   exact ih (k+2+1) _ oA oA (by have:=l1 x3.1;omega)
  ·exact bc (ia hk1) fun c4 _=>ef (fun _=>bc (ia hk1) fun c5 _=>p3 _) fun _=>p3 _
def znc(fu:Nat)(hfu:90000000<=fu)(b:Bs):Ok (fun _=>True) (zz fu b):=by
 by_cases h:b.length<=12000
 ·exact⟨_,znb fu hfu b h,trivial⟩
 ·unfold zz qf8;rw[ao oA]
  exact⟨_,rfl,trivial⟩
def zkz(fu:Nat)(hfu:90000000<=fu)(k s:Bs)(hs:s.length<=24000:=by omega):Ok (fun _=>True) (qmf fu k s):=by
 have p1:∀b:Bool,Ok (fun _=>True) (qhh fu s b):=fun b=>by
  unfold qhh;exact cu (fun _=>ztr fu fu s oA 0 [] oA oA oC) (fun _=>bf trivial)
 have p0:∀b:Bool,Ok (fun _=>True) (qhg fu s k b):=fun b=>by
  unfold qhg;refine cu (fun _=>dt (by unfold maxLen;omega) ?_) (fun _=>cu (fun _=>p1 _) (fun _=>p1 _))
  rw[Tr.lenient_eq fu s hs oA,qB]
  exact bc (znc fu hfu _) fun _ _=>bf trivial
 unfold qmf;exact cu (fun _=>p0 _) (fun _=>p0 _)
def tot(l:List Bs):Nat:=(l.map List.length).sum
def qpw:tot []=0:=rfl
def q1c(a:Bs)(l:List Bs):tot (a::l)=a.length+tot l:=by simp[tot]
def zen(a b:List Bs):tot (a++b)=tot a+tot b:=by simp[tot]
def zny(s:Bs)(hl:s.length<=1000000:=by omega):(e7 s [63]=some (-1))\/∃w r,s=w++63::r/\e7 s [63]=some (w.length:Int):=by
 rcases qjv 63 s with⟨w,r,rfl,h⟩|h
 ·exact .inr ⟨w,r,rfl,znx w r h (by simp at hl;omega)⟩
 ·refine .inl ?_;unfold e7 np;rw[ao oA,qB]
  congr 1;clear hl
  induction s with
  |nil=>rfl|cons c s ih=>
   rw[Lib.index,qW (by simp[List.isPrefixOf];exact fun q=>h c qH q.symm),ih (fun x hx=>h x (qE _ hx))]
   rfl
def znh(fu:Nat)(n:Nat)(m:Nat)(hm:m<=3):∀(s:Bs)(D E:List Bs),s.length<=100000->E.length+D.length=m+1->D.length<=m->m-D.length<n ->
  Ok (fun r=>r.length<=m+1/\tot r+r.length=tot D+D.length+s.length+1) (qha fu n s [63] 0 (m:Int) (D.length:Int) (D++E)):=by
 induction n with
 |zero=>intro s D E _ _ _ h;omega|succ n ih=>
  intro s D E hs hE hD hn;rw[qha,quc];obtain⟨e,E,rfl⟩:∃e E',E=e::E':=by cases E with|nil=>simp at hE;omega|cons e E=>exact⟨e,E,rfl⟩
  have hlt:(D.length:Int).toNat<(D++e::E).length:=oC
  have fin:Ok (fun r=>r.length<=m+1/\tot r+r.length=tot D+D.length+s.length+1) (bif decide (0<=(D.length:Int)/\(D.length:Int).toNat<List.length (D++e::E)) then((D++e::E)[(D.length:Int).toNat]?).bind fun _=>bif decide (0<=af ((D.length:Int)+(1:Int))/\af ((D.length:Int)+(1:Int))<=(List.length (List.set (D++e::E) (D.length:Int).toNat s):Int)) then some (List.take (af ((D.length:Int)+(1:Int))).toNat (List.set (D++e::E) (D.length:Int).toNat s)) else none else none):=by
   refine dt ⟨oA,hlt⟩ ?_
   rw[qoh,qB,qpo,cn _]
   refine dt ⟨oA,oD⟩ (bf ?_)
   rw[show((D.length+1:Nat):Int).toNat=(D++[s]).length by simp,show D++s::E=(D++[s])++E by simp,List.take_left,zen,q1c,qpw]
   simp;omega
  refine ef (fun h0 => ?_) (fun h0=>fin)
  rcases zny s with hi|⟨w,r,rfl,hi⟩
  ·rw[hi,qB,ao oA];exact fin
  ·simp only[qM,qL]at hs;rw[hi,qB,bu,Int.add_zero,bn (x:=(w.length:Int)) oA oA]
   refine dt oD (dt ⟨oA,hlt⟩ ?_)
   rw[qoh,qB,show((List.length ([63]:Bs):Nat):Int)=1 from rfl,cn _,cn _,qpo]
   refine dt oD ?_
   rw[show((w.length+1:Nat):Int).toNat=w.length+1 by omega,← List.drop_drop,List.drop_left,show((w.length:Nat):Int).toNat=w.length by omega,List.take_left]
   have:=ih r (D++[w]) E oA (by simp at hE ⊢;omega) oD oD
   simp only[qM,qL,qZ,wO,qS,wM]at this;refine sr this fun v hv=>⟨hv.1,?_⟩
   have h2:=hv.2;rw[zen,q1c,qpw]at h2;simp only[qM,qL];omega
def zsq(fu:Nat)(hfu:100<=fu)(s:Bs)(hs:s.length<=100000:=by omega):Ok (fun r=>r.length<=4/\tot r+r.length=s.length+1) (ql7 fu s [63] 4):=by
 unfold ql7 ql8;rw[ar,ar,bu oE]
 unfold ql9;rw[cn _]
 generalize hx:(if((s.length+1:Nat):Int)<(4:Int) then((s.length+1:Nat):Int) else(4:Int))=x
 obtain⟨m,rfl,hm⟩:∃m:Nat,x=((m+1:Nat):Int)/\m<=3:=by
  by_cases h:((s.length+1:Nat):Int)<(4:Int)
  ·rw[qX h]at hx;exact⟨s.length,hx.symm,oA⟩
  ·rw[qW h]at hx;exact⟨3,oA,oA⟩
 refine bc (P:=fun r=>r.length<=4/\tot r+r.length=s.length+1) (dt oA ?_) fun v hv=>bf hv
 rw[zt4 m,show((m+1:Nat):Int).toNat=m+1 by omega]
 have:=znh fu fu m hm s [] (List.replicate (m+1) []) hs oC oC oD
 rw[List.nil_append,qpw]at this;refine sr this fun v hv=>⟨oA,?_⟩
 have:=hv.2;simp at this;exact this
def q9v(s p:Bs):Ok (fun b=>b=true->p.length<=s.length) (qcq s p):=by
 unfold qcq qlg;refine bc (P:=fun b=>b=true->p.length<=s.length) (ef (fun h=>dt oA (bf fun _=>oA)) fun h=>bf fun q=>by cases q) fun v hv=>bf hv
def four{r:List Bs}(h:¬(r.length:Int)<4)(h':r.length<=4):∃a b c d,r=[a,b,c,d]:=by
 match r,h,h' with|[a,b,c,d],_,_=>exact⟨a,b,c,d,rfl⟩|[],h,_=>exact absurd h oC|[_],h,_=>exact absurd h oC|[_,_],h,_=>exact absurd h oC|[_,_,_],h,_=>exact absurd h oC|_::_::_::_::_::_,_,h=>exact absurd h oC
def zq1(fu:Nat)(hfu:90000000<=fu)(s:Bs)(hs:s.length<=100000):Ok (fun v=>v.1.length<=48000/\(v.2.2=true->∃k:Nat,v.2.1=(k:Int)/\6<=k/\k<=s.length)) (qmg fu s):=by
 unfold qmg;refine bc (q9v s [61,63]) fun b hb=>gx (fun _=>bf ⟨oC,fun q=>by cases q⟩) fun q => ?_
 have h2:2<=s.length:=hb q;generalize hx:(if(75:Int)<(List.length s:Int) then(75:Int) else(List.length s:Int))=x
 obtain⟨m,rfl,hm,hm2,hm3⟩:∃m:Nat,x=(m:Int)/\2<=m/\m<=s.length/\m<=75:=by
  by_cases h:(75:Int)<(List.length s:Int)
  ·rw[qX h]at hx;exact⟨75,oA,oA,oA,oA⟩
  ·rw[qW h]at hx;exact⟨s.length,hx.symm,oA,oA,oA⟩
 refine dt oA ?_
 have hl:(List.take ((m:Int).toNat-(2:Int).toNat) (List.drop (2:Int).toNat s)).length=m-2:=by
  rw[List.length_take,List.length_drop,show(2:Int).toNat=2 from rfl,show(m:Int).toNat=m by omega];omega
 refine bc (zsq fu oA _) fun r hr => ?_
 rw[hl]at hr;refine ef (fun _ => ?_) fun h4 => ?_
 ·unfold qhj;rw[bi rfl];exact bf ⟨oC,fun q=>by cases q⟩
 ·obtain⟨a,b,c,d,rfl⟩:=four h4 hr.1;have ht:=hr.2;simp only[q1c,qpw,qL,qZ]at ht;rw[show am [a,b,c,d] (3:Int)=some d from rfl,qB]
  refine bc (q9v d [61]) fun b4 hb4 => ?_
  unfold qhj;refine gx (fun _ => ?_) fun q => ?_
  ·exact bf ⟨oC,fun q=>by cases q⟩
  ·have hd:1<=d.length:=hb4 q;unfold qu7;rw[show am [a,b,c,d] (1:Int)=some b from rfl,show am [a,b,c,d] (2:Int)=some c from rfl,show am [a,b,c,d] (0:Int)=some a from rfl]
   simp only[qB];refine bc (zkz fu hfu b c) fun x3 _ => ?_
   obtain⟨t,f,e,hlt⟩:=zk7 fu hfu a x3.2
   rw[e,qB];have e2:af (af (af (af ((2:Int)+(a.length:Int))+(b.length:Int))+(c.length:Int))+4)=((2+a.length+b.length+c.length+4:Nat):Int):=by
    rw[bn (x:=2+(a.length:Int)) oA oA,bn (x:=2+(a.length:Int)+(b.length:Int)) oA oA,bn (x:=2+(a.length:Int)+(b.length:Int)+(c.length:Int)) oA oA,bn]
    omega
   rw[e2];refine cu (fun _ => ?_) fun _=>bf ⟨hlt,fun q=>by cases q⟩
   exact⟨_,rfl,hlt,fun _=>⟨_,rfl,oA,oA⟩⟩
def Gp(g:Int)(k:Nat):Prop:=g<0\/∃j:Nat,g=(j:Int)/\j<=k
def zl4(fu:Nat)(hfu:90000000<=fu)(z:Int×Int)(s:Bs)(hs:s.length<=4000)(n:Nat):∀(k:Nat)(g:Int)(out:Bs),k<=s.length->s.length-k<n->Gp g k->out.length<=60000*k ->
  Ok (fun v=>v.1.length<=300000000) (wy fu n s g (k:Int) z out):=by
 induction n with
 |zero=>intro k g out _ h;omega|succ n ih=>
  intro k g out hk h hg ho;rw[wy,qu1];refine ef (fun h0 => ?_) fun h0 => ?_
  ·have hk1:k<s.length:=oA
   refine dt oA (bc (zq1 fu hfu _ (by rw[List.length_drop];omega)) fun v hv => ?_)
   have p3:∀(g:Int)(out:Bs),Gp g k->out.length<=60000*k+10000->Ok (fun v=>v.1.length<=300000000) (qhf fu (wy fu n) s g (k:Int) z out):=fun g out hg ho=>by
    unfold qhf;rw[cn k]
    exact ih (k+1) g out oA oA (hg.imp id fun⟨j,e,hj⟩=>⟨j,e,oA⟩) oA
   have p2:∀(b:Bool)(g:Int)(out:Bs),(b=true->0<=g)->Gp g k->out.length<=60000*k+1->Ok (fun v=>v.1.length<=300000000) (qhe fu (wy fu n) s g (k:Int) b z out):=fun b g out hb hg ho=>by
    unfold qhe;refine cu (fun q => ?_) fun _=>p3 g out hg oA
    have:=hb q;obtain⟨j,rfl,hj⟩:∃j:Nat,g=(j:Int)/\j<=k:=hg.resolve_left oA
    rw[cn k]
    refine dt oA ?_
    have hl:(List.take (((k+1:Nat):Int).toNat-(j:Int).toNat) (List.drop (j:Int).toNat s)).length<=4000:=by
     rw[List.length_take,List.length_drop];omega
    rw[q1m _ _,qB]
    exact p3 (-1) _ (.inl oA) oT
   have p1:∀(g:Int)(out:Bs),Gp g k->out.length<=60000*k+1->Ok (fun v=>v.1.length<=300000000) (qhd fu (wy fu n) s g (k:Int) z out):=fun g out hg ho=>by
    unfold qhd;refine ef (fun h=>bc (ia hk1) fun c _ => ?_) fun h=>p2 false g out (fun q=>by cases q) hg ho
    rw[q7n,qB];exact p2 _ g out (fun _=>h) hg ho
   refine gx (fun _=>ef (fun _=>bc (ia hk1) fun c _ => ?_) fun _=>p1 g out hg oA) fun q => ?_
   ·rw[zt6 _ _,qB]
    exact p1 g _ hg oO
   ·obtain⟨j,e,h6,hj⟩:=hv.2 q;rw[List.length_drop]at hj;have hv1:=hv.1;rw[q1m _ _,qB,e,bn (x:=(k:Int)+(j:Int)) oA oA,show(k:Int)+(j:Int)=((k+j:Nat):Int) by omega]
    exact ih (k+j) _ _ oA oA (.inr ⟨k+j,rfl,wF _⟩) oT
  ·refine ef (fun h => ?_) fun h => ?_
   ·obtain⟨j,rfl,hj⟩:∃j:Nat,g=(j:Int)/\j<=k:=hg.resolve_left oA
    refine dt oA ?_
    have hl:(List.drop (j:Int).toNat s).length<=4000:=by rw[List.length_drop];omega
    rw[q1m _ _,qB]
    exact⟨_,rfl,by simp only[qM];omega⟩
   ·exact⟨_,rfl,oJ⟩
def zl6(fu:Nat)(hfu:90000000<=fu)(s:Bs):Ok (fun v=>v.1.length<=300000000) (qme fu s):=by
 unfold qme;refine ef (fun _=>⟨_,rfl,oC⟩) fun h => ?_
 exact zl4 fu hfu _ s oA fu 0 (-1) [] oA oA (.inl oA) oC
abbrev dc{α:Type}:α->Prop:=fun _=>True
def qnm:∀n:_root_.Fin 256,(tp (UInt8.ofNat n.val)).isSome=true/\(wh (UInt8.ofNat n.val)).isSome=true/\(wb (UInt8.ofNat n.val)).isSome=true/\(qcr ([58,59,44,64,60,62]:Bs) (UInt8.ofNat n.val)).isSome=true:=by decide +kernel
def qo1{α:Type}{x:Option α}(h:x.isSome=true):Ok dc x:=by
 obtain⟨v,e⟩:=Option.isSome_iff_exists.1 h;exact⟨v,e,trivial⟩
def qws(c:UInt8):Ok dc (tp c):=qo1 (uy (fun c=>(tp c).isSome=true) (fun n=>(qnm n).1) c)
def zoz(c:UInt8):Ok dc (wh c):=qo1 (uy (fun c=>(wh c).isSome=true) (fun n=>(qnm n).2.1) c)
def q8r(c:UInt8):Ok dc (wb c):=qo1 (uy (fun c=>(wb c).isSome=true) (fun n=>(qnm n).2.2.1) c)
def zsh(c:UInt8):Ok dc (qcr ([58,59,44,64,60,62]:Bs) c):=qo1 (uy (fun c=>(qcr ([58,59,44,64,60,62]:Bs) c).isSome=true) (fun n=>(qnm n).2.2.2) c)
def qwf(s:Bs)(hs:s.length<=10000000)(P0:Nat->Bs->Int->Int->Option Bool)(p:UInt8->Option Bool)(hp:∀c,Ok dc (p c))
  (h0:∀n e k,P0 (n+1) s e k=(bif decide (k<e) then(am s k).bind fun c=>(p c).bind fun x=>bif !x then some false else P0 n s e (af (k+(1:Int))) else some true)) :
  ∀n k:Nat,s.length-k<n->Ok dc (P0 n s (s.length:Int) (k:Int)):=by
 intro n
 induction n with
 |zero=>intro k h;omega|succ n ih=>
  intro k h;rw[h0];refine ef (fun q=>bc (ia (k:=k) oA) fun c _=>bc (hp c) fun x _=>gx (fun _=>bf trivial) fun _ => ?_) fun _=>bf trivial
  rw[cn k]
  exact ih (k+1) oA
def ixc(c:UInt8):∀(w r:Bs),(∀x∈w,x≠c)->Lib.index (w++c::r) [c]=(w.length:Int)
 |[],r,_=>by rw[List.nil_append,Lib.index,qX (by simp[List.isPrefixOf])];rfl|d::w,r,h=>by
  have hc:=h d qH;rw[wK,Lib.index,qW (by simp[List.isPrefixOf];intro q;exact hc q.symm),ixc c w r (fun d hd=>h d (qE _ hd)),qW (by rw[beq_iff_eq];omega)]
  simp
def ixn(c:UInt8):∀s:Bs,(∀x∈s,x≠c)->Lib.index s [c] = -1
 |[],_=>rfl|d::s,h=>by
  rw[Lib.index,qW (by simp[List.isPrefixOf];exact fun q=>h d qH q.symm),ixn c s (fun x hx=>h x (qE _ hx))]
  rfl
def zn1(c:UInt8)(s:Bs)(hl:s.length<=1000000:=by omega):(e7 s [c]=some (-1))\/∃w r,s=w++c::r/\e7 s [c]=some (w.length:Int):=by
 unfold e7 np;rw[ao oA,qB]
 rcases qjv c s with⟨w,r,rfl,h⟩|h
 ·exact .inr ⟨w,r,rfl,congrArg some (ixc c w r h)⟩
 ·exact .inl (congrArg some (ixn c s h))
def zcj{R:Type}(P1:Nat->Bs->Bs->Int->Bool->Option R)(r0:Bs->Bool->Option (Bool ⊕ Bool))(A B:Bs×Bs×Int×Bool->R)(hr:∀s b,s.length<=100000->Ok dc (r0 s b))
  (h0:∀n m1 m2 m3 m5,P1 (n+1) m1 m2 m3 m5=(e7 m2 m1).bind fun x1=>bif decide (x1<(0:Int)) then(r0 m2 m5).bind fun x2=>ay x2 (fun a3=>some (A (m1,(m2,(m3,a3))))) (fun b4=>some (B (m1,(m2,(m3,b4))))) else bif decide (0<=af (x1+m3)/\af (x1+m3)<=(List.length m2:Int)) then(r0 (List.take (af (x1+m3)).toNat m2) m5).bind fun x5=>ay x5 (fun a6=>some (A (m1,(m2,(m3,a6))))) (fun b7=>bif decide (0<=af (x1+(List.length m1:Int))/\af (x1+(List.length m1:Int))<=(List.length m2:Int)) then P1 n m1 (List.drop (af (x1+(List.length m1:Int))).toNat m2) m3 b7 else none) else none) :
  ∀(n:Nat)(s:Bs)(b:Bool),s.length<n->s.length<=100000->Ok dc (P1 n [46] s 0 b):=by
 intro n
 induction n with
 |zero=>intro s b h;omega|succ n ih=>
  intro s b h hs;rw[h0];rcases zn1 46 s with e|⟨w,r,rfl,e⟩
  ·rw[e,qB,ao oA]
   exact bc (hr s b hs) fun x2 _=>ez (fun _ _=>bf trivial) fun _ _=>bf trivial
  ·simp only[qM,qL]at h hs;rw[e,qB,bu,Int.add_zero,bn (x:=(w.length:Int)) oA oA]
   refine dt oD (bc (hr _ b (by rw[List.length_take];simp;omega)) fun x2 _=>ez (fun _ _=>bf trivial) fun b7 _ => ?_)
   rw[show((List.length ([46]:Bs):Nat):Int)=1 from rfl,cn _]
   refine dt oD ?_
   rw[show((w.length+1:Nat):Int).toNat=w.length+1 by omega,← List.drop_drop,List.drop_left]
   exact ih r b7 oA oA
def zjb(fu:Nat)(hfu:90000000<=fu)(s:Bs)(hs:s.length<=100000:=by omega):Ok dc (qk2 fu s):=qwf s oA (qb9 fu) wh zoz (fun _ _ _=>rfl) fu 0 oA
def zjd(fu:Nat)(hfu:90000000<=fu)(s:Bs)(hs:s.length<=100000):Ok dc (qga fu s):=qwf s oA (qca fu) tp qws (fun _ _ _=>rfl) fu 0 oA
def zjf(fu:Nat)(hfu:90000000<=fu)(s:Bs)(hs:s.length<=100000):Ok dc (qk3 fu s):=qwf s oA (qcb fu) wb q8r (fun _ _ _=>rfl) fu 0 oA
def qy2(fu:Nat)(hfu:90000000<=fu)(s:Bs):Ok dc (tv fu s):=by
 unfold tv;exact gx (fun _=>ef (fun h=>bc (zjb fu hfu s) fun _ _=>bf trivial) fun _=>bf trivial) fun _=>bf trivial
def zmi(fu:Nat)(hfu:90000000<=fu)(s:Bs)(hs:s.length<=100000:=by omega):Ok dc (we fu s):=by
 unfold we qkx oy qct;simp only[qB];unfold qma;rw[ar]
 refine bc (P:=dc) (bc (P:=dc) ?_ fun x _=>ez (fun _ _=>bf trivial) fun _ _=>bf trivial) fun _ _=>bf trivial
 refine zcj (qhb fu) (wi fu) _ _ (fun s b hs => ?_) (fun _ _ _ _ _=>rfl) fu s false oA hs
 unfold wi;exact cu (fun _=>bf trivial) fun _=>bc (zjd fu hfu s hs) fun _ _=>gx (fun _=>bf trivial) fun _=>bf trivial
def qxr(fu:Nat)(hfu:90000000<=fu)(s:Bs):Ok dc (tu fu s):=by
 unfold tu;refine ef (fun h => ?_) fun _=>bf trivial
 unfold qky oy qct;simp only[qB];unfold qmb;rw[ar]
 refine bc (P:=dc) (bc (P:=dc) ?_ fun x _=>ez (fun _ _=>bf trivial) fun _ _=>bf trivial) fun _ _=>bf trivial
 refine zcj (qhc fu) (wj fu) _ _ (fun s b hs => ?_) (fun _ _ _ _ _=>rfl) fu s false oA oA
 unfold wj;exact cu (fun _=>bf trivial) fun _=>bc (zjf fu hfu s hs) fun _ _=>gx (fun _=>bf trivial) fun _=>bf trivial
def At(s:Bs)(k:Nat)(m:Bs×Int):Prop:=∃j:Nat,m=(s,(j:Int))/\k<=j/\j<=s.length
def jj{s:Bs}{k j:Nat}(h:k<=j)(h':j<=s.length):At s k (s,(j:Int)):=⟨j,rfl,h,h'⟩
def at_le{s:Bs}{k l:Nat}{m:Bs×Int}(h:At s k m)(q:l<=k:=by omega):At s l m:=by obtain⟨j,e,a,b⟩:=h;exact⟨j,e,oA,b⟩
def ib{α:Type}(P:α->Prop)(r:Int ⊕ α):Prop:=∀m,r = .inr m->P m
def eh{α:Type}{P:α->Prop}{x:Int}:ib P (.inl x):=fun _ q=>by cases q
def jd{α:Type}{P:α->Prop}{x:α}(h:P x):ib P (.inr x):=fun _ q=>by cases q;exact h
def zln(fu:Nat)(hfu:90000000<=fu)(s:Bs)(hs:s.length<=4000)(n:Nat):∀(d:Int)(k:Nat),k<=s.length+1->s.length+1-k<n->Ok (ib (At s (k+1))) (zh fu n d (s,(k:Int))):=by
 induction n with
 |zero=>intro d k _ h;omega|succ n ih=>
  intro d k hk h;rw[zh,qrc];refine ef (fun _=>⟨_,rfl,eh⟩) fun h0 => ?_
  have h1:k<s.length:=by simp only[]at h0;omega
  unfold qrd;have e1:af ((k:Int)+1)=((k+1:Nat):Int):=cn k
  have e2:af (((k+1:Nat):Int)+1)=((k+2:Nat):Int):=cn (k+1)
  have i1:∀d,Ok (ib (At s (k+1))) (zh fu n d (s,((k+1:Nat):Int))):=fun d=>sr (ih d (k+1) oA oA) fun r hr m e=>at_le (hr m e)
  have i2:∀d,Ok (ib (At s (k+1))) (zh fu n d (s,((k+2:Nat):Int))):=fun d=>sr (ih d (k+2) oA oA) fun r hr m e=>at_le (hr m e)
  dsimp only;simp only[e1,e2];refine bc (ia h1) fun c _=>cu (fun _=>i1 _) fun _=>cu (fun _=>cu (fun _=>bf (jd (jj oA oA))) fun _=>i1 _) fun _=>cu (fun _=>i2 _) fun _=>i1 _
def zsl(fu:Nat)(hfu:90000000<=fu)(s:Bs)(hs:s.length<=4000)(n:Nat):∀k:Nat,k<=s.length->s.length-k<n->Ok (ib (At s k)) (qb6 fu n (s,(k:Int))):=by
 induction n with
 |zero=>intro k _ h;omega|succ n ih=>
  intro k hk h;rw[qb6,qrn];refine ef (fun h0 => ?_) fun _=>bf (jd (jj (wF _) hk))
  have h1:k<s.length:=by simp only[]at h0;omega
  have i1:∀j:Nat,k<j->j<=s.length->Ok (ib (At s k)) (qb6 fu n (s,(j:Int))):=fun j a b=>sr (ih j b oA) fun r hr m e=>at_le (hr m e)
  refine bc (ia h1) fun c _ => ?_
  rw[q7n,qB];refine cu (fun _ => ?_) fun _=>cu (fun _=>bc (zln fu hfu s hs fu 0 k oA oA) fun r hr=>ez (fun _ _=>bf eh) fun b hb => ?_) fun _=>bf (jd (jj (wF _) hk))
  ·dsimp only;rw[cn k];exact i1 (k+1) oA oA
  ·obtain⟨j,rfl,a,b⟩:=hr b hb;exact i1 j oA b
def zqx(fu:Nat)(hfu:90000000<=fu)(s:Bs)(hs:s.length<=4000)(n:Nat):∀(k:Nat)(out:Bs),k<=s.length->s.length-k<n->out.length<=k->Ok (ib fun v=>At s (k+1) v.2/\v.1.length<=s.length) (qb5 fu n (s,(k:Int)) out):=by
 induction n with
 |zero=>intro k out _ h;omega|succ n ih=>
  intro k out hk h ho;rw[qb5,qrj];refine ef (fun _=>⟨_,rfl,eh⟩) fun h0 => ?_
  have h1:k<s.length:=by simp only[]at h0;omega
  have e1:af ((k:Int)+1)=((k+1:Nat):Int):=cn k
  have e2:af (((k+1:Nat):Int)+1)=((k+2:Nat):Int):=cn (k+1)
  have i1:∀(j:Nat)(c:UInt8),k<j->j<=s.length->Ok (ib fun v=>At s (k+1) v.2/\v.1.length<=s.length) (qb5 fu n (s,(j:Int)) (out++[c])):=fun j c a b=>
   sr (ih j (out++[c]) b oA oD) fun r hr m e=>⟨at_le (hr m e).1,(hr m e).2⟩
  unfold qrk qrl;dsimp only;simp only[e1,e2];refine bc (ia h1) fun c _=>cu (fun _=>bf (jd ⟨jj (wF _) oA,oJ⟩)) fun _=>cu (fun _=>ef (fun _=>⟨_,rfl,eh⟩) fun h2=>bc (ia) fun c2 _=>dt (qj _ _) (i1 (k+2) c2 oA oA)) fun _=>dt (qj _ _) (i1 (k+1) c oA oA)
def NxP(s:Bs)(k:Nat):qms->Prop|.inl _=>True|.inr (.inl m)=>At s k m|.inr (.inr (.inl (w,(_,m))))=>At s (k+1) m/\w.length<=s.length|.inr (.inr (.inr (_,m)))=>At s (k+1) m
def zpi(fu:Nat)(hfu:90000000<=fu)(s:Bs)(hs:s.length<=4000)(n:Nat)(k0:Nat):∀k:Nat,k0<=k->k<=s.length->s.length-k<n->Ok (NxP s k0) (qb3 fu n (k0:Int) (s,(k:Int))):=by
 induction n with
 |zero=>intro k _ _ h;omega|succ n ih=>
  intro k hk hk2 h;rw[qb3,qrg];have p1:∀b:Bool,(b=true->k<s.length)->Ok (NxP s k0) (qb4 fu (qb3 fu n) (k0:Int) b (s,(k:Int))):=fun b hb=>by
   unfold qb4 qrh;refine cu (fun q => ?_) fun _=>cu (fun _=>⟨_,rfl,trivial⟩) fun q=>dt oJ (bf ⟨jj ?_ hk2,?_⟩)
   ·have:=hb q;dsimp only;rw[cn k]
    exact ih (k+1) oA oA oA
   ·have:¬(k:Int)=(k0:Int):=by simpa using q
    omega
   ·rw[List.length_take,List.length_drop];simp only[];omega
  refine ef (fun h0 => ?_) fun _=>p1 false (fun q=>by cases q)
  have h1:k<s.length:=by simp only[]at h0;omega
  exact bc (ia h1) fun c _=>bc (qws c) fun b _=>cu (fun _=>p1 true fun _=>h1) fun _=>bc (ia h1) fun c2 _=>p1 _ fun _=>h1
def qje(fu:Nat)(hfu:90000000<=fu)(s:Bs)(hs:s.length<=4000)(k:Nat)(hk:k<=s.length:=by omega):Ok (NxP s k) (zj fu (s,(k:Int))):=by
 unfold zj qrm;refine bc (zsl fu hfu s hs fu k hk oA) fun r hr=>ez (fun _ _=>bf trivial) fun b hb => ?_
 obtain⟨j,rfl,a,b⟩:=hr b hb;refine ef (fun _=>bf (jj a b)) fun h0 => ?_
 have h1:j<s.length:=by simp only[]at h0;omega
 refine bc (ia h1) fun c _=>cu (fun _ => ?_) fun _=>bc (zsh c) fun x _=>ef (fun _=>bf ?_) fun _ => ?_
 ·unfold qri;dsimp only;rw[cn j]
  refine bc (zqx fu hfu s hs fu (j+1) [] oA oA oC) fun v hv=>ez (fun _ _=>bf trivial) fun b7 h7=>bf ⟨at_le (hv b7 h7).1,(hv b7 h7).2⟩
 ·show At s (k+1) (s,af ((j:Int)+1));rw[cn j];exact jj oA oA
 ·refine sr (zpi fu hfu s hs fu j j (wF _) b oA) fun r hr => ?_
  match r,hr with|.inl _,_=>trivial|.inr (.inl m),h=>exact at_le h a|.inr (.inr (.inl (w,(q,m)))),h=>exact⟨at_le h.1,h.2⟩|.inr (.inr (.inr (c,m))),h=>exact at_le h
def zuc(fu:Nat)(hfu:90000000<=fu)(s:Bs)(hs:s.length<=4000)(n:Nat):∀(k:Nat)(l:List (Bs×Bool)),k<=s.length->s.length-k<n->l.length<=k->(∀w∈l,w.1.length<=s.length)->Ok (ib fun v=>At s k v.1/\v.2.length<=s.length/\∀w∈v.2,w.1.length<=s.length) (qf6 fu n (s,(k:Int)) l):=by
 induction n with
 |zero=>intro k l _ h;omega|succ n ih=>
  intro k l hk h hl hw;rw[qf6,qrp];unfold tz;obtain⟨r,e,hr⟩:=qje fu hfu s hs k hk;rw[e]
  match r,hr with
  |.inl _,_=>exact⟨_,rfl,eh⟩|.inr (.inl m),h2=>
   obtain⟨j,rfl,a,b⟩:=h2;exact⟨_,rfl,jd ⟨jj (wF _) hk,oJ,hw⟩⟩
  |.inr (.inr (.inl (w,(q,m)))),h2=>
   obtain⟨⟨j,rfl,a,b⟩,h3⟩:=h2;simp only[qB,ay];rw[e];simp only[qB,ay];refine dt (qj _ _) (sr (ih j _ b oA oD fun x hx => ?_) fun v hv m em=>⟨at_le (hv m em).1,(hv m em).2⟩)
   rcases List.mem_append.1 hx with q|q
   ·exact hw x q
   ·rw[List.mem_singleton]at q;subst q;exact h3
  |.inr (.inr (.inr (c,m))),h2=>
   obtain⟨j,rfl,a,b⟩:=h2;exact⟨_,rfl,jd ⟨jj (wF _) hk,oJ,hw⟩⟩
def q1k(fu:Nat)(hfu:90000000<=fu)(s:Bs)(hs:s.length<=4000)(k:Nat)(hk:k<=s.length):Ok (ib fun v=>At s k v.1/\v.2.length<=s.length/\∀w∈v.2,w.1.length<=s.length) (qf5 fu (s,(k:Int))):=
 zuc fu hfu s hs fu k [] hk oA oC (fun _ h=>by cases h)
def qd6(fu:Nat)(hfu:90000000<=fu)(s:Bs)(hs:s.length<=4000)(c:UInt8)(k:Nat)(hk:k<=s.length):Ok (ib fun v=>At s k v.2/\(v.1=true->At s (k+1) v.2)) (tw fu c (s,(k:Int))):=by
 unfold tw tz;obtain⟨r,e,hr⟩:=qje fu hfu s hs k hk;rw[e]
 match r,hr with
 |.inl _,_=>exact⟨_,rfl,eh⟩|.inr (.inl m),h2=>
  obtain⟨j,rfl,a,b⟩:=h2;exact⟨_,rfl,jd ⟨jj (wF _) hk,fun q=>by cases q⟩⟩
 |.inr (.inr (.inl (w,(q,m)))),h2=>
  obtain⟨⟨j,rfl,a,b⟩,h3⟩:=h2;exact⟨_,rfl,jd ⟨jj (wF _) hk,fun q=>by cases q⟩⟩
 |.inr (.inr (.inr (d,m))),h2=>
  obtain⟨j,rfl,a,b⟩:=h2;simp only[qB,ay];refine gx (fun _=>bf (jd ⟨jj (wF _) hk,fun q=>by cases q⟩)) fun _ => ?_
  rw[e];exact⟨_,rfl,jd ⟨jj oA b,fun _=>jj a b⟩⟩
def qzf(fu:Nat)(hfu:90000000<=fu)(s:Bs)(hs:s.length<=4000)(c:UInt8)(k:Nat)(hk:k<=s.length):Ok (ib (At s (k+1))) (qb2 fu c (s,(k:Int))):=by
 unfold qb2;refine bc (qd6 fu hfu s hs c k hk) fun r hr=>ez (fun _ _=>bf eh) fun b hb=>gx (fun _=>⟨_,rfl,eh⟩) fun q=>bf (jd ((hr b hb).2 q))
def zal(sep:Bs)(m:Nat):∀r:List Bs,(∀x∈r,x.length<=m)->(Lib.joinTail sep r).length<=(m+sep.length)*r.length
 |[],_=>by simp[Lib.joinTail]|x::r,h=>by
  have h1:=h x qH;have h2:=zal sep m r (fun y hy=>h y (qE _ hy))
  have e:Lib.joinTail sep (x::r)=sep++x++Lib.joinTail sep r:=by simp[Lib.joinTail]
  rw[e,qM,qM,qL,Nat.mul_add];omega
def zam(sep:Bs)(m:Nat)(r:List Bs)(h:∀x∈r,x.length<=m):(Lib.join r sep).length<=(m+sep.length)*r.length:=by
 cases r with
 |nil=>simp[Lib.join_nil]|cons x r=>
  have h1:=h x qH;have h2:=zal sep m r (fun y hy=>h y (qE _ hy))
  rw[Lib.join_cons,qM,qL,Nat.mul_add];omega
def zak(sep:Bs)(r:List Bs)(hs:sep.length<=10)(h:∀x∈r,x.length<=300000000)(hl:r.length<=10000:=by omega):Ok dc (fk r sep):=by
 have:=zam sep 300000000 r h;unfold fk;have h2:(300000000+sep.length)*r.length<=300000010*10000:=Nat.mul_le_mul oA hl
 exact dt ⟨oA,oA⟩ (bf trivial)
def qzc{l:List Bs}{x:Bs}{m:Nat}(h:∀y∈l,y.length<=m)(hx:x.length<=m:=by omega):∀y∈l++[x],y.length<=m:=fun y hy=>by
 rcases List.mem_append.1 hy with q|q
 ·exact h y q
 ·rw[List.mem_singleton]at q;subst q;exact hx
def zbp(fu:Nat)(hfu:90000000<=fu)(run out:List Bs)(h1:∀x∈run,x.length<=4000)(h2:run.length<=4000)(h3:∀x∈out,x.length<=300000000)(h4:out.length<=9000:=by omega) :
  Ok (fun v=>v.1=[]/\v.2.length<=out.length+1/\∀x∈v.2,x.length<=300000000) (qf0 fu run out):=by
 unfold qf0;refine ef (fun _=>bc (zak _ run oC (fun x hx=>by have:=h1 x hx;omega)) fun x1 _=>bc (zl6 fu hfu x1) fun x2 hx2=>dt (qj _ _) (bf ⟨rfl,oC,qzc h3 hx2⟩)) fun h=>bf ⟨?_,oC,h3⟩
 exact List.length_eq_zero_iff.1 oJ
def zpe(fu:Nat)(hfu:90000000<=fu)(l:List (Bs×Bool))(hl:l.length<=4000)(hw:∀w∈l,w.1.length<=4000)(n:Nat):∀(k:Nat)(out run:List Bs),k<=l.length->l.length-k<n->out.length<=2*k->(∀x∈out,x.length<=300000000)->run.length<=k->(∀x∈run,x.length<=4000) ->
  Ok dc (qf1 fu n l (l.length:Int) (k:Int) out run):=by
 induction n with
 |zero=>intro k out run _ h;omega|succ n ih=>
  intro k out run hk h ho ho2 hr hr2;rw[qf1,qra];refine ef (fun h0 => ?_) fun h0 => ?_
  ·refine bc (qzs (k:=k) oA hw) fun y1 hy=>cu (fun _=>bc (zbp fu hfu run out hr2 oA ho2) fun v hv=>dt (qj _ _) ?_) fun _=>dt (qj _ _) ?_
   ·rw[cn k,hv.1]
    exact ih (k+1) _ [] oA oA (by have:=hv.2.1;simp;omega) (qzc hv.2.2) oC (fun x hx=>by cases hx)
   ·rw[cn k]
    exact ih (k+1) out _ oA oA oA ho2 oD (qzc hr2 hy)
  ·refine bc (zbp fu hfu run out hr2 oA ho2) fun v hv=>bc (zak _ v.2 oC hv.2.2 (by have:=hv.2.1;omega)) fun _ _=>bf trivial
def zbq(fu:Nat)(hfu:90000000<=fu)(l:List (Bs×Bool))(hl:l.length<=4000)(hw:∀w∈l,w.1.length<=4000):Ok dc (qb0 fu l):=
 zpe fu hfu l hl hw fu 0 [] [] oA oA oC (fun x hx=>by cases hx) oC (fun x hx=>by cases hx)
def qn0(fu:Nat)(hfu:90000000<=fu)(s:Bs):Ok dc (qr s):=by
 unfold qr iy;refine ef (fun _=>bf trivial) fun h=>bc (dt (P:=dc) oA (bf trivial)) fun _ _=>gx (fun _=>bf trivial) fun _=>bf trivial
def q6v(fu:Nat)(hfu:90000000<=fu)(a:Bs×Bs×Bs):Ok dc (wa fu a):=by
 unfold wa;refine bc (qn0 fu hfu _) fun x1 _=>cu (fun _=>⟨_,rfl,trivial⟩) fun _=>bc (qy2 fu hfu _) fun x3 _=>gx (fun _=>⟨_,rfl,trivial⟩) fun _=>bc (qxr fu hfu _) fun x5 _=>gx (fun _=>⟨_,rfl,trivial⟩) fun _=>⟨_,rfl,trivial⟩
def zi7(fu:Nat)(hfu:90000000<=fu)(l:List (Bs×Bs×Bs))(hl:l.length<=80000000)(n:Nat):∀k:Nat,l.length-k<n->Ok dc (qt fu n l (l.length:Int) (k:Int)):=by
 induction n with
 |zero=>intro k h;omega|succ n ih=>
  intro k h;rw[qt,qbz];refine ef (fun h0=>bc (ia (k:=k) oA) fun y _=>bc (q6v fu hfu y) fun x2 _=>bc (P:=dc) ⟨_,rfl,trivial⟩ fun x3 _=>cu (fun _=>bf trivial) fun _ => ?_) fun _=>bf trivial
  rw[cn k]
  exact ih (k+1) oA
def q6y(fu:Nat)(hfu:90000000<=fu)(x:Bs×Bool×(List (Bs×Bs×Bs)))(hx:x.2.2.length<=80000000:=by omega):Ok dc (wg fu x):=by
 unfold wg;have p:∀b,Ok dc (nj fu b x):=fun b=>by
  unfold nj qfz;exact cu (fun _=>bf trivial) fun _=>zi7 fu hfu _ hx fu 0 oA
 exact bc (qn0 fu hfu _) fun x1 _=>cu (fun _=>bf trivial) fun _=>gx (fun _=>p _) fun _=>gx (fun _=>p _) fun _=>p _
def zla(fu:Nat)(hfu:90000000<=fu)(l:List (Bs×Bool×(List (Bs×Bs×Bs))))(hl:l.length<=80000000)(hm:∀x∈l,x.2.2.length<=80000000)(z:Int×Int)(n:Nat):∀k:Nat,l.length-k<n->Ok dc (qq fu n l (l.length:Int) (k:Int) z):=by
 induction n with
 |zero=>intro k h;omega|succ n ih=>
  intro k h;rw[qq,qbu];refine ef (fun h0=>bc (qzs (k:=k) oA hm) fun y hy=>bc (q6y fu hfu y hy) fun x2 _=>cu (fun _=>⟨_,rfl,trivial⟩) fun _ => ?_) fun _=>⟨_,rfl,trivial⟩
  rw[cn k]
  exact ih (k+1) oA
def zk8(fu:Nat)(hfu:90000000<=fu)(l:List (Bs×Bool×(List (Bs×Bs×Bs))))(hl:l.length<=80000000)(hm:∀x∈l,x.2.2.length<=80000000)(z:Int×Int)(n:Nat):∀(c:Int)(k:Nat),l.length-k<n->Ok dc (qo fu n l c l (l.length:Int) (k:Int) z):=by
 induction n with
 |zero=>intro c k h;omega|succ n ih=>
  intro c k h;rw[qo,qbt];have p:∀b,Ok dc (qp fu l b z):=fun b=>by
   unfold qp qfw;exact cu (fun _=>⟨_,rfl,trivial⟩) fun _=>zla fu hfu l hl hm z fu 0 oA
  refine ef (fun h0=>bc (ia (k:=k) oA) fun y _ => ?_) fun _=>ef (fun _=>p _) fun _=>p _
  rw[cn k]
  exact ih _ (k+1) oA
def q71(fu:Nat)(hfu:90000000<=fu)(l:List (Bs×Bool×(List (Bs×Bs×Bs))))(hl:l.length<=80000000)(hm:∀x∈l,x.2.2.length<=80000000):Ok dc (qbs fu l):=zk8 fu hfu l hl hm _ fu 0 0 oA
def AdQ(s:Bs)(k:Nat)(v:(Bs×Bs×Bs)×(Bs×Int)×(List (Bs×Bool))):Prop:=At s (k+1) v.2.1/\v.1.2.1.length<=s.length/\v.1.2.2.length<=s.length
def zdy(fu:Nat)(hfu:90000000<=fu)(s:Bs)(hs:s.length<=4000)(k:Nat)(hk:k<=s.length)(l:List (Bs×Bool))(hl:∀w∈l,w.1.length<=s.length):Ok (ib fun v=>AdQ s k v/\v.1.1=[]) (qf4 fu (s,(k:Int)) l):=by
 unfold qf4;have pt:∀(l:List (Bs×Bool))(z:Bs×Bs×Bs),Ok (ib fun v=>AdQ s k v/\v.1.1=[]) (wm fu true (s,(k:Int)) l z):=fun l z=>⟨_,rfl,eh⟩
 by_cases h1:(l.length:Int)=1
 ·rw[ar (by simp[h1])]
  obtain⟨w,rfl⟩:∃w,l=[w]:=by
   match l,h1 with|[w],_=>exact⟨w,rfl⟩|[],h=>simp at h|_::_::_,h=>simp only[qL]at h;omega
  have hw:=hl w qH;have pf:∀z:Bs×Bs×Bs,Ok (ib fun v=>AdQ s k v/\v.1.1=[]) (wm fu false (s,(k:Int)) [w] z):=fun z=>by
   unfold wm qro;rw[ar rfl];refine bc (qzf fu hfu s hs 64 k hk) fun r hr=>ez (fun _ _=>bf eh) fun b hb => ?_
   obtain⟨j,rfl,a,b⟩:=hr b hb;refine bc (qje fu hfu s hs j b) fun r hr => ?_
   match r,hr with
   |.inl _,_=>exact⟨_,rfl,eh⟩|.inr (.inl m),h2=>exact⟨_,rfl,eh⟩|.inr (.inr (.inr (d,m))),h2=>exact⟨_,rfl,eh⟩|.inr (.inr (.inl (x,(q,m)))),h2=>
    refine cu (fun _=>⟨_,rfl,eh⟩) fun _=>bc (qxr fu hfu x) fun x13 _=>gx (fun _=>⟨_,rfl,eh⟩) fun _=>dt ⟨oE,oC⟩ ?_
    exact⟨_,rfl,jd ⟨⟨at_le h2.1,hw,h2.2⟩,rfl⟩⟩
  refine dt ⟨oE,oC⟩ ?_
  rw[show([w]:List (Bs×Bool))[(0:Int).toNat]? = some w from rfl]
  simp only[qB];refine bc (qy2 fu hfu w.1) fun x2 _=>gx (fun _=>pt _ _) fun _=>dt ⟨oE,oC⟩ (gx (fun _=>dt ⟨oE,oC⟩ (bc (zmi fu hfu w.1) fun x5 _ => ?_)) fun _=>pf _)
  cases x5
  ·exact pt _ _
  ·exact pf _
 ·rw[bi (by simp[h1])];exact pt _ _
def q6u(fu:Nat)(hfu:90000000<=fu)(s:Bs)(hs:s.length<=4000)(k:Nat)(hk:k<=s.length)(l:List (Bs×Bool))(hn:l.length<=s.length)(hl:∀w∈l,w.1.length<=s.length):Ok (ib (AdQ s k)) (qf2 fu (s,(k:Int)) l):=by
 unfold qf2;refine bc (qd6 fu hfu s hs 60 k hk) fun r hr=>ez (fun _ _=>bf eh) fun b hb => ?_
 obtain⟨b,m⟩:=b;obtain⟨⟨j,rfl,a1,b1⟩,_⟩:=hr _ hb;refine gx (fun _=>bc (zdy fu hfu s hs j b1 l hl) fun r hr=>ez (fun _ _=>bf eh) fun b hb=>bf (jd ?_)) fun _ => ?_
 ·obtain⟨⟨h1,h2,h3⟩,_⟩:=hr b hb;exact⟨at_le h1,h2,h3⟩
 ·refine bc (q1k fu hfu s hs j b1) fun r hr=>ez (fun _ _=>bf eh) fun b hb => ?_
  obtain⟨m,ws⟩:=b;obtain⟨⟨i,rfl,a2,b2⟩,h4,h5⟩:=hr _ hb;refine bc (zdy fu hfu s hs i b2 ws h5) fun r hr=>ez (fun _ _=>bf eh) fun b hb => ?_
  obtain⟨a,m,ws'⟩:=b;obtain⟨⟨⟨o,rfl,a3,b3⟩,h6,h7⟩,_⟩:=hr _ hb;refine bc (zbq fu hfu l oA (fun w hw=>by have:=hl w hw;omega)) fun x13 _=>bc (qzf fu hfu s hs 62 o b3) fun r hr=>ez (fun _ _=>bf eh) fun b hb=>bf (jd ⟨at_le (hr b hb),h6,h7⟩)
def ItP(s:Bs)(x:Bs×Bool×(List (Bs×Bs×Bs))):Prop:=x.2.2.length<=s.length+1/\(∀a∈x.2.2,a.2.1.length<=s.length/\a.2.2.length<=s.length)/\(x.2.1=false->x.2.2.length=1)
def zob(fu:Nat)(hfu:90000000<=fu)(s:Bs)(hs:s.length<=4000)(z1:Bs)(z2:Bool)(g:Bs)(n:Nat):∀(k:Nat)(l:List (Bs×Bs×Bs)),k<=s.length->s.length-k<n->l.length<=k->(∀a∈l,a.2.1.length<=s.length/\a.2.2.length<=s.length) ->
  Ok (ib fun v=>At s (k+1) v.2/\ItP s v.1) (qf3 fu n (s,(k:Int)) z1 z2 g l):=by
 induction n with
 |zero=>intro k l _ h;omega|succ n ih=>
  intro k l hk h hl hL;rw[qf3,qre];refine bc (q1k fu hfu s hs k hk) fun r hr=>ez (fun _ _=>bf eh) fun b hb => ?_
  obtain⟨m,ws⟩:=b;obtain⟨⟨i,rfl,a2,b2⟩,h4,h5⟩:=hr _ hb;refine bc (q6u fu hfu s hs i b2 ws h4 h5) fun r hr=>ez (fun _ _=>bf eh) fun b hb => ?_
  obtain⟨a,m,ws'⟩:=b;obtain⟨⟨o,rfl,a3,b3⟩,h6,h7⟩:=hr _ hb;have hL2:∀x∈l++[a],x.2.1.length<=s.length/\x.2.2.length<=s.length:=fun x hx=>by
   rcases List.mem_append.1 hx with q|q
   ·exact hL x q
   ·rw[List.mem_singleton]at q;subst q;exact⟨h6,h7⟩
  refine dt (qj _ _) (bc (qd6 fu hfu s hs 59 o b3) fun r hr=>ez (fun _ _=>bf eh) fun b hb => ?_)
  obtain⟨b,m⟩:=b;obtain⟨⟨p,rfl,a4,b4⟩,_⟩:=hr _ hb;refine cu (fun _=>bf (jd ⟨jj oA b4,oD,hL2,fun q=>by cases q⟩)) fun _=>bc (qzf fu hfu s hs 44 p b4) fun r hr=>ez (fun _ _=>bf eh) fun b hb => ?_
  obtain⟨t,rfl,a5,b5⟩:=hr _ hb;exact sr (ih t _ b5 oA oD hL2) fun v hv m em=>⟨at_le (hv m em).1,(hv m em).2⟩
def zag(fu:Nat)(hfu:90000000<=fu)(s:Bs)(hs:s.length<=4000)(k:Nat)(hk:k<=s.length:=by omega):Ok (ib fun v=>At s (k+1) v.2/\ItP s v.1) (zi fu (s,(k:Int))):=by
 unfold zi;refine bc (q1k fu hfu s hs k hk) fun r hr=>ez (fun _ _=>bf eh) fun b hb => ?_
 obtain⟨m,ws⟩:=b;obtain⟨⟨i,rfl,a2,b2⟩,h4,h5⟩:=hr _ hb;refine bc (qd6 fu hfu s hs 58 i b2) fun r hr=>ez (fun _ _=>bf eh) fun b hb => ?_
 obtain⟨b,m⟩:=b;obtain⟨⟨o,rfl,a3,b3⟩,hb2⟩:=hr _ hb;refine gx (fun _=>bc (q6u fu hfu s hs o b3 ws h4 h5) fun r hr=>ez (fun _ _=>bf eh) fun b hb=>bf (jd ?_)) fun q=>bc (zbq fu hfu ws (by dsimp only at h4;omega) (fun w hw=>by have:=h5 w hw;omega)) fun x10 _=>cu (fun _=>⟨_,rfl,eh⟩) fun _ => ?_
 ·obtain⟨h1,h6,h7⟩:=hr b hb;refine⟨at_le h1,oC,fun a ha => ?_,fun _=>rfl⟩
  rw[List.mem_singleton]at ha;subst ha;exact⟨h6,h7⟩
 ·obtain⟨o',e,a4,b4⟩:=hb2 q;obtain rfl:o=o':=by have:=congrArg Prod.snd e;simp only[]at this;omega
  unfold qrf;refine bc (qd6 fu hfu s hs 59 o b3) fun r hr=>ez (fun _ _=>bf eh) fun b hb => ?_
  obtain⟨b,m⟩:=b;obtain⟨⟨p,rfl,a5,b5⟩,_⟩:=hr _ hb;refine cu (fun _=>bf (jd ⟨jj oA b5,oC,fun a ha=>(by cases ha),fun q=>by cases q⟩)) fun _ => ?_
  exact sr (zob fu hfu s hs [] false x10 fu p [] b5 oA oC (fun a ha=>by cases ha)) fun v hv m em=>⟨at_le (hv m em).1,(hv m em).2⟩
def LsP(s:Bs)(l:List (Bs×Bool×(List (Bs×Bs×Bs)))):Prop:=l.length<=s.length+1/\∀x∈l,ItP s x
def PsP(s:Bs)(r:qhr):Prop:=∀v,r = .inr v->LsP s v.1
def qa5{s:Bs}{x:Int×Bs}:PsP s (.inl x):=fun _ q=>by cases q
def za7(s:Bs):LsP s []:=⟨oC,fun x hx=>by cases hx⟩
def za8(s:Bs){l:List (Bs×Bool×(List (Bs×Bs×Bs)))}{x:Bs×Bool×(List (Bs×Bs×Bs))}(h:∀x∈l,ItP s x)(hx:ItP s x):∀y∈l++[x],ItP s y:=fun y hy=>by
 rcases List.mem_append.1 hy with q|q
 ·exact h y q
 ·rw[List.mem_singleton]at q;subst q;exact hx
def zck(fu:Nat)(hfu:90000000<=fu)(s:Bs)(hs:s.length<=4000)(m1:Bs)(m3:Int×Int)(l:List (Bs×Bool×(List (Bs×Bs×Bs))))(hl:LsP s l):Ok (PsP s) (qfy fu m1 m3 l):=by
 unfold qfy;refine bc (q71 fu hfu l (by have:=hl.1;omega) (fun x hx=>by have:=(hl.2 x hx).1;omega)) fun x1 _=>bc (P:=dc) ⟨_,rfl,trivial⟩ fun x2 _=>cu (fun _=>⟨_,rfl,fun _ q => ?_⟩) fun _=>⟨_,rfl,fun _ q => ?_⟩
 ·cases q;exact za7 s
 ·cases q;exact hl
def zqs(fu:Nat)(hfu:90000000<=fu)(s:Bs)(hs:s.length<=4000)(m1:Bs)(m3:Int×Int)(n:Nat):∀(k:Nat)(l:List (Bs×Bool×(List (Bs×Bs×Bs)))),k<=s.length->s.length-k<n->l.length<=k->(∀x∈l,ItP s x)->Ok (PsP s) (zg fu n m1 m3 (s,(k:Int)) l):=by
 induction n with
 |zero=>intro k l _ h;omega|succ n ih=>
  intro k l hk h hl hL;rw[zg,qq8];refine bc (qd6 fu hfu s hs 44 k hk) fun r hr=>ez (fun _ _=>bf qa5) fun b hb => ?_
  obtain⟨b,m⟩:=b;obtain⟨⟨o,rfl,a3,b3⟩,hb2⟩:=hr _ hb;refine cu (fun q=>bc (zag fu hfu s hs o b3) fun r hr=>ez (fun _ _=>bf qa5) fun b hb => ?_) fun _ => ?_
  ·obtain⟨x,m⟩:=b;obtain⟨⟨p,rfl,a4,b4⟩,hx⟩:=hr _ hb;exact dt (qj _ _) (ih p _ b4 oA oD (za8 s hL hx))
  ·unfold tz;obtain⟨r,e,hr⟩:=qje fu hfu s hs o b3;dsimp only;rw[e]
   match r,hr with|.inl _,_=>exact⟨_,rfl,qa5⟩|.inr (.inl m),h2=>exact zck fu hfu s hs m1 m3 l ⟨oA,hL⟩|.inr (.inr (.inl (w,(q,m)))),h2=>exact⟨_,rfl,qa5⟩|.inr (.inr (.inr (d,m))),h2=>exact⟨_,rfl,qa5⟩
def zqt(fu:Nat)(hfu:90000000<=fu)(s:Bs)(hs:s.length<=4000)(a b:Int):Ok (PsP s) (qfx fu s a b):=by
 unfold qfx qbw tz;have hi:=zag fu hfu s hs 0
 have h2:Ok (PsP s) ((zi fu (s,(0:Int))).bind fun x8=>ay x8 (fun a9=>some (.inl (a9,s))) (fun b10=>bif decide (List.length ([b10.1]:List (Bs×Bool×(List (Bs×Bs×Bs))))<=au) then zg fu fu s (a,b) b10.2 ([b10.1]:List (Bs×Bool×(List (Bs×Bs×Bs)))) else none)):=by
  refine bc hi fun r hr=>ez (fun _ _=>bf qa5) fun b hb => ?_
  obtain⟨x,m⟩:=b;obtain⟨⟨p,rfl,a4,b4⟩,hx⟩:=hr _ hb;exact dt (by simp[au]) (zqs fu hfu s hs s _ fu p [x] b4 oA oD (za8 s (l:=[]) (fun x hx=>by cases hx) hx))
 obtain⟨r,e,hr⟩:=qje fu hfu s hs 0
 rw[show((0:Nat):Int)=0 from rfl]at e
 rw[e]
 match r,hr with
 |.inl _,_=>exact⟨_,rfl,qa5⟩|.inr (.inl m),h=>simp only[qB,ay];exact zck fu hfu s hs s (a,b) [] (za7 s)|.inr (.inr (.inl (w,(q,m)))),h=>
  obtain⟨⟨j,rfl,_,_⟩,_⟩:=h;exact h2
 |.inr (.inr (.inr (d,m))),h=>
  obtain⟨j,rfl,_,_⟩:=h;exact h2
def zp6(fu:Nat)(hfu:90000000<=fu)(s:Bs):Ok (fun v=>v.1.length<=4001/\∀x∈v.1,x.2.2.length<=4001/\(∀a∈x.2.2,a.2.1.length<=4000/\a.2.2.length<=4000)/\(x.2.1=false->x.2.2.length=1)) (qks fu s):=by
 unfold qks qbv;refine ef (fun _=>⟨_,rfl,oC,fun x hx=>by cases hx⟩) fun h=>bc (zqt fu hfu s oA _ _) fun r hr=>ez (fun _ _=>⟨_,rfl,oC,fun x hx=>by cases hx⟩) fun b hb=>bf ?_
 obtain⟨h1,h2⟩:=hr b hb;refine⟨oA,fun x hx => ?_⟩
 obtain⟨h3,h4,h5⟩:=h2 x hx;exact⟨oA,fun a ha=>by have:=h4 a ha;omega,h5⟩
def nv(c:UInt8):Bool:=(tp c).getD false
def zj4(c:UInt8):tp c=some (nv c):=by
 obtain⟨v,e,_⟩:=qws c;unfold nv;rw[e];rfl
abbrev vd(w:Bs):Bs:=ee 92 34 [92,92] [92,34] w
inductive Tok where
 |sg (c:UInt8)
 |wd (w:Bs) (q:Bool)
def ztk:Tok->Bs|.sg c=>[c]|.wd w false=>w|.wd w true=>34::(vd w++[34])
abbrev BT:=Bool×Tok
def Wds(W:List BT):Prop:=∀x∈W,∃w q,x.2 = .wd w q
def wof:List BT->List (Bs×Bool)|[]=>[]|(_,.wd w q)::W=>(w,q)::wof W|(_,.sg _)::W=>wof W
def LoT(fu:Nat)(lo:Bs)(q:Bool):Prop:=tv fu lo=some true/\(q=false->we fu lo=some true)
abbrev spT(b:Bool)(lo dm:Bs)(q:Bool):List BT:=[(b,.wd lo q),(false,.sg 64),(false,.wd dm false)]
def AdT(fu:Nat)(a:Bs×Bs×Bs)(T:List BT):Prop:=∃q,LoT fu a.2.1 q/\tu fu a.2.2=some true /\
 ((a.1=[]/\T=spT false a.2.1 a.2.2 q)\/(a.1≠[]/\∃W,Wds W/\W≠[]/\qb0 fu (wof W)=some a.1/\T=W++(true,.sg 60)::(spT false a.2.1 a.2.2 q++[(false,.sg 62)])))
def bk1:List BT->List BT|[]=>[]|(_,t)::T=>(true,t)::T
inductive MsT(fu:Nat):List (Bs×Bs×Bs)->List BT->Prop where
 |one {a T}:AdT fu a T->MsT fu [a] T
 |cons {a T ms T'}:AdT fu a T->MsT fu ms T'->MsT fu (a::ms) (T++(false,.sg 44)::bk1 T')
def GnT(fu:Nat)(g:Bs)(W:List BT):Prop:=Wds W/\W≠[]/\qb0 fu (wof W)=some g/\g≠[]
inductive ItT(fu:Nat):(Bs×Bool×(List (Bs×Bs×Bs)))->List BT->Prop where
 |single {a T}:AdT fu a T->ItT fu ([],(false,[a])) T
 |grp0 {g W}:GnT fu g W->ItT fu (g,(true,[])) (W++[(false,.sg 58),(false,.sg 59)])
 |grp {g W ms T}:GnT fu g W->MsT fu ms T->ItT fu (g,(true,ms)) (W++(false,.sg 58)::(bk1 T++[(false,.sg 59)]))
inductive LsT(fu:Nat):List (Bs×Bool×(List (Bs×Bs×Bs)))->List BT->Prop where
 |one {x T}:ItT fu x T->LsT fu [x] T
 |cons {x T l T'}:ItT fu x T->LsT fu l T'->LsT fu (x::l) (T++(false,.sg 44)::bk1 T')

structure St1(k:Nat)(R:List Nat)(Gs:List (List Nat))(N:List Nat):Prop where
 all:∀G∈Gs,G≠[]/\(ze5 k G).length<=75
 cur:N≠[]->(ze5 k N).length<=75
 flat:Gs.flatten++N=R


def qm7(s:Bs)(hs:s.length<=10000000)(P0:Nat->Bs->Int->Int->Option Bool)(p:UInt8->Bool)
  (h0:∀n e k,P0 (n+1) s e k=(bif decide (k<e) then(am s k).bind fun c=>(some (p c)).bind fun x=>bif !x then some false else P0 n s e (af (k+(1:Int))) else some true)) :
  ∀(n:Nat)(ab aa:Bs),s=ab++aa->aa.length<n->P0 n s (s.length:Int) (ab.length:Int)=some (aa.all p):=by
 intro n
 induction n with
 |zero=>intro ab aa _ h;omega|succ n ih=>
  intro ab aa e h;have hl:=congrArg List.length e;rw[qM]at hl;rw[h0]
  cases aa with
  |nil=>rw[bu (by simp at hl;omega)];rfl|cons c aa=>
   simp only[qL]at hl h;rw[ao oA,show am s (ab.length:Int)=some c by rw[e];exact jc _ _ _,qB,qB,List.all_cons]
   cases hp:p c
   ·rfl
   ·rw[qdc,cn _]
    have:=ih (ab++[c]) aa (by rw[e];simp) oA
    rw[qM,wD]at this;rw[this];rfl
def rm(c:UInt8):Bool:=(wb c).getD false
def zmd(c:UInt8):wb c=some (rm c):=by
 obtain⟨v,e,_⟩:=q8r c;unfold rm;rw[e];rfl
def zjc(fu:Nat)(s:Bs)(h:s.length<fu:=by omega)(hs:s.length<=10000000:=by omega):qga fu s=some (s.all nv):=
 qm7 s hs (qca fu) nv (fun n e k=>by rw[qca,qrv];simp only[zj4]) fu [] s rfl h
def zje(fu:Nat)(s:Bs)(h:s.length<fu:=by omega)(hs:s.length<=10000000:=by omega):qk3 fu s=some (s.all rm):=
 qm7 s hs (qcb fu) rm (fun n e k=>by rw[qcb,qrw];simp only[zmd]) fu [] s rfl h
def b0:List BT->Prop|(true,_)::_=>False|_=>True
def zqy(s:Bs)(hs:s.length<=100000):qb1 s=some (34::(vd s++[34]))/\(vd s).length<=300000:=by
 have hc:gv 92 34 s<=2*s.length:=by
  have h1:=List.count_le_length (a:=(92:UInt8)) (l:=s);have h2:=List.count_le_length (a:=(34:UInt8)) (l:=s);unfold gv;omega
 have hl:=qdx (a:=92) (b:=34) oE 92 92 92 34 s
 unfold qb1;rw[show qg9 ([([92]:Bs),([92,92]:Bs),([34]:Bs),([92,34]:Bs)]:List Bs)=some (0,0,0,[[92],[92,92],[34],[92,34]]) from rfl,qB]
 unfold qv;dsimp only;rw[ao ⟨rfl,rfl,oE,oA⟩,qB,ao (by simp only[qL,qZ,bg];omega),ao (by simp only[qM,qL,qZ,bg];omega)]
 exact⟨rfl,by show(ee 92 34 [92,92] [92,34] s).length<=300000;omega⟩
abbrev FU:Nat:=100000000
def VaA(a:Bs×Bs×Bs):Prop:=qr a.1=some 0/\tv FU a.2.1=some true/\tu FU a.2.2=some true
def VaI(x:Bs×Bool×(List (Bs×Bs×Bs))):Prop:=qr x.1=some 0/\(x.2.1=true↔x.1≠[])/\(x.2.1=false->x.2.2.length=1)/\∀a∈x.2.2,VaA a
def lst(T:List BT):Prop:=∃S x,T=S++[x]/\∀t,ztk x.2≠t++[32]
end Go.Sym
namespace Go.Sym
abbrev Adr:Type:=Bs×Bs×Bs
abbrev o5:Type:=Bs×Bool×(List Adr)
def zj7{a:Adr}{f:Int×Int}(h:wa FU a=some f)(h0:f.1=0):VaA a:=by
 obtain⟨d,hd,_⟩:=qn0 FU oE a.1
 obtain⟨b1,hb1,_⟩:=qy2 FU oE a.2.1
 obtain⟨b2,hb2,_⟩:=qxr FU oE a.2.2
 unfold wa at h;rw[hd,qB,im]at h;by_cases c:d≠0
 ·rw[qX c]at h;have:=congrArg (Option.map Prod.fst) h;simp[aw]at this;omega
 ·rw[qW c,hb1,qB]at h;cases b1
  ·have:=congrArg (Option.map Prod.fst) h;simp[aw]at this;omega
  ·rw[qdc,hb2,qB]at h;cases b2
   ·have:=congrArg (Option.map Prod.fst) h;simp[aw]at this;omega
   ·exact⟨by rw[hd,Classical.not_not.1 c],hb1,hb2⟩
def zkb(l:List Adr)(hl:l.length<=80000000)(n:Nat):∀ab aa:List Adr,l=ab++aa->aa.length<n->qt FU n l (l.length:Int) (ab.length:Int)=some 0->∀a∈aa,VaA a:=by
 induction n with
 |zero=>intro ab aa _ h;omega|succ n ih=>
  intro ab aa e h hq
  cases aa with
  |nil=>intro a ha;cases ha
  |cons a aa=>
   have ac:=congrArg List.length e;simp only[qM,qL]at ac h;rw[qt,qbz,ao oA,show am l (ab.length:Int)=some a by rw[e];exact jc _ _ _,qB]at hq
   obtain⟨f,hf,_⟩:=q6v FU oE a
   rw[hf,qB,n9,qB,im]at hq;by_cases c:f.1≠0
   ·rw[qX c]at hq;exact absurd (qJ hq) c
   ·rw[qW c,cn _]at hq
    have:=ih (ab++[a]) aa (by rw[e];simp) oA (by rw[qM,wD];exact hq)
    intro b hb;rcases List.mem_cons.1 hb with rfl|hb
    ·exact zj7 hf (Classical.not_not.1 c)
    ·exact this b hb
def zi8{x:o5}(hx:x.2.2.length<=80000000)(h:wg FU x=some 0):VaI x:=by
 obtain⟨d,hd,_⟩:=qn0 FU oE x.1
 unfold wg at h;rw[hd,qB,im]at h;by_cases c:d≠0
 ·rw[qX c]at h;exact absurd (qJ h) c
 rw[qW c]at h;obtain⟨g,b,ms⟩:=x;simp only[]at hd h hx;have hd0:qr g=some 0:=by rw[hd,Classical.not_not.1 c]
 have pt:∀x,nj FU true x≠some 0:=fun x q=>by
  unfold nj at q;rw[bi rfl]at q;exact absurd (qJ q) oE
 have pf:nj FU false (g,(b,ms))=some 0->∀a∈ms,VaA a:=fun q=>by
  unfold nj qfz at q;rw[ar rfl]at q;exact zkb ms hx FU [] ms rfl oL q
 by_cases hg:g=[]
 ·subst hg
  cases b with
  |true=>exact absurd h (pt _)|false=>
   rw[ar,bi]at h
   by_cases hm:(ms.length:Int)=1
   ·rw[show((ms.length:Int) != (1:Int))=false by simp[hm]]at h
    exact⟨hd0,oC,fun _=>oJ,pf h⟩
   ·rw[show((ms.length:Int) != (1:Int))=true by simp[hm]]at h
    exact absurd h (pt _)
 ·have hgb:(g==([]:Bs))=false:=by simp[hg]
  rw[hgb]at h
  cases b with
  |false=>exact absurd h (pt (g,(false,ms)))|true=>
   rw[ar,ar]at h
   exact⟨hd0,⟨fun _=>hg,fun _=>rfl⟩,(fun q=>by cases q),pf h⟩
def zlb(l:List o5)(hl:l.length<=2000000)(hm:∀x∈l,x.2.2.length<=2000000)(z f:Int×Int)(hf:f.1=0)(n:Nat):∀ab aa:List o5,l=ab++aa->aa.length<n->qq FU n l (l.length:Int) (ab.length:Int) z=some f->f=(0,0)/\∀x∈aa,VaI x:=by
 induction n with
 |zero=>intro ab aa _ h;omega|succ n ih=>
  intro ab aa e h hq;have ac:=congrArg List.length e;rw[qM]at ac;rw[qq,qbu]at hq
  cases aa with
  |nil=>
   rw[bu (by simp at ac;omega)]at hq
   exact⟨(qJ hq).symm,fun a ha=>by cases ha⟩
  |cons x aa=>
   simp only[qL]at ac h;have hxl:=hm x (by rw[e];simp)
   rw[ao oA,show am l (ab.length:Int)=some x by rw[e];exact jc _ _ _,qB]at hq
   obtain⟨c,hc,_⟩:=q6y FU oE x
   rw[hc,qB,im]at hq;by_cases c0:c≠0
   ·rw[qX c0]at hq;have:=congrArg (Option.map Prod.fst) hq;simp[aw]at this;omega
   ·rw[qW c0,cn _]at hq
    obtain⟨i1,i2⟩:=ih (ab++[x]) aa (by rw[e];simp) oA (by rw[qM,wD];exact hq)
    refine⟨i1,fun y hy => ?_⟩
    rcases List.mem_cons.1 hy with rfl|hy
    ·exact zi8 oA (by rw[hc,Classical.not_not.1 c0])
    ·exact i2 y hy
def g8(l:List o5):Nat:=(l.map fun x=>x.2.2.length).sum
def qxb(x:o5)(l:List o5):g8 (x::l)=x.2.2.length+g8 l:=by simp[g8]
def q76(a b:List o5):g8 (a++b)=g8 a+g8 b:=by simp[g8]
def q77:∀(l:List o5),(∀x∈l,x.2.2.length<=2000000)->g8 l<=2000000*l.length
 |[],_=>by simp[g8]|x::l,h=>by
  have h1:=h x qH;have h2:=q77 l (fun y hy=>h y (qE _ hy))
  rw[qxb,qL];omega
def zk9(l:List o5)(hl:l.length<=2000000)(hm:∀x∈l,x.2.2.length<=2000000)(z f:Int×Int)(hf:f.1=0)(n:Nat):∀ab aa:List o5,l=ab++aa->aa.length<n->qo FU n l (g8 ab:Int) l (l.length:Int) (ab.length:Int) z=some f->f=(0,0)/\l.length<=60/\g8 l<=60/\∀x∈l,VaI x:=by
 have hcl:=q77 l hm
 induction n with
 |zero=>intro ab aa _ h;omega|succ n ih=>
  intro ab aa e h hq;have ac:=congrArg List.length e;rw[qM]at ac;rw[qo,qbt]at hq
  cases aa with
  |nil=>
   rw[List.append_nil]at e;subst e;rw[bu]at hq
   have pt:qp FU l true z≠some f:=fun q=>by
    unfold qp at q;rw[bi rfl]at q;have:=congrArg (Option.map Prod.fst) q;simp[aw]at this;omega
   by_cases h6:(60:Int)<(l.length:Int)
   ·rw[ao h6]at hq;exact absurd hq pt
   ·rw[bu h6]at hq;by_cases h7:(60:Int)<(g8 l:Int)
    ·rw[decide_eq_true h7]at hq;exact absurd hq pt
    ·rw[decide_eq_false h7]at hq;unfold qp qfw at hq;rw[ar rfl]at hq;obtain⟨i1,i2⟩:=zlb l hl hm z f hf FU [] l rfl oL hq
     exact⟨i1,oA,oA,i2⟩
  |cons x aa=>
   simp only[qL]at ac h;rw[ao oA,show am l (ab.length:Int)=some x by rw[e];exact jc _ _ _,qB,cn _]at hq
   have hc:g8 ab+x.2.2.length<=g8 l:=by rw[e,q76,qxb];omega
   rw[bn (x:=(g8 ab:Int)+(x.2.2.length:Int)) oA oA]at hq
   refine ih (ab++[x]) aa (by rw[e];simp) oA ?_
   rw[qM,wD,q76,qxb,show g8 []=0 from rfl,show((g8 ab+(x.2.2.length+0):Nat):Int)=(g8 ab:Int)+(x.2.2.length:Int) by omega]
   exact hq
def zld(l:List o5)(hl:l.length<=2000000)(hm:∀x∈l,x.2.2.length<=2000000){f:Int×Int}(h:qbs FU l=some f)(hf:f.1=0):f=(0,0)/\l.length<=60/\g8 l<=60/\∀x∈l,VaI x:=
 zk9 l hl hm _ f hf FU [] l rfl oL h
end Go.Sym

namespace Go.Sym.Cal
def sf(y:Int):Bool:=y%4==0&&(y%100 != 0||y%400==0)
def lp(y:Int):Int:=if sf y=true then 1 else 0
def za4(y:Int):0<=lp y/\lp y<=1:=by unfold lp;split<;>omega
def zo3(y:Int):lp y=(y/4-y/100+y/400)-((y-1)/4-(y-1)/100+(y-1)/400):=by
 unfold lp sf;split
 ·rename_i h;simp at h;omega
 ·rename_i h;simp at h;omega
def qam(m:Int):Int:=if m=2 then 28 else if m=4\/m=6\/m=9\/m=11 then 30 else 31
def dim(y m:Int):Int:=if m=2 then 28+lp y else qam m
def dim_bd(y m:Int):28<=dim y m/\dim y m<=31:=by
 have:=za4 y;unfold dim qam;split<;>(try split)<;>(try split)<;>omega
def qdl(m:Int):Int:=
 if m<=1 then 0 else if m=2 then 31 else if m=3 then 59 else if m=4 then 90 else if m=5 then 120 else if m=6 then 151 else if m=7 then 181
 else if m=8 then 212 else if m=9 then 243 else if m=10 then 273 else if m=11 then 304 else if m=12 then 334 else 365
def ei(y m:Int):Int:=qdl m+if 3<=m then lp y else 0
def q8c(y:Int):ei y 1=0:=by simp[ei,qdl]
def qxg(y:Int):ei y 13=365+lp y:=by simp[ei,qdl]
def qza(m:Int)(h1:1<=m)(h2:m<=12):m=1\/m=2\/m=3\/m=4\/m=5\/m=6\/m=7\/m=8\/m=9\/m=10\/m=11\/m=12:=oA
def qid(y m:Int)(h1:1<=m:=by omega)(h2:m<=12:=by omega):ei y (m+1)=ei y m+dim y m:=by
 rcases qza m h1 h2 with h|h|h|h|h|h|h|h|h|h|h|h<;>subst h<;>simp[ei,qdl,dim,qam]<;>omega
def qxh(y m:Int)(h1:1<=m)(h2:m<=13:=by omega):0<=ei y m/\ei y m<=366:=by
 have:=za4 y;rcases (show m=13\/m<=12 by omega) with h|h
 ·subst h;rw[qxg];omega
 ·rcases qza m h1 h with h|h|h|h|h|h|h|h|h|h|h|h<;>subst h<;>simp[ei,qdl]<;>omega
def qic(y a b:Int)(h1:1<=a:=by omega)(hab:a<=b:=by omega)(h2:b<=13:=by omega):ei y a<=ei y b:=by
 obtain⟨n,rfl⟩:∃n:Nat,b=a+n:=⟨(b-a).toNat,oA⟩
 induction n with
 |zero=>simp|succ n ih=>
  have h:=ih oA oA
  have hs:=qid y (a+n)
  have hd:=dim_bd y (a+n);have e:a+((n+1:Nat):Int)=a+n+1:=oA
  rw[e,hs];omega
def zlq(y a b:Int)(h1:1<=a)(hab:a<b)(h2:b<=13):ei y a+dim y a<=ei y b:=by
 rw[← qid y a h1];exact qic y _ _ oA oA h2
def da(y:Int):Int:=365*(y-1)+(y-1)/4-(y-1)/100+(y-1)/400
def zkf:da 1970=719162:=oE
def q7f(y:Int):da (y+1)=da y+365+lp y:=by
 have:=zo3 y;unfold da;rw[show y+1-1=y by omega];omega
def w9(a b:Int)(h:a<=b:=by omega):da a<=da b:=by unfold da;omega
def q7e(y:Int)(h1:1<=y)(h2:y<=4001):0<=da y/\da y<=1461000:=by unfold da;omega
def b8(y m d:Int):Int:=da y-719162+d-1+ei y m
def day_bd(y m d:Int)(h1:1<=y)(h2:y<=4001)(h3:1<=m)(h4:m<=13)(h5 : -1000<=d)(h6:d<=1000) : -720200<=b8 y m d/\b8 y m d<=743300:=by
 have:=q7e y h1 h2;have:=qxh y m h3 h4;unfold b8;omega
def fp(y m d:Int):Prop:=1<=y/\y<=4000/\1<=m/\m<=12/\1<=d/\d<=dim y m
instance(y m d:Int):Decidable (fp y m d):=by unfold fp;infer_instance
def qie(y m d:Int)(h:fp y m d):da y<=b8 y m d+719162/\b8 y m d+719162<da (y+1):=by
 obtain⟨_,_,h3,h4,h5,h6⟩:=h;have:=qxh y m h3;have:=zlq y m 13 h3 oA oA;have:=qxg y;have:=q7f y
 unfold b8;omega
def qxm(y m d:Int)(h:fp y m d):ei y m<=b8 y m d+719162-da y/\b8 y m d+719162-da y<ei y (m+1):=by
 obtain⟨_,_,h3,h4,h5,h6⟩:=h;have:=qid y m h3 h4;unfold b8;omega
def zlx{y m d y' m' d':Int}(h:fp y m d)(h':fp y' m' d')(e:b8 y m d=b8 y' m' d'):y=y'/\m=m'/\d=d':=by
 have a:=qie y m d h;have a':=qie y' m' d' h';have hy:y=y':=by
  rcases Int.lt_trichotomy y y' with c|c|c
  ·have:=w9 (y+1) y';omega
  ·exact c
  ·have:=w9 (y'+1) y;omega
 subst hy;have b:=qxm y m d h;have b':=qxm y m' d' h';obtain⟨_,_,h3,h4,_,_⟩:=h;obtain⟨_,_,h3',h4',_,_⟩:=h';have hm:m=m':=by
  rcases Int.lt_trichotomy m m' with c|c|c
  ·have:=qic y (m+1) m';omega
  ·exact c
  ·have:=qic y (m'+1) m;omega
 subst hm;refine⟨rfl,rfl,?_⟩;unfold b8 at e;omega
noncomputable def mq(n:Int):Int×Int×Int:=open Classical in if h:∃p:Int×Int×Int,fp p.1 p.2.1 p.2.2/\b8 p.1 p.2.1 p.2.2=n then Classical.choose h else(0,0,0)
def zle{y m d:Int}(h:fp y m d):mq (b8 y m d)=(y,m,d):=by
 have hx:∃p:Int×Int×Int,fp p.1 p.2.1 p.2.2/\b8 p.1 p.2.1 p.2.2=b8 y m d:=⟨(y,m,d),h,rfl⟩;unfold mq;rw[dif_pos hx];obtain⟨hv,he⟩:=Classical.choose_spec hx;obtain⟨a,b,c⟩:=zlx hv h he;exact Prod.ext a (Prod.ext b c)
def zlg{n y m d:Int}(h:fp y m d)(e:b8 y m d=n):mq n=(y,m,d):=by rw[← e];exact zle h
def zlf(n:Int)(h1 : -719162<=n)(h2:n<=741807):∃y m d:Int,fp y m d/\b8 y m d=n:=by
 have hyear:∀k:Nat,k<=4000->n+719162<da (k+1:Int)->∃y:Int,1<=y/\y<=4000/\da y<=n+719162/\n+719162<da (y+1):=by
  intro k
  induction k with
  |zero=>intro _ h;simp[da]at h;omega|succ k ih=>
   intro hk h;by_cases hc:n+719162<da (k+1:Int)
   ·exact ih oA hc
   ·exact⟨k+1,oA,oA,oA,by
     have e:((k+1:Nat):Int)+1=(k:Int)+1+1:=oA
     rw[e]at h;exact h⟩
 obtain⟨y,hy1,hy2,hy3,hy4⟩:=hyear 4000 (wF _) (by
  have:da ((4000:Nat)+1:Int)=1460970:=oE
  omega)
 have hmon:∀k:Nat,k<=12->n+719162-da y<ei y (k+1:Int)->∃m:Int,1<=m/\m<=12/\ei y m<=n+719162-da y/\n+719162-da y<ei y (m+1):=by
  intro k
  induction k with
  |zero=>intro _ h;simp[ei,qdl]at h;omega|succ k ih=>
   intro hk h;by_cases hc:n+719162-da y<ei y (k+1:Int)
   ·exact ih oA hc
   ·exact⟨k+1,oA,oA,oA,by
     have e:((k+1:Nat):Int)+1=(k:Int)+1+1:=oA
     rw[e]at h;exact h⟩
 obtain⟨m,hm1,hm2,hm3,hm4⟩:=hmon 12 (wF _) (by
  have:=qxg y;have:=q7f y;have e:((12:Nat):Int)+1=13:=oA
  rw[e];omega)
 have:=qid y m hm1 hm2;exact⟨y,m,n+719162-da y-ei y m+1,⟨hy1,hy2,hm1,hm2,oA,oA⟩,by unfold b8;omega⟩
def zlz:b8 4000 12 31=741807:=oE
def zl0:b8 1 1 1 = -719162:=oE
def q1f(y m d:Int)(h:fp y m d) : -719162<=b8 y m d/\b8 y m d<=741807:=by
 have a:=qie y m d h;have b:=w9 1 y h.1;have c:=w9 (y+1) 4001 (by have:=h.2.1;omega)
 have e1:da 1=0:=oE
 have e2:da 4001=1460970:=oE
 omega
def zlh(n:Int)(h1 : -719162<=n:=by omega)(h2:n<=741807:=by omega):fp (mq n).1 (mq n).2.1 (mq n).2.2/\b8 (mq n).1 (mq n).2.1 (mq n).2.2=n:=by
 obtain⟨y,m,d,h,e⟩:=zlf n h1 h2;rw[zlg h e];exact⟨h,e⟩
def qbi(n:Int):Int:=(n+4)%7
def zt8(n:Int):0<=qbi n/\qbi n<=6:=by unfold qbi;omega
end Go.Sym.Cal
namespace Go.Sym.Zn
open Go.Sym.Cal
def kv(y mo wd:Int):Int:=(wd-qbi (b8 y mo 1)+7)%7
def sy(y mo wk wd:Int):Int:=if wk=5/\dim y mo<29+kv y mo wd then 22+kv y mo wd else 1+kv y mo wd+7*(wk-1)
def zel(y mo wk wd mi ah:Int):Int:=b8 y mo (sy y mo wk wd)*86400+60*(mi-ah)
def TOk(mo wk wd mi:Int):Prop:=1<=mo/\mo<=12/\1<=wk/\wk<=5/\0<=wd/\wd<=6/\0<=mi/\mi<=1439
instance(mo wk wd mi:Int):Decidable (TOk mo wk wd mi):=by unfold TOk;infer_instance
def zeq(y mo wd:Int):0<=kv y mo wd/\kv y mo wd<=6:=by unfold kv;omega
def ztg(y mo wk wd:Int)(h1:1<=wk)(h2:wk<=5):1<=sy y mo wk wd/\sy y mo wk wd<=dim y mo:=by
 have:=zeq y mo wd;have:=dim_bd y mo;unfold sy;split
 ·omega
 ·rename_i h;by_cases h5:wk=5
  ·subst h5;simp at h;omega
  ·omega
def zl1(y m d:Int):b8 y m d=b8 y m 1+d-1:=by unfold b8;omega
def x7(y:Int):Int:=86400*(da y-719162)
structure z4e(B E:Int->Int)(std sm:Int):Prop where
 d1:std+1<=sm
 d2:sm<=std+180
 b1:∀y,x7 y<=B y+60*std
 b2:∀y,B y+60*std+60<=x7 (y+1)
 e1:∀y,x7 y<=E y+60*sm
 e2:∀y,E y+60*sm+60<=x7 (y+1)
 bs:∀y,B (y+1)=B y+364*86400\/B (y+1)=B y+371*86400
 es:∀y,E (y+1)=E y+364*86400\/E (y+1)=E y+371*86400
 be:∀y,x7 (y+1)-86400<=B y+60*std->E y+60*sm+86400<=x7 (y+1)
 eb:∀y,x7 (y+1)-86400<=E y+60*sm->B y+60*std+86400<=x7 (y+1)
section
variable{B E:Int->Int}{std sm:Int}
def q6d(B E:Int->Int)(lo hi t:Int):Prop:=∃y,lo<=y/\y<=hi/\B y<=t/\∀z,lo<=z->z<=hi->E z<=t->E z<B y
def Inv(B E:Int->Int)(t:Int)(S:Int->Prop)(best:Int)(out has:Bool):Prop:=
 (has=false->out=false/\∀y,S y->t<B y/\t<E y) /\
 (has=true->best<=t/\(∀y,S y->B y<=t->B y<=best)/\(∀y,S y->E y<=t->E y<=best) /\
  (out=true->(∃y,S y/\B y=best)/\∀y,S y->E y<=t->E y<best)/\(out=false->∃y,S y/\E y=best))
def Inv.start(t best:Int):Inv B E t (fun _=>False) best false false:=⟨fun _=>⟨rfl,fun _ h=>h.elim⟩,fun h=>by cases h⟩
def Inv.fin{t lo hi best:Int}{out has:Bool}(h:Inv B E t (fun y=>lo<=y/\y<=hi) best out has):out=true↔q6d B E lo hi t:=by
 constructor
 ·intro ho
  cases has with
  |false=>have:=(h.1 rfl).1;rw[this]at ho;cases ho
  |true=>
   obtain⟨h1,h2,h3,h4,_⟩:=h.2 rfl;obtain⟨⟨y,hy,rfl⟩,hE⟩:=h4 ho;exact⟨y,hy.1,hy.2,h1,fun z z1 z2 hz=>hE z ⟨z1,z2⟩ hz⟩
 ·rintro⟨y,y1,y2,hy,hz⟩
  cases has with
  |false=>have:=(h.1 rfl).2 y ⟨y1,y2⟩;omega|true=>
   obtain⟨h1,h2,h3,_,h5⟩:=h.2 rfl
   cases out with
   |true=>rfl|false=>
    obtain⟨z,hz',he⟩:=h5 rfl;have:=h2 y ⟨y1,y2⟩ hy;have:=hz z hz'.1 hz'.2 oA
    omega
def Inv.next{t k best best1 best2:Int}{S S':Int->Prop}{out has out1 has1 out2 has2:Bool}(h:Inv B E t S best out has)(hS:∀y,S' y↔S y\/y=k)
  (h1:(B k<=t/\(has=false\/best<B k)/\best1=B k/\out1=true/\has1=true)\/(¬(B k<=t/\(has=false\/best<B k))/\best1=best/\out1=out/\has1=has))
  (h2:(E k<=t/\(has1=false\/best1<=E k)/\best2=E k/\out2=false/\has2=true)\/(¬(E k<=t/\(has1=false\/best1<=E k))/\best2=best1/\out2=out1/\has2=has1)) :
  Inv B E t S' best2 out2 has2:=by
 obtain⟨hf,ht⟩:=h;have hk:S' k:=(hS k).2 (.inr rfl);have hsub:∀y,S y->S' y:=fun y hy=>(hS y).2 (.inl hy)
 rcases h1 with⟨a1,a2,rfl,rfl,rfl⟩|⟨a1,rfl,rfl,rfl⟩
 ·rcases h2 with⟨c1,c2,rfl,rfl,rfl⟩|⟨c1,rfl,rfl,rfl⟩
  ·refine⟨fun h=>(by cases h),fun _=>⟨c1,fun y hy hy2 => ?_,fun y hy hy2 => ?_,fun h=>(by cases h),fun _=>⟨k,hk,rfl⟩⟩⟩
   ·rcases (hS y).1 hy with q|rfl
    ·cases has with|false=>have:=(hf rfl).2 y q;omega|true=>have:=(ht rfl).2.1 y q hy2;simp at a2 c2;omega
    ·simp at c2;exact c2
   ·rcases (hS y).1 hy with q|rfl
    ·cases has with|false=>have:=(hf rfl).2 y q;omega|true=>have:=(ht rfl).2.2.1 y q hy2;simp at a2 c2;omega
    ·omega
  ·simp at c1;refine⟨fun h=>(by cases h),fun _=>⟨a1,fun y hy hy2 => ?_,fun y hy hy2 => ?_,fun _=>⟨⟨k,hk,rfl⟩,fun y hy hy2 => ?_⟩,fun h=>(by cases h)⟩⟩
   ·rcases (hS y).1 hy with q|rfl
    ·cases has with|false=>have:=(hf rfl).2 y q;omega|true=>have:=(ht rfl).2.1 y q hy2;simp at a2;omega
    ·omega
   ·rcases (hS y).1 hy with q|rfl
    ·cases has with|false=>have:=(hf rfl).2 y q;omega|true=>have:=(ht rfl).2.2.1 y q hy2;simp at a2;omega
    ·have:=c1 hy2;omega
   ·rcases (hS y).1 hy with q|rfl
    ·cases has with|false=>have:=(hf rfl).2 y q;omega|true=>have:=(ht rfl).2.2.1 y q hy2;simp at a2;omega
    ·exact c1 hy2
 ·rcases h2 with⟨c1,c2,rfl,rfl,rfl⟩|⟨c1,rfl,rfl,rfl⟩
  ·refine⟨fun h=>(by cases h),fun _=>⟨c1,fun y hy hy2 => ?_,fun y hy hy2 => ?_,fun h=>(by cases h),fun _=>⟨k,hk,rfl⟩⟩⟩
   ·rcases (hS y).1 hy with q|rfl
    ·cases has1 with|false=>have:=(hf rfl).2 y q;omega|true=>have:=(ht rfl).2.1 y q hy2;simp at c2;omega
    ·cases has1 with|false=>exact absurd ⟨hy2,.inl rfl⟩ a1|true=>simp at a1 c2;have:=a1 hy2;omega
   ·rcases (hS y).1 hy with q|rfl
    ·cases has1 with|false=>have:=(hf rfl).2 y q;omega|true=>have:=(ht rfl).2.2.1 y q hy2;simp at c2;omega
    ·omega
  ·cases has2 with
   |false=>
    simp at a1 c1;obtain⟨o,hn⟩:=hf rfl;refine⟨fun _=>⟨o,fun y hy => ?_⟩,fun h=>(by cases h)⟩
    rcases (hS y).1 hy with q|rfl
    ·exact hn y q
    ·exact⟨a1,c1⟩
   |true=>
    simp at a1 c1;obtain⟨g1,g2,g3,g4,g5⟩:=ht rfl;refine⟨fun h=>(by cases h),fun _=>⟨g1,fun y hy hy2 => ?_,fun y hy hy2 => ?_,fun ho => ?_,fun ho => ?_⟩⟩
    ·rcases (hS y).1 hy with q|rfl
     ·exact g2 y q hy2
     ·exact a1 hy2
    ·rcases (hS y).1 hy with q|rfl
     ·exact g3 y q hy2
     ·have:=c1 hy2;omega
    ·obtain⟨⟨y,hy,e⟩,hE⟩:=g4 ho;refine⟨⟨y,hsub y hy,e⟩,fun z hz hz2 => ?_⟩
     rcases (hS z).1 hz with q|rfl
     ·exact hE z q hz2
     ·exact c1 hz2
    ·obtain⟨y,hy,e⟩:=g5 ho;exact⟨y,hsub y hy,e⟩
end
end Go.Sym.Zn
namespace Go.Sym
open Cal Zn
abbrev f9:Type:=Int×Int
abbrev dk:Type:=Int×Int×Int×Int×Int×Int×Int
abbrev uj:Type:=Int×Int×Int×Int
abbrev cy:Type:=List UInt8×Int×Int×uj×uj
@[simp] def dates_within_eq(x a b:Int):ox x a b=some (decide (a<=x/\x<=b)):=by
 unfold ox;by_cases h:a<=x<;>simp[h]
@[simp] def zones_within_eq(x a b:Int):nq x a b=some (decide (a<=x/\x<=b)):=by
 unfold nq;by_cases h:a<=x<;>simp[h]
@[simp] def zr1_in_eq(x a b:Int):fj x a b=some (decide (a<=x/\x<=b)):=by
 unfold fj;by_cases h:a<=x<;>simp[h]
def zoo(y:Int)(h:0<=y):qle y=some (sf y):=by
 unfold qle sf;rw[Int.tmod_eq_emod_of_nonneg h,Int.tmod_eq_emod_of_nonneg h,Int.tmod_eq_emod_of_nonneg h];cases h1:(y%4==0)<;>cases h2:(y%100 != 0)<;>simp
def zrh(y:Int)(h:0<=y):qq2 y=some (sf y):=by
 unfold qq2 sf;rw[Int.tmod_eq_emod_of_nonneg h,Int.tmod_eq_emod_of_nonneg h,Int.tmod_eq_emod_of_nonneg h];cases h1:(y%4==0)<;>cases h2:(y%100 != 0)<;>simp
 all_goals (simp at h1;omega)
def za6{y:Int}(h:sf y=true):lp y=1:=by unfold lp;rw[qX h]
def za5{y:Int}(h:sf y=false):lp y=0:=by unfold lp;rw[qW (by rw[h];decide)]
def zbo(m:Int)(h1:1<=m)(h2:m<=12):am ([31,28,31,30,31,30,31,31,30,31,30,31]:List Int) (af (m-1))=some (qam m):=by
 rw[bn]
 rcases qza m h1 h2 with h|h|h|h|h|h|h|h|h|h|h|h<;>subst h<;>rfl
def zat(y m:Int)(hy:0<=y)(h1:1<=m)(h2:m<=12):qgl y m=some (dim y m):=by
 unfold qgl;rw[zbo m h1 h2,qB];by_cases e:m=2
 ·subst e;rw[zoo y hy];cases hl:sf y
  ·simp[dim,qam,za5 hl]
  ·simp[dim,qam,za6 hl];rfl
 ·have e':(m==2)=false:=by simp[e]
  simp[e,e',dim]
def zri(y m:Int)(hy:0<=y)(h1:1<=m)(h2:m<=12):qq3 y m=some (dim y m):=by
 unfold qq3;simp only[zdb];rw[zbo m h1 h2];by_cases e:m=2
 ·subst e;rw[zrh y hy];cases hl:sf y
  ·simp[dim,qam,za5 hl]
  ·simp[dim,za6 hl]
 ·have e':(m==2)=false:=by simp[e]
  simp[e,e',dim]
def q7g(y:Int)(h1:1<=y:=by omega)(h2:y<=4001:=by omega):qgj y=some (da y):=by
 unfold qgj da;rw[bn (x:=y-1) oA oA]
 rw[Int.tdiv_eq_ediv_of_nonneg oA,Int.tdiv_eq_ediv_of_nonneg oA,Int.tdiv_eq_ediv_of_nonneg oA]
 simp (discharger:=omega) only [bn ?_ ?_]
def zly(fu:Nat)(y m:Int)(hy1:1<=y)(hy2:y<=4001)(hm:m<=12):∀(n:Nat)(a k:Int),1<=k->k<=m->m-k<n -> -10000000<=a-ei y k->a-ei y k<=10000000 ->
  qgk fu n y m a k=some (a+ei y m-ei y k):=by
 intro n
 induction n with
 |zero=>intro a k h1 h2 h3;omega|succ n ih=>
  intro a k h1 h2 h3 h4 h5;rw[qgk,qsl];by_cases c:k<m
  ·have hc:=qid y k h1
   have hb:=qxh y k h1
   have hd:=dim_bd y k;rw[bi (by simp[c]),zat y k oA h1 oA,qB,bn,bn,
    ih _ _ oA oA oA oA oA]
   congr 1;omega
  ·have:k=m:=oA
   subst this;rw[ar];congr 1;omega
def qdp(fu:Nat)(hf:20<=fu)(y m d:Int)(hy1:1<=y:=by omega)(hy2:y<=4001:=by omega)(h1:1<=m:=by omega)(h2:m<=12:=by omega)(h3 : -1000<=d:=by omega)(h4:d<=1000:=by omega):qu fu y m d=some (b8 y m d):=by
 unfold qu;have hb:=q7e y hy1 hy2;have hc:=q8c y;rw[q7g y hy1 hy2,qB,q7g 1970,qB,zkf]
 simp (discharger:=omega) only [bn ?_ ?_];rw[zly fu y m hy1 hy2 h2 fu _ 1 oA h1 oA oA oA,hc]
 unfold b8;congr 1;omega
def zd1(x b:Int)(hb:0<b:=by omega)(hb2:b<=100000:=by omega)(h1 : -1000000000000<=x:=by omega)(h2:x<=1000000000000:=by omega):qgm x b=some (x/b,x%b):=by
 unfold qgm;have hb0:decide (b≠0)=true:=decide_eq_true oA
 rw[bi hb0,bi hb0,bi hb0];have e:Int.tmod (af (Int.tmod x b+b)) b=x%b:=by
  have a1:=Int.tmod_lt_of_pos x hb;have a2 : -b<Int.tmod x b:=by
   have:=Int.lt_tmod_of_pos x hb;omega
  rw[bn,Int.tmod_eq_emod_of_nonneg oA]
  rw[Int.add_emod_right];by_cases hx:0<=x
  ·rw[Int.tmod_eq_emod_of_nonneg hx,Int.emod_emod]
  ·rw[Int.tmod_def x b,Int.sub_mul_emod_self_left]
 rw[e];have m1:=Int.emod_nonneg x (show b≠0 by omega)
 have m2:=Int.emod_lt_of_pos x hb;have ed:=Int.mul_ediv_add_emod x b;have e3:x-x%b=b*(x/b):=oA
 rw[bn (x:=x-x%b) oA oA,e3,Int.mul_tdiv_cancel_left _ oA]
 have bd : -1000000000000<=x/b/\x/b<=1000000000000:=by
  constructor
  ·rw[Int.le_ediv_iff_mul_le hb];have : -1000000000000*b <= -1000000000000*1:=oA
   omega
  ·exact Int.le_trans (Int.ediv_le_ediv hb h2) (Int.ediv_le_self _ oA)
 rw[bn]
end Go.Sym
namespace Go.Sym
open Cal Zn
def zee{x k:Int}(h:0<=x):Int.tdiv x k=x/k:=Int.tdiv_eq_ediv_of_nonneg h
def zem{x k:Int}(h:0<=x:=by omega):Int.tmod x k=x%k:=Int.tmod_eq_emod_of_nonneg h
@[simp] def none_eq:cf=some ⟨0,0⟩:=rfl
@[simp] def fault_eq(a b:Int):aw a b=some ⟨a,b⟩:=rfl
@[simp] def qwq(a b:Int):ou a b=some ⟨a,b⟩:=rfl
@[simp] def zfailed_eq(f:f9):d5 f=some (f.1 != 0):=rfl
@[simp] def time_eq(t:Int):ub t=some (decide (-68719476736<=t/\t<=68719476736)):=by
 unfold ub;by_cases h : -68719476736<=t<;>simp[h]
noncomputable def qw9(n s z:Int):dk:=⟨(mq n).1,(mq n).2.1,(mq n).2.2,s/3600,s/60%60,s%60,z⟩
def z3w{n y m d k:Int}(h:fp y m d)(e:b8 y m d=n):b8 k 1 1<=n↔k<=y:=by
 have a:=qie y m d h;have:b8 k 1 1=da k-719162:=by unfold b8;rw[q8c];omega
 rw[this];constructor
 ·intro hk;by_cases c:k<=y
  ·exact c
  ·have:=w9 (y+1) k;omega
 ·intro hk;have:=w9 k y hk;omega
def zpc{n y m d k:Int}(h:fp y m d)(e:b8 y m d=n)(k1:1<=k)(k2:k<=12):b8 y k 1<=n↔k<=m:=by
 have a:=qxm y m d h;have:b8 y k 1=da y-719162+ei y k:=by unfold b8;omega
 rw[this];constructor
 ·intro hk;by_cases c:k<=m
  ·exact c
  ·have:=qic y (m+1) k (by have:=h.2.2.1;omega);omega
 ·intro hk;have:=qic y k m k1 hk (by have:=h.2.2.2.1;omega);omega
def zlj(fu:Nat)(hf:20<=fu){N y m d:Int}(s z:Int)(m1:dk)(m2:f9)(h:fp y m d)(e:b8 y m d=N)(hs:0<=s)(hs2:s<86400):∀(n:Nat)(k:Int),m<=k->k<=12->k-m<n ->
  qgi fu n z N s y k m1 m2=some ((y,m,d,s/3600,s/60%60,s%60,z),(0,0)):=by
 obtain⟨v1,v2,v3,v4,v5,v6⟩:=h;have hd:=dim_bd y m;have hN:=q1f y m d ⟨v1,v2,v3,v4,v5,v6⟩;intro n
 induction n with
 |zero=>intro k h1 h2 h3;omega|succ n ih=>
  intro k h1 h2 h3;rw[qgi,qsj,qdp fu hf y k 1 v1 oA oA h2,qB]
  have hl:=zpc (k:=k) ⟨v1,v2,v3,v4,v5,v6⟩ e oA h2
  by_cases c:k<=m
  ·have:k=m:=oA
   subst this;have:=zl1 y k d;have b:=day_bd y k 1 v1 oA v3 oA oA oA
   rw[ar (by simp;exact hl.2 c),none_eq]
   simp only[qB];simp (discharger:=omega) only [bn ?_ ?_,zee,zem ?_];have e1:N-b8 y k 1+1=d:=oA
   rw[e1]
  ·rw[bi (by simp;have:=mt hl.1 c;omega),bn,ih _ oA oA oA]
def zlk(fu:Nat)(hf:20<=fu){N y m d:Int}(s z:Int)(m1:dk)(m2:f9)(h:fp y m d)(e:b8 y m d=N)(hs:0<=s)(hs2:s<86400):∀(j n:Nat)(k:Int),j<=12->1<=k->k<=y->y<k+2 ^ j->j<n ->
  qcf fu n z N s k ((2 ^ j/2:Nat):Int) m1 m2=some ((y,m,d,s/3600,s/60%60,s%60,z),(0,0)):=by
 have h':=h;obtain⟨v1,v2,v3,v4,v5,v6⟩:=h';intro j
 induction j with
 |zero=>
  intro n k hj h1 h2 h3 h4;obtain⟨n,rfl⟩:∃q,n=q+1:=⟨n-1,oA⟩
  have:k=y:=by simp at h3;omega
  subst this;rw[qcf,qla,ar,zlj fu hf s z m1 m2 h e hs hs2 fu 12 v4 oA oA]
 |succ j ih=>
  intro n k hj h1 h2 h3 h4;obtain⟨n,rfl⟩:∃q,n=q+1:=⟨n-1,oA⟩
  have e2:(2 ^ (j+1)/2:Nat)=2 ^ j:=by rw[Nat.pow_succ];omega
  have e3:(2:Int) ^ (j+1)=2*((2 ^ j:Nat):Int):=by rw[Int.pow_succ];simp;omega
  rw[e3]at h3;have e4:((2:Int) ^ j)=((2 ^ j:Nat):Int):=oC
  have ih':=ih n;rw[e4]at ih';have p1:0<2 ^ j:=Nat.pow_pos oA
  have p2:2 ^ j<=2 ^ 11:=Nat.pow_le_pow_right oA oA
  have ed:((2 ^ j/2:Nat):Int)=((2 ^ j:Nat):Int)/2:=oA
  rw[e2];rw[ed]at ih';generalize 2 ^ j=P at *;rw[qcf,qla,bi oD]
  simp only[qlc,qld];simp (discharger:=omega) only [bn ?_ ?_,zee];by_cases c:k+(P:Int)<=4000
  ·rw[bi (by simp;exact c),qdp fu hf _ 1 1,qB]
   have hl:=z3w (k:=k+(P:Int)) h e;by_cases c2:k+(P:Int)<=y
   ·rw[bi (by simp;exact hl.2 c2)]
    exact ih' _ oA oA c2 oA oA
   ·rw[ar (by simp;have:=mt hl.1 c2;omega)]
    exact ih' _ oA oA h2 oA oA
  ·rw[ar oD]
   exact ih' _ oA oA h2 oA oA
noncomputable def qqy(t z:Int):dk×f9:=
 if ¬(-68719476736<=t/\t<=68719476736) then(⟨0,0,0,0,0,0,0⟩,⟨3,-2⟩) else
 if ¬(-900<=z/\z<=900) then(⟨0,0,0,0,0,0,0⟩,⟨3,-4⟩) else
 if(t+60*z)/86400 < -719162\/741807<(t+60*z)/86400 then(⟨0,0,0,0,0,0,0⟩,⟨3,-3⟩) else
 (qw9 ((t+60*z)/86400) ((t+60*z)%86400) z,⟨0,0⟩)
def zli(fu:Nat)(hf:20<=fu)(t z:Int):qgh fu t z=some (qqy t z):=by
 unfold qgh qqy;rw[time_eq,qB];by_cases c1 : -68719476736<=t/\t<=68719476736
 ·rw[ar oS,qW oS,dates_within_eq,qB]
  by_cases c2 : -900<=z/\z<=900
  ·rw[ar (by simp[c2]),qW (by simp[c2])]
   simp (discharger:=omega) only [bn ?_ ?_];rw[zd1 _ _,qB,qdp fu hf 1 1 1,qB,zl0]
   generalize hN:(t+60*z)/86400=N;generalize hS:(t+60*z)%86400=S;by_cases c3:N < -719162
   ·rw[bi (by simp;exact c3),qX (.inl c3)];rfl
   ·rw[ar oD,qdp fu hf 4000 12 31,qB,zlz]
    unfold qlb qsk;by_cases c4:741807<N
    ·rw[bi (by simp;exact c4),qX (.inr c4)];rfl
    ·rw[ar oD,qW oA]
     obtain⟨hv,he⟩:=zlh N
     have:=zlk fu hf S z (0,0,0,0,0,0,0) (0,0) hv he oA oA 12 fu 1 oA oA hv.1 (by have:=hv.2.1;omega) oA
     exact this
  ·rw[bi oD,qX c2];rfl
 ·rw[bi oD,qX c1];rfl
def dv(d:dk):Prop:=fp d.1 d.2.1 d.2.2.1/\0<=d.2.2.2.1/\d.2.2.2.1<=23/\0<=d.2.2.2.2.1/\d.2.2.2.2.1<=59/\0<=d.2.2.2.2.2.1/\d.2.2.2.2.2.1<=59 /\ -900<=d.2.2.2.2.2.2/\d.2.2.2.2.2.2<=900
instance(d:dk):Decidable (dv d):=by unfold dv;infer_instance
def qxx(d:dk):qcg d=some (if dv d then⟨0,0⟩ else⟨3,-3⟩):=by
 unfold qcg;simp only[dates_within_eq,qB,fault_eq,none_eq,jk,qai];have key:∀(f:f9),(if dv d then(⟨0,0⟩:f9) else⟨3,-3⟩)=f->(dv d->f=⟨0,0⟩)/\(¬dv d->f=⟨3,-3⟩):=fun f h=>⟨fun k=>by rw[← h,qX k],fun k=>by rw[← h,qW k]⟩
 generalize hf:(if dv d then(⟨0,0⟩:f9) else⟨3,-3⟩)=f
 obtain⟨k1,k2⟩:=key f hf;clear key hf;unfold dv fp at k1 k2;by_cases c1:1<=d.1/\d.1<=4000
 ·rw[qX c1];by_cases c2:1<=d.2.1/\d.2.1<=12
  ·have e:(if(12:Int)<(if(1:Int)>d.2.1 then 1 else d.2.1) then 12 else if(1:Int)>d.2.1 then 1 else d.2.1)=d.2.1:=by
    rw[qW (show ¬((1:Int)>d.2.1) by omega),qW oA]
   rw[qX c2,e,zat _ _ oA c2.1 c2.2,qB]
   clear e
   repeat' split
   all_goals first|(rw[k1 oA])|(rw[k2 oA])
  ·rw[qW c2,k2 oA]
 ·rw[qW c1,k2 oA]
def zl9(d:dk):qqz d=some (if dv d then⟨0,0⟩ else⟨3,-3⟩):=by
 unfold qqz;simp only[zr1_in_eq,qB,qwq,qai];have key:∀(f:f9),(if dv d then(⟨0,0⟩:f9) else⟨3,-3⟩)=f->(dv d->f=⟨0,0⟩)/\(¬dv d->f=⟨3,-3⟩):=fun f h=>⟨fun k=>by rw[← h,qX k],fun k=>by rw[← h,qW k]⟩
 generalize hf:(if dv d then(⟨0,0⟩:f9) else⟨3,-3⟩)=f
 obtain⟨k1,k2⟩:=key f hf;clear key hf;unfold dv fp at k1 k2;by_cases c1:1<=d.1/\d.1<=4000
 ·rw[qX c1];by_cases c2:1<=d.2.1/\d.2.1<=12
  ·rw[qX c2,zri _ _ oA c2.1 c2.2,qB]
   repeat' split
   all_goals first|(rw[k1 oA])|(rw[k2 oA])
  ·rw[qW c2,k2 oA]
 ·rw[qW c1,k2 oA]
def mv(d:dk):Int:=b8 d.1 d.2.1 d.2.2.1*86400+d.2.2.2.1*3600+(d.2.2.2.2.1-d.2.2.2.2.2.2)*60+d.2.2.2.2.2.1
def qxl{d:dk}(h:dv d) : -719162<=b8 d.1 d.2.1 d.2.2.1/\b8 d.1 d.2.1 d.2.2.1<=741807:=q1f _ _ _ h.1
def zt9(fu:Nat)(hf:20<=fu)(d:dk)(h:dv d):qch fu d=some (qbi (b8 d.1 d.2.1 d.2.2.1),⟨0,0⟩):=by
 unfold qch;have hb:=qxl h;have hd:=dim_bd d.1 d.2.1;obtain⟨⟨v1,v2,v3,v4,v5,v6⟩,_⟩:=id h;rw[qxx,qX h,qB,zfailed_eq,qB,ar,qdp fu hf _ _ _ v1 oA v3 v4,qB,bn,
  zd1 _ _]
 rfl
def q98(fu:Nat)(hf:20<=fu)(d:dk):zp fu d=some (if dv d then(mv d,⟨0,0⟩) else(0,⟨3,-3⟩)):=by
 unfold zp;rw[qxx,qB,zfailed_eq,qB];by_cases h:dv d
 ·have hb:=qxl h;have hd:=dim_bd d.1 d.2.1;obtain⟨⟨v1,v2,v3,v4,v5,v6⟩,v7,v8,v9,v10,v11,v12,v13,v14⟩:=id h;rw[qX h,qX h,ar,qdp fu hf _ _ _ v1 oA v3 v4,qB,none_eq,qB]
  simp (discharger:=omega) only [bn ?_ ?_];rfl
 ·rw[qW h,qW h];rfl
def jh(u:uj):Prop:=TOk u.1 u.2.1 u.2.2.1 u.2.2.2
instance(u:uj):Decidable (jh u):=by unfold jh;infer_instance
def qer(u:uj)(y ah:Int):Int:=zel y u.1 u.2.1 u.2.2.1 u.2.2.2 ah
def qn1{y m d:Int}(h:fp y m d):dv ⟨y,m,d,0,0,0,0⟩:=by refine⟨h,?_,?_,?_,?_,?_,?_,?_,?_⟩<;>simp
def zmg{y m d:Int}:dv ⟨y,m,d,0,0,0,0⟩↔fp y m d:=⟨fun h=>h.1,qn1⟩
def zn4(y m d:Int):mv ⟨y,m,d,0,0,0,0⟩=b8 y m d*86400:=by simp[mv]
def qyo(fu:Nat)(hf:20<=fu){y m d:Int}(h:fp y m d)(mi ah:Int)(h1 : -10000<=mi)(h2:mi<=10000)(h3 : -10000<=ah)(h4:ah<=10000) :
  ((zp fu ⟨y,m,d,0,0,0,0⟩).bind fun x=>some (af (x.1+(af (60*(af (mi-ah)))))))=some (b8 y m d*86400+60*(mi-ah)):=by
 have hb:=q1f _ _ _ h;rw[q98 fu hf,qX (qn1 h),qB,zn4];simp (discharger:=omega) only [bn ?_ ?_]
def zhk(fu:Nat)(hf:20<=fu)(u:uj)(hu:jh u)(y ah:Int)(hy1:1<=y)(hy2:y<=4000)(h3 : -10000<=ah:=by omega)(h4:ah<=10000:=by omega) :
  qhl fu u y ah=some (qer u y ah):=by
 obtain⟨u1,u2,u3,u4,u5,u6,u7,u8⟩:=hu;have hd:=dim_bd y u.1;have htd:=ztg y u.1 u.2.1 u.2.2.1 u3 u4;have hx:=zeq y u.1 u.2.2.1;unfold qhl;have h1:fp y u.1 1:=⟨hy1,hy2,u1,u2,oA,oA⟩
 rw[zt9 fu hf _ (qn1 h1),qB];have hw:=zt8 (b8 y u.1 1);have e:(af ((af (1+(Int.tmod (af ((af (u.2.2.1-qbi (b8 y u.1 1)))+7)) (7:Int))))+(af (7*(af (u.2.1-1))))))=1+kv y u.1 u.2.2.1+7*(u.2.1-1):=by
  unfold kv;generalize qbi (b8 y u.1 1)=w at *;rw[bn (x:=u.2.2.1-w) oA oA,bn (x:=u.2.2.1-w+7) oA oA,zem]
  simp (discharger:=omega) only [bn ?_ ?_]
 simp only[e];unfold qml;unfold qer zel;by_cases c:u.2.1=5
 ·rw[bi (by simp[c]),qxx,qB,zfailed_eq,qB]
  by_cases c2:dim y u.1<29+kv y u.1 u.2.2.1
  ·have et:sy y u.1 u.2.1 u.2.2.1=22+kv y u.1 u.2.2.1:=by unfold sy;rw[qX ⟨c,c2⟩]
   rw[qW (by rw[zmg];intro hv;have:=hv.2.2.2.2.2;omega),bi]
   unfold qmm;rw[bn (x:=1+kv y u.1 u.2.2.1+7*(u.2.1-1)-7) oA oA,
    show 1+kv y u.1 u.2.2.1+7*(u.2.1-1)-7=22+kv y u.1 u.2.2.1 by omega,← et]
   exact qyo fu hf ⟨hy1,hy2,u1,u2,htd.1,htd.2⟩ _ _ oA oA h3 h4
  ·have et:sy y u.1 u.2.1 u.2.2.1=1+kv y u.1 u.2.2.1+7*(u.2.1-1):=by unfold sy;rw[qW (fun h=>c2 h.2)]
   rw[← et];rw[qX (qn1 ⟨hy1,hy2,u1,u2,htd.1,htd.2⟩),ar]
   exact qyo fu hf ⟨hy1,hy2,u1,u2,htd.1,htd.2⟩ _ _ oA oA h3 h4
 ·have et:sy y u.1 u.2.1 u.2.2.1=1+kv y u.1 u.2.2.1+7*(u.2.1-1):=by unfold sy;rw[qW (fun h=>c h.1)]
  rw[ar (by simp[c]),← et]
  exact qyo fu hf ⟨hy1,hy2,u1,u2,htd.1,htd.2⟩ _ _ oA oA h3 h4
def ln(z:cy):Prop:=z.2.2.2.1.1=0/\z.2.2.2.1.2.1=0/\z.2.2.2.1.2.2.1=0/\z.2.2.2.1.2.2.2=0
instance(z:cy):Decidable (ln z):=by unfold ln;infer_instance
@[simp] def fixed_eq(z:cy):qcx z=some (decide (ln z)):=by
 unfold qcx;congr 1;rw[Bool.eq_iff_iff,decide_eq_true_iff];simp[ln]
structure ZT(z:cy):Prop where
 s1 : -900<=z.2.1
 s2:z.2.1<=900
 m1 : -900<=z.2.2.1
 m2:z.2.2.1<=900
 d1:z.2.1+1<=z.2.2.1
 d2:z.2.2.1<=z.2.1+180
 b:jh z.2.2.2.1
 e:jh z.2.2.2.2
 ne:z.2.2.2.1.1≠z.2.2.2.2.1
def Bz(z:cy)(y:Int):Int:=qer z.2.2.2.1 y z.2.1
def Ez(z:cy)(y:Int):Int:=qer z.2.2.2.2 y z.2.2.1
def sel(z:cy)(o:Bool):Int:=bif o then z.2.2.1 else z.2.1
def qzr(r0:Int->Int->Int->Int->Bool->Int->cy->Option Int)(fu:Nat)(hf:20<=fu)(z:cy)(h:ZT z)(t Y best k:Int)(o has:Bool)(S S':Int->Prop)
  (hk1:1<=k) (hk2:k<=4000) (hY:k<=Y+1) (hY2:Y<=4000) (hI:Zn.Inv (Bz z) (Ez z) t S best o has) (hS:∀y,S' y↔S y\/y=k) :
  ∃best' o' has',Zn.Inv (Bz z) (Ez z) t S' best' o' has'/\qhm fu r0 t Y best (sel z o) has k z=r0 t Y best' (sel z o') has' (k+1) z:=by
 have s1:=h.s1;have s2:=h.s2;have m1:=h.m1;have m2:=h.m2;unfold qhm;rw[bn (x:=Y+1) oA oA,bi (by simp;exact hY)]
 rw[zhk fu hf _ h.b k _ hk1 hk2,qB]
 unfold qhn qmn;rw[zhk fu hf _ h.e k _ hk1 hk2]
 simp only[qB];rw[bn (x:=k+1) oA oA]
 have nx:=fun b1 b2 o1 h1 o2 h2=>Zn.Inv.next (best1:=b1) (best2:=b2) (out1:=o1) (has1:=h1) (out2:=o2) (has2:=h2) hI hS
 have eB:qer z.2.2.2.1 k z.2.1=Bz z k:=rfl;have eE:qer z.2.2.2.2 k z.2.2.1=Ez z k:=rfl;rw[eB,eE];generalize Bz z k=B at *;generalize Ez z k=E at *;have sT:z.2.2.1=sel z true:=rfl;have sF:z.2.1=sel z false:=rfl;have fin:∀b1 o1 h1,((B<=t/\(has=false\/best<B)/\b1=B/\o1=true/\h1=true)\/(¬(B<=t/\(has=false\/best<B))/\b1=best/\o1=o/\h1=has)) ->
   ∃best' o' has',Zn.Inv (Bz z) (Ez z) t S' best' o' has' /\
    (bif decide (E<=t) then bif !h1 then r0 t Y E z.2.1 true (k+1) z else bif decide (b1<=E) then r0 t Y E z.2.1 true (k+1) z else r0 t Y b1 (sel z o1) h1 (k+1) z else r0 t Y b1 (sel z o1) h1 (k+1) z)=r0 t Y best' (sel z o') has' (k+1) z:=by
  intro b1 o1 h1 hh;by_cases c:E<=t/\(h1=false\/b1<=E)
  ·refine⟨E,false,true,nx b1 E o1 h1 false true hh (.inl ⟨c.1,c.2,rfl,rfl,rfl⟩),?_⟩;rw[bi (by simp;exact c.1)]
   cases h1 with|false=>rw[bi];rfl|true=>rw[ar,bi (by simp;exact c.2.resolve_left oC)];rfl
  ·refine⟨b1,o1,h1,nx b1 b1 o1 h1 o1 h1 hh (.inr ⟨c,rfl,rfl,rfl⟩),?_⟩;by_cases c1:E<=t
   ·rw[bi (by simp;exact c1)]
    cases h1 with|false=>exact absurd ⟨c1,.inl rfl⟩ c|true=>rw[ar,ar (by simp;have:¬b1<=E:=fun q=>c ⟨c1,.inr q⟩;omega)]
   ·rw[ar oD]
 clear nx;by_cases c1:B<=t
 ·by_cases c2:has=false\/best<B
  ·obtain⟨b',o',h',hi,he⟩:=fin B true true (.inl ⟨c1,c2,rfl,rfl,rfl⟩);refine⟨b',o',h',hi,?_⟩;rw[← he,bi (by simp;exact c1)]
   cases has with
   |false=>rfl|true=>
    simp at c2;rw[ar,bi (by simp;exact c2)];rfl
  ·obtain⟨b',o',h',hi,he⟩:=fin best o has (.inr ⟨fun q=>c2 q.2,rfl,rfl,rfl⟩)
   refine⟨b',o',h',hi,?_⟩;rw[← he,bi (by simp;exact c1)]
   cases has with
   |false=>simp at c2|true=>
    simp at c2;rw[ar,ar (by simp;exact c2)]
 ·obtain⟨b',o',h',hi,he⟩:=fin best o has (.inr ⟨fun q=>c1 q.1,rfl,rfl,rfl⟩)
  refine⟨b',o',h',hi,?_⟩;rw[← he,ar oD];rfl
open Classical in
noncomputable def qjk(z:cy)(lo hi t:Int):Int:=if q6d (Bz z) (Ez z) lo hi t then z.2.2.1 else z.2.1
def zsg{z:cy}{lo hi t best:Int}{o has:Bool}(h:Zn.Inv (Bz z) (Ez z) t (fun y=>lo<=y/\y<=hi) best o has):sel z o=qjk z lo hi t:=by
 have:=h.fin;unfold sel qjk
 cases o with|true=>rw[qX (this.1 rfl)];rfl|false=>rw[qW (fun q=>by have:=this.2 q;cases this)];rfl
def z4b(fu:Nat)(hf:20<=fu)(z:cy)(h:ZT z)(t Y:Int)(h1:2<=Y)(h2:Y<=3999):qcy fu z t Y=some (qjk z (Y-1) (Y+1) t):=by
 unfold qcy;have hnf:¬ln z:=fun q=>by have:=h.b.1;have:=q.1;omega
 rw[fixed_eq,qB,ar (by simp[hnf]),bn]
 obtain⟨n,rfl⟩:∃n,fu=n+1+1+1+1:=⟨fu-4,oA⟩
 generalize hfu:n+1+1+1+1=fu at hf;have q:oz fu (n+1+1+1+1) t Y 0 z.2.1 false (Y-1) z=some (qjk z (Y-1) (Y+1) t):=by
  obtain⟨b1,o1,a1,i1,e1⟩:=qzr (oz fu (n+1+1+1)) fu hf z h t Y 0 (Y-1) false false _ (fun y=>y=Y-1) oA oA oA oA (Zn.Inv.start t 0) (fun y=>oC)
  rw[oz];refine Eq.trans e1 ?_;obtain⟨b2,o2,a2,i2,e2⟩:=qzr (oz fu (n+1+1)) fu hf z h t Y b1 (Y-1+1) o1 a1 _ (fun y=>Y-1<=y/\y<=Y) oA oA oA oA i1 (fun y=>oA)
  rw[oz];refine Eq.trans e2 ?_;obtain⟨b3,o3,a3,i3,e3⟩:=qzr (oz fu (n+1)) fu hf z h t Y b2 (Y-1+1+1) o2 a2 _ (fun y=>Y-1<=y/\y<=Y+1) oA oA oA oA i2 (fun y=>oA)
  rw[oz];refine Eq.trans e3 ?_;rw[oz,qhm,bn (x:=Y+1) oA oA,ar oD,zsg i3]
 rw[hfu]at q;exact q
def chB(c:UInt8):Bool:=(decide (97<=c.toNat)&&decide (c.toNat<=122))||(decide (65<=c.toNat)&&decide (c.toNat<=90))||(decide (48<=c.toNat)&&decide (c.toNat<=57))||c.toNat==45||c.toNat==95||c.toNat==46
def ztp{p:UInt8->Prop}(h:∀n:_root_.Fin 256,p (UInt8.ofFin n))(c:UInt8):p c:=by
 have:=h c.toFin
 rwa [UInt8.ofFin_toFin]at this
def z39(c:UInt8):qr3 c=some (chB c):=by
 revert c;exact ztp (by decide +kernel)
def m0(s:List UInt8):Bool:=decide (1<=s.length)&&decide (s.length<=60)&&s.all chB
def zjh(fu:Nat)(s:List UInt8)(hs:(s.length:Int)<9223372036854775808):∀(n:Nat)(k:Nat),k<=s.length->s.length-k<n ->
  qgb fu n s s.length k=some ((s.drop k).all chB):=by
 intro n
 induction n with
 |zero=>intro k h1 h2;omega|succ n ih=>
  intro k h1 h2;rw[qgb,qry];by_cases c:k<s.length
  ·have hi:am s (k:Int)=some s[k]:=by unfold am;rw[qX];simp[c]
   rw[bi (by simp;exact c),hi,qB,z39,qB,List.drop_eq_getElem_cons c,List.all_cons]
   cases hc:chB s[k]
   ·rfl
   ·rw[ar,bn]
    have:=ih (k+1) oA oA
    rw[Int.natCast_add]at this;exact this
  ·rw[ar oD,List.drop_eq_nil_of_le oA];rfl
def zpd(fu:Nat)(s:List UInt8)(hs:(s.length:Int)<9223372036854775808)(hf:s.length<fu):qk5 fu s=some (m0 s):=by
 unfold qk5 m0
 cases s with
 |nil=>rfl|cons a l=>
  rw[bi]
  by_cases c:((a::l).length:Int)<=60
  ·rw[bi (by simp only[decide_eq_true_iff];exact c)]
   unfold qrx;have:=zjh fu (a::l) hs fu 0 oA oA
   rw[show((0:Nat):Int)=0 from rfl]at this
   rw[this,qB];have c':(a::l).length<=60:=oA
   simp only[List.drop_zero];rw[show decide (1<=(a::l).length)=true by simp,decide_eq_true c'];rfl
  ·rw[ar (by simp only[decide_eq_false_iff_not];exact c)]
   have c':¬(a::l).length<=60:=oA
   rw[decide_eq_false c'];simp
@[simp] def turn_eq(u:uj):z7 u=some (decide (jh u)):=by
 unfold z7;simp only[zones_within_eq,qB,jk];have key:∀b:Bool,decide (jh u)=b->(jh u->b=true)/\(¬jh u->b=false):=fun b h=>⟨fun k=>by rw[← h,decide_eq_true k],fun k=>by rw[← h,decide_eq_false k]⟩
 generalize hb:decide (jh u)=b;obtain⟨k1,k2⟩:=key b hb;clear key hb;unfold jh TOk at k1 k2
 repeat' split
 all_goals first|(rw[k2 oA])|skip
 congr 1;rw[Bool.eq_iff_iff,decide_eq_true_iff];constructor
 ·intro q;exact k1 oA
 ·intro q;by_cases c:0<=u.2.2.2/\u.2.2.2<=1439
  ·exact c
  ·have:=k2 oA;rw[this]at q;cases q
@[simp] def rturn_eq(u:uj):qq6 u=some (decide (jh u)):=by
 have e:qq6 u=z7 u:=by unfold qq6 z7;simp only[zr1_in_eq,zones_within_eq]
 rw[e,turn_eq]
def qdv(z:cy):Prop:=z.2.2.2.2.1=0/\z.2.2.2.2.2.1=0/\z.2.2.2.2.2.2.1=0/\z.2.2.2.2.2.2.2=0
instance(z:cy):Decidable (qdv z):=by unfold qdv;infer_instance
def z30(u:uj):((u.1==(0:Int))&&((u.2.1==(0:Int))&&((u.2.2.1==(0:Int))&&((u.2.2.2==(0:Int))&&true))))=decide (u.1=0/\u.2.1=0/\u.2.2.1=0/\u.2.2.2=0):=by
 rw[Bool.eq_iff_iff,decide_eq_true_iff];simp
def ku(z:cy):f9:=
 if m0 z.1=false then⟨10,-3⟩ else if ¬(-900<=z.2.1/\z.2.1<=900) then⟨3,-4⟩ else
 if ln z then(if z.2.2.1≠0 then⟨5,-5⟩ else if ¬qdv z then⟨5,-5⟩ else⟨0,0⟩) else
 if ¬(-900<=z.2.2.1/\z.2.2.1<=900) then⟨3,-5⟩ else if ¬(z.2.1+1<=z.2.2.1/\z.2.2.1<=z.2.1+180) then⟨3,-5⟩ else
 if ¬jh z.2.2.2.1 then⟨3,-6⟩ else if ¬jh z.2.2.2.2 then⟨3,-7⟩ else if z.2.2.2.1.1=z.2.2.2.2.1 then⟨5,-7⟩ else⟨0,0⟩
def q3l(fu:Nat)(z:cy)(hs:(z.1.length:Int)<9223372036854775808)(hf:z.1.length<fu):z6 fu z=some (ku z):=by
 unfold z6 ku;rw[zpd fu _ hs hf];by_cases hn:m0 z.1=false
 ·rw[qX hn,qB,bi (by rw[hn];rfl)];rfl
 ·rw[qW hn,qB,ar (by simp at hn;rw[hn];rfl),zones_within_eq,qB]
  by_cases c1 : -900<=z.2.1/\z.2.1<=900
  ·rw[ar oS,qW oS]
   rw[bn (x:=z.2.1+1) oA oA,bn (x:=z.2.1+180) oA oA,z30]
   rw[show decide (z.2.2.2.2.1=0/\z.2.2.2.2.2.1=0/\z.2.2.2.2.2.2.1=0/\z.2.2.2.2.2.2.2=0)=decide (qdv z) from rfl]
   simp only[qmj,qmk,qva,qT,fixed_eq,qB,fault_eq,none_eq,zones_within_eq,turn_eq,qai,jk,im,qah]
   repeat' split
   all_goals first|rfl|contradiction|simp_all
  ·rw[bi oD,qX c1];rfl
def zok(z:cy)(h:(ku z).1=0):ku z=⟨0,0⟩ /\ -900<=z.2.1/\z.2.1<=900/\(ln z\/ZT z):=by
 unfold ku at h ⊢;by_cases hn:m0 z.1=false
 ·rw[qX hn]at h;simp at h
 rw[qW hn]at h ⊢;by_cases c1:¬(-900<=z.2.1/\z.2.1<=900)
 ·rw[qX c1]at h;simp at h
 rw[qW c1]at h ⊢;have c1' : -900<=z.2.1/\z.2.1<=900:=oA
 by_cases c2:ln z
 ·rw[qX c2]at h ⊢;by_cases c3:z.2.2.1≠0
  ·rw[qX c3]at h;simp at h
  rw[qW c3]at h ⊢;by_cases c4:¬qdv z
  ·rw[qX c4]at h;simp at h
  rw[qW c4];exact⟨rfl,c1'.1,c1'.2,.inl c2⟩
 rw[qW c2]at h ⊢;by_cases c3:¬(-900<=z.2.2.1/\z.2.2.1<=900)
 ·rw[qX c3]at h;simp at h
 rw[qW c3]at h ⊢;by_cases c4:¬(z.2.1+1<=z.2.2.1/\z.2.2.1<=z.2.1+180)
 ·rw[qX c4]at h;simp at h
 rw[qW c4]at h ⊢;by_cases c5:¬jh z.2.2.2.1
 ·rw[qX c5]at h;simp at h
 rw[qW c5]at h ⊢;by_cases c6:¬jh z.2.2.2.2
 ·rw[qX c6]at h;simp at h
 rw[qW c6]at h ⊢;by_cases c7:z.2.2.2.1.1=z.2.2.2.2.1
 ·rw[qX c7]at h;simp at h
 rw[qW c7];exact⟨rfl,c1'.1,c1'.2,.inr ⟨c1'.1,c1'.2,oA,oA,oA,oA,Classical.not_not.1 c5,Classical.not_not.1 c6,c7⟩⟩
noncomputable def qzq(z:cy)(Y t:Int):Int:=if ln z then z.2.1 else qjk z (Y-1) (Y+1) t
noncomputable def qdm(z:cy)(t:Int):Int:=(mq ((t+60*z.2.1)/86400)).1
def qd4(z:cy)(t:Int):Prop := -719162<=(t+60*z.2.1)/86400/\(t+60*z.2.1)/86400<=741807
instance(z:cy)(t:Int):Decidable (qd4 z t):=by unfold qd4;infer_instance
noncomputable def q50(z:cy)(t:Int):Int×f9:=
 if ¬(-68719476736<=t/\t<=68719476736) then(0,⟨3,-2⟩) else
 if ¬qd4 z t then(0,⟨3,-8⟩) else if ¬(2<=qdm z t/\qdm z t<=3999) then(0,⟨3,-8⟩) else(qzq z (qdm z t) t,⟨0,0⟩)
noncomputable def qc1(z:cy)(t:Int):Int×f9:=if(ku z).1≠0 then(0,ku z) else q50 z t
def z4a(fu:Nat)(hf:20<=fu)(z:cy)(h:ln z\/ZT z)(t Y:Int)(h1:2<=Y)(h2:Y<=3999):qcy fu z t Y=some (qzq z Y t):=by
 unfold qzq;by_cases c:ln z
 ·rw[qX c];unfold qcy;rw[fixed_eq,qB,bi (by simp[c])]
 ·rw[qW c];exact z4b fu hf z (h.resolve_left c) t Y h1 h2
def z3z(fu:Nat)(hf:20<=fu)(z:cy)(hs:(z.1.length:Int)<9223372036854775808)(hf2:z.1.length<fu)(t:Int):qmi fu z t=some (qc1 z t):=by
 unfold qmi qc1;rw[q3l fu z hs hf2,qB,zfailed_eq,qB,im];by_cases c:(ku z).1≠0
 ·rw[qX c,qX c]
 ·rw[qW c,qW c];obtain⟨e,s1,s2,hz⟩:=zok z (Classical.not_not.1 c);unfold q50;rw[time_eq,qB];by_cases c1 : -68719476736<=t/\t<=68719476736
  ·rw[ar oS,qW (fun q=>q c1),zli fu hf,qB]
   unfold qqy;rw[qW (fun q=>q c1),qW (fun q=>q ⟨s1,s2⟩)]
   by_cases c2:qd4 z t
   ·rw[qW (by unfold qd4 at c2;omega),qW (fun q=>q c2),zfailed_eq,qB,ar,zones_within_eq,qB]
    have ey:(qw9 ((t+60*z.2.1)/86400) ((t+60*z.2.1)%86400) z.2.1).1=qdm z t:=rfl;simp only[ey];by_cases c3:2<=qdm z t/\qdm z t<=3999
    ·rw[ar (by simp[c3]),qW (fun q=>q c3),z4a fu hf z hz _ _ c3.1 c3.2];rfl
    ·rw[bi oD,qX c3];rfl
   ·rw[qX (by unfold qd4 at c2;omega),qX c2];rfl
  ·rw[bi oD,qX c1];rfl
open Classical in
noncomputable def pick(z:cy)(L o:Int):List Int:=if(qc1 z (L-60*o)).2.1=0/\(qc1 z (L-60*o)).1=o then[L-60*o] else[]
def zce(z:cy)(L o:Int):(pick z L o).length<=1:=by unfold pick;split<;>simp
def qyn(r1:Int->Int->Int->cy->f9->List Int->List Int->Option (f9×List Int))(fu:Nat)(hf:20<=fu)(z:cy)(hs:(z.1.length:Int)<9223372036854775808)(hf2:z.1.length<fu)
  (L len i o:Int) (f:f9) (acc offs:List Int) (hi:i<len) (hx:am offs i=some o) (hi0 : -10<=i) (hi1:i<=10) (hL1 : -1000000000000<=L) (hL2:L<=1000000000000) (ho1 : -10000<=o) (ho2:o<=10000) (hl:acc.length<=10) :
  qcw fu r1 L len i z f offs acc=r1 L len (i+1) z f offs (acc++pick z L o):=by
 rw[qcw,bi (by simp;exact hi),zdb,hx,qB,bn (x:=60*o) oA oA,bn (x:=L-60*o) oA oA,bn (x:=i+1) oA oA,z3z fu hf z hs hf2,qB,zfailed_eq,qB]
 unfold pick;by_cases c1:(qc1 z (L-60*o)).2.1=0
 ·rw[bi oS]
  by_cases c2:(qc1 z (L-60*o)).1=o
  ·rw[bi (by simp[c2]),bi (by simp[au];omega),qX ⟨c1,c2⟩]
  ·rw[ar (by simp[c2]),qW (fun q=>c2 q.2),List.append_nil]
 ·rw[ar oS,qW (fun q=>c1 q.1),List.append_nil]
noncomputable def qjl(z:cy)(L:Int):List Int:=pick z L z.2.1++(if ln z then[] else pick z L z.2.2.1)
noncomputable def qcz(z:cy)(d:dk):f9×List Int:=
 if(ku z).1≠0 then(ku z,[]) else if ¬dv d then((3,-3),[]) else if d.2.2.2.2.2.2≠0 then((5,-9),[]) else if ¬(3<=d.1/\d.1<=3998) then((3,-9),[]) else((0,0),iw (qjl z (mv d)))
def zn3{d:dk}(h:dv d) : -100000000000<=mv d/\mv d<=100000000000:=by
 have:=qxl h;obtain⟨_,_,_,_,_,_,_,_,_⟩:=h;unfold mv;omega
def z3y(fu:Nat)(hf:20<=fu)(z:cy)(hs:(z.1.length:Int)<9223372036854775808)(hf2:z.1.length<fu)(d:dk):qcv fu z d=some (qcz z d):=by
 unfold qcv qcz;rw[q3l fu z hs hf2,qB,zfailed_eq,qB,im];by_cases c:(ku z).1≠0
 ·rw[qX c,qX c]
 rw[qW c,qW c,q98 fu hf,qB];obtain⟨e,s1,s2,hz⟩:=zok z (Classical.not_not.1 c);by_cases c1:¬dv d
 ·rw[qW c1,qX c1,zfailed_eq,qB,bi]
 replace c1:=Classical.not_not.1 c1;rw[qX c1,qW (c:=¬dv d) (fun q=>q c1),zfailed_eq,qB,ar,im]
 have hb:=zn3 c1;by_cases c2:d.2.2.2.2.2.2≠0
 ·rw[qX c2,qX c2];rfl
 rw[qW c2,qW c2,zones_within_eq,qB,qai];by_cases c3:¬(3<=d.1/\d.1<=3998)
 ·rw[qW c3,qX c3];rfl
 replace c3:=Classical.not_not.1 c3;rw[qX c3,qW (c:=¬(3<=d.1/\d.1<=3998)) (fun q=>q c3),fixed_eq,qB,qai]
 obtain⟨n,hn⟩:∃n,fu=n+1+1+1:=⟨fu-3,oA⟩
 have l1:=zce z (mv d) z.2.1;have l2:=zce z (mv d) z.2.2.1;have sortp:∀l:List Int,l.length<=10->ue l=some (iw l):=by
  intro l hl;unfold ue;rw[bi (decide_eq_true (by unfold au;omega))]
 unfold qmh;by_cases c4:ln z
 ·rw[qX c4];have q:qw fu (n+1+1+1) (mv d) (List.length ([z.2.1]:List Int):Int) 0 z (0,0) [z.2.1] []=some ((0,0),iw (qjl z (mv d))):=by
   rw[qw,qyn _ fu hf z hs hf2 _ _ _ z.2.1 _ _ _ oC rfl oA oA oA oA oA oA oC]
   rw[qw,qcw,ar,sortp _ oD,none_eq]
   simp[qjl,c4]
  rw[← hn]at q;exact q
 ·rw[qW c4];have hz':=hz.resolve_left c4;have m1:=hz'.m1;have m2:=hz'.m2;rw[bi (by simp[au])]
  have q:qw fu (n+1+1+1) (mv d) (List.length (([z.2.1]:List Int)++[z.2.2.1]):Int) 0 z (0,0) ([z.2.1]++[z.2.2.1]) []=some ((0,0),iw (qjl z (mv d))):=by
   rw[qw,qyn _ fu hf z hs hf2 _ _ _ z.2.1 _ _ _ oC rfl oA oA oA oA oA oA oC]
   rw[qw,qyn _ fu hf z hs hf2 _ _ _ z.2.2.1 _ _ _ oC rfl oA oA oA oA oA oA oD]
   rw[qw,qcw,ar,sortp _ oD,none_eq]
   simp[qjl,c4]
  rw[← hn]at q;exact q
def zaz(d:dk):qkq d=some (if ¬dv d then⟨3,-3⟩ else if d.2.2.2.2.2.2≠0 then⟨5,-9⟩ else if ¬(3<=d.1/\d.1<=3998) then⟨3,-9⟩ else⟨0,0⟩):=by
 unfold qkq;rw[zl9,qB];by_cases h:dv d
 ·rw[qX h,ar,qW (fun q=>q h),im,zr1_in_eq,qB,qai]
  simp only[qwq,qB];by_cases c:d.2.2.2.2.2.2≠0
  ·rw[qX c,qX c]
  ·rw[qW c,qW c];by_cases c2:3<=d.1/\d.1<=3998
   ·rw[qX c2,qW (fun q=>q c2)]
   ·rw[qW c2,qX c2]
 ·rw[qW h,bi,qX h]

abbrev qhu(l:List Int):Prop:=l.Pairwise (·<·)

def yc(p:Option Int)(x:Int):Bool:=match p with|some y=>decide (x<=y)|none=>false
def vn(f:Int->Bool):Option Int->List Int->Int|_,[]=>0|p,x::l=>if f x=false then 3 else if yc p x=true then 19 else vn f (some x) l
def qpn(f:Int->Bool):∀(l:List Int)(p:Option Int),vn f p l=0->qhu l/\(∀x∈l,f x=true)/\(∀y,p=some y->∀x∈l,y<x)
 |[],_,_=>⟨List.Pairwise.nil,fun x h=>(by cases h),fun y _ x h=>(by cases h)⟩
 |x::l,p,h=>by
  unfold vn at h;by_cases c:f x=false
  ·rw[qX c]at h;omega
  rw[qW c]at h;by_cases c2:yc p x=true
  ·rw[qX c2]at h;omega
  rw[qW c2]at h;obtain⟨i1,i2,i3⟩:=qpn f l _ h;have i3':=i3 x rfl;refine⟨List.pairwise_cons.2 ⟨i3',i1⟩,fun y hy => ?_,fun y hy t ht => ?_⟩
  ·rcases List.mem_cons.1 hy with q|q
   ·rw[q];simpa using c
   ·exact i2 y q
  ·subst hy;have hyx:y<x:=by simp[yc]at c2;exact c2
   rcases List.mem_cons.1 ht with q|q
   ·omega
   ·have:=i3' t q;omega
def kp(l:List Int)(k:Nat):Option Int:=if k=0 then none else l[k-1]?
def tc(t:Int):Bool:=decide (-68719476736<=t/\t<=68719476736)
def vt(t:Int):Bool:=decide (0<=t/\t<=6)
def nz(c a:Int):f9:=if c=0 then(0,0) else(c,a)
def qz8(l:List Int)(k:Nat)(h:k<l.length):kp l (k+1)=some l[k]:=by
 unfold kp;rw[qW oA];simp[h]
def zch(l:List Int)(k:Nat)(h:k<l.length)(h0:0<k)(hs:(l.length:Int)<9223372036854775808):am l (af ((k:Int)-1))=some (l[k-1]' oA)/\kp l k=some (l[k-1]' oA):=by
 rw[bn,show(k:Int)-1=((k-1:Nat):Int) by omega]
 refine⟨vf l (k-1),?_⟩
 unfold kp;rw[qW oA];simp[show k-1<l.length by omega]
def zdm(f:Int->Bool)(l:List Int)(k:Nat)(h:k<l.length):vn f (kp l k) (l.drop k) =
  if f l[k]=false then 3 else if yc (kp l k) l[k]=true then 19 else vn f (kp l (k+1)) (l.drop (k+1)):=by
 rw[List.drop_eq_getElem_cons h,qz8 l k h];rfl
def zow(fu:Nat)(l:List Int)(a:Int)(m:f9)(hs:(l.length:Int)<9223372036854775808):∀(n k:Nat),k<=l.length->l.length-k<n ->
  qg6 fu n l a l l.length k m=some (nz (vn tc (kp l k) (l.drop k)) a):=by
 intro n
 induction n with
 |zero=>intro k h1 h2;omega|succ n ih=>
  intro k h1 h2;rw[qg6,qtr];by_cases c:k<l.length
  ·have nx:=ih (k+1) oA oA
   rw[Int.natCast_add]at nx;rw[bi (by simp;exact c),vf l k c,qB,time_eq,qB,zdm tc l k c,bn (x:=(k:Int)+1) oA oA]
   have eT:decide (-68719476736<=l[k]/\l[k]<=68719476736)=tc l[k]:=rfl;rw[eT]
   cases ht:tc l[k] with
   |false=>rfl|true=>
    rw[ar,qW oC]
    by_cases c0:0<k
    ·obtain⟨p1,p2⟩:=zch l k c c0 hs;rw[bi oD,p1,qB,p2]
     by_cases g:l[k]<=l[k-1]' oA
     ·rw[bi (by simp;exact g),qX (by simp[yc];exact g)];rfl
     ·rw[ar oD,qW (by simp[yc];omega)];exact nx
    ·rw[ar oD]
     have e0:kp l k=none:=by unfold kp;rw[qX]
     rw[e0];exact nx
  ·rw[ar oD,List.drop_eq_nil_of_le oA];rfl
def ki(l:List Int):Int:=if 300<l.length then 2 else vn tc none l
def zov(fu:Nat)(hf:400<=fu)(l:List Int)(a:Int):qg5 fu l a=some (nz (ki l) a):=by
 unfold qg5 ki;by_cases c:300<l.length
 ·rw[bi oD,qX c];rfl
 ·rw[ar oD,qW c]
  have:=zow fu l a (0,0) oA fu 0 oA oA
  exact this
abbrev ij:Type:=Int×Int×Int×Int×Bool×List Int×List Int×List Int
def zt7(fu:Nat)(r:ij)(m:f9)(hs:(r.2.2.2.2.2.1.length:Int)<9223372036854775808):∀(n k:Nat),k<=r.2.2.2.2.2.1.length->8<=n+k->(∀p,kp r.2.2.2.2.2.1 k=some p->(k:Int)-1<=p/\p<=6)->(k<=7) ->
  qg7 fu n r.2.2.2.2.2.1 r.2.2.2.2.2.1.length k r m=some (nz (vn vt (kp r.2.2.2.2.2.1 k) (r.2.2.2.2.2.1.drop k)) (-7)):=by
 generalize hl:r.2.2.2.2.2.1=l at hs ⊢;intro n
 induction n with
 |zero=>intro k h1 h2;omega|succ n ih=>
  intro k h1 h2 h3 h4;rw[qg7,qts];by_cases c:k<l.length
  ·rw[bi (by simp;exact c),vf l k c,qB,zdm vt l k c]
   unfold ql4 qtu;rw[hl];by_cases g1:l[k]<0
   ·rw[bi (by simp;exact g1),bi rfl,qX (by unfold vt;simp;omega)];rfl
   rw[ar oD]
   by_cases g2:6<l[k]
   ·rw[bi (by simp;exact g2),qX (by unfold vt;simp;omega)];rfl
   rw[ar oD,qW (by unfold vt;simp;omega),bn (x:=(k:Int)+1) oA oA]
   by_cases c0:0<k
   ·obtain⟨p1,p2⟩:=zch l k c c0 hs;rw[bi oD,p1,qB,p2]
    by_cases g:l[k]<=l[k-1]' oA
    ·rw[bi (by simp;exact g),qX (by simp[yc];exact g)];rfl
    ·rw[ar oD,qW (by simp[yc];omega)]
     have hp:=h3 _ p2;have nx:=ih (k+1) oA oA (fun p hp'=>by rw[qz8 l k c]at hp';cases hp';omega) oA
     rw[Int.natCast_add]at nx;exact nx
   ·rw[ar oD]
    have e0:kp l k=none:=by unfold kp;rw[qX]
    rw[e0];have nx:=ih (k+1) oA oA (fun p hp'=>by rw[qz8 l k c]at hp';cases hp';omega) oA
    rw[Int.natCast_add]at nx;exact nx
  ·rw[ar oD,List.drop_eq_nil_of_le oA];rfl
def nh(r:ij):f9:=if 0<r.2.2.2.2.2.1.length/\r.1≠2 then(5,-7) else nz (vn vt none r.2.2.2.2.2.1) (-7)
def mb(r:ij):f9:=
 if ¬(0<=r.1/\r.1<=4) then(4,-3) else if ¬(1<=r.2.1/\r.2.1<=100) then(3,-4) else if ¬(0<=r.2.2.1/\r.2.2.1<=1500) then(3,-5) else
 if r.2.2.2.2.1=true/\¬(-68719476736<=r.2.2.2.1/\r.2.2.2.1<=68719476736) then(3,-6) else if r.2.2.2.2.1=false/\r.2.2.2.1≠0 then(5,-6) else
 if(nh r).1≠0 then nh r else if ki r.2.2.2.2.2.2.1≠0 then(ki r.2.2.2.2.2.2.1,-8) else nz (ki r.2.2.2.2.2.2.2) (-9)
def qnr(c a:Int):(nz c a).1=c:=by
 unfold nz;split
 ·rename_i h;exact h.symm
 ·rfl
def zqq(l:List Int):kp l 0=none:=rfl
def zua(fu:Nat)(hf:400<=fu)(r:ij)(hs:(r.2.2.2.2.2.1.length:Int)<9223372036854775808):ql2 fu r=some (nh r):=by
 unfold ql2 ql3 qtt nh;have lp:=zt7 fu r (0,0) hs fu 0 oA oA (fun p hp=>by cases hp) oA
 rw[show((0:Nat):Int)=0 from rfl,zqq,List.drop_zero]at lp
 rw[lp];by_cases c:0<r.2.2.2.2.2.1.length
 ·rw[ao oA,im]
  by_cases c2:r.1≠2
  ·rw[qX (c:=¬_) c2,qX (c:=_/\_) ⟨c,c2⟩];rfl
  ·rw[qW (c:=¬_) c2,qW (c:=_/\_) (fun q=>c2 q.2)]
 ·rw[bu,qW (c:=_/\_) (fun q=>c q.1)];rfl
def zt0(fu:Nat)(hf:400<=fu)(r:ij)(hs:(r.2.2.2.2.2.1.length:Int)<9223372036854775808:=by omega):qg4 fu r=some (mb r):=by
 unfold qg4 qlx qly qlz ql0 ql1 qtm mb;simp only[fault_eq,qB,time_eq,zua fu hf r hs,zfailed_eq,zov fu hf,im,qnr,qT,qF];by_cases c1:0<=r.1/\r.1<=4
 ·rw[ar oD,ar oD,qW (c:=¬_) (fun q=>q c1)]
  by_cases c2:1<=r.2.1/\r.2.1<=100
  ·rw[ar oD,ar oD,qW (c:=¬_) (fun q=>q c2)]
   by_cases c3:0<=r.2.2.1/\r.2.2.1<=1500
   ·rw[ar oD,ar oD,qW (c:=¬_) (fun q=>q c3)]
    have tail:(if(nh r).1≠0 then some (nh r) else if ki r.2.2.2.2.2.2.1≠0 then some (nz (ki r.2.2.2.2.2.2.1) (-8)) else some (nz (ki r.2.2.2.2.2.2.2) (-9))) =
      some (if(nh r).1≠0 then nh r else if ki r.2.2.2.2.2.2.1≠0 then(ki r.2.2.2.2.2.2.1,-8) else nz (ki r.2.2.2.2.2.2.2) (-9)):=by
     by_cases k1:(nh r).1≠0
     ·rw[qX k1,qX k1]
     ·rw[qW k1,qW k1];by_cases k2:ki r.2.2.2.2.2.2.1≠0
      ·rw[qX k2,qX k2];unfold nz;rw[qW k2]
      ·rw[qW k2,qW k2]
    rw[tail]
    cases h5:r.2.2.2.2.1 with
    |true=>
     simp only[qT,qF,Bool.not_true,qai];by_cases c4 : -68719476736<=r.2.2.2.1/\r.2.2.2.1<=68719476736
     ·rw[qX (c:=_/\_) c4,qW (c:=True/\¬_) (fun q=>q.2 c4),qW (c:=true=false/\_) (fun q=>by cases q.1)]
     ·rw[qW (c:=_/\_) c4,qX (c:=True/\¬_) ⟨trivial,c4⟩]
    |false=>
     simp only[qT,qF,Bool.not_false];rw[qW (c:=false=true/\_) (fun q=>by cases q.1)]
     by_cases c4:r.2.2.2.1≠0
     ·rw[qX (c:=¬_) c4,qX (c:=True/\_) ⟨trivial,c4⟩]
     ·rw[qW (c:=¬_) c4,qW (c:=True/\_) (fun q=>c4 q.2)]
   ·rw[qX (c:=¬_) c3];by_cases g:r.2.2.1<0
    ·rw[bi (by simp;exact g)]
    ·rw[ar oD,bi oD]
  ·rw[qX (c:=¬_) c2];by_cases g:r.2.1<1
   ·rw[bi (by simp;exact g)]
   ·rw[ar oD,bi oD]
 ·rw[qX (c:=¬_) c1];by_cases g:r.1<0
  ·rw[bi (by simp;exact g)]
  ·rw[ar oD,bi oD]
structure q6c(d:dk):Prop where
 ok:dv d
 zn:d.2.2.2.2.2.2=0
 y1:3<=d.1
 y2:d.1<=3980
def qnv(d:dk):Int:=b8 d.1 d.2.1 d.2.2.1
def zsf(d:dk):Int:=d.2.2.2.1*3600+d.2.2.2.2.1*60+d.2.2.2.2.2.1
def zkg:da 3=730/\da 3981=1453665/\da 3999=1460239:=oE
def q6c.day_bd{d:dk}(h:q6c d) : -718432<=qnv d/\qnv d<734503:=by
 have a:=qie _ _ _ h.ok.1;have b1:=w9 3 d.1 h.y1;have b2:=w9 (d.1+1) 3981 (by have:=h.y2;omega)
 obtain⟨v1,v2,_⟩:=zkg;unfold qnv;omega
noncomputable def later(d:dk)(a:Int):dk:=qw9 (qnv d+a) (zsf d) 0
structure zik(r:ij):Prop where
 f1:0<=r.1
 f2:r.1<=4
 e1:1<=r.2.1
 e2:r.2.1<=100
 c1:0<=r.2.2.1
 c2:r.2.2.1<=1500
 wl:r.2.2.2.2.2.1.length<=7
 xs:qhu r.2.2.2.2.2.2.1
 xl:r.2.2.2.2.2.2.1.length<=300
 adS:qhu r.2.2.2.2.2.2.2
 al:r.2.2.2.2.2.2.2.length<=300
def zd7:∀(l:List Int)(lo hi:Int),qhu l->(∀x∈l,lo<=x/\x<=hi)->lo<=hi+1->(l.length:Int)<=hi+1-lo
 |[],lo,hi,_,_,h=>by simp;omega|x::l,lo,hi,h1,h2,h=>by
  have h1':=List.pairwise_cons.1 h1;have hx:=h2 x qH;have:=zd7 l (x+1) hi h1'.2 (fun y hy=>⟨by have:=h1'.1 y hy;omega,(h2 y (qE _ hy)).2⟩) oA
  simp;omega
def zrq(r:ij)(h:(mb r).1=0):mb r=(0,0)/\zik r/\(∀x∈r.2.2.2.2.2.2.1,tc x=true)/\(∀x∈r.2.2.2.2.2.2.2,tc x=true):=by
 unfold mb at h ⊢;by_cases c1:¬(0<=r.1/\r.1<=4)
 ·rw[qX c1]at h;simp at h
 rw[qW c1]at h ⊢;by_cases c2:¬(1<=r.2.1/\r.2.1<=100)
 ·rw[qX c2]at h;simp at h
 rw[qW c2]at h ⊢;by_cases c3:¬(0<=r.2.2.1/\r.2.2.1<=1500)
 ·rw[qX c3]at h;simp at h
 rw[qW c3]at h ⊢;by_cases c4:r.2.2.2.2.1=true/\¬(-68719476736<=r.2.2.2.1/\r.2.2.2.1<=68719476736)
 ·rw[qX c4]at h;simp at h
 rw[qW c4]at h ⊢;by_cases c5:r.2.2.2.2.1=false/\r.2.2.2.1≠0
 ·rw[qX c5]at h;simp at h
 rw[qW c5]at h ⊢;by_cases c6:(nh r).1≠0
 ·rw[qX c6]at h;exact absurd h c6
 rw[qW c6]at h ⊢;by_cases c7:ki r.2.2.2.2.2.2.1≠0
 ·rw[qX c7]at h;exact absurd h c7
 rw[qW c7]at h ⊢;rw[qnr]at h;have lc:∀l,ki l=0->l.length<=300/\qhu l/\∀x∈l,tc x=true:=by
  intro l hl;unfold ki at hl;by_cases q:300<l.length
  ·rw[qX q]at hl;omega
  ·rw[qW q]at hl;obtain⟨i1,i2,_⟩:=qpn tc l none hl;exact⟨oA,i1,i2⟩
 obtain⟨x1,x2,x3⟩:=lc _ (Classical.not_not.1 c7);obtain⟨y1,y2,y3⟩:=lc _ h;have hw:r.2.2.2.2.2.1.length<=7:=by
  have c6':=Classical.not_not.1 c6;unfold nh at c6';by_cases q:0<r.2.2.2.2.2.1.length/\r.1≠2
  ·rw[qX q]at c6';simp at c6'
  ·rw[qW q,qnr]at c6';obtain⟨i1,i2,_⟩:=qpn vt _ none c6';have:=zd7 r.2.2.2.2.2.1 0 6 i1 (fun x hx=>by have:=i2 x hx;unfold vt at this;simpa using this) oA
   omega
 refine⟨by unfold nz;rw[qX h],⟨oA,oA,oA,oA,oA,oA,hw,x2,x1,y2,y1⟩,x3,y3⟩

def zo1(d:dk)(z:cy)(hz:(ku z).1=0):qkq d=some (qcz z d).1:=by
 rw[zaz];unfold qcz;rw[qW (c:=(ku z).1≠0) (by simp[hz])]
 by_cases c1:¬dv d
 ·rw[qX c1,qX c1]
 rw[qW c1,qW c1];by_cases c2:d.2.2.2.2.2.2≠0
 ·rw[qX c2,qX c2]
 rw[qW c2,qW c2];by_cases c3:¬(3<=d.1/\d.1<=3998)
 ·rw[qX c3,qX c3]
 rw[qW c3,qW c3]
def uZ:cy:=([117],0,0,(0,0,0,0),(0,0,0,0))
def uD:dk:=(1970,1,1,0,0,0,0)
def uR:ij:=(1,1,3,0,false,[],[],[])
section
variable(fu:Nat)(hf:5000<=fu)(z:cy)(hs:(z.1.length:Int)<9223372036854775808)(hf2:z.1.length<fu)(d:dk)(r:ij)(hw:(r.2.2.2.2.2.1.length:Int)<9223372036854775808)
include hf hs hf2 hw
end
section
variable(fu:Nat)(hf:5000<=fu)(z:cy)(hs:(z.1.length:Int)<9223372036854775808)(hf2:z.1.length<fu)(d:dk)(r:ij)(hw:(r.2.2.2.2.2.1.length:Int)<9223372036854775808)
include hf hs hf2
end
end Go.Sym
namespace Go.Sym
abbrev cm:Type:=Bs×Int×Int×Bs×Bs×Bs×(List (Bs×Int))×Bs×dk×Int×ij
def io(p:UInt8->Bool):Bool->Bs->Bool|e,[] => !e|e,c::s=>bif c==46 then !e&&io p true s else p c&&io p false s
def q8v(p:UInt8->Bool):∀(s:Bs)(e:Bool),(∀x∈s,x≠46)->io p e s=((!e || !s.isEmpty)&&s.all p)
 |[],e,_=>by cases e<;>rfl
 |c::s,e,h=>by
  have hc:(c==46)=false:=by rw[beq_eq_false_iff_ne];exact h c qH
  rw[io,hc,qF,q8v p s false fun x hx=>h x (qE _ hx)]
  cases e<;>simp
def q8u(p:UInt8->Bool)(r:Bs):∀(s:Bs)(e:Bool),(∀x∈s,x≠46)->io p e (s++46::r)=(((!e || !s.isEmpty)&&s.all p)&&io p true r)
 |[],e,_=>by cases e<;>rfl
 |c::s,e,h=>by
  have hc:(c==46)=false:=by rw[beq_eq_false_iff_ne];exact h c qH
  rw[wK,io,hc,qF,q8u p r s false fun x hx=>h x (qE _ hx)]
  cases e<;>simp[Bool.and_assoc]
def zci{R:Type}(P1:Nat->Bs->Bs->Int->Bool->Option R)(r0:Bs->Bool->Option (Bool ⊕ Bool))(A B:Bs×Bs×Int×Bool->R)(p:UInt8->Bool)(hr:∀s b,s.length<=100000->r0 s b=some (bif !s.isEmpty&&s.all p then .inr b else .inl false))
  (h0:∀n m1 m2 m3 m5,P1 (n+1) m1 m2 m3 m5=(e7 m2 m1).bind fun x1=>bif decide (x1<(0:Int)) then(r0 m2 m5).bind fun x2=>ay x2 (fun a3=>some (A (m1,(m2,(m3,a3))))) (fun b4=>some (B (m1,(m2,(m3,b4))))) else bif decide (0<=af (x1+m3)/\af (x1+m3)<=(List.length m2:Int)) then(r0 (List.take (af (x1+m3)).toNat m2) m5).bind fun x5=>ay x5 (fun a6=>some (A (m1,(m2,(m3,a6))))) (fun b7=>bif decide (0<=af (x1+(List.length m1:Int))/\af (x1+(List.length m1:Int))<=(List.length m2:Int)) then P1 n m1 (List.drop (af (x1+(List.length m1:Int))).toNat m2) m3 b7 else none) else none) :
  ∀(n:Nat)(s:Bs)(b:Bool),s.length<n->s.length<=100000->∃t,P1 n [46] s 0 b=some (bif io p true s then B ([46],(t,(0,b))) else A ([46],(t,(0,false)))):=by
 intro n
 induction n with
 |zero=>intro s b h;omega|succ n ih=>
  intro s b h hs;have hi:∀x:Int,Lib.index s [46]=x->e7 s [46]=some x:=fun x q=>by
   unfold e7 np;rw[ao oA,qB,q]
  rw[h0];rcases qjv 46 s with⟨w,r,rfl,hw⟩|hw
  ·rw[hi _ (ixc 46 w r hw)];simp only[qM,qL]at h hs;rw[qB,bu,Int.add_zero,bn (x:=(w.length:Int)) oA oA,ao oD,ztf,hr w b oA,qB,q8u p r w true hw,Bool.not_true,Bool.false_or]
   cases hq:(!w.isEmpty&&w.all p)
   ·exact⟨_,rfl⟩
   ·simp only[qT,ay];rw[show((List.length ([46]:Bs):Nat):Int)=1 from rfl,cn _,ao oD,q8w]
    exact ih r b oA oA
  ·rw[hi _ (ixn 46 s hw),qB,ao oA,hr s b hs,qB,q8v p s true hw,Bool.not_true,Bool.false_or]
   cases hq:(!s.isEmpty&&s.all p)
   ·exact⟨s,rfl⟩
   ·exact⟨s,rfl⟩
def zmh(fu:Nat)(hfu:90000000<=fu)(s:Bs)(hs:s.length<=100000):we fu s=some (io nv true s):=by
 unfold we qkx oy qct;simp only[qB];unfold qma;rw[ar]
 obtain⟨t,ht⟩:=zci (qhb fu) (wi fu) _ _ nv (fun s b hs=>by
  unfold wi
  cases s with
  |nil=>rfl| cons c s=>rw[ar,zjc fu _,qB];cases List.all (c::s) nv<;>rfl) (fun _ _ _ _ _=>rfl) fu s false oA hs
 rw[ht];cases io nv true s<;>rfl
def rp(s:Bs):Bool:=decide (s.length<=60)&&io rm true s
def q8t(fu:Nat)(hfu:90000000<=fu)(s:Bs):tu fu s=some (rp s):=by
 unfold tu rp;by_cases h:s.length<=60
 ·rw[ao oA,decide_eq_true h,Bool.true_and]
  unfold qky oy qct;simp only[qB];unfold qmb;rw[ar]
  obtain⟨t,ht⟩:=zci (qhc fu) (wj fu) _ _ rm (fun s b hs=>by
   unfold wj
   cases s with
   |nil=>rfl| cons c s=>rw[ar,zje fu _,qB];cases List.all (c::s) rm<;>rfl) (fun _ _ _ _ _=>rfl) fu s false oA oA
  rw[ht];cases io rm true s<;>rfl
 ·rw[bu,decide_eq_false h];rfl
def qec(c:UInt8):Bool:=decide (32<=c)&&decide (c<=126)
def zja(fu:Nat)(s:Bs)(h:s.length<fu:=by omega)(hs:s.length<=10000000:=by omega):qk2 fu s=some (s.all qec):=
 qm7 s hs (qb9 fu) qec (fun n e k=>by
  rw[qb9,qru];simp only[show ∀c,wh c=some (qec c) from fun c=>by unfold wh qec;cases decide (32<=c)<;>rfl]) fu [] s rfl h
def sb(s:Bs):Bool:=(!s.isEmpty&&decide (s.length<=60))&&s.all qec
def za0(fu:Nat)(hfu:90000000<=fu)(s:Bs):tv fu s=some (sb s):=by
 unfold tv sb
 cases s with
 |nil=>rfl|cons c s=>
  rw[show(!((c::s)==([]:Bs)))=true from rfl,qT]
  by_cases h:(c::s).length<=60
  ·rw[ao oA,decide_eq_true h,zja fu _];rfl
  ·rw[bu,decide_eq_false h];rfl


def rwl{α:Type}(l:List α)(x:α)(h:l.length<=1000000):(l++[x]).length<=au:=by simp only[au,qM,qL,qZ];omega

def kq(l d:Bs):Bs:=bif io nv true l then(l++[64])++d else((34::(vd l++[34]))++[64])++d
def ui(s:Bs):Prop:=∃l d,sb l=true/\rp d=true/\s=kq l d
def q83(s:Bs):(vd s).length<=3*s.length:=by
 have h1:=List.count_le_length (a:=(92:UInt8)) (l:=s);have h2:=List.count_le_length (a:=(34:UInt8)) (l:=s);have:(vd s).length=_:=qdx (a:=92) (b:=34) oE 92 92 92 34 s
 unfold gv at this;omega
def zdx(l d:Bs):(kq l d).length<=3*l.length+d.length+3:=by
 have:=q83 l;unfold kq;cases io nv true l<;>simp only[qT,qF,qM,qL,qZ]<;>omega
def zay{s:Bs}(h:sb s=true):s.length<=60:=by
 unfold sb at h;simp only[qA,decide_eq_true_iff]at h;exact h.1.2
def q8s{s:Bs}(h:rp s=true):s.length<=60:=by
 unfold rp at h;simp only[qA,decide_eq_true_iff]at h;exact h.1
def zso{s:Bs}(h:ui s):s.length<=243:=by
 obtain⟨l,d,hl,hd,rfl⟩:=h;have h1:=zay hl;have h2:=q8s hd;have:=zdx l d;omega
def zj3(fu:Nat)(hfu:90000000<=fu)(n l d:Bs)(hl:l.length<=100000:=by omega)(hd:d.length<=100000:=by omega):qf7 fu (n,(l,d))=some (kq l d):=by
 have:=q83 l;unfold qf7 kq;rw[zmh fu hfu l hl,qB];cases io nv true l
 ·rw[qF,qF,(zqy l hl).1,qB,ao oH,ao oH]
 ·rw[qT,qT,ao oG,ao oH]
def zmy(c:UInt8)(w:Bs):vd (c::w)=(bif c==34||c==92 then[92,c] else[c])++vd w:=by
 show ee 92 34 [92,92] [92,34] (c::w)=_;unfold ee;rw[List.flatMap_cons];congr 1;unfold rq;by_cases h1:c=92
 ·subst h1;rfl
 ·by_cases h2:c=34
  ·subst h2;rfl
  ·have e1:(c==92)=false:=by simpa using h1
   have e2:(c==34)=false:=by simpa using h2
   simp only[h1,h2,if_false,e1,e2,Bool.or_self,qF]
def qxs{p:UInt8->Bool}:∀{s:Bs}{e:Bool},io p e s=true->(e=true->s≠[])/\∀c∈s,p c=true\/c=46
 |[],true,h=>by cases h
 |[],false,h=>⟨(fun q=>by cases q),fun c hc=>by cases hc⟩
 |c::s,e,h=>by
  refine⟨fun _=>List.cons_ne_nil _ _,fun d hd => ?_⟩
  rw[io]at h;by_cases q:c=46
  ·subst q;rw[show((46:UInt8)==46)=true from rfl,qT,qA]at h
   rcases List.mem_cons.1 hd with rfl|hd
   ·exact .inr rfl
   ·exact(qxs h.2).2 d hd
  ·rw[show(c==46)=false by simpa using q,qF,qA]at h
   rcases List.mem_cons.1 hd with rfl|hd
   ·exact .inl h.1
   ·exact(qxs h.2).2 d hd
abbrev g9(l d:Bs):Bs×Bool×List (Bs×Bs×Bs):=([],(false,[([],(l,d))]))
def hFU:90000000<=FU:=oE
def q8n:qr []=some 0:=by
 unfold qr iy;rw[bu,ao oC,qB,show Lib.validD []=true by rfl];rfl
def ztw(l d:Bs)(hl:sb l=true)(hd:rp d=true):wa FU ([],(l,d))=some (0,0):=by
 unfold wa;dsimp only;rw[q8n,qB,ar,za0 FU hFU,qB,hl,ar,q8t FU hFU,qB,hd,ar]
 rfl
def zlc(l d:Bs)(hl:sb l=true)(hd:rp d=true):qbs FU [g9 l d]=some (0,0):=by
 have hv:=ztw l d hl hd;have hi:wg FU (g9 l d)=some 0:=by
  have h2:qt FU (99999998+1+1) [([],(l,d))] 1 0=some 0:=by
   rw[qt,qbz,ao oE,show am [(([]:Bs),(l,d))] (0:Int)=some ([],(l,d)) from rfl,qB,hv,qB,n9,qB,ar,show af ((0:Int)+1)=1 from rfl,qt,qbz,bu oE]
  have h0:nj FU false (g9 l d)=some 0:=by
   unfold nj qfz;rw[ar rfl];exact h2
  unfold wg;rw[show(g9 l d).1=[] from rfl,q8n,qB,ar,ar,bi]
  exact h0
 have h3:qq FU (99999998+1+1) [g9 l d] 1 0 (0,0)=some (0,0):=by
  rw[qq,qbu,ao oE,show am [g9 l d] (0:Int)=some (g9 l d) from rfl,qB,hi,qB,ar,show af ((0:Int)+1)=1 from rfl,qq,qbu,bu oE]
  rfl
 have h1:qp FU [g9 l d] false (0,0)=some (0,0):=by
  unfold qp qfw;rw[ar rfl];exact h3
 have h0:qo FU (99999998+1+1) [g9 l d] 0 [g9 l d] 1 0 (0,0)=some (0,0):=by
  rw[qo,qbt,ao oE,show am [g9 l d] (0:Int)=some (g9 l d) from rfl,qB,show af ((0:Int)+1)=1 from rfl,qo,qbt,bu oE,bu]
  exact h1
 exact h0
def zqr(l d:Bs)(hl:sb l=true)(hd:rp d=true):qbx FU [g9 l d]=some (kq l d,(0,0)):=by
 have l1:=zay hl;have l2:=q8s hd;have sl:=zdx l d;have mem:qkw FU ([],(l,d))=some (kq l d):=by
  unfold qkw;rw[bi,zj3 FU hFU [] l d];rfl
 have e:fk [kq l d] [44,32]=some (kq l d):=by
  unfold fk;rw[Lib.join_one,ao ⟨oC,oA⟩]
 have fin:vz FU (99999998+1) [g9 l d] 1 1 (0,0) [kq l d]=some (kq l d,(0,0)):=by
  rw[vz,qkt,bu,e,qB,bu];rfl
 have p1:qby FU (vz FU (99999998+1)) (99999998+1+1) [g9 l d] 1 0 [([],(l,d))] 1 0 (0,0) (g9 l d) [] []=some (kq l d,(0,0)):=by
  rw[qby,qku,ao oA,show am [(([]:Bs),(l,d))] (0:Int)=some ([],(l,d)) from rfl,qB,mem,qB,ao (by simp[au])]
  rw[show af ((0:Int)+1)=1 from rfl,qby,qku,bu,List.nil_append,e,qB,ar]
  unfold qkv qq9;rw[ao (by simp[au]),show af ((0:Int)+1)=1 from rfl,List.nil_append]
  exact fin
 have p0:vz FU (99999998+1+1) [g9 l d] 1 0 (0,0) []=some (kq l d,(0,0)):=by
  rw[vz,qkt,ao oA,show am [g9 l d] (0:Int)=some (g9 l d) from rfl,qB]
  exact p1
 unfold qbx;rw[zlc l d hl hd,qB,n9,qB,ar]
 exact p0
def zae(s:Bs):Ok (fun b=>b=true->ui s) (zw FU s):=by
 have no:Ok (fun b=>b=true->ui s) (some false):=bf fun q=>(by cases q)
 unfold zw;refine bc (zp6 FU hFU s) fun x1 h1=>bc (P:=dc) ⟨_,rfl,trivial⟩ fun x2 _ => ?_
 obtain⟨l,f⟩:=x1;obtain⟨_,h1⟩:=h1;have pt:Ok (fun b=>b=true->ui s) (zx FU s l true f):=no
 refine cu (fun _=>pt) fun _ => ?_
 by_cases hl:(l.length:Int)=1
 ·rw[ar (by simp[hl])]
  obtain⟨x,rfl⟩:∃x,l=[x]:=List.length_eq_one_iff.1 oA
  obtain⟨h2,h3,h4⟩:=h1 x qH;obtain⟨g,b,ms⟩:=x;rw[show am [(g,(b,ms))] (0:Int)=some (g,(b,ms)) from rfl]
  simp only[qB];cases b
  ·rw[ar rfl];have hm:=h4 rfl;obtain⟨a,rfl⟩:∃a,ms=[a]:=List.length_eq_one_iff.1 hm;obtain⟨h5,h6⟩:=h3 a qH;obtain⟨d,lo,dm⟩:=a;rw[show am [(d,(lo,dm))] (0:Int)=some (d,(lo,dm)) from rfl,qB]
   by_cases hd:d=[]
   ·subst hd;rw[show(!((([]:Bs),(lo,dm)).1==([]:Bs)))=false from rfl]
    unfold zx qti;rw[ar rfl];obtain⟨f2,hf2,_⟩:=q71 FU hFU [(g,(false,[([],(lo,dm))]))] oC (fun x hx=>by rw[List.mem_singleton]at hx;subst hx;simp)
    by_cases c:f2.1=0
    ·obtain⟨_,_,_,hv⟩:=zld _ oC (fun x hx=>by rw[List.mem_singleton]at hx;subst hx;simp) hf2 c
     have hv:=hv _ qH;have hg:g=[]:=Classical.not_not.1 fun q=>by have:=hv.2.1.2 q;cases this
     subst hg;have ha:=hv.2.2.2 ([],(lo,dm)) qH;have ha1:=ha.2.1;have ha2:=ha.2.2;rw[za0 FU hFU]at ha1;rw[q8t FU hFU]at ha2;have ha1:sb lo=true:=qJ ha1;have ha2:rp dm=true:=qJ ha2;rw[show qbx FU [(([]:Bs),(false,[(([]:Bs),(lo,dm))]))]=some (kq lo dm,(0,0)) from zqr lo dm ha1 ha2,qB,n9,qB,bi]
     exact bf fun q=>⟨lo,dm,ha1,ha2,(beq_iff_eq.1 q).symm⟩
    ·unfold qbx;rw[hf2];simp only[qB,n9];rw[show(f2.1 != 0)=true by simpa [bne] using c]
     simp only[qT,qB,n9];rw[show(f2.1 != 0)=true by simpa [bne] using c]
     exact no
   ·rw[show(!((d,(lo,dm)).1==([]:Bs)))=true by simp[hd]];exact pt
  ·rw[bi rfl];exact pt
 ·rw[bi (by simp[hl])];exact pt
noncomputable def nd(s:Bs):Bool:=(zw FU s).getD false
def zdv{s:Bs}(h:nd s=true):ui s:=by
 obtain⟨b,hb,k⟩:=zae s;unfold nd at h;rw[hb]at h;exact k h
def zaf(s:Bs):zw FU s=some (nd s):=by
 obtain⟨b,hb,h⟩:=zae s;unfold nd;rw[hb];rfl
def uch(c:UInt8):Bool:=decide (33<=c)&&decide (c<=126)
def vq(s:Bs):Bool:=(decide (1<=s.length)&&decide (s.length<=60))&&s.all uch
def ff(s:Bs):Int:=if 500<s.length then 1 else if Lib.validD s=false then 5 else if s.contains 13=true then 5 else 0
noncomputable def py:List (Bs×Int)->List (Bs×Int)->Int×Int|_,[]=>(0,0)|ab,g::r=>if nd g.1=false then(10,(ab.length:Int)) else if ¬(1<=g.2/\g.2<=4) then(4,(ab.length:Int)) else if ab.any (fun x=>x.1==g.1)=true then(7,(ab.length:Int)) else py (ab++[g]) r
def yd(d:dk):Int×Int:=if ¬dv d then(3,-3) else if d.2.2.2.2.2.2≠0 then(5,-9) else if ¬(3<=d.1/\d.1<=3998) then(3,-9) else(0,0)
noncomputable def evT(e:cm):Int×Int:=
 if m0 e.2.2.2.2.2.2.2.1=false then(10,-10) else if(yd e.2.2.2.2.2.2.2.2.1).1≠0 then((yd e.2.2.2.2.2.2.2.2.1).1,-11) else if ¬(0<=e.2.2.2.2.2.2.2.2.2.1/\e.2.2.2.2.2.2.2.2.2.1<=1000000) then(3,-12) else if(mb e.2.2.2.2.2.2.2.2.2.2).1≠0 then((mb e.2.2.2.2.2.2.2.2.2.2).1,-13) else(0,0)
noncomputable def xh(e:cm):Int×Int:=
 if 30<e.2.2.2.2.2.2.1.length then(2,-9) else if(py [] e.2.2.2.2.2.2.1).1≠0 then py [] e.2.2.2.2.2.2.1 else evT e
noncomputable def ke(e:cm):Int×Int:=
 if vq e.1=false then(10,-3) else if ¬(1<=e.2.1/\e.2.1<=5) then(4,-4) else if ¬(0<=e.2.2.1/\e.2.2.1<=1000000) then(3,-5) else
 if ff e.2.2.2.1≠0 then(ff e.2.2.2.1,-6) else if ff e.2.2.2.2.1≠0 then(ff e.2.2.2.2.1,-7) else if e.2.2.2.2.2.1≠[]/\nd e.2.2.2.2.2.1=false then(10,-8) else xh e
def vy(e:cm):Prop:=e.1.length<=2000000/\e.2.2.2.2.2.2.2.1.length<=2000000/\e.2.2.2.2.2.2.2.2.2.2.2.2.2.2.2.1.length<=2000000
def zjg(s:Bs)(hs:s.length<=10000000:=by omega):qrs FU s=some (s.all uch):=
 qm7 s hs (qf9 FU) uch (fun n e k=>by
  rw[qf9,qrt];simp only[show ∀c,qlj c=some (uch c) from fun c=>by unfold qlj uch;cases decide (33<=c)<;>rfl]) FU [] s rfl oL
def zef(s:Bs):zy s=some (ff s):=by
 unfold zy ff;by_cases h:500<s.length
 ·rw[ao oA,qX h]
 ·rw[bu,qW h]
  unfold iy ql6;rw[ao oA,qB]
  cases Lib.validD s
  ·rw[qX rfl];rfl
  ·rw[ar,qW oC]
   have hi:∀x:Int,Lib.index s [13]=x->e7 s [13]=some x:=fun x q=>by
    unfold e7 np;rw[ao oA,qB,q]
   rcases qjv 13 s with⟨w,r,rfl,hw⟩|hw
   ·rw[hi _ (ixc 13 w r hw),qX]
    simp only[qB];rw[ao oA]
   ·rw[hi _ (ixn 13 s hw),qW (by simp;exact fun q=>hw 13 q rfl)]
    rfl
def zk5(l:List (Bs×Int))(g:Bs×Int)(hl:l.length<=1000)(n:Nat):∀ab aa:List (Bs×Int),l=ab++aa->aa.length<n->∃x,qg8 FU n l (l.length:Int) (ab.length:Int) g=some (x,g)/\decide (0<=x)=aa.any (fun y=>y.1==g.1):=by
 induction n with
 |zero=>intro ab aa _ h;omega|succ n ih=>
  intro ab aa e h;have hll:=congrArg List.length e;rw[qM]at hll;rw[qg8,qt0]
  cases aa with
  |nil=>rw[bu (by simp at hll;omega)];exact⟨-1,rfl,rfl⟩|cons y aa=>
   simp only[qL]at h hll;rw[ao oA,show am l (ab.length:Int)=some y by rw[e];exact jc _ _ _,qB]
   unfold qtb;rw[qB,List.any_cons];cases hq:(y.1==g.1)
   ·rw[qF,cn _]
    obtain⟨x,h1,h2⟩:=ih (ab++[y]) aa (by rw[e];simp) oA
    rw[qM,wD]at h1;exact⟨x,h1,by rw[h2,Bool.false_or]⟩
   ·exact⟨(ab.length:Int),rfl,by rw[Bool.true_or];exact decide_eq_true oA⟩
def zk4(l:List (Bs×Int))(g:Bs×Int)(hl:l.length<=1000:=by omega):ql5 FU l g=some (l.any (fun y=>y.1==g.1),g):=by
 obtain⟨x,h1,h2⟩:=zk5 l g hl FU [] l rfl oL
 unfold ql5 qtz;rw[show(0:Int)=((([]:List (Bs×Int)).length:Nat):Int) from rfl,h1,qB]
 simp only[qZ];rw[← h2];rfl
def zng(l:List (Bs×Int))(hl:l.length<=30)(z:Int×Int)(n:Nat):∀ab aa:List (Bs×Int),l=ab++aa->aa.length<n->zu FU n l l (l.length:Int) (ab.length:Int) z=some (py ab aa):=by
 induction n with
 |zero=>intro ab aa _ h;omega|succ n ih=>
  intro ab aa e h;have hll:=congrArg List.length e;rw[qM]at hll;rw[zu,qtc]
  cases aa with
  |nil=>rw[bu (by simp at hll;omega)];rfl|cons g aa=>
   simp only[qL]at h hll;rw[ao oA,show am l (ab.length:Int)=some g by rw[e];exact jc _ _ _,qB,zaf,qB,py]
   cases nd g.1
   ·rw[qX rfl];rfl
   ·rw[qW oC,ar]
    have p1:∀b,(b=true↔¬(1<=g.2/\g.2<=4))->qgz FU (zu FU n) l (ab.length:Int) l (l.length:Int) (ab.length:Int) b z g=some (if ¬(1<=g.2/\g.2<=4) then(4,(ab.length:Int)) else if ab.any (fun x=>x.1==g.1)=true then(7,(ab.length:Int)) else py (ab++[g]) aa):=fun b hb=>by
     unfold qgz;cases b
     ·rw[ar rfl,qW (fun q=>by have:=hb.2 q;cases this),ao ⟨oA,oA⟩]
      rw[show List.take (ab.length:Int).toNat l=ab by rw[e,show(ab.length:Int).toNat=ab.length by omega];simp,zk4 ab g,qB]
      cases ab.any (fun x=>x.1==g.1)
      ·rw[qW oC,ar rfl,cn _]
       have:=ih (ab++[g]) aa (by rw[e];simp) oA
       rw[qM,wD]at this;exact this
      ·rw[qX rfl];rfl
     ·rw[bi rfl,qX (hb.1 rfl)];rfl
    by_cases h1:g.2<1
    ·rw[ao h1];exact p1 true ⟨fun _ q=>oA,fun _=>rfl⟩
    ·rw[bu h1];exact p1 _ ⟨fun q=>by have:=of_decide_eq_true q;omega,fun q=>decide_eq_true oA⟩
def zo0(d:dk):qkq d=some (yd d):=by rw[zaz];rfl
abbrev zZ:cy:=([122],(0,(0,((0,(0,(0,0))),(0,(0,(0,0)))))))
def zfz(nm:Bs):ku (nm,(0,(0,((0,(0,(0,0))),(0,(0,(0,0)))))))=if m0 nm=false then(10,-3) else(0,0):=by
 unfold ku;by_cases h:m0 nm=false
 ·rw[qX h,qX h]
 ·rw[qW h,qW h,qW oC]
  rw[qX (by simp[ln]),qW oC,qW (by simp[qdv])]
def zn5(d:dk):(qcz zZ d).1=yd d:=by
 have:=zo1 d zZ (by rw[zfz];decide)
 rw[zo0]at this;exact(qJ this).symm
def zm2(e:cm)(he:vy e):zq FU e=some (ke e):=by
 obtain⟨h1,h2,h3⟩:=he;have t5:∀b z,(b=true↔¬(0<=e.2.2.2.2.2.2.2.2.2.1/\e.2.2.2.2.2.2.2.2.2.1<=1000000))->qgr FU b e z=some (if ¬(0<=e.2.2.2.2.2.2.2.2.2.1/\e.2.2.2.2.2.2.2.2.2.1<=1000000) then(3,-12) else if(mb e.2.2.2.2.2.2.2.2.2.2).1≠0 then((mb e.2.2.2.2.2.2.2.2.2.2).1,-13) else(0,0)):=fun b z hb=>by
  unfold qgr;cases b
  ·rw[ar rfl,qW (fun q=>by have:=hb.2 q;cases this),zt0 FU oE _,qB,n9,qB,im]
   by_cases c:(mb e.2.2.2.2.2.2.2.2.2.2).1≠0
   ·rw[qX c,qX c];rfl
   ·rw[qW c,qW c];rfl
  ·rw[bi rfl,qX (hb.1 rfl)];rfl
 have t4:∀z,qlk FU e z=some (xh e):=fun z=>by
  unfold qlk qta xh;by_cases c:30<e.2.2.2.2.2.2.1.length
  ·rw[ao oA,qX c];rfl
  ·rw[bu,qW c]
   have g:=zng e.2.2.2.2.2.2.1 oA (0,0) FU [] _ rfl (Nat.lt_of_le_of_lt (show e.2.2.2.2.2.2.1.length<=30 by omega) oE)
   have g:zu FU FU e.2.2.2.2.2.2.1 e.2.2.2.2.2.2.1 (e.2.2.2.2.2.2.1.length:Int) 0 (0,0)=some (py [] e.2.2.2.2.2.2.1):=g;rw[g,qB,n9,qB,im];by_cases c:(py [] e.2.2.2.2.2.2.1).1≠0
   ·rw[qX c,qX c]
   ·rw[qW c,qW c,q3l FU _ oJ oL,qB,n9,qB,zfz]
    unfold evT;cases hn:m0 e.2.2.2.2.2.2.2.1
    ·rw[qX rfl,qX rfl];rfl
    ·rw[qW oC,qW oC,ar,z3y FU oE _ oC (by simp[FU]),qB,n9,qB]
     rw[show(qcz ([122],(0,(0,((0,(0,(0,0))),(0,(0,(0,0))))))) e.2.2.2.2.2.2.2.2.1).1=yd e.2.2.2.2.2.2.2.2.1 from zn5 _,im]
     by_cases c:(yd e.2.2.2.2.2.2.2.2.1).1≠0
     ·rw[qX c,qX c];rfl
     ·rw[qW c,qW c];by_cases c:e.2.2.2.2.2.2.2.2.2.1<0
      ·rw[ao c];exact t5 _ _ ⟨fun _ q=>oA,fun _=>rfl⟩
      ·rw[bu c];exact t5 _ _ ⟨fun q=>by have:=of_decide_eq_true q;omega,fun q=>decide_eq_true oA⟩
 have t3:∀b z,qgq FU b e z=some (if b=true then(10,-8) else xh e):=fun b z=>by
  unfold qgq;cases b
  ·rw[ar rfl,t4,qW oC]
  ·rw[bi rfl,qX rfl];rfl
 have t2:∀b z,(b=true↔¬(0<=e.2.2.1/\e.2.2.1<=1000000))->qgp FU b e z=some (if ¬(0<=e.2.2.1/\e.2.2.1<=1000000) then(3,-5) else
   if ff e.2.2.2.1≠0 then(ff e.2.2.2.1,-6) else if ff e.2.2.2.2.1≠0 then(ff e.2.2.2.2.1,-7) else if e.2.2.2.2.2.1≠[]/\nd e.2.2.2.2.2.1=false then(10,-8) else xh e):=fun b z hb=>by
  unfold qgp;cases b
  ·rw[ar rfl,qW (fun q=>by have:=hb.2 q;cases this),zef,zef]
   simp only[qB,im];by_cases c:ff e.2.2.2.1≠0
   ·rw[qX c,qX c];rfl
   ·rw[qW c,qW c];by_cases c:ff e.2.2.2.2.1≠0
    ·rw[qX c,qX c];rfl
    ·rw[qW c,qW c];by_cases c:e.2.2.2.2.2.1=[]
     ·rw[ar (by simp[c]),t3,qW oC,qW (fun q=>q.1 c)]
     ·rw[bi (by simp[c]),zaf,qB,t3]
      cases nd e.2.2.2.2.2.1
      ·rw[qX (c:=(!false)=true) rfl,qX ⟨c,rfl⟩]
      ·rw[qW (c:=(!true)=true) oC,qW oC]
  ·rw[bi rfl,qX (hb.1 rfl)];rfl
 have t1:∀b z,(b=true↔¬(1<=e.2.1/\e.2.1<=5))->qgo FU b e z=some (if ¬(1<=e.2.1/\e.2.1<=5) then(4,-4) else if ¬(0<=e.2.2.1/\e.2.2.1<=1000000) then(3,-5) else
   if ff e.2.2.2.1≠0 then(ff e.2.2.2.1,-6) else if ff e.2.2.2.2.1≠0 then(ff e.2.2.2.2.1,-7) else if e.2.2.2.2.2.1≠[]/\nd e.2.2.2.2.2.1=false then(10,-8) else xh e):=fun b z hb=>by
  unfold qgo;cases b
  ·rw[ar rfl,qW (c:=¬(1<=e.2.1/\_)) (fun q=>by have:=hb.2 q;cases this)]
   by_cases c:e.2.2.1<0
   ·rw[ao c];exact t2 _ _ ⟨fun _ q=>oA,fun _=>rfl⟩
   ·rw[bu c];exact t2 _ _ ⟨fun q=>by have:=of_decide_eq_true q;omega,fun q=>decide_eq_true oA⟩
  ·rw[bi rfl,qX (hb.1 rfl)];rfl
 have t0:∀b z,(b=true↔vq e.1=false)->qci FU b e z=some (ke e):=fun b z hb=>by
  unfold qci ke;cases b
  ·rw[ar rfl,qW (c:=vq e.1=false) (fun q=>by have:=hb.2 q;cases this)]
   by_cases c:e.2.1<1
   ·rw[ao c];exact t1 _ _ ⟨fun _ q=>oA,fun _=>rfl⟩
   ·rw[bu c];exact t1 _ _ ⟨fun q=>by have:=of_decide_eq_true q;omega,fun q=>decide_eq_true oA⟩
  ·rw[bi rfl,qX (hb.1 rfl)];rfl
 unfold zq;by_cases c:e.1=[]
 ·rw[bi (by simp[c])];exact t0 _ _ ⟨fun _=>by rw[c];rfl,fun _=>rfl⟩
 ·rw[ar (by simp[c])]
  have:1<=e.1.length:=by cases he:e.1 with|nil=>exact absurd he c|cons a b=>simp
  by_cases c:60<e.1.length
  ·rw[ao oA];exact t0 _ _ ⟨fun _=>by unfold vq;rw[decide_eq_false (p:=e.1.length<=60) oA,Bool.and_false];rfl,fun _=>rfl⟩
  ·rw[bu,zjg _,qB]
   refine t0 _ _ ?_;unfold vq;rw[decide_eq_true (p:=1<=e.1.length) this,decide_eq_true (p:=e.1.length<=60) oA]
   cases e.1.all uch<;>simp
def zrp:∀n:_root_.Fin 256,((UInt8.ofNat n.val&&&192) != 128)=(decide (n.val<128)||decide (192<=n.val)):=by decide +kernel
def q0q(c:UInt8):((c&&&192) != 128)=(decide (c.toNat<128)||decide (192<=c.toNat)):=by
 have:=zrp ⟨c.toNat,c.toNat_lt⟩;simpa using this
def RC(c:Bs):Prop:=∃b t,c=b::t/\t.length<=3/\((b&&&192) != 128)=true/\∀x∈t,((x&&&192) != 128)=false
def qeg{n:Nat}(h:n<256:=by omega):(UInt8.ofNat n).toNat=n:=by simp[Nat.mod_eq_of_lt h]
def q0a{c:Nat}(h:qb c):RC (fv c):=by
 have co:∀k:Nat,((UInt8.ofNat (128+k%64)&&&192) != 128)=false:=fun k=>by
  have:k%64<64:=Nat.mod_lt _ oE
  rw[q0q,qeg,Bool.or_eq_false_iff,decide_eq_false_iff_not,decide_eq_false_iff_not];omega
 have st:∀k:Nat,192<=k->k<256->((UInt8.ofNat k&&&192) != 128)=true:=fun k h1 h2=>by
  rw[q0q,qeg h2,decide_eq_true h1,Bool.or_true]
 have hc:c<=1114111:=by rcases h with h|h<;>omega
 unfold fv;split
 ·refine⟨_,[],rfl,oC,?_,oC⟩
  rw[q0q,qeg,decide_eq_true oA];rfl
 ·split
  ·refine⟨_,_,rfl,oC,st _ oA oA,fun x hx => ?_⟩
   simp only[wE,List.not_mem_nil,or_false]at hx;subst hx;exact co _
  ·split
   ·refine⟨_,_,rfl,oC,st _ oA oA,fun x hx => ?_⟩
    simp only[wE,List.not_mem_nil,or_false]at hx;rcases hx with rfl|rfl<;>exact co _
   ·refine⟨_,_,rfl,oC,st _ oA oA,fun x hx => ?_⟩
    simp only[wE,List.not_mem_nil,or_false]at hx;rcases hx with rfl|rfl|rfl<;>exact co _
def jb:Nat->List Bs->Bs|_,[]=>[13,10]|col,c::cs=>if 75<col+c.length then[13,10,32]++(c++jb (1+c.length) cs) else c++jb (col+c.length) cs
def q9m:∀(cs:List Bs)(col:Nat),col+cs.flatten.length<=75->jb col cs=cs.flatten++[13,10]
 |[],_,_=>rfl|c::cs,col,h=>by
  rw[List.flatten_cons,qM]at h;rw[jb,qW oA,q9m cs _ oA];simp
def q9n:∀(cs:List Bs)(col:Nat)(c:Bs)(r:List Bs),col+cs.flatten.length<=75->75<col+cs.flatten.length+c.length->c.length<=4->jb col (cs++c::r)=cs.flatten++([13,10,32]++jb 1 (c::r))
 |[],col,c,r,h,h2,h4=>by
  rw[List.nil_append,jb,qX (by simpa using h2),jb,qW oA];simp
 |d::cs,col,c,r,h,h2,h4=>by
  rw[List.flatten_cons,qM]at h h2;rw[wK,jb,qW oA,q9n cs _ c r oA oA h4];simp
def q8e:∀(cs:List Bs)(m:Nat),m<cs.flatten.length->∃a c r,cs=a++c::r/\a.flatten.length<=m/\m<a.flatten.length+c.length
 |[],m,h=>by simp at h|d::cs,m,h=>by
  rw[List.flatten_cons,qM]at h;by_cases q:m<d.length
  ·exact⟨[],d,cs,rfl,oC,by simpa using q⟩
  ·obtain⟨a,c,r,e,h1,h2⟩:=q8e cs (m-d.length) oA
   exact⟨d::a,c,r,by rw[e];rfl,by rw[List.flatten_cons,qM];omega,by rw[List.flatten_cons,qM];omega⟩
def q0b{c:Bs}(h:RC c):1<=c.length/\c.length<=4:=by
 obtain⟨b,t,rfl,h,_⟩:=h;rw[qL];omega
def zma(r0:Bs->Bs->Int->Option Bs)(ab t R out:Bs)(b:UInt8)(hb:((b&&&192) != 128)=true)(ht:∀x∈t,((x&&&192) != 128)=false)(hl:ab.length+t.length+R.length<=100000)(ho:out.length<=1000000):∀(j m:Nat),j<=t.length->j<m ->
  qcm FU r0 m (ab++(b::(t++R))) out ((ab.length+j:Nat):Int)=r0 (b::(t++R)) (out++(ab++[13,10,32])) 74:=by
 intro j
 induction j with
 |zero=>
  intro m _ hm;obtain⟨m,rfl⟩:∃k,m=k+1:=⟨m-1,oA⟩
  rw[qcm,qll,Nat.add_zero,jc,qB];unfold qmc;rw[qB,hb,ar,ao ⟨oA,by simp only[qM];omega⟩]
  rw[show(ab.length:Int).toNat=ab.length by omega,List.take_left,List.drop_left,ao oG,ao oH,ao ⟨oA,by simp only[qM];omega⟩]
 |succ j ih=>
  intro m hj hm;obtain⟨m,rfl⟩:∃k,m=k+1:=⟨m-1,oA⟩
  rw[qcm,qll];have hjt:j<t.length:=oA
  rw[vf _ (ab.length+(j+1)) oU,qB]
  have e:(ab++(b::(t++R)))[ab.length+(j+1)]' oU=t[j]:=by
   rw[List.getElem_append_right oA]
   simp only[Nat.add_sub_cancel_left,List.getElem_cons_succ];rw[List.getElem_append_left hjt]
  rw[e];unfold qmc;rw[qB,ht _ (List.getElem_mem hjt),bi,show af (((ab.length+(j+1):Nat):Int)-1)=((ab.length+j:Nat):Int) by rw[bn];omega]
  exact ih m oA oA
def zmb(n:Nat):∀(cs:List Bs)(out:Bs)(col:Nat),cs.flatten.length<n->(∀c∈cs,RC c)->cs.flatten.length<=50000->out.length+4*cs.flatten.length<=1000000->(col=0\/col=1) ->
  qcl FU n cs.flatten out ((75-col:Nat):Int)=some (out++jb col cs):=by
 induction n with
 |zero=>intro cs out col h;omega|succ n ih=>
  intro cs out col h hc hl ho hcol;rw[qcl,qs1];by_cases q:75-col<cs.flatten.length
  ·rw[ao oA]
   obtain⟨a,c,r,rfl,h1,h2⟩:=q8e cs (75-col) q;have hr:=hc c oC
   have l4:=q0b hr;have hr':=hr;obtain⟨b,t,rfl,t3,hb,ht⟩:=hr;simp only[List.flatten_append,List.flatten_cons,qM,qL]at h hl ho h1 h2 l4;have e:(a++(b::t)::r).flatten=a.flatten++(b::(t++r.flatten)):=oC
   have:=zma (qcl FU n) a.flatten t r.flatten out b hb ht oA oA (75-col-a.flatten.length) FU oA (Nat.lt_of_le_of_lt (show 75-col-a.flatten.length<=75 by omega) oE)
   rw[show a.flatten.length+(75-col-a.flatten.length)=75-col by omega]at this
   rw[e,this];have fl:((b::t)::r).flatten.length=1+t.length+r.flatten.length:=by rw[List.flatten_cons,qM,qL];omega
   have:=ih ((b::t)::r) (out++(a.flatten++[13,10,32])) 1 (by rw[fl];omega) (fun x hx=>hc x (by simp at hx ⊢;exact .inr hx)) (by rw[fl];omega) (by rw[fl];simp only[qM,qL,qZ];omega) (.inr rfl)
   rw[show((b::t)::r).flatten=b::(t++r.flatten) by simp]at this
   refine Eq.trans this ?_;rw[q9n a col (b::t) r oA (by rw[qL];omega) (by rw[qL];omega)]
   simp
  ·rw[bu,ao (by simp only[bg];omega),ao oH,q9m cs col oA]
   simp
def qjz(R:List Nat):(R.map fv).flatten=tx R:=by
 induction R with|nil=>rfl|cons c R ih=>rw[List.map_cons,List.flatten_cons,ih];rfl
def q8p(R:List Nat)(h:okT R)(hl:(tx R).length<=50000:=by omega):qgu FU (tx R)=some (jb 0 (R.map fv)):=by
 have:=zmb FU (R.map fv) [] 0 (by rw[qjz];exact Nat.lt_of_le_of_lt hl oE) (fun c hc=>by obtain⟨k,hk,rfl⟩:=List.mem_map.1 hc;exact q0a (h k hk)) (by rw[qjz];exact hl) (by rw[qjz];simp;omega) (.inl rfl)
 rw[qjz,List.nil_append]at this;exact this

def pos(s r:Bs):Int:=((s.length-r.length:Nat):Int)
open Go.Lib (decDigits nDigits itoa atoiAll parseUint10 parseMag NumEnd)
def q8l(d:Nat)(h:d<10:=by omega):(UInt8.ofNat (48+d)).toNat=48+d:=by
 rw[UInt8.toNat_ofNat'];omega
def qxp(u:Nat)(h:u<10):decDigits u=[UInt8.ofNat (48+u)]:=by rw[decDigits,dif_pos h]
def qxo(u:Nat)(h:¬u<10):decDigits u=decDigits (u/10)++[UInt8.ofNat (48+u%10)]:=by rw[decDigits,dif_neg h]
def zl2(u:Nat):decDigits u≠[]:=by
 by_cases h:u<10
 ·rw[qxp u h];simp
 ·rw[qxo u h];simp
def q8i(u:Nat):∀c∈decDigits u,48<=c.toNat/\c.toNat<=57:=by
 induction u using Nat.strongRecOn with
 |ind u ih=>
  intro c hc;by_cases h:u<10
  ·rw[qxp u h]at hc;rw[List.mem_singleton.1 hc,q8l u h];omega
  ·rw[qxo u h]at hc;rcases List.mem_append.1 hc with hc|hc
   ·exact ih (u/10) oA c hc
   ·rw[List.mem_singleton.1 hc,q8l _];omega
def q8j(k:Nat):∀u,u<10 ^ k->1<=k->(decDigits u).length<=k:=by
 induction k with
 |zero=>intro u _ h;omega|succ k ih=>
  intro u hu _;by_cases h:u<10
  ·rw[qxp u h];simp
  ·rw[qxo u h,qM,wD];have hk:1<=k:=by
    rcases Nat.eq_zero_or_pos k with h0|h0
    ·subst h0;simp at hu;omega
    ·exact h0
   have:=ih (u/10) (by rw[Nat.pow_succ]at hu;omega) hk
   omega
def zah(u:Nat):itoa (u:Int)=decDigits u:=by unfold itoa;rw[qW oA];simp
end Go.Sym
namespace Go.Sym
open Go.Lib (decDigits itoa)
structure zf(e:cm):Prop where
 z:ke e=(0,0)
 uid:vq e.1=true
 me:1<=e.2.1/\e.2.1<=5
 sq:0<=e.2.2.1/\e.2.2.1<=1000000
 su:ff e.2.2.2.1=0
 pl:ff e.2.2.2.2.1=0
 og:e.2.2.2.2.2.1=[]\/ui e.2.2.2.2.2.1
 gl:e.2.2.2.2.2.2.1.length<=30
 g:∀x∈e.2.2.2.2.2.2.1,ui x.1/\1<=x.2/\x.2<=4
 zn:m0 e.2.2.2.2.2.2.2.1=true
 d:dv e.2.2.2.2.2.2.2.2.1
 d0:e.2.2.2.2.2.2.2.2.1.2.2.2.2.2.2=0
 dy:3<=e.2.2.2.2.2.2.2.2.1.1/\e.2.2.2.2.2.2.2.2.1.1<=3998
 le:0<=e.2.2.2.2.2.2.2.2.2.1/\e.2.2.2.2.2.2.2.2.2.1<=1000000
 r:(mb e.2.2.2.2.2.2.2.2.2.2).1=0
def q9s:∀(ab aa:List (Bs×Int)),(py ab aa).1=0->∀x∈aa,ui x.1/\1<=x.2/\x.2<=4
 |_,[],_,x,hx=>by cases hx
 |ab,g::aa,h,x,hx=>by
  rw[py]at h;by_cases c1:nd g.1=false
  ·rw[qX c1]at h;simp at h
  rw[qW c1]at h;by_cases c2:¬(1<=g.2/\g.2<=4)
  ·rw[qX c2]at h;simp at h
  rw[qW c2]at h;by_cases c3:ab.any (fun x=>x.1==g.1)=true
  ·rw[qX c3]at h;simp at h
  rw[qW c3]at h;rcases List.mem_cons.1 hx with rfl|hx
  ·exact⟨zdv (by simpa using c1),Classical.not_not.1 c2⟩
  ·exact q9s _ aa h x hx
def q9b{e:cm}(h:(ke e).1=0):zf e:=by
 have h0:=h;unfold ke at h;by_cases c1:vq e.1=false
 ·rw[qX c1]at h;simp at h
 rw[qW c1]at h;by_cases c2:¬(1<=e.2.1/\e.2.1<=5)
 ·rw[qX c2]at h;simp at h
 rw[qW c2]at h;by_cases c3:¬(0<=e.2.2.1/\e.2.2.1<=1000000)
 ·rw[qX c3]at h;simp at h
 rw[qW c3]at h;by_cases c4:ff e.2.2.2.1≠0
 ·rw[qX c4]at h;exact absurd h c4
 rw[qW c4]at h;by_cases c5:ff e.2.2.2.2.1≠0
 ·rw[qX c5]at h;exact absurd h c5
 rw[qW c5]at h;by_cases c6:e.2.2.2.2.2.1≠[]/\nd e.2.2.2.2.2.1=false
 ·rw[qX c6]at h;simp at h
 rw[qW c6]at h;unfold xh at h;by_cases c7:30<e.2.2.2.2.2.2.1.length
 ·rw[qX c7]at h;simp at h
 rw[qW c7]at h;by_cases c8:(py [] e.2.2.2.2.2.2.1).1≠0
 ·rw[qX c8]at h;exact absurd h c8
 rw[qW c8]at h;unfold evT at h;by_cases c9:m0 e.2.2.2.2.2.2.2.1=false
 ·rw[qX c9]at h;simp at h
 rw[qW c9]at h;by_cases ca:(yd e.2.2.2.2.2.2.2.2.1).1≠0
 ·rw[qX ca]at h;exact absurd h ca
 rw[qW ca]at h;by_cases cb:¬(0<=e.2.2.2.2.2.2.2.2.2.1/\e.2.2.2.2.2.2.2.2.2.1<=1000000)
 ·rw[qX cb]at h;simp at h
 rw[qW cb]at h;by_cases cc:(mb e.2.2.2.2.2.2.2.2.2.2).1≠0
 ·rw[qX cc]at h;exact absurd h cc
 have hd:dv e.2.2.2.2.2.2.2.2.1/\e.2.2.2.2.2.2.2.2.1.2.2.2.2.2.2=0/\3<=e.2.2.2.2.2.2.2.2.1.1/\e.2.2.2.2.2.2.2.2.1.1<=3998:=by
  have ca:=Classical.not_not.1 ca;unfold yd at ca;by_cases d1:¬dv e.2.2.2.2.2.2.2.2.1
  ·rw[qX d1]at ca;simp at ca
  rw[qW d1]at ca;by_cases d2:e.2.2.2.2.2.2.2.2.1.2.2.2.2.2.2≠0
  ·rw[qX d2]at ca;simp at ca
  rw[qW d2]at ca;by_cases d3:¬(3<=e.2.2.2.2.2.2.2.2.1.1/\e.2.2.2.2.2.2.2.2.1.1<=3998)
  ·rw[qX d3]at ca;simp at ca
  exact⟨Classical.not_not.1 d1,Classical.not_not.1 d2,Classical.not_not.1 d3⟩
 refine⟨?_,by simpa using c1,Classical.not_not.1 c2,Classical.not_not.1 c3,Classical.not_not.1 c4,Classical.not_not.1 c5,?_,oA,q9s _ _ (Classical.not_not.1 c8),by simpa using c9,hd.1,hd.2.1,hd.2.2,Classical.not_not.1 cb,Classical.not_not.1 cc⟩
 ·unfold ke xh evT;rw[qW c1,qW c2,qW c3,qW c4,qW c5,qW c6,qW c7,qW c8,qW c9,qW ca,qW cb,qW cc]
 ·by_cases q:e.2.2.2.2.2.1=[]
  ·exact .inl q
  ·refine .inr (zdv ?_);cases hs:nd e.2.2.2.2.2.1
   ·exact absurd ⟨q,hs⟩ c6
   ·rfl
def qaq(n:Int)(h1 : -1000000000000<=n)(h2:n<=1000000000000):ii n=some (itoa n):=by
 unfold ii;rw[ao ⟨oA,oA⟩]
def zai(u:Nat)(h:0<u:=by omega):itoa (-(u:Int))=45::decDigits u:=by
 unfold itoa;rw[qX];simp
def rx(n:Int)(h1 : -1000000000000<=n)(h2:n<=1000000000000):1<=(itoa n).length/\(itoa n).length<=14:=by
 have p:∀u:Nat,1<=(decDigits u).length:=fun u=>by
  have:=zl2 u
  cases hd:decDigits u with|nil=>exact absurd hd this|cons a b=>simp
 rcases Int.lt_or_le n 0 with h|h
 ·obtain⟨u,rfl⟩:∃u:Nat,n = -(u:Int):=⟨n.natAbs,oA⟩
  rw[zai u,qL]
  have:=q8j 13 u oA oA
  have:=p u;omega
 ·obtain⟨u,rfl⟩:∃u:Nat,n=(u:Int):=⟨n.natAbs,oA⟩
  rw[zah];have:=q8j 13 u oA oA
  have:=p u;omega
def qjj(c:UInt8):Bool:=decide (48<=c.toNat/\c.toNat<=57)||c==45
def zof(n:Int):∀c∈itoa n,qjj c=true:=by
 rcases Int.lt_or_le n 0 with h|h
 ·obtain⟨u,rfl⟩:∃u:Nat,n = -(u:Int):=⟨n.natAbs,oA⟩
  rw[zai u]
  intro c hc;rcases List.mem_cons.1 hc with rfl|hc
  ·rfl
  ·unfold qjj;rw[decide_eq_true (q8i u c hc)];rfl
 ·obtain⟨u,rfl⟩:∃u:Nat,n=(u:Int):=⟨n.natAbs,oA⟩
  rw[zah];intro c hc;unfold qjj;rw[decide_eq_true (q8i u c hc)];rfl
def qay(l:List Int):Bs:=Lib.join (l.map itoa) [44]
def mh(x:Int):Prop := -1000000000000<=x/\x<=1000000000000
def zpp(l:List Int)(hl:l.length<=1000)(h:∀x∈l,mh x)(n:Nat):∀(ab aa:List Int),l=ab++aa->aa.length<n->qg1 FU n l (l.length:Int) (ab.length:Int) (ab.map itoa)=fk (l.map itoa) [44]:=by
 induction n with
 |zero=>intro ab aa _ h;omega|succ n ih=>
  intro ab aa e hn;have hll:=congrArg List.length e;rw[qM]at hll;rw[qg1,qte]
  cases aa with
  |nil=>
   rw[List.append_nil]at e;rw[bu (by simp at hll;omega),← e]
   cases fk (List.map itoa l) [44]<;>rfl
  |cons x aa=>
   simp only[qL]at hll hn;have hx:=h x (by rw[e];simp)
   rw[ao oA,show am l (ab.length:Int)=some x by rw[e];exact jc _ _ _,qB,qaq x hx.1 hx.2,qB,ao (rwl _ _ (by rw[wC];omega)),cn _]
   have:=ih (ab++[x]) aa (by rw[e];simp) oA
   rw[qM,wD,List.map_append]at this;exact this
def qef(l:List Int)(h:∀x∈l,mh x):(qay l).length<=15*l.length:=by
 have:=zam [44] 14 (l.map itoa) (fun t ht=>by obtain⟨x,hx,rfl⟩:=List.mem_map.1 ht;exact(rx x (h x hx).1 (h x hx).2).2)
 rw[wC]at this;exact this
def qzp(l:List Int)(hl:l.length<=1000)(h:∀x∈l,mh x):qco FU l=some (qay l):=by
 have:=qef l h;unfold qco;have g:=zpp l hl h FU [] l rfl (Nat.lt_of_le_of_lt hl oE)
 rw[show((([]:List Int).length:Nat):Int)=0 from rfl,List.map_nil]at g
 rw[g];unfold fk;rw[ao ⟨by rw[wC];omega,by unfold qay at this;omega⟩];rfl
def oh(n:Int)(k:Nat):Bs:=List.replicate (k-(itoa n).length) 48++itoa n
def qej(n:Int)(k:Nat)(hk:k<=10)(h1:0<=n)(h2:n<=1000000000000):ud n (k:Int)=some (oh n k):=by
 have hl:=rx n oA h2
 unfold ud oh;rw[qaq n oA h2,qB,bn]
 have e:(if(k:Int)-((itoa n).length:Int)>0 then(k:Int)-((itoa n).length:Int) else 0)=((k-(itoa n).length:Nat):Int):=by split<;>omega
 rw[e];unfold qcs;rw[ao ⟨oA,oA,oD⟩,qB,show((k-(itoa n).length:Nat):Int).toNat=k-(itoa n).length by omega]
 have r:Lib.repeatL [48] (k-(itoa n).length)=List.replicate (k-(itoa n).length) 48:=by
  have:=Lib.repeatL_replicate 48 1 (k-(itoa n).length);simpa using this
 rw[r,ao (by simp only[bg,List.length_replicate];omega)]
def iu(n:Int)(k:Nat)(hk:k<=10)(h1:0<=n)(h2:n<=1000000000000):(oh n k).length<=24:=by
 have hl:=rx n oA h2
 unfold oh;rw[qM,List.length_replicate];omega
def yt(d:dk):Bs:=((((((oh d.1 4++oh d.2.1 2)++oh d.2.2.1 2)++[84])++oh d.2.2.2.1 2)++oh d.2.2.2.2.1 2)++oh d.2.2.2.2.2.1 2)
def DtL(d:dk):Prop:=(0<=d.1/\d.1<=1000000000000)/\(0<=d.2.1/\d.2.1<=1000000000000)/\(0<=d.2.2.1/\d.2.2.1<=1000000000000)/\(0<=d.2.2.2.1/\d.2.2.2.1<=1000000000000)/\(0<=d.2.2.2.2.1/\d.2.2.2.2.1<=1000000000000)/\(0<=d.2.2.2.2.2.1/\d.2.2.2.2.2.1<=1000000000000)
def zsv(d:dk)(h:DtL d):qlu d=some (yt d):=by
 obtain⟨a,b,c,x,y,z⟩:=h;have la:=iu d.1 4 oA a.1 a.2
 have lb:=iu d.2.1 2 oA b.1 b.2
 have lc:=iu d.2.2.1 2 oA c.1 c.2
 have lx:=iu d.2.2.2.1 2 oA x.1 x.2
 have ly:=iu d.2.2.2.2.1 2 oA y.1 y.2
 have lz:=iu d.2.2.2.2.2.1 2 oA z.1 z.2
 unfold qlu;rw[show(4:Int)=((4:Nat):Int) from rfl,show(2:Int)=((2:Nat):Int) from rfl,qej _ 4 oA a.1 a.2,qej _ 2 oA b.1 b.2,qej _ 2 oA c.1 c.2,qej _ 2 oA x.1 x.2,qej _ 2 oA y.1 y.2,qej _ 2 oA z.1 z.2]
 simp only[qB];rw[ao (by simp only[bg];omega),ao (by simp only[bg,qM];omega),ao oH,ao oH,ao oH,ao oH]
 rfl
def yg:List Bs:=[[80,85,66,76,73,83,72],[82,69,81,85,69,83,84],[82,69,80,76,89],[67,65,78,67,69,76],[67,79,85,78,84,69,82]]
def vo:List Bs:=[[87,65,73,84,83],[65,67,67,69,80,84,83],[68,69,67,76,73,78,69,83],[77,65,89,66,69]]
def xt:List Bs:=[[79,78,67,69],[68,65,73,76,89],[87,69,69,75,76,89],[77,79,78,84,72,76,89],[89,69,65,82,76,89]]
def zo7:qls=some yg:=rfl
def zst:qlv=some vo:=rfl
def zne:qlq=some xt:=rfl
def iz(s:Bs):Bs:=ee 92 10 [92,92] [92,110] s
def qx1(s:Bs):(iz s).length<=3*s.length:=by
 have h1:=List.count_le_length (a:=(92:UInt8)) (l:=s);have h2:=List.count_le_length (a:=(10:UInt8)) (l:=s);have:(iz s).length=_:=qdx (a:=92) (b:=10) oE 92 92 92 110 s
 unfold gv at this;omega
def q84(s:Bs)(h:s.length<=1000000:=by omega):qgy s=some (iz s):=by
 unfold qgy;rw[show qg9 ([([92]:Bs),([92,92]:Bs),([10]:Bs),([92,110]:Bs)]:List Bs)=some (0,0,0,[[92],[92,92],[10],[92,110]]) from rfl,qB]
 unfold qv;dsimp only;rw[ao ⟨rfl,rfl,oE,oA⟩];rfl
def qbg(r:ij):Bs:=if r.2.2.2.2.1=true then itoa r.2.2.2.1 else[]
def yn(r:ij):Bs:=Lib.join [xt.getD r.1.toNat [],itoa r.2.1,itoa r.2.2.1,qbg r,qay r.2.2.2.2.2.1] [59]
structure RcL(r:ij):Prop where
 f:0<=r.1/\r.1<=4
 e:mh r.2.1
 c:mh r.2.2.1
 u:r.2.2.2.2.1=true->mh r.2.2.2.1
 wl:r.2.2.2.2.2.1.length<=300
 w:∀x∈r.2.2.2.2.2.1,mh x
 xl:r.2.2.2.2.2.2.1.length<=300
 x:∀x∈r.2.2.2.2.2.2.1,mh x
 al:r.2.2.2.2.2.2.2.length<=300
 a:∀x∈r.2.2.2.2.2.2.2,mh x
def qyi{α:Type}(l:List α)(i:Nat)(d:α)(h:i<l.length):l[i]? = some (l.getD i d):=by
 rw[List.getElem?_eq_getElem h,List.getD_eq_getElem?_getD,List.getElem?_eq_getElem h];rfl
def znd(i:Nat):(xt.getD i []).length<=10:=by
 match i with
 |0|1|2|3|4=>decide
 |n+5=>simp[xt]
def zbe(i:Nat):(yg.getD i []).length<=10:=by
 match i with
 |0|1|2|3|4=>decide
 |n+5=>simp[yg]
def zd2(i:Nat):(vo.getD i []).length<=10:=by
 match i with
 |0|1|2|3=>decide
 |n+4=>simp[vo]
def q0e(r:ij)(h:RcL r):(yn r).length<=6000:=by
 have u:(qbg r).length<=14:=by
  unfold qbg;by_cases q:r.2.2.2.2.1=true
  ·rw[qX q];exact(rx _ (h.u q).1 (h.u q).2).2
  ·rw[qW q];simp
 have n:=qef _ h.w;have:=h.wl;have f:=znd r.1.toNat;have e:=(rx _ h.e.1 h.e.2).2;have c:=(rx _ h.c.1 h.c.2).2;unfold yn;rw[Lib.join_cons];simp only[Lib.joinTail,List.map_cons,List.map_nil,List.flatten_cons,List.flatten_nil,qM,qL,qZ];omega
def zq2(r:ij)(h:RcL r):qlt FU r=some (yn r):=by
 have hl:=q0e r h;have p0:∀s,s=qbg r->qg2 FU s r=some (yn r):=fun s hs=>by
  unfold qg2;rw[zne,qB];have hf:=h.f;have hi:r.1.toNat<xt.length:=by show r.1.toNat<5;omega
  rw[ao ⟨oA,hi⟩,qyi xt _ [] hi,qB,qaq _ h.e.1 h.e.2,qaq _ h.c.1 h.c.2,qzp _ (by have:=h.wl;omega) h.w]
  simp only[qB];unfold fk;rw[hs];rw[ao ⟨oC,by
   have:(yn r).length<=140737488355328:=oA
   exact this⟩];rfl
 unfold qlt;cases hu:r.2.2.2.2.1
 ·rw[ar rfl];exact p0 _ (by unfold qbg;rw[hu];rfl)
 ·have:=h.u hu;rw[bi rfl,qaq _ this.1 this.2,qB];exact p0 _ (by unfold qbg;rw[hu];rfl)
def gsB(g:Bs×Int):Bs:=(([71,85,69,83,84,58]++vo.getD (g.2-1).toNat [])++[32])++g.1
def hdE(e:cm):List Bs:=[[66,69,71,73,78,58,69,86,69,78,84],[77,69,84,72,79,68,58]++yg.getD (e.2.1-1).toNat [],[85,73,68,58]++e.1,[83,69,81,85,69,78,67,69,58]++itoa e.2.2.1,[83,85,77,77,65,82,89,58]++iz e.2.2.2.1,[80,76,65,67,69,58]++iz e.2.2.2.2.1,[79,82,71,65,78,73,90,69,82,58]++e.2.2.2.2.2.1]
def tlE(e:cm):List Bs:=[[90,79,78,69,58]++e.2.2.2.2.2.2.2.1,[83,84,65,82,84,58]++yt e.2.2.2.2.2.2.2.2.1,[76,69,78,71,84,72,58]++itoa e.2.2.2.2.2.2.2.2.2.1,[82,69,80,69,65,84,58]++yn e.2.2.2.2.2.2.2.2.2.2,[69,88,67,69,80,84,58]++qay e.2.2.2.2.2.2.2.2.2.2.2.2.2.2.2.2.1,[65,68,68,58]++qay e.2.2.2.2.2.2.2.2.2.2.2.2.2.2.2.2.2,[69,78,68,58,69,86,69,78,84]]
def p7(e:cm):List Bs:=hdE e++e.2.2.2.2.2.2.1.map gsB++tlE e
structure EvB(e:cm):Prop where
 ul:e.1.length<=60
 me:1<=e.2.1/\e.2.1<=5
 sq:mh e.2.2.1
 su:e.2.2.2.1.length<=500
 pl:e.2.2.2.2.1.length<=500
 og:e.2.2.2.2.2.1.length<=300
 gl:e.2.2.2.2.2.2.1.length<=30
 g:∀x∈e.2.2.2.2.2.2.1,x.1.length<=300/\1<=x.2/\x.2<=4
 zn:e.2.2.2.2.2.2.2.1.length<=60
 d:DtL e.2.2.2.2.2.2.2.2.1
 le:mh e.2.2.2.2.2.2.2.2.2.1
 r:RcL e.2.2.2.2.2.2.2.2.2.2
def zoy(e:cm)(he:EvB e)(hd:List Bs)(hhd:hd.length<=100)(n:Nat):∀(ab aa:List (Bs×Int)),e.2.2.2.2.2.2.1=ab++aa->aa.length<n->qg0 FU n e.2.2.2.2.2.2.1 (e.2.2.2.2.2.2.1.length:Int) (ab.length:Int) e (hd++ab.map gsB)=some (hd++e.2.2.2.2.2.2.1.map gsB++tlE e):=by
 have hgl:=he.gl
 induction n with
 |zero=>intro ab aa _ h;omega|succ n ih=>
  intro ab aa eg hn;have hll:=congrArg List.length eg;rw[qM]at hll;rw[qg0,qtd]
  cases aa with
  |nil=>
   have l1:=he.zn;have l2:=(rx _ he.le.1 he.le.2).2;have l3:=q0e _ he.r;have l4:=qef _ he.r.x;have l5:=qef _ he.r.a;have x4:=he.r.xl;have x5:=he.r.al;have hst:=zsv _ he.d;have l6:(yt e.2.2.2.2.2.2.2.2.1).length<=200:=by
    obtain⟨a,b,c,x,y,z⟩:=he.d;have la:=iu e.2.2.2.2.2.2.2.2.1.1 4 oA a.1 a.2
    have lb:=iu e.2.2.2.2.2.2.2.2.1.2.1 2 oA b.1 b.2
    have lc:=iu e.2.2.2.2.2.2.2.2.1.2.2.1 2 oA c.1 c.2
    have lx:=iu e.2.2.2.2.2.2.2.2.1.2.2.2.1 2 oA x.1 x.2
    have ly:=iu e.2.2.2.2.2.2.2.2.1.2.2.2.2.1 2 oA y.1 y.2
    have lz:=iu e.2.2.2.2.2.2.2.2.1.2.2.2.2.2.1 2 oA z.1 z.2
    unfold yt;simp only[qM,qL,qZ];omega
   rw[List.append_nil]at eg;rw[bu (by simp at hll;omega),ao oG,hst,qB,ao oG,qaq _ he.le.1 he.le.2,qB,ao oG,zq2 _ he.r,qB,ao oG,qzp _ oA he.r.x,qB,ao oG,qzp _ oA he.r.a,qB,ao oG,ao (by rw[← eg];simp only[au,qM,wC,qL,qZ];omega),← eg]
   rfl
  |cons g aa=>
   simp only[qL]at hll hn;have hg:=he.g g (by rw[eg];simp)
   rw[ao oA,show am e.2.2.2.2.2.2.1 (ab.length:Int)=some g by rw[eg];exact jc _ _ _,qB,zst,qB,bn (x:=g.2-1) oA oA]
   have hi:(g.2-1).toNat<vo.length:=by show(g.2-1).toNat<4;omega
   have sl:=zd2 (g.2-1).toNat;rw[ao ⟨oA,hi⟩,qyi vo _ [] hi,qB,ao oG,ao oH,ao oH,ao (rwl _ _ (by rw[qM,wC];omega)),cn _]
   have:=ih (ab++[g]) aa (by rw[eg];simp) oA
   rw[qM,wD,List.map_append,← qS]at this;exact this
def lnF(e:cm)(he:EvB e):qlr FU e=some (p7 e):=by
 have hm:=he.me;have hi:(e.2.1-1).toNat<yg.length:=by show(e.2.1-1).toNat<5;omega
 have l0:=zbe (e.2.1-1).toNat;have l1:=he.ul;have l2:=(rx _ he.sq.1 he.sq.2).2;have l3:=qx1 e.2.2.2.1;have l4:=qx1 e.2.2.2.2.1;have l5:=he.su;have l6:=he.pl;have l7:=he.og;have gl:=he.gl;unfold qlr;rw[zo7,qB,bn (x:=e.2.1-1) oA oA,ao ⟨oA,hi⟩,qyi yg _ [] hi,qB,ao oG,ao oG,qaq _ he.sq.1 he.sq.2,qB,ao oG,q84 _,qB,ao oG,q84 _,qB,ao oG,ao oG]
 have:=zoy e he (hdE e) (by simp[hdE]) FU [] e.2.2.2.2.2.2.1 rfl (Nat.lt_of_le_of_lt gl oE)
 rw[List.map_nil,List.append_nil]at this;exact this
def po(s:Bs):Bs:=(qgu FU s).getD []
def VL(s:Bs):Prop:=Lib.validD s=true/\s.length<=20000
def qye:∀(cs:List Bs)(col:Nat),(∀c∈cs,1<=c.length)->(jb col cs).length<=4*cs.flatten.length+2
 |[],_,_=>by simp[jb]|c::cs,col,h=>by
  have h1:=h c qH;have h2:=qye cs (1+c.length) (fun d hd=>h d (qE _ hd))
  have h3:=qye cs (col+c.length) (fun d hd=>h d (qE _ hd))
  rw[jb,List.flatten_cons,qM];split
  ·simp only[qM,qL,qZ];omega
  ·simp only[qM];omega
def zez{s:Bs}(h:VL s):∃R,okT R/\s=tx R:=qp4 s.length s (wF _) h.1
def q8o(s:Bs)(h:VL s):qgu FU s=some (po s)/\(po s).length<=80002:=by
 obtain⟨R,hR,rfl⟩:=zez h;have hl:=h.2;have e:=q8p R hR
 refine⟨by unfold po;rw[e];rfl,?_⟩
 have:=qye (R.map fv) 0 (fun c hc=>by obtain⟨k,hk,rfl⟩:=List.mem_map.1 hc;exact(q0b (q0a (hR k hk))).1)
 rw[qjz]at this;unfold po;rw[e,Option.getD_some];omega
def td(e:cm):Bs:=(p7 e).flatMap po
def EvW(e:cm):Prop:=EvB e/\∀s∈p7 e,VL s
def zuf(r1:List cm->Int->Int->(Int×Int)->Bs->Option (Bs×(Int×Int)))(l:List cm)(a b:Int)(z:Int×Int)(ls:List Bs)(hls:ls.length<=1000)(hv:∀s∈ls,VL s)(n:Nat):∀(ab aa:List Bs)(out:Bs),ls=ab++aa->aa.length<n->out.length+80002*aa.length<=3000000000 ->
  qgt FU r1 n l a b (ls.length:Int) (ab.length:Int) z ls out=r1 l a (af (b+1)) z (out++aa.flatMap po):=by
 induction n with
 |zero=>intro ab aa out _ h;omega|succ n ih=>
  intro ab aa out e hn ho;have hll:=congrArg List.length e;rw[qM]at hll;rw[qgt,qs0]
  cases aa with
  |nil=>rw[bu (by simp at hll;omega)];simp|cons s aa=>
   simp only[qL]at hll hn ho;obtain⟨h1,h2⟩:=q8o s (hv s (by rw[e];simp))
   rw[ao oA,ao ⟨oA,oA⟩,show ls[(ab.length:Int).toNat]? = some s by rw[e,show(ab.length:Int).toNat=ab.length by omega];simp,qB,h1,qB]
   unfold ww;rw[show ow out=some out from rfl,qB,ao (by simp only[au,qM];omega),qB,cn _]
   have:=ih (ab++[s]) aa (out++po s) (by rw[e];simp) oA oT
   rw[qM,wD]at this;rw[this,List.flatMap_cons,qS]
def zav(e:cm)(he:EvB e):(p7 e).length<=44:=by
 have:=he.gl;unfold p7 hdE tlE;simp only[qM,wC,qL,qZ];omega
def ztn(e:cm)(he:EvW e):(td e).length<=80002*44:=by
 have h1:=zav e he.1;have:∀ls:List Bs,(∀s∈ls,VL s)->(ls.flatMap po).length<=80002*ls.length:=by
  intro ls
  induction ls with
  |nil=>simp|cons s ls ih=>
   intro h;have a:=ih (fun t ht=>h t (qE _ ht))
   have b:=(q8o s (h s qH)).2;rw[List.flatMap_cons,qM,qL];omega
 have:=this (p7 e) he.2;unfold td;have:80002*(p7 e).length<=80002*44:=Nat.mul_le_mul (wF _) h1;omega
def wrT(t:Bs):Bs×(Int×Int):=if 12000<t.length then([],(1,-2)) else(t,(0,0))
def zue(l:List cm)(hl:l.length<=20)(hw:∀e∈l,EvW e)(z:Int×Int)(n:Nat):∀(ab aa:List cm)(out:Bs),l=ab++aa->aa.length<n->out.length+3520088*aa.length<=100000000 ->
  qck FU n l (l.length:Int) (ab.length:Int) z out=some (wrT (out++aa.flatMap td)):=by
 induction n with
 |zero=>intro ab aa out _ h;omega|succ n ih=>
  intro ab aa out e hn ho;have hll:=congrArg List.length e;rw[qM]at hll;rw[qck,qsz]
  cases aa with
  |nil=>
   rw[bu (by simp at hll;omega)]
   unfold qt6;rw[qB,List.flatMap_nil,List.append_nil];unfold wrT;by_cases c:12000<out.length
   ·rw[qX c,ao oA];rfl
   ·rw[qW c,bu];rfl
  |cons v aa=>
   simp only[qL]at hll hn ho;have hv:=hw v (by rw[e];simp)
   have ll:=zav v hv.1;have tl:=ztn v hv;rw[ao oA,show am l (ab.length:Int)=some v by rw[e];exact jc _ _ _,qB,lnF v hv.1,qB]
   have:=zuf (qck FU n) l (l.length:Int) (ab.length:Int) z (p7 v) oA hv.2 FU [] (p7 v) out rfl (Nat.lt_of_le_of_lt ll oE) oA
   rw[show((([]:List Bs).length:Nat):Int)=0 from rfl]at this
   rw[this,cn _]
   have:=ih (ab++[v]) aa (out++td v) (by rw[e];simp) oA oT
   rw[qM,wD]at this;rw[List.flatMap_cons,← qS];exact this
noncomputable def rg:Nat->List cm->Option (Int×Int)|_,[]=>none|i,e::l=>if(ke e).1≠0 then some ((ke e).1,(i:Int)) else rg (i+1) l
noncomputable def wrR(l:List cm):Bs×(Int×Int):=if 20<l.length then([],(2,-1)) else match rg 0 l with|some f=>([],f)|none=>wrT (l.flatMap td)
def zud(l:List cm)(hl:l.length<=20)(hw:∀e∈l,vy e/\((ke e).1=0->EvW e))(z:Int×Int)(n:Nat):∀(ab aa:List cm),l=ab++aa->aa.length<n->(∀e∈ab,(ke e).1=0) ->
  qgs FU n l l (l.length:Int) (ab.length:Int) z=some (match rg ab.length aa with|some f=>([],f)|none=>wrT (l.flatMap td)):=by
 induction n with
 |zero=>intro ab aa _ h;omega|succ n ih=>
  intro ab aa e hn hp;have hll:=congrArg List.length e;rw[qM]at hll;rw[qgs,qsy]
  cases aa with
  |nil=>
   rw[List.append_nil]at e;rw[bu (by simp at hll;omega),rg]
   have:=zue l hl (fun v hv=>(hw v hv).2 (hp v (by rw[← e];exact hv))) z FU [] l [] rfl (Nat.lt_of_le_of_lt hl oE) oD
   exact this
  |cons v aa=>
   simp only[qL]at hll hn;have hv:=hw v (by rw[e];simp)
   rw[ao oA,show am l (ab.length:Int)=some v by rw[e];exact jc _ _ _,qB,zm2 v hv.1,qB,n9,qB,im,rg]
   by_cases c:(ke v).1≠0
   ·rw[qX c,qX c];rfl
   ·rw[qW c,qW c,cn _]
    have:=ih (ab++[v]) aa (by rw[e];simp) oA (fun x hx=>by
     rcases List.mem_append.1 hx with hx|hx
     ·exact hp x hx
     ·rw[List.mem_singleton]at hx;subst hx;exact Classical.not_not.1 c)
    rw[qM,wD]at this;exact this
def zui(l:List cm)(hw:∀e∈l,vy e/\((ke e).1=0->EvW e)):qcj FU l=some (wrR l):=by
 unfold qcj wrR;by_cases c:20<l.length
 ·rw[ao oA,qX c];rfl
 ·rw[bu,qW c]
  exact zud l oA hw (0,0) FU [] l rfl (Nat.lt_of_le_of_lt (show l.length<=20 by omega) oE) oC
end Go.Sym
namespace Go.Sym
open Go.Lib (decDigits itoa validD)
def uh(c:UInt8):Prop:=c.toNat<128/\c≠10/\c≠13
def cz(s:Bs):Prop:=∀c∈s,uh c
instance(c:UInt8):Decidable (uh c):=by unfold uh;infer_instance
instance(s:Bs):Decidable (cz s):=by unfold cz;infer_instance
def gy{a b:Bs}(h:cz a)(k:cz b):cz (a++b):=fun c hc=>by
 rcases List.mem_append.1 hc with hc|hc
 ·exact h c hc
 ·exact k c hc
def qa2{c:UInt8}{b:Bs}(h:uh c)(k:cz b):cz (c::b):=fun d hd=>by
 rcases List.mem_cons.1 hd with rfl|hd
 ·exact h
 ·exact k d hd
def qek{c:UInt8}(h1:32<=c.toNat:=by omega)(h2:c.toNat<=126:=by omega):uh c:=⟨oA,fun e=>(by subst e;simp at h1),fun e=>(by subst e;simp at h1)⟩
def zqk{s:Bs}(h:∀c∈s,qjj c=true):cz s:=fun c hc=>by
 have:=h c hc;unfold qjj at this;rw[Bool.or_eq_true,decide_eq_true_iff,beq_iff_eq]at this;rcases this with h|h
 ·exact qek
 ·subst h;decide
def qa3(n:Int):cz (itoa n):=zqk (zof n)
def zcb{sep:Bs}(hs:cz sep):∀l:List Bs,(∀x∈l,cz x)->cz (Lib.join l sep)
 |[],_=>fun c hc=>by cases hc
 |x::l,h=>by
  rw[Lib.join_cons];refine gy (h x qH) ?_;have:∀l:List Bs,(∀x∈l,cz x)->cz (Lib.joinTail sep l):=by
   intro l
   induction l with
   |nil=>intro _ c hc;cases hc
   |cons y l ih=>
    intro h;have e:Lib.joinTail sep (y::l)=(sep++y)++Lib.joinTail sep l:=by simp[Lib.joinTail]
    rw[e];exact gy (gy hs (h y qH)) (ih fun z hz=>h z (qE _ hz))
  exact this l fun z hz=>h z (qE _ hz)
def qz4(l:List Int):cz (qay l):=zcb oE _ fun x hx=>by
 obtain⟨n,_,rfl⟩:=List.mem_map.1 hx;exact qa3 n
def qel(n:Int)(k:Nat):cz (oh n k):=by
 unfold oh;refine gy (fun c hc => ?_) (qa3 n)
 rw[(List.mem_replicate.1 hc).2];decide
def zqn(d:dk):cz (yt d):=by
 unfold yt;exact gy (gy (gy (gy (gy (gy (qel _ _) (qel _ _)) (qel _ _)) oE) (qel _ _)) (qel _ _)) (qel _ _)
def zqi(i:Nat):cz (xt.getD i []):=by
 match i with
 |0|1|2|3|4=>decide
 |n+5=>simp[xt,cz]
def zqj(i:Nat):cz (yg.getD i []):=by
 match i with
 |0|1|2|3|4=>decide
 |n+5=>simp[yg,cz]
def zqm(i:Nat):cz (vo.getD i []):=by
 match i with
 |0|1|2|3=>decide
 |n+4=>simp[vo,cz]
def zql(r:ij):cz (yn r):=by
 unfold yn;refine zcb oE _ fun x hx => ?_
 simp only[wE,List.not_mem_nil,or_false]at hx;rcases hx with rfl|rfl|rfl|rfl|rfl
 ·exact zqi _
 ·exact qa3 _
 ·exact qa3 _
 ·unfold qbg;split
  ·exact qa3 _
  ·intro c hc;cases hc
 ·exact qz4 _
def zcd{s:Bs}(h:vq s=true):cz s/\1<=s.length/\s.length<=60:=by
 unfold vq at h;simp only[qA,decide_eq_true_iff,List.all_eq_true]at h;refine⟨fun c hc => ?_,h.1.1,h.1.2⟩
 have:=h.2 c hc;unfold uch at this;rw[qA,decide_eq_true_iff,decide_eq_true_iff,UInt8.le_iff_toNat_le,UInt8.le_iff_toNat_le]at this;have h1:33<=c.toNat:=this.1;have h2:c.toNat<=126:=this.2;exact qek
def zk6:∀n:_root_.Fin 256,chB (UInt8.ofNat n.val)=true->uh (UInt8.ofNat n.val):=by decide +kernel
def zcc{s:Bs}(h:m0 s=true):cz s/\s.length<=60:=by
 unfold m0 at h;simp only[qA,decide_eq_true_iff,List.all_eq_true]at h;exact⟨fun c hc=>uy (fun c=>chB c=true->uh c) zk6 c (h.2 c hc),h.1.2⟩
def zme:∀n:_root_.Fin 256,rm (UInt8.ofNat n.val)=true->uh (UInt8.ofNat n.val):=by decide +kernel
def qo3{s:Bs}(h:ui s):cz s/\s.length<=300:=by
 refine⟨?_,by have:=zso h;omega⟩
 obtain⟨l,d,hl,hd,rfl⟩:=h;have pl:cz l:=fun c hc=>by
  unfold sb at hl;simp only[qA,decide_eq_true_iff,List.all_eq_true]at hl;have:=hl.2 c hc;unfold qec at this;rw[qA,decide_eq_true_iff,decide_eq_true_iff,UInt8.le_iff_toNat_le,UInt8.le_iff_toNat_le]at this;have h1:32<=c.toNat:=this.1;have h2:c.toNat<=126:=this.2;exact qek
 have pd:cz d:=fun c hc=>by
  unfold rp at hd;rw[qA]at hd;rcases (qxs hd.2).2 c hc with h|h
  ·exact uy (fun c=>rm c=true->uh c) zme c h
  ·subst h;decide
 have pq:∀w:Bs,cz w->cz (vd w):=by
  intro w
  induction w with
  |nil=>intro _ c hc;cases hc
  |cons x w ih=>
   intro h;have:=ih (fun c hc=>h c (qE _ hc))
   rw[zmy];refine gy ?_ this;cases x==34||x==92
   ·exact qa2 (h x qH) oE
   ·exact qa2 oE (qa2 (h x qH) oE)
 unfold kq;cases io nv true l
 ·exact gy (gy (qa2 oE (gy (pq l pl) oE)) oE) pd
 ·exact gy (gy pl oE) pd
def qp2:∀s:Bs,(∀c∈s,c.toNat<128)->validD s=true
 |[],_=>rfl|c::s,h=>by
  rw[Lib.validD_cons c s (h c qH)];exact qp2 s fun d hd=>h d (qE _ hd)
def qp1{a b:Bs}(h:validD a=true)(k:validD b=true):validD (a++b)=true:=by
 obtain⟨R,hR,rfl⟩:=qp4 a.length a (wF _) h;obtain⟨S,hS,rfl⟩:=qp4 b.length b (wF _) k;rw[← ztm];exact qp0 _ fun c hc=>by
  rcases List.mem_append.1 hc with hc|hc
  ·exact hR c hc
  ·exact hS c hc
def zt1{s:Bs}(h:cz s)(hl:s.length<=20000):VL s:=⟨qp2 s fun c hc=>(h c hc).1,hl⟩
def q8z{c:Nat}(h:128<=c)(hc:qb c):∀x∈fv c,128<=x.toNat:=by
 have hc:c<=1114111:=by rcases hc with h|h<;>omega
 have f:∀n:Nat,128<=n->n<256->128<=(UInt8.ofNat n).toNat:=fun n h1 h2=>by rw[qeg h2];exact h1
 intro x hx;unfold fv at hx;rw[qW oA]at hx
 split at hx
 ·simp only[wE,List.not_mem_nil,or_false]at hx;rcases hx with rfl|rfl<;>exact f _ oA oA
 ·split at hx
  ·simp only[wE,List.not_mem_nil,or_false]at hx;rcases hx with rfl|rfl|rfl<;>exact f _ oA oA
  ·simp only[wE,List.not_mem_nil,or_false]at hx;rcases hx with rfl|rfl|rfl|rfl<;>exact f _ oA oA
def qx0(c:UInt8)(w:Bs):iz (c::w)=(if c=92 then[92,92] else if c=10 then[92,110] else[c])++iz w:=rfl
def zmz(a b:Bs):iz (a++b)=iz a++iz b:=qik _ _ _ _ _ _
def q85:∀w:Bs,(∀x∈w,128<=x.toNat)->iz w=w
 |[],_=>rfl|c::w,h=>by
  have hc:=h c qH;rw[qx0,qW (fun e=>by subst e;simp at hc),qW (fun e=>by subst e;simp at hc),q85 w fun x hx=>h x (qE _ hx)]
  rfl
def q87:∀R:List Nat,okT R->validD (iz (tx R))=true
 |[],_=>rfl|c::R,h=>by
  obtain⟨hc,hR⟩:=zb2 h;rw[qet,zmz];refine qp1 ?_ (q87 R hR);rcases Nat.lt_or_ge c 128 with h|h
  ·have:fv c=[UInt8.ofNat c]:=by unfold fv;rw[qX h]
   rw[this,qx0,show iz []=[] from rfl,List.append_nil]
   split
   ·rfl
   ·split
    ·rfl
    ·exact qp2 _ fun x hx=>by rw[List.mem_singleton]at hx;subst hx;rw[qeg];exact h
  ·rw[q85 _ (q8z h hc)];have:=qp0 [c] (fun d hd=>by rw[List.mem_singleton]at hd;subst hd;exact hc)
   rw[qet,zer,List.append_nil]at this;exact this
def qjy{s:Bs}(h:ff s=0):s.length<=500/\validD s=true/\13∉s:=by
 unfold ff at h;by_cases c1:500<s.length
 ·rw[qX c1]at h;cases h
 rw[qW c1]at h;by_cases c2:validD s=false
 ·rw[qX c2]at h;cases h
 rw[qW c2]at h;by_cases c3:s.contains 13=true
 ·rw[qX c3]at h;cases h
 exact⟨oA,by simpa using c2,by simpa using c3⟩
def zm1{s:Bs}(h:ff s=0):validD (iz s)=true:=by
 obtain⟨_,h2,_⟩:=qjy h;obtain⟨R,hR,rfl⟩:=qp4 s.length s (wF _) h2;exact q87 R hR
def q86:∀s:Bs,13∉s->∀c∈iz s,c≠10/\c≠13
 |[],_,c,hc=>by cases hc
 |x::s,h3,c,hc=>by
  rw[qx0]at hc;rcases List.mem_append.1 hc with hc|hc
  ·split at hc
   ·simp only[wE,List.not_mem_nil,or_false,or_self]at hc;subst hc;decide
   ·split at hc
    ·simp only[wE,List.not_mem_nil,or_false]at hc;rcases hc with rfl|rfl<;>decide
    ·rename_i q1 q2;rw[List.mem_singleton]at hc;subst hc;exact⟨q2,fun e=>h3 (by rw[e];exact qH)⟩
  ·exact q86 s (fun q=>h3 (qE _ q)) c hc
def zm0{s:Bs}(h:ff s=0):∀c∈iz s,c≠10/\c≠13:=q86 s (qjy h).2.2
def LnB(s:Bs):Prop:=VL s/\(∀c∈s,c≠10/\c≠13)/\∃c r,s=c::r/\65<=c.toNat/\c.toNat<=90
def qos{c:UInt8}{s:Bs}(h1:65<=c.toNat)(h2:c.toNat<=90)(h:cz s)(hl:s.length<=19999):LnB (c::s):=
 ⟨zt1 (qa2 (qek) h) (by rw[qL];omega),fun d hd=>(qa2 (qek) h d hd).2,c,s,rfl,h1,h2⟩
def zax{c:UInt8}{p s:Bs}(h1:65<=c.toNat)(h2:c.toNat<=90)(hp:cz p)(hl:p.length<=100)(h:ff s=0):LnB (c::(p++iz s)):=by
 have hc:=qa2 (c:=c) (qek) hp
 have l:=qx1 s;have ls:=(qjy h).1;refine⟨⟨?_,?_⟩,?_,c,_,rfl,h1,h2⟩
 ·rw[← wK];exact qp1 (qp2 _ fun d hd=>(hc d hd).1) (zm1 h)
 ·rw[qL,qM];omega
 ·rw[← wK];intro d hd;rcases List.mem_append.1 hd with hd|hd
  ·exact(hc d hd).2
  ·exact zm0 h d hd
def zq0{r:ij}(h:(mb r).1=0):RcL r/\r.2.2.2.2.2.1.length<=7:=by
 obtain⟨_,k,kx,ka⟩:=zrq r h;have tb:∀x,tc x=true->mh x:=fun x hx=>by
  have:=of_decide_eq_true hx;exact⟨oA,oA⟩
 unfold mb at h;by_cases c1:¬(0<=r.1/\r.1<=4)
 ·rw[qX c1]at h;simp at h
 rw[qW c1]at h;by_cases c2:¬(1<=r.2.1/\r.2.1<=100)
 ·rw[qX c2]at h;simp at h
 rw[qW c2]at h;by_cases c3:¬(0<=r.2.2.1/\r.2.2.1<=1500)
 ·rw[qX c3]at h;simp at h
 rw[qW c3]at h;by_cases c4:r.2.2.2.2.1=true/\¬(-68719476736<=r.2.2.2.1/\r.2.2.2.1<=68719476736)
 ·rw[qX c4]at h;simp at h
 rw[qW c4]at h;by_cases c5:r.2.2.2.2.1=false/\r.2.2.2.1≠0
 ·rw[qX c5]at h;simp at h
 rw[qW c5]at h;by_cases c6:(nh r).1≠0
 ·rw[qX c6]at h;exact absurd h c6
 have c6':=Classical.not_not.1 c6;have hw:∀x∈r.2.2.2.2.2.1,mh x:=by
  unfold nh at c6';by_cases q:0<r.2.2.2.2.2.1.length/\r.1≠2
  ·rw[qX q]at c6';simp at c6'
  ·rw[qW q,qnr]at c6';obtain⟨_,i2,_⟩:=qpn vt _ none c6';intro x hx;have:=of_decide_eq_true (i2 x hx);exact⟨oA,oA⟩
 have e1:=k.e1;have e2:=k.e2;have k1:=k.c1;have k2:=k.c2;have wl:=k.wl;refine⟨⟨⟨k.f1,k.f2⟩,⟨oA,oA⟩,⟨oA,oA⟩,fun q => ?_,oA,hw,k.xl,fun x hx=>tb x (kx x hx),k.al,fun x hx=>tb x (ka x hx)⟩,wl⟩
 have : -68719476736<=r.2.2.2.1/\r.2.2.2.1<=68719476736:=Classical.not_not.1 fun c=>c4 ⟨q,c⟩
 exact⟨oA,oA⟩
def q89{e:cm}(h:zf e):EvB e:=by
 have sq:=h.sq;have le:=h.le;refine⟨(zcd h.uid).2.2,h.me,⟨oA,oA⟩,(qjy h.su).1,(qjy h.pl).1,?_,h.gl,fun x hx => ?_,(zcc h.zn).2,?_,⟨oA,oA⟩,(zq0 h.r).1⟩
 ·rcases h.og with q|q
  ·rw[q];simp
  ·exact(qo3 q).2
 ·obtain⟨g1,g2⟩:=h.g x hx;exact⟨(qo3 g1).2,g2⟩
 ·obtain⟨⟨a1,a2,b1,b2,c1,c2⟩,x1,x2,y1,y2,z1,z2,_⟩:=h.d;have:Cal.dim e.2.2.2.2.2.2.2.2.1.1 e.2.2.2.2.2.2.2.2.1.2.1<=31:=(Cal.dim_bd _ _).2;exact⟨⟨oA,oA⟩,⟨oA,oA⟩,⟨oA,oA⟩,⟨oA,oA⟩,⟨oA,oA⟩,⟨oA,oA⟩⟩
def rz{c:UInt8}{s:Bs}(p:Bs)(h1:65<=c.toNat)(h2:c.toNat<=90)(hp:cz p)(h:cz s)(hl:p.length+s.length<=19999):LnB (c::(p++s)):=
 qos h1 h2 (gy hp h) (by rw[qM];exact hl)
def zaw{e:cm}(h:zf e):∀s∈p7 e,LnB s:=by
 have hb:=q89 h;intro s hs;unfold p7 at hs;have l2:=(rx _ hb.sq.1 hb.sq.2).2;have l3:=(rx _ hb.le.1 hb.le.2).2;have l4:=q0e _ hb.r;have l5:=qef _ hb.r.x;have l6:=qef _ hb.r.a;have x5:=hb.r.xl;have x6:=hb.r.al;have l7:=hb.og;have l8:=hb.zn;have l9:=hb.ul;have l0:=zbe (e.2.1-1).toNat;rcases List.mem_append.1 hs with hs|hs
 ·rcases List.mem_append.1 hs with hs|hs
  ·unfold hdE at hs;simp only[wE,List.not_mem_nil,or_false]at hs;rcases hs with rfl|rfl|rfl|rfl|rfl|rfl|rfl
   ·exact qos oE oE oE oE
   ·exact rz [69,84,72,79,68,58] oE oE oE (zqj _) oI
   ·exact rz [73,68,58] oE oE oE (zcd h.uid).1 oI
   ·exact rz [69,81,85,69,78,67,69,58] oE oE oE (qa3 _) oI
   ·exact zax (p:=[85,77,77,65,82,89,58]) oE oE oE oE h.su
   ·exact zax (p:=[76,65,67,69,58]) oE oE oE oE h.pl
   ·refine rz [82,71,65,78,73,90,69,82,58] oE oE oE ?_ oI
    rcases h.og with q|q
    ·rw[q];intro c hc;cases hc
    ·exact(qo3 q).1
  ·obtain⟨g,hg,rfl⟩:=List.mem_map.1 hs;have hgb:=(hb.g g hg).1;have hl:=zd2 (g.2-1).toNat;have:=qos (c:=71) (s:=(([85,69,83,84,58]++vo.getD (g.2-1).toNat [])++[32])++g.1) oE oE (gy (gy (gy oE (zqm _)) oE) (qo3 (h.g g hg).1).1) oO
   exact this
 ·unfold tlE at hs;simp only[wE,List.not_mem_nil,or_false]at hs;have l6':(yt e.2.2.2.2.2.2.2.2.1).length<=200:=by
   obtain⟨a,b,c,x,y,z⟩:=hb.d;have la:=iu e.2.2.2.2.2.2.2.2.1.1 4 oA a.1 a.2
   have lb:=iu e.2.2.2.2.2.2.2.2.1.2.1 2 oA b.1 b.2
   have lc:=iu e.2.2.2.2.2.2.2.2.1.2.2.1 2 oA c.1 c.2
   have lx:=iu e.2.2.2.2.2.2.2.2.1.2.2.2.1 2 oA x.1 x.2
   have ly:=iu e.2.2.2.2.2.2.2.2.1.2.2.2.2.1 2 oA y.1 y.2
   have lz:=iu e.2.2.2.2.2.2.2.2.1.2.2.2.2.2.1 2 oA z.1 z.2
   unfold yt;simp only[qM,qL,qZ];omega
  rcases hs with rfl|rfl|rfl|rfl|rfl|rfl|rfl
  ·exact rz [79,78,69,58] oE oE oE (zcc h.zn).1 oI
  ·exact rz [84,65,82,84,58] oE oE oE (zqn _) oI
  ·exact rz [69,78,71,84,72,58] oE oE oE (qa3 _) oI
  ·exact rz [69,80,69,65,84,58] oE oE oE (zql _) oI
  ·exact rz [88,67,69,80,84,58] oE oE oE (qz4 _) oI
  ·exact rz [68,68,58] oE oE oE (qz4 _) oI
  ·exact qos oE oE oE oE
def zm4{e:cm}(h:zf e):EvW e:=⟨q89 h,fun s hs=>(zaw h s hs).1⟩
def zuj(l:List cm)(hw:∀e∈l,vy e):qcj FU l=some (wrR l):=
 zui l fun e he=>⟨hw e he,fun h=>zm4 (q9b h)⟩
def q72:∀(i:Nat)(l:List cm),rg i l=none->∀e∈l,zf e
 |_,[],_,e,he=>by cases he
 |i,x::l,h,e,he=>by
  rw[rg]at h;by_cases c:(ke x).1≠0
  ·rw[qX c]at h;cases h
  rw[qW c]at h;rcases List.mem_cons.1 he with rfl|he
  ·exact q9b (Classical.not_not.1 c)
  ·exact q72 _ l h e he
def q73:∀(i:Nat)(l:List cm)(f:Int×Int),rg i l=some f->f.1≠0
 |_,[],f,h=>by cases h
 |i,x::l,f,h=>by
  rw[rg]at h;by_cases c:(ke x).1≠0
  ·rw[qX c]at h;cases h;exact c
  rw[qW c]at h;exact q73 _ l f h
def zug(l:List cm):((wrR l).2.1≠0/\(wrR l).1=[])\/(wrR l=(l.flatMap td,(0,0))/\l.length<=20/\(∀e∈l,zf e)/\(l.flatMap td).length<=12000):=by
 unfold wrR;by_cases c:20<l.length
 ·rw[qX c];exact .inl ⟨oE,rfl⟩
 rw[qW c]
 cases hc:rg 0 l with
 |some f=>exact .inl ⟨q73 0 l f hc,rfl⟩|none=>
  unfold wrT;by_cases c2:12000<(l.flatMap td).length
  ·rw[qX c2];exact .inl ⟨oE,rfl⟩
  ·rw[qW c2];exact .inr ⟨rfl,oA,q72 0 l hc,oA⟩
end Go.Sym
namespace Go.Sym
def bnd{α:Type}{b:Bool}{x y:Option α}{z:α}(h:b=true->x=some z)(g:b=false->y=some z):(bif b then x else y)=some z:=by
 cases b
 ·exact g rfl
 ·exact h rfl
def zo5:qfv=some (([49]:Bs),((2:Int),((0:Int),(([97,10,98]:Bs),(([]:Bs),(([111,64,120]:Bs),(([(([103,64,120]:Bs),(1:Int))]:List (Bs×Int)),(([117]:Bs),(uD,((30:Int),uR)))))))))):=rfl
def zsn:iw [0,86400]=[0,86400]:=by
 unfold iw;exact List.mergeSort_of_pairwise oC
def zpr:qlh FU (([49]:Bs),((2:Int),((0:Int),(([97,10,98]:Bs),(([]:Bs),(([111,64,120]:Bs),(([(([103,64,120]:Bs),(1:Int))]:List (Bs×Int)),(([117]:Bs),(uD,((30:Int),uR)))))))))) uZ 0 100000=some ((0,0),[0,86400]):=by
 have hs:ue [0,86400]=some [0,86400]:=by
  have:ue [0,86400]=some (iw [0,86400]):=rfl;rw[this,zsn]
 have i1:qtp FU uD uR uZ uR []=some (uD,(uR,(uZ,(uR,[0,86400,172800])))):=oB
 have d1:qtx FU [0,86400,172800] 0 100000=some (0,(100000,[0,86400])):=oB
 have h1:qg3 FU uZ uD uR 0 100000 (0,0)=some ((0,0),[0,86400]):=by
  unfold qg3;rw[show qto uZ uD uR=some (uD,(uR,uZ)) from rfl,qB]
  dsimp only;rw[i1,qB];dsimp only;rw[show([0,86400,172800]++uR.2.2.2.2.2.2.2:List Int)=[0,86400,172800] from rfl,d1,ao oE,qB,hs]
  rfl
 have b1:qtj FU uZ uD uR 0 100000=qg3 FU uZ uD uR 0 100000 (0,0):=oB
 unfold qlh;rw[show zq FU (([49]:Bs),((2:Int),((0:Int),(([97,10,98]:Bs),(([]:Bs),(([111,64,120]:Bs),(([(([103,64,120]:Bs),(1:Int))]:List (Bs×Int)),(([117]:Bs),(uD,((30:Int),uR))))))))))=some (0,0) by kernel_rfl]
 rw[qB,n9,qB,ar,ar]
 dsimp only;rw[b1,h1];rfl
def zm5:qkr FU=some true:=by
 unfold qkr;rw[zo5];simp only[qB];rw[show(([117]:List UInt8),((0:Int),((0:Int),(((0:Int),((0:Int),((0:Int),(0:Int)))),((0:Int),((0:Int),((0:Int),(0:Int))))))))=uZ from rfl,zpr]
 simp only[qB]
 kernel_rfl
def rr:Ty := .prod .str (.prod (.int .i64) (.prod (.int .i64) (.prod .str (.prod .str (.prod .str (.prod (.list (.prod .str (.int .i64))) (.prod .str (.prod (.prod (.int .i64) (.prod (.int .i64) (.prod (.int .i64) (.prod (.int .i64) (.prod (.int .i64) (.prod (.int .i64) (.int .i64))))))) (.prod (.int .i64) (.prod (.int .i64) (.prod (.int .i64) (.prod (.int .i64) (.prod (.int .i64) (.prod .bool (.prod (.list (.int .i64)) (.prod (.list (.int .i64)) (.list (.int .i64))))))))))))))))))
def zb4:∀l:List (Ty.den (.int .i64)),(l.map (Ty.bk (.int .i64))).sum=l.length
 |[]=>rfl|x::l=>by
  have:=zb4 l;rw[List.map_cons,List.sum_cons,this,qL];show 1+_=_;omega
def zm3(e:cm)(h:rr.bk e<=1048576:=by omega):vy e:=by
 obtain⟨u,me,sq,su,pl,og,gs,nm,d,le,r1,r2,r3,r4,r5,wd,ex,ad⟩:=e;have h:((u.length+1)+(1+(1+((su.length+1)+((pl.length+1)+((og.length+1)+((Ty.list (.prod .str (.int .i64))).bk gs+((nm.length+1)+((Ty.prod (.int .i64) (.prod (.int .i64) (.prod (.int .i64) (.prod (.int .i64) (.prod (.int .i64) (.prod (.int .i64) (.int .i64))))))).bk d+(1+(1+(1+(1+(1+(1+((((wd:List (Ty.den (.int .i64))).map (Ty.bk (.int .i64))).sum+1)+((Ty.list (.int .i64)).bk ex+(Ty.list (.int .i64)).bk ad)))))))))))))))))<=1048576:=h;rw[zb4 wd]at h;refine⟨?_,?_,?_⟩
 ·show u.length<=2000000;omega
 ·show nm.length<=2000000;omega
 ·show List.length (α:=Ty.den (.int .i64)) wd<=2000000;omega
def q9a:∀(l:List cm),((l:List rr.den).map rr.bk).sum<=1048576->∀e∈l,vy e
 |[],_,e,he=>by cases he
 |x::l,h,e,he=>by
  have h:rr.bk x+((l:List rr.den).map rr.bk).sum<=1048576:=h;rcases List.mem_cons.1 he with rfl|he
  ·exact zm3 _
  ·exact q9a l oA e he
open Go.Lib (validD)
inductive jw:Bs->Prop
 |nil:jw []
 |cons (p s:Bs):10∉p->p.length<=75->validD p=true->jw s->jw (p++(13::10::s))
def qyf(s:Bs)(hs:jw s):∀(cs:List Bs)(ab:Bs),ab.length<=75->10∉ab->validD ab=true->(∀c∈cs,c.length<=4/\10∉c/\validD c=true)->jw (ab++(jb ab.length cs++s))
 |[],ab,h1,h2,h3,_=>by
  rw[jb];exact jw.cons ab s h2 h1 h3 hs
 |c::cs,ab,h1,h2,h3,h=>by
  obtain⟨k1,k2,k3⟩:=h c qH;have hcs:=fun d hd=>h d (qE _ hd)
  rw[jb];split
  ·have:=qyf s hs cs (32::c) (by rw[qL];omega) (by simp;exact k2) (by rw[Lib.validD_cons 32 c oE];exact k3) hcs
   have:=jw.cons ab _ h2 h1 h3 this;rw[qL,Nat.add_comm]at this;simpa using this
  ·have:=qyf s hs cs (ab++c) oT (by simp;exact⟨h2,k2⟩) (qp1 h3 k3) hcs
   rw[qM]at this;simpa using this
def zms{c:Nat}(hc:qb c)(h:c≠10):10∉fv c:=by
 rcases Nat.lt_or_ge c 128 with q|q
 ·unfold fv;rw[qX q];intro hh;rw[List.mem_singleton]at hh;have:=congrArg UInt8.toNat hh;rw[qeg]at this
  exact h this.symm
 ·intro hh;have:=q8z q hc 10 hh;simp at this
def zes:∀R:List Nat,10∉tx R->∀c∈R,c≠10
 |[],_,c,hc=>by cases hc
 |x::R,h,c,hc=>by
  rw[qet]at h;rcases List.mem_cons.1 hc with rfl|hc
  ·rintro rfl;exact h (List.mem_append_left _ oE)
  ·exact zes R (fun q=>h (List.mem_append_right _ q)) c hc
def zmc{t s:Bs}(ht:LnB t)(hs:jw s):jw (po t++s):=by
 obtain⟨h,hn,_⟩:=ht;obtain⟨R,hR,rfl⟩:=zez h;have hl:=h.2;have h10:=zes R (fun q=>(hn 10 q).1 rfl)
 unfold po;rw[q8p R hR,Option.getD_some]
 have:=qyf s hs (R.map fv) [] oC oC rfl (fun c hc=>by
  obtain⟨k,hk,rfl⟩:=List.mem_map.1 hc;have hv:=qp0 [k] (fun d hd=>by rw[List.mem_singleton]at hd;subst hd;exact hR _ hk)
  rw[qet,zer,List.append_nil]at hv;exact⟨(q0b (q0a (hR k hk))).2,zms (hR k hk) (h10 k hk),hv⟩)
 exact this
def q8q:∀(l:List Bs)(s:Bs),(∀t∈l,LnB t)->jw s->jw (l.flatMap po++s)
 |[],s,_,h=>h|t::l,s,h,hs=>by
  rw[List.flatMap_cons,qS];exact zmc (h t qH) (q8q l s (fun x hx=>h x (qE _ hx)) hs)
def q9c:∀(l:List cm),(∀e∈l,zf e)->jw (l.flatMap td)
 |[],_=>jw.nil|e::l,h=>by
  rw[List.flatMap_cons];exact q8q _ _ (zaw (h e qH)) (q9c l fun x hx=>h x (qE _ hx))
def InL(q aa:Bs):Prop:=(q=[]/\aa=[])\/∃p r w,aa=p++(10::r)/\10∉p/\q++p=w++[13]/\w.length<=75/\validD w=true/\jw r
def q97{s:Bs}(h:jw s):InL [] s:=by
 cases h with|nil=>exact .inl ⟨rfl,rfl⟩|cons p s h1 h2 h3 h4=>exact .inr ⟨p++[13],s,p,oC,by simp;exact h1,rfl,h2,h3,h4⟩
def zou(t:Bs)(ht:t.length<=12000)(n:Nat):∀(ab q aa:Bs),t=ab++(q++aa)->InL q aa->aa.length<n->qfu FU n t (ab.length:Int) ((ab.length+q.length:Nat):Int)=some true:=by
 induction n with
 |zero=>intro ab q aa _ _ h;omega|succ n ih=>
  intro ab q aa e h hn;have hl:=congrArg List.length e;simp only[qM]at hl;rw[qfu,qq7];rcases h with⟨rfl,rfl⟩|⟨p,r,w,rfl,hp,hw,w75,wv,hr⟩
  ·simp only[qZ,Nat.add_zero]at hl ⊢;rw[bu,hl];simp
  ·have hd:am t ((ab.length+q.length:Nat):Int)=(p++(10::r)).head? := by
    have:t=(ab++q)++(p++(10::r)):=by rw[e];simp
    rw[this,← qM]
    cases p with|nil=>exact jc _ _ _|cons x p=>exact jc _ _ _
   have hsl:0<(p++(10::r)).length:=by rw[qM,qL];omega
   rw[ao oA,hd]
   cases p with
   |cons x p=>
    rw[wK,List.head?_cons,qB];have hx:x≠10:=fun k=>hp (by rw[k];exact qH)
    rw[bi (by simp[bne,hx]),cn _]
    have:=ih ab (q++[x]) (p++(10::r)) (by rw[e];simp) (.inr ⟨p,r,w,rfl,fun k=>hp (qE _ k),by rw[← hw];simp,w75,wv,hr⟩) (by simp at hn ⊢;omega)
    rw[qM,wD,← Nat.add_assoc]at this;exact this
   |nil=>
    rw[List.append_nil]at hw;subst hw;simp only[List.nil_append,qM,qL,qZ]at hl hn ⊢;rw[List.head?_cons,qB,ar,qah,qW oA]
    have e13:am t (af (((ab.length+(w.length+(0+1)):Nat):Int)-1))=some 13:=by
     rw[bn,show((ab.length+(w.length+(0+1)):Nat):Int)-1=((ab++w).length:Int) by rw[qM];omega]
     rw[show t=(ab++w)++(13::10::r) by rw[e];simp]
     exact jc _ _ _
    rw[e13,qB,ar,bn (x:=((ab.length+(w.length+(0+1)):Nat):Int)-(ab.length:Int)) oA oA,bu,ao ⟨oA,oA,oA⟩]
    rw[show List.take (((ab.length+(w.length+(0+1)):Nat):Int).toNat-(ab.length:Int).toNat) (List.drop (ab.length:Int).toNat t)=w++[13] by
     rw[e,show(ab.length:Int).toNat=ab.length by omega,List.drop_left,show((ab.length+(w.length+(0+1)):Nat):Int).toNat-ab.length=(w++[13]).length by simp;omega,List.take_left]]
    rw[zr8 FU oE _ (Nat.lt_of_le_of_lt (show(w++[13]).length<=76 by simp;omega) oE) oD,qB,qp1 wv rfl,ar,cn _]
    have:=ih (ab++(w++[13,10])) [] r (by rw[e];simp) (q97 hr) oA
    simp only[qM,qL,qZ,Nat.add_zero]at this;exact this
def zol(l:List cm)(hw:∀e∈l,vy e):qbr FU l=some true:=by
 unfold qbr;rw[zm5,qB,ar,zuj l hw,qB]
 rcases zug l with⟨h1,h2⟩|⟨h1,h2,h3,h4⟩
 ·rw[im,qX h1,h2];rfl
 ·rw[h1,im,qW oC]
  exact zou _ h4 FU [] [] _ rfl (q97 (q9c l h3)) (Nat.lt_of_le_of_lt h4 oE)
def zkn(x:List cm×Unit)(h:bks [.list rr] x<=1048576):∀e∈x.1,vy e:=by
 obtain⟨l,_⟩:=x;have h:(((l:List rr.den).map rr.bk).sum+1)+0<=1048576:=h;exact q9a l oA
def zom(x:List cm×Unit)(h:bks [.list rr] x<=1048576):qbr 100000000 x.1=some true:=
 zol x.1 (zkn x h)
end Go.Sym
