/- What the claim rests on, part 6: gathered texts. -/
import Derived.Sort.AssemblyPlain
import Derived.WalkKit
import Derived.ProofKit
import Derived.OpenShut
import Derived.ShutString
import Derived.ChangeOld
import Derived.Carry
import Derived.Test.YtiidadfafmcdmaaGreatDoorSyB5
namespace Go.Sym
def tk (c:UInt8):Bool:=decide (33<=c)&&decide (c<=126) && !([40,41,60,62,64,44,59,58,92,34,47,91,93,63,61,42,37,39]:Bs).contains c
theorem z3c:∀ n:_root_.Fin 256,qba (UInt8.ofNat n.val)=some (tk (UInt8.ofNat n.val)):=by decide +kernel
theorem zga (c:UInt8):qba c=some (tk c):=qpo (fun c=>qba c=some (tk c)) z3c c
theorem zn5 (fu n:Nat) (c:UInt8):∀ (vbt vbs:Bs),vbs.length<n->vbt.length+vbs.length<1000000000 ->
  qkz fu n c (vbt++vbs) (vbt.length:Int)=some (vbs.contains c):=by
 induction n with
 | zero=>intro vbt vbs h;exact absurd h (by omega)
 | succ n ih=>
  intro vbt vbs h hb;rw[qkz,qrd]
  cases vbs with
  | nil=>rw[qac (by simp)];rfl
  | cons d vbs=>
   simp only[qL]at h hb;rw[qbf,qaa (by omega),qan,qB,qai _ (by omega),qnq,List.contains_cons]
   have:=ih (vbt++[d]) vbs (by omega) (by simp;omega)
   simp only[qM,qL,qZ,qS,wM]at this;by_cases e:d=c
   ·rw[qX e];simp[e]
   ·rw[qW e,this];have:(c==d)=false:=by simp;exact fun h=>e h.symm
    rw[this,Bool.false_or]
theorem zdj (fu:Nat) (c:UInt8) (l:Bs) (h:l.length<fu) (hb:l.length<1000000000):qmj fu c l=some (l.contains c):=by
 have:=zn5 fu fu c [] l h (by simpa using hb)
 simpa [qmj] using this
theorem zg7 (fu:Nat) (hfu:100<=fu) (c:UInt8):qje fu c=some (tk c):=by
 unfold qje;rw[qjz,qB,zdj fu c _ (by simp;omega) (by simp),qB]
 unfold tk;have h1:(33<=(c.toNat:Int)/\(c.toNat:Int)<=126)↔(33<=c/\c<=126):=by
  rw[UInt8.le_iff_toNat_le,UInt8.le_iff_toNat_le];show _↔(33<=c.toNat/\c.toNat<=126);omega
 by_cases h2:33<=c/\c<=126
 ·rw[decide_eq_true (h1.2 h2),qau rfl,decide_eq_true h2.1,decide_eq_true h2.2];rfl
 ·rw[decide_eq_false (fun h=>h2 (h1.1 h)),qax rfl]
  by_cases h3:33<=c
  ·have h4:¬ c<=126:=fun h=>h2 ⟨h3,h⟩
   rw[decide_eq_false h4];simp
  ·rw[decide_eq_false h3];simp
def allG (P:UInt8->Option Bool):Nat->Bs->Int->Int->Option Bool
 | 0,_,_,_=>none
 | n+1,s0,s7,s8=>bif decide (s8<s7) then (idx s0 s8).bind fun c1=>(P c1).bind fun x2=>bif !x2 then some false else allG P n s0 s7 (w64 (s8+(1:Int))) else some true
theorem zsb (P:UInt8->Option Bool) (p:UInt8->Bool) (hP:∀ c,P c=some (p c)) (n:Nat):∀ (vbt vbs:Bs),vbs.length<n->vbt.length+vbs.length<9223372036854775807 ->
  allG P n (vbt++vbs) ((vbt.length+vbs.length:Nat):Int) (vbt.length:Int)=some (vbs.all p):=by
 induction n with
 | zero=>intro vbt vbs h;exact absurd h (by omega)
 | succ n ih=>
  intro vbt vbs h hb;rw[allG]
  cases vbs with
  | nil=>rw[qac (by simp)];rfl
  | cons d vbs=>
   simp only[qL]at h hb ⊢;rw[qaa (by omega),qan,qB,hP,qB,qai _ (by omega),List.all_cons]
   have:=ih (vbt++[d]) vbs (by omega) (by simp;omega)
   simp only[qM,qL,qZ,qS,wM]at this;cases p d
   ·rfl
   ·rw[qax (by rfl),Bool.true_and,show ((vbt.length+(vbs.length+1):Nat):Int)=((vbt.length+1+vbs.length:Nat):Int) by omega]
    exact this
theorem zal (P:UInt8->Option Bool) (p:UInt8->Bool) (hP:∀ c,P c=some (p c)) (n:Nat) (s:Bs) (h:s.length<n) (hb:s.length<9223372036854775807):allG P n s (s.length:Int) 0=some (s.all p):=by
 have:=zsb P p hP n [] s h (by simpa using hb)
 simpa using this
theorem zpr (fu:Nat) (s:Bs) (h:s.length<fu) (hb:s.length<9223372036854775807):qpe fu s=some (s.all tk):=by
 have e:∀ n,qhw fu n=allG qba n:=by
  intro n;induction n with
  | zero=>rfl
  | succ n ih=>rw[qhw,ih];funext a b c;rfl
 unfold qpe;rw[e];exact zal _ _ zga _ _ h hb
def tokS (s:Bs):Bool := !s.isEmpty&&decide (s.length<=60)&&s.all tk
theorem q1n (fu:Nat) (s:Bs) (h:s.length<fu) (hb:s.length<9223372036854775807):qim fu s=some (tokS s):=by
 unfold qim tokS;rw[zpr fu s h hb]
 cases s with
 | nil=>rfl
 | cons c s=>
  rw[qau (by rfl)]
  by_cases h1:(c::s).length<=60
  ·rw[qaa (by omega),decide_eq_true h1];simp
  ·rw[qac (by omega),decide_eq_false h1];simp
theorem zgq (fu n:Nat) (hfu:100<=fu):∀ (vbt vbs:Bs),vbs.length<n->vbt.length+vbs.length<1000000000 ->
  qid fu n (vbt++vbs) (vbt.length:Int)=some (vbs.all tk&&decide (1<=vbt.length+vbs.length/\vbt.length+vbs.length<=60)):=by
 induction n with
 | zero=>intro vbt vbs h;exact absurd h (by omega)
 | succ n ih=>
  intro vbt vbs h hb;rw[qid,qou]
  cases vbs with
  | nil=>
   rw[qac (by simp),qjz,qB]
   simp only[List.append_nil,List.all_nil,Bool.true_and,qZ,Nat.add_zero];congr 1;apply decide_eq_decide.2;omega
  | cons d vbs=>
   simp only[qL]at h hb;rw[qbf,qaa (by omega),qan,qB,zg7 fu hfu,qB,qai _ (by omega),List.all_cons]
   have:=ih (vbt++[d]) vbs (by omega) (by simp;omega)
   simp only[qM,qL,qZ,qS,wM]at this;cases tk d
   ·rfl
   ·rw[qax (by rfl),Bool.true_and]
    refine this.trans ?_;simp only[qL];congr 2;apply decide_eq_decide.2;omega
theorem qyk (fu:Nat) (hfu:100<=fu) (s:Bs) (h:s.length<fu) (hb:s.length<1000000000):qgx fu s=some (tokS s):=by
 have:=zgq fu fu hfu [] s h (by simpa using hb)
 simp only[List.nil_append,qZ,wO]at this;unfold qgx;refine this.trans ?_;unfold tokS
 cases s with
 | nil=>rfl
 | cons c s=>
  congr 1;rw[Bool.and_comm];congr 1;show decide _=(true&&decide _);rw[Bool.true_and];apply decide_eq_decide.2;simp only[qL];omega
end Go.Sym
namespace Go.Sym
open Go.Lib (decodeL decodeN decodeL_N validD validD_step decodeL_le decodeL_width)
def rn (l:Bs):Int×Int:=if (decodeL l).1=65533/\(decodeL l).2=1 then (-1,1) else (((decodeL l).1:Nat),((decodeL l).2:Nat))
theorem w64n (a b:Nat) (h:a+b<9223372036854775808):w64 ((a:Int)+(b:Int))=((a+b:Nat):Int):=by rw[qgo (by omega) (by omega)];omega
theorem zra {α:Type} (vbt l:List α) (k:Nat) (h:k<l.length):idx (vbt++l) ((vbt.length+k:Nat):Int)=some l[k]:=by
 rw[qv8 _ _ (by simp;omega)];simp
theorem zmx (vbt l:Bs) (k:Nat) (h:k<l.length):idx (vbt++l) ((vbt.length+k:Nat):Int)=some (l.getD k 0):=by
 rw[zra vbt l k h];simp[List.getD,h]
theorem qzy (fu n:Nat) (vbt l:Bs) (size v least k:Nat) (hk:k<size) (hl:k<l.length) (hv:v<10000000) (hb:vbt.length+l.length<1000000000) (hs:size<=4) :
  qgh fu (n+1) (vbt++l) (vbt.length:Int) (size:Int) (v:Int) (least:Int) (k:Int) =
   if 128<=(l.getD k 0).toNat/\(l.getD k 0).toNat<=191 then qgh fu n (vbt++l) (vbt.length:Int) (size:Int) ((64*v+(l.getD k 0).toNat-128:Nat):Int) (least:Int) ((k+1:Nat):Int) else some (-1,1):=by
 have hc:(l.getD k 0).toNat<256:=(l.getD k 0).toNat_lt;rw[qgh,qs7,qaa (by omega),w64n _ _ (by omega),zmx vbt l k hl,qB,qjz,qB,qai k (by omega)]
 generalize (l.getD k 0).toNat=x at hc;by_cases h:128<=x/\x<=191
 ·rw[qX h,decide_eq_true (by omega),qb0,show (64:Int)*(v:Int)=((64*v:Nat):Int) by omega,qgo (x:=((64*v:Nat):Int)) (by omega) (by omega),qgo (x:=((64*v:Nat):Int)+(x:Int)) (by omega) (by omega),qgo (by omega) (by omega)]
  congr 1;omega
 ·rw[qW h,decide_eq_false (by omega),qek]
theorem zg3 (fu n:Nat) (s:Bs) (i:Int) (size v least:Nat) :
  qgh fu (n+1) s i (size:Int) (v:Int) (least:Int) (size:Int)=if v<least\/1114111<v\/(55296<=v/\v<=57343) then some (-1,1) else some ((v:Int),(size:Int)):=by
 rw[qgh,qs7,qac (by omega)]
 by_cases h1:v<least
 ·rw[qaa (by omega),qX (.inl h1)]
 rw[qac (by omega)]
 by_cases h2:1114111<v
 ·rw[qaa (by omega),qX (.inr (.inl h2))]
 rw[qac (by omega),qjz,qB]
 by_cases h3:55296<=v/\v<=57343
 ·rw[qaa (by omega),qX (.inr (.inr h3))]
 ·rw[qac (by omega),qW (by omega)]
theorem q6i (fu:Nat) (vbt l:Bs) (size v least:Nat) (h:l.length<size) (hs:size<=4) (hb:vbt.length+l.length<1000000000):qf2 fu (vbt++l) (vbt.length:Int) (size:Int) (v:Int) (least:Int)=some (-1,1):=by
 rw[qf2,qnu,qW (by omega),w64n _ _ (by omega),qpz,qaa (by rw[q29];omega)]
theorem zao (fu:Nat) (vbt l:Bs) (size v least:Nat) (h:¬ l.length<size) (h0:size≠0) (hs:size<=4) (hb:vbt.length+l.length<1000000000):qf2 fu (vbt++l) (vbt.length:Int) (size:Int) (v:Int) (least:Int)=qgh fu fu (vbt++l) (vbt.length:Int) (size:Int) (v:Int) (least:Int) ((1:Nat):Int):=by
 rw[qf2,qnu,qW (by omega),w64n _ _ (by omega),qpz,qac (by rw[q29];omega)];rfl
def finR (x:Nat×Nat):Int×Int:=if x.1=65533/\x.2=1 then (-1,1) else ((x.1:Nat),(x.2:Nat))
theorem qwv:finR (65533,1)=(-1,1):=rfl
theorem zau (x k:Nat) (h:k≠1):finR (x,k)=((x:Int),(k:Int)):=qW (fun q=>h q.2)
def q1e (n b0 b1 b2 b3:Nat):Int×Int:=finR (decodeN n b0 b1 b2 b3)
theorem zr5 (n b0 b1 b2 b3:Nat) (h:b0<128):q1e n b0 b1 b2 b3=((b0:Int),1):=by
 unfold q1e decodeN;rw[qX h];unfold finR;rw[qW (fun q=>by have:=q.1;simp only at this;omega)];rfl
theorem zqt (n b0 b1 b2 b3:Nat) (h:192<=b0/\b0<=223) (h1:b1<256):q1e n b0 b1 b2 b3=if n<2 then (-1,1) else if 128<=b1/\b1<=191 then (if (64*(b0-192)+b1-128)<128\/1114111<(64*(b0-192)+b1-128)\/(55296<=(64*(b0-192)+b1-128)/\(64*(b0-192)+b1-128)<=57343) then (-1,1) else (((64*(b0-192)+b1-128:Nat):Int),2)) else (-1,1):=by
 unfold q1e decodeN;rw[qW (c:=b0<128) (by omega)]
 by_cases a1:b0/32=6/\(1<n/\b1/64=2)
 ·rw[qX a1,qW (c:=n<2) (by omega),qX (c:=128<=b1/\b1<=191) (by omega)]
  obtain⟨z,hz⟩:∃ z,b0%32*64+b1%64=z:=⟨_,rfl⟩;obtain⟨y,hy⟩:∃ y,64*(b0-192)+b1-128=y:=⟨_,rfl⟩;have hzy:z=y:=by omega
  have hm:y<2048:=by omega
  rw[hz,hy,hzy];by_cases a2:y ≥ 128
  ·rw[qX a2,zau _ _ (by decide),qW (by omega)];rfl
  ·rw[qW a2,qwv,qX (by omega)]
 ·rw[qW a1,qW (c:=b0/16=14/\_) (by omega),qW (c:=b0/8=30/\_) (by omega),qwv]
  by_cases a3:n<2
  ·rw[qX a3]
  ·rw[qW a3,qW (by omega)]
theorem zp7 (n b0 b1 b2 b3:Nat) (h:224<=b0/\b0<=239) (h1:b1<256) (h2:b2<256):q1e n b0 b1 b2 b3=if n<3 then (-1,1) else if 128<=b1/\b1<=191 then (if 128<=b2/\b2<=191 then (if (64*(64*(b0-224)+b1-128)+b2-128)<2048\/1114111<(64*(64*(b0-224)+b1-128)+b2-128)\/(55296<=(64*(64*(b0-224)+b1-128)+b2-128)/\(64*(64*(b0-224)+b1-128)+b2-128)<=57343) then (-1,1) else (((64*(64*(b0-224)+b1-128)+b2-128:Nat):Int),3)) else (-1,1)) else (-1,1):=by
 unfold q1e decodeN;rw[qW (c:=b0<128) (by omega),qW (c:=b0/32=6/\_) (by omega)]
 by_cases a1:b0/16=14/\(1<n/\b1/64=2)/\(2<n/\b2/64=2)
 ·rw[qX a1,qW (c:=n<3) (by omega),qX (c:=128<=b1/\b1<=191) (by omega),qX (c:=128<=b2/\b2<=191) (by omega)]
  obtain⟨z,hz⟩:∃ z,b0%16*4096+b1%64*64+b2%64=z:=⟨_,rfl⟩;obtain⟨y,hy⟩:∃ y,64*(64*(b0-224)+b1-128)+b2-128=y:=⟨_,rfl⟩;have hzy:z=y:=by omega
  have hm:y<65536:=by omega
  rw[hz,hy,hzy];by_cases a2:y ≥ 2048/\(y<55296\/(57344<=y/\y<=1114111))
  ·rw[qX a2,zau _ _ (by decide),qW (by omega)];rfl
  ·rw[qW a2,qwv,qX (by omega)]
 ·rw[qW a1,qW (c:=b0/8=30/\_) (by omega),qwv]
  by_cases a3:n<3
  ·rw[qX a3]
  ·rw[qW a3];by_cases a4:128<=b1/\b1<=191
   ·rw[qX a4,qW (by omega)]
   ·rw[qW a4]
theorem zpc (n b0 b1 b2 b3:Nat) (h:240<=b0/\b0<=247) (h1:b1<256) (h2:b2<256) (h3:b3<256):q1e n b0 b1 b2 b3=if n<4 then (-1,1) else if 128<=b1/\b1<=191 then (if 128<=b2/\b2<=191 then (if 128<=b3/\b3<=191 then (if (64*(64*(64*(b0-240)+b1-128)+b2-128)+b3-128)<65536\/1114111<(64*(64*(64*(b0-240)+b1-128)+b2-128)+b3-128)\/(55296<=(64*(64*(64*(b0-240)+b1-128)+b2-128)+b3-128)/\(64*(64*(64*(b0-240)+b1-128)+b2-128)+b3-128)<=57343) then (-1,1) else (((64*(64*(64*(b0-240)+b1-128)+b2-128)+b3-128:Nat):Int),4)) else (-1,1)) else (-1,1)) else (-1,1):=by
 unfold q1e decodeN;rw[qW (c:=b0<128) (by omega),qW (c:=b0/32=6/\_) (by omega),qW (c:=b0/16=14/\_) (by omega)]
 by_cases a1:b0/8=30/\(1<n/\b1/64=2)/\(2<n/\b2/64=2)/\(3<n/\b3/64=2)
 ·rw[qX a1,qW (c:=n<4) (by omega),qX (c:=128<=b1/\b1<=191) (by omega),qX (c:=128<=b2/\b2<=191) (by omega),qX (c:=128<=b3/\b3<=191) (by omega)]
  obtain⟨z,hz⟩:∃ z,b0%8*262144+b1%64*4096+b2%64*64+b3%64=z:=⟨_,rfl⟩;obtain⟨y,hy⟩:∃ y,64*(64*(64*(b0-240)+b1-128)+b2-128)+b3-128=y:=⟨_,rfl⟩;have hzy:z=y:=by omega
  rw[hz,hy,hzy];by_cases a2:y ≥ 65536/\(y<55296\/(57344<=y/\y<=1114111))
  ·rw[qX a2,zau _ _ (by decide),qW (by omega)];rfl
  ·rw[qW a2,qwv,qX (by omega)]
 ·rw[qW a1,qwv];by_cases a3:n<4
  ·rw[qX a3]
  ·rw[qW a3];by_cases a4:128<=b1/\b1<=191
   ·rw[qX a4];by_cases a5:128<=b2/\b2<=191
    ·rw[qX a5,qW (by omega)]
    ·rw[qW a5]
   ·rw[qW a4]
theorem zpq (n b0 b1 b2 b3:Nat) (h:(128<=b0/\b0<192)\/248<=b0) (hb:b0<256):q1e n b0 b1 b2 b3=(-1,1):=by
 unfold q1e decodeN;rw[qW (c:=b0<128) (by omega),qW (c:=b0/32=6/\_) (by omega),qW (c:=b0/16=14/\_) (by omega),qW (c:=b0/8=30/\_) (by omega)];rfl
theorem rn_N (l:Bs):rn l=q1e l.length (l.getD 0 0).toNat (l.getD 1 0).toNat (l.getD 2 0).toNat (l.getD 3 0).toNat:=by unfold rn q1e finR;rw[decodeL_N]
theorem zfm (fu:Nat) (hfu:10<=fu) (vbt:Bs) (c:UInt8) (t:Bs) (hb:vbt.length+t.length<100000000):qv2 fu (vbt++c::t) (vbt.length:Int)=some (rn (c::t)):=by
 have hl:(c::t).length=t.length+1:=rfl;obtain⟨n,rfl⟩:∃ n,fu=n+10:=⟨fu-10,by omega⟩
 rw[rn_N,show (c::t).getD 0 0=c from rfl]
 generalize hl2:c::t=l at *;have b1:=(l.getD 1 0).toNat_lt;have b2:=(l.getD 2 0).toNat_lt;have b3:=(l.getD 3 0).toNat_lt;have hc:=c.toNat_lt;unfold qv2;rw[show idx (vbt++l) (vbt.length:Int)=some c by rw[← hl2];exact qan vbt c t,qB]
 by_cases h0:c.toNat<128
 ·rw[qaa (by omega),zr5 _ _ _ _ _ h0]
 rw[qac (by omega),qjz,qB]
 by_cases h2:192<=c.toNat/\c.toNat<=223
 ·rw[qaa (by omega),zqt _ _ _ _ _ h2 b1,qgo (by omega) (by omega),show (c.toNat:Int)-192=((c.toNat-192:Nat):Int) by omega]
  by_cases g:l.length<2
  ·rw[qX g];exact q6i (n+10) vbt l 2 _ 128 g (by omega) (by omega)
  ·rw[qW g];refine (zao (n+10) vbt l 2 _ 128 g (by omega) (by omega) (by omega)).trans ?_
   rw[qzy (n+10) (n+9) vbt l 2 _ 128 1 (by omega) (by omega) (by omega) (by omega) (by omega)]
   by_cases g1:128<=(l.getD 1 0).toNat/\(l.getD 1 0).toNat<=191
   ·rw[qX g1,qX g1];refine (zg3 (n+10) (n+8) _ _ 2 _ 128).trans ?_;rw[q6m];rfl
   ·rw[qW g1,qW g1]
 rw[qac (by omega),qjz,qB]
 by_cases h3:224<=c.toNat/\c.toNat<=239
 ·rw[qaa (by omega),zp7 _ _ _ _ _ h3 b1 b2,qgo (by omega) (by omega),show (c.toNat:Int)-224=((c.toNat-224:Nat):Int) by omega]
  by_cases g:l.length<3
  ·rw[qX g];exact q6i (n+10) vbt l 3 _ 2048 g (by omega) (by omega)
  ·rw[qW g];refine (zao (n+10) vbt l 3 _ 2048 g (by omega) (by omega) (by omega)).trans ?_
   rw[qzy (n+10) (n+9) vbt l 3 _ 2048 1 (by omega) (by omega) (by omega) (by omega) (by omega)]
   by_cases g1:128<=(l.getD 1 0).toNat/\(l.getD 1 0).toNat<=191
   ·rw[qX g1,qX g1,qzy (n+10) (n+8) vbt l 3 _ 2048 2 (by omega) (by omega) (by omega) (by omega) (by omega)]
    by_cases g2:128<=(l.getD 2 0).toNat/\(l.getD 2 0).toNat<=191
    ·rw[qX g2,qX g2];refine (zg3 (n+10) (n+7) _ _ 3 _ 2048).trans ?_;rw[q6m];rfl
    ·rw[qW g2,qW g2]
   ·rw[qW g1,qW g1]
 rw[qac (by omega),qjz,qB]
 by_cases h4:240<=c.toNat/\c.toNat<=247
 ·rw[qaa (by omega),zpc _ _ _ _ _ h4 b1 b2 b3,qgo (by omega) (by omega),show (c.toNat:Int)-240=((c.toNat-240:Nat):Int) by omega]
  by_cases g:l.length<4
  ·rw[qX g];exact q6i (n+10) vbt l 4 _ 65536 g (by omega) (by omega)
  ·rw[qW g];refine (zao (n+10) vbt l 4 _ 65536 g (by omega) (by omega) (by omega)).trans ?_
   rw[qzy (n+10) (n+9) vbt l 4 _ 65536 1 (by omega) (by omega) (by omega) (by omega) (by omega)]
   by_cases g1:128<=(l.getD 1 0).toNat/\(l.getD 1 0).toNat<=191
   ·rw[qX g1,qX g1,qzy (n+10) (n+8) vbt l 4 _ 65536 2 (by omega) (by omega) (by omega) (by omega) (by omega)]
    by_cases g2:128<=(l.getD 2 0).toNat/\(l.getD 2 0).toNat<=191
    ·rw[qX g2,qX g2,qzy (n+10) (n+7) vbt l 4 _ 65536 3 (by omega) (by omega) (by omega) (by omega) (by omega)]
     by_cases g3:128<=(l.getD 3 0).toNat/\(l.getD 3 0).toNat<=191
     ·rw[qX g3,qX g3];refine (zg3 (n+10) (n+6) _ _ 4 _ 65536).trans ?_;rw[q6m];rfl
     ·rw[qW g3,qW g3]
    ·rw[qW g2,qW g2]
   ·rw[qW g1,qW g1]
 rw[qac (by omega),zpq _ _ _ _ _ (by omega) hc]
 rfl
theorem zdf (l:Bs):(rn l).1<0↔((decodeL l).1=65533/\(decodeL l).2=1):=by
 unfold rn;split
 ·rename_i h;exact⟨fun _=>h,fun _=>by decide⟩
 ·rename_i h;exact⟨fun q=>absurd q (by simp only;omega),fun q=>absurd q h⟩
theorem zfz (l:Bs):(rn l).2=((decodeL l).2:Int):=by
 unfold rn;split
 ·rename_i h;rw[h.2];rfl
 ·rfl
theorem zn9 (fu n:Nat) (hfu:10<=fu):∀ (vbt vbs:Bs),vbs.length<n->vbt.length+vbs.length<100000000->qm6 fu n (vbt++vbs) (vbt.length:Int)=some (validD vbs):=by
 induction n with
 | zero=>intro vbt vbs h;exact absurd h (by omega)
 | succ n ih=>
  intro vbt vbs h hb;rw[qm6,qu4]
  cases vbs with
  | nil=>rw[qac (by simp)];rfl
  | cons c t=>
   have hw:=decodeL_width (c::t);have hle:=decodeL_le (c::t) (by simp)
   simp only[qL]at h hb;rw[qaa (by rw[qbf];omega),zfm fu hfu vbt c t (by omega),qB,validD_step (c::t) (by simp)]
   by_cases hbad:(decodeL (c::t)).1=65533/\(decodeL (c::t)).2=1
   ·rw[qaa ((zdf _).2 hbad),qX hbad]
   ·rw[qac (fun q=>hbad ((zdf _).1 q)),qW hbad,zfz,w64n _ _ (by simp only[qL]at hle;omega)]
    have:=ih (vbt++(c::t).take (decodeL (c::t)).2) ((c::t).drop (decodeL (c::t)).2) (by rw[List.length_drop];simp only[qL];omega) (by rw[qM,List.length_take,List.length_drop];simp only[qL]at hle ⊢;omega)
    rw[qS,List.take_append_drop,qM,List.length_take,Nat.min_eq_left hle]at this;exact this
theorem zfr (fu:Nat) (hfu:10<=fu) (s:Bs) (h:s.length<fu) (hb:s.length<100000000):qtr fu s=some (validD s):=by
 have:=zn9 fu fu hfu [] s h (by simpa using hb)
 simpa [qtr] using this
theorem zn3:q28 (-1)=some [239,191,189]:=by rfl
theorem z3h (n:Nat):∀ (b:Bool) (l:Bs),(vu [239,191,189] n b l).length<=3*l.length:=by
 induction n with
 | zero=>intro b l;simp[vu]
 | succ n ih=>
  intro b l
  cases l with
  | nil=>simp[vu]
  | cons c t=>
   rw[vu];split
   ·have:=ih true t;rw[qM];simp only[qL];cases b<;>simp<;>omega
   ·have:=ih false ((c::t).drop (decodeL (c::t)).2);have hle:=decodeL_le (c::t) (by simp)
    rw[qM,List.length_take];rw[List.length_drop]at this;omega
theorem qz0 (rep:Bs):∀ (n:Nat) (b:Bool) (l:Bs),l.length<=n->vu rep n b l=vu rep l.length b l:=by
 intro n
 induction n using Nat.strongRecOn with
 | ind n ih=>
  intro b l h
  cases l with
  | nil=>cases n<;>rfl
  | cons c t=>
   obtain⟨m,rfl⟩:∃ m,n=m+1:=⟨n-1,by simp only[qL]at h;omega⟩
   simp only[qL]at h ⊢;have hw:=decodeL_width (c::t);rw[vu,vu];have hd:((c::t).drop (decodeL (c::t)).2).length<=t.length:=by rw[List.length_drop];simp only[qL];omega
   rw[ih m (by omega) true t (by omega),ih m (by omega) false _ (by omega)]
   by_cases hm:t.length<m+1
   ·rw[ih t.length (by omega) true t (wF _),ih t.length (by omega) false _ hd]
   ·exact absurd h (by omega)
theorem zvd (fu n:Nat) (hfu:10<=fu):∀ (vbt vbs out:Bs) (bad:Bool),vbs.length<n->vbt.length+vbs.length<100000000->out.length+3*vbs.length<400000000 ->
  qi8 fu n (vbt++vbs) out bad (vbt.length:Int)=some (out++vu [239,191,189] vbs.length bad vbs):=by
 induction n with
 | zero=>intro vbt vbs out bad h;exact absurd h (by omega)
 | succ n ih=>
  intro vbt vbs out bad h hb ho;rw[qi8,qqm]
  cases vbs with
  | nil=>rw[qac (by simp)];simp[vu]
  | cons c t=>
   have hw:=decodeL_width (c::t);have hle:=decodeL_le (c::t) (by simp)
   simp only[qL]at h hb ho;rw[qaa (by rw[qbf];omega),zfm fu hfu vbt c t (by omega),qB]
   show _=some (out++vu [239,191,189] (t.length+1) bad (c::t));rw[vu];by_cases hbad:(decodeL (c::t)).1=65533/\(decodeL (c::t)).2=1
   ·have hneg:=(zdf _).2 hbad;rw[qac (by omega),qX hbad,decide_eq_true hneg,zfz,hbad.2,zn3,qB,w64n _ _ (by omega)]
    have:=fun o=>ih (vbt++[c]) t o true (by omega) (by simp;omega)
    simp only[qM,qL,qZ,qS,wM,wO]at this;cases bad
    ·rw[qek,qaa (by simp[qad];omega)]
     refine (this (out++[239,191,189]) (by simp;omega)).trans ?_
     simp
    ·rw[qb0];refine (this out (by omega)).trans ?_
     simp
   ·have hneg:¬ (rn (c::t)).1<0:=fun q=>hbad ((zdf _).1 q)
    have hle':=hle;simp only[qL]at hle';rw[qaa (by omega),qW hbad,decide_eq_false hneg,zfz,w64n _ _ (by omega),qaa (by rw[qbf];omega)]
    have e:List.take (((vbt.length+(decodeL (c::t)).2:Nat):Int).toNat-((vbt.length:Nat):Int).toNat) (List.drop ((vbt.length:Nat):Int).toNat (vbt++c::t))=(c::t).take (decodeL (c::t)).2:=by
     rw[quh];congr 1;omega
    rw[e,qaa (by rw[List.length_take,Nat.min_eq_left hle];simp[qad];omega)]
    have:=ih (vbt++(c::t).take (decodeL (c::t)).2) ((c::t).drop (decodeL (c::t)).2) (out++(c::t).take (decodeL (c::t)).2) false (by rw[List.length_drop];simp only[qL];omega) (by rw[qM,List.length_take,List.length_drop];simp only[qL]at hle ⊢;omega) (by rw[qM,List.length_take,List.length_drop];simp only[qL]at hle ⊢;omega)
    rw[qS,List.take_append_drop,qM,List.length_take,Nat.min_eq_left hle]at this;refine this.trans ?_;rw[qS,qz0 _ t.length false ((c::t).drop (decodeL (c::t)).2) (by rw[List.length_drop];simp only[qL];omega)]
theorem zbe (fu:Nat) (hfu:10<=fu) (s:Bs) (h:s.length<fu) (hb:s.length<100000000):qrj fu s=some (vu [239,191,189] s.length false s):=by
 have:=zvd fu fu hfu [] s [] false h (by simpa using hb) (by simp;omega)
 simpa [qrj] using this
theorem zfc (s:Bs) (h:s.length<=1000000):qby s [239,191,189]=some (vu [239,191,189] s.length false s):=by
 unfold qby;rw[qaa ⟨h,by simp⟩]
theorem zgf (s:Bs) (h:s.length<=1000000):qa2 s=some (validD s):=by
 unfold qa2;rw[qaa (by omega)]
end Go.Sym
namespace Go.Sym
open Go.Lib (validD)
abbrev Prm:Type:=Bs×Bs
abbrev Med:Type:=Bs×Bs×List Prm
def SmP (l:List Prm):Prop:=l.length<=4000000/\∀ x∈l,x.1.length<=4000000/\x.2.length<=4000000
def SmD (m:Med):Prop:=m.1.length<=4000000/\m.2.1.length<=4000000/\SmP m.2.2
def lk (a b:Bs):Bool:=a.map lo==b.map lo
theorem zag (a b:Bs):lk a b=lk b a:=by unfold lk;rw[Bool.eq_iff_iff];simp only[beq_iff_eq];exact⟨Eq.symm,Eq.symm⟩
theorem za3 (a:Bs):lk a a=true:=by unfold lk;simp
theorem quu (fu:Nat) (hfu:90000000<=fu) (a b:Bs) (ha:a.length<=4000000) (hb:b.length<=4000000):qb7 fu a b=some (lk a b):=
 znv fu a b (by omega) (by omega) (by simp[maxLen];omega) (by simp[maxLen];omega)
theorem qul (fu:Nat) (hfu:90000000<=fu) (a b:Bs) (ha:a.length<=4000000) (hb:b.length<=4000000):qdm fu a b=some (lk a b):=
 zcr fu a b (by omega) (by omega) (by simp[maxLen];omega) (by simp[maxLen];omega)
theorem z3g (fu n:Nat) (hfu:90000000<=fu) (p:Prm) (hp:p.1.length<=4000000):∀ (vbt vbs:List Prm),vbs.length<n->vbt.length+vbs.length<100000000->(∀ x∈vbs,x.1.length<=4000000) ->
  ∃ i:Int,qar fu n (vbt++vbs) ((vbt.length+vbs.length:Nat):Int) (vbt.length:Int) p=some (i,p)/\decide (0<=i)=vbs.any (fun x=>lk x.1 p.1):=by
 induction n with
 | zero=>intro vbt vbs h;exact absurd h (by omega)
 | succ n ih=>
  intro vbt vbs h hb hs;rw[qar,qbo]
  cases vbs with
  | nil=>rw[qac (by simp)];exact⟨_,rfl,rfl⟩
  | cons d vbs=>
   simp only[qL]at h hb;rw[qaa (by simp only[qL];omega),qan,qB,qmp,quu fu hfu _ _ (hs d qH) hp,qB,qB,qai _ (by omega)]
   obtain⟨i,h1,h2⟩:=ih (vbt++[d]) vbs (by omega) (by simp;omega) (fun x hx=>hs x (qE _ hx))
   simp only[qM,qL,qZ,qS,wM,wO]at h1;cases e:lk d.1 p.1
   ·simp only[qF,List.any_cons,e,Bool.false_or];rw[show (vbt.length+(d::vbs).length:Nat)=vbt.length+1+vbs.length by simp only[qL];omega]
    exact⟨i,h1,h2⟩
   ·simp only[qT,List.any_cons,e,Bool.true_or];exact⟨_,rfl,decide_eq_true (by omega)⟩
theorem zwi (fu:Nat) (hfu:90000000<=fu) (l:List Prm) (p:Prm) (hp:p.1.length<=4000000) (hs:SmP l):qaz fu l p=some (l.any (fun x=>lk x.1 p.1),p):=by
 obtain⟨i,h1,h2⟩:=z3g fu fu hfu p hp [] l (by have:=hs.1;omega) (by have:=hs.1;simp;omega) (fun x hx=>(hs.2 x hx).1)
 simp only[List.nil_append,qZ,wO]at h1;unfold qaz qb2;rw[← h2];exact (congrArg (fun q=>Option.bind q fun x1=>some (decide ((0:Int)<=x1.1),x1.2)) h1).trans rfl
def parF:List Prm->List Prm->Int×Int
 | _,[]=>(0,0)
 | vbt,p::l=>if tokS p.1=false\/20<p.1.length then (10,vbt.length) else if vbt.any (fun x=>lk x.1 p.1)=true then (7,vbt.length) else if 500<p.2.length then (1,vbt.length)
  else if validD p.2=false then (5,vbt.length) else parF (vbt++[p]) l
def medF (m:Med):Int×Int:=if tokS m.1=false\/tokS m.2.1=false then (10,-2) else if 60<m.2.2.length then (2,-3) else parF [] m.2.2
theorem SmP.mono {l l':List Prm} (h:SmP l) (h1:l'.length<=l.length) (h2:∀ x∈l',x∈l):SmP l':=⟨Nat.le_trans h1 h.1,fun x hx=>h.2 x (h2 x hx)⟩
theorem qhk (a b:Int):qae a b=some (a,b):=rfl
theorem qy4 (a b:Int):qib a b=some (a,b):=rfl
theorem q6q:qa0=some ((0:Int),(0:Int)):=rfl
theorem vaj (fu n:Nat) (hfu:90000000<=fu) (m:Med) (z:Int×Int):∀ (vbt vbs:List Prm),m.2.2=vbt++vbs->vbs.length<n->SmP (vbt++vbs) ->
  qdq fu n (vbt++vbs) ((vbt.length+vbs.length:Nat):Int) (vbt.length:Int) m z=some (parF vbt vbs):=by
 induction n with
 | zero=>intro vbt vbs _ h;exact absurd h (by omega)
 | succ n ih=>
  intro vbt vbs hm h hs;rw[qdq,ql8]
  cases vbs with
  | nil=>rw[qac (by simp)];rfl
  | cons p vbs=>
   have hp:=hs.2 p (by simp)
   have hl:=hs.1;simp only[qL,qM]at h hl;rw[qaa (by simp only[qL];omega),qan,qB,q1n fu _ (by omega) (by omega),qB,parF]
   have hp3:qcg fu (qdq fu n) (vbt.length:Int) (vbt++p::vbs) ((vbt.length+(p::vbs).length:Nat):Int) (vbt.length:Int) false m z p =
     some (if vbt.any (fun x=>lk x.1 p.1)=true then (7,(vbt.length:Int)) else if 500<p.2.length then (1,(vbt.length:Int)) else if validD p.2=false then (5,(vbt.length:Int)) else parF (vbt++[p]) vbs):=by
    rw[qcg,qax rfl,qaa (by rw[hm,qbf];omega),hm,quq,zwi fu hfu vbt p hp.1 (hs.mono (by simp) (fun x hx=>by simp[hx])),qB]
    simp only[];by_cases h1:vbt.any (fun x=>lk x.1 p.1)=true
    ·rw[qX h1,qau h1,qhk];rfl
    rw[qW h1,qax (by simpa using h1)]
    by_cases h2:500<p.2.length
    ·rw[qX h2,qaa (by omega),qhk];rfl
    rw[qW h2,qac (by omega),zgf _ (by omega),qB]
    cases h3:validD p.2
    ·rw[qek,qX rfl,qhk];rfl
    ·rw[qb0,qW (by simp),qai _ (by omega)]
     have:=ih (vbt++[p]) vbs (by rw[hm];simp) (by omega) (by simpa using hs)
     simp only[qM,qL,qZ,qS,wM,wO]at this;rw[show (vbt.length+(p::vbs).length:Nat)=vbt.length+1+vbs.length by simp only[qL];omega]
     exact this
   cases h0:tokS p.1
   ·rw[qek,qX (.inl rfl),qcg,qau rfl,qhk];rfl
   rw[qb0];by_cases h20:20<p.1.length
   ·rw[decide_eq_true (by omega),qX (.inr h20),qcg,qau rfl,qhk];rfl
   ·rw[decide_eq_false (p:=(20:Int)<(List.length p.1:Int)) (by omega),hp3,qW (c:=true=false\/20<p.1.length) (by simp;omega)]
theorem q3v (fu:Nat) (hfu:90000000<=fu) (m:Med) (hs:SmD m):qce fu m=some (medF m):=by
 obtain⟨h1,h2,h3⟩:=hs;unfold qce medF;rw[q1n fu m.1 (by omega) (by omega),qB,q1n fu m.2.1 (by omega) (by omega)]
 cases g1:tokS m.1
 ·rw[qek,qdr,qau rfl,qhk,qX (.inl rfl)];rfl
 rw[qb0,qB];cases g2:tokS m.2.1
 ·rw[qdr,qek,qhk,qX (.inr rfl)];rfl
 rw[qdr,qb0,ql7,qW (by simp)]
 by_cases g3:60<m.2.2.length
 ·rw[qaa (by omega),qX g3,qhk];rfl
 ·rw[qac (by omega),qW g3]
  have:=vaj fu fu hfu m (0,0) [] m.2.2 rfl (by have:=h3.1;omega) h3
  simpa using this
theorem zvp (fu n:Nat) (hfu:90000000<=fu) (r2:q08) (m:Med) (z:Int×Int) (p:Prm) (rest:List Prm) (hp:p.1.length<=4000000):∀ (vbt vbs:List Prm),m.2.2=vbt++vbs++p::rest->vbs.length<n->SmP m.2.2 ->
  qf6 fu r2 n ((vbt.length+vbs.length:Nat):Int) (vbt.length:Int) m z p =
   if vbs.any (fun x=>lk x.1 p.1)=true then some (7,((vbt.length+vbs.length:Nat):Int)) else bif decide ((500:Int)<(List.length p.2:Int)) then (qib (1:Int) ((vbt.length+vbs.length:Nat):Int)).bind fun x4=>some x4 else (qtr fu p.2).bind fun x5=>bif !x5 then (qib (5:Int) ((vbt.length+vbs.length:Nat):Int)).bind fun x6=>some x6 else r2 (w64 (((vbt.length+vbs.length:Nat):Int)+(1:Int))) m z:=by
 induction n with
 | zero=>intro vbt vbs _ h;exact absurd h (by omega)
 | succ n ih=>
  intro vbt vbs hm h hs;rw[qf6,qmy]
  cases vbs with
  | nil=>rw[qac (by simp),qW (by simp)]
  | cons d vbs=>
   have hl:=hs.1;rw[hm]at hl;simp only[qL,qM]at h hl;rw[qaa (by simp only[qL];omega)]
   have hx:idx m.2.2 (vbt.length:Int)=some d:=by rw[hm,qS,wK];exact qan vbt d _
   rw[hx,qB,qul fu hfu _ _ (hs.2 d (by rw[hm];simp)).1 hp,qB,qai _ (by omega)]
   have:=ih (vbt++[d]) vbs (by rw[hm];simp) (by omega) hs
   simp only[qM,qL,qZ,qS,wM,wO]at this;cases e:lk d.1 p.1
   ·simp only[qF,List.any_cons,e,Bool.false_or];rw[show (vbt.length+(d::vbs).length:Nat)=vbt.length+1+vbs.length by simp only[qL];omega]
    exact this
   ·simp only[qT,List.any_cons,e,Bool.true_or,if_true];rfl
theorem z6l (fu n:Nat) (hfu:90000000<=fu) (m:Med) (z:Int×Int) (hs:SmP m.2.2):∀ (vbt vbs:List Prm),m.2.2=vbt++vbs->vbs.length<n ->
  qc2 fu n (vbt.length:Int) m z=some (parF vbt vbs):=by
 induction n with
 | zero=>intro vbt vbs _ h;exact absurd h (by omega)
 | succ n ih=>
  intro vbt vbs hm h;rw[qc2,qnp,hm]
  cases vbs with
  | nil=>rw[qac (by simp)];rfl
  | cons p vbs=>
   have hp:=hs.2 p (by rw[hm];simp)
   have hl:=hs.1;rw[hm]at hl;simp only[qL,qM]at h hl;rw[qaa (by rw[qbf];omega),qan,qB,qyk fu (by omega) _ (by omega) (by omega),qB,parF]
   have hp3:qcx fu (qc2 fu n) (vbt.length:Int) false m z p =
     some (if vbt.any (fun x=>lk x.1 p.1)=true then (7,(vbt.length:Int)) else if 500<p.2.length then (1,(vbt.length:Int)) else if validD p.2=false then (5,(vbt.length:Int)) else parF (vbt++[p]) vbs):=by
    rw[qcx,qax rfl,qna];have:=zvp fu fu hfu (qc2 fu n) m z p vbs hp.1 [] vbt (by rw[hm];simp) (by omega) hs
    simp only[qZ,wO]at this;refine (this:_=_).trans ?_;by_cases h1:vbt.any (fun x=>lk x.1 p.1)=true
    ·rw[qX h1,qX h1]
    rw[qW h1,qW h1];by_cases h2:500<p.2.length
    ·rw[qX h2,qaa (by omega)];rfl
    rw[qW h2,qac (by omega),zfr fu (by omega) _ (by omega) (by omega),qB]
    cases h3:validD p.2
    ·rw[qek,qX rfl];rfl
    ·rw[qb0,qW (by simp),qai _ (by omega)]
     have:=ih (vbt++[p]) vbs (by rw[hm];simp) (by omega)
     simpa only [qM,qL,qZ,wO] using this
   cases h0:tokS p.1
   ·rw[qek,qX (.inl rfl),qcx,qau rfl,qy4];rfl
   rw[qb0];by_cases h20:20<p.1.length
   ·rw[decide_eq_true (by omega),qX (.inr h20),qcx,qau rfl,qy4];rfl
   ·rw[decide_eq_false (p:=(20:Int)<(List.length p.1:Int)) (by omega),hp3,qW (c:=true=false\/20<p.1.length) (by simp;omega)]
theorem ze1 (fu:Nat) (hfu:90000000<=fu) (m:Med) (hs:SmD m):qni fu m=some (medF m):=by
 obtain⟨h1,h2,h3⟩:=hs;unfold qni medF;rw[qyk fu (by omega) m.1 (by omega) (by omega),qB,qyk fu (by omega) m.2.1 (by omega) (by omega)]
 cases g1:tokS m.1
 ·rw[qek,qd9,qau rfl,qy4,qX (.inl rfl)];rfl
 rw[qb0,qB];cases g2:tokS m.2.1
 ·rw[qd9,qek,qy4,qX (.inr rfl)];rfl
 rw[qd9,qb0,qmw,qW (by simp)]
 by_cases g3:60<m.2.2.length
 ·rw[qaa (by omega),qX g3,qy4];rfl
 ·rw[qac (by omega),qW g3]
  exact z6l fu fu hfu m (0,0) h3 [] m.2.2 rfl (by have:=h3.1;omega)
def par (l:List Prm) (nm:Bs):Option Bs:=(l.find? fun x=>lk x.1 nm).map (·.2)
def parB (l:List Prm) (nm:Bs):Bs×Bool:=match par l nm with|some v=>(v,true)|none=>([],false)
theorem q25 (p:Prm) (l:List Prm) (nm:Bs):parB (p::l) nm=if lk p.1 nm=true then (p.2,true) else parB l nm:=by
 unfold parB par;rw[List.find?_cons];cases lk p.1 nm<;>rfl
theorem zso (fu n:Nat) (hfu:90000000<=fu) (nm:Bs) (hn:nm.length<=4000000) (z:Int×Int):∀ (vbt vbs:List Prm),vbs.length<n->SmP (vbt++vbs) ->
  qiw fu n nm (vbt++vbs) ((vbt.length+vbs.length:Nat):Int) (vbt.length:Int) z=some ((parB vbs nm).1,((parB vbs nm).2,(0,0))):=by
 induction n with
 | zero=>intro vbt vbs h;exact absurd h (by omega)
 | succ n ih=>
  intro vbt vbs h hs;rw[qiw,qqr]
  cases vbs with
  | nil=>rw[qac (by simp)];rfl
  | cons p vbs=>
   have hl:=hs.1;simp only[qL,qM]at h hl;rw[qaa (by simp only[qL];omega),qan,qB,quu fu hfu _ _ (hs.2 p (by simp)).1 hn,qB,qai _ (by omega),q25]
   have:=ih (vbt++[p]) vbs (by omega) (by simpa using hs)
   simp only[qM,qL,qZ,qS,wM,wO]at this;cases e:lk p.1 nm
   ·rw[qax rfl,show (vbt.length+(p::vbs).length:Nat)=vbt.length+1+vbs.length by simp only[qL];omega]
    exact this
   ·rfl
theorem q9u (fu:Nat) (hfu:90000000<=fu) (m:Med) (nm:Bs) (hn:nm.length<=4000000) (hs:SmD m):qmx fu m nm=some (if (medF m).1≠0 then ([],(false,medF m)) else ((parB m.2.2 nm).1,((parB m.2.2 nm).2,(0,0)))):=by
 unfold qmx;rw[q3v fu hfu m hs,qB,qmu,qB,qlh];by_cases h:(medF m).1≠0
 ·rw[qX h,qX h]
 ·rw[qW h,qW h];have:=zso fu fu hfu nm hn (0,0) [] m.2.2 (by have:=hs.2.2.1;omega) hs.2.2
  simpa using this
theorem zrg (fu n:Nat) (hfu:90000000<=fu) (nm:Bs) (hn:nm.length<=4000000) (m:Med) (hs:SmP m.2.2):∀ (vbt vbs:List Prm),m.2.2=vbt++vbs->vbs.length<n ->
  qj6 fu n nm (vbt.length:Int) m=some (parB vbs nm):=by
 induction n with
 | zero=>intro vbt vbs _ h;exact absurd h (by omega)
 | succ n ih=>
  intro vbt vbs hm h;rw[qj6,qsf,hm]
  cases vbs with
  | nil=>rw[qac (by simp)];rfl
  | cons p vbs=>
   have hl:=hs.1;rw[hm]at hl;simp only[qL,qM]at h hl;rw[qaa (by rw[qbf];omega),qan,qB,qul fu hfu _ _ (hs.2 p (by rw[hm];simp)).1 hn,qB,qai _ (by omega),q25]
   have:=ih (vbt++[p]) vbs (by rw[hm];simp) (by omega)
   simp only[qM,qL,qZ,wO]at this;cases e:lk p.1 nm
   ·rw[qax rfl];exact this
   ·rfl
theorem q1z (fu:Nat) (hfu:90000000<=fu) (m:Med) (nm:Bs) (hn:nm.length<=4000000) (hs:SmP m.2.2):qs3 fu m nm=some (parB m.2.2 nm):=
 zrg fu fu hfu nm hn m hs [] m.2.2 rfl (by have:=hs.1;omega)
end Go.Sym
namespace Go.Sym
theorem zng (fu n:Nat):∀ (s:List UInt8),s.length<n->s.length<1000000000->qb4 fu n s (qyh [32,9])=some (qbl s,qyh [32,9]):=by
 induction n with
 | zero=>intro s h;exact absurd h (by omega)
 | succ n ih=>
  intro s h hb;rw[qb4,qfr]
  cases s with
  | nil=>rw[qac (by simp)];rfl
  | cons c s=>
   simp only[qL]at h hb;rw[qaa (by simp),show idx (c::s) (0:Int)=some c from rfl,qB,qxy ac3,qB,q3p,qg6]
   cases bl c
   ·rfl
   ·rw[qb0,qaa (by simp only[qL];omega)]
    exact ih s (by omega) (by omega)
end Go.Sym
namespace Go.Sym
theorem qrs (s:Bs):qbl (qbl s)=qbl s:=by
 induction s with
 | nil=>rfl
 | cons c s ih=>
  rw[qg6];by_cases h:bl c=true
  ·rw[qX h];exact ih
  ·rw[qW h,qg6,qW h]
theorem qes (s:Bs):qbl s <:+ s:=List.dropWhile_suffix _
theorem zbj (fu:Nat) (s:List UInt8) (hfu:100<=fu) (h:s.length<fu) (hb:s.length<1000000000):qj2 fu s [32,9]=some (qbl s):=by
 unfold qj2
 cases s with
 | nil=>rfl
 | cons c s=>
  rw[qax (by rfl)]
  unfold qgn;rw[qax (by rfl)]
  unfold qkm;rw[qax (by decide)]
  unfold qf4;rw[qax (by rfl)]
  unfold qkv;obtain⟨n,rfl⟩:∃ n,fu=n+100:=⟨fu-100,by omega⟩
  rw[ac3.set,qB];simp only[ac3.len];rw[qau (by rw[List.length_replicate];rfl),qau (by rfl)]
  unfold qep;rw[zng _ _ _ h hb];rfl
theorem qtx (fu:Nat) (hfu:90000000<=fu) (s:Bs) (h:s.length<=4000000):qbd fu s=some (qbl s):=by
 unfold qbd;rw[zbj fu s (by omega) (by omega) (by omega)];rfl
def qeo (p:UInt8->Bool) (s:Bs):Bs×Bs:=((qbl s).takeWhile p,(qbl s).dropWhile p)
def tkS (c:UInt8):Bool:=tk c||c==42
def tkV (c:UInt8):Bool:=tk c||(c==37||(c==39||c==42))
def q8w (P:UInt8->Option Bool):Nat->Int->Bs->Option (Bs×Bs)
 | 0,_,_=>none
 | n+1,s5,m0=>bif decide (s5<(List.length m0:Int)) then (idx m0 s5).bind fun c1=>(P c1).bind fun x2=>(bif x2 then q8w P n (w64 (s5+(1:Int))) m0 else bif decide (0<=s5/\s5<=(List.length m0:Int)) then bif decide (0<=s5/\s5<=(List.length m0:Int)) then some (List.take s5.toNat m0,List.drop s5.toNat m0) else none else none)
  else (bif false then q8w P n (w64 (s5+(1:Int))) m0 else bif decide (0<=s5/\s5<=(List.length m0:Int)) then bif decide (0<=s5/\s5<=(List.length m0:Int)) then some (List.take s5.toNat m0,List.drop s5.toNat m0) else none else none)
theorem zoa (P:UInt8->Option Bool) (p:UInt8->Bool) (hP:∀ c,P c=some (p c)) (n:Nat):∀ (vbt vbs:Bs),vbs.length<n->vbt.length+vbs.length<9223372036854775807 ->
  q8w P n (vbt.length:Int) (vbt++vbs)=some (vbt++vbs.takeWhile p,vbs.dropWhile p):=by
 induction n with
 | zero=>intro vbt vbs h;exact absurd h (by omega)
 | succ n ih=>
  intro vbt vbs h hb;rw[q8w]
  cases vbs with
  | nil=>rw[qac (by simp),qax rfl,qaa (by simp),qaa (by simp),quq,quh];simp
  | cons d vbs=>
   simp only[qL]at h hb;rw[qaa (by rw[qbf];omega),qan,qB,hP,qB,qai _ (by omega),quq,quh,List.takeWhile_cons,List.dropWhile_cons]
   have:=ih (vbt++[d]) vbs (by omega) (by simp;omega)
   simp only[qM,qL,qZ,qS,wM,wO]at this;cases p d
   ·rw[qax rfl,qaa (by rw[qbf];omega),qaa (by rw[qbf];omega)];simp
   ·rw[qau rfl];simpa using this
theorem q59 (P:UInt8->Option Bool) (p:UInt8->Bool) (hP:∀ c,P c=some (p c)) (fu:Nat) (hfu:90000000<=fu) (s:Bs) (h:s.length<=4000000):q8w P fu 0 (qbl s)=some (qeo p s):=by
 have hl:=qgi s;have:=zoa P p hP fu [] (qbl s) (by omega) (by simp;omega)
 simpa [qeo] using this
theorem zcu (fu:Nat) (hfu:90000000<=fu) (s:Bs) (h:s.length<=4000000):qfd fu s=some (qeo tk s):=by
 have e:∀ n,qdf fu n=q8w qba n:=by
  intro n;induction n with
  | zero=>rfl
  | succ n ih=>rw[qdf,ih];funext a b;rfl
 unfold qfd;rw[qtx fu hfu s h,qB,e];exact q59 _ tk zga fu hfu s h
theorem zu6 (c:UInt8):qd3 c=some (tkS c):=by
 unfold qd3 tkS;rw[zga,qB];cases tk c<;>rfl
theorem z3p (c:UInt8):qdh c=some (tkV c):=by
 unfold qdh tkV;rw[zga,qB];cases tk c
 ·cases c==37
  ·cases c==39<;>rfl
  ·rfl
 ·rfl
theorem znp (fu:Nat) (hfu:90000000<=fu) (s:Bs) (h:s.length<=4000000):qfm fu s=some (qeo tkS s):=by
 have e:∀ n,qcd fu n=q8w qd3 n:=by
  intro n;induction n with
  | zero=>rfl
  | succ n ih=>rw[qcd,ih];funext a b;rfl
 unfold qfm;rw[qtx fu hfu s h,qB,e];exact q59 _ tkS zu6 fu hfu s h
theorem zll (fu:Nat) (hfu:90000000<=fu) (s:Bs) (h:s.length<=4000000):qfp fu s=some (qeo tkV s):=by
 have e:∀ n,qcb fu n=q8w qdh n:=by
  intro n;induction n with
  | zero=>rfl
  | succ n ih=>rw[qcb,ih];funext a b;rfl
 unfold qfp;rw[qtx fu hfu s h,qB,e];exact q59 _ tkV z3p fu hfu s h
def qjq (c:UInt8) (s:Bs):Bool×Bs:=match qbl s with
 | []=>(false,[])
 | d::t=>if d=c then (true,t) else (false,d::t)
theorem q1m (fu:Nat) (hfu:90000000<=fu) (c:UInt8) (s:Bs) (h:s.length<=4000000):qch fu c s=some (qjq c s):=by
 unfold qch qjq;rw[qtx fu hfu s h,qB]
 cases qbl s with
 | nil=>rfl
 | cons d t=>
  rw[qax (by rfl),show idx (d::t) (0:Int)=some d from rfl,qB,q0l]
  by_cases hd:d=c
  ·rw[qW (by simp[hd]),qaa (by simp only[qL];omega)];simp[hd]
  ·rw[qX hd];simp[hd]
def qv:Bs->Bs->Option (Bs×Bs)
 | _,[]=>none
 | out,c::t=>if c=34 then some (out,t) else if c=92 then (match t with
  | []=>none
  | d::t'=>qv (out++[d]) t') else qv (out++[c]) t
theorem qzz (out:Bs) (c:UInt8) (t:Bs):qv out (c::t)=if c=34 then some (out,t) else if c=92 then (match t with
  | []=>none
  | d::t'=>qv (out++[d]) t') else qv (out++[c]) t:=by cases t<;>rfl
theorem qe7:4000000000<=qaq:=by decide
theorem z4b (fu n:Nat):∀ (vbt vbs out:Bs),vbs.length<n->vbt.length+vbs.length<100000000->out.length+vbs.length<100000000 ->
  qcv fu n (vbt.length:Int) (vbt++vbs) out=some (match qv out vbs with|some (v,t)=>(v,(true,t))|none=>([],(false,vbt++vbs))):=by
 have hrm:=qe7
 induction n using Nat.strongRecOn with
 | ind n ih=>
  intro vbt vbs out h hb ho;obtain⟨n,rfl⟩:∃ m,n=m+1:=⟨n-1,by omega⟩
  rw[qcv,qir]
  cases vbs with
  | nil=>rw[qac (by simp)];rfl
  | cons c t=>
   simp only[qL]at h hb ho;rw[qaa (by rw[qbf];omega),qan,qB,qai _ (by omega),qnq]
   have ih1:=ih n (by omega) (vbt++[c]) t (out++[c]) (by omega) (by simp;omega) (by simp;omega)
   simp only[qM,qL,qZ,qS,wM,wO]at ih1;by_cases h1:c=34
   ·rw[qX h1,qaa (by rw[qbf];omega),qzs,qzz,qX h1]
   rw[qW h1,qnq];by_cases h2:c=92
   ·rw[qX h2,qnu,qbf]
    cases t with
    | nil=>rw[qX (by simp),qzz,qW h1,qX h2]
    | cons d t=>
     simp only[qL]at h hb ho ⊢;rw[qW (by omega),show idx (vbt++c::d::t) ((vbt.length+1:Nat):Int)=some d by have:=qan (vbt++[c]) d t;simpa using this,qB,qaa (by simp;omega),qai _ (by omega),qzz,qW h1,qX h2]
     have ih2:=ih n (by omega) (vbt++[c,d]) t (out++[d]) (by omega) (by simp;omega) (by simp;omega)
     simp only[qM,qL,qZ,qS,wK,List.nil_append,wO]at ih2;exact ih2
   ·rw[qW h2,qaa (by simp;omega),qzz,qW h1,qW h2]
    exact ih1
def valS (s:Bs):Option (Bs×Bs):=if (qjq 34 s).1=true then qv [] (qjq 34 s).2 else some (qeo tkV (qjq 34 s).2)
theorem qty (c:UInt8) (s:Bs):(qjq c s).2.length<=s.length:=by
 have:=qgi s;unfold qjq
 cases h:qbl s with
 | nil=>simp
 | cons d t=>
  rw[h]at this;simp only[qL]at this;by_cases hd:d=c
  ·simp only[qX hd];omega
  ·simp only[qW hd,qL];omega
theorem zld (fu:Nat) (hfu:90000000<=fu) (s:Bs) (h:s.length<=4000000):∃ r,qg0 fu s=some (match valS s with|some (v,t)=>(v,(true,t))|none=>([],(false,r))):=by
 have hl:=qty 34 s;unfold qg0 valS;rw[q1m fu hfu 34 s h,qB];cases hs:(qjq 34 s).1
 ·rw[qek,zll fu hfu _ (by omega),qW (by simp)]
  exact⟨[],rfl⟩
 ·rw[qb0,qX rfl];have:=z4b fu fu [] (qjq 34 s).2 [] (by omega) (by simp;omega) (by simp;omega)
  exact⟨(qjq 34 s).2,by simpa using this⟩
def lexP (s:Bs):Option ((Bs×Bs)×Bs):=if (qjq 61 (qeo tkS s).2).1=true then (valS (qjq 61 (qeo tkS s).2).2).map fun x=>(((qeo tkS s).1,x.1),x.2) else none
theorem qr6 (p:UInt8->Bool) (s:Bs):(qeo p s).1.length+(qeo p s).2.length<=s.length:=by
 have:=qgi s;have h:=congrArg List.length (List.takeWhile_append_dropWhile (p:=p) (l:=qbl s));rw[qM]at h;unfold qeo;simp only;omega
theorem zo1:∀ (out s v t:Bs),qv out s=some (v,t)->v.length+t.length<out.length+s.length/\t <:+ s:=by
 intro out s
 induction s using WellFounded.induction (r:=fun (a b:Bs)=>a.length<b.length) (hwf:=InvImage.wf List.length Nat.lt_wfRel.wf) generalizing out with
 | _ s ih=>
  intro v t h
  cases s with
  | nil=>cases h
  | cons c s=>
   rw[qzz]at h;by_cases h1:c=34
   ·rw[qX h1]at h;cases h;exact⟨by simp,List.suffix_cons _ _⟩
   rw[qW h1]at h;by_cases h2:c=92
   ·rw[qX h2]at h
    cases s with
    | nil=>cases h
    | cons d s=>
     obtain⟨g1,g2⟩:=ih s (by simp;omega) (out++[d]) v t h
     refine⟨by simp at g1 ⊢;omega,g2.trans ((List.suffix_cons _ _).trans (List.suffix_cons _ _))⟩
   ·rw[qW h2]at h;obtain⟨g1,g2⟩:=ih s (by simp) (out++[c]) v t h
    exact⟨by simp at g1 ⊢;omega,g2.trans (List.suffix_cons _ _)⟩
theorem q03 (c:UInt8) (s:Bs):(qjq c s).2 <:+ s:=by
 have:=qes s;unfold qjq
 cases h:qbl s with
 | nil=>simp
 | cons d t=>
  rw[h]at this;by_cases hd:d=c
  ·simp only[qX hd];exact (List.suffix_cons _ _).trans this
  ·simp only[qW hd];exact this
theorem q0x (p:UInt8->Bool) (s:Bs):(qeo p s).2 <:+ s:=(List.dropWhile_suffix _).trans (qes s)
theorem zko {s v t:Bs} (h:valS s=some (v,t)):v.length+t.length<=s.length/\t <:+ s:=by
 have hl:=qty 34 s;have hx:=q03 34 s;unfold valS at h;by_cases hs:(qjq 34 s).1=true
 ·rw[qX hs]at h;obtain⟨g1,g2⟩:=zo1 [] _ _ _ h;exact⟨by simp at g1;omega,g2.trans hx⟩
 ·rw[qW hs]at h;have e:=qJ h;have g1:=qr6 tkV (qjq 34 s).2;have g2:=q0x tkV (qjq 34 s).2;rw[e]at g1 g2;simp only at g1 g2;exact⟨by omega,g2.trans hx⟩
theorem q6b {s n v t:Bs} (h:lexP s=some ((n,v),t)):n.length+v.length+t.length<=s.length/\t <:+ s:=by
 have h1:=qr6 tkS s;have h1':=q0x tkS s;have h2:=qty 61 (qeo tkS s).2;have h2':=q03 61 (qeo tkS s).2;unfold lexP at h;by_cases hs:(qjq 61 (qeo tkS s).2).1=true
 ·rw[qX hs]at h
  cases hv:valS (qjq 61 (qeo tkS s).2).2 with
  | none=>rw[hv]at h;cases h
  | some x=>
   rw[hv]at h;obtain⟨g1,g2⟩:=zko (v:=x.1) (t:=x.2) hv;have e:=qJ h;obtain⟨rfl,e2⟩:=Prod.mk.inj (Prod.mk.inj e).1;obtain rfl:=(Prod.mk.inj e).2;subst e2;exact⟨by omega,g2.trans (h2'.trans h1')⟩
 ·rw[qW hs]at h;cases h
def pos (s r:Bs):Int:=((s.length-r.length:Nat):Int)
theorem qyn {s r:Bs} (h:r <:+ s):List.drop (pos s r).toNat s=r:=(List.suffix_iff_eq_drop.1 h).symm
theorem q9x {s r:Bs} (h:r <:+ s):∃ p,s=p++r/\pos s r=(p.length:Int):=by
 obtain⟨p,rfl⟩:=h;exact⟨p,rfl,by unfold pos;simp⟩
theorem qwo {s:Bs} {c:UInt8} {t:Bs} (h:(c::t) <:+ s):idx s (pos s (c::t))=some c:=by
 obtain⟨p,rfl,e⟩:=q9x h;rw[e];exact qan p c t
theorem qm7 {s:Bs} {c:UInt8} {t:Bs} (h:(c::t) <:+ s) (hb:s.length<1000000000):w64 (pos s (c::t)+1)=pos s t:=by
 have:=h.length_le;simp only[qL]at this;unfold pos;rw[qai _ (by omega)];simp only[qL];omega
theorem qtu {s:Bs} {c:UInt8} {t:Bs} (h:(c::t) <:+ s):pos s (c::t)<(s.length:Int):=by
 have:=h.length_le;simp only[qL]at this;unfold pos;simp only[qL];omega
theorem qjo (s:Bs):pos s []=(s.length:Int):=by unfold pos;simp
theorem zbk (s:Bs):pos s s=0:=by unfold pos;simp
theorem qy2 (s r:Bs):0<=pos s r/\pos s r<=(s.length:Int):=by unfold pos;omega
theorem zj7 {s r r':Bs} (h2:r' <:+ r):pos s r<=pos s r':=by have:=h2.length_le;unfold pos;omega
theorem q7b {s r r':Bs} (h:r <:+ s) (h2:r' <:+ r):List.take ((pos s r').toNat-(pos s r).toNat) (List.drop (pos s r).toNat s)=r.take (r.length-r'.length):=by
 rw[qyn h];have:=h.length_le;have:=h2.length_le;congr 1;unfold pos;omega
theorem zev (p:UInt8->Bool) (r:Bs):r.take (r.length-(r.dropWhile p).length)=r.takeWhile p:=by
 have h:r.takeWhile p++r.dropWhile p=r:=List.takeWhile_append_dropWhile;have h2:=congrArg List.length h;rw[qM]at h2;rw[show r.length-(r.dropWhile p).length=(r.takeWhile p).length by omega]
 have e:r.take (r.takeWhile p).length=(r.takeWhile p++r.dropWhile p).take (r.takeWhile p).length:=by rw[h]
 rw[e,List.take_left]
theorem zs7 (fu n:Nat) (s:Bs) (hb:s.length<100000000):∀ (r:Bs),r <:+ s->r.length<n->qpy fu n s (pos s r)=some (pos s (qbl r)):=by
 induction n with
 | zero=>intro r _ h;exact absurd h (by omega)
 | succ n ih=>
  intro r hr h;rw[qpy,qwa]
  cases r with
  | nil=>rw[qjo,qac (by omega)];simp[qbl,qjo]
  | cons c t=>
   rw[qaa (qtu hr),qwo hr,qB,qtt,qB,qm7 hr (by omega),qg6]
   cases hc:bl c
   ·rfl
   ·rw[qau rfl,qX rfl];exact ih t ((List.suffix_cons _ _).trans hr) (by simp only[qL]at h;omega)
theorem qv4 (fu:Nat) (hfu:90000000<=fu) {s r:Bs} (h:s.length<=4000000) (hr:r <:+ s):qlt fu s (pos s r)=some (pos s (qbl r)):=
 zs7 fu fu s (by omega) r hr (by have:=hr.length_le;omega)
theorem zxj (fu n:Nat) (hfu:90000000<=fu) (more:Bs) (hm:more.length<100) (s:Bs) (hb:s.length<100000000):∀ (r:Bs),r <:+ s->r.length<n->qrz fu n s (pos s r) more=some (pos s (r.dropWhile fun c=>tk c||more.contains c)):=by
 induction n with
 | zero=>intro r _ h;exact absurd h (by omega)
 | succ n ih=>
  intro r hr h;rw[qrz,qxu]
  cases r with
  | nil=>rw[qjo,qac (by omega)];simp[qjo]
  | cons c t=>
   rw[qaa (qtu hr),qwo hr,qB,zg7 fu (by omega),qB,qm7 hr (by omega),List.dropWhile_cons]
   have:=ih t ((List.suffix_cons _ _).trans hr) (by simp only[qL]at h;omega)
   cases hc:tk c
   ·rw[qax rfl,qB,zdj fu c more (by omega) (by omega),qB,Bool.false_or]
    cases hd:more.contains c
    ·rfl
    ·rw[qau rfl];exact this
   ·rw[qau rfl];exact this
theorem q8t (fu:Nat) (hfu:90000000<=fu) (more:Bs) (hm:more.length<100) {s r:Bs} (h:s.length<=4000000) (hr:r <:+ s) (p:UInt8->Bool) (hp:∀ c,(tk c||more.contains c)=p c) :
  qwx fu s (pos s r) more=some (pos s (r.dropWhile p)):=by
 have:=zxj fu fu hfu more hm s (by omega) r hr (by have:=hr.length_le;omega)
 rw[show (fun c=>tk c||more.contains c)=p from funext hp]at this
 exact this
end Go.Sym
namespace Go.Sym
open Go.Lib (decDigits nDigits itoa atoiAll parseUint10 parseMag NumEnd)
theorem qvt (d:Nat) (h:d<10):(UInt8.ofNat (48+d)).toNat=48+d:=by
 rw[UInt8.toNat_ofNat'];omega
theorem qru (u:Nat) (h:u<10):decDigits u=[UInt8.ofNat (48+u)]:=by rw[decDigits,dif_pos h]
theorem qxa (u:Nat) (h:¬ u<10):decDigits u=decDigits (u/10)++[UInt8.ofNat (48+u%10)]:=by rw[decDigits,dif_neg h]
theorem zgs (u:Nat):decDigits u≠[]:=by
 by_cases h:u<10
 ·rw[qru u h];simp
 ·rw[qxa u h];simp
theorem q46 (u:Nat):∀ c∈decDigits u,48<=c.toNat/\c.toNat<=57:=by
 induction u using Nat.strongRecOn with
 | ind u ih=>
  intro c hc;by_cases h:u<10
  ·rw[qru u h]at hc;rw[List.mem_singleton.1 hc,qvt u h];omega
  ·rw[qxa u h]at hc;rcases List.mem_append.1 hc with hc|hc
   ·exact ih (u/10) (by omega) c hc
   ·rw[List.mem_singleton.1 hc,qvt _ (by omega)];omega
theorem qy9 (k:Nat):∀ u,u<10 ^ k->1<=k->(decDigits u).length<=k:=by
 induction k with
 | zero=>intro u _ h;omega
 | succ k ih=>
  intro u hu _;by_cases h:u<10
  ·rw[qru u h];simp
  ·rw[qxa u h,qM,wD];have hk:1<=k:=by
    rcases Nat.eq_zero_or_pos k with h0|h0
    ·subst h0;simp at hu;omega
    ·exact h0
   have:=ih (u/10) (by rw[Nat.pow_succ]at hu;omega) hk
   omega
def dval (a:Nat) (l:Bs):Nat:=l.foldl (fun a c=>10*a+(c.toNat-48)) a
theorem zh1 (u:Nat):dval 0 (decDigits u)=u:=by
 induction u using Nat.strongRecOn with
 | ind u ih=>
  by_cases h:u<10
  ·rw[qru u h];show 10*0+((UInt8.ofNat (48+u)).toNat-48)=u;rw[qvt u h];omega
  ·rw[qxa u h];unfold dval;rw[List.foldl_append];have:=ih (u/10) (by omega)
   unfold dval at this;rw[this];show 10*(u/10)+((UInt8.ofNat (48+u%10)).toNat-48)=u;rw[qvt _ (by omega)];omega
theorem ziz:∀ (l:Bs) (a:Nat) (c:UInt8),parseUint10 a (l++[c])=match parseUint10 a l with | .ok b=>parseUint10 b [c]|e=>e:=by
 intro l
 induction l with
 | nil=>intro a c;rfl
 | cons d l ih=>
  intro a c;rw[wK,parseUint10,parseUint10];by_cases h1:48<=d.toNat/\d.toNat<=57
  ·rw[qX h1,qX h1];by_cases h2:1844674407370955162<=a
   ·rw[qX h2,qX h2]
   ·rw[qW h2,qW h2];by_cases h3:18446744073709551616<=a*10+(d.toNat-48)
    ·rw[qX h3,qX h3]
    ·rw[qW h3,qW h3,ih]
  ·rw[qW h1,qW h1]
theorem zex (u:Nat):u<9223372036854775808->parseUint10 0 (decDigits u) = .ok u:=by
 induction u using Nat.strongRecOn with
 | ind u ih=>
  intro hu;have step:∀ a d,a*10+d=u->d<10->parseUint10 a [UInt8.ofNat (48+d)] = .ok u:=by
   intro a d h1 h2;rw[parseUint10,qvt d h2,qX (by omega),qW (by omega),qW (by omega),parseUint10]
   congr 1;omega
  by_cases h:u<10
  ·rw[qru u h];exact step 0 u (by omega) h
  ·rw[qxa u h,ziz,ih (u/10) (by omega) (by omega)]
   exact step (u/10) (u%10) (by omega) (by omega)
theorem zij (u:Nat) (hu:u<9223372036854775808):atoiAll (decDigits u) = .ok (u:Int):=by
 have hd:=q46 u;have hp:=zex u hu;have hne:=zgs u
 cases hl:decDigits u with
 | nil=>exact absurd hl hne
 | cons c r=>
  rw[hl]at hd hp;have hc:=hd c qH;unfold atoiAll;simp only[];rw[qW (c:=c.toNat=43\/c.toNat=45) (by omega),parseMag,qW (by simp),hp]
  simp only[];rw[qW (by omega),qW (by omega),qW (by omega)]
theorem q58 (u:Nat):itoa (u:Int)=decDigits u:=by unfold itoa;rw[qW (by omega)];simp
theorem zkc (u:Nat) (most:Int) (h:(u:Int)<=most) (hm:most<9223372036854775808):numS (decDigits u) most=((u:Int),true):=by
 unfold numS;rw[zij u (by omega)]
 simp only[];rw[qX ⟨q58 u,by omega,h⟩]
theorem q6s {s:Bs} {most:Int} (h:(numS s most).2=true):∃ u:Nat,s=decDigits u/\(u:Int)<=most/\numS s most=((u:Int),true):=by
 have h0:=h;unfold numS at h;split at h
 ·rename_i v hv;by_cases hc:itoa v=s/\0<=v/\v<=most
  ·obtain⟨u,rfl⟩:∃ u:Nat,v=u:=⟨v.toNat,by omega⟩
   refine⟨u,by rw[← hc.1,q58],hc.2.2,?_⟩
   unfold numS;rw[hv];simp only[];rw[qX hc]
  ·rw[qW hc]at h;cases h
 ·cases h
theorem zbv {x:Int} (h1:0<=x) (h2:x<18446744073709551616):IntKind.u64.wrap x=x:=by
 unfold IntKind.wrap;simp[IntKind.signed,IntKind.bits];omega
theorem q92 (d:Nat) (h:d<10):List.take (d+1-d) (List.drop d ([48,49,50,51,52,53,54,55,56,57]:Bs))=[UInt8.ofNat (48+d)]:=by
 have:∀ d:_root_.Fin 10,List.take (d.val+1-d.val) (List.drop d.val ([48,49,50,51,52,53,54,55,56,57]:Bs))=[UInt8.ofNat (48+d.val)]:=by decide
 exact this ⟨d,h⟩
theorem zej (fu:Nat) (k:Nat):∀ (n u:Nat),k<=n->u<10 ^ k->1<=k->u<9223372036854775808->qlw fu n (u:Int)=some (decDigits u):=by
 induction k with
 | zero=>intro n u _ _ h;omega
 | succ k ih=>
  intro n u hn hu _ hb;obtain⟨n,rfl⟩:∃ m,n=m+1:=⟨n-1,by omega⟩
  rw[qlw,qpc];by_cases h:u<10
  ·rw[qaa (by omega),show (u:Int)+1=((u+1:Nat):Int) by omega,zbv (by omega) (by omega),qaa (by simp;omega),qru u h]
   simp only[qY];rw[q92 u h]
  ·have hk:1<=k:=by
    rcases Nat.eq_zero_or_pos k with h0|h0
    ·subst h0;simp at hu;omega
    ·exact h0
   have e1:Int.tdiv (u:Int) 10=((u/10:Nat):Int):=by rw[Int.tdiv_eq_ediv_of_nonneg (by omega)];omega
   have e2:Int.tmod (u:Int) 10=((u%10:Nat):Int):=by rw[Int.tmod_eq_emod_of_nonneg (by omega)];omega
   have hr:=ih n (u/10) (by omega) (by rw[Nat.pow_succ]at hu;omega) hk (by omega)
   have vbu:(decDigits (u/10)).length<=19:=qy9 19 _ (by omega) (by omega)
   rw[qac (by omega),e1,zbv (by omega) (by omega),hr,qB,e2,show ((u%10:Nat):Int)+1=((u%10+1:Nat):Int) by omega,zbv (by omega) (by omega),qaa (by simp;omega)]
   simp only[qY];simp only[q92 (u%10) (Nat.mod_lt _ (by decide))]
   rw[qaa (by simp[qad];omega),qxa u h]
theorem q2b (fu:Nat) (hfu:100<=fu) (u:Nat) (hu:u<9223372036854775808):qkn fu (u:Int)=some (decDigits u):=by
 unfold qkn qwt;rw[qac (by omega),zbv (by omega) (by omega),zej fu 19 fu u (by omega) (by omega) (by omega) hu];rfl
theorem zjk (fu n:Nat):∀ (vbt vbs:Bs) (a:Nat),vbs.length<n->vbt.length+vbs.length<100000000->vbt.length<=9->a<10 ^ vbt.length ->
  qi6 fu n (vbt++vbs) 1 9 (a:Int) (vbt.length:Int)=some (if (∀ c∈vbs,48<=c.toNat/\c.toNat<=57)/\1<=vbt.length+vbs.length/\vbt.length+vbs.length<=9 then (dval a vbs:Int) else -1):=by
 induction n with
 | zero=>intro vbt vbs a h;exact absurd h (by omega)
 | succ n ih=>
  intro vbt vbs a h hb hp ha;have hpow:10 ^ vbt.length<=10 ^ 9:=Nat.pow_le_pow_right (by omega) hp
  rw[qi6,qqp]
  cases vbs with
  | nil=>
   rw[qac (by simp),qjz,qB]
   simp only[List.append_nil,qZ,Nat.add_zero,List.not_mem_nil,false_implies,implies_true,true_and];by_cases h1:1<=vbt.length/\vbt.length<=9
   ·rw[decide_eq_true (by omega),qb0,qX h1];rfl
   ·rw[decide_eq_false (by omega),qek,qW h1]
  | cons c t=>
   simp only[qL]at h hb;rw[qaa (by rw[qbf];omega),qan,qB,qjz,qB]
   by_cases hc:48<=c.toNat/\c.toNat<=57
   ·rw[decide_eq_true (by omega),qb0,qiy]
    by_cases h9:9<=vbt.length
    ·rw[qaa (by omega),qW (by simp only[qL];omega)]
    ·rw[qac (by omega),qqg,qan,qB,qai _ (by omega)]
     have hsub:(c-48).toNat=c.toNat-48:=by
      rw[UInt8.toNat_sub_of_le _ _ (by rw[UInt8.le_iff_toNat_le];show 48<=_;omega)];rfl
     rw[hsub,show (10:Int)*(a:Int)=((10*a:Nat):Int) by omega,qgo (x:=((10*a:Nat):Int)) (by omega) (by omega),w64n _ _ (by omega)]
     have:=ih (vbt++[c]) t (10*a+(c.toNat-48)) (by omega) (by simp;omega) (by simp;omega) (by simp only[qM,qL,qZ,wO,Nat.pow_succ];omega)
     simp only[qM,qL,qZ,qS,wM,wO]at this;refine this.trans ?_;congr 1;by_cases hq:(∀ x∈t,48<=x.toNat/\x.toNat<=57)/\1<=vbt.length+1+t.length/\vbt.length+1+t.length<=9
     ·rw[qX hq,qX ⟨fun x hx=>(List.mem_cons.1 hx).elim (fun e=>e▸hc) (hq.1 x),by simp only[qL];omega,by simp only[qL];omega⟩];rfl
     ·rw[qW hq,qW (fun g=>hq ⟨fun x hx=>g.1 x (qE _ hx),by have:=g.2;simp only[qL]at this;omega,by have:=g.2;simp only[qL]at this;omega⟩)]
   ·rw[decide_eq_false (by omega),qek,qiy,qau rfl,qW (fun g=>hc (g.1 c qH))]
theorem zbc (fu:Nat) (s:Bs) (h:s.length<fu) (hb:s.length<100000000):qnm fu s 1 9=some (if (∀ c∈s,48<=c.toNat/\c.toNat<=57)/\1<=s.length/\s.length<=9 then (dval 0 s:Int) else -1):=by
 have:=zjk fu fu [] s 0 h (by simpa using hb) (by simp) (by simp)
 simpa [qnm] using this
theorem zr4:∀ (s:Bs) (a k:Nat),(∀ c∈s,48<=c.toNat/\c.toNat<=57)->a<10 ^ k->dval a s<10 ^ (k+s.length):=by
 intro s
 induction s with
 | nil=>intro a k _ h;exact h
 | cons c s ih=>
  intro a k hd h;have hc:=hd c qH;have:=ih (10*a+(c.toNat-48)) (k+1) (fun x hx=>hd x (qE _ hx)) (by rw[Nat.pow_succ];omega)
  rw[qL,show k+(s.length+1)=k+1+s.length by omega];exact this
def numD (s:Bs):Option Int:=if (numS s 1099511627776).2=true/\(numS s 1099511627776).1<1000000000 then some (numS s 1099511627776).1 else none
theorem zqr (fu:Nat) (hfu:1000<=fu) (s:Bs) (h:s.length<fu) (hb:s.length<100000000):∃ x:Int,qnm fu s 1 9=some x /\
  ((numD s=some x/\0<=x/\qkn fu x=some s)\/(numD s=none/\(x<0\/(0<=x/\∃ t,qkn fu x=some t/\t≠s)))):=by
 refine⟨_,zbc fu s h hb,?_⟩;by_cases hq:(∀ c∈s,48<=c.toNat/\c.toNat<=57)/\1<=s.length/\s.length<=9
 ·rw[qX hq];have hlt:dval 0 s<1000000000:=by
   have h1:=zr4 s 0 0 hq.1 (by simp)
   have h2:10 ^ (0+s.length)<=10 ^ 9:=Nat.pow_le_pow_right (by omega) (by omega)
   omega
  have hN:=q2b fu (by omega) (dval 0 s) (by omega)
  by_cases he:decDigits (dval 0 s)=s
  ·refine .inl ⟨?_,by omega,by rw[hN,he]⟩
   have:=zkc (dval 0 s) 1099511627776 (by omega) (by decide)
   rw[he]at this;unfold numD;rw[this,qX ⟨rfl,by simp only;omega⟩]
  ·refine .inr ⟨?_,.inr ⟨by omega,_,hN,he⟩⟩
   unfold numD;rw[qW];rintro⟨g1,_⟩
   obtain⟨u,rfl,_,_⟩:=q6s g1;exact he (by rw[zh1])
 ·rw[qW hq];refine .inr ⟨?_,.inl (by omega)⟩
  unfold numD;rw[qW];rintro⟨g1,g2⟩
  obtain⟨u,rfl,_,g3⟩:=q6s g1;rw[g3]at g2;simp only at g2;refine hq ⟨q46 u,?_,qy9 9 u (by omega) (by omega)⟩
  have:=zgs u
  cases hd:decDigits u with
  | nil=>exact absurd hd this
  | cons=>simp
end Go.Sym
namespace Go.Sym
def hv (c:UInt8):Option UInt8:=if 48<=c/\c<=57 then some (c-48) else if 65<=c/\c<=70 then some (c-65+10) else if 97<=c/\c<=102 then some (c-97+10) else none
def hx (a b:UInt8):Option UInt8:=(hv a).bind fun x=>(hv b).map fun y=>16*x+y
set_option maxRecDepth 100000 in
theorem zkz:∀ n:_root_.Fin 256,qo1 (UInt8.ofNat n.val)=some ((hv (UInt8.ofNat n.val)).getD 0,(hv (UInt8.ofNat n.val)).isSome):=by decide +kernel
theorem zs2 (c:UInt8):qo1 c=some ((hv c).getD 0,(hv c).isSome):=qpo (fun c=>qo1 c=some ((hv c).getD 0,(hv c).isSome)) zkz c
def hvI (c:UInt8):Int:=match hv c with|some x=>(x.toNat:Int)|none => -1
def hdig:List UInt8:=[48,49,50,51,52,53,54,55,56,57,65,66,67,68,69,70]
def hexS (c:UInt8):Nat->Nat->Int
 | 0,_ => -1
 | m+1,k=>if hdig.getD k 0=c then (k:Int) else if (hdig.map lo).getD k 0=c then (k:Int) else hexS c m (k+1)
set_option maxRecDepth 100000 in
theorem zl6:∀ n:_root_.Fin 256,hexS (UInt8.ofNat n.val) 16 0=hvI (UInt8.ofNat n.val):=by decide +kernel
theorem zsk (fu:Nat) (hfu:16<fu) (c:UInt8):∀ (m k n:Nat),m+k=16->m<n->qoe fu n c (k:Int)=some (hexS c m k):=by
 intro m
 induction m with
 | zero=>
  intro k n hk hn;obtain⟨n,rfl⟩:∃ j,n=j+1:=⟨n-1,by omega⟩
  rw[qoe,qun,qac (by omega)];rfl
 | succ m ih=>
  intro k n hk hn;obtain⟨n,rfl⟩:∃ j,n=j+1:=⟨n-1,by omega⟩
  have h1:k<hdig.length:=by show k<16;omega
  have h2:k<(hdig.map lo).length:=by show k<16;omega
  have i1:idx hdig (k:Int)=some (hdig.getD k 0):=by rw[qv8 _ _ h1];exact congrArg some (List.getElem_eq_getD 0)
  have i2:idx (hdig.map lo) (k:Int)=some ((hdig.map lo).getD k 0):=by rw[qv8 _ _ h2];exact congrArg some (List.getElem_eq_getD 0)
  rw[qoe,qun,qaa (by omega)]
  rw[show ([48,49,50,51,52,53,54,55,56,57,65,66,67,68,69,70]:List UInt8)=hdig from rfl]
  rw[i1,qB,qnq,hexS];by_cases q:hdig.getD k 0=c
  ·rw[qX q,qX q]
  ·rw[qW q,qW q,qwy fu hdig (by show 16<fu;omega) (by decide),qB,i2,qB,qnq]
   by_cases q2:(hdig.map lo).getD k 0=c
   ·rw[qX q2,qX q2]
   ·rw[qW q2,qW q2,qai _ (by omega),ih (k+1) n (by omega) (by omega)]
theorem q6x (fu:Nat) (hfu:17<fu) (c:UInt8):quy fu c=some (hvI c):=by
 have:=zsk fu (by omega) c 16 0 fu rfl (by omega)
 unfold quy;rw[show (0:Int)=((0:Nat):Int) from rfl,this,qpo (fun c=>hexS c 16 0=hvI c) zl6 c]
set_option maxRecDepth 100000 in
theorem zlb:∀ n:_root_.Fin 256,(hv (UInt8.ofNat n.val)).all (fun x=>decide (x.toNat<16))=true:=by decide +kernel
theorem hv16 (c x:UInt8) (h:hv c=some x):x.toNat<16:=by
 have:=qpo (fun c=>(hv c).all (fun x=>decide (x.toNat<16))=true) zlb c
 rw[h]at this;simpa using this
set_option maxRecDepth 100000 in
theorem zn6:∀ x y:_root_.Fin 16,(q2q (UInt8.ofNat x.val) (min (4:Int).toNat 8))|||UInt8.ofNat y.val=16*UInt8.ofNat x.val+UInt8.ofNat y.val/\toU8 (w64 ((w64 ((16:Int)*((UInt8.ofNat x.val).toNat:Int)))+((UInt8.ofNat y.val).toNat:Int)))=16*UInt8.ofNat x.val+UInt8.ofNat y.val:=by decide +kernel
theorem zfe (x y:UInt8) (hx1:x.toNat<16) (hy1:y.toNat<16):(q2q x (min (4:Int).toNat 8))|||y=16*x+y/\toU8 (w64 ((w64 ((16:Int)*(x.toNat:Int)))+(y.toNat:Int)))=16*x+y:=by
 have:=zn6 ⟨x.toNat,hx1⟩ ⟨y.toNat,hy1⟩;simpa using this
def zdx:Bs->Option UInt8
 | a::b::_=>hx a b
 | _=>none
theorem zqn (r:Bs):∃ v,qqa r=some (v,(zdx r).isSome)/\∀ x,zdx r=some x->v=x:=by
 match r with
 | []=>exact⟨0,rfl,fun x h=>by cases h⟩
 | [_]=>exact⟨0,rfl,fun x h=>by cases h⟩
 | a::b::t=>
  have e:qqa (a::b::t)=some ((q2q ((hv a).getD 0) (min (4:Int).toNat 8))|||(hv b).getD 0,(hv a).isSome&&(hv b).isSome):=by
   unfold qqa;rw[qac (by simp only[qL];omega),show idx (a::b::t) 0=some a from rfl,show idx (a::b::t) 1=some b from rfl]
   simp only[qB,zs2];cases (hv a).isSome<;>rfl
  rw[e,show zdx (a::b::t)=hx a b from rfl]
  unfold hx
  cases ha:hv a with
  | none=>exact⟨_,rfl,fun x h=>by cases h⟩
  | some x=>
   cases hb:hv b with
   | none=>exact⟨_,rfl,fun x h=>by cases h⟩
   | some y=>exact⟨_,rfl,fun z h=>by cases h;exact (zfe x y (hv16 a x ha) (hv16 b y hb)).1⟩
def pct:Bs->Bs
 | []=>[]
 | [c]=>[c]
 | [c,d]=>[c,d]
 | c::a::b::r=>if c=37 then (match hx a b with|some x=>x::pct r|none=>c::pct (a::b::r)) else c::pct (a::b::r)
theorem q6t (c:UInt8) (r:Bs) (h:c≠37):pct (c::r)=c::pct r:=by
 match r with
 | []=>rfl
 | [_]=>rfl
 | _::_::_=>rw[pct,qW h]
theorem zi8 (r:Bs):pct (37::r)=match zdx r with|some x=>x::pct (r.drop 2)|none=>37::pct r:=by
 match r with
 | []=>rfl
 | [_]=>rfl
 | a::b::t=>
  rw[pct,qX rfl];show _=match hx a b with|some x=>x::pct t|none=>37::pct (a::b::t)
  cases hx a b<;>rfl
theorem zgv:∀ (n:Nat) (s:Bs),s.length<=n->(pct s).length<=s.length:=by
 intro n
 induction n with
 | zero=>intro s h;have:s=[]:=List.eq_nil_of_length_eq_zero (by omega);subst this;simp[pct]
 | succ n ih=>
  intro s h
  cases s with
  | nil=>simp[pct]
  | cons c r=>
   simp only[qL]at h;have h1:=ih r (by omega)
   by_cases hc:c=37
   ·subst hc;rw[zi8]
    cases hp:zdx r with
    | none=>simp only[qL];omega
    | some x=>
     have h2:=ih (r.drop 2) (by simp;omega)
     simp only[qL,List.length_drop]at h2 ⊢;omega
   ·rw[q6t c r hc];simp only[qL];omega
theorem zq9 (fu n:Nat):∀ (vbt vbs out:Bs),vbs.length<n->vbt.length+vbs.length<100000000->out.length+vbs.length<100000000 ->
  qd2 fu n (vbt++vbs) (vbt.length:Int) out=some (out++pct vbs):=by
 have hrm:=qe7
 induction n using Nat.strongRecOn with
 | ind n ih=>
  intro vbt vbs out h hb ho;obtain⟨n,rfl⟩:∃ m,n=m+1:=⟨n-1,by omega⟩
  rw[qd2,qkw]
  cases vbs with
  | nil=>rw[qac (by simp)];simp[pct]
  | cons c t=>
   simp only[qL]at h hb ho;have one:=ih n (by omega) (vbt++[c]) t (out++[c]) (by omega) (by simp;omega) (by simp;omega)
   simp only[qM,qL,qZ,qS,wM,wO]at one;rw[qaa (by rw[qbf];omega),qan,qB,qnq,qai _ (by omega)]
   by_cases hc:c=37
   ·rw[qX hc,qaa (by rw[qbf];omega),qzs]
    obtain⟨v,h1,h2⟩:=zqn t;rw[h1,qB];subst hc;rw[zi8]
    cases hp:zdx t with
    | none=>
     rw[Option.isSome_none,qax rfl,qB,qaa (by simp;omega)]
     exact one
    | some x=>
     obtain⟨a,b,r,rfl⟩:∃ a b r,t=a::b::r:=by
      match t,hp with
      | a::b::r,_=>exact⟨a,b,r,rfl⟩
     simp only[qL]at h hb ho;rw[Option.isSome_some,qau rfl,h2 x hp,qaa (by simp;omega),show (vbt.length:Int)+2=((vbt.length+2:Nat):Int) by omega,qgo (x:=((vbt.length+2:Nat):Int)) (by omega) (by omega),qai _ (by omega)]
     have two:=ih n (by omega) (vbt++[37,a,b]) r (out++[x]) (by omega) (by simp;omega) (by simp;omega)
     simp only[qM,qL,qZ,qS,wK,List.nil_append,wO]at two;exact two
   ·rw[qW hc,qB,qaa (by simp;omega),q6t c t hc]
    exact one
def zb3 (k:Int) (v:Bs):Bs:=if k=0/\6<=v.length/\lk (v.take 6) [117,116,102,56,39,39]=true then v.drop 6 else v
def q0b (p:Pc):Bs:=if p.2.2.1=true then pct (zb3 p.2.1 p.2.2.2) else p.2.2.2
theorem q1p (fu:Nat) (hfu:90000000<=fu) (s:Bs) (h:s.length<=4000000):qcm fu s=some (pct s):=by
 unfold qcm;have:=zq9 fu fu [] s [] (by omega) (by simp;omega) (by simp;omega)
 simpa using this
theorem ztl (fu:Nat) (hfu:90000000<=fu) (p:Pc) (h:p.2.2.2.length<=4000000):qj3 fu p=some (q0b p):=by
 unfold qj3 q0b zb3;cases hs:p.2.2.1
 ·rfl
 rw[qb0,qX rfl,qnu];by_cases h0:p.2.1=0
 ·rw[qX h0];by_cases h6:6<=p.2.2.2.length
  ·rw[qaa (by omega),qaa (by omega),quu fu hfu _ _ (by show (List.take 6 _).length<=_;rw[List.length_take];omega) (by simp),qB]
   show qbe fu p.2.2.2 (lk (p.2.2.2.take 6) _)=_;rw[qbe];cases hl:lk (p.2.2.2.take 6) [117,116,102,56,39,39]
   ·rw[qax rfl,q1p fu hfu _ h,qW (by simp)]
   ·rw[qau rfl,qaa (by omega)]
    show qcm fu (p.2.2.2.drop 6)=_;rw[q1p fu hfu _ (by simp;omega),qX ⟨h0,h6,rfl⟩]
  ·rw[qac (by omega),qbe,qax rfl,q1p fu hfu _ h,qW (by omega)]
 ·rw[qW h0,qbe,qax rfl,q1p fu hfu _ h,qW (by omega)]
theorem qwi (p:Pc):(q0b p).length<=p.2.2.2.length:=by
 unfold q0b;split
 ·refine Nat.le_trans (zgv _ _ (wF _)) ?_;unfold zb3;split
  ·simp
  ·exact wF _
 ·exact wF _
theorem q8v (vbt:Bs) (c:UInt8) (t:Bs):List.take (((vbt.length+1:Nat):Int).toNat-((vbt.length:Nat):Int).toNat) (List.drop ((vbt.length:Nat):Int).toNat (vbt++c::t))=[c]:=by
 rw[quh,show ((vbt.length+1:Nat):Int).toNat-((vbt.length:Nat):Int).toNat=1 by omega];rfl
theorem z2i (fu n:Nat) (hfu:100<=fu):∀ (vbt vbs out:Bs),vbs.length<n->vbt.length+vbs.length<100000000->out.length+vbs.length<100000000 ->
  qew fu n (vbt++vbs) out (vbt.length:Int)=some (out++pct vbs):=by
 induction n using Nat.strongRecOn with
 | ind n ih=>
  intro vbt vbs out h hb ho;obtain⟨n,rfl⟩:∃ m,n=m+1:=⟨n-1,by omega⟩
  rw[qew,qoy]
  cases vbs with
  | nil=>rw[qac (by simp)];simp[pct]
  | cons c t=>
   simp only[qL]at h hb ho;have one:=ih n (by omega) (vbt++[c]) t (out++[c]) (by omega) (by simp;omega) (by simp;omega)
   simp only[qM,qL,qZ,qS,wM,wO]at one;have hno:qck fu (qew fu n) (vbt++c::t) out (vbt.length:Int) false=some (out++c::pct t):=by
    rw[qck,qax rfl,qai _ (by omega),qaa (by rw[qbf];omega),q8v,qaa (by simp[qad];omega),one]
    try simp
   rw[qaa (by rw[qbf];omega),qan,qB,qnq,show (vbt.length:Int)+2=((vbt.length+2:Nat):Int) by omega,qgo (x:=((vbt.length+2:Nat):Int)) (by omega) (by omega),qai _ (by omega)]
   by_cases hc:c=37
   ·subst hc;rw[qX rfl,zi8]
    match t with
    | []=>rw[qac (by rw[qbf];simp only[qZ];omega),hno];rfl
    | [x]=>rw[qac (by rw[qbf];simp only[qL,qZ];omega),hno];rfl
    | a::b::r=>
     simp only[qL]at h hb ho;have i1:idx (vbt++37::a::b::r) ((vbt.length+1:Nat):Int)=some a:=by have:=qan (vbt++[37]) a (b::r);simpa using this
     have i2:idx (vbt++37::a::b::r) ((vbt.length+2:Nat):Int)=some b:=by have:=qan (vbt++[37,a]) b r;simpa using this
     rw[qaa (by rw[qbf];simp only[qL];omega),i1,qB,q6x fu (by omega),qB]
     show _=some (out++match hx a b with|some x=>x::pct r|none=>37::pct (a::b::r))
     unfold hx
     cases ha:hv a with
     | none=>
      have:hvI a = -1:=by unfold hvI;rw[ha]
      rw[this,qac (by omega),hno];rfl
     | some x=>
      have hI:hvI a=(x.toNat:Int):=by unfold hvI;rw[ha]
      rw[hI,qaa (by omega),i2,qB,q6x fu (by omega),qB]
      cases hb':hv b with
      | none=>
       have:hvI b = -1:=by unfold hvI;rw[hb']
       rw[this,decide_eq_false (by omega),hno];rfl
      | some y=>
       have hJ:hvI b=(y.toNat:Int):=by unfold hvI;rw[hb']
       rw[hJ,decide_eq_true (by omega),qck,qau rfl,qai _ (by omega),i1,qB,q6x fu (by omega),qB,show (vbt.length:Int)+2=((vbt.length+2:Nat):Int) by omega,qgo (x:=((vbt.length+2:Nat):Int)) (by omega) (by omega),i2,qB,q6x fu (by omega),qB,hI,hJ,(zfe x y (hv16 a x ha) (hv16 b y hb')).2,qaa (by simp[qad];omega),qai _ (by omega)]
       have two:=ih n (by omega) (vbt++[37,a,b]) r (out++[16*x+y]) (by omega) (by simp;omega) (by simp;omega)
       simp only[qM,qL,qZ,qS,wK,List.nil_append,wO]at two;exact two
   ·rw[qW hc,hno,q6t c t hc]
theorem z19 (fu:Nat) (hfu:90000000<=fu) (s:Bs) (h:s.length<=4000000):qpt fu s=some (pct s):=by
 have:=z2i fu fu (by omega) [] s [] (by omega) (by simp;omega) (by simp;omega)
 simpa [qpt] using this
end Go.Sym
namespace Go.Sym
def q2c (k:UInt8):Bs->Option (Bs×Bs)
 | []=>none
 | c::t=>if c=k then some ([],t) else (q2c k t).map fun x=>(c::x.1,x.2)
theorem q54 (k:UInt8) (t r:Bs) (h:∀ x∈t,x≠k):q2c k (t++k::r)=some (t,r):=by
 induction t with
 | nil=>rw[List.nil_append,q2c,qX rfl]
 | cons c t ih=>
  rw[wK,q2c,qW (h c qH),ih (fun x hx=>h x (qE _ hx))];rfl
theorem q57 (k:UInt8) (t:Bs) (h:∀ x∈t,x≠k):q2c k t=none:=by
 induction t with
 | nil=>rfl
 | cons c t ih=>rw[q2c,qW (h c qH),ih (fun x hx=>h x (qE _ hx))];rfl
theorem zer (s:Bs) (k:UInt8):qcs s [k]=some (Lib.indexByte s k):=by
 unfold qcs;rw[qax (by rfl)]
 unfold qb1;by_cases h:[k]=s
 ·subst h;rw[qau (by simp)];show some 0=some (Lib.indexByte ([]++[k]) k);rw[ze7 k [] [] (by simp)];rfl
 ·rw[qax (by simpa using h),qau (by rfl),show idx [k] 0=some k from rfl];rfl
theorem zri (s:Bs) (k:UInt8) (h:s.length<=4000000):qmq s [k]=some (match q2c k s with|some x=>(x.1,(x.2,true))|none=>(s,([],false))):=by
 unfold qmq qfs;rw[zer,qB];rcases qxs k s with ⟨t,r,rfl,ht⟩|hn
 ·rw[qM,qL]at h;rw[ze7 k t r ht,q54 k t r ht,qaa (by omega),qaa (by rw[qbf];omega),show (([k]:Bs).length:Int)=1 from rfl,qai _ (by omega),qaa (by rw[qbf];omega),qzs,quq];rfl
 ·rw[zdv k s hn,q57 k s hn,qac (by omega)];rfl
def qq0 (s:Bs):Bs×Bool:=if s.getLast? = some 42 then (s.dropLast,true) else (s,false)
theorem zl9 (t:Bs) (hb:t.length<=4000000):qis t [42]=some (qq0 t):=by
 unfold qis qde qa6 qq0;rw[show (([42]:List UInt8).length:Int)=1 from rfl]
 rcases List.eq_nil_or_concat t with rfl|⟨u,c,rfl⟩
 ·rfl
 ·rw[List.concat_eq_append]at *;simp only[qM,qL,qZ]at hb;rw[qnf,qvs _ (by omega),qaa (by omega),qaa (by omega),qB,List.getLast?_concat,List.dropLast_concat]
  have e:List.drop ((u.length:Nat):Int).toNat (u++[c])=[c]:=quh u [c];rw[e,qyp];by_cases hc:c=42
  ·subst hc;rw[qX rfl,show ([(42:UInt8)]==[42])=true from rfl,qb0,qaa (by omega)];rfl
  ·rw[qW (by simpa using hc),show ([c]==[(42:UInt8)])=false by simpa using hc];rfl
def qjw (nm v:Bs):Option Pc:=match q2c 42 nm with
 | none=>if nm=[] then none else some (nm,-1,false,v)
 | some x=>if x.1≠[]/\(numS (qq0 x.2).1 1099511627776).2=true then some (x.1,(numS (qq0 x.2).1 1099511627776).1,(qq0 x.2).2,v) else none
def qme (nm v:Bs):Option Pc:=match qjw nm v with
 | some p=>if p.2.1<1000000000 then some p else none
 | none=>none
theorem q73 {k:UInt8} {s:Bs} {x:Bs×Bs} (h:q2c k s=some x):x.1.length+x.2.length<s.length:=by
 rcases qxs k s with ⟨t,r,rfl,ht⟩|hn
 ·rw[q54 k t r ht]at h;cases h;simp only[qM,qL];omega
 ·rw[q57 k s hn]at h;cases h
theorem q2d (s:Bs):(qq0 s).1.length<=s.length:=by unfold qq0;split<;>simp
theorem q5m {nm v:Bs} {p:Pc} (h:qjw nm v=some p):p.1.length<=nm.length/\p.2.2.2=v /\ -1<=p.2.1/\p.2.1<=1099511627776/\p.1≠[]:=by
 unfold qjw at h
 cases hc:q2c 42 nm with
 | none=>
  rw[hc]at h;simp only at h;by_cases hn:nm=[]
  ·rw[qX hn]at h;cases h
  ·rw[qW hn]at h;cases h;exact⟨wF _,rfl,by simp only;omega,by simp only;omega,hn⟩
 | some x=>
  rw[hc]at h;simp only at h;by_cases hn:x.1≠[]/\(numS (qq0 x.2).1 1099511627776).2=true
  ·rw[qX hn]at h;obtain⟨u,_,h1,h2⟩:=q6s hn.2;have hl:=q73 hc;cases h
   rw[h2];exact⟨by simp only;omega,rfl,by simp only;omega,by simp only;omega,hn.1⟩
  ·rw[qW hn]at h;cases h
theorem zju (s:Bs) (h:s.length<=4000000):qgw s 1099511627776=some (numS s 1099511627776):=by unfold qgw;rw[qaa (by omega)]
theorem zkw (fu:Nat) (hfu:90000000<=fu) (s:Bs) (h:s.length<=4000000):∃ R,qio fu s=some R/\match lexP s with
  | none=>R.2.1=false
  | some x=>match qjw x.1.1 x.1.2 with
   | none=>R.2.1=false
   | some p=>R=(p,(true,x.2)):=by
 have l1:=qr6 tkS s;have l2:=qty 61 (qeo tkS s).2;unfold qio lexP;rw[znp fu hfu s h,qB,q1m fu hfu 61 _ (by omega),qB]
 cases hs:(qjq 61 (qeo tkS s).2).1
 ·rw[qek,qW (by simp)];exact⟨_,rfl,rfl⟩
 rw[qb0,qX rfl];obtain⟨r,hv⟩:=zld fu hfu (qjq 61 (qeo tkS s).2).2 (by omega)
 rw[hv,qB,zri _ 42 (by omega),qB]
 generalize hx:valS (qjq 61 (qeo tkS s).2).2=vs;generalize hn:(qeo tkS s).1=nm at *
 cases hc:q2c 42 nm with
 | none=>
  simp only[qF]
  cases vs with
  | none=>exact⟨_,rfl,rfl⟩
  | some x=>
   refine⟨_,rfl,?_⟩;simp only[wQ];unfold qjw;rw[hc]
   cases nm with
   | nil=>rfl
   | cons c nm=>rfl
 | some y=>
  have l3:=q73 hc;have l4:=q2d y.2;simp only[qT];rw[zl9 _ (by omega),qB,zju _ (by omega),qB]
  cases vs with
  | none=>exact⟨_,rfl,rfl⟩
  | some x=>
   simp only[qT,wQ];unfold qjw;rw[hc];simp only;cases hq:(numS (qq0 y.2).1 1099511627776).2
   ·rw[qW (by simp)];exact⟨_,rfl,rfl⟩
   ·by_cases hy:y.1=[]
    ·rw[qW (by simp[hy])];refine⟨_,rfl,?_⟩;simp[hy]
    ·rw[qX ⟨hy,rfl⟩];refine⟨_,rfl,?_⟩;simp only;congr 2
     cases hy1:y.1 with
     | nil=>exact absurd hy1 hy
     | cons=>rfl
def psG (f:Bs->Bs->Option Pc):Nat->List Pc->Bs->Option (List Pc)
 | 0,_,_=>none
 | n+1,acc,s=>match qbl s with
  | []=>some acc
  | c::t=>if c=59 then (match lexP t with
   | none=>none
   | some x=>match f x.1.1 x.1.2 with
    | none=>none
    | some p=>psG f n (acc++[p]) x.2) else none
def szQ (l:List Pc):Nat:=(l.map fun p=>p.1.length+p.2.2.2.length+1).sum
theorem zhe (l:List Pc) (p:Pc):szQ (l++[p])=szQ l+(p.1.length+p.2.2.2.length+1):=by unfold szQ;simp
theorem qn5 (l:List Pc):l.length<=szQ l:=by
 unfold szQ
 induction l with
 | nil=>simp
 | cons p l ih=>simp only[List.map_cons,List.sum_cons,qL];omega
def zah (R:qne):Prop:=match R with | .inl x=>x.2.2=false | .inr x=>x.2.2.1=false
def nb (p:Pc):Prop := -1<=p.2.1/\p.2.1<=1099511627776
theorem z64 (fu:Nat) (hfu:90000000<=fu) (Qp:List Pc->Bool×List Prm) (hQ:∀ l,szQ l<=300000->(∀ x∈l,nb x)->qja fu l=some (Qp l)) (a b T S:Bs):∀ (n:Nat) (s:Bs) (acc:List Pc),szQ acc+s.length<=300000->s.length<n->(∀ x∈acc,nb x) ->
  ∃ R,qi2 fu n a b s T S acc=some R/\match psG qjw n acc s with
   | none=>zah R
   | some l=>if (Qp l).1=true then R = .inr (T,(S,(true,(Qp l).2))) else zah R:=by
 have hrm:=qe7;intro n
 induction n with
 | zero=>intro s acc _ h;exact absurd h (by omega)
 | succ n ih=>
  intro s acc hz h hnb;have hl:=qgi s;have hal:=qn5 acc;rw[qi2,qqv,q1m fu hfu 59 s (by omega),qB,psG]
  unfold qjq
  cases ht:qbl s with
  | nil=>
   simp only[qF];rw[qtx fu hfu [] (by simp),qB,hQ acc (by omega) hnb,qB]
   cases hq:(Qp acc).1
   ·refine⟨_,rfl,?_⟩;rw[qW (by simp)];rfl
   ·refine⟨_,rfl,?_⟩;rw[qX rfl];rfl
  | cons c t=>
   rw[ht]at hl;simp only[qL]at hl;by_cases hc:c=59
   ·simp only[qX hc,qT];obtain⟨R,h1,h2⟩:=zkw fu hfu t (by omega)
    rw[h1,qB]
    cases hx:lexP t with
    | none=>
     rw[hx]at h2;simp only at h2;rw[h2,qek];exact⟨_,rfl,rfl⟩
    | some x=>
     rw[hx]at h2;simp only at h2 ⊢;have hxl:=(q6b (n:=x.1.1) (v:=x.1.2) (t:=x.2) hx).1
     cases hp:qjw x.1.1 x.1.2 with
     | none=>
      rw[hp]at h2;simp only at h2;rw[h2,qek];exact⟨_,rfl,rfl⟩
     | some p=>
      rw[hp]at h2;simp only at h2 ⊢;obtain⟨g1,g2,g3,g4,_⟩:=q5m hp;subst h2;have hz2:szQ (acc++[p])+x.2.length<=300000:=by rw[zhe,g2];omega
      rw[qb0,qaa (by simp;omega)]
      exact ih x.2 (acc++[p]) hz2 (by omega) (fun y hy=>(List.mem_append.1 hy).elim (hnb y) (fun e=>by rw[List.mem_singleton.1 e];exact⟨g3,g4⟩))
   ·simp only[qW hc,qF];rw[qtx fu hfu (c::t) (by simp only[qL];omega),qB,show qbl (c::t)=c::t by rw[← ht,qrs],hQ acc (by omega) hnb,qB]
    cases hq:(Qp acc).1
    ·exact⟨_,rfl,rfl⟩
    ·exact⟨_,rfl,rfl⟩
def qvd (f:Bs->Bs->Option Pc) (s:Bs):Option (Bs×Bs×List Pc):=
 let a:=qeo tk s;let b:=qjq 47 a.2;let c:=qeo tk b.2
 if a.1=[]\/b.1=false\/c.1=[] then none else (psG f (s.length+1) [] c.2).map fun l=>(a.1,c.1,l)
theorem qzn (f:Bs->Bs->Option Pc):∀ (n:Nat) (acc:List Pc) (s:Bs),s.length<n->psG f n acc s=psG f (s.length+1) acc s:=by
 intro n
 induction n using Nat.strongRecOn with
 | ind n ih=>
  intro acc s h;obtain⟨n,rfl⟩:∃ m,n=m+1:=⟨n-1,by omega⟩
  have hl:=qgi s;rw[psG,psG]
  cases ht:qbl s with
  | nil=>rfl
  | cons c t=>
   rw[ht]at hl;simp only[qL]at hl;simp only;by_cases hc:c=59
   ·rw[qX hc,qX hc]
    cases hx:lexP t with
    | none=>rfl
    | some x=>
     have hxl:=(q6b (n:=x.1.1) (v:=x.1.2) (t:=x.2) hx).1;simp only
     cases f x.1.1 x.1.2 with
     | none=>rfl
     | some p=>
      simp only;rw[ih n (by omega) _ _ (by omega)]
      by_cases he:s.length=n
      ·rw[he];exact (ih n (by omega) _ _ (by omega)).symm
      ·rw[ih s.length (by omega) _ _ (by omega)]
   ·rw[qW hc,qW hc]
theorem zg5 (fu:Nat) (hfu:90000000<=fu) (Qp:List Pc->Bool×List Prm) (hQ:∀ l,szQ l<=300000->(∀ x∈l,nb x)->qja fu l=some (Qp l)) (s:Bs) (h:s.length<=300000) :
  ∃ R,qq8 fu s=some R/\match qvd qjw s with
   | none=>zah R
   | some m=>if (Qp m.2.2).1=true then R = .inr (m.1,(m.2.1,(true,(Qp m.2.2).2))) else zah R:=by
 have l1:=qr6 tk s;have l2:=qty 47 (qeo tk s).2;have l3:=qr6 tk (qjq 47 (qeo tk s).2).2;unfold qq8 qvd;rw[zcu fu hfu s (by omega),qB,q1m fu hfu 47 _ (by omega),qB,zcu fu hfu _ (by omega),qB]
 simp only[];generalize ha:qeo tk s=A at *;generalize hb:qjq 47 A.2=B at *;generalize hc:qeo tk B.2=C at *
 cases h1:A.1 with
 | nil=>rw[qau (by rfl),qda,qau rfl,qX (.inl rfl)];exact⟨_,rfl,rfl⟩
 | cons x1 y1=>
  rw[qax (by rfl)]
  cases h2:B.1 with
  | false=>rw[qek,qda,qau rfl,qX (.inr (.inl rfl))];exact⟨_,rfl,rfl⟩
  | true=>
   rw[qb0]
   cases h3:C.1 with
   | nil=>rw[qda,qau (by rfl),qX (.inr (.inr rfl))];exact⟨_,rfl,rfl⟩
   | cons x3 y3=>
    rw[qda,qax (by rfl),qW (by simp),qqx]
    obtain⟨R,g1,g2⟩:=z64 fu hfu Qp hQ [] [] (x1::y1) (x3::y3) fu C.2 [] (by simp[szQ];omega) (by omega) (by simp)
    refine⟨R,g1,?_⟩;rw[qzn _ fu _ _ (by omega)]at g2
    rw[qzn _ (s.length+1) _ _ (by omega)]
    cases hp:psG qjw (C.2.length+1) [] C.2 with
    | none=>rw[hp]at g2;exact g2
    | some l=>rw[hp]at g2;exact g2
end Go.Sym
namespace Go.Sym
theorem zqd (c k:UInt8) (t:Bs):Lib.indexByte (c::t) k=if c=k then 0 else if Lib.indexByte t k<0 then -1 else Lib.indexByte t k+1:=by
 rw[Lib.indexByte];by_cases h:c=k
 ·rw[qX (by simpa using h),qX h]
 ·rw[qW (by simpa using h),qW h]
  rcases qxs k t with ⟨a,r,rfl,ha⟩|hn
  ·rw[ze7 k a r ha,qW (by simp),qW (by omega)]
  ·rw[zdv k t hn];rfl
theorem zm2 (fu n:Nat) (k:UInt8):∀ (vbt vbs:Bs),vbs.length<n->vbt.length+vbs.length<100000000 ->
  qp4 fu n (vbt++vbs) [k] (vbt.length:Int)=some (if Lib.indexByte vbs k<0 then -1 else (vbt.length:Int)+Lib.indexByte vbs k):=by
 induction n with
 | zero=>intro vbt vbs h;exact absurd h (by omega)
 | succ n ih=>
  intro vbt vbs h hb;rw[qp4,qwl,show (([k]:Bs).length:Int)=1 from rfl]
  cases vbs with
  | nil=>rw[qai _ (by simp only[qZ]at hb;omega),qac (by simp;omega)];rfl
  | cons c t=>
   simp only[qL]at h hb;rw[qai _ (by omega),qaa (by rw[qbf];omega),qaa (by rw[qbf];omega),quh,zqd]
   have e:List.take (((vbt.length+1:Nat):Int).toNat-((vbt.length:Nat):Int).toNat) (c::t)=[c]:=by
    rw[show ((vbt.length+1:Nat):Int).toNat-((vbt.length:Nat):Int).toNat=1 by omega];rfl
   rw[e];by_cases hc:c=k
   ·rw[qau (by simpa using hc),qX hc,qW (by omega)];simp
   ·rw[qax (by simpa using hc),qW hc]
    have:=ih (vbt++[c]) t (by omega) (by simp;omega)
    simp only[qM,qL,qZ,qS,wM,wO]at this;rw[this];by_cases h0:Lib.indexByte t k<0
    ·rw[qX h0,qX h0,qX (by omega)]
    ·rw[qW h0,qW h0,qW (by omega)];congr 1;omega
theorem zlm (fu:Nat) (hfu:90000000<=fu) (k:UInt8) (s:Bs) (h:s.length<=4000000):qzu fu s [k] 0=some (Lib.indexByte s k):=by
 have:=zm2 fu fu k [] s (by omega) (by simp;omega)
 simp only[List.nil_append,qZ,Int.natCast_zero,Int.zero_add]at this;unfold qzu;refine this.trans ?_;rcases qxs k s with ⟨a,r,rfl,ha⟩|hn
 ·rw[ze7 k a r ha,qW (by omega)]
 ·rw[zdv k s hn];rfl
abbrev Pd:Type:=Bs×Bs×Int×Bool
def toD (p:Pc):Pd:=(p.1,p.2.2.2,p.2.1,p.2.2.1)
theorem zmr (fu:Nat) (hfu:90000000<=fu) (b v s:Bs) (st:Bool) (z:Pd) (h:s.length<=4000000):∃ R,qho fu s z (b,(v,((-1:Int),st)))=some R /\
  match (if b≠[] then numD s else none) with
  | some k=>R=((b,v,k,st),true)
  | none=>R.2=false:=by
 unfold qho;obtain⟨x,h1,h2⟩:=zqr fu (by omega) s (by omega) (by omega)
 rw[h1,qB]
 cases b with
 | nil=>exact⟨_,rfl,rfl⟩
 | cons c b=>
  rw[qX (by simp)]
  rw[qau (by rfl)]
  rcases h2 with ⟨g1,g2,g3⟩|⟨g1,g2⟩
  ·rw[qaa g2,g3,qB,g1];exact⟨_,rfl,by simp⟩
  ·rw[g1];rcases g2 with g2|⟨g2,t,g3,g4⟩
   ·rw[qac (by omega)];exact⟨_,rfl,rfl⟩
   ·rw[qaa g2,g3,qB];exact⟨_,rfl,by simpa using g4⟩
theorem zd9 (fu:Nat) (hfu:90000000<=fu) (nm v:Bs) (h:nm.length<=4000000):∃ R,qst fu nm v=some R/\match qme nm v with
  | some p=>R=(toD p,true)
  | none=>R.2=false:=by
 unfold qst;rw[zlm fu hfu 42 nm h,qB];rcases qxs 42 nm with ⟨t,r,rfl,ht⟩|hn
 ·simp only[qM,qL]at h;rw[ze7 42 t r ht,qac (by omega),qai _ (by omega),qaa (by rw[qbf];omega),qaa (by rw[qbf];omega),qzs,quq]
  have key:∀ (s:Bs) (st:Bool),qq0 r=(s,st)->(∃ R,qho fu s ([],([],((0:Int),false))) (t,(v,((-1:Int),st)))=some R/\match qme (t++42::r) v with
    | some p=>R=(toD p,true)
    | none=>R.2=false):=by
   intro s st he;have hsl:=q2d r;rw[he]at hsl;simp only at hsl;obtain⟨R,h1,h2⟩:=zmr fu hfu t v s st ([],([],((0:Int),false))) (by omega)
   refine⟨R,h1,?_⟩;unfold qme qjw;rw[q54 42 t r ht];simp only[he];by_cases hb:t=[]
   ·rw[qW (by simp[hb])]
    rw[qW (by simp[hb])]at h2
    exact h2
   ·rw[qX hb]at h2;unfold numD at h2;cases hq:(numS s 1099511627776).2
    ·rw[qW (by simp[hq])]at h2
     rw[qW (by simp)]
     exact h2
    ·rw[qX ⟨hb,rfl⟩];simp only;by_cases hlt:(numS s 1099511627776).1<1000000000
     ·rw[qX ⟨hq,hlt⟩]at h2;rw[qX hlt];exact h2
     ·rw[qW (by simp[hlt])]at h2;rw[qW hlt];exact h2
  rcases List.eq_nil_or_concat r with rfl|⟨u,c,rfl⟩
  ·rw[qac (by simp),qkg,qax rfl]
   exact key [] false rfl
  ·rw[List.concat_eq_append]at *;simp only[qM,qL,qZ]at h;rw[qaa (by simp only[qM,qL,qZ];omega),qnf,qvs _ (by omega),qw4,qB,qkg]
   by_cases hc:c=42
   ·subst hc;rw[qau (by rfl),qnf,qvs _ (by omega),qaa (by omega),qyp]
    exact key u true (by unfold qq0;simp)
   ·rw[qax (by simpa using hc)]
    exact key (u++[c]) false (by unfold qq0;rw[qW (by simpa using hc)])
 ·rw[zdv 42 nm hn,qaa (by omega)]
  refine⟨_,rfl,?_⟩;unfold qme qjw;rw[q57 42 nm hn]
  cases nm with
  | nil=>rfl
  | cons c nm=>rfl
def bad:qaj:=(([],([],[])),false)
theorem z8j (fu:Nat) (r2:qr4) (s nm a b T S:Bs) (acc:List Pd) (hb:s.length<=4000000):∀ (n:Nat) (r out:Bs),r <:+ s->r.length+1<n->out.length+r.length<100000000 ->
  qcr fu r2 n s (pos s r) nm out a b T S acc=match qv out r with
   | some x=>qc1 fu r2 s (pos s x.2) nm x.1 a b T S acc
   | none=>some bad:=by
 intro n
 induction n using Nat.strongRecOn with
 | ind n ih=>
  intro r out hr h ho;obtain⟨n,rfl⟩:∃ m,n=m+1:=⟨n-1,by omega⟩
  rw[qcr,qk8]
  cases r with
  | nil=>rw[qjo,qac (by omega),qed,qax rfl,qau (by simp)];rfl
  | cons c t=>
   have ht:t <:+ s:=(List.suffix_cons _ _).trans hr;simp only[qL]at h ho;rw[qaa (qtu hr),qwo hr,qB,qzz,qed,q0l];by_cases h1:c=34
   ·rw[qW (by simp[h1]),qX h1,qax (by have:=qtu hr;simp;omega),qm7 hr (by omega)]
   rw[qX h1,qW h1,qm9,qwo hr,qB,qnq,qm7 hr (by omega)]
   have p18:∀ (d:UInt8) (u:Bs),(d::u) <:+ s->qgd fu r2 (qcr fu r2 n) s (pos s (d::u)) nm out a b T S acc=qcr fu r2 n s (pos s u) nm (out++[d]) a b T S acc:=by
    intro d u hd;have hu:=hd.length_le;have g1:=qy2 s (d::u);have g2:=qy2 s u;have g3:=zj7 (s:=s) (List.suffix_cons d u);rw[qgd,qm7 hd (by omega),qaa (by omega),q7b hd (List.suffix_cons _ _),show (d::u).take ((d::u).length-u.length)=[d] by simp,qaa (by simp[qad];omega)]
   by_cases h2:c=92
   ·rw[qX h2,qX h2]
    cases t with
    | nil=>
     rw[qjo,qeb,qac (by omega),p18 c [] hr]
     obtain⟨n,rfl⟩:∃ m,n=m+1:=⟨n-1,by simp only[qZ]at h;omega⟩
     rw[qcr,qk8,qjo,qac (by omega),qed,qax rfl,qau (by simp)];rfl
    | cons d u=>
     simp only[qL]at h ho;rw[qeb,qaa (qtu ht),qm7 hr (by omega),p18 d u ht]
     simp only;exact ih n (by omega) u (out++[d]) ((List.suffix_cons _ _).trans ht) (by omega) (by simp;omega)
   ·rw[qW h2,qW h2,qeb,qax rfl,p18 c t hr];exact ih n (by omega) t (out++[c]) ht (by omega) (by simp;omega)
theorem z69 (c:UInt8):(tk c||([42]:Bs).contains c)=tkS c:=by unfold tkS;rw[show ([42]:Bs).contains c=(c==42) by rw[Bool.eq_iff_iff];simp]
theorem zun (c:UInt8):(tk c||([37,39,42]:Bs).contains c)=tkV c:=by unfold tkV;rw[show ([37,39,42]:Bs).contains c=(c==37||(c==39||c==42)) by rw[Bool.eq_iff_iff];simp]
theorem tk_c (c:UInt8):(tk c||([]:Bs).contains c)=tk c:=by simp
theorem q2s (p:UInt8->Bool) {s r:Bs} (hr:r <:+ s):(0<=pos s r/\pos s r<=pos s (r.dropWhile p)/\pos s (r.dropWhile p)<=(s.length:Int))/\List.take ((pos s (r.dropWhile p)).toNat-(pos s r).toNat) (List.drop (pos s r).toNat s)=r.takeWhile p:=by
 refine⟨⟨(qy2 s r).1,zj7 (List.dropWhile_suffix p),(qy2 s _).2⟩,?_⟩;rw[q7b hr (List.dropWhile_suffix p),zev]
theorem zuo (fu:Nat) (hfu:90000000<=fu) (r2:qr4) (s nm v a b T S:Bs) (acc:List Pc) (hb:s.length<=4000000) (hn:nm.length<=4000000) (ha:acc.length<=4000000) (r:Bs) (hr:r <:+ s) :
  qc1 fu r2 s (pos s r) nm v a b T S (acc.map toD)=match qme nm v with
   | some p=>r2 s (pos s (qbl r)) a b T S ((acc++[p]).map toD)
   | none=>some bad:=by
 have hrm:=qe7;obtain⟨R,h1,h2⟩:=zd9 fu hfu nm v hn;rw[qc1,h1,qB]
 cases hp:qme nm v with
 | none=>rw[hp]at h2;simp only at h2;rw[h2,qek];rfl
 | some p=>
  rw[hp]at h2;simp only at h2 ⊢;subst h2;rw[qb0,qaa (by simp;omega),qv4 fu hfu hb hr,qB,List.map_append];rfl
theorem z5u (fu:Nat) (hfu:90000000<=fu) (s a b T S:Bs) (hb:s.length<=4000000):∀ (n:Nat) (r:Bs) (acc:List Pc),r <:+ s->qbl r=r->r.length<n->acc.length+r.length<=4000000 ->
  qey fu n s (pos s r) a b T S (acc.map toD)=match psG qme n acc r with
   | none=>some bad
   | some l=>qa3 fu fu 0 a b T S (l.map toD) []:=by
 intro n
 induction n with
 | zero=>intro r acc _ _ h;exact absurd h (by omega)
 | succ n ih=>
  intro r acc hr hlt h hacc;rw[qey,qo0,psG,hlt]
  cases r with
  | nil=>rw[qjo,qac (by omega)]
  | cons c t=>
   have ht:t <:+ s:=(List.suffix_cons _ _).trans hr;simp only[qL]at h hacc;rw[qaa (qtu hr),qwo hr,qB,q0l];simp only;by_cases hc:c=59
   ·rw[qW (by simp[hc]),qX hc,qm7 hr (by omega),qv4 fu hfu hb ht,qB]
    have h1:qbl t <:+ s:=(qes t).trans ht;rw[q8t fu hfu [42] (by simp) hb h1 tkS z69,qB]
    obtain⟨ok1,ok2⟩:=q2s tkS h1;have h2:(qbl t).dropWhile tkS <:+ s:=(List.dropWhile_suffix tkS).trans h1;have hnl:((qbl t).takeWhile tkS).length<=4000000:=by
     have:=(List.takeWhile_prefix (l:=qbl t) tkS).length_le;have:=qgi t;omega
    rw[qaa ok1,qv4 fu hfu hb h2,qB,ok2];unfold lexP qeo qjq;simp only;have h3:qbl ((qbl t).dropWhile tkS) <:+ s:=(qes _).trans h2;have hl3:(qbl ((qbl t).dropWhile tkS)).length<=t.length:=by
     have g1:=qgi ((qbl t).dropWhile tkS);have g2:=(List.dropWhile_suffix (l:=qbl t) tkS).length_le;have g3:=qgi t;omega
    generalize qbl ((qbl t).dropWhile tkS)=u at *;generalize (qbl t).takeWhile tkS=nm at *
    cases u with
    | nil=>rw[qjo,qau (by simp),qic,qau rfl];simp;rfl
    | cons d u=>
     have h4:u <:+ s:=(List.suffix_cons _ _).trans h3;simp only[qL]at hl3;rw[qax (by have:=qtu h3;simp;omega),qwo h3,qB,qic,q0l]
     by_cases hd:d=61
     ·rw[qW (by simp[hd])]
      simp only[qX hd,if_true];rw[qo5,qm7 h3 (by omega),qv4 fu hfu hb h4,qB]
      have h5:qbl u <:+ s:=(qes u).trans h4;have hl5:=qgi u;have fin:∀ (v w:Bs),w <:+ s->w.length<=u.length->qc1 fu (qey fu n) s (pos s w) nm v a b T S (acc.map toD)=match (match qme nm v with
        | none=>none
        | some p=>psG qme n (acc++[p]) w) with
        | none=>some bad
        | some l=>qa3 fu fu 0 a b T S (l.map toD) []:=by
       intro v w hw hwl;rw[zuo fu hfu _ s nm v a b T S acc hb hnl (by omega) w hw]
       cases qme nm v with
       | none=>rfl
       | some p=>
        simp only;have g1:=qgi w;rw[ih (qbl w) (acc++[p]) ((qes w).trans hw) (qrs w) (by omega) (by simp;omega)]
        have e:psG qme n (acc++[p]) (qbl w)=psG qme n (acc++[p]) w:=by
         cases n with
         | zero=>rfl
         | succ n=>rw[psG,psG,qrs]
        rw[e]
      unfold valS qjq
      cases hu:qbl u with
      | nil=>
       rw[qjo,qac (by omega),qhx,qax rfl]
       have hnil:([]:Bs) <:+ s:=List.nil_suffix;have r1:=q8t fu hfu [37,39,42] (by simp) hb hnil tkV zun
       obtain⟨q1,q2⟩:=q2s tkV hnil;rw[qjo]at r1 q1 q2;rw[r1,qB,qaa q1,q2];simp only[wJ,if_false,wQ];exact fin [] [] hnil (by simp)
      | cons e w=>
       rw[hu]at h5 hl5;simp only[qL]at hl5;have h6:w <:+ s:=(List.suffix_cons _ _).trans h5;rw[qaa (qtu h5),qwo h5,qB,qhx];by_cases he:e=34
       ·rw[qau (by simpa using he),qm7 h5 (by omega)]
        simp only[qX he,if_true];rw[z8j fu _ s nm a b T S _ hb fu w [] h6 (by omega) (by simp;omega)]
        cases hq:qv [] w with
        | none=>rfl
        | some x=>
         have:=zo1 [] w x.1 x.2 hq;simp only[wQ];exact fin x.1 x.2 (this.2.trans h6) (by have:=this.2.length_le;omega)
       ·rw[qax (by simpa using he)]
        simp only[qW he,wJ,if_false,wQ];rw[q8t fu hfu [37,39,42] (by simp) hb h5 tkV zun,qB]
        obtain⟨q1,q2⟩:=q2s tkV h5;rw[qaa q1,q2];unfold qeo;have hle:qbl (e::w)=e::w:=by rw[← hu,qrs]
        rw[hle];have hdl:=(List.dropWhile_suffix (l:=e::w) tkV).length_le;simp only[qL]at hdl;exact fin _ _ ((List.dropWhile_suffix tkV).trans h5) (by omega)
     ·rw[qX hd];simp only[qW hd,wJ,if_false];rfl
   ·rw[qX hc,qW hc];rfl
theorem zez (fu:Nat) (hfu:90000000<=fu) (s:Bs) (h:s.length<=300000):qlk fu s=match qvd qme s with
  | none=>some bad
  | some m=>qa3 fu fu 0 [] [] m.1 m.2.1 (m.2.2.map toD) []:=by
 have hb:s.length<=4000000:=by omega
 have h0:s <:+ s:=List.suffix_refl s;have h1:qbl s <:+ s:=qes s;unfold qlk qvd;have sk:=qv4 fu hfu hb h0;rw[zbk]at sk;rw[sk,qB,q8t fu hfu [] (by simp) hb h1 tk tk_c,qB]
 obtain⟨ok1,ok2⟩:=q2s tk h1;have h2:(qbl s).dropWhile tk <:+ s:=(List.dropWhile_suffix tk).trans h1;rw[qaa ok1,qv4 fu hfu hb h2,qB,ok2];unfold qeo qjq;simp only;have h3:qbl ((qbl s).dropWhile tk) <:+ s:=(qes _).trans h2;generalize qbl ((qbl s).dropWhile tk)=u at *
 cases hT:(qbl s).takeWhile tk with
 | nil=>rw[qau (by rfl),qdk,qau rfl,qX (.inl rfl)];rfl
 | cons x y=>
  rw[qax (by rfl)]
  cases u with
  | nil=>rw[qjo,qau (by simp),qdk,qau rfl,qX (.inr (.inl rfl))];rfl
  | cons d u=>
   have h4:u <:+ s:=(List.suffix_cons _ _).trans h3;rw[qax (by have:=qtu h3;simp;omega),qwo h3,qB,qdk,q0l]
   by_cases hd:d=47
   ·rw[qW (by simp[hd]),qo2,qm7 h3 (by omega),qv4 fu hfu hb h4,qB]
    simp only[qX hd];have h5:qbl u <:+ s:=(qes u).trans h4;rw[q8t fu hfu [] (by simp) hb h5 tk tk_c,qB]
    obtain⟨q1,q2⟩:=q2s tk h5;rw[qaa q1,q2];have h6:(qbl u).dropWhile tk <:+ s:=(List.dropWhile_suffix tk).trans h5
    cases hS:(qbl u).takeWhile tk with
    | nil=>rw[qau (by rfl),qX (.inr (.inr rfl))];rfl
    | cons x3 y3=>
     rw[qax (by rfl),qW (by simp),qv4 fu hfu hb h6,qB]
     have hl6:=h6.length_le;have hl7:=qgi ((qbl u).dropWhile tk);have:=z5u fu hfu s [] [] (x::y) (x3::y3) hb fu (qbl ((qbl u).dropWhile tk)) [] ((qes _).trans h6) (qrs _) (by omega) (by simp;omega)
     refine (this:_=_).trans ?_;rw[qzn _ fu _ _ (by omega),qzn _ (s.length+1) _ _ (by omega)]
     have e:psG qme ((qbl ((qbl u).dropWhile tk)).length+1) [] (qbl ((qbl u).dropWhile tk))=psG qme (((qbl u).dropWhile tk).length+1) [] ((qbl u).dropWhile tk):=by
      rw[← qzn _ (((qbl u).dropWhile tk).length+1) _ _ (by omega),psG,psG,qrs]
     rw[e];cases psG qme (((qbl u).dropWhile tk).length+1) [] ((qbl u).dropWhile tk)<;>rfl
   ·rw[qX hd];simp only[qW hd];rw[qX (.inr (.inl trivial))];rfl
end Go.Sym
namespace Go.Sym
open Go.Sort (SWO PermIn SortedIn pdq_sorts)
open Go.Proofs (ltOf)
theorem ltQ (x y:Pq):ltOf cfQ x y=decide (x.1.2.1<y.1.2.1):=by
 have:=x.2;have:=y.2;unfold ltOf cfQ;have h:w64 (x.1.2.1-y.1.2.1)=x.1.2.1-y.1.2.1:=by unfold w64;simp[IntKind.wrap,IntKind.bits,IntKind.signed];omega
 rw[h];by_cases q:x.1.2.1<y.1.2.1<;>simp[q]<;>omega
theorem vax:SWO (ltOf cfQ):=⟨fun x=>by rw[ltQ];simp,fun x y z h1 h2=>by rw[ltQ]at *;simp at *;omega,fun x y z h1 h2=>by rw[ltQ]at *;simp at *;omega⟩
theorem zbr (l:List Pq):(qud l).Perm l/\(qud l).Pairwise (fun x y=>x.1.2.1<=y.1.2.1):=by
 obtain⟨⟨h1,_,h2⟩,h3⟩:=pdq_sorts (ltOf cfQ) vax l.toArray 0 l.length (Lib.bitLen l.length) true true (Nat.zero_le _) (by simp) (.inl rfl)
 have hsort:qud l=(Go.Sort.pdq (ltOf cfQ) l.toArray 0 l.length (Lib.bitLen l.length) true true).toList:=rfl;generalize Go.Sort.pdq (ltOf cfQ) l.toArray 0 l.length (Lib.bitLen l.length) true true=D at h1 h2 h3 hsort;have hs:D.size=l.length:=by rw[h1];simp
 rw[hsort];constructor
 ·have e:∀ d:Array Pq,d.size=l.length->(d.extract 0 l.length).toList=d.toList:=fun d hd=>by rw[← hd];simp
  rw[e _ hs,e _ (by simp)]at h2
  simpa using h2
 ·rw[List.pairwise_iff_getElem];intro i j hi hj hij;rw[Array.length_toList]at hi hj;have:=h3 i j (Nat.zero_le _) hij (by omega)
  rw[ltQ,getElem!_pos D j hj,getElem!_pos D i hi]at this;have:=of_decide_eq_false this;simp only[Array.getElem_toList];omega
theorem zo5:∀ l:List Pc,(∀ p∈l,nb p)->∃ q,toQ l=some q/\q.map (·.1)=l
 | [],_=>⟨[],rfl,rfl⟩
 | p::l,h=>by
  obtain⟨q,h1,h2⟩:=zo5 l (fun x hx=>h x (qE _ hx))
  have hp:=h p qH;unfold nb at hp;refine⟨⟨p,by omega⟩::q,?_,by simp[h2]⟩
  rw[toQ,dif_pos (by omega),h1]
def qua (l:List Pc):List Pc:=match toQ l with|some q=>(qud q).map (·.1)|none=>[]
theorem q6d (l:List Pc) (h:∀ p∈l,nb p) (hl:l.length<=4000000):qx2 l=some (qua l)/\(qua l).Perm l/\(qua l).Pairwise (fun x y=>x.2.1<=y.2.1):=by
 have hrm:=qe7;obtain⟨q,h1,h2⟩:=zo5 l h;have h3:=zbr q;unfold qx2 qua;rw[h1,qaa (by omega)]
 refine⟨rfl,?_,?_⟩
 ·have:=h3.1.map (·.1);rw[h2]at this;exact this
 ·exact List.pairwise_map.2 h3.2
def qyz:List Pc->Int->Bs->Option Bs
 | [],_,out=>some out
 | p::q,k,out=>if p.2.1=k then qyz q (k+1) (out++q0b p) else none
def numd:List Pc->Int->Prop
 | [],_=>True
 | p::q,k=>p.2.1=k/\numd q (k+1)
theorem q3m:∀ (q:List Pc) (k:Int) (out:Bs),numd q k->qyz q k out=some (out++q.flatMap q0b)
 | [],_,out,_=>by simp[qyz]
 | p::q,k,out,h=>by rw[qyz,qX h.1,q3m q _ _ h.2];simp
theorem q3l:∀ (q:List Pc) (k:Int) (out v:Bs),qyz q k out=some v->numd q k
 | [],_,_,_,_=>trivial
 | p::q,k,out,v,h=>by
  rw[qyz]at h;by_cases hp:p.2.1=k
  ·rw[qX hp]at h;exact⟨hp,q3l q _ _ _ h⟩
  ·rw[qW hp]at h;cases h
theorem q9a (q:List Pc) (k:Int) (out:Bs) (h:¬ numd q k):qyz q k out=none:=by
 cases hl:qyz q k out with
 | none=>rfl
 | some v=>exact absurd (q3l q k out v hl) h
def Cov (q:List Pc) (k:Int):Prop:=∀ j:Nat,j<q.length->∃ p∈q,p.2.1=k+j
theorem pig (m:Nat):∀ (l:List Pc) (k:Int),(∀ j:Nat,j<m->∃ p∈l,p.2.1=k+j)->m<=l.length:=by
 induction m with
 | zero=>intro l k _;omega
 | succ m ih=>
  intro l k h;obtain⟨p,hp,hk⟩:=h m (by omega)
  obtain⟨a,b,rfl⟩:=List.append_of_mem hp;have:=ih (a++b) k (fun j hj=>by
   obtain⟨x,hx,hxk⟩:=h j (by omega)
   refine⟨x,?_,hxk⟩;rcases List.mem_append.1 hx with g|g
   ·exact List.mem_append_left _ g
   ·rcases List.mem_cons.1 g with g|g
    ·subst g;omega
    ·exact List.mem_append_right _ g)
  rw[qM]at this;rw[qM,qL];omega
theorem zh0:∀ (q:List Pc) (k:Int),q.Pairwise (fun x y=>x.2.1<=y.2.1)->Cov q k->numd q k
 | [],_,_,_=>trivial
 | p::r,k,hs,hc=>by
  rw[List.pairwise_cons]at hs;have vbu:(p::r).length=r.length+1:=rfl;have h1:k<=p.2.1/\p.2.1<k+(r.length+1:Nat):=by
   by_cases g:k<=p.2.1/\p.2.1<k+(r.length+1:Nat)
   ·exact g
   ·exfalso;have:=pig (r.length+1) r k (fun j hj=>by
     obtain⟨x,hx,hxk⟩:=hc j (by omega)
     rcases List.mem_cons.1 hx with e|e
     ·subst e;exact absurd ⟨by omega,by omega⟩ g
     ·exact⟨x,e,hxk⟩)
    omega
  have h2:p.2.1=k:=by
   obtain⟨x,hx,hxk⟩:=hc 0 (by omega)
   rcases List.mem_cons.1 hx with e|e
   ·subst e;omega
   ·have:=hs.1 x e;omega
  refine⟨h2,zh0 r (k+1) hs.2 fun j hj => ?_⟩
  obtain⟨x,hx,hxk⟩:=hc (j+1) (by omega)
  rcases List.mem_cons.1 hx with e|e
  ·subst e;omega
  ·exact⟨x,e,by omega⟩
theorem zol:∀ (q:List Pc) (k:Int),numd q k->∀ x∈q,k<=x.2.1
 | [],_,_,_,h=>by cases h
 | p::r,k,h,x,hx=>by
  rcases List.mem_cons.1 hx with e|e
  ·subst e;exact Int.le_of_eq h.1.symm
  ·have:=zol r _ h.2 x e;omega
theorem Cov.perm {q q':List Pc} {k:Int} (h:Cov q k) (hp:q.Perm q'):Cov q' k:=fun j hj=>by
 obtain⟨x,hx,e⟩:=h j (by rw[hp.length_eq];exact hj)
 exact⟨x,hp.mem_iff.1 hx,e⟩
def q35:List Pc->Option Bs
 | []=>none
 | p::l=>if p.2.1<0 then (if l=[] then some p.2.2.2 else none) else (qyz (qua (p::l)) 0 []).map fun v=>vu [239,191,189] v.length false v
theorem qw6 (p:Pc) (l:List Pc):q35 (p::l)=if p.2.1<0 then (if l=[] then some p.2.2.2 else none) else (qyz (qua (p::l)) 0 []).map fun v=>vu [239,191,189] v.length false v:=rfl
theorem que (p:Pc) (l:List Pc):szQ (p::l)=(p.1.length+p.2.2.2.length+1)+szQ l:=by unfold szQ;simp
theorem q6v {l l':List Pc} (h:l.Perm l'):szQ l=szQ l':=by unfold szQ;exact (h.map _).sum_nat
theorem qz2 {l:List Pc} {p:Pc} (h:p∈l):p.1.length+p.2.2.2.length+1<=szQ l:=by
 obtain⟨a,b,rfl⟩:=List.append_of_mem h;unfold szQ;simp;omega
theorem z57 (fu n:Nat) (hfu:90000000<=fu) (z:Bs×Bs) (nm:Bs):∀ (vbt vbs:List Pc) (out:Bs),vbs.length<n->vbt.length+vbs.length<100000000->out.length+szQ vbs<=300000 ->
  ∃ R,qem fu n ((vbt.length+vbs.length:Nat):Int) (vbt.length:Int) z (nm,out) (vbt++vbs)=some R/\match qyz vbs (vbt.length:Int) out with
   | some v=>R=((nm,vu [239,191,189] v.length false v),true)
   | none=>R.2=false:=by
 induction n with
 | zero=>intro vbt vbs out h;exact absurd h (by omega)
 | succ n ih=>
  intro vbt vbs out h hb hz;rw[qem,qld]
  cases vbs with
  | nil=>
   rw[qac (by simp),zfc out (by simp[szQ]at hz;omega)]
   exact⟨_,rfl,rfl⟩
  | cons p t=>
   rw[que]at hz;simp only[qL]at h hb;have hl:0<=(vbt.length:Int)/\(vbt.length:Int).toNat<(vbt++p::t).length:=by simp
   have htl:=qwi p;rw[qaa (by simp only[qL];omega),qaa hl,q0o,qB,qlh,qyz]
   by_cases hp:p.2.1=(vbt.length:Int)
   ·rw[qW (by simpa using hp),qX hp,ztl fu hfu p (by omega),qB,qaa (by simp[qad];omega),qai _ (by omega)]
    have:=ih (vbt++[p]) t (out++q0b p) (by omega) (by simp;omega) (by rw[qM];omega)
    simp only[qM,qL,qZ,qS,wM,wO]at this;rw[show (vbt.length+(p::t).length:Nat)=vbt.length+1+t.length by simp only[qL];omega,show (vbt.length:Int)+1=((vbt.length+1:Nat):Int) by omega]
    exact this
   ·rw[qX hp,qW hp];exact⟨_,rfl,rfl⟩
theorem zja (fu:Nat) (hfu:90000000<=fu) (p:Pc) (l:List Pc) (hz:szQ (p::l)<=300000) (hn:∀ x∈p::l,nb x):∃ R,qhy fu (p::l)=some R/\match q35 (p::l) with
  | some v=>R=((p.1,v),true)
  | none=>R.2=false:=by
 have hl:decide (0<=(0:Int)/\(0:Int).toNat<List.length (p::l))=true:=by simp
 have vbu:=qn5 (p::l);unfold qhy;rw[qw6,qau hl,show (p::l)[(0:Int).toNat]? = some p from rfl,qB,qau hl,qB,qau hl,qB]
 by_cases h0:p.2.1<0
 ·rw[qaa h0,qX h0];refine⟨_,rfl,?_⟩
  cases l with
  | nil=>rfl
  | cons y l=>rw[qW (by simp)];simp;omega
 ·rw[qac h0,qW h0];obtain⟨h1,h2,h3⟩:=q6d (p::l) hn (by omega)
  rw[h1,qB];obtain⟨R,g1,g2⟩:=z57 fu fu hfu ([],[]) p.1 [] (qua (p::l)) [] (by rw[h2.length_eq];omega) (by rw[h2.length_eq];simp only[qZ];omega) (by rw[q6v h2];simpa using hz)
  simp only[List.nil_append,qZ,wO]at g1 g2;refine⟨R,g1,?_⟩;rw[show ((0:Nat):Int)=0 from rfl]at g2
  cases hq:qyz (qua (p::l)) 0 [] with
  | none=>rw[hq]at g2;exact g2
  | some v=>rw[hq]at g2;exact g2
def qhj (nm:Bs) (l:List Pc):List Pc:=l.filter fun x=>lk x.1 nm
def qq6:List Pc->List Pc->List Prm->Bool×List Prm
 | _,[],out=>(true,out)
 | vbt,p::vbs,out=>if vbt.any (fun x=>lk x.1 p.1)=true then qq6 (vbt++[p]) vbs out else match q35 (qhj p.1 (vbt++p::vbs)) with
  | none=>(false,[])
  | some v=>qq6 (vbt++[p]) vbs (out++[(p.1,v)])
theorem z2d (fu n:Nat) (hfu:90000000<=fu) (p:Pc) (hp:p.1.length<=4000000):∀ (vbt vbs:List Pc),vbs.length<n->vbt.length+vbs.length<100000000->(∀ x∈vbs,x.1.length<=4000000) ->
  ∃ i:Int,qao fu n (vbt++vbs) ((vbt.length+vbs.length:Nat):Int) (vbt.length:Int) p=some (i,p)/\decide (0<=i)=vbs.any (fun x=>lk x.1 p.1):=by
 induction n with
 | zero=>intro vbt vbs h;exact absurd h (by omega)
 | succ n ih=>
  intro vbt vbs h hb hs;rw[qao,qa7]
  cases vbs with
  | nil=>rw[qac (by simp)];exact⟨_,rfl,rfl⟩
  | cons d vbs=>
   simp only[qL]at h hb;rw[qaa (by simp only[qL];omega),qan,qB,qi1,quu fu hfu _ _ (hs d qH) hp,qB,qB,qai _ (by omega)]
   obtain⟨i,h1,h2⟩:=ih (vbt++[d]) vbs (by omega) (by simp;omega) (fun x hx=>hs x (qE _ hx))
   simp only[qM,qL,qZ,qS,wM,wO]at h1;cases e:lk d.1 p.1
   ·simp only[qF,List.any_cons,e,Bool.false_or];rw[show (vbt.length+(d::vbs).length:Nat)=vbt.length+1+vbs.length by simp only[qL];omega]
    exact⟨i,h1,h2⟩
   ·simp only[qT,List.any_cons,e,Bool.true_or];exact⟨_,rfl,decide_eq_true (by omega)⟩
theorem z00 (fu:Nat) (hfu:90000000<=fu) (l:List Pc) (p:Pc) (hp:p.1.length<=4000000) (hl:l.length<=4000000) (hs:∀ x∈l,x.1.length<=4000000):qav fu l p=some (l.any (fun x=>lk x.1 p.1),p):=by
 obtain⟨i,h1,h2⟩:=z2d fu fu hfu p hp [] l (by omega) (by simp;omega) hs
 simp only[List.nil_append,qZ,wO]at h1;unfold qav qbh;rw[← h2];exact (congrArg (fun q=>Option.bind q fun x1=>some (decide ((0:Int)<=x1.1),x1.2)) h1).trans rfl
def zq0 (r0:q8r) (s0 s13:List Pc) (s14 s15:Int) (p:Pc) (out:List Prm) (x3:(Bs×Bs)×Bool):Option qlj:=bif !x3.2 then some (false,[]) else bif decide (List.length (out++([(p.1,x3.1.2)]:List Prm))<=qaq) then r0 s0 s13 s14 (w64 (s15+(1:Int))) (out++([(p.1,x3.1.2)]:List Prm)) else none
theorem z7f (fu:Nat) (hfu:90000000<=fu) (r0:q8r) (s0 s13:List Pc) (s14 s15:Int) (p:Pc) (hp:p.1.length<=4000000) (out:List Prm) (n:Nat):∀ (vbt vbs acc:List Pc),vbs.length<n->vbt.length+vbs.length<100000000->acc.length<=vbt.length->(∀ x∈vbs,x.1.length<=4000000) ->
  qh0 fu r0 n s0 s13 s14 s15 (vbt++vbs) ((vbt.length+vbs.length:Nat):Int) (vbt.length:Int) p out acc =
   (qhy fu (acc++qhj p.1 vbs)).bind (zq0 r0 s0 s13 s14 s15 p out):=by
 have hrm:=qe7
 induction n with
 | zero=>intro vbt vbs acc h;exact absurd h (by omega)
 | succ n ih=>
  intro vbt vbs acc h hb ha hs;rw[qh0,qol]
  cases vbs with
  | nil=>rw[qac (by simp),show qhj p.1 []=[] from rfl,List.append_nil];rfl
  | cons d vbs=>
   simp only[qL]at h hb;rw[qaa (by simp only[qL];omega),qan,qB,qi1,quu fu hfu _ _ (hs d qH) hp,qB,qB]
   have h1:=fun acc' (ha':acc'.length<=vbt.length+1)=>ih (vbt++[d]) vbs acc' (by omega) (by simp;omega) (by simpa using ha') (fun x hx=>hs x (qE _ hx))
   simp only[qM,qL,qZ,qS,wM,wO]at h1;rw[show qhj p.1 (d::vbs)=if lk d.1 p.1=true then d::qhj p.1 vbs else qhj p.1 vbs by unfold qhj;rw[List.filter_cons]]
   cases e:lk d.1 p.1
   ·simp only[qF,wJ,if_false];rw[qht,qai _ (by omega),show (vbt.length+(d::vbs).length:Nat)=vbt.length+1+vbs.length by simp only[qL];omega]
    exact h1 acc (by omega)
   ·simp only[qT,if_true];rw[qaa (by simp;omega),qht,qai _ (by omega),show (vbt.length+(d::vbs).length:Nat)=vbt.length+1+vbs.length by simp only[qL];omega]
    refine (h1 (acc++[d]) (by simp;omega)).trans ?_
    rw[qS];rfl
theorem qz6 (f:Pc->Bool) (l:List Pc):szQ (l.filter f)<=szQ l:=by
 induction l with
 | nil=>simp
 | cons p l ih=>
  rw[List.filter_cons];split
  ·rw[que,que];omega
  ·rw[que];omega
theorem zj4 (fu:Nat) (hfu:90000000<=fu) (l:List Pc) (hz:szQ l<=300000) (hn:∀ x∈l,nb x) (n:Nat):∀ (vbt vbs:List Pc) (out:List Prm),l=vbt++vbs->vbs.length<n->out.length<=vbt.length ->
  qeu fu n l (vbt++vbs) ((vbt.length+vbs.length:Nat):Int) (vbt.length:Int) out=some (qq6 vbt vbs out):=by
 have hrm:=qe7;have hll:=qn5 l;have hnm:∀ x∈l,x.1.length<=4000000:=fun x hx=>by have:=qz2 hx;omega
 induction n with
 | zero=>intro vbt vbs out _ h;exact absurd h (by omega)
 | succ n ih=>
  intro vbt vbs out hl h ho;rw[qeu,qov]
  cases vbs with
  | nil=>rw[qac (by simp)];rfl
  | cons p vbs=>
   simp only[qL]at h;have vbu:l.length=vbt.length+vbs.length+1:=by rw[hl];simp;omega
   have hp:=hnm p (by rw[hl];simp)
   rw[qaa (by simp only[qL];omega),qan,qB,qaa (by omega)]
   have e:List.take ((vbt.length:Nat):Int).toNat l=vbt:=by rw[hl];exact quq _ _
   rw[e,z00 fu hfu vbt p hp (by omega) (fun x hx=>hnm x (by rw[hl];simp[hx])),qB,qq6]
   have step:=fun o (ho:List.length o<=vbt.length+1)=>ih (vbt++[p]) vbs o (by rw[hl];simp) (by omega) (by simpa using ho)
   simp only[qM,qL,qZ,qS,wM,wO]at step;simp only;cases hany:vbt.any (fun x=>lk x.1 p.1)
   ·rw[qax rfl,qW (by simp)]
    have h1:=z7f fu hfu (qeu fu n) l (vbt++p::vbs) ((vbt.length+(p::vbs).length:Nat):Int) (vbt.length:Int) p hp out fu [] l [] (by omega) (by simp;omega) (by simp) hnm
    simp only[List.nil_append,qZ,wO]at h1;rw[show ((0:Nat):Int)=0 from rfl]at h1
    rw[h1];have hmem:p∈qhj p.1 l:=by unfold qhj;rw[List.mem_filter];exact⟨by rw[hl];simp,za3 _⟩
    have hzz:=qz6 (fun x=>lk x.1 p.1) l
    cases hN:qhj p.1 l with
    | nil=>rw[hN]at hmem;cases hmem
    | cons y w=>
     obtain⟨R,g1,g2⟩:=zja fu hfu y w (by rw[← hN];unfold qhj;omega) (fun x hx=>hn x (by rw[← hN]at hx;exact (List.mem_filter.1 hx).1))
     rw[g1,qB];rw[← hl,hN]
     cases hj:q35 (y::w) with
     | none=>rw[hj]at g2;simp only at g2;rw[zq0,g2];rfl
     | some v=>
      rw[hj]at g2;simp only at g2;subst g2;rw[zq0,qb0,qaa (by simp;omega),qai _ (by omega)]
      simp only;rw[show (vbt.length+(p::vbs).length:Nat)=vbt.length+1+vbs.length by simp only[qL];omega]
      have st:=step (out++[(p.1,v)]) (by simp;omega)
      rw[← hl]at st;exact st
   ·rw[qau rfl,qX rfl,qai _ (by omega),show (vbt.length+(p::vbs).length:Nat)=vbt.length+1+vbs.length by simp only[qL];omega]
    exact step out (by omega)
theorem zi3 (fu:Nat) (hfu:90000000<=fu) (l:List Pc) (hz:szQ l<=300000) (hn:∀ x∈l,nb x):qja fu l=some (qq6 [] l []):=by
 have hll:=qn5 l;have:=zj4 fu hfu l hz hn fu [] l [] rfl (by omega) (by simp)
 simpa [qja] using this
end Go.Sym
namespace Go.Sym
theorem q5p:∀ (q:List Pc) (k:Int),numd q k->∀ x∈q,∀ y∈q,x.2.1=y.2.1->x=y
 | [],_,_,x,hx,_,_,_=>by cases hx
 | p::r,k,h,x,hx,y,hy,e=>by
  have hg:=zol r _ h.2;have h1:=h.1;rcases List.mem_cons.1 hx with ex|ex
  ·rcases List.mem_cons.1 hy with ey|ey
   ·rw[ex,ey]
   ·subst ex;have:=hg y ey;omega
  ·rcases List.mem_cons.1 hy with ey|ey
   ·subst ey;have:=hg x ex;omega
   ·exact q5p r _ h.2 x ex y ey e
theorem idxD {l u w:List Pc} {x:Pc} (h:l=u++x::w):idx (l.map toD) (u.length:Int)=some (toD x):=by
 subst h;have:=qan (u.map toD) (toD x) (w.map toD);rw[wC]at this;rw[List.map_append,List.map_cons];exact this
section ref
variable (fu:Nat) (hfu:90000000<=fu) (l vbt vbs:List Pc) (p:Pc) (hl:l=vbt++p::vbs) (hz:szQ l<=300000) (b0 b1 T S:Bs) (ps:List Prm) (r4:qmf)
include hfu hl hz
theorem zrc:∀ x∈l,x.1.length<=4000000:=fun x hx=>by have _:=hfu;have _:=hl;have:=qz2 hx;omega
theorem rp6 (n:Nat):∀ (u w:List Pc) (seen:Bool),vbt=u++w->w.length<n ->
  qh9 fu r4 n (vbt.length:Int) seen (u.length:Int) b0 b1 T S (l.map toD) ps=qbk fu r4 fu (vbt.length:Int) (seen||w.any (fun x=>lk p.1 x.1)) (0:Int) (0:Int) b0 b1 T S (l.map toD) ps:=by
 have hnm:=zrc fu hfu l vbt vbs p hl hz;have hll:=qn5 l;have vbu:l.length=vbt.length+vbs.length+1:=by rw[hl];simp;omega
 induction n with
 | zero=>intro u w seen _ h;exact absurd h (by omega)
 | succ n ih=>
  intro u w seen hp h;rw[qh9,qn3];have hpl:vbt.length=u.length+w.length:=by rw[hp];simp
  cases w with
  | nil=>rw[qac (by simp only[qZ]at hpl;omega)];simp
  | cons x w=>
   simp only[qL]at h hpl;have st:=fun sn=>ih (u++[x]) w sn (by rw[hp];simp) (by omega)
   simp only[qM,qL,qZ,wO]at st;rw[qaa (by omega),List.any_cons]
   have hx:x∈l:=by rw[hl,hp];simp
   cases seen
   ·rw[qax rfl,qq4,idxD hl,qB,qq4,idxD (show l=u++x::(w++p::vbs) by rw[hl,hp];simp),qB]
    show (qdm fu p.1 x.1).bind _=_;rw[qul fu hfu _ _ (hnm p (by rw[hl];simp)) (hnm x hx),qB,qgf,qai _ (by omega),st]
    simp
   ·rw[qau rfl,qgf,qai _ (by omega),st]
    simp
theorem rp8 (n:Nat):∀ (u w:List Pc) (seen:Bool) (c:Nat),l=u++w->w.length<n->c<=u.length ->
  qbk fu r4 n (vbt.length:Int) seen (c:Int) (u.length:Int) b0 b1 T S (l.map toD) ps=qbk fu r4 1 (vbt.length:Int) seen ((c+(w.filter (fun x=>lk p.1 x.1)).length:Nat):Int) (l.length:Int) b0 b1 T S (l.map toD) ps:=by
 have hnm:=zrc fu hfu l vbt vbs p hl hz;have hll:=qn5 l
 induction n with
 | zero=>intro u w seen c _ h;exact absurd h (by omega)
 | succ n ih=>
  intro u w seen c hp h hc;have hpl:l.length=u.length+w.length:=by rw[hp];simp
  cases w with
  | nil=>
   rw[List.append_nil]at hp;subst hp;rw[qbk,qbk];simp only[List.filter_nil,qZ,Nat.add_zero];have hend:¬ ((l.length:Int)<(List.length (l.map toD):Int)):=by rw[wC];omega
   rw[qe2,qe2,qac hend,qac hend]
  | cons x w=>
   simp only[qL]at h hpl;rw[qbk,qe2];have st:=fun c' (hc':c'<=u.length+1)=>ih (u++[x]) w seen c' (by rw[hp];simp) (by omega) (by simpa using hc')
   simp only[qM,qL,qZ,wO]at st;have hx:x∈l:=by rw[hp];simp
   rw[qaa (by rw[wC];omega),qq4,idxD hl,qB,qq4,idxD hp,qB]
   show (qdm fu p.1 x.1).bind _=_;rw[qul fu hfu _ _ (hnm p (by rw[hl];simp)) (hnm x hx),qB,List.filter_cons]
   cases hk:lk p.1 x.1
   ·rw[qax rfl,qga,qai _ (by omega),st c (by omega)];rfl
   ·rw[qau rfl,qga,qai _ (by omega),qai _ (by omega),st (c+1) (by omega)]
    simp only[if_true,qL];rw[show c+1+(w.filter (fun x=>lk p.1 x.1)).length=c+((w.filter (fun x=>lk p.1 x.1)).length+1) by omega]
theorem rp17 (r13:qnk) (c:Int) (v:Bs) (nn:Int) (n:Nat):∀ (u w:List Pc) (j:Int),l=u++w->w.length<n ->
  ∃ j',qas fu r4 r13 n (vbt.length:Int) c v nn j (u.length:Int) b0 b1 T S (l.map toD) ps=qas fu r4 r13 1 (vbt.length:Int) c v nn j' (l.length:Int) b0 b1 T S (l.map toD) ps /\
   ((j'=j/\∀ x∈w,¬ (lk p.1 x.1=true/\x.2.1=nn))\/∃ x∈w,lk p.1 x.1=true/\x.2.1=nn/\idx (l.map toD) j'=some (toD x)):=by
 have hnm:=zrc fu hfu l vbt vbs p hl hz;have hll:=qn5 l
 induction n with
 | zero=>intro u w j _ h;exact absurd h (by omega)
 | succ n ih=>
  intro u w j hp h;have hpl:l.length=u.length+w.length:=by rw[hp];simp
  cases w with
  | nil=>
   rw[List.append_nil]at hp;subst hp;refine⟨j,?_,.inl ⟨rfl,by simp⟩⟩
   have hend:¬ ((l.length:Int)<(List.length (l.map toD):Int)):=by rw[wC];omega
   rw[qas,qas,qc3,qc3,qac hend,qac hend]
  | cons x w=>
   simp only[qL]at h hpl;rw[qas,qc3];have st:=fun j'=>ih (u++[x]) w j' (by rw[hp];simp) (by omega)
   simp only[qM,qL,qZ,wO]at st;have hx:x∈l:=by rw[hp];simp
   rw[qaa (by rw[wC];omega),qq4,idxD hl,qB,qq4,idxD hp,qB]
   have hsk:¬ (lk p.1 x.1=true/\x.2.1=nn)->∃ j',qas fu r4 r13 n (vbt.length:Int) c v nn j ((u.length+1:Nat):Int) b0 b1 T S (l.map toD) ps=qas fu r4 r13 1 (vbt.length:Int) c v nn j' (l.length:Int) b0 b1 T S (l.map toD) ps /\
     ((j'=j/\∀ y∈x::w,¬ (lk p.1 y.1=true/\y.2.1=nn))\/∃ y∈x::w,lk p.1 y.1=true/\y.2.1=nn/\idx (l.map toD) j'=some (toD y)):=fun hno=>by
    obtain⟨j',g1,g2⟩:=st j;refine⟨j',g1,?_⟩;rcases g2 with ⟨g2,g3⟩|⟨y,g2,g3⟩
    ·exact .inl ⟨g2,fun y hy=>(List.mem_cons.1 hy).elim (fun e=>e▸hno) (g3 y)⟩
    ·exact .inr ⟨y,qE _ g2,g3⟩
   show ∃ j',(qdm fu p.1 x.1).bind _=_/\_;rw[qul fu hfu _ _ (hnm p (by rw[hl];simp)) (hnm x hx),qB]
   cases hk:lk p.1 x.1
   ·rw[qax rfl,qf9,qax rfl,qd8,qai _ (by omega)]
    exact hsk (by simp[hk])
   ·rw[qau rfl,qq4,idxD hp,qB,qf9];show ∃ j',(bif x.2.1==nn then _ else _)=_/\_
    rw[qnu];by_cases hn:x.2.1=nn
    ·rw[qX hn,qd8,qai _ (by omega)]
     obtain⟨j',g1,g2⟩:=st (u.length:Int);refine⟨j',g1,.inr ?_⟩;rcases g2 with ⟨g2,g3⟩|⟨y,g2,g3⟩
     ·exact⟨x,qH,hk,hn,by rw[g2];exact idxD hp⟩
     ·exact⟨y,qE _ g2,g3⟩
    ·rw[qW hn,qd8,qai _ (by omega)]
     exact hsk (by simp[hn])
omit hl in
theorem zvr (r13:qnk) (a c:Int) (v:Bs) (nn:Nat) (j:Int) (x:Pc) (hx:x∈l) (hn:x.2.1=(nn:Int)) (hj:idx (l.map toD) j=some (toD x)) (hv:v.length<=100000000000) (hnn:nn<=4000000) :
  qas fu r4 r13 1 a c v (nn:Int) j (l.length:Int) b0 b1 T S (l.map toD) ps=r13 a c (v++q0b x) ((nn+1:Nat):Int) b0 b1 T S (l.map toD) ps:=by
 have hxl:=qz2 hx;have h0:0<=j:=by
  by_cases h:0<=j
  ·exact h
  ·unfold idx at hj;rw[qW h]at hj;cases hj
 rw[qas,qc3,qac (by rw[wC];omega),qac (by omega),qq4,hj,qB,qq4,hj,qB]
 have p22:∀ t:Bs,t.length<=4000000->qd5 fu r4 r13 a c v (nn:Int) t b0 b1 T S (l.map toD) ps=r13 a c (v++t) ((nn+1:Nat):Int) b0 b1 T S (l.map toD) ps:=fun t ht=>by
  rw[qd5,qaa (by simp only[qad];omega),qnc,qai _ (by omega)]
 have p23:∀ t:Bs,t.length<=4000000->qgb fu r4 r13 a c v (nn:Int) t b0 b1 T S (l.map toD) ps=r13 a c (v++pct t) ((nn+1:Nat):Int) b0 b1 T S (l.map toD) ps:=fun t ht=>by
  rw[qgb,z19 fu hfu t ht,qB,p22 _ (by have:=zgv _ t (wF _);omega)]
 unfold q0b zb3;show (bif x.2.2.1 then (bif (nn:Int)==0 then (bif decide ((6:Int)<=(x.2.2.2.length:Int)) then (bif decide (0<=(6:Int)/\(6:Int)<=(List.length x.2.2.2:Int)) then (qmk fu (List.take (6:Int).toNat x.2.2.2)).bind fun x7=>qbb fu r4 r13 a c v (nn:Int) x.2.2.2 (x7==([117,116,102,56,39,39]:Bs)) b0 b1 T S (l.map toD) ps else none) else qbb fu r4 r13 a c v (nn:Int) x.2.2.2 false b0 b1 T S (l.map toD) ps) else qbb fu r4 r13 a c v (nn:Int) x.2.2.2 false b0 b1 T S (l.map toD) ps) else qd5 fu r4 r13 a c v (nn:Int) x.2.2.2 b0 b1 T S (l.map toD) ps)=_
 cases hs:x.2.2.1
 ·rw[qax rfl,p22 _ (by omega),qW (by simp)]
 rw[qau rfl,qX rfl,qnu,hn];by_cases hz0:(nn:Int)=0
 ·rw[qX hz0];by_cases h6:6<=x.2.2.2.length
  ·have h6':(List.take (6:Int).toNat x.2.2.2).length=6:=by show (List.take 6 _).length=6;rw[List.length_take];omega
   rw[qaa (by omega),qaa (by omega),qwy fu _ (by omega) (by rw[h6'];simp[maxLen]),qB,qbb]
   show (bif lk (x.2.2.2.take 6) [117,116,102,56,39,39] then _ else _)=_
   cases hk:lk (x.2.2.2.take 6) [117,116,102,56,39,39]
   ·rw[qax rfl,p23 _ (by omega),qW (by simp)]
   ·rw[qau rfl,qaa (by omega),qX ⟨hz0,h6,rfl⟩]
    exact p23 (x.2.2.2.drop 6) (by simp;omega)
  ·rw[qac (by omega),qbb,qax rfl,p23 _ (by omega),qW (by omega)]
 ·rw[qW hz0,qbb,qax rfl,p23 _ (by omega),qW (by omega)]
theorem zhb (r13:qnk) (c:Int) (v:Bs) (nn:Int):qas fu r4 r13 1 (vbt.length:Int) c v nn (-1) (l.length:Int) b0 b1 T S (l.map toD) ps=some bad:=by
 have _:=hfu;have _:=hl;have _:=hz;rw[qas,qc3,qac (by rw[wC];omega),qaa (by omega)];rfl
theorem zk2 (q:List Pc) (hq:numd q 0) (hqm:∀ x,x∈q↔(x∈l/\lk p.1 x.1=true)) (n:Nat):∀ (done rest:List Pc) (v:Bs),q=done++rest->rest.length<n->v.length+szQ rest<=300000->numd rest (done.length:Int)->q.length<=300000 ->
  qaw fu r4 n (vbt.length:Int) (q.length:Int) v (done.length:Int) b0 b1 T S (l.map toD) ps=qaw fu r4 1 (vbt.length:Int) (q.length:Int) (v++rest.flatMap q0b) (q.length:Int) b0 b1 T S (l.map toD) ps:=by
 have hll:=qn5 l
 induction n with
 | zero=>intro done rest v _ h;exact absurd h (by omega)
 | succ n ih=>
  intro done rest v hd h hv hnum hqb;have hql:q.length=done.length+rest.length:=by rw[hd];simp
  cases rest with
  | nil=>
   rw[List.append_nil]at hd;subst hd;have hend:¬ ((q.length:Int)<(q.length:Int)):=by omega
   rw[qaw,qaw,qc4,qc4,qac hend,qac hend];simp
  | cons x t=>
   simp only[qL]at h hql;rw[que]at hv;have hxq:x∈q:=by rw[hd];simp
   have hxl:=(hqm x).1 hxq;have hxn:x.2.1=(done.length:Int):=hnum.1;rw[qaw,qc4,qaa (by omega)]
   obtain⟨j',g1,g2⟩:=rp17 fu hfu l vbt vbs p hl hz b0 b1 T S ps r4 (qaw fu r4 n) (q.length:Int) v (done.length:Int) fu [] l (-1) rfl (by omega)
   rw[show (([]:List Pc).length:Int)=0 from rfl]at g1
   rw[g1];rcases g2 with ⟨_,g3⟩|⟨y,g2,g3,g4,g5⟩
   ·exact absurd ⟨hxl.2,hxn⟩ (g3 x hxl.1)
   ·have hyq:y∈q:=(hqm y).2 ⟨g2,g3⟩;have hyx:y=x:=q5p q 0 hq y hyq x hxq (by rw[g4,hxn])
    subst hyx;rw[zvr fu hfu l hz b0 b1 T S ps r4 _ _ _ v done.length j' y g2 g4 g5 (by omega) (by omega)]
    have htl:=qwi y;have st:=ih (done++[y]) t (v++q0b y) (by rw[hd];simp) (by omega) (by rw[qM];omega) (by rw[qM,wD];have:=hnum.2;rw[show ((done.length+1:Nat):Int)=(done.length:Int)+1 by omega];exact this) hqb
    simp only[qM,qL,qZ,wO]at st;refine st.trans ?_;rw[List.flatMap_cons,qS]
theorem znl (cnt k:Nat) (hk:k<cnt) (hno:∀ x∈l,¬ (lk p.1 x.1=true/\x.2.1=(k:Int))) (hc:cnt<=300000) (n:Nat):∀ (nn:Nat) (v:Bs),nn<=k->cnt-nn<n->v.length<=nn*300000 ->
  qaw fu r4 n (vbt.length:Int) (cnt:Int) v (nn:Int) b0 b1 T S (l.map toD) ps=some bad:=by
 have hll:=qn5 l
 induction n with
 | zero=>intro nn v _ h;exact absurd h (by omega)
 | succ n ih=>
  intro nn v hnk h hv;rw[qaw,qc4,qaa (by omega)]
  obtain⟨j',g1,g2⟩:=rp17 fu hfu l vbt vbs p hl hz b0 b1 T S ps r4 (qaw fu r4 n) (cnt:Int) v (nn:Int) fu [] l (-1) rfl (by omega)
  rw[show (([]:List Pc).length:Int)=0 from rfl]at g1
  rw[g1];rcases g2 with ⟨e,_⟩|⟨y,g2,g3,g4,g5⟩
  ·rw[e];exact zhb fu hfu l vbt vbs p hl hz b0 b1 T S ps r4 _ _ v _
  ·have hne:nn≠k:=fun e=>by subst e;exact hno y g2 ⟨g3,g4⟩
   have hyl:=qz2 g2;have htl:=qwi y;rw[zvr fu hfu l hz b0 b1 T S ps r4 _ _ _ v nn j' y g2 g4 g5 (by omega) (by omega)]
   exact ih (nn+1) (v++q0b y) (by omega) (by omega) (by rw[qM];omega)
end ref
theorem za7 {l vbt vbs:List Pc} {p:Pc} (hl:l=vbt++p::vbs) (h:vbt.any (fun x=>lk x.1 p.1)=false):qhj p.1 l=p::qhj p.1 vbs:=by
 subst hl;unfold qhj;rw[List.filter_append,List.filter_cons,qX (za3 p.1)];rw[List.filter_eq_nil_iff.2]
 ·rfl
 ·intro x hx;rw[List.any_eq_false]at h;exact h x hx
theorem zew (fu:Nat) (hfu:90000000<=fu) (l:List Pc) (hz:szQ l<=300000) (hn:∀ x∈l,nb x) (b0 b1 T S:Bs) (n:Nat):∀ (vbt vbs:List Pc) (ps:List Prm),l=vbt++vbs->vbs.length<n->ps.length<=vbt.length ->
  qa3 fu n (vbt.length:Int) b0 b1 T S (l.map toD) ps=some (if (qq6 vbt vbs ps).1=true then ((T,(S,(qq6 vbt vbs ps).2)),true) else bad):=by
 have hrm:=qe7;have hll:=qn5 l
 induction n with
 | zero=>intro vbt vbs ps _ h;exact absurd h (by omega)
 | succ n ih=>
  intro vbt vbs ps hl h hps;have vbu:l.length=vbt.length+vbs.length:=by rw[hl];simp
  rw[qa3,qoo]
  cases vbs with
  | nil=>rw[qac (by rw[wC];simp only[qZ]at vbu;omega)];rfl
  | cons p vbs=>
   simp only[qL]at h vbu;have st:=fun o (ho:List.length o<=vbt.length+1)=>ih (vbt++[p]) vbs o (by rw[hl];simp) (by omega) (by simpa using ho)
   simp only[qM,qL,qZ,wO]at st;rw[qaa (by rw[wC];omega)]
   have h6:=rp6 fu hfu l vbt vbs p hl hz b0 b1 T S ps (qa3 fu n) fu [] vbt false rfl (by omega)
   rw[show (([]:List Pc).length:Int)=0 from rfl]at h6
   have h8:=rp8 fu hfu l vbt vbs p hl hz b0 b1 T S ps (qa3 fu n) fu [] l (false||vbt.any (fun x=>lk p.1 x.1)) 0 rfl (by omega) (by simp)
   rw[show (([]:List Pc).length:Int)=0 from rfl,show ((0:Nat):Int)=0 from rfl]at h8
   rw[h6,h8];have hcm:(fun x:Pc=>lk p.1 x.1)=(fun x:Pc=>lk x.1 p.1):=funext fun x=>zag _ _
   rw[hcm,Bool.false_or,wO,qbk,qe2,qac (by rw[wC];omega)]
   have hP:qq6 vbt (p::vbs) ps=(if vbt.any (fun x=>lk x.1 p.1)=true then qq6 (vbt++[p]) vbs ps else match q35 (qhj p.1 l) with
    | none=>(false,[])
    | some v=>qq6 (vbt++[p]) vbs (ps++[(p.1,v)])):=by subst hl;rfl
   rw[hP];cases hany:vbt.any (fun x=>lk x.1 p.1)
   ·rw[qax rfl,qW (c:=(false=true)) (by simp),qq4,idxD hl,qB]
    have hnf:=za7 hl hany;have hA:(l.filter fun x=>lk x.1 p.1)=p::qhj p.1 vbs:=hnf
    rw[hA,hnf,qw6];have hAz:szQ (p::qhj p.1 vbs)<=300000:=by have:=qz6 (fun x=>lk x.1 p.1) l;rw[hA]at this;omega
    have hAl:=qn5 (p::qhj p.1 vbs);have hAm:∀ x,x∈p::qhj p.1 vbs↔(x∈l/\lk p.1 x.1=true):=fun x=>by
     rw[← hA,List.mem_filter,zag]
    show (bif decide (p.2.1<0) then _ else _)=_
    by_cases h0:p.2.1<0
    ·rw[qaa h0,qX h0,qlh];by_cases h1:qhj p.1 vbs=[]
     ·rw[qW (by rw[h1];simp),qX h1,qq4,idxD hl,qB,qq4,idxD hl,qB,qaa (by simp;omega),qai _ (by omega)]
      exact st (ps++[(p.1,p.2.2.2)]) (by simp;omega)
     ·rw[qX (by
       cases hh:qhj p.1 vbs with
       | nil=>exact absurd hh h1
       | cons=>simp only[qL];omega),qW h1];rfl
    ·rw[qac h0,qW h0];obtain⟨_,h2,h3⟩:=q6d (p::qhj p.1 vbs) (fun x hx=>hn x ((hAm x).1 hx).1) (by omega)
     by_cases hnum:numd (qua (p::qhj p.1 vbs)) 0
     ·rw[q3m _ _ _ hnum,wQ];have hm:∀ x,x∈qua (p::qhj p.1 vbs)↔(x∈l/\lk p.1 x.1=true):=fun x=>by rw[h2.mem_iff];exact hAm x
      have hsz:=q6v h2;have:=zk2 fu hfu l vbt vbs p hl hz b0 b1 T S ps (qa3 fu n) (qua (p::qhj p.1 vbs)) hnum hm fu [] (qua (p::qhj p.1 vbs)) [] rfl (by rw[h2.length_eq];omega) (by rw[hsz];simpa using hAz) hnum (by rw[h2.length_eq];omega)
      rw[show (([]:List Pc).length:Int)=0 from rfl,h2.length_eq]at this
      rw[this,qaw,qc4,qac (by omega),qq4,idxD hl,qB]
      have hvl:∀ q:List Pc,(q.flatMap q0b).length<=szQ q:=by
       intro q
       induction q with
       | nil=>simp
       | cons y q ih2=>
        have:=qwi y;rw[List.flatMap_cons,qM,que];omega
      have hv:=hvl (qua (p::qhj p.1 vbs));simp only[List.nil_append];rw[zbe fu (by omega) _ (by omega) (by omega),qB,qaa (by simp;omega),qai _ (by omega)]
      exact st (ps++[(p.1,_)]) (by simp;omega)
     ·rw[q9a _ _ _ hnum,Option.map_none];have hncov:¬ Cov (p::qhj p.1 vbs) 0:=fun hc=>hnum (zh0 _ 0 h3 (hc.perm h2.symm))
      obtain⟨k,hk1,hk2⟩:∃ k:Nat,k<(p::qhj p.1 vbs).length/\∀ x∈p::qhj p.1 vbs,x.2.1≠(0:Int)+k:=by
       apply Classical.byContradiction;intro hq;apply hncov;intro j hj;apply Classical.byContradiction;intro hq2;exact hq ⟨j,hj,fun x hx e=>hq2 ⟨x,hx,e⟩⟩
      have:=znl fu hfu l vbt vbs p hl hz b0 b1 T S ps (qa3 fu n) (p::qhj p.1 vbs).length k hk1 (fun x hx hc=>hk2 x ((hAm x).2 ⟨hx,hc.1⟩) (by rw[hc.2];omega)) (by omega) fu 0 [] (by omega) (by omega) (by simp)
      rw[show ((0:Nat):Int)=0 from rfl]at this
      rw[this];rfl
   ·rw[qau rfl,qX (c:=(true=true)) rfl,qai _ (by omega)]
    exact st ps (by omega)
end Go.Sym
namespace Go.Sym
def isPt (s:List UInt8) (i:Nat):Bool:=bl (s.getD i 0) && !bl (s.getD (i-1) 0)
def cb (s:List UInt8):Nat->Nat->Nat->Nat
 | 0,_,b=>b
 | m+1,i,b=>cb s m (i+1) (if isPt s i && !(decide (0<b)&&decide (78<i)) then i else b)
theorem zjy (s:List UInt8):∀ m i b,0<b->78<i->cb s m i b=b
 | 0,_,_,_,_=>rfl
 | m+1,i,b,h1,h2=>by
  rw[cb,decide_eq_true h1,decide_eq_true h2];simp only[Bool.and_self,Bool.not_true,Bool.and_false,wJ,if_false];exact zjy s m (i+1) b h1 (by omega)
theorem q6g (s:List UInt8):∀ m i b,cb s m i b=b\/(i<=cb s m i b/\cb s m i b<i+m/\isPt s (cb s m i b)=true)
 | 0,_,_ => .inl rfl
 | m+1,i,b=>by
  rw[cb];split
  ·rename_i h;simp only[qA]at h;rcases q6g s m (i+1) i with e|⟨h1,h2,h3⟩
   ·rw[e];exact .inr ⟨wF _,by omega,h.1⟩
   ·exact .inr ⟨by omega,by omega,h3⟩
  ·rcases q6g s m (i+1) b with e|⟨h1,h2,h3⟩
   ·exact .inl e
   ·exact .inr ⟨by omega,by omega,h3⟩
theorem q6z (s:List UInt8) (i:Nat) (h:i<s.length):s.getD i 0=s[i]:=by simp[List.getD_eq_getElem?_getD,h]
theorem zmp (fu n:Nat):∀ (s:List UInt8) (m i b:Nat),i+m=s.length->1<=i->m<n->s.length<1000000000->qkq fu n s (b:Int) (i:Int)=some ((cb s m i b:Nat):Int):=by
 induction n with
 | zero=>intro s m i b _ _ h;exact absurd h (by omega)
 | succ n ih=>
  intro s m i b hi h1 hm hb;rw[qkq,qr0]
  cases m with
  | zero=>rw[qac (by omega)];rfl
  | succ m=>
   have hlt:i<s.length:=by omega
   have hlt':i-1<s.length:=by omega
   rw[qaa (by omega),qv8 _ _ hlt,qB,q1l,qB,cb]
   unfold isPt;rw[q6z _ _ hlt,q6z _ _ hlt'];unfold qnj;cases bl s[i]
   ·rw[qek,qau (by rfl),qai _ (by omega)]
    exact ih s m (i+1) b (by omega) (by omega) (by omega) hb
   ·rw[qb0,show w64 ((i:Int)-1)=((i-1:Nat):Int) by rw[qgo (by omega) (by omega)];omega,qv8 _ _ hlt',qB,q1l,qB]
    cases bl s[i-1]
    ·rw[qax (by rfl),qai _ (by omega),qhq,qhq]
     by_cases q1:0<b
     ·rw[qX (by omega),decide_eq_true q1]
      by_cases q2:78<i
      ·rw[qX (by omega),decide_eq_true q2]
       simp only[Bool.and_self,Bool.not_true,Bool.and_false,wJ,if_false];rw[zjy s m (i+1) b q1 (by omega)]
      ·rw[qW (by omega),decide_eq_false q2]
       exact ih s m (i+1) i (by omega) (by omega) (by omega) hb
     ·rw[qW (by omega),decide_eq_false q1]
      exact ih s m (i+1) i (by omega) (by omega) (by omega) hb
    ·rw[qau (by rfl),qai _ (by omega)]
     exact ih s m (i+1) b (by omega) (by omega) (by omega) hb
def brk (s:List UInt8) (k:Nat):Nat:=cb s (s.length-k) k 0
theorem zk9 (fu:Nat) (s:List UInt8) (k:Nat) (h:s.length<fu) (hb:s.length<1000000000) (hk:k<=s.length) (h0:1<=s.length):qs5 fu s (k:Int)=some ((brk s (max k 1):Nat):Int):=by
 unfold qs5 brk;have e:(if (1:Int)>(k:Int) then (1:Int) else (k:Int))=((max k 1:Nat):Int):=by
  split
  ·rename_i h;have:k=0:=by omega
   subst this;rfl
  ·rename_i h;rw[Nat.max_eq_left (by omega)]
 rw[e];exact zmp fu fu s (s.length-max k 1) (max k 1) 0 (by omega) (by omega) (by omega) hb
def qvk:Nat->List UInt8->Nat->List (List UInt8)
 | 0,s,_=>[s]
 | n+1,s,k=>if 78<s.length then (if brk s k=0 then [s] else s.take (brk s k)::qvk n (s.drop (brk s k)) 1) else [s]
theorem zit (s:List UInt8) (k:Nat) (_h1:1<=k) (h:brk s k≠0):k<=brk s k/\brk s k<s.length/\isPt s (brk s k)=true:=by
 unfold brk at *;rcases q6g s (s.length-k) k 0 with e|⟨h2,h3,h4⟩
 ·exact absurd e h
 ·exact⟨h2,by omega,h4⟩
def za6:Nat->List (List UInt8)->Option Nat
 | _,[]=>none
 | i,l::ls=>if 998<l.length then some i else za6 (i+1) ls
def q43 (ls:List (List UInt8)):(Int×Int)×List (List UInt8):=match za6 0 ls with
 | some i=>((1,(i:Int)),[])
 | none=>((0,0),ls)
theorem z0a (fu n:Nat) (m16:Int×Int):∀ (vbt vbs:List (List UInt8)),vbs.length<n->vbt.length+vbs.length<1000000000 ->
  qlg fu n ((vbt.length+vbs.length:Nat):Int) (vbt.length:Int) m16 (vbt++vbs)=some (match za6 vbt.length vbs with|some i=>((1,(i:Int)),[])|none=>((0,0),vbt++vbs)):=by
 induction n with
 | zero=>intro vbt vbs h;exact absurd h (by omega)
 | succ n ih=>
  intro vbt vbs h hb;rw[qlg,qtg]
  cases vbs with
  | nil=>rw[qac (by simp)];rfl
  | cons c vbs=>
   simp only[qL]at h hb ⊢;rw[qaa (by omega),qq4,qan,qB,qhq,za6]
   by_cases hc:998<c.length
   ·rw[qX (by omega),qX hc];rfl
   ·rw[qW (by omega),qW hc,qai _ (by omega)]
    have:=ih (vbt++[c]) vbs (by omega) (by simp;omega)
    simp only[qS,wM,qM,qL,qZ]at this;rw[show vbt.length+(0+1)+vbs.length=vbt.length+(vbs.length+1) by omega]at this
    exact this
theorem q93 (fu:Nat) (m16:Int×Int) (s:List UInt8) (out:List (List UInt8)) (h:out.length+1<fu) (hb:out.length<900000000):qlp fu s m16 out=some (q43 (out++[s])):=by
 unfold qlp;rw[qaa (by simp[qaq];omega)]
 have:=z0a fu fu m16 [] (out++[s]) (by simpa using h) (by simp;omega)
 simp only[List.nil_append,qZ,wO]at this;exact this
theorem zpp (fu n:Nat) (m16:Int×Int):∀ (m:Nat) (s:List UInt8) (k k':Nat) (out:List (List UInt8)),s.length<=m->s.length<n->max k 1=k'->(78<s.length->k<=s.length)->s.length+out.length+1<fu->s.length+out.length<500000000 ->
  qlu fu n s (k:Int) m16 out=some (q43 (out++qvk m s k')):=by
 induction n with
 | zero=>intro m s k k' out _ h;exact absurd h (by omega)
 | succ n ih=>
  intro m s k k' out hm h hk hk2 hf hb;rw[qlu,qtn,qhq];by_cases hl:78<s.length
  ·obtain⟨m,rfl⟩:∃ j,m=j+1:=⟨m-1,by omega⟩
   rw[qX (by omega),zk9 fu s k (by omega) (by omega) (hk2 hl) (by omega),hk,qB,qnu,qvk,qX hl]
   by_cases h0:brk s k'=0
   ·rw[qX (by omega),qX h0]
    exact q93 fu m16 s out (by omega) (by omega)
   ·obtain⟨h1,h2,_⟩:=zit s k' (by omega) h0
    rw[qW (by omega),qW h0,qaa (by omega),qaa (by simp[qaq];omega),qaa (by omega)]
    have:=ih m (s.drop (brk s k')) 0 1 (out++[s.take (brk s k')]) (by rw[List.length_drop];omega) (by rw[List.length_drop];omega) rfl (by intro;omega) (by rw[List.length_drop,qM,wD];omega) (by rw[List.length_drop,qM,wD];omega)
    simpa using this
  ·rw[qW (by omega)]
   have e:qvk m s k'=[s]:=by cases m with
    | zero=>rfl
    | succ m=>rw[qvk,qW hl]
   rw[e];exact q93 fu m16 s out (by omega) (by omega)
def qhh (n v:List UInt8):List UInt8:=n++[58,32]++v
def qzo (n v:List UInt8):List (List UInt8):=qvk (qhh n v).length (qhh n v) (n.length+2)
def q8d (n v:List UInt8):(Int×Int)×List (List UInt8):=if q33 n v=0 then q43 (qzo n v) else ((q33 n v,-1),[])
theorem q9f {s:List UInt8} (h:q2p s=true):s.length<=60:=by
 unfold q2p at h;simp only[qA,decide_eq_true_eq]at h;exact h.1.2
theorem q4j {n v:List UInt8} (h:q33 n v=0):q2p n=true/\v.length<=4000/\fval v=true:=by
 unfold q33 at h;split at h
 ·rename_i h1;split at h
  ·exact absurd h (by decide)
  ·rename_i h2;split at h
   ·rename_i h3;exact⟨h1,by omega,h3⟩
   ·exact absurd h (by decide)
 ·exact absurd h (by decide)
theorem zrj (fu:Nat) (n v:List UInt8) (hfu:10000<=fu) (hv:v.length<fu) (hvb:v.length<1000000000):qma fu n v=some (q8d n v):=by
 unfold qma q8d;rw[zm5 fu n (by omega),qB]
 by_cases h0:q33 n v=0
 ·obtain⟨h1,h2,h3⟩:=q4j h0;have hn:=q9f h1;rw[qX h0,h1,qb0,qac (by omega),zfp fu v (by omega) hv hvb,qB,h3,qb0,qaa (by simp[qad];omega),qaa (by simp[qad];omega)]
  have:=zpp fu fu (0,0) (qhh n v).length (qhh n v) (n.length+2) (n.length+2) [] (wF _) (by simp[qhh]<;>omega) (by omega) (by intro;simp[qhh]<;>omega) (by simp[qhh]<;>omega) (by simp[qhh]<;>omega)
  rw[show w64 ((n.length:Int)+2)=((n.length+2:Nat):Int) by rw[qgo (by omega) (by omega)];omega]
  exact this
 ·rw[qW h0];unfold q33 at h0 ⊢;cases hn:q2p n
  ·rfl
  ·rw[hn]at h0;simp only[if_true]at h0 ⊢;rw[qb0,qhq];by_cases hl:4000<v.length
   ·rw[qX (by omega),qX hl];rfl
   ·rw[qW hl]at h0;rw[qW (by omega),qW hl,zfp fu v (by omega) hv hvb,qB]
    cases hv3:fval v
    ·rfl
    ·rw[hv3]at h0;exact absurd rfl h0
end Go.Sym
namespace Go.Sym
def pts (s:List UInt8) (i m:Nat):List Nat:=(List.range' i m).filter (isPt s)
theorem q61 (s:List UInt8) (i m:Nat):pts s i (m+1)=(if isPt s i then [i] else [])++pts s (i+1) m:=by
 unfold pts;rw[List.range'_succ,List.filter_cons];split<;>rfl
theorem zsq (s:List UInt8) (i m k:Nat):pts s i (m+k)=pts s i m++pts s (i+m) k:=by
 unfold pts;rw[← List.filter_append];congr 1;rw[List.range'_append_1]
theorem zss (s:List UInt8) (i m:Nat):(pts s i m).length<=m:=by
 unfold pts;have:=List.length_filter_le (isPt s) (List.range' i m);simpa using this
def rst (at_ b p:Nat):Nat:=if at_<p/\(p-at_<=78\/b=0) then p-at_ else b
theorem zkd (s:List UInt8) (a i:Nat) (h:a<i):isPt (s.drop a) (i-a)=isPt s i:=by
 unfold isPt;simp only[List.getD_eq_getElem?_getD,List.getElem?_drop];rw[show a+(i-a)=i by omega,show a+(i-a-1)=i-1 by omega]
theorem zje (s:List UInt8) (a:Nat):∀ m i b,a<i->(pts s i m).foldl (rst a) b=cb (s.drop a) m (i-a) b
 | 0,_,_,_=>rfl
 | m+1,i,b,h=>by
  rw[q61,List.foldl_append,cb,zkd s a i h,show i-a+1=i+1-a by omega,← zje s a m (i+1) _ (by omega)]
  congr 1;cases isPt s i
  ·rfl
  ·simp only[if_true,List.foldl_cons,List.foldl_nil,rst,Bool.true_and];by_cases q1:0<b
   ·by_cases q2:78<i-a
    ·rw[qW (by omega),qW (by simp[q1,q2])]
    ·rw[qX (by omega),qX (by simp;omega)]
   ·rw[qX (by omega),qX (by simp;omega)]
theorem zcz (s:List UInt8) (a:Nat):∀ m i b,i+m<=a+1->(pts s i m).foldl (rst a) b=b
 | 0,_,_,_=>rfl
 | m+1,i,b,h=>by
  rw[q61,List.foldl_append];have e:(if isPt s i=true then [i] else []).foldl (rst a) b=b:=by
   split
   ·simp only[List.foldl_cons,List.foldl_nil,rst];rw[qW (by omega)]
   ·rfl
  rw[e];exact zcz s a m (i+1) b (by omega)
theorem zta (s:List UInt8) (a k0:Nat) (h1:1<=k0) (h:a=0\/k0<=a) (ha:a<s.length) (hk:k0<=s.length):(pts s k0 (s.length-k0)).foldl (rst a) 0=brk (s.drop a) (if a=0 then k0 else 1):=by
 unfold brk;by_cases h0:a=0
 ·subst h0;rw[qX rfl,zje s 0 _ k0 0 (by omega)]
  simp
 ·rw[qW h0,show s.length-k0=(a+1-k0)+(s.length-a-1) by omega,zsq,List.foldl_append,zcz s a (a+1-k0) k0 0 (by omega),show k0+(a+1-k0)=a+1 by omega,zje s a _ _ _ (by omega),List.length_drop]
  rw[show a+1-a=1 by omega]
def plc (a b:Nat):Int:=if b=0 then -1 else ((a+b:Nat):Int)
theorem z68 (fu:Nat) (r2:List UInt8->Int->List Int->List (List UInt8)->Option (List (List UInt8))) (n:Nat):∀ (s:List UInt8) (a b:Nat) (vbt:List Int) (vbs:List Nat) (out:List (List UInt8)),vbs.length<n->vbt.length+vbs.length<1000000000->(∀ p∈vbs,p<s.length)->a<=s.length->s.length<1000000000->a+b<=s.length->out.length<1000000000 ->
  qgr fu r2 n s (a:Int) (plc a b) (vbt.length:Int) (vbt++vbs.map Nat.cast) out=(if vbs.foldl (rst a) b=0 then some (out++[s.drop a]) else r2 s ((a+vbs.foldl (rst a) b:Nat):Int) (vbt++vbs.map Nat.cast) (out++[(s.drop a).take (vbs.foldl (rst a) b)])):=by
 induction n with
 | zero=>intro s a b vbt vbs out h;exact absurd h (by omega)
 | succ n ih=>
  intro s a b vbt vbs out h hb hp ha hs hab ho;rw[qgr,qtf]
  cases vbs with
  | nil=>
   rw[qac (by simp),List.foldl_nil,qhq]
   unfold plc;by_cases h0:b=0
   ·rw[qX h0,qX (by omega),qX h0,qaa (by omega),qaa (by simp[qaq];omega)]
    simp
   ·rw[qW h0,qW (by omega),qW h0,qaa (by omega),qaa (by simp[qaq];omega)]
    rw[show ((a+b:Nat):Int).toNat-(a:Int).toNat=b by omega]
    simp
  | cons p vbs=>
   simp only[qL]at h hb;have hp0:=hp p qH;rw[List.map_cons];have hl:((vbt++(p:Int)::vbs.map Nat.cast).length:Int)=((vbt.length+vbs.length+1:Nat):Int):=by simp;omega
   rw[hl,qaa (by omega)]
   have hlt:(0<=(vbt.length:Int)/\(vbt.length:Int).toNat<(vbt++(p:Int)::vbs.map Nat.cast).length):=by simp
   rw[qaa hlt,q0o,qB,List.foldl_cons];have fin:∀ b',a+b'<=s.length->qgr fu r2 n s (a:Int) (plc a b') (w64 ((vbt.length:Int)+1)) (vbt++(p:Int)::vbs.map Nat.cast) out=(if vbs.foldl (rst a) b'=0 then some (out++[s.drop a]) else r2 s ((a+vbs.foldl (rst a) b':Nat):Int) (vbt++(p:Int)::vbs.map Nat.cast) (out++[(s.drop a).take (vbs.foldl (rst a) b')])):=by
    intro b' hb';have:=ih s a b' (vbt++[(p:Int)]) vbs out (by omega) (by simp;omega) (fun q hq=>hp q (qE _ hq)) ha hs hb' ho
    rw[qai _ (by omega)]
    simpa using this
   unfold qlo qpm;rw[qhq];by_cases q1:a<p
   ·have e1:w64 ((p:Int)-(a:Int))=((p-a:Nat):Int):=by rw[qgo (by omega) (by omega)];omega
    have e2:(p:Int)=plc a (p-a):=by unfold plc;rw[qW (by omega)];omega
    rw[qX (by omega),e1,qhq]
    by_cases q2:p-a<=78
    ·rw[qX (by omega),qau (by rfl),show rst a b p=p-a by unfold rst;rw[qX ⟨q1,.inl q2⟩],← fin (p-a) (by omega),← e2]
    ·rw[qW (by omega)]
     by_cases q3:b=0
     ·rw[qau (by unfold plc;rw[qX q3];rfl),show rst a b p=p-a by unfold rst;rw[qX ⟨q1,.inr q3⟩],← fin (p-a) (by omega),← e2]
     ·rw[qax (by unfold plc;rw[qW q3];exact decide_eq_false (by omega)),show rst a b p=b by unfold rst;rw[qW (by omega)],fin b hab]
   ·rw[qW (by omega),qax (by rfl),show rst a b p=b by unfold rst;rw[qW (by omega)],fin b hab]
theorem zoy (fu n:Nat) (s:List UInt8) (k0:Nat) (hk1:1<=k0) (hk:k0<=s.length) (hs:s.length<500000000) (hfu:s.length<fu):∀ (m a:Nat) (out:List (List UInt8)),s.length-a<=m->s.length-a<n->(a=0\/k0<=a)->a<s.length->out.length+(s.length-a)<500000000 ->
  qdx fu n s (a:Int) ((pts s k0 (s.length-k0)).map Nat.cast) out=some (out++qvk m (s.drop a) (if a=0 then k0 else 1)):=by
 induction n with
 | zero=>intro m a out _ h;exact absurd h (by omega)
 | succ n ih=>
  intro m a out hm h hz ha ho;rw[qdx,qpg,show w64 ((s.length:Int)-(a:Int))=((s.length-a:Nat):Int) by rw[qgo (by omega) (by omega)];omega,qhq]
  have vbu:(s.drop a).length=s.length-a:=List.length_drop;by_cases hl:78<s.length-a
  ·obtain⟨m,rfl⟩:∃ j,m=j+1:=⟨m-1,by omega⟩
   have hpl:=zss s k0 (s.length-k0);have hin:=z68 fu (qdx fu n) fu s a 0 [] (pts s k0 (s.length-k0)) out (by omega) (by simp;omega) (fun p hp=>by
    unfold pts at hp;rw[List.mem_filter,List.mem_range'_1]at hp;omega) (by omega) (by omega) (by omega) (by omega)
   rw[zta s a k0 hk1 hz ha hk]at hin;simp only[List.nil_append,qZ]at hin;rw[qX (by omega),qvk,vbu,qX hl]
   have hin:qgr fu (qdx fu n) fu s (a:Int) (-1) 0 ((pts s k0 (s.length-k0)).map Nat.cast) out=_:=hin;rw[hin];by_cases h0:brk (s.drop a) (if a=0 then k0 else 1)=0
   ·rw[qX h0,qX h0]
   ·obtain⟨h1,h2,_⟩:=zit (s.drop a) (if a=0 then k0 else 1) (by split<;>omega) h0
    rw[qW h0,qW h0];generalize hB:brk (s.drop a) (if a=0 then k0 else 1)=B at *
    have:=ih m (a+B) (out++[(s.drop a).take B]) (by omega) (by omega) (.inr (by
     split at h1
     ·omega
     ·rcases hz with hz|hz<;>omega)) (by omega) (by rw[qM,wD];split at h1<;>omega)
    rw[qW (by split at h1<;>omega)]at this
    rw[this];simp[List.drop_drop]
  ·rw[qW (by omega),qaa (by omega),qaa (by simp[qaq];omega)]
   have e:qvk m (s.drop a) (if a=0 then k0 else 1)=[s.drop a]:=by cases m with
    | zero=>rfl
    | succ m=>rw[qvk,vbu,qW hl]
   rw[e];simp
theorem zzx (fu n:Nat):∀ (s:List UInt8) (m i:Nat) (acc:List Int),i+m=s.length->1<=i->m<n->s.length<1000000000->acc.length+m<1000000000 ->
  qjb fu n s (i:Int) acc=qdx fu fu s 0 (acc++(pts s i m).map Nat.cast) []:=by
 induction n with
 | zero=>intro s m i acc _ _ h;exact absurd h (by omega)
 | succ n ih=>
  intro s m i acc hi h1 hm hb ha;rw[qjb,qph]
  cases m with
  | zero=>rw[qac (by omega)];simp[pts]
  | succ m=>
   have hlt:i<s.length:=by omega
   have hlt':i-1<s.length:=by omega
   rw[qaa (by omega),qv8 _ _ hlt,qB,qtt,qB,q61]
   unfold qpx qpj;rw[show isPt s i=(bl s[i] && !bl s[i-1]) by unfold isPt;rw[q6z _ _ hlt,q6z _ _ hlt']]
   cases bl s[i]
   ·rw[qax (by rfl),qax (by rfl),qai _ (by omega)]
    exact ih s m (i+1) acc (by omega) (by omega) (by omega) hb (by omega)
   ·rw[qau (by rfl),show w64 ((i:Int)-1)=((i-1:Nat):Int) by rw[qgo (by omega) (by omega)];omega,qv8 _ _ hlt',qB,qtt,qB]
    cases bl s[i-1]
    ·rw[qek,qaa (by simp[qaq];omega),qai _ (by omega)]
     have:=ih s m (i+1) (acc++[(i:Int)]) (by omega) (by omega) (by omega) hb (by simp;omega)
     simpa using this
    ·rw[qb0,qai _ (by omega)]
     exact ih s m (i+1) acc (by omega) (by omega) (by omega) hb (by omega)
theorem zkx (n v:List UInt8):brk (qhh n v) (n.length+2)=brk (qhh n v) (n.length+3):=by
 unfold brk
 cases v with
 | nil=>rw[show (qhh n []).length=n.length+2 by simp[qhh]];simp[cb]
 | cons c v=>
  have hl:(qhh n (c::v)).length=n.length+3+v.length:=by simp[qhh];omega
  rw[hl,show n.length+3+v.length-(n.length+2)=v.length+1 by omega,show n.length+3+v.length-(n.length+3)=v.length by omega,cb]
  have:isPt (qhh n (c::v)) (n.length+2)=false:=by
   unfold isPt;have e:(qhh n (c::v)).getD (n.length+2-1) 0=32:=by
    rw[show qhh n (c::v)=(n++[58])++32::c::v by simp[qhh],show n.length+2-1=(n++[58]).length by simp]
    simp[List.getD_eq_getElem?_getD]
   rw[e];cases bl ((qhh n (c::v)).getD (n.length+2) 0)<;>rfl
  rw[this];rfl
theorem zfa (n v:List UInt8):qvk (qhh n v).length (qhh n v) (n.length+3)=qzo n v:=by
 unfold qzo
 cases h:(qhh n v).length with
 | zero=>rfl
 | succ m=>rw[qvk,qvk,zkx]
theorem zgp (fu:Nat) (n v:List UInt8) (h:n.length+v.length+3<fu) (hb:n.length+v.length<400000000):qum fu n v=some (qzo n v):=by
 unfold qum;have hl:(qhh n v).length=n.length+2+v.length:=by simp[qhh];omega
 rw[qaa (by simp[qad];omega),qaa (by simp[qad];omega)]
 rw[show n++([58,32]:List UInt8)++v=qhh n v from rfl,show w64 ((n.length:Int)+3)=((n.length+3:Nat):Int) by rw[qgo (by omega) (by omega)];omega]
 cases v with
 | nil=>
  obtain⟨k,rfl⟩:∃ k,fu=k+1:=⟨fu-1,by omega⟩
  simp only[qZ]at h hl;rw[qjb,qph,qac (by omega)]
  -- too short for points
  by_cases hn:78<n.length+2
  ·have:=zoy (k+1) (k+1) (qhh n []) (n.length+2) (by omega) (by omega) (by omega) (by omega) (qhh n []).length 0 [] (by omega) (by omega) (.inl rfl) (by omega) (by simp;omega)
   rw[show (qhh n []).length-(n.length+2)=0 by omega]at this
   exact this
  ·rw[qdx,qpg,show w64 (((qhh n []).length:Int)-0)=((qhh n []).length:Int) by rw[qgo (by omega) (by omega)];omega,qac (by omega),qaa (by omega),qaa (by simp[qaq])]
   unfold qzo;rw[show qvk (qhh n []).length (qhh n []) (n.length+2)=[qhh n []] by
    rw[hl,show n.length+2+0=n.length+1+1 by omega,qvk,qW (by omega)]]
   rfl
 | cons c v=>
  simp only[qL]at h hb hl;have:=zzx fu fu (qhh n (c::v)) v.length (n.length+3) [] (by omega) (by omega) (by omega) (by omega) (by simp;omega)
  rw[this,List.nil_append,← zfa];have:=zoy fu fu (qhh n (c::v)) (n.length+3) (by omega) (by omega) (by omega) (by omega) (qhh n (c::v)).length 0 [] (by omega) (by omega) (.inl rfl) (by omega) (by simp;omega)
  rw[show (qhh n (c::v)).length-(n.length+3)=v.length by omega]at this
  exact this
theorem zto (fu n:Nat) (m16:Int×Int):∀ (vbt vbs:List (List UInt8)),vbs.length<n->vbt.length+vbs.length<1000000000 ->
  qhp fu n (vbt.length:Int) m16 (vbt++vbs)=some (match za6 vbt.length vbs with|some i=>(1,(i:Int))|none=>(0,0)):=by
 induction n with
 | zero=>intro vbt vbs h;exact absurd h (by omega)
 | succ n ih=>
  intro vbt vbs h hb;rw[qhp,qoa]
  cases vbs with
  | nil=>rw[qac (by simp)];rfl
  | cons c vbs=>
   simp only[qL]at h hb;rw[qbf,qaa (by omega),qq4,qan,qB,qhq,za6]
   by_cases hc:998<c.length
   ·rw[qX (by omega),qX hc];rfl
   ·rw[qW (by omega),qW hc,qai _ (by omega)]
    have:=ih (vbt++[c]) vbs (by omega) (by simp;omega)
    simpa using this
theorem q8i:∀ (m:Nat) (s:List UInt8) (k:Nat),s.length<=m->1<=k->(qvk m s k).length<=s.length+1
 | 0,s,_,_,_=>by simp[qvk]
 | m+1,s,k,h,hk=>by
  rw[qvk];split
  ·split
   ·simp
   ·rename_i h0;obtain⟨h1,h2,_⟩:=zit s k hk h0;have:=q8i m (s.drop (brk s k)) 1 (by rw[List.length_drop];omega) (by omega)
    rw[List.length_drop]at this;rw[qL];omega
  ·simp
theorem zd6 (ls:List (List UInt8)):(q43 ls).1=(match za6 0 ls with|some i=>(1,(i:Int))|none=>(0,0)):=by
 unfold q43;split<;>simp_all
theorem q8a (fu:Nat) (n v:List UInt8) (hfu:10000<=fu) (hn:n.length<fu) (hv:v.length<fu) (hnb:n.length<1000000000) (hvb:v.length<1000000000):qo9 fu n v=some (q8d n v).1:=by
 unfold qo9 q8d;rw[znm fu n v (by omega) hn hv hnb hvb,qB,qlh]
 by_cases h0:q33 n v=0
 ·obtain⟨h1,h2,_⟩:=q4j h0;have hl:=q9f h1;rw[qW (by omega),qX h0,zgp fu n v (by omega) (by omega),qB,zd6]
  have:=q8i (qhh n v).length (qhh n v) (n.length+2) (wF _) (by omega)
  have hle:(qhh n v).length=n.length+2+v.length:=by simp[qhh];omega
  have:=zto fu fu (0,0) [] (qzo n v) (by unfold qzo;omega) (by unfold qzo;simp;omega)
  exact this
 ·rw[qX h0,qW h0];rfl
end Go.Sym
namespace Go.Sym
theorem zdp {α:Type} (vbt:List α) (c d:α) (vbs:List α):idx (vbt++c::d::vbs) ((vbt.length+1:Nat):Int)=some d:=by
 have:=qan (vbt++[c]) d vbs;simpa using this
def isCl (c:UInt8) (r:List UInt8):Bool:=c==13&&r.head? == some 10
theorem qza {c:UInt8} {r:List UInt8} (h:isCl c r=true):c=13/\∃ r',r=10::r':=by
 unfold isCl at h;simp only[qA,beq_iff_eq]at h;refine⟨h.1,?_⟩
 cases r with
 | nil=>simp at h
 | cons d r=>simp at h;exact⟨r,by rw[h.2]⟩
def eo:List UInt8->List UInt8
 | []=>[]
 | c::r=>if isCl c r then 13::10::eo r.tail else if c=13\/c=10 then 13::10::eo r else c::eo r
termination_by l=>l.length
decreasing_by all_goals (simp only[qL,List.length_tail];omega)
theorem zcy (vbt:List UInt8) (c:UInt8) (r:List UInt8) (hb:vbt.length<100000000):qt7 (vbt++c::r) (vbt.length:Int)=some (isCl c r):=by
 unfold qt7 isCl;rw[qai _ (by omega)]
 cases r with
 | nil=>rw[qac (by simp)];cases c==13<;>rfl
 | cons d r=>
  rw[qaa (by simp<;>omega),qan,qB]
  cases c==13
  ·rfl
  ·rw[qau (by rfl),zdp,qB]
   cases h:d==10<;>simp_all
def bs (col:Nat):List UInt8->Int
 | []=>0
 | c::r=>if isCl c r then bs 0 r.tail else if c=13\/c=10 then 11 else if 998<=col then 1 else bs (col+1) r
termination_by l=>l.length
decreasing_by all_goals (simp only[qL,List.length_tail];omega)
theorem zce (col:Nat):bs col []=0:=by rw[bs]
theorem za5 (col:Nat) (c:UInt8) (r:List UInt8):bs col (c::r)=if isCl c r then bs 0 r.tail else if c=13\/c=10 then 11 else if 998<=col then 1 else bs (col+1) r:=by rw[bs]
def zqh (x:Int):Int×Int:=if x=11 then (11,-5) else if x=1 then (1,-6) else (0,0)
theorem zru (fu n:Nat):∀ (vbt vbs:List UInt8) (col:Nat),vbs.length<n->vbt.length+vbs.length<100000000->col<=2000 ->
  qh1 fu n (vbt++vbs) (col:Int) (vbt.length:Int)=some (bs col vbs):=by
 induction n with
 | zero=>intro vbt vbs col h;exact absurd h (by omega)
 | succ n ih=>
  intro vbt vbs col h hb hcol;rw[qh1,qr7]
  cases vbs with
  | nil=>rw[qac (by simp),zce]
  | cons c r=>
   simp only[qL]at h hb;have fin:∀ f,f=isCl c r->qhd fu (qh1 fu n) (vbt++c::r) (col:Int) (vbt.length:Int) c f=some (bs col (c::r)):=by
    intro f hf;unfold qhd;rw[za5,hf];cases hc:isCl c r
    ·rw[qax (by rfl),qW (by decide)]
     unfold qr9;rw[qnq,qnq];by_cases h13:c=13
     ·rw[qX h13,qX (.inl h13)]
     ·rw[qW h13];by_cases h10:c=10
      ·rw[qX h10,qX (.inr h10)]
      ·rw[qW h10,qW (by simp[h13,h10]),qai _ (by omega),qhq]
       by_cases hq:998<=col
       ·rw[qX (by omega),qX hq]
       ·rw[qW (by omega),qW hq,qai _ (by omega)]
        have:=ih (vbt++[c]) r (col+1) (by omega) (by simp;omega) (by omega)
        simpa using this
    ·obtain⟨rfl,r',rfl⟩:=qza hc;simp only[qL]at h hb;rw[qau (by rfl),qX rfl,qai _ (by omega),qai _ (by omega),show vbt.length+1+1=vbt.length+2 from rfl]
     have:=ih (vbt++[13,10]) r' 0 (by omega) (by simp;omega) (by omega)
     simpa using this
   rw[qbf,qaa (by omega),qan,qB,qnq]
   by_cases h13:c=13
   ·subst h13;rw[qX rfl,qai _ (by omega)]
    cases r with
    | nil=>rw[qac (by simp)];exact fin false rfl
    | cons d r=>
     rw[qaa (by simp only[qL];omega),zdp,qB]
     exact fin _ (by unfold isCl;cases h:d==10<;>simp_all)
   ·rw[qW h13];exact fin false (by unfold isCl;rw[beq_false_of_ne h13];rfl)
theorem zoq (n:Nat):∀ (s:List UInt8) (col:Nat),s.length<=n->bs col s=0\/bs col s=1\/bs col s=11:=by
 induction n with
 | zero=>intro s col h;have:=List.length_eq_zero_iff.1 (Nat.le_zero.1 h);subst this;rw[zce];exact .inl rfl
 | succ n ih=>
  intro s col h
  cases s with
  | nil=>rw[zce];exact .inl rfl
  | cons c r=>
   simp only[qL]at h;rw[za5];split
   ·exact ih _ _ (by rw[List.length_tail];omega)
   ·split
    ·exact .inr (.inr rfl)
    ·split
     ·exact .inr (.inl rfl)
     ·exact ih _ _ (by omega)
theorem zmj (fu n:Nat) (m16:Int×Int):∀ (vbt vbs:List UInt8) (col b:Nat),vbs.length<n->vbt.length+vbs.length<100000000->b+col=vbt.length ->
  qhm fu n (vbt++vbs) (b:Int) (vbt.length:Int) m16=some (zqh (bs col vbs)):=by
 induction n with
 | zero=>intro vbt vbs col b h;exact absurd h (by omega)
 | succ n ih=>
  intro vbt vbs col b h hb hcol;rw[qhm,qow]
  cases vbs with
  | nil=>rw[qac (by simp),zce];rfl
  | cons c r=>
   simp only[qL]at h hb;rw[qbf,qaa (by omega),zcy vbt c r (by omega),qB,za5]
   cases hc:isCl c r
   ·rw[qax (by rfl),qW (by decide),qan,qB,qB,qnq]
    unfold qk9;by_cases h13:c=13
    ·rw[qX h13,qX (.inl h13)];rfl
    ·rw[qW h13,qnq];by_cases h10:c=10
     ·rw[qX h10,qX (.inr h10)];rfl
     ·rw[qW h10,qW (by simp[h13,h10]),show w64 ((vbt.length:Int)-(b:Int))=(col:Int) by rw[qgo (by omega) (by omega)];omega,qhq]
      by_cases hq:998<=col
      ·rw[qX (by omega),qX hq];rfl
      ·rw[qW (by omega),qW hq,qai _ (by omega)]
       have:=ih (vbt++[c]) r (col+1) b (by omega) (by simp;omega) (by simp;omega)
       simpa using this
   ·obtain⟨rfl,r',rfl⟩:=qza hc;simp only[qL]at h hb;rw[qau (by rfl),qX rfl,qai _ (by omega),qai _ (by omega),show vbt.length+1+1=vbt.length+2 from rfl]
    have:=ih (vbt++[13,10]) r' 0 (vbt.length+2) (by omega) (by simp;omega) (by simp)
    simpa using this
theorem zln (fu:Nat) (s:List UInt8) (h:s.length<fu) (hb:s.length<100000000):qs9 fu s=some (zqh (bs 0 s)):=by
 have:=zmj fu fu (0,0) [] s 0 0 h (by simpa using hb) rfl
 exact this
end Go.Sym
namespace Go.Sym
abbrev Fld:Type:=List UInt8×List UInt8
def SmF (l:List Fld):Prop:=l.length<=10000000/\∀ x∈l,x.1.length<=10000000/\x.2.length<=10000000
theorem SmF.tail {x:Fld} {l:List Fld} (h:SmF (x::l)):SmF l:=⟨by have:=h.1;simp only[qL]at this;omega,fun y hy=>h.2 y (qE _ hy)⟩
def ff:Nat->List Fld->Int×Int
 | _,[]=>(0,0)
 | i,x::l=>if (q8d x.1 x.2).1.1≠0 then ((q8d x.1 x.2).1.1,(i:Int)) else ff (i+1) l
def qux (l:List Fld):Int×Int:=if 60<l.length then (2,-1) else ff 0 l
theorem zpg (fu n:Nat) (hfu:90000000<=fu) (m16:Int×Int):∀ (vbt vbs:List Fld),vbs.length<n->vbt.length+vbs.length<100000000->SmF vbs ->
  qel fu n (vbt++vbs) ((vbt.length+vbs.length:Nat):Int) (vbt.length:Int) m16=some (ff vbt.length vbs):=by
 induction n with
 | zero=>intro vbt vbs h;exact absurd h (by omega)
 | succ n ih=>
  intro vbt vbs h hb hs;rw[qel,qle]
  cases vbs with
  | nil=>rw[qac (by simp)];rfl
  | cons x vbs=>
   simp only[qL]at h hb ⊢;obtain⟨q1,q2⟩:=hs.2 x qH;rw[qaa (by omega),qan,qB,zrj fu x.1 x.2 (by omega) (by omega) (by omega),qB,qmu,qB,qlh,ff]
   split
   ·rfl
   ·rw[qai _ (by omega)]
    have:=ih (vbt++[x]) vbs (by omega) (by simp;omega) hs.tail
    simp only[qS,wM,qM,qL,qZ]at this;rw[show vbt.length+(0+1)+vbs.length=vbt.length+(vbs.length+1) by omega]at this
    exact this
theorem zsm (fu:Nat) (hfu:90000000<=fu) (l:List Fld) (hs:SmF l):qhs fu l=some (qux l):=by
 unfold qhs qux;rw[qhq];split
 ·rw[qX (by omega)];rfl
 ·rw[qW (by omega)]
  have:=zpg fu fu hfu (0,0) [] l (by have:=hs.1;omega) (by have:=hs.1;simp;omega) hs
  simp only[List.nil_append,qZ,wO]at this;exact this
theorem zxn (fu n:Nat) (hfu:90000000<=fu) (m16:Int×Int):∀ (vbt vbs:List Fld),vbs.length<n->vbt.length+vbs.length<100000000->SmF vbs ->
  qfa fu n (vbt++vbs) (vbt.length:Int) m16=some (ff vbt.length vbs):=by
 induction n with
 | zero=>intro vbt vbs h;exact absurd h (by omega)
 | succ n ih=>
  intro vbt vbs h hb hs;rw[qfa,ql4]
  cases vbs with
  | nil=>rw[qac (by simp)];rfl
  | cons x vbs=>
   simp only[qL]at h hb ⊢;obtain⟨q1,q2⟩:=hs.2 x qH;rw[q29,qL,qaa (by omega),qan,qB,qB,q8a fu x.1 x.2 (by omega) (by omega) (by omega) (by omega) (by omega),qB,qlh,ff]
   split
   ·rfl
   ·rw[qai _ (by omega)]
    have:=ih (vbt++[x]) vbs (by omega) (by simp;omega) hs.tail
    simpa using this
theorem zvi (fu:Nat) (hfu:90000000<=fu) (l:List Fld) (hs:SmF l):ql0 fu l=some (qux l):=by
 unfold ql0 qux;rw[qhq];split
 ·rw[qX (by omega)];rfl
 ·rw[qW (by omega)]
  have:=zxn fu fu hfu (0,0) [] l (by have:=hs.1;omega) (by have:=hs.1;simp;omega) hs
  exact this
end Go.Sym
namespace Go.Sym
def zy6 (ls:List (List UInt8)):List UInt8:=ls.flatMap fun s=>s++[13,10]
def zz6 (l:List Fld):List UInt8:=l.flatMap fun x=>zy6 (qzo x.1 x.2)
def hbytes (l:List Fld):List UInt8:=zz6 l++[13,10]
def SmM (m:List Fld×List UInt8):Prop:=SmF m.1/\m.2.length<=80000000
end Go.Sym
namespace Go.Sym
def chop (t:List UInt8):List UInt8:=if t.getLast? = some 13 then t.dropLast else t
def ln (r:List UInt8):List UInt8×Nat:=if (10:UInt8)∈r then (chop (r.takeWhile (· != 10)),(r.takeWhile (· != 10)).length+1) else (r,r.length)
def z7m (s:List UInt8):Option Fld:=if (58:UInt8)∈s/\q2p (qup (s.takeWhile (· != 58)))=true then some (qup (s.takeWhile (· != 58)),(s.dropWhile (· != 58)).tail) else none
end Go.Sym
namespace Go.Sym
end Go.Sym
namespace Go.Sym
def appL (out:List Fld) (s:List UInt8):List Fld:=match out.getLast? with
 | some x=>out.dropLast++[(x.1,x.2++s)]
 | none=>out
theorem zgg (out:List Fld) (x:Fld) (s:List UInt8):appL (out++[x]) s=out++[(x.1,x.2++s)]:=by
 unfold appL;rw[List.getLast?_concat,List.dropLast_concat]
def hd:Nat->List UInt8->Nat->List Fld->Nat×List Fld
 | 0,_,a,out=>(a,out)
 | n+1,r,a,out=>
  if r=[] then (a,out) else
  if (ln r).1=[] then (a+(ln r).2,out) else
  if bl ((ln r).1.headD 0)=true/\out≠[] then hd n (r.drop (ln r).2) (a+(ln r).2) (appL out (ln r).1) else
  match z7m (ln r).1 with
  | none=>(a,out)
  | some x=>hd n (r.drop (ln r).2) (a+(ln r).2) (out++[x])
def SmA (a:Nat) (l:List Fld):Prop:=l.length<=a/\∀ x∈l,x.1.length<=a/\x.2.length<=a
theorem SmA.mono {a b:Nat} {l:List Fld} (h:SmA a l) (hab:a<=b):SmA b l:=⟨Nat.le_trans h.1 hab,fun x hx=>⟨Nat.le_trans (h.2 x hx).1 hab,Nat.le_trans (h.2 x hx).2 hab⟩⟩
theorem SmA.app {a k:Nat} {l:List Fld} (h:SmA a l) (hne:l≠[]) (s:List UInt8) (hs:s.length<=k):SmA (a+k) (appL l s):=by
 rcases List.eq_nil_or_concat l with rfl|⟨t,x,rfl⟩
 ·exact absurd rfl hne
 ·rw[List.concat_eq_append]at *;rw[zgg];refine⟨by have:=h.1;simp only[qM,qL,qZ]at this ⊢;omega,fun y hy => ?_⟩
  rcases List.mem_append.1 hy with hy|hy
  ·have:=h.2 y (List.mem_append_left _ hy);omega
  ·have:=h.2 x (by simp)
   rw[List.mem_singleton.1 hy];simp only[qM];omega
end Go.Sym
namespace Go.Sym
end Go.Sym
namespace Go.Sym
theorem zpx (fu n:Nat):∀ (vbt vbs:List Fld),vbs.length<n->vbt.length+vbs.length<100000000->qgg fu n (vbt++vbs) (vbt++vbs) (vbt.length:Int)=some true:=by
 induction n with
 | zero=>intro vbt vbs h;exact absurd h (by omega)
 | succ n ih=>
  intro vbt vbs h hb;rw[qgg,qm1]
  cases vbs with
  | nil=>rw[qac (by simp)]
  | cons x vbs=>
   simp only[qL]at h hb;rw[q29,qL,qaa (by omega),qan,qB,qB,show ((x.1==x.1)&&((x.2==x.2)&&true))=true by simp,qb0,qai _ (by omega)]
   have:=ih (vbt++[x]) vbs (by omega) (by simp;omega)
   simpa using this
end Go.Sym
namespace Go.Sym
end Go.Sym
namespace Go.Sym
def vals (l:List Fld) (n:List UInt8):List (List UInt8):=(l.filter fun x=>x.1.map lo==n.map lo).map (·.2)
theorem qsd (x:Fld) (l:List Fld) (n:List UInt8):vals (x::l) n=if (x.1.map lo==n.map lo)=true then x.2::vals l n else vals l n:=by
 unfold vals;rw[List.filter_cons];split<;>rfl
theorem zbf (fu n:Nat) (hfu:90000000<=fu) (nm:List UInt8) (hn:nm.length<=1000):∀ (vbt vbs:List Fld) (out:List (List UInt8)),vbs.length<n->vbt.length+vbs.length<100000000->SmF vbs->out.length+vbs.length<1000000000 ->
  qfw fu n (vbt++vbs) nm (vbt.length:Int) out=some (out++vals vbs nm):=by
 induction n with
 | zero=>intro vbt vbs out h;exact absurd h (by omega)
 | succ n ih=>
  intro vbt vbs out h hb hs hk;rw[qfw,qqf]
  cases vbs with
  | nil=>rw[qac (by simp)];simp[vals]
  | cons x vbs=>
   simp only[qL]at h hb hk;obtain⟨q1,q2⟩:=hs.2 x qH;have next:∀ out':List (List UInt8),out'.length<=out.length+1->qfw fu n (vbt++x::vbs) nm (w64 ((vbt.length:Int)+1)) out'=some (out'++vals vbs nm):=by
    intro out' hj;have:=ih (vbt++[x]) vbs out' (by omega) (by simp;omega) hs.tail (by omega)
    rw[qai _ (by omega)]
    simpa using this
   rw[q29,qL,qaa (by omega),qan,qB,zcr fu _ _ (by omega) (by omega) (by simp only[maxLen];omega) (by simp only[maxLen];omega),qB,qsd]
   cases hc:x.1.map lo==nm.map lo
   ·rw[qax (by rfl),qW (by decide)]
    exact next out (by omega)
   ·rw[qau (by rfl),qX rfl,qB,qaa (by simp[qaq];omega),next _ (by simp)]
    simp
theorem q3j (fu:Nat) (hfu:90000000<=fu) (l:List Fld) (nm:List UInt8) (hn:nm.length<=1000) (hs:SmF l):qri fu l nm=some (vals l nm):=by
 have h1:=hs.1;have:=zbf fu fu hfu nm hn [] l [] (by omega) (by simp;omega) hs (by simp;omega)
 exact this
end Go.Sym
namespace Go.Sym
theorem ztw (f:Bs->Bs->Option Pc):∀ (n:Nat) (acc:List Pc) (s:Bs) (l:List Pc),psG f n acc s=some l->∃ t,l=acc++t:=by
 intro n
 induction n with
 | zero=>intro acc s l h;cases h
 | succ n ih=>
  intro acc s l h;rw[psG]at h
  cases ht:qbl s with
  | nil=>rw[ht]at h;cases h;exact⟨[],by simp⟩
  | cons c t=>
   rw[ht]at h;simp only at h;by_cases hc:c=59
   ·rw[qX hc]at h
    cases hx:lexP t with
    | none=>rw[hx]at h;cases h
    | some x=>
     rw[hx]at h;simp only at h
     cases hp:f x.1.1 x.1.2 with
     | none=>rw[hp]at h;cases h
     | some p=>
      rw[hp]at h;simp only at h;obtain⟨u,e⟩:=ih _ _ _ h;exact⟨p::u,by rw[e];simp⟩
   ·rw[qW hc]at h;cases h
def qxe (p:Pc):Prop:=p.2.1<1000000000
theorem z9y:∀ (n:Nat) (acc:List Pc) (s:Bs),(∀ p∈acc,qxe p)->(∀ l,psG qjw n acc s=some l->(∀ p∈l,qxe p)->psG qme n acc s=some l) /\
  (∀ l,psG qjw n acc s=some l->(∃ p∈l,¬ qxe p)->psG qme n acc s=none)/\(psG qjw n acc s=none->psG qme n acc s=none):=by
 intro n
 induction n with
 | zero=>intro acc s _;exact⟨fun l h=>(nomatch h),fun l h=>(nomatch h),fun _=>rfl⟩
 | succ n ih=>
  intro acc s ha;rw[psG,psG]
  cases ht:qbl s with
  | nil=>exact⟨fun l h _=>h,fun l h hb=>(by cases h;obtain⟨p,hp,hq⟩:=hb;exact absurd (ha p hp) hq),fun h=>h⟩
  | cons c t=>
   simp only;by_cases hc:c=59
   ·rw[qX hc,qX hc]
    cases hx:lexP t with
    | none=>exact⟨fun l h=>(nomatch h),fun l h=>(nomatch h),fun _=>rfl⟩
    | some x=>
     simp only;unfold qme
     cases hp:qjw x.1.1 x.1.2 with
     | none=>exact⟨fun l h=>(nomatch h),fun l h=>(nomatch h),fun _=>rfl⟩
     | some p=>
      simp only;by_cases hs:p.2.1<1000000000
      ·simp only[qX hs];exact ih (acc++[p]) x.2 (fun y hy=>(List.mem_append.1 hy).elim (ha y) (fun e=>by rw[List.mem_singleton.1 e];exact hs))
      ·simp only[qW hs];refine⟨fun l h hall => ?_,fun _ _ _=>by first|rfl|trivial,fun _=>by first|rfl|trivial⟩
       obtain⟨u,e⟩:=ztw qjw n _ _ _ h;exact absurd (hall p (by rw[e];simp)) hs
   ·rw[qW hc,qW hc];exact⟨fun l h=>(nomatch h),fun l h=>(nomatch h),fun _=>rfl⟩
theorem zxx:∀ (n:Nat) (acc:List Pc) (s:Bs) (l:List Pc),psG qjw n acc s=some l->szQ l<=szQ acc+s.length/\((∀ p∈acc,nb p)->∀ p∈l,nb p):=by
 intro n
 induction n with
 | zero=>intro acc s l h;cases h
 | succ n ih=>
  intro acc s l h;have hl:=qgi s;rw[psG]at h
  cases ht:qbl s with
  | nil=>rw[ht]at h;cases h;exact⟨Nat.le_add_right _ _,fun h=>h⟩
  | cons c t=>
   rw[ht]at h hl;simp only[qL]at h hl;by_cases hc:c=59
   ·rw[qX hc]at h
    cases hx:lexP t with
    | none=>rw[hx]at h;cases h
    | some x=>
     rw[hx]at h;simp only at h;have hxl:=(q6b (n:=x.1.1) (v:=x.1.2) (t:=x.2) hx).1
     cases hp:qjw x.1.1 x.1.2 with
     | none=>rw[hp]at h;cases h
     | some p=>
      rw[hp]at h;simp only at h;obtain⟨g1,g2,g3,g4,_⟩:=q5m hp;obtain⟨e1,e2⟩:=ih _ _ _ h;rw[zhe,g2]at e1;exact⟨by omega,fun hh=>e2 (fun y hy=>(List.mem_append.1 hy).elim (hh y) (fun e=>by rw[List.mem_singleton.1 e];exact⟨g3,g4⟩))⟩
   ·rw[qW hc]at h;cases h
theorem zor:∀ (q:List Pc) (k:Int),numd q k->∀ x∈q,x.2.1<k+q.length
 | [],_,_,_,h=>by cases h
 | p::r,k,h,x,hx=>by
  simp only[qL];rcases List.mem_cons.1 hx with e|e
  ·subst e;have:=h.1;omega
  ·have:=zor r _ h.2 x e;omega
theorem zcv {a b c:Bs} (h1:lk a b=true) (h2:lk b c=true):lk a c=true:=by
 unfold lk at *;simp only[beq_iff_eq]at *;rw[h1,h2]
theorem zmk (l:List Pc) {a b:Bs} (h:lk a b=true):qhj a l=qhj b l:=by
 unfold qhj;congr 1;funext x;rw[Bool.eq_iff_iff];exact⟨fun g=>zcv g h,fun g=>zcv g (by rw[zag];exact h)⟩
theorem zjc (l:List Pc):∀ (vbs vbt:List Pc) (out:List Prm),l=vbt++vbs->(qq6 vbt vbs out).1=true->(∀ x∈vbt,q35 (qhj x.1 l)≠none)->∀ x∈l,q35 (qhj x.1 l)≠none:=by
 intro vbs
 induction vbs with
 | nil=>intro vbt out hl _ hp;rw[hl,List.append_nil];rw[hl,List.append_nil]at hp;exact hp
 | cons p vbs ih=>
  intro vbt out hl h hp;rw[qq6]at h;by_cases hany:vbt.any (fun x=>lk x.1 p.1)=true
  ·rw[qX hany]at h;refine ih (vbt++[p]) out (by rw[hl];simp) h (fun x hx => ?_)
   rcases List.mem_append.1 hx with g|g
   ·exact hp x g
   ·rw[List.mem_singleton.1 g];obtain⟨y,hy,hk⟩:=List.any_eq_true.1 hany;rw[← zmk l hk];exact hp y hy
  ·rw[qW hany,← hl]at h
   cases hj:q35 (qhj p.1 l) with
   | none=>rw[hj]at h;cases h
   | some v=>
    rw[hj]at h;refine ih (vbt++[p]) _ (by rw[hl];simp) h (fun x hx => ?_)
    rcases List.mem_append.1 hx with g|g
    ·exact hp x g
    ·rw[List.mem_singleton.1 g,hj];simp
theorem zed (A:List Pc) (hn:∀ x∈A,nb x) (hl:A.length<=300000) (h:q35 A≠none):∀ x∈A,qxe x:=by
 cases A with
 | nil=>intro x hx;cases hx
 | cons p l=>
  rw[qw6]at h;by_cases h0:p.2.1<0
  ·rw[qX h0]at h;by_cases h1:l=[]
   ·subst h1;intro x hx;rw[List.mem_singleton.1 hx];unfold qxe;omega
   ·rw[qW h1]at h;exact absurd rfl h
  ·rw[qW h0]at h;obtain⟨_,h2,_⟩:=q6d (p::l) hn (by omega)
   have hnum:numd (qua (p::l)) 0:=by
    by_cases hq:numd (qua (p::l)) 0
    ·exact hq
    ·rw[q9a _ _ _ hq]at h;exact absurd rfl h
   intro x hx;have:=zor _ 0 hnum x (h2.mem_iff.2 hx);rw[h2.length_eq]at this;unfold qxe;omega
theorem zh5 (l:List Pc) (hn:∀ x∈l,nb x) (hl:l.length<=300000) (hb:∃ p∈l,¬ qxe p):(qq6 [] l []).1=false:=by
 cases h:(qq6 [] l []).1
 ·rfl
 ·obtain⟨p,hp,hq⟩:=hb;have:=zjc l l [] [] rfl h (by simp) p hp
  refine absurd (zed (qhj p.1 l) (fun x hx=>hn x (List.mem_filter.1 hx).1) ?_ this p (List.mem_filter.2 ⟨hp,za3 _⟩)) hq
  have:=List.length_filter_le (fun x:Pc=>lk x.1 p.1) l
  unfold qhj;omega
def qyd (s:Bs):Option Med:=match qvd qjw s with
 | none=>none
 | some m=>if (qq6 [] m.2.2 []).1=true then some (m.1,(m.2.1,(qq6 [] m.2.2 []).2)) else none
theorem q8l {f:Bs->Bs->Option Pc} {s:Bs} {m:Bs×Bs×List Pc} (h:qvd f s=some m):∃ c,psG f (s.length+1) [] c=some m.2.2/\c.length+m.1.length+m.2.1.length<=s.length:=by
 have l1:=qr6 tk s;have l2:=qty 47 (qeo tk s).2;have l3:=qr6 tk (qjq 47 (qeo tk s).2).2;unfold qvd at h;simp only at h;split at h
 ·cases h
 ·cases hp:psG f (s.length+1) [] (qeo tk (qjq 47 (qeo tk s).2).2).2 with
  | none=>rw[hp]at h;cases h
  | some l=>
   rw[hp]at h;cases h;exact⟨_,hp,by simp only;omega⟩
theorem q84 {s:Bs} {m:Bs×Bs×List Pc} (h:qvd qjw s=some m):szQ m.2.2<=s.length/\∀ p∈m.2.2,nb p:=by
 obtain⟨c,h1,h2⟩:=q8l h;obtain⟨g1,g2⟩:=zxx _ _ _ _ h1;exact⟨by simp[szQ]at g1 ⊢;omega,g2 (by simp)⟩
theorem zk8 (l:List Pc) (hz:szQ l<=300000):∀ (vbs vbt:List Pc) (out:List Prm),l=vbt++vbs->out.length<=vbt.length->(∀ x∈out,x.1.length<=4000000/\x.2.length<=4000000)->SmP (qq6 vbt vbs out).2:=by
 have hll:=qn5 l;intro vbs
 induction vbs with
 | nil=>intro vbt out hl ho hs;rw[hl]at hll;simp at hll;exact⟨by rw[qq6];simp only;rw[hl]at hz;simp at hz;omega,hs⟩
 | cons p vbs ih=>
  intro vbt out hl ho hs;rw[qq6];have hpl:=qz2 (show p∈l by rw[hl];simp)
  split
  ·exact ih (vbt++[p]) out (by rw[hl];simp) (by simp;omega) hs
  ·rw[← hl]
   cases hj:q35 (qhj p.1 l) with
   | none=>exact⟨by simp,by simp⟩
   | some v=>
    refine ih (vbt++[p]) _ (by rw[hl];simp) (by simp;omega) (fun x hx => ?_)
    rcases List.mem_append.1 hx with g|g
    ·exact hs x g
    ·rw[List.mem_singleton.1 g];refine⟨by simp only;omega,?_⟩
     simp only;have hzf:=qz6 (fun x=>lk x.1 p.1) l
     have hN:qhj p.1 l=l.filter fun x=>lk x.1 p.1:=rfl
     rw[hN]at hj;generalize l.filter (fun x=>lk x.1 p.1)=A at hj hzf
     cases A with
     | nil=>cases hj
     | cons a A=>
      rw[qw6]at hj;split at hj
      ·split at hj
       ·cases hj
        have:=qz2 (qH (a:=a) (l:=A));omega
       ·cases hj
      ·cases hL:qyz (qua (a::A)) 0 [] with
       | none=>rw[hL]at hj;cases hj
       | some w=>
        rw[hL]at hj;cases hj;have:=z3h w.length false w;have hw:w.length<=szQ (qua (a::A)):=by
         have hnum:=q3l _ _ _ _ hL;rw[q3m _ _ _ hnum]at hL;cases hL
         generalize qua (a::A)=q;clear hnum
         induction q with
         | nil=>simp
         | cons y q ih2=>
          have:=qwi y;simp only[List.nil_append]at ih2 ⊢;rw[List.flatMap_cons,qM,que];omega
        have hq:szQ (qua (a::A))<=szQ (a::A):=by
         unfold qua
         cases ht:toQ (a::A) with
         | none=>simp[szQ]
         | some q=>
          have h1:=(zbr q).1.map (·.1);simp only;rw[q6v h1]
          have e:q.map (·.1)=a::A:=by
           clear h1 hL hzf hw this;generalize a::A=B at ht
           induction B generalizing q with
           | nil=>cases ht;rfl
           | cons b B ih3=>
            rw[toQ]at ht;split at ht
            ·cases hB:toQ B with
             | none=>rw[hB]at ht;cases ht
             | some r=>rw[hB]at ht;cases ht;simp[ih3 r hB]
            ·cases ht
          rw[e];exact wF _
        show (vu [239,191,189] w.length false w).length<=4000000;omega
theorem q2l {s:Bs} {m:Med} (h:qyd s=some m) (hs:s.length<=300000):SmD m:=by
 unfold qyd at h
 cases hp:qvd qjw s with
 | none=>rw[hp]at h;cases h
 | some x=>
  rw[hp]at h;simp only at h;split at h
  ·cases h
   obtain⟨c,_,h2⟩:=q8l hp;obtain⟨h3,_⟩:=q84 hp;exact⟨by simp only;omega,by simp only;omega,zk8 x.2.2 (by omega) x.2.2 [] [] rfl (by simp) (by simp)⟩
  ·cases h
theorem zjp (fu:Nat) (hfu:90000000<=fu) (s:Bs) (h:s.length<=300000):qlk fu s=some (match qyd s with|some m=>(m,true)|none=>bad):=by
 rw[zez fu hfu s h];unfold qyd;have hR:=fun c=>z9y (s.length+1) [] c (by simp)
 unfold qvd;simp only;by_cases hc:(qeo tk s).1=[]\/(qjq 47 (qeo tk s).2).1=false\/(qeo tk (qjq 47 (qeo tk s).2).2).1=[]
 ·rw[qX hc,qX hc]
 ·rw[qW hc,qW hc];obtain⟨r1,r2,r3⟩:=hR (qeo tk (qjq 47 (qeo tk s).2).2).2
  cases hp:psG qjw (s.length+1) [] (qeo tk (qjq 47 (qeo tk s).2).2).2 with
  | none=>rw[r3 hp];rfl
  | some l=>
   simp only[wQ];have hsz:szQ l<=s.length/\∀ p∈l,nb p:=q84 (s:=s) (m:=((qeo tk s).1,(qeo tk (qjq 47 (qeo tk s).2).2).1,l)) (by unfold qvd;simp only;rw[qW hc,hp];rfl)
   have hll:=qn5 l;by_cases hall:∀ p∈l,qxe p
   ·rw[r1 l hp hall];simp only[wQ];have:=zew fu hfu l (by omega) hsz.2 [] [] (qeo tk s).1 (qeo tk (qjq 47 (qeo tk s).2).2).1 fu [] l [] rfl (by omega) (by simp)
    rw[show (([]:List Pc).length:Int)=0 from rfl]at this
    rw[this];cases (qq6 [] l []).1<;>rfl
   ·have hb:∃ p∈l,¬ qxe p:=by
     apply Classical.byContradiction;intro hq;exact hall (fun p hp2=>Classical.byContradiction fun hq2=>hq ⟨p,hp2,hq2⟩)
    rw[r2 l hp hb,zh5 l hsz.2 (by omega) hb];rfl
def pmS (s:Bs):Option Med:=if 4000<s.length then none else match qyd s with
 | none=>none
 | some m=>if (medF m).1≠0 then none else some m
theorem zj9 (fu:Nat) (hfu:90000000<=fu) (s:Bs) (h:s.length<=4000000):∃ R,qnb fu s=some R/\match pmS s with
  | some m=>R = .inr (m.1,(m.2.1,(0,(0,m.2.2))))
  | none=>∃ f:Int×Int,R = .inl ([],([],f))/\f.1≠0:=by
 unfold qnb pmS;by_cases h4:4000<s.length
 ·rw[qaa (by omega),qX h4];exact⟨_,rfl,_,rfl,by decide⟩
 rw[qac (by omega),qW h4]
 obtain⟨R,g1,g2⟩:=zg5 fu hfu (fun l=>qq6 [] l []) (fun l hl hn=>zi3 fu hfu l hl hn) s (by omega)
 rw[g1,qB];have hfail:zah R->∃ R',(sumK R (fun a3=>bif !a3.2.2 then (qae (11:Int) (-5:Int)).bind fun x5=>some (.inl (([]:Bs),(([]:Bs),x5))) else (qce fu (a3.1,(a3.2.1,[]))).bind fun x6=>(qak x6).bind fun x7=>bif x7 then (qae x6.1 (-6:Int)).bind fun x8=>some (.inl (([]:Bs),(([]:Bs),x8))) else (qa0).bind fun x9=>some (.inl (a3.1,(a3.2.1,x9)))) (fun b4=>bif !b4.2.2.1 then (qae (11:Int) (-5:Int)).bind fun x10=>some (.inl (([]:Bs),(([]:Bs),x10))) else (qce fu (b4.1,(b4.2.1,b4.2.2.2))).bind fun x11=>(qak x11).bind fun x12=>bif x12 then (qae x11.1 (-6:Int)).bind fun x13=>some (.inl (([]:Bs),(([]:Bs),x13))) else (qa0).bind fun x14=>some (.inr (b4.1,(b4.2.1,(x14.1,(x14.2,b4.2.2.2)))))):Option qzd)=some R'/\∃ f:Int×Int,R' = .inl ([],([],f))/\f.1≠0:=by
  intro hf
  cases R with
  | inl x=>unfold zah at hf;simp only at hf;simp only[sumK,hf];exact⟨_,rfl,_,rfl,by decide⟩
  | inr x=>unfold zah at hf;simp only at hf;simp only[sumK,hf];exact⟨_,rfl,_,rfl,by decide⟩
 unfold qyd
 cases hp:qvd qjw s with
 | none=>rw[hp]at g2;exact hfail g2
 | some m=>
  rw[hp]at g2;simp only at g2 ⊢;by_cases ht:(qq6 [] m.2.2 []).1=true
  ·rw[qX ht]at g2;subst g2;have hsz:=q2l (s:=s) (m:=(m.1,(m.2.1,(qq6 [] m.2.2 []).2))) (by unfold qyd;rw[hp];simp only;rw[qX ht]) (by omega)
   simp only[sumK,qX ht];rw[qb0,q3v fu hfu _ hsz,qB,qmu,qB,qlh];by_cases h0:(medF (m.1,(m.2.1,(qq6 [] m.2.2 []).2))).1≠0
   ·rw[qX h0,qX h0];exact⟨_,rfl,_,rfl,h0⟩
   ·rw[qW h0,qW h0];exact⟨_,rfl,rfl⟩
  ·rw[qW ht]at g2 ⊢;exact hfail g2
theorem zzt {s:Bs} {m:Med} (h:pmS s=some m):SmD m/\(medF m).1=0:=by
 unfold pmS at h;split at h
 ·cases h
 ·rename_i h4
  cases hm:qyd s with
  | none=>rw[hm]at h;cases h
  | some x=>
   rw[hm]at h;simp only at h;split at h
   ·cases h
   ·rename_i h0;cases h
    exact⟨q2l hm (by omega),Classical.byContradiction h0⟩
end Go.Sym
namespace Go.Sym
open Go.Lib (decDigits itoa validD)
def two (c:UInt8):Bs:=(qu5 c).getD []
set_option maxRecDepth 100000 in
theorem zhj:∀ n:_root_.Fin 256,qu5 (UInt8.ofNat n.val)=some (two (UInt8.ofNat n.val))/\(two (UInt8.ofNat n.val)).length=2:=by decide +kernel
theorem zyl (c:UInt8):qu5 c=some (two c):=(qpo (fun c=>qu5 c=some (two c)/\(two c).length=2) zhj c).1
theorem zjt (c:UInt8):(two c).length=2:=(qpo (fun c=>qu5 c=some (two c)/\(two c).length=2) zhj c).2
def dgH (c:UInt8):UInt8:=(qcw (q34 c (min (4:Int).toNat 8))).getD 0
def dgL (c:UInt8):UInt8:=(qcw c).getD 0
set_option maxRecDepth 100000 in
theorem z3a:∀ n:_root_.Fin 256,qcw (q34 (UInt8.ofNat n.val) (min (4:Int).toNat 8))=some (dgH (UInt8.ofNat n.val))/\qcw (UInt8.ofNat n.val)=some (dgL (UInt8.ofNat n.val))/\[dgH (UInt8.ofNat n.val),dgL (UInt8.ofNat n.val)]=two (UInt8.ofNat n.val):=by decide +kernel
theorem z4n (c:UInt8):qcw (q34 c (min (4:Int).toNat 8))=some (dgH c)/\qcw c=some (dgL c)/\[dgH c,dgL c]=two c:=
 qpo (fun c=>qcw (q34 c (min (4:Int).toNat 8))=some (dgH c)/\qcw c=some (dgL c)/\[dgH c,dgL c]=two c) z3a c
def qvj (c:UInt8):Bs:=if tk c=true then [c] else 37::two c
theorem q27 (c:UInt8):1<=(qvj c).length/\(qvj c).length<=3:=by
 unfold qvj;split
 ·simp
 ·rw[qL,zjt];omega
def pcs (cur:Bs):Bs->List Bs
 | []=>[cur]
 | c::t=>if cur.length+(qvj c).length<=60 then pcs (cur++qvj c) t else cur::pcs (qvj c) t
theorem q6y:∀ (t cur:Bs),(pcs cur t).length<=t.length+1/\1<=(pcs cur t).length
 | [],_=>by simp[pcs]
 | c::t,cur=>by
  rw[pcs];split
  ·have:=q6y t (cur++qvj c);simp only[qL];omega
  ·have:=q6y t (qvj c);simp only[qL];omega
theorem qyt:∀ (t cur:Bs),cur.length<=60->∀ x∈pcs cur t,x.length<=60
 | [],cur,h,x,hx=>by rw[pcs,List.mem_singleton]at hx;rw[hx];exact h
 | c::t,cur,h,x,hx=>by
  have hu:=q27 c;rw[pcs]at hx;split at hx
  ·exact qyt t _ (by rw[qM];omega) x hx
  ·rcases List.mem_cons.1 hx with e|e
   ·rw[e];exact h
   ·exact qyt t _ (by omega) x e
def numb (nm:Bs):Nat->List Bs->Bs
 | _,[]=>[]
 | n,p::ps=>(((((([59,32]:Bs)++nm)++([42]:Bs))++decDigits n)++([42,61]:Bs))++p)++numb nm (n+1) ps
theorem zb4 (nm:Bs) (hn:nm.length<=1000):∀ (ps:List Bs) (n:Nat),n+ps.length<=100000000->(∀ x∈ps,x.length<=60)->(numb nm n ps).length<=ps.length*1200
 | [],_,_,_=>by simp[numb]
 | p::ps,n,h,hs=>by
  simp only[qL]at h;have h1:=zb4 nm hn ps (n+1) (by omega) (fun x hx=>hs x (qE _ hx))
  have h2:=hs p qH;have h3:=qy9 9 n (by omega) (by omega)
  rw[numb];simp only[qM,qL,qZ];omega
theorem zf7 (fu n:Nat):∀ (vbt vbs cur:Bs) (done:List Bs),vbs.length<n->vbt.length+vbs.length<1000000->done.length<=vbt.length->cur.length<=60 ->
  qe1 fu n (vbt++vbs) ((vbt.length+vbs.length:Nat):Int) (vbt.length:Int) (done++[cur])=some (done++pcs cur vbs):=by
 have hrm:=qe7
 induction n with
 | zero=>intro vbt vbs cur done h;exact absurd h (by omega)
 | succ n ih=>
  intro vbt vbs cur done h hb hd hc;rw[qe1,qox]
  cases vbs with
  | nil=>rw[qac (by simp)];rfl
  | cons c t=>
   simp only[qL]at h hb;have hu:=q27 c;have e:(vbt.length+(c::t).length:Nat)=vbt.length+1+t.length:=by simp only[qL];omega
   have p1:qg2 fu (qe1 fu n) (vbt++c::t) (qvj c) ((vbt.length+(c::t).length:Nat):Int) (vbt.length:Int) (done++[cur])=some (done++pcs cur (c::t)):=by
    have hl:(((done++[cur]).length:Nat):Int)-1=(done.length:Int):=by simp
    rw[qg2,hl,qgo (by omega) (by omega),qaa (by simp),q0o,qB,w64n _ _ (by omega),pcs,qai _ (by omega),e]
    have st:=fun cur' done' (h1:done'.length<=vbt.length+1) (h2:cur'.length<=60)=>ih (vbt++[c]) t cur' done' (by omega) (by simp;omega) (by simpa using h1) h2
    simp only[qM,qL,qZ,qS,wM,wO]at st;by_cases h60:cur.length+(qvj c).length<=60
    ·rw[qaa (by omega),qX h60,qaa (by simp),qB,qaa (by simp only[qad];omega),qaa (by simp),qB,zam]
     exact st (cur++qvj c) done (by omega) (by rw[qM];omega)
    ·rw[qac (by omega),qW h60,qaa (by simp only[qM,qL,qZ];omega)]
     have:=st (qvj c) (done++[cur]) (by simp;omega) (by omega)
     refine this.trans ?_;simp
   rw[qaa (by simp only[qL];omega),qai _ (by omega),qaa (by rw[qbf];omega),qan,qB,zga,qB,q8v]
   rw[qvj]at p1;obtain⟨d1,d2,d3⟩:=z4n c;cases hk:tk c
   ·rw[qek,qB,d1,qB,qB,d2,qB];rw[hk,qW (by simp),← d3]at p1
    exact p1
   ·rw[qb0];rw[hk,qX rfl]at p1;exact p1
def pfx:Bs:=[117,116,102,56,39,39]
theorem zee (fu:Nat) (hfu:90000000<=fu) (v:Bs) (h:v.length<=500000):qpp fu v=some (pcs pfx v):=by
 have:=zf7 fu fu [] v pfx [] (by omega) (by simp;omega) (by simp) (by decide)
 simpa [qpp,pfx] using this
def prn (c:UInt8):Bool:=decide (32<=c)&&decide (c<=126)
theorem z28 (c:UInt8):qkc c=some (prn c):=by unfold qkc prn;by_cases h:(32:UInt8)<=c<;>simp[h]
theorem zt6 (fu:Nat) (s:Bs) (h:s.length<fu) (hb:s.length<9223372036854775807):qpq fu s=some (s.all prn):=by
 have e:∀ n,qhi fu n=allG qkc n:=by
  intro n;induction n with
  | zero=>rfl
  | succ n ih=>rw[qhi,ih];funext a b c;rfl
 unfold qpq;rw[e];exact zal _ _ z28 _ _ h hb
def quo (s:Bs):Bs:=escs 92 34 [92,92] [92,34] s
theorem zba (s:Bs):(quo s).length<=2*s.length:=by
 unfold quo;rw[q1o (by decide)]
 have h1:=List.count_le_length (a:=(92:UInt8)) (l:=s);unfold cntP;have:List.count 92 s+List.count 34 s<=s.length:=by
  induction s with
  | nil=>simp
  | cons c s ih=>
   have h1:=List.count_le_length (a:=(92:UInt8)) (l:=s);have:=ih h1;simp only[List.count_cons,qL];by_cases e:c=92
   ·subst e;simp;omega
   ·have:(c==92)=false:=by simpa using e
    rw[this];simp only[wJ,if_false];split<;>omega
 omega
def qzj (p:Prm):Bs:=if tokS p.2=true then ((([59,32]:Bs)++p.1)++([61]:Bs))++p.2
 else if p.2.length<=60/\p.2.all prn=true then ((((([59,32]:Bs)++p.1)++([61,34]:Bs))++quo p.2)++([34]:Bs))
 else numb p.1 0 (pcs pfx p.2)
theorem zqe (fu n:Nat) (z:Prm) (hz:z.1.length<=1000):∀ (vbt vbs:List Bs) (out:Bs),vbs.length<n->vbt.length+vbs.length<1000000->out.length<=vbt.length*1200->(∀ x∈vbs,x.length<=60) ->
  qi3 fu n out ((vbt.length+vbs.length:Nat):Int) (vbt.length:Int) z (vbt++vbs)=some (out++numb z.1 vbt.length vbs):=by
 induction n with
 | zero=>intro vbt vbs out h;exact absurd h (by omega)
 | succ n ih=>
  intro vbt vbs out h hb ho hs;rw[qi3,qql]
  cases vbs with
  | nil=>rw[qac (by simp)];simp[numb]
  | cons p t=>
   simp only[qL]at h hb;have hp:=hs p qH;have hd:=qy9 9 vbt.length (by omega) (by omega)
   rw[qaa (by simp only[qL];omega),qaa (by simp),q0o,qB,qaa (by simp[qad];omega),qaa (by simp[qad];omega)]
   have hi:qdw (vbt.length:Int)=some (decDigits vbt.length):=by unfold qdw;rw[qaa (by omega),q58]
   rw[hi,qB,qaa (by simp[qad];omega),qaa (by simp[qad];omega),qaa (by simp[qad];omega),qaa (by simp[qad];omega),qai _ (by omega)]
   have st:=ih (vbt++[p]) t (out++((((((([59,32]:Bs)++z.1)++([42]:Bs))++decDigits vbt.length)++([42,61]:Bs))++p))) (by omega) (by simp;omega) (by simp only[qM,qL,qZ];omega) (fun x hx=>hs x (qE _ hx))
   simp only[qM,qL,qZ,wO]at st;rw[show (vbt.length+(p::t).length:Nat)=vbt.length+1+t.length by simp only[qL];omega]
   rw[show (vbt++[p])++t=vbt++p::t by simp]at st
   refine st.trans ?_;rw[numb,qS]
theorem zkr (fu:Nat) (hfu:90000000<=fu) (p:Prm) (h1:p.1.length<=1000) (h2:p.2.length<=100000):qrh fu p=some (qzj p):=by
 unfold qrh qzj;rw[q1n fu _ (by omega) (by omega),qB]
 cases ht:tokS p.2
 ·rw[qax rfl,qW (by simp)]
  have hno:qfy fu false p=some (numb p.1 0 (pcs pfx p.2)):=by
   rw[qfy,qax rfl,qqd,zee fu hfu _ (by omega),qB]
   have hl:=q6y p.2 pfx;have:=zqe fu fu p h1 [] (pcs pfx p.2) [] (by omega) (by simp;omega) (by simp) (qyt _ _ (by decide))
   simpa using this
  by_cases h60:p.2.length<=60
  ·rw[qaa (by omega),zt6 fu _ (by omega) (by omega),qB]
   cases ha:p.2.all prn
   ·rw[hno,qW (by simp)]
   ·rw[qX ⟨h60,rfl⟩,qfy,qau rfl,qaa (by simp[qad];omega),qaa (by simp[qad];omega)]
    have hq:=zba p.2;rw[show qgj ([([92]:Bs),([92,92]:Bs),([34]:Bs),([92,34]:Bs)]:List Bs)=some (0,0,0,[[92],[92,92],[34],[92,34]]) by rfl,qB]
    have hr:qif p.2 0 0 0 [[92],[92,92],[34],[92,34]]=some (quo p.2):=by
     unfold qif quo;simp only;rw[qaa (by refine⟨?_,?_,by decide,by omega⟩<;>first|rfl|trivial)]
    rw[hr,qB,qaa (by simp[qad];omega),qaa (by simp[qad];omega)]
  ·rw[qac (by omega),hno,qW (by omega)]
 ·rw[qau rfl,qX rfl,qaa (by simp[qad];omega),qaa (by simp[qad];omega),qaa (by simp[qad];omega)]
theorem q88 (p:Prm) (h1:p.1.length<=1000) (h2:p.2.length<=100000):(qzj p).length<=200000000:=by
 have hq:=zba p.2;have hl:=q6y p.2 pfx;have hn:=zb4 p.1 h1 (pcs pfx p.2) 0 (by omega) (qyt _ _ (by decide))
 unfold qzj;split
 ·simp;omega
 ·split
  ·simp;omega
  ·omega
def q1k (m:Med):Bs:=((m.1++([47]:Bs))++m.2.1)++m.2.2.flatMap qzj
def SmV (m:Med):Prop:=m.1.length<=1000/\m.2.1.length<=1000/\m.2.2.length<=1000/\∀ p∈m.2.2,p.1.length<=1000/\p.2.length<=100000
theorem zcm {s:Bs} (h:tokS s=true):s.length<=60:=by unfold tokS at h;simp at h;exact h.1.2
theorem zgj:∀ (l vbt:List Prm),(parF vbt l).1=0->∀ p∈l,tokS p.1=true/\p.1.length<=20/\p.2.length<=500/\validD p.2=true
 | [],_,_,p,hp=>by cases hp
 | q::l,vbt,h,p,hp=>by
  rw[parF]at h;split at h
  ·cases h
  ·split at h
   ·cases h
   ·split at h
    ·cases h
    ·split at h
     ·cases h
     ·rename_i g1 g2 g3 g4;rcases List.mem_cons.1 hp with e|e
      ·subst e;refine⟨?_,by omega,by omega,?_⟩
       ·cases hh:tokS p.1
        ·exact absurd (.inl hh) g1
        ·rfl
       ·cases hh:validD p.2
        ·exact absurd hh g4
        ·rfl
      ·exact zgj l _ h p e
theorem zqa {m:Med} (h:(medF m).1=0):tokS m.1=true/\tokS m.2.1=true/\m.2.2.length<=60/\∀ p∈m.2.2,tokS p.1=true/\p.1.length<=20/\p.2.length<=500/\validD p.2=true:=by
 unfold medF at h;split at h
 ·cases h
 ·split at h
  ·cases h
  ·rename_i g1 g2;refine⟨?_,?_,by omega,zgj _ _ h⟩
   ·cases hh:tokS m.1
    ·exact absurd (.inl hh) g1
    ·rfl
   ·cases hh:tokS m.2.1
    ·exact absurd (.inr hh) g1
    ·rfl
theorem qze {m:Med} (h:(medF m).1=0):SmV m:=by
 obtain⟨h1,h2,h3,h4⟩:=zqa h;have:=zcm h1;have:=zcm h2;exact⟨by omega,by omega,by omega,fun p hp=>by have:=h4 p hp;omega⟩
theorem SmV.smD {m:Med} (h:SmV m):SmD m:=⟨by have:=h.1;omega,by have:=h.2.1;omega,by have:=h.2.2.1;omega,fun x hx=>by have:=h.2.2.2 x hx;omega⟩
theorem zlf (fu n:Nat) (hfu:90000000<=fu) (z:Int×Int):∀ (vbt vbs:List Prm) (out:Bs),vbs.length<n->vbt.length+vbs.length<=1000->(∀ p∈vbs,p.1.length<=1000/\p.2.length<=100000)->out.length<=3000+vbt.length*200000000 ->
  qi7 fu n out (vbt++vbs) ((vbt.length+vbs.length:Nat):Int) (vbt.length:Int) z=some (if 4000<(out++vbs.flatMap qzj).length then ([],(1,-4)) else (out++vbs.flatMap qzj,(0,0))):=by
 induction n with
 | zero=>intro vbt vbs out h;exact absurd h (by omega)
 | succ n ih=>
  intro vbt vbs out h hb hs ho;rw[qi7,qqs]
  cases vbs with
  | nil=>
   rw[qac (by simp)]
   simp only[List.flatMap_nil,List.append_nil];by_cases h4:4000<out.length
   ·rw[qaa (by omega),qX h4,qhk];rfl
   ·rw[qac (by omega),qW h4,q6q];rfl
  | cons p t=>
   simp only[qL]at h hb;have hp:=hs p qH;have hpl:=q88 p hp.1 hp.2;rw[qaa (by simp only[qL];omega),qan,qB,zkr fu hfu p hp.1 hp.2,qB,qaa (by simp only[qad];omega),qai _ (by omega)]
   have st:=ih (vbt++[p]) t (out++qzj p) (by omega) (by simp;omega) (fun x hx=>hs x (qE _ hx)) (by simp;omega)
   simp only[qM,qL,qZ,wO]at st;rw[show (vbt++[p])++t=vbt++p::t by simp]at st
   rw[show (vbt.length+(p::t).length:Nat)=vbt.length+1+t.length by simp only[qL];omega]
   refine st.trans ?_;simp only[List.flatMap_cons,qS,qM,Nat.add_assoc]
theorem zm6 (fu:Nat) (hfu:90000000<=fu) (m:Med) (hs:SmD m):qf3 fu m=some (if (medF m).1≠0 then ([],medF m) else if 4000<(q1k m).length then ([],(1,-4)) else (q1k m,(0,0))):=by
 unfold qf3;rw[q3v fu hfu m hs,qB,qmu,qB,qlh];by_cases h:(medF m).1≠0
 ·rw[qX h,qX h]
 ·rw[qW h,qW h];obtain⟨g1,g2,g3,g4⟩:=qze (m:=m) (by omega)
  rw[qaa (by simp[qad];omega),qaa (by simp[qad];omega)]
  have:=zlf fu fu hfu (0,0) [] m.2.2 ((m.1++([47]:Bs))++m.2.1) (by omega) (by simp;omega) g4 (by simp;omega)
  simpa [q1k] using this
theorem zm7 (fu n:Nat):∀ (vbt vbs out:Bs),vbs.length<n->vbt.length+vbs.length<1000000->out.length<=1+2*vbt.length ->
  qin fu n (vbt++vbs) out (vbt.length:Int)=some ((out++quo vbs)++[34]):=by
 induction n with
 | zero=>intro vbt vbs out h;exact absurd h (by omega)
 | succ n ih=>
  intro vbt vbs out h hb ho;rw[qin,quw]
  cases vbs with
  | nil=>rw[qac (by simp),qaa (by simp[qad];omega)];simp[quo,escs]
  | cons c t=>
   simp only[qL]at h hb;have st:=fun o (ho:List.length o<=1+2*(vbt.length+1))=>ih (vbt++[c]) t o (by omega) (by simp;omega) (by simpa using ho)
   simp only[qM,qL,qZ,qS,wM,wO]at st;have y:qii fu (qin fu n) (vbt++c::t) out (vbt.length:Int) true=some ((out++([92,c]++quo t))++[34]):=by
    rw[qii,qau rfl,qaa (by simp[qad];omega),qai _ (by omega),qaa (by rw[qbf];omega),q8v,qaa (by simp[qad];omega)]
    refine (st (out++[92]++[c]) (by simp;omega)).trans ?_
    simp
   have nn:qii fu (qin fu n) (vbt++c::t) out (vbt.length:Int) false=some ((out++([c]++quo t))++[34]):=by
    rw[qii,qax rfl,qai _ (by omega),qaa (by rw[qbf];omega),q8v,qaa (by simp[qad];omega)]
    refine (st (out++[c]) (by simp;omega)).trans ?_
    simp
   have hq:quo (c::t)=esc 92 34 [92,92] [92,34] c++quo t:=by unfold quo escs;rw[List.flatMap_cons]
   rw[qaa (by rw[qbf];omega),qan,qB,qnq,hq]
   unfold esc;by_cases h1:c=34
   ·subst h1;rw[qX rfl,y];rfl
   ·rw[qW h1,qB];by_cases h2:c=92
    ·subst h2;rw[show ((92:UInt8)==92)=true from rfl,y];rfl
    ·rw[show (c==92)=false by simpa using h2,nn,qW h2,qW h1]
theorem zh7 (fu:Nat) (hfu:90000000<=fu) (s:Bs) (h:s.length<=100000):qxc fu s=some (([34]++quo s)++[34]):=by
 have:=zm7 fu fu [] s [34] (by omega) (by simp;omega) (by simp)
 simpa [qxc] using this
theorem zqb (fu n:Nat) (hfu:90000000<=fu) (z:Prm) (hz:z.1.length<=1000):∀ (vbt vbs cur out:Bs) (k:Nat),z.2=vbt++vbs->vbs.length<n->z.2.length<=100000->k<=vbt.length->cur.length<=60->out.length<=k*1200 ->
  qex fu n out cur (k:Int) (vbt.length:Int) z=some (out++numb z.1 k (pcs cur vbs)):=by
 induction n with
 | zero=>intro vbt vbs cur out k _ h;exact absurd h (by omega)
 | succ n ih=>
  intro vbt vbs cur out k hzz h hb hk hc ho;have vbu:z.2.length=vbt.length+vbs.length:=by rw[hzz];simp
  have hd:=qy9 9 k (by omega) (by omega)
  rw[qex,qo4]
  cases vbs with
  | nil=>
   rw[qac (by simp only[qZ]at vbu;omega),qaa (by simp[qad];omega),qaa (by simp[qad];omega),qaa (by simp[qad];omega),q2b fu (by omega) k (by omega),qB,qaa (by simp[qad];omega),qaa (by simp[qad];omega),qaa (by simp[qad];omega)]
   rw[pcs,numb,numb];simp
  | cons c t=>
   simp only[qL]at h vbu;have hu:=q27 c;have hx:idx z.2 (vbt.length:Int)=some c:=by rw[hzz];exact qan vbt c t
   have st:=fun cur' out' k' (h1:k'<=vbt.length+1) (h2:List.length cur'<=60) (h3:List.length out'<=k'*1200)=>ih (vbt++[c]) t cur' out' k' (by rw[hzz];simp) (by omega) hb (by simpa using h1) h2 h3
   simp only[qM,qL,qZ,wO]at st;have p3:qhr fu (qex fu n) out cur (k:Int) (vbt.length:Int) (qvj c) z=some (out++numb z.1 k (pcs cur (c::t))):=by
    rw[qhr,w64n _ _ (by omega),pcs]
    by_cases h60:cur.length+(qvj c).length<=60
    ·rw[qac (by omega),qX h60,qg1,qaa (by simp only[qad];omega),qk1,qai _ (by omega)]
     exact st (cur++qvj c) out k (by omega) (by rw[qM];omega) ho
    ·rw[qaa (by omega),qW h60,qaa (by simp[qad];omega),qaa (by simp[qad];omega),qaa (by simp[qad];omega),q2b fu (by omega) k (by omega),qB,qaa (by simp[qad];omega),qaa (by simp[qad];omega),qaa (by simp[qad];omega),qg1,qaa (by simp[qad];omega),qk1,qai _ (by omega),qai _ (by omega),List.nil_append]
     refine (st (qvj c) _ (k+1) (by omega) (by omega) (by simp only[qM,qL,qZ];omega)).trans ?_
     rw[numb];simp
   rw[qaa (by omega),hx,qB,zyl,qB,qaa (by rw[zjt];simp[qad]),qB,zg7 fu (by omega),qB]
   rw[qvj]at p3;cases hk2:tk c
   ·rw[qax rfl];rw[hk2,qW (by simp)]at p3
    exact p3
   ·rw[qau rfl,qai _ (by omega),qaa (by omega)]
    rw[hk2,qX rfl]at p3;have e:List.take (((vbt.length+1:Nat):Int).toNat-((vbt.length:Nat):Int).toNat) (List.drop ((vbt.length:Nat):Int).toNat z.2)=[c]:=by rw[hzz];exact q8v vbt c t
    rw[e];exact p3
theorem zr3 (fu n:Nat) (hfu:90000000<=fu) (z:Prm) (hz:z.1.length<=1000) (hb:z.2.length<=100000) (ht:tokS z.2=false):∀ (vbt vbs:Bs) (f:Bool),z.2=vbt++vbs->vbs.length<n->f=(decide (z.2.length<=60)&&vbt.all prn) ->
  qg4 fu n f (vbt.length:Int) z=some (qzj z):=by
 induction n with
 | zero=>intro vbt vbs f _ h;exact absurd h (by omega)
 | succ n ih=>
  intro vbt vbs f hzz h hf;have vbu:z.2.length=vbt.length+vbs.length:=by rw[hzz];simp
  rw[qg4,qny]
  cases vbs with
  | nil=>
   rw[List.append_nil]at hzz;rw[qac (by simp only[qZ]at vbu;omega),hf]
   unfold qzj;rw[ht,qW (by simp),← hzz]
   cases hc:(decide (z.2.length<=60)&&z.2.all prn)
   ·rw[qax rfl,qW (by intro q;rw[q.2,decide_eq_true q.1]at hc;cases hc)]
    have:=zqb fu fu hfu z hz [] z.2 pfx [] 0 rfl (by omega) hb (by simp) (by decide) (by simp)
    simpa [pfx] using this
   ·rw[qA,decide_eq_true_eq]at hc;have hq:=zba z.2;rw[qau rfl,qX hc,qaa (by simp[qad];omega),qaa (by simp[qad];omega),zh7 fu hfu _ hb,qB,qaa (by simp[qad];omega)]
    simp
  | cons c t=>
   simp only[qL]at h vbu;have hx:idx z.2 (vbt.length:Int)=some c:=by rw[hzz];exact qan vbt c t
   have st:=fun f' (hf':f'=(decide (z.2.length<=60)&&(vbt++[c]).all prn))=>ih (vbt++[c]) t f' (by rw[hzz];simp) (by omega) hf'
   simp only[qM,qL,qZ,wO]at st;have hp:(decide (32<=(c.toNat:Int)/\(c.toNat:Int)<=126))=prn c:=by
    unfold prn;rw[Bool.eq_iff_iff];simp only[decide_eq_true_eq,qA,UInt8.le_iff_toNat_le];show _↔32<=c.toNat/\c.toNat<=126;omega
   rw[qaa (by omega)]
   cases f
   ·rw[qax rfl,qh3,qai _ (by omega)]
    exact st false (by
     rw[List.all_append];cases h1:decide (z.2.length<=60)
     ·rfl
     ·rw[h1,Bool.true_and]at hf;rw[← hf];rfl)
   ·rw[qau rfl,hx,qB,qjz,hp,qB,qh3,qai _ (by omega)]
    exact st (prn c) (by
     rw[List.all_append,← Bool.and_assoc,← hf];simp)
theorem zdt (fu:Nat) (hfu:90000000<=fu) (p:Prm) (h1:p.1.length<=1000) (h2:p.2.length<=100000):qpn fu p=some (qzj p):=by
 unfold qpn;rw[qyk fu (by omega) _ (by omega) (by omega),qB]
 cases ht:tokS p.2
 ·rw[qax rfl];exact zr3 fu fu hfu p h1 h2 ht [] p.2 _ rfl (by omega) (by simp;omega)
 ·rw[qau rfl,qaa (by simp[qad];omega),qaa (by simp[qad];omega),qaa (by simp[qad];omega)]
  unfold qzj;rw[qX ht]
theorem zyw (fu n:Nat) (hfu:90000000<=fu) (m:Med) (hs:SmV m):∀ (vbt vbs:List Prm) (out:Bs),m.2.2=vbt++vbs->vbs.length<n->out.length<=3000+vbt.length*200000000 ->
  qg3 fu n out (vbt.length:Int) m=some (out++vbs.flatMap qzj):=by
 induction n with
 | zero=>intro vbt vbs out _ h;exact absurd h (by omega)
 | succ n ih=>
  intro vbt vbs out hm h ho;have hl:=hs.2.2.1;have vbu:m.2.2.length=vbt.length+vbs.length:=by rw[hm];simp
  rw[qg3,qog]
  cases vbs with
  | nil=>rw[qac (by simp only[qZ]at vbu;omega)];simp
  | cons p t=>
   simp only[qL]at h vbu;have hp:=hs.2.2.2 p (by rw[hm];simp)
   have hpl:=q88 p hp.1 hp.2;have hx:idx m.2.2 (vbt.length:Int)=some p:=by rw[hm];exact qan vbt p t
   rw[qaa (by omega),hx,qB,zdt fu hfu p hp.1 hp.2,qB,qaa (by simp only[qad];omega),qai _ (by omega)]
   have st:=ih (vbt++[p]) t (out++qzj p) (by rw[hm];simp) (by omega) (by simp;omega)
   simp only[qM,qL,qZ,wO]at st;refine st.trans ?_;rw[List.flatMap_cons,qS]
theorem zkh (fu:Nat) (hfu:90000000<=fu) (m:Med) (hs:SmV m):qpf fu m=some (q1k m):=by
 obtain⟨g1,g2,g3,g4⟩:=hs;unfold qpf;rw[qaa (by simp[qad];omega),qaa (by simp[qad];omega)]
 have:=zyw fu fu hfu m ⟨g1,g2,g3,g4⟩ [] m.2.2 ((m.1++([47]:Bs))++m.2.1) rfl (by omega) (by simp;omega)
 simpa [q1k] using this
end Go.Sym
namespace Go.Sym
abbrev ctN:Bs:=[67,111,110,116,101,110,116,45,84,121,112,101]
abbrev ctn:Bs:=[99,111,110,116,101,110,116,45,116,121,112,101]
abbrev mpN:Bs:=[109,117,108,116,105,112,97,114,116]
abbrev bdN:Bs:=[98,111,117,110,100,97,114,121]
theorem zi2 (l:List Fld):vals l ctn=vals l ctN:=rfl
def typV (l:List Fld):Option Med:=match vals l ctN with|[v]=>pmS v|_=>none
def tyP (fu:Nat) (k:Int) (v:Bs):Option qsu:=(qnb fu v).bind fun x4=>sumK x4 (fun a5=>(qak a5.2.2).bind fun x7=>some (.inl (a5.1,(a5.2.1,(k,!x7))))) (fun b6=>(qak (b6.2.2.1,b6.2.2.2.1)).bind fun x8=>some (.inr (b6.1,(b6.2.1,(k,(!x8,b6.2.2.2.2))))))
theorem zzb (fu:Nat) (hfu:90000000<=fu) (k:Int) (v:Bs) (h:v.length<=4000000):tyP fu k v=some (match pmS v with|some m => .inr (m.1,(m.2.1,(k,(true,m.2.2))))|none => .inl ([],([],(k,false)))):=by
 unfold tyP;obtain⟨R,h1,h2⟩:=zj9 fu hfu v h;rw[h1,qB]
 cases hp:pmS v with
 | none=>
  rw[hp]at h2;obtain⟨f,rfl,hf⟩:=h2;simp only[sumK,qmu,qB];have:(f.1 != 0)=true:=by simpa using hf
  rw[this];rfl
 | some m=>rw[hp]at h2;simp only at h2;subst h2;rfl
section typ
variable (fu:Nat) (hfu:90000000<=fu) (l:List Fld) (hs:∀ x∈l,x.1.length<=4000000/\x.2.length<=4000000) (hl:l.length<=4000000)
include hfu hs hl
theorem z7e (k:Nat) (y:Fld) (hy:idx l (k:Int)=some y) (n:Nat):∀ (vbt vbs:List Fld),l=vbt++vbs->vbs.length<n ->
  qd4 fu n l (k:Int) (vbt++vbs) ((vbt.length+vbs.length:Nat):Int) (vbt.length:Int) [] []=if vals vbs ctN=[] then tyP fu (k:Int) y.2 else some (.inl ([],([],(0,false)))):=by
 induction n with
 | zero=>intro vbt vbs _ h;exact absurd h (by omega)
 | succ n ih=>
  intro vbt vbs hp h;have vbu:l.length=vbt.length+vbs.length:=by rw[hp];simp
  rw[qd4,qms]
  cases vbs with
  | nil=>rw[qac (by simp),qac (by omega),hy,qB,show vals [] ctN=[] from rfl,qX rfl];rfl
  | cons x t=>
   simp only[qL]at h vbu;have hx:=hs x (by rw[hp];simp)
   have st:=ih (vbt++[x]) t (by rw[hp];simp) (by omega)
   simp only[qM,qL,qZ,qS,wM,wO]at st;rw[qaa (by simp only[qL];omega),qan,qB,quu fu hfu _ _ hx.1 (by simp),qB,qsd]
   cases hk:lk x.1 ctN
   ·rw[qax rfl,qhe,qai _ (by omega),qW (show ¬ ((x.1.map lo==ctN.map lo)=true) by show ¬ lk x.1 ctN=true;rw[hk];simp),show (vbt.length+(x::t).length:Nat)=vbt.length+1+t.length by simp only[qL];omega]
    exact st
   ·rw[qau rfl,qaa (by omega),qX (show (x.1.map lo==ctN.map lo)=true from hk),qW (by simp)]
theorem z89 (n:Nat):∀ (vbt vbs:List Fld),l=vbt++vbs->vbs.length<n ->
  (vals vbs ctN=[]->qd4 fu n l (-1) (vbt++vbs) ((vbt.length+vbs.length:Nat):Int) (vbt.length:Int) [] []=some (.inl ([],([],(0,false))))) /\
  (∀ u x w,vbs=u++x::w->vals u ctN=[]->lk x.1 ctN=true->qd4 fu n l (-1) (vbt++vbs) ((vbt.length+vbs.length:Nat):Int) (vbt.length:Int) [] []=if vals w ctN=[] then tyP fu ((vbt.length+u.length:Nat):Int) x.2 else some (.inl ([],([],(0,false))))):=by
 induction n with
 | zero=>intro vbt vbs _ h;exact absurd h (by omega)
 | succ n ih=>
  intro vbt vbs hp h;have vbu:l.length=vbt.length+vbs.length:=by rw[hp];simp
  rw[qd4,qms]
  cases vbs with
  | nil=>exact⟨fun _=>by rw[qac (by simp),qaa (by omega)],fun u x w e=>by simp at e⟩
  | cons y t=>
   simp only[qL]at h vbu;have hy:=hs y (by rw[hp];simp)
   obtain⟨s1,s2⟩:=ih (vbt++[y]) t (by rw[hp];simp) (by omega)
   simp only[qM,qL,qZ,qS,wM,wO]at s1 s2;rw[qaa (by simp only[qL];omega),qan,qB,quu fu hfu _ _ hy.1 (by simp),qB,qsd,show (vbt.length+(y::t).length:Nat)=vbt.length+1+t.length by simp only[qL];omega]
   cases hk:lk y.1 ctN
   ·rw[qax rfl,qhe,qai _ (by omega),qW (show ¬ ((y.1.map lo==ctN.map lo)=true) by show ¬ lk y.1 ctN=true;rw[hk];simp)]
    refine⟨s1,fun u x w e hu hx => ?_⟩
    cases u with
    | nil=>rw[List.nil_append,List.cons.injEq]at e;rw[e.1,hx]at hk;cases hk
    | cons z u=>
     rw[wK,List.cons.injEq]at e;obtain⟨rfl,e⟩:=e;rw[qsd,qW (show ¬ ((y.1.map lo==ctN.map lo)=true) by show ¬ lk y.1 ctN=true;rw[hk];simp)]at hu
     have:=s2 u x w e hu hx;rw[show (vbt.length+(y::u).length:Nat)=vbt.length+1+u.length by simp only[qL];omega]
     exact this
   ·rw[qau rfl,qac (by omega),qhe,qai _ (by omega),qX (show (y.1.map lo==ctN.map lo)=true from hk)]
    refine⟨fun e=>by simp at e,fun u x w e hu hx => ?_⟩
    cases u with
    | nil=>
     rw[List.nil_append,List.cons.injEq]at e;obtain⟨rfl,rfl⟩:=e;have:=z7e fu hfu l hs hl vbt.length y (by rw[hp];exact qan vbt y t) n (vbt++[y]) t (by rw[hp];simp) (by omega)
     simp only[qM,qL,qZ,qS,wM,wO]at this;exact this
    | cons z u=>
     rw[wK,List.cons.injEq]at e;obtain⟨rfl,e⟩:=e;rw[qsd,qX (show (y.1.map lo==ctN.map lo)=true from hk)]at hu
     simp at hu
theorem ziq:∃ R,qke fu l=some R/\match typV l with
  | some m=>∃ vbt x vbs,l=vbt++x::vbs/\vals l ctN=[x.2]/\lk x.1 ctN=true/\vals vbt ctN=[]/\vals vbs ctN=[]/\R = .inr (m.1,(m.2.1,((vbt.length:Int),(true,m.2.2))))
  | none=>∃ k,R = .inl ([],([],(k,false))):=by
 obtain⟨h1,h2⟩:=z89 fu hfu l hs hl fu [] l rfl (by omega)
 simp only[List.nil_append,qZ,wO]at h1 h2;unfold qke;rw[show ((0:Nat):Int)=0 from rfl]at h1 h2
 have hd:vals l ctN=[]\/∃ u x w,l=u++x::w/\vals u ctN=[]/\lk x.1 ctN=true:=by
  clear h1 h2 hs hl
  induction l with
  | nil=>exact .inl rfl
  | cons y t ih=>
   rw[qsd];cases hk:lk y.1 ctN
   ·rw[qW (show ¬ ((y.1.map lo==ctN.map lo)=true) by show ¬ lk y.1 ctN=true;rw[hk];simp)]
    rcases ih with g|⟨u,x,w,e,g1,g2⟩
    ·exact .inl g
    ·exact .inr ⟨y::u,x,w,by rw[e];rfl,by rw[qsd,qW (show ¬ ((y.1.map lo==ctN.map lo)=true) by show ¬ lk y.1 ctN=true;rw[hk];simp)];exact g1,g2⟩
   ·exact .inr ⟨[],y,t,rfl,rfl,hk⟩
 have vapp:∀ (u w:List Fld) (x:Fld),lk x.1 ctN=true->vals (u++x::w) ctN=vals u ctN++x.2::vals w ctN:=fun u w x hx=>by
  unfold vals;rw[List.filter_append,List.filter_cons,qX (show (x.1.map lo==ctN.map lo)=true from hx),List.map_append];rfl
 rcases hd with g|⟨u,x,w,e,g1,g2⟩
 ·refine⟨_,h1 g,?_⟩;unfold typV;rw[g];exact⟨0,rfl⟩
 ·have hr:=h2 u x w e g1 g2;have hv:=vapp u w x g2;rw[← e,g1,List.nil_append]at hv;by_cases hw:vals w ctN=[]
  ·rw[qX hw,zzb fu hfu _ _ (hs x (by rw[e];simp)).2]at hr
   refine⟨_,hr,?_⟩;rw[hw]at hv;unfold typV;rw[hv];simp only
   cases hp:pmS x.2 with
   | none=>exact⟨_,rfl⟩
   | some m=>exact⟨u,x,w,e,rfl,g2,g1,hw,rfl⟩
  ·rw[qW hw]at hr;refine⟨_,hr,?_⟩;unfold typV;rw[hv]
   cases hh:vals w ctN with
   | nil=>exact absurd hh hw
   | cons=>exact⟨0,rfl⟩
end typ
theorem q52 {l:List Fld} {m:Med} (h:typV l=some m):(medF m).1=0:=by
 unfold typV at h;split at h
 ·exact (zzt h).2
 ·cases h
theorem q7y (fu:Nat) (hfu:90000000<=fu) (l:List Fld) (hs:SmF l):qr8 fu l=some (match typV l with|some m=>(m,true)|none=>(([],([],[])),false)):=by
 unfold qr8;rw[q3j fu hfu l ctn (by simp) hs,qB,zi2,qlh]
 unfold typV
 cases hv:vals l ctN with
 | nil=>rw[qX (by simp)];rfl
 | cons v t=>
  cases t with
  | cons w t=>rw[qX (by simp only[qL];omega)];rfl
  | nil=>
   rw[qW (by simp),qaa (by simp),show ([v]:List Bs)[(0:Int).toNat]? = some v from rfl,qB,qpr]
   simp only;unfold pmS;by_cases h4:4000<v.length
   ·rw[qaa (by omega),qX h4]
   ·rw[qac (by omega),qW h4,qtq,qaa (by simp),show ([v]:List Bs)[(0:Int).toNat]? = some v from rfl,qB,zjp fu hfu v (by omega),qB]
    cases hm:qyd v with
    | none=>rfl
    | some m=>
     simp only;rw[qb0,ze1 fu hfu m (q2l hm (by omega)),qB,qlh]
     by_cases h0:(medF m).1≠0
     ·rw[qX h0,qX h0]
     ·rw[qW h0,qW h0]
def bOk (b:Bs):Bool := !b.isEmpty&&(decide (b.length<=60)&&(b.all prn && !(b.getLast? == some 32)))
def bnd (l:List Fld):Option Bs:=match typV l with
 | some m=>if lk m.1 mpN=true/\(parB m.2.2 bdN).2=true/\bOk (parB m.2.2 bdN).1=true then some (parB m.2.2 bdN).1 else none
 | none=>none
theorem zct (l:List Prm) (nm:Bs) (M:Nat) (h:∀ x∈l,x.2.length<=M):(parB l nm).1.length<=M:=by
 induction l with
 | nil=>simp[parB,par]
 | cons p l ih=>
  rw[q25];split
  ·exact h p qH
  ·exact ih (fun x hx=>h x (qE _ hx))
theorem z4w (c:UInt8):qf8 c=some (prn c):=by unfold qf8 prn;by_cases h:(32:UInt8)<=c<;>simp[h]
theorem zsf (fu:Nat) (s:Bs) (h:s.length<fu) (hb:s.length<9223372036854775807):qpw fu s=some (s.all prn):=by
 have e:∀ n,qhg fu n=allG qf8 n:=by
  intro n;induction n with
  | zero=>rfl
  | succ n ih=>rw[qhg,ih];funext a b c;rfl
 unfold qpw;rw[e];exact zal _ _ z4w _ _ h hb
theorem zlq (t:Bs) (hb:t.length<=4000000):qij t [32]=some (t.getLast? == some 32):=by
 unfold qij qa6;rw[show (([32]:List UInt8).length:Int)=1 from rfl]
 rcases List.eq_nil_or_concat t with rfl|⟨u,c,rfl⟩
 ·rfl
 ·rw[List.concat_eq_append]at *;simp only[qM,qL,qZ]at hb;rw[qnf,qvs _ (by omega),qaa (by omega),qaa (by omega),qB,List.getLast?_concat]
  have e:List.drop ((u.length:Nat):Int).toNat (u++[c])=[c]:=quh u [c];rw[e];congr 1;rw[Bool.eq_iff_iff];simp
theorem zbn (fu:Nat) (hfu:90000000<=fu) (l:List Fld) (hs:∀ x∈l,x.1.length<=4000000/\x.2.length<=4000000) (hl:l.length<=4000000):∃ R,ql1 fu l=some R/\match bnd l with
  | some b=>R=(b,true)
  | none=>R.2=false:=by
 obtain⟨R,h1,h2⟩:=ziq fu hfu l hs hl;unfold ql1 bnd;rw[h1,qB]
 cases ht:typV l with
 | none=>
  rw[ht]at h2;obtain⟨k,rfl⟩:=h2;exact⟨_,rfl,rfl⟩
 | some m=>
  rw[ht]at h2;obtain⟨vbt,x,vbs,e1,e2,e3,e4,e5,rfl⟩:=h2;have h0:=q52 ht;have hv:=qze h0;simp only[sumK];rw[qb0,quu fu hfu _ _ (by have:=hv.1;omega) (by simp),qB]
  cases hk:lk m.1 mpN
  ·rw[qcf,qek];exact⟨_,rfl,by simp⟩
  ·have hbl:=zct m.2.2 bdN 100000 (fun x hx=>(hv.2.2.2 x hx).2)
   rw[qcf,qb0,ql9,q9u fu hfu (m.1,(m.2.1,m.2.2)) bdN (by simp) hv.smD,qB,qW (by simpa using h0)]
   simp only;generalize hb:(parB m.2.2 bdN).1=b at *;generalize hi:(parB m.2.2 bdN).2=i at *;unfold bOk
   cases b with
   | nil=>rw[show (!(([]:Bs)==[]))=false from rfl,qax rfl];cases i<;>exact⟨_,rfl,by simp⟩
   | cons c b=>
    rw[show (!((c::b:Bs)==[]))=true from rfl,qau rfl]
    by_cases h60:(c::b).length<=60
    ·rw[qaa (by omega),zsf fu _ (by omega) (by omega),qB]
     cases ha:(c::b).all prn
     ·rw[qax rfl];cases i<;>exact⟨_,rfl,by simp[ha]⟩
     ·rw[qau rfl,zlq _ (by omega),qB]
      cases i
      ·exact⟨_,rfl,by simp⟩
      ·rw[qau rfl];refine⟨_,rfl,?_⟩;cases hg:((c::b).getLast? == some 32)
       ·rw[qX ⟨by first|rfl|trivial,by first|rfl|trivial,by simp only[List.isEmpty_cons,Bool.not_false,Bool.true_and,Bool.and_true];exact decide_eq_true h60⟩];rfl
       ·rw[qW (by simp)];rfl
    ·rw[qac (by omega)]
     have hnot:¬ (decide ((c::b).length<=60)=true):=by simpa using h60
     cases i
     ·exact⟨_,rfl,by simp⟩
     ·refine⟨_,rfl,?_⟩;rw[qW (by
       rintro⟨_,_,g⟩
       rw[qA,qA]at g;exact hnot g.2.1)]
theorem zvv (fu n:Nat) (i:Bool):∀ (vbt vbs:Bs),vbs.length<n->vbt.length+vbs.length<1000000 ->
  ∃ R,qhl fu n (vbt++vbs) i (vbt.length:Int)=some R/\(if vbs.all prn=true/\i=true/\(1<=(vbt++vbs).length/\(vbt++vbs).length<=60)/\(vbt++vbs).getLast? ≠ some 32 then R=(vbt++vbs,true) else R.2=false):=by
 induction n with
 | zero=>intro vbt vbs h;exact absurd h (by omega)
 | succ n ih=>
  intro vbt vbs h hb;rw[qhl,qos]
  cases vbs with
  | nil=>
   rw[qac (by simp),List.append_nil]
   cases i
   ·exact⟨_,rfl,by rw[qW (by simp)]⟩
   ·rw[qau rfl,qjz,qB];by_cases h60:1<=vbt.length/\vbt.length<=60
    ·rw[qaa (by omega)]
     rcases List.eq_nil_or_concat vbt with rfl|⟨u,c,rfl⟩
     ·simp at h60
     ·rw[List.concat_eq_append]at *;simp only[qM,qL,qZ]at hb;rw[qnf,qvs _ (by omega),qw4,qB]
      refine⟨_,rfl,?_⟩;rw[List.getLast?_concat];by_cases hc:c=32
      ·rw[qW (by simp[hc])];simp[hc]
      ·rw[qX ⟨rfl,rfl,h60,by simpa using hc⟩];simp[hc]
    ·rw[qac (by omega)];exact⟨_,rfl,by rw[qW (fun g=>h60 g.2.2.1)]⟩
  | cons c t=>
   simp only[qL]at h hb;have hp:(decide (32<=(c.toNat:Int)/\(c.toNat:Int)<=126))=prn c:=by
    unfold prn;rw[Bool.eq_iff_iff];simp only[decide_eq_true_eq,qA,UInt8.le_iff_toNat_le];show _↔32<=c.toNat/\c.toNat<=126;omega
   rw[qaa (by rw[qbf];omega),qan,qB,qjz,hp,qB,qai _ (by omega)]
   cases hc:prn c
   ·rw[qek];exact⟨_,rfl,by rw[qW (by simp[hc])]⟩
   ·rw[qb0];obtain⟨R,g1,g2⟩:=ih (vbt++[c]) t (by omega) (by simp;omega)
    rw[qM,wD,qS,wM]at g1;refine⟨R,g1,?_⟩;rw[qS,wM]at g2;rw[List.all_cons,hc,Bool.true_and];exact g2
theorem z1r (fu:Nat) (hfu:90000000<=fu) (l:List Fld) (hs:SmF l):∃ R,qps fu l=some R/\match bnd l with
  | some b=>R=(b,true)
  | none=>R.2=false:=by
 unfold qps bnd;rw[q7y fu hfu l hs,qB]
 cases ht:typV l with
 | none=>exact⟨_,rfl,rfl⟩
 | some m=>
  have h0:=q52 ht;have hv:=qze h0;simp only;rw[qb0,qul fu hfu _ _ (by have:=hv.1;omega) (by simp),qB]
  cases hk:lk m.1 mpN
  ·rw[qg7,qek];exact⟨_,rfl,by simp⟩
  ·have hbl:=zct m.2.2 bdN 100000 (fun x hx=>(hv.2.2.2 x hx).2)
   rw[qg7,qb0,qnw,q1z fu hfu m bdN (by simp) hv.smD.2.2,qB]
   obtain⟨R,g1,g2⟩:=zvv fu fu (parB m.2.2 bdN).2 [] (parB m.2.2 bdN).1 (by omega) (by simp;omega)
   refine⟨R,g1,?_⟩;simp only[List.nil_append]at g2;by_cases hc:(parB m.2.2 bdN).1.all prn=true/\(parB m.2.2 bdN).2=true/\(1<=(parB m.2.2 bdN).1.length/\(parB m.2.2 bdN).1.length<=60)/\(parB m.2.2 bdN).1.getLast? ≠ some 32
   ·rw[qX hc]at g2;have hb:bOk (parB m.2.2 bdN).1=true:=by
     unfold bOk;have:(parB m.2.2 bdN).1.isEmpty=false:=by
      cases hh:(parB m.2.2 bdN).1 with
      | nil=>rw[hh]at hc;simp at hc
      | cons=>rfl
     rw[this,hc.1,decide_eq_true hc.2.2.1.2];simp;exact hc.2.2.2
    rw[qX ⟨by first|rfl|trivial,hc.2.1,hb⟩];exact g2
   ·rw[qW hc]at g2;rw[qW (by
     rintro⟨_,q1,q2⟩
     apply hc;unfold bOk at q2;simp only[qA,Bool.not_eq_true',decide_eq_true_eq,beq_eq_false_iff_ne]at q2;refine⟨q2.2.2.1,q1,⟨?_,q2.2.1⟩,q2.2.2.2⟩
     cases hh:(parB m.2.2 bdN).1 with
     | nil=>rw[hh]at q2;simp at q2
     | cons=>simp)]
    exact g2
theorem zfi {l:List Fld} {b:Bs} (h:bnd l=some b):1<=b.length/\b.length<=60:=by
 unfold bnd at h;split at h
 ·split at h
  ·rename_i hc;cases h
   have q:=hc.2.2;unfold bOk at q;simp only[qA,Bool.not_eq_true',decide_eq_true_eq]at q;refine⟨?_,q.2.1⟩;generalize (parB _ bdN).1=z at *
   cases z with
   | nil=>simp at q
   | cons=>simp
  ·cases h
 ·cases h
end Go.Sym
namespace Go.Sym
def kndT (t b:Bs):Int:=if t=([45,45]:Bs)++b then 1 else if t=(([45,45]:Bs)++b)++([45,45]:Bs) then 2 else 0
def knd (line b:Bs):Int:=kndT (qup line) b
theorem q7k {α:Type} {a b:Bs} {x y:α}:(bif a==b then x else y)=if a=b then x else y:=by
 by_cases h:a=b
 ·rw[qau (by simpa using h),qX h]
 ·rw[qax (by simpa using h),qW h]
theorem zty (fu:Nat) (hfu:90000000<=fu) (line b:Bs) (h:line.length<=4000000) (hb:b.length<=1000):qs8 fu line b=some (knd line b):=by
 unfold qs8 knd kndT;rw[zlu fu line (by omega) (by omega) (by omega),qB,qaa (by simp[qad];omega),q7k,qaa (by simp[qad];omega),qaa (by simp[qad];omega),q7k]
 split
 ·rfl
 ·split<;>rfl
theorem z9a (fu:Nat) (s b:Bs) (hs:s.length<=4000000) (hb:b.length<=1000) (n:Nat):∀ (u w:Bs),s=u++w->u.length<n->qfz fu n s b (u.length:Int)=some (kndT (qup u) b):=by
 induction n with
 | zero=>intro u w _ h;exact absurd h (by omega)
 | succ n ih=>
  intro u w hu h;have vbu:s.length=u.length+w.length:=by rw[hu];simp
  have fin:qfv fu (qfz fu n) s b (u.length:Int) false=some (kndT u b):=by
   rw[qfv,qax rfl,qaa (by omega),qaa (by simp[qad];omega),show List.take ((u.length:Nat):Int).toNat s=u by rw[hu];exact quq u w,q7k,qaa (by omega),qaa (by simp[qad];omega),qaa (by simp[qad];omega),q7k]
   unfold kndT;split
   ·rfl
   ·split<;>rfl
  rw[qfz,qq1];rcases List.eq_nil_or_concat u with rfl|⟨t,c,rfl⟩
  ·rw[qac (by simp)];exact fin
  ·rw[List.concat_eq_append]at *;rw[qaa (by simp),qnf,qvs _ (by simp at vbu;omega),qtz]
   have hx:idx s (t.length:Int)=some c:=by rw[hu,qS];exact qan t c w
   rw[hx,qB,qtt,qB];cases hc:bl c
   ·rw[qnf]at fin;rw[fin];rfl
   ·rw[qfv,qau rfl,qqh,qvs _ (by simp at vbu;omega),qX rfl]
    exact ih t (c::w) (by rw[hu];simp) (by simp at h;omega)
theorem zar (fu:Nat) (hfu:90000000<=fu) (s b:Bs) (hs:s.length<=4000000) (hb:b.length<=1000):qu1 fu s b=some (knd s b):=
 z9a fu s b hs hb fu s [] (by simp) (by omega)
def cutL:Bs->Bs
 | []=>[]
 | c::t=>if isCl c t=true then [] else c::cutL t
def nxtL:Bs->Bs
 | []=>[]
 | c::t=>if isCl c t=true then t.tail else nxtL t
theorem qsj:∀ r:Bs,(r=cutL r++13::10::nxtL r/\Lib.index r [13,10]=((cutL r).length:Int))\/(cutL r=r/\nxtL r=[]/\Lib.index r [13,10] = -1)
 | [] => .inr ⟨rfl,rfl,rfl⟩
 | c::t=>by
  have hp:([13,10]:Bs).isPrefixOf (c::t)=isCl c t:=by
   unfold isCl
   cases t with
   | nil=>simp[List.isPrefixOf]
   | cons d t=>simp[List.isPrefixOf,qzb]
  rw[cutL,nxtL,Lib.index,hp];by_cases hc:isCl c t=true
  ·obtain⟨rfl,r',rfl⟩:=qza hc;rw[qX hc,qX hc,qX hc];exact .inl ⟨rfl,rfl⟩
  ·rw[qW hc,qW hc,qW hc];rcases qsj t with ⟨h1,h2⟩|⟨h1,h2,h3⟩
   ·refine .inl ⟨by rw[wK,← h1],?_⟩
    rw[h2,qW (by simp)];simp
   ·refine .inr ⟨by rw[h1],h2,?_⟩
    rw[h3];rfl
theorem q19 (r:Bs):r.take (cutL r).length=cutL r:=by
 rcases qsj r with ⟨h1,_⟩|⟨h1,_,_⟩
 ·have e:r.take (cutL r).length=(cutL r++13::10::nxtL r).take (cutL r).length:=by rw[← h1]
  rw[e,List.take_left]
 ·rw[h1];simp
theorem quj (r:Bs):nxtL r <:+ r:=by
 rcases qsj r with ⟨h1,_⟩|⟨_,h2,_⟩
 ·exact⟨cutL r++[13,10],by simp;exact h1.symm⟩
 ·rw[h2];exact List.nil_suffix
theorem q6w (c:UInt8) (t:Bs):(nxtL (c::t)).length<=t.length:=by
 rcases qsj (c::t) with ⟨h1,_⟩|⟨_,h2,_⟩
 ·have:=congrArg List.length h1;simp only[qM,qL]at this;omega
 ·rw[h2];simp
theorem q51 (r:Bs):(cutL r).length<=r.length:=by
 rcases qsj r with ⟨h1,_⟩|⟨h1,_,_⟩
 ·have:=congrArg List.length h1;simp only[qM,qL]at this;omega
 ·rw[h1];exact wF _
def cutP (s r:Bs):Bs:=s.take (s.length-r.length-2)
def addP (st:Option Bs) (r:Bs) (out:List Bs):List Bs:=match st with|some s=>out++[cutP s r]|none=>out
def qvn (b:Bs):Nat->Bs->Option Bs->List Bs->List Bs
 | 0,_,_,out=>out
 | _+1,[],st,out=>match st with|some s=>out++[s]|none=>out
 | n+1,c::t,st,out=>if knd (cutL (c::t)) b=0 then qvn b n (nxtL (c::t)) st out
  else if knd (cutL (c::t)) b=2 then addP st (c::t) out else qvn b n (nxtL (c::t)) (some (nxtL (c::t))) (addP st (c::t) out)
def qsl (body:Bs) (st:Option Bs):Int:=match st with|some s=>pos body s|none => -1
theorem zg1 (l b:Bs):knd l b=0\/knd l b=1\/knd l b=2:=by
 unfold knd kndT;split
 ·exact .inr (.inl rfl)
 ·split
  ·exact .inr (.inr rfl)
  ·exact .inl rfl
theorem q97 {body s r:Bs} (hs:s <:+ body) (hr:r <:+ s) (hb:body.length<=4000000):0<=pos body s/\pos body s<=(if w64 (pos body r-2)>pos body s then w64 (pos body r-2) else pos body s)/\(if w64 (pos body r-2)>pos body s then w64 (pos body r-2) else pos body s)<=(body.length:Int) /\
  List.take ((if w64 (pos body r-2)>pos body s then w64 (pos body r-2) else pos body s).toNat-(pos body s).toNat) (List.drop (pos body s).toNat body)=cutP s r:=by
 have h1:=hs.length_le;have h2:=hr.length_le;rw[qyn hs];unfold cutP pos;rw[qgo (by omega) (by omega)]
 refine⟨by omega,?_,?_,?_⟩
 ·split<;>omega
 ·split<;>omega
 ·congr 1;split<;>omega
theorem zq6 {body r:Bs} (hr:r <:+ body) (hb:body.length<=4000000):(if (body.length:Int)<w64 (w64 (pos body r+((cutL r).length:Int))+2) then (body.length:Int) else w64 (w64 (pos body r+((cutL r).length:Int))+2))=pos body (nxtL r):=by
 have h1:=hr.length_le;rcases qsj r with ⟨h,_⟩|⟨h,h2,_⟩
 ·have:=congrArg List.length h;simp only[qM,qL]at this;unfold pos;rw[w64n _ _ (by omega),qgo (by omega) (by omega)]
  split<;>omega
 ·rw[h2,h,qjo];unfold pos;rw[w64n _ _ (by omega),qgo (by omega) (by omega)]
  split<;>omega
theorem zps (fu:Nat) (hfu:90000000<=fu) (body b:Bs) (hb:body.length<=4000000) (hbb:b.length<=1000) (r:Bs) (hr:r <:+ body) (st:Option Bs) (hst:∀ s,st=some s->s <:+ body/\r <:+ s) (z out:List Bs) (ho:out.length<=4000000) :
  qc7 fu (pos body r) (cutL r) body b (qsl body st) z out =
   if knd (cutL r) b=0 then some (.inl (body,(b,(qsl body st,(z,out))))) else if knd (cutL r) b=2 then some (.inr (body,(b,(qsl body st,addP st r out)))) else some (.inl (body,(b,(pos body (nxtL r),(z,addP st r out))))):=by
 have hrm:=qe7;have hcl:=q51 r;have hrl:=hr.length_le;unfold qc7;rw[zty fu hfu _ b (by omega) hbb,qB,qnu]
 by_cases h0:knd (cutL r) b=0
 ·rw[qX h0,qX h0]
 rw[qW h0,qW h0,zq6 hr hb,qnu]
 cases st with
 | none=>
  rw[show qsl body none = -1 from rfl,qac (by omega)]
  try rw[qnu]
  by_cases h2:knd (cutL r) b=2
  ·rw[qX h2,qX h2];rfl
  ·rw[qW h2,qW h2];rfl
 | some s=>
  obtain⟨g1,g2⟩:=hst s rfl;obtain⟨q1,q2,q3,q4⟩:=q97 g1 g2 hb;rw[show qsl body (some s)=pos body s from rfl,qaa q1,qaa ⟨q1,q2,q3⟩,q4,qaa (by simp;omega)]
  by_cases h2:knd (cutL r) b=2
  ·rw[qX h2,qX h2];rfl
  ·rw[qW h2,qW h2];rfl
theorem zca (st:Option Bs) (r:Bs) (out:List Bs):(addP st r out).length<=out.length+1:=by unfold addP;cases st<;>simp
def finC (st:Option Bs) (out:List Bs):List Bs:=match st with|some s=>out++[s]|none=>out
theorem zmc (fu:Nat) (hfu:90000000<=fu) (body b:Bs) (hb:body.length<=4000000) (hbb:b.length<=1000) (z:List Bs) (n:Nat):∀ (r:Bs) (st:Option Bs) (out:List Bs),r <:+ body->(∀ s,st=some s->s <:+ body/\r <:+ s)->r.length<n->out.length+r.length<=4000000 ->
  (∃ x,qc0 fu n (pos body r) body body b (qsl body st) z out=some (.inl (body,(body,(b,(x,qvn b n r st out)))))) \/
  (∃ st' out',qc0 fu n (pos body r) body body b (qsl body st) z out=some (.inr (body,(body,(b,(qsl body st',(z,out'))))))/\qvn b n r st out=finC st' out'/\out'.length<=4000000/\∀ s,st'=some s->s <:+ body):=by
 induction n with
 | zero=>intro r st out _ _ h;exact absurd h (by omega)
 | succ n ih=>
  intro r st out hr hst h ho;rw[qc0,qmr]
  cases r with
  | nil=>
   rw[qjo,qac (by omega)]
   exact .inr ⟨st,out,rfl,rfl,by omega,fun s hs=>(hst s hs).1⟩
  | cons c t=>
   simp only[qL]at h ho;have hL:(c::t).length=t.length+1:=rfl;have hrl:=hr.length_le;simp only[qL]at hrl;have hcl:=q51 (c::t);have hnl:=q6w c t;have hge:=qy2 body (c::t);have hnx:nxtL (c::t) <:+ body:=(quj _).trans hr;rw[qaa (qtu hr),qaa hge,qaa (by decide),qyn hr]
   have hI:qer (c::t) [13,10]=some (Lib.index (c::t) [13,10]):=by
    unfold qer;rw[qaa (by refine⟨by simp,by simp only[qL];omega,by simp[maxLen]⟩)]
   have step:∀ q:Option qr1,q=((qc7 fu (pos body (c::t)) (cutL (c::t)) body b (qsl body st) z out).bind fun x2=>sumK x2 (fun a3=>qc0 fu n (pos body (nxtL (c::t))) body a3.1 a3.2.1 a3.2.2.1 a3.2.2.2.1 a3.2.2.2.2) (fun b4=>some (.inl (body,b4)))) ->
     (∃ x,q=some (.inl (body,(body,(b,(x,qvn b (n+1) (c::t) st out))))))\/(∃ st' out',q=some (.inr (body,(body,(b,(qsl body st',(z,out'))))))/\qvn b (n+1) (c::t) st out=finC st' out'/\out'.length<=4000000/\∀ s,st'=some s->s <:+ body):=by
    intro q hq;rw[hq,zps fu hfu body b hb hbb (c::t) hr st hst z out (by omega),qvn]
    have hal:=zca st (c::t) out;by_cases h0:knd (cutL (c::t)) b=0
    ·simp only[qX h0,qB,sumK];exact ih (nxtL (c::t)) st out hnx (fun s hs=>⟨(hst s hs).1,(quj _).trans (hst s hs).2⟩) (by omega) (by omega)
    ·simp only[qW h0];by_cases h2:knd (cutL (c::t)) b=2
     ·simp only[qX h2,qB,sumK];exact .inl ⟨_,rfl⟩
     ·simp only[qW h2,qB,sumK];exact ih (nxtL (c::t)) (some (nxtL (c::t))) _ hnx (fun s hs=>by cases hs;exact⟨hnx,List.suffix_refl _⟩) (by omega) (by omega)
   apply step;rw[hI,qB];rcases qsj (c::t) with ⟨h1,h2⟩|⟨h1,h2,h3⟩
   ·have vbu:=congrArg List.length h1;simp only[qM,qL]at vbu;have e1:w64 (pos body (c::t)+((cutL (c::t)).length:Int))=((body.length-(c::t).length+(cutL (c::t)).length:Nat):Int):=by unfold pos;rw[w64n _ _ (by omega)]
    have e2:w64 (((body.length-(c::t).length+(cutL (c::t)).length:Nat):Int)+2)=pos body (nxtL (c::t)):=by unfold pos;rw[qgo (by omega) (by omega)];simp only[qL];omega
    have e3:((body.length-(c::t).length+(cutL (c::t)).length:Nat):Int).toNat-(pos body (c::t)).toNat=(cutL (c::t)).length:=by unfold pos;omega
    rw[h2,qaa (by omega),e1,qaa (by unfold pos;simp only[qL];omega),e3,q19,e2]
   ·have e3:(body.length:Int).toNat-(pos body (c::t)).toNat=(cutL (c::t)).length:=by rw[h1];unfold pos;omega
    rw[h3,qac (by omega),qaa (by omega),e3,q19,h2,qjo]
theorem q4o (b:Bs):∀ (n:Nat) (r:Bs) (st:Option Bs) (out:List Bs),r.length<n->qvn b n r st out=qvn b (r.length+1) r st out:=by
 intro n
 induction n using Nat.strongRecOn with
 | ind n ih=>
  intro r st out h;obtain⟨n,rfl⟩:∃ m,n=m+1:=⟨n-1,by omega⟩
  cases r with
  | nil=>rfl
  | cons c t=>
   simp only[qL]at h ⊢;have hnl:=q6w c t;rw[qvn,qvn];have e:∀ st' out',qvn b n (nxtL (c::t)) st' out'=qvn b (t.length+1) (nxtL (c::t)) st' out':=fun st' out'=>by
    rw[ih n (by omega) _ _ _ (by omega)]
    by_cases hq:t.length+1=n
    ·rw[hq];exact (ih n (by omega) _ _ _ (by omega)).symm
    ·exact (ih (t.length+1) (by omega) _ _ _ (by omega)).symm
   rw[e,e]
def za2 (body b:Bs):List Bs:=qvn b (body.length+1) body none []
theorem q91 (fu:Nat) (hfu:90000000<=fu) (body b:Bs) (hb:body.length<=4000000) (hbb:b.length<=1000):qk0 fu body b=some (za2 body b):=by
 have hrm:=qe7;unfold qk0 qro qsb za2;rw[qB];have:=zmc fu hfu body b hb hbb [] fu body none [] (List.suffix_refl _) (by simp) (by omega) (by simpa using hb)
 rw[zbk,show qsl body none = -1 from rfl,q4o b fu body none [] (by omega)]at this
 rcases this with ⟨x,h⟩|⟨st',out',h1,h2,h3,h4⟩
 ·rw[h];rfl
 ·rw[h1,qB,h2];simp only[sumK]
  cases st' with
  | none=>rw[show qsl body none = -1 from rfl,qac (by omega)];rfl
  | some s=>
   have hge:=qy2 body s;rw[show qsl body (some s)=pos body s from rfl,qaa hge.1,qaa hge,qaa (by simp;omega),qyn (h4 s rfl)];rfl
theorem z1e (fu:Nat) (r0:qvb) (body b:Bs) (s6 s7:Int) (out:List Bs) (hb:body.length<=4000000) (n:Nat):∀ (u:Bs),u <:+ body->u.length<n ->
  qhv fu r0 n body b s6 s7 (pos body u) out=qhf fu r0 body b s6 s7 (pos body (u.drop (cutL u).length)) (pos body (nxtL u)) out:=by
 induction n with
 | zero=>intro u _ h;exact absurd h (by omega)
 | succ n ih=>
  intro u hu h;rw[qhv,qok]
  cases u with
  | nil=>rw[qjo,qac (by omega),qhu,qax rfl,qau (by simp)];simp[nxtL,qjo]
  | cons c t=>
   have ht:t <:+ body:=(List.suffix_cons _ _).trans hu;simp only[qL]at h;have hc:qt7 body (pos body (c::t))=some (isCl c t):=by
    obtain⟨p,e1,e2⟩:=q9x hu;have:=hu.length_le;rw[e2,e1];exact zcy p c t (by rw[e1]at hb;simp at hb;omega)
   rw[qaa (qtu hu),hc,qB,qhu,cutL,nxtL];by_cases hq:isCl c t=true
   ·obtain⟨rfl,r',rfl⟩:=qza hq;have hle:=hu.length_le;simp only[qL]at hle;rw[hq,qb0,qax (by have:=qtu hu;simp;omega),qX rfl,qX rfl]
    have e:w64 (pos body (13::10::r')+2)=pos body r':=by unfold pos;rw[qgo (by simp only[qL];omega) (by omega)];simp only[qL];omega
    rw[e];rfl
   ·have:isCl c t=false:=by simpa using hq
    rw[this,qek,qoq,qm7 hu (by omega),qW (by simp),qW (by simp)]
    exact ih t ht (by omega)
theorem zlc (fu:Nat) (hfu:90000000<=fu) (body b:Bs) (hb:body.length<=4000000) (hbb:b.length<=1000) (n:Nat):∀ (r:Bs) (st:Option Bs) (out:List Bs),r <:+ body->(∀ s,st=some s->s <:+ body/\r <:+ s)->r.length<n->out.length+r.length<=4000000 ->
  qcl fu n body b (qsl body st) (pos body r) out=some (qvn b n r st out):=by
 have hrm:=qe7
 induction n with
 | zero=>intro r st out _ _ h;exact absurd h (by omega)
 | succ n ih=>
  intro r st out hr hst h ho;rw[qcl,qom]
  cases r with
  | nil=>
   rw[qjo,qac (by omega)]
   show _=some (match st with|some s=>out++[s]|none=>out)
   cases st with
   | none=>rw[show qsl body none = -1 from rfl,qac (by omega)]
   | some s=>
    have hge:=qy2 body s;rw[show qsl body (some s)=pos body s from rfl,qaa hge.1,qaa hge,qaa (by simp;simp at ho;omega),qyn (hst s rfl).1]
  | cons c t=>
   simp only[qL]at h ho;have hrl:=hr.length_le;simp only[qL]at hrl;have hcl:=q51 (c::t);have hnl:=q6w c t;have hnx:nxtL (c::t) <:+ body:=(quj _).trans hr;have hal:=zca st (c::t) out;rw[qaa (qtu hr),z1e fu _ body b _ _ out hb fu (c::t) hr (by simp only[qL];omega),qvn,qhf]
   have hds:(c::t).drop (cutL (c::t)).length <:+ (c::t):=List.drop_suffix _ _;have hle:=zj7 (s:=body) hds;have g1:=qy2 body (c::t);have g2:=qy2 body ((c::t).drop (cutL (c::t)).length);have e:List.take ((pos body ((c::t).drop (cutL (c::t)).length)).toNat-(pos body (c::t)).toNat) (List.drop (pos body (c::t)).toNat body)=cutL (c::t):=by
    rw[q7b hr hds,List.length_drop,show (c::t).length-((c::t).length-(cutL (c::t)).length)=(cutL (c::t)).length by omega,q19]
   rw[qaa ⟨g1.1,hle,g2.2⟩,e,zar fu hfu _ b (by simp only[qL]at hcl;omega) hbb,qB]
   have nx:∀ st' out',(∀ s,st'=some s->s <:+ body/\nxtL (c::t) <:+ s)->out'.length<=out.length+1->qcl fu n body b (qsl body st') (pos body (nxtL (c::t))) out'=some (qvn b n (nxtL (c::t)) st' out'):=fun st' out' h1 h2=>ih _ st' out' hnx h1 (by omega) (by omega)
   rcases zg1 (cutL (c::t)) b with hk|hk|hk
   ·rw[hk,qac (by omega),qX rfl,qet,qax (by rfl)]
    exact nx st out (fun s hs=>⟨(hst s hs).1,(quj _).trans (hst s hs).2⟩) (by omega)
   ·rw[hk,qaa (by omega),qW (by omega),qW (by omega)]
    have p5:∀ o,o=addP st (c::t) out->qdl fu (qcl fu n) body b (pos body (nxtL (c::t))) 1 o=some (qvn b n (nxtL (c::t)) (some (nxtL (c::t))) (addP st (c::t) out)):=by
     intro o he;rw[qdl,qet,qax (by rfl),he]
     exact nx (some (nxtL (c::t))) _ (fun s hs=>by cases hs;exact⟨hnx,List.suffix_refl _⟩) hal
    cases st with
    | none=>rw[show qsl body none = -1 from rfl,qac (by omega)];exact p5 _ rfl
    | some s=>
     obtain⟨q1,q2,q3,q4⟩:=q97 (hst s rfl).1 (hst s rfl).2 hb;rw[show qsl body (some s)=pos body s from rfl,qaa q1,qhq]
     by_cases hlt:w64 (pos body (c::t)-2)<pos body s
     ·rw[qW (by omega)]at q2 q3 q4
      rw[qX hlt,qdo,qaa ⟨q1,q2,q3⟩,q4,qaa (by simp;omega)]
      exact p5 _ rfl
     ·rw[qW hlt,qdo];by_cases heq:w64 (pos body (c::t)-2)=pos body s
      ·rw[qW (by omega)]at q2 q3 q4
       rw[heq,qaa ⟨q1,q2,q3⟩,q4,qaa (by simp;omega)]
       exact p5 _ rfl
      ·rw[qX (by omega)]at q2 q3 q4
       rw[qaa ⟨q1,q2,q3⟩,q4,qaa (by simp;omega)]
       exact p5 _ rfl
   ·rw[hk,qaa (by omega),qW (by omega),qX rfl]
    have p5:∀ o,o=addP st (c::t) out->qdl fu (qcl fu n) body b (pos body (nxtL (c::t))) 2 o=some (addP st (c::t) out):=by
     intro o he;rw[qdl,qet,qau (by rfl),he]
    cases st with
    | none=>rw[show qsl body none = -1 from rfl,qac (by omega)];exact p5 _ rfl
    | some s=>
     obtain⟨q1,q2,q3,q4⟩:=q97 (hst s rfl).1 (hst s rfl).2 hb;rw[show qsl body (some s)=pos body s from rfl,qaa q1,qhq]
     by_cases hlt:w64 (pos body (c::t)-2)<pos body s
     ·rw[qW (by omega)]at q2 q3 q4
      rw[qX hlt,qdo,qaa ⟨q1,q2,q3⟩,q4,qaa (by simp;omega)]
      exact p5 _ rfl
     ·rw[qW hlt,qdo];by_cases heq:w64 (pos body (c::t)-2)=pos body s
      ·rw[qW (by omega)]at q2 q3 q4
       rw[heq,qaa ⟨q1,q2,q3⟩,q4,qaa (by simp;omega)]
       exact p5 _ rfl
      ·rw[qX (by omega)]at q2 q3 q4
       rw[qaa ⟨q1,q2,q3⟩,q4,qaa (by simp;omega)]
       exact p5 _ rfl
theorem q5r (fu:Nat) (hfu:90000000<=fu) (body b:Bs) (hb:body.length<=4000000) (hbb:b.length<=1000):qtp fu body b=some (za2 body b):=by
 have:=zlc fu hfu body b hb hbb fu body none [] (List.suffix_refl _) (by simp) (by omega) (by simpa using hb)
 rw[zbk,show qsl body none = -1 from rfl,q4o b fu body none [] (by omega)]at this
 exact this
end Go.Sym
namespace Go.Sym
open Go.ChangeShapes Go.WideShapes Go.ChangeAt Go.RowKit
variable [LC]
def Gw (w:World):Gh:=⟨fun b o=>match w.cell? ⟨b,o,none⟩ with|some v=>if v.oneCell'=true then some v else none|none=>none,fun _=>none,fun _=>none⟩
omit [LC] in
theorem zhz {w:World} {b o:Nat} {v:Value} (h:w.cell? ⟨b,o,none⟩=some v) (h1:v.oneCell'=true):(Gw w).imm b o=some v:=by
 simp only[Gw];rw[h];simp[h1]
theorem zyx (w:World) (ht:LC.tab (Gw w).imm w):Mem (Gw w) [] w:=by
 have key:∀ b o v,(Gw w).imm b o=some v->w.cell? ⟨b,o,none⟩=some v/\v.oneCell'=true:=by
  intro b o v h;simp only[Gw]at h;split at h
  ·rename_i u hu;split at h
   ·rename_i h1;cases h;exact⟨hu,h1⟩
   ·cases h
  ·cases h
 exact⟨fun b o v h=>(key b o v h).1,fun b o v h=>(key b o v h).2,fun n bx h=>(by cases h),fun n m bx bx' b h=>(by cases h),ht⟩
inductive zhf {α:Type} (p:α->Prop):Tree α->Prop
 | mk (a:α) (l:List (Tree α)):p a->l.length<=maxLen->(∀ x∈l,zhf p x)->zhf p (.node a l)
def Ty.bd:(τ:Ty)->τ.den->Prop
 | .int k,n=>(Lit.int k n).wf=true
 | .str,s=>List.length s<=maxLen
 | .prod a b,x=>a.bd x.1/\b.bd x.2
 | .list a,l=>List.length l<=maxLen/\∀ x∈(show List a.den from l),a.bd x
 | .tree a,t=>zhf a.bd t
 | _,_=>True
def q4u (P:Program) (rec:Ty->TypeId->Bool):Ty->List Field->Nat->Bool
 | τ,[f],o=>f.offset==o&&(P.cellsOf f.type==τ.sz&&rec τ f.type)
 | .prod a b,f::fs,o=>f.offset==o&&(P.cellsOf f.type==a.sz&&(rec a f.type&&q4u P rec b fs (o+a.sz)))
 | _,_,_=>false
def slOf (P:Program) (t g:TypeId):Bool:=match P.underlying g with
 | some (.slice e)=>e==t
 | _=>false
def trOk (P:Program) (rec:Ty->TypeId->Bool) (t:TypeId):Ty->List Field->Nat->Bool
 | τ,[f,g],o=>f.offset==o&&(P.cellsOf f.type==τ.sz&&(rec τ f.type&&(g.offset==o+τ.sz&&(P.cellsOf g.type==1&&slOf P t g.type))))
 | .prod a b,f::fs,o=>f.offset==o&&(P.cellsOf f.type==a.sz&&(rec a f.type&&trOk P rec t b fs (o+a.sz)))
 | _,_,_=>false
def tyOk (P:Program):Nat->Ty->TypeId->Bool
 | 0,_,_=>false
 | _+1,.int k,t=>match P.underlying t with|some (.int k')=>decide (k'=k)|_=>false
 | _+1,.byte,t=>match P.underlying t with|some (.int k')=>decide (k' = .u8)|_=>false
 | _+1,.bool,t=>match P.underlying t with|some .bool=>true|_=>false
 | _+1,.str,t=>match P.underlying t with|some .string=>true|_=>false
 | n+1,.list a,t=>match P.underlying t with
  | some (.slice e)=>P.cellsOf e==a.sz&&(decide (0<a.sz)&&tyOk P n a e)
  | _=>false
 | n+1,.prod a b,t=>match P.underlying t with
  | some (.struct fs)=>P.cellsOf t==(Ty.prod a b).sz&&q4u P (tyOk P n) (.prod a b) fs.toList 0
  | _=>false
 | n+1,.tree a,t=>match P.underlying t with
  | some (.struct fs)=>P.cellsOf t==(Ty.tree a).sz&&trOk P (tyOk P n) t a fs.toList 0
  | _=>false
 | _+1,_,_=>false
omit [LC] in
theorem zb7 {P:Program} {n:Nat} {k:IntKind} {t:TypeId} (h:tyOk P (n+1) (.int k) t=true):P.underlying t=some (.int k):=by
 unfold tyOk at h;split at h
 ·rename_i k' e;rw[e,of_decide_eq_true h]
 ·cases h
omit [LC] in
theorem q7q {P:Program} {n:Nat} {t:TypeId} (h:tyOk P (n+1) .byte t=true):P.underlying t=some (.int .u8):=by
 unfold tyOk at h;split at h
 ·rename_i k' e;rw[e,of_decide_eq_true h]
 ·cases h
omit [LC] in
theorem q8f {P:Program} {n:Nat} {t:TypeId} (h:tyOk P (n+1) .bool t=true):P.underlying t=some .bool:=by
 unfold tyOk at h;split at h
 ·rename_i e;exact e
 ·cases h
omit [LC] in
theorem zcd {P:Program} {n:Nat} {t:TypeId} (h:tyOk P (n+1) .str t=true):P.underlying t=some .string:=by
 unfold tyOk at h;split at h
 ·rename_i e;exact e
 ·cases h
omit [LC] in
theorem Reps.app {G:Gh}:∀ {xs ys:List AV} {us vs:List Value},Reps xs G us->Reps ys G vs->Reps (xs++ys) G (us++vs)
 | [],_,[],_,_,h=>h
 | [],_,_::_,_,h,_=>by simp[Reps]at h
 | _::_,_,[],_,h,_=>by simp[Reps]at h
 | _::_,_,_::_,_,h,k=>⟨h.1,Reps.app h.2 k⟩
omit [LC] in
theorem q7j {G:Gh}:∀ (τ:Ty) (x:τ.den) (cs:List Value),Reps (τ.enc x) G cs->∀ v∈cs,v.oneCell'=true
 | .int k,n,[v],h,u,hu=>by
  rw[List.mem_singleton]at hu;subst hu;have h1:u = .int k n:=h.1;rw[h1];rfl
 | .byte,c,[v],h,u,hu=>by
  rw[List.mem_singleton]at hu;subst hu;have h1:u = .int .u8 (UInt8.toNat c):=h.1;rw[h1];rfl
 | .bool,c,[v],h,u,hu=>by
  rw[List.mem_singleton]at hu;subst hu;have h1:u = .bool c:=h.1;rw[h1];rfl
 | .str,s,[v],h,u,hu=>by
  rw[List.mem_singleton]at hu;subst hu;have h1:u = .string ⟨List.toArray s⟩:=h.1;rw[h1];rfl
 | .list a,l,[v],h,u,hu=>by
  rw[List.mem_singleton]at hu;subst hu;obtain⟨ad,c,rfl,_⟩:SlAt a.sz (a.At G.imm) l u:=h.1;rfl
 | .unit,_,[],_,u,hu=>by cases hu
 | .unit,_,_::_,h,_,_=>by simp[Ty.enc,Reps]at h
 | .prod a b,x,cs,h,u,hu=>by
  have key:∀ (xs ys:List AV) (cs:List Value),Reps (xs++ys) G cs->∃ us vs,cs=us++vs/\Reps xs G us/\Reps ys G vs:=by
   intro xs
   induction xs with
   | nil=>intro ys cs h;exact⟨[],cs,rfl,trivial,h⟩
   | cons x xs ih=>
    intro ys cs h
    cases cs with
    | nil=>simp[Reps]at h
    | cons c cs=>
     obtain⟨us,vs,e,h1,h2⟩:=ih ys cs h.2;exact⟨c::us,vs,by rw[e];rfl,⟨h.1,h1⟩,h2⟩
  obtain⟨us,vs,rfl,h1,h2⟩:=key _ _ _ h;rcases List.mem_append.1 hu with q|q
  ·exact q7j a x.1 us h1 u q
  ·exact q7j b x.2 vs h2 u q
 | .tree a,x,cs,h,u,hu=>by
  have key:∀ (xs ys:List AV) (cs:List Value),Reps (xs++ys) G cs->∃ us vs,cs=us++vs/\Reps xs G us/\Reps ys G vs:=by
   intro xs
   induction xs with
   | nil=>intro ys cs h;exact⟨[],cs,rfl,trivial,h⟩
   | cons x xs ih=>
    intro ys cs h
    cases cs with
    | nil=>simp[Reps]at h
    | cons c cs=>
     obtain⟨us,vs,e,h1,h2⟩:=ih ys cs h.2;exact⟨c::us,vs,by rw[e];rfl,⟨h.1,h1⟩,h2⟩
  obtain⟨us,vs,rfl,h1,h2⟩:=key _ _ _ h;rcases List.mem_append.1 hu with q|q
  ·exact q7j a _ us h1 u q
  ·cases vs with
   | nil=>cases q
   | cons v vs=>
    cases vs with
    | cons v' vs=>simp[Reps]at h2
    | nil=>
     rw[List.mem_singleton]at q;subst q;obtain⟨ad,c,rfl,_⟩:SlAt (Ty.tree a).sz ((Ty.tree a).At G.imm) (Tree.kids x) u:=h2.1;rfl
 | .int _,_,[],h,_,_=>by simp[Ty.enc,Reps]at h
 | .int _,_,_::_::_,h,_,_=>by simp[Ty.enc,Reps]at h
 | .byte,_,[],h,_,_=>by simp[Ty.enc,Reps]at h
 | .byte,_,_::_::_,h,_,_=>by simp[Ty.enc,Reps]at h
 | .bool,_,[],h,_,_=>by simp[Ty.enc,Reps]at h
 | .bool,_,_::_::_,h,_,_=>by simp[Ty.enc,Reps]at h
 | .str,_,[],h,_,_=>by simp[Ty.enc,Reps]at h
 | .str,_,_::_::_,h,_,_=>by simp[Ty.enc,Reps]at h
 | .list _,_,[],h,_,_=>by simp[Ty.enc,Reps]at h
 | .list _,_,_::_::_,h,_,_=>by simp[Ty.enc,Reps]at h
omit [LC] in
theorem Reps.cells {w:World} {b:Nat}:∀ (xs:List AV) (cs:List Value) (o:Nat),Reps xs (Gw w) cs->(∀ v∈cs,v.oneCell'=true)->(∀ (j:Nat) (v:Value),cs[j]? = some v->w.cell? ⟨b,o+j,none⟩=some v)->qap xs (Gw w) b o
 | [],[],_,_,_,_=>trivial
 | [],_::_,_,h,_,_=>by simp[Reps]at h
 | _::_,[],_,h,_,_=>by simp[Reps]at h
 | x::xs,c::cs,o,h,h1,h2=>by
  refine⟨⟨c,zhz (h2 0 c rfl) (h1 c qH),h.1⟩,Reps.cells xs cs (o+1) h.2 (fun v hv=>h1 v (qE _ hv)) (fun j v hj => ?_)⟩
  have:=h2 (j+1) v hj;rw[show o+1+j=o+(j+1) by omega];exact this
structure Bulk (H:Type) where
 b:DataW H->Nat
 ba:List (DataW H)->Nat
 str:∀ s,b (.lit (.string s))=s.length+1
 lit:∀ l,1<=b (.lit l)
 nilb:b .nil=1
 sl:∀ e r,b (.slice e r)=ba e+ba r+1
 agg:∀ l,b (.agg l)=ba l+1
 nil:ba []=0
 cons:∀ d r,ba (d::r)=b d+ba r
omit [LC] in
theorem Bulk.app {H:Type} (B:Bulk H):∀ (l r:List (DataW H)),B.ba (l++r)=B.ba l+B.ba r
 | [],r=>by rw[List.nil_append,B.nil,wO]
 | d::l,r=>by rw[wK,B.cons,B.cons,B.app l r,Nat.add_assoc]
mutual
def q5h {α:Type} (f:α->Nat):Tree α->Nat
 | .node a l=>f a+q2f f l+2
def q2f {α:Type} (f:α->Nat):List (Tree α)->Nat
 | []=>0
 | t::l=>q5h f t+q2f f l
end
omit [LC] in
theorem q3g {α:Type} (f:α->Nat):∀ l:List (Tree α),q2f f l=(l.map (q5h f)).sum
 | []=>by simp[q2f]
 | t::l=>by rw[q2f,q3g f l,List.map_cons,List.sum_cons]
omit [LC] in
theorem q15 {α:Type} (f:α->Nat) (a:α) (l:List (Tree α)):q5h f (.node a l)=f a+(l.map (q5h f)).sum+2:=by
 rw[← q3g];simp only[q5h]
def Ty.bk:(τ:Ty)->τ.den->Nat
 | .str,s=>List.length s+1
 | .prod a b,x=>a.bk x.1+b.bk x.2
 | .list a,l=>((show List a.den from l).map a.bk).sum+1
 | .unit,_=>0
 | .tree a,t=>q5h a.bk t
 | _,_=>1
section
variable {H:Type} {enc:TypeId×Value->H} {P:Program} {w:World} {base:Nat} {spare:Nat->Bool} {held:Bool}
omit [LC] in
theorem q4w (B:Bulk H) (n m:Nat) (cs:List Value)
  (ih:∀ (τ:Ty) (t:TypeId) (cs:List Value) (y:DataW H×List MemPlace),tyOk P n τ t=true->DataW.trod enc P w base spare held m t cs=some y->∃ x:τ.den,τ.bd x/\Reps (τ.enc x) (Gw w) cs/\τ.bk x<=B.b y.1) :
  ∀ (fs:List Field) (τ:Ty) (o:Nat) (xs:List (DataW H×List MemPlace)),q4u P (tyOk P n) τ fs o=true->xs.length=fs.length->(∀ (i:Nat) (f:Field),fs[i]? = some f->DataW.trod enc P w base spare held m f.type ((cs.drop f.offset).take (P.cellsOf f.type))=xs[i]?) ->
   ∃ x:τ.den,τ.bd x/\Reps (τ.enc x) (Gw w) ((cs.drop o).take τ.sz)/\τ.bk x<=B.ba (xs.map (·.1))
 | [],τ,o,xs,h,_,_=>by cases τ<;>simp[q4u]at h
 | [f],τ,o,xs,h,hl,hf=>by
  have h':(f.offset==o&&(P.cellsOf f.type==τ.sz&&tyOk P n τ f.type))=true:=by cases τ<;>exact h
  simp only[qA,beq_iff_eq]at h'
  match xs,hl with
  | [y],_=>
   have hy:DataW.trod enc P w base spare held m f.type ((cs.drop f.offset).take (P.cellsOf f.type))=some y:=hf 0 f rfl;rw[h'.1,h'.2.1]at hy;obtain⟨x,x1,x2,x3⟩:=ih τ f.type _ y h'.2.2 hy;exact⟨x,x1,x2,by simp only[List.map_cons,List.map_nil,B.cons,B.nil];omega⟩
 | f::g::fs,τ,o,xs,h,hl,hf=>by
  cases τ with
  | prod a b=>
   have h':(f.offset==o&&(P.cellsOf f.type==a.sz&&(tyOk P n a f.type&&q4u P (tyOk P n) b (g::fs) (o+a.sz))))=true:=h;simp only[qA,beq_iff_eq]at h'
   match xs,hl with
   | y::ys,hl=>
    have hy:DataW.trod enc P w base spare held m f.type ((cs.drop f.offset).take (P.cellsOf f.type))=some y:=hf 0 f rfl;rw[h'.1,h'.2.1]at hy;obtain⟨x1,b1,r1,k1⟩:=ih a f.type _ y h'.2.2.1 hy;obtain⟨x2,b2,r2,k2⟩:=q4w B n m cs ih (g::fs) b (o+a.sz) ys h'.2.2.2 (by simpa using hl) (fun i f' hf'=>hf (i+1) f' hf')
    refine⟨(x1,x2),⟨b1,b2⟩,?_,?_⟩
    ·show Reps (a.enc x1++b.enc x2) (Gw w) ((cs.drop o).take (a.sz+b.sz));rw[List.take_add,List.drop_drop];exact Reps.app r1 r2
    ·show a.bk x1+b.bk x2<=_;rw[List.map_cons,B.cons];omega
  | _=>simp[q4u]at h
omit [LC] in
theorem q7p (B:Bulk H) (n m:Nat) (cs:List Value) {vbn:Ty} (t:TypeId)
  (ih:∀ (τ:Ty) (t:TypeId) (cs:List Value) (y:DataW H×List MemPlace),tyOk P n τ t=true->DataW.trod enc P w base spare held m t cs=some y->∃ x:τ.den,τ.bd x/\Reps (τ.enc x) (Gw w) cs/\τ.bk x<=B.b y.1)
  (ihk:∀ (g:TypeId) (cs:List Value) (y:DataW H×List MemPlace),slOf P t g=true->DataW.trod enc P w base spare held m g cs=some y->∃ l:List (Ty.tree vbn).den,(Ty.list (.tree vbn)).bd l/\Reps [.sl (.tree vbn) l] (Gw w) cs/\(l.map (Ty.tree vbn).bk).sum+1<=B.b y.1) :
  ∀ (fs:List Field) (τ:Ty) (o:Nat) (xs:List (DataW H×List MemPlace)),trOk P (tyOk P n) t τ fs o=true->xs.length=fs.length->(∀ (i:Nat) (f:Field),fs[i]? = some f->DataW.trod enc P w base spare held m f.type ((cs.drop f.offset).take (P.cellsOf f.type))=xs[i]?) ->
   ∃ (x:τ.den) (l:List (Ty.tree vbn).den),τ.bd x/\(Ty.list (.tree vbn)).bd l/\Reps (τ.enc x++[.sl (.tree vbn) l]) (Gw w) ((cs.drop o).take (τ.sz+1))/\τ.bk x+((l.map (Ty.tree vbn).bk).sum+1)<=B.ba (xs.map (·.1))
 | [],τ,o,xs,h,_,_=>by cases τ<;>simp[trOk]at h
 | [f],τ,o,xs,h,_,_=>by cases τ<;>simp[trOk]at h
 | [f,g],τ,o,xs,h,hl,hf=>by
  have h':(f.offset==o&&(P.cellsOf f.type==τ.sz&&(tyOk P n τ f.type&&(g.offset==o+τ.sz&&(P.cellsOf g.type==1&&slOf P t g.type)))))=true:=by cases τ<;>exact h
  simp only[qA,beq_iff_eq]at h'
  match xs,hl with
  | [y,z],_=>
   have hy:DataW.trod enc P w base spare held m f.type ((cs.drop f.offset).take (P.cellsOf f.type))=some y:=hf 0 f rfl;have hz:DataW.trod enc P w base spare held m g.type ((cs.drop g.offset).take (P.cellsOf g.type))=some z:=hf 1 g rfl;rw[h'.1,h'.2.1]at hy;rw[h'.2.2.2.1,h'.2.2.2.2.1]at hz;obtain⟨x,x1,x2,x3⟩:=ih τ f.type _ y h'.2.2.1 hy;obtain⟨l,l1,l2,l3⟩:=ihk g.type _ z h'.2.2.2.2.2 hz;refine⟨x,l,x1,l1,?_,by simp only[List.map_cons,List.map_nil,B.cons,B.nil];omega⟩
   rw[List.take_add,List.drop_drop];exact Reps.app x2 l2
 | f::g::k::fs,τ,o,xs,h,hl,hf=>by
  cases τ with
  | prod a b=>
   have h':(f.offset==o&&(P.cellsOf f.type==a.sz&&(tyOk P n a f.type&&trOk P (tyOk P n) t b (g::k::fs) (o+a.sz))))=true:=h;simp only[qA,beq_iff_eq]at h'
   match xs,hl with
   | y::ys,hl=>
    have hy:DataW.trod enc P w base spare held m f.type ((cs.drop f.offset).take (P.cellsOf f.type))=some y:=hf 0 f rfl;rw[h'.1,h'.2.1]at hy;obtain⟨x1,b1,r1,k1⟩:=ih a f.type _ y h'.2.2.1 hy;obtain⟨x2,l,b2,bl,r2,k2⟩:=q7p B n m cs t ih ihk (g::k::fs) b (o+a.sz) ys h'.2.2.2 (by simpa using hl) (fun i f' hf'=>hf (i+1) f' hf')
    refine⟨(x1,x2),l,⟨b1,b2⟩,bl,?_,?_⟩
    ·show Reps ((a.enc x1++b.enc x2)++[.sl (.tree vbn) l]) (Gw w) ((cs.drop o).take ((a.sz+b.sz)+1));rw[qS,Nat.add_assoc,List.take_add,List.drop_drop];exact Reps.app r1 r2
    ·show (a.bk x1+b.bk x2)+_<=_;rw[List.map_cons,B.cons];omega
  | _=>simp[trOk]at h
omit [LC] in
theorem za4 (B:Bulk H):∀ (m n:Nat) (τ:Ty) (t:TypeId) (cs:List Value) (y:DataW H×List MemPlace),tyOk P n τ t=true->DataW.trod enc P w base spare held m t cs=some y->∃ x:τ.den,τ.bd x/\Reps (τ.enc x) (Gw w) cs/\τ.bk x<=B.b y.1:=by
 intro m
 induction m with
 | zero=>intro n τ t cs y _ h;simp[DataW.trod]at h
 | succ m ih=>
  intro n τ t cs y ht h
  cases n with
  | zero=>simp[tyOk]at ht
  | succ n=>
   cases τ with
   | int k=>
    obtain⟨n,rfl,rfl,hw⟩:=DataW.trod_int (zb7 ht) h;exact⟨n,hw,⟨rfl,trivial⟩,B.lit _⟩
   | byte=>
    obtain⟨n,rfl,rfl,hw⟩:=DataW.trod_int (q7q ht) h;have hb:0<=n/\n<=255:=by simp only[Lit.wf,qA,decide_eq_true_eq]at hw;exact hw
    refine⟨UInt8.ofNat n.toNat,trivial,⟨?_,trivial⟩,B.lit _⟩;show Value.int .u8 n = .int .u8 ((UInt8.ofNat n.toNat).toNat:Int);rw[UInt8.toNat_ofNat',Nat.mod_eq_of_lt (by omega)]
    congr 1;omega
   | bool=>
    obtain⟨b,rfl,rfl⟩:=DataW.trod_bool (q8f ht) h;exact⟨b,trivial,⟨rfl,trivial⟩,B.lit _⟩
   | str=>
    obtain⟨s,rfl,rfl,hs⟩:=DataW.trod_string (zcd ht) h;refine⟨s.data.toList,?_,⟨?_,trivial⟩,Nat.le_of_eq (B.str _).symm⟩
    ·show s.data.toList.length<=maxLen;rw[Array.length_toList];exact hs
    ·show Value.string s = .string ⟨s.data.toList.toArray⟩;simp
   | unit=>simp[tyOk]at ht
   | tree a=>
    have ht0:=ht;unfold tyOk at ht;split at ht
    ·rename_i fs hu;simp only[qA,beq_iff_eq]at ht;obtain⟨xs,n',e1,rfl,vbu,hxl,hg⟩:=DataW.trod_struct hu h;cases e1
     obtain⟨x,l,hb,hbl,hr,hk⟩:=q7p B n m cs t (fun τ t cs y=>ih n τ t cs y) (fun g cs y hg hy=>by
      have hg':tyOk P (n+2) (.list (.tree a)) g=true:=by
       unfold slOf at hg;unfold tyOk;split at hg
       ·rename_i e he;have:e=t:=by simpa using hg
        subst this;simp only[qA,beq_iff_eq,decide_eq_true_eq];exact⟨ht.1,by simp[Ty.sz],ht0⟩
       ·cases hg
      exact ih (n+2) (.list (.tree a)) g cs y hg' hy) fs.toList a 0 xs ht.2 (by rw[hxl,Array.length_toList]) (fun i f hf=>hg i f (by rw[← Array.getElem?_toList];exact hf))
     refine⟨.node x l,.mk x l hb hbl.1 hbl.2,?_,?_⟩
     ·rw[List.drop_zero,List.take_of_length_le (by rw[vbu,ht.1];exact wF _)]at hr
      exact hr
     ·rw[B.agg];have e:(Ty.tree a).bk (.node x l)=a.bk x+(l.map (Ty.tree a).bk).sum+2:=q15 a.bk x l;omega
    ·cases ht
   | prod a b=>
    unfold tyOk at ht;split at ht
    ·rename_i fs hu;simp only[qA,beq_iff_eq]at ht;obtain⟨xs,n',e1,rfl,vbu,hxl,hg⟩:=DataW.trod_struct hu h;cases e1
     obtain⟨x,hb,hr,hk⟩:=q4w B n m cs (fun τ t cs y=>ih n τ t cs y) fs.toList (.prod a b) 0 xs ht.2 (by rw[hxl,Array.length_toList]) (fun i f hf=>hg i f (by rw[← Array.getElem?_toList];exact hf))
     refine⟨x,hb,?_,by rw[B.agg];omega⟩
     rw[List.drop_zero,List.take_of_length_le (by rw[vbu,ht.1];exact wF _)]at hr
     exact hr
    ·cases ht
   | list a=>
    unfold tyOk at ht;split at ht
    ·rename_i e hu;simp only[qA,beq_iff_eq,decide_eq_true_eq]at ht;obtain⟨hsz,hpos,hte⟩:=ht;rcases DataW.trod_slice hu h with ⟨rfl,rfl⟩|⟨ad,len,cap,elems,rest,n',e1,rfl,rfl,_,hlc,hcm,hel,hget,_⟩
     ·exact⟨[],⟨Nat.zero_le _,fun x hx=>by cases hx⟩,⟨⟨none,0,rfl,wF _,.inl rfl⟩,trivial⟩,Nat.le_of_eq (show 0+1=_ by rw[B.nilb])⟩
     ·cases e1
      have each:∀ i,i<len->∃ (x:a.den) (h:i<elems.length),a.bd x/\ad.spot=none/\a.At (Gw w).imm x ad.block (ad.off+i*a.sz)/\a.bk x<=B.b elems[i].1:=by
       intro i hi;have h1:=hget i hi;rw[List.getElem?_eq_getElem (by omega)]at h1
       obtain⟨cs,hc,hc2⟩:=Option.bind_eq_some_iff.1 h1;obtain⟨x,hb,hr,hk⟩:=ih n a e cs _ hte hc2;unfold World.cells? at hc;split at hc
       ·have hl:=mapM_some_length hc;rw[List.length_range,hsz]at hl;have hcell:∀ (j:Nat) (v:Value),cs[j]? = some v->w.cell? ((ad.add (i*P.cellsOf e)).add j)=some v:=by
         intro j v hj;have hj':j<cs.length:=by
          by_cases q:j<cs.length
          ·exact q
          ·rw[List.getElem?_eq_none (by omega)]at hj;cases hj
         have:=mapM_some_get hc j j (by rw[List.getElem?_range (by omega)])
         rw[this,hj]
        have hspot:ad.spot=none:=by
         have g0:=hget 0 (by omega)
         rw[List.getElem?_eq_getElem (by omega)]at g0
         obtain⟨cs0,hc0,_⟩:=Option.bind_eq_some_iff.1 g0;unfold World.cells? at hc0;split at hc0
         ·have hl0:=mapM_some_length hc0;rw[List.length_range,hsz]at hl0;have:=mapM_some_get hc0 0 0 (by rw[List.getElem?_range (by omega)])
          rw[List.getElem?_eq_getElem (by omega)]at this
          simp only[Nat.zero_mul,Addr.add,if_true]at this;unfold World.cell? at this
          cases hs:ad.spot with
          | none=>rfl
          | some q=>
           rw[hs]at this;split at this
           ·simp at this
           ·cases this
         ·cases hc0
        refine⟨x,by omega,hb,hspot,?_,hk⟩
        refine qzv.1 (Reps.cells _ cs _ hr (q7j a x cs hr) (fun j v hj => ?_))
        have:=hcell j v hj;rw[hsz]at this;have ea:(ad.add (i*a.sz)).add j=⟨ad.block,ad.off+i*a.sz+j,none⟩:=by
         obtain⟨b,o,s⟩:=ad;simp only[]at hspot;subst hspot;unfold Addr.add;by_cases q1:i*a.sz=0
         ·by_cases q2:j=0
          ·simp[q1,q2]
          ·simp[q1,q2]
         ·by_cases q2:j=0
          ·simp[q1,q2]
          ·simp[q1,q2]
        rw[ea]at this;exact this
       ·cases hc
      have lst:∀ k,k<=len->∃ l:List a.den,l.length=k/\(∀ x∈l,a.bd x)/\(∀ (j:Nat) (x:a.den),l[j]? = some x->a.At (Gw w).imm x ad.block (ad.off+j*a.sz))/\(l.map a.bk).sum<=B.ba ((elems.take k).map (·.1)):=by
       intro k
       induction k with
       | zero=>intro _;exact⟨[],rfl,fun x hx=>(by cases hx),fun j x hj=>(by simp at hj),by simp⟩
       | succ k ihk=>
        intro hk;obtain⟨l,l1,l2,l3,l4⟩:=ihk (by omega)
        obtain⟨x,hx,x1,_,x2,x3⟩:=each k (by omega)
        refine⟨l++[x],by simp[l1],fun y hy => ?_,fun j y hj => ?_,?_⟩
        ·rcases List.mem_append.1 hy with q|q
         ·exact l2 y q
         ·rw[List.mem_singleton]at q;subst q;exact x1
        ·by_cases q:j<l.length
         ·rw[List.getElem?_append_left q]at hj;exact l3 j y hj
         ·rw[List.getElem?_append_right (by omega)]at hj
          have:j=k:=by
           by_cases q2:j-l.length=0
           ·omega
           ·rw[List.getElem?_eq_none (by simp;omega)]at hj;cases hj
          subst this;rw[l1,Nat.sub_self]at hj;cases hj
          exact x2
        ·rw[List.take_succ_eq_append_getElem hx,List.map_append,List.map_append,B.app,List.sum_append];simp only[List.map_cons,List.map_nil,B.cons,B.nil,List.sum_cons,List.sum_nil];omega
      obtain⟨l,l1,l2,l3,l4⟩:=lst len (wF _);refine⟨l,⟨by show l.length<=maxLen;omega,l2⟩,⟨⟨some ad,cap,by rw[← l1],by omega,?_⟩,trivial⟩,?_⟩
      rotate_left
      ·rw[List.take_of_length_le (by omega)]at l4
       rw[B.sl];show (l.map a.bk).sum+1<=_;omega
      by_cases q:l=[]
      ·exact .inl q
      ·obtain⟨_,_,_,hs,_⟩:=each 0 (by have:=List.length_pos_iff.2 q;omega)
       refine .inr ⟨ad.block,ad.off,?_,l3⟩;cases ad;simp only[]at hs;subst hs;rfl
    ·cases ht
omit [LC] in
theorem zjm (B:Bulk H) {r:Reach} {bb n:Nat} {τ:Ty} {t:TypeId} {v:Value} {d:DataW H} {ps:List MemPlace} (ht:tyOk P n τ t=true) (hv:Value.okWide P w r bb t v) (h:DataW.Trod enc P w base spare held t v d ps) :
  ∃ x:τ.den,τ.bd x/\Rep (τ.av x) (Gw w) v/\τ.bk x<=B.b d:=by
 obtain⟨m,hm⟩:=h;obtain⟨x,hb,hr,hk⟩:=za4 B m n τ t _ _ ht hm;refine⟨x,hb,?_,hk⟩
 cases n with
 | zero=>simp[tyOk]at ht
 | succ n=>
  cases τ with
  | int k=>obtain⟨_,rfl⟩:=okWide_int (zb7 ht) hv;exact hr.1
  | byte=>obtain⟨_,rfl⟩:=okWide_int (q7q ht) hv;exact hr.1
  | bool=>obtain⟨_,rfl⟩:=okWide_bool (q8f ht) hv;exact hr.1
  | str=>obtain⟨_,rfl⟩:=okWide_string (zcd ht) hv;exact hr.1
  | unit=>simp[tyOk]at ht
  | tree a=>
   unfold tyOk at ht;split at ht
   ·rename_i fs hu;obtain⟨cs,rfl,_⟩:=okWide_struct hu hv;exact⟨cs,rfl,hr⟩
   ·cases ht
  | prod a b=>
   unfold tyOk at ht;split at ht
   ·rename_i fs hu;obtain⟨cs,rfl,_⟩:=okWide_struct hu hv;exact⟨cs,rfl,hr⟩
   ·cases ht
  | list a=>
   unfold tyOk at ht;split at ht
   ·rename_i e hu;obtain⟨_,_,_,rfl⟩:=okWide_slice hu hv;exact hr.1
   ·cases ht
end
end Go.Sym
