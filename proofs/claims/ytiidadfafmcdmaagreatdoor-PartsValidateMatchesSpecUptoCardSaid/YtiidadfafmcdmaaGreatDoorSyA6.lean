/- What the claim rests on, part 6: gathered texts. -/
import Derived.Sort.AssemblyPlain
import Derived.Test.YtiidadfafmcdmaaGreatDoorSyA5
namespace Go.Sym
theorem zk4 (c:UInt8):toU8 (c.toNat:Int)=c:=by
 unfold toU8;have:=c.toNat_lt;rw[show ((c.toNat:Int)%256).toNat=c.toNat by omega]
 simp
theorem zof (s:List UInt8) (c:UInt8):qfb s c=some (Lib.indexByte s c):=rfl
theorem zu6 (fu:Nat) (cs:List UInt8) (c:UInt8) (h:c.toNat<128):qbz fu cs (c.toNat:Int)=some (Lib.indexByte cs c):=by
 unfold qbz qdm;rw[qaa (by omega),qaa (by omega),zk4,zof];rfl
theorem vba (fu n:Nat):∀ (cs:List UInt8) (p:Nat),(∀ c∈cs,c.toNat<128)->cs.length-p<n->p<=cs.length->qdl fu n cs p=some (-1):=by
 induction n with
 | zero=>intro cs p _ h;exact absurd h (by omega)
 | succ n ih=>
  intro cs p hA h hp;rw[qdl,qjp];by_cases hlt:p<cs.length
  ·have e:cs[p]? = some cs[p]:=List.getElem?_eq_getElem hlt;have hc:=hA cs[p] (List.getElem_mem hlt);rw[qau (zz1 hlt),zc5 cs p _ e hc,qsw,qW (by simp only;omega)]
   exact ih cs (p+1) hA (by omega) (by omega)
  ·rw[qax (z24 hlt)]
theorem zpu (fu:Nat) (cs:List UInt8) (r:Int) (hr:128<=r) (hA:∀ c∈cs,c.toNat<128) (hfu:cs.length<fu) (hb:cs.length<1000):qbz fu cs r=some (-1):=by
 unfold qbz qdm;rw[qaa (by omega),qac (by omega),qsw]
 by_cases h1:r=65533
 ·rw[qX h1];exact vba fu fu cs 0 hA (by omega) (by omega)
 rw[qW h1];have hv:∃ b,qed r=some b:=by
  unfold qed;simp only[qic]
  repeat' split
  all_goals exact⟨_,rfl⟩
 obtain⟨b,hv⟩:=hv;rw[hv,qB];cases b
 ·rfl
 rw[show (!true)=false from rfl,qF]
 obtain⟨t,c,e,hc,ht⟩:=zik r hr;rw[e,qm8,qv9 _ (by omega)]
 obtain⟨n,rfl⟩:∃ n,fu=n+1:=⟨fu-1,by omega⟩
 rw[qfp,qji];by_cases hl:t.length<cs.length
 ·have hcs:=hA cs[t.length] (List.getElem_mem hl);have hne:cs[t.length]≠c:=fun e=>by rw[e]at hcs;omega
  rw[qaa (by omega),qwt _ _ hl,qB,qw0,qB,q0j,qX hne,qai _ (by omega),qaa (by omega),qB,zof,qB,zdq,qaa (by decide)]
  intro x hx e;have:=hA x (List.mem_of_mem_drop hx);rw[e]at this;omega
 ·rw[qac (by omega)]
def qzf (cs:List UInt8):List Bool:=cs.foldl (fun m c=>m.set c.toNat true) (List.replicate 256 false)
structure AC (cs:List UInt8):Prop where
 two:2<=cs.length
 few:cs.length<100
 low:∀ c∈cs,c.toNat<128
 set:∀ n,qcb (n+100) cs=some (qzf cs,true)
 get:∀ c:UInt8,(qzf cs)[c.toNat]? = some (cs.contains c)
 len:(qzf cs).length=256
theorem qxv {cs:List UInt8} (A:AC cs) (c:UInt8):qbb c (qzf cs)=some (cs.contains c,qzf cs):=by
 unfold qbb;rw[A.get];rfl
theorem zss {cs:List UInt8} (A:AC cs) (fu n:Nat):∀ (vbs vbr:List UInt8),vbr.length<n->vbs.length+vbr.length<1000000000 ->
  ∃ r,qd4 fu n (vbs++vbr) (vbs.length:Int) (qzf cs)=some r/\decide (0<=r)=vbr.any cs.contains:=by
 induction n with
 | zero=>intro vbs vbr h;exact absurd h (by omega)
 | succ n ih=>
  intro vbs vbr h hb;rw[qd4,qj8]
  cases vbr with
  | nil=>rw[qac (by simp)];exact⟨-1,rfl,rfl⟩
  | cons c vbr=>
   simp only[qL]at h hb;rw[qbg,qaa (by omega),qao,qB,qxv A,qB]
   cases hc:cs.contains c
   ·obtain⟨r,h1,h2⟩:=ih (vbs++[c]) vbr (by omega) (by simp;omega)
    refine⟨r,?_,by rw[h2,List.any_cons,hc,Bool.false_or]⟩
    rw[qai _ (by omega)]
    simpa using h1
   ·exact⟨_,rfl,by rw[List.any_cons,hc,Bool.true_or];exact decide_eq_true (by omega)⟩
theorem zk7 {cs:List UInt8} (A:AC cs) (fu:Nat) (hfu:100<=fu) (s:List UInt8):∀ (n p:Nat),s.length-p<n->p<=s.length ->
  ∃ r,qd2 fu n cs s p=some r/\decide (0<=r)=(s.drop p).any cs.contains:=by
 intro n
 induction n with
 | zero=>intro p h;exact absurd h (by omega)
 | succ n ih=>
  intro p h hp;rw[qd2,qki];by_cases hlt:p<s.length
  ·have e:s[p]? = some s[p]:=List.getElem?_eq_getElem hlt;have hd:s.drop p=s[p]::s.drop (p+1):=List.drop_eq_getElem_cons hlt;rw[qau (zz1 hlt)];by_cases hc:s[p].toNat<128
   ·rw[zc5 s p _ e hc];simp only;rw[zu6 fu cs _ hc,qB,qic,hd,List.any_cons];by_cases hm:s[p]∈cs
    ·rw[qX ((zuy _ _).2 hm)];exact⟨_,rfl,by rw[show cs.contains s[p]=true by simpa using hm,Bool.true_or];exact decide_eq_true (by omega)⟩
    ·rw[qW (fun h=>hm ((zuy _ _).1 h))]
     obtain⟨r,h1,h2⟩:=ih (p+1) (by omega) (by omega)
     exact⟨r,h1,by rw[h2,show cs.contains s[p]=false by simpa using hm,Bool.false_or]⟩
   ·obtain⟨q1,q2,q3⟩:=zfb s p _ e (by omega)
    rw[zpu fu cs _ (by omega) A.low (by have:=A.few;omega) (by have:=A.few;omega),qB,qac (by decide)]
    have hle:p+(rdec s p).2<=s.length:=by
     obtain⟨d,hd,_⟩:=q3 ((rdec s p).2-1) (by omega)
     have:=(List.getElem?_eq_some_iff.1 hd).1;omega
    obtain⟨r,h1,h2⟩:=ih (p+(rdec s p).2) (by omega) hle
    refine⟨r,h1,?_⟩;rw[h2];have:∀ w,(∀ j,j<w->∃ d,s[p+j]? = some d/\128<=d.toNat)->(s.drop (p+w)).any cs.contains=(s.drop p).any cs.contains:=by
     intro w
     induction w with
     | zero=>intro _;rfl
     | succ w ihw=>
      intro hw;rw[← ihw (fun j hj=>hw j (by omega))]
      obtain⟨d,hd,hd2⟩:=hw w (by omega)
      obtain⟨k1,k2⟩:=List.getElem?_eq_some_iff.1 hd;rw[List.drop_eq_getElem_cons k1,k2,List.any_cons,show cs.contains d=false by
       simp only[List.contains_eq_mem,decide_eq_false_iff_not];intro hm;have:=A.low d hm;omega,Bool.false_or]
      rfl
    exact this _ q3
  ·rw[qax (z24 hlt)];exact⟨-1,rfl,by rw[List.drop_eq_nil_of_le (by omega)];rfl⟩
theorem q39 {cs:List UInt8} (A:AC cs) (fu:Nat) (s:List UInt8) (hfu:100<=fu) (h:s.length<fu) (hb:s.length<1000000000):qgg fu s cs=some (s.any cs.contains):=by
 unfold qgg;have:∃ r,qjy fu s cs=some r/\decide (0<=r)=s.any cs.contains:=by
  unfold qjy;have h2:=A.two;rw[qax (by cases cs with
   | nil=>simp at h2
   | cons a b=>rfl),qsw,qW (by omega)]
  unfold qfh;rw[qB,qic];split
  ·obtain⟨n,rfl⟩:∃ n,fu=n+100:=⟨fu-100,by omega⟩
   rw[A.set,qB];simp only[A.len];rw[qau (by rw[List.length_replicate];rfl),qau (by rfl)]
   have:=zss A (n+100) (n+100) [] s (by omega) (by simpa using hb)
   simpa using this
  ·have:=zk7 A fu hfu s fu 0 (by omega) (by omega)
   simpa [qgh] using this
 obtain⟨r,h1,h2⟩:=this;rw[h1,qB,h2]
set_option maxRecDepth 100000 in
theorem zpm:∀ n:_root_.Fin 256,(qzf [13,10,0])[(UInt8.ofNat n.val).toNat]? = some (([13,10,0]:List UInt8).contains (UInt8.ofNat n.val)):=by decide +kernel
theorem ac1:AC [13,10,0]:=⟨by decide,by decide,by decide,fun n=>by kernel_rfl,fun c=>qpi (fun c=>(qzf [13,10,0])[c.toNat]? = some (([13,10,0]:List UInt8).contains c)) zpm c,by decide +kernel⟩
set_option maxRecDepth 100000 in
theorem zq3:∀ n:_root_.Fin 256,(qzf [32,9])[(UInt8.ofNat n.val).toNat]? = some (([32,9]:List UInt8).contains (UInt8.ofNat n.val)):=by decide +kernel
theorem ac3:AC [32,9]:=⟨by decide,by decide,by decide,fun n=>by kernel_rfl,fun c=>qpi (fun c=>(qzf [32,9])[c.toNat]? = some (([32,9]:List UInt8).contains c)) zq3 c,by decide +kernel⟩
theorem q2q (c:UInt8):([32,9]:List UInt8).contains c=bl c:=by rw[Bool.eq_iff_iff];simp[bl]
end Go.Sym
namespace Go.Sym
theorem q5l (c:UInt8) (s:List UInt8):qu5 (c::s)=if qu5 s=[] then (if bl c then [] else [c]) else c::qu5 s:=by
 unfold qu5;rw[List.reverse_cons];generalize s.reverse=r
 induction r with
 | nil=>simp[List.dropWhile];cases bl c<;>rfl
 | cons x r ih=>
  rw[wK,List.dropWhile,List.dropWhile];cases bl x
  ·simp
  ·simpa using ih
theorem qh5 (c:UInt8) (s:List UInt8):qbm (c::s)=if bl c then qbm s else c::s:=by
 unfold qbm;rw[List.dropWhile];cases bl c<;>rfl
theorem q8h:∀ s:List UInt8,qbm (qu5 s)=trim s
 | []=>rfl
 | c::s=>by
  unfold trim;have ih:=q8h s;unfold trim at ih;rw[q5l,qh5];cases hc:bl c
  ·simp only[wJ,if_false];rw[q5l,hc];simp only[wJ,if_false];split
   ·rw[qh5,hc];rfl
   ·rw[qh5,hc];rfl
  ·simp only[if_true];rw[← ih];split
   ·rename_i h;rw[h]
   ·rw[qh5,hc];rfl
theorem q7n (s:List UInt8):(qu5 s).length<=s.length:=by
 unfold qu5;rw[List.length_reverse];have:=(List.dropWhile_sublist bl (l:=s.reverse)).length_le;simpa using this
theorem qf2 (s:List UInt8):(qbm s).length<=s.length:=(List.dropWhile_sublist bl).length_le
def edge (s:List UInt8):Bool := !(s.head?.any bl) && !(s.getLast?.any bl)
theorem zh1 (s:List UInt8):decide (trim s=s)=edge s:=by
 unfold edge;cases hf:s.head?.any bl
 ·cases hl:s.getLast?.any bl
  ·rw[decide_eq_true];rfl;unfold trim;have h1:qbm s=s:=by
    cases s with
    | nil=>rfl
    | cons c s=>rw[qh5];simp at hf;rw[hf];rfl
   rw[h1];rcases List.eq_nil_or_concat s with rfl|⟨t,c,rfl⟩
   ·rfl
   ·rw[List.concat_eq_append]at *;rw[qtw];simp at hl;rw[hl];rfl
  ·rw[decide_eq_false];rfl;rw[← q8h];rcases List.eq_nil_or_concat s with rfl|⟨t,c,rfl⟩
   ·simp at hl
   ·rw[List.concat_eq_append]at *;simp at hl;rw[qtw,hl,qX rfl];intro e;have:=Nat.le_trans (qf2 (qu5 t)) (q7n t);rw[e]at this;simp at this;omega
 ·rw[decide_eq_false];rfl
  cases s with
  | nil=>simp at hf
  | cons c s=>
   simp at hf;unfold trim;rw[qh5,hf,qX rfl];intro e;have:=Nat.le_trans (q7n (qbm s)) (qf2 s);rw[e]at this;simp at this;omega
theorem q1p (c:UInt8):qf7 c=some (bl c):=by unfold qf7 bl;cases c==32<;>rfl
theorem qtq (c:UInt8):qky c=some (bl c):=by unfold qky bl;cases c==32<;>rfl
theorem qp8 (f:Int×Int):qak f=some (f.1 != 0):=rfl
def q6n (c:UInt8):Bool:=decide (33<=c)&&decide (c<=126)&&c != 58
def q15 (s:List UInt8):Bool:=s != []&&decide (s.length<=60)&&s.all q6n
theorem zl6 (c:UInt8):qq4 c=some (q6n c):=by
 unfold qq4 q6n;cases decide (33<=c)<;>cases decide (c<=126)<;>rfl
theorem z0x (fu n:Nat):∀ (vbs vbr:List UInt8),vbr.length<n->vbs.length+vbr.length<1000000000 ->
  qlk fu n (vbs++vbr) ((vbs.length+vbr.length:Nat):Int) (vbs.length:Int)=some (vbr.all q6n):=by
 induction n with
 | zero=>intro vbs vbr h;exact absurd h (by omega)
 | succ n ih=>
  intro vbs vbr h hb;rw[qlk,qti]
  cases vbr with
  | nil=>rw[qac (by simp)];rfl
  | cons c vbr=>
   simp only[qL]at h hb ⊢;rw[qaa (by omega),qao,qB,zl6,qB,List.all_cons]
   cases hc:q6n c
   ·rfl
   ·have:=ih (vbs++[c]) vbr (by omega) (by simp;omega)
    rw[qai _ (by omega)]
    simp only[qS,wM,qM,qL,qZ]at this;rw[show vbs.length+0+1+vbr.length=vbs.length+(vbr.length+1) by omega]at this
    simpa using this
theorem znn (fu:Nat) (s:List UInt8) (h:61<fu):qup fu s=some (q15 s):=by
 unfold qup q15
 cases s with
 | nil=>rfl
 | cons c s=>
  rw[show (!c::s==([]:List UInt8))=true from rfl,show (c::s != ([]:List UInt8))=true from rfl,qT,qic]
  split
  ·rename_i hl;simp only[qL]at hl;unfold qx6;have:=z0x fu fu [] (c::s) (by simp only[qL];omega) (by simp only[qL,qZ];omega)
   simp only[List.nil_append,qZ,wO]at this;rw[show (0:Int)=((0:Nat):Int) from rfl,this,decide_eq_true (by simp only[qL];omega)]
   rfl
  ·rename_i hl;rw[decide_eq_false (by omega)]
   rfl
theorem zol (a b c:Int):qfa a b c=some (decide (b<=a)&&decide (a<=c)):=by
 unfold qfa;rw[qic];split
 ·rename_i h;rw[decide_eq_true h];rfl
 ·rename_i h;rw[decide_eq_false h];rfl
set_option maxRecDepth 100000 in
theorem zft:∀ n:_root_.Fin 256,(decide ((33:Int)<=((UInt8.ofNat n.val).toNat:Int))&&decide (((UInt8.ofNat n.val).toNat:Int)<=126) && !((UInt8.ofNat n.val)==58))=q6n (UInt8.ofNat n.val):=by decide +kernel
theorem z7g (c:UInt8):(decide ((33:Int)<=(c.toNat:Int))&&decide ((c.toNat:Int)<=126) && !(c==58))=q6n c:=qpi (fun c=>(decide ((33:Int)<=(c.toNat:Int))&&decide ((c.toNat:Int)<=126) && !(c==58))=q6n c) zft c
theorem zkw (fu n:Nat):∀ (vbs vbr:List UInt8),vbr.length<n->vbs.length+vbr.length<1000000000 ->
  qhx fu n (vbs++vbr) (vbs.length:Int)=some (vbr.all q6n&&(decide (1<=vbs.length+vbr.length)&&decide (vbs.length+vbr.length<=60))):=by
 induction n with
 | zero=>intro vbs vbr h;exact absurd h (by omega)
 | succ n ih=>
  intro vbs vbr h hb;rw[qhx,qo1]
  cases vbr with
  | nil=>
   rw[qac (by simp),zol,List.all_nil,Bool.true_and]
   simp only[List.append_nil,qZ,Nat.add_zero,qB];congr 2
   ·rw[Bool.eq_iff_iff];simp only[decide_eq_true_eq];omega
   ·rw[Bool.eq_iff_iff];simp only[decide_eq_true_eq];omega
  | cons c vbr=>
   simp only[qL]at h hb ⊢;rw[qbg,qaa (by omega),qao,qB,zol,qB,qB,List.all_cons,← z7g]
   cases decide ((33:Int)<=(c.toNat:Int))&&decide ((c.toNat:Int)<=126)
   ·rfl
   ·cases c==58
    ·have:=ih (vbs++[c]) vbr (by omega) (by simp;omega)
     rw[qai _ (by omega)]
     simp only[qS,wM,qM,qL,qZ]at this;rw[show vbs.length+(0+1)+vbr.length=vbs.length+(vbr.length+1) by omega]at this
     simpa using this
    ·rfl
theorem zmx (fu:Nat) (s:List UInt8) (h:s.length<fu) (hb:s.length<1000000000):qpf fu s=some (q15 s):=by
 unfold qpf q15;have:=zkw fu fu [] s h (by simpa using hb)
 rw[show (0:Int)=(([]:List UInt8).length:Int) from rfl,show s=[]++s from rfl,this]
 simp only[qZ,wO,List.nil_append];congr 1
 cases s with
 | nil=>rfl
 | cons c s=>
  rw[show (c::s != ([]:List UInt8))=true from rfl,decide_eq_true (show 1<=(c::s).length by simp)]
  simp only[Bool.true_and];exact Bool.and_comm _ _
def fval (s:List UInt8):Bool := !(s.any ([13,10,0]:List UInt8).contains)&&edge s
theorem zjh (fu:Nat) (s:List UInt8) (hfu:100<=fu) (h:s.length<fu) (hb:s.length<1000000000):qst fu s=some (fval s):=by
 unfold qst qx0 fval;rw[q39 ac1 fu s hfu h hb,qB,qB];cases s.any ([13,10,0]:List UInt8).contains
 ·rw[qek];unfold edge
  cases s with
  | nil=>rfl
  | cons c t=>
   rw[qax (by rfl),show idx (c::t) (0:Int)=some c from rfl,qB,q1p,qB]
   rw[show (c::t).head?.any bl=bl c from rfl]
   cases bl c
   ·rw[qek];rcases List.eq_nil_or_concat (c::t) with e|⟨u,d,e⟩
    ·cases e
    ·rw[List.concat_eq_append]at e;rw[e]at hb ⊢;simp only[qM,qL,qZ]at hb;rw[qm8,qv9 _ (by omega),qw0,qB,q1p,qB]
     simp
   ·rfl
 ·rfl
theorem q8k (fu:Nat) (_r0:Nat->List UInt8->Option (List UInt8)) (n:Nat):∀ (s:List UInt8),s.length<n->s.length<1000000000->qpx fu n s=some (qu5 s):=by
 induction n with
 | zero=>intro s h;exact absurd h (by omega)
 | succ n ih=>
  intro s h hb;rw[qpx,qwe];rcases List.eq_nil_or_concat s with rfl|⟨t,c,rfl⟩
  ·rw[qac (by simp)];rfl
  ·rw[List.concat_eq_append]at *;simp only[qM,qL,qZ]at h hb;rw[qm8,qaa (by omega),qv9 _ (by omega),qw0,qB,qtq,qB,qyt,qaa (by omega),ih t (by omega) (by omega),qtw]
   cases bl c<;>rfl
theorem zmm (fu n:Nat):∀ (s:List UInt8),s.length<n->s.length<fu->s.length<1000000000->qp7 fu n s=some (trim s):=by
 induction n with
 | zero=>intro s h;exact absurd h (by omega)
 | succ n ih=>
  intro s h hf hb;rw[qp7,qv3]
  cases s with
  | nil=>
   rw[qac (by simp)]
   unfold qp9;rw[qax (by rfl),q8k fu (fun _ _=>none) fu [] hf hb];rfl
  | cons c s=>
   rw[qaa (by simp),show idx (c::s) (0:Int)=some c from rfl,qB,qtq,qB]
   unfold qp9 trim;rw[qh5];simp only[qL]at h hf hb;cases bl c
   ·rw[qax (by rfl),q8k fu (fun _ _=>none) fu (c::s) (by simp only[qL];omega) (by simp only[qL];omega)];rfl
   ·rw[qau (by rfl)]
    unfold qwp;rw[qaa (by simp only[qL];omega)]
    exact ih s (by omega) (by omega) (by omega)
theorem zma (fu:Nat) (s:List UInt8) (h:s.length<fu) (hb:s.length<1000000000):q2e fu s=some (trim s):=zmm fu fu s h h hb
theorem zkp (fu n:Nat):∀ (s:List UInt8),s.length<n->s.length<1000000000->qb1 fu n s (qzf [32,9])=some (qu5 s,qzf [32,9]):=by
 induction n with
 | zero=>intro s h;exact absurd h (by omega)
 | succ n ih=>
  intro s h hb;rw[qb1,qfj];rcases List.eq_nil_or_concat s with rfl|⟨t,c,rfl⟩
  ·rw[qac (by simp)];rfl
  ·rw[List.concat_eq_append]at *;simp only[qM,qL,qZ]at h hb;rw[qm8,qaa (by omega),qv9 _ (by omega),qw0,qB,qxv ac3,qB,qyt,qaa (by omega),ih t (by omega) (by omega),qtw,q2q]
   cases bl c<;>rfl
theorem zmc (fu:Nat) (s:List UInt8) (hfu:100<=fu) (h:s.length<fu) (hb:s.length<1000000000):qe5 fu s [32,9]=some (qu5 s):=by
 unfold qe5
 cases s with
 | nil=>rfl
 | cons c s=>
  rw[qax (by rfl)]
  unfold qfo;rw[qax (by rfl)]
  unfold qjs;rw[qax (by decide)]
  unfold qfk;rw[qax (by rfl)]
  unfold qjn;obtain⟨n,rfl⟩:∃ n,fu=n+100:=⟨fu-100,by omega⟩
  rw[ac3.set,qB];simp only[ac3.len];rw[qau (by rw[List.length_replicate];rfl),qau (by rfl)]
  unfold qd9;rw[zkp _ _ _ h hb];rfl
theorem zyv (fu:Nat) (hfu:10<=fu) (c a b d:UInt8):qmj fu c [a,b,d]=some (([a,b,d]:List UInt8).contains c):=by
 obtain⟨n,rfl⟩:∃ n,fu=n+10:=⟨fu-10,by omega⟩
 unfold qmj;simp only[qkx,qrl];rw[qau (by rfl),show idx [a,b,d] (0:Int)=some a from rfl,qB]
 simp only[List.contains_cons,List.contains_nil,Bool.or_false];rw[qzr a c,show (w64 (0+1))=(1:Int) from rfl]
 cases c==a
 ·rw[qax (by rfl),qau (by rfl),show idx [a,b,d] (1:Int)=some b from rfl,qB,qzr b c,show (w64 (1+1))=(2:Int) from rfl]
  cases c==b
  ·rw[qax (by rfl),qau (by rfl),show idx [a,b,d] (2:Int)=some d from rfl,qB,qzr d c,show (w64 (2+1))=(3:Int) from rfl]
   cases c==d
   ·rfl
   ·rfl
  ·rfl
 ·rfl
theorem zm4 (fu n:Nat) (hfu:10<=fu):∀ (vbs vbr:List UInt8),vbr.length<n->vbs.length+vbr.length<1000000000->vbs.length+vbr.length<fu ->
  qe1 fu n (vbs++vbr) (vbs.length:Int)=some (if vbr.any ([13,10,0]:List UInt8).contains || !edge (vbs++vbr) then 11 else 0):=by
 induction n with
 | zero=>intro vbs vbr h;exact absurd h (by omega)
 | succ n ih=>
  intro vbs vbr h hb hf;rw[qe1,qop]
  cases vbr with
  | nil=>
   rw[qac (by simp),List.append_nil,zma fu vbs (by simpa using hf) (by simpa using hb),qB,← zh1,List.any_nil,Bool.false_or]
   by_cases e:trim vbs=vbs
   ·rw[decide_eq_true e,e];simp
   ·rw[decide_eq_false e,qau (by simpa using e)];rfl
  | cons c vbr=>
   simp only[qL]at h hb hf;rw[qbg,qaa (by omega),qao,qB,zyv fu hfu,qB,List.any_cons]
   cases hc:([13,10,0]:List UInt8).contains c
   ·have:=ih (vbs++[c]) vbr (by omega) (by simp;omega) (by simp;omega)
    rw[qax (by rfl),qai _ (by omega),Bool.false_or]
    simpa using this
   ·rfl
def q53 (n v:List UInt8):Int:=if q15 n then (if 4000<v.length then 1 else if fval v then 0 else 11) else 10
theorem zle (fu:Nat) (n v:List UInt8) (hfu:10<=fu) (hn:n.length<fu) (hv:v.length<fu) (hnb:n.length<1000000000) (hvb:v.length<1000000000):qlq fu n v=some (q53 n v):=by
 unfold qlq q53;rw[zmx fu n hn hnb,qB];cases q15 n
 ·rfl
 ·rw[qax (by rfl),qX rfl,qic]
  split
  ·rename_i h;rw[qX (by omega)]
  ·rename_i h;rw[qW (by omega)]
   have:=zm4 fu fu hfu [] v hv (by simpa using hvb) (by simpa using hv)
   simp only[List.nil_append,qZ]at this;have this:qe1 fu fu v 0=some (if (v.any ([13,10,0]:List UInt8).contains || !edge v)=true then 11 else 0):=this
   rw[this];unfold fval;cases v.any ([13,10,0]:List UInt8).contains<;>cases edge v<;>rfl
end Go.Sym
namespace Go.Sym
def tk (c:UInt8):Bool:=decide (33<=c)&&decide (c<=126) && !([40,41,60,62,64,44,59,58,92,34,47,91,93,63,61,42,37,39]:Bs).contains c
theorem z08:∀ n:_root_.Fin 256,qa9 (UInt8.ofNat n.val)=some (tk (UInt8.ofNat n.val)):=by decide +kernel
theorem zfi (c:UInt8):qa9 c=some (tk c):=qpi (fun c=>qa9 c=some (tk c)) z08 c
theorem zm9 (fu n:Nat) (c:UInt8):∀ (vbs vbr:Bs),vbr.length<n->vbs.length+vbr.length<1000000000 ->
  qkx fu n c (vbs++vbr) (vbs.length:Int)=some (vbr.contains c):=by
 induction n with
 | zero=>intro vbs vbr h;exact absurd h (by omega)
 | succ n ih=>
  intro vbs vbr h hb;rw[qkx,qrl]
  cases vbr with
  | nil=>rw[qac (by simp)];rfl
  | cons d vbr=>
   simp only[qL]at h hb;rw[qbg,qaa (by omega),qao,qB,qai _ (by omega),qnl,List.contains_cons]
   have:=ih (vbs++[d]) vbr (by omega) (by simp;omega)
   simp only[qM,qL,qZ,qS,wM]at this;by_cases e:d=c
   ·rw[qX e];simp[e]
   ·rw[qW e,this];have:(c==d)=false:=by simp;exact fun h=>e h.symm
    rw[this,Bool.false_or]
theorem zdi (fu:Nat) (c:UInt8) (l:Bs) (h:l.length<fu) (hb:l.length<1000000000):qmj fu c l=some (l.contains c):=by
 have:=zm9 fu fu c [] l h (by simpa using hb)
 simpa [qmj] using this
theorem zha (fu:Nat) (hfu:100<=fu) (c:UInt8):qja fu c=some (tk c):=by
 unfold qja;rw[qjw,qB,zdi fu c _ (by simp;omega) (by simp),qB]
 unfold tk;have h1:(33<=(c.toNat:Int)/\(c.toNat:Int)<=126)↔(33<=c/\c<=126):=by
  rw[UInt8.le_iff_toNat_le,UInt8.le_iff_toNat_le];show _↔(33<=c.toNat/\c.toNat<=126);omega
 by_cases h2:33<=c/\c<=126
 ·rw[decide_eq_true (h1.2 h2),qau rfl,decide_eq_true h2.1,decide_eq_true h2.2];rfl
 ·rw[decide_eq_false (fun h=>h2 (h1.1 h)),qax rfl]
  by_cases h3:33<=c
  ·have h4:¬ c<=126:=fun h=>h2 ⟨h3,h⟩
   rw[decide_eq_false h4];simp
  ·rw[decide_eq_false h3];simp
def allG (P:UInt8->Option Bool):Nat->Bs->Int->Int->Option Bool
 | 0,_,_,_=>none
 | n+1,s0,s7,s8=>bif decide (s8<s7) then (idx s0 s8).bind fun c1=>(P c1).bind fun x2=>bif !x2 then some false else allG P n s0 s7 (w64 (s8+(1:Int))) else some true
theorem zrr (P:UInt8->Option Bool) (p:UInt8->Bool) (hP:∀ c,P c=some (p c)) (n:Nat):∀ (vbs vbr:Bs),vbr.length<n->vbs.length+vbr.length<9223372036854775807 ->
  allG P n (vbs++vbr) ((vbs.length+vbr.length:Nat):Int) (vbs.length:Int)=some (vbr.all p):=by
 induction n with
 | zero=>intro vbs vbr h;exact absurd h (by omega)
 | succ n ih=>
  intro vbs vbr h hb;rw[allG]
  cases vbr with
  | nil=>rw[qac (by simp)];rfl
  | cons d vbr=>
   simp only[qL]at h hb ⊢;rw[qaa (by omega),qao,qB,hP,qB,qai _ (by omega),List.all_cons]
   have:=ih (vbs++[d]) vbr (by omega) (by simp;omega)
   simp only[qM,qL,qZ,qS,wM]at this;cases p d
   ·rfl
   ·rw[qax (by rfl),Bool.true_and,show ((vbs.length+(vbr.length+1):Nat):Int)=((vbs.length+1+vbr.length:Nat):Int) by omega]
    exact this
theorem zau (P:UInt8->Option Bool) (p:UInt8->Bool) (hP:∀ c,P c=some (p c)) (n:Nat) (s:Bs) (h:s.length<n) (hb:s.length<9223372036854775807):allG P n s (s.length:Int) 0=some (s.all p):=by
 have:=zrr P p hP n [] s h (by simpa using hb)
 simpa using this
theorem zsh (fu:Nat) (s:Bs) (h:s.length<fu) (hb:s.length<9223372036854775807):qpu fu s=some (s.all tk):=by
 have e:∀ n,qhe fu n=allG qa9 n:=by
  intro n;induction n with
  | zero=>rfl
  | succ n ih=>rw[qhe,ih];funext a b c;rfl
 unfold qpu;rw[e];exact zau _ _ zfi _ _ h hb
def tokS (s:Bs):Bool := !s.isEmpty&&decide (s.length<=60)&&s.all tk
theorem q1s (fu:Nat) (s:Bs) (h:s.length<fu) (hb:s.length<9223372036854775807):qis fu s=some (tokS s):=by
 unfold qis tokS;rw[zsh fu s h hb]
 cases s with
 | nil=>rfl
 | cons c s=>
  rw[qau (by rfl)]
  by_cases h1:(c::s).length<=60
  ·rw[qaa (by omega),decide_eq_true h1];simp
  ·rw[qac (by omega),decide_eq_false h1];simp
theorem ziq (fu n:Nat) (hfu:100<=fu):∀ (vbs vbr:Bs),vbr.length<n->vbs.length+vbr.length<1000000000 ->
  qg5 fu n (vbs++vbr) (vbs.length:Int)=some (vbr.all tk&&decide (1<=vbs.length+vbr.length/\vbs.length+vbr.length<=60)):=by
 induction n with
 | zero=>intro vbs vbr h;exact absurd h (by omega)
 | succ n ih=>
  intro vbs vbr h hb;rw[qg5,qoe]
  cases vbr with
  | nil=>
   rw[qac (by simp),qjw,qB]
   simp only[List.append_nil,List.all_nil,Bool.true_and,qZ,Nat.add_zero];congr 1;apply decide_eq_decide.2;omega
  | cons d vbr=>
   simp only[qL]at h hb;rw[qbg,qaa (by omega),qao,qB,zha fu hfu,qB,qai _ (by omega),List.all_cons]
   have:=ih (vbs++[d]) vbr (by omega) (by simp;omega)
   simp only[qM,qL,qZ,qS,wM]at this;cases tk d
   ·rfl
   ·rw[qax (by rfl),Bool.true_and]
    refine this.trans ?_;simp only[qL];congr 2;apply decide_eq_decide.2;omega
theorem qyr (fu:Nat) (hfu:100<=fu) (s:Bs) (h:s.length<fu) (hb:s.length<1000000000):qgs fu s=some (tokS s):=by
 have:=ziq fu fu hfu [] s h (by simpa using hb)
 simp only[List.nil_append,qZ,wO]at this;unfold qgs;refine this.trans ?_;unfold tokS
 cases s with
 | nil=>rfl
 | cons c s=>
  congr 1;rw[Bool.and_comm];congr 1;show decide _=(true&&decide _);rw[Bool.true_and];apply decide_eq_decide.2;simp only[qL];omega
end Go.Sym
namespace Go.Sym
open Go.Lib (decodeL decodeN decodeL_N validD validD_step decodeL_le decodeL_width)
def rn (l:Bs):Int×Int:=if (decodeL l).1=65533/\(decodeL l).2=1 then (-1,1) else (((decodeL l).1:Nat),((decodeL l).2:Nat))
theorem w64n (a b:Nat) (h:a+b<9223372036854775808):w64 ((a:Int)+(b:Int))=((a+b:Nat):Int):=by rw[qgy (by omega) (by omega)];omega
theorem zta {α:Type} (vbs l:List α) (k:Nat) (h:k<l.length):idx (vbs++l) ((vbs.length+k:Nat):Int)=some l[k]:=by
 rw[qwt _ _ (by simp;omega)];simp
theorem zk6 (vbs l:Bs) (k:Nat) (h:k<l.length):idx (vbs++l) ((vbs.length+k:Nat):Int)=some (l.getD k 0):=by
 rw[zta vbs l k h];simp[List.getD,h]
theorem qzz (fu n:Nat) (vbs l:Bs) (size v least k:Nat) (hk:k<size) (hl:k<l.length) (hv:v<10000000) (hb:vbs.length+l.length<1000000000) (hs:size<=4) :
  qgd fu (n+1) (vbs++l) (vbs.length:Int) (size:Int) (v:Int) (least:Int) (k:Int) =
   if 128<=(l.getD k 0).toNat/\(l.getD k 0).toNat<=191 then qgd fu n (vbs++l) (vbs.length:Int) (size:Int) ((64*v+(l.getD k 0).toNat-128:Nat):Int) (least:Int) ((k+1:Nat):Int) else some (-1,1):=by
 have hc:(l.getD k 0).toNat<256:=(l.getD k 0).toNat_lt;rw[qgd,qs7,qaa (by omega),w64n _ _ (by omega),zk6 vbs l k hl,qB,qjw,qB,qai k (by omega)]
 generalize (l.getD k 0).toNat=x at hc;by_cases h:128<=x/\x<=191
 ·rw[qX h,decide_eq_true (by omega),qb2,show (64:Int)*(v:Int)=((64*v:Nat):Int) by omega,qgy (x:=((64*v:Nat):Int)) (by omega) (by omega),qgy (x:=((64*v:Nat):Int)+(x:Int)) (by omega) (by omega),qgy (by omega) (by omega)]
  congr 1;omega
 ·rw[qW h,decide_eq_false (by omega),qek]
theorem zj0 (fu n:Nat) (s:Bs) (i:Int) (size v least:Nat) :
  qgd fu (n+1) s i (size:Int) (v:Int) (least:Int) (size:Int)=if v<least\/1114111<v\/(55296<=v/\v<=57343) then some (-1,1) else some ((v:Int),(size:Int)):=by
 rw[qgd,qs7,qac (by omega)]
 by_cases h1:v<least
 ·rw[qaa (by omega),qX (.inl h1)]
 rw[qac (by omega)]
 by_cases h2:1114111<v
 ·rw[qaa (by omega),qX (.inr (.inl h2))]
 rw[qac (by omega),qjw,qB]
 by_cases h3:55296<=v/\v<=57343
 ·rw[qaa (by omega),qX (.inr (.inr h3))]
 ·rw[qac (by omega),qW (by omega)]
theorem q5v (fu:Nat) (vbs l:Bs) (size v least:Nat) (h:l.length<size) (hs:size<=4) (hb:vbs.length+l.length<1000000000):qf4 fu (vbs++l) (vbs.length:Int) (size:Int) (v:Int) (least:Int)=some (-1,1):=by
 rw[qf4,qsw,qW (by omega),w64n _ _ (by omega),qpw,qaa (by rw[q27];omega)]
theorem zaa (fu:Nat) (vbs l:Bs) (size v least:Nat) (h:¬ l.length<size) (h0:size≠0) (hs:size<=4) (hb:vbs.length+l.length<1000000000):qf4 fu (vbs++l) (vbs.length:Int) (size:Int) (v:Int) (least:Int)=qgd fu fu (vbs++l) (vbs.length:Int) (size:Int) (v:Int) (least:Int) ((1:Nat):Int):=by
 rw[qf4,qsw,qW (by omega),w64n _ _ (by omega),qpw,qac (by rw[q27];omega)];rfl
def finR (x:Nat×Nat):Int×Int:=if x.1=65533/\x.2=1 then (-1,1) else ((x.1:Nat),(x.2:Nat))
theorem qw5:finR (65533,1)=(-1,1):=rfl
theorem zav (x k:Nat) (h:k≠1):finR (x,k)=((x:Int),(k:Int)):=qW (fun q=>h q.2)
def q1k (n b0 b1 b2 b3:Nat):Int×Int:=finR (decodeN n b0 b1 b2 b3)
theorem zpv (n b0 b1 b2 b3:Nat) (h:b0<128):q1k n b0 b1 b2 b3=((b0:Int),1):=by
 unfold q1k decodeN;rw[qX h];unfold finR;rw[qW (fun q=>by have:=q.1;simp only at this;omega)];rfl
theorem zqh (n b0 b1 b2 b3:Nat) (h:192<=b0/\b0<=223) (h1:b1<256):q1k n b0 b1 b2 b3=if n<2 then (-1,1) else if 128<=b1/\b1<=191 then (if (64*(b0-192)+b1-128)<128\/1114111<(64*(b0-192)+b1-128)\/(55296<=(64*(b0-192)+b1-128)/\(64*(b0-192)+b1-128)<=57343) then (-1,1) else (((64*(b0-192)+b1-128:Nat):Int),2)) else (-1,1):=by
 unfold q1k decodeN;rw[qW (c:=b0<128) (by omega)]
 by_cases a1:b0/32=6/\(1<n/\b1/64=2)
 ·rw[qX a1,qW (c:=n<2) (by omega),qX (c:=128<=b1/\b1<=191) (by omega)]
  obtain⟨z,hz⟩:∃ z,b0%32*64+b1%64=z:=⟨_,rfl⟩;obtain⟨y,hy⟩:∃ y,64*(b0-192)+b1-128=y:=⟨_,rfl⟩;have hzy:z=y:=by omega
  have hm:y<2048:=by omega
  rw[hz,hy,hzy];by_cases a2:y ≥ 128
  ·rw[qX a2,zav _ _ (by decide),qW (by omega)];rfl
  ·rw[qW a2,qw5,qX (by omega)]
 ·rw[qW a1,qW (c:=b0/16=14/\_) (by omega),qW (c:=b0/8=30/\_) (by omega),qw5]
  by_cases a3:n<2
  ·rw[qX a3]
  ·rw[qW a3,qW (by omega)]
theorem zrb (n b0 b1 b2 b3:Nat) (h:224<=b0/\b0<=239) (h1:b1<256) (h2:b2<256):q1k n b0 b1 b2 b3=if n<3 then (-1,1) else if 128<=b1/\b1<=191 then (if 128<=b2/\b2<=191 then (if (64*(64*(b0-224)+b1-128)+b2-128)<2048\/1114111<(64*(64*(b0-224)+b1-128)+b2-128)\/(55296<=(64*(64*(b0-224)+b1-128)+b2-128)/\(64*(64*(b0-224)+b1-128)+b2-128)<=57343) then (-1,1) else (((64*(64*(b0-224)+b1-128)+b2-128:Nat):Int),3)) else (-1,1)) else (-1,1):=by
 unfold q1k decodeN;rw[qW (c:=b0<128) (by omega),qW (c:=b0/32=6/\_) (by omega)]
 by_cases a1:b0/16=14/\(1<n/\b1/64=2)/\(2<n/\b2/64=2)
 ·rw[qX a1,qW (c:=n<3) (by omega),qX (c:=128<=b1/\b1<=191) (by omega),qX (c:=128<=b2/\b2<=191) (by omega)]
  obtain⟨z,hz⟩:∃ z,b0%16*4096+b1%64*64+b2%64=z:=⟨_,rfl⟩;obtain⟨y,hy⟩:∃ y,64*(64*(b0-224)+b1-128)+b2-128=y:=⟨_,rfl⟩;have hzy:z=y:=by omega
  have hm:y<65536:=by omega
  rw[hz,hy,hzy];by_cases a2:y ≥ 2048/\(y<55296\/(57344<=y/\y<=1114111))
  ·rw[qX a2,zav _ _ (by decide),qW (by omega)];rfl
  ·rw[qW a2,qw5,qX (by omega)]
 ·rw[qW a1,qW (c:=b0/8=30/\_) (by omega),qw5]
  by_cases a3:n<3
  ·rw[qX a3]
  ·rw[qW a3];by_cases a4:128<=b1/\b1<=191
   ·rw[qX a4,qW (by omega)]
   ·rw[qW a4]
theorem zrq (n b0 b1 b2 b3:Nat) (h:240<=b0/\b0<=247) (h1:b1<256) (h2:b2<256) (h3:b3<256):q1k n b0 b1 b2 b3=if n<4 then (-1,1) else if 128<=b1/\b1<=191 then (if 128<=b2/\b2<=191 then (if 128<=b3/\b3<=191 then (if (64*(64*(64*(b0-240)+b1-128)+b2-128)+b3-128)<65536\/1114111<(64*(64*(64*(b0-240)+b1-128)+b2-128)+b3-128)\/(55296<=(64*(64*(64*(b0-240)+b1-128)+b2-128)+b3-128)/\(64*(64*(64*(b0-240)+b1-128)+b2-128)+b3-128)<=57343) then (-1,1) else (((64*(64*(64*(b0-240)+b1-128)+b2-128)+b3-128:Nat):Int),4)) else (-1,1)) else (-1,1)) else (-1,1):=by
 unfold q1k decodeN;rw[qW (c:=b0<128) (by omega),qW (c:=b0/32=6/\_) (by omega),qW (c:=b0/16=14/\_) (by omega)]
 by_cases a1:b0/8=30/\(1<n/\b1/64=2)/\(2<n/\b2/64=2)/\(3<n/\b3/64=2)
 ·rw[qX a1,qW (c:=n<4) (by omega),qX (c:=128<=b1/\b1<=191) (by omega),qX (c:=128<=b2/\b2<=191) (by omega),qX (c:=128<=b3/\b3<=191) (by omega)]
  obtain⟨z,hz⟩:∃ z,b0%8*262144+b1%64*4096+b2%64*64+b3%64=z:=⟨_,rfl⟩;obtain⟨y,hy⟩:∃ y,64*(64*(64*(b0-240)+b1-128)+b2-128)+b3-128=y:=⟨_,rfl⟩;have hzy:z=y:=by omega
  rw[hz,hy,hzy];by_cases a2:y ≥ 65536/\(y<55296\/(57344<=y/\y<=1114111))
  ·rw[qX a2,zav _ _ (by decide),qW (by omega)];rfl
  ·rw[qW a2,qw5,qX (by omega)]
 ·rw[qW a1,qw5];by_cases a3:n<4
  ·rw[qX a3]
  ·rw[qW a3];by_cases a4:128<=b1/\b1<=191
   ·rw[qX a4];by_cases a5:128<=b2/\b2<=191
    ·rw[qX a5,qW (by omega)]
    ·rw[qW a5]
   ·rw[qW a4]
theorem zs7 (n b0 b1 b2 b3:Nat) (h:(128<=b0/\b0<192)\/248<=b0) (hb:b0<256):q1k n b0 b1 b2 b3=(-1,1):=by
 unfold q1k decodeN;rw[qW (c:=b0<128) (by omega),qW (c:=b0/32=6/\_) (by omega),qW (c:=b0/16=14/\_) (by omega),qW (c:=b0/8=30/\_) (by omega)];rfl
theorem rn_N (l:Bs):rn l=q1k l.length (l.getD 0 0).toNat (l.getD 1 0).toNat (l.getD 2 0).toNat (l.getD 3 0).toNat:=by unfold rn q1k finR;rw[decodeL_N]
theorem zjl (fu:Nat) (hfu:10<=fu) (vbs:Bs) (c:UInt8) (t:Bs) (hb:vbs.length+t.length<100000000):qwj fu (vbs++c::t) (vbs.length:Int)=some (rn (c::t)):=by
 have hl:(c::t).length=t.length+1:=rfl;obtain⟨n,rfl⟩:∃ n,fu=n+10:=⟨fu-10,by omega⟩
 rw[rn_N,show (c::t).getD 0 0=c from rfl]
 generalize hl2:c::t=l at *;have b1:=(l.getD 1 0).toNat_lt;have b2:=(l.getD 2 0).toNat_lt;have b3:=(l.getD 3 0).toNat_lt;have hc:=c.toNat_lt;unfold qwj;rw[show idx (vbs++l) (vbs.length:Int)=some c by rw[← hl2];exact qao vbs c t,qB]
 by_cases h0:c.toNat<128
 ·rw[qaa (by omega),zpv _ _ _ _ _ h0]
 rw[qac (by omega),qjw,qB]
 by_cases h2:192<=c.toNat/\c.toNat<=223
 ·rw[qaa (by omega),zqh _ _ _ _ _ h2 b1,qgy (by omega) (by omega),show (c.toNat:Int)-192=((c.toNat-192:Nat):Int) by omega]
  by_cases g:l.length<2
  ·rw[qX g];exact q5v (n+10) vbs l 2 _ 128 g (by omega) (by omega)
  ·rw[qW g];refine (zaa (n+10) vbs l 2 _ 128 g (by omega) (by omega) (by omega)).trans ?_
   rw[qzz (n+10) (n+9) vbs l 2 _ 128 1 (by omega) (by omega) (by omega) (by omega) (by omega)]
   by_cases g1:128<=(l.getD 1 0).toNat/\(l.getD 1 0).toNat<=191
   ·rw[qX g1,qX g1];refine (zj0 (n+10) (n+8) _ _ 2 _ 128).trans ?_;rw[q5r];rfl
   ·rw[qW g1,qW g1]
 rw[qac (by omega),qjw,qB]
 by_cases h3:224<=c.toNat/\c.toNat<=239
 ·rw[qaa (by omega),zrb _ _ _ _ _ h3 b1 b2,qgy (by omega) (by omega),show (c.toNat:Int)-224=((c.toNat-224:Nat):Int) by omega]
  by_cases g:l.length<3
  ·rw[qX g];exact q5v (n+10) vbs l 3 _ 2048 g (by omega) (by omega)
  ·rw[qW g];refine (zaa (n+10) vbs l 3 _ 2048 g (by omega) (by omega) (by omega)).trans ?_
   rw[qzz (n+10) (n+9) vbs l 3 _ 2048 1 (by omega) (by omega) (by omega) (by omega) (by omega)]
   by_cases g1:128<=(l.getD 1 0).toNat/\(l.getD 1 0).toNat<=191
   ·rw[qX g1,qX g1,qzz (n+10) (n+8) vbs l 3 _ 2048 2 (by omega) (by omega) (by omega) (by omega) (by omega)]
    by_cases g2:128<=(l.getD 2 0).toNat/\(l.getD 2 0).toNat<=191
    ·rw[qX g2,qX g2];refine (zj0 (n+10) (n+7) _ _ 3 _ 2048).trans ?_;rw[q5r];rfl
    ·rw[qW g2,qW g2]
   ·rw[qW g1,qW g1]
 rw[qac (by omega),qjw,qB]
 by_cases h4:240<=c.toNat/\c.toNat<=247
 ·rw[qaa (by omega),zrq _ _ _ _ _ h4 b1 b2 b3,qgy (by omega) (by omega),show (c.toNat:Int)-240=((c.toNat-240:Nat):Int) by omega]
  by_cases g:l.length<4
  ·rw[qX g];exact q5v (n+10) vbs l 4 _ 65536 g (by omega) (by omega)
  ·rw[qW g];refine (zaa (n+10) vbs l 4 _ 65536 g (by omega) (by omega) (by omega)).trans ?_
   rw[qzz (n+10) (n+9) vbs l 4 _ 65536 1 (by omega) (by omega) (by omega) (by omega) (by omega)]
   by_cases g1:128<=(l.getD 1 0).toNat/\(l.getD 1 0).toNat<=191
   ·rw[qX g1,qX g1,qzz (n+10) (n+8) vbs l 4 _ 65536 2 (by omega) (by omega) (by omega) (by omega) (by omega)]
    by_cases g2:128<=(l.getD 2 0).toNat/\(l.getD 2 0).toNat<=191
    ·rw[qX g2,qX g2,qzz (n+10) (n+7) vbs l 4 _ 65536 3 (by omega) (by omega) (by omega) (by omega) (by omega)]
     by_cases g3:128<=(l.getD 3 0).toNat/\(l.getD 3 0).toNat<=191
     ·rw[qX g3,qX g3];refine (zj0 (n+10) (n+6) _ _ 4 _ 65536).trans ?_;rw[q5r];rfl
     ·rw[qW g3,qW g3]
    ·rw[qW g2,qW g2]
   ·rw[qW g1,qW g1]
 rw[qac (by omega),zs7 _ _ _ _ _ (by omega) hc]
 rfl
theorem zdh (l:Bs):(rn l).1<0↔((decodeL l).1=65533/\(decodeL l).2=1):=by
 unfold rn;split
 ·rename_i h;exact⟨fun _=>h,fun _=>by decide⟩
 ·rename_i h;exact⟨fun q=>absurd q (by simp only;omega),fun q=>absurd q h⟩
theorem zfl (l:Bs):(rn l).2=((decodeL l).2:Int):=by
 unfold rn;split
 ·rename_i h;rw[h.2];rfl
 ·rfl
theorem zm8 (fu n:Nat) (hfu:10<=fu):∀ (vbs vbr:Bs),vbr.length<n->vbs.length+vbr.length<100000000->qmu fu n (vbs++vbr) (vbs.length:Int)=some (validD vbr):=by
 induction n with
 | zero=>intro vbs vbr h;exact absurd h (by omega)
 | succ n ih=>
  intro vbs vbr h hb;rw[qmu,qu4]
  cases vbr with
  | nil=>rw[qac (by simp)];rfl
  | cons c t=>
   have hw:=decodeL_width (c::t);have hle:=decodeL_le (c::t) (by simp)
   simp only[qL]at h hb;rw[qaa (by rw[qbg];omega),zjl fu hfu vbs c t (by omega),qB,validD_step (c::t) (by simp)]
   by_cases hbad:(decodeL (c::t)).1=65533/\(decodeL (c::t)).2=1
   ·rw[qaa ((zdh _).2 hbad),qX hbad]
   ·rw[qac (fun q=>hbad ((zdh _).1 q)),qW hbad,zfl,w64n _ _ (by simp only[qL]at hle;omega)]
    have:=ih (vbs++(c::t).take (decodeL (c::t)).2) ((c::t).drop (decodeL (c::t)).2) (by rw[List.length_drop];simp only[qL];omega) (by rw[qM,List.length_take,List.length_drop];simp only[qL]at hle ⊢;omega)
    rw[qS,List.take_append_drop,qM,List.length_take,Nat.min_eq_left hle]at this;exact this
theorem zhe (fu:Nat) (hfu:10<=fu) (s:Bs) (h:s.length<fu) (hb:s.length<100000000):qt2 fu s=some (validD s):=by
 have:=zm8 fu fu hfu [] s h (by simpa using hb)
 simpa [qt2] using this
theorem zk5:q2b (-1)=some [239,191,189]:=by rfl
theorem zza (n:Nat):∀ (b:Bool) (l:Bs),(vu [239,191,189] n b l).length<=3*l.length:=by
 induction n with
 | zero=>intro b l;simp[vu]
 | succ n ih=>
  intro b l
  cases l with
  | nil=>simp[vu]
  | cons c t=>
   rw[vu];split
   ·have:=ih true t;rw[qM];simp only[qL];cases b<;>simp<;>omega
   ·have:=ih false ((c::t).drop (decodeL (c::t)).2);have hle:=decodeL_le (c::t) (by simp)
    rw[qM,List.length_take];rw[List.length_drop]at this;omega
theorem q0i (rep:Bs):∀ (n:Nat) (b:Bool) (l:Bs),l.length<=n->vu rep n b l=vu rep l.length b l:=by
 intro n
 induction n using Nat.strongRecOn with
 | ind n ih=>
  intro b l h
  cases l with
  | nil=>cases n<;>rfl
  | cons c t=>
   obtain⟨m,rfl⟩:∃ m,n=m+1:=⟨n-1,by simp only[qL]at h;omega⟩
   simp only[qL]at h ⊢;have hw:=decodeL_width (c::t);rw[vu,vu];have hd:((c::t).drop (decodeL (c::t)).2).length<=t.length:=by rw[List.length_drop];simp only[qL];omega
   rw[ih m (by omega) true t (by omega),ih m (by omega) false _ (by omega)]
   by_cases hm:t.length<m+1
   ·rw[ih t.length (by omega) true t (wF _),ih t.length (by omega) false _ hd]
   ·exact absurd h (by omega)
theorem z02 (fu n:Nat) (hfu:10<=fu):∀ (vbs vbr out:Bs) (bad:Bool),vbr.length<n->vbs.length+vbr.length<100000000->out.length+3*vbr.length<400000000 ->
  qiw fu n (vbs++vbr) out bad (vbs.length:Int)=some (out++vu [239,191,189] vbr.length bad vbr):=by
 induction n with
 | zero=>intro vbs vbr out bad h;exact absurd h (by omega)
 | succ n ih=>
  intro vbs vbr out bad h hb ho;rw[qiw,qqd]
  cases vbr with
  | nil=>rw[qac (by simp)];simp[vu]
  | cons c t=>
   have hw:=decodeL_width (c::t);have hle:=decodeL_le (c::t) (by simp)
   simp only[qL]at h hb ho;rw[qaa (by rw[qbg];omega),zjl fu hfu vbs c t (by omega),qB]
   show _=some (out++vu [239,191,189] (t.length+1) bad (c::t));rw[vu];by_cases hbad:(decodeL (c::t)).1=65533/\(decodeL (c::t)).2=1
   ·have hneg:=(zdh _).2 hbad;rw[qac (by omega),qX hbad,decide_eq_true hneg,zfl,hbad.2,zk5,qB,w64n _ _ (by omega)]
    have:=fun o=>ih (vbs++[c]) t o true (by omega) (by simp;omega)
    simp only[qM,qL,qZ,qS,wM,wO]at this;cases bad
    ·rw[qek,qaa (by simp[qad];omega)]
     refine (this (out++[239,191,189]) (by simp;omega)).trans ?_
     simp
    ·rw[qb2];refine (this out (by omega)).trans ?_
     simp
   ·have hneg:¬ (rn (c::t)).1<0:=fun q=>hbad ((zdh _).1 q)
    have hle':=hle;simp only[qL]at hle';rw[qaa (by omega),qW hbad,decide_eq_false hneg,zfl,w64n _ _ (by omega),qaa (by rw[qbg];omega)]
    have e:List.take (((vbs.length+(decodeL (c::t)).2:Nat):Int).toNat-((vbs.length:Nat):Int).toNat) (List.drop ((vbs.length:Nat):Int).toNat (vbs++c::t))=(c::t).take (decodeL (c::t)).2:=by
     rw[quv];congr 1;omega
    rw[e,qaa (by rw[List.length_take,Nat.min_eq_left hle];simp[qad];omega)]
    have:=ih (vbs++(c::t).take (decodeL (c::t)).2) ((c::t).drop (decodeL (c::t)).2) (out++(c::t).take (decodeL (c::t)).2) false (by rw[List.length_drop];simp only[qL];omega) (by rw[qM,List.length_take,List.length_drop];simp only[qL]at hle ⊢;omega) (by rw[qM,List.length_take,List.length_drop];simp only[qL]at hle ⊢;omega)
    rw[qS,List.take_append_drop,qM,List.length_take,Nat.min_eq_left hle]at this;refine this.trans ?_;rw[qS,q0i _ t.length false ((c::t).drop (decodeL (c::t)).2) (by rw[List.length_drop];simp only[qL];omega)]
theorem zad (fu:Nat) (hfu:10<=fu) (s:Bs) (h:s.length<fu) (hb:s.length<100000000):qq6 fu s=some (vu [239,191,189] s.length false s):=by
 have:=z02 fu fu hfu [] s [] false h (by simpa using hb) (by simp;omega)
 simpa [qq6] using this
theorem ze7 (s:Bs) (h:s.length<=1000000):qby s [239,191,189]=some (vu [239,191,189] s.length false s):=by
 unfold qby;rw[qaa ⟨h,by simp⟩]
theorem zh5 (s:Bs) (h:s.length<=1000000):qa2 s=some (validD s):=by
 unfold qa2;rw[qaa (by omega)]
end Go.Sym
namespace Go.Sym
open Go.Lib (validD)
abbrev Prm:Type:=Bs×Bs
abbrev Med:Type:=Bs×Bs×List Prm
def SmP (l:List Prm):Prop:=l.length<=4000000/\∀ x∈l,x.1.length<=4000000/\x.2.length<=4000000
def SmD (m:Med):Prop:=m.1.length<=4000000/\m.2.1.length<=4000000/\SmP m.2.2
def lk (a b:Bs):Bool:=a.map lo==b.map lo
theorem za1 (a b:Bs):lk a b=lk b a:=by unfold lk;rw[Bool.eq_iff_iff];simp only[beq_iff_eq];exact⟨Eq.symm,Eq.symm⟩
theorem zax (a:Bs):lk a a=true:=by unfold lk;simp
theorem quq (fu:Nat) (hfu:90000000<=fu) (a b:Bs) (ha:a.length<=4000000) (hb:b.length<=4000000):qca fu a b=some (lk a b):=
 zl0 fu a b (by omega) (by omega) (by simp[maxLen];omega) (by simp[maxLen];omega)
theorem qud (fu:Nat) (hfu:90000000<=fu) (a b:Bs) (ha:a.length<=4000000) (hb:b.length<=4000000):qdn fu a b=some (lk a b):=
 zc9 fu a b (by omega) (by omega) (by simp[maxLen];omega) (by simp[maxLen];omega)
theorem zyx (fu n:Nat) (hfu:90000000<=fu) (p:Prm) (hp:p.1.length<=4000000):∀ (vbs vbr:List Prm),vbr.length<n->vbs.length+vbr.length<100000000->(∀ x∈vbr,x.1.length<=4000000) ->
  ∃ i:Int,qar fu n (vbs++vbr) ((vbs.length+vbr.length:Nat):Int) (vbs.length:Int) p=some (i,p)/\decide (0<=i)=vbr.any (fun x=>lk x.1 p.1):=by
 induction n with
 | zero=>intro vbs vbr h;exact absurd h (by omega)
 | succ n ih=>
  intro vbs vbr h hb hs;rw[qar,qbn]
  cases vbr with
  | nil=>rw[qac (by simp)];exact⟨_,rfl,rfl⟩
  | cons d vbr=>
   simp only[qL]at h hb;rw[qaa (by simp only[qL];omega),qao,qB,qm7,quq fu hfu _ _ (hs d qH) hp,qB,qB,qai _ (by omega)]
   obtain⟨i,h1,h2⟩:=ih (vbs++[d]) vbr (by omega) (by simp;omega) (fun x hx=>hs x (qE _ hx))
   simp only[qM,qL,qZ,qS,wM,wO]at h1;cases e:lk d.1 p.1
   ·simp only[qF,List.any_cons,e,Bool.false_or];rw[show (vbs.length+(d::vbr).length:Nat)=vbs.length+1+vbr.length by simp only[qL];omega]
    exact⟨i,h1,h2⟩
   ·simp only[qT,List.any_cons,e,Bool.true_or];exact⟨_,rfl,decide_eq_true (by omega)⟩
theorem zwi (fu:Nat) (hfu:90000000<=fu) (l:List Prm) (p:Prm) (hp:p.1.length<=4000000) (hs:SmP l):qaz fu l p=some (l.any (fun x=>lk x.1 p.1),p):=by
 obtain⟨i,h1,h2⟩:=zyx fu fu hfu p hp [] l (by have:=hs.1;omega) (by have:=hs.1;simp;omega) (fun x hx=>(hs.2 x hx).1)
 simp only[List.nil_append,qZ,wO]at h1;unfold qaz qb4;rw[← h2];exact (congrArg (fun q=>Option.bind q fun x1=>some (decide ((0:Int)<=x1.1),x1.2)) h1).trans rfl
def parF:List Prm->List Prm->Int×Int
 | _,[]=>(0,0)
 | vbs,p::l=>if tokS p.1=false\/20<p.1.length then (10,vbs.length) else if vbs.any (fun x=>lk x.1 p.1)=true then (7,vbs.length) else if 500<p.2.length then (1,vbs.length)
  else if validD p.2=false then (5,vbs.length) else parF (vbs++[p]) l
def medF (m:Med):Int×Int:=if tokS m.1=false\/tokS m.2.1=false then (10,-2) else if 60<m.2.2.length then (2,-3) else parF [] m.2.2
theorem SmP.mono {l l':List Prm} (h:SmP l) (h1:l'.length<=l.length) (h2:∀ x∈l',x∈l):SmP l':=⟨Nat.le_trans h1 h.1,fun x hx=>h.2 x (h2 x hx)⟩
theorem qi6 (a b:Int):qae a b=some (a,b):=rfl
theorem qzs (a b:Int):qg6 a b=some (a,b):=rfl
theorem zc1:qa1=some ((0:Int),(0:Int)):=rfl
theorem z8b (fu n:Nat) (hfu:90000000<=fu) (m:Med) (z:Int×Int):∀ (vbs vbr:List Prm),m.2.2=vbs++vbr->vbr.length<n->SmP (vbs++vbr) ->
  qdt fu n (vbs++vbr) ((vbs.length+vbr.length:Nat):Int) (vbs.length:Int) m z=some (parF vbs vbr):=by
 induction n with
 | zero=>intro vbs vbr _ h;exact absurd h (by omega)
 | succ n ih=>
  intro vbs vbr hm h hs;rw[qdt,ql2]
  cases vbr with
  | nil=>rw[qac (by simp)];rfl
  | cons p vbr=>
   have hp:=hs.2 p (by simp)
   have hl:=hs.1;simp only[qL,qM]at h hl;rw[qaa (by simp only[qL];omega),qao,qB,q1s fu _ (by omega) (by omega),qB,parF]
   have hp3:qch fu (qdt fu n) (vbs.length:Int) (vbs++p::vbr) ((vbs.length+(p::vbr).length:Nat):Int) (vbs.length:Int) false m z p =
     some (if vbs.any (fun x=>lk x.1 p.1)=true then (7,(vbs.length:Int)) else if 500<p.2.length then (1,(vbs.length:Int)) else if validD p.2=false then (5,(vbs.length:Int)) else parF (vbs++[p]) vbr):=by
    rw[qch,qax rfl,qaa (by rw[hm,qbg];omega),hm,qus,zwi fu hfu vbs p hp.1 (hs.mono (by simp) (fun x hx=>by simp[hx])),qB]
    simp only[];by_cases h1:vbs.any (fun x=>lk x.1 p.1)=true
    ·rw[qX h1,qau h1,qi6];rfl
    rw[qW h1,qax (by simpa using h1)]
    by_cases h2:500<p.2.length
    ·rw[qX h2,qaa (by omega),qi6];rfl
    rw[qW h2,qac (by omega),zh5 _ (by omega),qB]
    cases h3:validD p.2
    ·rw[qek,qX rfl,qi6];rfl
    ·rw[qb2,qW (by simp),qai _ (by omega)]
     have:=ih (vbs++[p]) vbr (by rw[hm];simp) (by omega) (by simpa using hs)
     simp only[qM,qL,qZ,qS,wM,wO]at this;rw[show (vbs.length+(p::vbr).length:Nat)=vbs.length+1+vbr.length by simp only[qL];omega]
     exact this
   cases h0:tokS p.1
   ·rw[qek,qX (.inl rfl),qch,qau rfl,qi6];rfl
   rw[qb2];by_cases h20:20<p.1.length
   ·rw[decide_eq_true (by omega),qX (.inr h20),qch,qau rfl,qi6];rfl
   ·rw[decide_eq_false (p:=(20:Int)<(List.length p.1:Int)) (by omega),hp3,qW (c:=true=false\/20<p.1.length) (by simp;omega)]
theorem q3k (fu:Nat) (hfu:90000000<=fu) (m:Med) (hs:SmD m):qcf fu m=some (medF m):=by
 obtain⟨h1,h2,h3⟩:=hs;unfold qcf medF;rw[q1s fu m.1 (by omega) (by omega),qB,q1s fu m.2.1 (by omega) (by omega)]
 cases g1:tokS m.1
 ·rw[qek,qdr,qau rfl,qi6,qX (.inl rfl)];rfl
 rw[qb2,qB];cases g2:tokS m.2.1
 ·rw[qdr,qek,qi6,qX (.inr rfl)];rfl
 rw[qdr,qb2,ql4,qW (by simp)]
 by_cases g3:60<m.2.2.length
 ·rw[qaa (by omega),qX g3,qi6];rfl
 ·rw[qac (by omega),qW g3]
  have:=z8b fu fu hfu m (0,0) [] m.2.2 rfl (by have:=h3.1;omega) h3
  simpa using this
theorem zxe (fu n:Nat) (hfu:90000000<=fu) (r2:q07) (m:Med) (z:Int×Int) (p:Prm) (rest:List Prm) (hp:p.1.length<=4000000):∀ (vbs vbr:List Prm),m.2.2=vbs++vbr++p::rest->vbr.length<n->SmP m.2.2 ->
  qgl fu r2 n ((vbs.length+vbr.length:Nat):Int) (vbs.length:Int) m z p =
   if vbr.any (fun x=>lk x.1 p.1)=true then some (7,((vbs.length+vbr.length:Nat):Int)) else bif decide ((500:Int)<(List.length p.2:Int)) then (qg6 (1:Int) ((vbs.length+vbr.length:Nat):Int)).bind fun x4=>some x4 else (qt2 fu p.2).bind fun x5=>bif !x5 then (qg6 (5:Int) ((vbs.length+vbr.length:Nat):Int)).bind fun x6=>some x6 else r2 (w64 (((vbs.length+vbr.length:Nat):Int)+(1:Int))) m z:=by
 induction n with
 | zero=>intro vbs vbr _ h;exact absurd h (by omega)
 | succ n ih=>
  intro vbs vbr hm h hs;rw[qgl,qmr]
  cases vbr with
  | nil=>rw[qac (by simp),qW (by simp)]
  | cons d vbr=>
   have hl:=hs.1;rw[hm]at hl;simp only[qL,qM]at h hl;rw[qaa (by simp only[qL];omega)]
   have hx:idx m.2.2 (vbs.length:Int)=some d:=by rw[hm,qS,wK];exact qao vbs d _
   rw[hx,qB,qud fu hfu _ _ (hs.2 d (by rw[hm];simp)).1 hp,qB,qai _ (by omega)]
   have:=ih (vbs++[d]) vbr (by rw[hm];simp) (by omega) hs
   simp only[qM,qL,qZ,qS,wM,wO]at this;cases e:lk d.1 p.1
   ·simp only[qF,List.any_cons,e,Bool.false_or];rw[show (vbs.length+(d::vbr).length:Nat)=vbs.length+1+vbr.length by simp only[qL];omega]
    exact this
   ·simp only[qT,List.any_cons,e,Bool.true_or,if_true];rfl
theorem vav (fu n:Nat) (hfu:90000000<=fu) (m:Med) (z:Int×Int) (hs:SmP m.2.2):∀ (vbs vbr:List Prm),m.2.2=vbs++vbr->vbr.length<n ->
  qcz fu n (vbs.length:Int) m z=some (parF vbs vbr):=by
 induction n with
 | zero=>intro vbs vbr _ h;exact absurd h (by omega)
 | succ n ih=>
  intro vbs vbr hm h;rw[qcz,qnf,hm]
  cases vbr with
  | nil=>rw[qac (by simp)];rfl
  | cons p vbr=>
   have hp:=hs.2 p (by rw[hm];simp)
   have hl:=hs.1;rw[hm]at hl;simp only[qL,qM]at h hl;rw[qaa (by rw[qbg];omega),qao,qB,qyr fu (by omega) _ (by omega) (by omega),qB,parF]
   have hp3:qc5 fu (qcz fu n) (vbs.length:Int) false m z p =
     some (if vbs.any (fun x=>lk x.1 p.1)=true then (7,(vbs.length:Int)) else if 500<p.2.length then (1,(vbs.length:Int)) else if validD p.2=false then (5,(vbs.length:Int)) else parF (vbs++[p]) vbr):=by
    rw[qc5,qax rfl,qmp];have:=zxe fu fu hfu (qcz fu n) m z p vbr hp.1 [] vbs (by rw[hm];simp) (by omega) hs
    simp only[qZ,wO]at this;refine (this:_=_).trans ?_;by_cases h1:vbs.any (fun x=>lk x.1 p.1)=true
    ·rw[qX h1,qX h1]
    rw[qW h1,qW h1];by_cases h2:500<p.2.length
    ·rw[qX h2,qaa (by omega)];rfl
    rw[qW h2,qac (by omega),zhe fu (by omega) _ (by omega) (by omega),qB]
    cases h3:validD p.2
    ·rw[qek,qX rfl];rfl
    ·rw[qb2,qW (by simp),qai _ (by omega)]
     have:=ih (vbs++[p]) vbr (by rw[hm];simp) (by omega)
     simpa only [qM,qL,qZ,wO] using this
   cases h0:tokS p.1
   ·rw[qek,qX (.inl rfl),qc5,qau rfl,qzs];rfl
   rw[qb2];by_cases h20:20<p.1.length
   ·rw[decide_eq_true (by omega),qX (.inr h20),qc5,qau rfl,qzs];rfl
   ·rw[decide_eq_false (p:=(20:Int)<(List.length p.1:Int)) (by omega),hp3,qW (c:=true=false\/20<p.1.length) (by simp;omega)]
theorem zej (fu:Nat) (hfu:90000000<=fu) (m:Med) (hs:SmD m):qmq fu m=some (medF m):=by
 obtain⟨h1,h2,h3⟩:=hs;unfold qmq medF;rw[qyr fu (by omega) m.1 (by omega) (by omega),qB,qyr fu (by omega) m.2.1 (by omega) (by omega)]
 cases g1:tokS m.1
 ·rw[qek,qea,qau rfl,qzs,qX (.inl rfl)];rfl
 rw[qb2,qB];cases g2:tokS m.2.1
 ·rw[qea,qek,qzs,qX (.inr rfl)];rfl
 rw[qea,qb2,qne,qW (by simp)]
 by_cases g3:60<m.2.2.length
 ·rw[qaa (by omega),qX g3,qzs];rfl
 ·rw[qac (by omega),qW g3]
  exact vav fu fu hfu m (0,0) h3 [] m.2.2 rfl (by have:=h3.1;omega)
def par (l:List Prm) (nm:Bs):Option Bs:=(l.find? fun x=>lk x.1 nm).map (·.2)
def parB (l:List Prm) (nm:Bs):Bs×Bool:=match par l nm with|some v=>(v,true)|none=>([],false)
theorem q3z (p:Prm) (l:List Prm) (nm:Bs):parB (p::l) nm=if lk p.1 nm=true then (p.2,true) else parB l nm:=by
 unfold parB par;rw[List.find?_cons];cases lk p.1 nm<;>rfl
theorem zr4 (fu n:Nat) (hfu:90000000<=fu) (nm:Bs) (hn:nm.length<=4000000) (z:Int×Int):∀ (vbs vbr:List Prm),vbr.length<n->SmP (vbs++vbr) ->
  qi3 fu n nm (vbs++vbr) ((vbs.length+vbr.length:Nat):Int) (vbs.length:Int) z=some ((parB vbr nm).1,((parB vbr nm).2,(0,0))):=by
 induction n with
 | zero=>intro vbs vbr h;exact absurd h (by omega)
 | succ n ih=>
  intro vbs vbr h hs;rw[qi3,qqt]
  cases vbr with
  | nil=>rw[qac (by simp)];rfl
  | cons p vbr=>
   have hl:=hs.1;simp only[qL,qM]at h hl;rw[qaa (by simp only[qL];omega),qao,qB,quq fu hfu _ _ (hs.2 p (by simp)).1 hn,qB,qai _ (by omega),q3z]
   have:=ih (vbs++[p]) vbr (by omega) (by simpa using hs)
   simp only[qM,qL,qZ,qS,wM,wO]at this;cases e:lk p.1 nm
   ·rw[qax rfl,show (vbs.length+(p::vbr).length:Nat)=vbs.length+1+vbr.length by simp only[qL];omega]
    exact this
   ·rfl
theorem q73 (fu:Nat) (hfu:90000000<=fu) (m:Med) (nm:Bs) (hn:nm.length<=4000000) (hs:SmD m):qno fu m nm=some (if (medF m).1≠0 then ([],(false,medF m)) else ((parB m.2.2 nm).1,((parB m.2.2 nm).2,(0,0)))):=by
 unfold qno;rw[q3k fu hfu m hs,qB,qp8,qB,qqb];by_cases h:(medF m).1≠0
 ·rw[qX h,qX h]
 ·rw[qW h,qW h];have:=zr4 fu fu hfu nm hn (0,0) [] m.2.2 (by have:=hs.2.2.1;omega) hs.2.2
  simpa using this
theorem zpp (fu n:Nat) (hfu:90000000<=fu) (nm:Bs) (hn:nm.length<=4000000) (m:Med) (hs:SmP m.2.2):∀ (vbs vbr:List Prm),m.2.2=vbs++vbr->vbr.length<n ->
  qko fu n nm (vbs.length:Int) m=some (parB vbr nm):=by
 induction n with
 | zero=>intro vbs vbr _ h;exact absurd h (by omega)
 | succ n ih=>
  intro vbs vbr hm h;rw[qko,qrx,hm]
  cases vbr with
  | nil=>rw[qac (by simp)];rfl
  | cons p vbr=>
   have hl:=hs.1;rw[hm]at hl;simp only[qL,qM]at h hl;rw[qaa (by rw[qbg];omega),qao,qB,qud fu hfu _ _ (hs.2 p (by rw[hm];simp)).1 hn,qB,qai _ (by omega),q3z]
   have:=ih (vbs++[p]) vbr (by rw[hm];simp) (by omega)
   simp only[qM,qL,qZ,wO]at this;cases e:lk p.1 nm
   ·rw[qax rfl];exact this
   ·rfl
theorem q3b (fu:Nat) (hfu:90000000<=fu) (m:Med) (nm:Bs) (hn:nm.length<=4000000) (hs:SmP m.2.2):qs4 fu m nm=some (parB m.2.2 nm):=
 zpp fu fu hfu nm hn m hs [] m.2.2 rfl (by have:=hs.1;omega)
end Go.Sym
namespace Go.Sym
theorem zmb (fu n:Nat):∀ (s:List UInt8),s.length<n->s.length<1000000000->qb6 fu n s (qzf [32,9])=some (qbm s,qzf [32,9]):=by
 induction n with
 | zero=>intro s h;exact absurd h (by omega)
 | succ n ih=>
  intro s h hb;rw[qb6,qfq]
  cases s with
  | nil=>rw[qac (by simp)];rfl
  | cons c s=>
   simp only[qL]at h hb;rw[qaa (by simp),show idx (c::s) (0:Int)=some c from rfl,qB,qxv ac3,qB,q2q,qh5]
   cases bl c
   ·rfl
   ·rw[qb2,qaa (by simp only[qL];omega)]
    exact ih s (by omega) (by omega)
end Go.Sym
namespace Go.Sym
theorem qrq (s:Bs):qbm (qbm s)=qbm s:=by
 induction s with
 | nil=>rfl
 | cons c s ih=>
  rw[qh5];by_cases h:bl c=true
  ·rw[qX h];exact ih
  ·rw[qW h,qh5,qW h]
theorem qes (s:Bs):qbm s <:+ s:=List.dropWhile_suffix _
theorem zbh (fu:Nat) (s:List UInt8) (hfu:100<=fu) (h:s.length<fu) (hb:s.length<1000000000):qj2 fu s [32,9]=some (qbm s):=by
 unfold qj2
 cases s with
 | nil=>rfl
 | cons c s=>
  rw[qax (by rfl)]
  unfold qgj;rw[qax (by rfl)]
  unfold qj9;rw[qax (by decide)]
  unfold qgm;rw[qax (by rfl)]
  unfold qkk;obtain⟨n,rfl⟩:∃ n,fu=n+100:=⟨fu-100,by omega⟩
  rw[ac3.set,qB];simp only[ac3.len];rw[qau (by rw[List.length_replicate];rfl),qau (by rfl)]
  unfold qer;rw[zmb _ _ _ h hb];rfl
theorem qt4 (fu:Nat) (hfu:90000000<=fu) (s:Bs) (h:s.length<=4000000):qbf fu s=some (qbm s):=by
 unfold qbf;rw[zbh fu s (by omega) (by omega) (by omega)];rfl
def qep (p:UInt8->Bool) (s:Bs):Bs×Bs:=((qbm s).takeWhile p,(qbm s).dropWhile p)
def tkS (c:UInt8):Bool:=tk c||c==42
def tkV (c:UInt8):Bool:=tk c||(c==37||(c==39||c==42))
def q9s (P:UInt8->Option Bool):Nat->Int->Bs->Option (Bs×Bs)
 | 0,_,_=>none
 | n+1,s5,m0=>bif decide (s5<(List.length m0:Int)) then (idx m0 s5).bind fun c1=>(P c1).bind fun x2=>(bif x2 then q9s P n (w64 (s5+(1:Int))) m0 else bif decide (0<=s5/\s5<=(List.length m0:Int)) then bif decide (0<=s5/\s5<=(List.length m0:Int)) then some (List.take s5.toNat m0,List.drop s5.toNat m0) else none else none)
  else (bif false then q9s P n (w64 (s5+(1:Int))) m0 else bif decide (0<=s5/\s5<=(List.length m0:Int)) then bif decide (0<=s5/\s5<=(List.length m0:Int)) then some (List.take s5.toNat m0,List.drop s5.toNat m0) else none else none)
theorem zkq (P:UInt8->Option Bool) (p:UInt8->Bool) (hP:∀ c,P c=some (p c)) (n:Nat):∀ (vbs vbr:Bs),vbr.length<n->vbs.length+vbr.length<9223372036854775807 ->
  q9s P n (vbs.length:Int) (vbs++vbr)=some (vbs++vbr.takeWhile p,vbr.dropWhile p):=by
 induction n with
 | zero=>intro vbs vbr h;exact absurd h (by omega)
 | succ n ih=>
  intro vbs vbr h hb;rw[q9s]
  cases vbr with
  | nil=>rw[qac (by simp),qax rfl,qaa (by simp),qaa (by simp),qus,quv];simp
  | cons d vbr=>
   simp only[qL]at h hb;rw[qaa (by rw[qbg];omega),qao,qB,hP,qB,qai _ (by omega),qus,quv,List.takeWhile_cons,List.dropWhile_cons]
   have:=ih (vbs++[d]) vbr (by omega) (by simp;omega)
   simp only[qM,qL,qZ,qS,wM,wO]at this;cases p d
   ·rw[qax rfl,qaa (by rw[qbg];omega),qaa (by rw[qbg];omega)];simp
   ·rw[qau rfl];simpa using this
theorem q6g (P:UInt8->Option Bool) (p:UInt8->Bool) (hP:∀ c,P c=some (p c)) (fu:Nat) (hfu:90000000<=fu) (s:Bs) (h:s.length<=4000000):q9s P fu 0 (qbm s)=some (qep p s):=by
 have hl:=qf2 s;have:=zkq P p hP fu [] (qbm s) (by omega) (by simp;omega)
 simpa [qep] using this
theorem zbq (fu:Nat) (hfu:90000000<=fu) (s:Bs) (h:s.length<=4000000):qfi fu s=some (qep tk s):=by
 have e:∀ n,qdk fu n=q9s qa9 n:=by
  intro n;induction n with
  | zero=>rfl
  | succ n ih=>rw[qdk,ih];funext a b;rfl
 unfold qfi;rw[qt4 fu hfu s h,qB,e];exact q6g _ tk zfi fu hfu s h
theorem zwd (c:UInt8):qd1 c=some (tkS c):=by
 unfold qd1 tkS;rw[zfi,qB];cases tk c<;>rfl
theorem z0r (c:UInt8):qdj c=some (tkV c):=by
 unfold qdj tkV;rw[zfi,qB];cases tk c
 ·cases c==37
  ·cases c==39<;>rfl
  ·rfl
 ·rfl
theorem zky (fu:Nat) (hfu:90000000<=fu) (s:Bs) (h:s.length<=4000000):qfm fu s=some (qep tkS s):=by
 have e:∀ n,qce fu n=q9s qd1 n:=by
  intro n;induction n with
  | zero=>rfl
  | succ n ih=>rw[qce,ih];funext a b;rfl
 unfold qfm;rw[qt4 fu hfu s h,qB,e];exact q6g _ tkS zwd fu hfu s h
theorem zmj (fu:Nat) (hfu:90000000<=fu) (s:Bs) (h:s.length<=4000000):qfl fu s=some (qep tkV s):=by
 have e:∀ n,qcd fu n=q9s qdj n:=by
  intro n;induction n with
  | zero=>rfl
  | succ n ih=>rw[qcd,ih];funext a b;rfl
 unfold qfl;rw[qt4 fu hfu s h,qB,e];exact q6g _ tkV z0r fu hfu s h
def qjr (c:UInt8) (s:Bs):Bool×Bs:=match qbm s with
 | []=>(false,[])
 | d::t=>if d=c then (true,t) else (false,d::t)
theorem q1n (fu:Nat) (hfu:90000000<=fu) (c:UInt8) (s:Bs) (h:s.length<=4000000):qcg fu c s=some (qjr c s):=by
 unfold qcg qjr;rw[qt4 fu hfu s h,qB]
 cases qbm s with
 | nil=>rfl
 | cons d t=>
  rw[qax (by rfl),show idx (d::t) (0:Int)=some d from rfl,qB,q0j]
  by_cases hd:d=c
  ·rw[qW (by simp[hd]),qaa (by simp only[qL];omega)];simp[hd]
  ·rw[qX hd];simp[hd]
def qv:Bs->Bs->Option (Bs×Bs)
 | _,[]=>none
 | out,c::t=>if c=34 then some (out,t) else if c=92 then (match t with
  | []=>none
  | d::t'=>qv (out++[d]) t') else qv (out++[c]) t
theorem q0e (out:Bs) (c:UInt8) (t:Bs):qv out (c::t)=if c=34 then some (out,t) else if c=92 then (match t with
  | []=>none
  | d::t'=>qv (out++[d]) t') else qv (out++[c]) t:=by cases t<;>rfl
theorem qf1:4000000000<=qaq:=by decide
theorem z7j (fu n:Nat):∀ (vbs vbr out:Bs),vbr.length<n->vbs.length+vbr.length<100000000->out.length+vbr.length<100000000 ->
  qc7 fu n (vbs.length:Int) (vbs++vbr) out=some (match qv out vbr with|some (v,t)=>(v,(true,t))|none=>([],(false,vbs++vbr))):=by
 have hrm:=qf1
 induction n using Nat.strongRecOn with
 | ind n ih=>
  intro vbs vbr out h hb ho;obtain⟨n,rfl⟩:∃ m,n=m+1:=⟨n-1,by omega⟩
  rw[qc7,qiq]
  cases vbr with
  | nil=>rw[qac (by simp)];rfl
  | cons c t=>
   simp only[qL]at h hb ho;rw[qaa (by rw[qbg];omega),qao,qB,qai _ (by omega),qnl]
   have ih1:=ih n (by omega) (vbs++[c]) t (out++[c]) (by omega) (by simp;omega) (by simp;omega)
   simp only[qM,qL,qZ,qS,wM,wO]at ih1;by_cases h1:c=34
   ·rw[qX h1,qaa (by rw[qbg];omega),qzc,q0e,qX h1]
   rw[qW h1,qnl];by_cases h2:c=92
   ·rw[qX h2,qsw,qbg]
    cases t with
    | nil=>rw[qX (by simp),q0e,qW h1,qX h2]
    | cons d t=>
     simp only[qL]at h hb ho ⊢;rw[qW (by omega),show idx (vbs++c::d::t) ((vbs.length+1:Nat):Int)=some d by have:=qao (vbs++[c]) d t;simpa using this,qB,qaa (by simp;omega),qai _ (by omega),q0e,qW h1,qX h2]
     have ih2:=ih n (by omega) (vbs++[c,d]) t (out++[d]) (by omega) (by simp;omega) (by simp;omega)
     simp only[qM,qL,qZ,qS,wK,List.nil_append,wO]at ih2;exact ih2
   ·rw[qW h2,qaa (by simp;omega),q0e,qW h1,qW h2]
    exact ih1
def valS (s:Bs):Option (Bs×Bs):=if (qjr 34 s).1=true then qv [] (qjr 34 s).2 else some (qep tkV (qjr 34 s).2)
theorem qt8 (c:UInt8) (s:Bs):(qjr c s).2.length<=s.length:=by
 have:=qf2 s;unfold qjr
 cases h:qbm s with
 | nil=>simp
 | cons d t=>
  rw[h]at this;simp only[qL]at this;by_cases hd:d=c
  ·simp only[qX hd];omega
  ·simp only[qW hd,qL];omega
theorem zml (fu:Nat) (hfu:90000000<=fu) (s:Bs) (h:s.length<=4000000):∃ r,qg0 fu s=some (match valS s with|some (v,t)=>(v,(true,t))|none=>([],(false,r))):=by
 have hl:=qt8 34 s;unfold qg0 valS;rw[q1n fu hfu 34 s h,qB];cases hs:(qjr 34 s).1
 ·rw[qek,zmj fu hfu _ (by omega),qW (by simp)]
  exact⟨[],rfl⟩
 ·rw[qb2,qX rfl];have:=z7j fu fu [] (qjr 34 s).2 [] (by omega) (by simp;omega) (by simp;omega)
  exact⟨(qjr 34 s).2,by simpa using this⟩
def lexP (s:Bs):Option ((Bs×Bs)×Bs):=if (qjr 61 (qep tkS s).2).1=true then (valS (qjr 61 (qep tkS s).2).2).map fun x=>(((qep tkS s).1,x.1),x.2) else none
theorem qrz (p:UInt8->Bool) (s:Bs):(qep p s).1.length+(qep p s).2.length<=s.length:=by
 have:=qf2 s;have h:=congrArg List.length (List.takeWhile_append_dropWhile (p:=p) (l:=qbm s));rw[qM]at h;unfold qep;simp only;omega
theorem zoa:∀ (out s v t:Bs),qv out s=some (v,t)->v.length+t.length<out.length+s.length/\t <:+ s:=by
 intro out s
 induction s using WellFounded.induction (r:=fun (a b:Bs)=>a.length<b.length) (hwf:=InvImage.wf List.length Nat.lt_wfRel.wf) generalizing out with
 | _ s ih=>
  intro v t h
  cases s with
  | nil=>cases h
  | cons c s=>
   rw[q0e]at h;by_cases h1:c=34
   ·rw[qX h1]at h;cases h;exact⟨by simp,List.suffix_cons _ _⟩
   rw[qW h1]at h;by_cases h2:c=92
   ·rw[qX h2]at h
    cases s with
    | nil=>cases h
    | cons d s=>
     obtain⟨g1,g2⟩:=ih s (by simp;omega) (out++[d]) v t h
     refine⟨by simp at g1 ⊢;omega,g2.trans ((List.suffix_cons _ _).trans (List.suffix_cons _ _))⟩
   ·rw[qW h2]at h;obtain⟨g1,g2⟩:=ih s (by simp) (out++[c]) v t h
    exact⟨by simp at g1 ⊢;omega,g2.trans (List.suffix_cons _ _)⟩
theorem q0p (c:UInt8) (s:Bs):(qjr c s).2 <:+ s:=by
 have:=qes s;unfold qjr
 cases h:qbm s with
 | nil=>simp
 | cons d t=>
  rw[h]at this;by_cases hd:d=c
  ·simp only[qX hd];exact (List.suffix_cons _ _).trans this
  ·simp only[qW hd];exact this
theorem q1c (p:UInt8->Bool) (s:Bs):(qep p s).2 <:+ s:=(List.dropWhile_suffix _).trans (qes s)
theorem zmo {s v t:Bs} (h:valS s=some (v,t)):v.length+t.length<=s.length/\t <:+ s:=by
 have hl:=qt8 34 s;have hx:=q0p 34 s;unfold valS at h;by_cases hs:(qjr 34 s).1=true
 ·rw[qX hs]at h;obtain⟨g1,g2⟩:=zoa [] _ _ _ h;exact⟨by simp at g1;omega,g2.trans hx⟩
 ·rw[qW hs]at h;have e:=qJ h;have g1:=qrz tkV (qjr 34 s).2;have g2:=q1c tkV (qjr 34 s).2;rw[e]at g1 g2;simp only at g1 g2;exact⟨by omega,g2.trans hx⟩
theorem q7g {s n v t:Bs} (h:lexP s=some ((n,v),t)):n.length+v.length+t.length<=s.length/\t <:+ s:=by
 have h1:=qrz tkS s;have h1':=q1c tkS s;have h2:=qt8 61 (qep tkS s).2;have h2':=q0p 61 (qep tkS s).2;unfold lexP at h;by_cases hs:(qjr 61 (qep tkS s).2).1=true
 ·rw[qX hs]at h
  cases hv:valS (qjr 61 (qep tkS s).2).2 with
  | none=>rw[hv]at h;cases h
  | some x=>
   rw[hv]at h;obtain⟨g1,g2⟩:=zmo (v:=x.1) (t:=x.2) hv;have e:=qJ h;obtain⟨rfl,e2⟩:=Prod.mk.inj (Prod.mk.inj e).1;obtain rfl:=(Prod.mk.inj e).2;subst e2;exact⟨by omega,g2.trans (h2'.trans h1')⟩
 ·rw[qW hs]at h;cases h
def pos (s r:Bs):Int:=((s.length-r.length:Nat):Int)
theorem qy9 {s r:Bs} (h:r <:+ s):List.drop (pos s r).toNat s=r:=(List.suffix_iff_eq_drop.1 h).symm
theorem q9b {s r:Bs} (h:r <:+ s):∃ p,s=p++r/\pos s r=(p.length:Int):=by
 obtain⟨p,rfl⟩:=h;exact⟨p,rfl,by unfold pos;simp⟩
theorem qwb {s:Bs} {c:UInt8} {t:Bs} (h:(c::t) <:+ s):idx s (pos s (c::t))=some c:=by
 obtain⟨p,rfl,e⟩:=q9b h;rw[e];exact qao p c t
theorem qnd {s:Bs} {c:UInt8} {t:Bs} (h:(c::t) <:+ s) (hb:s.length<1000000000):w64 (pos s (c::t)+1)=pos s t:=by
 have:=h.length_le;simp only[qL]at this;unfold pos;rw[qai _ (by omega)];simp only[qL];omega
theorem qt7 {s:Bs} {c:UInt8} {t:Bs} (h:(c::t) <:+ s):pos s (c::t)<(s.length:Int):=by
 have:=h.length_le;simp only[qL]at this;unfold pos;simp only[qL];omega
theorem qjh (s:Bs):pos s []=(s.length:Int):=by unfold pos;simp
theorem zbg (s:Bs):pos s s=0:=by unfold pos;simp
theorem qyj (s r:Bs):0<=pos s r/\pos s r<=(s.length:Int):=by unfold pos;omega
theorem zic {s r r':Bs} (h2:r' <:+ r):pos s r<=pos s r':=by have:=h2.length_le;unfold pos;omega
theorem q60 {s r r':Bs} (h:r <:+ s) (h2:r' <:+ r):List.take ((pos s r').toNat-(pos s r).toNat) (List.drop (pos s r).toNat s)=r.take (r.length-r'.length):=by
 rw[qy9 h];have:=h.length_le;have:=h2.length_le;congr 1;unfold pos;omega
theorem zez (p:UInt8->Bool) (r:Bs):r.take (r.length-(r.dropWhile p).length)=r.takeWhile p:=by
 have h:r.takeWhile p++r.dropWhile p=r:=List.takeWhile_append_dropWhile;have h2:=congrArg List.length h;rw[qM]at h2;rw[show r.length-(r.dropWhile p).length=(r.takeWhile p).length by omega]
 have e:r.take (r.takeWhile p).length=(r.takeWhile p++r.dropWhile p).take (r.takeWhile p).length:=by rw[h]
 rw[e,List.take_left]
theorem zqb (fu n:Nat) (s:Bs) (hb:s.length<100000000):∀ (r:Bs),r <:+ s->r.length<n->qp6 fu n s (pos s r)=some (pos s (qbm r)):=by
 induction n with
 | zero=>intro r _ h;exact absurd h (by omega)
 | succ n ih=>
  intro r hr h;rw[qp6,qwl]
  cases r with
  | nil=>rw[qjh,qac (by omega)];simp[qbm,qjh]
  | cons c t=>
   rw[qaa (qt7 hr),qwb hr,qB,qtq,qB,qnd hr (by omega),qh5]
   cases hc:bl c
   ·rfl
   ·rw[qau rfl,qX rfl];exact ih t ((List.suffix_cons _ _).trans hr) (by simp only[qL]at h;omega)
theorem qvq (fu:Nat) (hfu:90000000<=fu) {s r:Bs} (h:s.length<=4000000) (hr:r <:+ s):qlp fu s (pos s r)=some (pos s (qbm r)):=
 zqb fu fu s (by omega) r hr (by have:=hr.length_le;omega)
theorem zv2 (fu n:Nat) (hfu:90000000<=fu) (more:Bs) (hm:more.length<100) (s:Bs) (hb:s.length<100000000):∀ (r:Bs),r <:+ s->r.length<n->qr9 fu n s (pos s r) more=some (pos s (r.dropWhile fun c=>tk c||more.contains c)):=by
 induction n with
 | zero=>intro r _ h;exact absurd h (by omega)
 | succ n ih=>
  intro r hr h;rw[qr9,qxw]
  cases r with
  | nil=>rw[qjh,qac (by omega)];simp[qjh]
  | cons c t=>
   rw[qaa (qt7 hr),qwb hr,qB,zha fu (by omega),qB,qnd hr (by omega),List.dropWhile_cons]
   have:=ih t ((List.suffix_cons _ _).trans hr) (by simp only[qL]at h;omega)
   cases hc:tk c
   ·rw[qax rfl,qB,zdi fu c more (by omega) (by omega),qB,Bool.false_or]
    cases hd:more.contains c
    ·rfl
    ·rw[qau rfl];exact this
   ·rw[qau rfl];exact this
theorem q8v (fu:Nat) (hfu:90000000<=fu) (more:Bs) (hm:more.length<100) {s r:Bs} (h:s.length<=4000000) (hr:r <:+ s) (p:UInt8->Bool) (hp:∀ c,(tk c||more.contains c)=p c) :
  qxe fu s (pos s r) more=some (pos s (r.dropWhile p)):=by
 have:=zv2 fu fu hfu more hm s (by omega) r hr (by have:=hr.length_le;omega)
 rw[show (fun c=>tk c||more.contains c)=p from funext hp]at this
 exact this
end Go.Sym
namespace Go.Sym
open Go.Lib (decDigits nDigits itoa atoiAll parseUint10 parseMag NumEnd)
theorem qv0 (d:Nat) (h:d<10):(UInt8.ofNat (48+d)).toNat=48+d:=by
 rw[UInt8.toNat_ofNat'];omega
theorem qrs (u:Nat) (h:u<10):decDigits u=[UInt8.ofNat (48+u)]:=by rw[decDigits,dif_pos h]
theorem qxc (u:Nat) (h:¬ u<10):decDigits u=decDigits (u/10)++[UInt8.ofNat (48+u%10)]:=by rw[decDigits,dif_neg h]
theorem zfr (u:Nat):decDigits u≠[]:=by
 by_cases h:u<10
 ·rw[qrs u h];simp
 ·rw[qxc u h];simp
theorem q4j (u:Nat):∀ c∈decDigits u,48<=c.toNat/\c.toNat<=57:=by
 induction u using Nat.strongRecOn with
 | ind u ih=>
  intro c hc;by_cases h:u<10
  ·rw[qrs u h]at hc;rw[List.mem_singleton.1 hc,qv0 u h];omega
  ·rw[qxc u h]at hc;rcases List.mem_append.1 hc with hc|hc
   ·exact ih (u/10) (by omega) c hc
   ·rw[List.mem_singleton.1 hc,qv0 _ (by omega)];omega
theorem qyy (k:Nat):∀ u,u<10 ^ k->1<=k->(decDigits u).length<=k:=by
 induction k with
 | zero=>intro u _ h;omega
 | succ k ih=>
  intro u hu _;by_cases h:u<10
  ·rw[qrs u h];simp
  ·rw[qxc u h,qM,wD];have hk:1<=k:=by
    rcases Nat.eq_zero_or_pos k with h0|h0
    ·subst h0;simp at hu;omega
    ·exact h0
   have:=ih (u/10) (by rw[Nat.pow_succ]at hu;omega) hk
   omega
def dval (a:Nat) (l:Bs):Nat:=l.foldl (fun a c=>10*a+(c.toNat-48)) a
theorem zhi (u:Nat):dval 0 (decDigits u)=u:=by
 induction u using Nat.strongRecOn with
 | ind u ih=>
  by_cases h:u<10
  ·rw[qrs u h];show 10*0+((UInt8.ofNat (48+u)).toNat-48)=u;rw[qv0 u h];omega
  ·rw[qxc u h];unfold dval;rw[List.foldl_append];have:=ih (u/10) (by omega)
   unfold dval at this;rw[this];show 10*(u/10)+((UInt8.ofNat (48+u%10)).toNat-48)=u;rw[qv0 _ (by omega)];omega
theorem zgz:∀ (l:Bs) (a:Nat) (c:UInt8),parseUint10 a (l++[c])=match parseUint10 a l with | .ok b=>parseUint10 b [c]|e=>e:=by
 intro l
 induction l with
 | nil=>intro a c;rfl
 | cons d l ih=>
  intro a c;rw[wK,parseUint10,parseUint10];by_cases h1:48<=d.toNat/\d.toNat<=57
  ·rw[qX h1,qX h1];by_cases h2:1844674407370955162<=a
   ·rw[qX h2,qX h2]
   ·rw[qW h2,qW h2];by_cases h3:18446744073709551616<=a*10+(d.toNat-48)
    ·rw[qX h3,qX h3]
    ·rw[qW h3,qW h3,ih]
  ·rw[qW h1,qW h1]
theorem zd8 (u:Nat):u<9223372036854775808->parseUint10 0 (decDigits u) = .ok u:=by
 induction u using Nat.strongRecOn with
 | ind u ih=>
  intro hu;have step:∀ a d,a*10+d=u->d<10->parseUint10 a [UInt8.ofNat (48+d)] = .ok u:=by
   intro a d h1 h2;rw[parseUint10,qv0 d h2,qX (by omega),qW (by omega),qW (by omega),parseUint10]
   congr 1;omega
  by_cases h:u<10
  ·rw[qrs u h];exact step 0 u (by omega) h
  ·rw[qxc u h,zgz,ih (u/10) (by omega) (by omega)]
   exact step (u/10) (u%10) (by omega) (by omega)
theorem ziy (u:Nat) (hu:u<9223372036854775808):atoiAll (decDigits u) = .ok (u:Int):=by
 have hd:=q4j u;have hp:=zd8 u hu;have hne:=zfr u
 cases hl:decDigits u with
 | nil=>exact absurd hl hne
 | cons c r=>
  rw[hl]at hd hp;have hc:=hd c qH;unfold atoiAll;simp only[];rw[qW (c:=c.toNat=43\/c.toNat=45) (by omega),parseMag,qW (by simp),hp]
  simp only[];rw[qW (by omega),qW (by omega),qW (by omega)]
theorem q6h (u:Nat):itoa (u:Int)=decDigits u:=by unfold itoa;rw[qW (by omega)];simp
theorem ze9 (u:Nat) (most:Int) (h:(u:Int)<=most) (hm:most<9223372036854775808):numS (decDigits u) most=((u:Int),true):=by
 unfold numS;rw[ziy u (by omega)]
 simp only[];rw[qX ⟨q6h u,by omega,h⟩]
theorem q6o {s:Bs} {most:Int} (h:(numS s most).2=true):∃ u:Nat,s=decDigits u/\(u:Int)<=most/\numS s most=((u:Int),true):=by
 have h0:=h;unfold numS at h;split at h
 ·rename_i v hv;by_cases hc:itoa v=s/\0<=v/\v<=most
  ·obtain⟨u,rfl⟩:∃ u:Nat,v=u:=⟨v.toNat,by omega⟩
   refine⟨u,by rw[← hc.1,q6h],hc.2.2,?_⟩
   unfold numS;rw[hv];simp only[];rw[qX hc]
  ·rw[qW hc]at h;cases h
 ·cases h
theorem zdb {x:Int} (h1:0<=x) (h2:x<18446744073709551616):IntKind.u64.wrap x=x:=by
 unfold IntKind.wrap;simp[IntKind.signed,IntKind.bits];omega
theorem q9t (d:Nat) (h:d<10):List.take (d+1-d) (List.drop d ([48,49,50,51,52,53,54,55,56,57]:Bs))=[UInt8.ofNat (48+d)]:=by
 have:∀ d:_root_.Fin 10,List.take (d.val+1-d.val) (List.drop d.val ([48,49,50,51,52,53,54,55,56,57]:Bs))=[UInt8.ofNat (48+d.val)]:=by decide
 exact this ⟨d,h⟩
theorem zeu (fu:Nat) (k:Nat):∀ (n u:Nat),k<=n->u<10 ^ k->1<=k->u<9223372036854775808->qlm fu n (u:Int)=some (decDigits u):=by
 induction k with
 | zero=>intro n u _ _ h;omega
 | succ k ih=>
  intro n u hn hu _ hb;obtain⟨n,rfl⟩:∃ m,n=m+1:=⟨n-1,by omega⟩
  rw[qlm,qo4];by_cases h:u<10
  ·rw[qaa (by omega),show (u:Int)+1=((u+1:Nat):Int) by omega,zdb (by omega) (by omega),qaa (by simp;omega),qrs u h]
   simp only[qY];rw[q9t u h]
  ·have hk:1<=k:=by
    rcases Nat.eq_zero_or_pos k with h0|h0
    ·subst h0;simp at hu;omega
    ·exact h0
   have e1:Int.tdiv (u:Int) 10=((u/10:Nat):Int):=by rw[Int.tdiv_eq_ediv_of_nonneg (by omega)];omega
   have e2:Int.tmod (u:Int) 10=((u%10:Nat):Int):=by rw[Int.tmod_eq_emod_of_nonneg (by omega)];omega
   have hr:=ih n (u/10) (by omega) (by rw[Nat.pow_succ]at hu;omega) hk (by omega)
   have vbt:(decDigits (u/10)).length<=19:=qyy 19 _ (by omega) (by omega)
   rw[qac (by omega),e1,zdb (by omega) (by omega),hr,qB,e2,show ((u%10:Nat):Int)+1=((u%10+1:Nat):Int) by omega,zdb (by omega) (by omega),qaa (by simp;omega)]
   simp only[qY];simp only[q9t (u%10) (Nat.mod_lt _ (by decide))]
   rw[qaa (by simp[qad];omega),qxc u h]
theorem q3y (fu:Nat) (hfu:100<=fu) (u:Nat) (hu:u<9223372036854775808):qka fu (u:Int)=some (decDigits u):=by
 unfold qka qvx;rw[qac (by omega),zdb (by omega) (by omega),zeu fu 19 fu u (by omega) (by omega) (by omega) hu];rfl
theorem zje (fu n:Nat):∀ (vbs vbr:Bs) (a:Nat),vbr.length<n->vbs.length+vbr.length<100000000->vbs.length<=9->a<10 ^ vbs.length ->
  qi1 fu n (vbs++vbr) 1 9 (a:Int) (vbs.length:Int)=some (if (∀ c∈vbr,48<=c.toNat/\c.toNat<=57)/\1<=vbs.length+vbr.length/\vbs.length+vbr.length<=9 then (dval a vbr:Int) else -1):=by
 induction n with
 | zero=>intro vbs vbr a h;exact absurd h (by omega)
 | succ n ih=>
  intro vbs vbr a h hb hp ha;have hpow:10 ^ vbs.length<=10 ^ 9:=Nat.pow_le_pow_right (by omega) hp
  rw[qi1,qq1]
  cases vbr with
  | nil=>
   rw[qac (by simp),qjw,qB]
   simp only[List.append_nil,qZ,Nat.add_zero,List.not_mem_nil,false_implies,implies_true,true_and];by_cases h1:1<=vbs.length/\vbs.length<=9
   ·rw[decide_eq_true (by omega),qb2,qX h1];rfl
   ·rw[decide_eq_false (by omega),qek,qW h1]
  | cons c t=>
   simp only[qL]at h hb;rw[qaa (by rw[qbg];omega),qao,qB,qjw,qB]
   by_cases hc:48<=c.toNat/\c.toNat<=57
   ·rw[decide_eq_true (by omega),qb2,qi8]
    by_cases h9:9<=vbs.length
    ·rw[qaa (by omega),qW (by simp only[qL];omega)]
    ·rw[qac (by omega),qqq,qao,qB,qai _ (by omega)]
     have hsub:(c-48).toNat=c.toNat-48:=by
      rw[UInt8.toNat_sub_of_le _ _ (by rw[UInt8.le_iff_toNat_le];show 48<=_;omega)];rfl
     rw[hsub,show (10:Int)*(a:Int)=((10*a:Nat):Int) by omega,qgy (x:=((10*a:Nat):Int)) (by omega) (by omega),w64n _ _ (by omega)]
     have:=ih (vbs++[c]) t (10*a+(c.toNat-48)) (by omega) (by simp;omega) (by simp;omega) (by simp only[qM,qL,qZ,wO,Nat.pow_succ];omega)
     simp only[qM,qL,qZ,qS,wM,wO]at this;refine this.trans ?_;congr 1;by_cases hq:(∀ x∈t,48<=x.toNat/\x.toNat<=57)/\1<=vbs.length+1+t.length/\vbs.length+1+t.length<=9
     ·rw[qX hq,qX ⟨fun x hx=>(List.mem_cons.1 hx).elim (fun e=>e▸hc) (hq.1 x),by simp only[qL];omega,by simp only[qL];omega⟩];rfl
     ·rw[qW hq,qW (fun g=>hq ⟨fun x hx=>g.1 x (qE _ hx),by have:=g.2;simp only[qL]at this;omega,by have:=g.2;simp only[qL]at this;omega⟩)]
   ·rw[decide_eq_false (by omega),qek,qi8,qau rfl,qW (fun g=>hc (g.1 c qH))]
theorem zbd (fu:Nat) (s:Bs) (h:s.length<fu) (hb:s.length<100000000):qnb fu s 1 9=some (if (∀ c∈s,48<=c.toNat/\c.toNat<=57)/\1<=s.length/\s.length<=9 then (dval 0 s:Int) else -1):=by
 have:=zje fu fu [] s 0 h (by simpa using hb) (by simp) (by simp)
 simpa [qnb] using this
theorem zsx:∀ (s:Bs) (a k:Nat),(∀ c∈s,48<=c.toNat/\c.toNat<=57)->a<10 ^ k->dval a s<10 ^ (k+s.length):=by
 intro s
 induction s with
 | nil=>intro a k _ h;exact h
 | cons c s ih=>
  intro a k hd h;have hc:=hd c qH;have:=ih (10*a+(c.toNat-48)) (k+1) (fun x hx=>hd x (qE _ hx)) (by rw[Nat.pow_succ];omega)
  rw[qL,show k+(s.length+1)=k+1+s.length by omega];exact this
def numD (s:Bs):Option Int:=if (numS s 1099511627776).2=true/\(numS s 1099511627776).1<1000000000 then some (numS s 1099511627776).1 else none
theorem ztp (fu:Nat) (hfu:1000<=fu) (s:Bs) (h:s.length<fu) (hb:s.length<100000000):∃ x:Int,qnb fu s 1 9=some x /\
  ((numD s=some x/\0<=x/\qka fu x=some s)\/(numD s=none/\(x<0\/(0<=x/\∃ t,qka fu x=some t/\t≠s)))):=by
 refine⟨_,zbd fu s h hb,?_⟩;by_cases hq:(∀ c∈s,48<=c.toNat/\c.toNat<=57)/\1<=s.length/\s.length<=9
 ·rw[qX hq];have hlt:dval 0 s<1000000000:=by
   have h1:=zsx s 0 0 hq.1 (by simp)
   have h2:10 ^ (0+s.length)<=10 ^ 9:=Nat.pow_le_pow_right (by omega) (by omega)
   omega
  have hN:=q3y fu (by omega) (dval 0 s) (by omega)
  by_cases he:decDigits (dval 0 s)=s
  ·refine .inl ⟨?_,by omega,by rw[hN,he]⟩
   have:=ze9 (dval 0 s) 1099511627776 (by omega) (by decide)
   rw[he]at this;unfold numD;rw[this,qX ⟨rfl,by simp only;omega⟩]
  ·refine .inr ⟨?_,.inr ⟨by omega,_,hN,he⟩⟩
   unfold numD;rw[qW];rintro⟨g1,_⟩
   obtain⟨u,rfl,_,_⟩:=q6o g1;exact he (by rw[zhi])
 ·rw[qW hq];refine .inr ⟨?_,.inl (by omega)⟩
  unfold numD;rw[qW];rintro⟨g1,g2⟩
  obtain⟨u,rfl,_,g3⟩:=q6o g1;rw[g3]at g2;simp only at g2;refine hq ⟨q4j u,?_,qyy 9 u (by omega) (by omega)⟩
  have:=zfr u
  cases hd:decDigits u with
  | nil=>exact absurd hd this
  | cons=>simp
end Go.Sym
namespace Go.Sym
def hv (c:UInt8):Option UInt8:=if 48<=c/\c<=57 then some (c-48) else if 65<=c/\c<=70 then some (c-65+10) else if 97<=c/\c<=102 then some (c-97+10) else none
def hx (a b:UInt8):Option UInt8:=(hv a).bind fun x=>(hv b).map fun y=>16*x+y
set_option maxRecDepth 100000 in
theorem zkn:∀ n:_root_.Fin 256,qoq (UInt8.ofNat n.val)=some ((hv (UInt8.ofNat n.val)).getD 0,(hv (UInt8.ofNat n.val)).isSome):=by decide +kernel
theorem zpa (c:UInt8):qoq c=some ((hv c).getD 0,(hv c).isSome):=qpi (fun c=>qoq c=some ((hv c).getD 0,(hv c).isSome)) zkn c
def hvI (c:UInt8):Int:=match hv c with|some x=>(x.toNat:Int)|none => -1
def hdig:List UInt8:=[48,49,50,51,52,53,54,55,56,57,65,66,67,68,69,70]
def hexS (c:UInt8):Nat->Nat->Int
 | 0,_ => -1
 | m+1,k=>if hdig.getD k 0=c then (k:Int) else if (hdig.map lo).getD k 0=c then (k:Int) else hexS c m (k+1)
set_option maxRecDepth 100000 in
theorem zmn:∀ n:_root_.Fin 256,hexS (UInt8.ofNat n.val) 16 0=hvI (UInt8.ofNat n.val):=by decide +kernel
theorem ztt (fu:Nat) (hfu:16<fu) (c:UInt8):∀ (m k n:Nat),m+k=16->m<n->qog fu n c (k:Int)=some (hexS c m k):=by
 intro m
 induction m with
 | zero=>
  intro k n hk hn;obtain⟨n,rfl⟩:∃ j,n=j+1:=⟨n-1,by omega⟩
  rw[qog,qui,qac (by omega)];rfl
 | succ m ih=>
  intro k n hk hn;obtain⟨n,rfl⟩:∃ j,n=j+1:=⟨n-1,by omega⟩
  have h1:k<hdig.length:=by show k<16;omega
  have h2:k<(hdig.map lo).length:=by show k<16;omega
  have i1:idx hdig (k:Int)=some (hdig.getD k 0):=by rw[qwt _ _ h1];exact congrArg some (List.getElem_eq_getD 0)
  have i2:idx (hdig.map lo) (k:Int)=some ((hdig.map lo).getD k 0):=by rw[qwt _ _ h2];exact congrArg some (List.getElem_eq_getD 0)
  rw[qog,qui,qaa (by omega)]
  rw[show ([48,49,50,51,52,53,54,55,56,57,65,66,67,68,69,70]:List UInt8)=hdig from rfl]
  rw[i1,qB,qnl,hexS];by_cases q:hdig.getD k 0=c
  ·rw[qX q,qX q]
  ·rw[qW q,qW q,qxb fu hdig (by show 16<fu;omega) (by decide),qB,i2,qB,qnl]
   by_cases q2:(hdig.map lo).getD k 0=c
   ·rw[qX q2,qX q2]
   ·rw[qW q2,qW q2,qai _ (by omega),ih (k+1) n (by omega) (by omega)]
theorem q6p (fu:Nat) (hfu:17<fu) (c:UInt8):quu fu c=some (hvI c):=by
 have:=ztt fu (by omega) c 16 0 fu rfl (by omega)
 unfold quu;rw[show (0:Int)=((0:Nat):Int) from rfl,this,qpi (fun c=>hexS c 16 0=hvI c) zmn c]
set_option maxRecDepth 100000 in
theorem zlg:∀ n:_root_.Fin 256,(hv (UInt8.ofNat n.val)).all (fun x=>decide (x.toNat<16))=true:=by decide +kernel
theorem hv16 (c x:UInt8) (h:hv c=some x):x.toNat<16:=by
 have:=qpi (fun c=>(hv c).all (fun x=>decide (x.toNat<16))=true) zlg c
 rw[h]at this;simpa using this
set_option maxRecDepth 100000 in
theorem zkk:∀ x y:_root_.Fin 16,(q3w (UInt8.ofNat x.val) (min (4:Int).toNat 8))|||UInt8.ofNat y.val=16*UInt8.ofNat x.val+UInt8.ofNat y.val/\toU8 (w64 ((w64 ((16:Int)*((UInt8.ofNat x.val).toNat:Int)))+((UInt8.ofNat y.val).toNat:Int)))=16*UInt8.ofNat x.val+UInt8.ofNat y.val:=by decide +kernel
theorem zfm (x y:UInt8) (hx1:x.toNat<16) (hy1:y.toNat<16):(q3w x (min (4:Int).toNat 8))|||y=16*x+y/\toU8 (w64 ((w64 ((16:Int)*(x.toNat:Int)))+(y.toNat:Int)))=16*x+y:=by
 have:=zkk ⟨x.toNat,hx1⟩ ⟨y.toNat,hy1⟩;simpa using this
def ze6:Bs->Option UInt8
 | a::b::_=>hx a b
 | _=>none
theorem zpf (r:Bs):∃ v,qp1 r=some (v,(ze6 r).isSome)/\∀ x,ze6 r=some x->v=x:=by
 match r with
 | []=>exact⟨0,rfl,fun x h=>by cases h⟩
 | [_]=>exact⟨0,rfl,fun x h=>by cases h⟩
 | a::b::t=>
  have e:qp1 (a::b::t)=some ((q3w ((hv a).getD 0) (min (4:Int).toNat 8))|||(hv b).getD 0,(hv a).isSome&&(hv b).isSome):=by
   unfold qp1;rw[qac (by simp only[qL];omega),show idx (a::b::t) 0=some a from rfl,show idx (a::b::t) 1=some b from rfl]
   simp only[qB,zpa];cases (hv a).isSome<;>rfl
  rw[e,show ze6 (a::b::t)=hx a b from rfl]
  unfold hx
  cases ha:hv a with
  | none=>exact⟨_,rfl,fun x h=>by cases h⟩
  | some x=>
   cases hb:hv b with
   | none=>exact⟨_,rfl,fun x h=>by cases h⟩
   | some y=>exact⟨_,rfl,fun z h=>by cases h;exact (zfm x y (hv16 a x ha) (hv16 b y hb)).1⟩
def pct:Bs->Bs
 | []=>[]
 | [c]=>[c]
 | [c,d]=>[c,d]
 | c::a::b::r=>if c=37 then (match hx a b with|some x=>x::pct r|none=>c::pct (a::b::r)) else c::pct (a::b::r)
theorem q5y (c:UInt8) (r:Bs) (h:c≠37):pct (c::r)=c::pct r:=by
 match r with
 | []=>rfl
 | [_]=>rfl
 | _::_::_=>rw[pct,qW h]
theorem zi1 (r:Bs):pct (37::r)=match ze6 r with|some x=>x::pct (r.drop 2)|none=>37::pct r:=by
 match r with
 | []=>rfl
 | [_]=>rfl
 | a::b::t=>
  rw[pct,qX rfl];show _=match hx a b with|some x=>x::pct t|none=>37::pct (a::b::t)
  cases hx a b<;>rfl
theorem zhh:∀ (n:Nat) (s:Bs),s.length<=n->(pct s).length<=s.length:=by
 intro n
 induction n with
 | zero=>intro s h;have:s=[]:=List.eq_nil_of_length_eq_zero (by omega);subst this;simp[pct]
 | succ n ih=>
  intro s h
  cases s with
  | nil=>simp[pct]
  | cons c r=>
   simp only[qL]at h;have h1:=ih r (by omega)
   by_cases hc:c=37
   ·subst hc;rw[zi1]
    cases hp:ze6 r with
    | none=>simp only[qL];omega
    | some x=>
     have h2:=ih (r.drop 2) (by simp;omega)
     simp only[qL,List.length_drop]at h2 ⊢;omega
   ·rw[q5y c r hc];simp only[qL];omega
theorem zp6 (fu n:Nat):∀ (vbs vbr out:Bs),vbr.length<n->vbs.length+vbr.length<100000000->out.length+vbr.length<100000000 ->
  qd3 fu n (vbs++vbr) (vbs.length:Int) out=some (out++pct vbr):=by
 have hrm:=qf1
 induction n using Nat.strongRecOn with
 | ind n ih=>
  intro vbs vbr out h hb ho;obtain⟨n,rfl⟩:∃ m,n=m+1:=⟨n-1,by omega⟩
  rw[qd3,qkr]
  cases vbr with
  | nil=>rw[qac (by simp)];simp[pct]
  | cons c t=>
   simp only[qL]at h hb ho;have one:=ih n (by omega) (vbs++[c]) t (out++[c]) (by omega) (by simp;omega) (by simp;omega)
   simp only[qM,qL,qZ,qS,wM,wO]at one;rw[qaa (by rw[qbg];omega),qao,qB,qnl,qai _ (by omega)]
   by_cases hc:c=37
   ·rw[qX hc,qaa (by rw[qbg];omega),qzc]
    obtain⟨v,h1,h2⟩:=zpf t;rw[h1,qB];subst hc;rw[zi1]
    cases hp:ze6 t with
    | none=>
     rw[Option.isSome_none,qax rfl,qB,qaa (by simp;omega)]
     exact one
    | some x=>
     obtain⟨a,b,r,rfl⟩:∃ a b r,t=a::b::r:=by
      match t,hp with
      | a::b::r,_=>exact⟨a,b,r,rfl⟩
     simp only[qL]at h hb ho;rw[Option.isSome_some,qau rfl,h2 x hp,qaa (by simp;omega),show (vbs.length:Int)+2=((vbs.length+2:Nat):Int) by omega,qgy (x:=((vbs.length+2:Nat):Int)) (by omega) (by omega),qai _ (by omega)]
     have two:=ih n (by omega) (vbs++[37,a,b]) r (out++[x]) (by omega) (by simp;omega) (by simp;omega)
     simp only[qM,qL,qZ,qS,wK,List.nil_append,wO]at two;exact two
   ·rw[qW hc,qB,qaa (by simp;omega),q5y c t hc]
    exact one
def zb1 (k:Int) (v:Bs):Bs:=if k=0/\6<=v.length/\lk (v.take 6) [117,116,102,56,39,39]=true then v.drop 6 else v
def q0o (p:Pc):Bs:=if p.2.2.1=true then pct (zb1 p.2.1 p.2.2.2) else p.2.2.2
theorem q1u (fu:Nat) (hfu:90000000<=fu) (s:Bs) (h:s.length<=4000000):qcs fu s=some (pct s):=by
 unfold qcs;have:=zp6 fu fu [] s [] (by omega) (by simp;omega) (by simp;omega)
 simpa using this
theorem zq0 (fu:Nat) (hfu:90000000<=fu) (p:Pc) (h:p.2.2.2.length<=4000000):qjz fu p=some (q0o p):=by
 unfold qjz q0o zb1;cases hs:p.2.2.1
 ·rfl
 rw[qb2,qX rfl,qsw];by_cases h0:p.2.1=0
 ·rw[qX h0];by_cases h6:6<=p.2.2.2.length
  ·rw[qaa (by omega),qaa (by omega),quq fu hfu _ _ (by show (List.take 6 _).length<=_;rw[List.length_take];omega) (by simp),qB]
   show qbe fu p.2.2.2 (lk (p.2.2.2.take 6) _)=_;rw[qbe];cases hl:lk (p.2.2.2.take 6) [117,116,102,56,39,39]
   ·rw[qax rfl,q1u fu hfu _ h,qW (by simp)]
   ·rw[qau rfl,qaa (by omega)]
    show qcs fu (p.2.2.2.drop 6)=_;rw[q1u fu hfu _ (by simp;omega),qX ⟨h0,h6,rfl⟩]
  ·rw[qac (by omega),qbe,qax rfl,q1u fu hfu _ h,qW (by omega)]
 ·rw[qW h0,qbe,qax rfl,q1u fu hfu _ h,qW (by omega)]
theorem qvt (p:Pc):(q0o p).length<=p.2.2.2.length:=by
 unfold q0o;split
 ·refine Nat.le_trans (zhh _ _ (wF _)) ?_;unfold zb1;split
  ·simp
  ·exact wF _
 ·exact wF _
theorem q84 (vbs:Bs) (c:UInt8) (t:Bs):List.take (((vbs.length+1:Nat):Int).toNat-((vbs.length:Nat):Int).toNat) (List.drop ((vbs.length:Nat):Int).toNat (vbs++c::t))=[c]:=by
 rw[quv,show ((vbs.length+1:Nat):Int).toNat-((vbs.length:Nat):Int).toNat=1 by omega];rfl
theorem z00 (fu n:Nat) (hfu:100<=fu):∀ (vbs vbr out:Bs),vbr.length<n->vbs.length+vbr.length<100000000->out.length+vbr.length<100000000 ->
  qe2 fu n (vbs++vbr) out (vbs.length:Int)=some (out++pct vbr):=by
 induction n using Nat.strongRecOn with
 | ind n ih=>
  intro vbs vbr out h hb ho;obtain⟨n,rfl⟩:∃ m,n=m+1:=⟨n-1,by omega⟩
  rw[qe2,qo2]
  cases vbr with
  | nil=>rw[qac (by simp)];simp[pct]
  | cons c t=>
   simp only[qL]at h hb ho;have one:=ih n (by omega) (vbs++[c]) t (out++[c]) (by omega) (by simp;omega) (by simp;omega)
   simp only[qM,qL,qZ,qS,wM,wO]at one;have hno:qcm fu (qe2 fu n) (vbs++c::t) out (vbs.length:Int) false=some (out++c::pct t):=by
    rw[qcm,qax rfl,qai _ (by omega),qaa (by rw[qbg];omega),q84,qaa (by simp[qad];omega),one]
    try simp
   rw[qaa (by rw[qbg];omega),qao,qB,qnl,show (vbs.length:Int)+2=((vbs.length+2:Nat):Int) by omega,qgy (x:=((vbs.length+2:Nat):Int)) (by omega) (by omega),qai _ (by omega)]
   by_cases hc:c=37
   ·subst hc;rw[qX rfl,zi1]
    match t with
    | []=>rw[qac (by rw[qbg];simp only[qZ];omega),hno];rfl
    | [x]=>rw[qac (by rw[qbg];simp only[qL,qZ];omega),hno];rfl
    | a::b::r=>
     simp only[qL]at h hb ho;have i1:idx (vbs++37::a::b::r) ((vbs.length+1:Nat):Int)=some a:=by have:=qao (vbs++[37]) a (b::r);simpa using this
     have i2:idx (vbs++37::a::b::r) ((vbs.length+2:Nat):Int)=some b:=by have:=qao (vbs++[37,a]) b r;simpa using this
     rw[qaa (by rw[qbg];simp only[qL];omega),i1,qB,q6p fu (by omega),qB]
     show _=some (out++match hx a b with|some x=>x::pct r|none=>37::pct (a::b::r))
     unfold hx
     cases ha:hv a with
     | none=>
      have:hvI a = -1:=by unfold hvI;rw[ha]
      rw[this,qac (by omega),hno];rfl
     | some x=>
      have hI:hvI a=(x.toNat:Int):=by unfold hvI;rw[ha]
      rw[hI,qaa (by omega),i2,qB,q6p fu (by omega),qB]
      cases hb':hv b with
      | none=>
       have:hvI b = -1:=by unfold hvI;rw[hb']
       rw[this,decide_eq_false (by omega),hno];rfl
      | some y=>
       have hJ:hvI b=(y.toNat:Int):=by unfold hvI;rw[hb']
       rw[hJ,decide_eq_true (by omega),qcm,qau rfl,qai _ (by omega),i1,qB,q6p fu (by omega),qB,show (vbs.length:Int)+2=((vbs.length+2:Nat):Int) by omega,qgy (x:=((vbs.length+2:Nat):Int)) (by omega) (by omega),i2,qB,q6p fu (by omega),qB,hI,hJ,(zfm x y (hv16 a x ha) (hv16 b y hb')).2,qaa (by simp[qad];omega),qai _ (by omega)]
       have two:=ih n (by omega) (vbs++[37,a,b]) r (out++[16*x+y]) (by omega) (by simp;omega) (by simp;omega)
       simp only[qM,qL,qZ,qS,wK,List.nil_append,wO]at two;exact two
   ·rw[qW hc,hno,q5y c t hc]
theorem zzv (fu:Nat) (hfu:90000000<=fu) (s:Bs) (h:s.length<=4000000):qpe fu s=some (pct s):=by
 have:=z00 fu fu (by omega) [] s [] (by omega) (by simp;omega) (by simp;omega)
 simpa [qpe] using this
end Go.Sym
namespace Go.Sym
def q2n (k:UInt8):Bs->Option (Bs×Bs)
 | []=>none
 | c::t=>if c=k then some ([],t) else (q2n k t).map fun x=>(c::x.1,x.2)
theorem q52 (k:UInt8) (t r:Bs) (h:∀ x∈t,x≠k):q2n k (t++k::r)=some (t,r):=by
 induction t with
 | nil=>rw[List.nil_append,q2n,qX rfl]
 | cons c t ih=>
  rw[wK,q2n,qW (h c qH),ih (fun x hx=>h x (qE _ hx))];rfl
theorem q63 (k:UInt8) (t:Bs) (h:∀ x∈t,x≠k):q2n k t=none:=by
 induction t with
 | nil=>rfl
 | cons c t ih=>rw[q2n,qW (h c qH),ih (fun x hx=>h x (qE _ hx))];rfl
theorem ze3 (s:Bs) (k:UInt8):qcu s [k]=some (Lib.indexByte s k):=by
 unfold qcu;rw[qax (by rfl)]
 unfold qb5;by_cases h:[k]=s
 ·subst h;rw[qau (by simp)];show some 0=some (Lib.indexByte ([]++[k]) k);rw[ze2 k [] [] (by simp)];rfl
 ·rw[qax (by simpa using h),qau (by rfl),show idx [k] 0=some k from rfl];rfl
theorem zqv (s:Bs) (k:UInt8) (h:s.length<=4000000):qm0 s [k]=some (match q2n k s with|some x=>(x.1,(x.2,true))|none=>(s,([],false))):=by
 unfold qm0 qfs;rw[ze3,qB];rcases qyb k s with ⟨t,r,rfl,ht⟩|hn
 ·rw[qM,qL]at h;rw[ze2 k t r ht,q52 k t r ht,qaa (by omega),qaa (by rw[qbg];omega),show (([k]:Bs).length:Int)=1 from rfl,qai _ (by omega),qaa (by rw[qbg];omega),qzc,qus];rfl
 ·rw[zdq k s hn,q63 k s hn,qac (by omega)];rfl
def qq3 (s:Bs):Bs×Bool:=if s.getLast? = some 42 then (s.dropLast,true) else (s,false)
theorem zlx (t:Bs) (hb:t.length<=4000000):qig t [42]=some (qq3 t):=by
 unfold qig qdg qa7 qq3;rw[show (([42]:List UInt8).length:Int)=1 from rfl]
 rcases List.eq_nil_or_concat t with rfl|⟨u,c,rfl⟩
 ·rfl
 ·rw[List.concat_eq_append]at *;simp only[qM,qL,qZ]at hb;rw[qm8,qv9 _ (by omega),qaa (by omega),qaa (by omega),qB,List.getLast?_concat,List.dropLast_concat]
  have e:List.drop ((u.length:Nat):Int).toNat (u++[c])=[c]:=quv u [c];rw[e,qyt];by_cases hc:c=42
  ·subst hc;rw[qX rfl,show ([(42:UInt8)]==[42])=true from rfl,qb2,qaa (by omega)];rfl
  ·rw[qW (by simpa using hc),show ([c]==[(42:UInt8)])=false by simpa using hc];rfl
def qj0 (nm v:Bs):Option Pc:=match q2n 42 nm with
 | none=>if nm=[] then none else some (nm,-1,false,v)
 | some x=>if x.1≠[]/\(numS (qq3 x.2).1 1099511627776).2=true then some (x.1,(numS (qq3 x.2).1 1099511627776).1,(qq3 x.2).2,v) else none
def qmb (nm v:Bs):Option Pc:=match qj0 nm v with
 | some p=>if p.2.1<1000000000 then some p else none
 | none=>none
theorem q7t {k:UInt8} {s:Bs} {x:Bs×Bs} (h:q2n k s=some x):x.1.length+x.2.length<s.length:=by
 rcases qyb k s with ⟨t,r,rfl,ht⟩|hn
 ·rw[q52 k t r ht]at h;cases h;simp only[qM,qL];omega
 ·rw[q63 k s hn]at h;cases h
theorem q2d (s:Bs):(qq3 s).1.length<=s.length:=by unfold qq3;split<;>simp
theorem q4q {nm v:Bs} {p:Pc} (h:qj0 nm v=some p):p.1.length<=nm.length/\p.2.2.2=v /\ -1<=p.2.1/\p.2.1<=1099511627776/\p.1≠[]:=by
 unfold qj0 at h
 cases hc:q2n 42 nm with
 | none=>
  rw[hc]at h;simp only at h;by_cases hn:nm=[]
  ·rw[qX hn]at h;cases h
  ·rw[qW hn]at h;cases h;exact⟨wF _,rfl,by simp only;omega,by simp only;omega,hn⟩
 | some x=>
  rw[hc]at h;simp only at h;by_cases hn:x.1≠[]/\(numS (qq3 x.2).1 1099511627776).2=true
  ·rw[qX hn]at h;obtain⟨u,_,h1,h2⟩:=q6o hn.2;have hl:=q7t hc;cases h
   rw[h2];exact⟨by simp only;omega,rfl,by simp only;omega,by simp only;omega,hn.1⟩
  ·rw[qW hn]at h;cases h
theorem zgd (s:Bs) (h:s.length<=4000000):qgo s 1099511627776=some (numS s 1099511627776):=by unfold qgo;rw[qaa (by omega)]
theorem zlr (fu:Nat) (hfu:90000000<=fu) (s:Bs) (h:s.length<=4000000):∃ R,qir fu s=some R/\match lexP s with
  | none=>R.2.1=false
  | some x=>match qj0 x.1.1 x.1.2 with
   | none=>R.2.1=false
   | some p=>R=(p,(true,x.2)):=by
 have l1:=qrz tkS s;have l2:=qt8 61 (qep tkS s).2;unfold qir lexP;rw[zky fu hfu s h,qB,q1n fu hfu 61 _ (by omega),qB]
 cases hs:(qjr 61 (qep tkS s).2).1
 ·rw[qek,qW (by simp)];exact⟨_,rfl,rfl⟩
 rw[qb2,qX rfl];obtain⟨r,hv⟩:=zml fu hfu (qjr 61 (qep tkS s).2).2 (by omega)
 rw[hv,qB,zqv _ 42 (by omega),qB]
 generalize hx:valS (qjr 61 (qep tkS s).2).2=vs;generalize hn:(qep tkS s).1=nm at *
 cases hc:q2n 42 nm with
 | none=>
  simp only[qF]
  cases vs with
  | none=>exact⟨_,rfl,rfl⟩
  | some x=>
   refine⟨_,rfl,?_⟩;simp only[wQ];unfold qj0;rw[hc]
   cases nm with
   | nil=>rfl
   | cons c nm=>rfl
 | some y=>
  have l3:=q7t hc;have l4:=q2d y.2;simp only[qT];rw[zlx _ (by omega),qB,zgd _ (by omega),qB]
  cases vs with
  | none=>exact⟨_,rfl,rfl⟩
  | some x=>
   simp only[qT,wQ];unfold qj0;rw[hc];simp only;cases hq:(numS (qq3 y.2).1 1099511627776).2
   ·rw[qW (by simp)];exact⟨_,rfl,rfl⟩
   ·by_cases hy:y.1=[]
    ·rw[qW (by simp[hy])];refine⟨_,rfl,?_⟩;simp[hy]
    ·rw[qX ⟨hy,rfl⟩];refine⟨_,rfl,?_⟩;simp only;congr 2
     cases hy1:y.1 with
     | nil=>exact absurd hy1 hy
     | cons=>rfl
def psG (f:Bs->Bs->Option Pc):Nat->List Pc->Bs->Option (List Pc)
 | 0,_,_=>none
 | n+1,acc,s=>match qbm s with
  | []=>some acc
  | c::t=>if c=59 then (match lexP t with
   | none=>none
   | some x=>match f x.1.1 x.1.2 with
    | none=>none
    | some p=>psG f n (acc++[p]) x.2) else none
def szQ (l:List Pc):Nat:=(l.map fun p=>p.1.length+p.2.2.2.length+1).sum
theorem zj8 (l:List Pc) (p:Pc):szQ (l++[p])=szQ l+(p.1.length+p.2.2.2.length+1):=by unfold szQ;simp
theorem qoo (l:List Pc):l.length<=szQ l:=by
 unfold szQ
 induction l with
 | nil=>simp
 | cons p l ih=>simp only[List.map_cons,List.sum_cons,qL];omega
def zag (R:qms):Prop:=match R with | .inl x=>x.2.2=false | .inr x=>x.2.2.1=false
def nb (p:Pc):Prop := -1<=p.2.1/\p.2.1<=1099511627776
theorem z65 (fu:Nat) (hfu:90000000<=fu) (Qp:List Pc->Bool×List Prm) (hQ:∀ l,szQ l<=300000->(∀ x∈l,nb x)->qjd fu l=some (Qp l)) (a b T S:Bs):∀ (n:Nat) (s:Bs) (acc:List Pc),szQ acc+s.length<=300000->s.length<n->(∀ x∈acc,nb x) ->
  ∃ R,qi2 fu n a b s T S acc=some R/\match psG qj0 n acc s with
   | none=>zag R
   | some l=>if (Qp l).1=true then R = .inr (T,(S,(true,(Qp l).2))) else zag R:=by
 have hrm:=qf1;intro n
 induction n with
 | zero=>intro s acc _ h;exact absurd h (by omega)
 | succ n ih=>
  intro s acc hz h hnb;have hl:=qf2 s;have hal:=qoo acc;rw[qi2,qqg,q1n fu hfu 59 s (by omega),qB,psG]
  unfold qjr
  cases ht:qbm s with
  | nil=>
   simp only[qF];rw[qt4 fu hfu [] (by simp),qB,hQ acc (by omega) hnb,qB]
   cases hq:(Qp acc).1
   ·refine⟨_,rfl,?_⟩;rw[qW (by simp)];rfl
   ·refine⟨_,rfl,?_⟩;rw[qX rfl];rfl
  | cons c t=>
   rw[ht]at hl;simp only[qL]at hl;by_cases hc:c=59
   ·simp only[qX hc,qT];obtain⟨R,h1,h2⟩:=zlr fu hfu t (by omega)
    rw[h1,qB]
    cases hx:lexP t with
    | none=>
     rw[hx]at h2;simp only at h2;rw[h2,qek];exact⟨_,rfl,rfl⟩
    | some x=>
     rw[hx]at h2;simp only at h2 ⊢;have hxl:=(q7g (n:=x.1.1) (v:=x.1.2) (t:=x.2) hx).1
     cases hp:qj0 x.1.1 x.1.2 with
     | none=>
      rw[hp]at h2;simp only at h2;rw[h2,qek];exact⟨_,rfl,rfl⟩
     | some p=>
      rw[hp]at h2;simp only at h2 ⊢;obtain⟨g1,g2,g3,g4,_⟩:=q4q hp;subst h2;have hz2:szQ (acc++[p])+x.2.length<=300000:=by rw[zj8,g2];omega
      rw[qb2,qaa (by simp;omega)]
      exact ih x.2 (acc++[p]) hz2 (by omega) (fun y hy=>(List.mem_append.1 hy).elim (hnb y) (fun e=>by rw[List.mem_singleton.1 e];exact⟨g3,g4⟩))
   ·simp only[qW hc,qF];rw[qt4 fu hfu (c::t) (by simp only[qL];omega),qB,show qbm (c::t)=c::t by rw[← ht,qrq],hQ acc (by omega) hnb,qB]
    cases hq:(Qp acc).1
    ·exact⟨_,rfl,rfl⟩
    ·exact⟨_,rfl,rfl⟩
def qu7 (f:Bs->Bs->Option Pc) (s:Bs):Option (Bs×Bs×List Pc):=
 let a:=qep tk s;let b:=qjr 47 a.2;let c:=qep tk b.2
 if a.1=[]\/b.1=false\/c.1=[] then none else (psG f (s.length+1) [] c.2).map fun l=>(a.1,c.1,l)
theorem qzj (f:Bs->Bs->Option Pc):∀ (n:Nat) (acc:List Pc) (s:Bs),s.length<n->psG f n acc s=psG f (s.length+1) acc s:=by
 intro n
 induction n using Nat.strongRecOn with
 | ind n ih=>
  intro acc s h;obtain⟨n,rfl⟩:∃ m,n=m+1:=⟨n-1,by omega⟩
  have hl:=qf2 s;rw[psG,psG]
  cases ht:qbm s with
  | nil=>rfl
  | cons c t=>
   rw[ht]at hl;simp only[qL]at hl;simp only;by_cases hc:c=59
   ·rw[qX hc,qX hc]
    cases hx:lexP t with
    | none=>rfl
    | some x=>
     have hxl:=(q7g (n:=x.1.1) (v:=x.1.2) (t:=x.2) hx).1;simp only
     cases f x.1.1 x.1.2 with
     | none=>rfl
     | some p=>
      simp only;rw[ih n (by omega) _ _ (by omega)]
      by_cases he:s.length=n
      ·rw[he];exact (ih n (by omega) _ _ (by omega)).symm
      ·rw[ih s.length (by omega) _ _ (by omega)]
   ·rw[qW hc,qW hc]
theorem zfn (fu:Nat) (hfu:90000000<=fu) (Qp:List Pc->Bool×List Prm) (hQ:∀ l,szQ l<=300000->(∀ x∈l,nb x)->qjd fu l=some (Qp l)) (s:Bs) (h:s.length<=300000) :
  ∃ R,qrg fu s=some R/\match qu7 qj0 s with
   | none=>zag R
   | some m=>if (Qp m.2.2).1=true then R = .inr (m.1,(m.2.1,(true,(Qp m.2.2).2))) else zag R:=by
 have l1:=qrz tk s;have l2:=qt8 47 (qep tk s).2;have l3:=qrz tk (qjr 47 (qep tk s).2).2;unfold qrg qu7;rw[zbq fu hfu s (by omega),qB,q1n fu hfu 47 _ (by omega),qB,zbq fu hfu _ (by omega),qB]
 simp only[];generalize ha:qep tk s=A at *;generalize hb:qjr 47 A.2=B at *;generalize hc:qep tk B.2=C at *
 cases h1:A.1 with
 | nil=>rw[qau (by rfl),qdc,qau rfl,qX (.inl rfl)];exact⟨_,rfl,rfl⟩
 | cons x1 y1=>
  rw[qax (by rfl)]
  cases h2:B.1 with
  | false=>rw[qek,qdc,qau rfl,qX (.inr (.inl rfl))];exact⟨_,rfl,rfl⟩
  | true=>
   rw[qb2]
   cases h3:C.1 with
   | nil=>rw[qdc,qau (by rfl),qX (.inr (.inr rfl))];exact⟨_,rfl,rfl⟩
   | cons x3 y3=>
    rw[qdc,qax (by rfl),qW (by simp),qqs]
    obtain⟨R,g1,g2⟩:=z65 fu hfu Qp hQ [] [] (x1::y1) (x3::y3) fu C.2 [] (by simp[szQ];omega) (by omega) (by simp)
    refine⟨R,g1,?_⟩;rw[qzj _ fu _ _ (by omega)]at g2
    rw[qzj _ (s.length+1) _ _ (by omega)]
    cases hp:psG qj0 (C.2.length+1) [] C.2 with
    | none=>rw[hp]at g2;exact g2
    | some l=>rw[hp]at g2;exact g2
end Go.Sym
namespace Go.Sym
theorem zph (c k:UInt8) (t:Bs):Lib.indexByte (c::t) k=if c=k then 0 else if Lib.indexByte t k<0 then -1 else Lib.indexByte t k+1:=by
 rw[Lib.indexByte];by_cases h:c=k
 ·rw[qX (by simpa using h),qX h]
 ·rw[qW (by simpa using h),qW h]
  rcases qyb k t with ⟨a,r,rfl,ha⟩|hn
  ·rw[ze2 k a r ha,qW (by simp),qW (by omega)]
  ·rw[zdq k t hn];rfl
theorem zmt (fu n:Nat) (k:UInt8):∀ (vbs vbr:Bs),vbr.length<n->vbs.length+vbr.length<100000000 ->
  qqc fu n (vbs++vbr) [k] (vbs.length:Int)=some (if Lib.indexByte vbr k<0 then -1 else (vbs.length:Int)+Lib.indexByte vbr k):=by
 induction n with
 | zero=>intro vbs vbr h;exact absurd h (by omega)
 | succ n ih=>
  intro vbs vbr h hb;rw[qqc,qwm,show (([k]:Bs).length:Int)=1 from rfl]
  cases vbr with
  | nil=>rw[qai _ (by simp only[qZ]at hb;omega),qac (by simp;omega)];rfl
  | cons c t=>
   simp only[qL]at h hb;rw[qai _ (by omega),qaa (by rw[qbg];omega),qaa (by rw[qbg];omega),quv,zph]
   have e:List.take (((vbs.length+1:Nat):Int).toNat-((vbs.length:Nat):Int).toNat) (c::t)=[c]:=by
    rw[show ((vbs.length+1:Nat):Int).toNat-((vbs.length:Nat):Int).toNat=1 by omega];rfl
   rw[e];by_cases hc:c=k
   ·rw[qau (by simpa using hc),qX hc,qW (by omega)];simp
   ·rw[qax (by simpa using hc),qW hc]
    have:=ih (vbs++[c]) t (by omega) (by simp;omega)
    simp only[qM,qL,qZ,qS,wM,wO]at this;rw[this];by_cases h0:Lib.indexByte t k<0
    ·rw[qX h0,qX h0,qX (by omega)]
    ·rw[qW h0,qW h0,qW (by omega)];congr 1;omega
theorem zly (fu:Nat) (hfu:90000000<=fu) (k:UInt8) (s:Bs) (h:s.length<=4000000):qzu fu s [k] 0=some (Lib.indexByte s k):=by
 have:=zmt fu fu k [] s (by omega) (by simp;omega)
 simp only[List.nil_append,qZ,Int.natCast_zero,Int.zero_add]at this;unfold qzu;refine this.trans ?_;rcases qyb k s with ⟨a,r,rfl,ha⟩|hn
 ·rw[ze2 k a r ha,qW (by omega)]
 ·rw[zdq k s hn];rfl
abbrev Pd:Type:=Bs×Bs×Int×Bool
def toD (p:Pc):Pd:=(p.1,p.2.2.2,p.2.1,p.2.2.1)
theorem zmq (fu:Nat) (hfu:90000000<=fu) (b v s:Bs) (st:Bool) (z:Pd) (h:s.length<=4000000):∃ R,qhc fu s z (b,(v,((-1:Int),st)))=some R /\
  match (if b≠[] then numD s else none) with
  | some k=>R=((b,v,k,st),true)
  | none=>R.2=false:=by
 unfold qhc;obtain⟨x,h1,h2⟩:=ztp fu (by omega) s (by omega) (by omega)
 rw[h1,qB]
 cases b with
 | nil=>exact⟨_,rfl,rfl⟩
 | cons c b=>
  rw[qX (by simp)]
  rw[qau (by rfl)]
  rcases h2 with ⟨g1,g2,g3⟩|⟨g1,g2⟩
  ·rw[qaa g2,g3,qB,g1];exact⟨_,rfl,by simp⟩
  ·rw[g1];rcases g2 with g2|⟨g2,t,g3,g4⟩
   ·rw[qac (by omega)];exact⟨_,rfl,rfl⟩
   ·rw[qaa g2,g3,qB];exact⟨_,rfl,by simpa using g4⟩
theorem zen (fu:Nat) (hfu:90000000<=fu) (nm v:Bs) (h:nm.length<=4000000):∃ R,qs9 fu nm v=some R/\match qmb nm v with
  | some p=>R=(toD p,true)
  | none=>R.2=false:=by
 unfold qs9;rw[zly fu hfu 42 nm h,qB];rcases qyb 42 nm with ⟨t,r,rfl,ht⟩|hn
 ·simp only[qM,qL]at h;rw[ze2 42 t r ht,qac (by omega),qai _ (by omega),qaa (by rw[qbg];omega),qaa (by rw[qbg];omega),qzc,qus]
  have key:∀ (s:Bs) (st:Bool),qq3 r=(s,st)->(∃ R,qhc fu s ([],([],((0:Int),false))) (t,(v,((-1:Int),st)))=some R/\match qmb (t++42::r) v with
    | some p=>R=(toD p,true)
    | none=>R.2=false):=by
   intro s st he;have hsl:=q2d r;rw[he]at hsl;simp only at hsl;obtain⟨R,h1,h2⟩:=zmq fu hfu t v s st ([],([],((0:Int),false))) (by omega)
   refine⟨R,h1,?_⟩;unfold qmb qj0;rw[q52 42 t r ht];simp only[he];by_cases hb:t=[]
   ·rw[qW (by simp[hb])]
    rw[qW (by simp[hb])]at h2
    exact h2
   ·rw[qX hb]at h2;unfold numD at h2;cases hq:(numS s 1099511627776).2
    ·rw[qW (by simp[hq])]at h2
     rw[qW (by simp)]
     exact h2
    ·rw[qX ⟨hb,rfl⟩];simp only;by_cases hlt:(numS s 1099511627776).1<1000000000
     ·rw[qX ⟨hq,hlt⟩]at h2;rw[qX hlt];exact h2
     ·rw[qW (by simp[hlt])]at h2;rw[qW hlt];exact h2
  rcases List.eq_nil_or_concat r with rfl|⟨u,c,rfl⟩
  ·rw[qac (by simp),qke,qax rfl]
   exact key [] false rfl
  ·rw[List.concat_eq_append]at *;simp only[qM,qL,qZ]at h;rw[qaa (by simp only[qM,qL,qZ];omega),qm8,qv9 _ (by omega),qw0,qB,qke]
   by_cases hc:c=42
   ·subst hc;rw[qau (by rfl),qm8,qv9 _ (by omega),qaa (by omega),qyt]
    exact key u true (by unfold qq3;simp)
   ·rw[qax (by simpa using hc)]
    exact key (u++[c]) false (by unfold qq3;rw[qW (by simpa using hc)])
 ·rw[zdq 42 nm hn,qaa (by omega)]
  refine⟨_,rfl,?_⟩;unfold qmb qj0;rw[q63 42 nm hn]
  cases nm with
  | nil=>rfl
  | cons c nm=>rfl
def bad:qaj:=(([],([],[])),false)
theorem z81 (fu:Nat) (r2:qsg) (s nm a b T S:Bs) (acc:List Pd) (hb:s.length<=4000000):∀ (n:Nat) (r out:Bs),r <:+ s->r.length+1<n->out.length+r.length<100000000 ->
  qcn fu r2 n s (pos s r) nm out a b T S acc=match qv out r with
   | some x=>qc2 fu r2 s (pos s x.2) nm x.1 a b T S acc
   | none=>some bad:=by
 intro n
 induction n using Nat.strongRecOn with
 | ind n ih=>
  intro r out hr h ho;obtain⟨n,rfl⟩:∃ m,n=m+1:=⟨n-1,by omega⟩
  rw[qcn,qkz]
  cases r with
  | nil=>rw[qjh,qac (by omega),qef,qax rfl,qau (by simp)];rfl
  | cons c t=>
   have ht:t <:+ s:=(List.suffix_cons _ _).trans hr;simp only[qL]at h ho;rw[qaa (qt7 hr),qwb hr,qB,q0e,qef,q0j];by_cases h1:c=34
   ·rw[qW (by simp[h1]),qX h1,qax (by have:=qt7 hr;simp;omega),qnd hr (by omega)]
   rw[qX h1,qW h1,qm9,qwb hr,qB,qnl,qnd hr (by omega)]
   have p18:∀ (d:UInt8) (u:Bs),(d::u) <:+ s->qf8 fu r2 (qcn fu r2 n) s (pos s (d::u)) nm out a b T S acc=qcn fu r2 n s (pos s u) nm (out++[d]) a b T S acc:=by
    intro d u hd;have hu:=hd.length_le;have g1:=qyj s (d::u);have g2:=qyj s u;have g3:=zic (s:=s) (List.suffix_cons d u);rw[qf8,qnd hd (by omega),qaa (by omega),q60 hd (List.suffix_cons _ _),show (d::u).take ((d::u).length-u.length)=[d] by simp,qaa (by simp[qad];omega)]
   by_cases h2:c=92
   ·rw[qX h2,qX h2]
    cases t with
    | nil=>
     rw[qjh,qee,qac (by omega),p18 c [] hr]
     obtain⟨n,rfl⟩:∃ m,n=m+1:=⟨n-1,by simp only[qZ]at h;omega⟩
     rw[qcn,qkz,qjh,qac (by omega),qef,qax rfl,qau (by simp)];rfl
    | cons d u=>
     simp only[qL]at h ho;rw[qee,qaa (qt7 ht),qnd hr (by omega),p18 d u ht]
     simp only;exact ih n (by omega) u (out++[d]) ((List.suffix_cons _ _).trans ht) (by omega) (by simp;omega)
   ·rw[qW h2,qW h2,qee,qax rfl,p18 c t hr];exact ih n (by omega) t (out++[c]) ht (by omega) (by simp;omega)
theorem z42 (c:UInt8):(tk c||([42]:Bs).contains c)=tkS c:=by unfold tkS;rw[show ([42]:Bs).contains c=(c==42) by rw[Bool.eq_iff_iff];simp]
theorem zx9 (c:UInt8):(tk c||([37,39,42]:Bs).contains c)=tkV c:=by unfold tkV;rw[show ([37,39,42]:Bs).contains c=(c==37||(c==39||c==42)) by rw[Bool.eq_iff_iff];simp]
theorem tk_c (c:UInt8):(tk c||([]:Bs).contains c)=tk c:=by simp
theorem q1w (p:UInt8->Bool) {s r:Bs} (hr:r <:+ s):(0<=pos s r/\pos s r<=pos s (r.dropWhile p)/\pos s (r.dropWhile p)<=(s.length:Int))/\List.take ((pos s (r.dropWhile p)).toNat-(pos s r).toNat) (List.drop (pos s r).toNat s)=r.takeWhile p:=by
 refine⟨⟨(qyj s r).1,zic (List.dropWhile_suffix p),(qyj s _).2⟩,?_⟩;rw[q60 hr (List.dropWhile_suffix p),zez]
theorem zum (fu:Nat) (hfu:90000000<=fu) (r2:qsg) (s nm v a b T S:Bs) (acc:List Pc) (hb:s.length<=4000000) (hn:nm.length<=4000000) (ha:acc.length<=4000000) (r:Bs) (hr:r <:+ s) :
  qc2 fu r2 s (pos s r) nm v a b T S (acc.map toD)=match qmb nm v with
   | some p=>r2 s (pos s (qbm r)) a b T S ((acc++[p]).map toD)
   | none=>some bad:=by
 have hrm:=qf1;obtain⟨R,h1,h2⟩:=zen fu hfu nm v hn;rw[qc2,h1,qB]
 cases hp:qmb nm v with
 | none=>rw[hp]at h2;simp only at h2;rw[h2,qek];rfl
 | some p=>
  rw[hp]at h2;simp only at h2 ⊢;subst h2;rw[qb2,qaa (by simp;omega),qvq fu hfu hb hr,qB,List.map_append];rfl
theorem z84 (fu:Nat) (hfu:90000000<=fu) (s a b T S:Bs) (hb:s.length<=4000000):∀ (n:Nat) (r:Bs) (acc:List Pc),r <:+ s->qbm r=r->r.length<n->acc.length+r.length<=4000000 ->
  qew fu n s (pos s r) a b T S (acc.map toD)=match psG qmb n acc r with
   | none=>some bad
   | some l=>qa4 fu fu 0 a b T S (l.map toD) []:=by
 intro n
 induction n with
 | zero=>intro r acc _ _ h;exact absurd h (by omega)
 | succ n ih=>
  intro r acc hr hlt h hacc;rw[qew,qof,psG,hlt]
  cases r with
  | nil=>rw[qjh,qac (by omega)]
  | cons c t=>
   have ht:t <:+ s:=(List.suffix_cons _ _).trans hr;simp only[qL]at h hacc;rw[qaa (qt7 hr),qwb hr,qB,q0j];simp only;by_cases hc:c=59
   ·rw[qW (by simp[hc]),qX hc,qnd hr (by omega),qvq fu hfu hb ht,qB]
    have h1:qbm t <:+ s:=(qes t).trans ht;rw[q8v fu hfu [42] (by simp) hb h1 tkS z42,qB]
    obtain⟨ok1,ok2⟩:=q1w tkS h1;have h2:(qbm t).dropWhile tkS <:+ s:=(List.dropWhile_suffix tkS).trans h1;have hnl:((qbm t).takeWhile tkS).length<=4000000:=by
     have:=(List.takeWhile_prefix (l:=qbm t) tkS).length_le;have:=qf2 t;omega
    rw[qaa ok1,qvq fu hfu hb h2,qB,ok2];unfold lexP qep qjr;simp only;have h3:qbm ((qbm t).dropWhile tkS) <:+ s:=(qes _).trans h2;have hl3:(qbm ((qbm t).dropWhile tkS)).length<=t.length:=by
     have g1:=qf2 ((qbm t).dropWhile tkS);have g2:=(List.dropWhile_suffix (l:=qbm t) tkS).length_le;have g3:=qf2 t;omega
    generalize qbm ((qbm t).dropWhile tkS)=u at *;generalize (qbm t).takeWhile tkS=nm at *
    cases u with
    | nil=>rw[qjh,qau (by simp),qh4,qau rfl];simp;rfl
    | cons d u=>
     have h4:u <:+ s:=(List.suffix_cons _ _).trans h3;simp only[qL]at hl3;rw[qax (by have:=qt7 h3;simp;omega),qwb h3,qB,qh4,q0j]
     by_cases hd:d=61
     ·rw[qW (by simp[hd])]
      simp only[qX hd,if_true];rw[qom,qnd h3 (by omega),qvq fu hfu hb h4,qB]
      have h5:qbm u <:+ s:=(qes u).trans h4;have hl5:=qf2 u;have fin:∀ (v w:Bs),w <:+ s->w.length<=u.length->qc2 fu (qew fu n) s (pos s w) nm v a b T S (acc.map toD)=match (match qmb nm v with
        | none=>none
        | some p=>psG qmb n (acc++[p]) w) with
        | none=>some bad
        | some l=>qa4 fu fu 0 a b T S (l.map toD) []:=by
       intro v w hw hwl;rw[zum fu hfu _ s nm v a b T S acc hb hnl (by omega) w hw]
       cases qmb nm v with
       | none=>rfl
       | some p=>
        simp only;have g1:=qf2 w;rw[ih (qbm w) (acc++[p]) ((qes w).trans hw) (qrq w) (by omega) (by simp;omega)]
        have e:psG qmb n (acc++[p]) (qbm w)=psG qmb n (acc++[p]) w:=by
         cases n with
         | zero=>rfl
         | succ n=>rw[psG,psG,qrq]
        rw[e]
      unfold valS qjr
      cases hu:qbm u with
      | nil=>
       rw[qjh,qac (by omega),qhz,qax rfl]
       have hnil:([]:Bs) <:+ s:=List.nil_suffix;have r1:=q8v fu hfu [37,39,42] (by simp) hb hnil tkV zx9
       obtain⟨q1,q2⟩:=q1w tkV hnil;rw[qjh]at r1 q1 q2;rw[r1,qB,qaa q1,q2];simp only[wJ,if_false,wQ];exact fin [] [] hnil (by simp)
      | cons e w=>
       rw[hu]at h5 hl5;simp only[qL]at hl5;have h6:w <:+ s:=(List.suffix_cons _ _).trans h5;rw[qaa (qt7 h5),qwb h5,qB,qhz];by_cases he:e=34
       ·rw[qau (by simpa using he),qnd h5 (by omega)]
        simp only[qX he,if_true];rw[z81 fu _ s nm a b T S _ hb fu w [] h6 (by omega) (by simp;omega)]
        cases hq:qv [] w with
        | none=>rfl
        | some x=>
         have:=zoa [] w x.1 x.2 hq;simp only[wQ];exact fin x.1 x.2 (this.2.trans h6) (by have:=this.2.length_le;omega)
       ·rw[qax (by simpa using he)]
        simp only[qW he,wJ,if_false,wQ];rw[q8v fu hfu [37,39,42] (by simp) hb h5 tkV zx9,qB]
        obtain⟨q1,q2⟩:=q1w tkV h5;rw[qaa q1,q2];unfold qep;have hle:qbm (e::w)=e::w:=by rw[← hu,qrq]
        rw[hle];have hdl:=(List.dropWhile_suffix (l:=e::w) tkV).length_le;simp only[qL]at hdl;exact fin _ _ ((List.dropWhile_suffix tkV).trans h5) (by omega)
     ·rw[qX hd];simp only[qW hd,wJ,if_false];rfl
   ·rw[qX hc,qW hc];rfl
theorem zex (fu:Nat) (hfu:90000000<=fu) (s:Bs) (h:s.length<=300000):qls fu s=match qu7 qmb s with
  | none=>some bad
  | some m=>qa4 fu fu 0 [] [] m.1 m.2.1 (m.2.2.map toD) []:=by
 have hb:s.length<=4000000:=by omega
 have h0:s <:+ s:=List.suffix_refl s;have h1:qbm s <:+ s:=qes s;unfold qls qu7;have sk:=qvq fu hfu hb h0;rw[zbg]at sk;rw[sk,qB,q8v fu hfu [] (by simp) hb h1 tk tk_c,qB]
 obtain⟨ok1,ok2⟩:=q1w tk h1;have h2:(qbm s).dropWhile tk <:+ s:=(List.dropWhile_suffix tk).trans h1;rw[qaa ok1,qvq fu hfu hb h2,qB,ok2];unfold qep qjr;simp only;have h3:qbm ((qbm s).dropWhile tk) <:+ s:=(qes _).trans h2;generalize qbm ((qbm s).dropWhile tk)=u at *
 cases hT:(qbm s).takeWhile tk with
 | nil=>rw[qau (by rfl),qdo,qau rfl,qX (.inl rfl)];rfl
 | cons x y=>
  rw[qax (by rfl)]
  cases u with
  | nil=>rw[qjh,qau (by simp),qdo,qau rfl,qX (.inr (.inl rfl))];rfl
  | cons d u=>
   have h4:u <:+ s:=(List.suffix_cons _ _).trans h3;rw[qax (by have:=qt7 h3;simp;omega),qwb h3,qB,qdo,q0j]
   by_cases hd:d=47
   ·rw[qW (by simp[hd]),qoy,qnd h3 (by omega),qvq fu hfu hb h4,qB]
    simp only[qX hd];have h5:qbm u <:+ s:=(qes u).trans h4;rw[q8v fu hfu [] (by simp) hb h5 tk tk_c,qB]
    obtain⟨q1,q2⟩:=q1w tk h5;rw[qaa q1,q2];have h6:(qbm u).dropWhile tk <:+ s:=(List.dropWhile_suffix tk).trans h5
    cases hS:(qbm u).takeWhile tk with
    | nil=>rw[qau (by rfl),qX (.inr (.inr rfl))];rfl
    | cons x3 y3=>
     rw[qax (by rfl),qW (by simp),qvq fu hfu hb h6,qB]
     have hl6:=h6.length_le;have hl7:=qf2 ((qbm u).dropWhile tk);have:=z84 fu hfu s [] [] (x::y) (x3::y3) hb fu (qbm ((qbm u).dropWhile tk)) [] ((qes _).trans h6) (qrq _) (by omega) (by simp;omega)
     refine (this:_=_).trans ?_;rw[qzj _ fu _ _ (by omega),qzj _ (s.length+1) _ _ (by omega)]
     have e:psG qmb ((qbm ((qbm u).dropWhile tk)).length+1) [] (qbm ((qbm u).dropWhile tk))=psG qmb (((qbm u).dropWhile tk).length+1) [] ((qbm u).dropWhile tk):=by
      rw[← qzj _ (((qbm u).dropWhile tk).length+1) _ _ (by omega),psG,psG,qrq]
     rw[e];cases psG qmb (((qbm u).dropWhile tk).length+1) [] ((qbm u).dropWhile tk)<;>rfl
   ·rw[qX hd];simp only[qW hd];rw[qX (.inr (.inl trivial))];rfl
end Go.Sym
namespace Go.Sym
open Go.Sort (SWO PermIn SortedIn pdq_sorts)
open Go.Proofs (ltOf)
theorem ltQ (x y:Pq):ltOf cfQ x y=decide (x.1.2.1<y.1.2.1):=by
 have:=x.2;have:=y.2;unfold ltOf cfQ;have h:w64 (x.1.2.1-y.1.2.1)=x.1.2.1-y.1.2.1:=by unfold w64;simp[IntKind.wrap,IntKind.bits,IntKind.signed];omega
 rw[h];by_cases q:x.1.2.1<y.1.2.1<;>simp[q]<;>omega
theorem z7i:SWO (ltOf cfQ):=⟨fun x=>by rw[ltQ];simp,fun x y z h1 h2=>by rw[ltQ]at *;simp at *;omega,fun x y z h1 h2=>by rw[ltQ]at *;simp at *;omega⟩
theorem zcd (l:List Pq):(quy l).Perm l/\(quy l).Pairwise (fun x y=>x.1.2.1<=y.1.2.1):=by
 obtain⟨⟨h1,_,h2⟩,h3⟩:=pdq_sorts (ltOf cfQ) z7i l.toArray 0 l.length (Lib.bitLen l.length) true true (Nat.zero_le _) (by simp) (.inl rfl)
 have hsort:quy l=(Go.Sort.pdq (ltOf cfQ) l.toArray 0 l.length (Lib.bitLen l.length) true true).toList:=rfl;generalize Go.Sort.pdq (ltOf cfQ) l.toArray 0 l.length (Lib.bitLen l.length) true true=D at h1 h2 h3 hsort;have hs:D.size=l.length:=by rw[h1];simp
 rw[hsort];constructor
 ·have e:∀ d:Array Pq,d.size=l.length->(d.extract 0 l.length).toList=d.toList:=fun d hd=>by rw[← hd];simp
  rw[e _ hs,e _ (by simp)]at h2
  simpa using h2
 ·rw[List.pairwise_iff_getElem];intro i j hi hj hij;rw[Array.length_toList]at hi hj;have:=h3 i j (Nat.zero_le _) hij (by omega)
  rw[ltQ,getElem!_pos D j hj,getElem!_pos D i hi]at this;have:=of_decide_eq_false this;simp only[Array.getElem_toList];omega
theorem zob:∀ l:List Pc,(∀ p∈l,nb p)->∃ q,toQ l=some q/\q.map (·.1)=l
 | [],_=>⟨[],rfl,rfl⟩
 | p::l,h=>by
  obtain⟨q,h1,h2⟩:=zob l (fun x hx=>h x (qE _ hx))
  have hp:=h p qH;unfold nb at hp;refine⟨⟨p,by omega⟩::q,?_,by simp[h2]⟩
  rw[toQ,dif_pos (by omega),h1]
def qtt (l:List Pc):List Pc:=match toQ l with|some q=>(quy q).map (·.1)|none=>[]
theorem q7b (l:List Pc) (h:∀ p∈l,nb p) (hl:l.length<=4000000):qxr l=some (qtt l)/\(qtt l).Perm l/\(qtt l).Pairwise (fun x y=>x.2.1<=y.2.1):=by
 have hrm:=qf1;obtain⟨q,h1,h2⟩:=zob l h;have h3:=zcd q;unfold qxr qtt;rw[h1,qaa (by omega)]
 refine⟨rfl,?_,?_⟩
 ·have:=h3.1.map (·.1);rw[h2]at this;exact this
 ·exact List.pairwise_map.2 h3.2
def qy1:List Pc->Int->Bs->Option Bs
 | [],_,out=>some out
 | p::q,k,out=>if p.2.1=k then qy1 q (k+1) (out++q0o p) else none
def numd:List Pc->Int->Prop
 | [],_=>True
 | p::q,k=>p.2.1=k/\numd q (k+1)
theorem q2r:∀ (q:List Pc) (k:Int) (out:Bs),numd q k->qy1 q k out=some (out++q.flatMap q0o)
 | [],_,out,_=>by simp[qy1]
 | p::q,k,out,h=>by rw[qy1,qX h.1,q2r q _ _ h.2];simp
theorem q3x:∀ (q:List Pc) (k:Int) (out v:Bs),qy1 q k out=some v->numd q k
 | [],_,_,_,_=>trivial
 | p::q,k,out,v,h=>by
  rw[qy1]at h;by_cases hp:p.2.1=k
  ·rw[qX hp]at h;exact⟨hp,q3x q _ _ _ h⟩
  ·rw[qW hp]at h;cases h
theorem q7v (q:List Pc) (k:Int) (out:Bs) (h:¬ numd q k):qy1 q k out=none:=by
 cases hl:qy1 q k out with
 | none=>rfl
 | some v=>exact absurd (q3x q k out v hl) h
def Cov (q:List Pc) (k:Int):Prop:=∀ j:Nat,j<q.length->∃ p∈q,p.2.1=k+j
theorem pig (m:Nat):∀ (l:List Pc) (k:Int),(∀ j:Nat,j<m->∃ p∈l,p.2.1=k+j)->m<=l.length:=by
 induction m with
 | zero=>intro l k _;omega
 | succ m ih=>
  intro l k h;obtain⟨p,hp,hk⟩:=h m (by omega)
  obtain⟨a,b,rfl⟩:=List.append_of_mem hp;have:=ih (a++b) k (fun j hj=>by
   obtain⟨x,hx,hxk⟩:=h j (by omega)
   refine⟨x,?_,hxk⟩;rcases List.mem_append.1 hx with g|g
   ·exact List.mem_append_left _ g
   ·rcases List.mem_cons.1 g with g|g
    ·subst g;omega
    ·exact List.mem_append_right _ g)
  rw[qM]at this;rw[qM,qL];omega
theorem zgj:∀ (q:List Pc) (k:Int),q.Pairwise (fun x y=>x.2.1<=y.2.1)->Cov q k->numd q k
 | [],_,_,_=>trivial
 | p::r,k,hs,hc=>by
  rw[List.pairwise_cons]at hs;have vbt:(p::r).length=r.length+1:=rfl;have h1:k<=p.2.1/\p.2.1<k+(r.length+1:Nat):=by
   by_cases g:k<=p.2.1/\p.2.1<k+(r.length+1:Nat)
   ·exact g
   ·exfalso;have:=pig (r.length+1) r k (fun j hj=>by
     obtain⟨x,hx,hxk⟩:=hc j (by omega)
     rcases List.mem_cons.1 hx with e|e
     ·subst e;exact absurd ⟨by omega,by omega⟩ g
     ·exact⟨x,e,hxk⟩)
    omega
  have h2:p.2.1=k:=by
   obtain⟨x,hx,hxk⟩:=hc 0 (by omega)
   rcases List.mem_cons.1 hx with e|e
   ·subst e;omega
   ·have:=hs.1 x e;omega
  refine⟨h2,zgj r (k+1) hs.2 fun j hj => ?_⟩
  obtain⟨x,hx,hxk⟩:=hc (j+1) (by omega)
  rcases List.mem_cons.1 hx with e|e
  ·subst e;omega
  ·exact⟨x,e,by omega⟩
theorem zoi:∀ (q:List Pc) (k:Int),numd q k->∀ x∈q,k<=x.2.1
 | [],_,_,_,h=>by cases h
 | p::r,k,h,x,hx=>by
  rcases List.mem_cons.1 hx with e|e
  ·subst e;exact Int.le_of_eq h.1.symm
  ·have:=zoi r _ h.2 x e;omega
theorem Cov.perm {q q':List Pc} {k:Int} (h:Cov q k) (hp:q.Perm q'):Cov q' k:=fun j hj=>by
 obtain⟨x,hx,e⟩:=h j (by rw[hp.length_eq];exact hj)
 exact⟨x,hp.mem_iff.1 hx,e⟩
def q36:List Pc->Option Bs
 | []=>none
 | p::l=>if p.2.1<0 then (if l=[] then some p.2.2.2 else none) else (qy1 (qtt (p::l)) 0 []).map fun v=>vu [239,191,189] v.length false v
theorem qw6 (p:Pc) (l:List Pc):q36 (p::l)=if p.2.1<0 then (if l=[] then some p.2.2.2 else none) else (qy1 (qtt (p::l)) 0 []).map fun v=>vu [239,191,189] v.length false v:=rfl
theorem qu0 (p:Pc) (l:List Pc):szQ (p::l)=(p.1.length+p.2.2.2.length+1)+szQ l:=by unfold szQ;simp
theorem q50 {l l':List Pc} (h:l.Perm l'):szQ l=szQ l':=by unfold szQ;exact (h.map _).sum_nat
theorem q0c {l:List Pc} {p:Pc} (h:p∈l):p.1.length+p.2.2.2.length+1<=szQ l:=by
 obtain⟨a,b,rfl⟩:=List.append_of_mem h;unfold szQ;simp;omega
theorem vbh (fu n:Nat) (hfu:90000000<=fu) (z:Bs×Bs) (nm:Bs):∀ (vbs vbr:List Pc) (out:Bs),vbr.length<n->vbs.length+vbr.length<100000000->out.length+szQ vbr<=300000 ->
  ∃ R,qem fu n ((vbs.length+vbr.length:Nat):Int) (vbs.length:Int) z (nm,out) (vbs++vbr)=some R/\match qy1 vbr (vbs.length:Int) out with
   | some v=>R=((nm,vu [239,191,189] v.length false v),true)
   | none=>R.2=false:=by
 induction n with
 | zero=>intro vbs vbr out h;exact absurd h (by omega)
 | succ n ih=>
  intro vbs vbr out h hb hz;rw[qem,qla]
  cases vbr with
  | nil=>
   rw[qac (by simp),ze7 out (by simp[szQ]at hz;omega)]
   exact⟨_,rfl,rfl⟩
  | cons p t=>
   rw[qu0]at hz;simp only[qL]at h hb;have hl:0<=(vbs.length:Int)/\(vbs.length:Int).toNat<(vbs++p::t).length:=by simp
   have htl:=qvt p;rw[qaa (by simp only[qL];omega),qaa hl,q0a,qB,qqb,qy1]
   by_cases hp:p.2.1=(vbs.length:Int)
   ·rw[qW (by simpa using hp),qX hp,zq0 fu hfu p (by omega),qB,qaa (by simp[qad];omega),qai _ (by omega)]
    have:=ih (vbs++[p]) t (out++q0o p) (by omega) (by simp;omega) (by rw[qM];omega)
    simp only[qM,qL,qZ,qS,wM,wO]at this;rw[show (vbs.length+(p::t).length:Nat)=vbs.length+1+t.length by simp only[qL];omega,show (vbs.length:Int)+1=((vbs.length+1:Nat):Int) by omega]
    exact this
   ·rw[qX hp,qW hp];exact⟨_,rfl,rfl⟩
theorem zjc (fu:Nat) (hfu:90000000<=fu) (p:Pc) (l:List Pc) (hz:szQ (p::l)<=300000) (hn:∀ x∈p::l,nb x):∃ R,qhf fu (p::l)=some R/\match q36 (p::l) with
  | some v=>R=((p.1,v),true)
  | none=>R.2=false:=by
 have hl:decide (0<=(0:Int)/\(0:Int).toNat<List.length (p::l))=true:=by simp
 have vbt:=qoo (p::l);unfold qhf;rw[qw6,qau hl,show (p::l)[(0:Int).toNat]? = some p from rfl,qB,qau hl,qB,qau hl,qB]
 by_cases h0:p.2.1<0
 ·rw[qaa h0,qX h0];refine⟨_,rfl,?_⟩
  cases l with
  | nil=>rfl
  | cons y l=>rw[qW (by simp)];simp;omega
 ·rw[qac h0,qW h0];obtain⟨h1,h2,h3⟩:=q7b (p::l) hn (by omega)
  rw[h1,qB];obtain⟨R,g1,g2⟩:=vbh fu fu hfu ([],[]) p.1 [] (qtt (p::l)) [] (by rw[h2.length_eq];omega) (by rw[h2.length_eq];simp only[qZ];omega) (by rw[q50 h2];simpa using hz)
  simp only[List.nil_append,qZ,wO]at g1 g2;refine⟨R,g1,?_⟩;rw[show ((0:Nat):Int)=0 from rfl]at g2
  cases hq:qy1 (qtt (p::l)) 0 [] with
  | none=>rw[hq]at g2;exact g2
  | some v=>rw[hq]at g2;exact g2
def qh1 (nm:Bs) (l:List Pc):List Pc:=l.filter fun x=>lk x.1 nm
def qrf:List Pc->List Pc->List Prm->Bool×List Prm
 | _,[],out=>(true,out)
 | vbs,p::vbr,out=>if vbs.any (fun x=>lk x.1 p.1)=true then qrf (vbs++[p]) vbr out else match q36 (qh1 p.1 (vbs++p::vbr)) with
  | none=>(false,[])
  | some v=>qrf (vbs++[p]) vbr (out++[(p.1,v)])
theorem z0t (fu n:Nat) (hfu:90000000<=fu) (p:Pc) (hp:p.1.length<=4000000):∀ (vbs vbr:List Pc),vbr.length<n->vbs.length+vbr.length<100000000->(∀ x∈vbr,x.1.length<=4000000) ->
  ∃ i:Int,qan fu n (vbs++vbr) ((vbs.length+vbr.length:Nat):Int) (vbs.length:Int) p=some (i,p)/\decide (0<=i)=vbr.any (fun x=>lk x.1 p.1):=by
 induction n with
 | zero=>intro vbs vbr h;exact absurd h (by omega)
 | succ n ih=>
  intro vbs vbr h hb hs;rw[qan,qa8]
  cases vbr with
  | nil=>rw[qac (by simp)];exact⟨_,rfl,rfl⟩
  | cons d vbr=>
   simp only[qL]at h hb;rw[qaa (by simp only[qL];omega),qao,qB,qi7,quq fu hfu _ _ (hs d qH) hp,qB,qB,qai _ (by omega)]
   obtain⟨i,h1,h2⟩:=ih (vbs++[d]) vbr (by omega) (by simp;omega) (fun x hx=>hs x (qE _ hx))
   simp only[qM,qL,qZ,qS,wM,wO]at h1;cases e:lk d.1 p.1
   ·simp only[qF,List.any_cons,e,Bool.false_or];rw[show (vbs.length+(d::vbr).length:Nat)=vbs.length+1+vbr.length by simp only[qL];omega]
    exact⟨i,h1,h2⟩
   ·simp only[qT,List.any_cons,e,Bool.true_or];exact⟨_,rfl,decide_eq_true (by omega)⟩
theorem zyj (fu:Nat) (hfu:90000000<=fu) (l:List Pc) (p:Pc) (hp:p.1.length<=4000000) (hl:l.length<=4000000) (hs:∀ x∈l,x.1.length<=4000000):qaw fu l p=some (l.any (fun x=>lk x.1 p.1),p):=by
 obtain⟨i,h1,h2⟩:=z0t fu fu hfu p hp [] l (by omega) (by simp;omega) hs
 simp only[List.nil_append,qZ,wO]at h1;unfold qaw qbh;rw[← h2];exact (congrArg (fun q=>Option.bind q fun x1=>some (decide ((0:Int)<=x1.1),x1.2)) h1).trans rfl
def ztk (r0:q79) (s0 s13:List Pc) (s14 s15:Int) (p:Pc) (out:List Prm) (x3:(Bs×Bs)×Bool):Option qlj:=bif !x3.2 then some (false,[]) else bif decide (List.length (out++([(p.1,x3.1.2)]:List Prm))<=qaq) then r0 s0 s13 s14 (w64 (s15+(1:Int))) (out++([(p.1,x3.1.2)]:List Prm)) else none
theorem vag (fu:Nat) (hfu:90000000<=fu) (r0:q79) (s0 s13:List Pc) (s14 s15:Int) (p:Pc) (hp:p.1.length<=4000000) (out:List Prm) (n:Nat):∀ (vbs vbr acc:List Pc),vbr.length<n->vbs.length+vbr.length<100000000->acc.length<=vbs.length->(∀ x∈vbr,x.1.length<=4000000) ->
  qg4 fu r0 n s0 s13 s14 s15 (vbs++vbr) ((vbs.length+vbr.length:Nat):Int) (vbs.length:Int) p out acc =
   (qhf fu (acc++qh1 p.1 vbr)).bind (ztk r0 s0 s13 s14 s15 p out):=by
 have hrm:=qf1
 induction n with
 | zero=>intro vbs vbr acc h;exact absurd h (by omega)
 | succ n ih=>
  intro vbs vbr acc h hb ha hs;rw[qg4,qob]
  cases vbr with
  | nil=>rw[qac (by simp),show qh1 p.1 []=[] from rfl,List.append_nil];rfl
  | cons d vbr=>
   simp only[qL]at h hb;rw[qaa (by simp only[qL];omega),qao,qB,qi7,quq fu hfu _ _ (hs d qH) hp,qB,qB]
   have h1:=fun acc' (ha':acc'.length<=vbs.length+1)=>ih (vbs++[d]) vbr acc' (by omega) (by simp;omega) (by simpa using ha') (fun x hx=>hs x (qE _ hx))
   simp only[qM,qL,qZ,qS,wM,wO]at h1;rw[show qh1 p.1 (d::vbr)=if lk d.1 p.1=true then d::qh1 p.1 vbr else qh1 p.1 vbr by unfold qh1;rw[List.filter_cons]]
   cases e:lk d.1 p.1
   ·simp only[qF,wJ,if_false];rw[qhw,qai _ (by omega),show (vbs.length+(d::vbr).length:Nat)=vbs.length+1+vbr.length by simp only[qL];omega]
    exact h1 acc (by omega)
   ·simp only[qT,if_true];rw[qaa (by simp;omega),qhw,qai _ (by omega),show (vbs.length+(d::vbr).length:Nat)=vbs.length+1+vbr.length by simp only[qL];omega]
    refine (h1 (acc++[d]) (by simp;omega)).trans ?_
    rw[qS];rfl
theorem qz2 (f:Pc->Bool) (l:List Pc):szQ (l.filter f)<=szQ l:=by
 induction l with
 | nil=>simp
 | cons p l ih=>
  rw[List.filter_cons];split
  ·rw[qu0,qu0];omega
  ·rw[qu0];omega
theorem zju (fu:Nat) (hfu:90000000<=fu) (l:List Pc) (hz:szQ l<=300000) (hn:∀ x∈l,nb x) (n:Nat):∀ (vbs vbr:List Pc) (out:List Prm),l=vbs++vbr->vbr.length<n->out.length<=vbs.length ->
  qex fu n l (vbs++vbr) ((vbs.length+vbr.length:Nat):Int) (vbs.length:Int) out=some (qrf vbs vbr out):=by
 have hrm:=qf1;have hll:=qoo l;have hnm:∀ x∈l,x.1.length<=4000000:=fun x hx=>by have:=q0c hx;omega
 induction n with
 | zero=>intro vbs vbr out _ h;exact absurd h (by omega)
 | succ n ih=>
  intro vbs vbr out hl h ho;rw[qex,qov]
  cases vbr with
  | nil=>rw[qac (by simp)];rfl
  | cons p vbr=>
   simp only[qL]at h;have vbt:l.length=vbs.length+vbr.length+1:=by rw[hl];simp;omega
   have hp:=hnm p (by rw[hl];simp)
   rw[qaa (by simp only[qL];omega),qao,qB,qaa (by omega)]
   have e:List.take ((vbs.length:Nat):Int).toNat l=vbs:=by rw[hl];exact qus _ _
   rw[e,zyj fu hfu vbs p hp (by omega) (fun x hx=>hnm x (by rw[hl];simp[hx])),qB,qrf]
   have step:=fun o (ho:List.length o<=vbs.length+1)=>ih (vbs++[p]) vbr o (by rw[hl];simp) (by omega) (by simpa using ho)
   simp only[qM,qL,qZ,qS,wM,wO]at step;simp only;cases hany:vbs.any (fun x=>lk x.1 p.1)
   ·rw[qax rfl,qW (by simp)]
    have h1:=vag fu hfu (qex fu n) l (vbs++p::vbr) ((vbs.length+(p::vbr).length:Nat):Int) (vbs.length:Int) p hp out fu [] l [] (by omega) (by simp;omega) (by simp) hnm
    simp only[List.nil_append,qZ,wO]at h1;rw[show ((0:Nat):Int)=0 from rfl]at h1
    rw[h1];have hmem:p∈qh1 p.1 l:=by unfold qh1;rw[List.mem_filter];exact⟨by rw[hl];simp,zax _⟩
    have hzz:=qz2 (fun x=>lk x.1 p.1) l
    cases hN:qh1 p.1 l with
    | nil=>rw[hN]at hmem;cases hmem
    | cons y w=>
     obtain⟨R,g1,g2⟩:=zjc fu hfu y w (by rw[← hN];unfold qh1;omega) (fun x hx=>hn x (by rw[← hN]at hx;exact (List.mem_filter.1 hx).1))
     rw[g1,qB];rw[← hl,hN]
     cases hj:q36 (y::w) with
     | none=>rw[hj]at g2;simp only at g2;rw[ztk,g2];rfl
     | some v=>
      rw[hj]at g2;simp only at g2;subst g2;rw[ztk,qb2,qaa (by simp;omega),qai _ (by omega)]
      simp only;rw[show (vbs.length+(p::vbr).length:Nat)=vbs.length+1+vbr.length by simp only[qL];omega]
      have st:=step (out++[(p.1,v)]) (by simp;omega)
      rw[← hl]at st;exact st
   ·rw[qau rfl,qX rfl,qai _ (by omega),show (vbs.length+(p::vbr).length:Nat)=vbs.length+1+vbr.length by simp only[qL];omega]
    exact step out (by omega)
theorem zj2 (fu:Nat) (hfu:90000000<=fu) (l:List Pc) (hz:szQ l<=300000) (hn:∀ x∈l,nb x):qjd fu l=some (qrf [] l []):=by
 have hll:=qoo l;have:=zju fu hfu l hz hn fu [] l [] rfl (by omega) (by simp)
 simpa [qjd] using this
end Go.Sym
namespace Go.Sym
theorem q4i:∀ (q:List Pc) (k:Int),numd q k->∀ x∈q,∀ y∈q,x.2.1=y.2.1->x=y
 | [],_,_,x,hx,_,_,_=>by cases hx
 | p::r,k,h,x,hx,y,hy,e=>by
  have hg:=zoi r _ h.2;have h1:=h.1;rcases List.mem_cons.1 hx with ex|ex
  ·rcases List.mem_cons.1 hy with ey|ey
   ·rw[ex,ey]
   ·subst ex;have:=hg y ey;omega
  ·rcases List.mem_cons.1 hy with ey|ey
   ·subst ey;have:=hg x ex;omega
   ·exact q4i r _ h.2 x ex y ey e
theorem idxD {l u w:List Pc} {x:Pc} (h:l=u++x::w):idx (l.map toD) (u.length:Int)=some (toD x):=by
 subst h;have:=qao (u.map toD) (toD x) (w.map toD);rw[wC]at this;rw[List.map_append,List.map_cons];exact this
section ref
variable (fu:Nat) (hfu:90000000<=fu) (l vbs vbr:List Pc) (p:Pc) (hl:l=vbs++p::vbr) (hz:szQ l<=300000) (b0 b1 T S:Bs) (ps:List Prm) (r4:qmc)
include hfu hl hz
theorem zru:∀ x∈l,x.1.length<=4000000:=fun x hx=>by have _:=hfu;have _:=hl;have:=q0c hx;omega
theorem rp6 (n:Nat):∀ (u w:List Pc) (seen:Bool),vbs=u++w->w.length<n ->
  qhq fu r4 n (vbs.length:Int) seen (u.length:Int) b0 b1 T S (l.map toD) ps=qbl fu r4 fu (vbs.length:Int) (seen||w.any (fun x=>lk p.1 x.1)) (0:Int) (0:Int) b0 b1 T S (l.map toD) ps:=by
 have hnm:=zru fu hfu l vbs vbr p hl hz;have hll:=qoo l;have vbt:l.length=vbs.length+vbr.length+1:=by rw[hl];simp;omega
 induction n with
 | zero=>intro u w seen _ h;exact absurd h (by omega)
 | succ n ih=>
  intro u w seen hp h;rw[qhq,qn2];have hpl:vbs.length=u.length+w.length:=by rw[hp];simp
  cases w with
  | nil=>rw[qac (by simp only[qZ]at hpl;omega)];simp
  | cons x w=>
   simp only[qL]at h hpl;have st:=fun sn=>ih (u++[x]) w sn (by rw[hp];simp) (by omega)
   simp only[qM,qL,qZ,wO]at st;rw[qaa (by omega),List.any_cons]
   have hx:x∈l:=by rw[hl,hp];simp
   cases seen
   ·rw[qax rfl,qr2,idxD hl,qB,qr2,idxD (show l=u++x::(w++p::vbr) by rw[hl,hp];simp),qB]
    show (qdn fu p.1 x.1).bind _=_;rw[qud fu hfu _ _ (hnm p (by rw[hl];simp)) (hnm x hx),qB,qgk,qai _ (by omega),st]
    simp
   ·rw[qau rfl,qgk,qai _ (by omega),st]
    simp
theorem rp8 (n:Nat):∀ (u w:List Pc) (seen:Bool) (c:Nat),l=u++w->w.length<n->c<=u.length ->
  qbl fu r4 n (vbs.length:Int) seen (c:Int) (u.length:Int) b0 b1 T S (l.map toD) ps=qbl fu r4 1 (vbs.length:Int) seen ((c+(w.filter (fun x=>lk p.1 x.1)).length:Nat):Int) (l.length:Int) b0 b1 T S (l.map toD) ps:=by
 have hnm:=zru fu hfu l vbs vbr p hl hz;have hll:=qoo l
 induction n with
 | zero=>intro u w seen c _ h;exact absurd h (by omega)
 | succ n ih=>
  intro u w seen c hp h hc;have hpl:l.length=u.length+w.length:=by rw[hp];simp
  cases w with
  | nil=>
   rw[List.append_nil]at hp;subst hp;rw[qbl,qbl];simp only[List.filter_nil,qZ,Nat.add_zero];have hend:¬ ((l.length:Int)<(List.length (l.map toD):Int)):=by rw[wC];omega
   rw[qey,qey,qac hend,qac hend]
  | cons x w=>
   simp only[qL]at h hpl;rw[qbl,qey];have st:=fun c' (hc':c'<=u.length+1)=>ih (u++[x]) w seen c' (by rw[hp];simp) (by omega) (by simpa using hc')
   simp only[qM,qL,qZ,wO]at st;have hx:x∈l:=by rw[hp];simp
   rw[qaa (by rw[wC];omega),qr2,idxD hl,qB,qr2,idxD hp,qB]
   show (qdn fu p.1 x.1).bind _=_;rw[qud fu hfu _ _ (hnm p (by rw[hl];simp)) (hnm x hx),qB,List.filter_cons]
   cases hk:lk p.1 x.1
   ·rw[qax rfl,qf5,qai _ (by omega),st c (by omega)];rfl
   ·rw[qau rfl,qf5,qai _ (by omega),qai _ (by omega),st (c+1) (by omega)]
    simp only[if_true,qL];rw[show c+1+(w.filter (fun x=>lk p.1 x.1)).length=c+((w.filter (fun x=>lk p.1 x.1)).length+1) by omega]
theorem rp17 (r13:qm5) (c:Int) (v:Bs) (nn:Int) (n:Nat):∀ (u w:List Pc) (j:Int),l=u++w->w.length<n ->
  ∃ j',qas fu r4 r13 n (vbs.length:Int) c v nn j (u.length:Int) b0 b1 T S (l.map toD) ps=qas fu r4 r13 1 (vbs.length:Int) c v nn j' (l.length:Int) b0 b1 T S (l.map toD) ps /\
   ((j'=j/\∀ x∈w,¬ (lk p.1 x.1=true/\x.2.1=nn))\/∃ x∈w,lk p.1 x.1=true/\x.2.1=nn/\idx (l.map toD) j'=some (toD x)):=by
 have hnm:=zru fu hfu l vbs vbr p hl hz;have hll:=qoo l
 induction n with
 | zero=>intro u w j _ h;exact absurd h (by omega)
 | succ n ih=>
  intro u w j hp h;have hpl:l.length=u.length+w.length:=by rw[hp];simp
  cases w with
  | nil=>
   rw[List.append_nil]at hp;subst hp;refine⟨j,?_,.inl ⟨rfl,by simp⟩⟩
   have hend:¬ ((l.length:Int)<(List.length (l.map toD):Int)):=by rw[wC];omega
   rw[qas,qas,qcy,qcy,qac hend,qac hend]
  | cons x w=>
   simp only[qL]at h hpl;rw[qas,qcy];have st:=fun j'=>ih (u++[x]) w j' (by rw[hp];simp) (by omega)
   simp only[qM,qL,qZ,wO]at st;have hx:x∈l:=by rw[hp];simp
   rw[qaa (by rw[wC];omega),qr2,idxD hl,qB,qr2,idxD hp,qB]
   have hsk:¬ (lk p.1 x.1=true/\x.2.1=nn)->∃ j',qas fu r4 r13 n (vbs.length:Int) c v nn j ((u.length+1:Nat):Int) b0 b1 T S (l.map toD) ps=qas fu r4 r13 1 (vbs.length:Int) c v nn j' (l.length:Int) b0 b1 T S (l.map toD) ps /\
     ((j'=j/\∀ y∈x::w,¬ (lk p.1 y.1=true/\y.2.1=nn))\/∃ y∈x::w,lk p.1 y.1=true/\y.2.1=nn/\idx (l.map toD) j'=some (toD y)):=fun hno=>by
    obtain⟨j',g1,g2⟩:=st j;refine⟨j',g1,?_⟩;rcases g2 with ⟨g2,g3⟩|⟨y,g2,g3⟩
    ·exact .inl ⟨g2,fun y hy=>(List.mem_cons.1 hy).elim (fun e=>e▸hno) (g3 y)⟩
    ·exact .inr ⟨y,qE _ g2,g3⟩
   show ∃ j',(qdn fu p.1 x.1).bind _=_/\_;rw[qud fu hfu _ _ (hnm p (by rw[hl];simp)) (hnm x hx),qB]
   cases hk:lk p.1 x.1
   ·rw[qax rfl,qge,qax rfl,qeb,qai _ (by omega)]
    exact hsk (by simp[hk])
   ·rw[qau rfl,qr2,idxD hp,qB,qge];show ∃ j',(bif x.2.1==nn then _ else _)=_/\_
    rw[qsw];by_cases hn:x.2.1=nn
    ·rw[qX hn,qeb,qai _ (by omega)]
     obtain⟨j',g1,g2⟩:=st (u.length:Int);refine⟨j',g1,.inr ?_⟩;rcases g2 with ⟨g2,g3⟩|⟨y,g2,g3⟩
     ·exact⟨x,qH,hk,hn,by rw[g2];exact idxD hp⟩
     ·exact⟨y,qE _ g2,g3⟩
    ·rw[qW hn,qeb,qai _ (by omega)]
     exact hsk (by simp[hn])
omit hl in
theorem zvr (r13:qm5) (a c:Int) (v:Bs) (nn:Nat) (j:Int) (x:Pc) (hx:x∈l) (hn:x.2.1=(nn:Int)) (hj:idx (l.map toD) j=some (toD x)) (hv:v.length<=100000000000) (hnn:nn<=4000000) :
  qas fu r4 r13 1 a c v (nn:Int) j (l.length:Int) b0 b1 T S (l.map toD) ps=r13 a c (v++q0o x) ((nn+1:Nat):Int) b0 b1 T S (l.map toD) ps:=by
 have hxl:=q0c hx;have h0:0<=j:=by
  by_cases h:0<=j
  ·exact h
  ·unfold idx at hj;rw[qW h]at hj;cases hj
 rw[qas,qcy,qac (by rw[wC];omega),qac (by omega),qr2,hj,qB,qr2,hj,qB]
 have p22:∀ t:Bs,t.length<=4000000->qec fu r4 r13 a c v (nn:Int) t b0 b1 T S (l.map toD) ps=r13 a c (v++t) ((nn+1:Nat):Int) b0 b1 T S (l.map toD) ps:=fun t ht=>by
  rw[qec,qaa (by simp only[qad];omega),qmt,qai _ (by omega)]
 have p23:∀ t:Bs,t.length<=4000000->qgi fu r4 r13 a c v (nn:Int) t b0 b1 T S (l.map toD) ps=r13 a c (v++pct t) ((nn+1:Nat):Int) b0 b1 T S (l.map toD) ps:=fun t ht=>by
  rw[qgi,zzv fu hfu t ht,qB,p22 _ (by have:=zhh _ t (wF _);omega)]
 unfold q0o zb1;show (bif x.2.2.1 then (bif (nn:Int)==0 then (bif decide ((6:Int)<=(x.2.2.2.length:Int)) then (bif decide (0<=(6:Int)/\(6:Int)<=(List.length x.2.2.2:Int)) then (qme fu (List.take (6:Int).toNat x.2.2.2)).bind fun x7=>qbc fu r4 r13 a c v (nn:Int) x.2.2.2 (x7==([117,116,102,56,39,39]:Bs)) b0 b1 T S (l.map toD) ps else none) else qbc fu r4 r13 a c v (nn:Int) x.2.2.2 false b0 b1 T S (l.map toD) ps) else qbc fu r4 r13 a c v (nn:Int) x.2.2.2 false b0 b1 T S (l.map toD) ps) else qec fu r4 r13 a c v (nn:Int) x.2.2.2 b0 b1 T S (l.map toD) ps)=_
 cases hs:x.2.2.1
 ·rw[qax rfl,p22 _ (by omega),qW (by simp)]
 rw[qau rfl,qX rfl,qsw,hn];by_cases hz0:(nn:Int)=0
 ·rw[qX hz0];by_cases h6:6<=x.2.2.2.length
  ·have h6':(List.take (6:Int).toNat x.2.2.2).length=6:=by show (List.take 6 _).length=6;rw[List.length_take];omega
   rw[qaa (by omega),qaa (by omega),qxb fu _ (by omega) (by rw[h6'];simp[maxLen]),qB,qbc]
   show (bif lk (x.2.2.2.take 6) [117,116,102,56,39,39] then _ else _)=_
   cases hk:lk (x.2.2.2.take 6) [117,116,102,56,39,39]
   ·rw[qax rfl,p23 _ (by omega),qW (by simp)]
   ·rw[qau rfl,qaa (by omega),qX ⟨hz0,h6,rfl⟩]
    exact p23 (x.2.2.2.drop 6) (by simp;omega)
  ·rw[qac (by omega),qbc,qax rfl,p23 _ (by omega),qW (by omega)]
 ·rw[qW hz0,qbc,qax rfl,p23 _ (by omega),qW (by omega)]
theorem zfg (r13:qm5) (c:Int) (v:Bs) (nn:Int):qas fu r4 r13 1 (vbs.length:Int) c v nn (-1) (l.length:Int) b0 b1 T S (l.map toD) ps=some bad:=by
 have _:=hfu;have _:=hl;have _:=hz;rw[qas,qcy,qac (by rw[wC];omega),qaa (by omega)];rfl
theorem zlu (q:List Pc) (hq:numd q 0) (hqm:∀ x,x∈q↔(x∈l/\lk p.1 x.1=true)) (n:Nat):∀ (done rest:List Pc) (v:Bs),q=done++rest->rest.length<n->v.length+szQ rest<=300000->numd rest (done.length:Int)->q.length<=300000 ->
  qav fu r4 n (vbs.length:Int) (q.length:Int) v (done.length:Int) b0 b1 T S (l.map toD) ps=qav fu r4 1 (vbs.length:Int) (q.length:Int) (v++rest.flatMap q0o) (q.length:Int) b0 b1 T S (l.map toD) ps:=by
 have hll:=qoo l
 induction n with
 | zero=>intro done rest v _ h;exact absurd h (by omega)
 | succ n ih=>
  intro done rest v hd h hv hnum hqb;have hql:q.length=done.length+rest.length:=by rw[hd];simp
  cases rest with
  | nil=>
   rw[List.append_nil]at hd;subst hd;have hend:¬ ((q.length:Int)<(q.length:Int)):=by omega
   rw[qav,qav,qcx,qcx,qac hend,qac hend];simp
  | cons x t=>
   simp only[qL]at h hql;rw[qu0]at hv;have hxq:x∈q:=by rw[hd];simp
   have hxl:=(hqm x).1 hxq;have hxn:x.2.1=(done.length:Int):=hnum.1;rw[qav,qcx,qaa (by omega)]
   obtain⟨j',g1,g2⟩:=rp17 fu hfu l vbs vbr p hl hz b0 b1 T S ps r4 (qav fu r4 n) (q.length:Int) v (done.length:Int) fu [] l (-1) rfl (by omega)
   rw[show (([]:List Pc).length:Int)=0 from rfl]at g1
   rw[g1];rcases g2 with ⟨_,g3⟩|⟨y,g2,g3,g4,g5⟩
   ·exact absurd ⟨hxl.2,hxn⟩ (g3 x hxl.1)
   ·have hyq:y∈q:=(hqm y).2 ⟨g2,g3⟩;have hyx:y=x:=q4i q 0 hq y hyq x hxq (by rw[g4,hxn])
    subst hyx;rw[zvr fu hfu l hz b0 b1 T S ps r4 _ _ _ v done.length j' y g2 g4 g5 (by omega) (by omega)]
    have htl:=qvt y;have st:=ih (done++[y]) t (v++q0o y) (by rw[hd];simp) (by omega) (by rw[qM];omega) (by rw[qM,wD];have:=hnum.2;rw[show ((done.length+1:Nat):Int)=(done.length:Int)+1 by omega];exact this) hqb
    simp only[qM,qL,qZ,wO]at st;refine st.trans ?_;rw[List.flatMap_cons,qS]
theorem zkr (cnt k:Nat) (hk:k<cnt) (hno:∀ x∈l,¬ (lk p.1 x.1=true/\x.2.1=(k:Int))) (hc:cnt<=300000) (n:Nat):∀ (nn:Nat) (v:Bs),nn<=k->cnt-nn<n->v.length<=nn*300000 ->
  qav fu r4 n (vbs.length:Int) (cnt:Int) v (nn:Int) b0 b1 T S (l.map toD) ps=some bad:=by
 have hll:=qoo l
 induction n with
 | zero=>intro nn v _ h;exact absurd h (by omega)
 | succ n ih=>
  intro nn v hnk h hv;rw[qav,qcx,qaa (by omega)]
  obtain⟨j',g1,g2⟩:=rp17 fu hfu l vbs vbr p hl hz b0 b1 T S ps r4 (qav fu r4 n) (cnt:Int) v (nn:Int) fu [] l (-1) rfl (by omega)
  rw[show (([]:List Pc).length:Int)=0 from rfl]at g1
  rw[g1];rcases g2 with ⟨e,_⟩|⟨y,g2,g3,g4,g5⟩
  ·rw[e];exact zfg fu hfu l vbs vbr p hl hz b0 b1 T S ps r4 _ _ v _
  ·have hne:nn≠k:=fun e=>by subst e;exact hno y g2 ⟨g3,g4⟩
   have hyl:=q0c g2;have htl:=qvt y;rw[zvr fu hfu l hz b0 b1 T S ps r4 _ _ _ v nn j' y g2 g4 g5 (by omega) (by omega)]
   exact ih (nn+1) (v++q0o y) (by omega) (by omega) (by rw[qM];omega)
end ref
theorem q92 {l vbs vbr:List Pc} {p:Pc} (hl:l=vbs++p::vbr) (h:vbs.any (fun x=>lk x.1 p.1)=false):qh1 p.1 l=p::qh1 p.1 vbr:=by
 subst hl;unfold qh1;rw[List.filter_append,List.filter_cons,qX (zax p.1)];rw[List.filter_eq_nil_iff.2]
 ·rfl
 ·intro x hx;rw[List.any_eq_false]at h;exact h x hx
theorem zd0 (fu:Nat) (hfu:90000000<=fu) (l:List Pc) (hz:szQ l<=300000) (hn:∀ x∈l,nb x) (b0 b1 T S:Bs) (n:Nat):∀ (vbs vbr:List Pc) (ps:List Prm),l=vbs++vbr->vbr.length<n->ps.length<=vbs.length ->
  qa4 fu n (vbs.length:Int) b0 b1 T S (l.map toD) ps=some (if (qrf vbs vbr ps).1=true then ((T,(S,(qrf vbs vbr ps).2)),true) else bad):=by
 have hrm:=qf1;have hll:=qoo l
 induction n with
 | zero=>intro vbs vbr ps _ h;exact absurd h (by omega)
 | succ n ih=>
  intro vbs vbr ps hl h hps;have vbt:l.length=vbs.length+vbr.length:=by rw[hl];simp
  rw[qa4,qoh]
  cases vbr with
  | nil=>rw[qac (by rw[wC];simp only[qZ]at vbt;omega)];rfl
  | cons p vbr=>
   simp only[qL]at h vbt;have st:=fun o (ho:List.length o<=vbs.length+1)=>ih (vbs++[p]) vbr o (by rw[hl];simp) (by omega) (by simpa using ho)
   simp only[qM,qL,qZ,wO]at st;rw[qaa (by rw[wC];omega)]
   have h6:=rp6 fu hfu l vbs vbr p hl hz b0 b1 T S ps (qa4 fu n) fu [] vbs false rfl (by omega)
   rw[show (([]:List Pc).length:Int)=0 from rfl]at h6
   have h8:=rp8 fu hfu l vbs vbr p hl hz b0 b1 T S ps (qa4 fu n) fu [] l (false||vbs.any (fun x=>lk p.1 x.1)) 0 rfl (by omega) (by simp)
   rw[show (([]:List Pc).length:Int)=0 from rfl,show ((0:Nat):Int)=0 from rfl]at h8
   rw[h6,h8];have hcm:(fun x:Pc=>lk p.1 x.1)=(fun x:Pc=>lk x.1 p.1):=funext fun x=>za1 _ _
   rw[hcm,Bool.false_or,wO,qbl,qey,qac (by rw[wC];omega)]
   have hP:qrf vbs (p::vbr) ps=(if vbs.any (fun x=>lk x.1 p.1)=true then qrf (vbs++[p]) vbr ps else match q36 (qh1 p.1 l) with
    | none=>(false,[])
    | some v=>qrf (vbs++[p]) vbr (ps++[(p.1,v)])):=by subst hl;rfl
   rw[hP];cases hany:vbs.any (fun x=>lk x.1 p.1)
   ·rw[qax rfl,qW (c:=(false=true)) (by simp),qr2,idxD hl,qB]
    have hnf:=q92 hl hany;have hA:(l.filter fun x=>lk x.1 p.1)=p::qh1 p.1 vbr:=hnf
    rw[hA,hnf,qw6];have hAz:szQ (p::qh1 p.1 vbr)<=300000:=by have:=qz2 (fun x=>lk x.1 p.1) l;rw[hA]at this;omega
    have hAl:=qoo (p::qh1 p.1 vbr);have hAm:∀ x,x∈p::qh1 p.1 vbr↔(x∈l/\lk p.1 x.1=true):=fun x=>by
     rw[← hA,List.mem_filter,za1]
    show (bif decide (p.2.1<0) then _ else _)=_
    by_cases h0:p.2.1<0
    ·rw[qaa h0,qX h0,qqb];by_cases h1:qh1 p.1 vbr=[]
     ·rw[qW (by rw[h1];simp),qX h1,qr2,idxD hl,qB,qr2,idxD hl,qB,qaa (by simp;omega),qai _ (by omega)]
      exact st (ps++[(p.1,p.2.2.2)]) (by simp;omega)
     ·rw[qX (by
       cases hh:qh1 p.1 vbr with
       | nil=>exact absurd hh h1
       | cons=>simp only[qL];omega),qW h1];rfl
    ·rw[qac h0,qW h0];obtain⟨_,h2,h3⟩:=q7b (p::qh1 p.1 vbr) (fun x hx=>hn x ((hAm x).1 hx).1) (by omega)
     by_cases hnum:numd (qtt (p::qh1 p.1 vbr)) 0
     ·rw[q2r _ _ _ hnum,wQ];have hm:∀ x,x∈qtt (p::qh1 p.1 vbr)↔(x∈l/\lk p.1 x.1=true):=fun x=>by rw[h2.mem_iff];exact hAm x
      have hsz:=q50 h2;have:=zlu fu hfu l vbs vbr p hl hz b0 b1 T S ps (qa4 fu n) (qtt (p::qh1 p.1 vbr)) hnum hm fu [] (qtt (p::qh1 p.1 vbr)) [] rfl (by rw[h2.length_eq];omega) (by rw[hsz];simpa using hAz) hnum (by rw[h2.length_eq];omega)
      rw[show (([]:List Pc).length:Int)=0 from rfl,h2.length_eq]at this
      rw[this,qav,qcx,qac (by omega),qr2,idxD hl,qB]
      have hvl:∀ q:List Pc,(q.flatMap q0o).length<=szQ q:=by
       intro q
       induction q with
       | nil=>simp
       | cons y q ih2=>
        have:=qvt y;rw[List.flatMap_cons,qM,qu0];omega
      have hv:=hvl (qtt (p::qh1 p.1 vbr));simp only[List.nil_append];rw[zad fu (by omega) _ (by omega) (by omega),qB,qaa (by simp;omega),qai _ (by omega)]
      exact st (ps++[(p.1,_)]) (by simp;omega)
     ·rw[q7v _ _ _ hnum,Option.map_none];have hncov:¬ Cov (p::qh1 p.1 vbr) 0:=fun hc=>hnum (zgj _ 0 h3 (hc.perm h2.symm))
      obtain⟨k,hk1,hk2⟩:∃ k:Nat,k<(p::qh1 p.1 vbr).length/\∀ x∈p::qh1 p.1 vbr,x.2.1≠(0:Int)+k:=by
       apply Classical.byContradiction;intro hq;apply hncov;intro j hj;apply Classical.byContradiction;intro hq2;exact hq ⟨j,hj,fun x hx e=>hq2 ⟨x,hx,e⟩⟩
      have:=zkr fu hfu l vbs vbr p hl hz b0 b1 T S ps (qa4 fu n) (p::qh1 p.1 vbr).length k hk1 (fun x hx hc=>hk2 x ((hAm x).2 ⟨hx,hc.1⟩) (by rw[hc.2];omega)) (by omega) fu 0 [] (by omega) (by omega) (by simp)
      rw[show ((0:Nat):Int)=0 from rfl]at this
      rw[this];rfl
   ·rw[qau rfl,qX (c:=(true=true)) rfl,qai _ (by omega)]
    exact st ps (by omega)
end Go.Sym
namespace Go.Sym
def isPt (s:List UInt8) (i:Nat):Bool:=bl (s.getD i 0) && !bl (s.getD (i-1) 0)
def cb (s:List UInt8):Nat->Nat->Nat->Nat
 | 0,_,b=>b
 | m+1,i,b=>cb s m (i+1) (if isPt s i && !(decide (0<b)&&decide (78<i)) then i else b)
theorem zih (s:List UInt8):∀ m i b,0<b->78<i->cb s m i b=b
 | 0,_,_,_,_=>rfl
 | m+1,i,b,h1,h2=>by
  rw[cb,decide_eq_true h1,decide_eq_true h2];simp only[Bool.and_self,Bool.not_true,Bool.and_false,wJ,if_false];exact zih s m (i+1) b h1 (by omega)
theorem q7l (s:List UInt8):∀ m i b,cb s m i b=b\/(i<=cb s m i b/\cb s m i b<i+m/\isPt s (cb s m i b)=true)
 | 0,_,_ => .inl rfl
 | m+1,i,b=>by
  rw[cb];split
  ·rename_i h;simp only[qA]at h;rcases q7l s m (i+1) i with e|⟨h1,h2,h3⟩
   ·rw[e];exact .inr ⟨wF _,by omega,h.1⟩
   ·exact .inr ⟨by omega,by omega,h3⟩
  ·rcases q7l s m (i+1) b with e|⟨h1,h2,h3⟩
   ·exact .inl e
   ·exact .inr ⟨by omega,by omega,h3⟩
theorem q6y (s:List UInt8) (i:Nat) (h:i<s.length):s.getD i 0=s[i]:=by simp[List.getD_eq_getElem?_getD,h]
theorem zmz (fu n:Nat):∀ (s:List UInt8) (m i b:Nat),i+m=s.length->1<=i->m<n->s.length<1000000000->qkt fu n s (b:Int) (i:Int)=some ((cb s m i b:Nat):Int):=by
 induction n with
 | zero=>intro s m i b _ _ h;exact absurd h (by omega)
 | succ n ih=>
  intro s m i b hi h1 hm hb;rw[qkt,qse]
  cases m with
  | zero=>rw[qac (by omega)];rfl
  | succ m=>
   have hlt:i<s.length:=by omega
   have hlt':i-1<s.length:=by omega
   rw[qaa (by omega),qwt _ _ hlt,qB,q1p,qB,cb]
   unfold isPt;rw[q6y _ _ hlt,q6y _ _ hlt'];unfold qnh;cases bl s[i]
   ·rw[qek,qau (by rfl),qai _ (by omega)]
    exact ih s m (i+1) b (by omega) (by omega) (by omega) hb
   ·rw[qb2,show w64 ((i:Int)-1)=((i-1:Nat):Int) by rw[qgy (by omega) (by omega)];omega,qwt _ _ hlt',qB,q1p,qB]
    cases bl s[i-1]
    ·rw[qax (by rfl),qai _ (by omega),qic,qic]
     by_cases q1:0<b
     ·rw[qX (by omega),decide_eq_true q1]
      by_cases q2:78<i
      ·rw[qX (by omega),decide_eq_true q2]
       simp only[Bool.and_self,Bool.not_true,Bool.and_false,wJ,if_false];rw[zih s m (i+1) b q1 (by omega)]
      ·rw[qW (by omega),decide_eq_false q2]
       exact ih s m (i+1) i (by omega) (by omega) (by omega) hb
     ·rw[qW (by omega),decide_eq_false q1]
      exact ih s m (i+1) i (by omega) (by omega) (by omega) hb
    ·rw[qau (by rfl),qai _ (by omega)]
     exact ih s m (i+1) b (by omega) (by omega) (by omega) hb
def brk (s:List UInt8) (k:Nat):Nat:=cb s (s.length-k) k 0
theorem zk3 (fu:Nat) (s:List UInt8) (k:Nat) (h:s.length<fu) (hb:s.length<1000000000) (hk:k<=s.length) (h0:1<=s.length):qso fu s (k:Int)=some ((brk s (max k 1):Nat):Int):=by
 unfold qso brk;have e:(if (1:Int)>(k:Int) then (1:Int) else (k:Int))=((max k 1:Nat):Int):=by
  split
  ·rename_i h;have:k=0:=by omega
   subst this;rfl
  ·rename_i h;rw[Nat.max_eq_left (by omega)]
 rw[e];exact zmz fu fu s (s.length-max k 1) (max k 1) 0 (by omega) (by omega) (by omega) hb
def qvm:Nat->List UInt8->Nat->List (List UInt8)
 | 0,s,_=>[s]
 | n+1,s,k=>if 78<s.length then (if brk s k=0 then [s] else s.take (brk s k)::qvm n (s.drop (brk s k)) 1) else [s]
theorem zgf (s:List UInt8) (k:Nat) (_h1:1<=k) (h:brk s k≠0):k<=brk s k/\brk s k<s.length/\isPt s (brk s k)=true:=by
 unfold brk at *;rcases q7l s (s.length-k) k 0 with e|⟨h2,h3,h4⟩
 ·exact absurd e h
 ·exact⟨h2,by omega,h4⟩
def q93:Nat->List (List UInt8)->Option Nat
 | _,[]=>none
 | i,l::ls=>if 998<l.length then some i else q93 (i+1) ls
def q9z (ls:List (List UInt8)):(Int×Int)×List (List UInt8):=match q93 0 ls with
 | some i=>((1,(i:Int)),[])
 | none=>((0,0),ls)
theorem zz8 (fu n:Nat) (m16:Int×Int):∀ (vbs vbr:List (List UInt8)),vbr.length<n->vbs.length+vbr.length<1000000000 ->
  qlo fu n ((vbs.length+vbr.length:Nat):Int) (vbs.length:Int) m16 (vbs++vbr)=some (match q93 vbs.length vbr with|some i=>((1,(i:Int)),[])|none=>((0,0),vbs++vbr)):=by
 induction n with
 | zero=>intro vbs vbr h;exact absurd h (by omega)
 | succ n ih=>
  intro vbs vbr h hb;rw[qlo,qth]
  cases vbr with
  | nil=>rw[qac (by simp)];rfl
  | cons c vbr=>
   simp only[qL]at h hb ⊢;rw[qaa (by omega),qr2,qao,qB,qic,q93]
   by_cases hc:998<c.length
   ·rw[qX (by omega),qX hc];rfl
   ·rw[qW (by omega),qW hc,qai _ (by omega)]
    have:=ih (vbs++[c]) vbr (by omega) (by simp;omega)
    simp only[qS,wM,qM,qL,qZ]at this;rw[show vbs.length+(0+1)+vbr.length=vbs.length+(vbr.length+1) by omega]at this
    exact this
theorem q71 (fu:Nat) (m16:Int×Int) (s:List UInt8) (out:List (List UInt8)) (h:out.length+1<fu) (hb:out.length<900000000):qld fu s m16 out=some (q9z (out++[s])):=by
 unfold qld;rw[qaa (by simp[qaq];omega)]
 have:=zz8 fu fu m16 [] (out++[s]) (by simpa using h) (by simp;omega)
 simp only[List.nil_append,qZ,wO]at this;exact this
theorem zpr (fu n:Nat) (m16:Int×Int):∀ (m:Nat) (s:List UInt8) (k k':Nat) (out:List (List UInt8)),s.length<=m->s.length<n->max k 1=k'->(78<s.length->k<=s.length)->s.length+out.length+1<fu->s.length+out.length<500000000 ->
  qle fu n s (k:Int) m16 out=some (q9z (out++qvm m s k')):=by
 induction n with
 | zero=>intro m s k k' out _ h;exact absurd h (by omega)
 | succ n ih=>
  intro m s k k' out hm h hk hk2 hf hb;rw[qle,qtg,qic];by_cases hl:78<s.length
  ·obtain⟨m,rfl⟩:∃ j,m=j+1:=⟨m-1,by omega⟩
   rw[qX (by omega),zk3 fu s k (by omega) (by omega) (hk2 hl) (by omega),hk,qB,qsw,qvm,qX hl]
   by_cases h0:brk s k'=0
   ·rw[qX (by omega),qX h0]
    exact q71 fu m16 s out (by omega) (by omega)
   ·obtain⟨h1,h2,_⟩:=zgf s k' (by omega) h0
    rw[qW (by omega),qW h0,qaa (by omega),qaa (by simp[qaq];omega),qaa (by omega)]
    have:=ih m (s.drop (brk s k')) 0 1 (out++[s.take (brk s k')]) (by rw[List.length_drop];omega) (by rw[List.length_drop];omega) rfl (by intro;omega) (by rw[List.length_drop,qM,wD];omega) (by rw[List.length_drop,qM,wD];omega)
    simpa using this
  ·rw[qW (by omega)]
   have e:qvm m s k'=[s]:=by cases m with
    | zero=>rfl
    | succ m=>rw[qvm,qW hl]
   rw[e];exact q71 fu m16 s out (by omega) (by omega)
def qia (n v:List UInt8):List UInt8:=n++[58,32]++v
def qzw (n v:List UInt8):List (List UInt8):=qvm (qia n v).length (qia n v) (n.length+2)
def zew (n v:List UInt8):(Int×Int)×List (List UInt8):=if q53 n v=0 then q9z (qzw n v) else ((q53 n v,-1),[])
theorem q9v {s:List UInt8} (h:q15 s=true):s.length<=60:=by
 unfold q15 at h;simp only[qA,decide_eq_true_eq]at h;exact h.1.2
theorem q44 {n v:List UInt8} (h:q53 n v=0):q15 n=true/\v.length<=4000/\fval v=true:=by
 unfold q53 at h;split at h
 ·rename_i h1;split at h
  ·exact absurd h (by decide)
  ·rename_i h2;split at h
   ·rename_i h3;exact⟨h1,by omega,h3⟩
   ·exact absurd h (by decide)
 ·exact absurd h (by decide)
theorem zsw (fu:Nat) (n v:List UInt8) (hfu:10000<=fu) (hv:v.length<fu) (hvb:v.length<1000000000):ql6 fu n v=some (zew n v):=by
 unfold ql6 zew;rw[znn fu n (by omega),qB]
 by_cases h0:q53 n v=0
 ·obtain⟨h1,h2,h3⟩:=q44 h0;have hn:=q9v h1;rw[qX h0,h1,qb2,qac (by omega),zjh fu v (by omega) hv hvb,qB,h3,qb2,qaa (by simp[qad];omega),qaa (by simp[qad];omega)]
  have:=zpr fu fu (0,0) (qia n v).length (qia n v) (n.length+2) (n.length+2) [] (wF _) (by simp[qia]<;>omega) (by omega) (by intro;simp[qia]<;>omega) (by simp[qia]<;>omega) (by simp[qia]<;>omega)
  rw[show w64 ((n.length:Int)+2)=((n.length+2:Nat):Int) by rw[qgy (by omega) (by omega)];omega]
  exact this
 ·rw[qW h0];unfold q53 at h0 ⊢;cases hn:q15 n
  ·rfl
  ·rw[hn]at h0;simp only[if_true]at h0 ⊢;rw[qb2,qic];by_cases hl:4000<v.length
   ·rw[qX (by omega),qX hl];rfl
   ·rw[qW hl]at h0;rw[qW (by omega),qW hl,zjh fu v (by omega) hv hvb,qB]
    cases hv3:fval v
    ·rfl
    ·rw[hv3]at h0;exact absurd rfl h0
end Go.Sym
namespace Go.Sym
def pts (s:List UInt8) (i m:Nat):List Nat:=(List.range' i m).filter (isPt s)
theorem q68 (s:List UInt8) (i m:Nat):pts s i (m+1)=(if isPt s i then [i] else [])++pts s (i+1) m:=by
 unfold pts;rw[List.range'_succ,List.filter_cons];split<;>rfl
theorem zqo (s:List UInt8) (i m k:Nat):pts s i (m+k)=pts s i m++pts s (i+m) k:=by
 unfold pts;rw[← List.filter_append];congr 1;rw[List.range'_append_1]
theorem zsp (s:List UInt8) (i m:Nat):(pts s i m).length<=m:=by
 unfold pts;have:=List.length_filter_le (isPt s) (List.range' i m);simpa using this
def rst (at_ b p:Nat):Nat:=if at_<p/\(p-at_<=78\/b=0) then p-at_ else b
theorem zfk (s:List UInt8) (a i:Nat) (h:a<i):isPt (s.drop a) (i-a)=isPt s i:=by
 unfold isPt;simp only[List.getD_eq_getElem?_getD,List.getElem?_drop];rw[show a+(i-a)=i by omega,show a+(i-a-1)=i-1 by omega]
theorem zgu (s:List UInt8) (a:Nat):∀ m i b,a<i->(pts s i m).foldl (rst a) b=cb (s.drop a) m (i-a) b
 | 0,_,_,_=>rfl
 | m+1,i,b,h=>by
  rw[q68,List.foldl_append,cb,zfk s a i h,show i-a+1=i+1-a by omega,← zgu s a m (i+1) _ (by omega)]
  congr 1;cases isPt s i
  ·rfl
  ·simp only[if_true,List.foldl_cons,List.foldl_nil,rst,Bool.true_and];by_cases q1:0<b
   ·by_cases q2:78<i-a
    ·rw[qW (by omega),qW (by simp[q1,q2])]
    ·rw[qX (by omega),qX (by simp;omega)]
   ·rw[qX (by omega),qX (by simp;omega)]
theorem zcm (s:List UInt8) (a:Nat):∀ m i b,i+m<=a+1->(pts s i m).foldl (rst a) b=b
 | 0,_,_,_=>rfl
 | m+1,i,b,h=>by
  rw[q68,List.foldl_append];have e:(if isPt s i=true then [i] else []).foldl (rst a) b=b:=by
   split
   ·simp only[List.foldl_cons,List.foldl_nil,rst];rw[qW (by omega)]
   ·rfl
  rw[e];exact zcm s a m (i+1) b (by omega)
theorem zs8 (s:List UInt8) (a k0:Nat) (h1:1<=k0) (h:a=0\/k0<=a) (ha:a<s.length) (hk:k0<=s.length):(pts s k0 (s.length-k0)).foldl (rst a) 0=brk (s.drop a) (if a=0 then k0 else 1):=by
 unfold brk;by_cases h0:a=0
 ·subst h0;rw[qX rfl,zgu s 0 _ k0 0 (by omega)]
  simp
 ·rw[qW h0,show s.length-k0=(a+1-k0)+(s.length-a-1) by omega,zqo,List.foldl_append,zcm s a (a+1-k0) k0 0 (by omega),show k0+(a+1-k0)=a+1 by omega,zgu s a _ _ _ (by omega),List.length_drop]
  rw[show a+1-a=1 by omega]
def plc (a b:Nat):Int:=if b=0 then -1 else ((a+b:Nat):Int)
theorem z91 (fu:Nat) (r2:List UInt8->Int->List Int->List (List UInt8)->Option (List (List UInt8))) (n:Nat):∀ (s:List UInt8) (a b:Nat) (vbs:List Int) (vbr:List Nat) (out:List (List UInt8)),vbr.length<n->vbs.length+vbr.length<1000000000->(∀ p∈vbr,p<s.length)->a<=s.length->s.length<1000000000->a+b<=s.length->out.length<1000000000 ->
  qgv fu r2 n s (a:Int) (plc a b) (vbs.length:Int) (vbs++vbr.map Nat.cast) out=(if vbr.foldl (rst a) b=0 then some (out++[s.drop a]) else r2 s ((a+vbr.foldl (rst a) b:Nat):Int) (vbs++vbr.map Nat.cast) (out++[(s.drop a).take (vbr.foldl (rst a) b)])):=by
 induction n with
 | zero=>intro s a b vbs vbr out h;exact absurd h (by omega)
 | succ n ih=>
  intro s a b vbs vbr out h hb hp ha hs hab ho;rw[qgv,qtn]
  cases vbr with
  | nil=>
   rw[qac (by simp),List.foldl_nil,qic]
   unfold plc;by_cases h0:b=0
   ·rw[qX h0,qX (by omega),qX h0,qaa (by omega),qaa (by simp[qaq];omega)]
    simp
   ·rw[qW h0,qW (by omega),qW h0,qaa (by omega),qaa (by simp[qaq];omega)]
    rw[show ((a+b:Nat):Int).toNat-(a:Int).toNat=b by omega]
    simp
  | cons p vbr=>
   simp only[qL]at h hb;have hp0:=hp p qH;rw[List.map_cons];have hl:((vbs++(p:Int)::vbr.map Nat.cast).length:Int)=((vbs.length+vbr.length+1:Nat):Int):=by simp;omega
   rw[hl,qaa (by omega)]
   have hlt:(0<=(vbs.length:Int)/\(vbs.length:Int).toNat<(vbs++(p:Int)::vbr.map Nat.cast).length):=by simp
   rw[qaa hlt,q0a,qB,List.foldl_cons];have fin:∀ b',a+b'<=s.length->qgv fu r2 n s (a:Int) (plc a b') (w64 ((vbs.length:Int)+1)) (vbs++(p:Int)::vbr.map Nat.cast) out=(if vbr.foldl (rst a) b'=0 then some (out++[s.drop a]) else r2 s ((a+vbr.foldl (rst a) b':Nat):Int) (vbs++(p:Int)::vbr.map Nat.cast) (out++[(s.drop a).take (vbr.foldl (rst a) b')])):=by
    intro b' hb';have:=ih s a b' (vbs++[(p:Int)]) vbr out (by omega) (by simp;omega) (fun q hq=>hp q (qE _ hq)) ha hs hb' ho
    rw[qai _ (by omega)]
    simpa using this
   unfold qlv qps;rw[qic];by_cases q1:a<p
   ·have e1:w64 ((p:Int)-(a:Int))=((p-a:Nat):Int):=by rw[qgy (by omega) (by omega)];omega
    have e2:(p:Int)=plc a (p-a):=by unfold plc;rw[qW (by omega)];omega
    rw[qX (by omega),e1,qic]
    by_cases q2:p-a<=78
    ·rw[qX (by omega),qau (by rfl),show rst a b p=p-a by unfold rst;rw[qX ⟨q1,.inl q2⟩],← fin (p-a) (by omega),← e2]
    ·rw[qW (by omega)]
     by_cases q3:b=0
     ·rw[qau (by unfold plc;rw[qX q3];rfl),show rst a b p=p-a by unfold rst;rw[qX ⟨q1,.inr q3⟩],← fin (p-a) (by omega),← e2]
     ·rw[qax (by unfold plc;rw[qW q3];exact decide_eq_false (by omega)),show rst a b p=b by unfold rst;rw[qW (by omega)],fin b hab]
   ·rw[qW (by omega),qax (by rfl),show rst a b p=b by unfold rst;rw[qW (by omega)],fin b hab]
theorem zos (fu n:Nat) (s:List UInt8) (k0:Nat) (hk1:1<=k0) (hk:k0<=s.length) (hs:s.length<500000000) (hfu:s.length<fu):∀ (m a:Nat) (out:List (List UInt8)),s.length-a<=m->s.length-a<n->(a=0\/k0<=a)->a<s.length->out.length+(s.length-a)<500000000 ->
  qd0 fu n s (a:Int) ((pts s k0 (s.length-k0)).map Nat.cast) out=some (out++qvm m (s.drop a) (if a=0 then k0 else 1)):=by
 induction n with
 | zero=>intro m a out _ h;exact absurd h (by omega)
 | succ n ih=>
  intro m a out hm h hz ha ho;rw[qd0,qpa,show w64 ((s.length:Int)-(a:Int))=((s.length-a:Nat):Int) by rw[qgy (by omega) (by omega)];omega,qic]
  have vbt:(s.drop a).length=s.length-a:=List.length_drop;by_cases hl:78<s.length-a
  ·obtain⟨m,rfl⟩:∃ j,m=j+1:=⟨m-1,by omega⟩
   have hpl:=zsp s k0 (s.length-k0);have hin:=z91 fu (qd0 fu n) fu s a 0 [] (pts s k0 (s.length-k0)) out (by omega) (by simp;omega) (fun p hp=>by
    unfold pts at hp;rw[List.mem_filter,List.mem_range'_1]at hp;omega) (by omega) (by omega) (by omega) (by omega)
   rw[zs8 s a k0 hk1 hz ha hk]at hin;simp only[List.nil_append,qZ]at hin;rw[qX (by omega),qvm,vbt,qX hl]
   have hin:qgv fu (qd0 fu n) fu s (a:Int) (-1) 0 ((pts s k0 (s.length-k0)).map Nat.cast) out=_:=hin;rw[hin];by_cases h0:brk (s.drop a) (if a=0 then k0 else 1)=0
   ·rw[qX h0,qX h0]
   ·obtain⟨h1,h2,_⟩:=zgf (s.drop a) (if a=0 then k0 else 1) (by split<;>omega) h0
    rw[qW h0,qW h0];generalize hB:brk (s.drop a) (if a=0 then k0 else 1)=B at *
    have:=ih m (a+B) (out++[(s.drop a).take B]) (by omega) (by omega) (.inr (by
     split at h1
     ·omega
     ·rcases hz with hz|hz<;>omega)) (by omega) (by rw[qM,wD];split at h1<;>omega)
    rw[qW (by split at h1<;>omega)]at this
    rw[this];simp[List.drop_drop]
  ·rw[qW (by omega),qaa (by omega),qaa (by simp[qaq];omega)]
   have e:qvm m (s.drop a) (if a=0 then k0 else 1)=[s.drop a]:=by cases m with
    | zero=>rfl
    | succ m=>rw[qvm,vbt,qW hl]
   rw[e];simp
theorem z3n (fu n:Nat):∀ (s:List UInt8) (m i:Nat) (acc:List Int),i+m=s.length->1<=i->m<n->s.length<1000000000->acc.length+m<1000000000 ->
  qjb fu n s (i:Int) acc=qd0 fu fu s 0 (acc++(pts s i m).map Nat.cast) []:=by
 induction n with
 | zero=>intro s m i acc _ _ h;exact absurd h (by omega)
 | succ n ih=>
  intro s m i acc hi h1 hm hb ha;rw[qjb,qo7]
  cases m with
  | zero=>rw[qac (by omega)];simp[pts]
  | succ m=>
   have hlt:i<s.length:=by omega
   have hlt':i-1<s.length:=by omega
   rw[qaa (by omega),qwt _ _ hlt,qB,qtq,qB,q68]
   unfold qph qpb;rw[show isPt s i=(bl s[i] && !bl s[i-1]) by unfold isPt;rw[q6y _ _ hlt,q6y _ _ hlt']]
   cases bl s[i]
   ·rw[qax (by rfl),qax (by rfl),qai _ (by omega)]
    exact ih s m (i+1) acc (by omega) (by omega) (by omega) hb (by omega)
   ·rw[qau (by rfl),show w64 ((i:Int)-1)=((i-1:Nat):Int) by rw[qgy (by omega) (by omega)];omega,qwt _ _ hlt',qB,qtq,qB]
    cases bl s[i-1]
    ·rw[qek,qaa (by simp[qaq];omega),qai _ (by omega)]
     have:=ih s m (i+1) (acc++[(i:Int)]) (by omega) (by omega) (by omega) hb (by simp;omega)
     simpa using this
    ·rw[qb2,qai _ (by omega)]
     exact ih s m (i+1) acc (by omega) (by omega) (by omega) hb (by omega)
theorem zmk (n v:List UInt8):brk (qia n v) (n.length+2)=brk (qia n v) (n.length+3):=by
 unfold brk
 cases v with
 | nil=>rw[show (qia n []).length=n.length+2 by simp[qia]];simp[cb]
 | cons c v=>
  have hl:(qia n (c::v)).length=n.length+3+v.length:=by simp[qia];omega
  rw[hl,show n.length+3+v.length-(n.length+2)=v.length+1 by omega,show n.length+3+v.length-(n.length+3)=v.length by omega,cb]
  have:isPt (qia n (c::v)) (n.length+2)=false:=by
   unfold isPt;have e:(qia n (c::v)).getD (n.length+2-1) 0=32:=by
    rw[show qia n (c::v)=(n++[58])++32::c::v by simp[qia],show n.length+2-1=(n++[58]).length by simp]
    simp[List.getD_eq_getElem?_getD]
   rw[e];cases bl ((qia n (c::v)).getD (n.length+2) 0)<;>rfl
  rw[this];rfl
theorem zd3 (n v:List UInt8):qvm (qia n v).length (qia n v) (n.length+3)=qzw n v:=by
 unfold qzw
 cases h:(qia n v).length with
 | zero=>rfl
 | succ m=>rw[qvm,qvm,zmk]
theorem zh9 (fu:Nat) (n v:List UInt8) (h:n.length+v.length+3<fu) (hb:n.length+v.length<400000000):qub fu n v=some (qzw n v):=by
 unfold qub;have hl:(qia n v).length=n.length+2+v.length:=by simp[qia];omega
 rw[qaa (by simp[qad];omega),qaa (by simp[qad];omega)]
 rw[show n++([58,32]:List UInt8)++v=qia n v from rfl,show w64 ((n.length:Int)+3)=((n.length+3:Nat):Int) by rw[qgy (by omega) (by omega)];omega]
 cases v with
 | nil=>
  obtain⟨k,rfl⟩:∃ k,fu=k+1:=⟨fu-1,by omega⟩
  simp only[qZ]at h hl;rw[qjb,qo7,qac (by omega)]
  -- too short for points
  by_cases hn:78<n.length+2
  ·have:=zos (k+1) (k+1) (qia n []) (n.length+2) (by omega) (by omega) (by omega) (by omega) (qia n []).length 0 [] (by omega) (by omega) (.inl rfl) (by omega) (by simp;omega)
   rw[show (qia n []).length-(n.length+2)=0 by omega]at this
   exact this
  ·rw[qd0,qpa,show w64 (((qia n []).length:Int)-0)=((qia n []).length:Int) by rw[qgy (by omega) (by omega)];omega,qac (by omega),qaa (by omega),qaa (by simp[qaq])]
   unfold qzw;rw[show qvm (qia n []).length (qia n []) (n.length+2)=[qia n []] by
    rw[hl,show n.length+2+0=n.length+1+1 by omega,qvm,qW (by omega)]]
   rfl
 | cons c v=>
  simp only[qL]at h hb hl;have:=z3n fu fu (qia n (c::v)) v.length (n.length+3) [] (by omega) (by omega) (by omega) (by omega) (by simp;omega)
  rw[this,List.nil_append,← zd3];have:=zos fu fu (qia n (c::v)) (n.length+3) (by omega) (by omega) (by omega) (by omega) (qia n (c::v)).length 0 [] (by omega) (by omega) (.inl rfl) (by omega) (by simp;omega)
  rw[show (qia n (c::v)).length-(n.length+3)=v.length by omega]at this
  exact this
theorem zq9 (fu n:Nat) (m16:Int×Int):∀ (vbs vbr:List (List UInt8)),vbr.length<n->vbs.length+vbr.length<1000000000 ->
  qhh fu n (vbs.length:Int) m16 (vbs++vbr)=some (match q93 vbs.length vbr with|some i=>(1,(i:Int))|none=>(0,0)):=by
 induction n with
 | zero=>intro vbs vbr h;exact absurd h (by omega)
 | succ n ih=>
  intro vbs vbr h hb;rw[qhh,qo3]
  cases vbr with
  | nil=>rw[qac (by simp)];rfl
  | cons c vbr=>
   simp only[qL]at h hb;rw[qbg,qaa (by omega),qr2,qao,qB,qic,q93]
   by_cases hc:998<c.length
   ·rw[qX (by omega),qX hc];rfl
   ·rw[qW (by omega),qW hc,qai _ (by omega)]
    have:=ih (vbs++[c]) vbr (by omega) (by simp;omega)
    simpa using this
theorem q76:∀ (m:Nat) (s:List UInt8) (k:Nat),s.length<=m->1<=k->(qvm m s k).length<=s.length+1
 | 0,s,_,_,_=>by simp[qvm]
 | m+1,s,k,h,hk=>by
  rw[qvm];split
  ·split
   ·simp
   ·rename_i h0;obtain⟨h1,h2,_⟩:=zgf s k hk h0;have:=q76 m (s.drop (brk s k)) 1 (by rw[List.length_drop];omega) (by omega)
    rw[List.length_drop]at this;rw[qL];omega
  ·simp
theorem zdv (ls:List (List UInt8)):(q9z ls).1=(match q93 0 ls with|some i=>(1,(i:Int))|none=>(0,0)):=by
 unfold q9z;split<;>simp_all
theorem q8y (fu:Nat) (n v:List UInt8) (hfu:10000<=fu) (hn:n.length<fu) (hv:v.length<fu) (hnb:n.length<1000000000) (hvb:v.length<1000000000):qpd fu n v=some (zew n v).1:=by
 unfold qpd zew;rw[zle fu n v (by omega) hn hv hnb hvb,qB,qqb]
 by_cases h0:q53 n v=0
 ·obtain⟨h1,h2,_⟩:=q44 h0;have hl:=q9v h1;rw[qW (by omega),qX h0,zh9 fu n v (by omega) (by omega),qB,zdv]
  have:=q76 (qia n v).length (qia n v) (n.length+2) (wF _) (by omega)
  have hle:(qia n v).length=n.length+2+v.length:=by simp[qia];omega
  have:=zq9 fu fu (0,0) [] (qzw n v) (by unfold qzw;omega) (by unfold qzw;simp;omega)
  exact this
 ·rw[qX h0,qW h0];rfl
end Go.Sym
namespace Go.Sym
theorem zbj {α:Type} (vbs:List α) (c d:α) (vbr:List α):idx (vbs++c::d::vbr) ((vbs.length+1:Nat):Int)=some d:=by
 have:=qao (vbs++[c]) d vbr;simpa using this
def isCl (c:UInt8) (r:List UInt8):Bool:=c==13&&r.head? == some 10
theorem qyk {c:UInt8} {r:List UInt8} (h:isCl c r=true):c=13/\∃ r',r=10::r':=by
 unfold isCl at h;simp only[qA,beq_iff_eq]at h;refine⟨h.1,?_⟩
 cases r with
 | nil=>simp at h
 | cons d r=>simp at h;exact⟨r,by rw[h.2]⟩
def eo:List UInt8->List UInt8
 | []=>[]
 | c::r=>if isCl c r then 13::10::eo r.tail else if c=13\/c=10 then 13::10::eo r else c::eo r
termination_by l=>l.length
decreasing_by all_goals (simp only[qL,List.length_tail];omega)
theorem zdl (vbs:List UInt8) (c:UInt8) (r:List UInt8) (hb:vbs.length<100000000):qt0 (vbs++c::r) (vbs.length:Int)=some (isCl c r):=by
 unfold qt0 isCl;rw[qai _ (by omega)]
 cases r with
 | nil=>rw[qac (by simp)];cases c==13<;>rfl
 | cons d r=>
  rw[qaa (by simp<;>omega),qao,qB]
  cases c==13
  ·rfl
  ·rw[qau (by rfl),zbj,qB]
   cases h:d==10<;>simp_all
def bs (col:Nat):List UInt8->Int
 | []=>0
 | c::r=>if isCl c r then bs 0 r.tail else if c=13\/c=10 then 11 else if 998<=col then 1 else bs (col+1) r
termination_by l=>l.length
decreasing_by all_goals (simp only[qL,List.length_tail];omega)
theorem zc7 (col:Nat):bs col []=0:=by rw[bs]
theorem za4 (col:Nat) (c:UInt8) (r:List UInt8):bs col (c::r)=if isCl c r then bs 0 r.tail else if c=13\/c=10 then 11 else if 998<=col then 1 else bs (col+1) r:=by rw[bs]
def zri (x:Int):Int×Int:=if x=11 then (11,-5) else if x=1 then (1,-6) else (0,0)
theorem zrs (fu n:Nat):∀ (vbs vbr:List UInt8) (col:Nat),vbr.length<n->vbs.length+vbr.length<100000000->col<=2000 ->
  qg7 fu n (vbs++vbr) (col:Int) (vbs.length:Int)=some (bs col vbr):=by
 induction n with
 | zero=>intro vbs vbr col h;exact absurd h (by omega)
 | succ n ih=>
  intro vbs vbr col h hb hcol;rw[qg7,qsf]
  cases vbr with
  | nil=>rw[qac (by simp),zc7]
  | cons c r=>
   simp only[qL]at h hb;have fin:∀ f,f=isCl c r->qhj fu (qg7 fu n) (vbs++c::r) (col:Int) (vbs.length:Int) c f=some (bs col (c::r)):=by
    intro f hf;unfold qhj;rw[za4,hf];cases hc:isCl c r
    ·rw[qax (by rfl),qW (by decide)]
     unfold qr8;rw[qnl,qnl];by_cases h13:c=13
     ·rw[qX h13,qX (.inl h13)]
     ·rw[qW h13];by_cases h10:c=10
      ·rw[qX h10,qX (.inr h10)]
      ·rw[qW h10,qW (by simp[h13,h10]),qai _ (by omega),qic]
       by_cases hq:998<=col
       ·rw[qX (by omega),qX hq]
       ·rw[qW (by omega),qW hq,qai _ (by omega)]
        have:=ih (vbs++[c]) r (col+1) (by omega) (by simp;omega) (by omega)
        simpa using this
    ·obtain⟨rfl,r',rfl⟩:=qyk hc;simp only[qL]at h hb;rw[qau (by rfl),qX rfl,qai _ (by omega),qai _ (by omega),show vbs.length+1+1=vbs.length+2 from rfl]
     have:=ih (vbs++[13,10]) r' 0 (by omega) (by simp;omega) (by omega)
     simpa using this
   rw[qbg,qaa (by omega),qao,qB,qnl]
   by_cases h13:c=13
   ·subst h13;rw[qX rfl,qai _ (by omega)]
    cases r with
    | nil=>rw[qac (by simp)];exact fin false rfl
    | cons d r=>
     rw[qaa (by simp only[qL];omega),zbj,qB]
     exact fin _ (by unfold isCl;cases h:d==10<;>simp_all)
   ·rw[qW h13];exact fin false (by unfold isCl;rw[beq_false_of_ne h13];rfl)
theorem zvn (n:Nat):∀ (s:List UInt8) (col:Nat),s.length<=n->bs col s=0\/bs col s=1\/bs col s=11:=by
 induction n with
 | zero=>intro s col h;have:=List.length_eq_zero_iff.1 (Nat.le_zero.1 h);subst this;rw[zc7];exact .inl rfl
 | succ n ih=>
  intro s col h
  cases s with
  | nil=>rw[zc7];exact .inl rfl
  | cons c r=>
   simp only[qL]at h;rw[za4];split
   ·exact ih _ _ (by rw[List.length_tail];omega)
   ·split
    ·exact .inr (.inr rfl)
    ·split
     ·exact .inr (.inl rfl)
     ·exact ih _ _ (by omega)
theorem zno (fu n:Nat) (m16:Int×Int):∀ (vbs vbr:List UInt8) (col b:Nat),vbr.length<n->vbs.length+vbr.length<100000000->b+col=vbs.length ->
  qhn fu n (vbs++vbr) (b:Int) (vbs.length:Int) m16=some (zri (bs col vbr)):=by
 induction n with
 | zero=>intro vbs vbr col b h;exact absurd h (by omega)
 | succ n ih=>
  intro vbs vbr col b h hb hcol;rw[qhn,qo0]
  cases vbr with
  | nil=>rw[qac (by simp),zc7];rfl
  | cons c r=>
   simp only[qL]at h hb;rw[qbg,qaa (by omega),zdl vbs c r (by omega),qB,za4]
   cases hc:isCl c r
   ·rw[qax (by rfl),qW (by decide),qao,qB,qB,qnl]
    unfold qkw;by_cases h13:c=13
    ·rw[qX h13,qX (.inl h13)];rfl
    ·rw[qW h13,qnl];by_cases h10:c=10
     ·rw[qX h10,qX (.inr h10)];rfl
     ·rw[qW h10,qW (by simp[h13,h10]),show w64 ((vbs.length:Int)-(b:Int))=(col:Int) by rw[qgy (by omega) (by omega)];omega,qic]
      by_cases hq:998<=col
      ·rw[qX (by omega),qX hq];rfl
      ·rw[qW (by omega),qW hq,qai _ (by omega)]
       have:=ih (vbs++[c]) r (col+1) b (by omega) (by simp;omega) (by simp;omega)
       simpa using this
   ·obtain⟨rfl,r',rfl⟩:=qyk hc;simp only[qL]at h hb;rw[qau (by rfl),qX rfl,qai _ (by omega),qai _ (by omega),show vbs.length+1+1=vbs.length+2 from rfl]
    have:=ih (vbs++[13,10]) r' 0 (vbs.length+2) (by omega) (by simp;omega) (by simp)
    simpa using this
theorem zmv (fu:Nat) (s:List UInt8) (h:s.length<fu) (hb:s.length<100000000):qtm fu s=some (zri (bs 0 s)):=by
 have:=zno fu fu (0,0) [] s 0 0 h (by simpa using hb) rfl
 exact this
end Go.Sym
namespace Go.Sym
abbrev Fld:Type:=List UInt8×List UInt8
def SmF (l:List Fld):Prop:=l.length<=10000000/\∀ x∈l,x.1.length<=10000000/\x.2.length<=10000000
theorem SmF.tail {x:Fld} {l:List Fld} (h:SmF (x::l)):SmF l:=⟨by have:=h.1;simp only[qL]at this;omega,fun y hy=>h.2 y (qE _ hy)⟩
def ff:Nat->List Fld->Int×Int
 | _,[]=>(0,0)
 | i,x::l=>if (zew x.1 x.2).1.1≠0 then ((zew x.1 x.2).1.1,(i:Int)) else ff (i+1) l
def qvr (l:List Fld):Int×Int:=if 60<l.length then (2,-1) else ff 0 l
theorem zsb (fu n:Nat) (hfu:90000000<=fu) (m16:Int×Int):∀ (vbs vbr:List Fld),vbr.length<n->vbs.length+vbr.length<100000000->SmF vbr ->
  qej fu n (vbs++vbr) ((vbs.length+vbr.length:Nat):Int) (vbs.length:Int) m16=some (ff vbs.length vbr):=by
 induction n with
 | zero=>intro vbs vbr h;exact absurd h (by omega)
 | succ n ih=>
  intro vbs vbr h hb hs;rw[qej,qlc]
  cases vbr with
  | nil=>rw[qac (by simp)];rfl
  | cons x vbr=>
   simp only[qL]at h hb ⊢;obtain⟨q1,q2⟩:=hs.2 x qH;rw[qaa (by omega),qao,qB,zsw fu x.1 x.2 (by omega) (by omega) (by omega),qB,qp8,qB,qqb,ff]
   split
   ·rfl
   ·rw[qai _ (by omega)]
    have:=ih (vbs++[x]) vbr (by omega) (by simp;omega) hs.tail
    simp only[qS,wM,qM,qL,qZ]at this;rw[show vbs.length+(0+1)+vbr.length=vbs.length+(vbr.length+1) by omega]at this
    exact this
theorem zo7 (fu:Nat) (hfu:90000000<=fu) (l:List Fld) (hs:SmF l):qg2 fu l=some (qvr l):=by
 unfold qg2 qvr;rw[qic];split
 ·rw[qX (by omega)];rfl
 ·rw[qW (by omega)]
  have:=zsb fu fu hfu (0,0) [] l (by have:=hs.1;omega) (by have:=hs.1;simp;omega) hs
  simp only[List.nil_append,qZ,wO]at this;exact this
theorem zuj (fu n:Nat) (hfu:90000000<=fu) (m16:Int×Int):∀ (vbs vbr:List Fld),vbr.length<n->vbs.length+vbr.length<100000000->SmF vbr ->
  qe7 fu n (vbs++vbr) (vbs.length:Int) m16=some (ff vbs.length vbr):=by
 induction n with
 | zero=>intro vbs vbr h;exact absurd h (by omega)
 | succ n ih=>
  intro vbs vbr h hb hs;rw[qe7,ql1]
  cases vbr with
  | nil=>rw[qac (by simp)];rfl
  | cons x vbr=>
   simp only[qL]at h hb ⊢;obtain⟨q1,q2⟩:=hs.2 x qH;rw[q27,qL,qaa (by omega),qao,qB,qB,q8y fu x.1 x.2 (by omega) (by omega) (by omega) (by omega) (by omega),qB,qqb,ff]
   split
   ·rfl
   ·rw[qai _ (by omega)]
    have:=ih (vbs++[x]) vbr (by omega) (by simp;omega) hs.tail
    simpa using this
theorem zwu (fu:Nat) (hfu:90000000<=fu) (l:List Fld) (hs:SmF l):ql0 fu l=some (qvr l):=by
 unfold ql0 qvr;rw[qic];split
 ·rw[qX (by omega)];rfl
 ·rw[qW (by omega)]
  have:=zuj fu fu hfu (0,0) [] l (by have:=hs.1;omega) (by have:=hs.1;simp;omega) hs
  exact this
end Go.Sym
namespace Go.Sym
def zwl (ls:List (List UInt8)):List UInt8:=ls.flatMap fun s=>s++[13,10]
def zw4 (l:List Fld):List UInt8:=l.flatMap fun x=>zwl (qzw x.1 x.2)
def hbytes (l:List Fld):List UInt8:=zw4 l++[13,10]
def SmM (m:List Fld×List UInt8):Prop:=SmF m.1/\m.2.length<=80000000
end Go.Sym
namespace Go.Sym
def chop (t:List UInt8):List UInt8:=if t.getLast? = some 13 then t.dropLast else t
def ln (r:List UInt8):List UInt8×Nat:=if (10:UInt8)∈r then (chop (r.takeWhile (· != 10)),(r.takeWhile (· != 10)).length+1) else (r,r.length)
def z6h (s:List UInt8):Option Fld:=if (58:UInt8)∈s/\q15 (qu5 (s.takeWhile (· != 58)))=true then some (qu5 (s.takeWhile (· != 58)),(s.dropWhile (· != 58)).tail) else none
end Go.Sym
namespace Go.Sym
end Go.Sym
namespace Go.Sym
def appL (out:List Fld) (s:List UInt8):List Fld:=match out.getLast? with
 | some x=>out.dropLast++[(x.1,x.2++s)]
 | none=>out
theorem zgy (out:List Fld) (x:Fld) (s:List UInt8):appL (out++[x]) s=out++[(x.1,x.2++s)]:=by
 unfold appL;rw[List.getLast?_concat,List.dropLast_concat]
def hd:Nat->List UInt8->Nat->List Fld->Nat×List Fld
 | 0,_,a,out=>(a,out)
 | n+1,r,a,out=>
  if r=[] then (a,out) else
  if (ln r).1=[] then (a+(ln r).2,out) else
  if bl ((ln r).1.headD 0)=true/\out≠[] then hd n (r.drop (ln r).2) (a+(ln r).2) (appL out (ln r).1) else
  match z6h (ln r).1 with
  | none=>(a,out)
  | some x=>hd n (r.drop (ln r).2) (a+(ln r).2) (out++[x])
def SmA (a:Nat) (l:List Fld):Prop:=l.length<=a/\∀ x∈l,x.1.length<=a/\x.2.length<=a
theorem SmA.mono {a b:Nat} {l:List Fld} (h:SmA a l) (hab:a<=b):SmA b l:=⟨Nat.le_trans h.1 hab,fun x hx=>⟨Nat.le_trans (h.2 x hx).1 hab,Nat.le_trans (h.2 x hx).2 hab⟩⟩
theorem SmA.app {a k:Nat} {l:List Fld} (h:SmA a l) (hne:l≠[]) (s:List UInt8) (hs:s.length<=k):SmA (a+k) (appL l s):=by
 rcases List.eq_nil_or_concat l with rfl|⟨t,x,rfl⟩
 ·exact absurd rfl hne
 ·rw[List.concat_eq_append]at *;rw[zgy];refine⟨by have:=h.1;simp only[qM,qL,qZ]at this ⊢;omega,fun y hy => ?_⟩
  rcases List.mem_append.1 hy with hy|hy
  ·have:=h.2 y (List.mem_append_left _ hy);omega
  ·have:=h.2 x (by simp)
   rw[List.mem_singleton.1 hy];simp only[qM];omega
end Go.Sym
namespace Go.Sym
end Go.Sym
namespace Go.Sym
theorem zsz (fu n:Nat):∀ (vbs vbr:List Fld),vbr.length<n->vbs.length+vbr.length<100000000->qga fu n (vbs++vbr) (vbs++vbr) (vbs.length:Int)=some true:=by
 induction n with
 | zero=>intro vbs vbr h;exact absurd h (by omega)
 | succ n ih=>
  intro vbs vbr h hb;rw[qga,qmo]
  cases vbr with
  | nil=>rw[qac (by simp)]
  | cons x vbr=>
   simp only[qL]at h hb;rw[q27,qL,qaa (by omega),qao,qB,qB,show ((x.1==x.1)&&((x.2==x.2)&&true))=true by simp,qb2,qai _ (by omega)]
   have:=ih (vbs++[x]) vbr (by omega) (by simp;omega)
   simpa using this
end Go.Sym
namespace Go.Sym
end Go.Sym
namespace Go.Sym
def vals (l:List Fld) (n:List UInt8):List (List UInt8):=(l.filter fun x=>x.1.map lo==n.map lo).map (·.2)
theorem qsc (x:Fld) (l:List Fld) (n:List UInt8):vals (x::l) n=if (x.1.map lo==n.map lo)=true then x.2::vals l n else vals l n:=by
 unfold vals;rw[List.filter_cons];split<;>rfl
theorem q99 (fu n:Nat) (hfu:90000000<=fu) (nm:List UInt8) (hn:nm.length<=1000):∀ (vbs vbr:List Fld) (out:List (List UInt8)),vbr.length<n->vbs.length+vbr.length<100000000->SmF vbr->out.length+vbr.length<1000000000 ->
  qfv fu n (vbs++vbr) nm (vbs.length:Int) out=some (out++vals vbr nm):=by
 induction n with
 | zero=>intro vbs vbr out h;exact absurd h (by omega)
 | succ n ih=>
  intro vbs vbr out h hb hs hk;rw[qfv,qqw]
  cases vbr with
  | nil=>rw[qac (by simp)];simp[vals]
  | cons x vbr=>
   simp only[qL]at h hb hk;obtain⟨q1,q2⟩:=hs.2 x qH;have next:∀ out':List (List UInt8),out'.length<=out.length+1->qfv fu n (vbs++x::vbr) nm (w64 ((vbs.length:Int)+1)) out'=some (out'++vals vbr nm):=by
    intro out' hj;have:=ih (vbs++[x]) vbr out' (by omega) (by simp;omega) hs.tail (by omega)
    rw[qai _ (by omega)]
    simpa using this
   rw[q27,qL,qaa (by omega),qao,qB,zc9 fu _ _ (by omega) (by omega) (by simp only[maxLen];omega) (by simp only[maxLen];omega),qB,qsc]
   cases hc:x.1.map lo==nm.map lo
   ·rw[qax (by rfl),qW (by decide)]
    exact next out (by omega)
   ·rw[qau (by rfl),qX rfl,qB,qaa (by simp[qaq];omega),next _ (by simp)]
    simp
theorem q3j (fu:Nat) (hfu:90000000<=fu) (l:List Fld) (nm:List UInt8) (hn:nm.length<=1000) (hs:SmF l):qrm fu l nm=some (vals l nm):=by
 have h1:=hs.1;have:=q99 fu fu hfu nm hn [] l [] (by omega) (by simp;omega) hs (by simp;omega)
 exact this
end Go.Sym
namespace Go.Sym
theorem zsm (f:Bs->Bs->Option Pc):∀ (n:Nat) (acc:List Pc) (s:Bs) (l:List Pc),psG f n acc s=some l->∃ t,l=acc++t:=by
 intro n
 induction n with
 | zero=>intro acc s l h;cases h
 | succ n ih=>
  intro acc s l h;rw[psG]at h
  cases ht:qbm s with
  | nil=>rw[ht]at h;cases h;exact⟨[],by simp⟩
  | cons c t=>
   rw[ht]at h;simp only at h;by_cases hc:c=59
   ·rw[qX hc]at h
    cases hx:lexP t with
    | none=>rw[hx]at h;cases h
    | some x=>
     rw[hx]at h;simp only at h
     cases hp:f x.1.1 x.1.2 with
     | none=>rw[hp]at h;cases h
     | some p=>
      rw[hp]at h;simp only at h;obtain⟨u,e⟩:=ih _ _ _ h;exact⟨p::u,by rw[e];simp⟩
   ·rw[qW hc]at h;cases h
def qxf (p:Pc):Prop:=p.2.1<1000000000
theorem vbc:∀ (n:Nat) (acc:List Pc) (s:Bs),(∀ p∈acc,qxf p)->(∀ l,psG qj0 n acc s=some l->(∀ p∈l,qxf p)->psG qmb n acc s=some l) /\
  (∀ l,psG qj0 n acc s=some l->(∃ p∈l,¬ qxf p)->psG qmb n acc s=none)/\(psG qj0 n acc s=none->psG qmb n acc s=none):=by
 intro n
 induction n with
 | zero=>intro acc s _;exact⟨fun l h=>(nomatch h),fun l h=>(nomatch h),fun _=>rfl⟩
 | succ n ih=>
  intro acc s ha;rw[psG,psG]
  cases ht:qbm s with
  | nil=>exact⟨fun l h _=>h,fun l h hb=>(by cases h;obtain⟨p,hp,hq⟩:=hb;exact absurd (ha p hp) hq),fun h=>h⟩
  | cons c t=>
   simp only;by_cases hc:c=59
   ·rw[qX hc,qX hc]
    cases hx:lexP t with
    | none=>exact⟨fun l h=>(nomatch h),fun l h=>(nomatch h),fun _=>rfl⟩
    | some x=>
     simp only;unfold qmb
     cases hp:qj0 x.1.1 x.1.2 with
     | none=>exact⟨fun l h=>(nomatch h),fun l h=>(nomatch h),fun _=>rfl⟩
     | some p=>
      simp only;by_cases hs:p.2.1<1000000000
      ·simp only[qX hs];exact ih (acc++[p]) x.2 (fun y hy=>(List.mem_append.1 hy).elim (ha y) (fun e=>by rw[List.mem_singleton.1 e];exact hs))
      ·simp only[qW hs];refine⟨fun l h hall => ?_,fun _ _ _=>by first|rfl|trivial,fun _=>by first|rfl|trivial⟩
       obtain⟨u,e⟩:=zsm qj0 n _ _ _ h;exact absurd (hall p (by rw[e];simp)) hs
   ·rw[qW hc,qW hc];exact⟨fun l h=>(nomatch h),fun l h=>(nomatch h),fun _=>rfl⟩
theorem z31:∀ (n:Nat) (acc:List Pc) (s:Bs) (l:List Pc),psG qj0 n acc s=some l->szQ l<=szQ acc+s.length/\((∀ p∈acc,nb p)->∀ p∈l,nb p):=by
 intro n
 induction n with
 | zero=>intro acc s l h;cases h
 | succ n ih=>
  intro acc s l h;have hl:=qf2 s;rw[psG]at h
  cases ht:qbm s with
  | nil=>rw[ht]at h;cases h;exact⟨Nat.le_add_right _ _,fun h=>h⟩
  | cons c t=>
   rw[ht]at h hl;simp only[qL]at h hl;by_cases hc:c=59
   ·rw[qX hc]at h
    cases hx:lexP t with
    | none=>rw[hx]at h;cases h
    | some x=>
     rw[hx]at h;simp only at h;have hxl:=(q7g (n:=x.1.1) (v:=x.1.2) (t:=x.2) hx).1
     cases hp:qj0 x.1.1 x.1.2 with
     | none=>rw[hp]at h;cases h
     | some p=>
      rw[hp]at h;simp only at h;obtain⟨g1,g2,g3,g4,_⟩:=q4q hp;obtain⟨e1,e2⟩:=ih _ _ _ h;rw[zj8,g2]at e1;exact⟨by omega,fun hh=>e2 (fun y hy=>(List.mem_append.1 hy).elim (hh y) (fun e=>by rw[List.mem_singleton.1 e];exact⟨g3,g4⟩))⟩
   ·rw[qW hc]at h;cases h
theorem zov:∀ (q:List Pc) (k:Int),numd q k->∀ x∈q,x.2.1<k+q.length
 | [],_,_,_,h=>by cases h
 | p::r,k,h,x,hx=>by
  simp only[qL];rcases List.mem_cons.1 hx with e|e
  ·subst e;have:=h.1;omega
  ·have:=zov r _ h.2 x e;omega
theorem zdd {a b c:Bs} (h1:lk a b=true) (h2:lk b c=true):lk a c=true:=by
 unfold lk at *;simp only[beq_iff_eq]at *;rw[h1,h2]
theorem zli (l:List Pc) {a b:Bs} (h:lk a b=true):qh1 a l=qh1 b l:=by
 unfold qh1;congr 1;funext x;rw[Bool.eq_iff_iff];exact⟨fun g=>zdd g h,fun g=>zdd g (by rw[za1];exact h)⟩
theorem zjo (l:List Pc):∀ (vbr vbs:List Pc) (out:List Prm),l=vbs++vbr->(qrf vbs vbr out).1=true->(∀ x∈vbs,q36 (qh1 x.1 l)≠none)->∀ x∈l,q36 (qh1 x.1 l)≠none:=by
 intro vbr
 induction vbr with
 | nil=>intro vbs out hl _ hp;rw[hl,List.append_nil];rw[hl,List.append_nil]at hp;exact hp
 | cons p vbr ih=>
  intro vbs out hl h hp;rw[qrf]at h;by_cases hany:vbs.any (fun x=>lk x.1 p.1)=true
  ·rw[qX hany]at h;refine ih (vbs++[p]) out (by rw[hl];simp) h (fun x hx => ?_)
   rcases List.mem_append.1 hx with g|g
   ·exact hp x g
   ·rw[List.mem_singleton.1 g];obtain⟨y,hy,hk⟩:=List.any_eq_true.1 hany;rw[← zli l hk];exact hp y hy
  ·rw[qW hany,← hl]at h
   cases hj:q36 (qh1 p.1 l) with
   | none=>rw[hj]at h;cases h
   | some v=>
    rw[hj]at h;refine ih (vbs++[p]) _ (by rw[hl];simp) h (fun x hx => ?_)
    rcases List.mem_append.1 hx with g|g
    ·exact hp x g
    ·rw[List.mem_singleton.1 g,hj];simp
theorem zev (A:List Pc) (hn:∀ x∈A,nb x) (hl:A.length<=300000) (h:q36 A≠none):∀ x∈A,qxf x:=by
 cases A with
 | nil=>intro x hx;cases hx
 | cons p l=>
  rw[qw6]at h;by_cases h0:p.2.1<0
  ·rw[qX h0]at h;by_cases h1:l=[]
   ·subst h1;intro x hx;rw[List.mem_singleton.1 hx];unfold qxf;omega
   ·rw[qW h1]at h;exact absurd rfl h
  ·rw[qW h0]at h;obtain⟨_,h2,_⟩:=q7b (p::l) hn (by omega)
   have hnum:numd (qtt (p::l)) 0:=by
    by_cases hq:numd (qtt (p::l)) 0
    ·exact hq
    ·rw[q7v _ _ _ hq]at h;exact absurd rfl h
   intro x hx;have:=zov _ 0 hnum x (h2.mem_iff.2 hx);rw[h2.length_eq]at this;unfold qxf;omega
theorem zjr (l:List Pc) (hn:∀ x∈l,nb x) (hl:l.length<=300000) (hb:∃ p∈l,¬ qxf p):(qrf [] l []).1=false:=by
 cases h:(qrf [] l []).1
 ·rfl
 ·obtain⟨p,hp,hq⟩:=hb;have:=zjo l l [] [] rfl h (by simp) p hp
  refine absurd (zev (qh1 p.1 l) (fun x hx=>hn x (List.mem_filter.1 hx).1) ?_ this p (List.mem_filter.2 ⟨hp,zax _⟩)) hq
  have:=List.length_filter_le (fun x:Pc=>lk x.1 p.1) l
  unfold qh1;omega
def qy3 (s:Bs):Option Med:=match qu7 qj0 s with
 | none=>none
 | some m=>if (qrf [] m.2.2 []).1=true then some (m.1,(m.2.1,(qrf [] m.2.2 []).2)) else none
theorem q9d {f:Bs->Bs->Option Pc} {s:Bs} {m:Bs×Bs×List Pc} (h:qu7 f s=some m):∃ c,psG f (s.length+1) [] c=some m.2.2/\c.length+m.1.length+m.2.1.length<=s.length:=by
 have l1:=qrz tk s;have l2:=qt8 47 (qep tk s).2;have l3:=qrz tk (qjr 47 (qep tk s).2).2;unfold qu7 at h;simp only at h;split at h
 ·cases h
 ·cases hp:psG f (s.length+1) [] (qep tk (qjr 47 (qep tk s).2).2).2 with
  | none=>rw[hp]at h;cases h
  | some l=>
   rw[hp]at h;cases h;exact⟨_,hp,by simp only;omega⟩
theorem q7q {s:Bs} {m:Bs×Bs×List Pc} (h:qu7 qj0 s=some m):szQ m.2.2<=s.length/\∀ p∈m.2.2,nb p:=by
 obtain⟨c,h1,h2⟩:=q9d h;obtain⟨g1,g2⟩:=z31 _ _ _ _ h1;exact⟨by simp[szQ]at g1 ⊢;omega,g2 (by simp)⟩
theorem znr (l:List Pc) (hz:szQ l<=300000):∀ (vbr vbs:List Pc) (out:List Prm),l=vbs++vbr->out.length<=vbs.length->(∀ x∈out,x.1.length<=4000000/\x.2.length<=4000000)->SmP (qrf vbs vbr out).2:=by
 have hll:=qoo l;intro vbr
 induction vbr with
 | nil=>intro vbs out hl ho hs;rw[hl]at hll;simp at hll;exact⟨by rw[qrf];simp only;rw[hl]at hz;simp at hz;omega,hs⟩
 | cons p vbr ih=>
  intro vbs out hl ho hs;rw[qrf];have hpl:=q0c (show p∈l by rw[hl];simp)
  split
  ·exact ih (vbs++[p]) out (by rw[hl];simp) (by simp;omega) hs
  ·rw[← hl]
   cases hj:q36 (qh1 p.1 l) with
   | none=>exact⟨by simp,by simp⟩
   | some v=>
    refine ih (vbs++[p]) _ (by rw[hl];simp) (by simp;omega) (fun x hx => ?_)
    rcases List.mem_append.1 hx with g|g
    ·exact hs x g
    ·rw[List.mem_singleton.1 g];refine⟨by simp only;omega,?_⟩
     simp only;have hzf:=qz2 (fun x=>lk x.1 p.1) l
     have hN:qh1 p.1 l=l.filter fun x=>lk x.1 p.1:=rfl
     rw[hN]at hj;generalize l.filter (fun x=>lk x.1 p.1)=A at hj hzf
     cases A with
     | nil=>cases hj
     | cons a A=>
      rw[qw6]at hj;split at hj
      ·split at hj
       ·cases hj
        have:=q0c (qH (a:=a) (l:=A));omega
       ·cases hj
      ·cases hL:qy1 (qtt (a::A)) 0 [] with
       | none=>rw[hL]at hj;cases hj
       | some w=>
        rw[hL]at hj;cases hj;have:=zza w.length false w;have hw:w.length<=szQ (qtt (a::A)):=by
         have hnum:=q3x _ _ _ _ hL;rw[q2r _ _ _ hnum]at hL;cases hL
         generalize qtt (a::A)=q;clear hnum
         induction q with
         | nil=>simp
         | cons y q ih2=>
          have:=qvt y;simp only[List.nil_append]at ih2 ⊢;rw[List.flatMap_cons,qM,qu0];omega
        have hq:szQ (qtt (a::A))<=szQ (a::A):=by
         unfold qtt
         cases ht:toQ (a::A) with
         | none=>simp[szQ]
         | some q=>
          have h1:=(zcd q).1.map (·.1);simp only;rw[q50 h1]
          have e:q.map (·.1)=a::A:=by
           clear h1 hL hzf hw this;generalize a::A=B at ht
           induction B generalizing q with
           | nil=>cases ht;rfl
           | cons b B ih3=>
            rw[toQ]at ht;split at ht
            ·cases hB:toQ B with
             | none=>rw[hB]at ht;cases ht
             | some r=>rw[hB]at ht;cases ht;simp[ih3 r hB]
            ·cases ht
          rw[e];exact wF _
        show (vu [239,191,189] w.length false w).length<=4000000;omega
theorem q13 {s:Bs} {m:Med} (h:qy3 s=some m) (hs:s.length<=300000):SmD m:=by
 unfold qy3 at h
 cases hp:qu7 qj0 s with
 | none=>rw[hp]at h;cases h
 | some x=>
  rw[hp]at h;simp only at h;split at h
  ·cases h
   obtain⟨c,_,h2⟩:=q9d hp;obtain⟨h3,_⟩:=q7q hp;exact⟨by simp only;omega,by simp only;omega,znr x.2.2 (by omega) x.2.2 [] [] rfl (by simp) (by simp)⟩
  ·cases h
theorem zjf (fu:Nat) (hfu:90000000<=fu) (s:Bs) (h:s.length<=300000):qls fu s=some (match qy3 s with|some m=>(m,true)|none=>bad):=by
 rw[zex fu hfu s h];unfold qy3;have hR:=fun c=>vbc (s.length+1) [] c (by simp)
 unfold qu7;simp only;by_cases hc:(qep tk s).1=[]\/(qjr 47 (qep tk s).2).1=false\/(qep tk (qjr 47 (qep tk s).2).2).1=[]
 ·rw[qX hc,qX hc]
 ·rw[qW hc,qW hc];obtain⟨r1,r2,r3⟩:=hR (qep tk (qjr 47 (qep tk s).2).2).2
  cases hp:psG qj0 (s.length+1) [] (qep tk (qjr 47 (qep tk s).2).2).2 with
  | none=>rw[r3 hp];rfl
  | some l=>
   simp only[wQ];have hsz:szQ l<=s.length/\∀ p∈l,nb p:=q7q (s:=s) (m:=((qep tk s).1,(qep tk (qjr 47 (qep tk s).2).2).1,l)) (by unfold qu7;simp only;rw[qW hc,hp];rfl)
   have hll:=qoo l;by_cases hall:∀ p∈l,qxf p
   ·rw[r1 l hp hall];simp only[wQ];have:=zd0 fu hfu l (by omega) hsz.2 [] [] (qep tk s).1 (qep tk (qjr 47 (qep tk s).2).2).1 fu [] l [] rfl (by omega) (by simp)
    rw[show (([]:List Pc).length:Int)=0 from rfl]at this
    rw[this];cases (qrf [] l []).1<;>rfl
   ·have hb:∃ p∈l,¬ qxf p:=by
     apply Classical.byContradiction;intro hq;exact hall (fun p hp2=>Classical.byContradiction fun hq2=>hq ⟨p,hp2,hq2⟩)
    rw[r2 l hp hb,zjr l hsz.2 (by omega) hb];rfl
def pmS (s:Bs):Option Med:=if 4000<s.length then none else match qy3 s with
 | none=>none
 | some m=>if (medF m).1≠0 then none else some m
theorem zhd (fu:Nat) (hfu:90000000<=fu) (s:Bs) (h:s.length<=4000000):∃ R,qmn fu s=some R/\match pmS s with
  | some m=>R = .inr (m.1,(m.2.1,(0,(0,m.2.2))))
  | none=>∃ f:Int×Int,R = .inl ([],([],f))/\f.1≠0:=by
 unfold qmn pmS;by_cases h4:4000<s.length
 ·rw[qaa (by omega),qX h4];exact⟨_,rfl,_,rfl,by decide⟩
 rw[qac (by omega),qW h4]
 obtain⟨R,g1,g2⟩:=zfn fu hfu (fun l=>qrf [] l []) (fun l hl hn=>zj2 fu hfu l hl hn) s (by omega)
 rw[g1,qB];have hfail:zag R->∃ R',(sumK R (fun a3=>bif !a3.2.2 then (qae (11:Int) (-5:Int)).bind fun x5=>some (.inl (([]:Bs),(([]:Bs),x5))) else (qcf fu (a3.1,(a3.2.1,[]))).bind fun x6=>(qak x6).bind fun x7=>bif x7 then (qae x6.1 (-6:Int)).bind fun x8=>some (.inl (([]:Bs),(([]:Bs),x8))) else (qa1).bind fun x9=>some (.inl (a3.1,(a3.2.1,x9)))) (fun b4=>bif !b4.2.2.1 then (qae (11:Int) (-5:Int)).bind fun x10=>some (.inl (([]:Bs),(([]:Bs),x10))) else (qcf fu (b4.1,(b4.2.1,b4.2.2.2))).bind fun x11=>(qak x11).bind fun x12=>bif x12 then (qae x11.1 (-6:Int)).bind fun x13=>some (.inl (([]:Bs),(([]:Bs),x13))) else (qa1).bind fun x14=>some (.inr (b4.1,(b4.2.1,(x14.1,(x14.2,b4.2.2.2)))))):Option qzv)=some R'/\∃ f:Int×Int,R' = .inl ([],([],f))/\f.1≠0:=by
  intro hf
  cases R with
  | inl x=>unfold zag at hf;simp only at hf;simp only[sumK,hf];exact⟨_,rfl,_,rfl,by decide⟩
  | inr x=>unfold zag at hf;simp only at hf;simp only[sumK,hf];exact⟨_,rfl,_,rfl,by decide⟩
 unfold qy3
 cases hp:qu7 qj0 s with
 | none=>rw[hp]at g2;exact hfail g2
 | some m=>
  rw[hp]at g2;simp only at g2 ⊢;by_cases ht:(qrf [] m.2.2 []).1=true
  ·rw[qX ht]at g2;subst g2;have hsz:=q13 (s:=s) (m:=(m.1,(m.2.1,(qrf [] m.2.2 []).2))) (by unfold qy3;rw[hp];simp only;rw[qX ht]) (by omega)
   simp only[sumK,qX ht];rw[qb2,q3k fu hfu _ hsz,qB,qp8,qB,qqb];by_cases h0:(medF (m.1,(m.2.1,(qrf [] m.2.2 []).2))).1≠0
   ·rw[qX h0,qX h0];exact⟨_,rfl,_,rfl,h0⟩
   ·rw[qW h0,qW h0];exact⟨_,rfl,rfl⟩
  ·rw[qW ht]at g2 ⊢;exact hfail g2
theorem zwe {s:Bs} {m:Med} (h:pmS s=some m):SmD m/\(medF m).1=0:=by
 unfold pmS at h;split at h
 ·cases h
 ·rename_i h4
  cases hm:qy3 s with
  | none=>rw[hm]at h;cases h
  | some x=>
   rw[hm]at h;simp only at h;split at h
   ·cases h
   ·rename_i h0;cases h
    exact⟨q13 hm (by omega),Classical.byContradiction h0⟩
end Go.Sym
namespace Go.Sym
open Go.Lib (decDigits itoa validD)
def two (c:UInt8):Bs:=(quj c).getD []
set_option maxRecDepth 100000 in
theorem zj5:∀ n:_root_.Fin 256,quj (UInt8.ofNat n.val)=some (two (UInt8.ofNat n.val))/\(two (UInt8.ofNat n.val)).length=2:=by decide +kernel
theorem zw3 (c:UInt8):quj c=some (two c):=(qpi (fun c=>quj c=some (two c)/\(two c).length=2) zj5 c).1
theorem zkc (c:UInt8):(two c).length=2:=(qpi (fun c=>quj c=some (two c)/\(two c).length=2) zj5 c).2
def dgH (c:UInt8):UInt8:=(qc4 (q38 c (min (4:Int).toNat 8))).getD 0
def dgL (c:UInt8):UInt8:=(qc4 c).getD 0
set_option maxRecDepth 100000 in
theorem zup:∀ n:_root_.Fin 256,qc4 (q38 (UInt8.ofNat n.val) (min (4:Int).toNat 8))=some (dgH (UInt8.ofNat n.val))/\qc4 (UInt8.ofNat n.val)=some (dgL (UInt8.ofNat n.val))/\[dgH (UInt8.ofNat n.val),dgL (UInt8.ofNat n.val)]=two (UInt8.ofNat n.val):=by decide +kernel
theorem vae (c:UInt8):qc4 (q38 c (min (4:Int).toNat 8))=some (dgH c)/\qc4 c=some (dgL c)/\[dgH c,dgL c]=two c:=
 qpi (fun c=>qc4 (q38 c (min (4:Int).toNat 8))=some (dgH c)/\qc4 c=some (dgL c)/\[dgH c,dgL c]=two c) zup c
def qvj (c:UInt8):Bs:=if tk c=true then [c] else 37::two c
theorem q26 (c:UInt8):1<=(qvj c).length/\(qvj c).length<=3:=by
 unfold qvj;split
 ·simp
 ·rw[qL,zkc];omega
def pcs (cur:Bs):Bs->List Bs
 | []=>[cur]
 | c::t=>if cur.length+(qvj c).length<=60 then pcs (cur++qvj c) t else cur::pcs (qvj c) t
theorem q7j:∀ (t cur:Bs),(pcs cur t).length<=t.length+1/\1<=(pcs cur t).length
 | [],_=>by simp[pcs]
 | c::t,cur=>by
  rw[pcs];split
  ·have:=q7j t (cur++qvj c);simp only[qL];omega
  ·have:=q7j t (qvj c);simp only[qL];omega
theorem qyz:∀ (t cur:Bs),cur.length<=60->∀ x∈pcs cur t,x.length<=60
 | [],cur,h,x,hx=>by rw[pcs,List.mem_singleton]at hx;rw[hx];exact h
 | c::t,cur,h,x,hx=>by
  have hu:=q26 c;rw[pcs]at hx;split at hx
  ·exact qyz t _ (by rw[qM];omega) x hx
  ·rcases List.mem_cons.1 hx with e|e
   ·rw[e];exact h
   ·exact qyz t _ (by omega) x e
def numb (nm:Bs):Nat->List Bs->Bs
 | _,[]=>[]
 | n,p::ps=>(((((([59,32]:Bs)++nm)++([42]:Bs))++decDigits n)++([42,61]:Bs))++p)++numb nm (n+1) ps
theorem zcu (nm:Bs) (hn:nm.length<=1000):∀ (ps:List Bs) (n:Nat),n+ps.length<=100000000->(∀ x∈ps,x.length<=60)->(numb nm n ps).length<=ps.length*1200
 | [],_,_,_=>by simp[numb]
 | p::ps,n,h,hs=>by
  simp only[qL]at h;have h1:=zcu nm hn ps (n+1) (by omega) (fun x hx=>hs x (qE _ hx))
  have h2:=hs p qH;have h3:=qyy 9 n (by omega) (by omega)
  rw[numb];simp only[qM,qL,qZ];omega
theorem zio (fu n:Nat):∀ (vbs vbr cur:Bs) (done:List Bs),vbr.length<n->vbs.length+vbr.length<1000000->done.length<=vbs.length->cur.length<=60 ->
  qe0 fu n (vbs++vbr) ((vbs.length+vbr.length:Nat):Int) (vbs.length:Int) (done++[cur])=some (done++pcs cur vbr):=by
 have hrm:=qf1
 induction n with
 | zero=>intro vbs vbr cur done h;exact absurd h (by omega)
 | succ n ih=>
  intro vbs vbr cur done h hb hd hc;rw[qe0,qnv]
  cases vbr with
  | nil=>rw[qac (by simp)];rfl
  | cons c t=>
   simp only[qL]at h hb;have hu:=q26 c;have e:(vbs.length+(c::t).length:Nat)=vbs.length+1+t.length:=by simp only[qL];omega
   have p1:qhg fu (qe0 fu n) (vbs++c::t) (qvj c) ((vbs.length+(c::t).length:Nat):Int) (vbs.length:Int) (done++[cur])=some (done++pcs cur (c::t)):=by
    have hl:(((done++[cur]).length:Nat):Int)-1=(done.length:Int):=by simp
    rw[qhg,hl,qgy (by omega) (by omega),qaa (by simp),q0a,qB,w64n _ _ (by omega),pcs,qai _ (by omega),e]
    have st:=fun cur' done' (h1:done'.length<=vbs.length+1) (h2:cur'.length<=60)=>ih (vbs++[c]) t cur' done' (by omega) (by simp;omega) (by simpa using h1) h2
    simp only[qM,qL,qZ,qS,wM,wO]at st;by_cases h60:cur.length+(qvj c).length<=60
    ·rw[qaa (by omega),qX h60,qaa (by simp),qB,qaa (by simp only[qad];omega),qaa (by simp),qB,zar]
     exact st (cur++qvj c) done (by omega) (by rw[qM];omega)
    ·rw[qac (by omega),qW h60,qaa (by simp only[qM,qL,qZ];omega)]
     have:=st (qvj c) (done++[cur]) (by simp;omega) (by omega)
     refine this.trans ?_;simp
   rw[qaa (by simp only[qL];omega),qai _ (by omega),qaa (by rw[qbg];omega),qao,qB,zfi,qB,q84]
   rw[qvj]at p1;obtain⟨d1,d2,d3⟩:=vae c;cases hk:tk c
   ·rw[qek,qB,d1,qB,qB,d2,qB];rw[hk,qW (by simp),← d3]at p1
    exact p1
   ·rw[qb2];rw[hk,qX rfl]at p1;exact p1
def pfx:Bs:=[117,116,102,56,39,39]
theorem zei (fu:Nat) (hfu:90000000<=fu) (v:Bs) (h:v.length<=500000):qo8 fu v=some (pcs pfx v):=by
 have:=zio fu fu [] v pfx [] (by omega) (by simp;omega) (by simp) (by decide)
 simpa [qo8,pfx] using this
def prn (c:UInt8):Bool:=decide (32<=c)&&decide (c<=126)
theorem zut (c:UInt8):qkc c=some (prn c):=by unfold qkc prn;by_cases h:(32:UInt8)<=c<;>simp[h]
theorem zpb (fu:Nat) (s:Bs) (h:s.length<fu) (hb:s.length<9223372036854775807):qo5 fu s=some (s.all prn):=by
 have e:∀ n,qg9 fu n=allG qkc n:=by
  intro n;induction n with
  | zero=>rfl
  | succ n ih=>rw[qg9,ih];funext a b c;rfl
 unfold qo5;rw[e];exact zau _ _ zut _ _ h hb
def quo (s:Bs):Bs:=escs 92 34 [92,92] [92,34] s
theorem zan (s:Bs):(quo s).length<=2*s.length:=by
 unfold quo;rw[q1t (by decide)]
 have h1:=List.count_le_length (a:=(92:UInt8)) (l:=s);unfold cntP;have:List.count 92 s+List.count 34 s<=s.length:=by
  induction s with
  | nil=>simp
  | cons c s ih=>
   have h1:=List.count_le_length (a:=(92:UInt8)) (l:=s);have:=ih h1;simp only[List.count_cons,qL];by_cases e:c=92
   ·subst e;simp;omega
   ·have:(c==92)=false:=by simpa using e
    rw[this];simp only[wJ,if_false];split<;>omega
 omega
def qy5 (p:Prm):Bs:=if tokS p.2=true then ((([59,32]:Bs)++p.1)++([61]:Bs))++p.2
 else if p.2.length<=60/\p.2.all prn=true then ((((([59,32]:Bs)++p.1)++([61,34]:Bs))++quo p.2)++([34]:Bs))
 else numb p.1 0 (pcs pfx p.2)
theorem zp0 (fu n:Nat) (z:Prm) (hz:z.1.length<=1000):∀ (vbs vbr:List Bs) (out:Bs),vbr.length<n->vbs.length+vbr.length<1000000->out.length<=vbs.length*1200->(∀ x∈vbr,x.length<=60) ->
  qi0 fu n out ((vbs.length+vbr.length:Nat):Int) (vbs.length:Int) z (vbs++vbr)=some (out++numb z.1 vbs.length vbr):=by
 induction n with
 | zero=>intro vbs vbr out h;exact absurd h (by omega)
 | succ n ih=>
  intro vbs vbr out h hb ho hs;rw[qi0,qqr]
  cases vbr with
  | nil=>rw[qac (by simp)];simp[numb]
  | cons p t=>
   simp only[qL]at h hb;have hp:=hs p qH;have hd:=qyy 9 vbs.length (by omega) (by omega)
   rw[qaa (by simp only[qL];omega),qaa (by simp),q0a,qB,qaa (by simp[qad];omega),qaa (by simp[qad];omega)]
   have hi:qdz (vbs.length:Int)=some (decDigits vbs.length):=by unfold qdz;rw[qaa (by omega),q6h]
   rw[hi,qB,qaa (by simp[qad];omega),qaa (by simp[qad];omega),qaa (by simp[qad];omega),qaa (by simp[qad];omega),qai _ (by omega)]
   have st:=ih (vbs++[p]) t (out++((((((([59,32]:Bs)++z.1)++([42]:Bs))++decDigits vbs.length)++([42,61]:Bs))++p))) (by omega) (by simp;omega) (by simp only[qM,qL,qZ];omega) (fun x hx=>hs x (qE _ hx))
   simp only[qM,qL,qZ,wO]at st;rw[show (vbs.length+(p::t).length:Nat)=vbs.length+1+t.length by simp only[qL];omega]
   rw[show (vbs++[p])++t=vbs++p::t by simp]at st
   refine st.trans ?_;rw[numb,qS]
theorem zkv (fu:Nat) (hfu:90000000<=fu) (p:Prm) (h1:p.1.length<=1000) (h2:p.2.length<=100000):qq8 fu p=some (qy5 p):=by
 unfold qq8 qy5;rw[q1s fu _ (by omega) (by omega),qB]
 cases ht:tokS p.2
 ·rw[qax rfl,qW (by simp)]
  have hno:qfx fu false p=some (numb p.1 0 (pcs pfx p.2)):=by
   rw[qfx,qax rfl,qqf,zei fu hfu _ (by omega),qB]
   have hl:=q7j p.2 pfx;have:=zp0 fu fu p h1 [] (pcs pfx p.2) [] (by omega) (by simp;omega) (by simp) (qyz _ _ (by decide))
   simpa using this
  by_cases h60:p.2.length<=60
  ·rw[qaa (by omega),zpb fu _ (by omega) (by omega),qB]
   cases ha:p.2.all prn
   ·rw[hno,qW (by simp)]
   ·rw[qX ⟨h60,rfl⟩,qfx,qau rfl,qaa (by simp[qad];omega),qaa (by simp[qad];omega)]
    have hq:=zan p.2;rw[show qf9 ([([92]:Bs),([92,92]:Bs),([34]:Bs),([92,34]:Bs)]:List Bs)=some (0,0,0,[[92],[92,92],[34],[92,34]]) by rfl,qB]
    have hr:qif p.2 0 0 0 [[92],[92,92],[34],[92,34]]=some (quo p.2):=by
     unfold qif quo;simp only;rw[qaa (by refine⟨?_,?_,by decide,by omega⟩<;>first|rfl|trivial)]
    rw[hr,qB,qaa (by simp[qad];omega),qaa (by simp[qad];omega)]
  ·rw[qac (by omega),hno,qW (by omega)]
 ·rw[qau rfl,qX rfl,qaa (by simp[qad];omega),qaa (by simp[qad];omega),qaa (by simp[qad];omega)]
theorem q8c (p:Prm) (h1:p.1.length<=1000) (h2:p.2.length<=100000):(qy5 p).length<=200000000:=by
 have hq:=zan p.2;have hl:=q7j p.2 pfx;have hn:=zcu p.1 h1 (pcs pfx p.2) 0 (by omega) (qyz _ _ (by decide))
 unfold qy5;split
 ·simp;omega
 ·split
  ·simp;omega
  ·omega
def q1d (m:Med):Bs:=((m.1++([47]:Bs))++m.2.1)++m.2.2.flatMap qy5
def SmV (m:Med):Prop:=m.1.length<=1000/\m.2.1.length<=1000/\m.2.2.length<=1000/\∀ p∈m.2.2,p.1.length<=1000/\p.2.length<=100000
theorem zbl {s:Bs} (h:tokS s=true):s.length<=60:=by unfold tokS at h;simp at h;exact h.1.2
theorem zgg:∀ (l vbs:List Prm),(parF vbs l).1=0->∀ p∈l,tokS p.1=true/\p.1.length<=20/\p.2.length<=500/\validD p.2=true
 | [],_,_,p,hp=>by cases hp
 | q::l,vbs,h,p,hp=>by
  rw[parF]at h;split at h
  ·cases h
  ·split at h
   ·cases h
   ·split at h
    ·cases h
    ·split at h
     ·cases h
     ·rename_i g1 g2 g3 g4;rcases List.mem_cons.1 hp with e|e
      ·subst e;refine⟨?_,by omega,by omega,?_⟩
       ·cases hh:tokS p.1
        ·exact absurd (.inl hh) g1
        ·rfl
       ·cases hh:validD p.2
        ·exact absurd hh g4
        ·rfl
      ·exact zgg l _ h p e
theorem zqm {m:Med} (h:(medF m).1=0):tokS m.1=true/\tokS m.2.1=true/\m.2.2.length<=60/\∀ p∈m.2.2,tokS p.1=true/\p.1.length<=20/\p.2.length<=500/\validD p.2=true:=by
 unfold medF at h;split at h
 ·cases h
 ·split at h
  ·cases h
  ·rename_i g1 g2;refine⟨?_,?_,by omega,zgg _ _ h⟩
   ·cases hh:tokS m.1
    ·exact absurd (.inl hh) g1
    ·rfl
   ·cases hh:tokS m.2.1
    ·exact absurd (.inr hh) g1
    ·rfl
theorem qzl {m:Med} (h:(medF m).1=0):SmV m:=by
 obtain⟨h1,h2,h3,h4⟩:=zqm h;have:=zbl h1;have:=zbl h2;exact⟨by omega,by omega,by omega,fun p hp=>by have:=h4 p hp;omega⟩
theorem SmV.smD {m:Med} (h:SmV m):SmD m:=⟨by have:=h.1;omega,by have:=h.2.1;omega,by have:=h.2.2.1;omega,fun x hx=>by have:=h.2.2.2 x hx;omega⟩
theorem zm7 (fu n:Nat) (hfu:90000000<=fu) (z:Int×Int):∀ (vbs vbr:List Prm) (out:Bs),vbr.length<n->vbs.length+vbr.length<=1000->(∀ p∈vbr,p.1.length<=1000/\p.2.length<=100000)->out.length<=3000+vbs.length*200000000 ->
  qix fu n out (vbs++vbr) ((vbs.length+vbr.length:Nat):Int) (vbs.length:Int) z=some (if 4000<(out++vbr.flatMap qy5).length then ([],(1,-4)) else (out++vbr.flatMap qy5,(0,0))):=by
 induction n with
 | zero=>intro vbs vbr out h;exact absurd h (by omega)
 | succ n ih=>
  intro vbs vbr out h hb hs ho;rw[qix,qqp]
  cases vbr with
  | nil=>
   rw[qac (by simp)]
   simp only[List.flatMap_nil,List.append_nil];by_cases h4:4000<out.length
   ·rw[qaa (by omega),qX h4,qi6];rfl
   ·rw[qac (by omega),qW h4,zc1];rfl
  | cons p t=>
   simp only[qL]at h hb;have hp:=hs p qH;have hpl:=q8c p hp.1 hp.2;rw[qaa (by simp only[qL];omega),qao,qB,zkv fu hfu p hp.1 hp.2,qB,qaa (by simp only[qad];omega),qai _ (by omega)]
   have st:=ih (vbs++[p]) t (out++qy5 p) (by omega) (by simp;omega) (fun x hx=>hs x (qE _ hx)) (by simp;omega)
   simp only[qM,qL,qZ,wO]at st;rw[show (vbs++[p])++t=vbs++p::t by simp]at st
   rw[show (vbs.length+(p::t).length:Nat)=vbs.length+1+t.length by simp only[qL];omega]
   refine st.trans ?_;simp only[List.flatMap_cons,qS,qM,Nat.add_assoc]
theorem zmu (fu:Nat) (hfu:90000000<=fu) (m:Med) (hs:SmD m):qgn fu m=some (if (medF m).1≠0 then ([],medF m) else if 4000<(q1d m).length then ([],(1,-4)) else (q1d m,(0,0))):=by
 unfold qgn;rw[q3k fu hfu m hs,qB,qp8,qB,qqb];by_cases h:(medF m).1≠0
 ·rw[qX h,qX h]
 ·rw[qW h,qW h];obtain⟨g1,g2,g3,g4⟩:=qzl (m:=m) (by omega)
  rw[qaa (by simp[qad];omega),qaa (by simp[qad];omega)]
  have:=zm7 fu fu hfu (0,0) [] m.2.2 ((m.1++([47]:Bs))++m.2.1) (by omega) (by simp;omega) g4 (by simp;omega)
  simpa [q1d] using this
theorem znv (fu n:Nat):∀ (vbs vbr out:Bs),vbr.length<n->vbs.length+vbr.length<1000000->out.length<=1+2*vbs.length ->
  qin fu n (vbs++vbr) out (vbs.length:Int)=some ((out++quo vbr)++[34]):=by
 induction n with
 | zero=>intro vbs vbr out h;exact absurd h (by omega)
 | succ n ih=>
  intro vbs vbr out h hb ho;rw[qin,quz]
  cases vbr with
  | nil=>rw[qac (by simp),qaa (by simp[qad];omega)];simp[quo,escs]
  | cons c t=>
   simp only[qL]at h hb;have st:=fun o (ho:List.length o<=1+2*(vbs.length+1))=>ih (vbs++[c]) t o (by omega) (by simp;omega) (by simpa using ho)
   simp only[qM,qL,qZ,qS,wM,wO]at st;have y:qil fu (qin fu n) (vbs++c::t) out (vbs.length:Int) true=some ((out++([92,c]++quo t))++[34]):=by
    rw[qil,qau rfl,qaa (by simp[qad];omega),qai _ (by omega),qaa (by rw[qbg];omega),q84,qaa (by simp[qad];omega)]
    refine (st (out++[92]++[c]) (by simp;omega)).trans ?_
    simp
   have nn:qil fu (qin fu n) (vbs++c::t) out (vbs.length:Int) false=some ((out++([c]++quo t))++[34]):=by
    rw[qil,qax rfl,qai _ (by omega),qaa (by rw[qbg];omega),q84,qaa (by simp[qad];omega)]
    refine (st (out++[c]) (by simp;omega)).trans ?_
    simp
   have hq:quo (c::t)=esc 92 34 [92,92] [92,34] c++quo t:=by unfold quo escs;rw[List.flatMap_cons]
   rw[qaa (by rw[qbg];omega),qao,qB,qnl,hq]
   unfold esc;by_cases h1:c=34
   ·subst h1;rw[qX rfl,y];rfl
   ·rw[qW h1,qB];by_cases h2:c=92
    ·subst h2;rw[show ((92:UInt8)==92)=true from rfl,y];rfl
    ·rw[show (c==92)=false by simpa using h2,nn,qW h2,qW h1]
theorem zhu (fu:Nat) (hfu:90000000<=fu) (s:Bs) (h:s.length<=100000):qw9 fu s=some (([34]++quo s)++[34]):=by
 have:=znv fu fu [] s [34] (by omega) (by simp;omega) (by simp)
 simpa [qw9] using this
theorem ztr (fu n:Nat) (hfu:90000000<=fu) (z:Prm) (hz:z.1.length<=1000):∀ (vbs vbr cur out:Bs) (k:Nat),z.2=vbs++vbr->vbr.length<n->z.2.length<=100000->k<=vbs.length->cur.length<=60->out.length<=k*1200 ->
  qe3 fu n out cur (k:Int) (vbs.length:Int) z=some (out++numb z.1 k (pcs cur vbr)):=by
 induction n with
 | zero=>intro vbs vbr cur out k _ h;exact absurd h (by omega)
 | succ n ih=>
  intro vbs vbr cur out k hzz h hb hk hc ho;have vbt:z.2.length=vbs.length+vbr.length:=by rw[hzz];simp
  have hd:=qyy 9 k (by omega) (by omega)
  rw[qe3,qoa]
  cases vbr with
  | nil=>
   rw[qac (by simp only[qZ]at vbt;omega),qaa (by simp[qad];omega),qaa (by simp[qad];omega),qaa (by simp[qad];omega),q3y fu (by omega) k (by omega),qB,qaa (by simp[qad];omega),qaa (by simp[qad];omega),qaa (by simp[qad];omega)]
   rw[pcs,numb,numb];simp
  | cons c t=>
   simp only[qL]at h vbt;have hu:=q26 c;have hx:idx z.2 (vbs.length:Int)=some c:=by rw[hzz];exact qao vbs c t
   have st:=fun cur' out' k' (h1:k'<=vbs.length+1) (h2:List.length cur'<=60) (h3:List.length out'<=k'*1200)=>ih (vbs++[c]) t cur' out' k' (by rw[hzz];simp) (by omega) hb (by simpa using h1) h2 h3
   simp only[qM,qL,qZ,wO]at st;have p3:qhy fu (qe3 fu n) out cur (k:Int) (vbs.length:Int) (qvj c) z=some (out++numb z.1 k (pcs cur (c::t))):=by
    rw[qhy,w64n _ _ (by omega),pcs]
    by_cases h60:cur.length+(qvj c).length<=60
    ·rw[qac (by omega),qX h60,qhk,qaa (by simp only[qad];omega),qk2,qai _ (by omega)]
     exact st (cur++qvj c) out k (by omega) (by rw[qM];omega) ho
    ·rw[qaa (by omega),qW h60,qaa (by simp[qad];omega),qaa (by simp[qad];omega),qaa (by simp[qad];omega),q3y fu (by omega) k (by omega),qB,qaa (by simp[qad];omega),qaa (by simp[qad];omega),qaa (by simp[qad];omega),qhk,qaa (by simp[qad];omega),qk2,qai _ (by omega),qai _ (by omega),List.nil_append]
     refine (st (qvj c) _ (k+1) (by omega) (by omega) (by simp only[qM,qL,qZ];omega)).trans ?_
     rw[numb];simp
   rw[qaa (by omega),hx,qB,zw3,qB,qaa (by rw[zkc];simp[qad]),qB,zha fu (by omega),qB]
   rw[qvj]at p3;cases hk2:tk c
   ·rw[qax rfl];rw[hk2,qW (by simp)]at p3
    exact p3
   ·rw[qau rfl,qai _ (by omega),qaa (by omega)]
    rw[hk2,qX rfl]at p3;have e:List.take (((vbs.length+1:Nat):Int).toNat-((vbs.length:Nat):Int).toNat) (List.drop ((vbs.length:Nat):Int).toNat z.2)=[c]:=by rw[hzz];exact q84 vbs c t
    rw[e];exact p3
theorem zpt (fu n:Nat) (hfu:90000000<=fu) (z:Prm) (hz:z.1.length<=1000) (hb:z.2.length<=100000) (ht:tokS z.2=false):∀ (vbs vbr:Bs) (f:Bool),z.2=vbs++vbr->vbr.length<n->f=(decide (z.2.length<=60)&&vbs.all prn) ->
  qh7 fu n f (vbs.length:Int) z=some (qy5 z):=by
 induction n with
 | zero=>intro vbs vbr f _ h;exact absurd h (by omega)
 | succ n ih=>
  intro vbs vbr f hzz h hf;have vbt:z.2.length=vbs.length+vbr.length:=by rw[hzz];simp
  rw[qh7,qn7]
  cases vbr with
  | nil=>
   rw[List.append_nil]at hzz;rw[qac (by simp only[qZ]at vbt;omega),hf]
   unfold qy5;rw[ht,qW (by simp),← hzz]
   cases hc:(decide (z.2.length<=60)&&z.2.all prn)
   ·rw[qax rfl,qW (by intro q;rw[q.2,decide_eq_true q.1]at hc;cases hc)]
    have:=ztr fu fu hfu z hz [] z.2 pfx [] 0 rfl (by omega) hb (by simp) (by decide) (by simp)
    simpa [pfx] using this
   ·rw[qA,decide_eq_true_eq]at hc;have hq:=zan z.2;rw[qau rfl,qX hc,qaa (by simp[qad];omega),qaa (by simp[qad];omega),zhu fu hfu _ hb,qB,qaa (by simp[qad];omega)]
    simp
  | cons c t=>
   simp only[qL]at h vbt;have hx:idx z.2 (vbs.length:Int)=some c:=by rw[hzz];exact qao vbs c t
   have st:=fun f' (hf':f'=(decide (z.2.length<=60)&&(vbs++[c]).all prn))=>ih (vbs++[c]) t f' (by rw[hzz];simp) (by omega) hf'
   simp only[qM,qL,qZ,wO]at st;have hp:(decide (32<=(c.toNat:Int)/\(c.toNat:Int)<=126))=prn c:=by
    unfold prn;rw[Bool.eq_iff_iff];simp only[decide_eq_true_eq,qA,UInt8.le_iff_toNat_le];show _↔32<=c.toNat/\c.toNat<=126;omega
   rw[qaa (by omega)]
   cases f
   ·rw[qax rfl,qg1,qai _ (by omega)]
    exact st false (by
     rw[List.all_append];cases h1:decide (z.2.length<=60)
     ·rfl
     ·rw[h1,Bool.true_and]at hf;rw[← hf];rfl)
   ·rw[qau rfl,hx,qB,qjw,hp,qB,qg1,qai _ (by omega)]
    exact st (prn c) (by
     rw[List.all_append,← Bool.and_assoc,← hf];simp)
theorem zdr (fu:Nat) (hfu:90000000<=fu) (p:Prm) (h1:p.1.length<=1000) (h2:p.2.length<=100000):qpl fu p=some (qy5 p):=by
 unfold qpl;rw[qyr fu (by omega) _ (by omega) (by omega),qB]
 cases ht:tokS p.2
 ·rw[qax rfl];exact zpt fu fu hfu p h1 h2 ht [] p.2 _ rfl (by omega) (by simp;omega)
 ·rw[qau rfl,qaa (by simp[qad];omega),qaa (by simp[qad];omega),qaa (by simp[qad];omega)]
  unfold qy5;rw[qX ht]
theorem zvp (fu n:Nat) (hfu:90000000<=fu) (m:Med) (hs:SmV m):∀ (vbs vbr:List Prm) (out:Bs),m.2.2=vbs++vbr->vbr.length<n->out.length<=3000+vbs.length*200000000 ->
  qht fu n out (vbs.length:Int) m=some (out++vbr.flatMap qy5):=by
 induction n with
 | zero=>intro vbs vbr out _ h;exact absurd h (by omega)
 | succ n ih=>
  intro vbs vbr out hm h ho;have hl:=hs.2.2.1;have vbt:m.2.2.length=vbs.length+vbr.length:=by rw[hm];simp
  rw[qht,qoi]
  cases vbr with
  | nil=>rw[qac (by simp only[qZ]at vbt;omega)];simp
  | cons p t=>
   simp only[qL]at h vbt;have hp:=hs.2.2.2 p (by rw[hm];simp)
   have hpl:=q8c p hp.1 hp.2;have hx:idx m.2.2 (vbs.length:Int)=some p:=by rw[hm];exact qao vbs p t
   rw[qaa (by omega),hx,qB,zdr fu hfu p hp.1 hp.2,qB,qaa (by simp only[qad];omega),qai _ (by omega)]
   have st:=ih (vbs++[p]) t (out++qy5 p) (by rw[hm];simp) (by omega) (by simp;omega)
   simp only[qM,qL,qZ,wO]at st;refine st.trans ?_;rw[List.flatMap_cons,qS]
theorem zgi (fu:Nat) (hfu:90000000<=fu) (m:Med) (hs:SmV m):qpm fu m=some (q1d m):=by
 obtain⟨g1,g2,g3,g4⟩:=hs;unfold qpm;rw[qaa (by simp[qad];omega),qaa (by simp[qad];omega)]
 have:=zvp fu fu hfu m ⟨g1,g2,g3,g4⟩ [] m.2.2 ((m.1++([47]:Bs))++m.2.1) rfl (by omega) (by simp;omega)
 simpa [q1d] using this
end Go.Sym
namespace Go.Sym
abbrev ctN:Bs:=[67,111,110,116,101,110,116,45,84,121,112,101]
abbrev ctn:Bs:=[99,111,110,116,101,110,116,45,116,121,112,101]
abbrev mpN:Bs:=[109,117,108,116,105,112,97,114,116]
abbrev bdN:Bs:=[98,111,117,110,100,97,114,121]
theorem zke (l:List Fld):vals l ctn=vals l ctN:=rfl
def typV (l:List Fld):Option Med:=match vals l ctN with|[v]=>pmS v|_=>none
def tyP (fu:Nat) (k:Int) (v:Bs):Option qs5:=(qmn fu v).bind fun x4=>sumK x4 (fun a5=>(qak a5.2.2).bind fun x7=>some (.inl (a5.1,(a5.2.1,(k,!x7))))) (fun b6=>(qak (b6.2.2.1,b6.2.2.2.1)).bind fun x8=>some (.inr (b6.1,(b6.2.1,(k,(!x8,b6.2.2.2.2))))))
theorem zzr (fu:Nat) (hfu:90000000<=fu) (k:Int) (v:Bs) (h:v.length<=4000000):tyP fu k v=some (match pmS v with|some m => .inr (m.1,(m.2.1,(k,(true,m.2.2))))|none => .inl ([],([],(k,false)))):=by
 unfold tyP;obtain⟨R,h1,h2⟩:=zhd fu hfu v h;rw[h1,qB]
 cases hp:pmS v with
 | none=>
  rw[hp]at h2;obtain⟨f,rfl,hf⟩:=h2;simp only[sumK,qp8,qB];have:(f.1 != 0)=true:=by simpa using hf
  rw[this];rfl
 | some m=>rw[hp]at h2;simp only at h2;subst h2;rfl
section typ
variable (fu:Nat) (hfu:90000000<=fu) (l:List Fld) (hs:∀ x∈l,x.1.length<=4000000/\x.2.length<=4000000) (hl:l.length<=4000000)
include hfu hs hl
theorem z6b (k:Nat) (y:Fld) (hy:idx l (k:Int)=some y) (n:Nat):∀ (vbs vbr:List Fld),l=vbs++vbr->vbr.length<n ->
  qd7 fu n l (k:Int) (vbs++vbr) ((vbs.length+vbr.length:Nat):Int) (vbs.length:Int) [] []=if vals vbr ctN=[] then tyP fu (k:Int) y.2 else some (.inl ([],([],(0,false)))):=by
 induction n with
 | zero=>intro vbs vbr _ h;exact absurd h (by omega)
 | succ n ih=>
  intro vbs vbr hp h;have vbt:l.length=vbs.length+vbr.length:=by rw[hp];simp
  rw[qd7,qmy]
  cases vbr with
  | nil=>rw[qac (by simp),qac (by omega),hy,qB,show vals [] ctN=[] from rfl,qX rfl];rfl
  | cons x t=>
   simp only[qL]at h vbt;have hx:=hs x (by rw[hp];simp)
   have st:=ih (vbs++[x]) t (by rw[hp];simp) (by omega)
   simp only[qM,qL,qZ,qS,wM,wO]at st;rw[qaa (by simp only[qL];omega),qao,qB,quq fu hfu _ _ hx.1 (by simp),qB,qsc]
   cases hk:lk x.1 ctN
   ·rw[qax rfl,qh2,qai _ (by omega),qW (show ¬ ((x.1.map lo==ctN.map lo)=true) by show ¬ lk x.1 ctN=true;rw[hk];simp),show (vbs.length+(x::t).length:Nat)=vbs.length+1+t.length by simp only[qL];omega]
    exact st
   ·rw[qau rfl,qaa (by omega),qX (show (x.1.map lo==ctN.map lo)=true from hk),qW (by simp)]
theorem vah (n:Nat):∀ (vbs vbr:List Fld),l=vbs++vbr->vbr.length<n ->
  (vals vbr ctN=[]->qd7 fu n l (-1) (vbs++vbr) ((vbs.length+vbr.length:Nat):Int) (vbs.length:Int) [] []=some (.inl ([],([],(0,false))))) /\
  (∀ u x w,vbr=u++x::w->vals u ctN=[]->lk x.1 ctN=true->qd7 fu n l (-1) (vbs++vbr) ((vbs.length+vbr.length:Nat):Int) (vbs.length:Int) [] []=if vals w ctN=[] then tyP fu ((vbs.length+u.length:Nat):Int) x.2 else some (.inl ([],([],(0,false))))):=by
 induction n with
 | zero=>intro vbs vbr _ h;exact absurd h (by omega)
 | succ n ih=>
  intro vbs vbr hp h;have vbt:l.length=vbs.length+vbr.length:=by rw[hp];simp
  rw[qd7,qmy]
  cases vbr with
  | nil=>exact⟨fun _=>by rw[qac (by simp),qaa (by omega)],fun u x w e=>by simp at e⟩
  | cons y t=>
   simp only[qL]at h vbt;have hy:=hs y (by rw[hp];simp)
   obtain⟨s1,s2⟩:=ih (vbs++[y]) t (by rw[hp];simp) (by omega)
   simp only[qM,qL,qZ,qS,wM,wO]at s1 s2;rw[qaa (by simp only[qL];omega),qao,qB,quq fu hfu _ _ hy.1 (by simp),qB,qsc,show (vbs.length+(y::t).length:Nat)=vbs.length+1+t.length by simp only[qL];omega]
   cases hk:lk y.1 ctN
   ·rw[qax rfl,qh2,qai _ (by omega),qW (show ¬ ((y.1.map lo==ctN.map lo)=true) by show ¬ lk y.1 ctN=true;rw[hk];simp)]
    refine⟨s1,fun u x w e hu hx => ?_⟩
    cases u with
    | nil=>rw[List.nil_append,List.cons.injEq]at e;rw[e.1,hx]at hk;cases hk
    | cons z u=>
     rw[wK,List.cons.injEq]at e;obtain⟨rfl,e⟩:=e;rw[qsc,qW (show ¬ ((y.1.map lo==ctN.map lo)=true) by show ¬ lk y.1 ctN=true;rw[hk];simp)]at hu
     have:=s2 u x w e hu hx;rw[show (vbs.length+(y::u).length:Nat)=vbs.length+1+u.length by simp only[qL];omega]
     exact this
   ·rw[qau rfl,qac (by omega),qh2,qai _ (by omega),qX (show (y.1.map lo==ctN.map lo)=true from hk)]
    refine⟨fun e=>by simp at e,fun u x w e hu hx => ?_⟩
    cases u with
    | nil=>
     rw[List.nil_append,List.cons.injEq]at e;obtain⟨rfl,rfl⟩:=e;have:=z6b fu hfu l hs hl vbs.length y (by rw[hp];exact qao vbs y t) n (vbs++[y]) t (by rw[hp];simp) (by omega)
     simp only[qM,qL,qZ,qS,wM,wO]at this;exact this
    | cons z u=>
     rw[wK,List.cons.injEq]at e;obtain⟨rfl,e⟩:=e;rw[qsc,qX (show (y.1.map lo==ctN.map lo)=true from hk)]at hu
     simp at hu
theorem zfh:∃ R,qj6 fu l=some R/\match typV l with
  | some m=>∃ vbs x vbr,l=vbs++x::vbr/\vals l ctN=[x.2]/\lk x.1 ctN=true/\vals vbs ctN=[]/\vals vbr ctN=[]/\R = .inr (m.1,(m.2.1,((vbs.length:Int),(true,m.2.2))))
  | none=>∃ k,R = .inl ([],([],(k,false))):=by
 obtain⟨h1,h2⟩:=vah fu hfu l hs hl fu [] l rfl (by omega)
 simp only[List.nil_append,qZ,wO]at h1 h2;unfold qj6;rw[show ((0:Nat):Int)=0 from rfl]at h1 h2
 have hd:vals l ctN=[]\/∃ u x w,l=u++x::w/\vals u ctN=[]/\lk x.1 ctN=true:=by
  clear h1 h2 hs hl
  induction l with
  | nil=>exact .inl rfl
  | cons y t ih=>
   rw[qsc];cases hk:lk y.1 ctN
   ·rw[qW (show ¬ ((y.1.map lo==ctN.map lo)=true) by show ¬ lk y.1 ctN=true;rw[hk];simp)]
    rcases ih with g|⟨u,x,w,e,g1,g2⟩
    ·exact .inl g
    ·exact .inr ⟨y::u,x,w,by rw[e];rfl,by rw[qsc,qW (show ¬ ((y.1.map lo==ctN.map lo)=true) by show ¬ lk y.1 ctN=true;rw[hk];simp)];exact g1,g2⟩
   ·exact .inr ⟨[],y,t,rfl,rfl,hk⟩
 have vapp:∀ (u w:List Fld) (x:Fld),lk x.1 ctN=true->vals (u++x::w) ctN=vals u ctN++x.2::vals w ctN:=fun u w x hx=>by
  unfold vals;rw[List.filter_append,List.filter_cons,qX (show (x.1.map lo==ctN.map lo)=true from hx),List.map_append];rfl
 rcases hd with g|⟨u,x,w,e,g1,g2⟩
 ·refine⟨_,h1 g,?_⟩;unfold typV;rw[g];exact⟨0,rfl⟩
 ·have hr:=h2 u x w e g1 g2;have hv:=vapp u w x g2;rw[← e,g1,List.nil_append]at hv;by_cases hw:vals w ctN=[]
  ·rw[qX hw,zzr fu hfu _ _ (hs x (by rw[e];simp)).2]at hr
   refine⟨_,hr,?_⟩;rw[hw]at hv;unfold typV;rw[hv];simp only
   cases hp:pmS x.2 with
   | none=>exact⟨_,rfl⟩
   | some m=>exact⟨u,x,w,e,rfl,g2,g1,hw,rfl⟩
  ·rw[qW hw]at hr;refine⟨_,hr,?_⟩;unfold typV;rw[hv]
   cases hh:vals w ctN with
   | nil=>exact absurd hh hw
   | cons=>exact⟨0,rfl⟩
end typ
theorem q6k {l:List Fld} {m:Med} (h:typV l=some m):(medF m).1=0:=by
 unfold typV at h;split at h
 ·exact (zwe h).2
 ·cases h
theorem q9a (fu:Nat) (hfu:90000000<=fu) (l:List Fld) (hs:SmF l):qsj fu l=some (match typV l with|some m=>(m,true)|none=>(([],([],[])),false)):=by
 unfold qsj;rw[q3j fu hfu l ctn (by simp) hs,qB,zke,qqb]
 unfold typV
 cases hv:vals l ctN with
 | nil=>rw[qX (by simp)];rfl
 | cons v t=>
  cases t with
  | cons w t=>rw[qX (by simp only[qL];omega)];rfl
  | nil=>
   rw[qW (by simp),qaa (by simp),show ([v]:List Bs)[(0:Int).toNat]? = some v from rfl,qB,qpr]
   simp only;unfold pmS;by_cases h4:4000<v.length
   ·rw[qaa (by omega),qX h4]
   ·rw[qac (by omega),qW h4,qtj,qaa (by simp),show ([v]:List Bs)[(0:Int).toNat]? = some v from rfl,qB,zjf fu hfu v (by omega),qB]
    cases hm:qy3 v with
    | none=>rfl
    | some m=>
     simp only;rw[qb2,zej fu hfu m (q13 hm (by omega)),qB,qqb]
     by_cases h0:(medF m).1≠0
     ·rw[qX h0,qX h0]
     ·rw[qW h0,qW h0]
def bOk (b:Bs):Bool := !b.isEmpty&&(decide (b.length<=60)&&(b.all prn && !(b.getLast? == some 32)))
def bnd (l:List Fld):Option Bs:=match typV l with
 | some m=>if lk m.1 mpN=true/\(parB m.2.2 bdN).2=true/\bOk (parB m.2.2 bdN).1=true then some (parB m.2.2 bdN).1 else none
 | none=>none
theorem zb7 (l:List Prm) (nm:Bs) (M:Nat) (h:∀ x∈l,x.2.length<=M):(parB l nm).1.length<=M:=by
 induction l with
 | nil=>simp[parB,par]
 | cons p l ih=>
  rw[q3z];split
  ·exact h p qH
  ·exact ih (fun x hx=>h x (qE _ hx))
theorem vaf (c:UInt8):qgb c=some (prn c):=by unfold qgb prn;by_cases h:(32:UInt8)<=c<;>simp[h]
theorem zpy (fu:Nat) (s:Bs) (h:s.length<fu) (hb:s.length<9223372036854775807):qo9 fu s=some (s.all prn):=by
 have e:∀ n,qhv fu n=allG qgb n:=by
  intro n;induction n with
  | zero=>rfl
  | succ n ih=>rw[qhv,ih];funext a b c;rfl
 unfold qo9;rw[e];exact zau _ _ vaf _ _ h hb
theorem zl9 (t:Bs) (hb:t.length<=4000000):qij t [32]=some (t.getLast? == some 32):=by
 unfold qij qa7;rw[show (([32]:List UInt8).length:Int)=1 from rfl]
 rcases List.eq_nil_or_concat t with rfl|⟨u,c,rfl⟩
 ·rfl
 ·rw[List.concat_eq_append]at *;simp only[qM,qL,qZ]at hb;rw[qm8,qv9 _ (by omega),qaa (by omega),qaa (by omega),qB,List.getLast?_concat]
  have e:List.drop ((u.length:Nat):Int).toNat (u++[c])=[c]:=quv u [c];rw[e];congr 1;rw[Bool.eq_iff_iff];simp
theorem zba (fu:Nat) (hfu:90000000<=fu) (l:List Fld) (hs:∀ x∈l,x.1.length<=4000000/\x.2.length<=4000000) (hl:l.length<=4000000):∃ R,qlz fu l=some R/\match bnd l with
  | some b=>R=(b,true)
  | none=>R.2=false:=by
 obtain⟨R,h1,h2⟩:=zfh fu hfu l hs hl;unfold qlz bnd;rw[h1,qB]
 cases ht:typV l with
 | none=>
  rw[ht]at h2;obtain⟨k,rfl⟩:=h2;exact⟨_,rfl,rfl⟩
 | some m=>
  rw[ht]at h2;obtain⟨vbs,x,vbr,e1,e2,e3,e4,e5,rfl⟩:=h2;have h0:=q6k ht;have hv:=qzl h0;simp only[sumK];rw[qb2,quq fu hfu _ _ (by have:=hv.1;omega) (by simp),qB]
  cases hk:lk m.1 mpN
  ·rw[qcj,qek];exact⟨_,rfl,by simp⟩
  ·have hbl:=zb7 m.2.2 bdN 100000 (fun x hx=>(hv.2.2.2 x hx).2)
   rw[qcj,qb2,ql5,q73 fu hfu (m.1,(m.2.1,m.2.2)) bdN (by simp) hv.smD,qB,qW (by simpa using h0)]
   simp only;generalize hb:(parB m.2.2 bdN).1=b at *;generalize hi:(parB m.2.2 bdN).2=i at *;unfold bOk
   cases b with
   | nil=>rw[show (!(([]:Bs)==[]))=false from rfl,qax rfl];cases i<;>exact⟨_,rfl,by simp⟩
   | cons c b=>
    rw[show (!((c::b:Bs)==[]))=true from rfl,qau rfl]
    by_cases h60:(c::b).length<=60
    ·rw[qaa (by omega),zpy fu _ (by omega) (by omega),qB]
     cases ha:(c::b).all prn
     ·rw[qax rfl];cases i<;>exact⟨_,rfl,by simp[ha]⟩
     ·rw[qau rfl,zl9 _ (by omega),qB]
      cases i
      ·exact⟨_,rfl,by simp⟩
      ·rw[qau rfl];refine⟨_,rfl,?_⟩;cases hg:((c::b).getLast? == some 32)
       ·rw[qX ⟨by first|rfl|trivial,by first|rfl|trivial,by simp only[List.isEmpty_cons,Bool.not_false,Bool.true_and,Bool.and_true];exact decide_eq_true h60⟩];rfl
       ·rw[qW (by simp)];rfl
    ·rw[qac (by omega)]
     have hnot:¬ (decide ((c::b).length<=60)=true):=by simpa using h60
     cases i
     ·exact⟨_,rfl,by simp⟩
     ·refine⟨_,rfl,?_⟩;rw[qW (by
       rintro⟨_,_,g⟩
       rw[qA,qA]at g;exact hnot g.2.1)]
theorem z1d (fu n:Nat) (i:Bool):∀ (vbs vbr:Bs),vbr.length<n->vbs.length+vbr.length<1000000 ->
  ∃ R,qib fu n (vbs++vbr) i (vbs.length:Int)=some R/\(if vbr.all prn=true/\i=true/\(1<=(vbs++vbr).length/\(vbs++vbr).length<=60)/\(vbs++vbr).getLast? ≠ some 32 then R=(vbs++vbr,true) else R.2=false):=by
 induction n with
 | zero=>intro vbs vbr h;exact absurd h (by omega)
 | succ n ih=>
  intro vbs vbr h hb;rw[qib,qn0]
  cases vbr with
  | nil=>
   rw[qac (by simp),List.append_nil]
   cases i
   ·exact⟨_,rfl,by rw[qW (by simp)]⟩
   ·rw[qau rfl,qjw,qB];by_cases h60:1<=vbs.length/\vbs.length<=60
    ·rw[qaa (by omega)]
     rcases List.eq_nil_or_concat vbs with rfl|⟨u,c,rfl⟩
     ·simp at h60
     ·rw[List.concat_eq_append]at *;simp only[qM,qL,qZ]at hb;rw[qm8,qv9 _ (by omega),qw0,qB]
      refine⟨_,rfl,?_⟩;rw[List.getLast?_concat];by_cases hc:c=32
      ·rw[qW (by simp[hc])];simp[hc]
      ·rw[qX ⟨rfl,rfl,h60,by simpa using hc⟩];simp[hc]
    ·rw[qac (by omega)];exact⟨_,rfl,by rw[qW (fun g=>h60 g.2.2.1)]⟩
  | cons c t=>
   simp only[qL]at h hb;have hp:(decide (32<=(c.toNat:Int)/\(c.toNat:Int)<=126))=prn c:=by
    unfold prn;rw[Bool.eq_iff_iff];simp only[decide_eq_true_eq,qA,UInt8.le_iff_toNat_le];show _↔32<=c.toNat/\c.toNat<=126;omega
   rw[qaa (by rw[qbg];omega),qao,qB,qjw,hp,qB,qai _ (by omega)]
   cases hc:prn c
   ·rw[qek];exact⟨_,rfl,by rw[qW (by simp[hc])]⟩
   ·rw[qb2];obtain⟨R,g1,g2⟩:=ih (vbs++[c]) t (by omega) (by simp;omega)
    rw[qM,wD,qS,wM]at g1;refine⟨R,g1,?_⟩;rw[qS,wM]at g2;rw[List.all_cons,hc,Bool.true_and];exact g2
theorem z06 (fu:Nat) (hfu:90000000<=fu) (l:List Fld) (hs:SmF l):∃ R,qpc fu l=some R/\match bnd l with
  | some b=>R=(b,true)
  | none=>R.2=false:=by
 unfold qpc bnd;rw[q9a fu hfu l hs,qB]
 cases ht:typV l with
 | none=>exact⟨_,rfl,rfl⟩
 | some m=>
  have h0:=q6k ht;have hv:=qzl h0;simp only;rw[qb2,qud fu hfu _ _ (by have:=hv.1;omega) (by simp),qB]
  cases hk:lk m.1 mpN
  ·rw[qh8,qek];exact⟨_,rfl,by simp⟩
  ·have hbl:=zb7 m.2.2 bdN 100000 (fun x hx=>(hv.2.2.2 x hx).2)
   rw[qh8,qb2,qok,q3b fu hfu m bdN (by simp) hv.smD.2.2,qB]
   obtain⟨R,g1,g2⟩:=z1d fu fu (parB m.2.2 bdN).2 [] (parB m.2.2 bdN).1 (by omega) (by simp;omega)
   refine⟨R,g1,?_⟩;simp only[List.nil_append]at g2;by_cases hc:(parB m.2.2 bdN).1.all prn=true/\(parB m.2.2 bdN).2=true/\(1<=(parB m.2.2 bdN).1.length/\(parB m.2.2 bdN).1.length<=60)/\(parB m.2.2 bdN).1.getLast? ≠ some 32
   ·rw[qX hc]at g2;have hb:bOk (parB m.2.2 bdN).1=true:=by
     unfold bOk;have:(parB m.2.2 bdN).1.isEmpty=false:=by
      cases hh:(parB m.2.2 bdN).1 with
      | nil=>rw[hh]at hc;simp at hc
      | cons=>rfl
     rw[this,hc.1,decide_eq_true hc.2.2.1.2];simp;exact hc.2.2.2
    rw[qX ⟨by first|rfl|trivial,hc.2.1,hb⟩];exact g2
   ·rw[qW hc]at g2;rw[qW (by
     rintro⟨_,q1,q2⟩
     apply hc;unfold bOk at q2;simp only[qA,Bool.not_eq_true',decide_eq_true_eq,beq_eq_false_iff_ne]at q2;refine⟨q2.2.2.1,q1,⟨?_,q2.2.1⟩,q2.2.2.2⟩
     cases hh:(parB m.2.2 bdN).1 with
     | nil=>rw[hh]at q2;simp at q2
     | cons=>simp)]
    exact g2
theorem zh3 {l:List Fld} {b:Bs} (h:bnd l=some b):1<=b.length/\b.length<=60:=by
 unfold bnd at h;split at h
 ·split at h
  ·rename_i hc;cases h
   have q:=hc.2.2;unfold bOk at q;simp only[qA,Bool.not_eq_true',decide_eq_true_eq]at q;refine⟨?_,q.2.1⟩;generalize (parB _ bdN).1=z at *
   cases z with
   | nil=>simp at q
   | cons=>simp
  ·cases h
 ·cases h
end Go.Sym
namespace Go.Sym
def kndT (t b:Bs):Int:=if t=([45,45]:Bs)++b then 1 else if t=(([45,45]:Bs)++b)++([45,45]:Bs) then 2 else 0
def knd (line b:Bs):Int:=kndT (qu5 line) b
theorem q6q {α:Type} {a b:Bs} {x y:α}:(bif a==b then x else y)=if a=b then x else y:=by
 by_cases h:a=b
 ·rw[qau (by simpa using h),qX h]
 ·rw[qax (by simpa using h),qW h]
theorem zq2 (fu:Nat) (hfu:90000000<=fu) (line b:Bs) (h:line.length<=4000000) (hb:b.length<=1000):qs2 fu line b=some (knd line b):=by
 unfold qs2 knd kndT;rw[zmc fu line (by omega) (by omega) (by omega),qB,qaa (by simp[qad];omega),q6q,qaa (by simp[qad];omega),qaa (by simp[qad];omega),q6q]
 split
 ·rfl
 ·split<;>rfl
theorem z8a (fu:Nat) (s b:Bs) (hs:s.length<=4000000) (hb:b.length<=1000) (n:Nat):∀ (u w:Bs),s=u++w->u.length<n->qfz fu n s b (u.length:Int)=some (kndT (qu5 u) b):=by
 induction n with
 | zero=>intro u w _ h;exact absurd h (by omega)
 | succ n ih=>
  intro u w hu h;have vbt:s.length=u.length+w.length:=by rw[hu];simp
  have fin:qfw fu (qfz fu n) s b (u.length:Int) false=some (kndT u b):=by
   rw[qfw,qax rfl,qaa (by omega),qaa (by simp[qad];omega),show List.take ((u.length:Nat):Int).toNat s=u by rw[hu];exact qus u w,q6q,qaa (by omega),qaa (by simp[qad];omega),qaa (by simp[qad];omega),q6q]
   unfold kndT;split
   ·rfl
   ·split<;>rfl
  rw[qfz,qqk];rcases List.eq_nil_or_concat u with rfl|⟨t,c,rfl⟩
  ·rw[qac (by simp)];exact fin
  ·rw[List.concat_eq_append]at *;rw[qaa (by simp),qm8,qv9 _ (by simp at vbt;omega),qtw]
   have hx:idx s (t.length:Int)=some c:=by rw[hu,qS];exact qao t c w
   rw[hx,qB,qtq,qB];cases hc:bl c
   ·rw[qm8]at fin;rw[fin];rfl
   ·rw[qfw,qau rfl,qqj,qv9 _ (by simp at vbt;omega),qX rfl]
    exact ih t (c::w) (by rw[hu];simp) (by simp at h;omega)
theorem zaw (fu:Nat) (hfu:90000000<=fu) (s b:Bs) (hs:s.length<=4000000) (hb:b.length<=1000):qu2 fu s b=some (knd s b):=
 z8a fu s b hs hb fu s [] (by simp) (by omega)
def cutL:Bs->Bs
 | []=>[]
 | c::t=>if isCl c t=true then [] else c::cutL t
def nxtL:Bs->Bs
 | []=>[]
 | c::t=>if isCl c t=true then t.tail else nxtL t
theorem qsa:∀ r:Bs,(r=cutL r++13::10::nxtL r/\Lib.index r [13,10]=((cutL r).length:Int))\/(cutL r=r/\nxtL r=[]/\Lib.index r [13,10] = -1)
 | [] => .inr ⟨rfl,rfl,rfl⟩
 | c::t=>by
  have hp:([13,10]:Bs).isPrefixOf (c::t)=isCl c t:=by
   unfold isCl
   cases t with
   | nil=>simp[List.isPrefixOf]
   | cons d t=>simp[List.isPrefixOf,qzr]
  rw[cutL,nxtL,Lib.index,hp];by_cases hc:isCl c t=true
  ·obtain⟨rfl,r',rfl⟩:=qyk hc;rw[qX hc,qX hc,qX hc];exact .inl ⟨rfl,rfl⟩
  ·rw[qW hc,qW hc,qW hc];rcases qsa t with ⟨h1,h2⟩|⟨h1,h2,h3⟩
   ·refine .inl ⟨by rw[wK,← h1],?_⟩
    rw[h2,qW (by simp)];simp
   ·refine .inr ⟨by rw[h1],h2,?_⟩
    rw[h3];rfl
theorem q2u (r:Bs):r.take (cutL r).length=cutL r:=by
 rcases qsa r with ⟨h1,_⟩|⟨h1,_,_⟩
 ·have e:r.take (cutL r).length=(cutL r++13::10::nxtL r).take (cutL r).length:=by rw[← h1]
  rw[e,List.take_left]
 ·rw[h1];simp
theorem qu6 (r:Bs):nxtL r <:+ r:=by
 rcases qsa r with ⟨h1,_⟩|⟨_,h2,_⟩
 ·exact⟨cutL r++[13,10],by simp;exact h1.symm⟩
 ·rw[h2];exact List.nil_suffix
theorem q6z (c:UInt8) (t:Bs):(nxtL (c::t)).length<=t.length:=by
 rcases qsa (c::t) with ⟨h1,_⟩|⟨_,h2,_⟩
 ·have:=congrArg List.length h1;simp only[qM,qL]at this;omega
 ·rw[h2];simp
theorem q57 (r:Bs):(cutL r).length<=r.length:=by
 rcases qsa r with ⟨h1,_⟩|⟨h1,_,_⟩
 ·have:=congrArg List.length h1;simp only[qM,qL]at this;omega
 ·rw[h1];exact wF _
def cutP (s r:Bs):Bs:=s.take (s.length-r.length-2)
def addP (st:Option Bs) (r:Bs) (out:List Bs):List Bs:=match st with|some s=>out++[cutP s r]|none=>out
def qvl (b:Bs):Nat->Bs->Option Bs->List Bs->List Bs
 | 0,_,_,out=>out
 | _+1,[],st,out=>match st with|some s=>out++[s]|none=>out
 | n+1,c::t,st,out=>if knd (cutL (c::t)) b=0 then qvl b n (nxtL (c::t)) st out
  else if knd (cutL (c::t)) b=2 then addP st (c::t) out else qvl b n (nxtL (c::t)) (some (nxtL (c::t))) (addP st (c::t) out)
def qsk (body:Bs) (st:Option Bs):Int:=match st with|some s=>pos body s|none => -1
theorem zin (l b:Bs):knd l b=0\/knd l b=1\/knd l b=2:=by
 unfold knd kndT;split
 ·exact .inr (.inl rfl)
 ·split
  ·exact .inr (.inr rfl)
  ·exact .inl rfl
theorem za8 {body s r:Bs} (hs:s <:+ body) (hr:r <:+ s) (hb:body.length<=4000000):0<=pos body s/\pos body s<=(if w64 (pos body r-2)>pos body s then w64 (pos body r-2) else pos body s)/\(if w64 (pos body r-2)>pos body s then w64 (pos body r-2) else pos body s)<=(body.length:Int) /\
  List.take ((if w64 (pos body r-2)>pos body s then w64 (pos body r-2) else pos body s).toNat-(pos body s).toNat) (List.drop (pos body s).toNat body)=cutP s r:=by
 have h1:=hs.length_le;have h2:=hr.length_le;rw[qy9 hs];unfold cutP pos;rw[qgy (by omega) (by omega)]
 refine⟨by omega,?_,?_,?_⟩
 ·split<;>omega
 ·split<;>omega
 ·congr 1;split<;>omega
theorem zr3 {body r:Bs} (hr:r <:+ body) (hb:body.length<=4000000):(if (body.length:Int)<w64 (w64 (pos body r+((cutL r).length:Int))+2) then (body.length:Int) else w64 (w64 (pos body r+((cutL r).length:Int))+2))=pos body (nxtL r):=by
 have h1:=hr.length_le;rcases qsa r with ⟨h,_⟩|⟨h,h2,_⟩
 ·have:=congrArg List.length h;simp only[qM,qL]at this;unfold pos;rw[w64n _ _ (by omega),qgy (by omega) (by omega)]
  split<;>omega
 ·rw[h2,h,qjh];unfold pos;rw[w64n _ _ (by omega),qgy (by omega) (by omega)]
  split<;>omega
theorem zpq (fu:Nat) (hfu:90000000<=fu) (body b:Bs) (hb:body.length<=4000000) (hbb:b.length<=1000) (r:Bs) (hr:r <:+ body) (st:Option Bs) (hst:∀ s,st=some s->s <:+ body/\r <:+ s) (z out:List Bs) (ho:out.length<=4000000) :
  qc8 fu (pos body r) (cutL r) body b (qsk body st) z out =
   if knd (cutL r) b=0 then some (.inl (body,(b,(qsk body st,(z,out))))) else if knd (cutL r) b=2 then some (.inr (body,(b,(qsk body st,addP st r out)))) else some (.inl (body,(b,(pos body (nxtL r),(z,addP st r out))))):=by
 have hrm:=qf1;have hcl:=q57 r;have hrl:=hr.length_le;unfold qc8;rw[zq2 fu hfu _ b (by omega) hbb,qB,qsw]
 by_cases h0:knd (cutL r) b=0
 ·rw[qX h0,qX h0]
 rw[qW h0,qW h0,zr3 hr hb,qsw]
 cases st with
 | none=>
  rw[show qsk body none = -1 from rfl,qac (by omega)]
  try rw[qsw]
  by_cases h2:knd (cutL r) b=2
  ·rw[qX h2,qX h2];rfl
  ·rw[qW h2,qW h2];rfl
 | some s=>
  obtain⟨g1,g2⟩:=hst s rfl;obtain⟨q1,q2,q3,q4⟩:=za8 g1 g2 hb;rw[show qsk body (some s)=pos body s from rfl,qaa q1,qaa ⟨q1,q2,q3⟩,q4,qaa (by simp;omega)]
  by_cases h2:knd (cutL r) b=2
  ·rw[qX h2,qX h2];rfl
  ·rw[qW h2,qW h2];rfl
theorem zca (st:Option Bs) (r:Bs) (out:List Bs):(addP st r out).length<=out.length+1:=by unfold addP;cases st<;>simp
def finC (st:Option Bs) (out:List Bs):List Bs:=match st with|some s=>out++[s]|none=>out
theorem znu (fu:Nat) (hfu:90000000<=fu) (body b:Bs) (hb:body.length<=4000000) (hbb:b.length<=1000) (z:List Bs) (n:Nat):∀ (r:Bs) (st:Option Bs) (out:List Bs),r <:+ body->(∀ s,st=some s->s <:+ body/\r <:+ s)->r.length<n->out.length+r.length<=4000000 ->
  (∃ x,qc1 fu n (pos body r) body body b (qsk body st) z out=some (.inl (body,(body,(b,(x,qvl b n r st out)))))) \/
  (∃ st' out',qc1 fu n (pos body r) body body b (qsk body st) z out=some (.inr (body,(body,(b,(qsk body st',(z,out'))))))/\qvl b n r st out=finC st' out'/\out'.length<=4000000/\∀ s,st'=some s->s <:+ body):=by
 induction n with
 | zero=>intro r st out _ _ h;exact absurd h (by omega)
 | succ n ih=>
  intro r st out hr hst h ho;rw[qc1,qnk]
  cases r with
  | nil=>
   rw[qjh,qac (by omega)]
   exact .inr ⟨st,out,rfl,rfl,by omega,fun s hs=>(hst s hs).1⟩
  | cons c t=>
   simp only[qL]at h ho;have hL:(c::t).length=t.length+1:=rfl;have hrl:=hr.length_le;simp only[qL]at hrl;have hcl:=q57 (c::t);have hnl:=q6z c t;have hge:=qyj body (c::t);have hnx:nxtL (c::t) <:+ body:=(qu6 _).trans hr;rw[qaa (qt7 hr),qaa hge,qaa (by decide),qy9 hr]
   have hI:qeo (c::t) [13,10]=some (Lib.index (c::t) [13,10]):=by
    unfold qeo;rw[qaa (by refine⟨by simp,by simp only[qL];omega,by simp[maxLen]⟩)]
   have step:∀ q:Option qsh,q=((qc8 fu (pos body (c::t)) (cutL (c::t)) body b (qsk body st) z out).bind fun x2=>sumK x2 (fun a3=>qc1 fu n (pos body (nxtL (c::t))) body a3.1 a3.2.1 a3.2.2.1 a3.2.2.2.1 a3.2.2.2.2) (fun b4=>some (.inl (body,b4)))) ->
     (∃ x,q=some (.inl (body,(body,(b,(x,qvl b (n+1) (c::t) st out))))))\/(∃ st' out',q=some (.inr (body,(body,(b,(qsk body st',(z,out'))))))/\qvl b (n+1) (c::t) st out=finC st' out'/\out'.length<=4000000/\∀ s,st'=some s->s <:+ body):=by
    intro q hq;rw[hq,zpq fu hfu body b hb hbb (c::t) hr st hst z out (by omega),qvl]
    have hal:=zca st (c::t) out;by_cases h0:knd (cutL (c::t)) b=0
    ·simp only[qX h0,qB,sumK];exact ih (nxtL (c::t)) st out hnx (fun s hs=>⟨(hst s hs).1,(qu6 _).trans (hst s hs).2⟩) (by omega) (by omega)
    ·simp only[qW h0];by_cases h2:knd (cutL (c::t)) b=2
     ·simp only[qX h2,qB,sumK];exact .inl ⟨_,rfl⟩
     ·simp only[qW h2,qB,sumK];exact ih (nxtL (c::t)) (some (nxtL (c::t))) _ hnx (fun s hs=>by cases hs;exact⟨hnx,List.suffix_refl _⟩) (by omega) (by omega)
   apply step;rw[hI,qB];rcases qsa (c::t) with ⟨h1,h2⟩|⟨h1,h2,h3⟩
   ·have vbt:=congrArg List.length h1;simp only[qM,qL]at vbt;have e1:w64 (pos body (c::t)+((cutL (c::t)).length:Int))=((body.length-(c::t).length+(cutL (c::t)).length:Nat):Int):=by unfold pos;rw[w64n _ _ (by omega)]
    have e2:w64 (((body.length-(c::t).length+(cutL (c::t)).length:Nat):Int)+2)=pos body (nxtL (c::t)):=by unfold pos;rw[qgy (by omega) (by omega)];simp only[qL];omega
    have e3:((body.length-(c::t).length+(cutL (c::t)).length:Nat):Int).toNat-(pos body (c::t)).toNat=(cutL (c::t)).length:=by unfold pos;omega
    rw[h2,qaa (by omega),e1,qaa (by unfold pos;simp only[qL];omega),e3,q2u,e2]
   ·have e3:(body.length:Int).toNat-(pos body (c::t)).toNat=(cutL (c::t)).length:=by rw[h1];unfold pos;omega
    rw[h3,qac (by omega),qaa (by omega),e3,q2u,h2,qjh]
theorem q4x (b:Bs):∀ (n:Nat) (r:Bs) (st:Option Bs) (out:List Bs),r.length<n->qvl b n r st out=qvl b (r.length+1) r st out:=by
 intro n
 induction n using Nat.strongRecOn with
 | ind n ih=>
  intro r st out h;obtain⟨n,rfl⟩:∃ m,n=m+1:=⟨n-1,by omega⟩
  cases r with
  | nil=>rfl
  | cons c t=>
   simp only[qL]at h ⊢;have hnl:=q6z c t;rw[qvl,qvl];have e:∀ st' out',qvl b n (nxtL (c::t)) st' out'=qvl b (t.length+1) (nxtL (c::t)) st' out':=fun st' out'=>by
    rw[ih n (by omega) _ _ _ (by omega)]
    by_cases hq:t.length+1=n
    ·rw[hq];exact (ih n (by omega) _ _ _ (by omega)).symm
    ·exact (ih (t.length+1) (by omega) _ _ _ (by omega)).symm
   rw[e,e]
def zbc (body b:Bs):List Bs:=qvl b (body.length+1) body none []
theorem q81 (fu:Nat) (hfu:90000000<=fu) (body b:Bs) (hb:body.length<=4000000) (hbb:b.length<=1000):qk5 fu body b=some (zbc body b):=by
 have hrm:=qf1;unfold qk5 qrh qr0 zbc;rw[qB];have:=znu fu hfu body b hb hbb [] fu body none [] (List.suffix_refl _) (by simp) (by omega) (by simpa using hb)
 rw[zbg,show qsk body none = -1 from rfl,q4x b fu body none [] (by omega)]at this
 rcases this with ⟨x,h⟩|⟨st',out',h1,h2,h3,h4⟩
 ·rw[h];rfl
 ·rw[h1,qB,h2];simp only[sumK]
  cases st' with
  | none=>rw[show qsk body none = -1 from rfl,qac (by omega)];rfl
  | some s=>
   have hge:=qyj body s;rw[show qsk body (some s)=pos body s from rfl,qaa hge.1,qaa hge,qaa (by simp;omega),qy9 (h4 s rfl)];rfl
theorem zxn (fu:Nat) (r0:qvg) (body b:Bs) (s6 s7:Int) (out:List Bs) (hb:body.length<=4000000) (n:Nat):∀ (u:Bs),u <:+ body->u.length<n ->
  qha fu r0 n body b s6 s7 (pos body u) out=qhm fu r0 body b s6 s7 (pos body (u.drop (cutL u).length)) (pos body (nxtL u)) out:=by
 induction n with
 | zero=>intro u _ h;exact absurd h (by omega)
 | succ n ih=>
  intro u hu h;rw[qha,qn3]
  cases u with
  | nil=>rw[qjh,qac (by omega),qhs,qax rfl,qau (by simp)];simp[nxtL,qjh]
  | cons c t=>
   have ht:t <:+ body:=(List.suffix_cons _ _).trans hu;simp only[qL]at h;have hc:qt0 body (pos body (c::t))=some (isCl c t):=by
    obtain⟨p,e1,e2⟩:=q9b hu;have:=hu.length_le;rw[e2,e1];exact zdl p c t (by rw[e1]at hb;simp at hb;omega)
   rw[qaa (qt7 hu),hc,qB,qhs,cutL,nxtL];by_cases hq:isCl c t=true
   ·obtain⟨rfl,r',rfl⟩:=qyk hq;have hle:=hu.length_le;simp only[qL]at hle;rw[hq,qb2,qax (by have:=qt7 hu;simp;omega),qX rfl,qX rfl]
    have e:w64 (pos body (13::10::r')+2)=pos body r':=by unfold pos;rw[qgy (by simp only[qL];omega) (by omega)];simp only[qL];omega
    rw[e];rfl
   ·have:isCl c t=false:=by simpa using hq
    rw[this,qek,qnw,qnd hu (by omega),qW (by simp),qW (by simp)]
    exact ih t ht (by omega)
theorem zne (fu:Nat) (hfu:90000000<=fu) (body b:Bs) (hb:body.length<=4000000) (hbb:b.length<=1000) (n:Nat):∀ (r:Bs) (st:Option Bs) (out:List Bs),r <:+ body->(∀ s,st=some s->s <:+ body/\r <:+ s)->r.length<n->out.length+r.length<=4000000 ->
  qcr fu n body b (qsk body st) (pos body r) out=some (qvl b n r st out):=by
 have hrm:=qf1
 induction n with
 | zero=>intro r st out _ _ h;exact absurd h (by omega)
 | succ n ih=>
  intro r st out hr hst h ho;rw[qcr,qol]
  cases r with
  | nil=>
   rw[qjh,qac (by omega)]
   show _=some (match st with|some s=>out++[s]|none=>out)
   cases st with
   | none=>rw[show qsk body none = -1 from rfl,qac (by omega)]
   | some s=>
    have hge:=qyj body s;rw[show qsk body (some s)=pos body s from rfl,qaa hge.1,qaa hge,qaa (by simp;simp at ho;omega),qy9 (hst s rfl).1]
  | cons c t=>
   simp only[qL]at h ho;have hrl:=hr.length_le;simp only[qL]at hrl;have hcl:=q57 (c::t);have hnl:=q6z c t;have hnx:nxtL (c::t) <:+ body:=(qu6 _).trans hr;have hal:=zca st (c::t) out;rw[qaa (qt7 hr),zxn fu _ body b _ _ out hb fu (c::t) hr (by simp only[qL];omega),qvl,qhm]
   have hds:(c::t).drop (cutL (c::t)).length <:+ (c::t):=List.drop_suffix _ _;have hle:=zic (s:=body) hds;have g1:=qyj body (c::t);have g2:=qyj body ((c::t).drop (cutL (c::t)).length);have e:List.take ((pos body ((c::t).drop (cutL (c::t)).length)).toNat-(pos body (c::t)).toNat) (List.drop (pos body (c::t)).toNat body)=cutL (c::t):=by
    rw[q60 hr hds,List.length_drop,show (c::t).length-((c::t).length-(cutL (c::t)).length)=(cutL (c::t)).length by omega,q2u]
   rw[qaa ⟨g1.1,hle,g2.2⟩,e,zaw fu hfu _ b (by simp only[qL]at hcl;omega) hbb,qB]
   have nx:∀ st' out',(∀ s,st'=some s->s <:+ body/\nxtL (c::t) <:+ s)->out'.length<=out.length+1->qcr fu n body b (qsk body st') (pos body (nxtL (c::t))) out'=some (qvl b n (nxtL (c::t)) st' out'):=fun st' out' h1 h2=>ih _ st' out' hnx h1 (by omega) (by omega)
   rcases zin (cutL (c::t)) b with hk|hk|hk
   ·rw[hk,qac (by omega),qX rfl,qez,qax (by rfl)]
    exact nx st out (fun s hs=>⟨(hst s hs).1,(qu6 _).trans (hst s hs).2⟩) (by omega)
   ·rw[hk,qaa (by omega),qW (by omega),qW (by omega)]
    have p5:∀ o,o=addP st (c::t) out->qdq fu (qcr fu n) body b (pos body (nxtL (c::t))) 1 o=some (qvl b n (nxtL (c::t)) (some (nxtL (c::t))) (addP st (c::t) out)):=by
     intro o he;rw[qdq,qez,qax (by rfl),he]
     exact nx (some (nxtL (c::t))) _ (fun s hs=>by cases hs;exact⟨hnx,List.suffix_refl _⟩) hal
    cases st with
    | none=>rw[show qsk body none = -1 from rfl,qac (by omega)];exact p5 _ rfl
    | some s=>
     obtain⟨q1,q2,q3,q4⟩:=za8 (hst s rfl).1 (hst s rfl).2 hb;rw[show qsk body (some s)=pos body s from rfl,qaa q1,qic]
     by_cases hlt:w64 (pos body (c::t)-2)<pos body s
     ·rw[qW (by omega)]at q2 q3 q4
      rw[qX hlt,qdp,qaa ⟨q1,q2,q3⟩,q4,qaa (by simp;omega)]
      exact p5 _ rfl
     ·rw[qW hlt,qdp];by_cases heq:w64 (pos body (c::t)-2)=pos body s
      ·rw[qW (by omega)]at q2 q3 q4
       rw[heq,qaa ⟨q1,q2,q3⟩,q4,qaa (by simp;omega)]
       exact p5 _ rfl
      ·rw[qX (by omega)]at q2 q3 q4
       rw[qaa ⟨q1,q2,q3⟩,q4,qaa (by simp;omega)]
       exact p5 _ rfl
   ·rw[hk,qaa (by omega),qW (by omega),qX rfl]
    have p5:∀ o,o=addP st (c::t) out->qdq fu (qcr fu n) body b (pos body (nxtL (c::t))) 2 o=some (addP st (c::t) out):=by
     intro o he;rw[qdq,qez,qau (by rfl),he]
    cases st with
    | none=>rw[show qsk body none = -1 from rfl,qac (by omega)];exact p5 _ rfl
    | some s=>
     obtain⟨q1,q2,q3,q4⟩:=za8 (hst s rfl).1 (hst s rfl).2 hb;rw[show qsk body (some s)=pos body s from rfl,qaa q1,qic]
     by_cases hlt:w64 (pos body (c::t)-2)<pos body s
     ·rw[qW (by omega)]at q2 q3 q4
      rw[qX hlt,qdp,qaa ⟨q1,q2,q3⟩,q4,qaa (by simp;omega)]
      exact p5 _ rfl
     ·rw[qW hlt,qdp];by_cases heq:w64 (pos body (c::t)-2)=pos body s
      ·rw[qW (by omega)]at q2 q3 q4
       rw[heq,qaa ⟨q1,q2,q3⟩,q4,qaa (by simp;omega)]
       exact p5 _ rfl
      ·rw[qX (by omega)]at q2 q3 q4
       rw[qaa ⟨q1,q2,q3⟩,q4,qaa (by simp;omega)]
       exact p5 _ rfl
theorem q5s (fu:Nat) (hfu:90000000<=fu) (body b:Bs) (hb:body.length<=4000000) (hbb:b.length<=1000):qte fu body b=some (zbc body b):=by
 have:=zne fu hfu body b hb hbb fu body none [] (List.suffix_refl _) (by simp) (by omega) (by simpa using hb)
 rw[zbg,show qsk body none = -1 from rfl,q4x b fu body none [] (by omega)]at this
 exact this
end Go.Sym
