/- What the claim rests on, part 7: gathered texts. -/
import Derived.Test.YtekaipjfmlnggaaGreatDoorSyO6
set_option maxRecDepth 100000
set_option linter.defProp false
set_option linter.unusedSimpArgs false
set_option linter.unusedVariables false
namespace Go.Sym
def f6(p:UInt8->Bool):Bool->Bs->Bool|e,[] => !e|e,c::s=>bif c==46 then !e&&f6 p true s else p c&&f6 p false s
def QL(p:UInt8->Bool):∀(s:Bs)(e:Bool),(∀x∈s,x≠46)->f6 p e s=((!e || !s.isEmpty)&&s.all p)
 |[],e,_=>by cases e<;>rfl
 |c::s,e,h=>by
  have a:(c==46)=false:=by rw[beq_eq_false_iff_ne];exact h c qH
  rw[f6,a,qF,QL p s false fun x b=>h x (qE _ b)]
  cases e<;>simp
def QK(p:UInt8->Bool)(r:Bs):∀(s:Bs)(e:Bool),(∀x∈s,x≠46)->f6 p e (s++46::r)=(((!e || !s.isEmpty)&&s.all p)&&f6 p true r)
 |[],e,_=>by cases e<;>rfl
 |c::s,e,h=>by
  have a:(c==46)=false:=by rw[beq_eq_false_iff_ne];exact h c qH
  rw[wK,f6,a,qF,QK p r s false fun x b=>h x (qE _ b)]
  cases e<;>simp[Bool.and_assoc]
def SP{R:Type}(f:Nat->Bs->Bs->Int->Bool->Option R)(r0:Bs->Bool->Option TX)(A B:Bs×Bs×Int×Bool->R)(p:UInt8->Bool)(j:∀s b,s.length<=100000->r0 s b=some (bif !s.isEmpty&&s.all p then .inr b else .inl false))
  (v:∀n c a d g,f (n+1) c a d g=(jh a c).bind fun x1=>bif decide (x1<(0:Int)) then(r0 a g).bind fun x2=>az x2 (fun l=>some (A (c,(a,(d,l))))) (fun o=>some (B (c,(a,(d,o))))) else bif decide (0<=ae (x1+d)/\ae (x1+d)<=(List.length a:Int)) then(r0 (List.take (ae (x1+d)).toNat a) g).bind fun z=>az z (fun m=>some (A (c,(a,(d,m))))) (fun u=>bif decide (0<=ae (x1+(List.length c:Int))/\ae (x1+(List.length c:Int))<=(List.length a:Int)) then f n c (List.drop (ae (x1+(List.length c:Int))).toNat a) d u else none) else none) :
  ∀(n:Nat)(s:Bs)(b:Bool),s.length<n->s.length<=100000->∃t,f n [46] s 0 b=some (bif f6 p true s then B ([46],(t,(0,b))) else A ([46],(t,(0,false)))):=by
 intro n
 induction n with
 |zero=>intro s b h;omega|succ n ih=>
  intro s b h k;have i:∀x:Int,Lib.index s [46]=x->jh s [46]=some x:=fun x q=>by
   unfold jh vx;rw[ap,qB,q]
  rw[v];rcases Fc 46 s with⟨w,r,rfl,e⟩|e
  ·rw[i _ (Er 46 w r e)];simp only[qM,qL]at h k;rw[qB,bi,Int.add_zero,au (x:=(w.length:Int)) Ta Ta,ap,qb6,j w b Ta,qB,QK p r w true e,Bool.not_true,Bool.false_or]
   cases y:(!w.isEmpty&&w.all p)
   ·exact⟨_,rfl⟩
   ·simp only[qT,az];rw[show((List.length ([46]:Bs):Nat):Int)=1 from rfl,bj _,ap,Kt]
    exact ih r b Ta Ta
  ·rw[i _ (Es 46 s e),qB,ap,j s b k,qB,QL p s true e,Bool.not_true,Bool.false_or]
   cases y:(!s.isEmpty&&s.all p)
   ·exact⟨s,rfl⟩
   ·exact⟨s,rfl⟩
def qln(a:Nat)(e:90000000<=a)(s:Bs)(d:s.length<=100000):vm a s=some (f6 dk true s):=by
 unfold vm tT qq bL;simp only[qB];unfold vR;rw[am]
 obtain⟨t,f⟩:=SP (lJ a) (vo a) _ _ dk (fun s b d=>by
  unfold vo
  cases s with
  |nil=>rfl| cons c s=>rw[am,P7 a _,qB];cases List.all (c::s) dk<;>rfl) (fun _ _ _ _ _=>rfl) a s false Ta d
 rw[f];cases f6 dk true s<;>rfl
def iu(s:Bs):Bool:=decide (s.length<=60)&&f6 kg true s
def Kn(a:Nat)(d:90000000<=a)(s:Bs):qo a s=some (iu s):=by
 unfold qo iu;by_cases h:s.length<=60
 ·rw[ap,decide_eq_true h,Bool.true_and]
  unfold tU qq bL;simp only[qB];unfold vS;rw[am]
  obtain⟨t,e⟩:=SP (lK a) (vp a) _ _ kg (fun s b f=>by
   unfold vp
   cases s with
   |nil=>rfl| cons c s=>rw[am,P8 a _,qB];cases List.all (c::s) kg<;>rfl) (fun _ _ _ _ _=>rfl) a s false Ta Ta
  rw[e];cases f6 kg true s<;>rfl
 ·rw[bi,decide_eq_false h];rfl
def zk(c:UInt8):Bool:=decide (32<=c)&&decide (c<=126)
def qh7(a:Nat)(s:Bs)(h:s.length<a:=by omega)(b:s.length<=10000000:=by omega):BQ a s=some (s.all zk):=
 Do s b (kT a) zk (fun n e k=>by
  rw[kT,Hl];simp only[show ∀c,aX c=some (zk c) from fun c=>by unfold aX zk;cases decide (32<=c)<;>rfl]) a [] s rfl h
def kh(s:Bs):Bool:=(!s.isEmpty&&decide (s.length<=60))&&s.all zk
def Lb(a:Nat)(b:90000000<=a)(s:Bs):th a s=some (kh s):=by
 unfold th kh
 cases s with
 |nil=>rfl|cons c s=>
  rw[show(!((c::s)==([]:Bs)))=true from rfl,qT]
  by_cases h:(c::s).length<=60
  ·rw[ap,decide_eq_true h,qh7 a _];rfl
  ·rw[bi,decide_eq_false h];rfl
def RN(c:UInt8):pi c=some ((pi c).getD false):=by
 unfold pi;simp only[lu,qB];rw[ir];split
 ·rfl
 ·rw[ir];split<;>rfl
def qhu(a:Nat)(b:1000<=a)(c:UInt8):eH a c=some (((pi c).getD false)||([33,35,36,37,38,39,42,43,45,47,61,63,94,95,96,123,124,125,126]:Bs).contains c):=by
 unfold eH;rw[RN,qB,L6 a c _ Td Te]
 cases (pi c).getD false<;>rfl
def qhv:∀n:_root_.Fin 256,(((pi (UInt8.ofNat n.val)).getD false)||([33,35,36,37,38,39,42,43,45,47,61,63,94,95,96,123,124,125,126]:Bs).contains (UInt8.ofNat n.val))=dk (UInt8.ofNat n.val):=by decide +kernel
def bV(a:Nat)(b:1000<=a)(c:UInt8):eH a c=some (dk c):=by
 rw[qhu a b,qx (fun c=>(((pi c).getD false)||([33,35,36,37,38,39,42,43,45,47,61,63,94,95,96,123,124,125,126]:Bs).contains c)=dk c) qhv c]
def mY(c:UInt8):Bool:=dk c&&(((pi c).getD false)||c==45)
def qlf:∀n:_root_.Fin 256,mY (UInt8.ofNat n.val)=kg (UInt8.ofNat n.val):=by decide +kernel
def qlg(c:UInt8):mY c=kg c:=qx (fun c=>mY c=kg c) qlf c
def qqx(g:Nat)(i:1000<=g)(d:Bool)(n:Nat):∀(f b:Bs)(e:Bool),b.length<n->f.length+b.length<100000000->qU g n (f++b) d e (f.length:Int)=some (f6 (if d then mY else dk) e b):=by
 induction n with
 |zero=>intro f b e h;omega|succ n a=>
  intro f b e h j;rw[qU,FZ]
  cases b with
  |nil=>rw[bi];rfl|cons c b=>
   simp only[qL]at h j;have a:=fun e=>a (f++[c]) b e Ta Td
   simp only[qM,qL,qZ,qS,wM,wO]at a;rw[ap Th,gh,f6]
   simp only[qB];cases c==46
   ·rw[qF,qF,bV g i,qB,l9 _,RN]
    have a:=a false;cases d
    ·simp only[wJ,if_false]at a ⊢;cases dk c
     ·rfl
     ·exact a
    ·simp only[if_true]at a ⊢;rw[show mY c=(dk c&&(((pi c).getD false)||c==45)) from rfl]
     cases dk c
     ·rfl
     ·simp only[qB,Bool.not_true,qF,qT,Bool.true_and];cases (pi c).getD false
      ·simp only[Bool.not_false,qT,Bool.false_or,bne];cases c==45
       ·rfl
       ·exact a
      ·exact a
   ·rw[qT,qT,l9 _]
    cases e
    ·exact a true
    ·rfl
def iE(a:Nat)(b:1000<=a)(s:Bs)(d:Bool)(h:s.length<a:=by omega)(e:s.length<100000000:=by omega):eM a s d=some (f6 (if d then kg else dk) true s):=by
 have:=qqx a b d a [] s true h (by simpa using e)
 rw[show(if d then mY else dk)=(if d then kg else dk) by cases d<;>simp;funext c;exact qlg c]at this
 exact this
def qrg(f n:Nat)(s:Bs)(i:s.length<100000000):∀(b a:Bs),s=b++a->a.length<n->rI f n s (b.length:Int)=some (a.all zk&&(decide (1<=s.length)&&decide (s.length<=60))):=by
 induction n with
 |zero=>intro b a e h;omega|succ n ih=>
  intro b a e h;have d:=congrArg List.length e;rw[qM]at d;rw[rI,Gf]
  cases a with
  |nil=>
   rw[bi (by simp at d;omega),lu]
   simp only[qB,List.all_nil,Bool.true_and,qI];rw[Bool.eq_iff_iff];simp;omega
  |cons c a=>
   simp only[qL]at h d;rw[ap,show ak s (b.length:Int)=some c by rw[e];exact gh _ _ _,qB,lu,qB,l9 _]
   have:=ih (b++[c]) a (by rw[e];simp) Ta
   rw[qM,wD]at this;rw[List.all_cons];have g:decide ((32:Int)<=(c.toNat:Int)/\(c.toNat:Int)<=126)=zk c:=by
    unfold zk;rw[Bool.eq_iff_iff,decide_eq_true_iff,qA,decide_eq_true_iff,decide_eq_true_iff,UInt8.le_iff_toNat_le,UInt8.le_iff_toNat_le];simp;omega
   rw[g];cases zk c
   ·rfl
   ·exact this
def ES(a:Nat)(s:Bs)(h:s.length<a:=by omega)(b:s.length<100000000:=by omega):rH a s=some (kh s):=by
 have:=qrg a a s b [] s rfl h;unfold rH kh;rw[show((([]:Bs).length:Nat):Int)=0 from rfl]at this
 rw[this,Bool.and_comm];cases s<;>rfl
def Ag(x a b:Int){α:Type}{P:α->Prop}{f:Bool->Option α}(h:∀c:Bool,(c=true->a<=x/\x<=b)->(c=false->¬(a<=x/\x<=b))->Ok P (f c)):Ok P ((cn x a b).bind f):=by
 rw[lu,qB];exact h _ (fun q=>of_decide_eq_true q) (fun q=>of_decide_eq_false q)
def Az(r:Int):Ok (fun v=>v.length<=4) (ph r):=by
 have d:∀r,Ok (fun v=>v.length<=4) (rY r):=fun r=>by
  unfold rY;exact bp (fun _=>aw Te) fun _=>bp (fun _=>aw Te) fun _=>bp (fun _=>aw Te) fun _=>aw Te
 have a:∀b r,Ok (fun v=>v.length<=4) (rX r b):=fun b r=>by
  unfold rX;exact bc (fun _=>d _) fun _=>d _
 unfold ph;exact Ag _ _ _ fun c _ _=>fj (fun _=>a _ _) fun _=>Ag _ _ _ fun c _ _=>a _ _
def qme(a n:Nat)(s k:Bs)(g:s.length<=100000)(f:k.length<=100):∀i:Nat,s.length+1-i<n->i<=200000->Ok (fun x=>x = -1\/((i:Int)<=x/\x+k.length<=s.length)) (eN a n s k (i:Int)):=by
 induction n with
 |zero=>intro i h;omega|succ n ih=>
  intro i h e;rw[eN,Bb,show ae ((i:Int)+(k.length:Int))=((i+k.length:Nat):Int) by rw[au];omega]
  refine bp (fun c=>bn ⟨Ta,Ta,Ta⟩ (bc (fun _=>aw (.inr ⟨Ta,Ta⟩)) fun _ => ?_)) fun _=>aw (.inl rfl)
  rw[bj i]
  refine ma (ih (i+1) Ta Ta) fun x h => ?_
  rcases h with h|⟨d,b⟩
  ·exact .inl h
  ·exact .inr ⟨Ta,b⟩
def Eb(a:Nat)(b:90000000<=a)(s k:Bs)(e:s.length<=100000)(d:k.length<=100)(i:Nat)(c:i<=200000:=by omega):Ok (fun x=>x = -1\/((i:Int)<=x/\x+k.length<=s.length)) (qm a s k (i:Int)):=qme a a s k e d i Ta c
def Ei(a:Nat)(b:1000<=a)(c:UInt8):Ok dj (jO a c):=by
 have:∀n k:Nat,16-k<n->Ok dj (qV a n c (k:Int)):=by
  intro n
  induction n with
  |zero=>intro k h;omega|succ n ih=>
   intro k h;rw[qV,Ga];refine bp (fun d=>ar (cq (k:=k) Td) fun _ _=>bc (fun _=>aw trivial) fun _ => ?_) fun _=>aw trivial
   rw[iD a _ Td (by simp[maxLen]),qB]
   refine ar (cq (k:=k) Td) fun _ _=>bc (fun _=>aw trivial) fun _ => ?_
   rw[bj k]
   exact ih (k+1) Ta
 exact this a 0 Ta
def qsi(a:Nat)(c:1000000<=a)(s:Bs)(g:s.length<=100000:=by omega):Ok dj (Gx a s):=by
 have:∀(l:List Bs),(∀x∈l,x.length<=100)->l.length<=100->∀n k:Nat,l.length-k<n->Ok dj (rU a n s (k:Int) l):=by
  intro l d e n
  induction n with
  |zero=>intro k h;omega|succ n ih=>
   intro k h;rw[rU,Gy];refine bp (fun f=>bn ⟨Ta,Ta⟩ (ar (E8 (k:=(k:Int).toNat) (P:=fun x=>x.length<=100) Ta d) fun y i => ?_)) fun _=>aw trivial
   rw[P6 a y s Ta Ta Tp Tp,qB]
   refine bc (fun _=>aw trivial) fun _ => ?_
   rw[bj k]
   exact ih (k+1) Ta
 refine this _ (fun x b => ?_) Te a 0 Td
 simp only[wE,List.not_mem_nil,or_false]at b;rcases b with rfl|rfl|rfl|rfl<;>simp
def qjh{α:Type}{b:Bool}{x y:Option α}(h:∃v,x=some v)(k:∃v,y=some v):∃v,(bif b then x else y)=some v:=by cases b<;>assumption
def qud(a n:Nat)(c:UInt8):∀k:Nat,k<=64->64-k<n->∃v,sQ a n c (k:Int)=some v:=by
 induction n with
 |zero=>intro k _ h;omega|succ n ih=>
  intro k d e;rw[sQ,GF];by_cases q:k<64
  ·rw[ap,ef _ k TA,qB,bj k]
   obtain⟨v,b⟩:=ih (k+1) Ta Ta
   exact qjh ⟨_,rfl⟩ ⟨v,b⟩
  ·rw[bi];exact⟨_,rfl⟩
def qtd(a n:Nat)(l:List Int)(c:l.length<=1000):∀(k:Nat)(v:Int),k<=l.length->l.length-k<n->∃w,aN a n l v (k:Int)=some w:=by
 induction n with
 |zero=>intro k v _ h;omega|succ n ih=>
  intro k v b d;rw[aN,sP];by_cases q:k<l.length
  ·rw[ap,ef l k q,qB,bj k]
   exact ih (k+1) _ Ta Ta
  ·rw[bi];exact⟨_,rfl⟩
def qox(a n:Nat)(b:90000000<=a)(l:List Int)(e:l.length<=100000):∀(k:Nat)(o:Bs),l.length-k<n->k<=l.length->8*o.length<=k->Ok (fun v=>8*v.length<=l.length) (rJ a n l (k:Int) o):=by
 induction n with
 |zero=>intro k o h;omega|succ n ih=>
  intro k o f d g;rw[rJ,Gj,au (x:=(k:Int)+8) Ta Ta]
  refine bp (fun h=>bn ⟨Ta,Ta,Ta⟩ ?_) fun _=>aw Ta
  obtain⟨w,c⟩:=qtd a a (List.take (((k:Int)+8).toNat-(k:Int).toNat) (List.drop (k:Int).toNat l)) (by rw[List.length_take];omega) 0 0 Ta (by rw[List.length_take];omega)
  rw[show sO a (List.take (((k:Int)+8).toNat-(k:Int).toNat) (List.drop (k:Int).toNat l))=some w from c,qB,show(k:Int)+8=((k+8:Nat):Int) by omega]
  exact bn To (ih (k+8) _ Ta Ta Td)
def qow(a n:Nat)(d:90000000<=a)(s:Bs)(u:s.length<=10000):∀(k:Nat)(m:List Int),s.length-k<n->k<=s.length->m.length<=6*k->Ok (fun v=>v.length<=s.length) (eO a n s (k:Int) m):=by
 induction n with
 |zero=>intro k m h;omega|succ n ih=>
  intro k m t p r;rw[eO,Gi];have f:Ok (fun v=>v.length<=s.length) (jU a (eO a n) s (k:Int) false m):=by
   unfold jU;rw[am rfl];exact ma (qox a a d m Ta 0 [] Ta Ta Te) fun v e=>Ta
  refine bp (fun h=>ar (cq) fun c _ => ?_) fun _=>f
  cases c != (61:UInt8)
  ·exact f
  ·unfold jU Gk;rw[aq rfl];refine ar (cq) fun c2 _ => ?_
   obtain⟨v,e⟩:=qud a a c2 0 Ta Ta
   rw[show GE a c2=some v from e,qB]
   have l:∀(j n2:Nat)(b:List Int),j<=6->j<n2->b.length+j<=6*(k+1)->Ok (fun v=>v.length<=s.length) (jV a (eO a n) n2 s (k:Int) v ((j:Int)-1) b):=by
    intro j
    induction j with
    |zero=>
     intro n2 b _ g i;obtain⟨n2,rfl⟩:∃q,n2=q+1:=⟨n2-1,Ta⟩
     rw[jV,Bg,bi]
     unfold rK;rw[am rfl,bj k]
     exact ih (k+1) b Ta Ta Ta
    |succ j ihj=>
     intro n2 b o g i;obtain⟨n2,rfl⟩:∃q,n2=q+1:=⟨n2-1,Ta⟩
     rw[jV,Bg,ap]
     unfold rK;refine bc (fun _ => ?_) fun _ => ?_
     ·unfold Gl;refine bn (by rw[show((j+1:Nat):Int)-1=(j:Int) by omega];unfold IntKind.wrap;simp[IntKind.signed,IntKind.bits];omega) (bn To ?_)
      rw[au (x:=((j+1:Nat):Int)-1-1) Ta Ta,show((j+1:Nat):Int)-1-1=(j:Int)-1 by omega]
      exact ihj n2 _ Ta Ta Td
     ·rw[bj k]
      exact ih (k+1) b Ta Ta Ta
   exact l 6 a m Ta Ta Ta
def qoy(a:Nat)(c:90000000<=a)(b:Bs)(d:b.length<=10000:=by omega):Ok (fun v=>v.length<=b.length) (Gg a b):=
 qow a a c b d 0 [] Ta Ta Te
def qj5(a:Nat)(c:90000000<=a)(b:Bs)(d:b.length<=100000:=by omega):Ok dj (AU a b):=by
 unfold AU;have e:=Tr.bits_len b;rw[Tr.rbits_eq a b Ta Ta,qB]
 exact⟨_,Tr.pad6_go a a Ta _ Ta Ta Ta (Tr.bits_one b),trivial⟩
def qk3(b n:Nat)(k:Int)(s:Bs)(f:s.length<=100000):∀(i:Nat)(a:Bs),s.length-i<n->i<=s.length->a.length<=4*i->Ok (fun v=>v.length<=4*s.length) (jN b n k s a (i:Int)):=by
 induction n with
 |zero=>intro i a h;omega|succ n ih=>
  intro i a h d e;rw[jN,FW];have g:∀x:Int,i<s.length->Ok (fun v=>v.length<=4*s.length) ((ph x).bind fun x2=>bif decide (List.length a+List.length x2<=bg) then jN b n k s (a++x2) (ae ((i:Int)+(1:Int))) else none):=fun x c=>
   ar (Az x) fun v j=>bn Tl (by
    rw[bj i]
    exact ih (i+1) _ Ta Ta Tn)
  exact bp (fun c=>ar (cq (k:=i) Ta) fun y _=>bc (fun _=>bp (fun _=>g _ Ta) fun _=>g _ Ta) fun _=>g _ Ta) fun _=>aw Ta
def qr5(f n:Nat)(g:10<=f):∀(m:Nat)(b a:Bs)(d:List Int),a.length<=m->a.length<n->b.length+a.length<=100000->d.length<=b.length->Ok (fun v=>v.length<=b.length+a.length) (rS f n (b++a) (b.length:Int) d):=by
 induction n with
 |zero=>intro m b a d _ h;omega|succ n ih=>
  intro m b a d l h j o;rw[rS,Gv]
  cases a with
  |nil=>rw[bi];exact aw (by simpa using o)|cons c a=>
   simp only[qL]at l h j;rw[ap Th,qa2 f g b c a,qB]
   refine bn Tj ?_
   rw[qas];have i:=Lib.decodeL_width (c::a);have e:=Lib.decodeL_le (c::a) (List.cons_ne_nil _ _);generalize p:(Lib.decodeL (c::a)).2=k at i e;rw[show ae ((b.length:Int)+(k:Int))=((b.length+k:Nat):Int) by rw[au Ta (by simp only[qL]at e;omega)];omega]
   simp only[qL]at e;have:=ih m (b++(c::a).take k) ((c::a).drop k) (d++[(rn (c::a)).1]) (by rw[List.length_drop,qL];omega) (by rw[List.length_drop,qL];omega) (by rw[qM,List.length_take,List.length_drop,qL];omega) Td
   rw[qS,List.take_append_drop,qM,List.length_take,List.length_drop,qL,show b.length+min k (a.length+1)=b.length+k by omega]at this
   exact ma this fun v q=>by simp only[qL];omega
def qr6(a:Nat)(b:90000000<=a)(s:Bs)(c:s.length<=100000):Ok (fun v=>v.length<=s.length) (Bj a s):=by
 have:=qr5 a a Ta s.length [] s [] Ta Ta (by simpa using c) Te
 unfold Bj;simpa using this
def qk4(b n:Nat)(l:List Int)(f:l.length<=100000):∀(i:Nat)(a:Bs),l.length-i<n->i<=l.length->a.length<=4*i->Ok (fun v=>v.length<=4*l.length) (qQ b n a (i:Int) l):=by
 induction n with
 |zero=>intro i a h;omega|succ n ih=>
  intro i a h d e;rw[qQ,FX];refine bp (fun c=>bn ⟨Ta,Ta⟩ (ar (E8 (k:=(i:Int).toNat) (P:=fun _=>True) Ta fun _ _=>trivial) fun y _=>ar (Az y) fun v g=>bn Tl ?_)) fun _=>aw Ta
  rw[bj i]
  exact ih (i+1) _ Ta Ta Tn
def vb(k:Nat)(h:k<100000000:=by omega):ae ((k:Int)+2)=((k+2:Nat):Int):=by rw[au];omega
def qc3(k:Nat)(h:k<100000000:=by omega):ae ((k:Int)+3)=((k+3:Nat):Int):=by rw[au];omega
def qk5(d n:Nat)(s:Bs)(y:s.length<=100000):∀(i:Nat)(a:Bs),s.length-i<n->i<=s.length->a.length<=4*i->Ok (fun v=>v.length<=4*s.length) (eL d n s a (i:Int)):=by
 induction n with
 |zero=>intro i a h;omega|succ n ih=>
  intro i a h t w;rw[eL,FY];refine bp (fun r => ?_) fun _=>aw Ta
  rw[bj i,lh]
  by_cases e:((i+1:Nat):Int)=(s.length:Int)
  ·rw[qX e];exact ar (Az _) fun v f=>bn Tl (aw Tn)
  ·rw[qW e];refine ar (cq (k:=i) Ta) fun m _=>ar (cq (k:=i+1) Ta) fun p _=>Ag _ _ _ fun c _ _ => ?_
   generalize ae ((ae ((256:Int)*(m.toNat:Int)))+(p.toNat:Int))=u;have g:∀b:Bool,(b=true->i+3<s.length)->Ok (fun v=>v.length<=4*s.length) (qR d (eL d n) s a (i:Int) u b):=fun b o=>by
    have j:∀x:Int,Ok (fun v=>v.length<=4*s.length) ((ph x).bind fun l=>bif decide (List.length a+List.length l<=bg) then eL d n s (a++l) (ae ((i:Int)+(2:Int))) else none):=fun x=>
     ar (Az x) fun v f=>bn Tl (by
      rw[vb i]
      exact ih (i+2) _ Ta Ta Tn)
    unfold qR;refine bc (fun q => ?_) fun _=>j _
    have:=o q;rw[vb i,qc3 i]
    refine ar (cq (k:=i+2) Ta) fun z _=>ar (cq (k:=i+3) Ta) fun m _=>Ag _ _ _ fun c _ _=>bc (fun _=>ar (Az _) fun v f=>bn Tl ?_) fun _=>by
     have:=j u;rw[vb i]at this
     exact this
    rw[vb (i+2)]
    exact ih (i+2+2) _ Ta Ta Tn
   rw[qc3 i]
   exact bc (fun _=>g _ fun q=>by have:=of_decide_eq_true q;omega) fun _=>g false Te
def QD(a:Nat)(c:90000000<=a)(k:Int)(s:Bs)(d:s.length<=100000:=by omega):Ok (fun v=>v.length<=4*s.length) (qK a k s):=by
 have e:∀b,Ok (fun v=>v.length<=4*s.length) (qO a k s [] k b):=fun b=>by
  unfold qO;refine bc (fun _=>qk3 a a k s d 0 [] Ta Ta Te) fun _=>bc (fun _=>ar (qr6 a c s d) fun l f=>ma (qk4 a a l Ta 0 [] Ta Ta Te) fun v g=>Ta) fun _=>bc (fun _=>qk5 a a s d 0 [] Ta Ta Te) fun _=>aw Te
 unfold qK;exact bc (fun _=>e _) fun _=>e _
def quz(e:Nat)(l:90000000<=e)(i c k:Int)(d:Bs)(u:d.length<=1000)(n:Nat):∀(j:Nat)(a:Bs),d.length-j<n->j<=d.length->a.length<=j->Ok (fun v=>(v.2=0\/v.2=ae ((ae (c+(2:Int)))-i))/\v.1.length<=4*d.length) (aK e n i c k d (j:Int) a):=by
 induction n with
 |zero=>intro j a h;omega|succ n ih=>
  intro j a h w y;rw[aK,G8];have m:∀x:UInt8,j<d.length->Ok (fun v:Bs×Int=>(v.2=0\/v.2=ae ((ae (c+(2:Int)))-i))/\v.1.length<=4*d.length) (bif decide (List.length (a++([x]:Bs))<=ax) then aK e n i c k d (ae ((j:Int)+(1:Int))) (a++([x]:Bs)) else none):=fun x f=>
   bn Tj (by
    rw[bj j]
    exact ih (j+1) _ Ta Ta Td)
  have o:∀x b,j<d.length->Ok (fun v:Bs×Int=>(v.2=0\/v.2=ae ((ae (c+(2:Int)))-i))/\v.1.length<=4*d.length) (sD e (aK e n) i c k d (j:Int) x b a):=fun x b f=>by
   unfold sD;exact bc (fun _=>aw ⟨.inl rfl,Te⟩) fun _=>m x f
  have g:∀x b,j<d.length->(b=true->j+2<d.length)->Ok (fun v:Bs×Int=>(v.2=0\/v.2=ae ((ae (c+(2:Int)))-i))/\v.1.length<=4*d.length) (eP e (aK e n) i c k d (j:Int) x b a):=fun x b f p=>by
   unfold eP;refine bc (fun q => ?_) fun _=>bc (fun _=>o _ _ f) fun _=>Ag _ _ _ fun b _ _=>o _ _ f
   have:=p q;rw[bj j,vb j]
   refine ar (cq (k:=j+1) Ta) fun c1 _=>ar (Ei e Ta _) fun x2 _=>ar (cq (k:=j+2) Ta) fun c3 _=>ar (Ei e Ta _) fun x4 _=>bn Tj ?_
   rw[bj (j+2)]
   exact ih (j+2+1) _ Ta Ta Td
  refine bp (fun f=>ar (cq (k:=j) Ta) fun c1 _=>bc (fun _=>m _ Ta) fun _=>bc (fun _ => ?_) fun _=>g _ _ Ta Te) fun _=>ar (QD e l k a) fun A t=>aw ⟨.inr rfl,Tq⟩
  rw[vb j,bj j]
  refine bp (fun s=>ar (cq (k:=j+1) Ta) fun c2 _=>ar (Ei e Ta _) fun x3 _=>bp (fun _=>ar (cq (k:=j+2) Ta) fun r _=>ar (Ei e Ta _) fun z _=>g _ _ Ta (fun _=>Ta)) fun _=>g _ _ Ta Te) fun _=>g _ _ Ta Te
def qc5(f:Nat)(e:90000000<=f)(s:Bs)(l:s.length<=100000)(i:Nat)(O:i<s.length:=by omega):Ok (fun v=>v.1.length<=1000/\(v.2=0\/∃k:Nat,v.2=(k:Int)/\0<k/\i+k<=s.length)) (sC f s (i:Int)):=by
 have z:Ok (fun v:Bs×Int=>v.1.length<=1000/\(v.2=0\/∃k:Nat,v.2=(k:Int)/\0<k/\i+k<=s.length)) (some (([]:Bs),(0:Int))):=aw ⟨Te,.inl rfl⟩
 unfold sC;refine ar (Eb f e s _ l Te i) fun x1 K => ?_
 rw[gc];by_cases j:x1≠(i:Int)
 ·rw[qX j];exact z
 rw[qW j,vb i]
 have j:=Classical.not_not.1 j;refine ar (Eb f e s _ l Te (i+2)) fun a t=>bp (fun _=>z) fun B => ?_
 obtain⟨a,rfl⟩:∃n:Nat,a=(n:Int):=⟨a.toNat,Ta⟩
 have t:i+2<=a/\a+1<=s.length:=by rcases t with h|⟨h,r⟩<;>simp at *<;>omega
 rw[bj a]
 refine ar (Eb f e s _ l Te (a+1)) fun b u=>bp (fun _=>z) fun C => ?_
 obtain⟨b,rfl⟩:∃n:Nat,b=(n:Int):=⟨b.toNat,Ta⟩
 have u:a+1<=b/\b+1<=s.length:=by rcases u with h|⟨h,r⟩<;>simp at *<;>omega
 rw[bj b]
 have q:∀c,Ok (fun v:Bs×Int=>v.1.length<=1000/\(v.2=0\/∃k:Nat,v.2=(k:Int)/\0<k/\i+k<=s.length)) (aJ f s (i:Int) (a:Int) (b:Int) c true):=fun c=>by
  unfold aJ;rw[aq rfl];exact z
 refine ar (Eb f e s _ l Te (b+1)) fun c w=>bp (fun _=>q _) fun E => ?_
 obtain⟨c,rfl⟩:∃n:Nat,c=(n:Int):=⟨c.toNat,Ta⟩
 have w:b+1<=c/\c+1<=s.length:=by rcases w with h|⟨h,r⟩<;>simp at *<;>omega
 rw[bj c,vb c]
 refine bp (fun _=>q _) fun P=>ar (cq (k:=c+1) Ta) fun J _=>bc (fun _=>q _) fun _ => ?_
 have o:ae (((c+2:Nat):Int)-(i:Int))=((c+2-i:Nat):Int):=by rw[au];omega
 rw[o];unfold aJ;refine bc (fun _=>z) fun F => ?_
 have A:¬(75:Int)<((c+2-i:Nat):Int):=of_decide_eq_false F;unfold G9;rw[vb i,bj a,bj b,vb c,o]
 have p:∀m x:Nat,(List.take m (List.drop x s)).length<=m:=fun m x=>by rw[List.length_take];omega
 have g:∃k:Nat,((c+2-i:Nat):Int)=(k:Int)/\0<k/\i+k<=s.length:=⟨c+2-i,rfl,Ta,Ta⟩
 have I:=p ((c:Int).toNat-((b+1:Nat):Int).toNat) ((b+1:Nat):Int).toNat;have G:=p ((a:Int).toNat-((i+2:Nat):Int).toNat) ((i+2:Nat):Int).toNat;have H:=p ((b:Int).toNat-((a+1:Nat):Int).toNat) ((a+1:Nat):Int).toNat;generalize List.take ((c:Int).toNat-((b+1:Nat):Int).toNat) (List.drop ((b+1:Nat):Int).toNat s)=d at I ⊢;generalize List.take ((a:Int).toNat-((i+2:Nat):Int).toNat) (List.drop ((i+2:Nat):Int).toNat s)=d1 at G ⊢;generalize List.take ((b:Int).toNat-((a+1:Nat):Int).toNat) (List.drop ((a+1:Nat):Int).toNat s)=d2 at H ⊢;have N:d.length<=75:=Ta
 refine bn ⟨Ta,Ta,Ta⟩ (ar (qsi f Ta d1) fun k _=>bn ⟨Ta,Ta,Ta⟩ ?_)
 rw[iD f d2 Ta Tp,qB]
 refine bn ⟨Ta,Ta,Ta⟩ (bp (fun _=>z) fun _=>bc (fun _=>bn Tp (ar (qoy f e d) fun x3 L=>ar (qj5 f e x3) fun x4 _=>fj (fun _=>z) fun _=>ar (QD f e k x3) fun Q M=>aw ⟨Tq,.inr g⟩)) fun _=>bc (fun _ => ?_) fun _=>z)
 refine ma (quz f e (i:Int) (c:Int) k d Ta f 0 [] Ta Ta Te) fun v y=>⟨Ta,?_⟩
 rw[vb c,o]at y
 rcases y.1 with h|h
 ·exact .inl h
 ·exact .inr (by rw[h];exact g)
def DC(s:Bs)(i:Nat)(a:i<s.length:=by omega)(b:s.length<=100000:=by omega):(decide (0<=(i:Int)/\(i:Int)<=ae ((i:Int)+(1:Int))/\ae ((i:Int)+(1:Int))<=(List.length s:Int))=true)/\(List.take ((ae ((i:Int)+(1:Int))).toNat-(i:Int).toNat) (List.drop (i:Int).toNat s)).length<=1:=by
 rw[bj i]
 exact⟨decide_eq_true ⟨Ta,Ta,Ta⟩,by rw[List.length_take];omega⟩
def qub(g n:Nat)(l:90000000<=g)(s:Bs)(F:s.length<=20000):∀(i:Nat)(f:Bs),s.length-i<n->i<=s.length->f.length<=1000*i->Ok (fun v=>v.length<=1000*s.length) (vg g n s f (i:Int)):=by
 induction n with
 |zero=>intro i f h;omega|succ n ih=>
  intro i f h B E;rw[vg,G4];refine bp (fun A=>ar (qc5 g l s Ta i) fun x1 w => ?_) fun _=>aw Ta
  obtain⟨c1,c2⟩:=DC s i
  rw[lh];by_cases e:x1.2=0
  ·rw[qX e,c1,qT];refine bn Tl ?_
   have:=ih (i+1) (f++(List.take ((ae ((i:Int)+(1:Int))).toNat-(i:Int).toNat) (List.drop (i:Int).toNat s))) Ta Ta Tn
   rw[bj i]at this ⊢
   exact this
  ·rw[qW e];obtain⟨t,m⟩:=x1;simp only[]at w e ⊢;obtain⟨k,rfl,G,u⟩:=w.2.resolve_left e;refine bn Tl ?_
   rw[show ae ((i:Int)+(k:Int))=((i+k:Nat):Int) by rw[au];omega]
   have iq:∀j:Nat,i<j->j<=s.length->i+k<=j->Ok (fun v=>v.length<=1000*s.length) (vg g n s (f++t) (j:Int)):=fun j a b d=>ih j _ Ta b Tn
   have z:∀(m j:Nat),s.length-j<m->i+k<=j->j<=s.length->Ok (fun v=>v.length<=1000*s.length) (jZ g (vg g n) m s (f++t) ((i+k:Nat):Int) (j:Int)):=by
    intro m
    induction m with
    |zero=>intro j h;omega|succ m ihm=>
     intro j C p r;rw[jZ,G5];have y:∀b,(b=true->j<s.length)->Ok (fun v=>v.length<=1000*s.length) (rW g (vg g n) s (f++t) ((i+k:Nat):Int) (j:Int) b):=fun b o=>by
      unfold rW;exact bc (fun q=>ar (qc5 g l s Ta j (o q)) fun _ _=>bp (fun _=>iq j Ta r p) fun _=>iq (i+k) Ta u (wF _)) fun _=>iq (i+k) Ta u (wF _)
     have x:∀b,(b=true->j<s.length)->Ok (fun v=>v.length<=1000*s.length) (rV g (vg g n) (jZ g (vg g n) m) s (f++t) ((i+k:Nat):Int) (j:Int) b):=fun b o=>by
      unfold rV;refine bc (fun q => ?_) fun _=>bp (fun _=>y _ fun q=>by have:=of_decide_eq_true q;omega) fun _=>y false Te
      have:=o q;unfold G6;rw[bj j]
      exact ihm (j+1) Ta Ta Ta
     exact bp (fun q=>ar (cq (k:=j) Ta) fun c _=>ar (P:=dj) ⟨_,nY c,trivial⟩ fun b _=>x b (fun _=>Ta)) fun _=>x false Te
   exact z g (i+k) Ta (wF _) u
def quc(a:Nat)(b:90000000<=a)(s:Bs)(c:s.length<=20000:=by omega):Ok (fun v=>v.length<=1000*s.length) (G3 a s):=qub a a b s c 0 [] Ta Ta Te
abbrev da:Type:=UInt8×Bs
def bz:List da->Nat|[]=>0|t::l=>t.2.length+1+bz l
def dJ:∀a b:List da,bz (a++b)=bz a+bz b|[],b=>by simp[bz]|t::a,b=>by rw[wK,bz,bz,dJ a b];omega
def Ff(t:da):bz [t]=t.2.length+1:=by simp[bz]
def xh(l:List da)(k:Nat):bz (l.take k)<=bz l:=by
 have h:=dJ (l.take k) (l.drop k);rw[List.take_append_drop]at h;omega
def qb1(l:List da)(k:Nat):bz (l.drop k)<=bz l:=by
 have h:=dJ (l.take k) (l.drop k);rw[List.take_append_drop]at h;omega
def qg:∀l:List da,l.length<=bz l|[]=>by simp|t::l=>by have:=qg l;rw[qL,bz];omega
def qb2{l:List da}{t:da}(h:t∈l):t.2.length+1<=bz l:=by
 induction l with
 |nil=>cases h
 |cons x l ih=>
  rw[bz];rcases List.mem_cons.1 h with rfl|h
  ·omega
  ·have:=ih h;omega
def Mr(l:List da)(k:Nat)(h:k<l.length):bz (l.take (k+1))=bz (l.take k)+(l[k].2.length+1):=by
 rw[List.take_add_one,List.getElem?_eq_getElem h,dJ];simp[bz]
def rx{α:Type}(l:List α)(x:α)(h:l.length<=1000000:=by omega):(l++[x]).length<=ax:=by simp only[ax,qM,qL,qZ];omega
def qtu(e n:Nat)(I:90000000<=e)(s:Bs)(Q:s.length<=4000):∀(i:Nat)(f:List da),s.length+1-i<n->i<=s.length+1->bz f<=2*i->Ok (fun v=>bz v.2<=2*s.length+2) (dp e n s (i:Int) f):=by
 induction n with
 |zero=>intro i f h;omega|succ n ih=>
  intro i f h O P;have K:=qg f;rw[dp,eD];have z:Ok (fun v:Bool×List da=>bz v.2<=2*s.length+2) (some (false,[])):=aw (by simp[bz])
  refine bp (fun G => ?_) fun _=>aw Tq
  have p:i<s.length:=Ta
  rw[ef s i p,qB,nY,qB,bj i]
  refine bc (fun _=>ih (i+1) f Ta Ta Ta) fun _=>bc (fun _ => ?_) fun _=>bc (fun _ => ?_) fun _ => ?_
  ·
   have L:∀(m j:Nat)(d:Int),s.length+1-j<m->i<=j->j<=s.length+1->Ok (fun v:Bool×List da=>bz v.2<=2*s.length+2) (eF e (dp e n) m s (j:Int) d f):=by
    intro m
    induction m with
    |zero=>intro j d h;omega|succ m ihm=>
     intro j d w y A;rw[eF,FO];refine bp (fun _=>z) fun J => ?_
     have l:j<s.length:=Ta
     have F:∀d,Ok (fun v:Bool×List da=>bz v.2<=2*s.length+2) (pX e (dp e n) (eF e (dp e n) m) s (j:Int) d f):=fun d=>by
      unfold pX;rw[bj j,bj (j+1)]
      exact ar (cq l) fun _ _=>bc (fun _=>bc (fun _=>ih (j+1+1) f Ta Ta Ta) fun _=>ihm (j+1+1) d Ta Ta Ta) fun _=>bc (fun _=>ih (j+1) f Ta Ta Ta) fun _=>ihm (j+1) d Ta Ta Ta
     have C:∀d,Ok (fun v:Bool×List da=>bz v.2<=2*s.length+2) (pW e (dp e n) (eF e (dp e n) m) s (j:Int) d f):=fun d=>by
      unfold pW;exact ar (cq l) fun _ _=>bc (fun _=>F _) fun _=>F _
     exact ar (cq l) fun _ _=>bc (fun _=>C _) fun _=>C _
   exact L e i 0 Ta (wF _) Ta
  ·
   have M:∀(m j:Nat)(g:Bs),s.length+1-j<m->i+1<=j->j<=s.length->g.length<=j-(i+1)->Ok (fun v:Bool×List da=>bz v.2<=2*s.length+2) (sw e (dp e n) m s (j:Int) g f):=by
    intro m
    induction m with
    |zero=>intro j g h;omega|succ m ihm=>
     intro j g w y A H;rw[sw,AS];have r:∀o:Nat,j<=o->o<s.length->Ok (fun v:Bool×List da=>bz v.2<=2*s.length+2) (eG e (dp e n) (sw e (dp e n) m) s (o:Int) g f):=fun o R x=>by
      obtain⟨c1,c2⟩:=DC s o x
      unfold eG;rw[c1,qT];have:=ihm (o+1) (g++(List.take ((ae ((o:Int)+(1:Int))).toNat-(o:Int).toNat) (List.drop (o:Int).toNat s))) Ta Ta Ta Tn
      refine bn Tl ?_
      rw[bj o]at this ⊢
      exact this
     have E:∀b,(b=true->j<s.length)->Ok (fun v:Bool×List da=>bz v.2<=2*s.length+2) (aE e (dp e n) (sw e (dp e n) m) s (j:Int) g b f):=fun b u=>by
      unfold aE;refine bc (fun q => ?_) fun _=>bp (fun _=>z) fun J=>bn (rx _ _) ?_
      ·have l:=u q;unfold pY jI;rw[bj j]
       refine ar (cq l) fun _ _=>bc (fun _=>bp (fun q => ?_) fun _=>r j (wF _) l) fun _=>bc (fun q=>by cases q) fun _=>r j (wF _) l
       exact r (j+1) Ta Ta
      ·rw[bj j]
       exact ih (j+1) _ Ta Ta (by rw[dJ,Ff];simp only;omega)
     exact bp (fun q=>ar (cq (k:=j) Ta) fun _ _=>E _ fun _=>Ta) fun _=>E false Te
   exact M e (i+1) [] Ta (wF _) Ta Te
  ·rw[bV e Ta,qB]
   have N:∀(m j:Nat)(g:Bs),s.length+1-j<m->i+1<=j->j<=s.length->g.length<=j-i->Ok (fun v:Bool×List da=>bz v.2<=2*s.length+2) (nq e (dp e n) m s (j:Int) g f):=by
    intro m
    induction m with
    |zero=>intro j g h;omega|succ m ihm=>
     intro j g w y A H;rw[nq,pU];have t:∀b,(b=true->j<s.length)->Ok (fun v:Bool×List da=>bz v.2<=2*s.length+2) (qk e (dp e n) (nq e (dp e n) m) s (j:Int) g b f):=fun b u=>by
      unfold qk;refine bc (fun q => ?_) fun _=>bn (rx _ _) (ih j _ Ta Ta (by rw[dJ,Ff];simp only;omega))
      have x:=u q;obtain⟨c1,c2⟩:=DC s j x
      unfold pV;rw[c1,qT];have:=ihm (j+1) (g++(List.take ((ae ((j:Int)+(1:Int))).toNat-(j:Int).toNat) (List.drop (j:Int).toNat s))) Ta Ta Ta Tn
      refine bn Tl ?_
      rw[bj j]at this ⊢
      exact this
     refine bp (fun q=>ar (cq (k:=j) Ta) fun c _ => ?_) fun _=>t false Te
     rw[bV e Ta,qB]
     exact bc (fun _=>t _ fun _=>Ta) fun _=>ar (cq (k:=j) Ta) fun c _=>t _ fun _=>Ta
   have first:(dk s[i]=true\/(s[i]==46)=true)->Ok (fun v:Bool×List da=>bz v.2<=2*s.length+2) (nq e (dp e n) e s (i:Int) [] f):=fun q=>by
    obtain⟨m,w⟩:∃m,e=m+1:=⟨e-1,Ta⟩
    rw[show nq e (dp e n) e=nq e (dp e n) (m+1) by rw[← w],nq,pU,ap G,ef s i p,qB,bV e Ta,qB]
    have t:Ok (fun v:Bool×List da=>bz v.2<=2*s.length+2) (qk e (dp e n) (nq e (dp e n) m) s (i:Int) [] true f):=by
     unfold qk pV;rw[aq rfl];obtain⟨c1,c2⟩:=DC s i p
     rw[c1,qT];have:=N m (i+1) ([]++(List.take ((ae ((i:Int)+(1:Int))).toNat-(i:Int).toNat) (List.drop (i:Int).toNat s))) Ta Ta Ta (by rw[List.nil_append];omega)
     refine bn (by simp only[bg,qZ];omega) ?_
     rw[bj i]at this ⊢
     exact this
    rcases q with q|q
    ·rw[q,qT];exact t
    ·rw[qB,q];cases dk s[i]
     ·exact t
     ·exact t
   have B:∀b,(b=true->(dk s[i]=true\/(s[i]==46)=true))->Ok (fun v:Bool×List da=>bz v.2<=2*s.length+2) (aD e (dp e n) s (i:Int) s[i] b f):=fun b u=>by
    unfold aD;refine bc (fun q=>first (u q)) fun _ => ?_
    rw[L6 e _ _ Td Te,qB,bj i]
    exact bc (fun _=>bn (rx _ _) (ih (i+1) _ Ta Ta (by rw[dJ,Ff];simp only[qZ];omega))) fun _=>z
   exact bc (fun q=>B true fun _ => .inl q) fun _=>B _ fun q => .inr q
def qtw(a:Nat)(b:90000000<=a)(s:Bs)(c:s.length<=4000):Ok (fun v=>bz v.2<=2*s.length+2) (pT a s):=qtu a a b s c 0 [] Ta Ta (by simp[bz])
def qkt(f n:Nat)(b:Bool)(l:List da)(A:bz l<=10000):∀(k:Nat)(o:Bool)(d:List (List da))(a:List da),l.length-k<n->k<=l.length->d.length<=k->(∀p∈d,bz p<=bz l)->bz a<=bz (l.take k)->Ok (fun v=>v.length<=l.length+1/\∀p∈v,bz p<=bz l) (qn f n l b o (k:Int) d a):=by
 have s:=qg l
 induction n with
 |zero=>intro k o d a h;omega|succ n ih=>
  intro k o d a h z B i C;have x:=xh l k;have t:=qg a;rw[qn,GA];refine bp (fun w => ?_) fun _=>bn (rx _ _) (aw ⟨Td,fun p e => ?_⟩)
  ·have g:k<l.length:=Ta
   have y:=Mr l k g;have u:∀o,Ok (fun v:List (List da)=>v.length<=l.length+1/\∀p∈v,bz p<=bz l) (Bn f (qn f n) l b o (k:Int) d a):=fun o=>by
    unfold Bn;rw[ef l k g,qB,bj k]
    exact bn (rx _ _) (ih (k+1) o d _ Ta Ta Ta i (by rw[dJ,Ff];omega))
   have r:∀o c,Ok (fun v:List (List da)=>v.length<=l.length+1/\∀p∈v,bz p<=bz l) (sJ f (qn f n) l b o (k:Int) c d a):=fun o c=>by
    unfold sJ;rw[bj k]
    refine bc (fun _=>bn (rx _ _) (ih (k+1) o _ [] Ta Ta Td (fun p e => ?_) (by simp[bz]))) fun _=>u o
    rcases List.mem_append.1 e with e|e
    ·exact i p e
    ·rw[List.mem_singleton]at e;subst e;omega
   have q:∀o,Ok (fun v:List (List da)=>v.length<=l.length+1/\∀p∈v,bz p<=bz l) (sI f (qn f n) l b o (k:Int) d a):=fun o=>by
    unfold sI;exact ar (cq g) fun _ _=>bc (fun _=>r _ _) fun _=>r _ _
   have m:∀o,Ok (fun v:List (List da)=>v.length<=l.length+1/\∀p∈v,bz p<=bz l) (sH f (qn f n) l b o (k:Int) d a):=fun o=>by
    unfold sH;exact ar (cq g) fun _ _=>bc (fun _=>q _) fun _=>q _
   have j:∀o c,Ok (fun v:List (List da)=>v.length<=l.length+1/\∀p∈v,bz p<=bz l) (sG f (qn f n) l b o (k:Int) c d a):=fun o c=>by
    unfold sG;exact bc (fun _=>m _) fun _=>m _
   exact ar (cq g) fun _ _=>bc (fun _=>j _ _) fun _=>j _ _
  ·rcases List.mem_append.1 e with e|e
   ·exact i p e
   ·rw[List.mem_singleton]at e;subst e;omega
def Q5(a:Nat)(c:90000000<=a)(b:Bool)(l:List da)(d:bz l<=10000:=by omega):Ok (fun v=>v.length<=l.length+1/\∀p∈v,bz p<=bz l) (kC a l b):=by
 have:=qg l;exact qkt a a b l d 0 false [] [] Ta Ta Te Te (by simp[bz])
def qc6(a:Nat)(b:90000000<=a)(l:List da)(e:bz l<=10000:=by omega):Ok dj (Bp a l):=by
 have c:=qg l;have:∀n k:Nat,l.length-k<n->Ok dj (sR a n l (k:Int)):=by
  intro n
  induction n with
  |zero=>intro k h;omega|succ n ih=>
   intro k h;rw[sR,GG];refine bp (fun d => ?_) fun _=>aw trivial
   rw[bj k]
   exact ar (cq (k:=k) Ta) fun _ _=>bc (fun _=>ar (cq (k:=k) Ta) fun _ _=>bc (fun _=>aw trivial) fun _=>ih (k+1) Ta) fun _=>ih (k+1) Ta
 exact this a 0 Ta
def qbl(a:Nat)(g:90000000<=a)(l:List da)(h:bz l<=10000:=by omega):Ok (fun v=>v.1.1.length<=10000/\v.1.2.1.length<=10000/\v.1.2.2.length<=10000) (aM a l):=by
 have z:Ok (fun v:(Bs×Bs×Bs)×Bool=>v.1.1.length<=10000/\v.1.2.1.length<=10000/\v.1.2.2.length<=10000) (some ((([]:Bs),(([]:Bs),([]:Bs))),false)):=aw ⟨Te,Te,Te⟩
 have d:∀b m,(b=false->l.length=3)->Ok (fun v:(Bs×Bs×Bs)×Bool=>v.1.1.length<=10000/\v.1.2.1.length<=10000/\v.1.2.2.length<=10000) (vh a l b m):=fun b m e=>by
  unfold vh;refine bc (fun _=>z) fun q => ?_
  have c:=e q;have i:=qb2 (List.getElem_mem (show 0<l.length by omega))
  have j:=qb2 (List.getElem_mem (show 2<l.length by omega))
  unfold sN;rw[show ak l (0:Int)=some l[0] from ef l 0,show ak l (2:Int)=some l[2] from ef l 2]
  simp only[qB];rw[ES a _,iE a Ta _ _,iE a Ta _ _]
  simp only[qB];have f:∀b,Ok (fun v:(Bs×Bs×Bs)×Bool=>v.1.1.length<=10000/\v.1.2.1.length<=10000/\v.1.2.2.length<=10000) (some ((([]:Bs),(l[0].2,l[2].2)),b)):=fun b=>aw ⟨Te,Tq,Tq⟩
  exact bc (fun _=>bc (fun _=>bp (fun _=>f _) fun _=>f _) fun _=>bc (fun _=>bp (fun _=>f _) fun _=>f _) fun _=>f _) fun _=>f _
 unfold aM;rw[gc];by_cases c:(l.length:Int)≠3
 ·rw[qX c];exact d _ _ Te
 ·rw[qW c];have c:l.length=3:=Ta
  exact ar (cq (k:=1) Ta) fun _ _=>bc (fun _=>d _ _ Te) fun _=>ar (cq (k:=2) Ta) fun _ _=>bc (fun _=>d _ _ Te) fun _=>ar (cq (k:=0) Ta) fun _ _=>bc (fun _=>ar (cq (k:=0) Ta) fun _ _=>d _ _ fun _=>c) fun _=>d _ _ fun _=>c
def iR(k:Nat)(h:k<100000000:=by omega):ae ((k:Int)-1)=(k:Int)-1:=au
def qmf(a:Nat)(b:90000000<=a)(l:List da)(f:bz l<=10000)(k:Nat)(c:k<l.length):Ok dj (Bo a l (k:Int)):=by
 have d:=qg l;have:∀n j:Nat,j<n->j<=l.length->Ok dj (sK a n l ((j:Int)-1)):=by
  intro n
  induction n with
  |zero=>intro k h;omega|succ n ih=>
   intro j h e;rw[sK,GB]
   cases j with
   |zero=>rw[bi];exact aw trivial|succ j=>
    rw[ap,show((j+1:Nat):Int)-1=(j:Int) by omega,iR j]
    exact ar (cq) fun _ _=>bc (fun _=>aw trivial) fun _=>ih j Ta Ta
 unfold Bo;refine ar (cq c) fun _ _=>bc (fun _=>aw trivial) fun _ => ?_
 have:=this a (k+1) Ta Ta
 rwa [show((k+1:Nat):Int)-1=(k:Int) by omega]at this
def qpa(d n:Nat)(g:90000000<=d)(l:List da)(y:bz l<=10000):∀(i:Nat)(c:Bs),l.length-i<n->i<=l.length->c.length<=1001*bz (l.take i)->Ok (fun v=>v.length<=1001*bz l) (sy d n l c (i:Int)):=by
 have z:=qg l
 induction n with
 |zero=>intro i c h;omega|succ n ih=>
  intro i c h I K;rw[sy,Gm];have A:=xh l i;refine bp (fun F => ?_) fun _=>aw Ta
  have e:i<l.length:=Ta
  have s:∀(j f:Nat)(t:Bs),i<=j->j<l.length->bz (l.take i)+f+1<=bz (l.take (j+1))->t.length<=1000*f->Ok (fun v=>v.length<=1001*bz l) (rL d (sy d n) l c (j:Int) t):=fun j f t p o r G=>by
   have w:=xh l (j+1);unfold rL;rw[bj j]
   have a:Ok (fun v=>v.length<=1001*bz l) (bif decide (List.length c+List.length ([32]:Bs)<=bg) then bif decide (List.length (c++([32]:Bs))+List.length t<=bg) then sy d n l ((c++([32]:Bs))++t) ((j+1:Nat):Int) else none else none):=
    bn Ti (bn Tk (ih (j+1) _ Ta Ta Tt))
   have b:Ok (fun v=>v.length<=1001*bz l) (bif decide (List.length c+List.length t<=bg) then sy d n l (c++t) ((j+1:Nat):Int) else none):=
    bn Tl (ih (j+1) _ Ta Ta Tn)
   exact bc (fun _=>a) fun _=>bp (fun _=>bp (fun _=>ar (qmf d g l y j o) fun _ _=>bc (fun _=>a) fun _=>b) fun _=>b) fun _=>b
  have E:=Mr l i e;rw[ef l i e];simp only[qB];refine bc (fun _ => ?_) fun _=>s i l[i].2.length _ (wF _) e Ta Ta
  have C:∀(m j:Nat)(t:Bs),l.length-j<m->i<=j->j<l.length->bz (l.take i)+t.length+1<=bz (l.take (j+1))->Ok (fun v=>v.length<=1001*bz l) (jX d (sy d n) m l c (j:Int) t):=by
   intro m
   induction m with
   |zero=>intro j t h;omega|succ m ihm=>
    intro j t J p o r;have w:=xh l (j+1);rw[jX,Gn,bj j]
    have u:∀b,(b=true->j+1<l.length)->Ok (fun v=>v.length<=1001*bz l) (rM d (sy d n) (jX d (sy d n) m) l c (j:Int) t b):=fun b x=>by
     unfold rM;refine bc (fun q => ?_) fun _=>ar (quc d g t) fun x1 B=>s j t.length x1 p o r B
     have q:=x q;have H:=Mr l (j+1) q;unfold Gq;rw[bj j,ef l (j+1) q,qB]
     exact bn Ti (bn (by simp only[bg,qM,qL,qZ];have:=xh l (j+1+1);omega) (ihm (j+1) _ Ta Ta q Tt))
    exact bp (fun q=>ar (cq (k:=j+1) Ta) fun _ _=>u _ fun _=>Ta) fun _=>u false Te
  exact C d i _ Ta (wF _) e Ta
def Sq(a:Nat)(b:90000000<=a)(l:List da)(c:bz l<=10000:=by omega):Ok (fun v=>v.length<=11000000) (Bh a l):=by
 have:=qg l;exact ma (qpa a a b l c 0 [] Ta Ta Te) fun v d=>Ta
def eC(a:Bs×Bs×Bs):Prop:=a.1.length<=11000000/\a.2.1.length<=10000/\a.2.2.length<=10000
def Sc(a:Nat)(c:90000000<=a)(l:List da)(o:bz l<=10000):Ok (fun v=>eC v.1) (eR a l):=by
 have p:=qg l;have z:Ok (fun v:(Bs×Bs×Bs)×Bool=>eC v.1) (some ((([]:Bs),(([]:Bs),([]:Bs))),false)):=aw ⟨Te,Te,Te⟩
 have:∀n(k:Nat) e,l.length-k<n->Ok (fun v=>eC v.1) (yf a n l (k:Int) e):=by
  intro n
  induction n with
  |zero=>intro k e h;omega|succ n ih=>
   intro k e h;rw[yf,GC];refine bp (fun A => ?_) fun _=>ar (qbl a c l o) fun x d=>aw ⟨Ta,d.2.1,d.2.2⟩
   have f:k<l.length:=Ta
   rw[bj k,iR l.length,ef l k f,qB]
   refine bc (fun _=>ih (k+1) e Ta) fun s => ?_
   rw[show((l.length:Int)-1)=((l.length-1:Nat):Int) by omega,ef l (l.length-1),qB]
   have i:∀b,(b=false->k+1<=l.length-1)->Ok (fun v=>eC v.1) (sL a (yf a n) l (k:Int) b e):=fun b g=>by
    unfold sL;refine bc (fun _=>z) fun q => ?_
    have g:=g q;unfold GD;rw[bj k,iR l.length]
    have B:=xh (List.drop ((k+1:Nat):Int).toNat l) (((l.length:Int)-1).toNat-((k+1:Nat):Int).toNat);have C:=qb1 l ((k+1:Nat):Int).toNat;have u:=xh l (k:Int).toNat;exact bn ⟨Ta,Ta,Ta⟩ (ar (qbl a c _) fun x d=>bn ⟨Ta,Ta⟩ (ar (Sq a c _) fun y r=>aw ⟨r,d.2.1,d.2.2⟩))
   refine bc (fun _=>i true Te) fun t => ?_
   have j:l[k].1=60:=by simpa [bne] using s
   have m:(l[l.length-1]' Ta).1=62:=by simpa [bne] using t
   have u:=xh l (k:Int).toNat;refine bn ⟨Ta,Ta⟩ (ar (qc6 a c _) fun x _=>i _ fun _ => ?_)
   apply Classical.byContradiction;intro q;have w:k=l.length-1:=Ta
   have:l[k].1=(l[l.length-1]' Ta).1:=by congr 2
   rw[j,m]at this;exact absurd this Tf
 exact this a 0 _ Ta
def xA(x:Bs×Bool×List TK):Prop:=x.1.length<=11000000/\x.2.2.length<=20000/\∀a∈x.2.2,eC a
def yu(v:Bool×List TZ):Prop:=v.2.length<=20000/\∀x∈v.2,xA x
def RX(b:Bool):yu (b,[]):=⟨Te,Te⟩
def Lj{α:Type}{P:α->Prop}{l:List α}{x:α}(h:∀y∈l,P y)(b:P x):∀y∈l++[x],P y:=fun y a=>by
 rcases List.mem_append.1 a with a|a
 ·exact h y a
 ·rw[List.mem_singleton]at a;subst a;exact b
def qn7(e n:Nat)(l:90000000<=e)(ps:List (List da))(L:ps.length<=20000)(hp:∀p∈ps,bz p<=10000):∀(i:Nat)(d:List TZ),ps.length-i<n->i<=ps.length->d.length<=i->(∀x∈d,xA x)->Ok yu (nt e n (i:Int) ps d):=by
 induction n with
 |zero=>intro i d h;omega|succ n ih=>
  intro i d h V X F;rw[nt,rF];have z:Ok yu (some (false,[])):=aw (RX _);refine bp (fun R=>bn ⟨Ta,Ta⟩ (ar (E8 (P:=fun p=>bz p<=10000) (k:=(i:Int).toNat) Ta hp) fun p B => ?_)) fun _=>aw ⟨Tq,F⟩
  have K:=qg p;rw[iR p.length]
  have iq:∀x,xA x->Ok yu (bif decide (List.length (d++[x])<=ax) then nt e n (ae ((i:Int)+(1:Int))) ps (d++[x]) else none):=fun x q=>by
   rw[bj i]
   exact bn (rx _ _) (ih (i+1) _ Ta Ta Td (Lj F q))
  have N:∀(g:Bs)(r:List (List da)),g.length<=11000000->r.length<=20000->(∀q∈r,bz q<=10000)->∀(m j:Nat)(f:List (Bs×Bs×Bs)),r.length-j<m->f.length<=j->j<=r.length->(∀a∈f,eC a)->Ok yu (rG e (nt e n) m (i:Int) (j:Int) d ps g r f):=by
   intro g r o T s m
   induction m with
   |zero=>intro j f h;omega|succ m ihm=>
    intro j f J U I t;rw[rG,Gd];refine bp (fun S=>bn ⟨Ta,Ta⟩ (ar (E8 (P:=fun p=>bz p<=10000) (k:=(j:Int).toNat) Ta s) fun q A=>ar (Sc e l q A) fun a w=>fj (fun _=>z) fun _ => ?_)) fun _=>iq _ ⟨o,Tq,t⟩
    rw[bj j]
    exact bn (rx _ _) (ihm (j+1) _ Ta Td Ta (Lj t w))
  have C:∀(k:Nat)(b:Bool)(g:Bs),g.length<=11000000->(b=false->k+1<=p.length-1)->Ok yu (jS e (nt e n) (i:Int) p (k:Int) b d ps g):=fun k b g o u=>by
   unfold jS;refine bc (fun _=>z) fun q => ?_
   have u:=u q;unfold Ge;rw[bj k,iR p.length]
   have O:=xh (List.drop ((k+1:Nat):Int).toNat p) (((p.length:Int)-1).toNat-((k+1:Nat):Int).toNat);have Y:=qb1 p ((k+1:Nat):Int).toNat;generalize List.take (((p.length:Int)-1).toNat-((k+1:Nat):Int).toNat) (List.drop ((k+1:Nat):Int).toNat p)=inn at O ⊢;have H:=qg inn;exact bn ⟨Ta,Ta,Ta⟩ (bp (fun _=>ar (Q5 e l true inn) fun r s=>N g r o Ta (fun q A=>by have:=s.2 q A;omega) e 0 [] Ta Te Ta Te) fun _=>iq _ ⟨o,Te,Te⟩)
  have M:∀(m j:Nat)(c:Int),j<m->j<=p.length->(c = -1\/∃k:Nat,c=(k:Int)/\∃h:k<p.length,p[k].1=58)->Ok yu (xy e (nt e n) m (i:Int) p c ((j:Int)-1) ps d):=by
   intro m
   induction m with
   |zero=>intro j c h;omega|succ m ihm=>
    intro j c J I E;rw[xy,Gc]
    cases j with
    |zero=>
     rw[bi]
     refine bp (fun _=>ar (Sc e l p B) fun a w=>fj (fun _=>z) fun _=>iq _ ⟨Te,Te,fun b u => ?_⟩) fun y => ?_
     ·simp only[List.mem_singleton]at u;subst u;exact w
     ·rcases E with rfl|⟨k,rfl,W,v⟩
      ·exact absurd Tf y
      ·have Z:=xh p (k:Int).toNat;refine bn ⟨Ta,Ta⟩ (ar (Sq e l _) fun g o=>bn ⟨Ta,Ta⟩ (ar (qc6 e l _) fun x _=>fj (fun _=>C k true g o Te) fun _=>bc (fun _=>C k true g o Te) fun _ => ?_))
       rw[iR p.length,show((p.length:Int)-1)=((p.length-1:Nat):Int) by omega,ef p (p.length-1),qB]
       refine C k _ g o fun q => ?_
       have G:(p[p.length-1]' Ta).1=59:=by simpa [bne] using q
       apply Classical.byContradiction;intro q;have Q:k=p.length-1:=Ta
       have:p[k].1=(p[p.length-1]' Ta).1:=by congr 2
       rw[v,G]at this;exact absurd this Tf
    |succ j=>
     rw[ap,show((j+1:Nat):Int)-1=(j:Int) by omega,ef p j,qB]
     unfold Bf;rw[iR j]
     exact bc (fun q=>ihm j _ Ta Ta (.inr ⟨j,rfl,Ta,by simpa using q⟩)) fun _=>ihm j _ Ta Ta E
  exact M e p.length (-1) Ta (wF _) (.inl rfl)
def qn8(a:Nat)(c:90000000<=a)(s:Bs)(g:s.length<=4000:=by omega):Ok yu (jQ a s):=by
 unfold jQ;refine ar (qtw a c s g) fun x j => ?_
 have i:=qg x.2;have d:∀b,Ok yu (jR a x.1 b x.2):=fun b=>by
  unfold jR Be;exact bc (fun _=>aw (RX _)) fun _=>ar (Q5 a c false x.2) fun h e=>qn7 a a c h Ta (fun p f=>by have:=e.2 p f;omega) 0 [] Ta Ta Te Te
 exact fj (fun _=>d _) fun _=>d _
def QF(a:Nat)(b:90000000<=a)(s:Bs):Ok dj (ye a s):=by
 unfold ye;refine bp (fun _=>aw trivial) fun h => ?_
 rw[Me a Ta s,qB]
 exact bc (fun _=>aw trivial) fun _=>aw trivial
def jr(l d:Bs):Bs:=bif f6 dk true l then(l++[64])++d else((34::(dn l++[34]))++[64])++d
def tz(s:Bs):Prop:=∃l d,kh l=true/\iu d=true/\s=jr l d
def nD(s:Bs):(dn s).length<=3*s.length:=by
 have c:=List.count_le_length (a:=(92:UInt8)) (l:=s);have d:=List.count_le_length (a:=(34:UInt8)) (l:=s);have:(dn s).length=_:=nE (a:=92) (b:=34) Tf 92 92 92 34 s
 unfold jl at this;omega
def Mm(l d:Bs):(jr l d).length<=3*l.length+d.length+3:=by
 have:=nD l;unfold jr;cases f6 dk true l<;>simp only[qT,qF,qM,qL,qZ]<;>omega
def gT{s:Bs}(h:kh s=true):s.length<=60:=by
 unfold kh at h;simp only[qA,decide_eq_true_iff]at h;exact h.1.2
def gM{s:Bs}(h:iu s=true):s.length<=60:=by
 unfold iu at h;simp only[qA,decide_eq_true_iff]at h;exact h.1
def qsu{s:Bs}(h:tz s):s.length<=243:=by
 obtain⟨l,d,b,a,rfl⟩:=h;have c:=gT b;have e:=gM a;have:=Mm l d;omega
def PK(a:Nat)(b:90000000<=a)(n l d:Bs)(c:l.length<=100000:=by omega)(e:d.length<=100000:=by omega):kS a (n,(l,d))=some (jr l d):=by
 have:=nD l;unfold kS jr;rw[qln a b l c,qB];cases f6 dk true l
 ·rw[qF,qF,(SW l c).1,qB,ap Tk,ap Tk]
 ·rw[qT,qT,ap Ti,ap Tk]
def QR(c:UInt8)(w:Bs):dn (c::w)=(bif c==34||c==92 then[92,c] else[c])++dn w:=by
 show gf 92 34 [92,92] [92,34] (c::w)=_;unfold gf;rw[List.flatMap_cons];congr 1;unfold n6;by_cases a:c=92
 ·subst a;rfl
 ·by_cases b:c=34
  ·subst b;rfl
  ·have d:(c==92)=false:=by simpa using a
   have e:(c==34)=false:=by simpa using b
   simp only[a,b,if_false,d,e,Bool.or_self,qF]
def DE(a:Bs)(c:UInt8)(r:Bs)(h:a.length<100000000:=by omega):List.take ((ae ((a.length:Int)+(1:Int))).toNat-(a.length:Int).toNat) (List.drop (a.length:Int).toNat (a++c::r))=[c]:=by
 rw[bj _,show((a.length+1:Nat):Int).toNat-(a.length:Int).toNat=1 by omega,show(a.length:Int).toNat=a.length by omega,List.drop_left];rfl
def qro(g n:Nat):∀(e d a:Bs),d.length<n->e.length+d.length<=100000->a.length<=1+3*e.length->jY g n (e++d) a (e.length:Int)=some (a++(dn d++[34])):=by
 induction n with
 |zero=>intro e d a h;omega|succ n f=>
  intro e d a h i k;rw[jY,Gu]
  cases d with
  |nil=>
   simp only[qZ]at i;rw[bi,ap Ti];rfl
  |cons c d=>
   simp only[qL]at h i;have f:=fun a=>f (e++[c]) d a Ta Td
   simp only[qM,qL,qZ,qS,wM,wO]at f;rw[ap Th,gh]
   simp only[qB];have j:∀b,rP g (jY g n) (e++c::d) a (e.length:Int) b=some (a++(((bif b then[92,c] else[c])++dn d)++[34])):=fun b=>by
    unfold rP;rw[DE e c d,bj _]
    cases b
    ·rw[qF,ap ⟨Ta,Ta,Th⟩,ap Ti,f _ Td]
     simp
    ·rw[qT,ap Ti,ap ⟨Ta,Ta,Th⟩,ap Tk,f _ Td]
     simp
   rw[j,j,QR];cases c==34<;>rfl
def qrn(a:Nat)(s:Bs)(h:s.length<a)(b:s.length<=100000):Gt a s=some (34::(dn s++[34])):=by
 have:=qro a a [] s [34] h (by simpa using b) Te
 exact this
def qax(a:Nat)(b:90000000<=a)(n l d:Bs)(c:l.length<=100000:=by omega)(e:d.length<=100000:=by omega):Bk a (n,(l,d))=some (jr l d):=by
 have:=nD l;unfold Bk jr;rw[iE a Ta l false,qB]
 simp only[wJ,if_false];cases f6 dk true l
 ·rw[qF,qF,qrn a l Ta c,qB,ap Tk,ap Tk]
 ·rw[qT,qT,ap Ti,ap Tk]
def DO{p:UInt8->Bool}:∀{s:Bs}{e:Bool},f6 p e s=true->(e=true->s≠[])/\∀c∈s,p c=true\/c=46
 |[],true,h=>by cases h
 |[],false,h=>⟨(fun q=>by cases q),fun c b=>by cases b⟩
 |c::s,e,h=>by
  refine⟨fun _=>List.cons_ne_nil _ _,fun d a => ?_⟩
  rw[f6]at h;by_cases q:c=46
  ·subst q;rw[show((46:UInt8)==46)=true from rfl,qT,qA]at h
   rcases List.mem_cons.1 a with rfl|a
   ·exact .inr rfl
   ·exact(DO h.2).2 d a
  ·rw[show(c==46)=false by simpa using q,qF,qA]at h
   rcases List.mem_cons.1 a with rfl|a
   ·exact .inl h.1
   ·exact(DO h.2).2 d a
def qus{c:UInt8}(h:dk c=true\/c=46):d8 c=true:=by
 rcases h with h|rfl
 ·exact PP h
 ·exact Fv
def quq{c:UInt8}(h:kg c=true\/c=46):d8 c=true:=by
 rcases h with h|rfl
 ·exact QH h
 ·exact Fv
def qup:∀n:_root_.Fin 256,d8 (UInt8.ofNat n.val)=true->bl (UInt8.ofNat n.val)=false/\(UInt8.ofNat n.val==40)=false/\(UInt8.ofNat n.val==34)=false:=by decide +kernel
def qur{c:UInt8}(h:d8 c=true):bl c=false/\(c==40)=false/\(c==34)=false:=qx (fun c=>d8 c=true->bl c=false/\(c==40)=false/\(c==34)=false) qup c h
def qt3(e:Nat)(n:90000000<=e)(r0:Bs->Int->List da->Option (Bool×List da))(R:Bs)(k:∀c r,R=c::r->d8 c=false)(d:List da)(p:d.length<=1000)(m:Nat):∀(b w a:Bs),w.length<m->b.length+w.length+R.length<=100000->a.length<=b.length->(∀c∈w,d8 c=true) ->
  nq e r0 m (b++(w++R)) (b.length:Int) a d=r0 (b++(w++R)) ((b.length+w.length:Nat):Int) (d++[(119,a++w)]):=by
 induction m with
 |zero=>intro b w a h;omega|succ m ih=>
  intro b w a h l i j;rw[nq,pU]
  cases w with
  |nil=>
   have g:qk e r0 (nq e r0 m) (b++([]++R)) (b.length:Int) a false d=r0 (b++([]++R)) ((b.length+([]:Bs).length:Nat):Int) (d++[(119,a++[])]):=by
    unfold qk;rw[am rfl,ap (rx _ _)];simp
   cases R with
   |nil=>rw[bi];exact g|cons c R=>
    have f:=k c R rfl;unfold d8 at f;rw[Bool.or_eq_false_iff]at f;rw[ap Th,List.nil_append,gh,qB,bV e Ta,qB,f.1,qF,qB,f.2]
    exact g
  |cons c w=>
   simp only[qL]at h l;rw[wK,ap Th,gh,qB,bV e Ta,qB]
   have g:qk e r0 (nq e r0 m) (b++c::(w++R)) (b.length:Int) a true d=r0 (b++c::(w++R)) ((b.length+(c::w).length:Nat):Int) (d++[(119,a++c::w)]):=by
    unfold qk pV;rw[aq rfl,DE b c _,bj _,ap ⟨Ta,Ta,Th⟩,ap Ti]
    have:=ih (b++[c]) w (a++[c]) Ta Td Td (fun x o=>j x (qE _ o))
    simp only[qM,qL,qZ,qS,wM,wO]at this;rw[this,qL,show b.length+1+w.length=b.length+(w.length+1) by omega]
   have f:=j c qH;unfold d8 at f;cases i:dk c
   ·rw[i,Bool.false_or]at f;rw[qF,qB,f];exact g
   ·exact g
def qci(d:Nat)(g:90000000<=d)(n:Nat)(b w R:Bs)(a:List da)(i:∀c∈w,d8 c=true)(o:w≠[])(p:∀c r,R=c::r->d8 c=false)(h:b.length+w.length+R.length<=100000)(s:a.length<=1000) :
  dp d (n+1) (b++(w++R)) (b.length:Int) a=dp d n (b++(w++R)) ((b.length+w.length:Nat):Int) (a++[(119,w)]):=by
 have e:=qt3 d g (dp d n) R p a s d b w [] Ta h Te i
 rw[dp,eD]
 cases w with
 |nil=>exact absurd rfl o|cons c w=>
  simp only[qL]at h;have f:=i c qH;obtain⟨k,l,m⟩:=qur f;rw[ap Th,wK,gh,qB,nY,qB,k,l,m,bV d Ta,qB]
  simp only[qF];rw[wK]at e;have j:aD d (dp d n) (b++c::(w++R)) (b.length:Int) c true a=dp d n (b++c::(w++R)) ((b.length+(c::w).length:Nat):Int) (a++[(119,c::w)]):=by
   unfold aD;rw[aq rfl,e];rfl
  unfold d8 at f;cases q:dk c
  ·rw[q,Bool.false_or]at f;rw[qF,f];exact j
  ·exact j
def qtt(c:Nat)(d:90000000<=c)(n:Nat)(b R:Bs)(a:List da)(e:b.length+R.length<=100000:=by omega)(f:a.length<=1000:=by omega) :
  dp c (n+1) (b++64::R) (b.length:Int) a=dp c n (b++64::R) ((b.length+1:Nat):Int) (a++[(64,[])]):=by
 rw[dp,eD];rw[ap Th,gh,qB,nY,qB,show bl 64=false from rfl,show((64:UInt8)==40)=false from rfl,show((64:UInt8)==34)=false from rfl,bV c Ta,qB,show dk 64=false by decide +kernel]
 simp only[qF];unfold aD;rw[show((64:UInt8)==46)=false from rfl,am rfl,L6 c _ _ Td Te,qB,aq Tf,ap (rx _ _),bj _]
def qty(e:Nat)(j:90000000<=e)(r0:Bs->Int->List da->Option (Bool×List da))(R:Bs)(d:List da)(n:d.length<=1000)(m:Nat):∀(b w a:Bs),w.length<m->b.length+3*w.length+R.length<=100000->a.length<=b.length ->
  sw e r0 m (b++(dn w++34::R)) (b.length:Int) a d=r0 (b++(dn w++34::R)) ((b.length+(dn w).length+1:Nat):Int) (d++[(113,a++w)]):=by
 induction m with
 |zero=>intro b w a h;omega|succ m ih=>
  intro b w a h i l;rw[sw,AS]
  cases w with
  |nil=>
   rw[show dn []=[] from rfl,List.nil_append,ap Th,gh,qB,show((34:UInt8) != 34)=false from rfl]
   unfold aE;rw[am rfl,bi Th,ap (rx _ _),bj _]
   simp
  |cons c w=>
   simp only[qL]at h i;have q:=nD w;rw[QR];have f:∀(p:Bs),p.length<=b.length+1->eG e r0 (sw e r0 m) (p++c::(dn w++34::R)) (p.length:Int) a d=sw e r0 m (p++c::(dn w++34::R)) ((p.length+1:Nat):Int) (a++[c]) d:=fun p o=>by
    unfold eG;rw[DE p c _,bj _,ap ⟨Ta,Ta,Th⟩,ap Ti]
   cases g:(c==34||c==92)
   ·rw[Bool.or_eq_false_iff]at g;rw[qF,wM,wK,ap Th,gh,qB,show(c != 34)=true by rw[bne,g.1];rfl]
    unfold aE pY;rw[aq rfl,gh,qB,g.2,qF];unfold jI;rw[am rfl,f b Ta]
    have:=ih (b++[c]) w (a++[c]) Ta Td Td
    simp only[qM,qL,qZ,qS,wM,wO]at this;rw[this];simp only[qL];congr 1;omega
   ·have k:(c==34||c==92)=true:=g;simp only[qT,wK,List.nil_append];rw[ap Th,gh,qB,show((92:UInt8) != 34)=true from rfl]
    unfold aE pY;rw[aq rfl,gh,qB,show((92:UInt8)==92)=true from rfl,qT,bj _]
    unfold jI;rw[aq (by rw[decide_eq_true_iff];simp only[qM,qL];omega),bj _]
    have:=f (b++[92]) Te
    simp only[qM,qL,qZ,qS,wM,wO]at this;rw[this];have:=ih (b++[92,c]) w (a++[c]) Ta Td Td
    simp only[qM,qL,qZ,qS,wM,wO,wK,List.nil_append]at this ⊢;rw[this];congr 1;omega
def qtv(c:Nat)(d:90000000<=c)(n:Nat)(b w R:Bs)(a:List da)(f:b.length+1+3*w.length+R.length<=100000)(e:a.length<=1000) :
  dp c (n+1) (b++34::(dn w++34::R)) (b.length:Int) a=dp c n (b++34::(dn w++34::R)) ((b.length+1+(dn w).length+1:Nat):Int) (a++[(113,w)]):=by
 have g:=nD w;rw[dp,eD];rw[ap Th,gh,qB,nY,qB,show bl 34=false from rfl,show((34:UInt8)==40)=false from rfl,show((34:UInt8)==34)=true from rfl]
 simp only[qF,qT];have:=qty c d (dp c n) R a e c (b++[34]) w [] Ta Td Te
 simp only[qM,qL,qZ,qS,wM,wO,List.nil_append]at this;rw[bj _,this]
def gl(l d:Bs):List da:=[((bif f6 dk true l then 119 else 113),l),(64,[]),(119,d)]
def qtx(a:Nat)(e:90000000<=a)(l d:Bs)(p:l.length<=60)(i:iu d=true):pT a (jr l d)=some (true,gl l d):=by
 have u:=gM i;have x:=nD l;unfold iu at i;rw[qA]at i;obtain⟨j,k⟩:=DO i.2;have j:=j rfl;have k:∀c∈d,d8 c=true:=fun c m=>quq (k c m)
 obtain⟨n,rfl⟩:∃n,a=n+1+1+1+1:=⟨a-4,Ta⟩
 unfold pT jr gl;generalize o:n+1+1+1+1=a at e;have h:∀(g:Bs)(b:List da),g.length<=1000->b.length<=10->dp a (n+1+1+1) ((g++[64])++d) (g.length:Int) b=some (true,b++[(64,[]),(119,d)]):=fun g b w v=>by
  rw[qS,wM,qtt a e _ g d b]
  have:=qci a e (n+1) (g++[64]) d [] (b++[(64,[])]) k j (fun c r q=>by cases q) Td Td
  rw[List.append_nil,qS,wM,qM,wD]at this;rw[this,dp,eD,bi Th]
  simp
 cases p:f6 dk true l
 ·rw[qF,qF];have:=qtv a e (n+1+1+1) [] l ([64]++d) [] Td Te
  simp only[List.nil_append,qZ,wO]at this;rw[show(34::(dn l++[34])++[64])++d=34::(dn l++34::([64]++d)) by simp]
  rw[show dp a a=dp a (n+1+1+1+1) by rw[o]]
  refine Eq.trans this ?_;have f:=h (34::(dn l++[34])) [(113,l)] Td Te
  rw[show(34::(dn l++[34])++[64])++d=34::(dn l++34::([64]++d)) by simp]at f
  refine Eq.trans ?_ f;congr 2;simp only[qL,qM,qZ];omega
 ·rw[qT,qT];obtain⟨s,t⟩:=DO p;have:=qci a e (n+1+1+1) [] l ([64]++d) [] (fun c m=>qus (t c m)) (s rfl) (fun c r q=>by injection q with q _;subst q;decide +kernel) Td Te
  simp only[List.nil_append,qZ,wO]at this;rw[show dp a a=dp a (n+1+1+1+1) by rw[o],qS]
  refine Eq.trans this ?_;have f:=h l [(119,l)] Ta Te
  rw[qS]at f;exact f
def lQ(x:Bs×Bool×List TK):Prop:=(x.2.1=false->x.2.2.length=1)/\∀a∈x.2.2,kh a.2.1=true/\iu a.2.2=true
def qh1(b:Nat)(c:90000000<=b)(a:Bs×Bs×Bs)(h:eC a):Ok (fun f=>f.1=0->kh a.2.1=true/\iu a.2.2=true) (jH b a):=by
 obtain⟨_,k,l⟩:=h;unfold jH;rw[ES b _,iE b Ta _ _]
 simp only[if_true];obtain⟨d,g,_⟩:=QF b c a.1;rw[g];simp only[qB];refine bc (fun q=>⟨_,rfl,fun e => ?_⟩) fun _=>fj (fun _=>⟨_,rfl,fun q=>absurd q Tf⟩) fun i=>bp (fun _=>⟨_,rfl,fun q=>absurd q Tf⟩) fun m=>fj (fun _=>⟨_,rfl,fun q=>absurd q Tf⟩) fun j=>aw fun _=>⟨i,?_⟩
 ·simp only[]at e;rw[e]at q;exact absurd q Tf
 ·unfold iu;rw[j,decide_eq_true (show a.2.2.length<=60 by omega)];rfl
def qn0(c n:Nat)(r:90000000<=c)(l:List TZ)(L:l.length<=20000)(F:∀x∈l,xA x)(z:Int×Int):∀k:Nat,l.length-k<n->k<=l.length->Ok (fun f=>f.1=0->∀x∈l.drop k,lQ x) (nr c n l (k:Int) z):=by
 induction n with
 |zero=>intro k h;omega|succ n ih=>
  intro k h K;rw[nr,rD];refine bp (fun H => ?_) fun _=>aw fun _=>by rw[List.drop_eq_nil_of_le Ta];simp
  have g:k<l.length:=Ta
  rw[ef l k g,qB,List.drop_eq_getElem_cons g];have i:=F l[k] (List.getElem_mem g);generalize l[k]=x at i ⊢;obtain⟨I,E,A⟩:=i;have u:∀b,(b=false->(x.2.1=false->x.2.2.length=1))->Ok (fun f:Int×Int=>f.1=0->∀y∈x::l.drop (k+1),lQ y) (sx c (nr c n) l (k:Int) b z x):=fun b w=>by
   unfold sx;refine bc (fun _=>⟨_,rfl,fun q=>by simp at q⟩) fun q => ?_
   have w:=w q;unfold Bd;have G:∀m j:Nat,x.2.2.length-j<m->j<=x.2.2.length->(∀a∈x.2.2.take j,kh a.2.1=true/\iu a.2.2=true)->Ok (fun f:Int×Int=>f.1=0->∀y∈x::l.drop (k+1),lQ y) (vf c (nr c n) m l (k:Int) (j:Int) z x):=by
    intro m
    induction m with
    |zero=>intro j h;omega|succ m ihm=>
     intro j M J v;rw[vf,rE];refine bp (fun B => ?_) fun B => ?_
     ·have e:j<x.2.2.length:=Ta
      rw[ef _ j e,qB,bj j]
      refine ar (qh1 c r _ (A _ (List.getElem_mem e))) fun f p=>bc (fun q=>⟨_,rfl,fun s => ?_⟩) fun q=>ihm (j+1) Ta Ta ?_
      ·simp only[]at s;rw[s]at q;exact absurd q Tf
      ·have p:=p (by simpa [bne] using q)
       rw[List.take_add_one,List.getElem?_eq_getElem e];exact Lj v p
     ·rw[bj k]
      refine ma (ih (k+1) Ta Ta) fun f p q => ?_
      intro y i;rcases List.mem_cons.1 i with rfl|i
      ·rw[List.take_of_length_le Ta]at v
       exact⟨w,v⟩
      ·exact p q y i
   exact G c 0 Ta Ta Te
  obtain⟨d,C,_⟩:=QF c r x.1;rw[C];simp only[qB];refine bc (fun q=>⟨_,rfl,fun s => ?_⟩) fun _=>bc (fun t=>bc (fun _=>u true Te) fun _=>fj (fun o=>by rw[t]at o;cases o) fun _=>u false fun _ q=>by rw[t]at q;cases q) fun t=>fj (fun _=>fj (fun _=>u true Te) fun _=>u _ fun q _ => ?_) fun o=>by rw[t]at o;cases o
  ·simp only[]at s;rw[s]at q;exact absurd q Tf
  ·have:(x.2.2.length:Int)=1:=by simpa [bne] using q
   omega
def qn1(a:Nat)(d:90000000<=a)(l:List TZ)(g:l.length<=20000)(i:∀x∈l,xA x):Ok (fun f=>f.1=0->∀x∈l,lQ x) (rB a l):=by
 have e:∀b z,Ok (fun f=>f.1=0->∀x∈l,lQ x) (jP a l b z):=fun b z=>by
  unfold jP Bc;refine bc (fun _=>⟨_,rfl,fun q=>absurd q Tf⟩) fun _ => ?_
  have:=qn0 a a d l g i z 0 Ta Ta
  simpa using this
 have j:∀(n k:Nat)(c:Int) z,l.length-k<n->Ok (fun f=>f.1=0->∀x∈l,lQ x) (aH a n l c (k:Int) z):=by
  intro n
  induction n with
  |zero=>intro k c z h;omega|succ n ih=>
   intro k c z h;rw[aH,rC];refine bp (fun m=>ar (cq (k:=k) Ta) fun x _ => ?_) fun _=>bp (fun _=>e _ _) fun _=>e _ _
   rw[bj k]
   exact ih (k+1) _ z Ta
 exact j a 0 0 _ Ta
def QG(a:Nat)(b:90000000<=a):ye a []=some 0:=by
 unfold ye;rw[bi,Me a Ta [] Td Te,qB,show Lib.validD []=true by rfl]
 rfl
def qh0(a:Nat)(c:90000000<=a)(l d:Bs)(e:kh l=true)(b:iu d=true):jH a ([],(l,d))=some (0,0):=by
 have f:=gT e;have g:=gM b;unfold iu at b;rw[qA]at b;unfold jH;dsimp only;rw[QG a c,qB,am,ES a _,qB,e,am,bi,iE a Ta _ _,qB,qX rfl,b.2,am]
abbrev dt(l d:Bs):Bs×Bool×List TK:=([],(false,[([],(l,d))]))
def qnz(c:Nat)(e:90000000<=c)(l d:Bs)(j:kh l=true)(i:iu d=true):rB c [dt l d]=some (0,0):=by
 have a:=qh0 c e l d j i;have b:=QG c e;obtain⟨n,f⟩:∃n,c=n+1+1:=⟨c-2,Ta⟩
 have k:∀F:Nat->Nat->List (Bs×Bool×List (Bs×Bs×Bs))->Int->Int->(Int×Int)->Option (Int×Int),F c c=F c (n+1+1):=fun F=>by rw[← f]
 unfold rB;rw[k aH];have g:nr c (n+1+1) [dt l d] 0 (0,0)=some (0,0):=by
  rw[nr,rD,ap,show ak [dt l d] (0:Int)=some (dt l d) from rfl,qB]
  dsimp only[dt];rw[b];simp only[qB];rw[am,am rfl,aq,am]
  unfold sx Bd;rw[am]
  have h:vf c (nr c (n+1)) (n+1+1) [dt l d] 0 0 (0,0) (dt l d)=some (0,0):=by
   rw[vf,rE,ap (by simp[dt]),show ak (dt l d).2.2 (0:Int)=some ([],(l,d)) from rfl,qB,a,qB,am,show ae ((0:Int)+1)=1 from rfl,vf,rE,bi (by simp[dt]),show ae ((0:Int)+1)=1 from rfl,nr,rD,bi]
  rw[show vf c (nr c (n+1)) c=vf c (nr c (n+1)) (n+1+1) by rw[← f]]
  exact h
 rw[aH,rC,ap,show ak [dt l d] (0:Int)=some (dt l d) from rfl,qB,aH,rC,bi (by rw[show ae ((0:Int)+1)=1 from rfl];simp),bi]
 unfold jP;rw[show(decide ((60:Int)<ae (0+((dt l d).2.2.length:Int))))=false from rfl,am rfl]
 unfold Bc;rw[show nr c c=nr c (n+1+1) by rw[← f]]
 exact g
def qrp(a:Nat)(g:90000000<=a)(l d:Bs)(c:kh l=true)(b:iu d=true):aM a (gl l d)=some (([],(l,d)),true):=by
 have i:=gT c;have j:=gM b;unfold iu at b;rw[qA]at b;have h:∀z,sN a (gl l d) z=some (([],(l,d)),true):=fun z=>by
  unfold sN;rw[show ak (gl l d) (0:Int)=some ((bif f6 dk true l then 119 else 113),l) from rfl,show ak (gl l d) (2:Int)=some (119,d) from rfl]
  simp only[qB];rw[ES a _,qB,c,qT,iE a Ta _ _,iE a Ta _ _,qX rfl,b.2,ap]
  simp only[wJ,if_false,qB];cases f6 dk true l<;>rfl
 unfold aM;have f:ak (gl l d) (0:Int)=some ((bif f6 dk true l then 119 else 113),l):=rfl
 rw[am,show ak (gl l d) (1:Int)=some (64,[]) from rfl,qB,am,show ak (gl l d) (2:Int)=some (119,d) from rfl,qB,am,f]
 simp only[qB];have e:∀z,vh a (gl l d) false z=some (([],(l,d)),true):=fun z=>by
  unfold vh;rw[am rfl];exact h z
 cases f6 dk true l
 ·exact e ([],([],[]))
 ·exact e ([],([],[]))
def qn9(a:Nat)(b:90000000<=a)(l d:Bs)(g:kh l=true)(f:iu d=true):jQ a (jr l d)=some (true,[dt l d]):=by
 have h:=gT g;have sp:=qrp a b l d g f;obtain⟨n,e⟩:∃n,a=n+1+1+1+1:=⟨a-4,Ta⟩
 have j:eR a (gl l d)=some (([],(l,d)),true):=by
  unfold eR;rw[show yf a a=yf a (n+1+1+1+1) by rw[← e]]
  have:yf a (n+1+1+1+1) (gl l d) 0 ([],([],[]))=(aM a (gl l d)).bind fun x4=>some x4:=by
   unfold gl;cases f6 dk true l<;>rfl
  rw[this,sp];rfl
 have i:kC a (gl l d) false=some [gl l d]:=by
  unfold kC;rw[show qn a a=qn a (n+1+1+1+1) by rw[← e]]
  unfold gl;cases f6 dk true l<;>rfl
 unfold jQ;rw[qtx a b l d h f,qB,am]
 unfold jR;rw[am]
 unfold Be;dsimp only;rw[i,qB];have k:∀c,xy a c (n+1+1+1+1) 0 (gl l d) (-1) 2 [gl l d] []=c 1 [gl l d] [dt l d]:=fun c=>by
  have:xy a c (n+1+1+1+1) 0 (gl l d) (-1) 2 [gl l d] []=(eR a (gl l d)).bind fun x2=>bif !x2.2 then some (false,[]) else bif decide (List.length (([]:List (Bs×Bool×List (Bs×Bs×Bs)))++([(([]:Bs),(false,([x2.1]:List (Bs×Bs×Bs))))]:List (Bs×Bool×(List (Bs×Bs×Bs)))))<=ax) then c (ae (0+(1:Int))) [gl l d] ([]++([(([]:Bs),(false,([x2.1]:List (Bs×Bs×Bs))))]:List (Bs×Bool×(List (Bs×Bs×Bs))))) else none:=by
   unfold gl;cases f6 dk true l<;>rfl
  rw[this,j,qB,am,ap (rx _ _ Te)];rfl
 rw[show nt a a=nt a (n+1+1+1+1) by rw[← e],nt,rF,ap,ap ⟨Tf,Te⟩,show([gl l d])[(0:Int).toNat]? = some (gl l d) from rfl,qB,show ae (((gl l d).length:Int)-1)=2 from rfl]
 rw[show xy a (nt a (n+1+1+1)) a=xy a (nt a (n+1+1+1)) (n+1+1+1+1) by rw[← e],k]
 rw[nt,rF,bi]
def qnx(b:Nat)(a:90000000<=b){s:Bs}(hp:tz s):pm b s=some true:=by
 have f:=qsu hp;obtain⟨l,d,e,c,rfl⟩:=hp;have g:=gT e;have h:=gM c;unfold pm;rw[bi,qn9 b a l d e c,qB,aq rfl,qnz b a l d e c,qB,aq,aq,ap ⟨Tf,Te⟩,show([dt l d])[(0:Int).toNat]? = some (dt l d) from rfl,qB,aq,ap ⟨Tf,Te⟩,qB,show ak (dt l d).2.2 (0:Int)=some ([],(l,d)) from rfl,qB,aq,ap ⟨Tf,Te⟩,qB]
 rw[show ak (dt l d).2.2 (0:Int)=some ([],(l,d)) from rfl,qB,qax b a [] l d,qB]
 simp
def qny(e:Nat)(c:90000000<=e)(s:Bs):Ok (fun b=>b=true↔tz s) (pm e s):=by
 by_cases h:tz s
 ·exact⟨true,qnx e c h,fun _=>h,fun _=>rfl⟩
 ·have g:Ok (fun b=>b=true↔tz s) (some false):=aw ⟨fun q=>(by cases q),fun q=>absurd q h⟩
  unfold pm;refine bp (fun _=>g) fun C=>ar (qn8 e c s) fun x k=>bc (fun _=>ar (qn1 e c x.2 k.1 k.2) fun f j=>bc (fun v=>bc (fun z => ?_) fun _=>g) fun _=>g) fun _=>g
  have j:=j (by simpa using v)
  have t:x.2.length=1:=by
   have:(x.2.length:Int)=1:=by simpa using z
   omega
  obtain⟨y,m⟩:∃y,x.2=[y]:=by
   match x.2,t with|[w],_=>exact⟨w,rfl⟩
  have B:=k.2 y (by rw[m];simp)
  have r:=j y (by rw[m];simp)
  rw[m,ap ⟨Tf,Te⟩,show([y])[(0:Int).toNat]? = some y from rfl]
  simp only[qB];refine fj (fun A=>bn ⟨Tf,Te⟩ ?_) fun _=>g
  have u:=r.1 A;obtain⟨a,i⟩:∃a,y.2.2=[a]:=by
   match y.2.2,u with|[w],_=>exact⟨w,rfl⟩
  have o:=B.2.2 a (by rw[i];simp)
  have p:=r.2 a (by rw[i];simp)
  rw[i,show ak [a] (0:Int)=some a from rfl]
  simp only[qB];refine bc (fun _=>bn ⟨Tf,Te⟩ ?_) fun _=>g
  obtain⟨n,l,d⟩:=a;rw[qax e c n l d (by have:=o.2.1;simp only at this;omega) (by have:=o.2.2;simp only at this;omega),qB]
  exact aw ⟨fun q=>⟨l,d,p.1,p.2,(beq_iff_eq.1 q).symm⟩,fun q=>absurd q h⟩
def rm:90000000<=FU:=Tf
def Kl:vl []=some 0:=by
 unfold vl vy;rw[bi,ap,qB,show Lib.validD []=true by rfl];rfl
def que(l d:Bs)(b:kh l=true)(a:iu d=true):aU FU ([],(l,d))=some (0,0):=by
 unfold aU;dsimp only;rw[Kl,qB,am,Lb FU rm,qB,b,am,Kn FU rm,qB,a,am]
 rfl
def Qs(l d:Bs)(h:kh l=true)(f:iu d=true):aR FU [dt l d]=some (0,0):=by
 have i:=que l d h f;have g:aW FU (dt l d)=some 0:=by
  have c:vn FU (99999998+1+1) [([],(l,d))] 1 0=some 0:=by
   rw[vn,kO,ap Tf,show ak [(([]:Bs),(l,d))] (0:Int)=some ([],(l,d)) from rfl,qB,i,qB,o5,qB,am,show ae ((0:Int)+1)=1 from rfl,vn,kO,bi Tf]
  have a:qp FU false (dt l d)=some 0:=by
   unfold qp tQ;rw[am rfl];exact c
  unfold aW;rw[show(dt l d).1=[] from rfl,Kl,qB,am,am,aq]
  exact a
 have e:vk FU (99999998+1+1) [dt l d] 1 0 (0,0)=some (0,0):=by
  rw[vk,kK,ap Tf,show ak [dt l d] (0:Int)=some (dt l d) from rfl,qB,g,qB,am,show ae ((0:Int)+1)=1 from rfl,vk,kK,bi Tf]
  rfl
 have b:vj FU [dt l d] false (0,0)=some (0,0):=by
  unfold vj tP;rw[am rfl];exact e
 have a:vi FU (99999998+1+1) [dt l d] 0 [dt l d] 1 0 (0,0)=some (0,0):=by
  rw[vi,kJ,ap Tf,show ak [dt l d] (0:Int)=some (dt l d) from rfl,qB,show ae ((0:Int)+1)=1 from rfl,vi,kJ,bi Tf,bi]
  exact b
 exact a
def SN(l d:Bs)(f:kh l=true)(c:iu d=true):kM FU [dt l d]=some (jr l d,(0,0)):=by
 have i:=gT f;have j:=gM c;have k:=Mm l d;have b:BH FU ([],(l,d))=some (jr l d):=by
  unfold BH;rw[aq,PK FU rm [] l d];rfl
 have e:kz [jr l d] [44,32]=some (jr l d):=by
  unfold kz;rw[Lib.join_one,ap ⟨Te,Ta⟩]
 have a:aS FU (99999998+1) [dt l d] 1 1 (0,0) [jr l d]=some (jr l d,(0,0)):=by
  rw[aS,BF,bi,e,qB,bi];rfl
 have h:kN FU (aS FU (99999998+1)) (99999998+1+1) [dt l d] 1 0 [([],(l,d))] 1 0 (0,0) (dt l d) [] []=some (jr l d,(0,0)):=by
  rw[kN,BG,ap,show ak [(([]:Bs),(l,d))] (0:Int)=some ([],(l,d)) from rfl,qB,b,qB,ap TB]
  rw[show ae ((0:Int)+1)=1 from rfl,kN,BG,bi,List.nil_append,e,qB,am]
  unfold Ha Hb;rw[ap TB,show ae ((0:Int)+1)=1 from rfl,List.nil_append]
  exact a
 have g:aS FU (99999998+1+1) [dt l d] 1 0 (0,0) []=some (jr l d,(0,0)):=by
  rw[aS,BF,ap,show ak [dt l d] (0:Int)=some (dt l d) from rfl,qB]
  exact h
 unfold kM;rw[Qs l d f c,qB,o5,qB,am]
 exact g
def qp4(l d:Bs)(c:kh l=true)(b:iu d=true):eZ FU (jr l d)=some ([dt l d],(0,0)):=by
 have g:lU ([],(l,d)):=⟨Kl,by rw[Lb FU rm,c],by rw[Kn FU rm,b]⟩
 have i:=gT c;have j:=gM b;have k:=Mm l d;obtain⟨q,h,f,_,a⟩:=qsv _ g;rw[PK FU rm [] l d]at f
 have e:=qJ f;have a:=a [] trivial trivial;rw[List.append_nil]at a;rw[e];exact qp7 FU rm (.one (.single ⟨q,h,g.2.2,.inl ⟨rfl,rfl⟩⟩)) (by rw[← e];omega) a (Qs l d c b) Te Te
def R8(s:Bs):Ok (fun b=>b=true->tz s) (yp FU s):=by
 have w:Ok (fun b=>b=true->tz s) (some false):=aw fun q=>(by cases q)
 unfold yp;refine ar (qqa FU rm s) fun x1 p=>ar (P:=dj) ⟨_,rfl,trivial⟩ fun x2 _ => ?_
 obtain⟨l,f⟩:=x1;obtain⟨_,p⟩:=p;have n:Ok (fun b=>b=true->tz s) (bJ FU s l true f):=w
 refine bc (fun _=>n) fun _ => ?_
 by_cases v:(l.length:Int)=1
 ·rw[am (by simp[v])]
  obtain⟨x,rfl⟩:∃x,l=[x]:=List.length_eq_one_iff.1 Ta
  obtain⟨C,y,z⟩:=p x qH;obtain⟨g,b,r⟩:=x;rw[show ak [(g,(b,r))] (0:Int)=some (g,(b,r)) from rfl]
  simp only[qB];cases b
  ·rw[am rfl];have B:=z rfl;obtain⟨a,rfl⟩:∃a,r=[a]:=List.length_eq_one_iff.1 B;obtain⟨E,F⟩:=y a qH;obtain⟨d,lo,e⟩:=a;rw[show ak [(d,(lo,e))] (0:Int)=some (d,(lo,e)) from rfl,qB]
   by_cases u:d=[]
   ·subst u;rw[show(!((([]:Bs),(lo,e)).1==([]:Bs)))=false from rfl]
    unfold bJ Cr;rw[am rfl];obtain⟨o,j,_⟩:=Qt FU rm [(g,(false,[([],(lo,e))]))] Te (fun x k=>by rw[List.mem_singleton]at k;subst k;simp)
    by_cases c:o.1=0
    ·obtain⟨_,_,_,m⟩:=qkb _ Te (fun x k=>by rw[List.mem_singleton]at k;subst k;simp) j c
     have m:=m _ qH;have A:g=[]:=Classical.not_not.1 fun q=>by have:=m.2.1.2 q;cases this
     subst A;have t:=m.2.2.2 ([],(lo,e)) qH;have h:=t.2.1;have i:=t.2.2;rw[Lb FU rm]at h;rw[Kn FU rm]at i;have h:kh lo=true:=qJ h;have i:iu e=true:=qJ i;rw[show kM FU [(([]:Bs),(false,[(([]:Bs),(lo,e))]))]=some (jr lo e,(0,0)) from SN lo e h i,qB,o5,qB,aq]
     exact aw fun q=>⟨lo,e,h,i,(beq_iff_eq.1 q).symm⟩
    ·unfold kM;rw[j];simp only[qB,o5];rw[show(o.1 != 0)=true by simpa [bne] using c]
     simp only[qT,qB,o5];rw[show(o.1 != 0)=true by simpa [bne] using c]
     exact w
   ·rw[show(!((d,(lo,e)).1==([]:Bs)))=true by simp[u]];exact n
  ·rw[aq rfl];exact n
 ·rw[aq (by simp[v])];exact n
noncomputable def mf(s:Bs):Bool:=(yp FU s).getD false
def R9(s:Bs):yp FU s=some (mf s):=by
 obtain⟨b,a,h⟩:=R8 s;unfold mf;rw[a];rfl
def qnw(s:Bs):Ok (fun b=>b=true↔tz s) (yp FU s):=by
 by_cases a:tz s
 ·refine⟨true,?_,fun _=>a,fun _=>rfl⟩
  obtain⟨l,d,e,c,rfl⟩:=a;have i:=SN l d e c;have g:=qp4 l d e c;unfold yp;rw[g,qB,o5,qB,am,am,show ak [dt l d] (0:Int)=some (dt l d) from rfl]
  simp only[qB];rw[am,show ak (dt l d).2.2 (0:Int)=some ([],(l,d)) from rfl,qB]
  unfold bJ Cr;rw[am,i,qB,o5,qB,aq]
  simp
 ·obtain⟨b,f,h⟩:=R8 s;exact⟨b,f,h,fun q=>absurd q a⟩
def qss(s:Bs):mf s=true↔tz s:=by
 obtain⟨b,a,h⟩:=qnw s;unfold mf;rw[a];exact h
def qaq(s:Bs):pm FU s=some (mf s):=by
 obtain⟨b,a,h⟩:=qny FU rm s;rw[a];congr 1;rw[Bool.eq_iff_iff,h,qss]
def z6(c:UInt8):Bool:=decide (33<=c)&&decide (c<=126)
def uy(s:Bs):Bool:=(decide (1<=s.length)&&decide (s.length<=60))&&s.all z6
def jt(s:Bs):Int:=if 500<s.length then 1 else if Lib.validD s=false then 5 else if s.contains 13=true then 5 else 0
noncomputable def uj:List (Bs×Int)->List (Bs×Int)->Int×Int|_,[]=>(0,0)|ab,g::r=>if mf g.1=false then(10,(ab.length:Int)) else if ¬(1<=g.2/\g.2<=4) then(4,(ab.length:Int)) else if ab.any (fun x=>x.1==g.1)=true then(7,(ab.length:Int)) else uj (ab++[g]) r
def gU(d:cd):Int×Int:=if ¬du d then(3,-3) else if d.2.2.2.2.2.2≠0 then(5,-9) else if ¬(3<=d.1/\d.1<=3998) then(3,-9) else(0,0)
noncomputable def yS(e:mp):Int×Int:=
 if qd e.2.2.2.2.2.2.2.1=false then(10,-10) else if(gU e.2.2.2.2.2.2.2.2.1).1≠0 then((gU e.2.2.2.2.2.2.2.2.1).1,-11) else if ¬(0<=e.2.2.2.2.2.2.2.2.2.1/\e.2.2.2.2.2.2.2.2.2.1<=1000000) then(3,-12) else if(kp e.2.2.2.2.2.2.2.2.2.2).1≠0 then((kp e.2.2.2.2.2.2.2.2.2.2).1,-13) else(0,0)
noncomputable def zd(e:mp):Int×Int:=
 if 30<e.2.2.2.2.2.2.1.length then(2,-9) else if(uj [] e.2.2.2.2.2.2.1).1≠0 then uj [] e.2.2.2.2.2.2.1 else yS e
noncomputable def wq(e:mp):Int×Int:=
 if uy e.1=false then(10,-3) else if ¬(1<=e.2.1/\e.2.1<=5) then(4,-4) else if ¬(0<=e.2.2.1/\e.2.2.1<=1000000) then(3,-5) else
 if jt e.2.2.2.1≠0 then(jt e.2.2.2.1,-6) else if jt e.2.2.2.2.1≠0 then(jt e.2.2.2.2.1,-7) else if e.2.2.2.2.2.1≠[]/\mf e.2.2.2.2.2.1=false then(10,-8) else zd e
def xx(e:mp):Prop:=e.1.length<=2000000/\e.2.2.2.2.2.2.2.1.length<=2000000/\e.2.2.2.2.2.2.2.2.2.2.2.2.2.2.2.1.length<=2000000
def qib(s:Bs)(a:s.length<=10000000:=by omega):Hj FU s=some (s.all z6):=
 Do s a (uF FU) z6 (fun n e k=>by
  rw[uF,Hk];simp only[show ∀c,Ck c=some (z6 c) from fun c=>by unfold Ck z6;cases decide (33<=c)<;>rfl]) FU [] s rfl Tm
def qca(s:Bs):fR s=some (jt s):=by
 unfold fR jt;by_cases h:500<s.length
 ·rw[ap,qX h]
 ·rw[bi,qW h]
  unfold vy I1;rw[ap,qB]
  cases Lib.validD s
  ·rw[qX rfl];rfl
  ·rw[am,qW]
   have b:∀x:Int,Lib.index s [13]=x->jh s [13]=some x:=fun x q=>by
    unfold jh vx;rw[ap,qB,q]
   rcases Fc 13 s with⟨w,r,rfl,a⟩|a
   ·rw[b _ (Er 13 w r a),qX]
    simp only[qB];rw[ap]
   ·rw[b _ (Es 13 s a),qW (by simp;exact fun q=>a 13 q rfl)]
    rfl
def qmc(s:Bs)(l:s.length<=1000:=by omega):qm FU s [13] 0=some (if s.contains 13 then((qm FU s [13] 0).getD 0) else -1)/\(s.contains 13=true->0<=(qm FU s [13] 0).getD 0):=by
 have k:∀(n:Nat)(b a:Bs),s=b++a->a.length<n->∃x,eN FU n s [13] (b.length:Int)=some x/\(a.contains 13=true->0<=x)/\(a.contains 13=false->x = -1):=by
  intro n
  induction n with
  |zero=>intro b a _ h;omega|succ n ih=>
   intro b a e h;have j:=congrArg List.length e;rw[qM]at j;rw[eN,Bb,show ae ((b.length:Int)+(([13]:Bs).length:Int))=((b.length+1:Nat):Int) from bj _]
   cases a with
   |nil=>rw[bi (by simp at j;omega)];exact⟨-1,rfl,Te,fun _=>rfl⟩
   |cons c a=>
    simp only[qL]at j h;have d:=DE b c a
    rw[bj _]at d
    rw[ap,ap ⟨Ta,Ta,Ta⟩,bj _]
    rw[e,d,← e];by_cases q:c=13
    ·subst q;rw[aq]
     exact⟨_,rfl,fun _=>Ta,fun q=>by simp at q⟩
    ·rw[am (by simp[q])]
     obtain⟨x,f,g,i⟩:=ih (b++[c]) a (by rw[e];simp) Ta
     rw[qM,wD]at f;refine⟨x,f,fun h=>g ?_,fun h=>i ?_⟩
     ·simp only[List.contains_cons]at h;rw[show((13:UInt8)==c)=false by rw[beq_eq_false_iff_ne];exact fun r=>q r.symm,Bool.false_or]at h
      exact h
     ·simp only[List.contains_cons]at h;rw[Bool.or_eq_false_iff]at h;exact h.2
 obtain⟨x,f,g,i⟩:=k FU [] s rfl Tm
 have e:qm FU s [13] 0=some x:=f;rw[e,Option.getD_some];cases d:s.contains 13
 ·rw[i d];exact⟨rfl,fun q=>by cases q⟩
 ·exact⟨rfl,fun _=>g d⟩
def qay(s:Bs):tg FU s=some (jt s):=by
 unfold tg jt;by_cases h:500<s.length
 ·rw[ap,qX h]
 ·rw[bi,qW h,Me FU Tf s Tm,qB]
  cases Lib.validD s
  ·rw[qX rfl];rfl
  ·rw[am,qW]
   obtain⟨a,b⟩:=qmc s
   rw[a,qB];cases c:s.contains 13
   ·rw[qW,bi,qW]
   ·rw[qX rfl,ap (b c),qX rfl]
def qj3(l:List TI)(g:Bs×Int)(i:l.length<=1000)(n:Nat):∀b a:List TI,l=b++a->a.length<n->∃x,vL FU n l (l.length:Int) (b.length:Int) g=some (x,g)/\decide (0<=x)=a.any (fun y=>y.1==g.1):=by
 induction n with
 |zero=>intro b a _ h;omega|succ n ih=>
  intro b a e h;have c:=congrArg List.length e;rw[qM]at c;rw[vL,Iu]
  cases a with
  |nil=>rw[bi (by simp at c;omega)];exact⟨-1,rfl,rfl⟩|cons y a=>
   simp only[qL]at h c;rw[ap,show ak l (b.length:Int)=some y by rw[e];exact gh _ _ _,qB]
   unfold Ia;rw[qB,List.any_cons];cases j:(y.1==g.1)
   ·rw[qF,bj _]
    obtain⟨x,d,f⟩:=ih (b++[y]) a (by rw[e];simp) Ta
    rw[qM,wD]at d;exact⟨x,d,by rw[f,Bool.false_or]⟩
   ·exact⟨(b.length:Int),rfl,by rw[Bool.true_or];exact decide_eq_true Ta⟩
def qj2(l:List TI)(g:Bs×Int)(c:l.length<=1000:=by omega):CB FU l g=some (l.any (fun y=>y.1==g.1),g):=by
 obtain⟨x,a,b⟩:=qj3 l g c FU [] l rfl Tm
 unfold CB It;rw[show(0:Int)=((([]:List (Bs×Int)).length:Nat):Int) from rfl,a,qB]
 simp only[qZ];rw[← b];rfl
def qmm(l:List TI)(k:l.length<=30)(z:Int×Int)(n:Nat):∀a c:List TI,l=a++c->c.length<n->fP FU n l l (l.length:Int) (a.length:Int) z=some (uj a c):=by
 induction n with
 |zero=>intro a c _ h;omega|succ n ih=>
  intro a c e h;have d:=congrArg List.length e;rw[qM]at d;rw[fP,Ib]
  cases c with
  |nil=>rw[bi (by simp at d;omega)];rfl|cons g c=>
   simp only[qL]at h d;rw[ap,show ak l (a.length:Int)=some g by rw[e];exact gh _ _ _,qB,R9,qB,uj]
   cases mf g.1
   ·rw[qX rfl];rfl
   ·rw[qW,am]
    have j:∀b,(b=true↔¬(1<=g.2/\g.2<=4))->vA FU (fP FU n) l (a.length:Int) l (l.length:Int) (a.length:Int) b z g=some (if ¬(1<=g.2/\g.2<=4) then(4,(a.length:Int)) else if a.any (fun x=>x.1==g.1)=true then(7,(a.length:Int)) else uj (a++[g]) c):=fun b i=>by
     unfold vA;cases b
     ·rw[am rfl,qW (fun q=>by have:=i.2 q;cases this),ap ⟨Ta,Ta⟩]
      rw[show List.take (a.length:Int).toNat l=a by rw[e,show(a.length:Int).toNat=a.length by omega];simp,qj2 a g,qB]
      cases a.any (fun x=>x.1==g.1)
      ·rw[qW,am rfl,bj _]
       have:=ih (a++[g]) c (by rw[e];simp) Ta
       rw[qM,wD]at this;exact this
      ·rw[qX rfl];rfl
     ·rw[aq rfl,qX (i.1 rfl)];rfl
    by_cases f:g.2<1
    ·rw[ap f];exact j true ⟨fun _ q=>Ta,fun _=>rfl⟩
    ·rw[bi f];exact j _ ⟨fun q=>by have:=of_decide_eq_true q;omega,fun q=>decide_eq_true Ta⟩
def RO(d:cd):ta d=some (gU d):=by rw[RQ];rfl
abbrev zZ:b9:=([122],(0,(0,((0,(0,(0,0))),(0,(0,(0,0)))))))
def zfz(nm:Bs):ep (nm,(0,(0,((0,(0,(0,0))),(0,(0,(0,0)))))))=if qd nm=false then(10,-3) else(0,0):=by
 unfold ep;by_cases h:qd nm=false
 ·rw[qX h,qX h]
 ·rw[qW h,qW h,qW]
  rw[qX (by simp[gg]),qW,qW (by simp[gN])]
def qnp(d:cd):(la zZ d).1=gU d:=by
 have:=RP d zZ (by rw[zfz];decide)
 rw[RO]at this;exact(qJ this).symm
def ql3(e:mp)(f:xx e):fN FU e=some (wq e):=by
 obtain⟨n,o,r⟩:=f;have l:∀b z,(b=true↔¬(0<=e.2.2.2.2.2.2.2.2.2.1/\e.2.2.2.2.2.2.2.2.2.1<=1000000))->uV FU b e z=some (if ¬(0<=e.2.2.2.2.2.2.2.2.2.1/\e.2.2.2.2.2.2.2.2.2.1<=1000000) then(3,-12) else if(kp e.2.2.2.2.2.2.2.2.2.2).1≠0 then((kp e.2.2.2.2.2.2.2.2.2.2).1,-13) else(0,0)):=fun b z d=>by
  unfold uV;cases b
  ·rw[am rfl,qW (fun q=>by have:=d.2 q;cases this),qcw FU Tf _,qB,o5,qB,gc]
   by_cases c:(kp e.2.2.2.2.2.2.2.2.2.2).1≠0
   ·rw[qX c,qX c];rfl
   ·rw[qW c,qW c];rfl
  ·rw[aq rfl,qX (d.1 rfl)];rfl
 have m:∀z,Cl FU e z=some (zd e):=fun z=>by
  unfold Cl HY zd;by_cases c:30<e.2.2.2.2.2.2.1.length
  ·rw[ap,qX c];rfl
  ·rw[bi,qW c]
   have g:=qmm e.2.2.2.2.2.2.1 Ta (0,0) FU [] _ rfl (Nat.lt_of_le_of_lt (show e.2.2.2.2.2.2.1.length<=30 by omega) Tf)
   have g:fP FU FU e.2.2.2.2.2.2.1 e.2.2.2.2.2.2.1 (e.2.2.2.2.2.2.1.length:Int) 0 (0,0)=some (uj [] e.2.2.2.2.2.2.1):=g;rw[g,qB,o5,qB,gc];by_cases c:(uj [] e.2.2.2.2.2.2.1).1≠0
   ·rw[qX c,qX c]
   ·rw[qW c,qW c,FL FU _ Ts Tm,qB,o5,qB,zfz]
    unfold yS;cases s:qd e.2.2.2.2.2.2.2.1
    ·rw[qX rfl,qX rfl];rfl
    ·rw[qW,qW,am,Og FU Tf _ Te (by simp[FU]),qB,o5,qB]
     rw[show(la ([122],(0,(0,((0,(0,(0,0))),(0,(0,(0,0))))))) e.2.2.2.2.2.2.2.2.1).1=gU e.2.2.2.2.2.2.2.2.1 from qnp _,gc]
     by_cases c:(gU e.2.2.2.2.2.2.2.2.1).1≠0
     ·rw[qX c,qX c];rfl
     ·rw[qW c,qW c];by_cases c:e.2.2.2.2.2.2.2.2.2.1<0
      ·rw[ap c];exact l _ _ ⟨fun _ q=>Ta,fun _=>rfl⟩
      ·rw[bi c];exact l _ _ ⟨fun q=>by have:=of_decide_eq_true q;omega,fun q=>decide_eq_true Ta⟩
 have k:∀b z,uU FU b e z=some (if b=true then(10,-8) else zd e):=fun b z=>by
  unfold uU;cases b
  ·rw[am rfl,m,qW]
  ·rw[aq rfl,qX rfl];rfl
 have j:∀b z,(b=true↔¬(0<=e.2.2.1/\e.2.2.1<=1000000))->uT FU b e z=some (if ¬(0<=e.2.2.1/\e.2.2.1<=1000000) then(3,-5) else
   if jt e.2.2.2.1≠0 then(jt e.2.2.2.1,-6) else if jt e.2.2.2.2.1≠0 then(jt e.2.2.2.2.1,-7) else if e.2.2.2.2.2.1≠[]/\mf e.2.2.2.2.2.1=false then(10,-8) else zd e):=fun b z d=>by
  unfold uT;cases b
  ·rw[am rfl,qW (fun q=>by have:=d.2 q;cases this),qca,qca]
   simp only[qB,gc];by_cases c:jt e.2.2.2.1≠0
   ·rw[qX c,qX c];rfl
   ·rw[qW c,qW c];by_cases c:jt e.2.2.2.2.1≠0
    ·rw[qX c,qX c];rfl
    ·rw[qW c,qW c];by_cases c:e.2.2.2.2.2.1=[]
     ·rw[am (by simp[c]),k,qW,qW (fun q=>q.1 c)]
     ·rw[aq (by simp[c]),R9,qB,k]
      cases mf e.2.2.2.2.2.1
      ·rw[qX (c:=(!false)=true) rfl,qX ⟨c,rfl⟩]
      ·rw[qW (c:=(!true)=true) Te,qW]
  ·rw[aq rfl,qX (d.1 rfl)];rfl
 have i:∀b z,(b=true↔¬(1<=e.2.1/\e.2.1<=5))->uS FU b e z=some (if ¬(1<=e.2.1/\e.2.1<=5) then(4,-4) else if ¬(0<=e.2.2.1/\e.2.2.1<=1000000) then(3,-5) else
   if jt e.2.2.2.1≠0 then(jt e.2.2.2.1,-6) else if jt e.2.2.2.2.1≠0 then(jt e.2.2.2.2.1,-7) else if e.2.2.2.2.2.1≠[]/\mf e.2.2.2.2.2.1=false then(10,-8) else zd e):=fun b z d=>by
  unfold uS;cases b
  ·rw[am rfl,qW (c:=¬(1<=e.2.1/\_)) (fun q=>by have:=d.2 q;cases this)]
   by_cases c:e.2.2.1<0
   ·rw[ap c];exact j _ _ ⟨fun _ q=>Ta,fun _=>rfl⟩
   ·rw[bi c];exact j _ _ ⟨fun q=>by have:=of_decide_eq_true q;omega,fun q=>decide_eq_true Ta⟩
  ·rw[aq rfl,qX (d.1 rfl)];rfl
 have h:∀b z,(b=true↔uy e.1=false)->lE FU b e z=some (wq e):=fun b z d=>by
  unfold lE wq;cases b
  ·rw[am rfl,qW (c:=uy e.1=false) (fun q=>by have:=d.2 q;cases this)]
   by_cases c:e.2.1<1
   ·rw[ap c];exact i _ _ ⟨fun _ q=>Ta,fun _=>rfl⟩
   ·rw[bi c];exact i _ _ ⟨fun q=>by have:=of_decide_eq_true q;omega,fun q=>decide_eq_true Ta⟩
  ·rw[aq rfl,qX (d.1 rfl)];rfl
 unfold fN;by_cases c:e.1=[]
 ·rw[aq (by simp[c])];exact h _ _ ⟨fun _=>by rw[c];rfl,fun _=>rfl⟩
 ·rw[am (by simp[c])]
  have:1<=e.1.length:=by cases f:e.1 with|nil=>exact absurd f c|cons a b=>simp
  by_cases c:60<e.1.length
  ·rw[ap];exact h _ _ ⟨fun _=>by unfold uy;rw[decide_eq_false (p:=e.1.length<=60) Ta,Bool.and_false];rfl,fun _=>rfl⟩
  ·rw[bi,qib _,qB]
   refine h _ _ ?_;unfold uy;rw[decide_eq_true (p:=1<=e.1.length) this,decide_eq_true (p:=e.1.length<=60) Ta]
   cases e.1.all z6<;>simp
def PO(c i:Int):ck c i=some (c,i):=rfl
def bnd{α:Type}{b:Bool}{x y:Option α}{z:α}(h:b=true->x=some z)(g:b=false->y=some z):(bif b then x else y)=some z:=by
 cases b
 ·exact g rfl
 ·exact h rfl
def ql6(e:mp)(g:xx e) :
  ((kF FU e.2.2.2.2.2.2.2.1).bind fun h=>bif !h then(ck (10:Int) (-10:Int)).bind fun i=>some i else(ta e.2.2.2.2.2.2.2.2.1).bind fun j=>bif j.1 != (0:Int) then(ta e.2.2.2.2.2.2.2.2.1).bind fun xn=>(ck xn.1 (-11:Int)).bind fun oQ=>some oQ else(cn e.2.2.2.2.2.2.2.2.2.1 (0:Int) (1000000:Int)).bind fun xp=>bif !xp then(ck (3:Int) (-12:Int)).bind fun a=>some a else(aP FU e.2.2.2.2.2.2.2.2.2.2).bind fun b=>bif b.1 != (0:Int) then(aP FU e.2.2.2.2.2.2.2.2.2.2).bind fun d=>(ck d.1 (-13:Int)).bind fun f=>some f else some ((0:Int),(0:Int)))=some (yS e):=by
 obtain⟨k,l,m⟩:=g;unfold yS;rw[qat FU _ Ta Tm,qB]
 cases qd e.2.2.2.2.2.2.2.1
 ·rw[qX rfl];rfl
 ·rw[qW,am,RO]
  simp only[qB,gc];by_cases c:(gU e.2.2.2.2.2.2.2.2.1).1≠0
  ·rw[qX c,qX c];rfl
  ·rw[qW c,qW c,lu,qB,jw];by_cases c:0<=e.2.2.2.2.2.2.2.2.2.1/\e.2.2.2.2.2.2.2.2.2.1<=1000000
   ·rw[qX c,qW (c:=¬(0<=e.2.2.2.2.2.2.2.2.2.1/\_)) (fun q=>q c),qaz FU Tf _]
    simp only[qB];by_cases c:(kp e.2.2.2.2.2.2.2.2.2.2).1≠0
    ·rw[qX c,qX c];rfl
    ·rw[qW c,qW c]
   ·rw[qW c,qX (c:=¬(0<=e.2.2.2.2.2.2.2.2.2.1/\_)) c];rfl
def qmn(e:mp)(g:Bs×Int)(k:Int->mp->TG->Option TG)(z:Int×Int)(a d:List TI)(f:e.2.2.2.2.2.2.1=a++g::d)(m:e.2.2.2.2.2.2.1.length<=30)(n:Nat):∀p s:List TI,a=p++s->s.length<n ->
  sX FU k n (a.length:Int) (p.length:Int) e z=if s.any (fun x=>x.1==g.1)=true then some (7,(a.length:Int)) else k ((a.length+1:Nat):Int) e z:=by
 have l:=congrArg List.length f;rw[qM,qL]at l
 induction n with
 |zero=>intro p s _ h;omega|succ n ih=>
  intro p s i h;have b:=congrArg List.length i;rw[qM]at b;rw[sX,GL]
  cases s with
  |nil=>rw[bi (by simp at b;omega),qW,bj _]|cons y s=>
   simp only[qL]at b h;rw[ap,show ak e.2.2.2.2.2.2.1 (p.length:Int)=some y by rw[f,i,qS];exact gh _ _ _,show ak e.2.2.2.2.2.2.1 (a.length:Int)=some g by rw[f];exact gh _ _ _]
   simp only[qB];by_cases j:(y.1==g.1)=true
   ·rw[aq j,qX (by rw[List.any_cons,j];rfl)];rfl
   ·have c:=Bool.eq_false_iff.2 j;have:=ih (p++[y]) s (by rw[i];simp) Ta
    rw[qM,wD]at this;rw[am c,bj _,this]
    simp only[List.any_cons,c,Bool.false_or]
def qmo(e:mp)(j:xx e)(i:∀g∈e.2.2.2.2.2.2.1,pm FU g.1=some (mf g.1))(z:Int×Int)(k:e.2.2.2.2.2.2.1.length<=30)(n:Nat):∀a b:List TI,e.2.2.2.2.2.2.1=a++b->b.length<n ->
  kD FU n (a.length:Int) e z=some (if(uj a b).1≠0 then uj a b else yS e):=by
 induction n with
 |zero=>intro a b _ h;omega|succ n ih=>
  intro a b f h;have d:=congrArg List.length f;rw[qM]at d;rw[kD,GK]
  cases b with
  |nil=>
   rw[bi (by simp at d;omega),ql6 e j]
   rfl
  |cons g b=>
   simp only[qL]at h d;rw[ap,show ak e.2.2.2.2.2.2.1 (a.length:Int)=some g by rw[f];exact gh _ _ _]
   simp only[qB];rw[i g (by rw[f];simp),qB,uj]
   cases mf g.1
   ·simp only[if_true];rfl
   ·rw[am,lu,qB,jw,qW (c:=true=false) Te]
    by_cases c:1<=g.2/\g.2<=4
    ·rw[qX c,qW (c:=¬(1<=g.2/\g.2<=4)) (fun q=>q c)]
     have:=qmn e g (kD FU n) z a b f k FU [] a rfl (Nat.lt_of_le_of_lt (show a.length<=30 by omega) Tf)
     refine Eq.trans this ?_;cases a.any (fun x=>x.1==g.1)
     ·rw[qW,qW (c:=false=true) Te]
      have:=ih (a++[g]) b (by rw[f];simp) Ta
      rw[qM,wD]at this;exact this
     ·rw[qX rfl,qX (c:=true=true) rfl];rfl
    ·rw[qW c,qX (c:=¬(1<=g.2/\g.2<=4)) c];rfl
def ql4(e:mp)(b:xx e)(a:∀g∈e.2.2.2.2.2.2.1,pm FU g.1=some (mf g.1))(z:Int×Int):Bv FU e z=some (zd e):=by
 unfold Bv zd;by_cases c:30<e.2.2.2.2.2.2.1.length
 ·rw[ap,qX c];rfl
 ·rw[bi,qW c]
  exact qmo e b a z Ta FU [] _ rfl (Nat.lt_of_le_of_lt (show e.2.2.2.2.2.2.1.length<=30 by omega) Tf)
def qt5(e:mp)(z:Int×Int)(X:Int×Int)(u:e.1.length<=2000000)
  (g:(uy e.1=true->((cn e.2.1 (1:Int) (5:Int)).bind fun q=>bif !q then(ck (4:Int) (-4:Int)).bind fun r=>some r else(cn e.2.2.1 (0:Int) (1000000:Int)).bind fun s=>bif !s then(ck (3:Int) (-5:Int)).bind fun t=>some t else(tg FU e.2.2.2.1).bind fun xn=>bif xn != (0:Int) then(tg FU e.2.2.2.1).bind fun oQ=>(ck oQ (-6:Int)).bind fun xp=>some xp else(tg FU e.2.2.2.2.1).bind fun i=>bif i != (0:Int) then(tg FU e.2.2.2.2.1).bind fun j=>(ck j (-7:Int)).bind fun k=>some k else bif !(e.2.2.2.2.2.1==([]:Bs)) then(pm FU e.2.2.2.2.2.1).bind fun l=>eS FU (!l) e z else eS FU false e z)=some X)/\(uy e.1=false->X=(10,-3))) (n:Nat):∀b a:Bs,e.1=b++a->a.length<n->b.all z6=true ->
  sW FU n (b.length:Int) e z=some X:=by
 induction n with
 |zero=>intro b a _ h;omega|succ n ih=>
  intro b a f h m;have d:=congrArg List.length f;rw[qM]at d;rw[sW,GJ]
  cases a with
  |nil=>
   rw[List.append_nil]at f;rw[bi (by simp at d;omega),lu,qB,jw]
   by_cases c:(1:Int)<=(e.1.length:Int)/\(e.1.length:Int)<=60
   ·rw[qX c];refine g.1 ?_;unfold uy;rw[decide_eq_true (p:=1<=e.1.length) Ta,decide_eq_true (p:=e.1.length<=60) Ta,f,m];rfl
   ·rw[qW c,g.2 ?_]
    ·rfl
    ·unfold uy;rw[show(decide (1<=e.1.length)&&decide (e.1.length<=60))=false by rw[Bool.and_eq_false_iff,decide_eq_false_iff_not,decide_eq_false_iff_not];omega];rfl
  |cons y a=>
   simp only[qL]at d h;rw[ap,show ak e.1 (b.length:Int)=some y by rw[f];exact gh _ _ _,qB,lu,qB,jw]
   have o:z6 y=decide ((33:Int)<=(y.toNat:Int)/\(y.toNat:Int)<=126):=by
    unfold z6;rw[Bool.eq_iff_iff,decide_eq_true_iff,qA,decide_eq_true_iff,decide_eq_true_iff,UInt8.le_iff_toNat_le,UInt8.le_iff_toNat_le];simp;omega
   by_cases c:(33:Int)<=(y.toNat:Int)/\(y.toNat:Int)<=126
   ·rw[qX c,bj _]
    have:=ih (b++[y]) a (by rw[f];simp) Ta (by rw[List.all_append,m,List.all_cons,o,decide_eq_true c];rfl)
    rw[qM,wD]at this;exact this
   ·rw[qW c,g.2 ?_]
    ·rfl
    ·unfold uy;rw[f,List.all_append,List.all_cons,o,decide_eq_false c];simp
def qre(e:mp)(d:xx e)(i:e.2.2.2.2.2.1≠[]->pm FU e.2.2.2.2.2.1=some (mf e.2.2.2.2.2.1))(j:∀g∈e.2.2.2.2.2.2.1,pm FU g.1=some (mf g.1)):Bu FU e=some (wq e):=by
 have f:=d.1;refine qt5 e (0,0) (wq e) f ⟨fun a => ?_,fun a=>by unfold wq;rw[qX a]⟩ FU [] e.1 rfl (Nat.lt_of_le_of_lt f Tf) rfl
 unfold wq;rw[qW (c:=uy e.1=false) (by simp[a]),lu,qB,jw]
 by_cases c:1<=e.2.1/\e.2.1<=5
 ·rw[qX c,qW (c:=¬(1<=e.2.1/\e.2.1<=5)) (fun q=>q c),lu,qB,jw]
  by_cases c:0<=e.2.2.1/\e.2.2.1<=1000000
  ·rw[qX c,qW (c:=¬(0<=e.2.2.1/\e.2.2.1<=1000000)) (fun q=>q c),qay,qay]
   simp only[qB,gc];by_cases c:jt e.2.2.2.1≠0
   ·rw[qX c,qX c];rfl
   ·rw[qW c,qW c];by_cases c:jt e.2.2.2.2.1≠0
    ·rw[qX c,qX c];rfl
    ·rw[qW c,qW c];have h:∀b,eS FU b e (0,0)=some (if b=true then(10,-8) else zd e):=fun b=>by
      unfold eS;cases b
      ·rw[am rfl,ql4 e d j,qW]
      ·rw[aq rfl,qX rfl];rfl
     by_cases c:e.2.2.2.2.2.1=[]
     ·rw[am (by simp[c]),h,qW,qW (fun q=>q.1 c)]
     ·rw[aq (by simp[c]),i c,qB,h]
      cases mf e.2.2.2.2.2.1
      ·rw[qX (c:=(!false)=true) rfl,qX ⟨c,rfl⟩]
      ·rw[qW (c:=(!true)=true) Te,qW]
  ·rw[qW c,qX (c:=¬(0<=e.2.2.1/\e.2.2.1<=1000000)) c];rfl
 ·rw[qW c,qX (c:=¬(1<=e.2.1/\e.2.1<=5)) c];rfl
def qrd(e:mp)(a:xx e):Bu FU e=some (wq e):=qre e a (fun _=>qaq _) fun _ _=>qaq _
def qo2:tO=some (([49]:Bs),((2:Int),((0:Int),(([97,10,98]:Bs),(([]:Bs),(([111,64,120]:Bs),(([(([103,64,120]:Bs),(1:Int))]:List TI),(([117]:Bs),(uD,((30:Int),uR)))))))))):=rfl
def qso:ei [0,86400]=[0,86400]:=by
 unfold ei;exact List.mergeSort_of_pairwise Te
def qpq:lD FU (([49]:Bs),((2:Int),((0:Int),(([97,10,98]:Bs),(([]:Bs),(([111,64,120]:Bs),(([(([103,64,120]:Bs),(1:Int))]:List TI),(([117]:Bs),(uD,((30:Int),uR)))))))))) uZ 0 100000=some ((0,0),[0,86400]):=by
 have d:tn [0,86400]=some [0,86400]:=by
  have:tn [0,86400]=some (ei [0,86400]):=rfl;rw[this,qso]
 have e:C5 FU uD uR uZ uR []=some (uD,(uR,(uZ,(uR,[0,86400,172800])))):=Tc
 have b:vJ FU [0,86400,172800] 0 100000=some (0,(100000,[0,86400])):=Tc
 have c:lH FU uZ uD uR 0 100000 (0,0)=some ((0,0),[0,86400]):=by
  unfold lH;rw[show C4 uZ uD uR=some (uD,(uR,uZ)) from rfl,qB]
  dsimp only;rw[e,qB];dsimp only;rw[show([0,86400,172800]++uR.2.2.2.2.2.2.2:List Int)=[0,86400,172800] from rfl,b,ap Tf,qB,d]
  rfl
 have a:vB FU uZ uD uR 0 100000=lH FU uZ uD uR 0 100000 (0,0):=Tc
 unfold lD;rw[show fN FU (([49]:Bs),((2:Int),((0:Int),(([97,10,98]:Bs),(([]:Bs),(([111,64,120]:Bs),(([(([103,64,120]:Bs),(1:Int))]:List (Bs×Int)),(([117]:Bs),(uD,((30:Int),uR))))))))))=some (0,0) by kernel_rfl]
 rw[qB,o5,qB,am,am]
 dsimp only;rw[a,c];rfl
def ql7:BE FU=some true:=by
 unfold BE;rw[qo2];simp only[qB];rw[show(([117]:List UInt8),((0:Int),((0:Int),(((0:Int),((0:Int),((0:Int),(0:Int)))),((0:Int),((0:Int),((0:Int),(0:Int))))))))=uZ from rfl,qpq]
 simp only[qB]
 kernel_rfl
def Kx:Ty := .prod .str (.prod (.int .i64) (.prod (.int .i64) (.prod .str (.prod .str (.prod .str (.prod (.list (.prod .str (.int .i64))) (.prod .str (.prod (.prod (.int .i64) (.prod (.int .i64) (.prod (.int .i64) (.prod (.int .i64) (.prod (.int .i64) (.prod (.int .i64) (.int .i64))))))) (.prod (.int .i64) (.prod (.int .i64) (.prod (.int .i64) (.prod (.int .i64) (.prod (.int .i64) (.prod .bool (.prod (.list (.int .i64)) (.prod (.list (.int .i64)) (.list (.int .i64))))))))))))))))))
def S7:∀l:List (Ty.den (.int .i64)),(l.map (Ty.bk (.int .i64))).sum=l.length
 |[]=>rfl|x::l=>by
  have:=S7 l;rw[List.map_cons,List.sum_cons,this,qL];show 1+_=_;omega
def ql5(e:mp)(h:Kx.bk e<=1048576:=by omega):xx e:=by
 obtain⟨u,m,s,k,j,i,g,b,d,l,n,o,p,q,r,a,f,c⟩:=e;have h:((u.length+1)+(1+(1+((k.length+1)+((j.length+1)+((i.length+1)+((Ty.list (.prod .str (.int .i64))).bk g+((b.length+1)+((Ty.prod (.int .i64) (.prod (.int .i64) (.prod (.int .i64) (.prod (.int .i64) (.prod (.int .i64) (.prod (.int .i64) (.int .i64))))))).bk d+(1+(1+(1+(1+(1+(1+((((a:List (Ty.den (.int .i64))).map (Ty.bk (.int .i64))).sum+1)+((Ty.list (.int .i64)).bk f+(Ty.list (.int .i64)).bk c)))))))))))))))))<=1048576:=h;rw[S7 a]at h;refine⟨?_,?_,?_⟩
 ·show u.length<=2000000;omega
 ·show b.length<=2000000;omega
 ·show List.length (α:=Ty.den (.int .i64)) a<=2000000;omega
def qoj(e:mp)(z:b9)(a b:Int)(m:xx e)(u:z.1.length<=2000000:=by omega):kI FU e z a b=some true:=by
 obtain⟨p,q,r⟩:=m;have m:xx e:=⟨p,q,r⟩;unfold kI;rw[ql7,qB,am,qrd e m]
 unfold lD;rw[ql3 e m];simp only[qB,o5,gc];by_cases c:(wq e).1≠0
 ·rw[qX c];simp only[qB];rw[am (by simpa using c)]
  unfold tN aQ;rw[am rfl,am (by simpa using c)]
  unfold eX;rw[am rfl];unfold eY;rw[aq (by simpa using c),aq];simp
 ·rw[qW c];have c0:=Classical.not_not.1 c;simp only[show((wq e).1==0)=true by simp[c0],qT]
  unfold tN;have v:∀(l:List Int)(f w:Int×Int),w.1≠0->f=w->l=[]->aQ FU a b e z l f w=some true:=fun l f w o s t=>by
   subst s t;unfold aQ;rw[am (by simpa using o)]
   unfold eX;rw[am rfl];unfold eY;rw[aq (by simpa using o),aq];rfl
  by_cases n:z.1=e.2.2.2.2.2.2.2.1
  ·have h:(!(z.1==e.2.2.2.2.2.2.2.1))=false:=by simp[n]
   rw[h];simp only[qF];have j:(z.1.length:Int)<9223372036854775808:=Ta
   have k:z.1.length<FU:=Nat.lt_of_le_of_lt u Tf
   rw[qjb FU Tf z j k e.2.2.2.2.2.2.2.2.1 e.2.2.2.2.2.2.2.2.2.2 Ta a b,qB]
   have g:=qi9 FU Tf z j k e.2.2.2.2.2.2.2.2.1 e.2.2.2.2.2.2.2.2.2.2 Ta a b
   by_cases d:(ie z e.2.2.2.2.2.2.2.2.1 e.2.2.2.2.2.2.2.2.2.2 a b).1≠0
   ·rw[qi7 d,qX d];have i:bw (ie z e.2.2.2.2.2.2.2.2.1 e.2.2.2.2.2.2.2.2.2.2 a b).1 (-15)=some ((ie z e.2.2.2.2.2.2.2.2.1 e.2.2.2.2.2.2.2.2.2.2 a b).1,-15):=rfl;rw[i];simp only[qB];unfold aQ;rw[aq (by simp[c0]),g,qB,show((ie z e.2.2.2.2.2.2.2.2.1 e.2.2.2.2.2.2.2.2.2.2 a b).1 != 0)=true by simpa [bne] using d]
    unfold eX;rw[aq rfl,g,qB,PO,qB];unfold eY;rw[aq (by simpa [bne] using d),aq];rfl
   ·rw[qi8 (Classical.not_not.1 d),qW]
    have i:fc=some (0,0):=rfl;rw[i];simp only[qB];unfold aQ;rw[aq (by simp[c0]),g,qB,show((ie z e.2.2.2.2.2.2.2.2.1 e.2.2.2.2.2.2.2.2.2.2 a b).1 != 0)=false by simpa [bne] using d]
    unfold eX;rw[am rfl];unfold eY;rw[am (by simpa [bne] using c0),aq,qja FU Tf (Classical.not_not.1 d),qB]
    have:=qjs (Classical.not_not.1 d);rw[qnq FU _ _ Ta (Nat.lt_of_le_of_lt this Tf)]
    simp
  ·have h:(!(z.1==e.2.2.2.2.2.2.2.1))=true:=by simp[n]
   rw[h];simp only[qT];have i:bw 6 (-14)=some (6,-14):=rfl;rw[i,PO];simp only[qB];exact v [] (6,-14) (6,-14) Tf rfl rfl
abbrev Fk:Ty := .prod (.int .i64) (.prod (.int .i64) (.prod (.int .i64) (.int .i64)))
abbrev q7r:Ty := .prod .str (.prod (.int .i64) (.prod (.int .i64) (.prod Fk Fk)))
def qok(x:mp×b9×Int×Int×Unit)(h:mG [Kx,q7r,.int .i64,.int .i64] x<=1048576):kI 100000000 x.1 x.2.1 x.2.2.1 x.2.2.2.1=some true:=by
 obtain⟨e,z,a,b,_⟩:=x;have h:Kx.bk e+(((z.1.length+1)+(Ty.prod (.int .i64) (.prod (.int .i64) (.prod Fk Fk))).bk z.2)+mG [.int .i64,.int .i64] (a,(b,())))<=1048576:=h;exact qoj e z a b (ql5 e)
end Go.Sym
