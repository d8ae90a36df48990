/- What the claim rests on, part 3: gathered texts. -/
import Derived.RangeFuncRecord
import Derived.Lib.ItoaNum
import Derived.Lib.Index
import Derived.Lib.AtoiAll
import Derived.Shelf.SlSortCmp.Insertion
import Derived.Lib.Replace
import Derived.Lib.Repeat
import Derived.Lib.MapLaws
import Derived.Lib.ValidLaws
import Derived.Lib.Join
import Derived.Lib.FieldsP
import Derived.Lib.TrimUEq
import Derived.Lib.SlicesCompact
import Derived.Lib.BytesEntry
import Derived.Laws.Externs
import Derived.Lib.Bytealg
import Derived.WalkKit
import Derived.ProofKit
import Derived.OpenShut
import Derived.ShutString
import Derived.ChangeOld
import Derived.Carry
import Derived.Handed
import Derived.Deep.DeepHandedRow
import Derived.LaidMore
import Derived.Lay
import Derived.LaidHandle
import Derived.MakeChecks
import Derived.LaidLaws
import Derived.Test.YtnhhffhkeegdgaaGreatDoorSyN2
set_option linter.defProp false
set_option linter.unusedSimpArgs false
set_option linter.unusedVariables false
namespace Go.Sym
open Go.RowKit
variable{TT:List PanicEntry->Act->World->Prop}[LC]
mutual
def q01:AV->List Nat|.own k=>[k]|.agg xs=>qbu xs|.tup xs=>qbu xs|.fn _ _ xs=>qbu xs|.iface _ x=>q01 x|_=>[]
def qbu:List AV->List Nat|[]=>[]|x::xs=>q01 x++qbu xs
end
mutual
def qj9:Pt->AV->List Nat
 |.h _,x=>q01 x|.agg ps,x=>match x with|.agg xs=>yz ps xs|_=>[]
 |.tup ps,x=>match x with|.tup xs=>yz ps xs|_=>[]
 |.fn _ ps,x=>match x with|.fn _ _ xs=>yz ps xs|_=>[]
 |.ifc _ p,x=>match x with|.iface _ y=>qj9 p y|_=>[]
 |_,_=>[]
def yz:List Pt->List AV->List Nat
 |[],_=>[]|p::ps,xs=>match xs with|x::xs=>qj9 p x++yz ps xs|[]=>[]
end
def frzL:List Nat->St->St
 |[],s=>s|k::ks,s=>match s.freeze k with|some s'=>frzL ks s'|none=>frzL ks s
mutual
def nmP:Pt->AV->NM
 |.ptr b _,x=>match qot x with|some (b',_)=>[(b,b')]|none=>[]
 |.own k,x=>match qor x with|some k'=>[(k,k')]|none=>[]
 |.el k _,x=>match qjn x with|some (k',_)=>[(k,k')]|none=>[]
 |.ifc _ p,x=>match qoq x with|some (_,y)=>nmP p y|none=>[]
 |.iel _ k _,x=>match qop x with|some (_,k',_)=>[(k,k')]|none=>[]
 |.yld k,x=>match qov x with|some k'=>[(k,k')]|none=>[]
 |.pn k,x=>match qos x with|some k'=>[(k,k')]|none=>[]
 |.agg ps,x=>match asAgg x with|some xs=>wy ps xs|none=>[]
 |.tup ps,x=>match qou x with|some xs=>wy ps xs|none=>[]
 |.fn _ ps,x=>match qxr x with|some (_,xs)=>wy ps xs|none=>[]
 |_,_=>[]
def wy:List Pt->List AV->NM
 |[],_=>[]|p::ps,xs=>match xs with|x::xs=>nmP p x++wy ps xs|[]=>[]
end
def qqb:List (Nat×bj)->Nat->Option bj|[],_=>none|(k,v)::r,i=>bif Nat.beq k i then some v else qqb r i
def coB1(bs:List (Nat×bj))(b:Nat):List Pt->Nat->St->St
 |[],_,s=>s|p::ps,off,s=>match p,ae s.hp b with
  |.own k,some (.cells cs _)=>match qqb bs k,cs[off]? with
   | some (.row τ E),some x=>bif nd x then(match s.ownCell b off τ E with
     |some s'=>coB1 bs b ps (off+1) s'| none=>coB1 bs b ps (off+1) s) else coB1 bs b ps (off+1) s
   |_,_=>coB1 bs b ps (off+1) s
  |p,some (.cells cs _)=>match cs[off]? with|some x=>coB1 bs b ps (off+1) (frzL (qj9 p x) s)|none=>coB1 bs b ps (off+1) s
  |_,_=>coB1 bs b ps (off+1) s
def coB(bs:List (Nat×bj))(nm:NM):List (Nat×bj)->St->St
 |[],s=>s|(n,p)::r,s=>match p,bf nm n with
  |.cells ps _,some b=>coB bs nm r (coB1 bs b ps 0 s)|.dat _ _,some b=>match ae s.hp b with|some (.cells cs _)=>coB bs nm r (frzL (qbu cs) s)|_=>coB bs nm r s
  |_,_=>coB bs nm r s
def coF(bs:List (Nat×bj)):List (Nat×Pt)->St->St
 |[],s=>s|(i,p)::r,s=>match p,ae s.fr i with
  | .own k,some x=>bif nd x then(match qqb bs k with
    |some (.row τ E)=>match s.ownNil i τ E with|some s'=>coF bs r s'|none=>coF bs r s
    | _=>coF bs r s) else coF bs r s
  |p,some x=>coF bs r (frzL (qj9 p x) s)|_,none=>coF bs r s
def nmF(fr:List (Nat×AV)):List (Nat×Pt)->NM
 |[]=>[]|(i,p)::r=>match ae fr i with|some x=>nmP p x++nmF fr r|none=>nmF fr r
def kh(s:St):List (Nat×bj)->NM->NM
 |[],nm=>nm|(n,p)::r,nm=>match bf nm n with
  |some b=>match p,ae s.hp b with|.cells ps _,some (.cells cs _)=>kh s r (nm++wy ps cs)|.loop _ _ _ _ fr _ _ D,some (.loop _ _ _ _ fr' _ _ D')=>kh s r (nm++((D,D')::nmF fr' fr))|_,_=>kh s r nm
  |none=>kh s r nm
def LS.co(ls:LS)(ids:NM)(s:St):St:=coF ls.hp ls.fr (coB ls.hp (kh s ls.hp (ids++nmF s.fr ls.fr)) ls.hp s)
section
variable{P:Program}{z5m:World}{z5g:Gh}{z5j:List (Nat×ag)}{a:Act}{w:World}
def ai.frzL:∀{ks:List Nat}{s:St}{G:Gh},ai z5m z5g z5j G s a w->∃G',ai z5m z5g z5j G' (frzL ks s) a w
 |[],s,G,hr=>⟨G,hr⟩|k::ks,s,G,hr=>by
  simp[Sym.frzL];split
  ·rename_i s' h;obtain⟨G',hr'⟩:=hr.freeze h;exact ai.frzL hr'
  ·exact ai.frzL hr
def ai.coB1{bs:List (Nat×bj)}{b:Nat}:∀{ps:List Pt}{off:Nat}{s:St}{G:Gh},ai z5m z5g z5j G s a w->∃G',ai z5m z5g z5j G' (coB1 bs b ps off s) a w
 |[],_,s,G,hr=>⟨G,hr⟩|p::ps,off,s,G,hr=>by
  unfold Sym.coB1;split
  ·split
   ·rename_i x _ _;cases hb:nd x<;>simp
    ·exact ai.coB1 hr
    ·split
     ·rename_i h;obtain⟨G',hr'⟩:=hr.ownCell h;exact ai.coB1 hr'
     ·exact ai.coB1 hr
   ·exact ai.coB1 hr
  ·split
   ·obtain⟨G',hr'⟩:=hr.frzL;exact ai.coB1 hr'
   ·exact ai.coB1 hr
  ·exact ai.coB1 hr
def ai.coB{bs:List (Nat×bj)}{nm:NM}:∀{l:List (Nat×bj)}{s:St}{G:Gh},ai z5m z5g z5j G s a w->∃G',ai z5m z5g z5j G' (coB bs nm l s) a w
 |[],s,G,hr=>⟨G,hr⟩|(n,p)::r,s,G,hr=>by
  unfold Sym.coB;split
  ·obtain⟨G',hr'⟩:=hr.coB1;exact ai.coB hr'
  ·split
   ·obtain⟨G',hr'⟩:=hr.frzL;exact ai.coB hr'
   ·exact ai.coB hr
  ·exact ai.coB hr
def ai.coF{bs:List (Nat×bj)}:∀{l:List (Nat×Pt)}{s:St}{G:Gh},ai z5m z5g z5j G s a w->∃G',ai z5m z5g z5j G' (coF bs l s) a w
 |[],s,G,hr=>⟨G,hr⟩|(i,p)::r,s,G,hr=>by
  unfold Sym.coF;split
  ·rename_i x _;cases hb:nd x<;>simp
   ·exact ai.coF hr
   ·split
    ·split
     ·rename_i h;obtain⟨G',hr'⟩:=hr.ownNil h;exact ai.coF hr'
     ·exact ai.coF hr
    ·exact ai.coF hr
  ·obtain⟨G',hr'⟩:=hr.frzL;exact ai.coF hr'
  ·exact ai.coF hr
def ai.co{s:St}{G:Gh}(hr:ai z5m z5g z5j G s a w)(ls:LS)(ids:NM):∃G',ai z5m z5g z5j G' (ls.co ids s) a w:=by
 obtain⟨G',hr'⟩:=hr.coB (bs:=ls.hp) (nm:=kh s ls.hp (ids++nmF s.fr ls.fr)) (l:=ls.hp);exact hr'.coF
end
def nmY(k:qh)(m:Nat):NM:=match k with|.yld m'=>[(m',m)]|_=>[]
def qj0(g:cf->Bool):List cf->Option cf|[]=>none|e::es=>bif g e then some e else qj0 g es
def q8v(tb:Tb)(s:St)(op:Op):Option St:=
 match op with
 |.call { callee := .value g,args,argTypes:=_ }=>match s.ev g,s.evs args.toList with
  |some (.fn (.func f) fst cap),some xs=>match qj0 (fun e=>ua f e.key) tb.ents with|some e=>some (coB e.hp (kh s e.hp (wy e.args ((fst++xs)++cap))) e.hp (frzL (yz e.args ((fst++xs)++cap)) s))|none=>none
  |some (.yld m),some ys=>match ae s.hp m with
   | some (.loop _ _ _ _ _ _ tag _)=>match qj0 (fun e=>match e.key with
     |.yld m'=>match qqb e.hp m' with|some (.loop _ _ _ _ _ _ tag' _)=>Nat.beq tag' tag|_=>false
     | _=>false) tb.ents with
    |some e=>some (coB e.hp (kh s e.hp (nmY e.key m++wy e.args ys)) e.hp (frzL (yz e.args ys) s))|none=>none
   |_=>none
  |_,_=>none
 |.slice _ x _ _ _=>match s.ev x with|some (.own k)=>some (frzL [k] s)|_=>none
 |.buildSlice _ _ parts=>match s.evs (parts.toList.map (·.2)) with|some xs=>some (frzL (qbu xs) s)|none=>none
 |_=>none
def exq{R:Type}(P:Program)(tb:Tb)(s:St)(o:Oper)(K:St->Option R):Option R:=
 match wa P tb s o.op with
 |some q=>q.K fun d=>match qk P s d o with|some (_,s')=>K s'|none=>none
 |none=>none
def zau:Option Rq->Bool|some _=>true|none=>false
def q8w(tb:Tb)(s:St)(op:Op):Option St:=
 match op with
 |.call { callee := .value g,args,argTypes:=_ }=>match s.ev g,s.evs args.toList with
  |some (.fn (.func f) [] cap),some xs=>match qj0 (fun e=>qkm f e.key) tb.ents with|some e=>some (coB e.hp (kh s e.hp (wy e.args (xs++cap))) e.hp (frzL (yz e.args (xs++cap)) s))|none=>none
  |_,_=>none
 |_=>none
def q2a{R:Type}(tb:Tb)(s:St)(o:Oper)(E:AV->St->Option R)(K:St->Option R):Option R:=
 match qb6 tb s o with
 |some q=>qre s q E K|none=>match q8w tb s o.op with
  |some s'=>match qb6 tb s' o with|some q=>qre s' q E K|none=>none
  |none=>none
def q02:Op->Option Operand|.panic x=>some x|_=>none
def zqq{op:Op}{x:Operand}(h:q02 op=some x):op = .panic x:=by
 unfold q02 at h;split at h
 ·cases h;rfl
 ·cases h
def ex1{R:Type}(P:Program)(tb:Tb)(E:AV->St->Option R)(s:St)(o:Oper)(K:St->Option R):Option R:=
 match q1x P s o with
 |some s'=>K s'|none=>match qye P s o with
 |some s'=>K s'|none=>match q0e P s o K with
 |some r=>r|none=>match q17 P s o K with
 |some r=>r|none=>match qzv P s o K with
 |some r=>r|none=>match q0o P s o with
 |some (b,s')=>bif b then K s' else none|none=>match qxp P s o with
 |some (b,s')=>bif b then K s' else none|none=>match qzd P s o with
 |some (b,s')=>bif b then K s' else none|none=>match qy8 tb s o K with
 |some r=>r|none=>match q12 P tb s o with
 |some (b,s')=>bif b then K s' else none|none=>match qzn P s o with
 |some s'=>K s'|none=>match q02 o.op with
 |some x=>q03 s x E|none=>bif zau (wa P tb s o.op) then exq P tb s o K else
  match q8v tb s o.op with|some s'=>exq P tb s' o K|none=>q2a tb s o E K
def St.know(s:St)(x:Operand)(b:Bool):St:=match x with|.tmp t=>bif Nat.blt t s.n then{ s with fr:=(t,.val (.bool b))::s.fr } else s|_=>s
def qey(ops:Array Oper)(j:Nat):Operand:=match ops[j]? with
 |some o=>match o.dst with|some t => .tmp t|none => .const undef
 |none => .const undef
def op1{R:Type}(P:Program)(tb:Tb)(ops:Array Oper)(E:AV->St->Option R)(s:St)(o:Oper)(K:St->Option R):Option R:=
 match o.guard with
 |none=>ex1 P tb E s o K|some (j,want)=>match wo ops s j with
  |none=>none|some none=>match s.add o.dst (.val undef) [] with|some s'=>K s'|none=>none
  |some (some b)=>bif b then
    (bif want then ex1 P tb E (s.know (qey ops j) true) o K else match(s.know (qey ops j) true).add o.dst (.val undef) [] with
     |some s'=>K s'| none=>none)
   else(bif want then(match(s.know (qey ops j) false).add o.dst (.val undef) [] with
     |some s'=>K s'| none=>none) else ex1 P tb E (s.know (qey ops j) false) o K)
def qbt{R:Type}(P:Program)(tb:Tb)(ops:Array Oper)(E:AV->St->Option R):List Oper->St->(St->Option R)->Option R|[],s,K=>K s|o::l,s,K=>op1 P tb ops E s o fun s'=>qbt P tb ops E l s' K
section
variable{P:Program}{z5m:World}{z5g:Gh}{z5j:List (Nat×ag)}{G:Gh}{a:Act}{w:World}{R:Type}{tb:Tb}{s:St}{E:AV->St->Option R}
def q9v(hT:∀e∈tb.ents,e.Sound P)(hr:ai z5m z5g z5j G s a w){o:Oper}{K:St->Option R}{x:R}(h:exq P tb s o K=some x){N:Act->World->Prop}(hN:∀s',K s'=some x->∀G' a' w',ai z5m z5g z5j G' s' a' w'->N a' w'):fe P o a w N:=by
 unfold exq at h;split at h
 ·rename_i q hq;obtain⟨d,h1,h2⟩:=Rq.K_some h;split at h2
  ·rename_i ps s' ha;exact qoj hr ha (q7v hT hq h1 ha) (hN s' h2)
  ·cases h2
 ·cases h
def oh{o:Oper}{N:Act->World->Prop}(h:fe P o a w N):rt P TT o a w N:=fun ops i b rest k cs h1 h2 h3 => .inl (h ops i b rest k cs h1 h2 h3)
def zuh(hT:∀e∈tb.ents,e.Sound P)(hr:ai z5m z5g z5j G s a w){o:Oper}{K:St->Option R}{x:R}(h:q2a tb s o E K=some x){N:Act->World->Prop}(hN:∀s',K s'=some x->∀G' a' w',ai z5m z5g z5j G' s' a' w'->N a' w')
  (hE:∀t n s',E (ep t n) s'=some x->∀G' a' w',ia z5m z5g z5j G' s' a' w'->TT [{ v:=wv t n,recovered:=false }] a' w'):rt P TT o a w N:=by
 unfold q2a at h
 ·split at h
  ·rename_i q hq;exact ze5 hT hr hq h hN hE
  ·split at h
   ·rename_i s' hs;have:∃G',ai z5m z5g z5j G' s' a w:=by
     unfold q8w at hs;split at hs
     ·split at hs
      ·split at hs
       ·simp at hs;subst hs;obtain⟨G1,hr1⟩:=hr.frzL;exact hr1.coB
       ·cases hs
      ·cases hs
     ·cases hs
    obtain⟨G',hr'⟩:=this;split at h
    ·rename_i q hq;exact ze5 hT hr' hq h hN hE
    ·cases h
   ·cases h
def qy5(hT:∀e∈tb.ents,e.Sound P)(hr:ai z5m z5g z5j G s a w){o:Oper}{K:St->Option R}{x:R}(h:ex1 P tb E s o K=some x){N:Act->World->Prop}(hN:∀s',K s'=some x->∀G' a' w',ai z5m z5g z5j G' s' a' w'->N a' w')
  (hE:∀t n s',E (ep t n) s'=some x->∀G' a' w',ia z5m z5g z5j G' s' a' w'->TT [{ v:=wv t n,recovered:=false }] a' w'):rt P TT o a w N:=by
 unfold ex1 at h;split at h
 ·rename_i s' hs;exact oh <| ztd hr hs (hN s' h)
 split at h
 ·rename_i s' hs;exact oh <| zl6 hr hs (hN s' h)
 split at h
 ·rename_i r' hs;exact oh <| zpy hr hs h hN
 split at h
 ·rename_i r' hs;exact oh <| zuc hr hs h hN
 split at h
 ·rename_i r' hs;exact oh <| zoy hr hs h hN
 split at h
 ·rename_i b s' hs;cases b<;>simp at h
  exact oh <| zp8 hr hs (hN s' h)
 split at h
 ·rename_i b s' hs;cases b<;>simp at h
  exact oh <| zkf hr hs (hN s' h)
 split at h
 ·rename_i b s' hs;cases b<;>simp at h
  exact oh <| znw hr hs (hN s' h)
 split at h
 ·rename_i r' hs;exact oh <| zns hT hr hs h hN
 split at h
 ·rename_i b s' hs;cases b<;>simp at h
  exact oh <| zt8 hr hs (hN s' h)
 split at h
 ·rename_i s' hs;exact oh <| zog hr hs (hN s' h)
 split at h
 ·rename_i y hy;exact zqr hr (zqq hy) h hE
 cases hq:zau (wa P tb s o.op)<;>rw[hq]at h<;>simp at h
 ·split at h
  ·rename_i s' hs;have:∃G',ai z5m z5g z5j G' s' a w:=by
    unfold q8v at hs;split at hs
    ·split at hs
     ·split at hs
      ·simp at hs;subst hs;obtain⟨G1,hr1⟩:=hr.frzL;exact hr1.coB
      ·cases hs
     ·split at hs
      ·split at hs
       ·simp at hs;subst hs;obtain⟨G1,hr1⟩:=hr.frzL;exact hr1.coB
       ·cases hs
      ·cases hs
     ·cases hs
    ·split at hs
     ·simp at hs;subst hs;exact hr.frzL
     ·cases hs
    ·split at hs
     ·simp at hs;subst hs;exact hr.frzL
     ·cases hs
    ·cases hs
   obtain⟨G',hr'⟩:=this;exact oh <| q9v hT hr' h hN
  ·exact zuh hT hr h hN hE
 ·exact oh <| q9v hT hr h hN
def ai.know(hr:ai z5m z5g z5j G s a w){x:Operand}{b:Bool}(h:a.eval x = .bool b):ai z5m z5g z5j G (s.know x b) a w:=by
 unfold St.know;split
 ·rename_i t;cases hb:Nat.blt t s.n
  ·exact hr
  ·refine⟨hr.defers,hr.size,fun i y hy => ?_,hr.fresh,hr.fin⟩
   simp[qT,ae]at hy;cases hq:Nat.beq t i
   ·rw[hq]at hy;exact hr.frame i y hy
   ·rw[hq]at hy;simp at hy;subst hy;have:=qN hq;subst this;have hlt:t<a.tmps.size:=by rw[hr.size];exact Nat.lt_of_lt_of_le (Nat.lt_succ_self t) (Nat.le_of_ble_eq_true hb)
    refine⟨a.tmps[t],by simp[hlt],?_⟩
    have h:a.tmps.getD t undef = .bool b:=h;simp[Array.getD,hlt,dif_pos]at h;exact h
 ·exact hr
def z4z{ops:Array Oper}{j:Nat}{b:Bool}(h:yielded ops a.tmps j=some b):a.eval (qey ops j) = .bool b:=by
 unfold qey;unfold yielded at h
 cases ho:ops[j]? with
 |none=>rw[ho]at h;simp at h|some o=>
  rw[ho]at h
  cases hd:o.dst with
  |none=>simp[hd]at h|some t=>
   simp[hd,qB]at h ⊢;show a.tmps.getD t undef=_;rw[Array.getD_eq_getD_getElem?]
   cases hv:a.tmps[t]? with
   |none=>rw[hv]at h;simp at h|some v=>
    rw[hv]at h;simp at h ⊢;split at h
    ·rename_i e;simp at h;subst h;exact qJ e
    ·cases h
def ai.skip(hr:ai z5m z5g z5j G s a w){dst:Option Tmp}{s':St}(h:s.add dst (.val undef) []=some s'):ai z5m z5g z5j G s' (a.put dst undef) w:=gn hr h rfl
def zco(hT:∀e∈tb.ents,e.Sound P)(hr:ai z5m z5g z5j G s a w){ops:Array Oper}{i:Nat}{o:Oper}(ho:ops[i]? = some o){K:St->Option R}{x:R}(h:op1 P tb ops E s o K=some x){N:Act->World->Prop}(hN:∀s',K s'=some x->∀G' a' w',ai z5m z5g z5j G' s' a' w'->N a' w')
  (hE:∀t n s',E (ep t n) s'=some x->∀G' a' w',ia z5m z5g z5j G' s' a' w'->TT [{ v:=wv t n,recovered:=false }] a' w'):qq P TT ops i N a w:=by
 have skip:∀{s:St},ai z5m z5g z5j G s a w->(match s.add o.dst (.val undef) [] with|some s'=>K s'|none=>none)=some x->¬Region.wanted o (yielded ops a.tmps)=true->qq P TT ops i N a w:=fun hr h hw=>by
  split at h
  ·rename_i s' hs;exact qyn ho hw (hN s' h _ _ _ (hr.skip hs))
  ·cases h
 unfold op1 at h;split at h
 ·rename_i hg;exact qo8 ho (by simp[Region.wanted,hg]) (qy5 hT hr h hN hE)
 ·rename_i j want hg;split at h
  ·cases h
  ·rename_i hgo;have hy:=qp1 hr hgo;exact skip hr h (by simp[Region.wanted,hg,hy])
  ·rename_i b hgo;have hy:=qp1 hr hgo;have hk:=hr.know (z4z hy);cases b<;>cases want<;>simp at h
   ·exact qo8 ho (by simp[Region.wanted,hg,hy]) (qy5 hT hk h hN hE)
   ·exact skip hk h (by simp[Region.wanted,hg,hy])
   ·exact skip hk h (by simp[Region.wanted,hg,hy])
   ·exact qo8 ho (by simp[Region.wanted,hg,hy]) (qy5 hT hk h hN hE)
def zcr(hT:∀e∈tb.ents,e.Sound P){ops:Array Oper}{K:St->Option R}{x:R}{N:Act->World->Prop}(hN:∀s',K s'=some x->∀G' a' w',ai z5m z5g z5j G' s' a' w'->N a' w')
  (hE:∀t n s',E (ep t n) s'=some x->∀G' a' w',ia z5m z5g z5j G' s' a' w'->TT [{ v:=wv t n,recovered:=false }] a' w') :
  ∀(l:List Oper)(i:Nat)(s:St)(G:Gh)(a:Act)(w:World),(∀j,j<l.length->ops[i+j]? = l[j]?)->qbt P tb ops E l s K=some x->ai z5m z5g z5j G s a w->wi P TT ops N (List.range' i l.length) a w
 |[],i,s,G,a,w,_,h,hr=>hN s h G a w hr|o::l,i,s,G,a,w,hl,h,hr=>by
  simp;exact zco hT hr (by have:=hl 0 oC;simpa using this) h (fun s' h' G' a' w' hr'=>zcr hT hN hE l (i+1) s' G' a' w' (fun j hj=>by have:=hl (j+1) oE;simpa [Nat.add_assoc,Nat.add_comm 1 j] using this) h' hr') hE
end
end Go.Sym
namespace Go.Sym
open Go.RowKit
variable{TT:List PanicEntry->Act->World->Prop}[LC]
def qfi:List (Nat×Bool)->Nat->Option Bool|[],_=>none|(k,v)::r,i=>bif Nat.beq k i then some v else qfi r i
def qq5(t:Nat):List HR->Nat->Option Nat|[],_=>none|r::rs,j=>bif Nat.beq r.dst t then some j else qq5 t rs (j+1)
def za7(pred:List Nat)(Rs:List HR)(kn:List (Nat×Bool))(op:Op):Option Bool:=
 match op with
 |.pick (.tmp c) _ _=>match qq5 c Rs 0 with|some j=>bif bq pred j then qfi kn j else none|none=>none
 |_=>none
def q7r(P:Program)(tb:Tb)(t:St)(pred:List Nat)(Rs:List HR)(kn:List (Nat×Bool))(op:Op):Option Rq:=
 match za7 pred Rs kn op with|some d=>some (.tot (.b d))|none=>wa P tb t op
def exH{R:Type}(P:Program)(tb:Tb)(t:St)(pred:List Nat)(Rs:List HR)(kn:List (Nat×Bool))(o:Oper)(K:AV->List (Nat×ag)->Option R):Option R:=
 match q7r P tb t pred Rs kn o.op with
 |some q=>q.K fun d=>match fb P t d o with|some (_,v,new)=>K v new|none=>none
 |none=>none
def qki:AV->Bool|.bool _=>true|_=>false
def vt(pred:List Nat)(Rs:List HR)(j:Nat)(d:Bool)(kn:List (Nat×Bool)):List (Nat×Bool):=match Rs[j]? with|some r=>bif bq pred j&&qki r.v then(j,d)::kn else kn|none=>kn
def opH{R:Type}(P:Program)(tb:Tb)(ops:Array Oper)(t:St)(pred:List Nat)(Rs:List HR)(kn:List (Nat×Bool))(o:Oper)(K:AV->List (Nat×ag)->List (Nat×Bool)->Option R):Option R:=
 match o.guard with
 |none=>exH P tb t pred Rs kn o fun v new=>K v new kn
 |some (j,want)=>match wo ops t j with
  |none=>none|some none=>K (.val undef) [] kn|some (some b)=>match(bif bq pred j then qfi kn j else none) with
   |some d=>bif d==want then(exH P tb t pred Rs kn o fun v new=>K v new kn) else K (.val undef) [] kn
   |none=>bif b then(bif want then(exH P tb t pred Rs (vt pred Rs j true kn) o fun v new=>K v new (vt pred Rs j true kn)) else K (.val undef) [] (vt pred Rs j true kn))
    else(bif want then K (.val undef) [] (vt pred Rs j false kn) else(exH P tb t pred Rs (vt pred Rs j false kn) o fun v new=>K v new (vt pred Rs j false kn)))
def qp3{R:Type}(P:Program)(tb:Tb)(ops:Array Oper)(s:St)(K:List HR->List (Nat×Bool)->Option R):List Oper->Nat->List HR->List (Nat×Bool)->Option R
 |[],_,Rs,kn=>K Rs kn|o::l,i,Rs,kn=>match o.dst,ni Rs o.after.toList with
  |some d,some pred=>bif Nat.blt d s.n&&bh (s.nx+32*d) s.hp&&ph d Rs&&rl pred (jj ops o) Rs 0&&rx ops d pred i then
    opH P tb ops (tf pred Rs 0 s) pred Rs kn o fun v new kn'=>qp3 P tb ops s K l (i+1) (Rs++[⟨d,v,new,pred⟩]) kn'
   else none
  |_,_=>none
def qyc:List Oper->Nat->Nat|[],n=>n|o::l,n=>bif Nat.ble 2 n&&qlm o (n-2) then qyc l (n-1) else n-1
def q9y(ops:Array Oper):List Oper->Nat->Nat|[],n=>n|o::l,n=>bif zdd ops o n then n else q9y ops l (n+1)
def jh(ops:Array Oper):Nat:=q9y ops (ops.toList.drop (qyc ops.toList.reverse ops.toList.length)) (qyc ops.toList.reverse ops.toList.length)
def zb(Rs:List HR)(kn:List (Nat×Bool)):List (Nat×Bool)->St->St
 |[],s=>s|(j,_)::l,s=>match qfi kn j,Rs[j]? with|some d,some r=>(zb Rs kn l s).know (.tmp r.dst) d|_,_=>zb Rs kn l s
def qyy{R:Type}(P:Program)(tb:Tb)(ops:Array Oper)(E:AV->St->Option R)(s:St)(K:St->Option R):Option R:=
 bif ld ops.toList 0&&ol ops (jh ops)&&Nat.ble (jh ops) ops.toList.length then
  qp3 P tb ops s (fun Rs kn=>qbt P tb ops E (ops.toList.drop (jh ops)) (zb Rs kn kn (mq Rs s)) K) (ops.toList.take (jh ops)) 0 [] []
 else none
section
variable{P:Program}{z5m:World}{z5g:Gh}{z5j:List (Nat×ag)}{G:Gh}{a:Act}{w:World}{R:Type}{tb:Tb}{s:St}{E:AV->St->Option R}
def ku(Rs:List HR)(kn:List (Nat×Bool)):Prop:=∀j d,qfi kn j=some d->∃r,Rs[j]? = some r/\r.v = .bool d
def zjr{pred:List Nat}{Rs:List HR}{j:Nat}{d:Bool}{kn:List (Nat×Bool)}(hk:ku Rs kn)(h:∀r,Rs[j]? = some r->bq pred j=true->qki r.v=true->r.v = .bool d):ku Rs (vt pred Rs j d kn):=by
 unfold vt;split
 ·rename_i r hr;cases hb:bq pred j&&qki r.v
  ·exact hk
  ·simp at hb;intro j' d' h';simp[qT,qfi]at h';cases hq:Nat.beq j j'
   ·rw[hq]at h';exact hk j' d' h'
   ·rw[hq]at h';simp at h';subst h';have:=qN hq;subst this;exact⟨r,hr,h r hr hb.1 hb.2⟩
 ·exact hk
def zd0{t:Nat}:∀{rs:List HR}{j0 j:Nat},qq5 t rs j0=some j->∃k r,j=j0+k/\rs[k]? = some r/\r.dst=t
 |[],j0,j,h=>by cases h
 |r::rs,j0,j,h=>by
  simp[qq5]at h;cases hq:Nat.beq r.dst t
  ·rw[hq]at h;obtain⟨k,r',h1,h2,h3⟩:=zd0 h;exact⟨k+1,r',oA,by simpa using h2,h3⟩
  ·rw[hq]at h;simp at h;exact⟨0,r,oA,oC,qN hq⟩
def qps(hT:∀e∈tb.ents,e.Sound P){t:St}{pred:List Nat}{Rs:List HR}{kn:List (Nat×Bool)}{o:Oper}{K:AV->List (Nat×ag)->Option R}{x:R}(hkn:ku Rs kn)(hv:∀j r,bq pred j=true->Rs[j]? = some r->ae t.fr r.dst=some r.v)
  (h:exH P tb t pred Rs kn o K=some x):∃ps d v new,fb P t d o=some (ps,v,new)/\aq ps/\K v new=some x:=by
 unfold exH at h;split at h
 ·rename_i q hq;obtain⟨d,h1,h2⟩:=Rq.K_some h;split at h2
  ·rename_i ps v new ha;refine⟨ps,d,v,new,ha,?_,h2⟩;unfold q7r at hq;split at hq
   ·rename_i d' hd;simp at hq;subst hq;have h1:d = .b d':=h1;subst h1;unfold za7 at hd;split at hd
    ·rename_i c y z hop;split at hd
     ·rename_i j hj;obtain⟨k,r,rfl,i1,i2⟩:=zd0 hj;rw[wO]at hd;cases hm:bq pred k<;>rw[hm]at hd<;>simp at hd
      obtain⟨r',j1,j2⟩:=hkn k d' hd;rw[i1]at j1;have:=qJ j1;subst this;have hl:=hv k r hm i1;rw[i2,j2]at hl;unfold fb at ha;rw[hop]at ha;have hev:t.ev (.tmp c)=some (.bool d'):=hl;simp[cz,hev]at ha;split at ha
      ·rename_i ps1 v1 e;simp at ha;obtain⟨rfl,_,_⟩:=ha;split at e
       ·simp at e;obtain⟨rfl,_⟩:=e;exact⟨trivial,trivial⟩
       ·cases e
      ·unfold je at ha;rw[hop]at ha;cases ha
     ·cases hd
    ·cases hd
   ·exact q7u hT hq h1 ha
  ·cases h2
 ·cases h
def zcp(hT:∀e∈tb.ents,e.Sound P){ops:Array Oper}{t:St}{pred:List Nat}{Rs:List HR}{kn:List (Nat×Bool)}{o:Oper}{K:AV->List (Nat×ag)->List (Nat×Bool)->Option R}{x:R}(hkn:ku Rs kn)
  (hv:∀j r,bq pred j=true->Rs[j]? = some r->ae t.fr r.dst=some r.v) (hd:∀(j:Nat)(r:HR),bq pred j=true->Rs[j]? = some r->∃oj:Oper,ops[j]? = some oj/\oj.dst=some r.dst)
  (h:opH P tb ops t pred Rs kn o K=some x):∃ps,∃c:uw,∃v new kn',jx P ops t c o=some (ps,v,new)/\aq ps/\ku Rs kn'/\K v new kn'=some x:=by
 unfold opH at h;unfold jx;split at h
 ·rename_i hg;obtain⟨ps,d,v,new,h1,h2,h3⟩:=qps hT hkn hv h;exact⟨ps,(false,d),v,new,kn,by rw[hg];exact h1,h2,hkn,h3⟩
 ·rename_i j want hg;split at h
  ·cases h
  ·rename_i hgo;exact⟨[],(false,.none),_,_,kn,by simp[hg,hgo],trivial,hkn,h⟩
  ·rename_i b hgo;have hb:∀r,Rs[j]? = some r->bq pred j=true->qki r.v=true->r.v = .bool b:=fun r hr hm hi=>by
    obtain⟨oj,k1,k2⟩:=hd j r hm hr;have hl:=hv j r hm hr;unfold wo at hgo;simp[k1,k2,hl]at hgo;cases hrv:r.v<;>rw[hrv]at hi<;>simp[qki,wJ]at hi
    rw[hrv]at hgo;simp at hgo;subst hgo;rfl
   split at h
   ·rename_i d hkd;cases hm:bq pred j<;>rw[hm]at hkd<;>simp at hkd
    obtain⟨r,i1,i2⟩:=hkn j d hkd;have hbd:b=d:=by
     have:=hb r i1 hm (by rw[i2];rfl)
     rw[i2]at this;simpa using this.symm
    cases hw:d==want<;>rw[hw]at h<;>simp at h
    ·exact⟨[b=d],(d,.none),_,_,kn,by simp[hg,hgo,hw],⟨hbd,trivial⟩,hkn,h⟩
    ·obtain⟨ps,d',v,new,h1,h2,h3⟩:=qps hT hkn hv h;exact⟨(b=d)::ps,(d,d'),v,new,kn,by simp[hg,hgo,hw,h1],⟨hbd,h2⟩,hkn,h3⟩
   ·have hkn':∀d,b=d->ku Rs (vt pred Rs j d kn):=fun d e=>zjr hkn (by subst e;exact hb)
    cases b<;>cases want<;>simp at h
    ·obtain⟨ps,d',v,new,h1,h2,h3⟩:=qps hT (hkn' false rfl) hv h;exact⟨(false=false)::ps,(false,d'),v,new,_,by simp[hg,hgo,h1],⟨rfl,h2⟩,hkn' false rfl,h3⟩
    ·exact⟨[false=false],(false,.none),_,_,_,by simp[hg,hgo],⟨rfl,trivial⟩,hkn' false rfl,h⟩
    ·exact⟨[true=true],(true,.none),_,_,_,by simp[hg,hgo],⟨rfl,trivial⟩,hkn' true rfl,h⟩
    ·obtain⟨ps,d',v,new,h1,h2,h3⟩:=qps hT (hkn' true rfl) hv h;exact⟨(true=true)::ps,(true,d'),v,new,_,by simp[hg,hgo,h1],⟨rfl,h2⟩,hkn' true rfl,h3⟩
def q7h{sel:List Nat}{d:Nat}:∀{rs:List HR}{j:Nat}{t:St},(∀r∈rs,r.dst≠d)->ae (tf sel rs j t).fr d=ae t.fr d
 |[],_,_,_=>rfl|r::rs,j,t,h=>by
  simp[tf];rw[q7h (fun r' hr'=>h r' (qE _ hr'))]
  cases bq sel j
  ·rfl
  ·simp[qT,St.addR,ae];have:=h r qH;cases hq:Nat.beq r.dst d
   ·rfl
   ·exact absurd (qN hq) this
def q7g{sel:List Nat}:∀{rs:List HR}{j k:Nat}{t:St}{r:HR},rs[k]? = some r->bq sel (j+k)=true->(∀k' r',k<k'->rs[k']? = some r'->r'.dst≠r.dst)->ae (tf sel rs j t).fr r.dst=some r.v
 |[],_,_,_,_,h,_,_=>by simp at h|r0::rs,j,0,t,r,h,hm,hd=>by
  simp at h;subst h;simp[tf];rw[q7h (fun r' hr'=>by
   obtain⟨k,hk⟩:=List.getElem?_of_mem hr';exact hd (k+1) r' oA (by simpa using hk))]
  rw[Nat.add_zero]at hm;rw[hm];simp[St.addR,ae]
 |r0::rs,j,k+1,t,r,h,hm,hd=>by
  simp[tf];exact q7g (k:=k) (by simpa using h) (by rw[show j+1+k=j+(k+1) by omega];exact hm) (fun k' r' hk hr'=>hd (k'+1) r' oA (by simpa using hr'))
def q7c{d:Nat}:∀{rs:List HR}{t:St},(∀r∈rs,r.dst≠d)->ae (mq rs t).fr d=ae t.fr d
 |[],_,_=>rfl|r::rs,t,h=>by
  simp[mq];rw[q7c (fun r' hr'=>h r' (qE _ hr'))]
  show(bif Nat.beq r.dst d then some r.v else ae t.fr d)=_
  cases hb:Nat.beq r.dst d
  ·rfl
  ·exact absurd (qN hb) (h r qH)
def q7b:∀{rs:List HR}{k:Nat}{t:St}{r:HR},rs[k]? = some r->(∀k' r',k<k'->rs[k']? = some r'->r'.dst≠r.dst)->ae (mq rs t).fr r.dst=some r.v
 |[],_,_,_,h,_=>by simp at h|r0::rs,0,t,r,h,hd=>by
  simp at h;subst h;simp[mq];rw[q7c (fun r' hr'=>by
   obtain⟨k,hk⟩:=List.getElem?_of_mem hr';exact hd (k+1) r' oA (by simpa using hk))]
  show(bif Nat.beq r0.dst r0.dst then some r0.v else ae t.fr r0.dst)=_
  simp
 |r0::rs,k+1,t,r,h,hd=>by
  simp[mq];exact q7b (k:=k) (by simpa using h) (fun k' r' hk hr'=>hd (k'+1) r' oA (by simpa using hr'))
def za8{Rs:List HR}(hdis:∀(k k':Nat)(r r':HR),k<k'->Rs[k]? = some r->Rs[k']? = some r'->r'.dst≠r.dst)(hr:ai z5m z5g z5j G (mq Rs s) a w){kn:List (Nat×Bool)}(hkn:ku Rs kn):∀{l:List (Nat×Bool)},ai z5m z5g z5j G (zb Rs kn l (mq Rs s)) a w
 |[]=>hr|(j,_)::l=>by
  have ih:=za8 hdis hr hkn (l:=l);unfold zb;split
  ·rename_i d r h0 h1;obtain⟨r',i1,h2⟩:=hkn j d h0;rw[h1]at i1;have:=qJ i1;subst this;refine ih.know ?_;obtain⟨v,v1,v2⟩:=hr.frame r.dst _ (q7b h1 (fun k' r' hk hr'=>hdis j k' r r' hk h1 hr'))
   rw[h2]at v2;have v2:v = .bool d:=v2;subst v2;show a.tmps.getD r.dst undef=_;rw[Array.getD_eq_getD_getElem?,v1];rfl
  ·exact ih
def zai(hT:∀e∈tb.ents,e.Sound P){ops:Array Oper}{K:List HR->List (Nat×Bool)->Option R}{x:R}:∀(l:List Oper)(i:Nat)(Rs:List HR)(kn:List (Nat×Bool)),(∀j,j<l.length->ops[i+j]? = l[j]?)->Rs.length=i->ku Rs kn ->
  (∀j o,j<i->ops[j]? = some o->HOk P ops s Rs j o)->qp3 P tb ops s K l i Rs kn=some x->∃Rs' kn',K Rs' kn'=some x/\ku Rs' kn'/\Rs'.length=i+l.length/\∀j o,j<i+l.length->ops[j]? = some o->HOk P ops s Rs' j o
 |[],i,Rs,kn,_,ac,hkn,hH,h=>⟨Rs,kn,h,hkn,ac,hH⟩|o::l,i,Rs,kn,hl,ac,hkn,hH,h=>by
  have ho:ops[i]? = some o:=by have:=hl 0 oC;simpa using this
  have hops:∀j,j<i->∃oj,ops[j]? = some oj:=fun j hj=>by
   have:i<ops.size:=(Array.getElem?_eq_some_iff.1 ho).1;exact⟨ops[j],by simp[show j<ops.size by omega]⟩
  simp[qp3]at h;split at h
  ·rename_i d pred hd hp;cases hb:Nat.blt d s.n&&bh (s.nx+32*d) s.hp&&ph d Rs&&rl pred (jj ops o) Rs 0&&rx ops d pred i<;>rw[hb]at h<;>simp at h
   simp only[qA]at hb;obtain⟨⟨⟨⟨b1,b2⟩,b3⟩,b4⟩,b5⟩:=hb;have hdst:∀(j:Nat)(r:HR),Rs[j]? = some r->∃oj:Oper,ops[j]? = some oj/\oj.dst=some r.dst:=fun j r hr=>by
    have hj:j<i:=by have:=(List.getElem?_eq_some_iff.1 hr).1;omega
    obtain⟨oj,hoj⟩:=hops j hj;obtain⟨r',_,_,k1,k2,_⟩:=hH j oj hj hoj;rw[hr]at k1;have:=qJ k1;subst this;exact⟨oj,hoj,k2⟩
   have hdis:∀(k k':Nat)(r r':HR),k<k'->Rs[k]? = some r->Rs[k']? = some r'->r'.dst≠r.dst:=fun k k' r r' hkk hr hr' e=>by
    have hk':k'<i:=by have:=(List.getElem?_eq_some_iff.1 hr').1;omega
    obtain⟨oj,hoj⟩:=hops k' hk';obtain⟨r2,_,_,k1,_,_,_,_,k6,_⟩:=hH k' oj hk' hoj;rw[hr']at k1;have:=qJ k1;subst this;exact yy.1 k6 r (List.mem_of_getElem? (i:=k) (by rw[List.getElem?_take,qX hkk];exact hr)) e.symm
   obtain⟨ps,c,v,new,kn',h1,h2,h3,h4⟩:=zcp hT hkn (fun j r hm hr=>q7g (k:=j) hr (by rw[wO];exact hm) (fun k' r' hk hr'=>hdis j k' r r' hk hr hr')) (fun j r _ hr=>hdst j r hr) h
   obtain⟨Rs',kn2,k1,kk,k2,k3⟩:=zai hT l (i+1) (Rs++[⟨d,v,new,pred⟩]) kn' (fun j hj=>by have:=hl (j+1) oE;simpa [Nat.add_assoc,Nat.add_comm 1 j] using this) (by simp[ac])
    (fun j d' hj=>by
     obtain⟨r,i1,i2⟩:=h3 j d' hj;exact⟨r,by rw[List.getElem?_append_left (List.getElem?_eq_some_iff.1 i1).1];exact i1,i2⟩)
    (fun j oj hj hoj=>by
     by_cases hji:j<i
     ·obtain⟨r,ps',c',j1,j2,j3,j4,j5,j6,j7,j8,j9,j10⟩:=hH j oj hji hoj;have ht:(Rs++[(⟨d,v,new,pred⟩:HR)]).take j=Rs.take j:=by rw[List.take_append_of_le_length oA]
      exact⟨r,ps',c',by rw[List.getElem?_append_left oA];exact j1,j2,j3,j4,by rw[ht];exact j5,by rw[ht];exact j6,by rw[ht];exact j7,j8,by rw[ht];exact j9,j10⟩
     ·have:j=i:=oA
      subst this;rw[ho]at hoj;have:=qJ hoj;subst this;have ht:(Rs++[(⟨d,v,new,pred⟩:HR)]).take j=Rs:=by rw[← ac,List.take_left]
      exact⟨⟨d,v,new,pred⟩,ps,c,by rw[← ac];simp,hd,Nat.lt_of_lt_of_le (Nat.lt_succ_self d) (Nat.le_of_ble_eq_true b1),b2,by rw[ht];exact hp,by rw[ht];exact b3,by rw[ht];exact b4,b5,by rw[ht];exact h1,h2⟩)
    h4
   exact⟨Rs',kn2,k1,kk,by rw[k2,qL];omega,fun j oj hj=>k3 j oj (by rw[qL]at hj;omega)⟩
  ·cases h
def q19(hT:∀e∈tb.ents,e.Sound P){ops:Array Oper}{K:St->Option R}{x:R}{n:Nat}{N:Act->World->Prop}(he:ld ops.toList 0=true)(ht:ol ops n=true)(hN:∀s',K s'=some x->∀G' a' w',ai z5m z5g z5j G' s' a' w'->N a' w')
  (hE:∀t n s',E (ep t n) s'=some x->∀G' a' w',ia z5m z5g z5j G' s' a' w'->TT [{ v:=wv t n,recovered:=false }] a' w') :
  ∀(l:List Oper)(m:Nat),n<=m->ops.toList.drop m=l->m<=ops.size->∀(s:St)(G:Gh)(a:Act)(w:World)(listed:Array Bool),qbt P tb ops E l s K=some x->ai z5m z5g z5j G s a w->yc ops m listed->jz P TT ops N (ops.size-m) listed a w
 |[],m,hn,hl,hm,s,G,a,w,listed,h,hr,hu=>by
  have:m=ops.size:=by
   have:=congrArg List.length hl;simp at this;omega
  subst this;exact zud hu (hN s h G a w hr)
 |o::l,m,hn,hl,hm,s,G,a,w,listed,h,hr,hu=>by
  have hlt:m<ops.size:=by
   have:=congrArg List.length hl;simp at this;omega
  have ho:ops[m]? = some o:=by
   have:=congrArg (fun l=>l[0]?) hl
   simpa using this
  refine zue he ht hn hlt hu (zco hT hr ho h (fun s' h' G' a' w' hr' listed' hu' => ?_) hE)
  exact q19 hT he ht hN hE l (m+1) oA (by rw[← List.drop_drop,hl];rfl) oA s' G' a' w' listed' h' hr' hu'
def zm6(hT:∀e∈tb.ents,e.Sound P)(hm:P.follows .mixedOrders=true){ops:Array Oper}{K:St->Option R}{x:R}(h:qyy P tb ops E s K=some x){N:Act->World->Prop}(hN:∀s',K s'=some x->∀G' a' w',ai z5m z5g z5j G' s' a' w'->N a' w')
  (hE:∀t n s',E (ep t n) s'=some x->∀G' a' w',ia z5m z5g z5j G' s' a' w'->TT [{ v:=wv t n,recovered:=false }] a' w')
  (hr:ai z5m z5g z5j G s a w) (id:Nat) (b:Frame) (k:List Item) (cs:List Frame) (hk:b.kind = .normal) :
  (∃a' w',N a' w'/\Steps P (lone (b.atR a.bs (.code (.region id ops true)::k)) cs w) (lone (b.atR a'.bs k) cs w'))\/jd P b.fn TT (lone (b.atR a.bs (.code (.region id ops true)::k)) cs w) cs:=by
 unfold qyy at h;generalize jh ops=n at h;cases hb:ld ops.toList 0&&ol ops n&&Nat.ble n ops.toList.length<;>rw[hb]at h<;>simp at h
 simp only[qA]at hb;obtain⟨⟨b1,b2⟩,b3⟩:=hb;have hn:n<=ops.size:=by have:=Nat.le_of_ble_eq_true b3;simpa using this
 have ac:(ops.toList.take n).length=n:=by simp;omega
 obtain⟨Rs,kn,k1,kk,k2,k3⟩:=zai hT (ops.toList.take n) 0 [] [] (fun j hj=>by
  rw[ac]at hj;rw[List.getElem?_take,qX hj,wO];simp) rfl (fun j d h=>by cases h) (fun j o hj=>oA) h
 rw[wO,ac]at k2 k3;have hdis:∀(k k':Nat)(r r':HR),k<k'->Rs[k]? = some r->Rs[k']? = some r'->r'.dst≠r.dst:=fun k k' r r' hkk hr hr' e=>by
  have hk':k'<n:=by have:=(List.getElem?_eq_some_iff.1 hr').1;omega
  obtain⟨oj,hoj⟩:∃oj,ops[k']? = some oj:=⟨ops[k'],by simp[show k'<ops.size by omega]⟩
  obtain⟨r2,_,_,j1,_,_,_,_,j6,_⟩:=k3 k' oj hk' hoj;rw[hr']at j1;have:=qJ j1;subst this;exact yy.1 j6 r (List.mem_of_getElem? (i:=k) (by rw[List.getElem?_take,qX hkk];exact hr)) e.symm
 exact zm9 hn b1 b2 hm k2 k3 (fun G a w listed hr' hu=>q19 hT b1 b2 hN hE _ n (wF _) rfl hn _ G a w listed k1 (za8 hdis hr' kk) hu) hr id b k cs hk
end
mutual
def qow:AV->List Nat|.ptr b _=>[b]|.own k=>[k]|.oel k _ _ _=>[k]|.osl k _ _=>[k]|.iface _ x=>qow x|.agg xs=>qa4 xs|.fn _ fs xs=>qa4 fs++qa4 xs|_=>[]
def qa4:List AV->List Nat|[]=>[]|x::xs=>qow x++qa4 xs
end
def qln(s:St):List Nat->List Nat
 |[]=>[]| k::ks=>(match ae s.hp k with
  |some (.cells cs _)=>qa4 cs| _=>[])++qln s ks
def zrr(lo:Nat):List Nat:=[lo,lo+1,lo+2,lo+3,lo+4,lo+5,lo+6,lo+7,lo+8,lo+9,lo+10,lo+11,lo+12,lo+13,lo+14,lo+15]
def o5(s:St)(l:List Oper):Nat->Operand->List Nat
 |0,_=>[]|n+1,x=>match x with
  |.tmp t=>match l.find? (fun o=>match o.dst with|some d=>Nat.beq d t|none=>false) with
   |some o=>match o.op with|.move y=>o5 s l n y|.assign y=>o5 s l n y|.fieldAddr _ y _=>o5 s l n y|.indexAddr _ y _=>o5 s l n y|.nilCheck y=>o5 s l n y|.load _ y=>qln s (o5 s l n y)|.alloc _=>[s.nx+32*t]|.box _ _=>[s.nx+32*t]|.buildSlice _ _ _=>[s.nx+32*t]|.call { callee := .builtin .append,args:=_,argTypes:=_ }=>[s.nx+32*t]|.call _=>zrr (s.nx+32*t)|_=>[]
   |none=>match s.ev x with|some v=>qow v|none=>[]
  |x=>match s.ev x with|some v=>qow v|none=>[]
def qeh(s:St)(l:List Oper):List Operand->List Nat|[]=>[]|x::xs=>o5 s l 8 x++qeh s l xs
def zb1(f:FuncId):List cf->Bool|[]=>false|e::es=>((ua f e.key||qkm f e.key) && !(match e.hp with|[]=>true|_=>false))||zb1 f es
def zlm(tb:Tb)(s:St)(l:List Oper)(o:Oper):List Nat:=match o.guard with
 |some _=>[]|none=>match o.op with
  |.store _ x _=>o5 s l 8 x|.call { callee := .builtin .append,args,argTypes:=_ }=>match args.toList with|x::_=>o5 s l 8 x|[]=>[]
  |.call { callee := .value g,args,argTypes:=_ }=>match s.ev g with|some (.fn (.func f) fst cap)=>bif zb1 f tb.ents then(qeh s l args.toList++qa4 (fst++cap))++qln s (qeh s l args.toList++qa4 (fst++cap)) else[]|some _=>[]|none=>(qeh s l args.toList++o5 s l 8 g)++qln s (qeh s l args.toList++o5 s l 8 g)
  |_=>[]
def q0l(s:St)(l:List Oper):Nat->Operand->List Nat
 |0,_=>[]|n+1,x=>match x with
  |.tmp t=>match l.find? (fun o=>match o.dst with|some d=>Nat.beq d t|none=>false) with
   |some o=>match o.op with|.move y=>q0l s l n y|.assign y=>q0l s l n y|.load _ y=>qln s (o5 s l n y)|.build _ parts=>qeh s l (parts.toList.map (·.2))|_=>[]
   |none=>match s.ev x with|some (.agg xs)=>qbu xs|_=>[]
  |_=>[]
def q0m(s:St)(l:List Oper):List Operand->List Nat|[]=>[]|x::xs=>q0l s l 8 x++q0m s l xs
def q08(s:St)(all:List Oper):List Oper->List Nat
 |[]=>[]| o::l=>(match o.op with
  |.call { callee := .value g,args,argTypes:=_ }=>match s.ev g with|some (.fn (.func _) _ _)=>q0m s all args.toList|_=>[]
  |.buildSlice _ _ parts=>q0m s all (parts.toList.map (·.2))| _=>[])++q08 s all l
def zag:List Oper->List HR->List (List Nat)
 |[],_=>[]|o::l,Rs=>match ni Rs o.after.toList with|some p=>p::zag l (Rs++[⟨0,.undef,[],p⟩])|none=>[]
def qyb(tb:Tb)(s:St)(all:List Oper):List Oper->List (List Nat)->Nat->List (Nat×List Nat×List Nat)
 |o::l,p::ps,i=>match zlm tb s all o with|[]=>qyb tb s all l ps (i+1)|K=>(i,K,p)::qyb tb s all l ps (i+1)
 |_,_,_=>[]
def qj4(i:Nat):List (Nat×List Nat×List Nat)->Option (List Nat×List Nat)|[]=>none|(m,r)::l=>bif Nat.beq m i then some r else qj4 i l
def zo(l pred:List Nat):Bool:=match l with|[]=>true|x::xs=>bq pred x&&zo xs pred
def zm(pred:List Nat):List (Nat×Md)->Bool|[]=>true|(m,_)::r=>bq pred m&&zm pred r
def qqd(s:St)(Rs:List HR)(k:Nat):List Nat->Bool
 |[]=>false| c::cs=>(match Rs[c]? with
  |some r=>Nat.ble (s.nx+32*r.dst) k&&Nat.blt k (s.nx+32*r.dst+32)| none=>false)||qqd s Rs k cs
def zf(s:St)(Rs:List HR)(pred:List Nat)(dst:Nat)(K:List Nat):List (Nat×ag)->Bool|[]=>true|e::r=>((Nat.ble (s.nx+32*dst) e.1&&Nat.blt e.1 (s.nx+32*dst+32))||(bq K e.1&&((match ae s.hp e.1 with|some _=>true|none=>false)||qqd s Rs e.1 pred)))&&zf s Rs pred dst K r
def zg(dst:Nat):List (Nat×AV)->Bool|[]=>true|e::r=>Nat.beq e.1 dst&&zg dst r
def qqi(Ms:List (Nat×Md))(j:Nat):Bool:=match ae Ms j with|some _=>false|none=>true
def yn(Ms:List (Nat×Md)):List Nat->List Nat|[]=>[]|x::xs=>bif qqi Ms x then x::yn Ms xs else yn Ms xs
def cq(s:St)(i:Nat):Option Tmp->Nat|some t=>t|none=>s.n+i
def qex(s:St):Option Tmp->Bool|some t=>Nat.blt t s.n|none=>true
def qom(j:Nat):List Edge->Bool|[]=>false|e::es=>(Region.binds .any e&&Nat.ble j e.on)||qom j es
def qff(j:Nat):List Oper->Bool|[]=>true|o::l=>qom j o.after.toList&&qff j l
def qpj:List HR->List Nat|[]=>[]|r::rs=>r.dst::qpj rs
def qku:List (Nat×ag)->List Nat|[]=>[]|(n,_)::r=>n::qku r
def q0i:List HR->List Nat|[]=>[]|r::rs=>qku r.new++q0i rs
def q0j:List (Nat×Md)->List Nat|[]=>[]|(_,m)::r=>qku m.h++q0j r
def qkb(K:List Nat):List (Nat×AV)->List (Nat×AV)|[]=>[]|(n,b)::r=>bif bq K n then qkb K r else(n,b)::qkb K r
def qpa:List Nat->List (Nat×ag)|[]=>[]|n::r=>(n,.dead)::qpa r
def ze7(s:St)(Rs:List HR)(Ms:List (Nat×Md))(md:Md):St:={ s with fr:=qkb (qpj Rs) s.fr,hp:=qpa (qku md.h++(q0j Ms++q0i Rs))++s.hp }
def q10(P:Program)(s t:St)(K:List Nat)(o:Oper):Option (Tmp×TypeId×Nat×Nat×Nat):=match o.guard,o.op,o.dst with
 |none,.load T x,some d=>match t.ev x with
  | some (.ptr b off)=>bif bq K b then(match ae s.hp b with
   |some (.cells cs _)=>match iu P T cs off with|some (.own k)=>some (d,T,b,off,k)|_=>none
   | _=>none) else none
  |_=>none
 |_,_,_=>none
def qft(P:Program)(T:TypeId)(b off k:Nat):List (Nat×Md)->Bool
 |[]=>true| (_,md)::r=>(match ae md.h b with
  |none=>true| some (.cells cs _)=>(match iu P T cs off with
   |some (.own k')=>Nat.beq k k'| _=>false)
  | some _=>false)&&qft P T b off k r
def y4{R:Type}(P:Program)(tb:Tb)(ops:Array Oper)(E:AV->St->Option R)(s:St)(Cs:List (Nat×List Nat×List Nat))(fin:List (Nat×Md)->List HR->List (Nat×Bool)->Option R):List Oper->Nat->List HR->List (Nat×Bool)->List (Nat×Md)->Option R
 |[],_,Rs,kn,Ms=>fin Ms Rs kn|o::l,i,Rs,kn,Ms=>match ni Rs o.after.toList with
  |none=>none|some pred=>bif qex s o.dst&&bh (s.nx+32*cq s i o.dst) s.hp&&ph (cq s i o.dst) Rs&&rl pred (jj ops o) Rs 0&&rx ops (cq s i o.dst) pred i then
    match qj4 i Cs,o.guard with
    |some (K,Pm),none=>match wa P tb ((dz Ms pred Rs 0 s).hide (gp Cs pred i)) o.op with
     |some q=>q.K fun d=>match fb P ((dz Ms pred Rs 0 s).hide (gp Cs pred i)) d o,o.dst with
      |some (_,v,new),some tt=>y4 P tb ops E s Cs fin l (i+1) (Rs++[⟨tt,v,new,pred⟩]) kn Ms|_,_=>match qbn P ((dz Ms pred Rs 0 s).hide (gp Cs pred i)) d o with
       |some (_,md)=>bif zf s Rs pred (cq s i o.dst) K md.h&&zg (cq s i o.dst) md.f&&zo Pm pred&&zm pred Ms then
         y4 P tb ops E s Cs fin l (i+1) (Rs++[⟨cq s i o.dst,.undef,[],pred⟩]) kn ((i,md)::Ms) else none
       |none=>none
     |none=>match qb6 tb ((dz Ms pred Rs 0 s).hide (gp Cs pred i)) o with
      |some q=>q.1.K fun d=>match d with
       |.mem N xs hp r hp'=>match ww ((dz Ms pred Rs 0 s).hide (gp Cs pred i)) True q.2.1 N xs hp r hp' q.2.2 with
        |some (_,md)=>match lr r with
         |none=>bif zf s Rs pred (cq s i o.dst) K md.h&&zg (cq s i o.dst) md.f&&zo Pm pred&&zm pred Ms then
           y4 P tb ops E s Cs fin l (i+1) (Rs++[⟨cq s i o.dst,.undef,[],pred⟩]) kn ((i,md)::Ms) else none
         |some (t,n)=>bif qff i (ops.toList.drop (i+1)) then E (ep t n) (ze7 s (Rs++[⟨cq s i o.dst,.undef,[],pred⟩]) Ms md) else none
        |none=>none
       |_=>none
      |none=>none
    |_,_=>match q10 P s ((dz Ms pred Rs 0 s).hide (gp Cs pred i)) (gp Cs pred i) o with
     |some (d,T,b,off,k)=>y4 P tb ops (fun _ _=>none) s Cs (fun Ms' Rs' kn'=>bif qft P T b off k Ms' then fin Ms' Rs' kn' else none) l (i+1) (Rs++[⟨d,.own k,[],pred⟩]) kn Ms
     |none=>match o.dst with
      |some d=>opH P tb ops ((dz Ms pred Rs 0 s).hide (gp Cs pred i)) (yn Ms pred) Rs kn o fun v new kn'=>y4 P tb ops E s Cs fin l (i+1) (Rs++[⟨d,v,new,pred⟩]) kn' Ms
      |none=>none
   else none
def qyx{R:Type}(P:Program)(tb:Tb)(ops:Array Oper)(E:AV->St->Option R)(s:St)(Cs:List (Nat×List Nat×List Nat))(K:St->Option R):Option R:=
 bif ld ops.toList 0&&ol ops (jh ops)&&Nat.ble (jh ops) ops.toList.length then
  y4 P tb ops E s Cs (fun Ms Rs kn=>qbt P tb ops E (ops.toList.drop (jh ops)) (zb Rs kn kn (dz Ms (List.range (jh ops)) Rs 0 s)) K) (ops.toList.take (jh ops)) 0 [] [] []
 else none
def qy0{R:Type}(P:Program)(tb:Tb)(ops:Array Oper)(E:AV->St->Option R)(s:St)(K:St->Option R):Option R:=
 match qyb tb s (ops.toList.take (jh ops)) (ops.toList.take (jh ops)) (zag (ops.toList.take (jh ops)) []) 0 with|[]=>qyy P tb ops E s K|Cs=>qyx P tb ops E s Cs K
def qyz{R:Type}(P:Program)(tb:Tb)(ops:Array Oper)(E:AV->St->Option R)(s:St)(K:St->Option R):Option R:=
 qy0 P tb ops E (frzL (q08 s (ops.toList.take (jh ops)) (ops.toList.take (jh ops))) s) K
section
variable{P:Program}{z5m:World}{z5g:Gh}{z5j:List (Nat×ag)}{G:Gh}{a:Act}{w:World}{R:Type}{tb:Tb}{s:St}{E:AV->St->Option R}
def zce{Ms:List (Nat×Md)}{j:Nat}:qqi Ms j=true↔ae Ms j=none:=by
 unfold qqi;cases ae Ms j<;>simp
def qqe{Ms:List (Nat×Md)}{j:Nat}:∀{l:List Nat},j∈yn Ms l↔j∈l/\ae Ms j=none
 |[]=>by simp[yn]|x::xs=>by
  simp[yn];cases hb:qqi Ms x
  ·simp only[qF,qqe (l:=xs),wE];refine⟨fun h=>⟨.inr h.1,h.2⟩,fun⟨h1,h2⟩=>⟨h1.resolve_left (fun e => ?_),h2⟩⟩
   subst e;rw[zce.2 h2]at hb;cases hb
  ·have:=zce.1 hb;simp[qT,wE,qqe (l:=xs)];refine⟨fun h => ?_,fun⟨h1,h2⟩ => ?_⟩
   ·rcases h with rfl|h
    ·exact⟨.inl rfl,this⟩
    ·exact⟨.inr h.1,h.2⟩
   ·rcases h1 with h1|h1
    ·exact .inl h1
    ·exact .inr ⟨h1,h2⟩
def q9x{i:Nat}{r:List Nat×List Nat}:∀{l:List (Nat×List Nat×List Nat)},qj4 i l=some r->(i,r)∈l
 |[],h=>by cases h
 |(m,r')::l,h=>by
  simp[qj4]at h;cases hb:Nat.beq m i<;>rw[hb]at h<;>simp only[qT,qF]at h
  ·exact qE _ (q9x h)
  ·simp only[qI]at h;subst h;rw[qN hb];exact qH
def zew{pred:List Nat}:∀{l:List Nat},zo l pred=true->∀j∈l,j∈pred
 |[],_,j,h=>by cases h
 |x::xs,h,j,hj=>by
  simp[zo,qA]at h;rcases List.mem_cons.1 hj with rfl|hj
  ·exact fc.1 h.1
  ·exact zew h.2 j hj
def zev{pred:List Nat}:∀{Ms:List (Nat×Md)},zm pred Ms=true->∀j,ae Ms j≠none->j∈pred
 |[],_,j,h=>absurd rfl h|(m,md)::r,h,j,hj=>by
  simp[zm,qA]at h;simp[ae]at hj;cases hb:Nat.beq m j<;>rw[hb]at hj<;>simp at hj
  ·exact zev h.2 j hj
  ·rw[← qN hb];exact fc.1 h.1
def zbt{Rs:List HR}{k:Nat}:∀{cs:List Nat},qqd s Rs k cs=true->∃c rc,c∈cs/\Rs[c]? = some rc/\m0 (s.nx+32*rc.dst) k
 |[],h=>by cases h
 |c::cs,h=>by
  simp[qqd,Bool.or_eq_true]at h;rcases h with h|h
  ·split at h
   ·rename_i r hr;simp only[qA,Nat.blt_eq]at h;exact⟨c,r,qH,hr,Nat.le_of_ble_eq_true h.1,h.2⟩
   ·cases h
  ·obtain⟨c',rc,h1,h2⟩:=zbt h;exact⟨c',rc,qE _ h1,h2⟩
def zbu{Rs:List HR}{pred:List Nat}{dst:Nat}{K:List Nat}:∀{l:List (Nat×ag)},zf s Rs pred dst K l=true->∀e∈l,m0 (s.nx+32*dst) e.1\/(e.1∈K/\((∃b,ae s.hp e.1=some b)\/∃c rc,c∈pred/\Rs[c]? = some rc/\m0 (s.nx+32*rc.dst) e.1))
 |[],_,e,he=>by cases he
 |x::r,h,e,he=>by
  simp only[zf,qA,Bool.or_eq_true]at h;rcases List.mem_cons.1 he with rfl|he
  ·rcases h.1 with h1|⟨h1,h2⟩
   ·simp only[Nat.blt_eq]at h1;exact .inl ⟨Nat.le_of_ble_eq_true h1.1,h1.2⟩
   ·refine .inr ⟨fc.1 h1,?_⟩;rcases h2 with h2|h2
    ·cases hq:ae s.hp e.1 with
     |none=>rw[hq]at h2;cases h2
     |some b=>exact .inl ⟨b,rfl⟩
    ·exact .inr (zbt h2)
  ·exact zbu h.2 e he
def zbv{dst:Nat}:∀{l:List (Nat×AV)},zg dst l=true->∀e∈l,e.1=dst
 |[],_,e,he=>by cases he
 |x::r,h,e,he=>by
  simp only[zg,qA]at h;rcases List.mem_cons.1 he with rfl|he
  ·exact qN h.1
  ·exact zbv h.2 e he
def qxg{Ms Ms':List (Nat×Md)}{sel:List Nat}:∀(rs:List HR)(j:Nat)(t:St),(∀k,k<j+rs.length->ae Ms k=ae Ms' k)->dz Ms sel rs j t=dz Ms' sel rs j t
 |[],_,_,_=>rfl|r::rs,j,t,h=>by
  simp[dz];rw[h j oC,qxg rs (j+1) _ (fun k hk=>h k oE)]
def q7f{Ms:List (Nat×Md)}{sel:List Nat}{d:Nat}:∀{rs:List HR}{j:Nat}{t:St},(∀(k:Nat)(r:HR),rs[k]? = some r->(ae Ms (j+k)=none->r.dst≠d)/\∀md,ae Ms (j+k)=some md->∀e∈md.f,e.1≠d)->ae (dz Ms sel rs j t).fr d=ae t.fr d
 |[],_,_,_=>rfl|r::rs,j,t,h=>by
  simp[dz];rw[q7f (fun k r' hr'=>by have:=h (k+1) r' (by simpa using hr');rwa [show j+(k+1)=j+1+k by omega]at this)]
  cases bq sel j
  ·rfl
  ·simp;have h0:=h 0 r oC
   rw[Nat.add_zero]at h0
   cases hm:ae Ms j with
   |none=>
    simp[St.addR,ae];cases hq:Nat.beq r.dst d
    ·rfl
    ·exact absurd (qN hq) (h0.1 hm)
   |some md=>
    simp[St.addM];rw[qko]
    cases hq:ae md.f d with
    |none=>rfl|some v=>
     obtain⟨e,he,hx⟩:=oa (l:=md.f) (m:=d) (by rw[hq];simp)
     exact absurd hx (h0.2 md hm e he)
def qxh{Ms:List (Nat×Md)}{sel:List Nat}:∀{rs:List HR}{j k:Nat}{t:St}{r:HR},rs[k]? = some r->bq sel (j+k)=true->ae Ms (j+k)=none ->
  (∀(k':Nat)(r':HR),k<k'->rs[k']? = some r'->r'.dst≠r.dst/\∀md,ae Ms (j+k')=some md->∀e∈md.f,e.1≠r.dst)->ae (dz Ms sel rs j t).fr r.dst=some r.v
 |[],_,_,_,_,h,_,_,_=>by simp at h|r0::rs,j,0,t,r,h,hm,hn,hd=>by
  simp at h;subst h;simp[dz];rw[q7f (fun k r' hr'=>by
   have:=hd (k+1) r' oA (by simpa using hr')
   rw[show j+(k+1)=j+1+k by omega]at this
   exact⟨fun _=>this.1,this.2⟩)]
  rw[Nat.add_zero]at hm hn;rw[hm,hn];simp[St.addR,ae]
 |r0::rs,j,k+1,t,r,h,hm,hn,hd=>by
  simp[dz];rw[show j+(k+1)=j+1+k by omega]at hm hn
  exact qxh (k:=k) (by simpa using h) hm hn (fun k' r' hk hr'=>by
   have:=hd (k'+1) r' oA (by simpa using hr')
   rwa [show j+(k'+1)=j+1+k' by omega]at this)
def ya(P:Program)(ops:Array Oper)(s:St)(Rs:List HR)(Ms:List (Nat×Md))(Cs:List (Nat×List Nat×List Nat))(U:List (Nat×TypeId×Nat×Nat))(i:Nat)(o:Oper)(r:HR):Prop:=
 (ae Ms i=none/\o.dst=some r.dst/\r.dst<s.n/\∃ps,∃c:uw,jx P ops (gw s Rs Ms Cs i r) c o=some (ps,r.v,r.new)/\aq ps) \/
 (∃md,ae Ms i=some md/\o.guard=none/\(∀t,o.dst=some t->t=r.dst/\t<s.n)/\qgr P o (gw s Rs Ms Cs i r) md) \/
 (∃b T off k,LdX P s Rs Ms Cs i o r b T off k/\(b,T,off,k)∈U)
structure HX(P:Program)(ops:Array Oper)(s:St)(Cs:List (Nat×List Nat×List Nat))(U:List (Nat×TypeId×Nat×Nat))(i:Nat)(Rs:List HR)(Ms:List (Nat×Md)):Prop where
 len:Rs.length=i
 all:∀j o,j<i->ops[j]? = some o->∃r,mp ops s Rs Ms Cs j o r/\ya P ops s Rs Ms Cs U j o r
 lt:∀j,ae Ms j≠none->j<i
 und:∀(j:Nat)(r:HR)(md:Md),Rs[j]? = some r->ae Ms j=some md->r.v = .undef
def HX.more{ops:Array Oper}{Cs:List (Nat×List Nat×List Nat)}{i:Nat}{Rs:List HR}{Ms Ms':List (Nat×Md)}{r0:HR}{U:List (Nat×TypeId×Nat×Nat)}(hI:HX P ops s Cs U i Rs Ms)(hM:∀j,j<i->ae Ms' j=ae Ms j){j:Nat}{o:Oper}{r:HR}(hj:j<i)
  (ok:mp ops s Rs Ms Cs j o r) (st:ya P ops s Rs Ms Cs U j o r):mp ops s (Rs++[r0]) Ms' Cs j o r/\ya P ops s (Rs++[r0]) Ms' Cs U j o r:=by
 have hl:=hI.len;have hg:∀k,k<i->(Rs++[r0])[k]? = Rs[k]? := fun k hk=>List.getElem?_append_left oA
 have ht:(Rs++[r0]).take j=Rs.take j:=by rw[List.take_append_of_le_length oA]
 have hf:e8 (Rs++[r0]) Ms' j=e8 Rs Ms j:=by unfold e8;rw[hM j hj,hg j hj]
 have hh:du (Rs++[r0]) Ms' j=du Rs Ms j:=by unfold du;rw[hM j hj,hg j hj]
 have hs:gw s (Rs++[r0]) Ms' Cs j r=gw s Rs Ms Cs j r:=by
  unfold gw;rw[ht,qxg (Rs.take j) 0 s (fun k hk=>hM k (by simp at hk;omega))]
 refine⟨⟨by rw[hg j hj];exact ok.get,ok.room,by rw[ht];exact ok.pred,by rw[ht];exact ok.fresh,by rw[ht];exact ok.reads,ok.writes,by rw[hf];exact ok.f,fun e he => ?_⟩,?_⟩
 ·rw[hh]at he;rcases ok.h e he with h|⟨h1,h2,h3,h4⟩
  ·exact .inl h
  ·refine .inr ⟨by rw[hM j hj];exact h1,h2,?_,fun k hk hkm=>h4 k hk (by rw[← hM k oA];exact hkm)⟩
   rcases h3 with h3|⟨c,rc,c1,c2,c3⟩
   ·exact .inl h3
   ·have:c<i:=by have:=(List.getElem?_eq_some_iff.1 c2).1;omega
    exact .inr ⟨c,rc,c1,by rw[hg c this];exact c2,c3⟩
 ·rcases st with⟨s1,s2,s3,s4⟩|⟨md,s1,s2,s3,s4⟩|⟨b,T,off,k,⟨s1,s2,s3,s4,s5,s6,s7,s8⟩,s9⟩
  ·exact .inl ⟨by rw[hM j hj];exact s1,s2,s3,by rw[hs];exact s4⟩
  ·exact .inr (.inl ⟨md,by rw[hM j hj];exact s1,s2,s3,by rw[hs];exact s4⟩)
  ·exact .inr (.inr ⟨b,T,off,k,⟨by rw[hM j hj];exact s1,s2,s3,s4,s5,s6,by rw[hs];exact s7,s8⟩,s9⟩)
def q87{ops:Array Oper}{Cs:List (Nat×List Nat×List Nat)}{i:Nat}{Rs:List HR}{Ms:List (Nat×Md)}(hi:i<=ops.size)(ac:Rs.length=i)(hall:∀j o,j<i->ops[j]? = some o->∃r,mp ops s Rs Ms Cs j o r):∀(k k':Nat)(r r':HR),k<k'->Rs[k]? = some r->Rs[k']? = some r'->r'.dst≠r.dst/\∀md,ae Ms k'=some md->∀e∈md.f,e.1≠r.dst:=fun k k' r r' hk h1 h2=>by
 have hk':k'<i:=by have:=(List.getElem?_eq_some_iff.1 h2).1;omega
 obtain⟨ok',hok'⟩:∃o,ops[k']? = some o:=⟨ops[k'],by simp[show k'<ops.size by omega]⟩
 obtain⟨r2,ok⟩:=hall k' _ hk' hok';have h3:=ok.get;rw[h2]at h3;injection h3 with h3;subst h3
 have hne:r'.dst≠r.dst:=fun e=>yy.1 ok.fresh r (List.mem_of_getElem? (i:=k) (by rw[List.getElem?_take,qX hk];exact h1)) e.symm
 refine⟨hne,fun md hmd e he => ?_⟩
 have:e8 Rs Ms k'=md.f:=by unfold e8;rw[hmd]
 rw[ok.f e (by rw[this];exact he)];exact hne
def HX.dis{ops:Array Oper}{Cs:List (Nat×List Nat×List Nat)}{i:Nat}{Rs:List HR}{Ms:List (Nat×Md)}{U:List (Nat×TypeId×Nat×Nat)}(hi:i<=ops.size)(hI:HX P ops s Cs U i Rs Ms):∀(k k':Nat)(r r':HR),k<k'->Rs[k]? = some r->Rs[k']? = some r'->r'.dst≠r.dst/\∀md,ae Ms k'=some md->∀e∈md.f,e.1≠r.dst:=
 q87 hi hI.len (fun j o h1 h2=>by obtain⟨r,ok,_⟩:=hI.all j o h1 h2;exact⟨r,ok⟩)
structure HXo(P:Program)(ops:Array Oper)(s:St)(Cs:List (Nat×List Nat×List Nat))(U:List (Nat×TypeId×Nat×Nat))(i:Nat)(Rs:List HR)(Ms:List (Nat×Md)):Prop where
 len:Rs.length=i
 all:∀j o,j<i->ops[j]? = some o->∃r,mp ops s Rs Ms Cs j o r/\(StX P ops s Rs Ms Cs j o r\/∃b T off k,LdX P s Rs Ms Cs j o r b T off k/\(b,T,off,k)∈U)
 lt:∀j,ae Ms j≠none->j<i
 und:∀(j:Nat)(r:HR)(md:Md),Rs[j]? = some r->ae Ms j=some md->r.v = .undef
def HX.out{ops:Array Oper}{Cs:List (Nat×List Nat×List Nat)}{i:Nat}{Rs:List HR}{Ms:List (Nat×Md)}{U:List (Nat×TypeId×Nat×Nat)}(hI:HX P ops s Cs U i Rs Ms):HXo P ops s Cs U i Rs Ms:=
 ⟨hI.len,fun j o h1 h2=>by
  obtain⟨r,ok,st⟩:=hI.all j o h1 h2;refine⟨r,ok,?_⟩;rcases st with h|h|h
  ·exact .inl (.inl h)
  ·exact .inl (.inr (.inl h))
  ·exact .inr h,hI.lt,hI.und⟩
def q7q{j:Nat}:∀{es:List Edge},qom j es=true->∃e∈es,Region.binds .any e=true/\j<=e.on
 |[],h=>by cases h
 |e::es,h=>by
  simp only[qom,Bool.or_eq_true,qA]at h;rcases h with⟨h1,h2⟩|h
  ·exact⟨e,qH,h1,Nat.le_of_ble_eq_true h2⟩
  ·obtain⟨e',h1,h2⟩:=q7q h;exact⟨e',qE _ h1,h2⟩
def zba{j:Nat}:∀{l:List Oper},qff j l=true->∀o∈l,∃e∈o.after,Region.binds .any e=true/\j<=e.on
 |[],_,o,h=>by cases h
 |o::l,h,o',h'=>by
  simp only[qff,qA]at h;rcases List.mem_cons.1 h' with rfl|h'
  ·obtain⟨e,h1,h2⟩:=q7q h.1;exact⟨e,by simpa using h1,h2⟩
  ·exact zba h.2 o' h'
def q0c{r:HR}:∀{Rs:List HR},r∈Rs->r.dst∈qpj Rs
 |x::rs,h=>by
  rcases List.mem_cons.1 h with rfl|h
  ·exact qH
  ·exact qE _ (q0c h)
def qqf{e:Nat×ag}:∀{l:List (Nat×ag)},e∈l->e.1∈qku l
 |x::rs,h=>by
  rcases List.mem_cons.1 h with rfl|h
  ·exact qH
  ·exact qE _ (qqf h)
def zb4{r:HR}{e:Nat×ag}(he:e∈r.new):∀{Rs:List HR},r∈Rs->e.1∈q0i Rs
 |x::rs,h=>by
  rcases List.mem_cons.1 h with rfl|h
  ·exact List.mem_append.2 (.inl (qqf he))
  ·exact List.mem_append.2 (.inr (zb4 he h))
def zb5{k:Nat}{m:Md}{e:Nat×ag}(he:e∈m.h):∀{Ms:List (Nat×Md)},ae Ms k=some m->e.1∈q0j Ms
 |(j,x)::rs,h=>by
  simp only[ae]at h;cases hb:Nat.beq j k<;>rw[hb]at h
  ·exact List.mem_append.2 (.inr (zb5 he h))
  ·simp only[qT,qI]at h;subst h;exact List.mem_append.2 (.inl (qqf he))
def qz8{K:List Nat}:∀{l:List (Nat×AV)}{n:Nat}{b:AV},ae (qkb K l) n=some b->ae l n=some b/\n∉K
 |[],n,b,h=>by cases h
 |(k,v)::r,n,b,h=>by
  simp[qkb]at h;cases hm:bq K k<;>rw[hm]at h<;>simp at h
  ·simp[ae]at h ⊢;cases hb:Nat.beq k n<;>rw[hb]at h<;>simp at h ⊢
   ·exact qz8 h
   ·refine⟨h,fun hn => ?_⟩
    rw[← qN hb]at hn;rw[fc.2 hn]at hm;cases hm
  ·obtain⟨h1,h2⟩:=qz8 h;refine⟨?_,h2⟩;simp[ae];cases hb:Nat.beq k n
   ·exact h1
   ·exfalso;apply h2;rw[← qN hb];exact fc.1 hm
def zbj{hp:List (Nat×ag)}:∀{l:List Nat}{i:Nat}{x:ag},ae (qpa l++hp) i=some x->x = .dead\/(ae hp i=some x/\i∉l)
 |[],i,x,h => .inr ⟨h,fun h=>by cases h⟩
 |n::r,i,x,h=>by
  simp only[qpa,wK,ae]at h;cases hb:Nat.beq n i<;>rw[hb]at h
  ·rcases zbj h with h|⟨h1,h2⟩
   ·exact .inl h
   ·refine .inr ⟨h1,fun hm => ?_⟩
    rcases List.mem_cons.1 hm with e|hm
    ·subst e;simp at hb
    ·exact h2 hm
  ·simp only[qT,qI]at h;exact .inl h.symm
def zui{Rs:List HR}{Ms:List (Nat×Md)}{md:Md}{L:List Nat}(hF:∀k∈L,∀e∈e8 Rs Ms k,e.1∈qpj Rs){G:Gh}{a:Act}{w:World}(hr:ai z5m z5g z5j G { e9 Rs Ms L s with hp:=md.h++(e9 Rs Ms L s).hp } a w):ia z5m z5g z5j G (ze7 s Rs Ms md) a w:=by
 refine hr.lt.less rfl (fun i x hx => ?_) (fun i x hx => ?_)
 ·obtain⟨h1,h2⟩:=qz8 hx;show ae (fg (e8 Rs Ms) L s.fr) i=some x;rw[qek (fun k hk => ?_)]
  ·exact h1
  ·cases hq:ae (e8 Rs Ms k) i with
   |none=>rfl|some v=>
    obtain⟨e,he,hei⟩:=oa (l:=e8 Rs Ms k) (m:=i) (by rw[hq];simp)
    exact absurd (hei▸hF k hk e he) h2
 ·rcases zbj hx with h0|⟨h1,h2⟩
  ·exact .inl h0
  simp only[wA,not_or]at h2;right;show ae (md.h++fg (du Rs Ms) L s.hp) i=some x;rw[qko];have hm:ae md.h i=none:=by
   cases hq:ae md.h i with
   |none=>rfl|some v=>
    obtain⟨e,he,hei⟩:=oa (l:=md.h) (m:=i) (by rw[hq];simp)
    exact absurd (hei▸qqf he) h2.1
  rw[hm];simp only;rw[qek (fun k hk => ?_)]
  ·exact h1
  ·cases hq:ae (du Rs Ms k) i with
   |none=>rfl|some v=>
    obtain⟨e,he,hei⟩:=oa (l:=du Rs Ms k) (m:=i) (by rw[hq];simp)
    unfold du at he;split at he
    ·rename_i m' hm';exact absurd (hei▸zb5 he hm') h2.2.1
    ·split at he
     ·rename_i r hr';exact absurd (hei▸zb4 he (List.mem_of_getElem? hr')) h2.2.2
     ·cases he
def qw0(P:Program)(TT:List PanicEntry->Act->World->Prop)(z5m:World)(z5g:Gh)(z5j:List (Nat×ag))(ops:Array Oper)(s:St)(Cs:List (Nat×List Nat×List Nat)):Prop:=
 ∃j Rs' Ms',j<ops.size/\qff j (ops.toList.drop (j+1))=true/\Rs'.length=j+1/\(∀i o,i<j->ops[i]? = some o->∃r,mp ops s Rs' Ms' Cs i o r/\StX P ops s Rs' Ms' Cs i o r) /\
  ∀o,ops[j]? = some o->∃r,mp ops s Rs' Ms' Cs j o r/\qw1 P TT z5m z5g z5j (j+1) s Rs' Ms' Cs j o r
def ztt{s t:St}{K:List Nat}{o:Oper}{d:Tmp}{T:TypeId}{b off k:Nat}(h:q10 P s t K o=some (d,T,b,off,k)):o.guard=none/\o.dst=some d/\(∃x,o.op = .load T x/\t.ev x=some (.ptr b off))/\∃cs E,ae s.hp b=some (.cells cs E)/\iu P T cs off=some (.own k):=by
 unfold q10 at h;split at h
 ·rename_i T' x d' hg ho hd;split at h
  ·rename_i b' off' he;cases hm:bq K b'<;>rw[hm]at h<;>simp only[qT,qF,reduceCtorEq]at h
   split at h
   ·rename_i cs E hc;split at h
    ·rename_i k' ha;simp only[qI,qP]at h;obtain⟨rfl,rfl,rfl,rfl,rfl⟩:=h;exact⟨hg,hd,⟨x,ho,he⟩,cs,E,hc,ha⟩
    ·cases h
   ·cases h
  ·cases h
 ·cases h
def zep{T:TypeId}{b off k:Nat}:∀{Ms:List (Nat×Md)},qft P T b off k Ms=true->q6z P Ms b T off k
 |[],_,j,md,bx,h,_=>by cases h
 |(j0,md0)::r,h,j,md,bx,h1,h2=>by
  simp only[qft,qA]at h;obtain⟨ha,hb⟩:=h;simp only[ae]at h1;cases hj:Nat.beq j0 j<;>rw[hj]at h1
  ·exact zep hb j md bx h1 h2
  ·simp only[qT,qI]at h1;subst h1;rw[h2]at ha
   cases bx with
   |cells cs E=>
    simp only at ha;split at ha
    ·rename_i k' hk;have:=qN ha;subst this;exact⟨cs,E,rfl,hk⟩
    ·cases ha
   |_=>cases ha
def ya.mono{ops:Array Oper}{Rs:List HR}{Ms:List (Nat×Md)}{Cs:List (Nat×List Nat×List Nat)}{U U':List (Nat×TypeId×Nat×Nat)}{i:Nat}{o:Oper}{r:HR}(h:ya P ops s Rs Ms Cs U i o r)(hU:∀z∈U,z∈U'):ya P ops s Rs Ms Cs U' i o r:=by
 rcases h with h|h|⟨b,T,off,k,h1,h2⟩
 ·exact .inl h
 ·exact .inr (.inl h)
 ·exact .inr (.inr ⟨b,T,off,k,h1,hU _ h2⟩)
def ya.done{ops:Array Oper}{Rs:List HR}{Ms:List (Nat×Md)}{Cs:List (Nat×List Nat×List Nat)}{U:List (Nat×TypeId×Nat×Nat)}{i:Nat}{o:Oper}{r:HR}(h:ya P ops s Rs Ms Cs U i o r)(hU:U=[]):StX P ops s Rs Ms Cs i o r:=by
 rcases h with h|h|⟨b,T,off,k,h1,h2⟩
 ·exact .inl h
 ·exact .inr (.inl h)
 ·rw[hU]at h2;cases h2
def qe7(hT:∀e∈tb.ents,e.Sound P){ops:Array Oper}{Cs:List (Nat×List Nat×List Nat)}{x:R}:∀(l:List Oper)(i:Nat)(Rs:List HR)(kn:List (Nat×Bool))(Ms:List (Nat×Md))(U:List (Nat×TypeId×Nat×Nat))(E:AV->St->Option R)(fin:List (Nat×Md)->List HR->List (Nat×Bool)->Option R),
  (∀t n s',E (ep t n) s'=some x->U=[]/\∀G' a' w',ia z5m z5g z5j G' s' a' w'->TT [{ v:=wv t n,recovered:=false }] a' w')->(∀j,j<l.length->ops[i+j]? = l[j]?)->ku Rs kn->HX P ops s Cs U i Rs Ms->i<=ops.size ->
  y4 P tb ops E s Cs fin l i Rs kn Ms=some x->(∃Ms' Rs' kn',fin Ms' Rs' kn'=some x/\ku Rs' kn'/\HXo P ops s Cs U (i+l.length) Rs' Ms')\/qw0 P TT z5m z5g z5j ops s Cs
 |[],i,Rs,kn,Ms,U,E,fin,_,_,hkn,hI,_,h => .inl ⟨Ms,Rs,kn,h,hkn,hI.out⟩|o::l,i,Rs,kn,Ms,U,E,fin,hE,hl,hkn,hI,his,h=>by
  have ho:ops[i]? = some o:=by have:=hl 0 oC;simpa using this
  have hil:i<ops.size:=(Array.getElem?_eq_some_iff.1 ho).1;have hl':∀j,j<l.length->ops[i+1+j]? = l[j]? := fun j hj=>by have:=hl (j+1) oE;simpa [Nat.add_assoc,Nat.add_comm 1 j] using this
  have knm:∀(r0:HR)(kn':List (Nat×Bool)),ku Rs kn'->ku (Rs++[r0]) kn':=fun r0 kn' hk j d hj=>by
   obtain⟨r,i1,i2⟩:=hk j d hj;exact⟨r,by rw[List.getElem?_append_left (List.getElem?_eq_some_iff.1 i1).1];exact i1,i2⟩
  have htl:∀r0:HR,(Rs++[r0]).take i=Rs:=fun r0=>by rw[← hI.len,List.take_left]
  have hge:∀r0:HR,(Rs++[r0])[i]? = some r0:=fun r0=>by rw[← hI.len];simp
  have hMi:ae Ms i=none:=by
   cases hq:ae Ms i with|none=>rfl|some v=>have:=hI.lt i (by rw[hq];simp);omega
  have hdis:=hI.dis his
  -- a further operation that leaves own memory
  have normal:∀(pred:List Nat)(tt:Nat)(v:AV)(new:List (Nat×ag))(ps:List Prop)(c:uw),ni Rs o.after.toList=some pred->o.dst=some tt->Nat.blt tt s.n=true->bh (s.nx+32*tt) s.hp=true->ph tt Rs=true->rl pred (jj ops o) Rs 0=true->rx ops tt pred i=true ->
    jx P ops ((dz Ms pred Rs 0 s).hide (gp Cs pred i)) c o=some (ps,v,new)->aq ps->HX P ops s Cs U (i+1) (Rs++[⟨tt,v,new,pred⟩]) Ms:=fun pred tt v new ps c hp hd b1 b2 b3 b4 b5 hst hps=>by
   refine⟨by rw[qM,hI.len];rfl,fun j oj hj hoj => ?_,fun j hj=>by have:=hI.lt j hj;omega,fun j r md hr hm=>by
    have hji:=hI.lt j (by rw[hm];simp)
    exact hI.und j r md (by rw[List.getElem?_append_left (by have:=hI.len;omega)]at hr;exact hr) hm⟩
   by_cases hji:j<i
   ·obtain⟨r,ok,st⟩:=hI.all j oj hji hoj;exact⟨r,hI.more (fun _ _=>rfl) hji ok st⟩
   ·have:j=i:=oA
    subst this;rw[ho]at hoj;cases hoj;have hs:gw s (Rs++[⟨tt,v,new,pred⟩]) Ms Cs j ⟨tt,v,new,pred⟩=(dz Ms pred Rs 0 s).hide (gp Cs pred j):=by unfold gw;rw[htl]
    have hef:e8 (Rs++[⟨tt,v,new,pred⟩]) Ms j=[(tt,v)]:=by unfold e8;rw[hMi,hge]
    have heh:du (Rs++[⟨tt,v,new,pred⟩]) Ms j=new:=by unfold du;rw[hMi,hge]
    have hnm:=q7y hd hst;have hnx:((dz Ms pred Rs 0 s).hide (gp Cs pred j)).nx=s.nx:=by
     rw[qjh (Rs:=Rs) Rs 0 s (fun k _=>by rw[wO])];rfl
    rw[hnx]at hnm;refine⟨⟨tt,v,new,pred⟩,⟨hge _,b2,by rw[htl];exact hp,by rw[htl];exact b3,by rw[htl];exact b4,b5,fun e he => ?_,fun e he => .inl ?_⟩,.inl ⟨hMi,hd,by simpa using b1,ps,c,by rw[hs];exact hst,hps⟩⟩
    ·rw[hef]at he;rw[List.mem_singleton]at he;subst he;rfl
    ·rw[heh]at he;exact hnm e he
  have modN:∀(pred K Pm:List Nat)(md:Md),ni Rs o.after.toList=some pred->qj4 i Cs=some (K,Pm)->o.guard=none->qex s o.dst=true->bh (s.nx+32*cq s i o.dst) s.hp=true->ph (cq s i o.dst) Rs=true->rl pred (jj ops o) Rs 0=true->rx ops (cq s i o.dst) pred i=true ->
    (zf s Rs pred (cq s i o.dst) K md.h&&zg (cq s i o.dst) md.f&&zo Pm pred&&zm pred Ms)=true->qgr P o ((dz Ms pred Rs 0 s).hide (gp Cs pred i)) md->HX P ops s Cs U (i+1) (Rs++[⟨cq s i o.dst,.undef,[],pred⟩]) ((i,md)::Ms):=by
   intro pred K Pm md hp hf hg b1 b2 b3 b4 b5 hx hdm;simp at hx;obtain⟨⟨⟨x1,x2⟩,x3⟩,x4⟩:=hx;have hM':∀j,j<i->ae ((i,md)::Ms) j=ae Ms j:=fun j hj=>by
    have:Nat.beq i j=false:=by
     cases hb:Nat.beq i j
     ·rfl
     ·have:=qN hb;omega
    simp[ae,this,qF]
   have hMM:ae ((i,md)::Ms) i=some md:=by simp[ae]
   have hI':HX P ops s Cs U (i+1) (Rs++[⟨cq s i o.dst,.undef,[],pred⟩]) ((i,md)::Ms):=by
    refine⟨by rw[qM,hI.len];rfl,fun j oj hj hoj => ?_,fun j hj => ?_,fun j r md' hr hm => ?_⟩
    ·by_cases hji:j<i
     ·obtain⟨r,ok,st⟩:=hI.all j oj hji hoj;exact⟨r,hI.more hM' hji ok st⟩
     ·have:j=i:=oA
      subst this;rw[ho]at hoj;cases hoj;have hs:gw s (Rs++[⟨cq s j o.dst,.undef,[],pred⟩]) ((j,md)::Ms) Cs j ⟨cq s j o.dst,.undef,[],pred⟩=(dz Ms pred Rs 0 s).hide (gp Cs pred j):=by
       unfold gw;rw[htl,qxg (Ms':=Ms) Rs 0 s (fun k hk=>hM' k (by have:=hI.len;omega))]
      have hef:e8 (Rs++[⟨cq s j o.dst,.undef,[],pred⟩]) ((j,md)::Ms) j=md.f:=by unfold e8;rw[hMM]
      have heh:du (Rs++[⟨cq s j o.dst,.undef,[],pred⟩]) ((j,md)::Ms) j=md.h:=by unfold du;rw[hMM]
      refine⟨⟨cq s j o.dst,.undef,[],pred⟩,⟨hge _,b2,by rw[htl];exact hp,by rw[htl];exact b3,by rw[htl];exact b4,b5,fun e he => ?_,fun e he => ?_⟩,.inr (.inl ⟨md,hMM,hg,fun t ht => ?_,by rw[hs];exact hdm⟩)⟩
      ·rw[hef]at he;exact zbv x2 e he
      ·rw[heh]at he;rcases zbu x1 e he with h'|⟨h1,h2⟩
       ·exact .inl h'
       ·refine .inr ⟨by rw[hMM];simp,⟨K,Pm,q9x hf,h1,zew x3⟩,?_,fun k hk hkm=>zev x4 k (by rw[hM' k hk]at hkm;exact hkm)⟩
        rcases h2 with h2|⟨c,rc,c1,c2,c3⟩
        ·exact .inl h2
        ·have:c<Rs.length:=(List.getElem?_eq_some_iff.1 c2).1;exact .inr ⟨c,rc,c1,by rw[List.getElem?_append_left this];exact c2,c3⟩
      ·rw[ht]at b1 ⊢;exact⟨rfl,by simpa [qex] using b1⟩
    ·simp[ae]at hj;cases hb:Nat.beq i j<;>rw[hb]at hj<;>simp at hj
     ·have:=hI.lt j hj;omega
     ·have:=qN hb;omega
    ·by_cases hji:j=i
     ·subst hji;rw[hge]at hr;cases hr;rfl
     ·have hr':(Rs++[⟨cq s i o.dst,.undef,[],pred⟩])[j]? = some r:=hr;have hjl:j<i+1:=by have:=(List.getElem?_eq_some_iff.1 hr).1;simp at this;have:=hI.len;omega
      exact hI.und j r md' (by rw[List.getElem?_append_left (by have:=hI.len;omega)]at hr;exact hr) (by rw[hM' j oA]at hm;exact hm)
   exact hI'
  have more:((∃Ms' Rs' kn',fin Ms' Rs' kn'=some x/\ku Rs' kn'/\HXo P ops s Cs U (i+1+l.length) Rs' Ms')\/qw0 P TT z5m z5g z5j ops s Cs)->(∃Ms' Rs' kn',fin Ms' Rs' kn'=some x/\ku Rs' kn'/\HXo P ops s Cs U (i+(o::l).length) Rs' Ms')\/qw0 P TT z5m z5g z5j ops s Cs:=by
   rw[qL,show i+(l.length+1)=i+1+l.length by omega];exact id
  simp[y4]at h;split at h
  ·cases h
  ·rename_i pred hp;cases hc:qex s o.dst&&bh (s.nx+32*cq s i o.dst) s.hp&&ph (cq s i o.dst) Rs&&rl pred (jj ops o) Rs 0&&rx ops (cq s i o.dst) pred i<;>rw[hc]at h<;>simp at h
   simp at hc;obtain⟨⟨⟨⟨b1,b2⟩,b3⟩,b4⟩,b5⟩:=hc;split at h
   ·rename_i K Pm hf hg;split at h
    ·rename_i q hq;obtain⟨d,q1,q2⟩:=Rq.K_some h;split at q2
     ·rename_i ps v new tt ha hd;rw[hd]at b1 b2 b3 b5;have hps:=q7u hT hq q1 ha;have hI':=normal pred tt v new ps (false,d) hp hd b1 b2 b3 b4 b5 (by unfold jx;rw[hg];exact ha) hps
      exact more (qe7 hT l (i+1) _ kn Ms U E fin hE hl' (knm _ _ hkn) hI' oA q2)
     ·split at q2
      ·rename_i ps md hmo;cases hx:zf s Rs pred (cq s i o.dst) K md.h&&zg (cq s i o.dst) md.f&&zo Pm pred&&zm pred Ms<;>rw[hx]at q2<;>simp only[qT,qF,reduceCtorEq]at q2
       exact more (qe7 hT l (i+1) _ kn _ U E fin hE hl' (knm _ _ hkn) (modN pred K Pm md hp hf hg b1 b2 b3 b4 b5 hx (zpz hmo (q7v hT hq q1 (zb6 hmo)))) oA q2)
      ·cases q2
    ·split at h
     ·rename_i q hq;obtain⟨d,q1,q2⟩:=Rq.K_some h;split at q2
      ·rename_i N xs hp1 r hp2;split at q2
       ·rename_i ps md hme;obtain⟨c1,c2⟩:=zuj (P:=P) (TT:=TT) (z5m:=z5m) (z5g:=z5g) (z5j:=z5j) hT hq q1 hme;split at q2
        ·rename_i hmk;cases hx:zf s Rs pred (cq s i o.dst) K md.h&&zg (cq s i o.dst) md.f&&zo Pm pred&&zm pred Ms<;>rw[hx]at q2<;>simp only[qT,qF,reduceCtorEq]at q2
         exact more (qe7 hT l (i+1) _ kn _ U E fin hE hl' (knm _ _ hkn) (modN pred K Pm md hp hf hg b1 b2 b3 b4 b5 hx (c1 hmk)) oA q2)
        ·rename_i tx n hmk;cases hx:qff i (ops.toList.drop (i+1))<;>rw[hx]at q2<;>simp only[qT,qF,reduceCtorEq]at q2
         obtain⟨hU,hE⟩:=hE tx n _ q2;refine .inr ⟨i,Rs++[⟨cq s i o.dst,.undef,[],pred⟩],Ms,hil,hx,by rw[qM,hI.len];rfl,fun j oj hji hoj => ?_,fun oj hoj => ?_⟩
         ·obtain⟨r,ok,st⟩:=hI.all j oj hji hoj;obtain⟨m1,m2⟩:=hI.more (r0:=⟨cq s i o.dst,.undef,[],pred⟩) (fun _ _=>rfl) hji ok st
          exact⟨r,m1,m2.done hU⟩
         ·rw[ho]at hoj;cases hoj;have hs:gw s (Rs++[⟨cq s i o.dst,.undef,[],pred⟩]) Ms Cs i ⟨cq s i o.dst,.undef,[],pred⟩=(dz Ms pred Rs 0 s).hide (gp Cs pred i):=by unfold gw;rw[htl]
          have hef:e8 (Rs++[⟨cq s i o.dst,.undef,[],pred⟩]) Ms i=[(cq s i o.dst,.undef)]:=by unfold e8;rw[hMi,hge]
          have heh:du (Rs++[⟨cq s i o.dst,.undef,[],pred⟩]) Ms i=[]:=by unfold du;rw[hMi,hge]
          have okX:mp ops s (Rs++[⟨cq s i o.dst,.undef,[],pred⟩]) Ms Cs i o ⟨cq s i o.dst,.undef,[],pred⟩:=⟨hge _,b2,by rw[htl];exact hp,by rw[htl];exact b3,by rw[htl];exact b4,b5,fun e he=>by rw[hef,List.mem_singleton]at he;subst he;rfl,fun e he=>by rw[heh]at he;cases he⟩
          refine⟨_,okX,hg,fun t ht => ?_,fun L hL hsee G a w hr N => ?_⟩
          ·rw[ht]at b1 ⊢;exact⟨rfl,by simpa [qex] using b1⟩
          ·rw[hs]at hsee;refine c2 _ hmk _ hsee ?_ G a w hr (fun G' w' hR=>hE G' a w' (zui (L:=L) (fun k hk e he => ?_) hR)) N
           ·rw[qjh (Rs:=Rs) Rs 0 s (fun k _=>by rw[wO])];rfl
           ·have hki:=hL k hk;by_cases hkj:k=i
            ·subst hkj;rw[hef,List.mem_singleton]at he;subst he;exact q0c (List.mem_of_getElem? (hge _))
            ·obtain⟨ok',hok'⟩:∃o,ops[k]? = some o:=⟨ops[k],by simp[show k<ops.size by omega]⟩
             obtain⟨r,ok,st⟩:=hI.all k ok' oA hok'
             have ok2:=(hI.more (r0:=⟨cq s i o.dst,.undef,[],pred⟩) (fun _ _=>rfl) oA ok st).1
             rw[ok2.f e he];exact q0c (List.mem_of_getElem? ok2.get)
       ·cases q2
      ·cases q2
     ·cases h
   ·split at h
    ·rename_i d T b off k hst;obtain⟨hg,hd,hx1,hx2⟩:=ztt hst;rw[hd]at b1 b2 b3 b5;have hI':HX P ops s Cs ((b,T,off,k)::U) (i+1) (Rs++[⟨d,.own k,[],pred⟩]) Ms:=by
      refine⟨by rw[qM,hI.len];rfl,fun j oj hj hoj => ?_,fun j hj=>by have:=hI.lt j hj;omega,fun j r md hr hm=>by
       have hji:=hI.lt j (by rw[hm];simp)
       exact hI.und j r md (by rw[List.getElem?_append_left (by have:=hI.len;omega)]at hr;exact hr) hm⟩
      by_cases hji:j<i
      ·obtain⟨r,ok,st⟩:=hI.all j oj hji hoj;obtain⟨m1,m2⟩:=hI.more (r0:=⟨d,.own k,[],pred⟩) (fun _ _=>rfl) hji ok st
       exact⟨r,m1,m2.mono (fun _ h=>qE _ h)⟩
      ·have:j=i:=oA
       subst this;rw[ho]at hoj;cases hoj;have hs:gw s (Rs++[⟨d,.own k,[],pred⟩]) Ms Cs j ⟨d,.own k,[],pred⟩=(dz Ms pred Rs 0 s).hide (gp Cs pred j):=by unfold gw;rw[htl]
       have hef:e8 (Rs++[⟨d,.own k,[],pred⟩]) Ms j=[(d,.own k)]:=by unfold e8;rw[hMi,hge]
       have heh:du (Rs++[⟨d,.own k,[],pred⟩]) Ms j=[]:=by unfold du;rw[hMi,hge]
       refine⟨⟨d,.own k,[],pred⟩,⟨hge _,b2,by rw[htl];exact hp,by rw[htl];exact b3,by rw[htl];exact b4,b5,fun e he => ?_,fun e he=>by rw[heh]at he;cases he⟩,.inr (.inr ⟨b,T,off,k,⟨hMi,hg,hd,by simpa [qex] using b1,rfl,rfl,by rw[hs];exact hx1,hx2⟩,qH⟩)⟩
       rw[hef]at he;rw[List.mem_singleton]at he;subst he;rfl
     refine more ?_;rcases qe7 hT l (i+1) _ kn Ms ((b,T,off,k)::U) (fun _ _=>none) (fun Ms' Rs' kn'=>bif qft P T b off k Ms' then fin Ms' Rs' kn' else none) (fun t n s' h=>by cases h) hl' (knm _ _ hkn) hI' oA h with⟨Ms',Rs',kn',f1,f2,f3⟩|ht
     ·cases hsb:qft P T b off k Ms'<;>simp only[hsb,qT,qF,reduceCtorEq]at f1
      exact .inl ⟨Ms',Rs',kn',f1,f2,f3.len,fun j oj hj hoj=>by
       obtain⟨r,ok,st⟩:=f3.all j oj hj hoj;refine⟨r,ok,?_⟩;rcases st with st|⟨b',T',off',k',g1,g2⟩
       ·exact .inl st
       ·rcases List.mem_cons.1 g2 with g2|g2
        ·simp only[qP]at g2;obtain⟨rfl,rfl,rfl,rfl⟩:=g2;exact .inl (.inr (.inr ⟨_,_,_,_,g1,zep hsb⟩))
        ·exact .inr ⟨b',T',off',k',g1,g2⟩,f3.lt,f3.und⟩
     ·exact .inr ht
    split at h
    ·rename_i d hd;rw[hd]at b1 b2 b3 b5;have hv:∀j r,bq (yn Ms pred) j=true->Rs[j]? = some r->ae ((dz Ms pred Rs 0 s).hide (gp Cs pred i)).fr r.dst=some r.v:=fun j r hm hr=>by
      obtain⟨h1,h2⟩:=qqe.1 (fc.1 hm);exact qxh (k:=j) hr (by rw[wO];exact fc.2 h1) (by rw[wO];exact h2) (fun k' r' hk hr'=>by rw[wO];exact hdis j k' r r' hk hr hr')
     have hdd:∀(j:Nat)(r:HR),bq (yn Ms pred) j=true->Rs[j]? = some r->∃oj:Oper,ops[j]? = some oj/\oj.dst=some r.dst:=fun j r hm hr=>by
      obtain⟨h1,h2⟩:=qqe.1 (fc.1 hm);have hj:j<i:=by have:=(List.getElem?_eq_some_iff.1 hr).1;have:=hI.len;omega
      obtain⟨oj,hoj⟩:∃o,ops[j]? = some o:=⟨ops[j],by simp[show j<ops.size by omega]⟩
      obtain⟨r2,ok,st⟩:=hI.all j oj hj hoj;have h3:=ok.get;rw[hr]at h3;injection h3 with h3;subst h3
      rcases st with⟨_,s2,_⟩|⟨md,s1,_⟩|⟨_,_,_,_,⟨_,_,s2,_⟩,_⟩
      ·exact⟨oj,hoj,s2⟩
      ·rw[h2]at s1;cases s1
      ·exact⟨oj,hoj,s2⟩
     obtain⟨ps,c,v,new,kn',h1,h2,h3,h4⟩:=zcp hT hkn hv hdd h;have hI':=normal pred d v new ps c hp hd b1 b2 b3 b4 b5 h1 h2;exact more (qe7 hT l (i+1) _ kn' Ms U E fin hE hl' (knm _ _ h3) hI' oA h4)
    ·cases h
def zm5(hT:∀e∈tb.ents,e.Sound P)(hm:P.follows .mixedOrders=true){ops:Array Oper}{Cs:List (Nat×List Nat×List Nat)}{K:St->Option R}{x:R}(h:qyx P tb ops E s Cs K=some x){N:Act->World->Prop}(hN:∀s',K s'=some x->∀G' a' w',ai z5m z5g z5j G' s' a' w'->N a' w')
  (hE:∀t n s',E (ep t n) s'=some x->∀G' a' w',ia z5m z5g z5j G' s' a' w'->TT [{ v:=wv t n,recovered:=false }] a' w')
  (hr:ai z5m z5g z5j G s a w) (id:Nat) (b:Frame) (kk:List Item) (cs:List Frame) (hk:b.kind = .normal) :
  (∃a' w',N a' w'/\Steps P (lone (b.atR a.bs (.code (.region id ops true)::kk)) cs w) (lone (b.atR a'.bs kk) cs w'))\/jd P b.fn TT (lone (b.atR a.bs (.code (.region id ops true)::kk)) cs w) cs:=by
 unfold qyx at h;generalize jh ops=n at h;cases hb:ld ops.toList 0&&ol ops n&&Nat.ble n ops.toList.length<;>rw[hb]at h<;>simp at h
 simp only[qA]at hb;obtain⟨⟨b1,b2⟩,b3⟩:=hb;have hn:n<=ops.size:=by have:=Nat.le_of_ble_eq_true b3;simpa using this
 have ac:(ops.toList.take n).length=n:=by simp;omega
 refine q83 hm ?_ b kk cs hk;have hrd:ai z5m z5g z5j G s a { w with drawn:=w.drawn+1 }:=⟨hr.defers,hr.size,hr.frame,hr.fresh,⟨⟨hr.fin.mem.agree,hr.fin.mem.one,hr.fin.mem.holds,hr.fin.mem.apart,hr.fin.mem.tab⟩,⟨hr.fin.bel.os,hr.fin.bel.tape,hr.fin.bel.output,hr.fin.bel.size,hr.fin.bel.block⟩,hr.fin.imm_le,hr.fin.imm_new,hr.fin.base,hr.fin.keep,hr.fin.keepOwn⟩⟩
 have hrun:=qe7 hT (ops.toList.take n) 0 [] [] [] [] E _ (fun t n s' h=>⟨rfl,hE t n s' h⟩) (fun j hj=>by
  rw[ac]at hj;rw[List.getElem?_take,qX hj,wO];simp) (fun j d h=>by cases h) ⟨rfl,fun j o hj=>oA,fun j hj=>absurd rfl hj,fun j r md h=>by simp at h⟩ (Nat.zero_le _) h
 rcases hrun with⟨Ms,Rs,kn,k1,kkn,hI⟩|⟨j,Rs,Ms,j1,j2,j3,j4,j5⟩
 rotate_left
 ·refine zn7 (z5m:=z5m) (z5g:=z5g) (z5j:=z5j) (N:=N) j1 b1 (fun i o hi ho => ?_) j3 j4 j5 ops.size [] _ G a _ oC ?_ trivial (fun _ h=>by cases h) hrd
  ·refine zba j2 o (List.mem_of_getElem? (i:=i-(j+1)) ?_);rw[List.getElem?_drop,show j+1+(i-(j+1))=i by omega];simpa using ho
  ·refine⟨List.nodup_nil,fun i hi=>(by cases hi),oC,fun j hj => ?_,fun i hi=>(by cases hi)⟩
   rw[Array.getD_eq_getD_getElem?];simp[hj]
 rw[wO,ac]at hI;have base:∀(G:Gh)(a:Act)(w:World),ai z5m z5g z5j G (dz Ms (List.range n) Rs 0 s) a w->∀l,ai z5m z5g z5j G (zb Rs kn l (dz Ms (List.range n) Rs 0 s)) a w:=by
  intro G a w hr l
  induction l with
  |nil=>exact hr|cons e l ih=>
   obtain⟨j,d⟩:=e;unfold zb;split
   ·rename_i d' r h0 h1;obtain⟨r',i1,h2⟩:=kkn j d' h0;rw[h1]at i1;have:=qJ i1;subst this;have hj:j<n:=by have:=(List.getElem?_eq_some_iff.1 h1).1;rw[hI.len]at this;exact this
    refine ih.know ?_
    cases hMj:ae Ms j with
    |some md=>
     have:=hI.und j r md h1 hMj;rw[h2]at this;cases this
    |none=>
     have hin:ae (dz Ms (List.range n) Rs 0 s).fr r.dst=some r.v:=qxh (k:=j) h1 (by rw[wO,fc];exact List.mem_range.2 hj) (by rw[wO];exact hMj) (fun k' r' hk hr'=>by rw[wO];exact q87 hn hI.len (fun j o h1 h2=>by obtain⟨r,ok,_⟩:=hI.all j o h1 h2;exact⟨r,ok⟩) j k' r r' hk h1 hr')
     obtain⟨v,v1,v2⟩:=hr.frame r.dst _ hin;rw[h2]at v2;have v2:v = .bool d':=v2;subst v2;show a.tmps.getD r.dst undef=_;rw[Array.getD_eq_getD_getElem?,v1];rfl
   ·exact ih
 refine zn8 (z5m:=z5m) (z5g:=z5g) (z5j:=z5j) (N:=N) hn b1 b2 hI.len (fun j o h1 h2=>by obtain⟨r,ok,st⟩:=hI.all j o h1 h2;exact⟨r,ok,st.resolve_right (fun⟨_,_,_,_,_,h⟩=>by cases h)⟩) (fun G a w listed hr' hu=>q19 hT b1 b2 hN hE _ n (wF _) rfl hn _ G a w listed k1 (base G a w hr' kn) hu) ops.size [] _ G a _ oC ?_ trivial ?_
 ·refine⟨List.nodup_nil,fun i hi=>(by cases hi),oC,fun j hj => ?_,fun i hi=>(by cases hi)⟩
  rw[Array.getD_eq_getD_getElem?];simp[hj]
 ·exact hrd
def zm8(hT:∀e∈tb.ents,e.Sound P)(hm:P.follows .mixedOrders=true){ops:Array Oper}{K:St->Option R}{x:R}(h:qy0 P tb ops E s K=some x){N:Act->World->Prop}(hN:∀s',K s'=some x->∀G' a' w',ai z5m z5g z5j G' s' a' w'->N a' w')
  (hE:∀t n s',E (ep t n) s'=some x->∀G' a' w',ia z5m z5g z5j G' s' a' w'->TT [{ v:=wv t n,recovered:=false }] a' w')
  (hr:ai z5m z5g z5j G s a w) (id:Nat) (b:Frame) (k:List Item) (cs:List Frame) (hk:b.kind = .normal) :
  (∃a' w',N a' w'/\Steps P (lone (b.atR a.bs (.code (.region id ops true)::k)) cs w) (lone (b.atR a'.bs k) cs w'))\/jd P b.fn TT (lone (b.atR a.bs (.code (.region id ops true)::k)) cs w) cs:=by
 unfold qy0 at h;split at h
 ·exact zm6 hT hm h hN hE hr id b k cs hk
 ·exact zm5 hT hm h hN hE hr id b k cs hk
def zm7(hT:∀e∈tb.ents,e.Sound P)(hm:P.follows .mixedOrders=true){ops:Array Oper}{K:St->Option R}{x:R}(h:qyz P tb ops E s K=some x){N:Act->World->Prop}(hN:∀s',K s'=some x->∀G' a' w',ai z5m z5g z5j G' s' a' w'->N a' w')
  (hE:∀t n s',E (ep t n) s'=some x->∀G' a' w',ia z5m z5g z5j G' s' a' w'->TT [{ v:=wv t n,recovered:=false }] a' w')
  (hr:ai z5m z5g z5j G s a w) (id:Nat) (b:Frame) (k:List Item) (cs:List Frame) (hk:b.kind = .normal) :
  (∃a' w',N a' w'/\Steps P (lone (b.atR a.bs (.code (.region id ops true)::k)) cs w) (lone (b.atR a'.bs k) cs w'))\/jd P b.fn TT (lone (b.atR a.bs (.code (.region id ops true)::k)) cs w) cs:=by
 obtain⟨G',hr'⟩:=hr.frzL (ks:=q08 s (ops.toList.take (jh ops)) (ops.toList.take (jh ops)));exact zm8 hT hm h hN hE hr' id b k cs hk
end
end Go.Sym
namespace Go.Sym
open Go.RowKit
variable[LC]
def wh(i:Nat)(c:Code):Code:=match c with
 |.seq a b=>match i with|0=>a|_=>b
 |.cond _ a b=>match i with|0=>a|_=>b
 |.block _ a=>a|.loop a=>a|.scope a=>a|.rangeFunc _ _ a b=>match i with|0=>a|_=>b
 |c=>c
def sub(body:Code):List Nat->Code|[]=>body|i::p=>wh i (sub body p)
structure d8 where
 kd:Nat
 path:List Nat
 it:Item
def y7(body:Code)(kd:Nat)(p:List Nat):Item:=match kd with
 |0 => .code (sub body p)|1=>match sub body p with|.block id _ => .inBlock id|c => .code c
 |2=>match sub body p with|.loop x => .inLoop x|c => .code c
 |3=>match sub body p with|.scope x => .inScope x|c => .code c
 |_ => .beginRound
def d8.Ok(body:Code)(i:d8):Prop:=i.it=y7 body i.kd i.path
abbrev vm:=List (Nat×List Nat)
def kg(body:Code):vm->List d8|[]=>[]|(kd,p)::r=>⟨kd,p,y7 body kd p⟩::kg body r
def dw:List d8->List Item|[]=>[]|i::r=>i.it::dw r
def qe0:vm->List d8->Bool|[],[]=>true|(kd,p)::r,i::k=>Nat.beq kd i.kd&&qr p i.path&&qe0 r k|_,_=>false
def q9k{body:Code}:∀{key:vm}{k:List d8},qe0 key k=true->(∀i∈k,i.Ok body)->dw (kg body key)=dw k
 |[],[],_,_=>rfl|(kd,p)::r,⟨kd',p',it⟩::k,h,hk=>by
  simp only[qe0,qA]at h;obtain⟨⟨h1,h2⟩,h3⟩:=h;have h1:=qN h1;have h2:=qpo h2;subst h1 h2;have ho:it=y7 body kd p:=hk _ qH;simp only[kg,dw];rw[q9k h3 (fun i hi=>hk i (qE _ hi)),ho]
 |[],_::_,h,_=>by cases h
 |_::_,[],h,_=>by cases h
def qzw{body:Code}:∀{key:vm},∀i∈kg body key,i.Ok body
 |[],i,h=>by cases h
 |(kd,p)::r,i,h=>by
  rcases List.mem_cons.1 h with rfl|h
  ·rfl
  ·exact qzw i h
def zo0{body:Code}{kd:Nat}{p:List Nat}{c:Code}(h:Item.code c=y7 body kd p):sub body p=c:=by
 unfold y7 at h;split at h
 ·injection h with h;exact h.symm
 ·split at h
  ·cases h
  ·injection h with h;exact h.symm
 ·split at h
  ·cases h
  ·injection h with h;exact h.symm
 ·split at h
  ·cases h
  ·injection h with h;exact h.symm
 ·cases h
def zo1{body:Code}{kd:Nat}{p:List Nat}{c:Code}(h:Item.inLoop c=y7 body kd p):sub body p = .loop c:=by
 unfold y7 at h;split at h
 ·cases h
 ·split at h<;>cases h
 ·split at h
  ·rename_i e;injection h with h;subst h;exact e
  ·cases h
 ·split at h<;>cases h
 ·cases h
def qu(id:Nat):List d8->Option (List d8)
 |[]=>none|i::k=>match i.it with|.inBlock id'=>if id'==id then some k else qu id k|_=>qu id k
def qy7{id:Nat}:∀{k k':List d8},qu id k=some k'->exitTo id (dw k)=some (dw k')/\∀i∈k',i∈k
 |[],_,h=>by cases h
 |⟨kd,p,it⟩::k,k',h=>by
  simp only[qu]at h;split at h
  ·rename_i id';split at h
   ·rename_i he;simp only[qI]at h;subst h;exact⟨by simp only[dw,exitTo];rw[qX he],fun i hi=>qE _ hi⟩
   ·rename_i he;obtain⟨h1,h2⟩:=qy7 h;exact⟨by simp only[dw,exitTo];rw[qW he];exact h1,fun i hi=>qE _ (h2 i hi)⟩
  ·rename_i hne;obtain⟨h1,h2⟩:=qy7 h;refine⟨?_,fun i hi=>qE _ (h2 i hi)⟩
   (try simp only at hne)
   simp[dw];cases it<;>first
    |(exfalso;exact hne _ rfl)
    |(simp[exitTo];exact h1)
def qxn(P:Program)(s:St):ResultVar->Option AV
 |.tmp t=>ae s.fr t|.cell t T=>match ae s.fr t with
  |some (.ptr b off)=>match ae s.hp b with|some (.cells cs _)=>iu P T cs off|_=>none
  |some (.rop cs)=>iu P T cs 0|some (.oel k sz 0 0)=>match ae s.hp k,zp P T,er P T with|some (.row τ l _),some true,some _=>bif τ.is1&&Nat.beq sz 1 then some (.arr τ l) else none|_,_,_=>none
  |_=>none
def q1q(P:Program)(s:St):ResultVar->Bool
 |.tmp _=>true|.cell t T=>match ae s.fr t with
  |some (.oel k _ 0 0)=>match ae s.hp k,er P T with|some (.row _ l _),some n=>decide (l.length=n)|_,_=>true
  |_=>true
def qk8(P:Program)(s:St):List ResultVar->Bool|[]=>true|x::xs=>q1q P s x&&qk8 P s xs
def qef(P:Program)(s:St):List ResultVar->Option (List AV)
 |[]=>some []|x::xs=>match qxn P s x with
  |some v=>match qef P s xs with|some vs=>some (v::vs)|none=>none
  |none=>none
def qxo(P:Program)(fn:Func)(s:St):Option AV:=
 match qef P s fn.results.toList with
 |some vs=>match vs with|[v]=>some v|vs=>some (.tup vs)
 |none=>none
def frzC(p:Pt)(b off:Nat)(s:St):St:=match ae s.hp b with|some (.cells cs _)=>frzL (qj9 p (.agg (cs.drop off))) s|_=>s
def coR(bs:List (Nat×bj)):List ResultVar->List Pt->St->St
 |[],_,s=>s|x::xs,ps,s=>match ps with
  |[]=>s|p::ps=>match x with
   |.tmp t=>coR bs xs ps (coF bs [(t,p)] s)|.cell t _=>match ae s.fr t with|some (.ptr b off)=>coR bs xs ps (frzC p b off (coB1 bs b [p] off s))|_=>coR bs xs ps s
def qqq:Pt->List Pt|.tup ps=>ps|p=>[p]
def qj3(v:AV)(ids:NM)(p:Pt)(hp:List (Nat×bj))(s:St):Option (p.den×f8 hp):=
 match p.get v ids with
 |some (d,nm)=>match th s.hp hp nm with|some (d',nm')=>bif dn nm'&&vy nm' hp then some (d,d') else none|none=>none
 |none=>none
def qy9(P:Program)(fn:Func)(ids:NM)(rv:Option AV)(p:Pt)(hp:List (Nat×bj))(s:St):Option (p.den×f8 hp):=
 match rv with
 |some v=>qj3 v ids p hp (coB hp (kh s hp ids) hp s)|none=>match qxo P fn (coR hp fn.results.toList (qqq p) (coB hp (kh s hp ids) hp s)) with|some v=>qj3 v ids p hp (coR hp fn.results.toList (qqq p) (coB hp (kh s hp ids) hp s))|none=>none
def qza(P:Program)(fn:Func)(ids:NM)(rv:Option AV)(p:Pt)(hp:List (Nat×bj))(s:St):Bool:=
 match rv with|some _=>true|none=>qk8 P (coR hp fn.results.toList (qqq p) (coB hp (kh s hp ids) hp s)) fn.results.toList
def RS.fin(P:Program)(fn:Func)(ids:NM)(rv:Option AV)(s:St):{α:Type}->RS α->Option α
 | _,.one p hp _ fro _=>bif qza P fn ids rv p hp s then(match qy9 P fn ids rv p hp s with
  |some y=>some (fro y)| none=>none) else none
 |_,.two l r=>match l.fin P fn ids rv s with
  |some a=>some (.inl a)|none=>match r.fin P fn ids rv s with|some b=>some (.inr b)|none=>none
structure fa(R:Type) where
 key:vm
 ls:LS
 F:ls.den->Option R
def qby{R:Type}(ids:NM)(s:St)(k:List d8):List (fa R)->Option (fa R)
 |[]=>none| l::ls=>bif qe0 l.key k then(match qby ids s k ls with
   |none=>some l|some l'=>match l.ls.get ids (l.ls.co ids s) with
    |some _=>some l| none=>some l') else qby ids s k ls
structure Cx:Type 1 where
 P:Program
 tb:Tb
 fn:Func
 f:FuncId
 ids:NM
 rd:Option Nat
 tags:List (List Nat×Nat)
 thr:Option (List (Nat×Nat)):=none
def St.noDf(s:St):Bool:=match s.df with|[]=>true|_=>false
def qjt:List Nat->St->Option St
 |[],s=>some { s with df:=[] }|n::ns,s=>match ae s.hp n with|some .dfr=>qjt ns { s with hp:=(n,.dead)::s.hp,df:=ns }|_=>none
def wt:Option dr->Bool|none=>true|some _=>false
def nmk(cx:Cx){R:Type}(enc:RS R)(o:Option R):Option R:=match cx.thr with
 |none=>o|some _=>match o with
  |some r=>match lr (enc.res r).1 with|none=>some r|some _=>none
  |none=>none
def o9(cx:Cx){R:Type}(enc:RS R)(j:Option dr)(s:St):Option R:=
 match cx.rd with
 |none=>match qjt s.df s with|some s'=>nmk cx enc (enc.fin cx.P cx.fn cx.ids none s')|none=>none
 |some m=>bif s.noDf then
   (match ae s.hp m with
   |some (.loop _ _ f n fr ps tag D)=>nmk cx enc (enc.fin cx.P cx.fn cx.ids (some (.val (.bool (wt j)))) { s with hp:=(m,.loop (bif wt j then .ready else .done) j f n fr ps tag D)::s.hp })| _=>none)
  else none
def St.enterRF(s:St)(f:FuncId)(ps:List Tmp)(tag:Nat)(around:Option Nat):Option St:=
 bif bh s.nx s.hp then
  (match around with
  |none=>some { s with hp:=(s.nx,.loop .ready none f s.n s.fr ps tag (s.nx+1))::(s.nx+1,.dfr)::s.hp,df:=(s.nx+1)::s.df,nx:=s.nx+32 }|some m=>match ae s.hp m with
   |some (.loop _ _ _ _ _ _ _ D)=>some { s with hp:=(s.nx,.loop .ready none f s.n s.fr ps tag D)::s.hp,nx:=s.nx+32 }| _=>none)
 else none
def zdr(s:St)(ys:List AV)(d:D):Option St:=match d with
 |.mem names xs hp _ hp'=>
  bif dn names&&o7 names&&bh s.nx s.hp then
   (match gx (au names) s.hp names,bt false [] (AV.rens (au names) ys) xs with
   |some hpv,some _=>match jo hpv hp with|some _=>some { s with hp:=mv (mu names hp' s.nx) hp'++(ny names++s.hp),nx:=s.nx+32 }|none=>none
   | _,_=>none)
  else none
 |_=>none
def ob(p:List Nat):List (List Nat×Nat)->Option Nat|[]=>none|(q,t)::r=>bif qr q p then some t else ob p r
def zci:LoopState->Bool|.busy=>false|_=>true
def qqx(cx:Cx)(p:List Nat)(g:Operand)(ps:List Tmp)(s:St):Option (Rq×St×List AV):=
 match ob p cx.tags,s.ev g with
 |some tag,some (.fn (.func h) [] cap)=>match s.enterRF cx.f ps tag cx.rd with
  |some s1=>match yv (qjs s1 h (.yld s.nx::cap)) cx.tb.ents with|some q=>some (q,s1,.yld s.nx::cap)|none=>none
  |none=>none
 |_,_=>none
def zdt(cx:Cx)(p:List Nat)(g:Operand)(ps:List Tmp)(s:St):Option St:=
 match ob p cx.tags,s.ev g with
 |some tag,some (.fn (.func h) [] cap)=>match s.enterRF cx.f ps tag cx.rd with
  |some s1=>match qj0 (fun e=>ua h e.key) cx.tb.ents with|some e=>some (coB e.hp (kh s1 e.hp (wy e.args (.yld s.nx::cap))) e.hp (frzL (yz e.args (.yld s.nx::cap)) s))|none=>none
  |none=>none
 |_,_=>none
def qqy{R:Type}(nl:Nat)(a:Rq×St×List AV)(K:Option dr->St->Option R):Option R:=
 a.1.K fun d=>match zdr a.2.1 a.2.2 d with
  |some s3=>match ae s3.hp nl with|some (.loop st pe _ _ _ _ _ _)=>bif zci st then K pe { s3 with hp:=(nl,.dead)::s3.hp } else none|_=>none
  |none=>none
def rfR(cx:Cx){R:Type}(p:List Nat)(g:Operand)(ps:List Tmp)(s:St)(K:Option dr->St->Option R):Option R:=
 match qqx cx p g ps s with
 |some a=>qqy s.nx a K|none=>match zdt cx p g ps s with
  |some s'=>match qqx cx p g ps s' with|some a=>qqy s'.nx a K|none=>none
  |none=>none
def RS.finT(ids:NM)(v:AV)(s:St):{α:Type}->RS α->Option α
 |_,.one p hp _ fro _=>match qj3 v ids p hp s with|some y=>some (fro y)|none=>none
 |_,.two l r=>match l.finT ids v s with
  |some a=>some (.inl a)|none=>match r.finT ids v s with|some b=>some (.inr b)|none=>none
def qkl(s:St):List (Nat×Nat)->Bool
 |[]=>true| (t,b)::r=>(match ae s.fr t with
  |some (.ptr b' 0)=>Nat.beq b' b| _=>false)&&qkl s r
def Cx.thrown(cx:Cx){R:Type}(enc:RS R)(x:AV)(s:St):Option R:=match cx.rd,cx.thr with
 | none,some ks=>bif s.noDf&&qkl s ks then(match enc.finT cx.ids x s with
  |some r=>match lr (enc.res r).1 with|some _=>some r|none=>none
  | none=>none) else none
 |_,_=>none
def run(cx:Cx){R:Type}(enc:RS R)(labs:List (fa R)):Nat->Bool->List d8->St->Option R
 |0,_,_,_=>none|n+1,chk,k,s=>match(bif chk then qby cx.ids s k labs else none) with
  |some lab=>match lab.ls.get cx.ids (lab.ls.co cx.ids s) with|some d=>lab.F d|none=>none
  |none=>match k with
   |[]=>o9 cx enc none s|⟨_,p,it⟩::k'=>match it with
    |.code c=>match c with
     |.skip=>run cx enc labs n true k' s|.label _=>run cx enc labs n true k' s|.seq x y=>run cx enc labs n true (⟨0,0::p,.code x⟩::⟨0,1::p,.code y⟩::k') s|.cond c x y=>match s.ev c with|some (.bool b)=>bif b then run cx enc labs n true (⟨0,0::p,.code x⟩::k') (s.know c true) else run cx enc labs n true (⟨0,1::p,.code y⟩::k') (s.know c false)|some (.val (.bool b))=>bif b then run cx enc labs n true (⟨0,0::p,.code x⟩::k') s else run cx enc labs n true (⟨0,1::p,.code y⟩::k') s|_=>none
     |.block id x=>run cx enc labs n true (⟨0,0::p,.code x⟩::⟨1,p,.inBlock id⟩::k') s|.loop x=>run cx enc labs n true (⟨0,0::p,.code x⟩::⟨2,p,.inLoop x⟩::k') s|.scope x=>run cx enc labs n true (⟨0,0::p,.code x⟩::⟨3,p,.inScope x⟩::k') s|.exit id=>match qu id k' with
      |some k''=>run cx enc labs n true k'' s|none=>match cx.rd with|some _=>o9 cx enc (some (.exit id)) s|none=>none
     |.region _ ops d=>bif d then qyz cx.P cx.tb ops (cx.thrown enc) s (fun s'=>run cx enc labs n true k' s'.bump) else qbt cx.P cx.tb ops (cx.thrown enc) ops.toList s (fun s'=>run cx enc labs n true k' s'.bump)
     |.ret=>o9 cx enc (some .ret) s|.rangeFunc g ps _ _=>rfR cx p g ps.toList s fun j s'=>match j with
      |none=>run cx enc labs n true k' s'|some .ret=>o9 cx enc (some .ret) s'|some (.exit id)=>match qu id k' with
       |some k''=>run cx enc labs n true k'' s'|none=>match cx.rd with|some _=>o9 cx enc (some (.exit id)) s'|none=>none
     |_=>none
    |.inBlock _=>run cx enc labs n true k' s|.inScope _=>run cx enc labs n true k' s|.inLoop x=>run cx enc labs n true (⟨0,0::p,.code x⟩::⟨2,p,.inLoop x⟩::k') s|.beginRound=>match cx.rd with
     |some m=>match ae s.hp m with|some (.loop .ready pe f n' fr ps tag D)=>run cx enc labs n true k' { s with hp:=(m,.loop .busy pe f n' fr ps tag D)::s.hp }|_=>none
     |none=>none
    |_=>none
def py(P:Program)(ro:Option Nat)(f:FuncId)(x:Machine)(cs:List Frame)(Q:Value->World->Prop):Prop:=
 match ro with|none=>∃v w' fr,Q v w'/\Steps P x (lone fr cs w')/\fr.fn=f/\fr.mode = .returning/\fr.defers=LC.base/\fr.kind = .normal/\∃fn,P.funcs[fr.fn]? = some fn/\(results fn fr.tmps).run P w' = .ok v w'|some _=>∀c cs',cs=c::cs'->∃v w',Q v w'/\Steps P x (lone (c.finish v) cs' w')
def py.head{P:Program}{ro:Option Nat}{f:FuncId}{x y:Machine}{cs:List Frame}{Q:Value->World->Prop}(h:Steps P x y)(k:py P ro f y cs Q):py P ro f x cs Q:=by
 cases ro with
 |none=>obtain⟨v,w',fr,h1,h2,h3⟩:=k;exact⟨v,w',fr,h1,h.trans h2,h3⟩
 |some l=>exact fun c cs' e=>by obtain⟨v,w',h1,h2⟩:=k c cs' e;exact⟨v,w',h1,h.trans h2⟩
section
variable{P:Program}{z5m:World}{z5g:Gh}{z5j:List (Nat×ag)}{G:Gh}{s:St}{a:Act}{w:World}
def qb1(tmps:Array Value)(x:ResultVar):Sem Value:=match x with|.tmp t=>pure (tmps.getD t undef)|.cell a t=>do loadVar t (← asAddr (tmps.getD a undef))
def zsp(fn:Func)(tmps:Array Value):results fn tmps=(do let vs ← fn.results.mapM (qb1 tmps);pure (if h:vs.size=1 then vs[0] else .tuple vs)):=rfl
def zkd(hr:ai z5m z5g z5j G s a w){x:ResultVar}{v:AV}(hq:q1q P s x=true)(h:qxn P s x=some v):∃u,(qb1 a.tmps x).run P w = .ok u w/\aj v G u:=by
 cases x with
 |tmp t=>
  obtain⟨u,h1,h2⟩:=hr.frame t v h;exact⟨u,by simp[qb1,Array.getD_eq_getD_getElem?,h1],h2⟩
 |cell t T=>
  simp only[qxn]at h;split at h
  ·rename_i b off hb;split at h
   ·rename_i cs T' hc;obtain⟨u,h1,B,hB,rfl⟩:=hr.frame _ _ hb;obtain⟨B',vs,k1,k2,k3,_⟩:=hr.fin.mem.holds _ _ hc;rw[k1]at hB;injection hB with hB;subst hB
    obtain⟨z,hz,hrz⟩:=qb4 (P:=P) (w:=w) h (o:=0) k3 (fun j u hu=>by rw[wO];exact cell_of_heap k2 hu)
    rw[wO]at hz;exact⟨z,by simp[qb1,Array.getD_eq_getD_getElem?,h1,asAddr,hz],hrz⟩
   ·cases h
  ·rename_i cs hb;obtain⟨u,h1,b,o,rfl,hc⟩:=hr.frame _ _ hb;obtain⟨vs,k1,k2⟩:=hc.values;obtain⟨z,hz,hrz⟩:=qb4 (P:=P) (w:=w) h (o:=o) k1 (fun j u hu=>hr.fin.mem.agree _ _ _ (k2 j u hu))
   exact⟨z,by simpa [qb1,Array.getD_eq_getD_getElem?,h1,asAddr] using hz,hrz⟩
  ·rename_i k sz hb;split at h
   ·rename_i τ l E n hl hagg hn;simp only[q1q,hb,hl,hn,decide_eq_true_eq]at hq;cases hbb:τ.is1&&Nat.beq sz 1<;>rw[hbb]at h<;>simp only[qT,qF,reduceCtorEq,qI]at h
    subst h;simp only[qA]at hbb;have hsz:τ.sz=1:=qe9 hbb.1;obtain⟨u,h1,B,n0,c0,ho,rfl⟩:=hr.frame _ _ hb;obtain⟨ad,c',q1,q2⟩:=hr.fin.mem.holds _ _ hl;rw[ho]at q1;simp only[qI,qP]at q1;obtain⟨rfl,rfl,rfl⟩:=q1;rcases q2 with⟨q2,_⟩|⟨g,vs,fz,k1,k2,k3,k4,k5,k6,k7,k8,k9⟩
    ·cases q2
    ·simp only[qI,Addr.mk.injEq,and_true]at k1;subst k1;have hfl:(l.flatMap τ.enc).length=n:=by rw[t6,hsz,hq,Nat.mul_one]
     have hload:iu P T (l.flatMap τ.enc) 0=some (.agg (l.flatMap τ.enc)):=by
      unfold iu;rw[hagg,hn];have:Nat.ble (0+n) (l.flatMap τ.enc).length=true:=by rw[hfl,wO];simp
      simp only[this,qT,List.drop_zero];rw[List.take_of_length_le (by rw[hfl];exact wF _)]
     obtain⟨u,hu,us,rfl,hru⟩:=qb4 (P:=P) (w:=w) hload (B:=B) (o:=0) k7 (fun j u hu=>by
      rw[List.getElem?_take]at hu;split at hu
      ·rw[wO];exact cell_of_heap k2 hu
      ·cases hu)
     simp at hu;refine⟨.agg us,by simp[qb1,Array.getD_eq_getD_getElem?,h1,asAddr,hu],?_⟩
     have:=q1j (G:=G) hbb.1 hru;simpa using this
   ·cases h
  ·cases h
def q7w(hr:ai z5m z5g z5j G s a w):∀{xs:List ResultVar}{vs:List AV},qk8 P s xs=true->qef P s xs=some vs ->
  ∃us:List Value,(xs.mapM (qb1 a.tmps)).run P w = .ok us w/\am vs G us
 |[],vs,_,h=>by simp only[qef,qI]at h;subst h;exact⟨[],oC,trivial⟩|x::xs,vs,hq,h=>by
  simp only[qk8,qA]at hq;simp only[qef]at h;split at h
  ·rename_i v hv;split at h
   ·rename_i us hus;simp only[qI]at h;subst h;obtain⟨u,hu,hru⟩:=zkd hr hq.1 hv;obtain⟨us',hu',hru'⟩:=q7w hr hq.2 hus;refine⟨u::us',?_,hru,hru'⟩;rw[List.mapM_cons];simp[Sem.run_bind,hu,Result.andThen_ok,hu',Sem.run_pure]
   ·cases h
  ·cases h
def zke(hr:ai z5m z5g z5j G s a w){fn:Func}{v:AV}(hq:qk8 P s fn.results.toList=true)(h:qxo P fn s=some v):∃u,(results fn a.tmps).run P w = .ok u w/\aj v G u:=by
 unfold qxo at h;have key:∀vs,qef P s fn.results.toList=some vs->∃us:List Value,(results fn a.tmps).run P w = .ok (if h:us.toArray.size=1 then us.toArray[0] else .tuple us.toArray) w/\am vs G us:=fun vs hv=>by
  obtain⟨us,h1,h2⟩:=q7w hr hq hv;refine⟨us,?_,h2⟩;rw[zsp,Array.mapM_eq_mapM_toList];simp only[Sem.run_bind,Sem.run_map,h1,Result.andThen_ok,Sem.run_pure]
 split at h
 ·rename_i vs hv;obtain⟨us,h1,h2⟩:=key _ hv;split at h
  ·simp at h;subst h
   match us,h2 with|[u],h2=>exact⟨u,by rw[h1];rfl,h2.1⟩|[],h2=>exact h2.elim|_::_::_,h2=>exact h2.2.elim
  ·rename_i hne;simp at h;subst h;refine⟨.tuple us.toArray,?_,us.toArray,rfl,by simpa using h2⟩
   rw[h1,dif_neg];intro he;have hl:=h2.length;simp at he;rw[he]at hl
   match vs,hl,hne with|[x],_,hne=>exact hne x rfl
 ·cases h
def ai.frzC{p:Pt}{b off:Nat}{s:St}{G:Gh}(hr:ai z5m z5g z5j G s a w):∃G',ai z5m z5g z5j G' (frzC p b off s) a w:=by
 unfold Sym.frzC;split
 ·exact hr.frzL
 ·exact⟨G,hr⟩
def ai.coR{bs:List (Nat×bj)}:∀{xs:List ResultVar}{ps:List Pt}{s:St}{G:Gh},ai z5m z5g z5j G s a w->∃G',ai z5m z5g z5j G' (coR bs xs ps s) a w
 |[],_,s,G,hr=>⟨G,hr⟩|x::xs,ps,s,G,hr=>by
  unfold Sym.coR;split
  ·exact⟨G,hr⟩
  ·split
   ·obtain⟨G',hr'⟩:=hr.coF (bs:=bs) (l:=[(_,_)]);exact ai.coR hr'
   ·split
    ·obtain⟨G',hr'⟩:=hr.coB1 (bs:=bs);obtain⟨G2,hr2⟩:=hr'.frzC;exact ai.coR hr2
    ·exact ai.coR hr
def qzc(hf:Fin z5m z5g z5j G s.hp w){ids:NM}(hid:∀n bx,ae z5j n=some bx->bf ids n=some n){v:AV}{p:Pt}{hp:List (Nat×bj)}{y:p.den×f8 hp}(h:qj3 v ids p hp s=some y) :
  ∃G',Fin z5m z5g z5j G' (bp hp y.2) w/\∀u,aj v G u->aj (p.put y.1) G' u:=by
 unfold qj3 at h;split at h
 ·rename_i d nm h1;split at h
  ·rename_i d' nm' h2;cases hq:dn nm'&&vy nm' hp<;>rw[hq]at h<;>simp only[qT,qF,reduceCtorEq]at h
   have h:=qJ h;subst h;simp at hq;obtain⟨g1,g2⟩:=Pt.get_seen h1;obtain⟨b1,b2⟩:=qa6 h2;obtain⟨b3,_⟩:=b2 nm' hq.1 (cn.refl _);exact⟨G.view nm',hf.fit hq.1 (fun n bx hb=>b1 _ _ (g1 _ _ (hid n bx hb))) b3,fun u hu=>(g2 nm' hq.1 b1).rep hu⟩
  ·cases h
 ·cases h
def qi9(P:Program)(fn:Func)(rv:Option AV)(a:Act)(w:World)(Q:Value->Prop):Prop:=
 match rv with|none=>∃u,(results fn a.tmps).run P w = .ok u w/\Q u|some x=>∀b,x = .val (.bool b)->Q (.bool b)
def znu(hr:ai z5m z5g z5j G s a w){ids:NM}(hid:∀n bx,ae z5j n=some bx->bf ids n=some n){fn:Func}{rv:Option AV}{p:Pt}{hp:List (Nat×bj)}{y:p.den×f8 hp}(hq:qza P fn ids rv p hp s=true)(h:qy9 P fn ids rv p hp s=some y) :
  qi9 P fn rv a w fun u=>∃G',Fin z5m z5g z5j G' (bp hp y.2) w/\aj (p.put y.1) G' u:=by
 unfold qy9 at h;split at h
 ·rename_i x;obtain⟨G1,hr1⟩:=hr.coB (bs:=hp) (nm:=kh s hp ids) (l:=hp);obtain⟨G',h1,h2⟩:=qzc hr1.fin hid h;exact fun b e=>⟨G',h1,h2 _ (by subst e;rfl)⟩
 ·split at h
  ·rename_i v hv;obtain⟨G1,hr1⟩:=hr.coB (bs:=hp) (nm:=kh s hp ids) (l:=hp);obtain⟨G2,hr2⟩:=hr1.coR (bs:=hp) (xs:=fn.results.toList) (ps:=qqq p);obtain⟨G',h1,h2⟩:=qzc hr2.fin hid h;obtain⟨u,hu,hru⟩:=zke hr2 hq hv;exact⟨u,hu,G',h1,h2 _ hru⟩
  ·cases h
def qi9.mono{fn:Func}{rv:Option AV}{Q Q':Value->Prop}(h:qi9 P fn rv a w Q)(k:∀v,Q v->Q' v):qi9 P fn rv a w Q':=by
 cases rv with
 |none=>obtain⟨u,h1,h2⟩:=h;exact⟨u,h1,k _ h2⟩
 |some x=>exact fun b e=>k _ (h b e)
def qpw(hr:ai z5m z5g z5j G s a w){ids:NM}(hid:∀n bx,ae z5j n=some bx->bf ids n=some n){fn:Func}{rv:Option AV}:∀{α:Type}{enc:RS α}{x:α},enc.fin P fn ids rv s=some x ->
  qi9 P fn rv a w fun u=>∃G',Fin z5m z5g z5j G' (enc.res x).2 w/\aj (enc.res x).1 G' u
 |_,.one p hp tq fro ok,x,h=>by
  simp[RS.fin]at h;cases hq:qza P fn ids rv p hp s<;>rw[hq]at h<;>simp at h
  split at h
  ·rename_i y hy;have h:=qJ h;subst h;have:=znu (P:=P) hr hid hq hy;simp[RS.res,ok];exact this
  ·cases h
 |_,.two l r,x,h=>by
  simp[RS.fin]at h;split at h
  ·rename_i y hy;have h:=qJ h;subst h;have:=qpw (enc:=l) hr hid hy;exact this
  ·split at h
   ·rename_i y hy;have h:=qJ h;subst h;have:=qpw (enc:=r) hr hid hy;exact this
   ·cases h
def qzb(hf:Fin z5m z5g z5j G s.hp w){ids:NM}(hid:∀n bx,ae z5j n=some bx->bf ids n=some n){v:AV}:∀{α:Type}{enc:RS α}{x:α},enc.finT ids v s=some x ->
  ∃G',Fin z5m z5g z5j G' (enc.res x).2 w/\∀u,aj v G u->aj (enc.res x).1 G' u
 |_,.one p hp tq fro ok,x,h=>by
  simp only[RS.finT]at h;split at h
  ·rename_i y hy;have h:=qJ h;subst h;have:=qzc hf hid hy;simp only[RS.res,ok];exact this
  ·cases h
 |_,.two l r,x,h=>by
  simp only[RS.finT]at h;split at h
  ·rename_i y hy;have h:=qJ h;subst h;exact qzb (enc:=l) hf hid hy
  ·split at h
   ·rename_i y hy;have h:=qJ h;subst h;exact qzb (enc:=r) hf hid hy
   ·cases h
def q8r:∀{ns:List Nat}{s s':St}{G:Gh}{a:Act}{w:World},s.df=ns->qjt ns s=some s'->ai z5m z5g z5j G s a w->∀(fr:Frame)(cs:List Frame),fr.mode = .returning->fr.defers=a.defers++LC.base ->
  ∃w',ai z5m z5g z5j G s' { a with defers:=[] } w'/\Steps P (lone fr cs w) (lone { fr with defers:=LC.base } cs w')
 |[],s,s',G,a,w,hd,h,hr,fr,cs,hm,hfd=>by
  simp[qjt,qI]at h;subst h;obtain⟨bs,h1,h2⟩:=hr.defers;rw[hd]at h2;have:bs=[]:=by cases bs with|nil=>rfl|cons _ _=>simp at h2
  subst this;refine⟨w,⟨⟨[],rfl,rfl⟩,hr.size,hr.frame,hr.fresh,hr.fin⟩,?_⟩;have e:({ fr with defers:=LC.base }:Frame)=fr:=by rw[← show fr.defers=LC.base by rw[hfd,h1];rfl]
  rw[e];exact .refl _ _
 |n::ns,s,s',G,a,w,hd,h,hr,fr,cs,hm,hfd=>by
  simp[qjt]at h;split at h
  ·rename_i hl;obtain⟨bs,h1,h2⟩:=hr.defers;rw[hd]at h2
   cases bs with
   |nil=>simp at h2|cons b bs=>
    simp at h2;obtain⟨B,k1,k2,k3⟩:=hr.fin.mem.holds n _ hl;rw[k1]at h2;obtain⟨e,h2⟩:=h2;injection e with e;subst e
    have hr1:=hr.setBox (bx' := .dead) (o := .deferred none) hl (show G.at n .dfr=some b from k1) (fun c hc=>by cases hc) trivial k3
    have hr2:ai z5m z5g z5j G { s with hp:=(n,.dead)::s.hp,df:=ns } { a with defers:=bs.map (fun b=>{ target := .collected b,args:=#[] }) } (w.putObj b (.deferred none)):=
     ⟨⟨bs,rfl,h2⟩,hr1.size,hr1.frame,hr1.fresh,hr1.fin⟩
    have hs:=step_collected (P:=P) (cs:=cs) (fr:=fr) (by rw[hm];simp) (by rw[hfd,h1];rfl) rfl (run_takeDeferred k2)
    obtain⟨w',i1,i2⟩:=q8r (a:={ a with defers:=bs.map (fun b=>{ target := .collected b,args:=#[] }) }) rfl h hr2 { fr with defers:=bs.map (fun b=>{ target := .collected b,args:=#[] })++LC.base } cs hm rfl
    exact⟨w',i1,(Steps.one hs).trans i2⟩
  ·cases h
end
structure Cx.Ok(cx:Cx)(body:Code):Prop where
 ents:∀e∈cx.tb.ents,e.Sound cx.P
 mixed:cx.P.follows .mixedOrders=true
 func:cx.P.funcs[cx.f]? = some cx.fn
 tags:∀p t,ob p cx.tags=some t->∀g ps x y,sub body p = .rangeFunc g ps x y->LC.lc t=some (x,y)
def tc(cx:Cx)(z5g:Gh)(z5j:List (Nat×ag))(b:Frame):Prop:=match cx.rd with|none=>b.roundOf=none|some m=>∃B bx,z5g.box m=some B/\ae z5j m=some bx/\b.roundOf=some B
section
variable{z5m:World}{z5g:Gh}{z5j:List (Nat×ag)}{G:Gh}{s:St}{a:Act}{w:World}
def zs0{P:Program}(fn:FuncId)(tmps:Array Value)(ps:Array Tmp)(asn bo:Code){l:Nat}{r:Loop}(h:w.heap[l]? = some (.loop r)) :
  (Instr.enterLoop fn tmps ps asn bo (some l)).run P w = .ok (w.heap.size,[]) (w.alloc (.loop { state := .ready,pending:=none,fn,tmps,params:=ps,assign:=asn,body:=bo,defers:=r.defers })):=by
 unfold Instr.enterLoop;simp only[Sem.run_bind,run_getLoop h,run_newObj_alloc,Result.andThen,Sem.run_pure]
def zbl(hr:ai z5m z5g z5j G s a w){k D DB:Nat}{f:FuncId}{ps:Array Tmp}{tag:Nat}{asn bo:Code}(htag:LC.lc tag=some (asn,bo))(hk:ae s.hp k=none)(hkx:s.nx<=k)(hD:G.box D=some DB)(hne:D≠k) :
  ai z5m z5g z5j (G.addBox k w.heap.size) { s with hp:=(k,.loop .ready none f s.n s.fr ps.toList tag D)::s.hp } a (w.alloc (.loop { state := .ready,pending:=none,fn:=f,tmps:=a.tmps,params:=ps,assign:=asn,body:=bo,defers:=DB })):=by
 have hle:G.le (G.addBox k w.heap.size):=Gh.addBox_le (hr.fresh k hkx hk).1;refine hr.newBox hk hkx (fun b hb => ?_) ⟨w.heap.size,a.tmps,DB,Gh.addBox_self,by rw[Gh.addBox_ne hne];exact hD,⟨asn,bo,htag,?_⟩,hr.size,fun i x hx => ?_,fun o => ?_⟩
 ·have hb:(G.addBox k w.heap.size).box k=some b:=hb;rw[Gh.addBox_self]at hb;injection hb with hb;exact hb.symm
 ·rw[qy];simp
 ·obtain⟨v,h1,h2⟩:=hr.frame i x hx;exact⟨v,h1,h2.le hle⟩
 ·cases hq:(G.addBox k w.heap.size).imm w.heap.size o with
  |none=>rfl|some v=>
   have:=World.block_lt_of_cell? _ _ (hr.fin.mem.agree _ _ _ hq);simp at this
def ai.nx(hr:ai z5m z5g z5j G s a w){k:Nat}(h:s.nx<=k):ai z5m z5g z5j G { s with nx:=k } a w:=⟨hr.defers,hr.size,hr.frame,fun m hm hl=>hr.fresh m (Nat.le_trans h hm) hl,hr.fin⟩
def zng(hr:ai z5m z5g z5j G s a w){cx:Cx}{ps:Array Tmp}{tag:Nat}{asn bo:Code}(htag:LC.lc tag=some (asn,bo)){s1:St}(h:s.enterRF cx.f ps.toList tag cx.rd=some s1){b:Frame}(hb:b.fn=cx.f)(hrd:tc cx z5g z5j b) :
  ∃G1 l ep w1,(Instr.enterLoop b.fn a.tmps ps asn bo b.roundOf).run cx.P w = .ok (l,ep) w1/\G1.box s.nx=some l/\G.le G1/\ai z5m z5g z5j G1 s1 { a with defers:=ep++a.defers } w1/\s1.nx=s.nx+32:=by
 unfold St.enterRF at h;cases hn:bh s.nx s.hp<;>rw[hn]at h<;>simp at h
 have hk0:=ng hn s.nx (wF _) oA
 have hk1:=ng hn (s.nx+1) oA oA
 unfold tc at hrd;split at h
 ·rename_i hc;rw[hc]at hrd;simp only at hrd;simp at h;subst h;have hr1:=hr.newBox (k:=s.nx+1) (bx := .dfr) (o := .deferred (some [])) hk1 oA (fun b hb=>by
   have hb:(G.addBox (s.nx+1) w.heap.size).box (s.nx+1)=some b:=hb;rw[Gh.addBox_self]at hb;injection hb with hb;exact hb.symm)
   ⟨w.heap.size,Gh.addBox_self,qy _ _,fun o=>by
    cases hq:(G.addBox (s.nx+1) w.heap.size).imm w.heap.size o with
    |none=>rfl|some v=>
     have:=World.block_lt_of_cell? _ _ (hr.fin.mem.agree _ _ _ hq);simp at this⟩
  have hk0':ae ((s.nx+1,ag.dfr)::s.hp) s.nx=none:=by
   simp[ae];have:Nat.beq (s.nx+1) s.nx=false:=by
    cases hq:Nat.beq (s.nx+1) s.nx
    ·rfl
    ·have:=qN hq;omega
   rw[this];exact hk0
  have hr2:=zbl hr1 (k:=s.nx) (D:=s.nx+1) (f:=cx.f) (ps:=ps) htag hk0' (wF _) Gh.addBox_self oA
  have hle1:G.le (G.addBox (s.nx+1) w.heap.size):=Gh.addBox_le (hr.fresh (s.nx+1) oA hk1).1
  have hle2:(G.addBox (s.nx+1) w.heap.size).le ((G.addBox (s.nx+1) w.heap.size).addBox s.nx (w.alloc (.deferred (some []))).heap.size):=Gh.addBox_le (hr1.fresh s.nx (wF _) hk0').1;refine⟨_,w.heap.size+1,[{ target := .collected w.heap.size,args:=#[] }],_,by rw[hrd,hb];exact run_enterLoop_outer _ _ _ _ _,?_,hle1.trans hle2,?_,rfl⟩
  ·rw[Gh.addBox_self,World.size_alloc]
  ·have hr3:=hr2.nx (k:=s.nx+32) (by show s.nx<=_;omega)
   refine⟨?_,hr3.size,hr3.frame,hr3.fresh,hr3.fin⟩;obtain⟨bs,h1,h2⟩:=hr3.defers;refine⟨w.heap.size::bs,by rw[h1];rfl,?_⟩
   simp only[List.map_cons,List.cons.injEq];refine⟨?_,h2⟩;rw[Gh.addBox_ne oA,Gh.addBox_self]
 ·rename_i m hc;rw[hc]at hrd;simp only at hrd;obtain⟨B,bx0,e1,e2,e3⟩:=hrd;split at h
  ·rename_i D hm;simp at h;subst h;obtain⟨B',tmps,DB,k1,k2,⟨asn',bo',_,k3⟩,_⟩:=hr.fin.mem.holds _ _ hm;have:=hr.fin.keep m bx0 B e2 e1;rw[this]at k1;injection k1 with k1;subst k1
   have hne:D≠s.nx:=fun e=>by subst e;rw[(hr.fresh _ (wF _) hk0).1]at k2;cases k2
   have hr2:=zbl hr (k:=s.nx) (D:=D) (f:=cx.f) (ps:=ps) htag hk0 (wF _) k2 hne;have hle2:G.le (G.addBox s.nx w.heap.size):=Gh.addBox_le (hr.fresh s.nx (wF _) hk0).1;refine⟨_,w.heap.size,[],_,by rw[e3,hb];exact zs0 _ _ _ _ _ k3,Gh.addBox_self,hle2,?_,rfl⟩
   exact hr2.nx (k:=s.nx+32) (by show s.nx<=_;omega)
  ·cases h
end
def qzz:Option dr->List Item|none=>[]|some j=>[.code j.code]
section
variable{z5m:World}{z5g:Gh}{z5j:List (Nat×ag)}{G:Gh}{s:St}{a:Act}{w:World}{cx:Cx}{body:Code}{R:Type}
def zds(ok:cx.Ok body)(hr:ai z5m z5g z5j G s a w){p:List Nat}{g:Operand}{ps:Array Tmp}{asn bo:Code}(hsub:sub body p = .rangeFunc g ps asn bo){q:Rq×St×List AV}(hq:qqx cx p g ps.toList s=some q)
  {K:Option dr->St->Option R} {x:R} (h:qqy s.nx q K=some x) {b:Frame} (cs:List Frame) (hb:b.fn=cx.f) (_hkind:b.kind = .normal) (hrd:tc cx z5g z5j b) (k:List Item) :
  ∃j s' G' a' w',K j s'=some x/\ai z5m z5g z5j G' s' a' w'/\Steps cx.P (lone (b.atR a.bs (.code (.rangeFunc g ps asn bo)::k)) cs w) (lone (b.atR a'.bs (qzz j++k)) cs w'):=by
 unfold qqx at hq;split at hq
 ·rename_i tag h0 cap ht hg;split at hq
  ·rename_i s1 hs1;split at hq
   ·rename_i q1 hq1;have hq:=qJ hq;subst hq;obtain⟨G1,l,ep,w1,he,hl,hle,hr1,hnx⟩:=zng hr (ok.tags p tag ht g ps asn bo hsub) hs1 hb hrd;unfold qqy at h;obtain⟨d,hd,h⟩:=Rq.K_some h;simp only at h hd;obtain⟨e,hemem,hc⟩:=yw hq1;unfold qjs at hc;cases hkk:ua h0 e.key<;>rw[hkk]at hc<;>simp only[qT,qF,reduceCtorEq]at hc
    obtain⟨N,x1,x1',y,k1,k2,k3,k4,k5,k6⟩:=qkr hc hd;subst k2;have hs:=ok.ents e hemem x1 x1' y k1;rw[qz1 hkk]at hs;obtain⟨hpl,hct⟩:=hs;unfold zdr at h;simp only at h;cases hbb:dn N&&o7 N&&bh s1.nx s1.hp<;>rw[hbb]at h<;>simp only[qT,qF,reduceCtorEq]at h
    simp only[qA]at hbb;obtain⟨⟨hb1,_⟩,hb2⟩:=hbb
    cases hv:gx (au N) s1.hp N with
    |none=>rw[hv]at h;simp only[reduceCtorEq]at h|some hpv=>
    cases hvs:bt false [] (AV.rens (au N) (.yld s.nx::cap)) (Pts.put e.args x1) with
    |none=>rw[hv,hvs]at h;simp only[reduceCtorEq]at h|some ps1=>
    rw[hv,hvs]at h;simp only at h
    cases hvw:jo hpv (bp e.hp x1') with
    |none=>rw[hvw]at h;simp only[reduceCtorEq]at h|some ps2=>
    rw[hvw]at h;simp only at h;have p1:=k5 _ hvs;have p2:=k6 _ _ hv hvw;obtain⟨fs,cps,hge,hfs,hcs⟩:=bn hr hg;have hfs0:fs=#[]:=Array.eq_empty_of_size_eq_zero (by simpa using hfs.length.symm)
    subst hfs0;have hge':({ a with defers:=ep++a.defers }:Act).eval g = .func (.func h0) #[] cps:=hge
    have hres:(resolve a.eval (rangeCall g l) 0).run cx.P w1 = .ok { target := .fn (.func h0) cps,args:=#[.func (.yield l) #[] #[]] } w1:=by
     have hy:a.eval (.const (.func (.yield l) #[] #[])) = .func (.yield l) #[] #[]:=rfl;simp[resolve,hge,Deferred.ofValue,hy]
    have hinv:(invoke (.fn (.func h0) cps) #[.func (.yield l) #[] #[]]).run cx.P w1 = .ok (.enter h0 (#[.func (.yield l) #[] #[]]++cps)) w1:=by
     simp[invoke,hpl _ w1]
    have henter:=stepR_rangeFunc (P:=cx.P) (b:=b) (a:=a.bs) (k:=k) (cs:=cs) he hres hinv;have hbs:({ a.bs with defers:=ep++a.bs.defers }:Act)=({ a with defers:=ep++a.defers }:Act).bs:=by simp[Act.bs,qS]
    rw[hbs]at henter;have hreps:am (.yld s.nx::cap) G1 (.func (.yield l) #[] #[]::cps.toList):=⟨⟨l,hl,rfl⟩,hcs.le hle⟩;have hm:b8 (G1.view N) (bp e.hp x1') w1:=(hr1.fin.mem.view hv (ym hb1)).vw hvw p2;have hreps2:=ko (Gh.le.refl _) (fun e=>by cases e) hvs p1 (am.ren (G:=G1) (G':=G1.view N) (fun _ _ _ h=>h) (ru N) (ut N) hreps)
    have hcalls:=hct w1 (G1.view N) _ hm hreps2;have e1:(Value.func (.yield l) #[] #[]::cps.toList).toArray=#[.func (.yield l) #[] #[]]++cps:=oC
    rw[e1]at hcalls;obtain⟨en,w2,fr,hpost,hcomes,hfrfn,hleave⟩:=hcalls (b.atR { a with defers:=ep++a.defers }.bs (.inRangeFunc l::k)::cs)
    obtain⟨G2,v,rfl,_,hle2,hr2⟩:=qks hr1 hb1 hb2 (wF _) hv hvw p2 hpost;have hsteps:Steps cx.P (lone (b.atR a.bs (.code (.rangeFunc g ps asn bo)::k)) cs w) (lone (b.atR { a with defers:=ep++a.defers }.bs (.endRangeFunc l::k)) cs w2):=by
     refine(Steps.one henter).trans (Steps.trans hcomes (.one ?_));rw[← finish_atR_inRangeFunc l v];exact step_leave_returned hleave
    split at h
    ·rename_i st pe f' n' fr' ps' tag' D' hlk;cases hnb:zci st<;>rw[hnb]at h<;>simp only[qT,qF,reduceCtorEq]at h
     obtain⟨B,tmps,DB,i1,i2,⟨asn',bo',_,i3⟩,i4,i5,i6⟩:=hr2.fin.mem.holds _ _ hlk;have:=hle2.box _ _ hl;rw[this]at i1;injection i1 with i1;subst i1
     have hend:=run_endLoop (P:=cx.P) i3 (by intro e;simp only at e;subst e;cases hnb)
     have hst:=stepR_endRangeFunc (b:=b) (a:={ a with defers:=ep++a.defers }.bs) (k:=k) (cs:=cs) hend
     have e2:(Option.map Item.code (Option.map dr.code pe)).toList=qzz pe:=by cases pe<;>rfl
     rw[e2]at hst;exact⟨pe,_,G2,{ a with defers:=ep++a.defers },_,h,(hr2.nx (k:=s1.nx+32) (Nat.le_add_right _ _)).setBox (bx' := .dead) hlk (show G2.at s.nx (.loop st pe f' n' fr' ps' tag' D')=some l from this) (fun c hc=>by cases hc) trivial i6,hsteps.trans (.one hst)⟩
    ·cases h
   ·cases hq
  ·cases hq
 ·cases hq
def zsq(ok:cx.Ok body)(hr:ai z5m z5g z5j G s a w){p:List Nat}{g:Operand}{ps:Array Tmp}{asn bo:Code}(hsub:sub body p = .rangeFunc g ps asn bo)
  {K:Option dr->St->Option R} {x:R} (h:rfR cx p g ps.toList s K=some x) {b:Frame} (cs:List Frame) (hb:b.fn=cx.f) (hkind:b.kind = .normal) (hrd:tc cx z5g z5j b) (k:List Item) :
  ∃j s' G' a' w',K j s'=some x/\ai z5m z5g z5j G' s' a' w'/\Steps cx.P (lone (b.atR a.bs (.code (.rangeFunc g ps asn bo)::k)) cs w) (lone (b.atR a'.bs (qzz j++k)) cs w'):=by
 unfold rfR at h;split at h
 ·rename_i q hq;exact zds ok hr hsub hq h cs hb hkind hrd k
 ·split at h
  ·rename_i s' hs';have:∃G',ai z5m z5g z5j G' s' a w:=by
    unfold zdt at hs';split at hs'
    ·split at hs'
     ·split at hs'
      ·have hs':=qJ hs';subst hs';obtain⟨G1,hr1⟩:=hr.frzL;exact hr1.coB
      ·cases hs'
     ·cases hs'
    ·cases hs'
   obtain⟨G',hr'⟩:=this;split at h
   ·rename_i q hq;exact zds ok hr' hsub hq h cs hb hkind hrd k
   ·cases h
  ·cases h
def qa2(cx:Cx){R:Type}(enc:RS R)(r:R):Prop:=match cx.thr with|none=>True|some _=>lr (enc.res r).1=none
def zcc{R:Type}{enc:RS R}{o:Option R}{r:R}(h:nmk cx enc o=some r):o=some r/\qa2 cx enc r:=by
 unfold nmk at h;unfold qa2;split at h
 ·rename_i hc
  (try rw[hc])
  exact⟨h,trivial⟩
 ·rename_i hc
  (try rw[hc])
  split at h
  ·split at h
   ·rename_i hm;have:=qJ h;subst this;exact⟨rfl,hm⟩
   ·cases h
  ·cases h
def jv(cx:Cx){R:Type}(TT:World->Gh->R->List PanicEntry->Act->World->Prop)(z5j:List (Nat×ag))(enc:RS R)(k:List Item)(s:St)(r:R):Prop:=
 ∀(z5m:World)(z5g G:Gh)(a:Act)(w:World),ai z5m z5g z5j G s a w->∀(b:Frame)(cs:List Frame),b.fn=cx.f->b.kind = .normal->tc cx z5g z5j b ->
  (qa2 cx enc r/\py cx.P b.roundOf cx.f (lone (b.atR a.bs k) cs w) cs (fun v w'=>∃G',Fin z5m z5g z5j G' (enc.res r).2 w'/\aj (enc.res r).1 G' v))\/jd cx.P cx.f (TT z5m z5g r) (lone (b.atR a.bs k) cs w) cs
def qsf(cx:Cx)(j:Option dr)(k:List Item):Prop:=match j with|none=>k=[]|some .ret=>∃k',k = .code .ret::k'|some (.exit id)=>cx.rd≠none/\∃k',k = .code (.exit id)::k'/\exitTo id k'=none
def qpm(ok:cx.Ok body)(hid:∀n bx,ae z5j n=some bx->bf cx.ids n=some n){enc:RS R}{j:Option dr}{r:R}{k:List Item}(hk:qsf cx j k)(h:o9 cx enc j s=some r){TT:World->Gh->R->List PanicEntry->Act->World->Prop}:jv cx TT z5j enc k s r:=by
 intro z5m z5g G a w hr b cs hb hkind hrd;refine .inl ?_;unfold o9 at h;unfold tc at hrd;split at h
 ·rename_i hrdn;rw[hrdn]at hrd;simp only at hrd;split at h
  ·rename_i s' hs';obtain⟨h,hNM⟩:=zcc h;refine⟨hNM,?_⟩;have h1:Steps cx.P (lone (b.atR a.bs k) cs w) (lone { b.atR a.bs k with mode := .returning } cs w):=by
    cases j with
    |none=>simp only[qsf]at hk;subst hk;exact .one (stepR_end hrd)|some j=>cases j with
     |ret=>obtain⟨k',rfl⟩:=hk;exact .one (stepR_ret hrd)
     |exit id=>exact absurd hrdn hk.1
   obtain⟨w',i1,i2⟩:=q8r (P:=cx.P) rfl hs' hr { b.atR a.bs k with mode := .returning } cs rfl rfl
   obtain⟨u,u1,u2⟩:=qpw (P:=cx.P) i1 hid h;rw[hrd];exact⟨u,w',_,u2,h1.trans i2,hb,rfl,rfl,hkind,cx.fn,by rw[← ok.func,← hb];rfl,u1⟩
  ·cases h
 ·rename_i m hrdm;rw[hrdm]at hrd;simp only at hrd;obtain⟨B,bx0,e1,e2,e3⟩:=hrd;cases hd:s.noDf<;>rw[hd]at h<;>simp only[qT,qF,reduceCtorEq]at h
  split at h
  ·rename_i st pe f n fr ps tag D hl;obtain⟨B',tmps,DB,i1,i2,⟨asn,bo,i3,i4⟩,i5,i6,i7⟩:=hr.fin.mem.holds _ _ hl;have:=hr.fin.keep m bx0 B e2 e1;rw[this]at i1;injection i1 with i1;subst i1
   have hend:=run_endRound (P:=cx.P) (j.map dr.code) i4;have hiso:(j.map dr.code).isNone=wt j:=by cases j<;>rfl
   rw[hiso]at hend;have hst:(if wt j=true then LoopState.ready else LoopState.done)=(bif wt j then LoopState.ready else LoopState.done):=by cases wt j<;>rfl
   rw[hst]at hend;have hr2:=hr.setBox (bx' := .loop (bif wt j then .ready else .done) j f n fr ps tag D) (o := .loop { state:=bif wt j then .ready else .done,pending:=j.map dr.code,fn:=f,tmps:=tmps,params:=ps.toArray,assign:=asn,body:=bo,defers:=DB }) hl (show G.box m=some B from this)
    (fun c hc=>by have hc:G.box m=some c:=hc;rw[this]at hc;injection hc with hc;exact hc.symm)
    ⟨B,tmps,DB,this,i2,⟨asn,bo,i3,by rw[World.putObj_heap_same (Array.getElem?_eq_some_iff.1 i4).1]⟩,i5,i6,i7⟩ i7
   obtain⟨h,hNM⟩:=zcc h;have hfin:=qpw (P:=cx.P) hr2 hid h;refine⟨hNM,?_⟩;rw[e3];intro c cs' hcs;subst hcs;refine⟨.bool (wt j),_,hfin _ rfl,.one ?_⟩
   cases j with
   |none=>simp only[qsf]at hk;subst hk;exact stepR_round_end e3 hkind hend|some j=>cases j with
    |ret=>obtain⟨k',rfl⟩:=hk;exact stepR_round_ret e3 hkind hend
    |exit id=>obtain⟨_,k',rfl,hx⟩:=hk;exact stepR_round_exit e3 hkind hx hend
  ·cases h
end
section
variable{z5j:List (Nat×ag)}{s:St}{cx:Cx}{body:Code}{R:Type}{enc:RS R}{TT:World->Gh->R->List PanicEntry->Act->World->Prop}
def jv.via{k k':List Item}{s':St}{r:R}(h:jv cx TT z5j enc k' s' r)(hs:∀z5m z5g G a w,ai z5m z5g z5j G s a w->∀(b:Frame)(cs:List Frame),b.fn=cx.f->b.kind = .normal->tc cx z5g z5j b ->
  ∃G' a' w',ai z5m z5g z5j G' s' a' w'/\Steps cx.P (lone (b.atR a.bs k) cs w) (lone (b.atR a'.bs k') cs w')):jv cx TT z5j enc k s r:=by
 intro z5m z5g G a w hr b cs hb hk hrd;obtain⟨G',a',w',h1,h2⟩:=hs z5m z5g G a w hr b cs hb hk hrd
 exact(h z5m z5g G' a' w' h1 b cs hb hk hrd).imp (fun x=>⟨x.1,x.2.head h2⟩) (·.head h2)
def jv.one{k k':List Item}{r:R}(h:jv cx TT z5j enc k' s r)(hs:∀(a:Act)(w:World)(b:Frame)(cs:List Frame),step cx.P (lone (b.atR a k) cs w) = .next (lone (b.atR a k') cs w)):jv cx TT z5j enc k s r:=
 h.via fun _ _ G a w hr b cs _ _ _=>⟨G,a,w,hr,.one (hs a.bs w b cs)⟩
def nr(cx:Cx){R:Type}(TT:World->Gh->R->List PanicEntry->Act->World->Prop)(z5j:List (Nat×ag))(enc:RS R)(body:Code)(l:fa R):Prop:=∀d r,l.F d=some r->jv cx TT z5j enc (dw (kg body l.key)) (l.ls.st d) r
def q06{ids:NM}{s:St}{k:List d8}:∀{ls:List (fa R)}{l:fa R},qby ids s k ls=some l->l∈ls/\qe0 l.key k=true
 |[],_,h=>by cases h
 |x::xs,l,h=>by
  simp only[qby]at h;cases hb:qe0 x.key k<;>rw[hb]at h<;>simp only[qT,qF]at h
  ·obtain⟨h1,h2⟩:=q06 h;exact⟨qE _ h1,h2⟩
  ·split at h
   ·simp only[qI]at h;subst h;exact⟨qH,hb⟩
   ·rename_i l' hl;split at h
    ·simp only[qI]at h;subst h;exact⟨qH,hb⟩
    ·simp only[qI]at h;subst h;obtain⟨h1,h2⟩:=q06 hl;exact⟨qE _ h1,h2⟩
def zcm{i:d8}{k:List d8}(h:∀x∈i::k,x.Ok body):i.Ok body/\∀x∈k,x.Ok body:=⟨h _ qH,fun x hx=>h x (qE _ hx)⟩
def mw{i:d8}{k:List d8}(h:i.Ok body)(k':∀x∈k,x.Ok body):∀x∈i::k,x.Ok body:=fun x hx=>by
 rcases List.mem_cons.1 hx with rfl|hx
 ·exact h
 ·exact k' x hx
def zl7{kd:Nat}{p:List Nat}{c:Code}(h:(d8.mk kd p (.code c)).Ok body):sub body p=c:=zo0 h
def ti{p:List Nat}{c:Code}(i:Nat){x:Code}(h:sub body p=c)(hc:wh i c=x):(d8.mk 0 (i::p) (.code x)).Ok body:=by
 show Item.code x = .code (wh i (sub body p));rw[h,hc]
def zk9{p:List Nat}{id:Nat}{x:Code}(h:sub body p = .block id x):(d8.mk 1 p (.inBlock id)).Ok body:=by
 show Item.inBlock id=(match sub body p with | .block id _ => .inBlock id|c => .code c)
 rw[h]
def zbk{p:List Nat}{x:Code}(h:sub body p = .loop x):(d8.mk 2 p (.inLoop x)).Ok body:=by
 show Item.inLoop x=(match sub body p with | .loop x => .inLoop x|c => .code c)
 rw[h]
def ztw{P:Program}{b:Frame}{a:Act}{k:List Item}{cs:List Frame}{w:World}{x:Code}:step P (lone (b.atR a (.inScope x::k)) cs w) = .next (lone (b.atR a k) cs w):=
 step_lone_go (by simp[stepG,stepG.exec,Frame.atR])
def zty{P:Program}{b:Frame}{a:Act}{k:List Item}{cs:List Frame}{w:World}{c:Code} :
  step P (lone (b.atR a (.code (.scope c)::k)) cs w) = .next (lone (b.atR a (.code c :: .inScope c::k)) cs w):=
 step_lone_go (by simp[stepG,stepG.exec,Frame.atR])
def zte{p:List Nat}{x:Code}(h:sub body p = .scope x):(d8.mk 3 p (.inScope x)).Ok body:=by
 show Item.inScope x=(match sub body p with | .scope x => .inScope x|c => .code c)
 rw[h]
def qy6{id:Nat}:∀{k:List d8},qu id k=none->(∀i∈k,i.Ok body)->exitTo id (dw k)=none
 |[],_,_=>rfl|⟨kd,p,it⟩::k,h,hk=>by
  simp only[qu]at h;have hk':=(zcm hk).2;split at h
  ·rename_i id';split at h
   ·cases h
   ·rename_i he;simp only[dw,exitTo];rw[qW he];exact qy6 h hk'
  ·rename_i hne;have:=qy6 h hk';simp only[dw];cases it<;>first
    |(exfalso;exact hne _ rfl)
    |(simp only[exitTo];exact this)
abbrev IH(cx:Cx){R:Type}(TT:World->Gh->R->List PanicEntry->Act->World->Prop)(z5j:List (Nat×ag))(enc:RS R)(body:Code)(labs:List (fa R))(n:Nat):Prop:=
 ∀(chk:Bool)(k:List d8)(s:St)(r:R),(∀i∈k,i.Ok body)->run cx enc labs n chk k s=some r->jv cx TT z5j enc (dw k) s r
def qb2(cx:Cx){R:Type}(enc:RS R)(labs:List (fa R))(n:Nat)(p:List Nat)(k':List d8)(s:St)(c:Code):Option R:=match c with
 |.skip=>run cx enc labs n true k' s|.label _=>run cx enc labs n true k' s|.seq x y=>run cx enc labs n true (⟨0,0::p,.code x⟩::⟨0,1::p,.code y⟩::k') s|.cond c x y=>match s.ev c with|some (.bool b)=>bif b then run cx enc labs n true (⟨0,0::p,.code x⟩::k') (s.know c true) else run cx enc labs n true (⟨0,1::p,.code y⟩::k') (s.know c false)|some (.val (.bool b))=>bif b then run cx enc labs n true (⟨0,0::p,.code x⟩::k') s else run cx enc labs n true (⟨0,1::p,.code y⟩::k') s|_=>none
 |.block id x=>run cx enc labs n true (⟨0,0::p,.code x⟩::⟨1,p,.inBlock id⟩::k') s|.loop x=>run cx enc labs n true (⟨0,0::p,.code x⟩::⟨2,p,.inLoop x⟩::k') s|.scope x=>run cx enc labs n true (⟨0,0::p,.code x⟩::⟨3,p,.inScope x⟩::k') s|.exit id=>match qu id k' with
  |some k''=>run cx enc labs n true k'' s|none=>match cx.rd with|some _=>o9 cx enc (some (.exit id)) s|none=>none
 |.region _ ops d=>bif d then qyz cx.P cx.tb ops (cx.thrown enc) s (fun s'=>run cx enc labs n true k' s'.bump) else qbt cx.P cx.tb ops (cx.thrown enc) ops.toList s (fun s'=>run cx enc labs n true k' s'.bump)
 |.ret=>o9 cx enc (some .ret) s|.rangeFunc g ps _ _=>rfR cx p g ps.toList s fun j s'=>match j with
  |none=>run cx enc labs n true k' s'|some .ret=>o9 cx enc (some .ret) s'|some (.exit id)=>match qu id k' with
   |some k''=>run cx enc labs n true k'' s'|none=>match cx.rd with|some _=>o9 cx enc (some (.exit id)) s'|none=>none
 |_=>none
def zsz{labs:List (fa R)}{n:Nat}(ih:IH cx TT z5j enc body labs n){p:List Nat}{k':List d8}{c:Operand}{x y:Code}{r:R}(hsub:sub body p = .cond c x y)(hk':∀i∈k',i.Ok body)(h:qb2 cx enc labs n p k' s (.cond c x y)=some r):jv cx TT z5j enc (.code (.cond c x y)::dw k') s r:=by
 unfold qb2 at h;simp only at h;split at h
 ·rename_i t ht;cases t<;>simp only[qT,qF]at h
  ·refine(ih true _ _ r (mw (ti 1 hsub rfl) hk') h).via fun z5m z5g G a w hr b cs _ _ _ => ?_
   have he:a.eval c = .bool false:=bn hr ht;exact⟨G,a,w,hr.know he,.one (stepR_cond (a:=a.bs) he)⟩
  ·refine(ih true _ _ r (mw (ti 0 hsub rfl) hk') h).via fun z5m z5g G a w hr b cs _ _ _ => ?_
   have he:a.eval c = .bool true:=bn hr ht;exact⟨G,a,w,hr.know he,.one (stepR_cond (a:=a.bs) he)⟩
 ·rename_i t ht;cases t<;>simp only[qT,qF]at h
  ·refine(ih true _ _ r (mw (ti 1 hsub rfl) hk') h).via fun z5m z5g G a w hr b cs _ _ _ => ?_
   have he:a.eval c = .bool false:=bn hr ht;exact⟨G,a,w,hr,.one (stepR_cond (a:=a.bs) he)⟩
  ·refine(ih true _ _ r (mw (ti 0 hsub rfl) hk') h).via fun z5m z5g G a w hr b cs _ _ _ => ?_
   have he:a.eval c = .bool true:=bn hr ht;exact⟨G,a,w,hr,.one (stepR_cond (a:=a.bs) he)⟩
 ·cases h
def qjb(cx:Cx){R:Type}(TT:World->Gh->R->List PanicEntry->Act->World->Prop)(z5j:List (Nat×ag))(enc:RS R):Prop:=
 ∀(t:TypeId)(n:Int)(s:St)(r:R),cx.thrown enc (ep t n) s=some r->∀(z5m:World)(z5g G:Gh)(a:Act)(w:World),ia z5m z5g z5j G s a w->TT z5m z5g r [{ v:=wv t n,recovered:=false }] a w
def zs4(hth:qjb cx TT z5j enc)(ok:cx.Ok body){labs:List (fa R)}{n:Nat}(ih:IH cx TT z5j enc body labs n){p:List Nat}{k':List d8}{id:Nat}{ops:Array Oper}{d:Bool}{r:R}(hk':∀i∈k',i.Ok body)(h:qb2 cx enc labs n p k' s (.region id ops d)=some r):jv cx TT z5j enc (.code (.region id ops d)::dw k') s r:=by
 unfold qb2 at h;simp only at h;cases d<;>simp only[qT,qF]at h
 ·intro z5m z5g G a w hr b cs hb hkd hrd;have hops:=zcr (P:=cx.P) (ops:=ops) ok.ents (TT:=TT z5m z5g r) (N:=fun a' w'=>(qa2 cx enc r/\py cx.P b.roundOf cx.f (lone (b.atR a'.bs (dw k')) cs w') cs (fun v w'=>∃G',Fin z5m z5g z5j G' (enc.res r).2 w'/\aj (enc.res r).1 G' v))\/jd cx.P cx.f (TT z5m z5g r) (lone (b.atR a'.bs (dw k')) cs w') cs)
   (fun s' h' G' a' w' hr'=>ih true k' s'.bump r hk' h' z5m z5g G' a' w' hr'.bump b cs hb hkd hrd) (fun t n s' h' G' a' w' hr'=>hth t n s' r h' z5m z5g G' a' w' hr') ops.toList 0 s G a w (fun j hj=>oC) h hr
  have e:List.range' 0 ops.toList.length=List.range ops.size:=by simp[List.range_eq_range']
  rw[e]at hops;rcases zmi (id:=id) hops b (dw k') cs hkd with⟨a',w',h1,h2⟩|h1
  ·exact h1.imp (fun x=>⟨x.1,x.2.head h2⟩) (·.head h2)
  ·exact .inr (hb▸h1)
 ·intro z5m z5g G a w hr b cs hb hkd hrd;have hx:=zm7 (P:=cx.P) ok.ents ok.mixed h (TT:=TT z5m z5g r) (N:=fun a' w'=>(qa2 cx enc r/\py cx.P b.roundOf cx.f (lone (b.atR a'.bs (dw k')) cs w') cs (fun v w'=>∃G',Fin z5m z5g z5j G' (enc.res r).2 w'/\aj (enc.res r).1 G' v))\/jd cx.P cx.f (TT z5m z5g r) (lone (b.atR a'.bs (dw k')) cs w') cs)
   (fun s' h' G' a' w' hr'=>ih true k' s'.bump r hk' h' z5m z5g G' a' w' hr'.bump b cs hb hkd hrd) (fun t n s' h' G' a' w' hr'=>hth t n s' r h' z5m z5g G' a' w' hr') hr id b (dw k') cs hkd
  rcases hx with⟨a',w',h1,h2⟩|h1
  ·exact h1.imp (fun x=>⟨x.1,x.2.head h2⟩) (·.head h2)
  ·exact .inr (hb▸h1)
def zd3(ok:cx.Ok body)(hid:∀n bx,ae z5j n=some bx->bf cx.ids n=some n){labs:List (fa R)}{n:Nat}(ih:IH cx TT z5j enc body labs n){k':List d8}{id:Nat}{r:R}(hk':∀i∈k',i.Ok body)
  (h:(match qu id k' with
   |some k''=>run cx enc labs n true k'' s|none=>match cx.rd with
    |some _=>o9 cx enc (some (.exit id)) s| none=>none)=some r):jv cx TT z5j enc (.code (.exit id)::dw k') s r:=by
 split at h
 ·rename_i k'' hx;obtain⟨h1,h2⟩:=qy7 hx;exact(ih true k'' s r (fun i hi=>hk' i (h2 i hi)) h).one fun a w b cs=>stepR_exit h1
 ·rename_i hx;split at h
  ·rename_i m hm;exact qpm ok hid (j:=some (.exit id)) ⟨by rw[hm];simp,_,rfl,qy6 hx hk'⟩ h
  ·cases h
def zs3(ok:cx.Ok body)(hid:∀n bx,ae z5j n=some bx->bf cx.ids n=some n){labs:List (fa R)}{n:Nat}(ih:IH cx TT z5j enc body labs n){p:List Nat}{k':List d8}{g:Operand}{ps:Array Tmp}{asn bo:Code}{r:R}(hsub:sub body p = .rangeFunc g ps asn bo)(hk':∀i∈k',i.Ok body)
  (h:qb2 cx enc labs n p k' s (.rangeFunc g ps asn bo)=some r):jv cx TT z5j enc (.code (.rangeFunc g ps asn bo)::dw k') s r:=by
 unfold qb2 at h;simp only at h;intro z5m z5g G a w hr b cs hb hkd hrd;obtain⟨j,s',G',a',w',h1,h2,h3⟩:=zsq ok hr hsub h cs hb hkd hrd (dw k');refine Or.imp (And.imp_right (py.head h3)) (jd.head h3) ?_
 cases j with
 |none=>exact ih true k' s' r hk' h1 z5m z5g G' a' w' h2 b cs hb hkd hrd|some j=>cases j with|ret=>exact qpm ok hid (j:=some .ret) (k := .code .ret::dw k') ⟨_,rfl⟩ h1 z5m z5g G' a' w' h2 b cs hb hkd hrd|exit id=>exact zd3 ok hid ih hk' h1 z5m z5g G' a' w' h2 b cs hb hkd hrd
def zsy(hth:qjb cx TT z5j enc)(ok:cx.Ok body)(hid:∀n bx,ae z5j n=some bx->bf cx.ids n=some n){labs:List (fa R)}{n:Nat}(ih:IH cx TT z5j enc body labs n){kd:Nat}{p:List Nat}{k':List d8}{c:Code}{r:R}(hi:(d8.mk kd p (.code c)).Ok body)(hk':∀i∈k',i.Ok body)
  (h:qb2 cx enc labs n p k' s c=some r):jv cx TT z5j enc (.code c::dw k') s r:=by
 have hsub:=zl7 hi
 cases c with
 |skip=>exact(ih true k' s r hk' h).one fun a w b cs=>stepR_skip
 |label l=>exact(ih true k' s r hk' h).one fun a w b cs=>stepR_label
 |seq x y=>exact(ih true _ s r (mw (ti 0 hsub rfl) (mw (ti 1 hsub rfl) hk')) h).one fun a w b cs=>stepR_seq
 |cond c x y=>exact zsz ih hsub hk' h|block id x=>exact(ih true _ s r (mw (ti 0 hsub rfl) (mw (zk9 hsub) hk')) h).one fun a w b cs=>stepR_block
 |loop x=>exact(ih true _ s r (mw (ti 0 hsub rfl) (mw (zbk hsub) hk')) h).one fun a w b cs=>stepR_loop
 |scope x=>exact(ih true _ s r (mw (ti 0 hsub rfl) (mw (zte hsub) hk')) h).one fun a w b cs=>zty
 |exit id=>exact zd3 ok hid ih hk' h|region id ops d=>exact zs4 hth ok ih hk' h|ret=>exact qpm ok hid (j:=some .ret) ⟨_,rfl⟩ h|rangeFunc g ps asn bo=>exact zs3 ok hid ih hsub hk' h|_=>cases h
def zsx{labs:List (fa R)}{n:Nat}(ih:IH cx TT z5j enc body labs n){k':List d8}{r:R}(hk':∀i∈k',i.Ok body)
  (h:(match cx.rd with
   |some m=>match ae s.hp m with|some (.loop .ready pe f n' fr ps tag D)=>run cx enc labs n true k' { s with hp:=(m,.loop .busy pe f n' fr ps tag D)::s.hp }|_=>none
   | none=>none)=some r):jv cx TT z5j enc (.beginRound::dw k') s r:=by
 split at h
 ·rename_i m hm;split at h
  ·rename_i pe f n' fr ps tag D hl;refine(ih true k' _ r hk' h).via fun z5m z5g G a w hr b cs _ _ hrd => ?_
   unfold tc at hrd;rw[hm]at hrd;simp only at hrd;obtain⟨B,bx0,e1,e2,e3⟩:=hrd;obtain⟨B',tmps,DB,i1,i2,⟨asn,bo,i3,i4⟩,i5,i6,i7⟩:=hr.fin.mem.holds _ _ hl;have:=hr.fin.keep m bx0 B e2 e1;rw[this]at i1;injection i1 with i1;subst i1
   have hbr:=run_beginRound (P:=cx.P) i4 rfl;exact⟨G,a,_,hr.setBox (bx' := .loop .busy pe f n' fr ps tag D) hl (show G.box m=some B from this)
    (fun c hc=>by have hc:G.box m=some c:=hc;rw[this]at hc;injection hc with hc;exact hc.symm)
    ⟨B,tmps,DB,this,i2,⟨asn,bo,i3,by rw[World.putObj_heap_same (Array.getElem?_eq_some_iff.1 i4).1]⟩,i5,i6,i7⟩ i7,.one (stepR_beginRound e3 hbr)⟩
  ·cases h
 ·cases h
def q1v(hth:qjb cx TT z5j enc)(ok:cx.Ok body)(hid:∀n bx,ae z5j n=some bx->bf cx.ids n=some n){labs:List (fa R)}(hlab:∀l∈labs,nr cx TT z5j enc body l) :
  ∀(n:Nat)(chk:Bool)(k:List d8)(s:St)(r:R),(∀i∈k,i.Ok body)->run cx enc labs n chk k s=some r->jv cx TT z5j enc (dw k) s r:=by
 intro n
 induction n with
 |zero=>intro chk k s r _ h;cases h
 |succ n ih=>
  intro chk k s r hk h;unfold run at h
  cases hl:(bif chk then qby cx.ids s k labs else none) with
  |some lab=>
   rw[hl]at h;have hl:qby cx.ids s k labs=some lab:=by cases chk<;>simp only[qT,qF,reduceCtorEq]at hl;exact hl
   obtain⟨hm,hkey⟩:=q06 hl;simp only at h;split at h
   ·rename_i d hd;have hg:=hlab lab hm d r h;rw[q9k hkey hk]at hg;refine hg.via fun z5m z5g G a w hr b cs _ _ _ => ?_
    obtain⟨G1,hr1⟩:=hr.co lab.ls cx.ids;obtain⟨G2,hr2⟩:=hr1.fit hid hd;exact⟨G2,a,w,hr2,.refl _ _⟩
   ·cases h
  |none=>
   rw[hl]at h;simp only at h;clear hl
   cases k with
   |nil=>exact qpm ok hid (by rfl) h|cons i k'=>
    obtain⟨kd,p,it⟩:=i;obtain⟨hi,hk'⟩:=zcm hk;clear hk
    cases it with
    |code c=>exact zsy hth ok hid ih hi hk' h|inBlock id=>exact(ih true k' s r hk' h).one fun a w b cs=>stepR_inBlock
    |inScope id=>exact(ih true k' s r hk' h).one fun a w b cs=>ztw
    |inLoop x=>
     have hsub:sub body p = .loop x:=zo1 hi;exact(ih true _ s r (mw (ti 0 hsub rfl) (mw (zbk hsub) hk')) h).one fun a w b cs=>stepR_inLoop
    |beginRound=>exact zsx ih hk' h|_=>cases h
end
def NoT{R:Type}:World->Gh->R->List PanicEntry->Act->World->Prop:=fun _ _ _ _ _ _=>False
def zqc{P:Program}{f:FuncId}{R:Type}{z5m:World}{z5g:Gh}{r:R}{x:Machine}{cs:List Frame}{A:Prop}(h:A\/jd P f (NoT z5m z5g r) x cs):A:=
 h.resolve_right fun⟨_,_,_,_,h,_⟩=>h.elim
def ThT(ks:List (Nat×Nat)){R:Type}(z5j:List (Nat×ag))(enc:RS R):World->Gh->R->List PanicEntry->Act->World->Prop:=fun z5m z5g r chain a w'=>
 ∃t n,lr (enc.res r).1=some (t,n)/\chain=[{ v:=wv t n,recovered:=false }]/\a.defers=[]/\(∀e∈ks,∃B,a.tmps[e.1]? = some (.pointer (some ⟨B,0,none⟩))/\∀bx B0,ae z5j e.2=some bx->z5g.box e.2=some B0->B=B0)/\∃G',Fin z5m z5g z5j G' (enc.res r).2 w'
def Cx.TT(cx:Cx){R:Type}(z5j:List (Nat×ag))(enc:RS R):World->Gh->R->List PanicEntry->Act->World->Prop:=match cx.thr with|none=>NoT|some ks=>ThT ks z5j enc
def zpw{x:AV}{t:TypeId}{n:Int}(h:lr x=some (t,n)):x=ep t n:=by
 unfold lr at h;split at h
 ·simp only[qI,qP]at h;obtain⟨rfl,rfl⟩:=h;rfl
 ·cases h
def q0g(t:TypeId)(n:Int):Value := .tuple #[undef,wv t n]
def zse{t:TypeId}{n:Int}{G:Gh}:aj (ep t n) G (q0g t n):=⟨_,rfl,trivial,⟨_,rfl,_,rfl,rfl,trivial⟩,trivial⟩
def zsf{t t':TypeId}{n n':Int}{G:Gh}(h:aj (ep t n) G (q0g t' n')):t'=t/\n'=n:=by
 obtain⟨vs,h1,h⟩:=h;obtain⟨l⟩:=vs;simp only[q0g,Value.tuple.injEq]at h1
 match l,h with
 |[x,y],h=>
  have e:y=wv t' n':=by
   have:=congrArg (fun q=>q.toList[1]?) h1
   simp at this;exact this.symm
  obtain⟨_,⟨u,h2,ws,h3,h4⟩,_⟩:=h;rw[e]at h2;simp only[wv,Value.iface.injEq]at h2;obtain⟨rfl,h2⟩:=h2;rw[← h2]at h3;simp only[Value.agg.injEq]at h3;subst h3;have:=h4.1;simp only[aj,Value.int.injEq,true_and]at this;exact⟨rfl,this⟩
def za6{z5m:World}{z5g:Gh}{z5j:List (Nat×ag)}{G:Gh}{s:St}{a:Act}{w:World}(hr:ia z5m z5g z5j G s a w):∀{ks:List (Nat×Nat)},qkl s ks=true->∀e∈ks,∃B,a.tmps[e.1]? = some (.pointer (some ⟨B,0,none⟩))/\∀bx B0,ae z5j e.2=some bx->z5g.box e.2=some B0->B=B0
 |[],_,e,he=>by cases he
 |(t,b)::ks,h,e,he=>by
  simp only[qkl,qA]at h;rcases List.mem_cons.1 he with rfl|he
  ·have h1:=h.1;split at h1
   ·rename_i b' hl;have:=qN h1;subst this;obtain⟨v,k1,B,k2,rfl⟩:=hr.frame _ _ hl;refine⟨B,k1,fun bx B0 h2 h3 => ?_⟩
    have:=hr.fin.keep _ _ _ h2 h3;rw[k2]at this;exact qJ this
   ·cases h1
  ·exact za6 hr h.2 e he
def Cx.thOk{cx:Cx}{R:Type}{z5j:List (Nat×ag)}{enc:RS R}(hid:∀n bx,ae z5j n=some bx->bf cx.ids n=some n):qjb cx (cx.TT z5j enc) z5j enc:=by
 intro t n s r h z5m z5g G a w hr;unfold Cx.thrown at h;split at h
 ·rename_i ks _ hk;cases hb:s.noDf&&qkl s ks<;>rw[hb]at h<;>simp only[qT,qF,reduceCtorEq]at h
  simp only[qA]at hb;split at h
  ·rename_i r' hf;split at h
   ·rename_i x hm;have:=qJ h;subst this;obtain⟨t',n'⟩:=x;unfold Cx.TT;rw[hk];obtain⟨G',h1,h2⟩:=qzb hr.fin hid hf;have h3:=h2 _ zse;rw[zpw hm]at h3;obtain⟨rfl,rfl⟩:=zsf h3;refine⟨_,_,hm,rfl,?_,za6 hr hb.2,G',h1⟩;obtain⟨bs,e1,e2⟩:=hr.defers;have hd:s.df=[]:=by
     have:=hb.1;unfold St.noDf at this;split at this
     ·assumption
     ·cases this
    rw[hd]at e2;have:bs=[]:=by cases bs with|nil=>rfl|cons _ _=>simp at e2
    rw[e1,this];rfl
   ·cases h
  ·cases h
 ·cases h
def St.reCell(s:St)(b off:Nat):St:=
 match ae s.hp b with
 |some (.cells cs T)=>match cs[off]? with
  |some (.own k)=>match ae s.hp k with|some (.row τ l E)=>bif bh s.nx s.hp then{ s with hp:=(b,.cells (cs.set off (.own s.nx)) T)::(s.nx,.row τ l E)::(k,.dead)::s.hp,nx:=s.nx+32 } else s|_=>s
  |_=>s
 |_=>s
def qp7:Pt->Bool|.own _=>true|_=>false
def reB1(b:Nat):List Pt->Nat->St->St|[],_,s=>s|p::ps,off,s=>reB1 b ps (off+1) (bif qp7 p then s.reCell b off else s)
def reB:List (Nat×bj)->St->St
 |[],s=>s|(n,p)::r,s=>match p with|.cells ps _=>reB r (reB1 n ps 0 s)|_=>reB r s
def St.reSlot(s:St)(i:Nat):St:=
 match ae s.fr i with
 |some (.own k)=>match ae s.hp k with|some (.row τ l E)=>bif bh s.nx s.hp&&Nat.blt i s.n then{ s with fr:=(i,.own s.nx)::s.fr,hp:=(s.nx,.row τ l E)::(k,.dead)::s.hp,nx:=s.nx+32 } else s|_=>s
 |_=>s
def reA:List Pt->Nat->St->St|[],_,s=>s|p::ps,i,s=>reA ps (i+1) (bif qp7 p then s.reSlot i else s)
section
variable{z5m:World}{z5g:Gh}{z5j:List (Nat×ag)}{G:Gh}{s:St}{a:Act}{w:World}
def Fin.rename{hp:List (Nat×ag)}(hf:Fin z5m z5g z5j G hp w){k k':Nat}{τ:Ty}{l:List τ.den}{E:TypeId}{v:Option Addr×Nat×Nat}(hk:ae hp k=some (.row τ l E))(hk':ae hp k'=none)(hfr:G.own k'=none)(ho:G.own k=some v) :
  Fin z5m z5g z5j (G.addOwn k' v) ((k',.row τ l E)::(k,.dead)::hp) w:=by
 have hle:G.le (G.addOwn k' v):=Gh.addOwn_le hfr;have hlk:∀m b,ae ((k',ag.row τ l E)::(k,.dead)::hp) m=some b->(m=k'/\b = .row τ l E)\/b = .dead\/(m≠k/\ae hp m=some b):=fun m b h=>by
  simp[ae]at h;cases hb:Nat.beq k' m
  ·rw[hb]at h;cases hb2:Nat.beq k m
   ·rw[hb2]at h;exact .inr (.inr ⟨fun e=>by subst e;simp at hb2,h⟩)
   ·rw[hb2]at h;simp at h;exact .inr (.inl h.symm)
  ·rw[hb]at h;simp at h;exact .inl ⟨(qN hb).symm,h.symm⟩
 have hat:(G.addOwn k' v).at k' (.row τ l E)=G.at k (.row τ l E):=by simp[Gh.at,Gh.addOwn_self,ho]
 refine⟨⟨hf.mem.agree,hf.mem.one,?_,?_,hf.mem.tab⟩,hf.bel,hf.imm_le,hf.imm_new,?_,fun n bx B h1 h2=>hle.box _ _ (hf.keep n bx B h1 h2),fun n bx B h1 h2=>hle.own _ _ (hf.keepOwn n bx B h1 h2)⟩
 ·intro m b h;rcases hlk m b h with⟨rfl,rfl⟩|rfl|⟨_,h⟩
  ·obtain⟨ad,c,i1,i2⟩:=hf.mem.holds k _ hk;rw[ho]at i1;injection i1 with i1;subst i1
   exact⟨ad,c,Gh.addOwn_self,i2⟩
  ·trivial
  ·exact(hf.mem.holds m b h).mono hle (fun _ _=>rfl) (fun _ _ _ h => .inl h)
 ·intro m m' b b' c h1 h2 h3 h4;rcases hlk m b h1 with⟨rfl,rfl⟩|rfl|⟨n1,g1⟩<;>rcases hlk m' b' h2 with⟨e2,rfl⟩|rfl|⟨n2,g2⟩
  ·exact e2.symm
  ·cases h4
  ·rw[hat]at h3;rw[(hf.mem.holds m' b' g2).at_le hle]at h4;exact absurd (hf.mem.apart m' k b' _ c g2 hk h4 h3) n2
  ·cases h3
  ·cases h3
  ·cases h3
  ·subst e2;rw[hat]at h4;rw[(hf.mem.holds m b g1).at_le hle]at h3;exact absurd (hf.mem.apart m k b _ c g1 hk h3 h4) n1
  ·cases h4
  ·rw[(hf.mem.holds m b g1).at_le hle]at h3;rw[(hf.mem.holds m' b' g2).at_le hle]at h4;exact hf.mem.apart m m' b b' c g1 g2 h3 h4
 ·intro m b c h1 h2;rcases hlk m b h1 with⟨rfl,rfl⟩|rfl|⟨n1,h1⟩
  ·rw[hat]at h2;exact hf.base k _ c hk h2
  ·cases h2
  ·rw[(hf.mem.holds m b h1).at_le hle]at h2;exact hf.base m b c h1 h2
def ai.reCell(hr:ai z5m z5g z5j G s a w)(b off:Nat):∃G',ai z5m z5g z5j G' (s.reCell b off) a w:=by
 unfold St.reCell;split
 ·rename_i cs T hb0;split
  ·rename_i k hx0;split
   ·rename_i τ l E hk0;cases hn:bh s.nx s.hp
    ·exact⟨G,hr⟩
    ·simp;have hk:=ng hn s.nx (wF _) oA
     obtain⟨ad,c,i1,_⟩:=hr.fin.mem.holds k _ hk0;have hfresh:=hr.fresh s.nx (wF _) hk;have hle:G.le (G.addOwn s.nx (ad,l.length,c)):=Gh.addOwn_le hfresh.2;have hf:=hr.fin.rename hk0 hk hfresh.2 i1;have hne:s.nx≠b:=fun e=>by rw[e,hb0]at hk;cases hk
     have hne2:k≠b:=fun e=>by rw[e,hb0]at hk0;cases hk0
     have hb1:ae ((s.nx,ag.row τ l E)::(k,.dead)::s.hp) b=some (.cells cs T):=by
      simp[ae];cases hq:Nat.beq s.nx b
      ·cases hq2:Nat.beq k b
       ·exact hb0
       ·exact absurd (qN hq2) hne2
      ·exact absurd (qN hq) hne
     obtain⟨B,vs,k1,k2,k3,k4,k5⟩:=hf.mem.holds _ _ hb1;have hv:vs.toList[off]? = some (.slice ad l.length c):=by
      obtain⟨v,h1,h2⟩:=ki k3 hx0;obtain⟨a',n',c',q1,q2⟩:=h2;rw[hle.own _ _ i1]at q1;simp at q1;obtain⟨rfl,rfl,rfl⟩:=q1;subst q2;exact h1
     have hset:vs.toList.set off (.slice ad l.length c)=vs.toList:=by
      obtain⟨hlt,he⟩:=List.getElem?_eq_some_iff.1 hv;rw[← he,List.set_getElem_self]
     refine⟨G.addOwn s.nx (ad,l.length,c),⟨by obtain⟨bs,q1,q2⟩:=hr.defers;exact⟨bs,q1,tp hle.box q2⟩,hr.size,fun j x hx=>by obtain⟨v,h1,h2⟩:=hr.frame j x hx;exact⟨v,h1,h2.le hle⟩,fun m hm hl => ?_,?_⟩⟩
     ·simp only at hm;have hmn:s.nx≠m:=oA
      simp[ae]at hl;cases hq:Nat.beq b m<;>rw[hq]at hl<;>simp at hl
      cases hq1:Nat.beq s.nx m<;>rw[hq1]at hl<;>simp at hl
      cases hq2:Nat.beq k m<;>rw[hq2]at hl<;>simp at hl
      obtain⟨h1,h2⟩:=hr.fresh m oA hl
      refine⟨h1,?_⟩;show(bif Nat.beq m s.nx then some _ else G.own m)=none
      cases hbm:Nat.beq m s.nx
      ·exact h2
      ·exact absurd (qN hbm).symm hmn
     ·refine hf.update (bx := .cells cs T) (bx' := .cells (cs.set off (.own s.nx)) T) hb1 (B:=B) k1 k1 ⟨rfl,rfl,rfl,wF _,fun _ _ _=>rfl⟩ ⟨B,vs,k1,k2,?_,k4,k5⟩ k5
      have:=qk7 off k3 (x := .own s.nx) (v := .slice ad l.length c) ⟨ad,l.length,c,Gh.addOwn_self,rfl⟩
      rwa [hset]at this
   ·exact⟨G,hr⟩
  ·exact⟨G,hr⟩
 ·exact⟨G,hr⟩
def ai.reSlot(hr:ai z5m z5g z5j G s a w)(i:Nat):∃G',ai z5m z5g z5j G' (s.reSlot i) a w:=by
 unfold St.reSlot;split
 ·rename_i k hx0;split
  ·rename_i τ l E hk0;cases hn:bh s.nx s.hp&&Nat.blt i s.n
   ·exact⟨G,hr⟩
   ·simp;simp at hn;have hk:=ng hn.1 s.nx (wF _) oA
    obtain⟨ad,c,i1,_⟩:=hr.fin.mem.holds k _ hk0;have hfresh:=hr.fresh s.nx (wF _) hk;have hle:G.le (G.addOwn s.nx (ad,l.length,c)):=Gh.addOwn_le hfresh.2;refine⟨G.addOwn s.nx (ad,l.length,c),⟨by obtain⟨bs,q1,q2⟩:=hr.defers;exact⟨bs,q1,tp hle.box q2⟩,hr.size,fun j x hx => ?_,fun m hm hl => ?_,hr.fin.rename hk0 hk hfresh.2 i1⟩⟩
    ·simp[ae]at hx;cases hq:Nat.beq i j
     ·rw[hq]at hx;obtain⟨v,h1,h2⟩:=hr.frame j x hx;exact⟨v,h1,h2.le hle⟩
     ·rw[hq]at hx;simp at hx;subst hx;have:=qN hq;subst this;obtain⟨v,h1,a',n',c',q1,q2⟩:=hr.frame i _ hx0;rw[i1]at q1;simp at q1;obtain⟨rfl,rfl,rfl⟩:=q1;exact⟨v,h1,ad,l.length,c,Gh.addOwn_self,q2⟩
    ·simp only at hm;have hmn:s.nx≠m:=oA
     simp[ae]at hl;cases hq1:Nat.beq s.nx m<;>rw[hq1]at hl<;>simp at hl
     cases hq2:Nat.beq k m<;>rw[hq2]at hl<;>simp at hl
     obtain⟨h1,h2⟩:=hr.fresh m oA hl
     refine⟨h1,?_⟩;show(bif Nat.beq m s.nx then some _ else G.own m)=none
     cases hbm:Nat.beq m s.nx
     ·exact h2
     ·exact absurd (qN hbm).symm hmn
  ·exact⟨G,hr⟩
 ·exact⟨G,hr⟩
def ai.reA:∀{ps:List Pt}{i:Nat}{s:St}{G:Gh},ai z5m z5g z5j G s a w->∃G',ai z5m z5g z5j G' (reA ps i s) a w
 |[],_,s,G,hr=>⟨G,hr⟩|p::ps,i,s,G,hr=>by
  unfold Sym.reA;cases qp7 p
  ·exact ai.reA hr
  ·obtain⟨G',hr'⟩:=hr.reSlot i;exact ai.reA hr'
def ai.reB1{b:Nat}:∀{ps:List Pt}{off:Nat}{s:St}{G:Gh},ai z5m z5g z5j G s a w->∃G',ai z5m z5g z5j G' (reB1 b ps off s) a w
 |[],_,s,G,hr=>⟨G,hr⟩|p::ps,off,s,G,hr=>by
  unfold Sym.reB1;cases qp7 p
  ·exact ai.reB1 hr
  ·obtain⟨G',hr'⟩:=hr.reCell b off;exact ai.reB1 hr'
def ai.reB:∀{l:List (Nat×bj)}{s:St}{G:Gh},ai z5m z5g z5j G s a w->∃G',ai z5m z5g z5j G' (reB l s) a w
 |[],s,G,hr=>⟨G,hr⟩|(n,p)::r,s,G,hr=>by
  unfold Sym.reB;split
  ·obtain⟨G',hr'⟩:=hr.reB1;exact ai.reB hr'
  ·exact ai.reB hr
end
def ek:List (Nat×bj)->NM|[]=>[]|(n,_)::r=>(n,n)::ek r
def ke(N:NM)(n:Nat):Bool:=match au N n with|some m=>Nat.beq m n|none=>false
def y5{N:NM}{n:Nat}(h:ke N n=true):au N n=some n:=by
 unfold ke at h;split at h
 ·rename_i m hm;have:=qN h;subst this;exact hm
 ·cases h
mutual
def qqo(N:NM):Pt->Bool|.agg ps=>rh N ps|.tup ps=>rh N ps|.ptr b _=>ke N b|.own k=>ke N k|.el k _=>ke N k|.iel _ k _=>ke N k|.ifc _ p=>qqo N p|.yld k=>ke N k|.pn k=>ke N k|.fn _ ps=>rh N ps|_=>true
def rh(N:NM):List Pt->Bool|[]=>true|p::ps=>qqo N p&&rh N ps
end
def zkv{ρ:Nat->Option Nat}:∀{τ:Ty}{d:τ.den},(τ.av d).ren ρ=τ.av d|.int _,_=>rfl|.byte,_=>rfl|.bool,_=>rfl|.str,_=>rfl|.unit,_=>rfl|.list _,_=>rfl|.prod a b,d=>by show AV.agg (AV.rens ρ ((Ty.prod a b).enc d))=_;rw[Ty.enc_ren];rfl|.tree a,d=>by show AV.agg (AV.rens ρ ((Ty.tree a).enc d))=_;rw[Ty.enc_ren];rfl
mutual
def q1a{N:NM}:∀{p:Pt}{d:p.den},qqo N p=true->(p.put d).ren (au N)=p.put d
 |.h τ,d,_=>zkv|.c _,_,_=>rfl|.agg ps,d,h=>congrArg AV.agg (qb0 (ps:=ps) (d:=d) h)|.tup ps,d,h=>congrArg AV.tup (qb0 (ps:=ps) (d:=d) h)|.ptr b off,_,h=>by show AV.ren (au N) (.ptr b off)=_;simp[AV.ren,y5 (show ke N b=true from h)];rfl|.own k,_,h=>by show AV.ren (au N) (.own k)=_;simp[AV.ren,y5 (show ke N k=true from h)];rfl|.arr _,_,_=>rfl|.el k sz,_,h=>by show AV.ren (au N) (.oel k sz 0 0)=_;simp[AV.ren,y5 (show ke N k=true from h)];rfl|.iel t k sz,_,h=>by show AV.ren (au N) (.iface t (.oel k sz 0 0))=_;simp[AV.ren,y5 (show ke N k=true from h)];rfl|.ifc t p,d,h=>congrArg (AV.iface t) (q1a (p:=p) (d:=d) h)|.yld k,_,h=>by show AV.ren (au N) (.yld k)=_;simp[AV.ren,y5 (show ke N k=true from h)];rfl|.pn k,_,h=>by show AV.ren (au N) (.pn k)=_;simp[AV.ren,y5 (show ke N k=true from h)];rfl|.fn f ps,d,h=>by
  have e:=qb0 (ps:=ps) (d:=d) h;show AV.ren (au N) (pg f (Pts.put ps d))=pg f (Pts.put ps d);unfold pg;cases Nat.blt f iv
  ·exact congrArg (fun l=>AV.fn (.func (f-iv)) l []) e
  ·exact congrArg (AV.fn (.func f) []) e
 |.u,_,_=>rfl
def qb0{N:NM}:∀{ps:List Pt}{d:Pts.den ps},rh N ps=true->AV.rens (au N) (Pts.put ps d)=Pts.put ps d
 |[],_,_=>rfl|p::ps,d,h=>by
  simp[rh,qA]at h;have h1:=q1a (p:=p) (d:=d.1) h.1;have h2:=qb0 (ps:=ps) (d:=d.2) h.2;show AV.ren (au N) (p.put d.1)::AV.rens (au N) (Pts.put ps d.2)=p.put d.1::Pts.put ps d.2;rw[h1,h2]
end
def fIn(N:NM):List (Nat×Pt)->Bool|[]=>true|(_,p)::r=>qqo N p&&fIn N r
def q97{N:NM}:∀{l:List (Nat×Pt)}{d:qv l},fIn N l=true->pp (au N) (lh l d)=lh l d
 |[],_,_=>rfl|(i,p)::r,d,h=>by
  simp[fIn,qA]at h;have h1:=q1a (p:=p) (d:=d.1) h.1;have h2:=q97 (l:=r) (d:=d.2) h.2;show(i,AV.ren (au N) (p.put d.1))::pp (au N) (lh r d.2)=(i,p.put d.1)::lh r d.2;rw[h1,h2]
def qx6(N:NM):bj->Bool|.cells ps _=>rh N ps|.loop _ _ _ _ fr _ _ D=>ke N D&&fIn N fr|_=>true
def bIn(N:NM):List (Nat×bj)->Bool|[]=>true|(n,p)::r=>ke N n&&qx6 N p&&bIn N r
def zld{N:NM}:∀{p:bj}{d:p.den},qx6 N p=true->d9 (au N) (p.put d)=p.put d
 |.cells ps T,d,h=>congrArg (fun l=>ag.cells l T) (qb0 (ps:=ps) (d:=d) h)
 |.row _ _,_,_=>rfl|.loop st pe f n fr ps tag D,d,h=>by
  simp[qx6,qA]at h;have h2:=q97 (l:=fr) (d:=d) h.2;have h3:d9 (au N) (.loop st pe f n (lh fr d) ps tag D) = .loop st pe f n (pp (au N) (lh fr d)) ps tag D:=by simp[d9,y5 h.1]
  exact h3.trans (congrArg (fun l=>ag.loop st pe f n l ps tag D) h2)
 |.dfr,_,_=>rfl|.it,_,_=>rfl|.dead,_,_=>rfl|.dat τ T,d,_=>congrArg (fun l=>ag.cells l T) (Ty.enc_ren (au N) τ d)
def qxx{N:NM}:∀{l:List (Nat×bj)}{d:f8 l},bIn N l=true->∀n b,ae (bp l d) n=some b->au N n=some n/\d9 (au N) b=b
 |[],_,_,_,_,h=>by cases h
 |(m,p)::r,d,h,n,b,hl=>by
  simp[bIn,qA]at h;have hl:(bif Nat.beq m n then some (p.put d.1) else ae (bp r d.2) n)=some b:=hl
  cases hb:Nat.beq m n
  ·rw[hb]at hl;exact qxx (d:=d.2) h.2 n b hl
  ·rw[hb]at hl;have:=qN hb;subst this;simp at hl;subst hl;exact⟨y5 h.1.1,zld h.1.2⟩
def b8.only{G:Gh}{hp:List (Nat×ag)}{w:World}{N:NM}(hm:b8 G hp w)(h:∀n b,ae hp n=some b->au N n=some n/\d9 (au N) b=b):b8 (G.view N) hp w:=by
 have hb:∀n b,ae hp n=some b->(G.view N).box n=G.box n/\(G.view N).own n=G.own n:=fun n b hl=>by
  have:=uj (h n b hl).1;exact⟨by simp[Gh.view,this],by simp[Gh.view,this]⟩
 have hat:∀n b c,ae hp n=some b->(G.view N).at n b=some c->G.at n b=some c:=fun n b c hl hc=>by
  have:=(h n b hl).2;exact tg (G:=G) (G':=G.view N) (ρ:=au N) (hb n b hl).1 (hb n b hl).2 (by rw[this];exact hc)
 refine⟨hm.agree,hm.one,fun n b hl => ?_,fun n m b b' c h1 h2 h3 h4=>hm.apart n m b b' c h1 h2 (hat _ _ _ h1 h3) (hat _ _ _ h2 h4),hm.tab⟩
 have:=cm.ren (G:=G) (G':=G.view N) (ρ:=au N) (n:=n) (m:=n) (fun _ _ _ h=>h) (fun _ _ _ h=>h) (ru N) (ut N) (fun B hB=>by rw[(hb n b hl).1];exact hB) (fun B hB=>by rw[(hb n b hl).2];exact hB) (hm.holds n b hl)
 rw[(h n b hl).2]at this;exact this
def Fin.only{G G':Gh}{hp hp':List (Nat×ag)}{w w':World}{N:NM}(h:∀n b,ae hp n=some b->au N n=some n/\d9 (au N) b=b)(hf:Fin w (G.view N) hp G' hp' w'):Fin w G hp G' hp' w':=by
 have hb:∀n b,ae hp n=some b->(G.view N).box n=G.box n/\(G.view N).own n=G.own n:=fun n b hl=>by
  have:=uj (h n b hl).1;exact⟨by simp[Gh.view,this],by simp[Gh.view,this]⟩
 have hblk:∀c,oz (G.view N) hp c->oz G hp c:=fun c⟨n,b,h1,h2⟩=>⟨n,b,h1,tg (G:=G) (G':=G.view N) (ρ:=au N) (hb n b h1).1 (hb n b h1).2 (by rw[(h n b h1).2];exact h2)⟩
 refine⟨hf.mem,⟨hf.bel.os,hf.bel.tape,hf.bel.output,hf.bel.size,fun k hk hS=>hf.bel.block k hk fun hx=>hS (hblk k hx)⟩,hf.imm_le,fun b o v hv => ?_,fun n b c h1 h2 => ?_,fun n b B h1 h2=>hf.keep n b B h1 (by rw[(hb n b h1).1];exact h2),fun n b B h1 h2=>hf.keepOwn n b B h1 (by rw[(hb n b h1).2];exact h2)⟩
 ·rcases hf.imm_new b o v hv with h|h|h
  ·exact .inl h
  ·exact .inr (.inl h)
  ·exact .inr (.inr (hblk _ h))
 ·rcases hf.base n b c h1 h2 with h|h
  ·exact .inl h
  ·exact .inr (hblk _ h)
def qkh:List AV->Nat->List (Nat×AV)|[],_=>[]|x::xs,i=>(i,x)::qkh xs (i+1)
def zar:∀{xs:List AV}{G:Gh}{vs:List Value}(i:Nat),am xs G vs->∀j x,ae (qkh xs i) j=some x->i<=j/\∃v,vs[j-i]? = some v/\aj x G v
 |[],_,[],_,_,j,x,h=>by cases h
 |x::xs,G,v::vs,i,hr,j,y,h=>by
  simp[qkh,ae]at h;cases hb:Nat.beq i j
  ·rw[hb]at h;obtain⟨h1,u,h2,h3⟩:=zar (i+1) hr.2 j y h;refine⟨oA,u,?_,h3⟩
   rw[show j-i=(j-(i+1))+1 by omega];simpa using h2
  ·rw[hb]at h;have:=qN hb;subst this;simp at h;subst h;exact⟨wF _,v,oC,hr.1⟩
 |[],_,_::_,_,h,_,_,_=>h.elim|_::_,_,[],_,h,_,_,_=>h.elim
def we{G:Gh}{w:World}{hp:List (Nat×ag)}(hm:b8 G hp w):Fin w G hp G hp w:=
 ⟨hm,⟨rfl,rfl,rfl,wF _,fun _ _ _=>rfl⟩,fun _ _ _ h=>h,fun _ _ _ h => .inl h,fun n bx _b h1 h2 => .inr ⟨n,bx,h1,h2⟩,fun _ _ _ _ h=>h,fun _ _ _ _ h=>h⟩
def NX:Nat:=64
def reK(b:Bool)(pts:List (Nat×bj))(s:St):St:=bif b then s else reB pts s
def ai.reK{z5m:World}{z5g:Gh}{z5j:List (Nat×ag)}{a:Act}{w:World}{b:Bool}{l:List (Nat×bj)}{s:St}{G:Gh}(hr:ai z5m z5g z5j G s a w):∃G',ai z5m z5g z5j G' (reK b l s) a w:=by
 cases b
 ·exact hr.reB (l:=l)
 ·exact⟨G,hr⟩
def qb3(cx:Cx)(body:Code){R:Type}(enc:RS R)(labs:List (fa R))(asn:List Pt)(pts:List (Nat×bj))(xs:List AV)(hp:List (Nat×ag)):Option R:=
 run cx enc labs 1000000 true [⟨0,[],.code body⟩] (reK cx.tb.sub pts (reA (bif cx.tb.sub then asn else[]) 0 { n:=cx.fn.ntmps,fr:=qkh xs 0,hp:=hp,nx:=NX,df:=[] }))
def yx(cx:Cx)(args:List Pt)(hp:List (Nat×bj)):Bool:=rh (ek hp) args&&bIn (ek hp) hp&&Nat.ble args.length cx.fn.ntmps
def qkd:∀{l:List (Nat×bj)}{d:f8 l}{n:Nat}{b:ag},ae (bp l d) n=some b->bf (ek l) n=some n
 |[],_,_,_,h=>by cases h
 |(m,p)::r,d,n,b,h=>by
  have h:(bif Nat.beq m n then some (p.put d.1) else ae (bp r d.2) n)=some b:=h
  simp[ek,bf];cases hb:Nat.beq m n
  ·rw[hb]at h;exact qkd (d:=d.2) h
  ·have:=qN hb;subst this;rfl
def q0r{m:Nat}:∀{l:List (Nat×bj)}{d:f8 l},ae (bp l d) m=none->bf (ek l) m=none
 |[],_,_=>rfl|(n,p)::r,d,h=>by
  have h:(bif Nat.beq n m then some (p.put d.1) else ae (bp r d.2) m)=none:=h
  simp[ek,bf];cases hb:Nat.beq n m
  ·rw[hb]at h;exact q0r (d:=d.2) h
  ·rw[hb]at h;cases h
def zda:∀{ps:List Pt}{d:Pts.den ps},(Pts.put ps d).length=ps.length|[],_=>rfl|p::ps,d=>by show(p.put d.1::Pts.put ps d.2).length=_;simp[zda]
def cf.goes_fn(hb0:LC.base=[]){e:cf}{cx:Cx}{body:Code}{labs:List (fa e.R)}(ok:cx.Ok body)(hbody:cx.fn.body=some body)(hrd:cx.rd=none)(hids:cx.ids=ek e.hp)
  (hfine:yx cx e.args e.hp=true) (hlab:∀d',∀l∈labs,nr cx (cx.TT (bp e.hp d') e.out) (bp e.hp d') e.out body l) (hF:∀d d',qb3 cx body e.out labs e.args e.hp (Pts.put e.args d) (bp e.hp d')=e.F d d') {d:Pts.den e.args} {d':f8 e.hp} {r:e.R} (hr:e.F d d'=some r)
  {w:World} {G:Gh} {vs:List Value} (hm:b8 G (bp e.hp d') w) (hreps:am (Pts.put e.args d) G vs) (cs:List Frame) :
  (qa2 cx e.out r/\∃v w' fr,(∃G',Fin w G (bp e.hp d') G' (e.out.res r).2 w'/\aj (e.out.res r).1 G' v)/\Steps cx.P (lone (Frame.enter cx.P cx.f vs.toArray .normal) cs w) (lone fr cs w')/\fr.fn=cx.f/\fr.leaving cx.P w' (.returned v)) \/
  ∃t n w' fr,cx.thr≠none/\lr (e.out.res r).1=some (t,n)/\(∃G',Fin w G (bp e.hp d') G' (e.out.res r).2 w')/\Steps cx.P (lone (Frame.enter cx.P cx.f vs.toArray .normal) cs w) (lone fr cs w')/\fr.fn=cx.f/\fr.leaving cx.P w' (.panicked [{ v:=wv t n,recovered:=false }]):=by
 simp only[yx,qA]at hfine;obtain⟨⟨f1,f2⟩,f3⟩:=hfine;have f3:=Nat.le_of_ble_eq_true f3;have hin:=qxx (d:=d') f2;have hm':=hm.only hin;have hreps':am (Pts.put e.args d) (G.view (ek e.hp)) vs:=by
  have:=am.ren (ρ:=au (ek e.hp)) (G:=G) (G':=G.view (ek e.hp)) (fun _ _ _ h=>h) (ru _) (ut _) hreps
  rwa [qb0 f1]at this
 have hlv:=hreps.length;rw[zda]at hlv;have hrun:=hF d d';rw[hr]at hrun;have hid:∀n bx,ae (bp e.hp d') n=some bx->bf cx.ids n=some n:=fun n bx h=>by rw[hids];exact qkd h
 have hg:=q1v (enc:=e.out) (Cx.thOk hid) ok (z5j:=bp e.hp d') hid (hlab d') _ _ _ _ _ (fun i hi=>by
  rcases List.mem_cons.1 hi with rfl|hi
  ·rfl
  ·cases hi) hrun
 have hr0:ai w (G.view (ek e.hp)) (bp e.hp d') (G.view (ek e.hp)) { n:=cx.fn.ntmps,fr:=qkh (Pts.put e.args d) 0,hp:=bp e.hp d',nx:=NX,df:=[] } { tmps:=vs.toArray++Array.replicate (cx.fn.ntmps-vs.toArray.size) undef,defers:=[] } w:=by
  refine⟨⟨[],rfl,rfl⟩,oE,fun i x hx => ?_,fun m _ hl => ?_,we hm'⟩
  ·obtain⟨_,v,h2,h3⟩:=zar 0 hreps' i x hx;refine⟨v,?_,h3⟩;have hlt:i<vs.length:=by have:=(List.getElem?_eq_some_iff.1 h2).1;simpa using this
   rw[Array.getElem?_append_left (by simpa using hlt)]
   simpa using h2
  ·have:bf (ek e.hp) m=none:=q0r hl;simp[Gh.view,this]
 obtain⟨G0,hr0'⟩:=hr0.reA (ps:=bif cx.tb.sub then e.args else[]) (i:=0)
 obtain⟨G1,hr1⟩:=hr0'.reK (b:=cx.tb.sub) (l:=e.hp)
 let b:Frame:={ (default:Frame) with fn:=cx.f,kind := .normal }
 have henter:Frame.enter cx.P cx.f vs.toArray .normal=b.atR ({ tmps:=vs.toArray++Array.replicate (cx.fn.ntmps-vs.toArray.size) undef,defers:=[] }:Act).bs [.code body]:=by
  simp[Frame.enter,Frame.atR,ok.func,hbody,b,Act.bs,hb0];rfl
 have:=hg w _ _ _ w hr1 b cs rfl rfl (by unfold tc;rw[hrd];rfl)
 rcases this with⟨hnm,v,w',fr,⟨G',h1,h2⟩,h3,h4,h5,h6,h7,h8⟩|⟨chain,w',fr,a,hT,h3,h4,h5,_,h6,_⟩
 ·exact .inl ⟨hnm,v,w',fr,⟨G',h1.only hin,h2⟩,by rw[henter];exact h3,h4,h5,by rw[h6,hb0],h7,h8⟩
 ·cases hk:cx.thr with
  |none=>
   have e1:cx.TT (bp e.hp d') e.out=NoT:=by unfold Cx.TT;rw[hk]
   rw[e1]at hT;exact hT.elim
  |some ks=>
   have e1:cx.TT (bp e.hp d') e.out=ThT ks (bp e.hp d') e.out:=by unfold Cx.TT;rw[hk]
   rw[e1]at hT;obtain⟨t,n,k1,rfl,k2,_,G',k3⟩:=hT;exact .inr ⟨t,n,w',fr,oC,k1,⟨G',k3.only hin⟩,by rw[henter];exact h3,h4,h5,by rw[h6,k2,hb0];rfl,cx.fn,by rw[h4];exact ok.func⟩
def cf.sound_fn(hb0:LC.base=[]){e:cf}{cx:Cx}{body:Code}{labs:List (fa e.R)}(ok:cx.Ok body)(hkey:e.key = .fn cx.f)(hthr:cx.thr=none)(hbody:cx.fn.body=some body)(hrd:cx.rd=none)(hids:cx.ids=ek e.hp)(hpl:Plain cx.P cx.f)
  (hfine:yx cx e.args e.hp=true) (hlab:∀d',∀l∈labs,nr cx (cx.TT (bp e.hp d') e.out) (bp e.hp d') e.out body l) (hF:∀d d',qb3 cx body e.out labs e.args e.hp (Pts.put e.args d) (bp e.hp d')=e.F d d'):e.Sound cx.P:=by
 intro d d' r hr;rw[hkey];refine⟨hpl,fun w G vs hm hreps cs => ?_⟩
 rcases cf.goes_fn hb0 ok hbody hrd hids hfine hlab hF hr hm hreps cs with⟨_,v,w',fr,⟨G',h1,h2⟩,h3,h4,h5⟩|⟨_,_,_,_,h,_⟩
 ·exact⟨.returned v,w',fr,⟨v,G',rfl,h1,h2⟩,h3,h4,h5⟩
 ·exact absurd hthr h
def cf.sound_thr(hb0:LC.base=[]){e:cf}{cx:Cx}{body:Code}{labs:List (fa e.R)}(ok:cx.Ok body){ks:List (Nat×Nat)}(hkey:e.key = .thr cx.f ks)(hthr:cx.thr=some ks)(hbody:cx.fn.body=some body)(hrd:cx.rd=none)(hids:cx.ids=ek e.hp)(hpl:Plain cx.P cx.f)
  (hfine:yx cx e.args e.hp=true) (hlab:∀d',∀l∈labs,nr cx (cx.TT (bp e.hp d') e.out) (bp e.hp d') e.out body l) (hF:∀d d',qb3 cx body e.out labs e.args e.hp (Pts.put e.args d) (bp e.hp d')=e.F d d'):e.Sound cx.P:=by
 intro d d' r hr;rw[hkey];refine⟨hpl,?_⟩
 cases hmk:lr (e.out.res r).1 with
 |none=>
  intro w G vs hm hreps cs;rcases cf.goes_fn hb0 ok hbody hrd hids hfine hlab hF hr hm hreps cs with⟨_,v,w',fr,⟨G',h1,h2⟩,h3,h4,h5⟩|⟨_,_,_,_,_,h,_⟩
  ·exact⟨.returned v,w',fr,⟨v,G',rfl,h1,h2⟩,h3,h4,h5⟩
  ·rw[hmk]at h;cases h
 |some x=>
  intro w G vs hm hreps cs;rcases cf.goes_fn hb0 ok hbody hrd hids hfine hlab hF hr hm hreps cs with⟨h,_⟩|⟨t,n,w',fr,_,h,hf,h3,h4,h5⟩
  ·unfold qa2 at h;rw[hthr]at h;simp only at h;rw[hmk]at h;cases h
  ·rw[hmk]at h;cases h;exact⟨_,w',fr,⟨rfl,hf⟩,h3,h4,h5⟩
def qqr:List Tmp->List AV->List (Nat×AV)->List (Nat×AV)|p::ps,x::xs,fr=>qqr ps xs ((p,x)::fr)|_,_,fr=>fr
def qjl(n:Nat):List Nat->Bool|[]=>true|p::ps=>Nat.blt p n&&qjl n ps
def zdb{G:Gh}{n:Nat}:∀{ps:List Tmp}{xs:List AV}{vs:List Value}{fr:List (Nat×AV)}{tmps:Array Value},qjl n ps=true->tmps.size=n->ps.length=xs.length->am xs G vs->(∀i x,ae fr i=some x->∃v,tmps[i]? = some v/\aj x G v) ->
  ((ps.zip vs).foldl (fun(tmps:Array Value)(q:Tmp×Value)=>tmps.setIfInBounds q.1 q.2) tmps).size=n/\∀i x,ae (qqr ps xs fr) i=some x->∃v,((ps.zip vs).foldl (fun(tmps:Array Value)(q:Tmp×Value)=>tmps.setIfInBounds q.1 q.2) tmps)[i]? = some v/\aj x G v
 |[],[],[],fr,tmps,_,hn,_,_,hfr=>⟨hn,hfr⟩|p::ps,x::xs,v::vs,fr,tmps,hlt,hn,hl,hr,hfr=>by
  simp[qjl,qA]at hlt;have hp:p<n:=by have:=hlt.1;simpa using this
  simp;refine zdb hlt.2 (by simp[hn]) (by simpa using hl) hr.2 (fun i y hy => ?_)
  simp[ae]at hy;cases he:Nat.beq p i
  ·rw[he]at hy;simp at hy;have hne:p≠i:=fun e=>by subst e;simp at he
   obtain⟨u,h1,h2⟩:=hfr i y hy;exact⟨u,by simp[hne,h1],h2⟩
  ·rw[he]at hy;simp at hy;subst hy;have:=qN he;subst this;exact⟨v,by simp[hn,hp],hr.1⟩
 |[],_::_,_,_,_,_,_,h,_,_=>by simp at h|_::_,[],_,_,_,_,_,h,_,_=>by simp at h|[],[],_::_,_,_,_,_,_,h,_=>h.elim|_::_,_::_,[],_,_,_,_,_,h,_=>h.elim
def zl(cx:Cx)(body:Code)(p:List Nat)(m:Nat){R:Type}(enc:RS R)(labs:List (fa R))(pts:List (Nat×bj))(xs:List AV)(hp:List (Nat×ag)):Option R:=
 match ae hp m with
 |some (.loop .ready none f n fr ps tag _)=>bif Nat.beq f cx.f&&qjl n ps&&eqLen ps xs&&tagIs tag p cx.tags then
   run cx enc labs 1000000 true (kg body [(0,0::p),(4,[]),(0,1::p)]) (reB pts { n:=n,fr:=qqr ps xs fr,hp:=hp,nx:=NX,df:=[] })
  else none
 |_=>none
where
 eqLen:List Tmp->List AV->Bool
  |[],[]=>true|_::ps,_::xs=>eqLen ps xs|_,_=>false
 tagIs (tag:Nat) (p:List Nat) (tags:List (List Nat×Nat)):Bool:=match ob p tags with|some t=>Nat.beq t tag|none=>false
def q9l:∀{ps:List Tmp}{xs:List AV},zl.eqLen ps xs=true->ps.length=xs.length
 |[],[],_=>rfl|_::ps,_::xs,h=>by simp[q9l (ps:=ps) (xs:=xs) h]|[],_::_,h=>by cases h
 |_::_,[],h=>by cases h
def qzu:Code->Bool|.rangeFunc _ _ _ _=>true|_=>false
def cf.sound_yld(hb0:LC.base=[]){e:cf}{cx:Cx}{body:Code}{p:List Nat}{m:Nat}{labs:List (fa e.R)}(ok:cx.Ok body)(hkey:e.key = .yld m)(hthr:cx.thr=none)(hrd:cx.rd=some m)(hids:cx.ids=ek e.hp)(hrf:qzu (sub body p)=true)
  (hfine:(rh (ek e.hp) e.args&&bIn (ek e.hp) e.hp)=true) (hlab:∀d',∀l∈labs,nr cx (cx.TT (bp e.hp d') e.out) (bp e.hp d') e.out body l) (hF:∀d d',zl cx body p m e.out labs e.hp (Pts.put e.args d) (bp e.hp d')=e.F d d'):e.Sound cx.P:=by
 intro d d' r hr;rw[hkey];intro w G vs B hm hreps hB;simp at hfine;obtain⟨f1,f2⟩:=hfine;have hin:=qxx (d:=d') f2;have hm':=hm.only hin;have hreps':am (Pts.put e.args d) (G.view (ek e.hp)) vs:=by
  have:=am.ren (ρ:=au (ek e.hp)) (G:=G) (G':=G.view (ek e.hp)) (fun _ _ _ h=>h) (ru _) (ut _) hreps
  rwa [qb0 f1]at this
 have hrun:=hF d d';rw[hr]at hrun;unfold zl at hrun;split at hrun
 ·rename_i f n fr ps tag D hl;cases hb:Nat.beq f cx.f&&qjl n ps&&zl.eqLen ps (Pts.put e.args d)&&zl.tagIs tag p cx.tags<;>rw[hb]at hrun<;>simp at hrun
  simp only[qA]at hb;obtain⟨⟨⟨b1,b2⟩,b3⟩,b4⟩:=hb;have b1:=qN b1;subst b1;have b3:=q9l b3;unfold zl.tagIs at b4;split at b4
  rotate_left
  ·cases b4
  rename_i t ht;have b4:=qN b4;subst b4;obtain⟨B',tmps,DB,i1,i2,⟨asn,bo,i3,i4⟩,i5,i6,i7⟩:=hm'.holds m _ hl;have hBv:(G.view (ek e.hp)).box m=some B:=by
   have:=uj (hin m _ hl).1;simp[Gh.view,this,hB]
  rw[hBv]at i1;injection i1 with i1;subst i1
  obtain⟨g,ps0,x,y,hs⟩:∃g ps x y,sub body p = .rangeFunc g ps x y:=by
   cases hc:sub body p<;>rw[hc]at hrf<;>first|exact⟨_,_,_,_,rfl⟩|cases hrf
  have hcode:=ok.tags p t ht g ps0 x y hs;rw[i3]at hcode;simp at hcode;obtain⟨rfl,rfl⟩:=hcode;have hid:∀n bx,ae (bp e.hp d') n=some bx->bf cx.ids n=some n:=fun n bx h=>by rw[hids];exact qkd h
  have hg:=q1v (enc:=e.out) (Cx.thOk hid) ok (z5j:=bp e.hp d') hid (hlab d') _ _ _ _ _ qzw hrun;have hlv:=hreps.length;obtain⟨j1,j2⟩:=zdb (n:=n) b2 i5 b3 hreps' i6;have hr0:ai w (G.view (ek e.hp)) (bp e.hp d') (G.view (ek e.hp)) { n:=n,fr:=qqr ps (Pts.put e.args d) fr,hp:=bp e.hp d',nx:=NX,df:=[] } { tmps:=(ps.zip vs).foldl (fun(tmps:Array Value)(q:Tmp×Value)=>tmps.setIfInBounds q.1 q.2) tmps,defers:=[] } w:=
   ⟨⟨[],rfl,rfl⟩,j1,j2,fun k _ hk=>by simp[Gh.view,q0r hk],we hm'⟩
  obtain⟨G1,hr1⟩:=hr0.reB (l:=e.hp);refine⟨_,i4,fun c cs=>⟨oE,?_⟩⟩
  let b:Frame:={ (default:Frame) with fn:=cx.f,kind := .normal,roundOf:=some B }
  have hTT:cx.TT (bp e.hp d') e.out=NoT:=by unfold Cx.TT;rw[hthr]
  rw[hTT]at hg;have:=(zqc (hg w _ _ _ w hr1 b (c::cs) rfl rfl (by unfold tc;rw[hrd];exact⟨B,_,hBv,hl,rfl⟩))).2
  obtain⟨v,w',⟨G',h1,h2⟩,h3⟩:=this c cs rfl;refine⟨v,w',⟨v,G',rfl,h1.only hin,h2⟩,?_⟩;have e1:Frame.round B cx.f ((ps.toArray.zip vs.toArray).foldl (fun tmps(t,a)=>tmps.setIfInBounds t a) tmps) asn bo .normal=b.atR ({ tmps:=(ps.zip vs).foldl (fun(tmps:Array Value)(q:Tmp×Value)=>tmps.setIfInBounds q.1 q.2) tmps,defers:=[] }:Act).bs (dw (kg body [(0,0::p),(4,[]),(0,1::p)])):=by
   simp[Frame.round,Frame.atR,b,Act.bs,hb0,dw,kg,y7,sub,hs,wh,List.zip_toArray]
  simp only at e1 ⊢;rw[e1];exact h3
 ·cases hrun
def nr.of_run{cx:Cx}{body:Code}{z5j:List (Nat×ag)}{R:Type}{TT:World->Gh->R->List PanicEntry->Act->World->Prop}{enc:RS R}{labs:List (fa R)}(hth:qjb cx TT z5j enc)(ok:cx.Ok body)(hid:∀n bx,ae z5j n=some bx->bf cx.ids n=some n)(hlab:∀l∈labs,nr cx TT z5j enc body l){l:fa R}
  (h:∀d,run cx enc labs 1000000 false (kg body l.key) (l.ls.st d)=l.F d):nr cx TT z5j enc body l:=fun d r hr=>by
 have:=h d;rw[hr]at this;exact q1v hth ok hid hlab _ _ _ _ _ qzw this
end Go.Sym
namespace Go.Sym
open Go.RowKit
def wg(f:Func):Code:=match f.body with|some c=>c|none => .skip
def af(n:Int):Int:=IntKind.i64.wrap n
section
variable[LC]{cx:Cx}{z5j:List (Nat×ag)}{R:Type}{TT:World->Gh->R->List PanicEntry->Act->World->Prop}{enc:RS R}{body:Code}{P:Program}
def gd:∀p t,ob p []=some t->∀g ps x y,sub body p = .rangeFunc g ps x y->LC.lc t=some (x,y):=fun _ _ h=>by cases h
def g7{p:List Nat}{t:Nat}{tags:List (List Nat×Nat)}(h:LC.lc t=some (wh 0 (sub body p),wh 1 (sub body p)))(k:∀p t,ob p tags=some t->∀g ps x y,sub body p = .rangeFunc g ps x y->LC.lc t=some (x,y)) :
  ∀q u,ob q ((p,t)::tags)=some u->∀g ps x y,sub body q = .rangeFunc g ps x y->LC.lc u=some (x,y):=fun q u hq g ps x y hs=>by
 simp only[ob]at hq;cases hb:qr p q
 ·rw[hb]at hq;exact k q u hq g ps x y hs
 ·rw[hb]at hq;simp only[qT,qI]at hq;subst hq;have:=qpo hb;subst this;rw[h,hs];rfl
end
abbrev Bs:Type:=List UInt8
def zcv:Nat->Nat->List Nat|0,_=>[]|f+1,n=>bif Nat.ble n 1 then[] else Nat.mod n 2::zcv f (Nat.div n 2)
mutual
def Pt.ts:Pt->List Type->List Type|.h τ,a=>τ.den::a|.agg ps,a=>Pts.ts ps a|.tup ps,a=>Pts.ts ps a|.fn _ ps,a=>Pts.ts ps a|.ifc _ p,a=>p.ts a|.arr τ,a=>List τ.den::a|_,a=>a
def Pts.ts:List Pt->List Type->List Type|[],a=>a|p::ps,a=>p.ts (Pts.ts ps a)
end
def HL:List Type->Type|[]=>Unit|t::l=>t×HL l
abbrev lj:HL []:=()
mutual
def Pt.pk:(p:Pt)->{a:List Type}->p.den->HL a->HL (p.ts a)|.h _,_,d,x=>(d,x)|.agg ps,_,d,x=>Pts.pk ps d x|.tup ps,_,d,x=>Pts.pk ps d x|.fn _ ps,_,d,x=>Pts.pk ps d x|.ifc _ p,_,d,x=>p.pk d x|.arr _,_,d,x=>(d,x)|.c _,_,_,x=>x|.ptr _ _,_,_,x=>x|.own _,_,_,x=>x|.el _ _,_,_,x=>x|.iel _ _ _,_,_,x=>x|.yld _,_,_,x=>x|.pn _,_,_,x=>x|.u,_,_,x=>x
def Pts.pk:(ps:List Pt)->{a:List Type}->Pts.den ps->HL a->HL (Pts.ts ps a)|[],_,_,x=>x|p::ps,_,d,x=>p.pk d.1 (Pts.pk ps d.2 x)
end
mutual
def Pt.un:(p:Pt)->{a:List Type}->HL (p.ts a)->p.den×HL a|.h _,_,x=>x|.agg ps,_,x=>Pts.un ps x|.tup ps,_,x=>Pts.un ps x|.fn _ ps,_,x=>Pts.un ps x|.ifc _ p,_,x=>p.un x|.arr _,_,x=>x|.c _,_,x=>((),x)|.ptr _ _,_,x=>((),x)|.own _,_,x=>((),x)|.el _ _,_,x=>((),x)|.iel _ _ _,_,x=>((),x)|.yld _,_,x=>((),x)|.pn _,_,x=>((),x)|.u,_,x=>((),x)
def Pts.un:(ps:List Pt)->{a:List Type}->HL (Pts.ts ps a)->Pts.den ps×HL a|[],_,x=>((),x)|p::ps,_,x=>(((p.un x).1,(Pts.un ps (p.un x).2).1),(Pts.un ps (p.un x).2).2)
end
mutual
def Pt.un_pk:∀(p:Pt){a:List Type}(d:p.den)(x:HL a),p.un (p.pk d x)=(d,x)|.h _,_,_,_=>rfl|.agg ps,_,d,x=>Pts.un_pk ps d x|.tup ps,_,d,x=>Pts.un_pk ps d x|.fn _ ps,_,d,x=>Pts.un_pk ps d x|.ifc _ p,_,d,x=>Pt.un_pk p d x|.arr _,_,_,_=>rfl|.c _,_,_,_=>rfl|.ptr _ _,_,_,_=>rfl|.own _,_,_,_=>rfl|.el _ _,_,_,_=>rfl|.iel _ _ _,_,_,_=>rfl|.yld _,_,_,_=>rfl|.pn _,_,_,_=>rfl|.u,_,_,_=>rfl
def Pts.un_pk:∀(ps:List Pt){a:List Type}(d:Pts.den ps)(x:HL a),Pts.un ps (Pts.pk ps d x)=(d,x)
 |[],_,_,_=>rfl|p::ps,_,d,x=>by
  show(((p.un (p.pk d.1 (Pts.pk ps d.2 x))).1,(Pts.un ps (p.un (p.pk d.1 (Pts.pk ps d.2 x))).2).1),(Pts.un ps (p.un (p.pk d.1 (Pts.pk ps d.2 x))).2).2)=(d,x);rw[Pt.un_pk p,Pts.un_pk ps];rfl
end
def fts:List (Nat×Pt)->List Type->List Type|[],a=>a|(_,p)::r,a=>p.ts (fts r a)
def n7:(l:List (Nat×Pt))->{a:List Type}->qv l->HL a->HL (fts l a)|[],_,_,x=>x|(_,p)::r,_,d,x=>p.pk d.1 (n7 r d.2 x)
def qe6:(l:List (Nat×Pt))->{a:List Type}->HL (fts l a)->qv l×HL a|[],_,x=>((),x)|(_,p)::r,_,x=>(((p.un x).1,(qe6 r (p.un x).2).1),(qe6 r (p.un x).2).2)
def zaa:∀(l:List (Nat×Pt)){a:List Type}(d:qv l)(x:HL a),qe6 l (n7 l d x)=(d,x)
 |[],_,_,_=>rfl|(_,p)::r,_,d,x=>by
  show(((p.un (p.pk d.1 (n7 r d.2 x))).1,(qe6 r (p.un (p.pk d.1 (n7 r d.2 x))).2).1),(qe6 r (p.un (p.pk d.1 (n7 r d.2 x))).2).2)=(d,x);rw[Pt.un_pk p,zaa r];rfl
def bj.ts:bj->List Type->List Type|.cells ps _,a=>Pts.ts ps a|.row τ _,a=>List τ.den::a|.loop _ _ _ _ fr _ _ _,a=>fts fr a|.dfr,a=>a|.it,a=>List UInt8::Nat::a|.dead,a=>a|.dat τ _,a=>τ.den::a
def bj.pk:(p:bj)->{a:List Type}->p.den->HL a->HL (p.ts a)|.cells ps _,_,d,x=>Pts.pk ps d x|.row _ _,_,d,x=>(d,x)|.loop _ _ _ _ fr _ _ _,_,d,x=>n7 fr d x|.dfr,_,_,x=>x|.it,_,d,x=>(d.1,(d.2,x))|.dead,_,_,x=>x|.dat _ _,_,d,x=>(d,x)
def bj.un:(p:bj)->{a:List Type}->HL (p.ts a)->p.den×HL a|.cells ps _,_,x=>Pts.un ps x|.row _ _,_,x=>x|.loop _ _ _ _ fr _ _ _,_,x=>qe6 fr x|.dfr,_,x=>((),x)|.it,_,x=>((x.1,x.2.1),x.2.2)|.dead,_,x=>((),x)|.dat _ _,_,x=>x
def bj.un_pk:∀(p:bj){a:List Type}(d:p.den)(x:HL a),p.un (p.pk d x)=(d,x)|.cells ps _,_,d,x=>Pts.un_pk ps d x|.row _ _,_,_,_=>rfl|.loop _ _ _ _ fr _ _ _,_,d,x=>zaa fr d x|.dfr,_,_,_=>rfl|.it,_,_,_=>rfl|.dead,_,_,_=>rfl|.dat _ _,_,_,_=>rfl
def bts:List (Nat×bj)->List Type->List Type|[],a=>a|(_,p)::r,a=>p.ts (bts r a)
def gf:(l:List (Nat×bj))->{a:List Type}->f8 l->HL a->HL (bts l a)|[],_,_,x=>x|(_,p)::r,_,d,x=>p.pk d.1 (gf r d.2 x)
def bun:(l:List (Nat×bj))->{a:List Type}->HL (bts l a)->f8 l×HL a|[],_,x=>((),x)|(_,p)::r,_,x=>(((p.un x).1,(bun r (p.un x).2).1),(bun r (p.un x).2).2)
def q8e:∀(l:List (Nat×bj)){a:List Type}(d:f8 l)(x:HL a),bun l (gf l d x)=(d,x)
 |[],_,_,_=>rfl|(_,p)::r,_,d,x=>by
  show(((p.un (p.pk d.1 (gf r d.2 x))).1,(bun r (p.un (p.pk d.1 (gf r d.2 x))).2).1),(bun r (p.un (p.pk d.1 (gf r d.2 x))).2).2)=(d,x);rw[bj.un_pk p,q8e r];rfl
abbrev Cur:List Type->Type->Type|[],R=>R|t::l,R=>t->Cur l R
def app{R:Type}:{l:List Type}->Cur l R->HL l->R|[],f,_=>f|_::_,f,x=>app (f x.1) x.2
abbrev Nc:List Type->Type|[]=>Unit|[t]=>t|t::u::l=>t×Nc (u::l)
def Nc.fro:(l:List Type)->HL l->Nc l|[],_=>()|[_],x=>x.1|_::u::l,x=>(x.1,Nc.fro (u::l) x.2)
def Nc.to:(l:List Type)->Nc l->HL l|[],_=>()|[_],x=>(x,())|_::u::l,x=>(x.1,Nc.to (u::l) x.2)
def Nc.to_fro:∀(l:List Type)(x:HL l),Nc.to l (Nc.fro l x)=x
 |[],_=>rfl|[_],_=>rfl|_::u::l,x=>by
  show(x.1,Nc.to (u::l) (Nc.fro (u::l) x.2))=x;rw[Nc.to_fro];rfl
def RS.mk(p:Pt)(hp:List (Nat×bj)):RS (Nc (p.ts (bts hp []))):=
 .one p hp (fun x=>((p.un (Nc.to _ x)).1,(bun hp (p.un (Nc.to _ x)).2).1)) (fun y=>Nc.fro _ (p.pk y.1 (gf hp y.2 lj))) fun y=>by
  obtain⟨d,d'⟩:=y;show((p.un (Nc.to _ (Nc.fro _ (p.pk d (gf hp d' lj))))).1,(bun hp (p.un (Nc.to _ (Nc.fro _ (p.pk d (gf hp d' lj))))).2).1)=(d,d');rw[Nc.to_fro,Pt.un_pk,q8e]
structure IF:Type 1 where
 key:qh
 args:List Pt
 hp:List (Nat×bj)
 R:Type
 out:RS R
abbrev IF.T(i:IF):Type:=Cur (Pts.ts i.args (bts i.hp [])) (Option i.R)
def IF.e(i:IF)(r:i.T):cf:=⟨i.key,i.args,i.hp,i.R,fun d d'=>app r (Pts.pk i.args d (gf i.hp d' lj)),i.out⟩
abbrev KL:Type:=vm×LS
abbrev KL.T(l:KL)(R:Type):Type:=Cur (fts l.2.fr (bts l.2.hp [])) (Option R)
def KL.lab{R:Type}(l:KL)(r:l.T R):fa R:=⟨l.1,l.2,fun d=>app r (n7 l.2.fr d.1 (gf l.2.hp d.2 lj))⟩
def kl:Nat->List KL->KL|_,[]=>([],⟨0,[],[],0,[]⟩)|0,l::_=>l|n+1,_::r=>kl n r
def qqs:qh->Option Nat|.yld m=>some m|_=>none
def qrf:qh->Option (List (Nat×Nat))|.thr _ ks=>some ks|_=>none
section
variable[LC]{P:Program}{i:IF}
structure EP(P:Program):Type 1 where
 e:cf
 h:e.Sound P
structure EI(P:Program)(i:IF) where
 f:i.T
 h:(i.e f).Sound P
def EI.p(s:EI P i):EP P:=⟨i.e s.f,s.h⟩
def EP.es{P:Program}:List (EP P)->List cf|[]=>[]|x::l=>x.e::EP.es l
def EP.es_ok{P:Program}:∀{l:List (EP P)},∀e∈EP.es l,e.Sound P
 |[],_,h=>by cases h
 |x::_,e,h=>by
  rcases List.mem_cons.1 h with rfl|h
  ·exact x.h
  ·exact EP.es_ok e h
structure Fx(P:Program)(i:IF):Type 1 where
 etys:List (Nat×Ty)
 hm:P.follows .mixedOrders=true
 fn:Func
 f:FuncId
 hf:P.funcs[f]? = some fn
 calls:List (EP P)
 sub:Bool
 tags:List (List Nat×Nat)
 ht:∀p t,ob p tags=some t->∀g ps x y,Sym.sub (wg fn) p = .rangeFunc g ps x y->LC.lc t=some (x,y)
 ls:List KL
def Fx.body(x:Fx P i):Code:=wg x.fn
def Fx.cx(x:Fx P i):Cx:={ P,tb:=⟨EP.es x.calls,x.etys,x.sub⟩,fn:=x.fn,f:=x.f,ids:=ek i.hp,rd:=qqs i.key,tags:=x.tags,thr:=qrf i.key }
def Fx.ok(x:Fx P i):x.cx.Ok x.body:=⟨EP.es_ok,x.hm,x.hf,x.ht⟩
structure PL(x:Fx P i)(k:Nat) where
 f:(kl k x.ls).T i.R
 h:∀d',nr x.cx (x.cx.TT (bp i.hp d') i.out) (bp i.hp d') i.out x.body ((kl k x.ls).lab f)
abbrev Fx.L(x:Fx P i)(k:Nat):=PL x k
structure SL(x:Fx P i) where
 q:fa i.R
 h:∀d',nr x.cx (x.cx.TT (bp i.hp d') i.out) (bp i.hp d') i.out x.body q
def PL.s{x:Fx P i}{k:Nat}(p:PL x k):SL x:=⟨(kl k x.ls).lab p.f,p.h⟩
def SL.qs{x:Fx P i}:List (SL x)->List (fa i.R)|[]=>[]|s::l=>s.q::SL.qs l
def SL.qs_ok{x:Fx P i}{d':f8 i.hp}:∀{l:List (SL x)},∀q∈SL.qs l,nr x.cx (x.cx.TT (bp i.hp d') i.out) (bp i.hp d') i.out x.body q
 |[],_,h=>by cases h
 |s::_,q,h=>by
  rcases List.mem_cons.1 h with rfl|h
  ·exact s.h d'
  ·exact SL.qs_ok q h
def Fx.jn{x:Fx P i}{k:Nat}(f:(kl k x.ls).T i.R)(l:List (SL x))
  (h:∀d,run x.cx i.out (SL.qs l) 1000000 false (kg x.body (kl k x.ls).1) ((kl k x.ls).2.st d)=app f (n7 (kl k x.ls).2.fr d.1 (gf (kl k x.ls).2.hp d.2 ()))):PL x k:=
 ⟨f,fun _=>nr.of_run (Cx.thOk (fun _ _ h=>qkd h)) x.ok (fun _ _ h=>qkd h) (SL.qs_ok) h⟩
def Fx.lp{x:Fx P i}{k:Nat}(g:Nat->(kl k x.ls).T i.R)(b:(kl k x.ls).T i.R->(kl k x.ls).T i.R)(h0:∀d:(kl k x.ls).2.den,app (g 0) (n7 (kl k x.ls).2.fr d.1 (gf (kl k x.ls).2.hp d.2 ()))=none)(hg:∀n,g (n+1)=b (g n))(l:PL x k->List (SL x))
  (h:∀r d,run x.cx i.out (SL.qs (l r)) 1000000 false (kg x.body (kl k x.ls).1) ((kl k x.ls).2.st d)=app (b r.f) (n7 (kl k x.ls).2.fr d.1 (gf (kl k x.ls).2.hp d.2 ()))) (n:Nat):PL x k:=
 ⟨g n,by
  induction n with
  |zero=>intro d' d r hr;have:=h0 d;rw[show((kl k x.ls).lab (g 0)).F d=none from this]at hr;cases hr
  | succ n ih=>rw[hg];exact(Fx.jn (b (g n)) (l ⟨g n,ih⟩) (h ⟨g n,ih⟩)).h⟩
def Fx.fin(hb0:LC.base=[])(x:Fx P i)(f:i.T)(l:List (SL x))(hp:Plain P x.f)(hk:i.key = .fn x.f)(hb:x.fn.body=some x.body)(hfine:yx x.cx i.args i.hp=true)
  (h:∀d d',qb3 x.cx x.body i.out (SL.qs l) i.args i.hp (Pts.put i.args d) (bp i.hp d')=app f (Pts.pk i.args d (gf i.hp d' lj))):EI P i:=
 ⟨f,cf.sound_fn hb0 (e:=i.e f) (cx:=x.cx) (labs:=SL.qs l) x.ok hk (show qrf i.key=none by rw[hk];rfl) hb (show qqs i.key=none by rw[hk];rfl) rfl hp hfine (fun _=>SL.qs_ok) h⟩
def Fx.fint(hb0:LC.base=[])(x:Fx P i)(f:i.T)(l:List (SL x))(hp:Plain P x.f)(hk:i.key = .thr x.f [])(hb:x.fn.body=some x.body)(hfine:yx x.cx i.args i.hp=true)
  (h:∀d d',qb3 x.cx x.body i.out (SL.qs l) i.args i.hp (Pts.put i.args d) (bp i.hp d')=app f (Pts.pk i.args d (gf i.hp d' lj))):EI P i:=
 ⟨f,cf.sound_thr hb0 (e:=i.e f) (cx:=x.cx) (labs:=SL.qs l) (ks:=[]) x.ok hk (show qrf i.key=some [] by rw[hk];rfl) hb (show qqs i.key=none by rw[hk];rfl) rfl hp hfine (fun _=>SL.qs_ok) h⟩
def Fx.fiy(hb0:LC.base=[])(x:Fx P i)(f:i.T)(l:List (SL x))(m:Nat)(hk:i.key = .yld m)(p:List Nat)(hb:qzu (Sym.sub x.body p)=true)(hfine:(rh (ek i.hp) i.args&&bIn (ek i.hp) i.hp)=true)
  (h:∀d d',zl x.cx x.body p m i.out (SL.qs l) i.hp (Pts.put i.args d) (bp i.hp d')=app f (Pts.pk i.args d (gf i.hp d' lj))):EI P i:=
 ⟨f,cf.sound_yld hb0 (e:=i.e f) (cx:=x.cx) (labs:=SL.qs l) (p:=p) (m:=m) x.ok hk (show qrf i.key=none by rw[hk];rfl) (show qqs i.key=some m by rw[hk];rfl) rfl hb hfine (fun _=>SL.qs_ok) h⟩
def EI.rc(g:Nat->i.T)(b:i.T->i.T)(h0:∀d d',app (g 0) (Pts.pk i.args d (gf i.hp d' lj))=none)(hg:∀n,g (n+1)=b (g n))(s:EI P i->EI P i)(hs:∀r,(s r).f=b r.f)(n:Nat):EI P i:=
 ⟨g n,by
  induction n with
  |zero=>intro d d' r hr;have:=h0 d d';rw[show(i.e (g 0)).F d d'=none from this]at hr;cases hr
  | succ n ih=>rw[hg,← hs ⟨g n,ih⟩];exact(s ⟨g n,ih⟩).h⟩
def za:List Nat->Code->List Nat->vm->vm
 |[],_,p,k=>(0,p)::k|i::r,c,p,k=>match c with
  |.seq a b=>match i with|0=>za r a (0::p) ((0,1::p)::k)|_=>za r b (1::p) k
  |.block _ a=>za r a (0::p) ((1,p)::k)|.loop a=>za r a (0::p) ((2,p)::k)|.scope a=>za r a (0::p) ((3,p)::k)|.rangeFunc _ _ _ b=>za r b (i::p) []|c=>za r (wh i c) (i::p) k
def zo7(b:Code)(n:Nat):vm:=za (zcv 200 n).reverse b [] []
def pc(P:Program)(f:FuncId):Func:=match P.funcs[f]? with|some fn=>fn|none=>default
structure LB where
 n:Nat
 fr:List (Nat×Pt)
 hp:List (Nat×bj)
 df:List Nat
abbrev lb(n:Nat)(fr:List (Nat×Pt))(hp:List (Nat×bj):=[])(df:List Nat:=[]):LB:=⟨n,fr,hp,df⟩
def za9(fn:Func):List LB->List KL|[]=>[]|l::r=>(zo7 (wg fn) l.n,⟨fn.ntmps,l.fr,l.hp,64,l.df⟩)::za9 fn r
def qbc:qh->FuncId|.fn f=>f|.ext f=>f|.thr f _=>f|.yld _=>0
def zc1 {f : FuncId} {fn : Func} (hf : P.funcs[f]? = some fn) (hn : (fn.name == "runtime.NumGoroutine") = false) (hb : fn.body.isNone = false) : Plain P f := fun args w => by
 have h1 : ¬ fn.name = "runtime.NumGoroutine" := by simpa using hn
 cases hq:fn.body with
 |none=>rw[hq]at hb;cases hb
 |some c=>simp[callFunc,hf,h1,hq]
def Fx.at(etys:List (Nat×Ty))(hm:P.follows .mixedOrders=true)(f:FuncId)(calls:List (EP P))(ls:List LB)(sub:Bool)(tags:List (List Nat×Nat))
  (ht:∀p t,ob p tags=some t->∀g ps x y,Sym.sub (wg (pc P f)) p = .rangeFunc g ps x y->LC.lc t=some (x,y)) (hf:P.funcs[f]? = some (pc P f)):Fx P i:=
 ⟨etys,hm,pc P f,f,hf,calls,sub,tags,ht,za9 (pc P f) ls⟩
def Fx.fi(x:Fx P i)(f:i.T)(l:List (SL x):=[])(hp:Plain P x.f:=by exact zc1 (Fx.hf _) oB oB)(hk:i.key = .fn x.f:=by exact rfl)(hb:x.fn.body=some x.body:=by exact rfl)(hfine:yx x.cx i.args i.hp=true:=by kernel_rfl)
  (h:∀d d',qb3 x.cx x.body i.out (SL.qs l) i.args i.hp (Pts.put i.args d) (bp i.hp d')=app f (Pts.pk i.args d (gf i.hp d' lj)):=by intro d d';kernel_rfl) (hb0:LC.base=[]:=by exact rfl):EI P i:=x.fin hb0 f l hp hk hb hfine h
def Fx.ft(x:Fx P i)(f:i.T)(l:List (SL x):=[])(hp:Plain P x.f:=by exact zc1 (Fx.hf _) oB oB)(hk:i.key = .thr x.f []:=by exact rfl)(hb:x.fn.body=some x.body:=by exact rfl)(hfine:yx x.cx i.args i.hp=true:=by kernel_rfl)
  (h:∀d d',qb3 x.cx x.body i.out (SL.qs l) i.args i.hp (Pts.put i.args d) (bp i.hp d')=app f (Pts.pk i.args d (gf i.hp d' lj)):=by intro d d';kernel_rfl) (hb0:LC.base=[]:=by exact rfl):EI P i:=x.fint hb0 f l hp hk hb hfine h
def Fx.fo(x:Fx P i)(f:i.T)(l:List (SL x))(m:Nat)(p:List Nat)(hk:i.key = .yld m:=by exact rfl)(hb:qzu (Sym.sub x.body p)=true:=by kernel_rfl)(hfine:(rh (ek i.hp) i.args&&bIn (ek i.hp) i.hp)=true:=by kernel_rfl)
  (h:∀d d',zl x.cx x.body p m i.out (SL.qs l) i.hp (Pts.put i.args d) (bp i.hp d')=app f (Pts.pk i.args d (gf i.hp d' lj)):=by intro d d';kernel_rfl) (hb0:LC.base=[]:=by exact rfl):EI P i:=x.fiy hb0 f l m hk p hb hfine h
def Fx.jm{x:Fx P i}{k:Nat}(f:(kl k x.ls).T i.R)(l:List (SL x):=[])(h:∀d,run x.cx i.out (SL.qs l) 1000000 false (kg x.body (kl k x.ls).1) ((kl k x.ls).2.st d)=app f (n7 (kl k x.ls).2.fr d.1 (gf (kl k x.ls).2.hp d.2 ())):=by intro d;kernel_rfl):PL x k:=Fx.jn f l h
def Fx.lq{x:Fx P i}{k:Nat}(g:Nat->(kl k x.ls).T i.R)(b:(kl k x.ls).T i.R->(kl k x.ls).T i.R)(l:PL x k->List (SL x))(h0:∀d:(kl k x.ls).2.den,app (g 0) (n7 (kl k x.ls).2.fr d.1 (gf (kl k x.ls).2.hp d.2 ()))=none:=by intro _;exact rfl)(hg:∀n,g (n+1)=b (g n):=by intro _;exact rfl)
  (h:∀r d,run x.cx i.out (SL.qs (l r)) 1000000 false (kg x.body (kl k x.ls).1) ((kl k x.ls).2.st d)=app (b r.f) (n7 (kl k x.ls).2.fr d.1 (gf (kl k x.ls).2.hp d.2 ())):=by intro _ d;kernel_rfl) (n:Nat):PL x k:=Fx.lp g b h0 hg l h n
end
end Go.Sym
namespace Go.Sym
def jc(n:Int):Option Bs:=bif decide (-9223372036854775808<=n/\n<=9223372036854775807) then some (Lib.itoa n) else none
abbrev Pc:Type:=Bs×Int×Bool×Bs
abbrev Pq:Type:={ x:Pc // -1125899906842624<=x.2.1/\x.2.1<=1125899906842624 }
instance:Inhabited Pq:=⟨⟨([],0,false,[]),oD⟩⟩
def np(s old new:Bs):Option Bs:=bif decide (1<=List.length old/\List.length s<4294967281/\List.length s+List.length s*List.length new<=140737488355328) then some (Lib.replaceAll s old new) else none
def qdu(s:Bs)(n:Int):Option Bs:=bif decide (0<=n/\n<=9223372036854775807/\List.length s*n.toNat<=140737488355328) then some (Lib.repeatL s n.toNat) else none
def jp(s:Bs):Option Bool:=bif decide (List.length s<=9223372036854775807) then some (Lib.validD s) else none
def tw(a b:UInt8)(na nb:Bs)(c:UInt8):Bs:=if c=a then na else if c=b then nb else[c]
def ei(a b:UInt8)(na nb:Bs)(s:Bs):Bs:=s.flatMap (tw a b na nb)
def ic(a b:UInt8)(l:Bs):Nat:=l.count a+l.count b
def qj1(a b:UInt8)(na nb s t:Bs):ei a b na nb (s++t)=ei a b na nb s++ei a b na nb t:=List.flatMap_append
def qyg(a b:UInt8)(s t:Bs):ic a b (s++t)=ic a b s+ic a b t:=by unfold ic;rw[List.count_append,List.count_append];omega
def qyh{a b:UInt8}(hab:a≠b)(c:UInt8):ic a b [c]=if c=a then 1 else if c=b then 1 else 0:=by
 unfold ic;simp only[List.count_cons,List.count_nil,beq_iff_eq];by_cases h:c=a
 ·subst h;simp[hab]
 ·by_cases h2:c=b
  ·subst h2;simp[h]
  ·simp[h,h2]
def qe2{a b:UInt8}(hab:a≠b)(a1 a2 b1 b2:UInt8):∀l:Bs,(ei a b [a1,a2] [b1,b2] l).length=l.length+ic a b l
 |[]=>rfl|c::l=>by
  have h:=qe2 hab a1 a2 b1 b2 l;rw[show c::l=[c]++l from rfl,qj1,qM,qM,qyg,h,qyh hab]
  have:(ei a b [a1,a2] [b1,b2] [c]).length=1+(if c=a then 1 else if c=b then 1 else 0):=by
   show(tw a b [a1,a2] [b1,b2] c++[]).length=_;unfold tw;split
   ·rfl
   ·split<;>rfl
  rw[this];simp only[qL,qZ];omega
def q9r{a b:UInt8}(hab:a≠b)(na nb:Bs):∀l:Bs,ic a b l=0->ei a b na nb l=l
 |[],_=>rfl|c::l,h=>by
  rw[show c::l=[c]++l from rfl,qyg,qyh hab]at h
  rw[show c::l=[c]++l from rfl,qj1,q9r hab na nb l oA]
  congr 1;show tw a b na nb c++[]=[c];unfold tw;by_cases h1:c=a
  ·rw[qX h1]at h;omega
  ·by_cases h2:c=b
   ·rw[qW h1,qX h2]at h;omega
   ·rw[qW h1,qW h2];rfl
def ze0{α:Type}(l:List α)(i:Nat)(h:i<l.length):l.take (i+1)=l.take i++[l[i]]:=by
 rw[List.take_add_one,List.getElem?_eq_getElem h];rfl
def sw(s:Bs)(p0 p1 _p2:Int)(on:List Bs):Option Bs:=
 match on with|[[a],[a1,a2],[b],[b1,b2]]=>bif decide (p0=0/\p1=0/\a≠b/\List.length s<=1000000) then some (ei a b [a1,a2] [b1,b2] s) else none|_=>none
def zsm{s r:Bs}{p0 p1 p2:Int}{on:List Bs}(h:sw s p0 p1 p2 on=some r) :
  ∃a a1 a2 b b1 b2,on=[[a],[a1,a2],[b],[b1,b2]]/\p0=0/\p1=0/\a≠b/\List.length s<=1000000/\r=ei a b [a1,a2] [b1,b2] s:=by
 unfold sw at h;split at h
 ·rename_i a a1 a2 b b1 b2;cases hd:decide (p0=0/\p1=0/\a≠b/\List.length s<=1000000)<;>rw[hd]at h<;>simp only[qT,qF,reduceCtorEq]at h
  obtain⟨h1,h2,h3,h4⟩:=of_decide_eq_true hd;exact⟨a,a1,a2,b,b1,b2,rfl,h1,h2,h3,h4,(qJ h).symm⟩
 ·cases h
def p8(l:Bs):Option Bs:=some l
def ve(l:Bs):Option Bs:=some l
def fw(l:List Bs)(sep:Bs):Option Bs:=bif decide (List.length l<=140737488355328/\List.length (Lib.join l sep)<=140737488355328) then some (Lib.join l sep) else none
def ju(s sub:Bs):Option Int:=bif decide (List.length s<4294967281) then some (Lib.index s sub) else none
def qev(s:Bs):Nat×Nat:=if s=[] then(65533,0) else Lib.decodeL s
def g9(s:Bs):Option (Int×Int):=some (((qev s).1:Int),((qev s).2:Int))
def wb(s:Bs):Int ⊕ Int:=match Lib.atoiAll s with|.ok v => .inl v|.range => .inr (Lib.atoiSat s)|_ => .inr 0
def vd(s:Bs):Option (Int ⊕ Int):=bif decide (List.length s<=281474976710656) then some (wb s) else none
def jk(l:List Int):List Int:=l.mergeSort fun x y=>decide (x<=y)
abbrev qwv:Type:=List Int
def vl(p0:List Int):Option qwv:=bif decide (List.length p0<=aw) then some (jk p0) else none
def kw(l:List Int):List Int:=Lib.compact l
abbrev qwu:Type:=List Int
def qvc(p0:List Int):Option qwu:=bif decide (List.length p0<=aw) then some (kw p0) else none
open Go.RowKit
variable[LC]
def xw(b:List UInt8)(c:UInt8):Option Int:=some (Lib.indexByte b c)
def qtu(f:FuncId)(r:List UInt8->UInt8->Option Int):cf:={ key := .ext f,args:=[.h (.list .byte),.h .byte],hp:=[],R:=Int,F:=fun d _=>r d.1 d.2.1,out := .one (α:=Int) (.h (.int .i64)) [] (fun r=>(r,())) (fun y=>y.1) (fun _=>rfl) }
def qtt(f:FuncId)(r:List UInt8->UInt8->Option Int):cf:={ key := .ext f,args:=[.h .str,.h .byte],hp:=[],R:=Int,F:=fun d _=>r d.1 d.2.1,out := .one (α:=Int) (.h (.int .i64)) [] (fun r=>(r,())) (fun y=>y.1) (fun _=>rfl) }
def qx9(c:UInt8):((c.toNat:Int)).toNat.toUInt8=c:=oC
def zoj {P : Program} {f : FuncId} {fn : Func} (hf : P.funcs[f]? = some fn) (hname : (fn.name == "runtime.NumGoroutine") = false) (hb : fn.body.isNone = true) (hn : Extern.findNext fn = none) (he : Extern.find fn = some Extern.BytealgIndexByte.indexByte) (b : List UInt8) (c : UInt8) :
  ql3 P f [.str b,.byte c] (.int .i64 (Lib.indexByte b c)):=fun w G vs _ hr=>by
 match vs,hr with
 |[v1,v2],⟨h1,h2,_⟩=>
  have h1:v1 = .string ⟨b.toArray⟩:=h1;have h2:v2 = .int .u8 c.toNat:=h2;subst h1 h2;refine⟨.int .i64 (Lib.indexByte b c),?_,rfl⟩;rw[run_callFunc_extern hf hname hb hn he,show([Value.string ⟨b.toArray⟩,.int .u8 c.toNat]:List Value).toArray=#[.string ⟨b.toArray⟩,.int .u8 c.toNat] from rfl,Lib.run_indexByteString,qx9]
  rfl
def zol {P : Program} {f : FuncId} {fn : Func} (hf : P.funcs[f]? = some fn) (hname : (fn.name == "runtime.NumGoroutine") = false) (hb : fn.body.isNone = true) (hn : Extern.findNext fn = none) (he : Extern.find fn = some Extern.BytealgIndexByte.indexByte) (b : List UInt8) (c : UInt8) :
  ql3 P f [.sl .byte b,.byte c] (.int .i64 (Lib.indexByte b c)):=fun w G vs hm hr=>by
 match vs,hr with
 |[v1,v2],⟨h1,h2,_⟩=>
  have h2:v2 = .int .u8 c.toNat:=h2;subst h2;obtain⟨a,cp,rfl,hc,hl⟩:nu 1 (Ty.byte.At G.imm) b v1:=h1;refine⟨.int .i64 (Lib.indexByte b c),?_,rfl⟩;rw[run_callFunc_extern hf hname hb hn he];have key:∀k:Int,(Extern.BytealgIndexByte.indexByte #[.slice a b.length cp,.int .u8 c.toNat]).run P w = .ok (.int .i64 k) w->((Extern.BytealgIndexByte.indexByte ([Value.slice a b.length cp,.int .u8 c.toNat]:List Value).toArray).run P w).andThen (fun v w'=>Result.ok (Next.value v) w') = .ok (.value (.int .i64 k)) w:=by
   intro k hk;have e:([Value.slice a b.length cp,.int .u8 c.toNat]:List Value).toArray=#[.slice a b.length cp,.int .u8 c.toNat]:=rfl;rw[e,hk];rfl
  refine key _ ?_;have bb:Lib.bytesOf (b.map fun x=>(x.toNat:Int))=b:=by
   unfold Lib.bytesOf;rw[List.map_map];have:((fun n:Int=>UInt8.ofNat n.toNat) ∘ fun x:UInt8=>(x.toNat:Int))=id:=by funext x;simp
   rw[this,List.map_id]
  rcases hl with rfl|⟨g,o,rfl,hcells⟩
  ·have hs:=Lib.run_indexByteString (P:=P) .empty (c.toNat:Int) w
   cases a with|none=>exact hs|some ad=>exact hs
  ·have:=Lib.run_indexByteSlice (P:=P) (w:=w) g o b.length cp (b.map fun x=>(x.toNat:Int)) oC (fun i hi=>by
    have hk:G.imm g (o+i*1)=some (.int .u8 b[i].toNat):=hcells i _ (List.getElem?_eq_getElem hi);have:=hm.agree _ _ _ hk;rw[Nat.mul_one]at this;rw[this];simp[List.getD_eq_getElem?_getD,hi]) (c.toNat:Int)
   rw[bb,qx9]at this;exact this
def zig {P : Program} {f : FuncId} {fn : Func} (hf : P.funcs[f]? = some fn) (hname : (fn.name == "runtime.NumGoroutine") = false) (hb : fn.body.isNone = true) (hn : Extern.findNext fn = none) (he : Extern.find fn = some Extern.BytealgIndexByte.indexByte) :
  (qtt f xw).Sound P:=fun d d' r h=>by
 have h:some (Lib.indexByte (show List UInt8 from d.1) (show UInt8 from d.2.1))=some r:=h
 have h:=qJ h;subst h;exact zoj hf hname hb hn he _ _
def zii {P : Program} {f : FuncId} {fn : Func} (hf : P.funcs[f]? = some fn) (hname : (fn.name == "runtime.NumGoroutine") = false) (hb : fn.body.isNone = true) (hn : Extern.findNext fn = none) (he : Extern.find fn = some Extern.BytealgIndexByte.indexByte) :
  (qtu f xw).Sound P:=fun d d' r h=>by
 have h:some (Lib.indexByte (show List UInt8 from d.1) (show UInt8 from d.2.1))=some r:=h
 have h:=qJ h;subst h;exact zol hf hname hb hn he _ _
def qml(b:List UInt8)(c:UInt8):Option Int:=some (Lib.countByte b c:Nat)
def qts(f:FuncId)(r:List UInt8->UInt8->Option Int):cf:={ key := .ext f,args:=[.h .str,.h .byte],hp:=[],R:=Int,F:=fun d _=>r d.1 d.2.1,out := .one (α:=Int) (.h (.int .i64)) [] (fun r=>(r,())) (fun y=>y.1) (fun _=>rfl) }
def zie {P : Program} {f : FuncId} {fn : Func} (hf : P.funcs[f]? = some fn) (hname : (fn.name == "runtime.NumGoroutine") = false) (hb : fn.body.isNone = true) (hn : Extern.findNext fn = none) (he : Extern.find fn = some Extern.BytealgCount.count) :
  (qts f qml).Sound P:=fun d d' r h=>by
 obtain⟨b,c,_⟩:=d;have h:some ((Lib.countByte (show List UInt8 from b) (show UInt8 from c):Nat):Int)=some r:=h
 have h:=qJ h;subst h;intro w G vs _ hr
 match vs,hr with
 |[v1,v2],⟨h1,h2,_⟩=>
  have h1:v1 = .string ⟨(show List UInt8 from b).toArray⟩:=h1
  have h2:v2 = .int .u8 (show UInt8 from c).toNat:=h2
  subst h1 h2;refine⟨.int .i64 (Lib.countByte (show List UInt8 from b) (show UInt8 from c):Nat),?_,rfl⟩
  rw[run_callFunc_extern hf hname hb hn he,show([Value.string ⟨(show List UInt8 from b).toArray⟩,.int .u8 (show UInt8 from c).toNat]:List Value).toArray=#[.string ⟨(show List UInt8 from b).toArray⟩,.int .u8 (show UInt8 from c).toNat] from rfl,Lib.run_countString,qx9]
  rfl
end Go.Sym
namespace Go.Sym
open Go.ChangeShapes Go.WideShapes Go.ChangeAt Go.RowKit
variable[LC]
def Gw(w:World):Gh:=⟨fun b o=>match w.cell? ⟨b,o,none⟩ with|some v=>if v.oneCell'=true then some v else none|none=>none,fun _=>none,fun _=>none⟩
def qwh{w:World}{b o:Nat}{v:Value}(h:w.cell? ⟨b,o,none⟩=some v)(h1:v.oneCell'=true):(Gw w).imm b o=some v:=by
 simp[Gw];rw[h];simp[h1]
def zil(w:World)(ht:LC.tab (Gw w).imm w):b8 (Gw w) [] w:=by
 have key:∀b o v,(Gw w).imm b o=some v->w.cell? ⟨b,o,none⟩=some v/\v.oneCell'=true:=by
  intro b o v h;simp[Gw]at h;split at h
  ·rename_i u hu;split at h
   ·rename_i h1;cases h;exact⟨hu,h1⟩
   ·cases h
  ·cases h
 exact⟨fun b o v h=>(key b o v h).1,fun b o v h=>(key b o v h).2,fun n bx h=>(by cases h),fun n m bx bx' b h=>(by cases h),ht⟩
inductive qw3{α:Type}(p:α->Prop):Tree α->Prop
 |mk (a:α) (l:List (Tree α)):p a->l.length<=maxLen->(∀x∈l,qw3 p x)->qw3 p (.node a l)
def Ty.bd:(τ:Ty)->τ.den->Prop|.int k,n=>(Lit.int k n).wf=true|.str,s=>List.length s<=maxLen|.prod a b,x=>a.bd x.1/\b.bd x.2|.list a,l=>List.length l<=maxLen/\∀x∈(show List a.den from l),a.bd x|.tree a,t=>qw3 a.bd t|_,_=>True
def qe5(P:Program)(rec:Ty->TypeId->Bool):Ty->List Field->Nat->Bool|τ,[f],o=>f.offset==o&&(P.cellsOf f.type==τ.sz&&rec τ f.type)|.prod a b,f::fs,o=>f.offset==o&&(P.cellsOf f.type==a.sz&&(rec a f.type&&qe5 P rec b fs (o+a.sz)))|_,_,_=>false
def qrb(P:Program)(t g:TypeId):Bool:=match P.underlying g with|some (.slice e)=>e==t|_=>false
def qb7(P:Program)(rec:Ty->TypeId->Bool)(t:TypeId):Ty->List Field->Nat->Bool|τ,[f,g],o=>f.offset==o&&(P.cellsOf f.type==τ.sz&&(rec τ f.type&&(g.offset==o+τ.sz&&(P.cellsOf g.type==1&&qrb P t g.type))))|.prod a b,f::fs,o=>f.offset==o&&(P.cellsOf f.type==a.sz&&(rec a f.type&&qb7 P rec t b fs (o+a.sz)))|_,_,_=>false
def di(P:Program):Nat->Ty->TypeId->Bool
 |0,_,_=>false|_+1,.int k,t=>match P.underlying t with|some (.int k')=>decide (k'=k)|_=>false
 |_+1,.byte,t=>match P.underlying t with|some (.int k')=>decide (k' = .u8)|_=>false
 |_+1,.bool,t=>match P.underlying t with|some .bool=>true|_=>false
 |_+1,.str,t=>match P.underlying t with|some .string=>true|_=>false
 |n+1,.list a,t=>match P.underlying t with|some (.slice e)=>P.cellsOf e==a.sz&&(decide (0<a.sz)&&di P n a e)|_=>false
 |n+1,.prod a b,t=>match P.underlying t with|some (.struct fs)=>P.cellsOf t==(Ty.prod a b).sz&&qe5 P (di P n) (.prod a b) fs.toList 0|_=>false
 |n+1,.tree a,t=>match P.underlying t with|some (.struct fs)=>P.cellsOf t==(Ty.tree a).sz&&qb7 P (di P n) t a fs.toList 0|_=>false
 |_+1,_,_=>false
def zfh{P:Program}{n:Nat}{k:IntKind}{t:TypeId}(h:di P (n+1) (.int k) t=true):P.underlying t=some (.int k):=by
 unfold di at h;split at h
 ·rename_i k' e;rw[e,of_decide_eq_true h]
 ·cases h
def zfg{P:Program}{n:Nat}{t:TypeId}(h:di P (n+1) .byte t=true):P.underlying t=some (.int .u8):=by
 unfold di at h;split at h
 ·rename_i k' e;rw[e,of_decide_eq_true h]
 ·cases h
def zff{P:Program}{n:Nat}{t:TypeId}(h:di P (n+1) .bool t=true):P.underlying t=some .bool:=by
 unfold di at h;split at h
 ·rename_i e;exact e
 ·cases h
def zfi{P:Program}{n:Nat}{t:TypeId}(h:di P (n+1) .str t=true):P.underlying t=some .string:=by
 unfold di at h;split at h
 ·rename_i e;exact e
 ·cases h
def am.app{G:Gh}:∀{xs ys:List AV}{us vs:List Value},am xs G us->am ys G vs->am (xs++ys) G (us++vs)|[],_,[],_,_,h=>h|[],_,_::_,_,h,_=>by simp[am]at h|_::_,_,[],_,h,_=>by simp[am]at h|_::_,_,_::_,_,h,k=>⟨h.1,am.app h.2 k⟩
def qpl{G:Gh}:∀(τ:Ty)(x:τ.den)(cs:List Value),am (τ.enc x) G cs->∀v∈cs,v.oneCell'=true
 |.int k,n,[v],h,u,hu=>by
  rw[List.mem_singleton]at hu;subst hu;have h1:u = .int k n:=h.1;rw[h1];rfl
 |.byte,c,[v],h,u,hu=>by
  rw[List.mem_singleton]at hu;subst hu;have h1:u = .int .u8 (UInt8.toNat c):=h.1;rw[h1];rfl
 |.bool,c,[v],h,u,hu=>by
  rw[List.mem_singleton]at hu;subst hu;have h1:u = .bool c:=h.1;rw[h1];rfl
 |.str,s,[v],h,u,hu=>by
  rw[List.mem_singleton]at hu;subst hu;have h1:u = .string ⟨List.toArray s⟩:=h.1;rw[h1];rfl
 |.list a,l,[v],h,u,hu=>by
  rw[List.mem_singleton]at hu;subst hu;obtain⟨ad,c,rfl,_⟩:nu a.sz (a.At G.imm) l u:=h.1;rfl
 |.unit,_,[],_,u,hu=>by cases hu
 |.unit,_,_::_,h,_,_=>by simp[Ty.enc,am]at h|.prod a b,x,cs,h,u,hu=>by
  have key:∀(xs ys:List AV)(cs:List Value),am (xs++ys) G cs->∃us vs,cs=us++vs/\am xs G us/\am ys G vs:=by
   intro xs
   induction xs with
   |nil=>intro ys cs h;exact⟨[],cs,rfl,trivial,h⟩|cons x xs ih=>
    intro ys cs h
    cases cs with
    |nil=>simp[am]at h|cons c cs=>
     obtain⟨us,vs,e,h1,h2⟩:=ih ys cs h.2;exact⟨c::us,vs,by rw[e];rfl,⟨h.1,h1⟩,h2⟩
  obtain⟨us,vs,rfl,h1,h2⟩:=key _ _ _ h;rcases List.mem_append.1 hu with q|q
  ·exact qpl a x.1 us h1 u q
  ·exact qpl b x.2 vs h2 u q
 |.tree a,x,cs,h,u,hu=>by
  have key:∀(xs ys:List AV)(cs:List Value),am (xs++ys) G cs->∃us vs,cs=us++vs/\am xs G us/\am ys G vs:=by
   intro xs
   induction xs with
   |nil=>intro ys cs h;exact⟨[],cs,rfl,trivial,h⟩|cons x xs ih=>
    intro ys cs h
    cases cs with
    |nil=>simp[am]at h|cons c cs=>
     obtain⟨us,vs,e,h1,h2⟩:=ih ys cs h.2;exact⟨c::us,vs,by rw[e];rfl,⟨h.1,h1⟩,h2⟩
  obtain⟨us,vs,rfl,h1,h2⟩:=key _ _ _ h;rcases List.mem_append.1 hu with q|q
  ·exact qpl a _ us h1 u q
  ·cases vs with
   |nil=>cases q
   |cons v vs=>
    cases vs with
    |cons v' vs=>simp[am]at h2|nil=>
     rw[List.mem_singleton]at q;subst q;obtain⟨ad,c,rfl,_⟩:nu (Ty.tree a).sz ((Ty.tree a).At G.imm) (Tree.kids x) u:=h2.1;rfl
 |.int _,_,[],h,_,_=>by simp[Ty.enc,am]at h|.int _,_,_::_::_,h,_,_=>by simp[Ty.enc,am]at h|.byte,_,[],h,_,_=>by simp[Ty.enc,am]at h|.byte,_,_::_::_,h,_,_=>by simp[Ty.enc,am]at h|.bool,_,[],h,_,_=>by simp[Ty.enc,am]at h|.bool,_,_::_::_,h,_,_=>by simp[Ty.enc,am]at h|.str,_,[],h,_,_=>by simp[Ty.enc,am]at h|.str,_,_::_::_,h,_,_=>by simp[Ty.enc,am]at h|.list _,_,[],h,_,_=>by simp[Ty.enc,am]at h|.list _,_,_::_::_,h,_,_=>by simp[Ty.enc,am]at h
def am.cells{w:World}{b:Nat}:∀(xs:List AV)(cs:List Value)(o:Nat),am xs (Gw w) cs->(∀v∈cs,v.oneCell'=true)->(∀(j:Nat)(v:Value),cs[j]? = some v->w.cell? ⟨b,o+j,none⟩=some v)->cg xs (Gw w) b o
 |[],[],_,_,_,_=>trivial|[],_::_,_,h,_,_=>by simp[am]at h|_::_,[],_,h,_,_=>by simp[am]at h|x::xs,c::cs,o,h,h1,h2=>by
  refine⟨⟨c,qwh (h2 0 c rfl) (h1 c qH),h.1⟩,am.cells xs cs (o+1) h.2 (fun v hv=>h1 v (qE _ hv)) (fun j v hj => ?_)⟩
  have:=h2 (j+1) v hj;rw[show o+1+j=o+(j+1) by omega];exact this
structure uv(H:Type) where
 b:DataW H->Nat
 ba:List (DataW H)->Nat
 str:∀s,b (.lit (.string s))=s.length+1
 lit:∀l,1<=b (.lit l)
 nilb:b .nil=1
 sl:∀e r,b (.slice e r)=ba e+ba r+1
 agg:∀l,b (.agg l)=ba l+1
 nil:ba []=0
 cons:∀d r,ba (d::r)=b d+ba r
def uv.app{H:Type}(B:uv H):∀(l r:List (DataW H)),B.ba (l++r)=B.ba l+B.ba r|[],r=>by rw[List.nil_append,B.nil,wO]|d::l,r=>by rw[wK,B.cons,B.cons,B.app l r,Nat.add_assoc]
mutual
def qfw{α:Type}(f:α->Nat):Tree α->Nat|.node a l=>f a+qle f l+2
def qle{α:Type}(f:α->Nat):List (Tree α)->Nat|[]=>0|t::l=>qfw f t+qle f l
end
def zfb{α:Type}(f:α->Nat):∀l:List (Tree α),qle f l=(l.map (qfw f)).sum|[]=>by simp[qle]|t::l=>by rw[qle,zfb f l,List.map_cons,List.sum_cons]
def zul{α:Type}(f:α->Nat)(a:α)(l:List (Tree α)):qfw f (.node a l)=f a+(l.map (qfw f)).sum+2:=by
 rw[← zfb];simp[qfw]
def Ty.bk:(τ:Ty)->τ.den->Nat|.str,s=>List.length s+1|.prod a b,x=>a.bk x.1+b.bk x.2|.list a,l=>((show List a.den from l).map a.bk).sum+1|.unit,_=>0|.tree a,t=>qfw a.bk t|_,_=>1
section
variable{H:Type}{enc:TypeId×Value->H}{P:Program}{w:World}{base:Nat}{spare:Nat->Bool}{held:Bool}
def q92(B:uv H)(n m:Nat)(cs:List Value)
  (ih:∀(τ:Ty)(t:TypeId)(cs:List Value)(y:DataW H×List MemPlace),di P n τ t=true->DataW.trod enc P w base spare held m t cs=some y->∃x:τ.den,τ.bd x/\am (τ.enc x) (Gw w) cs/\τ.bk x<=B.b y.1) :
  ∀(fs:List Field)(τ:Ty)(o:Nat)(xs:List (DataW H×List MemPlace)),qe5 P (di P n) τ fs o=true->xs.length=fs.length->(∀(i:Nat)(f:Field),fs[i]? = some f->DataW.trod enc P w base spare held m f.type ((cs.drop f.offset).take (P.cellsOf f.type))=xs[i]?) ->
   ∃x:τ.den,τ.bd x/\am (τ.enc x) (Gw w) ((cs.drop o).take τ.sz)/\τ.bk x<=B.ba (xs.map (·.1))
 |[],τ,o,xs,h,_,_=>by cases τ<;>simp[qe5]at h
 |[f],τ,o,xs,h,hl,hf=>by
  have h':(f.offset==o&&(P.cellsOf f.type==τ.sz&&di P n τ f.type))=true:=by cases τ<;>exact h
  simp at h'
  match xs,hl with
  |[y],_=>
   have hy:DataW.trod enc P w base spare held m f.type ((cs.drop f.offset).take (P.cellsOf f.type))=some y:=hf 0 f rfl;rw[h'.1,h'.2.1]at hy;obtain⟨x,x1,x2,x3⟩:=ih τ f.type _ y h'.2.2 hy;exact⟨x,x1,x2,oT⟩
 |f::g::fs,τ,o,xs,h,hl,hf=>by
  cases τ with
  |prod a b=>
   have h':(f.offset==o&&(P.cellsOf f.type==a.sz&&(di P n a f.type&&qe5 P (di P n) b (g::fs) (o+a.sz))))=true:=h;simp at h'
   match xs,hl with
   |y::ys,hl=>
    have hy:DataW.trod enc P w base spare held m f.type ((cs.drop f.offset).take (P.cellsOf f.type))=some y:=hf 0 f rfl;rw[h'.1,h'.2.1]at hy;obtain⟨x1,b1,r1,k1⟩:=ih a f.type _ y h'.2.2.1 hy;obtain⟨x2,b2,r2,k2⟩:=q92 B n m cs ih (g::fs) b (o+a.sz) ys h'.2.2.2 (by simpa using hl) (fun i f' hf'=>hf (i+1) f' hf')
    refine⟨(x1,x2),⟨b1,b2⟩,?_,?_⟩
    ·show am (a.enc x1++b.enc x2) (Gw w) ((cs.drop o).take (a.sz+b.sz));rw[List.take_add,List.drop_drop];exact am.app r1 r2
    ·show a.bk x1+b.bk x2<=_;rw[List.map_cons,B.cons];omega
  |_=>simp[qe5]at h
def zfc(B:uv H)(n m:Nat)(cs:List Value){z5h:Ty}(t:TypeId)
  (ih:∀(τ:Ty)(t:TypeId)(cs:List Value)(y:DataW H×List MemPlace),di P n τ t=true->DataW.trod enc P w base spare held m t cs=some y->∃x:τ.den,τ.bd x/\am (τ.enc x) (Gw w) cs/\τ.bk x<=B.b y.1)
  (ihk:∀(g:TypeId)(cs:List Value)(y:DataW H×List MemPlace),qrb P t g=true->DataW.trod enc P w base spare held m g cs=some y->∃l:List (Ty.tree z5h).den,(Ty.list (.tree z5h)).bd l/\am [.sl (.tree z5h) l] (Gw w) cs/\(l.map (Ty.tree z5h).bk).sum+1<=B.b y.1) :
  ∀(fs:List Field)(τ:Ty)(o:Nat)(xs:List (DataW H×List MemPlace)),qb7 P (di P n) t τ fs o=true->xs.length=fs.length->(∀(i:Nat)(f:Field),fs[i]? = some f->DataW.trod enc P w base spare held m f.type ((cs.drop f.offset).take (P.cellsOf f.type))=xs[i]?) ->
   ∃(x:τ.den)(l:List (Ty.tree z5h).den),τ.bd x/\(Ty.list (.tree z5h)).bd l/\am (τ.enc x++[.sl (.tree z5h) l]) (Gw w) ((cs.drop o).take (τ.sz+1))/\τ.bk x+((l.map (Ty.tree z5h).bk).sum+1)<=B.ba (xs.map (·.1))
 |[],τ,o,xs,h,_,_=>by cases τ<;>simp[qb7]at h
 |[f],τ,o,xs,h,_,_=>by cases τ<;>simp[qb7]at h
 |[f,g],τ,o,xs,h,hl,hf=>by
  have h':(f.offset==o&&(P.cellsOf f.type==τ.sz&&(di P n τ f.type&&(g.offset==o+τ.sz&&(P.cellsOf g.type==1&&qrb P t g.type)))))=true:=by cases τ<;>exact h
  simp at h'
  match xs,hl with
  |[y,z],_=>
   have hy:DataW.trod enc P w base spare held m f.type ((cs.drop f.offset).take (P.cellsOf f.type))=some y:=hf 0 f rfl;have hz:DataW.trod enc P w base spare held m g.type ((cs.drop g.offset).take (P.cellsOf g.type))=some z:=hf 1 g rfl;rw[h'.1,h'.2.1]at hy;rw[h'.2.2.2.1,h'.2.2.2.2.1]at hz;obtain⟨x,x1,x2,x3⟩:=ih τ f.type _ y h'.2.2.1 hy;obtain⟨l,l1,l2,l3⟩:=ihk g.type _ z h'.2.2.2.2.2 hz;refine⟨x,l,x1,l1,?_,oT⟩
   rw[List.take_add,List.drop_drop];exact am.app x2 l2
 |f::g::k::fs,τ,o,xs,h,hl,hf=>by
  cases τ with
  |prod a b=>
   have h':(f.offset==o&&(P.cellsOf f.type==a.sz&&(di P n a f.type&&qb7 P (di P n) t b (g::k::fs) (o+a.sz))))=true:=h;simp at h'
   match xs,hl with
   |y::ys,hl=>
    have hy:DataW.trod enc P w base spare held m f.type ((cs.drop f.offset).take (P.cellsOf f.type))=some y:=hf 0 f rfl;rw[h'.1,h'.2.1]at hy;obtain⟨x1,b1,r1,k1⟩:=ih a f.type _ y h'.2.2.1 hy;obtain⟨x2,l,b2,bl,r2,k2⟩:=zfc B n m cs t ih ihk (g::k::fs) b (o+a.sz) ys h'.2.2.2 (by simpa using hl) (fun i f' hf'=>hf (i+1) f' hf')
    refine⟨(x1,x2),l,⟨b1,b2⟩,bl,?_,?_⟩
    ·show am ((a.enc x1++b.enc x2)++[.sl (.tree z5h) l]) (Gw w) ((cs.drop o).take ((a.sz+b.sz)+1));rw[qS,Nat.add_assoc,List.take_add,List.drop_drop];exact am.app r1 r2
    ·show(a.bk x1+b.bk x2)+_<=_;rw[List.map_cons,B.cons];omega
  |_=>simp[qb7]at h
def zql(B:uv H):∀(m n:Nat)(τ:Ty)(t:TypeId)(cs:List Value)(y:DataW H×List MemPlace),di P n τ t=true->DataW.trod enc P w base spare held m t cs=some y->∃x:τ.den,τ.bd x/\am (τ.enc x) (Gw w) cs/\τ.bk x<=B.b y.1:=by
 intro m
 induction m with
 |zero=>intro n τ t cs y _ h;simp[DataW.trod]at h|succ m ih=>
  intro n τ t cs y ht h
  cases n with
  |zero=>simp[di]at ht|succ n=>
   cases τ with
   |int k=>
    obtain⟨n,rfl,rfl,hw⟩:=DataW.trod_int (zfh ht) h;exact⟨n,hw,⟨rfl,trivial⟩,B.lit _⟩
   |byte=>
    obtain⟨n,rfl,rfl,hw⟩:=DataW.trod_int (zfg ht) h;have hb:0<=n/\n<=255:=by simp[Lit.wf,qA,decide_eq_true_eq]at hw;exact hw
    refine⟨UInt8.ofNat n.toNat,trivial,⟨?_,trivial⟩,B.lit _⟩;show Value.int .u8 n = .int .u8 ((UInt8.ofNat n.toNat).toNat:Int);rw[UInt8.toNat_ofNat',Nat.mod_eq_of_lt oA]
    congr 1;omega
   |bool=>
    obtain⟨b,rfl,rfl⟩:=DataW.trod_bool (zff ht) h;exact⟨b,trivial,⟨rfl,trivial⟩,B.lit _⟩
   |str=>
    obtain⟨s,rfl,rfl,hs⟩:=DataW.trod_string (zfi ht) h;refine⟨s.data.toList,?_,⟨?_,trivial⟩,Nat.le_of_eq (B.str _).symm⟩
    ·show s.data.toList.length<=maxLen;rw[Array.length_toList];exact hs
    ·show Value.string s = .string ⟨s.data.toList.toArray⟩;simp
   |unit=>simp[di]at ht|tree a=>
    have ht0:=ht;unfold di at ht;split at ht
    ·rename_i fs hu;simp at ht;obtain⟨xs,n',e1,rfl,ac,hxl,hg⟩:=DataW.trod_struct hu h;cases e1
     obtain⟨x,l,hb,hbl,hr,hk⟩:=zfc B n m cs t (fun τ t cs y=>ih n τ t cs y) (fun g cs y hg hy=>by
      have hg':di P (n+2) (.list (.tree a)) g=true:=by
       unfold qrb at hg;unfold di;split at hg
       ·rename_i e he;have:e=t:=by simpa using hg
        subst this;simp;exact⟨ht.1,by simp[Ty.sz],ht0⟩
       ·cases hg
      exact ih (n+2) (.list (.tree a)) g cs y hg' hy) fs.toList a 0 xs ht.2 (by rw[hxl,Array.length_toList]) (fun i f hf=>hg i f (by rw[← Array.getElem?_toList];exact hf))
     refine⟨.node x l,.mk x l hb hbl.1 hbl.2,?_,?_⟩
     ·rw[List.drop_zero,List.take_of_length_le (by rw[ac,ht.1];exact wF _)]at hr
      exact hr
     ·rw[B.agg];have e:(Ty.tree a).bk (.node x l)=a.bk x+(l.map (Ty.tree a).bk).sum+2:=zul a.bk x l;omega
    ·cases ht
   |prod a b=>
    unfold di at ht;split at ht
    ·rename_i fs hu;simp at ht;obtain⟨xs,n',e1,rfl,ac,hxl,hg⟩:=DataW.trod_struct hu h;cases e1
     obtain⟨x,hb,hr,hk⟩:=q92 B n m cs (fun τ t cs y=>ih n τ t cs y) fs.toList (.prod a b) 0 xs ht.2 (by rw[hxl,Array.length_toList]) (fun i f hf=>hg i f (by rw[← Array.getElem?_toList];exact hf))
     refine⟨x,hb,?_,by rw[B.agg];omega⟩
     rw[List.drop_zero,List.take_of_length_le (by rw[ac,ht.1];exact wF _)]at hr
     exact hr
    ·cases ht
   |list a=>
    unfold di at ht;split at ht
    ·rename_i e hu;simp at ht;obtain⟨hsz,hpos,hte⟩:=ht;rcases DataW.trod_slice hu h with⟨rfl,rfl⟩|⟨ad,len,cap,elems,rest,n',e1,rfl,rfl,_,hlc,hcm,hel,hget,_⟩
     ·exact⟨[],⟨Nat.zero_le _,fun x hx=>by cases hx⟩,⟨⟨none,0,rfl,wF _,.inl rfl⟩,trivial⟩,Nat.le_of_eq (show 0+1=_ by rw[B.nilb])⟩
     ·cases e1
      have each:∀i,i<len->∃(x:a.den)(h:i<elems.length),a.bd x/\ad.spot=none/\a.At (Gw w).imm x ad.block (ad.off+i*a.sz)/\a.bk x<=B.b elems[i].1:=by
       intro i hi;have h1:=hget i hi;rw[List.getElem?_eq_getElem oA]at h1
       obtain⟨cs,hc,hc2⟩:=Option.bind_eq_some_iff.1 h1;obtain⟨x,hb,hr,hk⟩:=ih n a e cs _ hte hc2;unfold World.cells? at hc;split at hc
       ·have hl:=mapM_some_length hc;rw[List.length_range,hsz]at hl;have hcell:∀(j:Nat)(v:Value),cs[j]? = some v->w.cell? ((ad.add (i*P.cellsOf e)).add j)=some v:=by
         intro j v hj;have hj':j<cs.length:=by
          by_cases q:j<cs.length
          ·exact q
          ·rw[List.getElem?_eq_none oA]at hj;cases hj
         have:=mapM_some_get hc j j (by rw[List.getElem?_range oA])
         rw[this,hj]
        have hspot:ad.spot=none:=by
         have g0:=hget 0 oA
         rw[List.getElem?_eq_getElem oA]at g0
         obtain⟨cs0,hc0,_⟩:=Option.bind_eq_some_iff.1 g0;unfold World.cells? at hc0;split at hc0
         ·have lj:=mapM_some_length hc0;rw[List.length_range,hsz]at lj;have:=mapM_some_get hc0 0 0 (by rw[List.getElem?_range oA])
          rw[List.getElem?_eq_getElem oA]at this
          simp[Nat.zero_mul,Addr.add,if_true]at this;unfold World.cell? at this
          cases hs:ad.spot with
          |none=>rfl|some q=>
           rw[hs]at this;split at this
           ·simp at this
           ·cases this
         ·cases hc0
        refine⟨x,oA,hb,hspot,?_,hk⟩
        refine ry.1 (am.cells _ cs _ hr (qpl a x cs hr) (fun j v hj => ?_))
        have:=hcell j v hj;rw[hsz]at this;have ea:(ad.add (i*a.sz)).add j=⟨ad.block,ad.off+i*a.sz+j,none⟩:=by
         obtain⟨b,o,s⟩:=ad;simp at hspot;subst hspot;unfold Addr.add;by_cases q1:i*a.sz=0
         ·by_cases q2:j=0
          ·simp[q1,q2]
          ·simp[q1,q2]
         ·by_cases q2:j=0
          ·simp[q1,q2]
          ·simp[q1,q2]
        rw[ea]at this;exact this
       ·cases hc
      have lst:∀k,k<=len->∃l:List a.den,l.length=k/\(∀x∈l,a.bd x)/\(∀(j:Nat)(x:a.den),l[j]? = some x->a.At (Gw w).imm x ad.block (ad.off+j*a.sz))/\(l.map a.bk).sum<=B.ba ((elems.take k).map (·.1)):=by
       intro k
       induction k with
       |zero=>intro _;exact⟨[],rfl,fun x hx=>(by cases hx),fun j x hj=>(by simp at hj),oC⟩
       |succ k ihk=>
        intro hk;obtain⟨l,l1,l2,l3,l4⟩:=ihk oA
        obtain⟨x,hx,x1,_,x2,x3⟩:=each k oA
        refine⟨l++[x],by simp[l1],fun y hy => ?_,fun j y hj => ?_,?_⟩
        ·rcases List.mem_append.1 hy with q|q
         ·exact l2 y q
         ·rw[List.mem_singleton]at q;subst q;exact x1
        ·by_cases q:j<l.length
         ·rw[List.getElem?_append_left q]at hj;exact l3 j y hj
         ·rw[List.getElem?_append_right oA]at hj
          have:j=k:=by
           by_cases q2:j-l.length=0
           ·omega
           ·rw[List.getElem?_eq_none oE]at hj;cases hj
          subst this;rw[l1,Nat.sub_self]at hj;cases hj
          exact x2
        ·rw[List.take_succ_eq_append_getElem hx,List.map_append,List.map_append,B.app,List.sum_append];simp only[List.map_cons,List.map_nil,B.cons,B.nil,List.sum_cons,List.sum_nil];omega
      obtain⟨l,l1,l2,l3,l4⟩:=lst len (wF _);refine⟨l,⟨by show l.length<=maxLen;omega,l2⟩,⟨⟨some ad,cap,by rw[← l1],oA,?_⟩,trivial⟩,?_⟩
      rotate_left
      ·rw[List.take_of_length_le oA]at l4
       rw[B.sl];show(l.map a.bk).sum+1<=_;omega
      by_cases q:l=[]
      ·exact .inl q
      ·obtain⟨_,_,_,hs,_⟩:=each 0 (by have:=List.length_pos_iff.2 q;omega)
       refine .inr ⟨ad.block,ad.off,?_,l3⟩;cases ad;simp at hs;subst hs;rfl
    ·cases ht
def zqk(B:uv H){r:Reach}{bb n:Nat}{τ:Ty}{t:TypeId}{v:Value}{d:DataW H}{ps:List MemPlace}(ht:di P n τ t=true)(hv:Value.okWide P w r bb t v)(h:DataW.Trod enc P w base spare held t v d ps) :
  ∃x:τ.den,τ.bd x/\aj (τ.av x) (Gw w) v/\τ.bk x<=B.b d:=by
 obtain⟨m,hm⟩:=h;obtain⟨x,hb,hr,hk⟩:=zql B m n τ t _ _ ht hm;refine⟨x,hb,?_,hk⟩
 cases n with
 |zero=>simp[di]at ht|succ n=>
  cases τ with
  |int k=>obtain⟨_,rfl⟩:=okWide_int (zfh ht) hv;exact hr.1
  |byte=>obtain⟨_,rfl⟩:=okWide_int (zfg ht) hv;exact hr.1
  |bool=>obtain⟨_,rfl⟩:=okWide_bool (zff ht) hv;exact hr.1
  |str=>obtain⟨_,rfl⟩:=okWide_string (zfi ht) hv;exact hr.1
  |unit=>simp[di]at ht|tree a=>
   unfold di at ht;split at ht
   ·rename_i fs hu;obtain⟨cs,rfl,_⟩:=okWide_struct hu hv;exact⟨cs,rfl,hr⟩
   ·cases ht
  |prod a b=>
   unfold di at ht;split at ht
   ·rename_i fs hu;obtain⟨cs,rfl,_⟩:=okWide_struct hu hv;exact⟨cs,rfl,hr⟩
   ·cases ht
  |list a=>
   unfold di at ht;split at ht
   ·rename_i e hu;obtain⟨_,_,_,rfl⟩:=okWide_slice hu hv;exact hr.1
   ·cases ht
end
end Go.Sym
namespace Go.Sym
open Go.ChangeShapes Go.WideShapes Go.ChangeAt Go.RowKit
variable[LC]
def qb9(P:Program)(n:Nat):List Ty->List TypeId->Bool|[],[]=>true|τ::τs,t::ts=>di P n τ t&&qb9 P n τs ts|_,_=>false
def bds:(τs:List Ty)->Pts.den (τs.map .h)->Prop|[],_=>True|τ::τs,x=>τ.bd x.1/\bds τs x.2
section
variable{H:Type}{enc:TypeId×Value->H}{P:Program}{w:World}{base:Nat}{spare:Nat->Bool}{held:Bool}
def bks:(τs:List Ty)->Pts.den (τs.map .h)->Nat|[],_=>0|τ::τs,x=>τ.bk x.1+bks τs x.2
def zcq(B:uv H){r:Reach}{bb n:Nat}:∀(τs:List Ty)(ts:List TypeId)(vs:List Value)(ds:List (DataW H))(ps:List MemPlace),qb9 P n τs ts=true ->
  (∀(j:Nat) t v,ts[j]? = some t->vs[j]? = some v->Value.okWide P w r bb t v)->DataW.TrodAll enc P w base spare held ts vs ds ps ->
  ∃x:Pts.den (τs.map .h),bds τs x/\am (Pts.put (τs.map .h) x) (Gw w) vs/\bks τs x<=B.ba ds
 |[],[],vs,ds,ps,_,_,h=>by
  obtain⟨rfl,rfl,_⟩:=trodAll_nil h;exact⟨(),trivial,trivial,Nat.zero_le _⟩
 |τ::τs,t::ts,vs,ds,ps,h1,h2,h=>by
  obtain⟨v,vs',d,ds',p,q,rfl,rfl,rfl,hd,hr⟩:=trodAll_cons h;simp[qb9,qA]at h1;obtain⟨x,xb,xr,xk⟩:=zqk B h1.1 (h2 0 t v rfl rfl) hd;obtain⟨y,yb,yr,yk⟩:=zcq B τs ts vs' ds' q h1.2 (fun j t v ht hv=>h2 (j+1) t v ht hv) hr
  exact⟨(x,y),⟨xb,yb⟩,⟨xr,yr⟩,by rw[B.cons];show τ.bk x+bks τs y<=_;omega⟩
 |[],_::_,_,_,_,h,_,_=>by simp[qb9]at h|_::_,[],_,_,_,h,_,_=>by simp[qb9]at h
def zer{W W':World}(laid:laidOutB P=true)(hb:Below W.heap.size W W'):∀(ts:List TypeId)(vs:List Value)(ds:List (DataW H))(ps:List MemPlace),
  ts.all (fun t=>P.readableRec t&&decide (t<P.types.size))=true->DataW.TrodAll enc P W 0 (fun _=>true) true ts vs ds ps->DataW.TrodAll enc P W' 0 (fun b=>decide (b<W.heap.size)) true ts vs ds ps
 |[],vs,ds,ps,_,h=>by
  obtain⟨rfl,rfl,rfl⟩:=trodAll_nil h;exact trodAll_mk0
 |t::ts,vs,ds,ps,h1,h=>by
  obtain⟨v,vs',d,ds',p,q,rfl,rfl,rfl,hd,hr⟩:=trodAll_cons h;simp only[List.all_cons,qA,decide_eq_true_eq]at h1;have lt:∀x∈p,x.block<W.heap.size:=by obtain⟨m,hm⟩:=hd;exact DataW.trod_lt m _ _ _ hm
  exact trodAll_cons_mk (Below.trod laid h1.1.1 h1.1.2 hd hb lt) (zer laid hb ts vs' ds' q h1.2 hr)
end
def zu7{P:Program}{f:FuncId}{xs:List AV}(h:ci P f xs [] (.bool true) [])(vs:List Value)(w:World)(ht:LC.tab (Gw w).imm w)(hr:am xs (Gw w) vs) :
  Calls P f vs.toArray w fun e w'=>e = .returned (.bool true)/\Below w.heap.size w w':=by
 refine(h w (Gw w) vs (zil w ht) hr).mono ?_;rintro e w' ⟨v,G,rfl,hfin,hrep⟩
 have hv:v = .bool true:=hrep;subst hv;refine⟨rfl,hfin.bel.os,hfin.bel.tape,hfin.bel.output,hfin.bel.size,fun k hk=>hfin.bel.block k hk ?_⟩
 rintro⟨n,bx,hl,_⟩
 cases hl
def zpi{H:Type}{enc:TypeId×Value->H}{C:Checked}{os:Os}{f:FuncId}{fn:Func}{s:ChangeSpec}{so:OpenSpec}{F:Stop.Interp}{conds:List PathCond}{t:TypeId}{n:Nat}(τs:List Ty)(l:List (String×DataW Unit))(B:uv H)(M:Nat)
  (small:(H:Type)->List (DataW H)->Bool) (hso:so={ OpenSpec.ofChange s with cond:=some small }) (hsm:∀ds:List (DataW H),small H ds=true->B.ba ds<=M)
  (own:ownKnob C.prog.godebug=none) (laid:laidOutB C.prog=true) (started:os.Started) (noInit:C.prog.inits.idxOf? f=none) (hfn:C.prog.funcs[f]? = some fn)
  (witness:∃(w:World)(tape:Tape)(i:Input),w.os=os/\(w.forCall tape i).Shaped C.prog/\i.vars=[]/\Input.okWide C.prog (w.forCall tape i) .any w.heap.size f i /\
   so.preRow enc C.prog fn conds false l (w.forCall tape i).memory i.args/\({}:Assume).holds C.prog (lone (Frame.enter C.prog f i.args .normal) [] (w.forCall tape i)))
  (hvars:s.vars=[]) (hspec:∀ds:List (DataW H),ds.length=fn.params.size->s.fn H ds={ results:=[.lit (.bool true)],args:=ds })
  (htys:qb9 C.prog n τs fn.params.toList=true) (hread:fn.params.toList.all (fun t=>C.prog.readableRec t&&decide (t<C.prog.types.size))=true)
  (hres:fn.resultTypes=#[t]) (hbool:C.prog.underlying t=some .bool)
  (htab:∀W:World,laidMetH C.prog l W->W.ShapedOpen C.prog->LC.tab (Gw W).imm W)
  (hcall:∀x:Pts.den (τs.map .h),bds τs x->bks τs x<=M->ci C.prog f (Pts.put (τs.map .h) x) [] (.bool true) []) :
  ReturnsInHanded {} C os f .any (so.preRow enc C.prog fn conds false l) ((so.at F).post enc C.prog fn false true false false):=by
 subst hso;refine returnsInHanded_of_row own started noInit hfn witness ?_;intro W base args ds gs before hval hW _ hcond _ hlaid hsh _;have hW':=hW;obtain⟨p,q,hA,hV,rfl,_,_⟩:=hW;rw[show({ OpenSpec.ofChange s with cond:=some small }:OpenSpec).vars=[] from hvars]at hV
 obtain⟨rfl,rfl⟩:=trodVars_none hV;have hk:=hsm _ (hcond small rfl);rw[List.append_nil]at hk;have hl:ds.length=fn.params.size:=by
  have key:∀(ts:List TypeId)(vs:List Value)(ds:List (DataW H))(ps:List MemPlace),DataW.TrodAll enc C.prog W 0 (fun _=>true) true ts vs ds ps->ds.length=ts.length:=by
   intro ts
   induction ts with
   |nil=>intro vs ds ps h;obtain⟨_,rfl,_⟩:=trodAll_nil h;rfl
   |cons t ts ih=>
    intro vs ds ps h;obtain⟨v,vs',d,ds',p,q,_,rfl,_,_,hr⟩:=trodAll_cons h;rw[qL,qL,ih _ _ _ hr]
  rw[key _ _ _ _ hA,Array.length_toList]
 obtain⟨x,xb,xr,xk⟩:=zcq B τs fn.params.toList args.toList ds p htys (fun j t v ht hv=>hval j t v (by rw[← Array.getElem?_toList];exact ht) (by rw[← Array.getElem?_toList];exact hv)) hA
 have hc:=zu7 (hcall x xb (Nat.le_trans xk hk)) args.toList W (htab W hlaid hsh) xr;rw[Array.toArray_toList]at hc;refine hc.mono fun e W'⟨he,bel⟩ => ?_
 subst he;refine⟨_,rfl,ds,[],p++[],[],p,[],hW',?_⟩;show DataW.TrodAll _ _ _ _ _ _ _ _ _ _/\_;rw[List.append_nil,show((OpenSpec.at { OpenSpec.ofChange s with cond:=some small } F).fn H ds)=s.fn H ds from rfl,hspec ds hl,hres]
 exact⟨trodAll_mk1 (shut_bool hbool _),zer laid bel _ _ _ _ hread hA,(by rw[show((OpenSpec.at { OpenSpec.ofChange s with cond:=some small } F).vars)=[] from hvars];rfl),bel.frame _,fun h=>by cases h⟩
def ieq(a b:Int):Bool:=decide (a=b)
def qeq:(τ:Ty)->τ.den->DataW Unit->Bool|.int k,x,.lit (.int k' n)=>decide (k'=k)&&ieq n x|.byte,x,.lit (.int k' n)=>decide (k' = .u8)&&ieq n x.toNat|.prod .byte .byte,x,.agg [.lit (.int _ a),.lit (.int _ b)]=>ieq a x.1.toNat&&ieq b x.2.toNat|_,_,_=>false
def qer(τ:Ty):List τ.den->List (DataW Unit)->Bool|[],[]=>true|x::l,d::ds=>qeq τ x d&&qer τ l ds|_,_=>false
def qp8(P:Program)(t:TypeId):Bool:=match P.underlying t with|some (.int .u8)=>Nat.beq (P.cellsOf t) 1|_=>false
def qpk(P:Program)(t:TypeId):Ty->Bool
 |.int k=>match P.underlying t with|some (.int k')=>decide (k'=k)|_=>false
 |.byte=>match P.underlying t with|some (.int .u8)=>true|_=>false
 |.prod .byte .byte=>match P.underlying t with
  |some (.struct fs)=>match fs.toList with|[f,g]=>Nat.beq f.offset 0&&Nat.beq g.offset 1&&qp8 P f.type&&qp8 P g.type&&Nat.beq (P.cellsOf t) 2|_=>false
  |_=>false
 |_=>false
section
variable{P:Program}{w:World}{base:Nat}{sp:Nat->Bool}
def zna{m:Nat}{τ:Ty}{t:TypeId}{cs:List Value}{y:DataW Unit×List MemPlace}{x:τ.den}(ht:qpk P t τ=true)(h:DataW.trod (fun _=>()) P w base sp false m t cs=some y)(hx:qeq τ x y.1=true):am (τ.enc x) (Gw w) cs/\∀v∈cs,v.oneCell'=true:=by
 unfold qpk at ht;split at ht
 ·rename_i k;split at ht
  ·rename_i k' hu;have hk:k'=k:=of_decide_eq_true ht;subst hk;obtain⟨n,rfl,rfl,_⟩:=DataW.trod_int hu h;simp[qeq,ieq,qA,decide_eq_true_eq]at hx;obtain⟨_,rfl⟩:=hx;exact⟨⟨rfl,trivial⟩,fun v hv=>by rw[List.mem_singleton]at hv;subst hv;rfl⟩
  ·cases ht
 ·split at ht
  ·rename_i hu;obtain⟨n,rfl,rfl,_⟩:=DataW.trod_int hu h;simp[qeq,ieq,qA,decide_eq_true_eq]at hx;obtain⟨_,rfl⟩:=hx;exact⟨⟨rfl,trivial⟩,fun v hv=>by rw[List.mem_singleton]at hv;subst hv;rfl⟩
  ·cases ht
 ·split at ht
  ·rename_i fs hu;split at ht
   ·rename_i f g hfs;simp only[qA]at ht;obtain⟨⟨⟨⟨o1,o2⟩,u1⟩,u2⟩,c2⟩:=ht;have o1:=qN o1;have o2:=qN o2;have c2:=qN c2;have key:∀t,qp8 P t=true->P.underlying t=some (.int .u8)/\P.cellsOf t=1:=fun t h=>by
     unfold qp8 at h;split at h
     ·rename_i hu;exact⟨hu,qN h⟩
     ·cases h
    obtain⟨k1,s1⟩:=key _ u1;obtain⟨k2,s2⟩:=key _ u2;obtain⟨xs,n,rfl,rfl,hl,hxl,hg⟩:=DataW.trod_struct hu h;have g0:=hg 0 f (by rw[← Array.getElem?_toList,hfs];rfl)
    have g1:=hg 1 g (by rw[← Array.getElem?_toList,hfs];rfl)
    have hsz:fs.size=2:=by rw[← Array.length_toList,hfs];rfl
    rw[hsz]at hxl;rw[c2]at hl
    match cs,hl with
    |[a,b],_=>
     match xs,hxl with
     |[p,q],_=>
      rw[o1,s1]at g0;rw[o2,s2]at g1;obtain⟨n1,e1,rfl,_⟩:=DataW.trod_int k1 g0;obtain⟨n2,e2,rfl,_⟩:=DataW.trod_int k2 g1;simp at e1;simp at e2;subst e1 e2;simp only[List.map_cons,List.map_nil,qeq,ieq,qA,decide_eq_true_eq]at hx;obtain⟨rfl,rfl⟩:=hx;exact⟨⟨rfl,rfl,trivial⟩,fun v hv=>by
       rcases List.mem_cons.1 hv with rfl|hv
       ·rfl
       ·rw[List.mem_singleton]at hv;subst hv;rfl⟩
   ·cases ht
  ·cases ht
 ·cases ht
def q84{τ:Ty}:∀{l:List τ.den}{ds:List (DataW Unit)},qer τ l ds=true->l.length=ds.length/\∀(j:Nat)(x:τ.den),l[j]? = some x->∃d,ds[j]? = some d/\qeq τ x d=true
 |[],[],_=>⟨rfl,fun j x h=>by simp at h⟩
 |[],_::_,h=>by simp[qer]at h|_::_,[],h=>by simp[qer]at h|y::l,d::ds,h=>by
  simp[qer,qA]at h;obtain⟨i1,i2⟩:=q84 h.2;refine⟨by simp[i1],fun j x hx => ?_⟩
  match j with|0=>simp at hx;subst hx;exact⟨d,rfl,h.1⟩|j+1=>exact i2 j x hx
def qq0(P:Program)(g:Nat)(τ:Ty)(l:List τ.den)(n:Nat)(d:DataW Unit):Bool:=match(P.globals[g]?).map (·.type) with
 |some t=>match P.underlying t,d with|some (.array _m E),.agg ds=>qpk P E τ&&(Nat.beq (P.cellsOf E) τ.sz&&(Nat.beq (P.cellsOf t) n&&qer τ l ds))|_,_=>false
 |none=>false
def zst{g:Nat}{τ:Ty}{l:List τ.den}{n:Nat}{d:DataW Unit}(h:qq0 P g τ l n d=true){t:TypeId}{cs:Array Value}{fuel:Nat}{p:List MemPlace}(ht:(P.globals[g]?).map (·.type)=some t)
  (hc:∃u fr,w.heap[g]? = some (.cells cs u fr)) (hd:DataW.trod (fun _=>()) P w base sp false fuel t cs.toList=some (d,p)) :
  cs.size=n/\∀(j:Nat)(x:τ.den),l[j]? = some x->τ.At (Gw w).imm x g (j*τ.sz):=by
 unfold qq0 at h;rw[ht]at h;simp only at h;split at h
 ·rename_i m E ds hu;simp only[qA]at h;obtain⟨h1,h2,h3,h4⟩:=h;have h2:=qN h2;have h3:=qN h3;obtain⟨xs,m',rfl,e,hl,hxl,hg⟩:=DataW.trod_array hu hd;simp at e;obtain⟨rfl,rfl⟩:=e;obtain⟨dl,dg⟩:=q84 h4;refine⟨by rw[← Array.length_toList,hl,h3],fun j x hx => ?_⟩
  obtain⟨d,hd1,hd2⟩:=dg j x hx;rw[List.getElem?_map]at hd1;obtain⟨y,hy,rfl⟩:=Option.map_eq_some_iff.1 hd1;have hj:j<m:=by rw[← hxl];exact(List.getElem?_eq_some_iff.1 hy).1
  have:=hg j hj;rw[hy]at this;obtain⟨r1,r2⟩:=zna h1 this hd2;refine ry.1 (am.cells _ _ _ r1 r2 fun i v hv => ?_)
  rw[h2,List.getElem?_take]at hv;split at hv
  ·rw[List.getElem?_drop]at hv;obtain⟨u,fr,hh⟩:=hc;simp[World.cell?,hh];rw[← Array.getElem?_toList];exact hv
  ·cases hv
 ·cases h
def qz2{laid:List (String×DataW Unit)}{n:String}{d:DataW Unit}:∀{l:List (String×DataW Unit)}{ps:List MemPlace},DataW.LaidVars P w l ps->(n,d)∈l ->
  ∃g t cs fuel p,P.globalNamed n=some g/\(P.globals[g]?).map (·.type)=some t/\(∃u fr,w.heap[g]? = some (.cells cs u fr))/\DataW.trod (fun _=>()) P w 0 (fun _=>true) false fuel t cs.toList=some (d,p)
 |[],_,_,h=>by cases h
 |(n',d')::r,ps,hl,h=>by
  obtain⟨g,t,cs,fuel,p,q,h1,h2,h3,h4,h5,_⟩:=hl;rcases List.mem_cons.1 h with e|h
  ·simp at e;obtain⟨rfl,rfl⟩:=e;refine⟨g,t,cs,fuel,p,h1,h2,?_,h4⟩;unfold World.var? at h3;rw[h1,qB]at h3;split at h3
   ·rename_i c u fr hh;have:=qJ h3;subst this;exact⟨u,fr,hh⟩
   ·cases h3
  ·exact qz2 (laid:=laid) h5 h
end
def q16(P:Program)(laid:List (String×DataW Unit))(e:Nat×Nat):Bool:=match LC.glob e.1 with
 |some ⟨τ,l⟩=>Nat.blt 0 l.length&&laid.any fun x=>match P.globalNamed x.1 with|some g=>Nat.beq g e.1&&qq0 P e.1 τ l e.2 x.2|none=>false
 |none=>false
def zof(P:Program)(laid:List (String×DataW Unit))(g:Nat):Bool:=laid.any fun x=>match P.globalNamed x.1 with
 | some g'=>Nat.beq g' g&&(match(P.globals[g]?).map (·.type) with
  |some t=>match P.underlying t,x.2 with|some (.interface _),.iface _ _=>true|_,_=>false
  | none=>false)
 |none=>false
def zob{P:Program}{laid:List (String×DataW Unit)}{W:World}(h:laidMetH P laid W)(hh:(laid.all fun x=>x.2.handleName?.isNone)=true)
  (hg:∀g τ l,LC.glob g=some ⟨τ,l⟩->∃n,(g,n)∈LC.sizes) (hs:LC.sizes.all (q16 P laid)=true) (hi:LC.ifs.all (zof P laid)=true) (hn:∀g∈LC.ints,∃k,W.cell? ⟨g,0,none⟩=some (.int .i64 k)):LC.tab (Gw W).imm W:=by
 rw[MakeChecks.laidMetH_plain _ _ _ hh]at h;obtain⟨ps,hl,_⟩:=h;have key:∀e∈LC.sizes,∃τ l,LC.glob e.1=some ⟨τ,l⟩/\0<l.length/\∃(cs:Array Value)(u:TypeId)(fr:Nat×Nat),W.heap[e.1]? = some (.cells cs u fr)/\cs.size=e.2/\∀(j:Nat)(x:τ.den),l[j]? = some x->τ.At (Gw W).imm x e.1 (j*τ.sz):=fun e he=>by
  have h1:=List.all_eq_true.1 hs e he;unfold q16 at h1;split at h1
  ·rename_i τ l hgl;rw[qA]at h1;obtain⟨x,hx,h2⟩:=List.any_eq_true.1 h1.2;split at h2
   ·rename_i g hgn;rw[qA]at h2;have:=qN h2.1;subst this;obtain⟨g',t,cs,fuel,p,k1,k2,⟨u,fr,k3⟩,k4⟩:=qz2 (laid:=laid) hl (n:=x.1) (d:=x.2) hx;rw[hgn]at k1;have:=qJ k1;subst this;obtain⟨r1,r2⟩:=zst h2.2 k2 ⟨u,fr,k3⟩ k4;exact⟨τ,l,hgl,Nat.le_of_ble_eq_true h1.1,cs,u,fr,k3,r1,r2⟩
   ·cases h2
  ·cases h1
 refine⟨fun g τ l hgl j x hx => ?_,fun g hgi => ?_,fun g hgi => ?_,fun e he => ?_⟩
 ·obtain⟨n,hn⟩:=hg g τ l hgl;obtain⟨τ',l',h1,_,cs,u,fr,_,_,h5⟩:=key _ hn;rw[hgl]at h1;cases h1
  exact h5 j x hx
 ·obtain⟨k,hk⟩:=hn g hgi;exact⟨k,qwh hk rfl⟩
 ·have h1:=List.all_eq_true.1 hi g hgi;obtain⟨x,hx,h2⟩:=List.any_eq_true.1 h1;split at h2
  ·rename_i g' hgn;rw[qA]at h2;have:=qN h2.1;subst this;obtain⟨g2,t,cs,fuel,p,k1,k2,⟨u,fr,k3⟩,k4⟩:=qz2 (laid:=laid) hl (n:=x.1) (d:=x.2) hx;rw[hgn]at k1;have:=qJ k1;subst this;have h3:=h2.2;rw[k2]at h3;simp only at h3;split at h3
   ·rename_i ms nm d hu hd;rw[hd]at k4;obtain⟨_,u',v,hcs,_,_⟩:=iface_of_trod hu k4;refine⟨u',v,qwh ?_ rfl⟩;simp[World.cell?,k3];rw[← Array.getElem?_toList,hcs];rfl
   ·cases h3
  ·cases h2
 ·obtain⟨τ,l,h1,h2,cs,u,fr,h3,h4,h5⟩:=key e he;refine⟨?_,cs,u,fr,h3,h4⟩;have h6:=h5 0 l[0] (by simp[h2])
  have:∃o v,(Gw W).imm e.1 o=some v:=by
   have hx:=List.all_eq_true.1 hs e he;unfold q16 at hx;rw[h1]at hx;simp only[qA]at hx;obtain⟨x,_,hx⟩:=List.any_eq_true.1 hx.2;split at hx
   ·rw[qA]at hx;have hx:=hx.2;unfold qq0 at hx;split at hx
    ·split at hx
     ·simp at hx;have hx:=hx.1;unfold qpk at hx;split at hx
      ·exact⟨_,_,h6⟩
      ·exact⟨_,_,h6⟩
      ·exact⟨_,_,h6.1⟩
      ·cases hx
     ·cases hx
    ·cases hx
   ·cases hx
  exact this
section
variable{H:Type}{enc:TypeId×Value->H}
def zvd{C:Checked}{os:Os}{f:FuncId}{fn:Func}{s:OpenSpec}{conds:List PathCond}{apart:Bool}{laid:List (String×DataW Unit)}(modest:Bool)(w0:World)(args:Array Value)(hos:w0.os=os)
  (hsh:(w0.forCall (fun _ _=>0) ⟨#[],args,[]⟩).Shaped C.prog) (hok:Input.okWideB C.prog (w0.forCall (fun _ _=>0) ⟨#[],args,[]⟩) f ⟨#[],args,[]⟩=true)
  (hrow:s.preRow enc C.prog fn conds apart laid (w0.forCall (fun _ _=>0) ⟨#[],args,[]⟩).memory args) :
  ∃(w:World)(tape:Tape)(i:Input),w.os=os/\(w.forCall tape i).Shaped C.prog/\i.vars=[]/\Input.okWide C.prog (w.forCall tape i) .any w.heap.size f i /\
   s.preRow enc C.prog fn conds apart laid (w.forCall tape i).memory i.args/\({ modest:=modest }:Assume).holds C.prog (lone (Frame.enter C.prog f i.args .normal) [] (w.forCall tape i)):=
 ⟨w0,fun _ _=>0,⟨#[],args,[]⟩,hos,hsh,(Input.okWide_of_okWideB (base:=0) hok).1,(Input.okWide_of_okWideB hok).2,hrow,by
  simp;exact⟨oC,oC,fun _=>Modest.zero,oC,oC⟩⟩
end
end Go.Sym
