/- What the claim rests on, part 7: gathered texts. -/
import Derived.WalkKit
import Derived.ProofKit
import Derived.OpenShut
import Derived.ShutString
import Derived.ChangeOld
import Derived.Carry
import Derived.Handed
import Derived.Deep.DeepHandedRow
import Derived.LaidMore
import Derived.Lay
import Derived.LaidHandle
import Derived.MakeChecks
import Derived.LaidLaws
import Derived.Test.YtiidadfafmcdmaaGreatDoorSyA6
namespace Go.Sym
open Go.ChangeShapes Go.WideShapes Go.ChangeAt Go.RowKit
variable [LC]
def Gw (w:World):Gh:=⟨fun b o=>match w.cell? ⟨b,o,none⟩ with|some v=>if v.oneCell'=true then some v else none|none=>none,fun _=>none,fun _=>none⟩
omit [LC] in
theorem zj9 {w:World} {b o:Nat} {v:Value} (h:w.cell? ⟨b,o,none⟩=some v) (h1:v.oneCell'=true):(Gw w).imm b o=some v:=by
 simp only[Gw];rw[h];simp[h1]
theorem zuf (w:World) (ht:LC.tab (Gw w).imm w):Mem (Gw w) [] w:=by
 have key:∀ b o v,(Gw w).imm b o=some v->w.cell? ⟨b,o,none⟩=some v/\v.oneCell'=true:=by
  intro b o v h;simp only[Gw]at h;split at h
  ·rename_i u hu;split at h
   ·rename_i h1;cases h;exact⟨hu,h1⟩
   ·cases h
  ·cases h
 exact⟨fun b o v h=>(key b o v h).1,fun b o v h=>(key b o v h).2,fun n bx h=>(by cases h),fun n m bx bx' b h=>(by cases h),ht⟩
inductive zhj {α:Type} (p:α->Prop):Tree α->Prop
 | mk (a:α) (l:List (Tree α)):p a->l.length<=maxLen->(∀ x∈l,zhj p x)->zhj p (.node a l)
def Ty.bd:(τ:Ty)->τ.den->Prop
 | .int k,n=>(Lit.int k n).wf=true
 | .str,s=>List.length s<=maxLen
 | .prod a b,x=>a.bd x.1/\b.bd x.2
 | .list a,l=>List.length l<=maxLen/\∀ x∈(show List a.den from l),a.bd x
 | .tree a,t=>zhj a.bd t
 | _,_=>True
def q5h (P:Program) (rec:Ty->TypeId->Bool):Ty->List Field->Nat->Bool
 | τ,[f],o=>f.offset==o&&(P.cellsOf f.type==τ.sz&&rec τ f.type)
 | .prod a b,f::fs,o=>f.offset==o&&(P.cellsOf f.type==a.sz&&(rec a f.type&&q5h P rec b fs (o+a.sz)))
 | _,_,_=>false
def slOf (P:Program) (t g:TypeId):Bool:=match P.underlying g with
 | some (.slice e)=>e==t
 | _=>false
def trOk (P:Program) (rec:Ty->TypeId->Bool) (t:TypeId):Ty->List Field->Nat->Bool
 | τ,[f,g],o=>f.offset==o&&(P.cellsOf f.type==τ.sz&&(rec τ f.type&&(g.offset==o+τ.sz&&(P.cellsOf g.type==1&&slOf P t g.type))))
 | .prod a b,f::fs,o=>f.offset==o&&(P.cellsOf f.type==a.sz&&(rec a f.type&&trOk P rec t b fs (o+a.sz)))
 | _,_,_=>false
def tyOk (P:Program):Nat->Ty->TypeId->Bool
 | 0,_,_=>false
 | _+1,.int k,t=>match P.underlying t with|some (.int k')=>decide (k'=k)|_=>false
 | _+1,.byte,t=>match P.underlying t with|some (.int k')=>decide (k' = .u8)|_=>false
 | _+1,.bool,t=>match P.underlying t with|some .bool=>true|_=>false
 | _+1,.str,t=>match P.underlying t with|some .string=>true|_=>false
 | n+1,.list a,t=>match P.underlying t with
  | some (.slice e)=>P.cellsOf e==a.sz&&(decide (0<a.sz)&&tyOk P n a e)
  | _=>false
 | n+1,.prod a b,t=>match P.underlying t with
  | some (.struct fs)=>P.cellsOf t==(Ty.prod a b).sz&&q5h P (tyOk P n) (.prod a b) fs.toList 0
  | _=>false
 | n+1,.tree a,t=>match P.underlying t with
  | some (.struct fs)=>P.cellsOf t==(Ty.tree a).sz&&trOk P (tyOk P n) t a fs.toList 0
  | _=>false
 | _+1,_,_=>false
omit [LC] in
theorem zda {P:Program} {n:Nat} {k:IntKind} {t:TypeId} (h:tyOk P (n+1) (.int k) t=true):P.underlying t=some (.int k):=by
 unfold tyOk at h;split at h
 ·rename_i k' e;rw[e,of_decide_eq_true h]
 ·cases h
omit [LC] in
theorem q8q {P:Program} {n:Nat} {t:TypeId} (h:tyOk P (n+1) .byte t=true):P.underlying t=some (.int .u8):=by
 unfold tyOk at h;split at h
 ·rename_i k' e;rw[e,of_decide_eq_true h]
 ·cases h
omit [LC] in
theorem q75 {P:Program} {n:Nat} {t:TypeId} (h:tyOk P (n+1) .bool t=true):P.underlying t=some .bool:=by
 unfold tyOk at h;split at h
 ·rename_i e;exact e
 ·cases h
omit [LC] in
theorem zcy {P:Program} {n:Nat} {t:TypeId} (h:tyOk P (n+1) .str t=true):P.underlying t=some .string:=by
 unfold tyOk at h;split at h
 ·rename_i e;exact e
 ·cases h
omit [LC] in
theorem Reps.app {G:Gh}:∀ {xs ys:List AV} {us vs:List Value},Reps xs G us->Reps ys G vs->Reps (xs++ys) G (us++vs)
 | [],_,[],_,_,h=>h
 | [],_,_::_,_,h,_=>by simp[Reps]at h
 | _::_,_,[],_,h,_=>by simp[Reps]at h
 | _::_,_,_::_,_,h,k=>⟨h.1,Reps.app h.2 k⟩
omit [LC] in
theorem q6f {G:Gh}:∀ (τ:Ty) (x:τ.den) (cs:List Value),Reps (τ.enc x) G cs->∀ v∈cs,v.oneCell'=true
 | .int k,n,[v],h,u,hu=>by
  rw[List.mem_singleton]at hu;subst hu;have h1:u = .int k n:=h.1;rw[h1];rfl
 | .byte,c,[v],h,u,hu=>by
  rw[List.mem_singleton]at hu;subst hu;have h1:u = .int .u8 (UInt8.toNat c):=h.1;rw[h1];rfl
 | .bool,c,[v],h,u,hu=>by
  rw[List.mem_singleton]at hu;subst hu;have h1:u = .bool c:=h.1;rw[h1];rfl
 | .str,s,[v],h,u,hu=>by
  rw[List.mem_singleton]at hu;subst hu;have h1:u = .string ⟨List.toArray s⟩:=h.1;rw[h1];rfl
 | .list a,l,[v],h,u,hu=>by
  rw[List.mem_singleton]at hu;subst hu;obtain⟨ad,c,rfl,_⟩:SlAt a.sz (a.At G.imm) l u:=h.1;rfl
 | .unit,_,[],_,u,hu=>by cases hu
 | .unit,_,_::_,h,_,_=>by simp[Ty.enc,Reps]at h
 | .prod a b,x,cs,h,u,hu=>by
  have key:∀ (xs ys:List AV) (cs:List Value),Reps (xs++ys) G cs->∃ us vs,cs=us++vs/\Reps xs G us/\Reps ys G vs:=by
   intro xs
   induction xs with
   | nil=>intro ys cs h;exact⟨[],cs,rfl,trivial,h⟩
   | cons x xs ih=>
    intro ys cs h
    cases cs with
    | nil=>simp[Reps]at h
    | cons c cs=>
     obtain⟨us,vs,e,h1,h2⟩:=ih ys cs h.2;exact⟨c::us,vs,by rw[e];rfl,⟨h.1,h1⟩,h2⟩
  obtain⟨us,vs,rfl,h1,h2⟩:=key _ _ _ h;rcases List.mem_append.1 hu with q|q
  ·exact q6f a x.1 us h1 u q
  ·exact q6f b x.2 vs h2 u q
 | .tree a,x,cs,h,u,hu=>by
  have key:∀ (xs ys:List AV) (cs:List Value),Reps (xs++ys) G cs->∃ us vs,cs=us++vs/\Reps xs G us/\Reps ys G vs:=by
   intro xs
   induction xs with
   | nil=>intro ys cs h;exact⟨[],cs,rfl,trivial,h⟩
   | cons x xs ih=>
    intro ys cs h
    cases cs with
    | nil=>simp[Reps]at h
    | cons c cs=>
     obtain⟨us,vs,e,h1,h2⟩:=ih ys cs h.2;exact⟨c::us,vs,by rw[e];rfl,⟨h.1,h1⟩,h2⟩
  obtain⟨us,vs,rfl,h1,h2⟩:=key _ _ _ h;rcases List.mem_append.1 hu with q|q
  ·exact q6f a _ us h1 u q
  ·cases vs with
   | nil=>cases q
   | cons v vs=>
    cases vs with
    | cons v' vs=>simp[Reps]at h2
    | nil=>
     rw[List.mem_singleton]at q;subst q;obtain⟨ad,c,rfl,_⟩:SlAt (Ty.tree a).sz ((Ty.tree a).At G.imm) (Tree.kids x) u:=h2.1;rfl
 | .int _,_,[],h,_,_=>by simp[Ty.enc,Reps]at h
 | .int _,_,_::_::_,h,_,_=>by simp[Ty.enc,Reps]at h
 | .byte,_,[],h,_,_=>by simp[Ty.enc,Reps]at h
 | .byte,_,_::_::_,h,_,_=>by simp[Ty.enc,Reps]at h
 | .bool,_,[],h,_,_=>by simp[Ty.enc,Reps]at h
 | .bool,_,_::_::_,h,_,_=>by simp[Ty.enc,Reps]at h
 | .str,_,[],h,_,_=>by simp[Ty.enc,Reps]at h
 | .str,_,_::_::_,h,_,_=>by simp[Ty.enc,Reps]at h
 | .list _,_,[],h,_,_=>by simp[Ty.enc,Reps]at h
 | .list _,_,_::_::_,h,_,_=>by simp[Ty.enc,Reps]at h
omit [LC] in
theorem Reps.cells {w:World} {b:Nat}:∀ (xs:List AV) (cs:List Value) (o:Nat),Reps xs (Gw w) cs->(∀ v∈cs,v.oneCell'=true)->(∀ (j:Nat) (v:Value),cs[j]? = some v->w.cell? ⟨b,o+j,none⟩=some v)->qap xs (Gw w) b o
 | [],[],_,_,_,_=>trivial
 | [],_::_,_,h,_,_=>by simp[Reps]at h
 | _::_,[],_,h,_,_=>by simp[Reps]at h
 | x::xs,c::cs,o,h,h1,h2=>by
  refine⟨⟨c,zj9 (h2 0 c rfl) (h1 c qH),h.1⟩,Reps.cells xs cs (o+1) h.2 (fun v hv=>h1 v (qE _ hv)) (fun j v hj => ?_)⟩
  have:=h2 (j+1) v hj;rw[show o+1+j=o+(j+1) by omega];exact this
structure Bulk (H:Type) where
 b:DataW H->Nat
 ba:List (DataW H)->Nat
 str:∀ s,b (.lit (.string s))=s.length+1
 lit:∀ l,1<=b (.lit l)
 nilb:b .nil=1
 sl:∀ e r,b (.slice e r)=ba e+ba r+1
 agg:∀ l,b (.agg l)=ba l+1
 nil:ba []=0
 cons:∀ d r,ba (d::r)=b d+ba r
omit [LC] in
theorem Bulk.app {H:Type} (B:Bulk H):∀ (l r:List (DataW H)),B.ba (l++r)=B.ba l+B.ba r
 | [],r=>by rw[List.nil_append,B.nil,wO]
 | d::l,r=>by rw[wK,B.cons,B.cons,B.app l r,Nat.add_assoc]
mutual
def q5b {α:Type} (f:α->Nat):Tree α->Nat
 | .node a l=>f a+q2m f l+2
def q2m {α:Type} (f:α->Nat):List (Tree α)->Nat
 | []=>0
 | t::l=>q5b f t+q2m f l
end
omit [LC] in
theorem q2g {α:Type} (f:α->Nat):∀ l:List (Tree α),q2m f l=(l.map (q5b f)).sum
 | []=>by simp[q2m]
 | t::l=>by rw[q2m,q2g f l,List.map_cons,List.sum_cons]
omit [LC] in
theorem q3v {α:Type} (f:α->Nat) (a:α) (l:List (Tree α)):q5b f (.node a l)=f a+(l.map (q5b f)).sum+2:=by
 rw[← q2g];simp only[q5b]
def Ty.bk:(τ:Ty)->τ.den->Nat
 | .str,s=>List.length s+1
 | .prod a b,x=>a.bk x.1+b.bk x.2
 | .list a,l=>((show List a.den from l).map a.bk).sum+1
 | .unit,_=>0
 | .tree a,t=>q5b a.bk t
 | _,_=>1
section
variable {H:Type} {enc:TypeId×Value->H} {P:Program} {w:World} {base:Nat} {spare:Nat->Bool} {held:Bool}
omit [LC] in
theorem q4w (B:Bulk H) (n m:Nat) (cs:List Value)
  (ih:∀ (τ:Ty) (t:TypeId) (cs:List Value) (y:DataW H×List MemPlace),tyOk P n τ t=true->DataW.trod enc P w base spare held m t cs=some y->∃ x:τ.den,τ.bd x/\Reps (τ.enc x) (Gw w) cs/\τ.bk x<=B.b y.1) :
  ∀ (fs:List Field) (τ:Ty) (o:Nat) (xs:List (DataW H×List MemPlace)),q5h P (tyOk P n) τ fs o=true->xs.length=fs.length->(∀ (i:Nat) (f:Field),fs[i]? = some f->DataW.trod enc P w base spare held m f.type ((cs.drop f.offset).take (P.cellsOf f.type))=xs[i]?) ->
   ∃ x:τ.den,τ.bd x/\Reps (τ.enc x) (Gw w) ((cs.drop o).take τ.sz)/\τ.bk x<=B.ba (xs.map (·.1))
 | [],τ,o,xs,h,_,_=>by cases τ<;>simp[q5h]at h
 | [f],τ,o,xs,h,hl,hf=>by
  have h':(f.offset==o&&(P.cellsOf f.type==τ.sz&&tyOk P n τ f.type))=true:=by cases τ<;>exact h
  simp only[qA,beq_iff_eq]at h'
  match xs,hl with
  | [y],_=>
   have hy:DataW.trod enc P w base spare held m f.type ((cs.drop f.offset).take (P.cellsOf f.type))=some y:=hf 0 f rfl;rw[h'.1,h'.2.1]at hy;obtain⟨x,x1,x2,x3⟩:=ih τ f.type _ y h'.2.2 hy;exact⟨x,x1,x2,by simp only[List.map_cons,List.map_nil,B.cons,B.nil];omega⟩
 | f::g::fs,τ,o,xs,h,hl,hf=>by
  cases τ with
  | prod a b=>
   have h':(f.offset==o&&(P.cellsOf f.type==a.sz&&(tyOk P n a f.type&&q5h P (tyOk P n) b (g::fs) (o+a.sz))))=true:=h;simp only[qA,beq_iff_eq]at h'
   match xs,hl with
   | y::ys,hl=>
    have hy:DataW.trod enc P w base spare held m f.type ((cs.drop f.offset).take (P.cellsOf f.type))=some y:=hf 0 f rfl;rw[h'.1,h'.2.1]at hy;obtain⟨x1,b1,r1,k1⟩:=ih a f.type _ y h'.2.2.1 hy;obtain⟨x2,b2,r2,k2⟩:=q4w B n m cs ih (g::fs) b (o+a.sz) ys h'.2.2.2 (by simpa using hl) (fun i f' hf'=>hf (i+1) f' hf')
    refine⟨(x1,x2),⟨b1,b2⟩,?_,?_⟩
    ·show Reps (a.enc x1++b.enc x2) (Gw w) ((cs.drop o).take (a.sz+b.sz));rw[List.take_add,List.drop_drop];exact Reps.app r1 r2
    ·show a.bk x1+b.bk x2<=_;rw[List.map_cons,B.cons];omega
  | _=>simp[q5h]at h
omit [LC] in
theorem q70 (B:Bulk H) (n m:Nat) (cs:List Value) {vbm:Ty} (t:TypeId)
  (ih:∀ (τ:Ty) (t:TypeId) (cs:List Value) (y:DataW H×List MemPlace),tyOk P n τ t=true->DataW.trod enc P w base spare held m t cs=some y->∃ x:τ.den,τ.bd x/\Reps (τ.enc x) (Gw w) cs/\τ.bk x<=B.b y.1)
  (ihk:∀ (g:TypeId) (cs:List Value) (y:DataW H×List MemPlace),slOf P t g=true->DataW.trod enc P w base spare held m g cs=some y->∃ l:List (Ty.tree vbm).den,(Ty.list (.tree vbm)).bd l/\Reps [.sl (.tree vbm) l] (Gw w) cs/\(l.map (Ty.tree vbm).bk).sum+1<=B.b y.1) :
  ∀ (fs:List Field) (τ:Ty) (o:Nat) (xs:List (DataW H×List MemPlace)),trOk P (tyOk P n) t τ fs o=true->xs.length=fs.length->(∀ (i:Nat) (f:Field),fs[i]? = some f->DataW.trod enc P w base spare held m f.type ((cs.drop f.offset).take (P.cellsOf f.type))=xs[i]?) ->
   ∃ (x:τ.den) (l:List (Ty.tree vbm).den),τ.bd x/\(Ty.list (.tree vbm)).bd l/\Reps (τ.enc x++[.sl (.tree vbm) l]) (Gw w) ((cs.drop o).take (τ.sz+1))/\τ.bk x+((l.map (Ty.tree vbm).bk).sum+1)<=B.ba (xs.map (·.1))
 | [],τ,o,xs,h,_,_=>by cases τ<;>simp[trOk]at h
 | [f],τ,o,xs,h,_,_=>by cases τ<;>simp[trOk]at h
 | [f,g],τ,o,xs,h,hl,hf=>by
  have h':(f.offset==o&&(P.cellsOf f.type==τ.sz&&(tyOk P n τ f.type&&(g.offset==o+τ.sz&&(P.cellsOf g.type==1&&slOf P t g.type)))))=true:=by cases τ<;>exact h
  simp only[qA,beq_iff_eq]at h'
  match xs,hl with
  | [y,z],_=>
   have hy:DataW.trod enc P w base spare held m f.type ((cs.drop f.offset).take (P.cellsOf f.type))=some y:=hf 0 f rfl;have hz:DataW.trod enc P w base spare held m g.type ((cs.drop g.offset).take (P.cellsOf g.type))=some z:=hf 1 g rfl;rw[h'.1,h'.2.1]at hy;rw[h'.2.2.2.1,h'.2.2.2.2.1]at hz;obtain⟨x,x1,x2,x3⟩:=ih τ f.type _ y h'.2.2.1 hy;obtain⟨l,l1,l2,l3⟩:=ihk g.type _ z h'.2.2.2.2.2 hz;refine⟨x,l,x1,l1,?_,by simp only[List.map_cons,List.map_nil,B.cons,B.nil];omega⟩
   rw[List.take_add,List.drop_drop];exact Reps.app x2 l2
 | f::g::k::fs,τ,o,xs,h,hl,hf=>by
  cases τ with
  | prod a b=>
   have h':(f.offset==o&&(P.cellsOf f.type==a.sz&&(tyOk P n a f.type&&trOk P (tyOk P n) t b (g::k::fs) (o+a.sz))))=true:=h;simp only[qA,beq_iff_eq]at h'
   match xs,hl with
   | y::ys,hl=>
    have hy:DataW.trod enc P w base spare held m f.type ((cs.drop f.offset).take (P.cellsOf f.type))=some y:=hf 0 f rfl;rw[h'.1,h'.2.1]at hy;obtain⟨x1,b1,r1,k1⟩:=ih a f.type _ y h'.2.2.1 hy;obtain⟨x2,l,b2,bl,r2,k2⟩:=q70 B n m cs t ih ihk (g::k::fs) b (o+a.sz) ys h'.2.2.2 (by simpa using hl) (fun i f' hf'=>hf (i+1) f' hf')
    refine⟨(x1,x2),l,⟨b1,b2⟩,bl,?_,?_⟩
    ·show Reps ((a.enc x1++b.enc x2)++[.sl (.tree vbm) l]) (Gw w) ((cs.drop o).take ((a.sz+b.sz)+1));rw[qS,Nat.add_assoc,List.take_add,List.drop_drop];exact Reps.app r1 r2
    ·show (a.bk x1+b.bk x2)+_<=_;rw[List.map_cons,B.cons];omega
  | _=>simp[trOk]at h
omit [LC] in
theorem zap (B:Bulk H):∀ (m n:Nat) (τ:Ty) (t:TypeId) (cs:List Value) (y:DataW H×List MemPlace),tyOk P n τ t=true->DataW.trod enc P w base spare held m t cs=some y->∃ x:τ.den,τ.bd x/\Reps (τ.enc x) (Gw w) cs/\τ.bk x<=B.b y.1:=by
 intro m
 induction m with
 | zero=>intro n τ t cs y _ h;simp[DataW.trod]at h
 | succ m ih=>
  intro n τ t cs y ht h
  cases n with
  | zero=>simp[tyOk]at ht
  | succ n=>
   cases τ with
   | int k=>
    obtain⟨n,rfl,rfl,hw⟩:=DataW.trod_int (zda ht) h;exact⟨n,hw,⟨rfl,trivial⟩,B.lit _⟩
   | byte=>
    obtain⟨n,rfl,rfl,hw⟩:=DataW.trod_int (q8q ht) h;have hb:0<=n/\n<=255:=by simp only[Lit.wf,qA,decide_eq_true_eq]at hw;exact hw
    refine⟨UInt8.ofNat n.toNat,trivial,⟨?_,trivial⟩,B.lit _⟩;show Value.int .u8 n = .int .u8 ((UInt8.ofNat n.toNat).toNat:Int);rw[UInt8.toNat_ofNat',Nat.mod_eq_of_lt (by omega)]
    congr 1;omega
   | bool=>
    obtain⟨b,rfl,rfl⟩:=DataW.trod_bool (q75 ht) h;exact⟨b,trivial,⟨rfl,trivial⟩,B.lit _⟩
   | str=>
    obtain⟨s,rfl,rfl,hs⟩:=DataW.trod_string (zcy ht) h;refine⟨s.data.toList,?_,⟨?_,trivial⟩,Nat.le_of_eq (B.str _).symm⟩
    ·show s.data.toList.length<=maxLen;rw[Array.length_toList];exact hs
    ·show Value.string s = .string ⟨s.data.toList.toArray⟩;simp
   | unit=>simp[tyOk]at ht
   | tree a=>
    have ht0:=ht;unfold tyOk at ht;split at ht
    ·rename_i fs hu;simp only[qA,beq_iff_eq]at ht;obtain⟨xs,n',e1,rfl,vbt,hxl,hg⟩:=DataW.trod_struct hu h;cases e1
     obtain⟨x,l,hb,hbl,hr,hk⟩:=q70 B n m cs t (fun τ t cs y=>ih n τ t cs y) (fun g cs y hg hy=>by
      have hg':tyOk P (n+2) (.list (.tree a)) g=true:=by
       unfold slOf at hg;unfold tyOk;split at hg
       ·rename_i e he;have:e=t:=by simpa using hg
        subst this;simp only[qA,beq_iff_eq,decide_eq_true_eq];exact⟨ht.1,by simp[Ty.sz],ht0⟩
       ·cases hg
      exact ih (n+2) (.list (.tree a)) g cs y hg' hy) fs.toList a 0 xs ht.2 (by rw[hxl,Array.length_toList]) (fun i f hf=>hg i f (by rw[← Array.getElem?_toList];exact hf))
     refine⟨.node x l,.mk x l hb hbl.1 hbl.2,?_,?_⟩
     ·rw[List.drop_zero,List.take_of_length_le (by rw[vbt,ht.1];exact wF _)]at hr
      exact hr
     ·rw[B.agg];have e:(Ty.tree a).bk (.node x l)=a.bk x+(l.map (Ty.tree a).bk).sum+2:=q3v a.bk x l;omega
    ·cases ht
   | prod a b=>
    unfold tyOk at ht;split at ht
    ·rename_i fs hu;simp only[qA,beq_iff_eq]at ht;obtain⟨xs,n',e1,rfl,vbt,hxl,hg⟩:=DataW.trod_struct hu h;cases e1
     obtain⟨x,hb,hr,hk⟩:=q4w B n m cs (fun τ t cs y=>ih n τ t cs y) fs.toList (.prod a b) 0 xs ht.2 (by rw[hxl,Array.length_toList]) (fun i f hf=>hg i f (by rw[← Array.getElem?_toList];exact hf))
     refine⟨x,hb,?_,by rw[B.agg];omega⟩
     rw[List.drop_zero,List.take_of_length_le (by rw[vbt,ht.1];exact wF _)]at hr
     exact hr
    ·cases ht
   | list a=>
    unfold tyOk at ht;split at ht
    ·rename_i e hu;simp only[qA,beq_iff_eq,decide_eq_true_eq]at ht;obtain⟨hsz,hpos,hte⟩:=ht;rcases DataW.trod_slice hu h with ⟨rfl,rfl⟩|⟨ad,len,cap,elems,rest,n',e1,rfl,rfl,_,hlc,hcm,hel,hget,_⟩
     ·exact⟨[],⟨Nat.zero_le _,fun x hx=>by cases hx⟩,⟨⟨none,0,rfl,wF _,.inl rfl⟩,trivial⟩,Nat.le_of_eq (show 0+1=_ by rw[B.nilb])⟩
     ·cases e1
      have each:∀ i,i<len->∃ (x:a.den) (h:i<elems.length),a.bd x/\ad.spot=none/\a.At (Gw w).imm x ad.block (ad.off+i*a.sz)/\a.bk x<=B.b elems[i].1:=by
       intro i hi;have h1:=hget i hi;rw[List.getElem?_eq_getElem (by omega)]at h1
       obtain⟨cs,hc,hc2⟩:=Option.bind_eq_some_iff.1 h1;obtain⟨x,hb,hr,hk⟩:=ih n a e cs _ hte hc2;unfold World.cells? at hc;split at hc
       ·have hl:=mapM_some_length hc;rw[List.length_range,hsz]at hl;have hcell:∀ (j:Nat) (v:Value),cs[j]? = some v->w.cell? ((ad.add (i*P.cellsOf e)).add j)=some v:=by
         intro j v hj;have hj':j<cs.length:=by
          by_cases q:j<cs.length
          ·exact q
          ·rw[List.getElem?_eq_none (by omega)]at hj;cases hj
         have:=mapM_some_get hc j j (by rw[List.getElem?_range (by omega)])
         rw[this,hj]
        have hspot:ad.spot=none:=by
         have g0:=hget 0 (by omega)
         rw[List.getElem?_eq_getElem (by omega)]at g0
         obtain⟨cs0,hc0,_⟩:=Option.bind_eq_some_iff.1 g0;unfold World.cells? at hc0;split at hc0
         ·have hl0:=mapM_some_length hc0;rw[List.length_range,hsz]at hl0;have:=mapM_some_get hc0 0 0 (by rw[List.getElem?_range (by omega)])
          rw[List.getElem?_eq_getElem (by omega)]at this
          simp only[Nat.zero_mul,Addr.add,if_true]at this;unfold World.cell? at this
          cases hs:ad.spot with
          | none=>rfl
          | some q=>
           rw[hs]at this;split at this
           ·simp at this
           ·cases this
         ·cases hc0
        refine⟨x,by omega,hb,hspot,?_,hk⟩
        refine qyg.1 (Reps.cells _ cs _ hr (q6f a x cs hr) (fun j v hj => ?_))
        have:=hcell j v hj;rw[hsz]at this;have ea:(ad.add (i*a.sz)).add j=⟨ad.block,ad.off+i*a.sz+j,none⟩:=by
         obtain⟨b,o,s⟩:=ad;simp only[]at hspot;subst hspot;unfold Addr.add;by_cases q1:i*a.sz=0
         ·by_cases q2:j=0
          ·simp[q1,q2]
          ·simp[q1,q2]
         ·by_cases q2:j=0
          ·simp[q1,q2]
          ·simp[q1,q2]
        rw[ea]at this;exact this
       ·cases hc
      have lst:∀ k,k<=len->∃ l:List a.den,l.length=k/\(∀ x∈l,a.bd x)/\(∀ (j:Nat) (x:a.den),l[j]? = some x->a.At (Gw w).imm x ad.block (ad.off+j*a.sz))/\(l.map a.bk).sum<=B.ba ((elems.take k).map (·.1)):=by
       intro k
       induction k with
       | zero=>intro _;exact⟨[],rfl,fun x hx=>(by cases hx),fun j x hj=>(by simp at hj),by simp⟩
       | succ k ihk=>
        intro hk;obtain⟨l,l1,l2,l3,l4⟩:=ihk (by omega)
        obtain⟨x,hx,x1,_,x2,x3⟩:=each k (by omega)
        refine⟨l++[x],by simp[l1],fun y hy => ?_,fun j y hj => ?_,?_⟩
        ·rcases List.mem_append.1 hy with q|q
         ·exact l2 y q
         ·rw[List.mem_singleton]at q;subst q;exact x1
        ·by_cases q:j<l.length
         ·rw[List.getElem?_append_left q]at hj;exact l3 j y hj
         ·rw[List.getElem?_append_right (by omega)]at hj
          have:j=k:=by
           by_cases q2:j-l.length=0
           ·omega
           ·rw[List.getElem?_eq_none (by simp;omega)]at hj;cases hj
          subst this;rw[l1,Nat.sub_self]at hj;cases hj
          exact x2
        ·rw[List.take_succ_eq_append_getElem hx,List.map_append,List.map_append,B.app,List.sum_append];simp only[List.map_cons,List.map_nil,B.cons,B.nil,List.sum_cons,List.sum_nil];omega
      obtain⟨l,l1,l2,l3,l4⟩:=lst len (wF _);refine⟨l,⟨by show l.length<=maxLen;omega,l2⟩,⟨⟨some ad,cap,by rw[← l1],by omega,?_⟩,trivial⟩,?_⟩
      rotate_left
      ·rw[List.take_of_length_le (by omega)]at l4
       rw[B.sl];show (l.map a.bk).sum+1<=_;omega
      by_cases q:l=[]
      ·exact .inl q
      ·obtain⟨_,_,_,hs,_⟩:=each 0 (by have:=List.length_pos_iff.2 q;omega)
       refine .inr ⟨ad.block,ad.off,?_,l3⟩;cases ad;simp only[]at hs;subst hs;rfl
    ·cases ht
omit [LC] in
theorem zgh (B:Bulk H) {r:Reach} {bb n:Nat} {τ:Ty} {t:TypeId} {v:Value} {d:DataW H} {ps:List MemPlace} (ht:tyOk P n τ t=true) (hv:Value.okWide P w r bb t v) (h:DataW.Trod enc P w base spare held t v d ps) :
  ∃ x:τ.den,τ.bd x/\Rep (τ.av x) (Gw w) v/\τ.bk x<=B.b d:=by
 obtain⟨m,hm⟩:=h;obtain⟨x,hb,hr,hk⟩:=zap B m n τ t _ _ ht hm;refine⟨x,hb,?_,hk⟩
 cases n with
 | zero=>simp[tyOk]at ht
 | succ n=>
  cases τ with
  | int k=>obtain⟨_,rfl⟩:=okWide_int (zda ht) hv;exact hr.1
  | byte=>obtain⟨_,rfl⟩:=okWide_int (q8q ht) hv;exact hr.1
  | bool=>obtain⟨_,rfl⟩:=okWide_bool (q75 ht) hv;exact hr.1
  | str=>obtain⟨_,rfl⟩:=okWide_string (zcy ht) hv;exact hr.1
  | unit=>simp[tyOk]at ht
  | tree a=>
   unfold tyOk at ht;split at ht
   ·rename_i fs hu;obtain⟨cs,rfl,_⟩:=okWide_struct hu hv;exact⟨cs,rfl,hr⟩
   ·cases ht
  | prod a b=>
   unfold tyOk at ht;split at ht
   ·rename_i fs hu;obtain⟨cs,rfl,_⟩:=okWide_struct hu hv;exact⟨cs,rfl,hr⟩
   ·cases ht
  | list a=>
   unfold tyOk at ht;split at ht
   ·rename_i e hu;obtain⟨_,_,_,rfl⟩:=okWide_slice hu hv;exact hr.1
   ·cases ht
end
end Go.Sym
namespace Go.Sym
open Go.ChangeShapes Go.WideShapes Go.ChangeAt Go.RowKit
variable [LC]
def za0 (P:Program) (n:Nat):List Ty->List TypeId->Bool
 | [],[]=>true
 | τ::τs,t::ts=>tyOk P n τ t&&za0 P n τs ts
 | _,_=>false
def bds:(τs:List Ty)->Pts.den (τs.map .h)->Prop
 | [],_=>True
 | τ::τs,x=>τ.bd x.1/\bds τs x.2
mutual
def cnt {H:Type}:DataW H->Nat
 | .lit (.string s)=>s.length+1
 | .slice e r=>cntL e+cntL r+1
 | .agg l=>cntL l+1
 | _=>1
def cntL {H:Type}:List (DataW H)->Nat
 | []=>0
 | d::l=>cnt d+cntL l
end
section
variable {H:Type} {enc:TypeId×Value->H} {P:Program} {w:World} {base:Nat} {spare:Nat->Bool} {held:Bool}
def bks:(τs:List Ty)->Pts.den (τs.map .h)->Nat
 | [],_=>0
 | τ::τs,x=>τ.bk x.1+bks τs x.2
omit [LC] in
theorem q45 (B:Bulk H) {r:Reach} {bb n:Nat}:∀ (τs:List Ty) (ts:List TypeId) (vs:List Value) (ds:List (DataW H)) (ps:List MemPlace),za0 P n τs ts=true ->
  (∀ (j:Nat) t v,ts[j]? = some t->vs[j]? = some v->Value.okWide P w r bb t v)->DataW.TrodAll enc P w base spare held ts vs ds ps ->
  ∃ x:Pts.den (τs.map .h),bds τs x/\Reps (Pts.put (τs.map .h) x) (Gw w) vs/\bks τs x<=B.ba ds
 | [],[],vs,ds,ps,_,_,h=>by
  obtain⟨rfl,rfl,_⟩:=trodAll_nil h;exact⟨(),trivial,trivial,Nat.zero_le _⟩
 | τ::τs,t::ts,vs,ds,ps,h1,h2,h=>by
  obtain⟨v,vs',d,ds',p,q,rfl,rfl,rfl,hd,hr⟩:=trodAll_cons h;simp only[za0,qA]at h1;obtain⟨x,xb,xr,xk⟩:=zgh B h1.1 (h2 0 t v rfl rfl) hd;obtain⟨y,yb,yr,yk⟩:=q45 B τs ts vs' ds' q h1.2 (fun j t v ht hv=>h2 (j+1) t v ht hv) hr
  exact⟨(x,y),⟨xb,yb⟩,⟨xr,yr⟩,by rw[B.cons];show τ.bk x+bks τs y<=_;omega⟩
 | [],_::_,_,_,_,h,_,_=>by simp[za0]at h
 | _::_,[],_,_,_,h,_,_=>by simp[za0]at h
omit [LC] in
theorem q85 {W W':World} (laid:laidOutB P=true) (hb:Below W.heap.size W W'):∀ (ts:List TypeId) (vs:List Value) (ds:List (DataW H)) (ps:List MemPlace),
  ts.all (fun t=>P.readableRec t&&decide (t<P.types.size))=true->DataW.TrodAll enc P W 0 (fun _=>true) true ts vs ds ps->DataW.TrodAll enc P W' 0 (fun b=>decide (b<W.heap.size)) true ts vs ds ps
 | [],vs,ds,ps,_,h=>by
  obtain⟨rfl,rfl,rfl⟩:=trodAll_nil h;exact trodAll_mk0
 | t::ts,vs,ds,ps,h1,h=>by
  obtain⟨v,vs',d,ds',p,q,rfl,rfl,rfl,hd,hr⟩:=trodAll_cons h;simp only[List.all_cons,qA,decide_eq_true_eq]at h1;have lt:∀ x∈p,x.block<W.heap.size:=by obtain⟨m,hm⟩:=hd;exact DataW.trod_lt m _ _ _ hm
  exact trodAll_cons_mk (Below.trod laid h1.1.1 h1.1.2 hd hb lt) (q85 laid hb ts vs' ds' q h1.2 hr)
end
theorem zs2 {P:Program} {f:FuncId} {xs:List AV} (h:qbp P f xs [] (.bool true) []) (vs:List Value) (w:World) (ht:LC.tab (Gw w).imm w) (hr:Reps xs (Gw w) vs) :
  Calls P f vs.toArray w fun e w'=>e = .returned (.bool true)/\Below w.heap.size w w':=by
 refine (h w (Gw w) vs (zuf w ht) hr).mono ?_;rintro e w' ⟨v,G,rfl,hfin,hrep⟩
 have hv:v = .bool true:=hrep;subst hv;refine⟨rfl,hfin.bel.os,hfin.bel.tape,hfin.bel.output,hfin.bel.size,fun k hk=>hfin.bel.block k hk ?_⟩
 rintro⟨n,bx,hl,_⟩
 cases hl
end Go.Sym
namespace Go.Sym
open Go.ChangeShapes Go.WideShapes Go.ChangeAt Go.RowKit
variable [LC]
theorem zr7 {H:Type} {enc:TypeId×Value->H} {C:Checked} {os:Os} {f:FuncId} {fn:Func} {s:ChangeSpec} {so:OpenSpec} {F:Stop.Interp} {conds:List PathCond} {t:TypeId} {n:Nat} (τs:List Ty) (l:List (String×DataW Unit)) (B:Bulk H) (M:Nat)
  (qxf:(H:Type)->List (DataW H)->Bool) (hso:so={ OpenSpec.ofChange s with cond:=some qxf }) (hsm:∀ ds:List (DataW H),qxf H ds=true->B.ba ds<=M)
  (own:ownKnob C.prog.godebug=none) (laid:laidOutB C.prog=true) (started:os.Started) (noInit:C.prog.inits.idxOf? f=none) (hfn:C.prog.funcs[f]? = some fn)
  (witness:∃ (w:World) (tape:Tape) (i:Input),w.os=os/\(w.forCall tape i).Shaped C.prog/\i.vars=[]/\Input.okWide C.prog (w.forCall tape i) .any w.heap.size f i /\
   so.preRow enc C.prog fn conds false l (w.forCall tape i).memory i.args/\({}:Assume).holds C.prog (lone (Frame.enter C.prog f i.args .normal) [] (w.forCall tape i)))
  (hvars:s.vars=[]) (hspec:∀ ds:List (DataW H),ds.length=fn.params.size->s.fn H ds={ results:=[.lit (.bool true)],args:=ds })
  (htys:za0 C.prog n τs fn.params.toList=true) (hread:fn.params.toList.all (fun t=>C.prog.readableRec t&&decide (t<C.prog.types.size))=true)
  (hres:fn.resultTypes=#[t]) (hbool:C.prog.underlying t=some .bool)
  (htab:∀ W:World,laidMetH C.prog l W->W.ShapedOpen C.prog->LC.tab (Gw W).imm W)
  (hcall:∀ x:Pts.den (τs.map .h),bds τs x->bks τs x<=M->qbp C.prog f (Pts.put (τs.map .h) x) [] (.bool true) []) :
  ReturnsInHanded {} C os f .any (so.preRow enc C.prog fn conds false l) ((so.at F).post enc C.prog fn false true false false):=by
 subst hso;refine returnsInHanded_of_row own started noInit hfn witness ?_;intro W base args ds gs before hval hW _ hcond _ hlaid hsh _;have hW':=hW;obtain⟨p,q,hA,hV,rfl,_,_⟩:=hW;rw[show ({ OpenSpec.ofChange s with cond:=some qxf }:OpenSpec).vars=[] from hvars]at hV
 obtain⟨rfl,rfl⟩:=trodVars_none hV;have hk:=hsm _ (hcond qxf rfl);rw[List.append_nil]at hk;have hl:ds.length=fn.params.size:=by
  have key:∀ (ts:List TypeId) (vs:List Value) (ds:List (DataW H)) (ps:List MemPlace),DataW.TrodAll enc C.prog W 0 (fun _=>true) true ts vs ds ps->ds.length=ts.length:=by
   intro ts
   induction ts with
   | nil=>intro vs ds ps h;obtain⟨_,rfl,_⟩:=trodAll_nil h;rfl
   | cons t ts ih=>
    intro vs ds ps h;obtain⟨v,vs',d,ds',p,q,_,rfl,_,_,hr⟩:=trodAll_cons h;rw[qL,qL,ih _ _ _ hr]
  rw[key _ _ _ _ hA,Array.length_toList]
 obtain⟨x,xb,xr,xk⟩:=q45 B τs fn.params.toList args.toList ds p htys (fun j t v ht hv=>hval j t v (by rw[← Array.getElem?_toList];exact ht) (by rw[← Array.getElem?_toList];exact hv)) hA
 have hc:=zs2 (hcall x xb (Nat.le_trans xk hk)) args.toList W (htab W hlaid hsh) xr;rw[Array.toArray_toList]at hc;refine hc.mono fun e W' ⟨he,bel⟩ => ?_
 subst he;refine⟨_,rfl,ds,[],p++[],[],p,[],hW',?_⟩;show DataW.TrodAll _ _ _ _ _ _ _ _ _ _/\_;rw[List.append_nil,show ((OpenSpec.at { OpenSpec.ofChange s with cond:=some qxf } F).fn H ds)=s.fn H ds from rfl,hspec ds hl,hres]
 exact⟨trodAll_mk1 (shut_bool hbool _),q85 laid bel _ _ _ _ hread hA,(by rw[show ((OpenSpec.at { OpenSpec.ofChange s with cond:=some qxf } F).vars)=[] from hvars];rfl),bel.frame _,fun h=>by cases h⟩
end Go.Sym
namespace Go.Sym
theorem zo1 (l:List Fld) (f:Fld->Nat) (hf:∀ x,x.1.length+x.2.length+1<=f x):l.length<=(l.map f).sum/\∀ x∈l,x.1.length+x.2.length<=(l.map f).sum:=by
 induction l with
 | nil=>exact⟨wF _,fun x h=>by cases h⟩
 | cons y l ih=>
  have hy:=hf y;refine⟨by simp only[qL,List.map_cons,List.sum_cons];omega,fun x hx => ?_⟩
  rw[List.map_cons,List.sum_cons];rcases List.mem_cons.1 hx with rfl|hx
  ·omega
  ·have:=ih.2 x hx;omega
theorem q6c:∀ b:List UInt8,(List.map (Ty.byte.bk:Ty.byte.den->Nat) b).sum=b.length
 | []=>rfl
 | c::b=>by
  show 1+(List.map (Ty.byte.bk:Ty.byte.den->Nat) b).sum=b.length+1;rw[q6c b];omega
def za9 (x:Fld):Nat:=(x.1.length+1)+(x.2.length+1)
end Go.Sym
namespace Go.Sym
theorem z30 (l:List Fld) (b:List UInt8) (h:((l.map za9).sum+1)+(b.length+1)<=1048576):SmM (l,b):=by
 obtain⟨h1,h2⟩:=zo1 l za9 (fun x=>by unfold za9;omega)
 refine⟨⟨by simp only;omega,fun x hx => ?_⟩,by simp only;omega⟩
 have:=h2 x hx;omega
theorem z0u (m:List Fld×List UInt8) (h:(Ty.prod (.list (.prod .str .str)) (.list .byte)).bk m<=1048576):SmM m:=by
 obtain⟨l,b⟩:=m;have h:((l.map za9).sum+1)+((List.map (Ty.byte.bk:Ty.byte.den->Nat) b).sum+1)<=1048576:=h;rw[q6c]at h;exact z30 l b h
end Go.Sym
namespace Go.Sym
abbrev TP:Type:=Tree (List (Bs×Bs)×Bs)
abbrev τP:Ty := .prod (.list (.prod .str .str)) (.list .byte)
def tsz (t:TP):Nat:=(Ty.tree τP).bk t
theorem qs3 (x:List (Bs×Bs)×Bs) (l:List TP):tsz (.node x l)=τP.bk x+(l.map tsz).sum+2:=q3v τP.bk x l
theorem qlb (t:TP):Tree.node t.val t.kids=t:=by cases t;rfl
theorem zpi (l:List TP) (k:TP) (h:k∈l):tsz k<=(l.map tsz).sum:=by
 obtain⟨a,b,rfl⟩:=List.append_of_mem h;simp;omega
theorem quc {t k:TP} (h:k∈t.kids):tsz k+2<=tsz t:=by
 cases t with
 | node x l=>
  rw[qs3];have:=zpi l k h;omega
theorem zpx (l:List TP):l.length<=(l.map tsz).sum:=by
 induction l with
 | nil=>simp
 | cons k l ih=>
  have:2<=tsz k:=by cases k;rw[qs3];omega
  simp only[qL,List.map_cons,List.sum_cons];omega
theorem qsz (t:TP):t.kids.length+2<=tsz t:=by
 cases t with
 | node x l=>rw[qs3];have:=zpx l;show l.length+2<=_;omega
theorem q0k (t:TP):2<=tsz t:=by cases t;rw[qs3];omega
theorem zry (t:TP):τP.bk t.val<=tsz t:=by cases t;rw[qs3];show τP.bk _<=_;simp only[Tree.val];omega
def SmT (x:List (Bs×Bs)×Bs):Prop:=SmM x/\x.1.length<=4000000/\(∀ y∈x.1,y.1.length<=4000000/\y.2.length<=4000000)/\x.2.length<=4000000
theorem z1h (x:List (Bs×Bs)×Bs) (h:τP.bk x<=1048576):SmT x:=by
 refine⟨z0u x h,?_⟩;obtain⟨l,b⟩:=x;have h:((l.map za9).sum+1)+((List.map (Ty.byte.bk:Ty.byte.den->Nat) b).sum+1)<=1048576:=h;rw[q6c]at h;obtain⟨h1,h2⟩:=zo1 l za9 (fun x=>by unfold za9;omega)
 exact⟨by simp only;omega,fun y hy=>by have:=h2 y hy;omega,by simp only;omega⟩
def zbt (l:List Fld) (b:Bs):Int:=match typV l with
 | none=>5
 | some m=>if 0<b.length\/lk m.1 mpN=false\/(parB m.2.2 bdN).2=true\/60<=m.2.2.length\/vals l ctN≠[q1d m]\/2000<(q1d m).length then 5 else 0
theorem zll (fu:Nat) (hfu:90000000<=fu) (t:TP) (hs:SmT t.val):qrd fu t=some (zbt t.val.1 t.val.2):=by
 obtain⟨_,h1,h2,h3⟩:=hs;obtain⟨R,g1,g2⟩:=zfh fu hfu t.val.1 h2 h1;unfold qrd zbt;rw[g1,qB];simp only[qlb]
 cases ht:typV t.val.1 with
 | none=>
  rw[ht]at g2;obtain⟨k,rfl⟩:=g2;simp only[sumK];by_cases hb:0<t.val.2.length
  ·rw[qaa (by omega),qbj,qau rfl]
  ·rw[qac (by omega),qek,qbj,qau rfl]
 | some m=>
  rw[ht]at g2;obtain⟨vbs,x,vbr,e1,e2,e3,e4,e5,rfl⟩:=g2;have h0:=q6k ht;have hv:=qzl h0;simp only[sumK];by_cases hb:0<t.val.2.length
  ·rw[qaa (by omega),qbj,qau rfl,qX (.inl hb)]
  rw[qac (by omega),qb2,quq fu hfu _ _ (by have:=hv.1;omega) (by simp),qB,qbj,qlb]
  cases hk:lk m.1 mpN
  ·rw[qek,qX (.inr (.inl rfl))]
  rw[qb2,qq0,q73 fu hfu (m.1,(m.2.1,m.2.2)) bdN (by simp) hv.smD,qB,qW (by simpa using h0),zmu fu hfu (m.1,(m.2.1,m.2.2)) hv.smD,qB,qW (by simpa using h0)]
  rw[show ((m.1,(m.2.1,m.2.2)):Med)=m from rfl]
  simp only;cases hp:(parB m.2.2 bdN).2
  ·rw[qax rfl];by_cases h60:60<=m.2.2.length
   ·rw[qaa (by omega),qX (.inr (.inr (.inr (.inl h60))))]
   rw[qac (by omega)]
   by_cases h4:4000<(q1d m).length
   ·rw[qX h4,qX (by omega)];rfl
   ·have hx:idx t.val.1 (vbs.length:Int)=some x:=by rw[e1];exact qao vbs x vbr
    rw[qW h4];simp only[qp8,qB];rw[qax (by rfl),hx,qB,zop,e2]
    by_cases he:q1d m=x.2
    ·rw[qW (by rw[he];simp),qic]
     by_cases h2k:2000<(q1d m).length
     ·rw[qX (by omega),qX (by omega)]
     ·rw[qW (by omega),qW (by
       rintro (q|q|q|q|q|q)
       ·exact hb q
       ·simp at q
       ·simp at q
       ·exact h60 q
       ·exact q (by rw[he])
       ·exact h2k q)]
    ·rw[qX (by simpa using he),qX (.inr (.inr (.inr (.inr (.inl (by simpa using fun q=>he q.symm))))))]
  ·rw[qau rfl,qX (.inr (.inr (.inl rfl)))]
def q29 (t:TP) (d:Int):Int:=if (qvr t.val.1).1≠0 then (qvr t.val.1).1 else if 0<t.kids.length then zbt t.val.1 t.val.2 else if 12000<t.val.2.length then 1
 else if bs 0 t.val.2≠0 then bs 0 t.val.2 else match bnd t.val.1 with
  | none=>0
  | some b=>if d<8/\0<(zbc t.val.2 b).length then 5 else 0
theorem q72 (fu:Nat) (s:Bs) (h:s.length<fu) (hb:s.length<100000000):qp3 fu s=some (bs 0 s):=by
 unfold qp3;have:=zrs fu fu [] s 0 h (by simpa using hb) (by omega)
 exact this
theorem zl5 (fu:Nat) (hfu:90000000<=fu) (l:List Fld) (b:Bs) (d:Int) (hs:SmT (l,b)):qk3 fu l b d=some (match bnd l with|none=>[]|some bb=>if d<8 then zbc b bb else []):=by
 obtain⟨_,h1,h2,h3⟩:=hs;obtain⟨R,g1,g2⟩:=zba fu hfu l h2 h1;unfold qk3;rw[g1,qB]
 cases hb:bnd l with
 | none=>rw[hb]at g2;simp only at g2;rw[g2,qek]
 | some bb=>
  rw[hb]at g2;simp only at g2;subst g2;rw[qb2,qic];have:=zh3 hb;by_cases hd:d<8
  ·rw[qW (by omega)];simp only[qX hd];rw[q81 fu hfu b bb h3 (by omega)];rfl
  ·rw[qX (by omega)];simp only[qW hd]
theorem zl1 (fu:Nat) (hfu:90000000<=fu) (t:TP) (d:Int) (hs:SmT t.val):qre fu (t,d)=some (q29 t d):=by
 unfold qre q29;rw[zo7 fu hfu _ hs.1.1,qB,qp8,qB,qqb];simp only[qlb];by_cases h0:(qvr t.val.1).1≠0
 ·rw[qX h0,qX h0]
 rw[qW h0,qW h0,qic];by_cases h1:0<t.kids.length
 ·rw[qX (by omega),qX h1,zll fu hfu t hs];rfl
 rw[qW (by omega),qW h1,qic]
 by_cases h2:12000<t.val.2.length
 ·rw[qX (by omega),qX h2]
 rw[qW (by omega),qW h2,q72 fu _ (by omega) (by omega),qB,qqb]
 by_cases h3:bs 0 t.val.2≠0
 ·rw[qX h3,qX h3]
 rw[qW h3,qW h3,zl5 fu hfu t.val.1 t.val.2 d hs,qB]
 cases bnd t.val.1 with
 | none=>rfl
 | some b=>
  simp only;by_cases hd:d<8
  ·simp only[qX hd];rw[qic];by_cases hc:0<(zbc t.val.2 b).length
   ·rw[qX (by omega),qX ⟨hd,hc⟩]
   ·rw[qW (by omega),qW (fun q=>hc q.2)]
  ·simp only[qW hd];rw[qW (fun q=>hd q.1)];rfl
theorem zai (fu:Nat) (hfu:90000000<=fu) (t:TP) (d:Int) (hs:SmT t.val):qq5 fu t d=some (q29 t d):=by
 unfold qq5 q29;rw[zwu fu hfu _ hs.1.1,qB,qqb];simp only[qlb];by_cases h0:(qvr t.val.1).1≠0
 ·rw[qX h0,qX h0]
 rw[qW h0,qW h0,qic];by_cases h1:0<t.kids.length
 ·rw[qX (by omega),qX h1,q9a fu hfu _ hs.1.1,qB]
  unfold zbt
  cases ht:typV t.val.1 with
  | none=>
   simp only;rw[q3b fu hfu ([],([],[])) bdN (by simp) ⟨by simp,by simp⟩,qB,qek,qbi,qau rfl]
  | some m=>
   have h0:=q6k ht;have hv:=qzl h0;simp only;rw[q3b fu hfu m bdN (by simp) hv.smD.2.2,qB,qb2]
   cases hp:(parB m.2.2 bdN).2
   ·rw[qax rfl,qud fu hfu _ _ (by have:=hv.1;omega) (by simp),qB]
    cases hk:lk m.1 mpN
    ·rw[qek,qbi,qau rfl,qX (.inr (.inl rfl))]
    rw[qb2,qic];by_cases hb:0<t.val.2.length
    ·rw[qX (by omega),qbi,qau rfl,qX (.inl hb)]
    rw[qW (by omega),qbi,qic]
    by_cases h60:60<=m.2.2.length
    ·rw[qX (by omega),qX (.inr (.inr (.inr (.inl h60))))]
    rw[qW (by omega),qlb,qqx,zgi fu hfu m hv,qB,qic]
    by_cases h2k:2000<(q1d m).length
    ·rw[qX (by omega),qi5,qau rfl,qX (by omega)]
    rw[qW (by omega),q3j fu hfu _ ctn (by simp) hs.1.1,qB,zke]
    have hv1:∃ v,vals t.val.1 ctN=[v]:=by
     unfold typV at ht;split at ht
     ·rename_i v hv2;exact⟨v,hv2⟩
     ·cases ht
    obtain⟨v,hv1⟩:=hv1;rw[hv1,qaa (by simp),show ([v]:List Bs)[(0:Int).toNat]? = some v from rfl,qB,qi5,zop]
    by_cases he:v=q1d m
    ·rw[qW (by rw[he];simp),qW (by
      rintro (q|q|q|q|q|q)
      ·exact hb q
      ·simp at q
      ·simp at q
      ·exact h60 q
      ·exact q (by rw[he])
      ·exact h2k q)];rfl
    ·rw[qX (by simpa using he),qX (.inr (.inr (.inr (.inr (.inl (by simpa using he))))))]
   ·rw[qau rfl,qbi,qau rfl,qX (.inr (.inr (.inl rfl)))]
 rw[qW (by omega),qW h1,qic]
 have hbl:=hs.2.2.2;by_cases h2:12000<t.val.2.length
 ·rw[qX (by omega),qX h2]
 rw[qW (by omega),qW h2,zmv fu _ (by omega) (by omega),qB,qqb]
 have hbv:(zri (bs 0 t.val.2)).1=bs 0 t.val.2:=by
  rcases zvn t.val.2.length t.val.2 0 (wF _) with h|h|h<;>rw[h]<;>rfl
 rw[hbv];by_cases h3:bs 0 t.val.2≠0
 ·rw[qX h3,qX h3]
 rw[qW h3,qW h3];obtain⟨R,g1,g2⟩:=z06 fu hfu t.val.1 hs.1.1;rw[g1,qB]
 cases hb:bnd t.val.1 with
 | none=>rw[hb]at g2;simp only at g2;rw[g2];rfl
 | some b=>
  rw[hb]at g2;simp only at g2 ⊢;subst g2;have:=zh3 hb;rw[qau rfl,qic];by_cases hd:d<8
  ·rw[qX hd,q5s fu hfu t.val.2 b hbl (by omega),qB,qic]
   by_cases hc:0<(zbc t.val.2 b).length
   ·rw[qX (by omega),qX ⟨hd,hc⟩]
   ·rw[qW (by omega),qW (fun q=>hc q.2)]
  ·rw[qW hd,qW (fun q=>hd q.1)]
def qjg:Nat->TP->Int->List (TP×Int)
 | 0,_,_=>[]
 | n+1,t,d=>(t,d)::t.kids.flatMap fun k=>qjg n k (d+1)
theorem q9k:∀ (n:Nat) (t:TP) (d:Int),(qjg n t d).length<=tsz t:=by
 intro n
 induction n with
 | zero=>intro t d;simp[qjg]
 | succ n ih=>
  intro t d;have key:∀ l:List TP,(l.flatMap fun k=>qjg n k (d+1)).length<=(l.map tsz).sum:=by
   intro l
   induction l with
   | nil=>simp
   | cons k l ih2=>
    have:=ih k (d+1);rw[List.flatMap_cons,qM,List.map_cons,List.sum_cons];omega
  cases t with
  | node x l=>
   have:=key l;rw[qjg,qL,qs3];show (l.flatMap _).length+1<=_;omega
theorem znw:∀ (n:Nat) (t:TP) (d:Int),∀ x∈qjg n t d,tsz x.1<=tsz t:=by
 intro n
 induction n with
 | zero=>intro t d x hx;cases hx
 | succ n ih=>
  intro t d x hx;rw[qjg]at hx;rcases List.mem_cons.1 hx with e|e
  ·rw[e];exact wF _
  ·obtain⟨k,hk,hx2⟩:=List.mem_flatMap.1 e;have:=ih k (d+1) x hx2;have:=quc hk;omega
def gd (t:TP):Prop:=tsz t<=60000000/\∀ n d,∀ x∈qjg n t d,SmT x.1.val
theorem zhs {t:TP} (h:gd t):SmT t.val:=h.2 1 0 (t,0) (by rw[qjg];exact qH)
theorem q46 {t k:TP} (h:gd t) (hk:k∈t.kids):gd k:=⟨by have:=quc hk;have:=h.1;omega,fun n d x hx=>h.2 (n+1) (d-1) x (by
 rw[qjg];refine qE _ (List.mem_flatMap.2 ⟨k,hk,?_⟩);rw[show d-1+1=d by omega];exact hx)⟩
theorem zuo {t:TP} (h:tsz t<=1048576):gd t:=⟨by omega,fun n d x hx=>z1h _ (by have:=znw n t d x hx;have:=zry x.1;omega)⟩
def run1:List (TP×Int)->Nat->Bool->Option (Nat×Bool)
 | [],i,fl=>some (i,fl)
 | x::L,i,fl=>if 40<=i then none else run1 L (i+1) (fl||decide (8<x.2))
theorem zby:∀ (L M:List (TP×Int)) (i:Nat) (fl:Bool),run1 (L++M) i fl=(run1 L i fl).bind fun x=>run1 M x.1 x.2
 | [],_,_,_=>rfl
 | x::L,M,i,fl=>by
  rw[wK,run1,run1];by_cases h:40<=i
  ·rw[qX h,qX h];rfl
  ·rw[qW h,qW h,zby L M]
theorem zf8:∀ (L:List (TP×Int)) (i:Nat) (fl:Bool) (x:Nat×Bool),i<=40->run1 L i fl=some x->x.1<=40
 | [],_,_,_,h,e=>by cases e;exact h
 | y::L,i,fl,x,h,e=>by
  rw[run1]at e;by_cases h4:40<=i
  ·rw[qX h4]at e;cases e
  ·rw[qW h4]at e;exact zf8 L _ _ x (by omega) e
theorem zbk:∀ (L:List (TP×Int)) (i:Nat) (fl:Bool),i<=40->run1 L i fl=if 40<i+L.length then none else some (i+L.length,fl||L.any fun x=>decide (8<x.2))
 | [],i,fl,h=>by rw[run1,qW (by simp;omega)];simp
 | x::L,i,fl,h=>by
  rw[run1];by_cases h4:40<=i
  ·rw[qX h4,qX (by simp only[qL];omega)]
  ·rw[qW h4,zbk L _ _ (by omega)]
   by_cases h5:40<i+1+L.length
   ·rw[qX h5,qX (by simp only[qL];omega)]
   ·rw[qW h5,qW (by simp only[qL];omega),List.any_cons,Bool.or_assoc,qL,Nat.add_assoc,Nat.add_comm 1]
theorem zmi (fu:Nat) (hfu:90000000<=fu) (z:Int×Int):∀ (n:Nat) (t:TP) (d i:Nat) (fl:Bool),tsz t<=n->tsz t+d<=70000000->i<=40 ->
  ∃ R,qeg fu n t (d:Int) (i:Int) z fl=some R/\match run1 (qjg n t (d:Int)) i fl with
   | none=>∃ a b,R = .inl (a,(((2:Int),(-1:Int)),b))
   | some x=>R = .inr ((x.1:Int),(z,x.2)):=by
 intro n
 induction n with
 | zero=>intro t d i fl h;have:=q0k t;omega
 | succ n ih=>
  intro t d i fl hz hd hi;rw[qeg,qjt,ql7,qjg,run1];by_cases h4:40<=i
  ·rw[qaa (by omega),qX h4,qi6];exact⟨_,rfl,_,_,rfl⟩
  rw[qac (by omega),qW h4]
  have hr0:(bif fl then some (.inr (z,true)) else some (.inr (z,decide ((8:Int)<(d:Int)))):Option qsd)=some (.inr (z,fl||decide ((8:Int)<(d:Int)))):=by cases fl<;>rfl
  rw[hr0,qB];simp only[sumK];rw[qai i (by omega)]
  have loop:∀ (m:Nat) (vbs vbr:List TP) (i:Nat) (fl:Bool),t.kids=vbs++vbr->vbr.length<m->i<=40 ->
    ∃ R,qfc (qeg fu n) fu m (d:Int) t.kids (t.kids.length:Int) (vbs.length:Int) (i:Int) z fl=some R/\match run1 (vbr.flatMap fun k=>qjg n k ((d:Int)+1)) i fl with
     | none=>∃ a b,R = .inl (a,(((2:Int),(-1:Int)),b))
     | some x=>R = .inr ((x.1:Int),(z,x.2)):=by
   intro m
   induction m with
   | zero=>intro vbs vbr i fl _ h;exact absurd h (by omega)
   | succ m ihm=>
    intro vbs vbr i fl hk h hi;have vbt:t.kids.length=vbs.length+vbr.length:=by rw[hk];simp
    have hks:=qsz t;rw[qfc,ql8]
    cases vbr with
    | nil=>rw[qac (by simp only[qZ]at vbt;omega)];exact⟨_,rfl,rfl⟩
    | cons k vbr=>
     simp only[qL]at h vbt;have hkm:k∈t.kids:=by rw[hk];simp
     have hx:idx t.kids (vbs.length:Int)=some k:=by rw[hk];exact qao vbs k vbr
     have hkz:=quc hkm;rw[qaa (by omega),hx,qB,qlb,qai d (by omega),List.flatMap_cons,zby]
     obtain⟨R,g1,g2⟩:=ih k (d+1) i fl (by omega) (by omega) hi
     rw[g1,qB];rw[show ((d+1:Nat):Int)=(d:Int)+1 by omega]at g2
     cases hr:run1 (qjg n k ((d:Int)+1)) i fl with
     | none=>
      rw[hr]at g2;obtain⟨a,b,rfl⟩:=g2;exact⟨_,rfl,a,b,rfl⟩
     | some x=>
      rw[hr]at g2;simp only at g2;subst g2;simp only[sumK,qB];rw[qai _ (by omega)]
      have:=ihm (vbs++[k]) vbr x.1 x.2 (by rw[hk];simp) (by omega) (zf8 _ _ _ _ hi hr)
      rw[qM,wD]at this;exact this
  have hks:=qsz t;exact loop fu [] t.kids (i+1) _ rfl (by omega) (by omega)
def run2:List (TP×Int)->Nat->Option (Int×Int)
 | [],_=>none
 | x::L,i=>if q29 x.1 x.2≠0 then some (q29 x.1 x.2,(i:Int)) else run2 L (i+1)
theorem zcp:∀ (L M:List (TP×Int)) (i:Nat),run2 (L++M) i=match run2 L i with|some f=>some f|none=>run2 M (i+L.length)
 | [],_,_=>rfl
 | x::L,M,i=>by
  rw[wK,run2,run2];by_cases h:q29 x.1 x.2≠0
  ·rw[qX h,qX h]
  ·rw[qW h,qW h,zcp L M,qL,Nat.add_assoc,Nat.add_comm 1]
theorem zko (fu:Nat) (hfu:90000000<=fu) (z:Int×Int):∀ (n:Nat) (t:TP) (d i:Nat),tsz t<=n->tsz t+d<=70000000->gd t->i+tsz t<=70000000 ->
  ∃ R,qco fu n t (d:Int) (i:Int) z=some R/\match run2 (qjg n t (d:Int)) i with
   | some f=>∃ a,R = .inl (a,f)
   | none=>R = .inr (((i+(qjg n t (d:Int)).length:Nat):Int),z):=by
 intro n
 induction n with
 | zero=>intro t d i h;have:=q0k t;omega
 | succ n ih=>
  intro t d i hz hd hs hi;have htp:=q0k t;rw[qco,qf6,ql9];rw[show ((t.val.1,t.val.2):List (Bs×Bs)×Bs)=t.val from rfl,qlb,zl1 fu hfu t _ (zhs hs),qB,qjg,run2,qqb]
  by_cases hc:q29 t (d:Int)≠0
  ·rw[qX hc,qX hc,qi6];exact⟨_,rfl,_,rfl⟩
  rw[qW hc,qW hc,qB];simp only[sumK];rw[qai i (by omega)]
  have loop:∀ (m:Nat) (vbs vbr:List TP) (i:Nat),t.kids=vbs++vbr->vbr.length<m->i+(vbr.map tsz).sum<=70000000 ->
    ∃ R,qdi (qco fu n) fu m (d:Int) t.kids (t.kids.length:Int) (vbs.length:Int) (i:Int) z=some R/\match run2 (vbr.flatMap fun k=>qjg n k ((d:Int)+1)) i with
     | some f=>∃ a,R = .inl (a,f)
     | none=>R = .inr (((i+(vbr.flatMap fun k=>qjg n k ((d:Int)+1)).length:Nat):Int),z):=by
   intro m
   induction m with
   | zero=>intro vbs vbr i _ h;exact absurd h (by omega)
   | succ m ihm=>
    intro vbs vbr i hk h hi;have vbt:t.kids.length=vbs.length+vbr.length:=by rw[hk];simp
    have hks:=qsz t;rw[qdi,qjq]
    cases vbr with
    | nil=>rw[qac (by simp only[qZ]at vbt;omega)];exact⟨_,rfl,rfl⟩
    | cons k vbr=>
     simp only[qL]at h vbt;simp only[List.map_cons,List.sum_cons]at hi;have hkm:k∈t.kids:=by rw[hk];simp
     have hx:idx t.kids (vbs.length:Int)=some k:=by rw[hk];exact qao vbs k vbr
     have hkz:=quc hkm;have hfl:=q9k n k ((d:Int)+1);rw[qaa (by omega),hx,qB,qlb,qai d (by omega),List.flatMap_cons,zcp]
     obtain⟨R,g1,g2⟩:=ih k (d+1) i (by omega) (by omega) (q46 hs hkm) (by omega)
     rw[g1,qB];rw[show ((d+1:Nat):Int)=(d:Int)+1 by omega]at g2
     cases hr:run2 (qjg n k ((d:Int)+1)) i with
     | some f=>
      rw[hr]at g2;obtain⟨a,rfl⟩:=g2;exact⟨_,rfl,a,rfl⟩
     | none=>
      rw[hr]at g2;simp only at g2;subst g2;simp only[sumK];rw[qai _ (by omega)]
      have:=ihm (vbs++[k]) vbr (i+(qjg n k ((d:Int)+1)).length) (by rw[hk];simp) (by omega) (by omega)
      rw[qM,wD]at this;rw[qM,← Nat.add_assoc];exact this
  have hks:=qsz t;have hsum:(t.kids.map tsz).sum+2<=tsz t:=by cases t;rw[qs3];show (List.map tsz _).sum+2<=_;simp only[Tree.kids];omega
  obtain⟨R,g1,g2⟩:=loop fu [] t.kids (i+1) rfl (by omega) (by omega)
  refine⟨R,g1,?_⟩;rw[qL,show i+((t.kids.flatMap fun k=>qjg n k ((d:Int)+1)).length+1)=i+1+(t.kids.flatMap fun k=>qjg n k ((d:Int)+1)).length by omega]
  exact g2
def qpv (n:Nat) (t:TP):Int×Int:=if 40<(qjg n t 0).length then (2,-1) else if (qjg n t 0).any (fun x=>decide (8<x.2))=true then (2,-2) else (run2 (qjg n t 0) 0).getD (0,0)
theorem q80 (fu:Nat) (hfu:90000000<=fu) (t:TP) (hs:gd t):qdd fu t=some (qpv fu t):=by
 have hz:=hs.1;unfold qdd qs6;simp only[qlb,qB];obtain⟨R,g1,g2⟩:=zmi fu hfu (0,0) fu t 0 0 false (by omega) (by omega) (by omega)
 rw[show ((0:Nat):Int)=0 from rfl,zbk _ _ _ (by omega),wO]at g2
 rw[show ((0:Nat):Int)=0 from rfl]at g1
 have e1:qpp fu t (0,0) false=R.elim (fun a2=>some (.inl (t,a2.2))) (fun b3=>some (.inr (t,b3.2))):=by
  unfold qpp qva;simp only[qlb];rw[g1,qB];cases R<;>rfl
 rw[e1];unfold qpv;by_cases h4:40<(qjg fu t 0).length
 ·rw[qX h4]at g2;obtain⟨a,b,rfl⟩:=g2;rw[qX h4];rfl
 rw[qW h4]at g2;simp only at g2;subst g2;rw[qW h4];simp only[Sum.elim_inr,qB,sumK,Bool.false_or];cases hany:(qjg fu t 0).any fun x=>decide (8<x.2)
 ·rw[qax rfl,qW (by simp)]
  obtain⟨R2,q1,q2⟩:=zko fu hfu (0,0) fu t 0 0 (by omega) (by omega) hs (by omega)
  rw[show ((0:Nat):Int)=0 from rfl]at q1 q2
  have e2:qkv fu t (0,0)=R2.elim (fun a2=>some (.inl (t,a2.2))) (fun b3=>some (.inr (t,b3.2))):=by
   unfold qkv qr5;simp only[qlb];rw[q1,qB];cases R2<;>rfl
  rw[e2]
  cases hr:run2 (qjg fu t 0) 0 with
  | some f=>
   rw[hr]at q2;obtain⟨a,rfl⟩:=q2;rfl
  | none=>rw[hr]at q2;simp only at q2;subst q2;rfl
 ·rw[qau rfl,qX rfl];rfl
theorem zql (fu:Nat) (hfu:90000000<=fu):∀ (n:Nat) (t:TP) (d:Nat),tsz t<=n->tsz t+d<=70000000->tsz t<=60000000 ->
  qos fu n t (d:Int)=some ((qjg n t (d:Int)).map (·.1),(qjg n t (d:Int)).map (·.2)):=by
 have hrm:=qf1;intro n
 induction n with
 | zero=>intro t d h;have:=q0k t;omega
 | succ n ih=>
  intro t d hz hd hs;rw[qos,qua,qjg];simp only[qlb];have hks:=qsz t;have hsum:(t.kids.map tsz).sum+2<=tsz t:=by cases t;rw[qs3];show (List.map tsz _).sum+2<=_;simp only[Tree.kids];omega
  have loop:∀ (m:Nat) (vbs vbr:List TP) (o:List (TP×Int)),t.kids=vbs++vbr->vbr.length<m->o.length+(vbr.map tsz).sum<=70000000 ->
    qpy (qos fu n) fu m (d:Int) (vbs.length:Int) t (o.map (·.1)) (o.map (·.2))=some ((o++vbr.flatMap fun k=>qjg n k ((d:Int)+1)).map (·.1),(o++vbr.flatMap fun k=>qjg n k ((d:Int)+1)).map (·.2)):=by
   intro m
   induction m with
   | zero=>intro vbs vbr o _ h;exact absurd h (by omega)
   | succ m ihm=>
    intro vbs vbr o hk h ho;have vbt:t.kids.length=vbs.length+vbr.length:=by rw[hk];simp
    rw[qpy,qv4]
    cases vbr with
    | nil=>rw[qac (by simp only[qZ]at vbt;omega)];simp
    | cons k vbr=>
     simp only[qL]at h vbt;simp only[List.map_cons,List.sum_cons]at ho;have hkm:k∈t.kids:=by rw[hk];simp
     have hx:idx t.kids (vbs.length:Int)=some k:=by rw[hk];exact qao vbs k vbr
     have hkz:=quc hkm;have hfl:=q9k n k ((d:Int)+1);rw[qaa (by omega),hx,qB,qlb,qai d (by omega),ih k (d+1) (by omega) (by omega) (by omega),qB,show ((d+1:Nat):Int)=(d:Int)+1 by omega]
     simp only[qlb];rw[qaa (by simp;omega),qaa (by simp;omega),qai _ (by omega),← List.map_append,← List.map_append]
     have:=ihm (vbs++[k]) vbr (o++qjg n k ((d:Int)+1)) (by rw[hk];simp) (by omega) (by rw[qM];omega)
     rw[qM,wD]at this;rw[List.flatMap_cons,← qS];exact this
  have:=loop fu [] t.kids [(t,(d:Int))] rfl (by omega) (by simp;omega)
  exact this
theorem zyb (fu n:Nat) (hfu:90000000<=fu) (L:List (TP×Int)) (hL:L.length<=40) (hs:∀ x∈L,SmT x.1.val) (z:Int×Int):∀ (vbs vbr:List (TP×Int)),L=vbs++vbr->vbr.length<n ->
  qhr fu n (L.map (·.1)) (L.map (·.2)) (vbs.length:Int) z=some ((run2 vbr vbs.length).getD (0,0)):=by
 induction n with
 | zero=>intro vbs vbr _ h;exact absurd h (by omega)
 | succ n ih=>
  intro vbs vbr hp h;have vbt:L.length=vbs.length+vbr.length:=by rw[hp];simp
  rw[qhr,qod]
  cases vbr with
  | nil=>rw[qac (by rw[wC];simp only[qZ]at vbt;omega)];rfl
  | cons x vbr=>
   simp only[qL]at h vbt
   have i1:idx (L.map (·.1)) (vbs.length:Int)=some x.1:=by
    have:=qao (vbs.map (·.1)) x.1 (vbr.map (·.1));rw[wC]at this;rw[hp,List.map_append,List.map_cons];exact this
   have i2:idx (L.map (·.2)) (vbs.length:Int)=some x.2:=by
    have:=qao (vbs.map (·.2)) x.2 (vbr.map (·.2));rw[wC]at this;rw[hp,List.map_append,List.map_cons];exact this
   have hx:=hs x (by rw[hp];simp)
   rw[qaa (by rw[wC];omega),i1,qB,i2,qB,qlb,zai fu hfu x.1 x.2 hx,qB,qqb,run2]
   by_cases hc:q29 x.1 x.2≠0
   ·rw[qX hc,qX hc,qzs];rfl
   ·rw[qW hc,qW hc,qai _ (by omega)]
    have:=ih (vbs++[x]) vbr (by rw[hp];simp) (by omega)
    rw[qM,wD]at this;exact this
theorem zvo (fu n:Nat) (hfu:90000000<=fu) (L:List (TP×Int)) (hL:L.length<=40) (hs:∀ x∈L,SmT x.1.val) (z:Int×Int):∀ (vbs vbr:List (TP×Int)),L=vbs++vbr->vbr.length<n ->
  qh0 fu n (L.map (·.1)) (L.map (·.2)) (vbs.length:Int) z=some (if vbr.any (fun x=>decide (8<x.2))=true then (2,-2) else (run2 L 0).getD (0,0)):=by
 induction n with
 | zero=>intro vbs vbr _ h;exact absurd h (by omega)
 | succ n ih=>
  intro vbs vbr hp h;have vbt:L.length=vbs.length+vbr.length:=by rw[hp];simp
  rw[qh0,qou]
  cases vbr with
  | nil=>
   rw[qac (by rw[wC];simp only[qZ]at vbt;omega)]
   exact zyb fu fu hfu L hL hs z [] L rfl (by omega)
  | cons x vbr=>
   simp only[qL]at h vbt
   have i2:idx (L.map (·.2)) (vbs.length:Int)=some x.2:=by
    have:=qao (vbs.map (·.2)) x.2 (vbr.map (·.2));rw[wC]at this;rw[hp,List.map_append,List.map_cons];exact this
   rw[qaa (by rw[wC];omega),i2,qB,qic,List.any_cons]
   by_cases hc:8<x.2
   ·rw[qX hc,qzs,decide_eq_true hc,Bool.true_or,qX rfl];rfl
   ·rw[qW hc,decide_eq_false hc,Bool.false_or,qai _ (by omega)]
    have:=ih (vbs++[x]) vbr (by rw[hp];simp) (by omega)
    rw[qM,wD]at this;exact this
theorem q04 (fu:Nat) (hfu:90000000<=fu) (t:TP) (hs:gd t):qlr fu t=some (qpv fu t):=by
 unfold qlr q7u qpv;simp only[qlb];have hz:=hs.1;have:=zql fu hfu fu t 0 (by omega) (by omega) hs.1
 rw[show ((0:Nat):Int)=0 from rfl]at this
 rw[this,qB];simp only;rw[qic,wC];by_cases h4:40<(qjg fu t 0).length
 ·rw[qX (by omega),qX h4,qzs];rfl
 ·rw[qW (by omega),qW h4]
  exact zvo fu fu hfu _ (by omega) (fun x hx=>hs.2 fu 0 x hx) (0,0) [] _ rfl (by omega)
end Go.Sym
namespace Go.Sym
theorem z3y:qoj 100000000=some true:=by kernel_rfl
end Go.Sym
namespace Go.Sym
theorem zra (fu:Nat) (hfu:90000000<=fu):∀ (n:Nat) (t:TP),tsz t<=n->gd t->qjf fu n t=some t:=by
 have hrm:=qf1;intro n
 induction n with
 | zero=>intro t h;have:=q0k t;omega
 | succ n ih=>
  intro t hz hs;obtain⟨_,h1,_,h3⟩:=zhs hs;have hgz:=hs.1;rw[qjf,qpj];have c1:qag t.val.1=some t.val.1:=by unfold qag;rw[qaa (by omega)]
  have c2:qag t.val.2=some t.val.2:=by unfold qag;rw[qaa (by omega)]
  rw[c1,qB,c2,qB];have hks:=qsz t;have loop:∀ (m:Nat) (vbs vbr:List TP),t.kids=vbs++vbr->vbr.length<m->qay (qjf fu n) fu m t.kids (t.kids.length:Int) (vbs.length:Int) vbs=some t.kids:=by
   intro m
   induction m with
   | zero=>intro vbs vbr _ h;exact absurd h (by omega)
   | succ m ihm=>
    intro vbs vbr hk h;have vbt:t.kids.length=vbs.length+vbr.length:=by rw[hk];simp
    rw[qay,qci]
    cases vbr with
    | nil=>rw[qac (by simp only[qZ]at vbt;omega),hk];simp
    | cons k vbr=>
     simp only[qL]at h vbt;have hkm:k∈t.kids:=by rw[hk];simp
     have hx:idx t.kids (vbs.length:Int)=some k:=by rw[hk];exact qao vbs k vbr
     have hkz:=quc hkm;rw[qaa (by omega),hx,qB,qlb,ih k (by omega) (q46 hs hkm),qB,qlb,qaa (by simp;omega),qai _ (by omega)]
     have:=ihm (vbs++[k]) vbr (by rw[hk];simp) (by omega)
     rw[qM,wD]at this;exact this
  unfold qdh;rw[show (0:Int)=(([]:List TP).length:Int) from rfl,loop fu [] t.kids rfl (by omega),qB]
  rw[show ((t.val.1,t.val.2):List (Bs×Bs)×Bs)=t.val from rfl,qlb]
theorem zpo (fu:Nat) (hfu:90000000<=fu) (t:TP) (hs:gd t):qwo fu t=some t:=zra fu hfu fu t (by have:=hs.1;omega) hs
theorem zec (fu:Nat) (l:List Fld) (h:l.length<fu) (hb:l.length<100000000):qmw fu l l=some true:=by
 unfold qmw;have:=zsz fu fu [] l h (by simpa using hb)
 rw[qax (by simp)]
 exact this
theorem zat (fu:Nat) (hfu:90000000<=fu):∀ (n:Nat) (t:TP),tsz t<=n->gd t->qhl fu n t t=some true:=by
 intro n
 induction n with
 | zero=>intro t h;have:=q0k t;omega
 | succ n ih=>
  intro t hz hs;obtain⟨_,h1,_,h3⟩:=zhs hs;have hgz:=hs.1;rw[qhl,qnm,zec fu _ (by omega) (by omega),qB,qb2,show qxd t.val.2 t.val.2=some true by unfold qxd;simp,qB,qb2,qiv,qax (by simp),qqn]
  simp only[qlb];have hks:=qsz t;have loop:∀ (m:Nat) (vbs vbr:List TP),t.kids=vbs++vbr->vbr.length<m->qiu (qhl fu n) fu m (vbs.length:Int) t t=some true:=by
   intro m
   induction m with
   | zero=>intro vbs vbr _ h;exact absurd h (by omega)
   | succ m ihm=>
    intro vbs vbr hk h;have vbt:t.kids.length=vbs.length+vbr.length:=by rw[hk];simp
    rw[qiu,qqz]
    cases vbr with
    | nil=>rw[qac (by simp only[qZ]at vbt;omega)]
    | cons k vbr=>
     simp only[qL]at h vbt;have hkm:k∈t.kids:=by rw[hk];simp
     have hx:idx t.kids (vbs.length:Int)=some k:=by rw[hk];exact qao vbs k vbr
     have hkz:=quc hkm;rw[qaa (by omega),hx,qB,qB,qlb,ih k (by omega) (q46 hs hkm),qB,qb2,qai _ (by omega)]
     simp only[qlb];have:=ihm (vbs++[k]) vbr (by rw[hk];simp) (by omega)
     rw[qM,wD]at this;exact this
  exact loop fu [] t.kids rfl (by omega)
theorem zao (fu:Nat) (hfu:90000000<=fu) (t:TP) (hs:gd t):qum fu t t=some true:=zat fu hfu fu t (by have:=hs.1;omega) hs
abbrev emT:TP:=Tree.node ([],[]) []
def walk:TP->List Int->Nat->TP×(Int×Int)
 | t,[],_=>(t,(0,0))
 | t,k::ks,i=>if 0<=k/\k<(t.kids.length:Int) then walk ((t.kids[k.toNat]?).getD emT) ks (i+1) else (emT,(3,(i:Int)))
theorem zhk (t:TP) (k:Int) (h:0<=k/\k<(t.kids.length:Int)):idx t.kids k=some ((t.kids[k.toNat]?).getD emT)/\((t.kids[k.toNat]?).getD emT)∈t.kids:=by
 have hk:k.toNat<t.kids.length:=by omega
 unfold idx;rw[qX h.1];rw[List.getElem?_eq_getElem hk];exact⟨rfl,List.getElem_mem hk⟩
section sec
variable (fu:Nat) (hfu:90000000<=fu) (path:List Int) (hp:path.length<=2000000) (z:Int×Int)
include hfu hp
theorem zp4 (n:Nat):∀ (vbs vbr:List Int) (t:TP),path=vbs++vbr->vbr.length<n->gd t ->
  qcl fu n path (path.length:Int) (vbs.length:Int) t z=some (walk t vbr vbs.length):=by
 induction n with
 | zero=>intro vbs vbr t _ h;exact absurd h (by omega)
 | succ n ih=>
  intro vbs vbr t hq h hs;have vbt:path.length=vbs.length+vbr.length:=by rw[hq];simp
  rw[qcl,qks];simp only[qlb]
  cases vbr with
  | nil=>rw[qac (by simp only[qZ]at vbt;omega),zpo fu hfu t hs,qB,zc1,qB,walk]
  | cons k vbr=>
   simp only[qL]at h vbt;have hx:idx path (vbs.length:Int)=some k:=by rw[hq];exact qao vbs k vbr
   rw[qaa (by omega),hx,qB,qic,walk]
   have hbad:¬ (0<=k/\k<(t.kids.length:Int))->qcp fu (qcl fu n) (vbs.length:Int) k path (path.length:Int) (vbs.length:Int) true t z=some (emT,(3,(vbs.length:Int))):=fun _=>by
    rw[qcp,qau rfl,qi6];rfl
   by_cases h0:k<0
   ·rw[qX h0,qW (by omega),hbad (by omega)]
   ·rw[qW h0];by_cases h1:k<(t.kids.length:Int)
    ·obtain⟨g1,g2⟩:=zhk t k ⟨by omega,h1⟩
     have hkz:=quc g2;rw[decide_eq_false (by omega),qX ⟨by omega,h1⟩,qcp,qax rfl,g1,qB,qlb,qai _ (by omega)]
     have:=ih (vbs++[k]) vbr _ (by rw[hq];simp) (by omega) (q46 hs g2)
     rw[qM,wD]at this;exact this
    ·rw[decide_eq_true (by omega),qW (by omega),hbad (by omega)]
theorem zp3 (n:Nat):∀ (vbs vbr:List Int) (t:TP),path=vbs++vbr->vbr.length<n->gd t ->
  qeu fu n path (vbs.length:Int) t z (0,0)=some (walk t vbr vbs.length):=by
 have _:=hfu
 induction n with
 | zero=>intro vbs vbr t _ h;exact absurd h (by omega)
 | succ n ih=>
  intro vbs vbr t hq h hs;have vbt:path.length=vbs.length+vbr.length:=by rw[hq];simp
  have hks:=qsz t;have hgz:=hs.1;rw[qeu,qk6];simp only[qlb]
  cases vbr with
  | nil=>rw[qac (by simp only[qZ]at vbt;omega),qev,qax rfl,qax (by rfl),walk,qlb]
  | cons k vbr=>
   simp only[qL]at h vbt;have hx:idx path (vbs.length:Int)=some k:=by rw[hq];exact qao vbs k vbr
   rw[qaa (by omega),qev,qau (by rfl),qoz,hx,qB,qjw,qB,walk,qgy (by simp only[qlb];omega) (by simp only[qlb];omega)]
   simp only[qlb];by_cases h1:0<=k/\k<(t.kids.length:Int)
   ·obtain⟨g1,g2⟩:=zhk t k h1;have hkz:=quc g2;rw[decide_eq_true (by omega),qX h1,qb2,qB,g1,qB,qai _ (by omega)]
    have:=ih (vbs++[k]) vbr _ (by rw[hq];simp) (by omega) (q46 hs g2)
    rw[qM,wD]at this;exact this
   ·rw[decide_eq_false (by omega),qW h1,qek,qzs];rfl
end sec
theorem zjj:∀ (L:List (TP×Int)) (i:Nat) (f:Int×Int),run2 L i=some f->f.1≠0/\∃ x∈L,f.1=q29 x.1 x.2
 | [],_,_,h=>by cases h
 | x::L,i,f,h=>by
  rw[run2]at h;by_cases hc:q29 x.1 x.2≠0
  ·rw[qX hc]at h;cases h;exact⟨hc,x,qH,rfl⟩
  ·rw[qW hc]at h;obtain⟨h1,y,h2,h3⟩:=zjj L _ _ h;exact⟨h1,y,qE _ h2,h3⟩
theorem za7 {fu:Nat} {t:TP} (h:(qpv fu t).1=0):qpv fu t=(0,0):=by
 unfold qpv at h ⊢;split at h
 ·cases h
 ·split at h
  ·cases h
  ·rename_i h1 h2;rw[qW h1,qW h2]
   cases hr:run2 (qjg fu t 0) 0 with
   | none=>rfl
   | some f=>rw[hr]at h;exact absurd h (zjj _ _ _ hr).1
theorem q96 (fu:Nat) (hfu:90000000<=fu) (t:TP) (path:List Int) (hs:gd t) (hp:path.length<=2000000):qjv fu t path=some (if (qpv fu t).1≠0 then (emT,qpv fu t) else walk t path 0):=by
 unfold qjv;simp only[qlb];rw[q80 fu hfu t hs,qB,qp8,qB,qqb];by_cases h:(qpv fu t).1≠0
 ·rw[qX h,qX h]
 ·rw[qW h,qW h];exact zp4 fu hfu path hp (0,0) fu [] path t rfl (by omega) hs
theorem zab (fu:Nat) (hfu:90000000<=fu) (t:TP) (path:List Int) (hs:gd t) (hp:path.length<=2000000):qpn fu t path=some (if (qpv fu t).1≠0 then (emT,qpv fu t) else walk t path 0):=by
 unfold qpn;simp only[qlb];rw[q04 fu hfu t hs,qB];by_cases h:(qpv fu t).1≠0
 ·rw[qX h];obtain⟨n,rfl⟩:∃ n,fu=n+1:=⟨fu-1,by omega⟩
  rw[qeu,qk6];have hne:((qpv (n+1) t).1==(0:Int))=false:=by simpa using h
  have hne2:((qpv (n+1) t).1 != (0:Int))=true:=by simpa using h
  rw[hne,qev,qax rfl,hne2,qau rfl];cases decide ((0:Int)<(path.length:Int))<;>rfl
 ·rw[qW h,za7 (by omega)]
  exact zp3 fu hfu path hp (0,0) fu [] path t rfl (by omega) hs
theorem z3k:gd emT:=zuo (by show 4<=_;omega)
theorem zia:∀ (ks:List Int) (t:TP) (i:Nat),gd t->gd (walk t ks i).1
 | [],_,_,h=>h
 | k::ks,t,i,h=>by
  rw[walk];split
  ·rename_i hk;exact zia ks _ _ (q46 h (zhk t k hk).2)
  ·exact z3k
theorem ze4 (t:TP) (path:List Int) (hs:gd t) (hp:path.length<=1048576):qa3 100000000 t path=some true:=by
 unfold qa3;simp only[qlb];rw[z3y,qB,qb2,q80 _ (by omega) t hs,qB,q04 _ (by omega) t hs,qB,qbw,qax (by simp),qde]
 simp only[qlb];rw[q96 _ (by omega) t path hs (by omega),qB,zab _ (by omega) t path hs (by omega),qB,qau (by simp)]
 have hsz:gd (if (qpv 100000000 t).1≠0 then (emT,qpv 100000000 t) else walk t path 0).1:=by
  split
  ·exact z3k
  ·exact zia path t 0 hs
 rw[zao _ (by omega) _ hsz];rfl
theorem zi7:∀ b:List Int,(List.map ((Ty.int .i64).bk:(Ty.int .i64).den->Nat) b).sum=b.length
 | []=>rfl
 | _::b=>by
  have h:=zi7 b;show 1+(List.map ((Ty.int .i64).bk:(Ty.int .i64).den->Nat) b).sum=b.length+1;omega
theorem q58 (x:TP×List Int×Unit) (h:bks [.tree τP,.list (.int .i64)] x<=1048576):qa3 100000000 x.1 x.2.1=some true:=by
 obtain⟨t,l,_⟩:=x;have h:tsz t+(((List.map ((Ty.int .i64).bk:(Ty.int .i64).den->Nat) l).sum+1)+0)<=1048576:=h;rw[zi7]at h;exact ze4 t l (zuo (by omega)) (by omega)
end Go.Sym
namespace Go.Sym
open Go.ChangeShapes Go.WideShapes Go.ChangeAt Go.RowKit
variable [LC]
def ieq (a b:Int):Bool:=decide (a=b)
def zem:(τ:Ty)->τ.den->DataW Unit->Bool
 | .int k,x,.lit (.int k' n)=>decide (k'=k)&&ieq n x
 | .byte,x,.lit (.int k' n)=>decide (k' = .u8)&&ieq n x.toNat
 | .prod .byte .byte,x,.agg [.lit (.int _ a),.lit (.int _ b)]=>ieq a x.1.toNat&&ieq b x.2.toNat
 | _,_,_=>false
def q48 (τ:Ty):List τ.den->List (DataW Unit)->Bool
 | [],[]=>true
 | x::l,d::ds=>zem τ x d&&q48 τ l ds
 | _,_=>false
def isU8 (P:Program) (t:TypeId):Bool:=match P.underlying t with
 | some (.int .u8)=>Nat.beq (P.cellsOf t) 1
 | _=>false
def elOk (P:Program) (t:TypeId):Ty->Bool
 | .int k=>match P.underlying t with
  | some (.int k')=>decide (k'=k)
  | _=>false
 | .byte=>match P.underlying t with
  | some (.int .u8)=>true
  | _=>false
 | .prod .byte .byte=>match P.underlying t with
  | some (.struct fs)=>match fs.toList with
   | [f,g]=>Nat.beq f.offset 0&&Nat.beq g.offset 1&&isU8 P f.type&&isU8 P g.type&&Nat.beq (P.cellsOf t) 2
   | _=>false
  | _=>false
 | _=>false
section
variable {P:Program} {w:World} {base:Nat} {sp:Nat->Bool}
omit [LC] in
theorem vap {m:Nat} {τ:Ty} {t:TypeId} {cs:List Value} {y:DataW Unit×List MemPlace} {x:τ.den} (ht:elOk P t τ=true) (h:DataW.trod (fun _=>()) P w base sp false m t cs=some y) (hx:zem τ x y.1=true):Reps (τ.enc x) (Gw w) cs/\∀ v∈cs,v.oneCell'=true:=by
 unfold elOk at ht;split at ht
 ·rename_i k;split at ht
  ·rename_i k' hu;have hk:k'=k:=of_decide_eq_true ht;subst hk;obtain⟨n,rfl,rfl,_⟩:=DataW.trod_int hu h;simp only[zem,ieq,qA,decide_eq_true_eq]at hx;obtain⟨_,rfl⟩:=hx;exact⟨⟨rfl,trivial⟩,fun v hv=>by rw[List.mem_singleton]at hv;subst hv;rfl⟩
  ·cases ht
 ·split at ht
  ·rename_i hu;obtain⟨n,rfl,rfl,_⟩:=DataW.trod_int hu h;simp only[zem,ieq,qA,decide_eq_true_eq]at hx;obtain⟨_,rfl⟩:=hx;exact⟨⟨rfl,trivial⟩,fun v hv=>by rw[List.mem_singleton]at hv;subst hv;rfl⟩
  ·cases ht
 ·split at ht
  ·rename_i fs hu;split at ht
   ·rename_i f g hfs;simp only[qA]at ht;obtain⟨⟨⟨⟨o1,o2⟩,u1⟩,u2⟩,c2⟩:=ht;have o1:=qN o1;have o2:=qN o2;have c2:=qN c2;have key:∀ t,isU8 P t=true->P.underlying t=some (.int .u8)/\P.cellsOf t=1:=fun t h=>by
     unfold isU8 at h;split at h
     ·rename_i hu;exact⟨hu,qN h⟩
     ·cases h
    obtain⟨k1,s1⟩:=key _ u1;obtain⟨k2,s2⟩:=key _ u2;obtain⟨xs,n,rfl,rfl,hl,hxl,hg⟩:=DataW.trod_struct hu h;have g0:=hg 0 f (by rw[← Array.getElem?_toList,hfs];rfl)
    have g1:=hg 1 g (by rw[← Array.getElem?_toList,hfs];rfl)
    have hsz:fs.size=2:=by rw[← Array.length_toList,hfs];rfl
    rw[hsz]at hxl;rw[c2]at hl
    match cs,hl with
    | [a,b],_=>
     match xs,hxl with
     | [p,q],_=>
      rw[o1,s1]at g0;rw[o2,s2]at g1;obtain⟨n1,e1,rfl,_⟩:=DataW.trod_int k1 g0;obtain⟨n2,e2,rfl,_⟩:=DataW.trod_int k2 g1;simp only[List.drop_zero,List.take_succ_cons,List.take_zero,List.cons.injEq,and_true]at e1;simp only[List.drop_succ_cons,List.drop_zero,List.take_succ_cons,List.take_zero,List.cons.injEq,and_true]at e2;subst e1 e2;simp only[List.map_cons,List.map_nil,zem,ieq,qA,decide_eq_true_eq]at hx;obtain⟨rfl,rfl⟩:=hx;exact⟨⟨rfl,rfl,trivial⟩,fun v hv=>by
       rcases List.mem_cons.1 hv with rfl|hv
       ·rfl
       ·rw[List.mem_singleton]at hv;subst hv;rfl⟩
   ·cases ht
  ·cases ht
 ·cases ht
omit [LC] in
theorem zdc {τ:Ty}:∀ {l:List τ.den} {ds:List (DataW Unit)},q48 τ l ds=true->l.length=ds.length/\∀ (j:Nat) (x:τ.den),l[j]? = some x->∃ d,ds[j]? = some d/\zem τ x d=true
 | [],[],_=>⟨rfl,fun j x h=>by simp at h⟩
 | [],_::_,h=>by simp[q48]at h
 | _::_,[],h=>by simp[q48]at h
 | y::l,d::ds,h=>by
  simp only[q48,qA]at h;obtain⟨i1,i2⟩:=zdc h.2;refine⟨by simp[i1],fun j x hx => ?_⟩
  match j with
  | 0=>simp only[List.getElem?_cons_zero,qI]at hx;subst hx;exact⟨d,rfl,h.1⟩
  | j+1=>exact i2 j x hx
def zc3 (P:Program) (g:Nat) (τ:Ty) (l:List τ.den) (n:Nat) (d:DataW Unit):Bool:=match (P.globals[g]?).map (·.type) with
 | some t=>match P.underlying t,d with
  | some (.array _m E),.agg ds=>elOk P E τ&&(Nat.beq (P.cellsOf E) τ.sz&&(Nat.beq (P.cellsOf t) n&&q48 τ l ds))
  | _,_=>false
 | none=>false
omit [LC] in
theorem zja {g:Nat} {τ:Ty} {l:List τ.den} {n:Nat} {d:DataW Unit} (h:zc3 P g τ l n d=true) {t:TypeId} {cs:Array Value} {fuel:Nat} {p:List MemPlace} (ht:(P.globals[g]?).map (·.type)=some t)
  (hc:∃ u fr,w.heap[g]? = some (.cells cs u fr)) (hd:DataW.trod (fun _=>()) P w base sp false fuel t cs.toList=some (d,p)) :
  cs.size=n/\∀ (j:Nat) (x:τ.den),l[j]? = some x->τ.At (Gw w).imm x g (j*τ.sz):=by
 unfold zc3 at h;rw[ht]at h;simp only at h;split at h
 ·rename_i m E ds hu;simp only[qA]at h;obtain⟨h1,h2,h3,h4⟩:=h;have h2:=qN h2;have h3:=qN h3;obtain⟨xs,m',rfl,e,hl,hxl,hg⟩:=DataW.trod_array hu hd;simp only[qP,DataW.agg.injEq]at e;obtain⟨rfl,rfl⟩:=e;obtain⟨dl,dg⟩:=zdc h4;refine⟨by rw[← Array.length_toList,hl,h3],fun j x hx => ?_⟩
  obtain⟨d,hd1,hd2⟩:=dg j x hx;rw[List.getElem?_map]at hd1;obtain⟨y,hy,rfl⟩:=Option.map_eq_some_iff.1 hd1;have hj:j<m:=by rw[← hxl];exact (List.getElem?_eq_some_iff.1 hy).1
  have:=hg j hj;rw[hy]at this;obtain⟨r1,r2⟩:=vap h1 this hd2;refine qyg.1 (Reps.cells _ _ _ r1 r2 fun i v hv => ?_)
  rw[h2,List.getElem?_take]at hv;split at hv
  ·rw[List.getElem?_drop]at hv;obtain⟨u,fr,hh⟩:=hc;simp only[World.cell?,hh];rw[← Array.getElem?_toList];exact hv
  ·cases hv
 ·cases h
omit [LC] in
theorem za6 {laid:List (String×DataW Unit)} {n:String} {d:DataW Unit}:∀ {l:List (String×DataW Unit)} {ps:List MemPlace},DataW.LaidVars P w l ps->(n,d)∈l ->
  ∃ g t cs fuel p,P.globalNamed n=some g/\(P.globals[g]?).map (·.type)=some t/\(∃ u fr,w.heap[g]? = some (.cells cs u fr))/\DataW.trod (fun _=>()) P w 0 (fun _=>true) false fuel t cs.toList=some (d,p)
 | [],_,_,h=>by cases h
 | (n',d')::r,ps,hl,h=>by
  obtain⟨g,t,cs,fuel,p,q,h1,h2,h3,h4,h5,_⟩:=hl;rcases List.mem_cons.1 h with e|h
  ·simp only[qP]at e;obtain⟨rfl,rfl⟩:=e;refine⟨g,t,cs,fuel,p,h1,h2,?_,h4⟩;unfold World.var? at h3;rw[h1,qB]at h3;split at h3
   ·rename_i c u fr hh;have:=qJ h3;subst this;exact⟨u,fr,hh⟩
   ·cases h3
  ·exact za6 (laid:=laid) h5 h
end
def zi6 (P:Program) (laid:List (String×DataW Unit)) (e:Nat×Nat):Bool:=match LC.glob e.1 with
 | some ⟨τ,l⟩=>Nat.blt 0 l.length&&laid.any fun x=>match P.globalNamed x.1 with
  | some g=>Nat.beq g e.1&&zc3 P e.1 τ l e.2 x.2
  | none=>false
 | none=>false
def z4i (P:Program) (laid:List (String×DataW Unit)) (g:Nat):Bool:=laid.any fun x=>match P.globalNamed x.1 with
 | some g'=>Nat.beq g' g&&(match (P.globals[g]?).map (·.type) with
  | some t=>match P.underlying t,x.2 with
   | some (.interface _),.iface _ _=>true
   | _,_=>false
  | none=>false)
 | none=>false
theorem zso {P:Program} {laid:List (String×DataW Unit)} {W:World} (h:laidMetH P laid W) (hh:(laid.all fun x=>x.2.handleName?.isNone)=true)
  (hg:∀ g τ l,LC.glob g=some ⟨τ,l⟩->∃ n,(g,n)∈LC.sizes) (hs:LC.sizes.all (zi6 P laid)=true) (hi:LC.ifs.all (z4i P laid)=true) (hn:∀ g∈LC.ints,∃ k,W.cell? ⟨g,0,none⟩=some (.int .i64 k)):LC.tab (Gw W).imm W:=by
 rw[MakeChecks.laidMetH_plain _ _ _ hh]at h;obtain⟨ps,hl,_⟩:=h;have key:∀ e∈LC.sizes,∃ τ l,LC.glob e.1=some ⟨τ,l⟩/\0<l.length/\∃ (cs:Array Value) (u:TypeId) (fr:Nat×Nat),W.heap[e.1]? = some (.cells cs u fr)/\cs.size=e.2/\∀ (j:Nat) (x:τ.den),l[j]? = some x->τ.At (Gw W).imm x e.1 (j*τ.sz):=fun e he=>by
  have h1:=List.all_eq_true.1 hs e he;unfold zi6 at h1;split at h1
  ·rename_i τ l hgl;rw[qA]at h1;obtain⟨x,hx,h2⟩:=List.any_eq_true.1 h1.2;split at h2
   ·rename_i g hgn;rw[qA]at h2;have:=qN h2.1;subst this;obtain⟨g',t,cs,fuel,p,k1,k2,⟨u,fr,k3⟩,k4⟩:=za6 (laid:=laid) hl (n:=x.1) (d:=x.2) hx;rw[hgn]at k1;have:=qJ k1;subst this;obtain⟨r1,r2⟩:=zja h2.2 k2 ⟨u,fr,k3⟩ k4;exact⟨τ,l,hgl,Nat.le_of_ble_eq_true h1.1,cs,u,fr,k3,r1,r2⟩
   ·cases h2
  ·cases h1
 refine⟨fun g τ l hgl j x hx => ?_,fun g hgi => ?_,fun g hgi => ?_,fun e he => ?_⟩
 ·obtain⟨n,hn⟩:=hg g τ l hgl;obtain⟨τ',l',h1,_,cs,u,fr,_,_,h5⟩:=key _ hn;rw[hgl]at h1;cases h1
  exact h5 j x hx
 ·obtain⟨k,hk⟩:=hn g hgi;exact⟨k,zj9 hk rfl⟩
 ·have h1:=List.all_eq_true.1 hi g hgi;obtain⟨x,hx,h2⟩:=List.any_eq_true.1 h1;split at h2
  ·rename_i g' hgn;rw[qA]at h2;have:=qN h2.1;subst this;obtain⟨g2,t,cs,fuel,p,k1,k2,⟨u,fr,k3⟩,k4⟩:=za6 (laid:=laid) hl (n:=x.1) (d:=x.2) hx;rw[hgn]at k1;have:=qJ k1;subst this;have h3:=h2.2;rw[k2]at h3;simp only at h3;split at h3
   ·rename_i ms nm d hu hd;rw[hd]at k4;obtain⟨_,u',v,hcs,_,_⟩:=iface_of_trod hu k4;refine⟨u',v,zj9 ?_ rfl⟩;simp only[World.cell?,k3];rw[← Array.getElem?_toList,hcs];rfl
   ·cases h3
  ·cases h2
 ·obtain⟨τ,l,h1,h2,cs,u,fr,h3,h4,h5⟩:=key e he;refine⟨?_,cs,u,fr,h3,h4⟩;have h6:=h5 0 l[0] (by simp[h2])
  have:∃ o v,(Gw W).imm e.1 o=some v:=by
   have hx:=List.all_eq_true.1 hs e he;unfold zi6 at hx;rw[h1]at hx;simp only[qA]at hx;obtain⟨x,_,hx⟩:=List.any_eq_true.1 hx.2;split at hx
   ·rw[qA]at hx;have hx:=hx.2;unfold zc3 at hx;split at hx
    ·split at hx
     ·simp only[qA]at hx;have hx:=hx.1;unfold elOk at hx;split at hx
      ·exact⟨_,_,h6⟩
      ·exact⟨_,_,h6⟩
      ·exact⟨_,_,h6.1⟩
      ·cases hx
     ·cases hx
    ·cases hx
   ·cases hx
  exact this
section
variable {H:Type} {enc:TypeId×Value->H}
omit [LC] in
theorem qzb {C:Checked} {os:Os} {f:FuncId} {fn:Func} {s:OpenSpec} {conds:List PathCond} {apart:Bool} {laid:List (String×DataW Unit)} (modest:Bool) (w0:World) (args:Array Value) (hos:w0.os=os)
  (hsh:(w0.forCall (fun _ _=>0) ⟨#[],args,[]⟩).Shaped C.prog) (hok:Input.okWideB C.prog (w0.forCall (fun _ _=>0) ⟨#[],args,[]⟩) f ⟨#[],args,[]⟩=true)
  (hrow:s.preRow enc C.prog fn conds apart laid (w0.forCall (fun _ _=>0) ⟨#[],args,[]⟩).memory args) :
  ∃ (w:World) (tape:Tape) (i:Input),w.os=os/\(w.forCall tape i).Shaped C.prog/\i.vars=[]/\Input.okWide C.prog (w.forCall tape i) .any w.heap.size f i /\
   s.preRow enc C.prog fn conds apart laid (w.forCall tape i).memory i.args/\({ modest:=modest }:Assume).holds C.prog (lone (Frame.enter C.prog f i.args .normal) [] (w.forCall tape i)):=
 ⟨w0,fun _ _=>0,⟨#[],args,[]⟩,hos,hsh,(Input.okWide_of_okWideB (base:=0) hok).1,(Input.okWide_of_okWideB hok).2,hrow,by
  simp only[Assume.holds];exact⟨by simp,by simp,fun _=>Modest.zero,by simp,by simp⟩⟩
end
end Go.Sym
