/- What the claim rests on, part 5: gathered texts. -/
import Derived.Shelf.Strings.Count
import Derived.Deep.OwnRows
import Derived.Laws.CopyRow
import Derived.Laws.IdiomStrings
import Derived.Deep.LoopGhost
import Derived.Deep.DeepCutAuto
import Derived.Laws.CopyOwn
import Derived.Below
import Derived.Deep.DeepFit
import Derived.Deep.DeepMust
import Derived.Laws.AppendOwn
import Derived.Lib.SlBytesConst
import Derived.Test.YtiidadfafmcdmaaGreatDoorRows
import Derived.Tactics
import Derived.Tactics2
import Derived.Defers
import Derived.Laws.Pointers
import Derived.Laws.LoneSync
import Derived.RegionTactic
import Derived.RegionCalls
import Derived.ChangeAlike
import Derived.Laws.NewBlocks
import Derived.Laws.ByValue
import Derived.Test.YtiidadfafmcdmaaGreatDoorSyB4
namespace Go.Sym
open Go.RowKit
variable [LC]
section
variable {P:Program} {vbr:World} {vbm:Gh} {vbo:List (Nat×Box)} {G:Gh} {s:St} {a:Act} {w:World}
theorem Rel.drewOk (hr:Rel vbr vbm vbo G s a w):Rel vbr vbm vbo G s a w.drew:=
 ⟨hr.defers,hr.size,hr.frame,hr.fresh,⟨⟨hr.fin.mem.agree,hr.fin.mem.one,hr.fin.mem.holds,hr.fin.mem.apart,LC.mono (fun _ _ _ h=>h) (fun _ _ _ _=>rfl) hr.fin.mem.tab⟩,⟨hr.fin.bel.os,hr.fin.bel.tape,hr.fin.bel.output,hr.fin.bel.size,hr.fin.bel.block⟩,hr.fin.imm_le,hr.fin.imm_new,hr.fin.base,hr.fin.keep,hr.fin.keepOwn⟩⟩
omit [LC] in
theorem Reps.setAt {G:Gh} {x:AV} {v:Value} (hx:Rep x G v):∀ {xs:List AV} {vs:List Value} {i:Nat},Reps xs G vs->Reps (xs.set i x) G (vs.set i v)
 | [],[],_,_=>trivial
 | _::_,_::_,0,h=>⟨hx,h.2⟩
 | _::_,_::_,_+1,h=>⟨h.1,Reps.setAt hx h.2⟩
 | [],_::_,_,h=>h.elim
 | _::_,[],_,h=>h.elim
theorem Rel.setCellAt (hr:Rel vbr vbm vbo G s a w) {n B i:Nat} {cs:List AV} {T:TypeId} {x:AV} {v:Value} (hn:look s.hp n=some (.cells cs T)) (hB:G.box n=some B) (hx:Rep x G v) (h1:v.oneCell'=true) :
  Rel vbr vbm vbo G { s with hp:=(n,.cells (cs.set i x) T)::s.hp } a (w.setCell ⟨B,i,none⟩ v):=by
 obtain⟨B',vs,k1,k2,k3,k4,k5⟩:=hr.fin.mem.holds n _ hn;rw[hB]at k1;cases k1;have hheap:(w.setCell ⟨B,i,none⟩ v).heap[B]? = some (.cells (vs.setIfInBounds i v) T (0,0)):=by
  simp[World.setCell,Array.getElem?_modify,k2]
 have hbel:Bel (fun b=>b=B) w (w.setCell ⟨B,i,none⟩ v):=
  ⟨rfl,rfl,rfl,by simp[World.setCell],fun k _ hne=>by
   simp only[World.setCell,Array.getElem?_modify];rw[qW (fun e=>hne e.symm)]⟩
 have hat:∀ cs',G.at n (.cells cs' T)=some B:=fun _=>hB
 refine⟨hr.defers,hr.size,hr.frame,fun m hm hl=>hr.fresh m hm (by
  simp only[look]at hl;cases hb:Nat.beq n m
  ·rw[hb]at hl;exact hl
  ·rw[hb]at hl;cases hl),hr.fin.update hn (hat cs) (hat _) hbel ⟨B,_,hB,hheap,?_,?_,k5⟩ k5⟩
 ·rw[Array.toList_setIfInBounds];exact Reps.setAt hx k3
 ·intro u hu;rw[Array.toList_setIfInBounds]at hu;rcases List.mem_or_eq_of_mem_set hu with hu|hu
  ·exact k4 u hu
  ·rw[hu];exact h1
theorem Rel.cellAt (hr:Rel vbr vbm vbo G s a w) {n B i:Nat} {cs:List AV} {T:TypeId} {x:AV} (hn:look s.hp n=some (.cells cs T)) (hB:G.box n=some B) (hx:cs[i]? = some x) :
  ∃ v,w.cell? ⟨B,i,none⟩=some v/\Rep x G v/\w.frozen? ⟨B,i,none⟩=false:=by
 obtain⟨B',vs,k1,k2,k3,k4,k5⟩:=hr.fin.mem.holds n _ hn;rw[hB]at k1;cases k1;obtain⟨v,v1,v2⟩:=qiq k3 hx;refine⟨v,cell_of_heap k2 v1,v2,?_⟩;simp only[World.frozen?,k2];simp
theorem Rel.start {G:Gh} {hp:List (Nat×Box)} {w:World} {N:NM} (hm:Mem G hp w) (h:∀ n b,look hp n=some b->rho N n=some n/\renB (rho N) b=b) (hN:∀ n,look hp n=none->qa4 N n=none) (k:Nat) :
  Rel w (G.view N) hp (G.view N) { n:=k,fr:=[],hp:=hp,nx:=64,df:=[] } { tmps:=Array.replicate k undef,defers:=[] } w:=by
 refine⟨⟨[],rfl,rfl⟩,by simp,fun i x hx=>(by cases hx),fun m _ hl => ?_,qoc (hm.only h)⟩
 have:=hN m hl;simp[Gh.view,this]
end
end Go.Sym
set_option linter.unusedVariables false
namespace Go.Proofs.Repl
open Go.Shelf Go.RowKit Go.Lib Go.Sym
def rv (a b:UInt8) (ga gb ca cb:Nat) (c:UInt8):Value:=if c=a then .slice (some ⟨ga,0,none⟩) 2 ca else if c=b then .slice (some ⟨gb,0,none⟩) 2 cb else .slice none 0 0
structure qy1 (R:Nat) (a b a1 a2 b1 b2:UInt8) (w:World):Prop where
 ex:∃ ga gb gt ca cb ct,(∀ c:UInt8,w.cell? ⟨R,c.toNat,none⟩=some (rv a b ga gb ca cb c))/\w.cell? ⟨R,256,none⟩=some (.slice (some ⟨gt,0,none⟩) 2 ct) /\
  w.cell? ⟨gt,0,none⟩=some (.string ⟨#[b]⟩)/\w.cell? ⟨gt,1,none⟩=some (.string ⟨#[a]⟩) /\
  w.cell? ⟨ga,0,none⟩=some (.int .u8 a1.toNat)/\w.cell? ⟨ga,1,none⟩=some (.int .u8 a2.toNat)/\w.cell? ⟨gb,0,none⟩=some (.int .u8 b1.toNat)/\w.cell? ⟨gb,1,none⟩=some (.int .u8 b2.toNat)
theorem qy1.below {R:Nat} {a b a1 a2 b1 b2:UInt8} {w w':World} (h:qy1 R a b a1 a2 b1 b2 w) (hb:Below w.heap.size w w'):qy1 R a b a1 a2 b1 b2 w':=by
 have k:∀ {p:Addr} {v:Value},w.cell? p=some v->w'.cell? p=some v:=fun {p v} hc=>(hb.cell (World.block_lt_of_cell? _ _ hc)).trans hc
 obtain⟨ga,gb,gt,ca,cb,ct,h1,h2,h3,h4,h5,h6,h7,h8⟩:=h.ex;exact⟨ga,gb,gt,ca,cb,ct,fun c=>k (h1 c),k h2,k h3,k h4,k h5,k h6,k h7,k h8⟩
theorem zos (s:ByteArray) (c:UInt8) (w:World) :
  Calls Tryz.prog 321 #[.string s,.string ⟨#[c]⟩] w fun e w'=>e = .returned (.int .i64 (Lib.countByte s.data.toList c))/\w'=w:=
 Any.strings_Count_one Tryz.lays138 s c w
theorem zh6 {w:World} {g:Nat} {t:TypeId} {N:Nat} {f:Nat->Value} {cur:Array Value} (hg:w.heap[g]? = some (.cells cur t (0,0))) (hz:cur.size=N) (hc:∀ i,i<N->cur[i]? = some (f i)) {j:Nat} (hj:j+2<=N) (v1 v2:Value) :
  (w.setRow g (cur.toList.take j++[v1,v2]++cur.toList.drop (j+2)).toArray).rowIs g t N (fun i=>if i=j then v1 else if i=j+1 then v2 else f i):=by
 have hl:cur.toList.length=N:=by simpa using hz
 refine⟨_,setRow_heap w g cur _ t _ hg,by simp;omega,fun i hi => ?_⟩
 simp only[List.getElem?_toArray];rw[qS];by_cases h1:i<j
 ·rw[List.getElem?_append_left (by simp;omega),List.getElem?_take,qX h1,qW (by omega),qW (by omega),← hc i hi];simp
 ·rw[List.getElem?_append_right (by simp;omega),show (cur.toList.take j).length=j by simp;omega]
  by_cases h2:i=j
  ·subst h2;simp
  ·by_cases h3:i=j+1
   ·subst h3;rw[qW h2,qX rfl,show j+1-j=1 by omega];rfl
   ·rw[qW h2,qW h3,List.getElem?_append_right (by simp;omega),List.getElem?_drop,← hc i hi]
    simp;congr 1;omega
theorem addP (b o n:Nat):(⟨b,o,none⟩:Addr).add n=⟨b,o+n,none⟩:=by unfold Addr.add;split<;>simp_all
theorem zws {w:World} {G ga j M c:Nat} {f:Nat->Value} {x1 x2:UInt8} (hrow:w.rowIs G 5 M f) (hj:j+2<=M) (h0:w.cell? ⟨ga,0,none⟩=some (.int .u8 x1.toNat)) (h1:w.cell? ⟨ga,1,none⟩=some (.int .u8 x2.toNat)) :
  ∃ ROW,(Builtin.copy_ #[23,23] 3 #[.slice (some ⟨G,j,none⟩) (M-j) (M-j),.slice (some ⟨ga,0,none⟩) 2 c]).run Tryz.prog w = .ok (.int .i64 2) (w.setRow G ROW) /\
   (w.setRow G ROW).rowIs G 5 M (fun i=>if i=j then .int .u8 x1.toNat else if i=j+1 then .int .u8 x2.toNat else f i):=by
 obtain⟨cur,k1,k2,k3⟩:=hrow;refine⟨_,?_,zh6 k1 k2 k3 hj _ _⟩;exact run_copy_row (P:=Tryz.prog) w 23 23 3 5 G j (M-j) (M-j) ⟨ga,0,none⟩ 2 c cur 5 [.int .u8 x1.toNat,.int .u8 x2.toNat] Tryz.underlying23 (by kernel_rfl) k1
  (by show 2=Nat.min 2 (M-j);exact (Nat.min_eq_left (by omega)).symm)
  (fun i v hv=>by
   rw[addP]
   match i,hv with
   | 0,hv=>cases hv;exact h0
   | 1,hv=>cases hv;exact h1
   | i+2,hv=>cases hv)
  (by show j+2<=cur.size;omega) (fun v hv=>by
   rcases List.mem_cons.1 hv with rfl|hv
   ·rfl
   ·rcases List.mem_cons.1 hv with rfl|hv
    ·rfl
    ·cases hv)
def bv (l:Bs) (j:Nat):Value := .int .u8 (l.getD j 0).toNat
theorem zgn (l m:Bs) (j:Nat) (h:j<l.length):bv (l++m) j=bv l j:=by unfold bv;rw[List.getD_eq_getElem?_getD,List.getD_eq_getElem?_getD,List.getElem?_append_left h]
theorem zwz (l m:Bs) (c:UInt8):bv (l++c::m) l.length = .int .u8 c.toNat:=by unfold bv;rw[List.getD_eq_getElem?_getD,List.getElem?_append_right (wF _),Nat.sub_self];rfl
theorem z14 (l m:Bs) (c d:UInt8):bv (l++c::d::m) (l.length+1) = .int .u8 d.toNat:=by unfold bv;rw[List.getD_eq_getElem?_getD,List.getElem?_append_right (by omega),show l.length+1-l.length=1 by omega];rfl
theorem q3b (l:Bs) (j:Nat) (h:l.length<=j):bv l j = .int .u8 0:=by unfold bv;rw[List.getD_eq_getElem?_getD,List.getElem?_eq_none h];rfl
theorem zox (l:Bs) (c d:UInt8) (i:Nat):(if i=l.length then Value.int .u8 c.toNat else if i=l.length+1 then .int .u8 d.toNat else bv l i)=bv (l++[c,d]) i:=by
 by_cases h:i<l.length
 ·rw[qW (by omega),qW (by omega),zgn _ _ _ h]
 ·by_cases h1:i=l.length
  ·subst h1;rw[qX rfl,zwz]
  ·by_cases h2:i=l.length+1
   ·subst h2;rw[qW h1,qX rfl,z14]
   ·rw[qW h1,qW h2,q3b _ _ (by omega),q3b _ _ (by simp;omega)]
theorem zya (l:Bs) (c:UInt8) (i:Nat):(if i=l.length then Value.int .u8 c.toNat else bv l i)=bv (l++[c]) i:=by
 by_cases h:i<l.length
 ·rw[qW (by omega),zgn _ _ _ h]
 ·by_cases h1:i=l.length
  ·subst h1;rw[qX rfl,zwz]
  ·rw[qW h1,q3b _ _ (by omega),q3b _ _ (by simp;omega)]
theorem vI2 (p:Nat):Value.int .i64 ((p:Int)+2) = .int .i64 ((p+2:Nat):Int):=by rw[Int.natCast_add];rfl
theorem vI1 (p:Nat):Value.int .i64 ((p:Int)+1) = .int .i64 ((p+1:Nat):Int):=by rw[Int.natCast_add];rfl
theorem zym (n:Nat) (h:n<=4000000):wrap64 (n:Int)=(n:Int):=by unfold wrap64;omega
theorem zn2 (p:Addr) (n c:Nat) (w:World):(binOp .neq 23 (.slice (some p) n c) (.slice none 0 0)).run Tryz.prog w = .ok (.bool true) w:=by kernel_rfl
theorem zlv (w:World):(binOp .neq 23 (.slice none 0 0) (.slice none 0 0)).run Tryz.prog w = .ok (.bool false) w:=by kernel_rfl
theorem zl3 (p:Addr) (n c:Nat) (w:World):(binOp .eql 23 (.slice (some p) n c) (.slice none 0 0)).run Tryz.prog w = .ok (.bool false) w:=by kernel_rfl
theorem znf (w:World):(binOp .eql 23 (.slice none 0 0) (.slice none 0 0)).run Tryz.prog w = .ok (.bool true) w:=by kernel_rfl
set_option maxHeartbeats 4000000 in
set_option maxRecDepth 1000000 in
theorem va0 (R:Nat) (a b a1 a2 b1 b2:UInt8) (s:ByteArray) (w:World) (hab:a≠b) (hs:s.size<=1000000) (hB:qy1 R a b a1 a2 b1 b2 w) :
  Calls Tryz.prog 319 #[.pointer (some ⟨R,0,none⟩),.string s] w fun e w'=>e = .returned (.string ⟨(escs a b [a1,a2] [b1,b2] s.data.toList).toArray⟩)/\Below w.heap.size w w':=by
 obtain⟨ga,gb,gt,ca,cb,ct,-,hT,ht0,ht1,-⟩:=hB.ex;obtain⟨L,hL⟩:∃ L,s.data.toList=L:=⟨_,rfl⟩;have vbu:L.length=s.size:=by rw[← hL];exact (Lib.size_eq s).symm
 rw[hL];have HB:Aside (qy1 R a b a1 a2 b1 b2 w):=hB;clear hB;have cBc:=fun w=>zos s b w
 have cAc:=fun w=>zos s a w
 rw[hL]at cBc cAc;obtain⟨Z,hZ⟩:∃ Z,cntP a b L=Z:=⟨_,rfl⟩;have HZ:Aside (cntP a b L=Z):=hZ;have hZ2:Z<=2000000:=by
  rw[← hZ];unfold cntP;have h1:=List.count_le_length (a:=a) (l:=L);have h2:=List.count_le_length (a:=b) (l:=L);omega
 clear hZ;obtain⟨M,hM⟩:∃ M,s.size+Z=M:=⟨_,rfl⟩;have HM:Aside (s.size+Z=M):=hM;have hMb:M<=3000000:=by omega
 clear hM;have hn1:=zn2;have hn2:=zlv
 go_enter Tryz.func319,Tryz.ntmps319
 go_upto_if 26 with (fail)
 go_cut [5,6] (fun s5 s6 wx=>s5 = .int .i64 (M:Nat)/\s6 = .bool (decide (0<Z))/\Below w.heap.size w wx)
 case first=>
  obtain⟨X,hX⟩:∃ X,L.count b=X:=⟨_,rfl⟩;obtain⟨Y,hY⟩:∃ Y,L.count a=Y:=⟨_,rfl⟩;have HXY:Aside (Z=Y+X):=by show Z=Y+X;rw[← HZ.out];unfold cntP;rw[hX,hY]
  have hXl:X<=s.size:=by rw[← hX,← vbu];exact List.count_le_length
  have hYl:Y<=s.size:=by rw[← hY,← vbu];exact List.count_le_length
  have cBc:∀ w,Calls Tryz.prog 321 #[.string s,.string ⟨#[b]⟩] w fun e w'=>e = .returned (.int .i64 (X:Nat))/\w'=w:=fun w=>by rw[← hX];exact cBc w
  have cAc:∀ w,Calls Tryz.prog 321 #[.string s,.string ⟨#[a]⟩] w fun e w'=>e = .returned (.int .i64 (Y:Nat))/\w'=w:=fun w=>by rw[← hY];exact cAc w
  clear hX hY
  go_wp2
  ·rename_i h16;clear h16
   go_loopg [5,6,32] 2 (fun gk s5 s6 s32 wx=>Below w.heap.size w wx/\((s32 = .int .i64 0/\s5 = .int .i64 (s.size:Nat)/\s6 = .bool false/\gk=2)\/(s32 = .int .i64 1/\s5 = .int .i64 ((s.size+X:Nat):Int)/\s6 = .bool (decide (0<X))/\gk=1)\/(s32 = .int .i64 2/\s5 = .int .i64 ((s.size+(Y+X):Nat):Int)/\s6 = .bool (decide (0<Y+X))/\gk=0)))
   case atStart=>exact⟨Below.refl _ _,Or.inl ⟨rfl,rfl,rfl,rfl⟩⟩
   case round=>
    obtain⟨hbw,h⟩:=hrel;have ht0':wr.cell? ⟨gt,0,none⟩=some (.string ⟨#[b]⟩):=(hbw.cell (World.block_lt_of_cell? _ _ ht0)).trans ht0;have ht1':wr.cell? ⟨gt,1,none⟩=some (.string ⟨#[a]⟩):=(hbw.cell (World.block_lt_of_cell? _ _ ht1)).trans ht1;clear ht0 ht1;rcases h with ⟨rfl,rfl,rfl,rfl⟩|⟨rfl,rfl,rfl,rfl⟩|⟨rfl,rfl,rfl,rfl⟩
    ·have cX:=cBc wr;by_cases h0:X=0
     ·subst h0
      go_wp2_with (go_at_call 321;go_must (refine cX.mono ?_;rintro e W1 ⟨rfl,rfl⟩))
      go_roundg 1
      case measure=>omega
      case rel=>exact⟨hbw,Or.inr (Or.inl ⟨rfl,rfl,rfl,rfl⟩)⟩
     ·have hz:¬ ((X:Int)=0):=by omega
      obtain⟨ga',gb',gt',ca',cb',ct',hR,-⟩:=(HB.out.below hbw).ex;have hRb:wr.cell? ⟨R,b.toNat,none⟩=some (.slice (some ⟨gb',0,none⟩) 2 cb'):=by rw[hR b];unfold rv;rw[qW (fun h=>hab h.symm),qX rfl]
      clear hR;have g0:∀ h,(⟨#[b]⟩:ByteArray)[0]'h=b:=fun _=>rfl
      have g1:(b.toNat:Int)<256:=by have:=b.toNat_lt;omega
      go_wp2_with (go_at_call 321;go_must (refine cX.mono ?_;rintro e W1 ⟨rfl,rfl⟩))
      go_region
      all_goals go_wp2
      go_roundg 1
      case measure=>omega
      case rel=>exact⟨hbw.drew,Or.inr (Or.inl ⟨rfl,congrArg _ (by omega),by rw[decide_eq_true (Nat.pos_of_ne_zero h0)],rfl⟩)⟩
    ·have cX:=cAc wr;by_cases h0:Y=0
     ·subst h0
      go_wp2_with (go_at_call 321;go_must (refine cX.mono ?_;rintro e W1 ⟨rfl,rfl⟩))
      go_roundg 0
      case measure=>omega
      case rel=>exact⟨hbw,Or.inr (Or.inr ⟨rfl,congrArg _ (by omega),by rw[wO],rfl⟩)⟩
     ·have hz:¬ ((Y:Int)=0):=by omega
      obtain⟨ga',gb',gt',ca',cb',ct',hR,-⟩:=(HB.out.below hbw).ex;have hRb:wr.cell? ⟨R,a.toNat,none⟩=some (.slice (some ⟨ga',0,none⟩) 2 ca'):=by rw[hR a];unfold rv;rw[qX rfl]
      clear hR;have g0:∀ h,(⟨#[a]⟩:ByteArray)[0]'h=a:=fun _=>rfl
      have g1:(a.toNat:Int)<256:=by have:=a.toNat_lt;omega
      go_wp2_with (go_at_call 321;go_must (refine cX.mono ?_;rintro e W1 ⟨rfl,rfl⟩))
      go_region
      all_goals go_wp2
      go_roundg 0
      case measure=>omega
      case rel=>exact⟨hbw.drew,Or.inr (Or.inr ⟨rfl,congrArg _ (by omega),by rw[decide_eq_true (show 0<Y+X by omega)],rfl⟩)⟩
    ·go_wp2
     go_meet
     case rel=>exact⟨by rw[← HM.out,HXY.out],by rw[HXY.out],hbw⟩
  ·rename_i h16;clear h16
   go_loopg [5,6,10] s.size (fun gk s5 s6 s10 wx=>wx=w/\∃ k C:Nat,s10 = .int .i64 k/\s5 = .int .i64 ((s.size+C:Nat):Int)/\s6 = .bool (decide (0<C))/\k<=s.size/\s.size<=k+gk/\Aside (cntP a b (L.take k)=C)/\C<=2000000)
   case atStart=>exact⟨rfl,0,0,rfl,rfl,rfl,Nat.zero_le _,by omega,rfl,by omega⟩
   case round=>
    obtain⟨rfl,k,C,rfl,rfl,rfl,hk,hgk,HC,hC⟩:=hrel;by_cases hk2:k<s.size
    ·obtain⟨g,rfl⟩:∃ g,gk=g+1:=⟨gk-1,by omega⟩
     obtain⟨c,hc⟩:∃ c,s[k]'hk2=c:=⟨_,rfl⟩;have hstep:Aside (cntP a b (L.take (k+1))=C+(if c=a then 1 else if c=b then 1 else 0)):=by
      have h1:k<L.length:=by rw[vbu];exact hk2
      have h2:L[k]'h1=c:=by subst hL;exact hc
      show _=_;rw[q9v L k h1,qx5,HC.out,q7g hab,h2]
     have hC3:Aside (cntP a b (L.take (k+1))<=2000000):=by
      show _<=_;unfold cntP;have h1:=List.count_le_length (a:=a) (l:=L.take (k+1));have h2:=List.count_le_length (a:=b) (l:=L.take (k+1));rw[List.length_take]at h1 h2;omega
     obtain⟨ga',gb',gt',ca',cb',ct',hR,-⟩:=HB.out.ex;have hRc:=hR c;unfold rv at hRc;clear hR;have g1:(c.toNat:Int)<256:=by have:=c.toNat_lt;omega
     by_cases h1:c=a
     ·rw[qX h1]at hRc;rw[qX h1]at hstep;clear h1
      go_wp2
      go_roundg g
      case measure=>omega
      case rel=>exact⟨rfl,k+1,C+1,congrArg _ (by omega),congrArg _ (by omega),by rw[decide_eq_true (Nat.succ_pos C)],by omega,by omega,hstep,by have:=hC3.out;rw[hstep.out]at this;exact this⟩
     ·rw[qW h1]at hRc;rw[qW h1]at hstep;by_cases h2:c=b
      ·rw[qX h2]at hRc;rw[qX h2]at hstep;clear h1 h2
       go_wp2
       go_roundg g
       case measure=>omega
       case rel=>exact⟨rfl,k+1,C+1,congrArg _ (by omega),congrArg _ (by omega),by rw[decide_eq_true (Nat.succ_pos C)],by omega,by omega,hstep,by have:=hC3.out;rw[hstep.out]at this;exact this⟩
      ·rw[qW h2]at hRc;rw[qW h2]at hstep;clear h1 h2
       go_wp2
       go_roundg g
       case measure=>omega
       case rel=>exact⟨rfl,k+1,C,congrArg _ (by omega),congrArg _ (by omega),rfl,by omega,by omega,hstep,hC⟩
    ·obtain rfl:k=s.size:=by omega
     have HC2:C=Z:=by rw[← HC.out,← vbu,List.take_length,HZ.out]
     subst HC2
     go_wp2
     go_meet
     case rel=>exact⟨by rw[HM.out],rfl,Below.refl _ _⟩
 case rest=>
  obtain⟨rfl,hs6,hbw⟩:=hcut;cases h0:decide (0<Z)<;>rw[h0]at hs6<;>subst hs6
  ·have hz0:=of_decide_eq_false h0;have hid:=zg9 hab [a1,a2] [b1,b2] L (by rw[HZ.out];omega)
   clear h0 hz0;have HI:Aside (escs a b [a1,a2] [b1,b2] L=L):=hid;clear hid
   go_wp2
   go_ret
   exact⟨by rw[HI.out,← hL];rfl,hbw⟩
  ·clear h0;have hmk:∀ w:World,(Instr.makeSlice 23 (.int .i64 (M:Int)) (.int .i64 (M:Int))).run Tryz.prog w = .ok (.slice (some ⟨w.heap.size,0,none⟩) M M) (w.alloc (.cells (madeCells #[.int .u8 0] M) 5)):=fun w=>
    run_make_row' (P:=Tryz.prog) 23 5 (.int .u8 0) 1 Tryz.underlying23 (by kernel_rfl) rfl .i64 .i64 M (by omega) (by omega) w
   go_wp2
   obtain⟨G,hG⟩:∃ G,wc.heap.size=G:=⟨_,rfl⟩;have hrow0:=World.rowIs_made wc (.int .u8 0) M 5;have hGle:w.heap.size<=G:=by rw[← hG];exact hbw.size
   have hbw1:=hbw.alloc hbw.size (Obj.cells (madeCells #[.int .u8 0] M) 5);rw[hG]at hrow0 ⊢;have hLM:Aside (∀ k,(escs a b [a1,a2] [b1,b2] (L.take k)).length<=M):=fun k=>by
    have h1:escs a b [a1,a2] [b1,b2] L=escs a b [a1,a2] [b1,b2] (L.take k)++escs a b [a1,a2] [b1,b2] (L.drop k):=by rw[← qur,List.take_append_drop]
    have h2:=congrArg List.length h1;rw[q1o hab,vbu,HZ.out,HM.out,qM]at h2;omega
   go_loopg [13,14] s.size (fun gk s13 s14 wx=>∃ k j:Nat,s13 = .int .i64 j/\s14 = .int .i64 k/\k<=s.size/\s.size<=k+gk/\j<=M/\Aside ((escs a b [a1,a2] [b1,b2] (L.take k)).length=j)/\Aside (wx.rowIs G 5 M (bv (escs a b [a1,a2] [b1,b2] (L.take k))))/\Below w.heap.size w wx)
   case atStart=>exact⟨0,0,rfl,rfl,Nat.zero_le _,by omega,Nat.zero_le _,rfl,hrow0.congr (fun i _=>(q3b [] i (Nat.zero_le _)).symm),hbw1⟩
   case round=>
    obtain⟨k,j,rfl,rfl,hk,hgk,hjM,HJ,hrow,hbx⟩:=hrel;clear hrow0 hbw1;by_cases hk2:k<s.size
    ·obtain⟨g,rfl⟩:∃ g,gk=g+1:=⟨gk-1,by omega⟩
     have HG:Aside (s.size<=k+1+g):=by show _<=_;omega
     clear hgk hk;obtain⟨c,hc⟩:∃ c,s[k]'hk2=c:=⟨_,rfl⟩;have hk1:k<L.length:=by rw[vbu];exact hk2
     have hLk:L[k]'hk1=c:=by subst hL;exact hc
     have hstep:Aside (escs a b [a1,a2] [b1,b2] (L.take (k+1))=escs a b [a1,a2] [b1,b2] (L.take k)++esc a b [a1,a2] [b1,b2] c):=by
      show _=_;rw[q9v L k hk1,qur,hLk];show _++(esc a b [a1,a2] [b1,b2] c++[])=_;rw[List.append_nil]
     have hfit:Aside (j+(esc a b [a1,a2] [b1,b2] c).length<=M):=by
      have:=hLM.out (k+1);rw[hstep.out,qM,HJ.out]at this;exact this
     clear hLk hk1;obtain⟨ga',gb',gt',ca',cb',ct',hR,hT',ht0',ht1',ha0,ha1,hb0,hb1⟩:=(HB.out.below hbx).ex;have hRc:=hR c;unfold rv at hRc;clear hR hT' ht0' ht1';have g1:(c.toNat:Int)<256:=by have:=c.toNat_lt;omega
     unfold esc at hstep hfit;by_cases h1:c=a
     ·rw[qX h1]at hRc hstep hfit;have hf2:j+2<=M:=hfit.out;clear h1;have hMj:¬ M=j:=by omega
      obtain⟨ROW,hcp,hnew⟩:=zws (w:=wr.drew) (c:=ca') hrow.out.drew hf2 (by rw[World.cell?_drew];exact ha0) (by rw[World.cell?_drew];exact ha1)
      have HN:Aside (_):=hnew;have HW:Aside (wrap64 ((j:Int)+2)=(j:Int)+2):=by have:=zym (j+2) (by omega);rw[Int.natCast_add]at this;exact this
      clear hnew
      go_wp2
      go_region
      all_goals go_wp2
      go_roundg g
      case measure=>exact Nat.lt_succ_self _
      case rel=>exact⟨k+1,j+2,by first|exact vI2 j|exact (congrArg (Value.int .i64) HW.out).trans (vI2 j),vI1 k,hk2,HG.out,hf2,by show _=_;rw[hstep.out,qM,HJ.out];rfl,World.rowIs.congr HN.out (fun i _=>by rw[hstep.out,← zox,HJ.out]),below_setRow hbx.drew hGle _⟩
     ·rw[qW h1]at hRc hstep hfit;by_cases h2:c=b
      ·rw[qX h2]at hRc hstep hfit;have hf2:j+2<=M:=hfit.out;clear h1 h2;have hMj:¬ M=j:=by omega
       obtain⟨ROW,hcp,hnew⟩:=zws (w:=wr.drew) (c:=cb') hrow.out.drew hf2 (by rw[World.cell?_drew];exact hb0) (by rw[World.cell?_drew];exact hb1)
       have HN:Aside (_):=hnew;have HW:Aside (wrap64 ((j:Int)+2)=(j:Int)+2):=by have:=zym (j+2) (by omega);rw[Int.natCast_add]at this;exact this
       clear hnew
       go_wp2
       go_region
       all_goals go_wp2
       go_roundg g
       case measure=>exact Nat.lt_succ_self _
       case rel=>exact⟨k+1,j+2,by first|exact vI2 j|exact (congrArg (Value.int .i64) HW.out).trans (vI2 j),vI1 k,hk2,HG.out,hf2,by show _=_;rw[hstep.out,qM,HJ.out];rfl,World.rowIs.congr HN.out (fun i _=>by rw[hstep.out,← zox,HJ.out]),below_setRow hbx.drew hGle _⟩
      ·rw[qW h2]at hRc hstep hfit;have hf1:j+1<=M:=hfit.out;clear h1 h2;have hcell:wr.cell? ⟨G,j,none⟩=some (bv (escs a b [a1,a2] [b1,b2] (L.take k)) j):=hrow.out.cell (by omega)
       have hfroz:wr.frozen? ⟨G,j,none⟩=false:=hrow.out.frozen j
       go_wp2
       go_roundg g
       case measure=>exact Nat.lt_succ_self _
       case rel=>exact⟨k+1,j+1,vI1 j,vI1 k,hk2,HG.out,hf1,by show _=_;rw[hstep.out,qM,HJ.out];rfl,World.rowIs.congr (World.rowIs.set hrow.out j _) (fun i _=>by rw[hstep.out,← zya,HJ.out]),hbx.setCell hGle _⟩
    ·obtain rfl:k=s.size:=by omega
     have HT:Aside (L.take s.size=L):=by show _=_;rw[← vbu,List.take_length]
     have HE:Aside (∃ l,l=escs a b [a1,a2] [b1,b2] L/\l.length=M):=⟨_,rfl,by rw[q1o hab,vbu,HZ.out,HM.out]⟩
     obtain⟨E,hE,hEl⟩:=HE.out;have hcv:(convert 23 9 (.slice (some ⟨G,0,none⟩) M M)).run Tryz.prog wr = .ok (.string ⟨E.toArray⟩) wr:=by
      have h:=run_convert_bytes_back (P:=Tryz.prog) wr 23 9 5 ⟨G,0,none⟩ M E Tryz.underlying23 Tryz.underlying5 Tryz.underlying9 (fun i hi=>by
       rw[addP,wO,hrow.out.cell (by omega),HT.out,← hE]
       unfold bv;rw[List.getD_eq_getElem?_getD,List.getElem?_eq_getElem hi];rfl)
      rw[hEl]at h;exact h
     have HEq:Aside (E=escs a b [a1,a2] [b1,b2] L):=hE;clear hE hEl
     go_wp2
     go_ret
     exact⟨by rw[← HEq.out];rfl,hbx⟩
end Go.Proofs.Repl
set_option linter.unusedVariables false
namespace Go.Proofs.Repl
open Go.Shelf Go.RowKit Go.Lib Go.Sym
theorem zlt:(Tryz.prog.info? 9).map (fun i=>(i.zero,i.size,i.bytes))=some (some (Value.string ⟨#[]⟩),1,16):=by kernel_rfl
theorem mk2 (w:World):(Instr.makeSlice 100 (.int .i64 0) (.int .i64 2)).run Tryz.prog w = .ok (.slice (some ⟨w.heap.size,0,none⟩) 0 2) (w.alloc (.cells #[.string ⟨#[]⟩,.string ⟨#[]⟩] 9)):=by
 obtain⟨i,hi,hzz⟩:=Option.map_eq_some_iff.1 zlt;simp only[qP]at hzz;obtain⟨hz,hs,hb⟩:=hzz;have h:=run_make (P:=Tryz.prog) w 100 9 i (.string ⟨#[]⟩) Tryz.underlying100 hi hz .i64 .i64 0 2 (by decide) (by decide) (by rw[hb];decide) (by decide)
 rw[hs,show madeCells (Value.string ⟨#[]⟩).cells (Int.toNat 2*1)=#[.string ⟨#[]⟩,.string ⟨#[]⟩] from by kernel_rfl]at h
 exact h
def zr (V:Value) (j:Nat):Value:=if j=256 then V else .slice none 0 0
def z1 (b:UInt8) (g c:Nat) (V:Value) (j:Nat):Value:=if j=b.toNat then .slice (some ⟨g,0,none⟩) 2 c else zr V j
theorem zjs:Tryz.zeroCells254.toList.length=257:=by kernel_rfl
theorem zlo:Tryz.zeroCells254.toList.all (fun v=>v.oneCell')=true:=by kernel_rfl
def qyg:Option Value->Bool
 | some (.slice none n c)=>Nat.beq n 0&&Nat.beq c 0
 | _=>false
theorem zni {v:Option Value} (h:qyg v=true):v=some (.slice none 0 0):=by
 unfold qyg at h;split at h
 ·simp only[qA]at h;rw[qN h.1,qN h.2]
 ·cases h
theorem zqs:(List.range 257).all (fun j=>qyg Tryz.zeroCells254.toList[j]?)=true:=by kernel_rfl
theorem z4g (w:World) (T:Nat):∃ ROW,(storeCells ⟨w.heap.size,0,none⟩ (Tryz.zeroCells254.toList.set 256 (.slice (some ⟨T,0,none⟩) 0 2))).run Tryz.prog (w.alloc (.cells Tryz.zeroCells254 254)) = .ok () ((w.alloc (.cells Tryz.zeroCells254 254)).setRow w.heap.size ROW) /\
  ((w.alloc (.cells Tryz.zeroCells254 254)).setRow w.heap.size ROW).rowIs w.heap.size 254 257 (zr (.slice (some ⟨T,0,none⟩) 0 2)):=by
 have hnew:(w.alloc (.cells Tryz.zeroCells254 254)).heap[w.heap.size]? = some (.cells Tryz.zeroCells254 254):=heap_alloc_new w _;have hz:=zjs;have h:=run_storeCells_at Tryz.prog w.heap.size 0 254 (Tryz.zeroCells254.toList.set 256 (.slice (some ⟨T,0,none⟩) 0 2)) 0 _ _ hnew (by rw[List.length_set,hz,← Array.length_toList,hz];decide) (fun v hv=>by
  rcases List.mem_or_eq_of_mem_set hv with hv|rfl
  ·exact List.all_eq_true.1 zlo v hv
  ·rfl)
 refine⟨_,h,?_⟩;refine⟨_,setRow_heap _ _ _ _ _ _ hnew,?_,fun i hi => ?_⟩
 ·simp only[List.size_toArray,qM,List.length_set,List.length_take,List.length_drop,hz];decide
 ·rw[List.getElem?_toArray,List.length_set,hz,List.drop_eq_nil_of_le (by rw[hz];decide),List.append_nil]
  show ([]++_)[i]? = _;rw[List.nil_append,List.getElem?_set];unfold zr;by_cases h2:256=i
  ·subst h2;rw[qX rfl,qX rfl,hz];rfl
  ·rw[qW h2,qW (fun e=>h2 e.symm)]
   exact zni (List.all_eq_true.1 zqs i (List.mem_range.2 hi))
def brow (w:World) (x y:UInt8):Obj := .cells (bytesRow ⟨#[x,y]⟩ (grownCap w 2 0 5)) 5 ((bytesRow ⟨#[x,y]⟩ (grownCap w 2 0 5)).size,(bytesRow ⟨#[x,y]⟩ (grownCap w 2 0 5)).size+1)
def bcap (w:World):Nat:=grownCap w 2 0 5
theorem cv2 (w:World) (x y:UInt8):(convert 9 23 (.string ⟨#[x,y]⟩)).run Tryz.prog w = .ok (.slice (some ⟨w.heap.size,0,none⟩) 2 (bcap w)) (w.drew.alloc (brow w x y)):=
 run_bytes_of_string (P:=Tryz.prog) w 9 23 5 ⟨#[x,y]⟩ Tryz.underlying9 Tryz.underlying23 Tryz.underlying5
theorem zfd (w W:World) (x y:UInt8):(W.alloc (brow w x y)).cell? ⟨W.heap.size,0,none⟩=some (.int .u8 x.toNat)/\(W.alloc (brow w x y)).cell? ⟨W.heap.size,1,none⟩=some (.int .u8 y.toNat):=by
 unfold brow;rw[World.cell?_alloc_mark,World.cell?_alloc_mark];exact⟨bytesRow_at ⟨#[x,y]⟩ _ 0 (by show 0<2;decide),bytesRow_at ⟨#[x,y]⟩ _ 1 (by show 1<2;decide)⟩
theorem cv1 (w:World) (x:UInt8):(convert 23 9 (.slice (some ⟨w.heap.size,0,none⟩) 1 1)).run Tryz.prog (w.alloc (.cells #[.int .u8 x.toNat] 5)) = .ok (.string ⟨#[x]⟩) (w.alloc (.cells #[.int .u8 x.toNat] 5)):=
 run_convert_bytes_back (P:=Tryz.prog) _ 23 9 5 ⟨w.heap.size,0,none⟩ 1 [x] Tryz.underlying23 Tryz.underlying5 Tryz.underlying9 (fun i hi=>by
  have:i=0:=by simpa using hi
  subst this;rw[addP];show World.cell? _ ⟨w.heap.size,0,none⟩=_;unfold World.cell?;rw[show (w.alloc (.cells #[.int .u8 (x.toNat:Int)] 5)).heap[w.heap.size]? = _ from heap_alloc_new w _]
  rfl)
def w4 (wr:World) (T k n:Nat) (c:UInt8):World:=(((wr.alloc (.cells #[.int .u8 c.toNat] 5)).alloc (.cells #[.string ⟨#[c]⟩] 9)).setCell ⟨T,k,none⟩ (.string ⟨#[c]⟩)).setCell ⟨T+1,256,none⟩ (.slice (some ⟨T,0,none⟩) n 2)
def w5 (wr:World) (T k n:Nat) (c x y:UInt8):World:=(((w4 wr T k n c).alloc (brow (w4 wr T k n c) x y)).setCell ⟨T+1,c.toNat,none⟩ (.slice (some ⟨wr.heap.size+1+1,0,none⟩) 2 (bcap (w4 wr T k n c)))).drew
theorem z3y (wr:World) (T k n:Nat) (c x y:UInt8) (hT:T+2<=wr.heap.size) {f h:Nat->Value} (hR:wr.rowIs (T+1) 254 257 f) (hTr:wr.rowIs T 9 2 h) :
  (w5 wr T k n c x y).rowIs (T+1) 254 257 (fun j=>if j=c.toNat then .slice (some ⟨wr.heap.size+1+1,0,none⟩) 2 (bcap (w4 wr T k n c)) else if j=256 then .slice (some ⟨T,0,none⟩) n 2 else f j)/\(w5 wr T k n c x y).rowIs T 9 2 (fun i=>if i=k then .string ⟨#[c]⟩ else h i) /\
   (w5 wr T k n c x y).cell? ⟨wr.heap.size+1+1,0,none⟩=some (.int .u8 x.toNat)/\(w5 wr T k n c x y).cell? ⟨wr.heap.size+1+1,1,none⟩=some (.int .u8 y.toNat)/\(∀ p:Addr,T+2<=p.block->p.block<wr.heap.size->(w5 wr T k n c x y).cell? p=wr.cell? p)/\Below T wr (w5 wr T k n c x y)/\T+2<=(w5 wr T k n c x y).heap.size:=by
 unfold w5;generalize hWb:brow (w4 wr T k n c) x y=B;generalize (Value.slice (some ⟨wr.heap.size+1+1,0,none⟩) 2 (bcap (w4 wr T k n c)))=V3;have hbc0:=fun W=>zfd (w4 wr T k n c) W x y
 rw[hWb]at hbc0;unfold w4;clear hWb;generalize (Obj.cells #[.int .u8 c.toNat] 5)=o1;generalize (Obj.cells #[.string ⟨#[c]⟩] 9)=o2;generalize (Value.string ⟨#[c]⟩)=S;generalize (Value.slice (some ⟨T,0,none⟩) n 2)=V2;have hsz:((((wr.alloc o1).alloc o2).setCell ⟨T,k,none⟩ S).setCell ⟨T+1,256,none⟩ V2).heap.size=wr.heap.size+1+1:=by simp[World.setCell]
 have hbc:=hbc0 ((((wr.alloc o1).alloc o2).setCell ⟨T,k,none⟩ S).setCell ⟨T+1,256,none⟩ V2);rw[hsz]at hbc;refine⟨?_,?_,?_,?_,fun p h1 h2 => ?_,?_,?_⟩
 ·exact (((((hR.alloc o1).alloc o2).setOther (a:=⟨T,k,none⟩) (by simp) S).set 256 V2).alloc _).set _ V3
 ·exact (((((hTr.alloc o1).alloc o2).set k S).setOther (a:=⟨T+1,256,none⟩) (by simp) V2).alloc _).setOther (a:=⟨T+1,c.toNat,none⟩) (by simp) V3
 ·rw[World.cell?_drew,World.cell?_setCell_other _ _ _ _ (by intro h;have:=congrArg Addr.block h;simp at this;omega)];exact hbc.1
 ·rw[World.cell?_drew,World.cell?_setCell_other _ _ _ _ (by intro h;have:=congrArg Addr.block h;simp at this;omega)];exact hbc.2
 ·refine World.cell?_of_block (w:=wr) ?_;show (World.setCell _ _ _).heap[p.block]? = _;rw[Below.heap_setCell _ _ _ _ (by simp;omega),Below.heap_alloc _ _ _ (by rw[hsz];omega),Below.heap_setCell _ _ _ _ (by simp;omega),Below.heap_setCell _ _ _ _ (by simp;omega),Below.heap_alloc _ _ _ (by simp;omega),Below.heap_alloc _ _ _ h2]
 ·have hsz2:wr.heap.size+1+1=((((wr.alloc o1).alloc o2).setCell ⟨T,k,none⟩ S).setCell ⟨T+1,256,none⟩ V2).heap.size:=hsz.symm;exact (((((((Below.refl T wr).alloc (by omega) o1).alloc (by simp;omega) o2).setCell (p:=⟨T,k,none⟩) (wF _) S).setCell (p:=⟨T+1,256,none⟩) (Nat.le_succ _) V2).alloc (by omega) _).setCell (p:=⟨T+1,c.toNat,none⟩) (Nat.le_succ _) V3).drew
 ·show _<=(World.setCell _ _ _).heap.size;simp[World.setCell];omega
set_option maxHeartbeats 4000000 in
set_option maxRecDepth 1000000 in
theorem bldS (q ro cap:Nat) (a b a1 a2 b1 b2:UInt8) (w:World) (hab:a≠b)
  (hc:w.cell? ⟨q,4,none⟩=some (.slice (some ⟨ro,0,none⟩) 4 cap)) (h0:w.cell? ⟨ro,0,none⟩=some (.string ⟨#[a]⟩)) (h1:w.cell? ⟨ro,1,none⟩=some (.string ⟨#[a1,a2]⟩)) (h2:w.cell? ⟨ro,2,none⟩=some (.string ⟨#[b]⟩)) (h3:w.cell? ⟨ro,3,none⟩=some (.string ⟨#[b1,b2]⟩)) :
  Calls Tryz.prog 185 #[.pointer (some ⟨q,0,none⟩)] w fun e w'=>∃ R,e = .returned (.iface 255 (.pointer (some ⟨R,0,none⟩)))/\qy1 R a b a1 a2 b1 b2 w'/\Below w.heap.size w w':=by
 go_enter Tryz.func185,Tryz.ntmps185
 go_wp2
 go_loopg [4,5] 2 (fun gk s4 s5 wx=>wx=w/\((s5 = .int .i64 0/\s4 = .bool true/\gk=2)\/(s5 = .int .i64 2/\s4 = .bool false/\gk=1)\/(s5 = .int .i64 4/\s4 = .bool false/\gk=0)))
 case atStart=>exact⟨rfl,Or.inl ⟨rfl,rfl,rfl⟩⟩
 case round=>
  obtain⟨rfl,⟨rfl,rfl,rfl⟩|⟨rfl,rfl,rfl⟩|⟨rfl,rfl,rfl⟩⟩:=hrel
  ·go_wp2
   go_roundg 1
   case measure=>exact Nat.lt_succ_self _
   case rel=>exact⟨rfl,Or.inr (Or.inl ⟨rfl,rfl,rfl⟩)⟩
  ·go_wp2
   go_roundg 0
   case measure=>exact Nat.lt_succ_self _
   case rel=>exact⟨rfl,Or.inr (Or.inr ⟨rfl,rfl,rfl⟩)⟩
  ·have hmk:=mk2;obtain⟨W1,hW1⟩:∃ W1,wr.alloc (.cells #[.string ⟨#[]⟩,.string ⟨#[]⟩] 9)=W1:=⟨_,rfl⟩;have hz1:W1.heap.size=wr.heap.size+1:=by rw[← hW1];simp
   have hT1:W1.rowIs wr.heap.size 9 2 (fun _ => .string ⟨#[]⟩):=by rw[← hW1];exact World.rowIs_alloc wr _ _ _ (fun i hi=>by match i,hi with|0,_=>rfl|1,_=>rfl)
   have hb1:Below wr.heap.size wr W1:=by rw[← hW1];exact (Below.refl _ _).alloc (wF _) _
   obtain⟨ROW,hst,hrow⟩:=z4g W1 wr.heap.size;rw[hz1]at hst hrow;have hT2:=(hT1.alloc (.cells Tryz.zeroCells254 254)).of_block (setRow_other (W1.alloc (.cells Tryz.zeroCells254 254)) (wr.heap.size+1) wr.heap.size ROW (by omega))
   have hb2:=below_setRow (hb1.alloc hb1.size (.cells Tryz.zeroCells254 254)) (Nat.le_succ wr.heap.size) ROW;obtain⟨W2,hW2⟩:∃ W2,(W1.alloc (.cells Tryz.zeroCells254 254)).setRow (wr.heap.size+1) ROW=W2:=⟨_,rfl⟩;rw[hW2]at hst hrow hT2 hb2;have HB2:Aside (W2.rowIs (wr.heap.size+1) 254 257 (zr (.slice (some ⟨wr.heap.size,0,none⟩) 0 2))/\W2.rowIs wr.heap.size 9 2 (fun _ => .string ⟨#[]⟩)/\Below wr.heap.size wr W2):=⟨hrow,hT2,hb2⟩
   clear hrow hT2 hb2 hT1 hb1 hW2
   go_wp2
   obtain⟨T,hT⟩:∃ T,wr.heap.size=T:=⟨_,rfl⟩;rw[hT]at HB2 ⊢;have hS:Aside (wr.heap.size=T):=hT;clear hst hmk hz1 hW1 hT
   go_loopg [12] 2 (fun gk s12 wx=>Below T wr wx/\T+2<=wx.heap.size/\(
    (s12 = .int .i64 2/\gk=2/\Aside (wx.rowIs (T+1) 254 257 (zr (.slice (some ⟨T,0,none⟩) 0 2))/\wx.rowIs T 9 2 (fun _ => .string ⟨#[]⟩))) \/
    (s12 = .int .i64 0/\gk=1/\∃ gb cb,T+2<=gb/\gb<wx.heap.size/\Aside (wx.rowIs (T+1) 254 257 (fun j=>if j=b.toNat then .slice (some ⟨gb,0,none⟩) 2 cb else if j=256 then .slice (some ⟨T,0,none⟩) 1 2 else .slice none 0 0)/\wx.rowIs T 9 2 (fun i=>if i=0 then .string ⟨#[b]⟩ else .string ⟨#[]⟩)/\wx.cell? ⟨gb,0,none⟩=some (.int .u8 b1.toNat)/\wx.cell? ⟨gb,1,none⟩=some (.int .u8 b2.toNat))) \/
    (s12 = .int .i64 (-2)/\gk=0/\Aside (qy1 (T+1) a b a1 a2 b1 b2 wx))))
   case atStart=>exact⟨HB2.out.2.2,by have:=HB2.out.1.lt;omega,Or.inl ⟨rfl,rfl,HB2.out.1,HB2.out.2.1⟩⟩
   case round=>
    obtain⟨hbx,hsz,h⟩:=hrel;have k0:=(hbx.cell (p:=⟨ro,0,none⟩) (by rw[← hS.out];exact World.block_lt_of_cell? _ _ h0)).trans h0
    have k1:=(hbx.cell (p:=⟨ro,1,none⟩) (by rw[← hS.out];exact World.block_lt_of_cell? _ _ h1)).trans h1
    have k2:=(hbx.cell (p:=⟨ro,2,none⟩) (by rw[← hS.out];exact World.block_lt_of_cell? _ _ h2)).trans h2
    have k3:=(hbx.cell (p:=⟨ro,3,none⟩) (by rw[← hS.out];exact World.block_lt_of_cell? _ _ h3)).trans h3
    clear h0 h1 h2 h3 hc HB2;have e1:=zl3;have e2:=znf;have e3:=cv1;have e4:=cv2;rcases h with ⟨rfl,rfl,hr⟩|⟨rfl,rfl,gb,cb,hgb,hgs,hr⟩|⟨rfl,rfl,hr⟩
    ·have g0:∀ h,(⟨#[b]⟩:ByteArray)[0]'h=b:=fun _=>rfl
     have g1:(b.toNat:Int)<256:=by have:=b.toNat_lt;omega
     have g2:b.toNat<256:=b.toNat_lt;have hRb:wr.cell? ⟨T+1,b.toNat,none⟩=some (.slice none 0 0):=by
      rw[hr.out.1.cell (by omega)];unfold zr;rw[qW (by have:=b.toNat_lt;omega)]
     have hR2:wr.cell? ⟨T+1,256,none⟩=some (.slice (some ⟨T,0,none⟩) 0 2):=by rw[hr.out.1.cell (by decide)];rfl
     have hT0:∀ o1 o2,((wr.alloc o1).alloc o2).cell? ⟨T,0,none⟩=some (.string ⟨#[]⟩):=fun o1 o2=>((hr.out.2.alloc o1).alloc o2).cell (by decide)
     have hTf:∀ o1 o2,((wr.alloc o1).alloc o2).frozen? ⟨T,0,none⟩=false:=fun o1 o2=>((hr.out.2.alloc o1).alloc o2).frozen _
     have hR3:∀ o1 o2,((wr.alloc o1).alloc o2).cell? ⟨T+1,256,none⟩=some (.slice (some ⟨T,0,none⟩) 0 2):=fun o1 o2=>by rw[((hr.out.1.alloc o1).alloc o2).cell (by decide)];rfl
     have hRf:∀ o1 o2,((wr.alloc o1).alloc o2).frozen? ⟨T+1,256,none⟩=false:=fun o1 o2=>((hr.out.1.alloc o1).alloc o2).frozen _
     have hR4:∀ o1 o2 v1 v2 o3,(((((wr.alloc o1).alloc o2).setCell ⟨T,0,none⟩ v1).setCell ⟨T+1,256,none⟩ v2).alloc o3).cell? ⟨T+1,b.toNat,none⟩=some (.slice none 0 0):=fun o1 o2 v1 v2 o3=>by
      rw[((((((hr.out.1.alloc o1).alloc o2).setOther (a:=⟨T,0,none⟩) (by simp) v1).set 256 v2)).alloc o3).cell (by omega)]
      rw[qW (by omega)];unfold zr;rw[qW (by have:=b.toNat_lt;omega)]
     have hRg:∀ o1 o2 v1 v2 o3,(((((wr.alloc o1).alloc o2).setCell ⟨T,0,none⟩ v1).setCell ⟨T+1,256,none⟩ v2).alloc o3).frozen? ⟨T+1,b.toNat,none⟩=false:=fun o1 o2 v1 v2 o3=>
      ((((((hr.out.1.alloc o1).alloc o2).setOther (a:=⟨T,0,none⟩) (by simp) v1).set 256 v2)).alloc o3).frozen _
     clear g2
     go_wp2
     go_roundg 1
     case measure=>exact Nat.lt_succ_self _
     case rel=>
      have HS:=z3y wr T 0 1 b b1 b2 hsz hr.out.1 hr.out.2;obtain⟨q1,q2,q3,q4,q5,q6,q7⟩:=HS;have q8:=World.block_lt_of_cell? _ _ q3;refine⟨hbx.trans q6,q7,Or.inr (Or.inl ⟨rfl,rfl,wr.heap.size+1+1,bcap (w4 wr T 0 1 b),by omega,q8,(?_:_/\_/\_/\_)⟩)⟩
      refine⟨q1.congr (fun j _ => ?_),q2,q3,q4⟩
      ·show (if _ then _ else if _ then _ else zr _ j)=_
       unfold zr;by_cases h1:j=b.toNat
       ·rw[qX h1,qX h1]
       ·by_cases h2:j=256
        ·rw[qW h1,qX h2,qW h1,qX h2]
        ·rw[qW h1,qW h2,qW h2,qW h1,qW h2]
    ·have g0:∀ h,(⟨#[a]⟩:ByteArray)[0]'h=a:=fun _=>rfl
     have g1:(a.toNat:Int)<256:=by have:=a.toNat_lt;omega
     have g2:a.toNat<256:=a.toNat_lt;have hne:¬ a.toNat=b.toNat:=fun h=>hab (UInt8.toNat_inj.1 h)
     have HNE:Aside (¬ a.toNat=b.toNat):=hne;have hRb:wr.cell? ⟨T+1,a.toNat,none⟩=some (.slice none 0 0):=by
      rw[hr.out.1.cell (by omega)];rw[qW (by omega),qW (by omega)]
     have hR2:wr.cell? ⟨T+1,256,none⟩=some (.slice (some ⟨T,0,none⟩) 1 2):=by rw[hr.out.1.cell (by decide)];rw[qW (by have:=b.toNat_lt;omega),qX rfl]
     have hT0:∀ o1 o2,((wr.alloc o1).alloc o2).cell? ⟨T,1,none⟩=some (.string ⟨#[]⟩):=fun o1 o2=>((hr.out.2.1.alloc o1).alloc o2).cell (by decide)
     have hTf:∀ o1 o2,((wr.alloc o1).alloc o2).frozen? ⟨T,1,none⟩=false:=fun o1 o2=>((hr.out.2.1.alloc o1).alloc o2).frozen _
     have hR3:∀ o1 o2,((wr.alloc o1).alloc o2).cell? ⟨T+1,256,none⟩=some (.slice (some ⟨T,0,none⟩) 1 2):=fun o1 o2=>by rw[((hr.out.1.alloc o1).alloc o2).cell (by decide)];rw[qW (by have:=b.toNat_lt;omega),qX rfl]
     have hRf:∀ o1 o2,((wr.alloc o1).alloc o2).frozen? ⟨T+1,256,none⟩=false:=fun o1 o2=>((hr.out.1.alloc o1).alloc o2).frozen _
     have hR4:∀ o1 o2 v1 v2 o3,(((((wr.alloc o1).alloc o2).setCell ⟨T,1,none⟩ v1).setCell ⟨T+1,256,none⟩ v2).alloc o3).cell? ⟨T+1,a.toNat,none⟩=some (.slice none 0 0):=fun o1 o2 v1 v2 o3=>by
      rw[((((((hr.out.1.alloc o1).alloc o2).setOther (a:=⟨T,1,none⟩) (by simp) v1).set 256 v2)).alloc o3).cell (by omega)]
      rw[qW (by omega)];rw[qW (by omega),qW (by omega)]
     have hRg:∀ o1 o2 v1 v2 o3,(((((wr.alloc o1).alloc o2).setCell ⟨T,1,none⟩ v1).setCell ⟨T+1,256,none⟩ v2).alloc o3).frozen? ⟨T+1,a.toNat,none⟩=false:=fun o1 o2 v1 v2 o3=>
      ((((((hr.out.1.alloc o1).alloc o2).setOther (a:=⟨T,1,none⟩) (by simp) v1).set 256 v2)).alloc o3).frozen _
     clear g2 hne
     go_wp2
     go_roundg 0
     case measure=>exact Nat.lt_succ_self _
     case rel=>
      have HS:=z3y wr T 1 2 a a1 a2 hsz hr.out.1 hr.out.2.1;obtain⟨q1,q2,q3,q4,q5,q6,q7⟩:=HS;have hgbR:=(q5 ⟨gb,0,none⟩ hgb hgs).trans hr.out.2.2.1;have hgbS:=(q5 ⟨gb,1,none⟩ hgb hgs).trans hr.out.2.2.2;have hB:qy1 (T+1) a b a1 a2 b1 b2 (w5 wr T 1 2 a a1 a2):=by
       refine⟨wr.heap.size+1+1,gb,T,bcap (w4 wr T 1 2 a),cb,2,fun d => ?_,?_,?_,?_,q3,q4,hgbR,hgbS⟩
       ·rw[q1.cell (by have:=d.toNat_lt;omega)]
        unfold rv;by_cases h1:d=a
        ·rw[qX (congrArg _ h1),qX h1]
        ·rw[qW (fun h=>h1 (UInt8.toNat_inj.1 h)),qW h1,qW (by have:=d.toNat_lt;omega)]
         by_cases h2:d=b
         ·rw[qX (congrArg _ h2),qX h2]
         ·rw[qW (fun h=>h2 (UInt8.toNat_inj.1 h)),qW h2,qW (by have:=d.toNat_lt;omega)]
       ·rw[q1.cell (by decide),qW (by have:=a.toNat_lt;omega),qX rfl]
       ·rw[q2.cell (by decide)];rfl
       ·rw[q2.cell (by decide)];rfl
      exact⟨hbx.trans q6,q7,Or.inr (Or.inr ⟨rfl,rfl,hB⟩)⟩
    ·go_wp2
     go_ret
     exact⟨T+1,rfl,hr.out,by rw[hS.out];exact hbx⟩
end Go.Proofs.Repl
namespace Go.Proofs.YtiidadfafmcdmaaGreatDoor.Once
theorem disable (w:World):(callFunc 249 #[]).run Tryz.prog w = .ok (.value (.tuple #[])) w:=run_call_mark0 Tryz.func249 (by kernel_rfl) (by kernel_rfl) (by kernel_rfl) .disable (by kernel_rfl) w
theorem enable (w:World):(callFunc 251 #[]).run Tryz.prog w = .ok (.value (.tuple #[])) w:=run_call_mark0 Tryz.func251 (by kernel_rfl) (by kernel_rfl) (by kernel_rfl) .enable (by kernel_rfl) w
theorem acquire (a:Addr) (w:World):(callFunc 252 #[.pointer (some a)]).run Tryz.prog w = .ok (.value (.tuple #[])) w:=run_call_marked Tryz.func252 (by kernel_rfl) (by kernel_rfl) (by kernel_rfl) .acquire (by kernel_rfl) a w
theorem releaseMerge (a:Addr) (w:World):(callFunc 254 #[.pointer (some a)]).run Tryz.prog w = .ok (.value (.tuple #[])) w:=run_call_marked Tryz.func254 (by kernel_rfl) (by kernel_rfl) (by kernel_rfl) .releaseMerge (by kernel_rfl) a w
set_option maxRecDepth 100000 in
set_option maxHeartbeats 1600000 in
theorem q39 (a:Addr) (x:Value) (u:FrameMode) (w:World) (hc:w.cell? a=some x) (hz:w.frozen? a=false) :
  CallsD Tryz.prog 208 #[.pointer (some a),.bool true] u w fun e u' w'=>u'=u/\(e = .returned (.tuple #[])/\w'=w.drew.setCell a (.int .u32 1)):=by
 have hc':w.drew.cell? a=some x:=by go_simp
 have hz':w.drew.frozen? a=false:=by go_simp
 have hst:=run_call_store (P:=Tryz.prog) Tryz.func231 (by kernel_rfl) (by kernel_rfl) (by kernel_rfl) (by kernel_rfl) (k := .u32) (y:=1) hc' hz'
 go_enter_d Tryz.func208,Tryz.ntmps208
 go_wp2
 go_region_calls
 all_goals (go_end0;exact⟨rfl,rfl⟩)
set_option maxRecDepth 100000 in
set_option maxHeartbeats 1600000 in
theorem q2y (a:Addr) (u:FrameMode) (w:World) (hc:w.cell? a=some (.int .i32 1)) (hz:w.frozen? a=false) :
  CallsD Tryz.prog 207 #[.pointer (some a)] u w fun e u' w'=>u'=u/\(e = .returned (.tuple #[])/\w'=w.setCell a (.int .i32 0)):=by
 have hd:=disable;have he:=enable;have hr:=releaseMerge;have hadd:=run_call_add (P:=Tryz.prog) Tryz.func255 (by kernel_rfl) (by kernel_rfl) (by kernel_rfl) .i32 (by kernel_rfl) (y := -1) (s:=0) hc hz (by simp[go_sem];rfl)
 have hcv:=run_convert_to_unsafe (P:=Tryz.prog) (src:=296) (dst:=300) Tryz.underlying296 Tryz.underlying300 (by kernel_rfl) hc
 go_enter_d Tryz.func207,Tryz.ntmps207
 go_wp2
 go_end0
 go_wp2
 go_end0
 exact⟨rfl,rfl⟩
set_option maxRecDepth 100000 in
set_option maxHeartbeats 1600000 in
theorem zic (a:Addr) (w:World) (hc:w.cell? a=some (.int .i32 0)) (hz:w.frozen? a=false) :
  Calls Tryz.prog 206 #[.pointer (some a)] w fun e w'=>e = .returned (.tuple #[])/\w'=w.setCell a (.int .i32 1):=by
 have hd:=disable;have he:=enable;have ha:=acquire;have hcas:=run_call_cas_hit (P:=Tryz.prog) Tryz.func250 (by kernel_rfl) (by kernel_rfl) (by kernel_rfl) .i32 (by kernel_rfl) (y:=1) hc hz
 have hc':(w.setCell a (.int .i32 1)).cell? a=some (.int .i32 1):=World.cell?_setCell_same w a _ hc;have hcv:=run_convert_to_unsafe (P:=Tryz.prog) (src:=296) (dst:=300) Tryz.underlying296 Tryz.underlying300 (by kernel_rfl) hc'
 go_enter Tryz.func206,Tryz.ntmps206
 go_wp2
 first|go_end0|(simp only[Exit.inBlock,Exit.then];refine bodyPost_ret (results_none rfl _ _ _) rfl ?_)|refine bodyPost_ret (results_none rfl _ _ _) rfl ?_
 go_wp2
 go_end0
 exact⟨rfl,rfl⟩
end Go.Proofs.YtiidadfafmcdmaaGreatDoor.Once
namespace Go.Proofs.YtiidadfafmcdmaaGreatDoor.Once
set_option maxRecDepth 100000 in
set_option maxHeartbeats 1600000 in
theorem slow (b:Nat) (w:World) (R:World->Prop)
  (h0:w.cell? ⟨b,0,none⟩=some (.int .u32 0)) (h1:w.cell? ⟨b,0+1,none⟩=some (.int .i32 0)) (f0:w.frozen? ⟨b,0,none⟩=false) (f1:w.frozen? ⟨b,0+1,none⟩=false)
  (hf:Calls Tryz.prog 161 #[.pointer (some ⟨b,0,none⟩)] (w.setCell ⟨b,0+1,none⟩ (.int .i32 1)) fun e w'=>e = .returned (.tuple #[])/\R w')
  (hR:∀ w',R w'->w'.cell? ⟨b,0,none⟩=some (.int .u32 0)/\w'.frozen? ⟨b,0,none⟩=false/\w'.cell? ⟨b,0+1,none⟩=some (.int .i32 1)/\w'.frozen? ⟨b,0+1,none⟩=false) :
  Calls Tryz.prog 184 #[.pointer (some ⟨b,0,none⟩),.func (.func 161) #[.pointer (some ⟨b,0,none⟩)] #[]] w fun e w'=>e = .returned (.tuple #[])/\∃ w1,R w1/\w'=(w1.drew.setCell ⟨b,0,none⟩ (.int .u32 1)).setCell ⟨b,0+1,none⟩ (.int .i32 0):=by
 have hl:=run_call_load (P:=Tryz.prog) Tryz.func205 (by kernel_rfl) (by kernel_rfl) (by kernel_rfl) .u32 (by kernel_rfl) (w:=w.setCell ⟨b,0+1,none⟩ (.int .i32 1)) (a:=⟨b,0,none⟩) (x:=0) ((World.cell?_setCell_other _ ⟨b,0+1,none⟩ ⟨b,0,none⟩ _ (by simp)).trans h0)
 have hnot:∀ (x:Bool) (w:World),(Op.unary .not (.bool x)).run Tryz.prog w = .ok (.bool (!x)) w:=fun _ _=>rfl
 go_enter_defers Tryz.func184,Tryz.ntmps184
 go_wp2_with (first|(go_at_call 206;refine (zic ⟨b,0+1,none⟩ _ (by go_simp) (by go_simp)).mono ?_;rintro e w' ⟨rfl,rfl⟩)|(go_at_call 183;go_in)|(go_at_call 161;refine hf.mono ?_;rintro e w' ⟨rfl,hw⟩))
 obtain⟨r0,rf0,r1,rf1⟩:=hR w' hw
 first|go_end0|skip
 first|go_wp2|skip
 refine leaves_cons (f:=208) (args:=#[.pointer (some ⟨b,0,none⟩),.bool true]) (by simp) (by simp[go_sem]) ?_
 refine (q39 ⟨b,0,none⟩ (.int .u32 0) .returning _ r0 rf0).mono ?_;rintro e u' w'' ⟨rfl,rfl,rfl⟩
 refine leaves_cons (f:=207) (args:=#[.pointer (some ⟨b,0+1,none⟩)]) (by simp[settle]) (by simp[go_sem]) ?_
 have r1':(w'.drew.setCell ⟨b,0,none⟩ (.int .u32 1)).cell? ⟨b,0+1,none⟩=some (.int .i32 1):=by
  refine (World.cell?_setCell_other _ ⟨b,0,none⟩ ⟨b,0+1,none⟩ _ (by simp)).trans ?_
  rw[World.cell?_drew];exact r1
 refine (q2y ⟨b,0+1,none⟩ _ _ r1' (by simp[rf1])).mono ?_
 rintro e u' w'' ⟨rfl,rfl,rfl⟩
 simp[Leaves,settle,results,Tryz.results184];exact⟨w',hw,rfl⟩
set_option maxRecDepth 100000 in
set_option maxHeartbeats 1600000 in
theorem zc7 (b:Nat) (w:World) (R:World->Prop)
  (h0:w.cell? ⟨b,0,none⟩=some (.int .u32 0)) (h1:w.cell? ⟨b,0+1,none⟩=some (.int .i32 0)) (f0:w.frozen? ⟨b,0,none⟩=false) (f1:w.frozen? ⟨b,0+1,none⟩=false)
  (hf:Calls Tryz.prog 161 #[.pointer (some ⟨b,0,none⟩)] (w.setCell ⟨b,0+1,none⟩ (.int .i32 1)) fun e w'=>e = .returned (.tuple #[])/\R w')
  (hR:∀ w',R w'->w'.cell? ⟨b,0,none⟩=some (.int .u32 0)/\w'.frozen? ⟨b,0,none⟩=false/\w'.cell? ⟨b,0+1,none⟩=some (.int .i32 1)/\w'.frozen? ⟨b,0+1,none⟩=false) :
  Calls Tryz.prog 160 #[.pointer (some ⟨b,0,none⟩),.func (.func 161) #[.pointer (some ⟨b,0,none⟩)] #[]] w fun e w'=>e = .returned (.tuple #[])/\∃ w1,R w1/\w'=(w1.drew.setCell ⟨b,0,none⟩ (.int .u32 1)).setCell ⟨b,0+1,none⟩ (.int .i32 0):=by
 have hl:=run_call_load (P:=Tryz.prog) Tryz.func205 (by kernel_rfl) (by kernel_rfl) (by kernel_rfl) .u32 (by kernel_rfl) h0
 have hnot:∀ (x:Bool) (w:World),(Op.unary .not (.bool x)).run Tryz.prog w = .ok (.bool (!x)) w:=fun _ _=>rfl
 go_enter Tryz.func160,Tryz.ntmps160
 go_wp2_with (first|(go_at_call 183;go_in)|(go_at_call 184;refine (slow b w R h0 h1 f0 f1 hf hR).mono ?_;rintro e w' ⟨rfl,w1,hw1,rfl⟩))
 go_end0
 exact⟨rfl,w1,hw1,rfl⟩
set_option maxRecDepth 100000 in
set_option maxHeartbeats 1600000 in
theorem zry (a:Addr) (d:Int) (hd:¬ d=0) (fv:Value) (w:World) (h0:w.cell? a=some (.int .u32 d)) :
  Calls Tryz.prog 160 #[.pointer (some a),fv] w fun e w'=>e = .returned (.tuple #[])/\w'=w:=by
 have hl:=run_call_load (P:=Tryz.prog) Tryz.func205 (by kernel_rfl) (by kernel_rfl) (by kernel_rfl) .u32 (by kernel_rfl) h0
 have hnot:∀ (x:Bool) (w:World),(Op.unary .not (.bool x)).run Tryz.prog w = .ok (.bool (!x)) w:=fun _ _=>rfl
 have hd':(d != 0)=true:=by simp[hd]
 go_enter Tryz.func160,Tryz.ntmps160
 go_wp2
 go_end0
 exact⟨rfl,rfl⟩
end Go.Proofs.YtiidadfafmcdmaaGreatDoor.Once
namespace Go.Proofs.YtiidadfafmcdmaaGreatDoor.Once
set_option maxRecDepth 100000 in
set_option maxHeartbeats 1600000 in
theorem replace_first (b:Nat) (s:ByteArray) (w:World) (R:World->Prop) (Q:Value->World->Prop)
  (h0:w.cell? ⟨b,0,none⟩=some (.int .u32 0)) (h1:w.cell? ⟨b,0+1,none⟩=some (.int .i32 0)) (f0:w.frozen? ⟨b,0,none⟩=false) (f1:w.frozen? ⟨b,0+1,none⟩=false)
  (hf:Calls Tryz.prog 161 #[.pointer (some ⟨b,0,none⟩)] (w.setCell ⟨b,0+1,none⟩ (.int .i32 1)) fun e w'=>e = .returned (.tuple #[])/\R w')
  (hR:∀ w',R w'->w'.cell? ⟨b,0,none⟩=some (.int .u32 0)/\w'.frozen? ⟨b,0,none⟩=false/\w'.cell? ⟨b,0+1,none⟩=some (.int .i32 1)/\w'.frozen? ⟨b,0+1,none⟩=false)
  (hg:∀ w',R w'->∃ g,w'.cell? ⟨b,3,none⟩=some (.iface 251 (.pointer (some ⟨g,0,none⟩))) /\
   Calls Tryz.prog 317 #[.pointer (some ⟨g,0,none⟩),.string s] ((w'.drew.setCell ⟨b,0,none⟩ (.int .u32 1)).setCell ⟨b,0+1,none⟩ (.int .i32 0)) fun e w''=>∃ v,e = .returned v/\Q v w'') :
  Calls Tryz.prog 127 #[.pointer (some ⟨b,0,none⟩),.string s] w fun e w'=>∃ v,e = .returned v/\Q v w':=by
 have hme : ∀ (g : Nat) (w : World), (method 471 251 (.pointer (some ⟨g, 0, none⟩)) "Replace").run Tryz.prog w = .ok (317, .pointer (some ⟨g, 0, none⟩)) w := fun _ _ => by kernel_rfl
 go_enter Tryz.func127,Tryz.ntmps127
 go_wp2_with (first|(go_at_call 160;refine (zc7 b w R h0 h1 f0 f1 hf hR).mono ?_;rintro e w' ⟨rfl,w1,hw1,rfl⟩;obtain⟨g,hg1,hg2⟩:=hg w1 hw1;have hc3:((w1.drew.setCell ⟨b,0,none⟩ (.int .u32 1)).setCell ⟨b,0+1,none⟩ (.int .i32 0)).cell? ⟨b,3,none⟩=some (.iface 251 (.pointer (some ⟨g,0,none⟩))):=((World.cell?_setCell_other _ ⟨b,0+1,none⟩ ⟨b,3,none⟩ _ (by simp)).trans ((World.cell?_setCell_other _ ⟨b,0,none⟩ ⟨b,3,none⟩ _ (by simp)).trans (by rw[World.cell?_drew];exact hg1))))|(go_at_call 317;refine hg2.mono ?_;rintro e w' ⟨v,rfl,hq⟩))
 go_ret
 exact⟨_,rfl,hq⟩
set_option maxRecDepth 100000 in
set_option maxHeartbeats 1600000 in
theorem replace_done (b g:Nat) (s:ByteArray) (w:World) (Q:Value->World->Prop) (d:Int) (hd:¬ d=0)
  (h0:w.cell? ⟨b,0,none⟩=some (.int .u32 d)) (hc3:w.cell? ⟨b,3,none⟩=some (.iface 251 (.pointer (some ⟨g,0,none⟩))))
  (hg2:Calls Tryz.prog 317 #[.pointer (some ⟨g,0,none⟩),.string s] w fun e w''=>∃ v,e = .returned v/\Q v w'') :
  Calls Tryz.prog 127 #[.pointer (some ⟨b,0,none⟩),.string s] w fun e w'=>∃ v,e = .returned v/\Q v w':=by
 have hme : ∀ (g : Nat) (w : World), (method 471 251 (.pointer (some ⟨g, 0, none⟩)) "Replace").run Tryz.prog w = .ok (317, .pointer (some ⟨g, 0, none⟩)) w := fun _ _ => by kernel_rfl
 go_enter Tryz.func127,Tryz.ntmps127
 go_wp2_with (first|(go_at_call 160;refine (zry ⟨b,0,none⟩ d hd _ w h0).mono ?_;rintro e w' ⟨rfl,rfl⟩)|(go_at_call 317;refine hg2.mono ?_;rintro e w' ⟨v,rfl,hq⟩))
 go_ret
 exact⟨_,rfl,hq⟩
set_option maxRecDepth 100000 in
set_option maxHeartbeats 1600000 in
theorem replaceS_first (b:Nat) (s:ByteArray) (w:World) (R:World->Prop) (Q:Value->World->Prop)
  (h0:w.cell? ⟨b,0,none⟩=some (.int .u32 0)) (h1:w.cell? ⟨b,0+1,none⟩=some (.int .i32 0)) (f0:w.frozen? ⟨b,0,none⟩=false) (f1:w.frozen? ⟨b,0+1,none⟩=false)
  (hf:Calls Tryz.prog 161 #[.pointer (some ⟨b,0,none⟩)] (w.setCell ⟨b,0+1,none⟩ (.int .i32 1)) fun e w'=>e = .returned (.tuple #[])/\R w')
  (hR:∀ w',R w'->w'.cell? ⟨b,0,none⟩=some (.int .u32 0)/\w'.frozen? ⟨b,0,none⟩=false/\w'.cell? ⟨b,0+1,none⟩=some (.int .i32 1)/\w'.frozen? ⟨b,0+1,none⟩=false)
  (hg:∀ w',R w'->∃ g,w'.cell? ⟨b,3,none⟩=some (.iface 255 (.pointer (some ⟨g,0,none⟩))) /\
   Calls Tryz.prog 319 #[.pointer (some ⟨g,0,none⟩),.string s] ((w'.drew.setCell ⟨b,0,none⟩ (.int .u32 1)).setCell ⟨b,0+1,none⟩ (.int .i32 0)) fun e w''=>∃ v,e = .returned v/\Q v w'') :
  Calls Tryz.prog 127 #[.pointer (some ⟨b,0,none⟩),.string s] w fun e w'=>∃ v,e = .returned v/\Q v w':=by
 have hme : ∀ (g : Nat) (w : World), (method 471 255 (.pointer (some ⟨g, 0, none⟩)) "Replace").run Tryz.prog w = .ok (319, .pointer (some ⟨g, 0, none⟩)) w := fun _ _ => by kernel_rfl
 go_enter Tryz.func127,Tryz.ntmps127
 go_wp2_with (first|(go_at_call 160;refine (zc7 b w R h0 h1 f0 f1 hf hR).mono ?_;rintro e w' ⟨rfl,w1,hw1,rfl⟩;obtain⟨g,hg1,hg2⟩:=hg w1 hw1;have hc3:((w1.drew.setCell ⟨b,0,none⟩ (.int .u32 1)).setCell ⟨b,0+1,none⟩ (.int .i32 0)).cell? ⟨b,3,none⟩=some (.iface 255 (.pointer (some ⟨g,0,none⟩))):=((World.cell?_setCell_other _ ⟨b,0+1,none⟩ ⟨b,3,none⟩ _ (by simp)).trans ((World.cell?_setCell_other _ ⟨b,0,none⟩ ⟨b,3,none⟩ _ (by simp)).trans (by rw[World.cell?_drew];exact hg1))))|(go_at_call 319;refine hg2.mono ?_;rintro e w' ⟨v,rfl,hq⟩))
 go_ret
 exact⟨_,rfl,hq⟩
end Go.Proofs.YtiidadfafmcdmaaGreatDoor.Once
namespace Go.Sym
open Go.RowKit
variable [LC]
theorem Mem.blocks_none {G:Gh} {hp:List (Nat×Box)} {w:World} (hm:Mem G hp w) {b:Nat} (h:qwn G hp b) (o:Nat):G.imm b o=none:=by
 obtain⟨n,bx,hl,ha⟩:=h;have hb:=hm.holds n bx hl
 cases bx with
 | cells cs T=>obtain⟨B,vs,h1,_,_,_,h5⟩:=hb;simp only[Gh.at,h1,qI]at ha;subst ha;exact h5 o
 | row τ l E=>
  obtain⟨a,c,h1,h2⟩:=hb;rcases h2 with ⟨rfl,_⟩|⟨g,vs,fz,rfl,_,_,_,_,_,_,_,h9⟩
  ·simp only[Gh.at,h1]at ha;cases ha
  ·simp only[Gh.at,h1,qI]at ha;subst ha;exact h9 o
 | loop st pe f m fr ps tag D=>obtain⟨B,tmps,DB,h1,_,_,_,_,h5⟩:=hb;simp only[Gh.at,h1,qI]at ha;subst ha;exact h5 o
 | dfr=>obtain⟨B,h1,_,h5⟩:=hb;simp only[Gh.at,h1,qI]at ha;subst ha;exact h5 o
 | it s p=>obtain⟨B,h1,_,h5⟩:=hb;simp only[Gh.at,h1,qI]at ha;subst ha;exact h5 o
 | dead=>cases ha
theorem qbm.gone {P:Program} {f:FuncId} {xs:List AV} {hp:List (Nat×Box)} {r:AV}
  (h:∀ (w:World) (G:Gh) (vs:List Value),Mem G hp w->Reps xs G vs->Calls P f vs.toArray w fun e w'=>∃ v,e = .returned v/\Rep r G v/\Bel (qwn G hp) w w'):qbm P f xs hp r []:=by
 intro w G vs hm hr;refine (h w G vs hm hr).mono ?_;rintro e w' ⟨v,rfl,hv,hs⟩
 have hblk:∀ b o v,G.imm b o=some v->w'.heap[b]? = w.heap[b]? := fun b o v hv=>hs.block b (World.block_lt_of_cell? _ _ (hm.agree b o v hv)) fun hb=>by
  rw[hm.blocks_none hb o]at hv;cases hv
 refine⟨v,G,rfl,⟨⟨fun b o v hv=>by rw[World.cell?_of_block (w:=w) (hblk b o v hv)];exact hm.agree b o v hv,hm.one,fun n bx h=>(by cases h),fun n m bx bx' b h=>(by cases h),LC.mono (fun _ _ _ h=>h) hblk hm.tab⟩,hs,fun _ _ _ h=>h,fun _ _ _ h => .inl h,fun n bx b h=>(by cases h),fun _ _ _ _ h=>h,fun _ _ _ _ h=>h⟩,hv⟩
end Go.Sym
set_option linter.unusedVariables false
namespace Go.Proofs.Repl
open Go.Shelf Go.RowKit Go.Lib Go.Sym
theorem qy1.setCell {R q n:Nat} {u:Int} {a b a1 a2 b1 b2:UInt8} {w:World} (h:qy1 R a b a1 a2 b1 b2 w) (hq:w.cell? ⟨q,0,none⟩=some (.int .u32 u)) (v:Value):qy1 R a b a1 a2 b1 b2 (w.setCell ⟨q,n,none⟩ v):=by
 obtain⟨ga,gb,gt,ca,cb,ct,h1,h2,h3,h4,h5,h6,h7,h8⟩:=h.ex;have kR:¬ R=q:=fun e=>by
  have:=h1 0;subst e;rw[show (0:UInt8).toNat=0 from rfl,hq]at this
  unfold rv at this;split at this
  ·cases this
  ·split at this<;>cases this
 have kt:¬ gt=q:=fun e=>by subst e;rw[hq]at h3;cases h3
 have ka:¬ ga=q:=fun e=>by subst e;rw[hq]at h5;cases h5
 have kb:¬ gb=q:=fun e=>by subst e;rw[hq]at h7;cases h7
 have k:∀ {p:Nat} {o:Nat} {x:Value},¬ p=q->w.cell? ⟨p,o,none⟩=some x->(w.setCell ⟨q,n,none⟩ v).cell? ⟨p,o,none⟩=some x:=fun {p o x} hp hx=>by
  rw[World.cell?_of_block (w:=w) (Below.heap_setCell w ⟨q,n,none⟩ v p hp)];exact hx
 exact⟨ga,gb,gt,ca,cb,ct,fun c=>k kR (h1 c),k kR h2,k kt h3,k kt h4,k ka h5,k ka h6,k kb h7,k kb h8⟩
structure Once (q:Nat) (w w':World):Prop where
 bel:Bel (fun k=>k=q) w w'
 c0:w'.cell? ⟨q,0,none⟩=some (.int .u32 0)
 c1:w'.cell? ⟨q,0+1,none⟩=some (.int .i32 1)
 f0:w'.frozen? ⟨q,0,none⟩=false
 f1:w'.frozen? ⟨q,0+1,none⟩=false
theorem zqx (S:Nat->Prop) (w:World):Bel S w w.drew:=⟨rfl,rfl,rfl,wF _,fun _ _ _=>rfl⟩
theorem q6e {S:Nat->Prop} {w w':World} (h:Below w.heap.size w w'):Bel S w w':=⟨h.os,h.tape,h.output,h.size,fun k hk _=>h.block k hk⟩
theorem q7s {q:Nat} {w w':World} (h:Bel (fun k=>k=q) w w') (n:Nat) (v:Value):Bel (fun k=>k=q) w (w'.setCell ⟨q,n,none⟩ v):=
 ⟨h.os,h.tape,h.output,by simp[World.setCell];exact h.size,fun k hk hn=>(Below.heap_setCell w' ⟨q,n,none⟩ v k hn).trans (h.block k hk hn)⟩
theorem zte {S:Nat->Prop} {a b c:World} (h:Bel S a b) (k:Bel S b c):Bel S a c:=
 ⟨k.os.trans h.os,k.tape.trans h.tape,k.output.trans h.output,Nat.le_trans h.size k.size,fun i hi hn=>(k.block i (Nat.lt_of_lt_of_le hi h.size) hn).trans (h.block i hi hn)⟩
set_option maxHeartbeats 1600000 in
set_option maxRecDepth 100000 in
theorem zyt (q ro cap:Nat) (v3:Value) (a b a1 a2 b1 b2:UInt8) (w:World) (hab:a≠b)
  (c0:w.cell? ⟨q,0,none⟩=some (.int .u32 0)) (c1:w.cell? ⟨q,0+1,none⟩=some (.int .i32 1)) (hf:∀ j,w.frozen? ⟨q,j,none⟩=false) (c3:w.cell? ⟨q,3,none⟩=some v3)
  (hc:w.cell? ⟨q,4,none⟩=some (.slice (some ⟨ro,0,none⟩) 4 cap)) (h0:w.cell? ⟨ro,0,none⟩=some (.string ⟨#[a]⟩)) (h1:w.cell? ⟨ro,1,none⟩=some (.string ⟨#[a1,a2]⟩)) (h2:w.cell? ⟨ro,2,none⟩=some (.string ⟨#[b]⟩)) (h3:w.cell? ⟨ro,3,none⟩=some (.string ⟨#[b1,b2]⟩)) :
  Calls Tryz.prog 161 #[.pointer (some ⟨q,0,none⟩)] w fun e w'=>e = .returned (.tuple #[])/\Once q w w'/\∃ R,w'.cell? ⟨q,3,none⟩=some (.iface 255 (.pointer (some ⟨R,0,none⟩)))/\qy1 R a b a1 a2 b1 b2 w':=by
 have hqlt:q<w.heap.size:=World.block_lt_of_cell? _ _ c0;have hB:=bldS q ro cap a b a1 a2 b1 b2 w hab hc h0 h1 h2 h3
 go_enter Tryz.func161,Tryz.ntmps161
 go_wp2_with (go_at_call 185;go_must (refine hB.mono ?_;rintro e W ⟨R,rfl,hBu,hbe⟩;have k0:∀ {j:Nat} {v:Value},w.cell? ⟨q,j,none⟩=some v->W.cell? ⟨q,j,none⟩=some v:=(fun hj=>(hbe.cell (World.block_lt_of_cell? _ _ hj)).trans hj);have kf:∀ j,W.frozen? ⟨q,j,none⟩=false:=(fun j=>(hbe.frozen (p:=⟨q,j,none⟩) hqlt).trans (hf j));have d0:=k0 c0;have d1:=k0 c1;have d3:=k0 c3;have d4:=k0 hc;clear hB hf k0))
 have d0':(W.setCell ⟨q,3,none⟩ (.iface 255 (.pointer (some ⟨R,0,none⟩)))).cell? ⟨q,0,none⟩=some (.int .u32 0):=by rw[World.cell?_setCell_other _ _ _ _ (by simp)];exact d0
 have d1':(W.setCell ⟨q,3,none⟩ (.iface 255 (.pointer (some ⟨R,0,none⟩)))).cell? ⟨q,0+1,none⟩=some (.int .i32 1):=by rw[World.cell?_setCell_other _ _ _ _ (by simp)];exact d1
 have d3':=World.cell?_setCell_same W ⟨q,3,none⟩ (.iface 255 (.pointer (some ⟨R,0,none⟩))) d3
 go_end0
 refine⟨rfl,⟨q7s (q7s (q6e hbe) 3 _) 4 _,?_,?_,?_,?_⟩,R,?_,(hBu.setCell d0 _).setCell d0' _⟩
 ·rw[World.cell?_setCell_other _ _ _ _ (by simp)];exact d0'
 ·rw[World.cell?_setCell_other _ _ _ _ (by simp)];exact d1'
 ·simp[kf]
 ·simp[kf]
 ·rw[World.cell?_setCell_other _ _ _ _ (by simp)];exact d3'
theorem replS (q ro cap:Nat) (v3:Value) (a b a1 a2 b1 b2:UInt8) (s:ByteArray) (w:World) (hab:a≠b) (hs:s.size<=1000000)
  (c0:w.cell? ⟨q,0,none⟩=some (.int .u32 0)) (c1:w.cell? ⟨q,0+1,none⟩=some (.int .i32 0)) (hf:∀ j,w.frozen? ⟨q,j,none⟩=false) (c3:w.cell? ⟨q,3,none⟩=some v3)
  (hc:w.cell? ⟨q,4,none⟩=some (.slice (some ⟨ro,0,none⟩) 4 cap)) (h0:w.cell? ⟨ro,0,none⟩=some (.string ⟨#[a]⟩)) (h1:w.cell? ⟨ro,1,none⟩=some (.string ⟨#[a1,a2]⟩)) (h2:w.cell? ⟨ro,2,none⟩=some (.string ⟨#[b]⟩)) (h3:w.cell? ⟨ro,3,none⟩=some (.string ⟨#[b1,b2]⟩)) :
  Calls Tryz.prog 127 #[.pointer (some ⟨q,0,none⟩),.string s] w fun e w'=>∃ v,e = .returned v/\v = .string ⟨(escs a b [a1,a2] [b1,b2] s.data.toList).toArray⟩/\Bel (fun k=>k=q) w w':=by
 have hne:¬ ro=q:=fun e=>by subst e;rw[c0]at h0;cases h0
 have k:∀ {p:Addr} {x:Value},p≠⟨q,0+1,none⟩->w.cell? p=some x->(w.setCell ⟨q,0+1,none⟩ (.int .i32 1)).cell? p=some x:=fun {p x} hp hx=>by
  rw[World.cell?_setCell_other _ _ _ _ (fun e=>hp e.symm)];exact hx
 have kb:Bel (fun k=>k=q) w (w.setCell ⟨q,0+1,none⟩ (.int .i32 1)):=q7s (q6e (Below.refl _ _)) _ _
 refine Go.Proofs.YtiidadfafmcdmaaGreatDoor.Once.replaceS_first q s w (fun w'=>Once q (w.setCell ⟨q,0+1,none⟩ (.int .i32 1)) w'/\∃ R,w'.cell? ⟨q,3,none⟩=some (.iface 255 (.pointer (some ⟨R,0,none⟩)))/\qy1 R a b a1 a2 b1 b2 w') (fun v w'=>v = .string ⟨(escs a b [a1,a2] [b1,b2] s.data.toList).toArray⟩/\Bel (fun k=>k=q) w w') c0 c1 (hf _) (hf _) ?_ ?_ ?_
 ·exact zyt q ro cap v3 a b a1 a2 b1 b2 _ hab (k (by simp) c0) (World.cell?_setCell_same w _ _ c1) (fun j=>by simp[hf]) (k (by simp) c3) (k (by simp) hc) (k (by intro h;exact hne (congrArg Addr.block h)) h0) (k (by intro h;exact hne (congrArg Addr.block h)) h1) (k (by intro h;exact hne (congrArg Addr.block h)) h2) (k (by intro h;exact hne (congrArg Addr.block h)) h3)
 ·rintro w' ⟨ho,_⟩
  exact⟨ho.c0,ho.f0,ho.c1,ho.f1⟩
 ·rintro w' ⟨ho,R,hR,hBu⟩
  refine⟨R,hR,?_⟩;have e0:w'.drew.cell? ⟨q,0,none⟩=some (.int .u32 0):=by rw[World.cell?_drew];exact ho.c0
  have e1:=World.cell?_setCell_same w'.drew ⟨q,0,none⟩ (.int .u32 1) e0;have hB2:qy1 R a b a1 a2 b1 b2 ((w'.drew.setCell ⟨q,0,none⟩ (.int .u32 1)).setCell ⟨q,0+1,none⟩ (.int .i32 0)):=
   ((hBu.below (Below.refl _ w').drew).setCell e0 _).setCell e1 _
  have hBel:Bel (fun k=>k=q) w ((w'.drew.setCell ⟨q,0,none⟩ (.int .u32 1)).setCell ⟨q,0+1,none⟩ (.int .i32 0)):=
   q7s (q7s (zte (zte kb ho.bel) (zqx _ _)) 0 _) (0+1) _
  refine (va0 R a b a1 a2 b1 b2 s _ hab hs hB2).mono ?_;rintro e w2 ⟨rfl,hb2⟩
  exact⟨_,rfl,rfl,zte hBel (q6e hb2)⟩
end Go.Proofs.Repl
namespace Go.Sym
open Go.Proofs Go.RowKit
variable [LC]
theorem q2t (a b a1 a2 b1 b2:UInt8) (s:Bs) (p2:Int) (hab:a≠b) (hs:s.length<=1000000) :
  qbm Tryz.prog 127 [.ptr 0 0,.str s] [(0,.cells [.int .u32 0,.int .i32 0,.int .u32 p2,.val .nilIface,.own 1] 191),(1,.row .str [[a],[a1,a2],[b],[b1,b2]] 9)] (.str (escs a b [a1,a2] [b1,b2] s)) []:=by
 refine qbm.gone fun w G vs hm hr => ?_
 match vs,hr with
 | [v1,v2],hr=>
 obtain⟨⟨q,hG,rfl⟩,r2,_⟩:=hr;have r2:v2 = .string ⟨s.toArray⟩:=r2;subst r2;obtain⟨B,cs,g1,g2,g3,g4,g5⟩:=hm.holds 0 _ rfl;rw[show G.box 0=some q from hG]at g1
 cases g1
 obtain⟨ad,c,us,o1,o2,o3,o4⟩:=(hm.holds 1 (.row .str [[a],[a1,a2],[b],[b1,b2]] 9) rfl).rowAt;obtain⟨u0,c0,x0⟩:=qiq g3 (i:=0) rfl;obtain⟨u1,c1,x1⟩:=qiq g3 (i:=1) rfl;obtain⟨u3,c3,x3⟩:=qiq g3 (i:=3) rfl;obtain⟨u4,c4,x4⟩:=qiq g3 (i:=4) rfl;have x0:u0 = .int .u32 0:=x0;have x1:u1 = .int .i32 0:=x1;obtain⟨ad',n',c',x5,x4⟩:=x4;rw[o1]at x5;cases x5
 subst x0 x1 x4;have k:∀ {i:Nat} {v:Value},cs.toList[i]? = some v->w.cell? ⟨q,i,none⟩=some v:=fun {i v} h=>cell_of_heap g2 h
 obtain⟨ho1,ho2⟩:=o2;rcases ho2 with ⟨_,h0,_⟩|⟨g,vr,fz,rfl,e1,_,e3,e4,e5,e6,_⟩
 ·cases h0
 ·have hus:us=[.string ⟨#[a]⟩,.string ⟨#[a1,a2]⟩,.string ⟨#[b]⟩,.string ⟨#[b1,b2]⟩]:=by
   match us,o3 with
   | [y0,y1,y2,y3],⟨z0,z1,z2,z3,_⟩=>
    have z0:y0 = .string ⟨#[a]⟩:=z0;have z1:y1 = .string ⟨#[a1,a2]⟩:=z1;have z2:y2 = .string ⟨#[b]⟩:=z2;have z3:y3 = .string ⟨#[b1,b2]⟩:=z3;rw[z0,z1,z2,z3]
  have kr:∀ {i:Nat} {v:Value},us[i]? = some v->w.cell? ⟨g,i,none⟩=some v:=fun {i v} h=>by
   rw[← e6,List.getElem?_take]at h;split at h
   ·exact cell_of_heap e1 h
   ·cases h
  subst hus;refine (Go.Proofs.Repl.replS q g c u3 a b a1 a2 b1 b2 ⟨s.toArray⟩ w hab (by rw[qtm];exact hs) (k c0) (k c1) (fun j=>by simp[World.frozen?,g2]) (k c3) (k c4) (kr (i:=0) rfl) (kr (i:=1) rfl) (kr (i:=2) rfl) (kr (i:=3) rfl)).mono ?_
  rintro e w' ⟨v,rfl,rfl,hb⟩
  refine⟨_,rfl,rfl,⟨hb.os,hb.tape,hb.output,hb.size,fun k hk hn=>hb.block k hk (fun e=>hn ?_)⟩⟩
  subst e;exact⟨0,_,rfl,hG⟩
def q44:IF:=⟨.fn 127,[.ptr 0 0,.h .str],[(0,.cells [.h (.int .u32),.h (.int .i32),.h (.int .u32),.c .nilIface,.own 1] 191),(1,.row .str 9)],_,RS.mk (.h .str) []⟩
theorem q8g:(q44.e qif).Sound Tryz.prog:=fun d d' r h=>by
 obtain⟨_,s,_⟩:=d;obtain⟨⟨p0,p1,p2,_,_,_⟩,on,_⟩:=d';have h:qif s p0 p1 p2 on=some r:=h;obtain⟨a,a1,a2,b,b1,b2,rfl,rfl,rfl,hab,hs,rfl⟩:=q4c h;exact⟨Tryz.call127,q2t a b a1 a2 b1 b2 s p2 hab hs⟩
end Go.Sym
namespace Go.Sym
noncomputable section
open Go.Proofs
set_option linter.unusedVariables false
set_option maxRecDepth 100000
set_option maxHeartbeats 2000000
abbrev wT : Ty := .tree (.prod (.list (.prod .str .str)) (.list .byte))
abbrev wL : Ty := .list (.prod .str .str)
abbrev wP : Ty := .prod .str .str
abbrev wH : Pt := .h (.int .i64)
abbrev wI : Ty := .int .i64
abbrev wB : Ty := .list .byte
abbrev wN : Pt := .c .nilS
abbrev wS : Pt := .h .str
abbrev wG : Program := Tryz.prog
def zjf:Nat->Option ((τ:Ty)×List τ.den)
 | 1=>some ⟨.byte,tab1⟩
 | 2=>some ⟨.prod .byte .byte,tab2⟩
 | 3=>some ⟨.int .u64,tab3⟩
 | _=>none
def lcOf:Nat->Option (Code×Code)
 | 0=>some (qyv 0 (sub (qxj Tryz.f10) [0,1,0,1,1]),qyv 1 (sub (qxj Tryz.f10) [0,1,0,1,1]))
 | 1=>some (qyv 0 (sub (qxj Tryz.f10) [0,1,0,1,1,1,1]),qyv 1 (sub (qxj Tryz.f10) [0,1,0,1,1,1,1]))
 | 2=>some (qyv 0 (sub (qxj Tryz.f84) [0,1,0,1,1,1]),qyv 1 (sub (qxj Tryz.f84) [0,1,0,1,1,1]))
 | 3=>some (qyv 0 (sub (qxj Tryz.f96) [0,1,0,1]),qyv 1 (sub (qxj Tryz.f96) [0,1,0,1]))
 | _=>none
instance:LC:=⟨lcOf,zjf,[0],[6,7],[(1,256),(2,32),(3,20)]⟩
theorem zes:wG.follows .mixedOrders=true:=by kernel_rfl
def etys:List (Nat×Ty):=[(3,.int .i64),(5,.byte),(9,.str),(23,.list .byte),(26,.tree (.prod wL wB)),(50,.prod .str .str),(86,.prod .str .str),(149,.prod .str (.prod .str (.prod wI .bool))),(209,.prod .str (.prod wI (.prod .bool .str)))]
abbrev fx {i:IF}:=@Fx.mk inferInstance wG i etys zes
theorem qtc:(qit 176 qbv).Sound wG:=qvm Tryz.func176 (by kernel_rfl) (by kernel_rfl) (by kernel_rfl) (by kernel_rfl)
theorem qn9:(qeg 237 qbv).Sound wG:=qrc Tryz.func237 (by kernel_rfl) (by kernel_rfl) (by kernel_rfl) (by kernel_rfl)
def x0i:IF:=⟨.fn 22,[],[],_,RS.mk (.h wT) []⟩
def x0:Fx wG x0i:=fx Tryz.f22 22 Tryz.func22 [] false [] qaf []
def x0s:EI wG x0i:=x0.fin q3r [] Tryz.call22 rfl rfl (by kernel_rfl) fun d d'=>by kernel_rfl
def x1i:IF:=⟨.fn 23,[.h wT],[],_,RS.mk (.fn 49 [.ptr 0 0]) [(0,.dat wT 26)]⟩
def x1:Fx wG x1i:=fx Tryz.f23 23 Tryz.func23 [] false [] qaf []
def x1s:EI wG x1i:=x1.fin qs6 [] Tryz.call23 rfl rfl (by kernel_rfl) fun d d'=>by kernel_rfl
def x2i:IF:=⟨.fn 24,[wH,wH],[],_,RS.mk (.h (.prod wI wI)) []⟩
def x2:Fx wG x2i:=fx Tryz.f24 24 Tryz.func24 [] false [] qaf []
def x2s:EI wG x2i:=x2.fin qae [] Tryz.call24 rfl rfl (by kernel_rfl) fun d d'=>by kernel_rfl
def x3i:IF:=⟨.yld 0,[wH,.agg [.h wL,.h wB,.h (.list wT),wH]],[(0,.loop .ready none 10 36 [(2,.ptr 1 0),(3,.ptr 2 0)] [11,12] 0 3),(1,.dat (.prod wI wI) 30),(2,.cells [.h .bool] 4),(3,.dfr)],_,.two (RS.mk (.c (.bool false)) [(0,.loop .done (some .ret) 10 36 [(2,.ptr 1 0),(3,.ptr 2 0)] [11,12] 0 3),(1,.dat (.prod wI wI) 30),(2,.cells [.h .bool] 4),(3,.dfr)]) (RS.mk (.c (.bool true)) [(0,.loop .ready none 10 36 [(2,.ptr 1 0),(3,.ptr 2 0)] [11,12] 0 3),(1,.dat (.prod wI wI) 30),(2,.cells [.h .bool] 4),(3,.dfr)])⟩
def x3:Fx wG x3i:=fx Tryz.f10 10 Tryz.func10 [x2s.p] false [([0,1,0,1,1],0)] (q8u rfl qaf) []
def x3s:EI wG x3i:=x3.fiy ql5 [] 0 rfl [0,1,0,1,1] (by kernel_rfl) (by kernel_rfl) fun d d'=>by kernel_rfl
def x4i:IF:=⟨.fn 50,[.h wT,wH,.ptr 0 0,.ptr 1 0,.ptr 2 0],[(0,.cells [.yld 3] 92),(1,.cells [wH] 3),(2,.cells [.fn 50 [.ptr 0 0,.ptr 1 0,.ptr 2 0]] 93),(3,.loop .ready none 10 36 [(2,.ptr 4 0),(3,.ptr 5 0)] [11,12] 0 6),(4,.dat (.prod wI wI) 30),(5,.cells [.h .bool] 4),(6,.dfr)],_,.two (RS.mk (.c (.bool false)) [(0,.cells [.yld 3] 92),(1,.cells [wH] 3),(2,.cells [.fn 50 [.ptr 0 0,.ptr 1 0,.ptr 2 0]] 93),(3,.loop .done (some .ret) 10 36 [(2,.ptr 4 0),(3,.ptr 5 0)] [11,12] 0 6),(4,.dat (.prod wI wI) 30),(5,.cells [.h .bool] 4),(6,.dfr)]) (RS.mk (.c (.bool true)) [(0,.cells [.yld 3] 92),(1,.cells [wH] 3),(2,.cells [.fn 50 [.ptr 0 0,.ptr 1 0,.ptr 2 0]] 93),(3,.loop .ready none 10 36 [(2,.ptr 4 0),(3,.ptr 5 0)] [11,12] 0 6),(4,.dat (.prod wI wI) 30),(5,.cells [.h .bool] 4),(6,.dfr)])⟩
def x4 (s8:EI wG x4i) (fu:Nat):Fx wG x4i:=fx Tryz.f50 50 Tryz.func50 [x3s.p,s8.p] false [] qaf [(pkey [(0,488),(0,489),(2,122),(1,61),(0,31)],⟨33,[(1,wH),(4,.ptr 2 0),(20,.h (.list wT)),(21,wH),(22,wH)],[(0,.cells [.yld 3] 92),(1,.cells [wH] 3),(2,.cells [.fn 50 [.ptr 0 0,.ptr 1 0,.ptr 2 0]] 93),(3,.loop .ready none 10 36 [(2,.ptr 4 0),(3,.ptr 5 0)] [11,12] 0 6),(4,.dat (.prod wI wI) 30),(5,.cells [.h .bool] 4),(6,.dfr)],64,[]⟩)]
def x4p0 (s8:EI wG x4i) (fu:Nat):Nat->(x4 s8 fu).L 0:=Fx.lp (qff s8.f fu) (ql6 s8.f fu) (fun _=>rfl) (fun _=>rfl) (fun r0=>[r0.s]) fun _ d=>by kernel_rfl
def x4k (s8:EI wG x4i) (fu:Nat):EI wG x4i:=(x4 s8 fu).fin (qj4 s8.f fu) [(x4p0 s8 fu fu).s] Tryz.call50 rfl rfl (by kernel_rfl) fun d d'=>by kernel_rfl
def x4s (fu:Nat):EI wG x4i := .rc (qec fu) (fun r=>qj4 r fu) (fun _ _=>rfl) (fun _=>rfl) (fun s8=>x4k s8 fu) (fun _=>rfl) fu
def x5i:IF:=⟨.fn 49,[.yld 0,.ptr 1 0],[(0,.loop .ready none 10 36 [(2,.ptr 2 0),(3,.ptr 3 0)] [11,12] 0 4),(1,.dat wT 26),(2,.dat (.prod wI wI) 30),(3,.cells [.h .bool] 4),(4,.dfr)],_,.two (RS.mk (.tup []) [(0,.loop .done (some .ret) 10 36 [(2,.ptr 2 0),(3,.ptr 3 0)] [11,12] 0 4),(1,.dat wT 26),(2,.dat (.prod wI wI) 30),(3,.cells [.h .bool] 4),(4,.dfr)]) (RS.mk (.tup []) [(0,.loop .ready none 10 36 [(2,.ptr 2 0),(3,.ptr 3 0)] [11,12] 0 4),(1,.dat wT 26),(2,.dat (.prod wI wI) 30),(3,.cells [.h .bool] 4),(4,.dfr)])⟩
def x5 (fu:Nat):Fx wG x5i:=fx Tryz.f49 49 Tryz.func49 [(x4s fu).p] false [] qaf []
def x5s (fu:Nat):EI wG x5i:=(x5 fu).fin (qpu fu) [] Tryz.call49 rfl rfl (by kernel_rfl) fun d d'=>by kernel_rfl
def x6i:IF:=⟨.fn 145,[.h .byte],[],_,RS.mk (.h .bool) []⟩
def x6:Fx wG x6i:=fx Tryz.f145 145 Tryz.func145 [] false [] qaf []
def x6s:EI wG x6i:=x6.fin qq5 [] Tryz.call145 rfl rfl (by kernel_rfl) fun d d'=>by kernel_rfl
def x7i:IF:=⟨.fn 117,[wS,.fn 145 []],[],_,RS.mk (.h .bool) []⟩
def x7 (fu:Nat):Fx wG x7i:=fx Tryz.f117 117 Tryz.func117 [x6s.p] false [] qaf [(pkey [(0,104),(0,105),(2,26),(1,13),(0,7)],⟨18,[(0,wS),(1,.fn 145 []),(7,wH),(8,wH)],[],64,[]⟩)]
def x7p0 (fu:Nat):Nat->(x7 fu).L 0:=Fx.lp (qli fu) (qti fu) (fun _=>rfl) (fun _=>rfl) (fun r0=>[r0.s]) fun _ d=>by kernel_rfl
def x7s (fu:Nat):EI wG x7i:=(x7 fu).fin (qyb fu) [(x7p0 fu fu).s] Tryz.call117 rfl rfl (by kernel_rfl) fun d d'=>by kernel_rfl
def x8i:IF:=⟨.fn 113,[wS],[],_,RS.mk (.h .bool) []⟩
def x8 (fu:Nat):Fx wG x8i:=fx Tryz.f113 113 Tryz.func113 [(x7s fu).p] false [] qaf []
def x8s (fu:Nat):EI wG x8i:=(x8 fu).fin (qu0 fu) [] Tryz.call113 rfl rfl (by kernel_rfl) fun d d'=>by kernel_rfl
def x9i:IF:=⟨.fn 225,[wH],[],_,RS.mk (.h .bool) []⟩
def x9:Fx wG x9i:=fx Tryz.f225 225 Tryz.func225 [] false [] qaf []
def x9s:EI wG x9i:=x9.fin qfb [] Tryz.call225 rfl rfl (by kernel_rfl) fun d d'=>by kernel_rfl
def x10i:IF:=⟨.fn 155,[wS],[],_,RS.mk (.tup [.arr .bool,.h .bool]) []⟩
def x10 (fu:Nat):Fx wG x10i:=fx Tryz.f155 155 Tryz.func155 [] false [] qaf [(pkey [(0,208),(0,209),(0,105),(2,26),(1,13),(0,7)],⟨21,[(0,wS),(2,.el 32 1),(4,wH)],[(32,.row .bool 194)],64,[]⟩)]
def z7o (fu:Nat):Nat->(x10 fu).L 0:=Fx.lp (qgq fu) (qln fu) (fun _=>rfl) (fun _=>rfl) (fun r0=>[r0.s]) fun _ d=>by kernel_rfl
def x10s (fu:Nat):EI wG x10i:=(x10 fu).fin (qca fu) [(z7o fu fu).s] Tryz.call155 rfl rfl (by kernel_rfl) fun d d'=>by kernel_rfl
def x11i:IF:=⟨.fn 216,[wS,.h .byte],[],_,RS.mk (wH) []⟩
def x11:Fx wG x11i:=fx Tryz.f216 216 Tryz.func216 [⟨qeg 237 qbv,qn9⟩] false [] qaf []
def x11s:EI wG x11i:=x11.fin qdc [] Tryz.call216 rfl rfl (by kernel_rfl) fun d d'=>by kernel_rfl
def x12i:IF:=⟨.fn 191,[wS,.h .byte],[],_,RS.mk (wH) []⟩
def x12:Fx wG x12i:=fx Tryz.f191 191 Tryz.func191 [x11s.p] false [] qaf []
def x12s:EI wG x12i:=x12.fin qfg [] Tryz.call191 rfl rfl (by kernel_rfl) fun d d'=>by kernel_rfl
def x13i:IF:=⟨.fn 228,[.h (.int .i32)],[],_,RS.mk (.h .bool) []⟩
def x13:Fx wG x13i:=fx Tryz.f228 228 Tryz.func228 [] false [] qaf []
def x13s:EI wG x13i:=x13.fin qd6 [] Tryz.call228 rfl rfl (by kernel_rfl) fun d d'=>by kernel_rfl
def x14i:IF:=⟨.fn 203,[wS,.h (.int .i32)],[],_,RS.mk (wH) []⟩
def x14 (fu:Nat):Fx wG x14i:=fx Tryz.f203 203 Tryz.func203 [x12s.p,x13s.p] false [] qaf [(pkey [(0,3528),(0,3529),(2,882),(1,441),(0,221),(1,3)],⟨187,[(175,.ptr 32 0)],[(32,.it)],64,[]⟩),(pkey [(0,117301840),(0,117301841),(0,58650921),(2,14662730),(1,7331365),(0,3665683),(3,458210),(1,229105),(2,57276),(1,28638),(0,28639),(3,447),(1,3)],⟨187,[(0,wS),(7,wS),(8,wH),(9,wH),(12,wH)],[],64,[]⟩),(pkey [(0,7331364),(0,7331365),(0,3665683),(3,458210),(1,229105),(2,57276),(1,28638),(0,28639),(3,447),(1,3)],⟨187,[(0,wS),(7,wS),(8,wH),(9,wH)],[],64,[]⟩),(pkey [(0,458208),(0,458209),(0,229105),(2,57276),(1,28638),(0,28639),(3,447),(1,3)],⟨187,[(0,wS),(7,wS),(8,wH),(9,wH)],[],64,[]⟩),(pkey [(0,13),(1,3)],⟨187,[(0,wS),(1,.h (.int .i32)),(160,.h .bool)],[],64,[]⟩)]
def z97 (fu:Nat):Nat->(x14 fu).L 0:=Fx.lp (qdg fu) (qjk fu) (fun _=>rfl) (fun _=>rfl) (fun r1=>[r1.s]) fun _ d=>by kernel_rfl
def z7k (fu:Nat) (r2:(x14 fu).L 3):Nat->(x14 fu).L 1:=Fx.lp (qjn fu r2.f) (qnt fu r2.f) (fun _=>rfl) (fun _=>rfl) (fun r4=>[r4.s]) fun _ d=>by kernel_rfl
def z5q (fu:Nat) (r2:(x14 fu).L 3):(x14 fu).L 2:=Fx.jn (qjm fu r2.f) [(z7k fu r2 fu).s] fun d=>by kernel_rfl
def z8w (fu:Nat):Nat->(x14 fu).L 3:=Fx.lp (qfq fu) (qjl fu) (fun _=>rfl) (fun _=>rfl) (fun r2=>[(z5q fu r2).s]) fun _ d=>by kernel_rfl
def z8t (fu:Nat):(x14 fu).L 4:=Fx.jn (qdi fu) [(z97 fu fu).s,(z8w fu fu).s] fun d=>by kernel_rfl
def x14s (fu:Nat):EI wG x14i:=(x14 fu).fin (qbw fu) [(z8t fu).s] Tryz.call203 rfl rfl (by kernel_rfl) fun d d'=>by kernel_rfl
def x15i:IF:=⟨.fn 179,[.el 0 1,.h .byte],[(0,.row .bool 194)],_,RS.mk (.h .bool) [(0,.row .bool 194)]⟩
def x15:Fx wG x15i:=fx Tryz.f179 179 Tryz.func179 [] false [] qaf []
def x15s:EI wG x15i:=x15.fin qa9 [] Tryz.call179 rfl rfl (by kernel_rfl) fun d d'=>by kernel_rfl
def x16i:IF:=⟨.fn 200,[wS,wS],[],_,RS.mk (wH) []⟩
def x16 (fu:Nat):Fx wG x16i:=fx Tryz.f200 200 Tryz.func200 [x9s.p,(x10s fu).p,(x14s fu).p,x15s.p] false [] qaf [(pkey [(0,470),(0,471),(0,15)],⟨55,[(0,wS),(5,.h (.int .i32))],[],64,[]⟩),(pkey [(0,62864),(0,62865),(0,31433),(2,7858),(1,3929),(0,1965),(0,31)],⟨55,[(0,wS),(6,.el 32 1),(8,wH)],[(32,.row .bool 194)],64,[]⟩),(pkey [(0,1000),(0,1001),(2,250),(1,125),(0,63)],⟨55,[(1,wS),(45,.ptr 32 0)],[(32,.it)],64,[]⟩),(pkey [(0,124),(0,125),(0,63)],⟨55,[(0,wS),(1,wS)],[],64,[]⟩)]
def z6i (fu:Nat):(x16 fu).L 0:=Fx.jn (qko fu) [] fun d=>by kernel_rfl
def z8b (fu:Nat):Nat->(x16 fu).L 1:=Fx.lp (qd0 fu) (qj8 fu) (fun _=>rfl) (fun _=>rfl) (fun r1=>[r1.s]) fun _ d=>by kernel_rfl
def z5c (fu:Nat):Nat->(x16 fu).L 2:=Fx.lp (qdz fu) (qks fu) (fun _=>rfl) (fun _=>rfl) (fun r3=>[r3.s]) fun _ d=>by kernel_rfl
def z6f (fu:Nat):(x16 fu).L 3:=Fx.jn (qf1 fu) [(z5c fu fu).s] fun d=>by kernel_rfl
def x16s (fu:Nat):EI wG x16i:=(x16 fu).fin (qjy fu) [(z6i fu).s,(z8b fu fu).s,(z6f fu).s] Tryz.call200 rfl rfl (by kernel_rfl) fun d d'=>by kernel_rfl
def x17i:IF:=⟨.fn 175,[wS,wS],[],_,RS.mk (.h .bool) []⟩
def x17 (fu:Nat):Fx wG x17i:=fx Tryz.f175 175 Tryz.func175 [(x16s fu).p] false [] qaf []
def x17s (fu:Nat):EI wG x17i:=(x17 fu).fin (qf5 fu) [] Tryz.call175 rfl rfl (by kernel_rfl) fun d d'=>by kernel_rfl
def x18i:IF:=⟨.fn 146,[wS],[],_,RS.mk (.h .bool) []⟩
def x18 (fu:Nat):Fx wG x18i:=fx Tryz.f146 146 Tryz.func146 [(x17s fu).p] false [] qaf []
def x18s (fu:Nat):EI wG x18i:=(x18 fu).fin (qya fu) [] Tryz.call146 rfl rfl (by kernel_rfl) fun d d'=>by kernel_rfl
def x19i:IF:=⟨.fn 123,[.h .byte],[],_,RS.mk (.h .bool) []⟩
def x19:Fx wG x19i:=fx Tryz.f123 123 Tryz.func123 [] false [] qaf []
def x19s:EI wG x19i:=x19.fin qgc [] Tryz.call123 rfl rfl (by kernel_rfl) fun d d'=>by kernel_rfl
def x20i:IF:=⟨.fn 114,[wS],[],_,RS.mk (.h .bool) []⟩
def x20 (fu:Nat):Fx wG x20i:=fx Tryz.f114 114 Tryz.func114 [(x18s fu).p,x19s.p] false [] qaf []
def x20s (fu:Nat):EI wG x20i:=(x20 fu).fin (qs4 fu) [] Tryz.call114 rfl rfl (by kernel_rfl) fun d d'=>by kernel_rfl
def x21i:IF:=⟨.fn 115,[wS,wH],[],_,RS.mk (wH) []⟩
def x21 (fu:Nat):Fx wG x21i:=fx Tryz.f115 115 Tryz.func115 [x19s.p] false [] qaf [(pkey [(0,3729),(0,1865),(1,466),(0,467),(2,58),(1,29),(0,15)],⟨35,[(0,wS),(5,wH),(6,wH),(26,.h .bool)],[],64,[]⟩),(pkey [(0,464),(0,465),(0,233),(2,58),(1,29),(0,15)],⟨35,[(0,wS),(5,wH),(6,wH)],[],64,[]⟩)]
def vba (fu:Nat) (r0:(x21 fu).L 1):(x21 fu).L 0:=Fx.jn (qnj fu r0.f) [r0.s] fun d=>by kernel_rfl
def z9x (fu:Nat):Nat->(x21 fu).L 1:=Fx.lp (qkq fu) (qr0 fu) (fun _=>rfl) (fun _=>rfl) (fun r0=>[(vba fu r0).s]) fun _ d=>by kernel_rfl
def x21s (fu:Nat):EI wG x21i:=(x21 fu).fin (qs5 fu) [(z9x fu fu).s] Tryz.call115 rfl rfl (by kernel_rfl) fun d d'=>by kernel_rfl
def x22i:IF:=⟨.fn 26,[],[],_,RS.mk (.h (.prod wI wI)) []⟩
def x22:Fx wG x22i:=fx Tryz.f26 26 Tryz.func26 [] false [] qaf []
def x22s:EI wG x22i:=x22.fin qa0 [] Tryz.call26 rfl rfl (by kernel_rfl) fun d d'=>by kernel_rfl
def x23i:IF:=⟨.fn 80,[wS,wS],[],_,RS.mk (.tup [.own 0,.h (.prod wI wI)]) [(0,.row .str 9)]⟩
def x23 (fu:Nat):Fx wG x23i:=fx Tryz.f80 80 Tryz.func80 [(x8s fu).p,x2s.p,(x20s fu).p,(x21s fu).p,x22s.p] false [] qaf [(pkey [(0,4072),(0,4073),(2,1018),(1,509),(0,255)],⟨70,[(5,.ptr 32 0),(8,.own 33),(55,.own 33),(56,wH),(57,wH)],[(32,.dat (.prod wI wI) 30),(33,.row .str 9)],64,[]⟩),(pkey [(0,126),(0,127)],⟨70,[(5,.ptr 32 0),(6,wS),(8,.own 33)],[(32,.dat (.prod wI wI) 30),(33,.row .str 9)],64,[]⟩),(pkey [(0,992),(0,993),(0,497),(2,124),(1,62),(0,63)],⟨70,[(5,.ptr 32 0),(6,wS),(7,wH),(8,.own 33)],[(32,.dat (.prod wI wI) 30),(33,.row .str 9)],64,[]⟩)]
def z4v (fu:Nat):Nat->(x23 fu).L 0:=Fx.lp (qlg fu) (qtg fu) (fun _=>rfl) (fun _=>rfl) (fun r2=>[r2.s]) fun _ d=>by kernel_rfl
def z8k (fu:Nat):(x23 fu).L 1:=Fx.jn (qlp fu) [(z4v fu fu).s] fun d=>by kernel_rfl
def va2 (fu:Nat):Nat->(x23 fu).L 2:=Fx.lp (qlu fu) (qtn fu) (fun _=>rfl) (fun _=>rfl) (fun r0=>[(z8k fu).s,r0.s]) fun _ d=>by kernel_rfl
def x23s (fu:Nat):EI wG x23i:=(x23 fu).fin (qma fu) [(va2 fu fu).s] Tryz.call80 rfl rfl (by kernel_rfl) fun d d'=>by kernel_rfl
def x24i:IF:=⟨.fn 29,[.h (.prod wI wI)],[],_,RS.mk (.h .bool) []⟩
def x24:Fx wG x24i:=fx Tryz.f29 29 Tryz.func29 [] false [] qaf []
def x24s:EI wG x24i:=x24.fin qak [] Tryz.call29 rfl rfl (by kernel_rfl) fun d d'=>by kernel_rfl
def x25i:IF:=⟨.fn 51,[.h wL],[],_,RS.mk (.h (.prod wI wI)) []⟩
def x25 (fu:Nat):Fx wG x25i:=fx Tryz.f51 51 Tryz.func51 [x2s.p,(x23s fu).p,x24s.p,x22s.p] false [] qaf [(pkey [(0,232),(0,233),(2,58),(1,29),(0,15)],⟨34,[(2,.ptr 32 0),(11,.h wL),(12,wH),(13,wH)],[(32,.dat (.prod wI wI) 30)],64,[]⟩)]
def vap (fu:Nat):Nat->(x25 fu).L 0:=Fx.lp (qel fu) (qle fu) (fun _=>rfl) (fun _=>rfl) (fun r0=>[r0.s]) fun _ d=>by kernel_rfl
def x25s (fu:Nat):EI wG x25i:=(x25 fu).fin (qhs fu) [(vap fu fu).s] Tryz.call51 rfl rfl (by kernel_rfl) fun d d'=>by kernel_rfl
def x26i:IF:=⟨.fn 116,[wS],[],_,RS.mk (wS) []⟩
def x26 (fu:Nat):Fx wG x26i:=fx Tryz.f116 116 Tryz.func116 [] false [] qaf [(pkey [(0,232),(0,233),(2,58),(1,29),(0,15)],⟨30,[(3,.own 32),(8,.own 32),(9,wH),(10,wH)],[(32,.row .byte 5)],64,[]⟩)]
def z8m (fu:Nat):Nat->(x26 fu).L 0:=Fx.lp (qf0 fu) (ql2 fu) (fun _=>rfl) (fun _=>rfl) (fun r0=>[r0.s]) fun _ d=>by kernel_rfl
def x26s (fu:Nat):EI wG x26i:=(x26 fu).fin (qm8 fu) [(z8m fu fu).s] Tryz.call116 rfl rfl (by kernel_rfl) fun d d'=>by kernel_rfl
def x27i:IF:=⟨.fn 81,[wS,wS],[],_,RS.mk (.h .bool) []⟩
def x27 (fu:Nat):Fx wG x27i:=fx Tryz.f81 81 Tryz.func81 [(x26s fu).p] false [] qaf []
def x27s (fu:Nat):EI wG x27i:=(x27 fu).fin (qb7 fu) [] Tryz.call81 rfl rfl (by kernel_rfl) fun d d'=>by kernel_rfl
def x28i:IF:=⟨.fn 153,[wS,.h .byte],[],_,RS.mk (wS) []⟩
def x28 (fu:Nat):Fx wG x28i:=fx Tryz.f153 153 Tryz.func153 [] false [] qaf [(pkey [(0,96),(0,97),(0,49),(2,12),(1,6),(0,7)],⟨17,[(0,wS),(1,.h .byte)],[],64,[]⟩)]
def z90 (fu:Nat):Nat->(x28 fu).L 0:=Fx.lp (qgv fu) (qlm fu) (fun _=>rfl) (fun _=>rfl) (fun r0=>[r0.s]) fun _ d=>by kernel_rfl
def x28s (fu:Nat):EI wG x28i:=(x28 fu).fin (qjs fu) [(z90 fu fu).s] Tryz.call153 rfl rfl (by kernel_rfl) fun d d'=>by kernel_rfl
def x29i:IF:=⟨.fn 156,[wS,.el 0 1],[(0,.row .bool 194)],_,RS.mk (wS) [(0,.row .bool 194)]⟩
def x29 (fu:Nat):Fx wG x29i:=fx Tryz.f156 156 Tryz.func156 [x15s.p] false [] qaf [(pkey [(0,96),(0,97),(0,49),(2,12),(1,6),(0,7)],⟨16,[(0,wS),(1,.el 0 1)],[(0,.row .bool 194)],64,[]⟩)]
def z41 (fu:Nat):Nat->(x29 fu).L 0:=Fx.lp (qb4 fu) (qfr fu) (fun _=>rfl) (fun _=>rfl) (fun r0=>[r0.s]) fun _ d=>by kernel_rfl
def x29s (fu:Nat):EI wG x29i:=(x29 fu).fin (qep fu) [(z41 fu fu).s] Tryz.call156 rfl rfl (by kernel_rfl) fun d d'=>by kernel_rfl
def x30i:IF:=⟨.fn 202,[wS],[],_,RS.mk (.tup [.h (.int .i32),wH]) []⟩
def x30:Fx wG x30i:=fx Tryz.f202 202 Tryz.func202 [] false [] qaf [(pkey [(0,524286),(0,524287)],⟨117,[(5,.h .byte),(10,.h .byte),(11,.h .byte),(12,.h .byte)],[],64,[]⟩),(pkey [(0,524285),(0,262143)],⟨117,[(5,.h .byte),(10,.h .byte),(11,.h .byte),(12,.h .byte),(98,.h .bool)],[],64,[]⟩),(pkey [(0,131068),(0,131069),(0,65535)],⟨117,[(0,wS),(5,.h .byte),(8,wH),(10,.h .byte),(11,.h .byte)],[],64,[]⟩),(pkey [(0,65533),(0,32767)],⟨117,[(0,wS),(5,.h .byte),(8,wH),(10,.h .byte),(11,.h .byte),(75,.h .bool)],[],64,[]⟩),(pkey [(0,16380),(0,16381),(0,8191)],⟨117,[(0,wS),(5,.h .byte),(8,wH),(10,.h .byte)],[],64,[]⟩),(pkey [(0,8189),(0,4095)],⟨117,[(0,wS),(5,.h .byte),(8,wH),(10,.h .byte),(57,.h .bool)],[],64,[]⟩)]
def z6n:x30.L 0:=Fx.jn qdv [] fun d=>by kernel_rfl
def vbi:x30.L 1:=Fx.jn qbr [(z6n).s] fun d=>by kernel_rfl
def z6z:x30.L 2:=Fx.jn qdt [(vbi).s] fun d=>by kernel_rfl
def vae:x30.L 3:=Fx.jn qbt [(z6z).s] fun d=>by kernel_rfl
def z40:x30.L 4:=Fx.jn qds [(vae).s] fun d=>by kernel_rfl
def vam:x30.L 5:=Fx.jn qbs [(z40).s] fun d=>by kernel_rfl
def x30s:EI wG x30i:=x30.fin qb5 [(vam).s] Tryz.call202 rfl rfl (by kernel_rfl) fun d d'=>by kernel_rfl
def x31i:IF:=⟨.fn 180,[wS],[],_,RS.mk (.tup [.h (.int .i32),wH]) []⟩
def x31:Fx wG x31i:=fx Tryz.f180 180 Tryz.func180 [x30s.p] false [] qaf []
def x31s:EI wG x31i:=x31.fin qcy [] Tryz.call180 rfl rfl (by kernel_rfl) fun d d'=>by kernel_rfl
def x32i:IF:=⟨.fn 181,[wS,.h (.int .i32)],[],_,RS.mk (.h .bool) []⟩
def x32 (fu:Nat):Fx wG x32i:=fx Tryz.f181 181 Tryz.func181 [(x14s fu).p] false [] qaf []
def x32s (fu:Nat):EI wG x32i:=(x32 fu).fin (qfn fu) [] Tryz.call181 rfl rfl (by kernel_rfl) fun d d'=>by kernel_rfl
def x33i:IF:=⟨.fn 158,[wS,wS],[],_,RS.mk (wS) []⟩
def x33 (fu:Nat):Fx wG x33i:=fx Tryz.f158 158 Tryz.func158 [x31s.p,(x32s fu).p] false [] qaf [(pkey [(0,96),(0,97),(0,49),(2,12),(1,6),(0,7)],⟨23,[(0,wS),(1,wS)],[],64,[]⟩)]
def z4z (fu:Nat):Nat->(x33 fu).L 0:=Fx.lp (qeq fu) (qju fu) (fun _=>rfl) (fun _=>rfl) (fun r0=>[r0.s]) fun _ d=>by kernel_rfl
def x33s (fu:Nat):EI wG x33i:=(x33 fu).fin (qgp fu) [(z4z fu fu).s] Tryz.call158 rfl rfl (by kernel_rfl) fun d d'=>by kernel_rfl
def x34i:IF:=⟨.fn 196,[wS,wS],[],_,RS.mk (wS) []⟩
def x34 (fu:Nat):Fx wG x34i:=fx Tryz.f196 196 Tryz.func196 [(x28s fu).p,(x10s fu).p,(x29s fu).p,(x33s fu).p] false [] qaf [(pkey [(0,60),(0,61),(0,31)],⟨37,[(0,wS),(1,wS)],[],64,[]⟩),(pkey [(0,29),(0,15)],⟨37,[(0,wS),(1,wS),(21,.h .bool)],[],64,[]⟩),(pkey [(0,28),(0,29),(0,15)],⟨37,[(0,wS),(1,wS)],[],64,[]⟩),(pkey [(0,13),(0,7)],⟨37,[(0,wS),(1,wS),(12,.h .bool)],[],64,[]⟩)]
def z4l (fu:Nat):(x34 fu).L 0:=Fx.jn (qkv fu) [] fun d=>by kernel_rfl
def z8s (fu:Nat):(x34 fu).L 1:=Fx.jn (qf4 fu) [(z4l fu).s] fun d=>by kernel_rfl
def z9n (fu:Nat):(x34 fu).L 2:=Fx.jn (qkm fu) [(z8s fu).s] fun d=>by kernel_rfl
def z9l (fu:Nat):(x34 fu).L 3:=Fx.jn (qgn fu) [(z9n fu).s] fun d=>by kernel_rfl
def x34s (fu:Nat):EI wG x34i:=(x34 fu).fin (qj2 fu) [(z9l fu).s] Tryz.call196 rfl rfl (by kernel_rfl) fun d d'=>by kernel_rfl
def x35i:IF:=⟨.fn 171,[.ptr 0 0],[(0,.cells [wS] 205)],_,RS.mk (.tup []) [(0,.cells [wS] 205)]⟩
def x35 (fu:Nat):Fx wG x35i:=fx Tryz.f171 171 Tryz.func171 [(x34s fu).p] false [] qaf []
def x35s (fu:Nat):EI wG x35i:=(x35 fu).fin (qbd fu) [] Tryz.call171 rfl rfl (by kernel_rfl) fun d d'=>by kernel_rfl
def x36i:IF:=⟨.fn 168,[.h .byte],[],_,RS.mk (.h .bool) []⟩
def x36:Fx wG x36i:=fx Tryz.f168 168 Tryz.func168 [x12s.p] false [] qaf []
def x36s:EI wG x36i:=x36.fin qba [] Tryz.call168 rfl rfl (by kernel_rfl) fun d d'=>by kernel_rfl
def x37i:IF:=⟨.fn 167,[.ptr 0 0,.fn 168 []],[(0,.cells [wS] 205)],_,RS.mk (wS) [(0,.cells [wS] 205)]⟩
def x37 (fu:Nat):Fx wG x37i:=fx Tryz.f167 167 Tryz.func167 [(x35s fu).p,x36s.p] false [] qaf [(pkey [(0,482),(1,241),(2,60),(1,30),(0,31)],⟨44,[(0,.ptr 0 0),(1,.fn 168 []),(5,wH)],[(0,.cells [wS] 205)],64,[]⟩),(pkey [(0,481),(0,241),(2,60),(1,30),(0,31)],⟨44,[(0,.ptr 0 0),(1,.fn 168 []),(5,wH),(25,.h .bool)],[(0,.cells [wS] 205)],64,[]⟩),(pkey [(0,480),(0,481),(0,241),(2,60),(1,30),(0,31)],⟨44,[(0,.ptr 0 0),(1,.fn 168 []),(5,wH)],[(0,.cells [wS] 205)],64,[]⟩)]
def z6k (fu:Nat) (r0:(x37 fu).L 2):(x37 fu).L 0:=Fx.jn (qns fu r0.f) [r0.s] fun d=>by kernel_rfl
def z9w (fu:Nat) (r0:(x37 fu).L 2):(x37 fu).L 1:=Fx.jn (qjj fu r0.f) [(z6k fu r0).s] fun d=>by kernel_rfl
def z4k (fu:Nat):Nat->(x37 fu).L 2:=Fx.lp (qdf fu) (qnr fu) (fun _=>rfl) (fun _=>rfl) (fun r0=>[(z9w fu r0).s]) fun _ d=>by kernel_rfl
def x37s (fu:Nat):EI wG x37i:=(x37 fu).fin (qfd fu) [(z4k fu fu).s] Tryz.call167 rfl rfl (by kernel_rfl) fun d d'=>by kernel_rfl
def x38i:IF:=⟨.fn 169,[.ptr 0 0,.h .byte],[(0,.cells [wS] 205)],_,RS.mk (.h .bool) [(0,.cells [wS] 205)]⟩
def x38 (fu:Nat):Fx wG x38i:=fx Tryz.f169 169 Tryz.func169 [(x35s fu).p] false [] qaf []
def x38s (fu:Nat):EI wG x38i:=(x38 fu).fin (qch fu) [] Tryz.call169 rfl rfl (by kernel_rfl) fun d d'=>by kernel_rfl
def x39i:IF:=⟨.fn 192,[.h .byte],[],_,RS.mk (.h .bool) []⟩
def x39:Fx wG x39i:=fx Tryz.f192 192 Tryz.func192 [x36s.p] false [] qaf []
def x39s:EI wG x39i:=x39.fin qd3 [] Tryz.call192 rfl rfl (by kernel_rfl) fun d d'=>by kernel_rfl
def x40i:IF:=⟨.fn 167,[.ptr 0 0,.fn 192 []],[(0,.cells [wS] 205)],_,RS.mk (wS) [(0,.cells [wS] 205)]⟩
def x40 (fu:Nat):Fx wG x40i:=fx Tryz.f167 167 Tryz.func167 [(x35s fu).p,x39s.p] false [] qaf [(pkey [(0,482),(1,241),(2,60),(1,30),(0,31)],⟨44,[(0,.ptr 0 0),(1,.fn 192 []),(5,wH)],[(0,.cells [wS] 205)],64,[]⟩),(pkey [(0,481),(0,241),(2,60),(1,30),(0,31)],⟨44,[(0,.ptr 0 0),(1,.fn 192 []),(5,wH),(25,.h .bool)],[(0,.cells [wS] 205)],64,[]⟩),(pkey [(0,480),(0,481),(0,241),(2,60),(1,30),(0,31)],⟨44,[(0,.ptr 0 0),(1,.fn 192 []),(5,wH)],[(0,.cells [wS] 205)],64,[]⟩)]
def z8f (fu:Nat) (r0:(x40 fu).L 2):(x40 fu).L 0:=Fx.jn (qlf fu r0.f) [r0.s] fun d=>by kernel_rfl
def z4r (fu:Nat) (r0:(x40 fu).L 2):(x40 fu).L 1:=Fx.jn (qgt fu r0.f) [(z8f fu r0).s] fun d=>by kernel_rfl
def z8c (fu:Nat):Nat->(x40 fu).L 2:=Fx.lp (qcd fu) (qll fu) (fun _=>rfl) (fun _=>rfl) (fun r0=>[(z4r fu r0).s]) fun _ d=>by kernel_rfl
def x40s (fu:Nat):EI wG x40i:=(x40 fu).fin (qfm fu) [(z8c fu fu).s] Tryz.call167 rfl rfl (by kernel_rfl) fun d d'=>by kernel_rfl
def x41i:IF:=⟨.fn 217,[.h .byte],[],_,RS.mk (.h .bool) []⟩
def x41:Fx wG x41i:=fx Tryz.f217 217 Tryz.func217 [x36s.p] false [] qaf []
def x41s:EI wG x41i:=x41.fin qdh [] Tryz.call217 rfl rfl (by kernel_rfl) fun d d'=>by kernel_rfl
def x42i:IF:=⟨.fn 167,[.ptr 0 0,.fn 217 []],[(0,.cells [wS] 205)],_,RS.mk (wS) [(0,.cells [wS] 205)]⟩
def x42 (fu:Nat):Fx wG x42i:=fx Tryz.f167 167 Tryz.func167 [(x35s fu).p,x41s.p] false [] qaf [(pkey [(0,482),(1,241),(2,60),(1,30),(0,31)],⟨44,[(0,.ptr 0 0),(1,.fn 217 []),(5,wH)],[(0,.cells [wS] 205)],64,[]⟩),(pkey [(0,481),(0,241),(2,60),(1,30),(0,31)],⟨44,[(0,.ptr 0 0),(1,.fn 217 []),(5,wH),(25,.h .bool)],[(0,.cells [wS] 205)],64,[]⟩),(pkey [(0,480),(0,481),(0,241),(2,60),(1,30),(0,31)],⟨44,[(0,.ptr 0 0),(1,.fn 217 []),(5,wH)],[(0,.cells [wS] 205)],64,[]⟩)]
def z5b (fu:Nat) (r0:(x42 fu).L 2):(x42 fu).L 0:=Fx.jn (qlx fu r0.f) [r0.s] fun d=>by kernel_rfl
def z36 (fu:Nat) (r0:(x42 fu).L 2):(x42 fu).L 1:=Fx.jn (qgu fu r0.f) [(z5b fu r0).s] fun d=>by kernel_rfl
def z54 (fu:Nat):Nat->(x42 fu).L 2:=Fx.lp (qcb fu) (qlq fu) (fun _=>rfl) (fun _=>rfl) (fun r0=>[(z36 fu r0).s]) fun _ d=>by kernel_rfl
def x42s (fu:Nat):EI wG x42i:=(x42 fu).fin (qfp fu) [(z54 fu fu).s] Tryz.call167 rfl rfl (by kernel_rfl) fun d d'=>by kernel_rfl
def x43i:IF:=⟨.fn 193,[.ptr 0 0],[(0,.cells [wS] 205)],_,RS.mk (.tup [wS,.h .bool]) [(0,.cells [wS] 205)]⟩
def x43 (fu:Nat):Fx wG x43i:=fx Tryz.f193 193 Tryz.func193 [(x38s fu).p,(x42s fu).p] false [] qaf [(pkey [(0,976),(0,977),(0,489),(2,122),(1,61),(0,31)],⟨66,[(0,.ptr 0 0),(4,.own 32),(5,wH)],[(0,.cells [wS] 205),(32,.row .byte 5)],64,[]⟩)]
def z8p (fu:Nat):Nat->(x43 fu).L 0:=Fx.lp (qcv fu) (qir fu) (fun _=>rfl) (fun _=>rfl) (fun r0=>[r0.s]) fun _ d=>by kernel_rfl
def x43s (fu:Nat):EI wG x43i:=(x43 fu).fin (qg0 fu) [(z8p fu fu).s] Tryz.call193 rfl rfl (by kernel_rfl) fun d d'=>by kernel_rfl
def x44i:IF:=⟨.fn 201,[wS,wS],[],_,RS.mk (wH) []⟩
def x44:Fx wG x44i:=fx Tryz.f201 201 Tryz.func201 [x11s.p] false [] qaf [(pkey [(0,57),(1,14),(0,15)],⟨143,[(0,wS),(1,wS),(5,wH),(16,.h .bool)],[],64,[]⟩)]
def z6o:x44.L 0:=Fx.jn qb1 [] fun d=>by kernel_rfl
def x44s:EI wG x44i:=x44.fin qcs [(z6o).s] Tryz.call201 rfl rfl (by kernel_rfl) fun d d'=>by kernel_rfl
def x45i:IF:=⟨.fn 178,[wS,wS],[],_,RS.mk (.tup [wS,wS,.h .bool]) []⟩
def x45:Fx wG x45i:=fx Tryz.f178 178 Tryz.func178 [x44s.p] false [] qaf []
def x45s:EI wG x45i:=x45.fin qfs [] Tryz.call178 rfl rfl (by kernel_rfl) fun d d'=>by kernel_rfl
def x46i:IF:=⟨.fn 151,[wS,wS],[],_,RS.mk (.tup [wS,wS,.h .bool]) []⟩
def x46:Fx wG x46i:=fx Tryz.f151 151 Tryz.func151 [x45s.p] false [] qaf []
def x46s:EI wG x46i:=x46.fin qmq [] Tryz.call151 rfl rfl (by kernel_rfl) fun d d'=>by kernel_rfl
def x47i:IF:=⟨.fn 147,[wS,wS],[],_,RS.mk (.h .bool) []⟩
def x47:Fx wG x47i:=fx Tryz.f147 147 Tryz.func147 [] false [] qaf []
def x47s:EI wG x47i:=x47.fin qa6 [] Tryz.call147 rfl rfl (by kernel_rfl) fun d d'=>by kernel_rfl
def x48i:IF:=⟨.fn 218,[wS,wS],[],_,RS.mk (.tup [wS,.h .bool]) []⟩
def x48:Fx wG x48i:=fx Tryz.f218 218 Tryz.func218 [x47s.p] false [] qaf []
def x48s:EI wG x48i:=x48.fin qde [] Tryz.call218 rfl rfl (by kernel_rfl) fun d d'=>by kernel_rfl
def x49i:IF:=⟨.fn 194,[wS,wS],[],_,RS.mk (.tup [wS,.h .bool]) []⟩
def x49:Fx wG x49i:=fx Tryz.f194 194 Tryz.func194 [x48s.p] false [] qaf []
def x49s:EI wG x49i:=x49.fin qis [] Tryz.call194 rfl rfl (by kernel_rfl) fun d d'=>by kernel_rfl
theorem q7l:LC.glob 3=some ⟨.int .u64,Lib.pow10Tab⟩:=rfl
theorem q65:(3,20)∈LC.sizes:=by decide
def x50i:IF:=⟨.fn 170,[.ptr 0 0],[(0,.cells [wS] 205)],_,RS.mk (.tup [.h (.prod .str (.prod wI (.prod .bool .str))),.h .bool]) [(0,.cells [wS] 205)]⟩
def x50 (fu:Nat):Fx wG x50i:=fx Tryz.f170 170 Tryz.func170 [(x40s fu).p,(x38s fu).p,(x43s fu).p,x46s.p,x49s.p,⟨zhm.e qgw,zfq q7l q65 (by decide) (by decide)⟩] false [] qaf []
def x50s (fu:Nat):EI wG x50i:=(x50 fu).fin (qio fu) [] Tryz.call170 rfl rfl (by kernel_rfl) fun d d'=>by kernel_rfl
def x51i:IF:=⟨.fn 197,[.h (.prod .str (.prod wI (.prod .bool .str))),.ptr 0 0],[(0,.dat (.prod .str (.prod wI (.prod .bool .str))) 209)],_,RS.mk (.h .bool) [(0,.dat (.prod .str (.prod wI (.prod .bool .str))) 209)]⟩
def x51 (fu:Nat):Fx wG x51i:=fx Tryz.f197 197 Tryz.func197 [(x27s fu).p] false [] qaf []
def x51s (fu:Nat):EI wG x51i:=(x51 fu).fin (qi1 fu) [] Tryz.call197 rfl rfl (by kernel_rfl) fun d d'=>by kernel_rfl
def x52i:IF:=⟨.fn 220,[.h (.list (.prod .str (.prod wI (.prod .bool .str)))),.fn 197 [.ptr 0 0]],[(0,.dat (.prod .str (.prod wI (.prod .bool .str))) 209)],_,RS.mk (wH) [(0,.dat (.prod .str (.prod wI (.prod .bool .str))) 209)]⟩
def x52 (fu:Nat):Fx wG x52i:=fx Tryz.f220 220 Tryz.func220 [(x51s fu).p] false [] qaf [(pkey [(0,104),(0,105),(2,26),(1,13),(0,7)],⟨19,[(0,.h (.list (.prod .str (.prod wI (.prod .bool .str))))),(1,.fn 197 [.ptr 0 0]),(7,wH),(8,wH)],[(0,.dat (.prod .str (.prod wI (.prod .bool .str))) 209)],64,[]⟩)]
def va6 (fu:Nat):Nat->(x52 fu).L 0:=Fx.lp (qao fu) (qa7 fu) (fun _=>rfl) (fun _=>rfl) (fun r0=>[r0.s]) fun _ d=>by kernel_rfl
def x52s (fu:Nat):EI wG x52i:=(x52 fu).fin (qbh fu) [(va6 fu fu).s] Tryz.call220 rfl rfl (by kernel_rfl) fun d d'=>by kernel_rfl
def x53i:IF:=⟨.fn 198,[.h (.list (.prod .str (.prod wI (.prod .bool .str)))),.fn 197 [.ptr 0 0]],[(0,.dat (.prod .str (.prod wI (.prod .bool .str))) 209)],_,RS.mk (.h .bool) [(0,.dat (.prod .str (.prod wI (.prod .bool .str))) 209)]⟩
def x53 (fu:Nat):Fx wG x53i:=fx Tryz.f198 198 Tryz.func198 [(x52s fu).p] false [] qaf []
def x53s (fu:Nat):EI wG x53i:=(x53 fu).fin (qav fu) [] Tryz.call198 rfl rfl (by kernel_rfl) fun d d'=>by kernel_rfl
def x55i:IF:=⟨.fn 272,[.h .byte],[],_,RS.mk (.tup [.h .byte,.h .bool]) []⟩
def x55:Fx wG x55i:=fx Tryz.f272 272 Tryz.func272 [] false [] qaf [(pkey [(0,103),(1,6),(0,7)],⟨33,[(0,.h .byte),(13,.h .bool)],[],64,[]⟩),(pkey [(0,25),(1,6),(0,7)],⟨33,[(0,.h .byte),(4,.h .bool)],[],64,[]⟩)]
def z9z:x55.L 0:=Fx.jn qte [] fun d=>by kernel_rfl
def z9g:x55.L 1:=Fx.jn qtj [(z9z).s] fun d=>by kernel_rfl
def x55s:EI wG x55i:=x55.fin qo1 [(z9g).s] Tryz.call272 rfl rfl (by kernel_rfl) fun d d'=>by kernel_rfl
def x56i:IF:=⟨.fn 242,[wS],[],_,RS.mk (.tup [.h .byte,.h .bool]) []⟩
def x56:Fx wG x56i:=fx Tryz.f242 242 Tryz.func242 [x55s.p] false [] qaf []
def x56s:EI wG x56i:=x56.fin qqa [] Tryz.call242 rfl rfl (by kernel_rfl) fun d d'=>by kernel_rfl
def x57i:IF:=⟨.fn 223,[.h (.prod .str (.prod wI (.prod .bool .str)))],[],_,RS.mk (wS) []⟩
def x57 (fu:Nat):Fx wG x57i:=fx Tryz.f223 223 Tryz.func223 [(x27s fu).p,x56s.p] false [] qaf [(pkey [(0,4048),(0,4049),(0,2025),(2,506),(1,253),(0,127)],⟨62,[(3,wS),(4,.own 32),(5,wH)],[(32,.row .byte 5)],64,[]⟩),(pkey [(0,62),(0,63)],⟨62,[(3,wS)],[],64,[]⟩),(pkey [(0,61),(0,31)],⟨62,[(3,wS),(26,.h .bool)],[],64,[]⟩)]
def z5k (fu:Nat):Nat->(x57 fu).L 0:=Fx.lp (qd2 fu) (qkw fu) (fun _=>rfl) (fun _=>rfl) (fun r2=>[r2.s]) fun _ d=>by kernel_rfl
def z4u (fu:Nat):(x57 fu).L 1:=Fx.jn (qcm fu) [(z5k fu fu).s] fun d=>by kernel_rfl
def z92 (fu:Nat):(x57 fu).L 2:=Fx.jn (qbe fu) [(z4u fu).s] fun d=>by kernel_rfl
def x57s (fu:Nat):EI wG x57i:=(x57 fu).fin (qj3 fu) [(z92 fu).s] Tryz.call223 rfl rfl (by kernel_rfl) fun d d'=>by kernel_rfl
theorem q4s:LC.glob 1=some ⟨.byte,tab1⟩:=rfl
theorem q12:LC.glob 2=some ⟨.prod .byte .byte,tab2⟩:=rfl
theorem q9d:chk0 tab1=true:=by kernel_rfl
theorem q4p:chk1 tab2=true:=by kernel_rfl
def x58i:IF:=⟨.fn 199,[.own 0],[(0,.row (.prod .str (.prod wI (.prod .bool .str))) 209)],_,RS.mk (.tup [.h wP,.h .bool]) [(0,.dead)]⟩
def x58 (fu:Nat):Fx wG x58i:=fx Tryz.f199 199 Tryz.func199 [⟨z3j.e qx2,zrp⟩,(x57s fu).p,⟨tovI.e qby,zdy q4s q12 q9d q4p⟩] true [] qaf [(pkey [(0,2024),(0,2025),(2,506),(1,253),(0,127)],⟨52,[(2,.ptr 32 0),(4,.ptr 33 0),(28,.own 34),(29,wH),(30,wH)],[(0,.dead),(32,.dat wP 86),(33,.dat wP 86),(34,.row (.prod .str (.prod wI (.prod .bool .str))) 209)],64,[]⟩)]
def z6m (fu:Nat):Nat->(x58 fu).L 0:=Fx.lp (qem fu) (qld fu) (fun _=>rfl) (fun _=>rfl) (fun r0=>[r0.s]) fun _ d=>by kernel_rfl
def x58s (fu:Nat):EI wG x58i:=(x58 fu).fin (qhy fu) [(z6m fu fu).s] Tryz.call199 rfl rfl (by kernel_rfl) fun d d'=>by kernel_rfl
def x59i:IF:=⟨.fn 172,[.h (.list (.prod .str (.prod wI (.prod .bool .str))))],[],_,RS.mk (.tup [.own 0,.h .bool]) [(0,.row wP 86)]⟩
def x59 (fu:Nat):Fx wG x59i:=fx Tryz.f172 172 Tryz.func172 [(x53s fu).p,(x51s fu).p,(x58s fu).p] false [] qaf [(pkey [(0,3827623),(2,239226),(1,119613),(0,59807),(1,934),(0,935),(2,58),(1,29),(0,15)],⟨56,[(0,.h (.list (.prod .str (.prod wI (.prod .bool .str))))),(4,.own 34),(6,.ptr 32 0),(7,.fn 197 [.ptr 32 0]),(8,.own 33),(13,.h (.list (.prod .str (.prod wI (.prod .bool .str))))),(14,wH),(15,wH),(26,.h (.list (.prod .str (.prod wI (.prod .bool .str))))),(27,wH),(28,wH)],[(32,.dat (.prod .str (.prod wI (.prod .bool .str))) 209),(33,.row (.prod .str (.prod wI (.prod .bool .str))) 209),(34,.row wP 86)],64,[]⟩),(pkey [(0,956904),(0,956905),(2,239226),(1,119613),(0,59807),(1,934),(0,935),(2,58),(1,29),(0,15)],⟨56,[(0,.h (.list (.prod .str (.prod wI (.prod .bool .str))))),(4,.own 33),(6,.ptr 32 0),(7,.fn 197 [.ptr 32 0]),(8,.own 34),(13,.h (.list (.prod .str (.prod wI (.prod .bool .str))))),(14,wH),(15,wH),(26,.h (.list (.prod .str (.prod wI (.prod .bool .str))))),(27,wH),(28,wH)],[(32,.dat (.prod .str (.prod wI (.prod .bool .str))) 209),(33,.row wP 86),(34,.row (.prod .str (.prod wI (.prod .bool .str))) 209)],64,[]⟩),(pkey [(0,232),(0,233),(2,58),(1,29),(0,15)],⟨56,[(0,.h (.list (.prod .str (.prod wI (.prod .bool .str))))),(4,.own 32),(13,.h (.list (.prod .str (.prod wI (.prod .bool .str))))),(14,wH),(15,wH)],[(32,.row wP 86)],64,[]⟩)]
def z56 (fu:Nat) (r0:(x59 fu).L 2) (r1:(x59 fu).L 1):(x59 fu).L 0:=Fx.jn (qht fu r0.f r1.f) [r1.s] fun d=>by kernel_rfl
def vac (fu:Nat) (r0:(x59 fu).L 2):Nat->(x59 fu).L 1:=Fx.lp (qh0 fu r0.f) (qol fu r0.f) (fun _=>rfl) (fun _=>rfl) (fun r1=>[(z56 fu r0 r1).s,r0.s]) fun _ d=>by kernel_rfl
def z5o (fu:Nat):Nat->(x59 fu).L 2:=Fx.lp (qeu fu) (qov fu) (fun _=>rfl) (fun _=>rfl) (fun r0=>[r0.s,(vac fu r0 fu).s]) fun _ d=>by kernel_rfl
def x59s (fu:Nat):EI wG x59i:=(x59 fu).fin (qja fu) [(z5o fu fu).s] Tryz.call172 rfl rfl (by kernel_rfl) fun d d'=>by kernel_rfl
def x60i:IF:=⟨.fn 133,[wS],[],_,.two (RS.mk (.tup [.agg [wS,wS,wN],.h .bool]) []) (RS.mk (.tup [.agg [wS,wS,.own 0],.h .bool]) [(0,.row wP 86)])⟩
def x60 (fu:Nat):Fx wG x60i:=fx Tryz.f133 133 Tryz.func133 [(x37s fu).p,(x38s fu).p,(x50s fu).p,(x35s fu).p,(x59s fu).p] false [] qaf [(pkey [(0,16352),(0,16353),(0,8177),(2,2044),(1,1022),(0,1023)],⟨66,[(2,.ptr 32 0),(4,.ptr 33 0),(5,.ptr 34 0),(7,.own 35)],[(32,.cells [wS,wS,wN] 83),(33,.cells [wS] 205),(34,.cells [wS,wS,wN] 83),(35,.row (.prod .str (.prod wI (.prod .bool .str))) 209)],64,[]⟩),(pkey [(0,510),(0,511)],⟨66,[(2,.ptr 32 0),(4,.ptr 33 0),(5,.ptr 34 0)],[(32,.cells [wS,wS,wN] 83),(33,.cells [wS] 205),(34,.cells [wS,wS,wN] 83)],64,[]⟩),(pkey [(0,509),(0,255)],⟨66,[(2,.ptr 32 0),(4,.ptr 33 0),(5,.ptr 34 0),(33,.h .bool)],[(32,.cells [wS,wS,wN] 83),(33,.cells [wS] 205),(34,.cells [wS,wS,wN] 83)],64,[]⟩)]
def z84 (fu:Nat):Nat->(x60 fu).L 0:=Fx.lp (qi2 fu) (qqv fu) (fun _=>rfl) (fun _=>rfl) (fun r2=>[r2.s]) fun _ d=>by kernel_rfl
def z4e (fu:Nat):(x60 fu).L 1:=Fx.jn (qqx fu) [(z84 fu fu).s] fun d=>by kernel_rfl
def vbd (fu:Nat):(x60 fu).L 2:=Fx.jn (qda fu) [(z4e fu).s] fun d=>by kernel_rfl
def x60s (fu:Nat):EI wG x60i:=(x60 fu).fin (qq8 fu) [(vbd fu).s] Tryz.call133 rfl rfl (by kernel_rfl) fun d d'=>by kernel_rfl
def x61i:IF:=⟨.fn 117,[wS,.fn 168 []],[],_,RS.mk (.h .bool) []⟩
def x61 (fu:Nat):Fx wG x61i:=fx Tryz.f117 117 Tryz.func117 [x36s.p] false [] qaf [(pkey [(0,104),(0,105),(2,26),(1,13),(0,7)],⟨18,[(0,wS),(1,.fn 168 []),(7,wH),(8,wH)],[],64,[]⟩)]
def z8y (fu:Nat):Nat->(x61 fu).L 0:=Fx.lp (qhw fu) (qts fu) (fun _=>rfl) (fun _=>rfl) (fun r0=>[r0.s]) fun _ d=>by kernel_rfl
def x61s (fu:Nat):EI wG x61i:=(x61 fu).fin (qpe fu) [(z8y fu fu).s] Tryz.call117 rfl rfl (by kernel_rfl) fun d d'=>by kernel_rfl
def x62i:IF:=⟨.fn 134,[wS],[],_,RS.mk (.h .bool) []⟩
def x62 (fu:Nat):Fx wG x62i:=fx Tryz.f134 134 Tryz.func134 [(x61s fu).p] false [] qaf []
def x62s (fu:Nat):EI wG x62i:=(x62 fu).fin (qim fu) [] Tryz.call134 rfl rfl (by kernel_rfl) fun d d'=>by kernel_rfl
def x63i:IF:=⟨.fn 136,[.h wP,.ptr 0 0],[(0,.dat wP 86)],_,RS.mk (.h .bool) [(0,.dat wP 86)]⟩
def x63 (fu:Nat):Fx wG x63i:=fx Tryz.f136 136 Tryz.func136 [(x27s fu).p] false [] qaf []
def x63s (fu:Nat):EI wG x63i:=(x63 fu).fin (qmp fu) [] Tryz.call136 rfl rfl (by kernel_rfl) fun d d'=>by kernel_rfl
def x64i:IF:=⟨.fn 121,[.h wL,.fn 136 [.ptr 0 0]],[(0,.dat wP 86)],_,RS.mk (wH) [(0,.dat wP 86)]⟩
def x64 (fu:Nat):Fx wG x64i:=fx Tryz.f121 121 Tryz.func121 [(x63s fu).p] false [] qaf [(pkey [(0,104),(0,105),(2,26),(1,13),(0,7)],⟨19,[(0,.h wL),(1,.fn 136 [.ptr 0 0]),(7,wH),(8,wH)],[(0,.dat wP 86)],64,[]⟩)]
def z4p (fu:Nat):Nat->(x64 fu).L 0:=Fx.lp (qar fu) (qbo fu) (fun _=>rfl) (fun _=>rfl) (fun r0=>[r0.s]) fun _ d=>by kernel_rfl
def x64s (fu:Nat):EI wG x64i:=(x64 fu).fin (qb2 fu) [(z4p fu fu).s] Tryz.call121 rfl rfl (by kernel_rfl) fun d d'=>by kernel_rfl
def x65i:IF:=⟨.fn 135,[.h wL,.fn 136 [.ptr 0 0]],[(0,.dat wP 86)],_,RS.mk (.h .bool) [(0,.dat wP 86)]⟩
def x65 (fu:Nat):Fx wG x65i:=fx Tryz.f135 135 Tryz.func135 [(x64s fu).p] false [] qaf []
def x65s (fu:Nat):EI wG x65i:=(x65 fu).fin (qaz fu) [] Tryz.call135 rfl rfl (by kernel_rfl) fun d d'=>by kernel_rfl
def x66i:IF:=⟨.fn 100,[.h (.prod .str (.prod .str wL))],[],_,RS.mk (.h (.prod wI wI)) []⟩
def x66 (fu:Nat):Fx wG x66i:=fx Tryz.f100 100 Tryz.func100 [(x62s fu).p,x2s.p,x22s.p,(x65s fu).p,⟨zo4.e qa2,zmd q4s q12 q9d q4p⟩] false [] qaf [(pkey [(0,31333),(1,7833),(1,1958),(0,1959),(2,122),(1,61),(0,31)],⟨67,[(1,.ptr 32 0),(2,.ptr 33 0),(3,wH),(4,.ptr 34 0),(22,.h wL),(23,wH),(24,wH),(29,.h .bool)],[(32,.dat (.prod .str (.prod .str wL)) 83),(33,.dat (.prod wI wI) 30),(34,.dat wP 86)],64,[]⟩),(pkey [(0,488),(0,489),(2,122),(1,61),(0,31)],⟨67,[(1,.ptr 32 0),(2,.ptr 33 0),(22,.h wL),(23,wH),(24,wH)],[(32,.dat (.prod .str (.prod .str wL)) 83),(33,.dat (.prod wI wI) 30)],64,[]⟩),(pkey [(0,28),(0,29),(0,15)],⟨67,[(1,.ptr 32 0),(2,.ptr 33 0)],[(32,.dat (.prod .str (.prod .str wL)) 83),(33,.dat (.prod wI wI) 30)],64,[]⟩),(pkey [(0,13),(0,7)],⟨67,[(1,.ptr 32 0),(2,.ptr 33 0),(14,.h .bool)],[(32,.dat (.prod .str (.prod .str wL)) 83),(33,.dat (.prod wI wI) 30)],64,[]⟩)]
def vaz (fu:Nat) (r2:(x66 fu).L 1):(x66 fu).L 0:=Fx.jn (qcg fu r2.f) [r2.s] fun d=>by kernel_rfl
def z81 (fu:Nat):Nat->(x66 fu).L 1:=Fx.lp (qdq fu) (ql8 fu) (fun _=>rfl) (fun _=>rfl) (fun r2=>[(vaz fu r2).s]) fun _ d=>by kernel_rfl
def z7s (fu:Nat):(x66 fu).L 2:=Fx.jn (ql7 fu) [(z81 fu fu).s] fun d=>by kernel_rfl
def z8d (fu:Nat):(x66 fu).L 3:=Fx.jn (qdr fu) [(z7s fu).s] fun d=>by kernel_rfl
def x66s (fu:Nat):EI wG x66i:=(x66 fu).fin (qce fu) [(z8d fu).s] Tryz.call100 rfl rfl (by kernel_rfl) fun d d'=>by kernel_rfl
def x67i:IF:=⟨.fn 99,[wS],[],_,.two (RS.mk (.tup [.agg [wS,wS,wN],.agg [wH,wH]]) []) (RS.mk (.tup [.agg [wS,wS,.own 0],.agg [wH,wH]]) [(0,.row wP 86)])⟩
def x67 (fu:Nat):Fx wG x67i:=fx Tryz.f99 99 Tryz.func99 [x2s.p,(x60s fu).p,(x66s fu).p,x24s.p,x22s.p] false [] qaf []
def x67s (fu:Nat):EI wG x67i:=(x67 fu).fin (qnb fu) [] Tryz.call99 rfl rfl (by kernel_rfl) fun d d'=>by kernel_rfl
def x68i:IF:=⟨.fn 70,[.h wL],[],_,.two (RS.mk (.tup [.agg [wS,wS,wN],wH,.h .bool]) []) (RS.mk (.tup [.agg [wS,wS,.own 0],wH,.h .bool]) [(0,.row wP 86)])⟩
def x68 (fu:Nat):Fx wG x68i:=fx Tryz.f70 70 Tryz.func70 [(x27s fu).p,(x67s fu).p,x24s.p] false [] qaf [(pkey [(0,935),(2,58),(1,29),(0,15)],⟨42,[(0,.h wL),(2,.ptr 32 0),(5,wH),(10,.h wL),(11,wH),(12,wH)],[(32,.cells [wS,wS,wN] 83)],64,[]⟩),(pkey [(0,232),(0,233),(2,58),(1,29),(0,15)],⟨42,[(0,.h wL),(2,.ptr 32 0),(5,wH),(10,.h wL),(11,wH),(12,wH)],[(32,.cells [wS,wS,wN] 83)],64,[]⟩)]
def z9r (fu:Nat) (r0:(x68 fu).L 1):(x68 fu).L 0:=Fx.jn (qhe fu r0.f) [r0.s] fun d=>by kernel_rfl
def z5w (fu:Nat):Nat->(x68 fu).L 1:=Fx.lp (qd4 fu) (qms fu) (fun _=>rfl) (fun _=>rfl) (fun r0=>[(z9r fu r0).s]) fun _ d=>by kernel_rfl
def x68s (fu:Nat):EI wG x68i:=(x68 fu).fin (qke fu) [(z5w fu fu).s] Tryz.call70 rfl rfl (by kernel_rfl) fun d d'=>by kernel_rfl
def x69i:IF:=⟨.fn 82,[.h (.prod .str (.prod .str wL)),wS],[],_,RS.mk (.tup [wS,.h .bool,.h (.prod wI wI)]) []⟩
def x69 (fu:Nat):Fx wG x69i:=fx Tryz.f82 82 Tryz.func82 [(x66s fu).p,x24s.p,(x27s fu).p,x22s.p] false [] qaf [(pkey [(0,232),(0,233),(2,58),(1,29),(0,15)],⟨31,[(1,wS),(6,.ptr 32 0),(16,.h wL),(17,wH),(18,wH)],[(32,.dat (.prod wI wI) 30)],64,[]⟩)]
def z8q (fu:Nat):Nat->(x69 fu).L 0:=Fx.lp (qiw fu) (qqr fu) (fun _=>rfl) (fun _=>rfl) (fun r0=>[r0.s]) fun _ d=>by kernel_rfl
def x69s (fu:Nat):EI wG x69i:=(x69 fu).fin (qmx fu) [(z8q fu fu).s] Tryz.call82 rfl rfl (by kernel_rfl) fun d d'=>by kernel_rfl
def x70i:IF:=⟨.fn 138,[.h .byte],[],_,RS.mk (.h .bool) []⟩
def x70:Fx wG x70i:=fx Tryz.f138 138 Tryz.func138 [] false [] qaf []
def x70s:EI wG x70i:=x70.fin qkc [] Tryz.call138 rfl rfl (by kernel_rfl) fun d d'=>by kernel_rfl
def x71i:IF:=⟨.fn 117,[wS,.fn 138 []],[],_,RS.mk (.h .bool) []⟩
def x71 (fu:Nat):Fx wG x71i:=fx Tryz.f117 117 Tryz.func117 [x70s.p] false [] qaf [(pkey [(0,104),(0,105),(2,26),(1,13),(0,7)],⟨18,[(0,wS),(1,.fn 138 []),(7,wH),(8,wH)],[],64,[]⟩)]
def z7a (fu:Nat):Nat->(x71 fu).L 0:=Fx.lp (qhi fu) (qtv fu) (fun _=>rfl) (fun _=>rfl) (fun r0=>[r0.s]) fun _ d=>by kernel_rfl
def x71s (fu:Nat):EI wG x71i:=(x71 fu).fin (qpq fu) [(z7a fu fu).s] Tryz.call117 rfl rfl (by kernel_rfl) fun d d'=>by kernel_rfl
def x72i:IF:=⟨.fn 125,[.own 0],[(0,.row .str 9)],_,RS.mk (.ptr 1 0) [(0,.dead),(1,.cells [.h (.int .u32),.h (.int .i32),.h (.int .u32),.c .nilIface,.own 2] 191),(2,.row .str 9)]⟩
def x72:Fx wG x72i:=fx Tryz.f125 125 Tryz.func125 [] true [] qaf []
def x72s:EI wG x72i:=x72.fin qgj [] Tryz.call125 rfl rfl (by kernel_rfl) fun d d'=>by kernel_rfl
def x73i:IF:=⟨.fn 185,[.ptr 0 0],[(0,.cells [.h (.int .u32),.h (.int .i32),.h (.int .u32),.c .nilIface,.own 1] 191),(1,.row .str 9)],_,RS.mk (.iel 251 2 1) [(0,.cells [.h (.int .u32),.h (.int .i32),.h (.int .u32),.c .nilIface,.own 3] 191),(1,.dead),(2,.row .byte 250),(3,.row .str 9)]⟩
def x73 (fu:Nat):Fx wG x73i:=fx Tryz.f185 185 Tryz.func185 [] false [] qaf [(pkey [(0,2003),(2,250),(1,125),(0,63)],⟨132,[(3,.own 32),(4,.h .bool),(5,wH)],[(0,.cells [.h (.int .u32),.h (.int .i32),.h (.int .u32),.c .nilIface,.own 32] 191),(1,.dead),(32,.row .str 9)],64,[]⟩),(pkey [(0,129744),(0,129745),(0,64873),(2,16218),(1,8109),(0,4055),(0,127)],⟨132,[(3,.own 32),(6,.el 33 1),(8,wH)],[(0,.cells [.h (.int .u32),.h (.int .i32),.h (.int .u32),.c .nilIface,.own 32] 191),(1,.dead),(32,.row .str 9),(33,.row .byte 250)],64,[]⟩),(pkey [(0,32424),(0,32425),(2,8106),(1,4053),(0,2027),(0,127)],⟨132,[(3,.own 32),(6,.el 33 1),(61,wH)],[(0,.cells [.h (.int .u32),.h (.int .i32),.h (.int .u32),.c .nilIface,.own 32] 191),(1,.dead),(32,.row .str 9),(33,.row .byte 250)],64,[]⟩),(pkey [(0,16336),(0,16337),(0,8169),(2,2042),(1,1021),(0,511)],⟨132,[(3,.own 32),(11,.ptr 33 0),(12,wH)],[(0,.cells [.h (.int .u32),.h (.int .i32),.h (.int .u32),.c .nilIface,.own 32] 191),(1,.dead),(32,.row .str 9),(33,.cells [wN,wN,wN,wN,wN,wN,wN,wN,wN,wN,wN,wN,wN,wN,wN,wN,wN,wN,wN,wN,wN,wN,wN,wN,wN,wN,wN,wN,wN,wN,wN,wN,wN,wN,wN,wN,wN,wN,wN,wN,wN,wN,wN,wN,wN,wN,wN,wN,wN,wN,wN,wN,wN,wN,wN,wN,wN,wN,wN,wN,wN,wN,wN,wN,wN,wN,wN,wN,wN,wN,wN,wN,wN,wN,wN,wN,wN,wN,wN,wN,wN,wN,wN,wN,wN,wN,wN,wN,wN,wN,wN,wN,wN,wN,wN,wN,wN,wN,wN,wN,wN,wN,wN,wN,wN,wN,wN,wN,wN,wN,wN,wN,wN,wN,wN,wN,wN,wN,wN,wN,wN,wN,wN,wN,wN,wN,wN,wN,wN,wN,wN,wN,wN,wN,wN,wN,wN,wN,wN,wN,wN,wN,wN,wN,wN,wN,wN,wN,wN,wN,wN,wN,wN,wN,wN,wN,wN,wN,wN,wN,wN,wN,wN,wN,wN,wN,wN,wN,wN,wN,wN,wN,wN,wN,wN,wN,wN,wN,wN,wN,wN,wN,wN,wN,wN,wN,wN,wN,wN,wN,wN,wN,wN,wN,wN,wN,wN,wN,wN,wN,wN,wN,wN,wN,wN,wN,wN,wN,wN,wN,wN,wN,wN,wN,wN,wN,wN,wN,wN,wN,wN,wN,wN,wN,wN,wN,wN,wN,wN,wN,wN,wN,wN,wN,wN,wN,wN,wN,wN,wN,wN,wN,wN,wN,wN,wN,wN,wN,wN,wN,wN,wN,wN,wN,wN,wN,.own 34] 254),(34,.row .str 9)],64,[]⟩),(pkey [(0,2000),(0,2001),(0,1001),(2,250),(1,125),(0,63)],⟨132,[(3,.own 32),(4,.h .bool),(5,wH)],[(0,.cells [.h (.int .u32),.h (.int .i32),.h (.int .u32),.c .nilIface,.own 32] 191),(1,.dead),(32,.row .str 9)],64,[]⟩),(pkey [(0,30),(0,31)],⟨132,[(3,.own 32)],[(0,.cells [.h (.int .u32),.h (.int .i32),.h (.int .u32),.c .nilIface,.own 32] 191),(1,.dead),(32,.row .str 9)],64,[]⟩),(pkey [(0,29),(0,15)],⟨132,[(3,.own 32),(28,.h .bool)],[(0,.cells [.h (.int .u32),.h (.int .i32),.h (.int .u32),.c .nilIface,.own 32] 191),(1,.dead),(32,.row .str 9)],64,[]⟩)]
def z5y (fu:Nat) (r2:(x73 fu).L 4):(x73 fu).L 0:=Fx.jn (qe5 fu r2.f) [r2.s] fun d=>by kernel_rfl
def z6x (fu:Nat):Nat->(x73 fu).L 1:=Fx.lp (qe6 fu) (qkt fu) (fun _=>rfl) (fun _=>rfl) (fun r6=>[r6.s]) fun _ d=>by kernel_rfl
def z9f (fu:Nat):Nat->(x73 fu).L 2:=Fx.lp (qe8 fu) (qkf fu) (fun _=>rfl) (fun _=>rfl) (fun r4=>[r4.s,(z6x fu fu).s]) fun _ d=>by kernel_rfl
def z9j (fu:Nat):Nat->(x73 fu).L 3:=Fx.lp (qe4 fu) (qkj fu) (fun _=>rfl) (fun _=>rfl) (fun r5=>[]) fun _ d=>by kernel_rfl
def z7g (fu:Nat):Nat->(x73 fu).L 4:=Fx.lp (qfi fu) (qkh fu) (fun _=>rfl) (fun _=>rfl) (fun r2=>[(z5y fu r2).s,(z9f fu fu).s,(z9j fu fu).s]) fun _ d=>by kernel_rfl
def z48 (fu:Nat):(x73 fu).L 5:=Fx.jn (qkd fu) [(z7g fu fu).s] fun d=>by kernel_rfl
def z5d (fu:Nat):(x73 fu).L 6:=Fx.jn (qfc fu) [(z48 fu).s] fun d=>by kernel_rfl
def x73s (fu:Nat):EI wG x73i:=(x73 fu).fin (qml fu) [(z5d fu).s] Tryz.call185 rfl rfl (by kernel_rfl) fun d d'=>by kernel_rfl
end
end Go.Sym
namespace Go.Sym
noncomputable section
open Go.Proofs
set_option linter.unusedVariables false
set_option maxRecDepth 100000
set_option maxHeartbeats 2000000
def x74i:IF:=⟨.fn 161,[.ptr 0 0],[(0,.cells [.h (.int .u32),.h (.int .i32),.h (.int .u32),.c .nilIface,.own 1] 191),(1,.row .str 9)],_,RS.mk (.tup []) [(0,.cells [.h (.int .u32),.h (.int .i32),.h (.int .u32),.iel 251 2 1,.own 3] 191),(1,.dead),(2,.row .byte 250),(3,.row .str 9)]⟩
def x74 (fu:Nat):Fx wG x74i:=fx Tryz.f161 161 Tryz.func161 [(x73s fu).p] false [] qaf []
def x74s (fu:Nat):EI wG x74i:=(x74 fu).fin (qen fu) [] Tryz.call161 rfl rfl (by kernel_rfl) fun d d'=>by kernel_rfl
theorem qof (fu:Nat):(x74i.e (qen fu)).Sound wG:=(x74s fu).h
def x75i:IF:=⟨.fn 317,[.el 0 1,wS],[(0,.row .byte 250)],_,RS.mk (wS) [(0,.row .byte 250)]⟩
def x75 (fu:Nat):Fx wG x75i:=fx Tryz.f317 317 Tryz.func317 [] false [] qaf [(pkey [(0,14925),(1,466),(0,467),(2,58),(1,29),(0,15)],⟨41,[(0,.el 0 1),(1,wS),(5,.own 32),(6,wH),(7,.h .byte)],[(0,.row .byte 250),(32,.row .byte 5)],64,[]⟩),(pkey [(0,464),(0,465),(0,233),(2,58),(1,29),(0,15)],⟨41,[(0,.el 0 1),(1,wS),(5,.own 32),(6,wH)],[(0,.row .byte 250),(32,.row .byte 5)],64,[]⟩),(pkey [(0,464),(0,465),(0,233),(2,58),(1,29),(0,15)],⟨41,[(0,.el 0 1),(1,wS),(5,wN),(6,wH)],[(0,.row .byte 250)],64,[]⟩)]
def z23 (fu:Nat) (r2:(x75 fu).L 1):(x75 fu).L 0:=Fx.jn (qc5 fu r2.f) [r2.s] fun d=>by kernel_rfl
def z4s (fu:Nat):Nat->(x75 fu).L 1:=Fx.lp (qcz fu) (qf7 fu) (fun _=>rfl) (fun _=>rfl) (fun r2=>[(z23 fu r2).s,r2.s]) fun _ d=>by kernel_rfl
def z73 (fu:Nat):Nat->(x75 fu).L 2:=Fx.lp (qc6 fu) (qgm fu) (fun _=>rfl) (fun _=>rfl) (fun r0=>[r0.s,(z23 fu (z4s fu fu)).s]) fun _ d=>by kernel_rfl
def x75s (fu:Nat):EI wG x75i:=(x75 fu).fin (qb8 fu) [(z73 fu fu).s] Tryz.call317 rfl rfl (by kernel_rfl) fun d d'=>by kernel_rfl
theorem qge (fu:Nat):(x75i.e (qb8 fu)).Sound wG:=(x75s fu).h
def q4m:IF:=⟨.fn 127,[.ptr 0 0,wS],[(0,.cells [.h (.int .u32),.h (.int .i32),.h (.int .u32),.c .nilIface,.own 1] 191),(1,.row .str 9)],_,RS.mk (wS) [(0,.cells [.h (.int .u32),.h (.int .i32),.h (.int .u32),.iel 251 2 1,.u] 191),(1,.dead),(2,.row .byte 250)]⟩
def q4v:IF:=⟨.fn 127,[.ptr 0 0,wS],[(0,.cells [.h (.int .u32),.h (.int .i32),.h (.int .u32),.iel 251 1 1,.u] 191),(1,.row .byte 250)],_,RS.mk (wS) [(0,.cells [.h (.int .u32),.h (.int .i32),.h (.int .u32),.iel 251 1 1,.u] 191),(1,.row .byte 250)]⟩
theorem qy5 (fu:Nat) (s:Bs) (p0 p1 p2:Int) (on:List Bs) (r:Bs×Int×Int×Int×Bs) (hr:qp6 fu s p0 p1 p2 on=some r) :
  qbm wG 127 [.ptr 0 0,.str s] [(0,.cells [.int .u32 p0,.int .i32 p1,.int .u32 p2,.val .nilIface,.own 1] 191),(1,.row .str on 9)] (.str r.1) [(0,.cells [.int .u32 r.2.1,.int .i32 r.2.2.1,.int .u32 r.2.2.2.1,.iface 251 (.oel 2 1 0 0),.undef] 191),(1,.dead),(2,.row .byte r.2.2.2.2 250)]:=by
 unfold qp6 at hr;cases hc:decide (p0=0)&&decide (p1=0)<;>rw[hc]at hr<;>simp only[qT,qF,reduceCtorEq]at hr
 simp only[qA,decide_eq_true_eq]at hc;obtain⟨rfl,rfl⟩:=hc;obtain⟨x,hx,hr⟩:=Option.bind_eq_some_iff.1 hr;obtain⟨x0,x1,x2,tab,on'⟩:=x;simp only at hr;cases hc2:decide (x0=0)&&decide (x1=1)<;>rw[hc2]at hr<;>simp only[qT,qF,reduceCtorEq]at hr
 simp only[qA,decide_eq_true_eq]at hc2;obtain⟨rfl,rfl⟩:=hc2;obtain⟨y,hy,hr⟩:=Option.bind_eq_some_iff.1 hr;obtain⟨out,tab'⟩:=y;simp only[qI]at hr;subst hr;have hB:qbm wG 161 [.ptr 0 0] [(0,.cells [.int .u32 0,.int .i32 1,.int .u32 p2,.val .nilIface,.own 1] 191),(1,.row .str on 9)] (.tup []) [(0,.cells [.int .u32 0,.int .i32 1,.int .u32 x2,.iface 251 (.oel 2 1 0 0),.own 3] 191),(1,.dead),(2,.row .byte tab 250),(3,.row .str on' 9)]:=
  (qof fu ((),()) (((0:Int),((1:Int),(p2,((),((),()))))),(on,())) ((0:Int),(1:Int),x2,tab,on') hx).2
 have hP:qbm wG 317 [.oel 0 1 0 0,.str s] [(0,.row .byte tab 250)] (.str out) [(0,.row .byte tab' 250)]:=
  (qge fu ((),(s,())) (tab,()) (out,tab') hy).2
 intro w G vs hm hv;show Calls _ _ _ _ (Post w G [(0,.cells [.int .u32 0,.int .i32 0,.int .u32 p2,.val .nilIface,.own 1] 191),(1,.row .str on 9)] (.str out) [(0,.cells [.int .u32 1,.int .i32 0,.int .u32 x2,.iface 251 (.oel 2 1 0 0),.undef] 191),(1,.dead),(2,.row .byte tab' 250)]);have hm:Mem G [(0,.cells [.int .u32 0,.int .i32 0,.int .u32 p2,.val .nilIface,.own 1] 191),(1,.row .str on 9)] w:=hm;have hv:Reps [.ptr 0 0,.str s] G vs:=hv
 match vs,hv with
 | [v1,v2],hv=>
 obtain⟨⟨B,hGB,rfl⟩,rfl,_⟩:=hv;have hid:∀ n b,look ([(0,.cells [.int .u32 0,.int .i32 0,.int .u32 p2,.val .nilIface,.own 1] 191),(1,.row .str on 9)]:List (Nat×Box)) n=some b->rho [(0,0),(1,1)] n=some n/\renB (rho [(0,0),(1,1)]) b=b:=by
  intro n b h
  match n,h with
  | 0,h=>cases h;exact⟨rfl,rfl⟩
  | 1,h=>cases h;exact⟨rfl,rfl⟩
  | n+2,h=>cases h
 have hr0:=Rel.start (N:=[(0,0),(1,1)]) hm hid (fun n h=>by
  match n,h with
  | 0,h=>cases h
  | 1,h=>cases h
  | n+2,h=>rfl) 4
 have hGB0:(G.view [(0,0),(1,1)]).box 0=some B:=hGB;obtain⟨c0,e0,r0,z0⟩:=hr0.cellAt (i:=0) rfl hGB0 rfl;obtain⟨c1,e1,r1,z1⟩:=hr0.cellAt (i:=1) rfl hGB0 rfl;have r0:c0 = .int .u32 0:=r0;have r1:c1 = .int .i32 0:=r1;subst r0 r1;have hr1:=hr0.setCellAt (i:=1) (x := .int .i32 1) (v := .int .i32 1) rfl hGB0 rfl rfl
 -- the building
 have hmB:Mem ((G.view [(0,0),(1,1)]).view [(0,0),(1,1)]) [(0,.cells [.int .u32 0,.int .i32 1,.int .u32 p2,.val .nilIface,.own 1] 191),(1,.row .str on 9)] (w.setCell ⟨B,1,none⟩ (.int .i32 1)):=
  hr1.fin.mem.view (names:=[(0,0),(1,1)]) rfl (fun m m' n h1 h2=>by
   match m,m',h1,h2 with
   | 0,0,_,_=>rfl
   | 1,1,_,_=>rfl
   | 0,1,h1,h2=>cases h1;cases h2
   | 1,0,h1,h2=>cases h1;cases h2
   | 0,m'+2,_,h2=>cases h2
   | 1,m'+2,_,h2=>cases h2
   | m+2,_,h1,_=>cases h1)
 have hcB:=hB (w.setCell ⟨B,1,none⟩ (.int .i32 1)) ((G.view [(0,0),(1,1)]).view [(0,0),(1,1)]) [.pointer (some ⟨B,0,none⟩)] hmB ⟨⟨B,hGB,rfl⟩,trivial⟩
 let s2:St:={ n:=4,fr:=[(0,.tup [])],hp:=[(0,.cells [.int .u32 0,.int .i32 1,.int .u32 x2,.iface 251 (.oel 66 1 0 0),.own 67] 191),(1,.dead),(66,.row .byte tab 250),(67,.row .str on' 9),(0,.dead),(1,.dead),(0,.cells [.int .u32 0,.int .i32 1,.int .u32 p2,.val .nilIface,.own 1] 191),(0,.cells [.int .u32 0,.int .i32 0,.int .u32 p2,.val .nilIface,.own 1] 191),(1,.row .str on 9)],nx:=64,df:=[] }
 let hp0:List (Nat×Box):=[(0,.cells [.int .u32 0,.int .i32 0,.int .u32 p2,.val .nilIface,.own 1] 191),(1,.row .str on 9)]
 let R:World->Prop:=fun w'=>∃ G2 a2,Rel w (G.view [(0,0),(1,1)]) hp0 G2 s2 a2 w'
 have hBw:∀ {w':World} {G2:Gh} {a2:Act},Rel w (G.view [(0,0),(1,1)]) hp0 G2 s2 a2 w'->G2.box 0=some B:=fun h=>h.fin.keep 0 _ B rfl hGB0
 refine (Go.Proofs.YtiidadfafmcdmaaGreatDoor.Once.replace_first B ⟨s.toArray⟩ w R (fun v w'=>∃ G4,Fin w G hp0 G4 [(0,.cells [.int .u32 1,.int .i32 0,.int .u32 x2,.iface 251 (.oel 2 1 0 0),.undef] 191),(1,.dead),(2,.row .byte tab' 250)] w'/\Rep (.str out) G4 v) e0 e1 z0 z1 ?_ ?_ ?_).mono ?_
 ·refine hcB.mono ?_;intro e w' hpost;obtain⟨G2,v,he,hr2⟩:=q3k hr1 (t:=0) (names:=[(0,0),(1,1)]) (hpv:=[(0,.cells [.int .u32 0,.int .i32 1,.int .u32 p2,.val .nilIface,.own 1] 191),(1,.row .str on 9)]) (hp:=[(0,.cells [.int .u32 0,.int .i32 1,.int .u32 p2,.val .nilIface,.own 1] 191),(1,.row .str on 9)]) rfl rfl (show 0<4 by decide) rfl rfl (by repeat (first|trivial|refine⟨rfl,?_⟩)) hpost
  obtain⟨u,u1,u2⟩:=hr2.frame 0 _ rfl;have u3:u=v:=by simpa [Act.put] using u1.symm
  obtain⟨us,h1,h2⟩:=u2;have:us=#[]:=by
   cases hq:us.toList with
   | nil=>simpa using hq
   | cons _ _=>rw[hq]at h2;exact h2.elim
  subst this;subst u3;exact⟨by rw[he,h1],G2,_,hr2⟩
 ·rintro w' ⟨G2,a2,hr2⟩
  obtain⟨d0,f0,q0,y0⟩:=hr2.cellAt (i:=0) rfl (hBw hr2) rfl;obtain⟨d1,f1,q1,y1⟩:=hr2.cellAt (i:=1) rfl (hBw hr2) rfl;have q0:d0 = .int .u32 0:=q0;have q1:d1 = .int .i32 1:=q1;subst q0 q1;exact⟨f0,y0,f1,y1⟩
 ·rintro w' ⟨G2,a2,hr2⟩
  obtain⟨d3,f3,q3,_⟩:=hr2.cellAt (i:=3) rfl (hBw hr2) rfl;obtain⟨u3,rfl,g,n3,c3,o3,rfl⟩:=q3;refine⟨g,by simpa using f3,?_⟩
  have hr3:=(hr2.drewOk.setCellAt (i:=0) (x := .int .u32 1) (v := .int .u32 1) rfl (hBw hr2) rfl rfl).setCellAt (i:=0+1) (x := .int .i32 0) (v := .int .i32 0) rfl (hBw hr2) rfl rfl;have hmP:Mem (G2.view [(0,66)]) [(0,.row .byte tab 250)] ((w'.drew.setCell ⟨B,0,none⟩ (.int .u32 1)).setCell ⟨B,0+1,none⟩ (.int .i32 0)):=
   hr3.fin.mem.view (names:=[(0,66)]) rfl (fun m m' n h1 h2=>by
    cases m with
    | zero=>cases m' with
     | zero=>rfl
     | succ m'=>cases h2
    | succ m=>cases h1)
  have hcP:=hP _ (G2.view [(0,66)]) [.pointer (some ⟨g,0,none⟩),.string ⟨s.toArray⟩] hmP ⟨⟨g,n3,c3,o3,by simp⟩,rfl,trivial⟩
  refine hcP.mono ?_;intro e w4 hpost;obtain⟨G4,v,he,hr4⟩:=q3k hr3 (t:=1) (names:=[(0,66)]) (hpv:=[(0,.row .byte tab 250)]) (hp:=[(0,.row .byte tab 250)]) rfl rfl (show 1<4 by decide) rfl rfl ⟨rfl,trivial⟩ hpost
  obtain⟨u,u1,u2⟩:=hr4.frame 1 _ rfl;have u3:u=v:=by
   have hs:=hr3.size;have hlt:1<a2.tmps.size:=by rw[hs];exact (show 1<4 by decide)
   simp only[Act.put]at u1;rw[Array.getElem?_setIfInBounds]at u1;simp[hlt]at u1;exact u1.symm
  subst u3;obtain⟨G5,k1,k2⟩:=q69 hr4 (ids:=[(0,0),(1,1)]) (fun n bx h=>by
   match n,h with
   | 0,h=>rfl
   | 1,h=>rfl
   | n+2,h=>cases h) (v := .str out) (p := wS) (hp:=[(0,.cells [.h (.int .u32),.h (.int .i32),.h (.int .u32),.iel 251 2 1,.u] 191),(1,.dead),(2,.row .byte 250)]) (y:=(out,(((1:Int),((0:Int),(x2,((),((),()))))),((),(tab',()))))) (by rfl)
  exact⟨u,he,G5,k1.only hid,k2 u u2⟩
 ·rintro e w4 ⟨v,rfl,G4,k1,k2⟩
  exact⟨v,G4,rfl,k1,k2⟩
theorem q7m (fu:Nat):(q4m.e (qp6 fu)).Sound wG:=fun d d' r hr=>
 ⟨Tryz.call127,qy5 fu d.2.1 d'.1.1 d'.1.2.1 d'.1.2.2.1 d'.2.1 r hr⟩
theorem qyj (fu:Nat) (s:Bs) (p0 p1 p2:Int) (tab:Bs) (r:Bs×Int×Int×Int×Bs) (hr:qp5 fu s p0 p1 p2 tab=some r) :
  qbm wG 127 [.ptr 0 0,.str s] [(0,.cells [.int .u32 p0,.int .i32 p1,.int .u32 p2,.iface 251 (.oel 1 1 0 0),.undef] 191),(1,.row .byte tab 250)] (.str r.1) [(0,.cells [.int .u32 r.2.1,.int .i32 r.2.2.1,.int .u32 r.2.2.2.1,.iface 251 (.oel 1 1 0 0),.undef] 191),(1,.row .byte r.2.2.2.2 250)]:=by
 unfold qp5 at hr;cases hc : !decide (p0=0)<;>rw[hc]at hr<;>simp only[qT,qF,reduceCtorEq]at hr
 simp only[Bool.not_eq_true',decide_eq_false_iff_not]at hc;obtain⟨y,hy,hr⟩:=Option.bind_eq_some_iff.1 hr;obtain⟨out,tab'⟩:=y;simp only[qI]at hr;subst hr;have hP:qbm wG 317 [.oel 0 1 0 0,.str s] [(0,.row .byte tab 250)] (.str out) [(0,.row .byte tab' 250)]:=
  (qge fu ((),(s,())) (tab,()) (out,tab') hy).2
 intro w G vs hm hv
 let hp0:List (Nat×Box):=[(0,.cells [.int .u32 p0,.int .i32 p1,.int .u32 p2,.iface 251 (.oel 1 1 0 0),.undef] 191),(1,.row .byte tab 250)]
 show Calls _ _ _ _ (Post w G hp0 (.str out) [(0,.cells [.int .u32 p0,.int .i32 p1,.int .u32 p2,.iface 251 (.oel 1 1 0 0),.undef] 191),(1,.row .byte tab' 250)]);have hm:Mem G hp0 w:=hm;have hv:Reps [.ptr 0 0,.str s] G vs:=hv
 match vs,hv with
 | [v1,v2],hv=>
 obtain⟨⟨B,hGB,rfl⟩,rfl,_⟩:=hv;have hid:∀ n b,look hp0 n=some b->rho [(0,0),(1,1)] n=some n/\renB (rho [(0,0),(1,1)]) b=b:=by
  intro n b h
  match n,h with
  | 0,h=>cases h;exact⟨rfl,rfl⟩
  | 1,h=>cases h;exact⟨rfl,rfl⟩
  | n+2,h=>cases h
 have hr0:=Rel.start (N:=[(0,0),(1,1)]) hm hid (fun n h=>by
  match n,h with
  | 0,h=>cases h
  | 1,h=>cases h
  | n+2,h=>rfl) 4
 have hGB0:(G.view [(0,0),(1,1)]).box 0=some B:=hGB;obtain⟨c0,e0,r0,_⟩:=hr0.cellAt (i:=0) rfl hGB0 rfl;have r0:c0 = .int .u32 p0:=r0;subst r0;obtain⟨d3,f3,q3,_⟩:=hr0.cellAt (i:=3) rfl hGB0 rfl;obtain⟨u3,rfl,g,n3,c3,o3,rfl⟩:=q3;have hmP:Mem ((G.view [(0,0),(1,1)]).view [(0,1)]) [(0,.row .byte tab 250)] w:=
  hr0.fin.mem.view (names:=[(0,1)]) rfl (fun m m' n h1 h2=>by
   cases m with
   | zero=>cases m' with
    | zero=>rfl
    | succ m'=>cases h2
   | succ m=>cases h1)
 have hcP:=hP w ((G.view [(0,0),(1,1)]).view [(0,1)]) [.pointer (some ⟨g,0,none⟩),.string ⟨s.toArray⟩] hmP ⟨⟨g,n3,c3,o3,by simp⟩,rfl,trivial⟩
 refine (Go.Proofs.YtiidadfafmcdmaaGreatDoor.Once.replace_done B g ⟨s.toArray⟩ w (fun v w'=>∃ G4,Fin w G hp0 G4 [(0,.cells [.int .u32 p0,.int .i32 p1,.int .u32 p2,.iface 251 (.oel 1 1 0 0),.undef] 191),(1,.row .byte tab' 250)] w'/\Rep (.str out) G4 v) p0 hc e0 (by simpa using f3) ?_).mono ?_
 ·refine hcP.mono ?_;intro e w4 hpost;obtain⟨G4,v,he,hr4⟩:=q3k hr0 (t:=1) (names:=[(0,1)]) (hpv:=[(0,.row .byte tab 250)]) (hp:=[(0,.row .byte tab 250)]) rfl rfl (show 1<4 by decide) rfl rfl ⟨rfl,trivial⟩ hpost
  obtain⟨u,u1,u2⟩:=hr4.frame 1 _ rfl;have u3:u=v:=by simpa [Act.put] using u1.symm
  subst u3;obtain⟨G5,k1,k2⟩:=q69 hr4 (ids:=[(0,0),(1,1)]) (fun n bx h=>by
   match n,h with
   | 0,h=>rfl
   | 1,h=>rfl
   | n+2,h=>cases h) (v := .str out) (p := wS) (hp:=[(0,.cells [.h (.int .u32),.h (.int .i32),.h (.int .u32),.iel 251 1 1,.u] 191),(1,.row .byte 250)]) (y:=(out,((p0,(p1,(p2,((),((),()))))),(tab',())))) (by rfl)
  exact⟨u,he,G5,k1.only hid,k2 u u2⟩
 ·rintro e w4 ⟨v,rfl,G4,k1,k2⟩
  exact⟨v,G4,rfl,k1,k2⟩
theorem q6p (fu:Nat):(q4v.e (qp5 fu)).Sound wG:=fun d d' r hr=>
 ⟨Tryz.call127,qyj fu d.2.1 d'.1.1 d'.1.2.1 d'.1.2.2.1 d'.2.1 r hr⟩
def x76i:IF:=⟨.fn 174,[.h .byte],[],_,RS.mk (.h .byte) []⟩
def x76:Fx wG x76i:=fx Tryz.f174 174 Tryz.func174 [] false [] qaf []
def x76s:EI wG x76i:=x76.fin qcw [] Tryz.call174 rfl rfl (by kernel_rfl) fun d d'=>by kernel_rfl
def x77i:IF:=⟨.fn 139,[wS],[],_,RS.mk (.own 0) [(0,.row .str 9)]⟩
def x77 (fu:Nat):Fx wG x77i:=fx Tryz.f139 139 Tryz.func139 [x36s.p,x76s.p] false [] qaf [(pkey [(0,29902),(0,29903),(1,934),(0,935),(2,58),(1,29),(0,15)],⟨59,[(0,wS),(3,.own 32),(5,wS),(9,wH),(10,wH)],[(32,.row .str 9)],64,[]⟩),(pkey [(0,232),(0,233),(2,58),(1,29),(0,15)],⟨59,[(0,wS),(3,.own 32),(9,wH),(10,wH)],[(32,.row .str 9)],64,[]⟩)]
def var (fu:Nat) (r0:(x77 fu).L 1):(x77 fu).L 0:=Fx.jn (qg2 fu r0.f) [r0.s] fun d=>by kernel_rfl
def z9k (fu:Nat):Nat->(x77 fu).L 1:=Fx.lp (qe1 fu) (qox fu) (fun _=>rfl) (fun _=>rfl) (fun r0=>[(var fu r0).s]) fun _ d=>by kernel_rfl
def x77s (fu:Nat):EI wG x77i:=(x77 fu).fin (qpp fu) [(z9k fu fu).s] Tryz.call139 rfl rfl (by kernel_rfl) fun d d'=>by kernel_rfl
def x78i:IF:=⟨.fn 101,[.h wP],[],_,RS.mk (wS) []⟩
def x78 (fu:Nat):Fx wG x78i:=fx Tryz.f101 101 Tryz.func101 [(x62s fu).p,(x71s fu).p,x72s.p,⟨q44.e qif,q8g⟩,(x77s fu).p,⟨zpf.e qdw,zjl q7l q65⟩] false [] qaf [(pkey [(0,1000),(0,1001),(2,250),(1,125),(0,63)],⟨59,[(1,.ptr 32 0),(3,wS),(38,.own 33),(39,wH),(40,wH)],[(32,.dat wP 86),(33,.row .str 9)],64,[]⟩),(pkey [(0,30),(0,31)],⟨59,[(1,.ptr 32 0)],[(32,.dat wP 86)],64,[]⟩),(pkey [(0,29),(0,15)],⟨59,[(1,.ptr 32 0),(24,.h .bool)],[(32,.dat wP 86)],64,[]⟩)]
def z96 (fu:Nat):Nat->(x78 fu).L 0:=Fx.lp (qi3 fu) (qql fu) (fun _=>rfl) (fun _=>rfl) (fun r2=>[r2.s]) fun _ d=>by kernel_rfl
def vbk (fu:Nat):(x78 fu).L 1:=Fx.jn (qqd fu) [(z96 fu fu).s] fun d=>by kernel_rfl
def z59 (fu:Nat):(x78 fu).L 2:=Fx.jn (qfy fu) [(vbk fu).s] fun d=>by kernel_rfl
def x78s (fu:Nat):EI wG x78i:=(x78 fu).fin (qrh fu) [(z59 fu).s] Tryz.call101 rfl rfl (by kernel_rfl) fun d d'=>by kernel_rfl
def x79i:IF:=⟨.fn 72,[.h (.prod .str (.prod .str wL))],[],_,RS.mk (.tup [wS,.h (.prod wI wI)]) []⟩
def x79 (fu:Nat):Fx wG x79i:=fx Tryz.f72 72 Tryz.func72 [(x66s fu).p,x24s.p,(x78s fu).p,x2s.p,x22s.p] false [] qaf [(pkey [(0,488),(0,489),(2,122),(1,61),(0,31)],⟨37,[(3,.ptr 32 0),(5,wS),(20,.h wL),(21,wH),(22,wH)],[(32,.dat (.prod wI wI) 30)],64,[]⟩)]
def vak (fu:Nat):Nat->(x79 fu).L 0:=Fx.lp (qi7 fu) (qqs fu) (fun _=>rfl) (fun _=>rfl) (fun r0=>[r0.s]) fun _ d=>by kernel_rfl
def x79s (fu:Nat):EI wG x79i:=(x79 fu).fin (qf3 fu) [(vak fu fu).s] Tryz.call72 rfl rfl (by kernel_rfl) fun d d'=>by kernel_rfl
def x80i:IF:=⟨.fn 52,[.h wT],[],_,RS.mk (wH) []⟩
def x80 (fu:Nat):Fx wG x80i:=fx Tryz.f52 52 Tryz.func52 [(x68s fu).p,(x27s fu).p,(x69s fu).p,(x79s fu).p,x24s.p] false [] qaf [(pkey [(0,30),(0,31)],⟨69,[(1,.ptr 32 0),(3,.ptr 33 0),(4,wH)],[(32,.dat wT 26),(33,.cells [wS,wS,.own 34] 83),(34,.row wP 86)],64,[]⟩),(pkey [(0,29),(0,15)],⟨69,[(1,.ptr 32 0),(3,.ptr 33 0),(4,wH),(31,.h .bool)],[(32,.dat wT 26),(33,.cells [wS,wS,.own 34] 83),(34,.row wP 86)],64,[]⟩)]
def vbe (fu:Nat):(x80 fu).L 0:=Fx.jn (qqq fu) [] fun d=>by kernel_rfl
def z6u (fu:Nat):(x80 fu).L 1:=Fx.jn (qbi fu) [(vbe fu).s] fun d=>by kernel_rfl
def x80s (fu:Nat):EI wG x80i:=(x80 fu).fin (qrm fu) [(z6u fu).s] Tryz.call52 rfl rfl (by kernel_rfl) fun d d'=>by kernel_rfl
def x81i:IF:=⟨.fn 53,[.h wB],[],_,RS.mk (wH) []⟩
def x81 (fu:Nat):Fx wG x81i:=fx Tryz.f53 53 Tryz.func53 [] false [] qaf [(pkey [(0,14924),(0,14925),(0,7463),(1,466),(0,467),(2,58),(1,29),(0,15)],⟨45,[(0,.h wB),(3,wH),(4,wH),(5,.h .byte)],[],64,[]⟩),(pkey [(0,7461),(0,3731),(1,466),(0,467),(2,58),(1,29),(0,15)],⟨45,[(0,.h wB),(3,wH),(4,wH),(5,.h .byte),(32,.h .bool)],[],64,[]⟩),(pkey [(0,464),(0,465),(0,233),(2,58),(1,29),(0,15)],⟨45,[(0,.h wB),(3,wH),(4,wH)],[],64,[]⟩)]
def z74 (fu:Nat) (r0:(x81 fu).L 2):(x81 fu).L 0:=Fx.jn (qr9 fu r0.f) [r0.s] fun d=>by kernel_rfl
def z7y (fu:Nat) (r0:(x81 fu).L 2):(x81 fu).L 1:=Fx.jn (qhd fu r0.f) [r0.s,(z74 fu r0).s] fun d=>by kernel_rfl
def z60 (fu:Nat):Nat->(x81 fu).L 2:=Fx.lp (qh1 fu) (qr7 fu) (fun _=>rfl) (fun _=>rfl) (fun r0=>[(z7y fu r0).s]) fun _ d=>by kernel_rfl
def x81s (fu:Nat):EI wG x81i:=(x81 fu).fin (qp7 fu) [(z60 fu fu).s] Tryz.call53 rfl rfl (by kernel_rfl) fun d d'=>by kernel_rfl
def x82i:IF:=⟨.fn 118,[.h .byte],[],_,RS.mk (.h .bool) []⟩
def x82:Fx wG x82i:=fx Tryz.f118 118 Tryz.func118 [] false [] qaf []
def x82s:EI wG x82i:=x82.fin qf8 [] Tryz.call118 rfl rfl (by kernel_rfl) fun d d'=>by kernel_rfl
def x83i:IF:=⟨.fn 117,[wS,.fn 118 []],[],_,RS.mk (.h .bool) []⟩
def x83 (fu:Nat):Fx wG x83i:=fx Tryz.f117 117 Tryz.func117 [x82s.p] false [] qaf [(pkey [(0,104),(0,105),(2,26),(1,13),(0,7)],⟨18,[(0,wS),(1,.fn 118 []),(7,wH),(8,wH)],[],64,[]⟩)]
def z6w (fu:Nat):Nat->(x83 fu).L 0:=Fx.lp (qhg fu) (qt0 fu) (fun _=>rfl) (fun _=>rfl) (fun r0=>[r0.s]) fun _ d=>by kernel_rfl
def x83s (fu:Nat):EI wG x83i:=(x83 fu).fin (qpw fu) [(z6w fu fu).s] Tryz.call117 rfl rfl (by kernel_rfl) fun d d'=>by kernel_rfl
def x84i:IF:=⟨.fn 119,[wS,wS],[],_,RS.mk (.h .bool) []⟩
def x84:Fx wG x84i:=fx Tryz.f119 119 Tryz.func119 [x47s.p] false [] qaf []
def x84s:EI wG x84i:=x84.fin qij [] Tryz.call119 rfl rfl (by kernel_rfl) fun d d'=>by kernel_rfl
def x85i:IF:=⟨.fn 83,[.h wL],[],_,RS.mk (.tup [wS,.h .bool]) []⟩
def x85 (fu:Nat):Fx wG x85i:=fx Tryz.f83 83 Tryz.func83 [(x68s fu).p,(x27s fu).p,(x69s fu).p,(x83s fu).p,x84s.p] false [] qaf [(pkey [(0,30),(0,31)],⟨52,[(4,.ptr 32 0)],[(32,.cells [wS,wS,.own 33] 83),(33,.row wP 86)],64,[]⟩),(pkey [(0,29),(0,15)],⟨52,[(4,.ptr 32 0),(24,.h .bool)],[(32,.cells [wS,wS,.own 33] 83),(33,.row wP 86)],64,[]⟩)]
def z78 (fu:Nat):(x85 fu).L 0:=Fx.jn (ql9 fu) [] fun d=>by kernel_rfl
def z99 (fu:Nat):(x85 fu).L 1:=Fx.jn (qcf fu) [(z78 fu).s] fun d=>by kernel_rfl
def x85s (fu:Nat):EI wG x85i:=(x85 fu).fin (ql1 fu) [(z99 fu).s] Tryz.call83 rfl rfl (by kernel_rfl) fun d d'=>by kernel_rfl
def x86i:IF:=⟨.fn 97,[.h wB],[],_,RS.mk (.fn 130 [.ptr 0 0]) [(0,.cells [.h wB] 23)]⟩
def x86:Fx wG x86i:=fx Tryz.f97 97 Tryz.func97 [] false [] qaf []
def x86s:EI wG x86i:=x86.fin qro [] Tryz.call97 rfl rfl (by kernel_rfl) fun d d'=>by kernel_rfl
def x87i:IF:=⟨.fn 154,[wS,.h .byte],[],_,RS.mk (wS) []⟩
def x87 (fu:Nat):Fx wG x87i:=fx Tryz.f154 154 Tryz.func154 [] false [] qaf [(pkey [(0,96),(0,97),(0,49),(2,12),(1,6),(0,7)],⟨23,[(0,wS),(1,.h .byte)],[],64,[]⟩)]
def z6t (fu:Nat):Nat->(x87 fu).L 0:=Fx.lp (qfu fu) (qlb fu) (fun _=>rfl) (fun _=>rfl) (fun r0=>[r0.s]) fun _ d=>by kernel_rfl
def x87s (fu:Nat):EI wG x87i:=(x87 fu).fin (qik fu) [(z6t fu fu).s] Tryz.call154 rfl rfl (by kernel_rfl) fun d d'=>by kernel_rfl
def x88i:IF:=⟨.fn 157,[wS,.el 0 1],[(0,.row .bool 194)],_,RS.mk (wS) [(0,.row .bool 194)]⟩
def x88 (fu:Nat):Fx wG x88i:=fx Tryz.f157 157 Tryz.func157 [x15s.p] false [] qaf [(pkey [(0,96),(0,97),(0,49),(2,12),(1,6),(0,7)],⟨22,[(0,wS),(1,.el 0 1)],[(0,.row .bool 194)],64,[]⟩)]
def z8n (fu:Nat):Nat->(x88 fu).L 0:=Fx.lp (qbx fu) (qfe fu) (fun _=>rfl) (fun _=>rfl) (fun r0=>[r0.s]) fun _ d=>by kernel_rfl
def x88s (fu:Nat):EI wG x88i:=(x88 fu).fin (qea fu) [(z8n fu fu).s] Tryz.call157 rfl rfl (by kernel_rfl) fun d d'=>by kernel_rfl
def x89i:IF:=⟨.fn 204,[.h .byte],[],_,RS.mk (.h .bool) []⟩
def x89:Fx wG x89i:=fx Tryz.f204 204 Tryz.func204 [] false [] qaf []
def x89s:EI wG x89i:=x89.fin qmg [] Tryz.call204 rfl rfl (by kernel_rfl) fun d d'=>by kernel_rfl
def x90i:IF:=⟨.fn 182,[wS],[],_,RS.mk (.tup [.h (.int .i32),wH]) []⟩
def x90 (fu:Nat):Fx wG x90i:=fx Tryz.f182 182 Tryz.func182 [x89s.p,x31s.p] false [] qaf [(pkey [(0,2046),(0,2047)],⟨51,[(0,wS),(4,wH),(5,wH)],[],64,[]⟩),(pkey [(0,2044),(0,2045),(0,1023)],⟨51,[(0,wS),(4,wH),(5,wH)],[],64,[]⟩),(pkey [(0,16336),(0,16337),(0,8169),(2,2042),(1,1021),(0,511)],⟨51,[(0,wS),(4,wH),(5,wH),(6,wH)],[],64,[]⟩)]
def va9 (fu:Nat):(x90 fu).L 0:=Fx.jn (qbp fu) [] fun d=>by kernel_rfl
def vbc (fu:Nat):(x90 fu).L 1:=Fx.jn (qbq fu) [(va9 fu).s] fun d=>by kernel_rfl
def z7v (fu:Nat):Nat->(x90 fu).L 2:=Fx.lp (qbu fu) (qdu fu) (fun _=>rfl) (fun _=>rfl) (fun r0=>[(vbc fu).s,r0.s]) fun _ d=>by kernel_rfl
def x90s (fu:Nat):EI wG x90i:=(x90 fu).fin (qej fu) [(z7v fu fu).s] Tryz.call182 rfl rfl (by kernel_rfl) fun d d'=>by kernel_rfl
def x91i:IF:=⟨.fn 159,[wS,wS],[],_,RS.mk (wS) []⟩
def x91 (fu:Nat):Fx wG x91i:=fx Tryz.f159 159 Tryz.func159 [(x90s fu).p,(x32s fu).p] false [] qaf [(pkey [(0,96),(0,97),(0,49),(2,12),(1,6),(0,7)],⟨34,[(0,wS),(1,wS)],[],64,[]⟩)]
def vbb (fu:Nat):Nat->(x91 fu).L 0:=Fx.lp (qei fu) (qi0 fu) (fun _=>rfl) (fun _=>rfl) (fun r0=>[r0.s]) fun _ d=>by kernel_rfl
def x91s (fu:Nat):EI wG x91i:=(x91 fu).fin (qft fu) [(vbb fu fu).s] Tryz.call159 rfl rfl (by kernel_rfl) fun d d'=>by kernel_rfl
def x92i:IF:=⟨.fn 148,[wS,wS],[],_,RS.mk (wS) []⟩
def x92 (fu:Nat):Fx wG x92i:=fx Tryz.f148 148 Tryz.func148 [(x87s fu).p,(x10s fu).p,(x88s fu).p,(x91s fu).p] false [] qaf [(pkey [(0,60),(0,61),(0,31)],⟨37,[(0,wS),(1,wS)],[],64,[]⟩),(pkey [(0,29),(0,15)],⟨37,[(0,wS),(1,wS),(21,.h .bool)],[],64,[]⟩),(pkey [(0,28),(0,29),(0,15)],⟨37,[(0,wS),(1,wS)],[],64,[]⟩),(pkey [(0,13),(0,7)],⟨37,[(0,wS),(1,wS),(12,.h .bool)],[],64,[]⟩)]
def z98 (fu:Nat):(x92 fu).L 0:=Fx.jn (qjr fu) [] fun d=>by kernel_rfl
def z5h (fu:Nat):(x92 fu).L 1:=Fx.jn (qfl fu) [(z98 fu).s] fun d=>by kernel_rfl
def vad (fu:Nat):(x92 fu).L 2:=Fx.jn (qjp fu) [(z5h fu).s] fun d=>by kernel_rfl
def z9q (fu:Nat):(x92 fu).L 3:=Fx.jn (qfo fu) [(vad fu).s] fun d=>by kernel_rfl
def x92s (fu:Nat):EI wG x92i:=(x92 fu).fin (qfj fu) [(z9q fu).s] Tryz.call148 rfl rfl (by kernel_rfl) fun d d'=>by kernel_rfl
def x93i:IF:=⟨.fn 120,[wS,wS],[],_,RS.mk (wH) []⟩
def x93 (fu:Nat):Fx wG x93i:=fx Tryz.f120 120 Tryz.func120 [(x92s fu).p] false [] qaf []
def x93s (fu:Nat):EI wG x93i:=(x93 fu).fin (qs8 fu) [] Tryz.call120 rfl rfl (by kernel_rfl) fun d d'=>by kernel_rfl
def x94i:IF:=⟨.yld 0,[wH,wS],[(0,.loop .ready none 84 51 [(2,.ptr 1 0),(3,.ptr 2 0),(4,.ptr 3 0),(5,.ptr 4 0),(6,.ptr 5 0)] [12,13] 2 6),(1,.cells [.h wB] 23),(2,.cells [wS] 9),(3,.cells [.own 7] 77),(4,.cells [.own 8] 77),(5,.cells [wH] 3),(6,.dfr),(7,.row wB 23),(8,.row wB 23)],_,.two (RS.mk (.c (.bool true)) [(0,.loop .ready none 84 51 [(2,.ptr 1 0),(3,.ptr 2 0),(4,.ptr 3 0),(5,.ptr 4 0),(6,.ptr 5 0)] [12,13] 2 6),(1,.cells [.h wB] 23),(2,.cells [wS] 9),(3,.cells [.own 9] 77),(4,.cells [.own 10] 77),(5,.cells [wH] 3),(6,.dfr),(7,.dead),(8,.dead),(9,.row wB 23),(10,.row wB 23)]) (RS.mk (.c (.bool false)) [(0,.loop .done (some .ret) 84 51 [(2,.ptr 1 0),(3,.ptr 2 0),(4,.ptr 3 0),(5,.ptr 4 0),(6,.ptr 5 0)] [12,13] 2 6),(1,.cells [.h wB] 23),(2,.cells [wS] 9),(3,.cells [.own 9] 77),(4,.cells [.own 9] 77),(5,.cells [wH] 3),(6,.dfr),(7,.dead),(8,.dead),(9,.row wB 23)])⟩
def x94 (fu:Nat):Fx wG x94i:=fx Tryz.f84 84 Tryz.func84 [(x93s fu).p] false [([0,1,0,1,1,1],2)] (q8u rfl qaf) []
def x94s (fu:Nat):EI wG x94i:=(x94 fu).fiy (qc7 fu) [] 0 rfl [0,1,0,1,1,1] (by kernel_rfl) (by kernel_rfl) fun d d'=>by kernel_rfl
def x95i:IF:=⟨.fn 130,[.yld 0,.ptr 1 0],[(0,.loop .ready none 84 51 [(2,.ptr 2 0),(3,.ptr 3 0),(4,.ptr 4 0),(5,.ptr 5 0),(6,.ptr 6 0)] [12,13] 2 7),(1,.cells [.h wB] 23),(2,.cells [.h wB] 23),(3,.cells [wS] 9),(4,.cells [.own 8] 77),(5,.cells [.own 9] 77),(6,.cells [wH] 3),(7,.dfr),(8,.row wB 23),(9,.row wB 23)],_,.two (RS.mk (.tup []) [(0,.loop .done (some .ret) 84 51 [(2,.ptr 2 0),(3,.ptr 3 0),(4,.ptr 4 0),(5,.ptr 5 0),(6,.ptr 6 0)] [12,13] 2 7),(1,.cells [.h wB] 23),(2,.cells [.h wB] 23),(3,.cells [wS] 9),(4,.cells [.own 10] 77),(5,.cells [.own 10] 77),(6,.cells [wH] 3),(7,.dfr),(8,.dead),(9,.dead),(10,.row wB 23)]) (RS.mk (.tup []) [(0,.loop .ready none 84 51 [(2,.ptr 2 0),(3,.ptr 3 0),(4,.ptr 4 0),(5,.ptr 5 0),(6,.ptr 6 0)] [12,13] 2 7),(1,.cells [.h wB] 23),(2,.cells [.h wB] 23),(3,.cells [wS] 9),(4,.cells [.own 10] 77),(5,.cells [.own 11] 77),(6,.cells [wH] 3),(7,.dfr),(8,.dead),(9,.dead),(10,.row wB 23),(11,.row wB 23)])⟩
def x95 (fu:Nat):Fx wG x95i:=fx Tryz.f130 130 Tryz.func130 [⟨q96.e qer,q70 (by decide)⟩,(x94s fu).p] false [] qaf [(pkey [(0,48),(0,49),(0,25),(2,6),(1,3)],⟨39,[(0,.yld 0),(1,.ptr 1 0),(3,wH)],[(0,.loop .ready none 84 51 [(2,.ptr 2 0),(3,.ptr 3 0),(4,.ptr 4 0),(5,.ptr 5 0),(6,.ptr 6 0)] [12,13] 2 7),(1,.cells [.h wB] 23),(2,.cells [.h wB] 23),(3,.cells [wS] 9),(4,.cells [.own 32] 77),(5,.cells [.own 33] 77),(6,.cells [wH] 3),(7,.dfr),(8,.dead),(9,.dead),(32,.row wB 23),(33,.row wB 23)],64,[]⟩)]
def z4y (fu:Nat):Nat->(x95 fu).L 0:=Fx.lp (qc0 fu) (qmr fu) (fun _=>rfl) (fun _=>rfl) (fun r0=>[r0.s]) fun _ d=>by kernel_rfl
def x95s (fu:Nat):EI wG x95i:=(x95 fu).fin (qsb fu) [(z4y fu fu).s] Tryz.call130 rfl rfl (by kernel_rfl) fun d d'=>by kernel_rfl
def x96i:IF:=⟨.fn 84,[.h wB,wS],[],_,RS.mk (.own 0) [(0,.row wB 23)]⟩
def x96 (fu:Nat):Fx wG x96i:=fx Tryz.f84 84 Tryz.func84 [x86s.p,(x95s fu).p] false [([0,1,0,1,1,1],2)] (q8u rfl qaf) []
def x96s (fu:Nat):EI wG x96i:=(x96 fu).fin (qk0 fu) [] Tryz.call84 rfl rfl (by kernel_rfl) fun d d'=>by kernel_rfl
def x97i:IF:=⟨.fn 54,[.h wL,.h wB,wH],[],_,RS.mk (.own 0) [(0,.row wB 23)]⟩
def x97 (fu:Nat):Fx wG x97i:=fx Tryz.f54 54 Tryz.func54 [(x85s fu).p,(x96s fu).p] false [] qaf []
def x97s (fu:Nat):EI wG x97i:=(x97 fu).fin (qk2 fu) [] Tryz.call54 rfl rfl (by kernel_rfl) fun d d'=>by kernel_rfl
def x98i:IF:=⟨.fn 25,[.h (.prod wT wI)],[],_,RS.mk (wH) []⟩
def x98 (fu:Nat):Fx wG x98i:=fx Tryz.f25 25 Tryz.func25 [(x25s fu).p,x24s.p,(x80s fu).p,(x81s fu).p,(x97s fu).p] false [] qaf []
def x98s (fu:Nat):EI wG x98i:=(x98 fu).fin (qra fu) [] Tryz.call25 rfl rfl (by kernel_rfl) fun d d'=>by kernel_rfl
def x99i:IF:=⟨.yld 0,[wH,.agg [.h wL,.h wB,.h (.list wT),wH]],[(0,.loop .ready none 10 36 [(2,.ptr 1 0)] [26,27] 1 2),(1,.dat (.prod wI wI) 30),(2,.dfr)],_,.two (RS.mk (.c (.bool false)) [(0,.loop .done (some .ret) 10 36 [(2,.ptr 1 0)] [26,27] 1 2),(1,.dat (.prod wI wI) 30),(2,.dfr)]) (RS.mk (.c (.bool true)) [(0,.loop .ready none 10 36 [(2,.ptr 1 0)] [26,27] 1 2),(1,.dat (.prod wI wI) 30),(2,.dfr)])⟩
def x99 (fu:Nat):Fx wG x99i:=fx Tryz.f10 10 Tryz.func10 [(x98s fu).p,x2s.p] false [([0,1,0,1,1,1,1],1)] (q8u rfl qaf) []
def x99s (fu:Nat):EI wG x99i:=(x99 fu).fiy (ql3 fu) [] 0 rfl [0,1,0,1,1,1,1] (by kernel_rfl) (by kernel_rfl) fun d d'=>by kernel_rfl
def ze2:IF:=⟨.fn 50,[.h wT,wH,.ptr 0 0,.ptr 1 0,.ptr 2 0],[(0,.cells [.yld 3] 92),(1,.cells [wH] 3),(2,.cells [.fn 50 [.ptr 0 0,.ptr 1 0,.ptr 2 0]] 93),(3,.loop .ready none 10 36 [(2,.ptr 4 0)] [26,27] 1 5),(4,.dat (.prod wI wI) 30),(5,.dfr)],_,.two (RS.mk (.c (.bool false)) [(0,.cells [.yld 3] 92),(1,.cells [wH] 3),(2,.cells [.fn 50 [.ptr 0 0,.ptr 1 0,.ptr 2 0]] 93),(3,.loop .done (some .ret) 10 36 [(2,.ptr 4 0)] [26,27] 1 5),(4,.dat (.prod wI wI) 30),(5,.dfr)]) (RS.mk (.c (.bool true)) [(0,.cells [.yld 3] 92),(1,.cells [wH] 3),(2,.cells [.fn 50 [.ptr 0 0,.ptr 1 0,.ptr 2 0]] 93),(3,.loop .ready none 10 36 [(2,.ptr 4 0)] [26,27] 1 5),(4,.dat (.prod wI wI) 30),(5,.dfr)])⟩
def x100 (s12:EI wG ze2) (fu:Nat):Fx wG ze2:=fx Tryz.f50 50 Tryz.func50 [(x99s fu).p,s12.p] false [] qaf [(pkey [(0,488),(0,489),(2,122),(1,61),(0,31)],⟨33,[(1,wH),(4,.ptr 2 0),(20,.h (.list wT)),(21,wH),(22,wH)],[(0,.cells [.yld 3] 92),(1,.cells [wH] 3),(2,.cells [.fn 50 [.ptr 0 0,.ptr 1 0,.ptr 2 0]] 93),(3,.loop .ready none 10 36 [(2,.ptr 4 0)] [26,27] 1 5),(4,.dat (.prod wI wI) 30),(5,.dfr)],64,[]⟩)]
def zzp (s12:EI wG ze2) (fu:Nat):Nat->(x100 s12 fu).L 0:=Fx.lp (qdj s12.f fu) (qji s12.f fu) (fun _=>rfl) (fun _=>rfl) (fun r0=>[r0.s]) fun _ d=>by kernel_rfl
def z4m (s12:EI wG ze2) (fu:Nat):EI wG ze2:=(x100 s12 fu).fin (qgk s12.f fu) [(zzp s12 fu fu).s] Tryz.call50 rfl rfl (by kernel_rfl) fun d d'=>by kernel_rfl
def z9d (fu:Nat):EI wG ze2 := .rc (qcq fu) (fun r=>qgk r fu) (fun _ _=>rfl) (fun _=>rfl) (fun s12=>z4m s12 fu) (fun _=>rfl) fu
def zv0:IF:=⟨.fn 49,[.yld 0,.ptr 1 0],[(0,.loop .ready none 10 36 [(2,.ptr 2 0)] [26,27] 1 3),(1,.dat wT 26),(2,.dat (.prod wI wI) 30),(3,.dfr)],_,.two (RS.mk (.tup []) [(0,.loop .done (some .ret) 10 36 [(2,.ptr 2 0)] [26,27] 1 3),(1,.dat wT 26),(2,.dat (.prod wI wI) 30),(3,.dfr)]) (RS.mk (.tup []) [(0,.loop .ready none 10 36 [(2,.ptr 2 0)] [26,27] 1 3),(1,.dat wT 26),(2,.dat (.prod wI wI) 30),(3,.dfr)])⟩
def x101 (fu:Nat):Fx wG zv0:=fx Tryz.f49 49 Tryz.func49 [(z9d fu).p] false [] qaf []
def z8r (fu:Nat):EI wG zv0:=(x101 fu).fin (qky fu) [] Tryz.call49 rfl rfl (by kernel_rfl) fun d d'=>by kernel_rfl
def zut:IF:=⟨.fn 10,[.h wT],[],_,RS.mk (.h (.prod wI wI)) []⟩
def x102 (fu:Nat):Fx wG zut:=fx Tryz.f10 10 Tryz.func10 [x1s.p,(x5s fu).p,x2s.p,(z8r fu).p,x22s.p] false [([0,1,0,1,1],0),([0,1,0,1,1,1,1],1)] (q8u rfl (q8u rfl qaf)) []
def znx (fu:Nat):EI wG zut:=(x102 fu).fin (qeh fu) [] Tryz.call10 rfl rfl (by kernel_rfl) fun d d'=>by kernel_rfl
def z1a:IF:=⟨.fn 68,[.h wL,.h wB],[],_,RS.mk (.own 0) [(0,.row .byte 5)]⟩
def x103 (fu:Nat):Fx wG z1a:=fx Tryz.f68 68 Tryz.func68 [(x23s fu).p] false [] qaf [(pkey [(0,119608),(0,119609),(2,29902),(1,14951),(1,934),(0,935),(2,58),(1,29),(0,15)],⟨44,[(1,.h wB),(5,.own 33),(12,.h wL),(13,wH),(14,wH),(26,.own 32),(27,wH),(28,wH)],[(32,.row .str 9),(33,.row .byte 5)],64,[]⟩),(pkey [(0,232),(0,233),(2,58),(1,29),(0,15)],⟨44,[(1,.h wB),(5,.own 32),(12,.h wL),(13,wH),(14,wH)],[(32,.row .byte 5)],64,[]⟩)]
def zze (fu:Nat) (r0:(x103 fu).L 1):Nat->(x103 fu).L 0:=Fx.lp (qqy fu r0.f) (qva fu r0.f) (fun _=>rfl) (fun _=>rfl) (fun r1=>[r1.s,r0.s]) fun _ d=>by kernel_rfl
def zuf (fu:Nat):Nat->(x103 fu).L 1:=Fx.lp (qq2 fu) (qvh fu) (fun _=>rfl) (fun _=>rfl) (fun r0=>[(zze fu r0 fu).s]) fun _ d=>by kernel_rfl
def vau (fu:Nat):EI wG z1a:=(x103 fu).fin (qyu fu) [(zuf fu fu).s] Tryz.call68 rfl rfl (by kernel_rfl) fun d d'=>by kernel_rfl
def q3c:IF:=⟨.fn 37,[.h wT],[],_,RS.mk (.tup [.h wL,.h wB]) []⟩
def z01:IF:=⟨.fn 67,[.h wT],[],_,RS.mk (.own 0) [(0,.row .byte 5)]⟩
def x104 (s107:EI wG q3c) (fu:Nat):Fx wG z01:=fx Tryz.f67 67 Tryz.func67 [s107.p,(vau fu).p] false [] qaf []
def z7i (s107:EI wG q3c) (fu:Nat):EI wG z01:=(x104 s107 fu).fin (qvg s107.f fu) [] Tryz.call67 rfl rfl (by kernel_rfl) fun d d'=>by kernel_rfl
def z2k:IF:=⟨.fn 66,[.h (.list wT),.fn 67 []],[],_,RS.mk (.own 0) [(0,.row wB 23)]⟩
def x105 (s107:EI wG q3c) (fu:Nat):Fx wG z2k:=fx Tryz.f66 66 Tryz.func66 [(z7i s107 fu).p] false [] qaf [(pkey [(0,232),(0,233),(2,58),(1,29),(0,15)],⟨22,[(1,.fn 67 []),(5,.own 32),(8,.h (.list wT)),(9,wH),(10,wH)],[(32,.row wB 23)],64,[]⟩)]
def zw1 (s107:EI wG q3c) (fu:Nat):Nat->(x105 s107 fu).L 0:=Fx.lp (qdp s107.f fu) (qh8 s107.f fu) (fun _=>rfl) (fun _=>rfl) (fun r0=>[r0.s]) fun _ d=>by kernel_rfl
def z8i (s107:EI wG q3c) (fu:Nat):EI wG z2k:=(x105 s107 fu).fin (qjx s107.f fu) [(zw1 s107 fu fu).s] Tryz.call66 rfl rfl (by kernel_rfl) fun d d'=>by kernel_rfl
def zx5:IF:=⟨.fn 132,[wS,wS],[],_,RS.mk (.h .bool) []⟩
def x106:Fx wG zx5:=fx Tryz.f132 132 Tryz.func132 [] false [] qaf []
def z5t:EI wG zx5:=x106.fin qgz [] Tryz.call132 rfl rfl (by kernel_rfl) fun d d'=>by kernel_rfl
def z0p:IF:=⟨.fn 98,[wS,wS],[],_,RS.mk (.h .bool) []⟩
def x107:Fx wG z0p:=fx Tryz.f98 98 Tryz.func98 [z5t.p] false [] qaf []
def va1:EI wG z0p:=x107.fin qsi [] Tryz.call98 rfl rfl (by kernel_rfl) fun d d'=>by kernel_rfl
def zup:IF:=⟨.yld 0,[wH,wS],[(0,.loop .ready none 96 14 [(1,.ptr 1 0),(3,.ptr 2 0)] [8,9] 3 3),(1,.cells [wS] 9),(2,.cells [.h .bool] 4),(3,.dfr)],_,.two (RS.mk (.c (.bool false)) [(0,.loop .done (some .ret) 96 14 [(1,.ptr 1 0),(3,.ptr 2 0)] [8,9] 3 3),(1,.cells [wS] 9),(2,.cells [.h .bool] 4),(3,.dfr)]) (RS.mk (.c (.bool true)) [(0,.loop .ready none 96 14 [(1,.ptr 1 0),(3,.ptr 2 0)] [8,9] 3 3),(1,.cells [wS] 9),(2,.cells [.h .bool] 4),(3,.dfr)])⟩
def x108:Fx wG zup:=fx Tryz.f96 96 Tryz.func96 [va1.p] false [([0,1,0,1],3)] (q8u rfl qaf) []
def z6g:EI wG zup:=x108.fiy qon [] 0 rfl [0,1,0,1] (by kernel_rfl) (by kernel_rfl) fun d d'=>by kernel_rfl
def zuy:IF:=⟨.fn 130,[.yld 0,.ptr 1 0],[(0,.loop .ready none 96 14 [(1,.ptr 2 0),(3,.ptr 3 0)] [8,9] 3 4),(1,.cells [.h wB] 23),(2,.cells [wS] 9),(3,.cells [.h .bool] 4),(4,.dfr)],_,.two (RS.mk (.tup []) [(0,.loop .done (some .ret) 96 14 [(1,.ptr 2 0),(3,.ptr 3 0)] [8,9] 3 4),(1,.cells [.h wB] 23),(2,.cells [wS] 9),(3,.cells [.h .bool] 4),(4,.dfr)]) (RS.mk (.tup []) [(0,.loop .ready none 96 14 [(1,.ptr 2 0),(3,.ptr 3 0)] [8,9] 3 4),(1,.cells [.h wB] 23),(2,.cells [wS] 9),(3,.cells [.h .bool] 4),(4,.dfr)])⟩
def x109 (fu:Nat):Fx wG zuy:=fx Tryz.f130 130 Tryz.func130 [⟨q96.e qer,q70 (by decide)⟩,z6g.p] false [] qaf [(pkey [(0,48),(0,49),(0,25),(2,6),(1,3)],⟨39,[(0,.yld 0),(1,.ptr 1 0),(3,wH)],[(0,.loop .ready none 96 14 [(1,.ptr 2 0),(3,.ptr 3 0)] [8,9] 3 4),(1,.cells [.h wB] 23),(2,.cells [wS] 9),(3,.cells [.h .bool] 4),(4,.dfr)],64,[]⟩)]
def zve (fu:Nat):Nat->(x109 fu).L 0:=Fx.lp (qkl fu) (qp2 fu) (fun _=>rfl) (fun _=>rfl) (fun r0=>[r0.s]) fun _ d=>by kernel_rfl
def z35 (fu:Nat):EI wG zuy:=(x109 fu).fin (qsy fu) [(zve fu fu).s] Tryz.call130 rfl rfl (by kernel_rfl) fun d d'=>by kernel_rfl
def zys:IF:=⟨.fn 96,[.h wB,.ptr 0 0],[(0,.cells [wS] 9)],_,RS.mk (.h .bool) [(0,.cells [wS] 9)]⟩
def x110 (fu:Nat):Fx wG zys:=fx Tryz.f96 96 Tryz.func96 [x86s.p,(z35 fu).p] false [([0,1,0,1],3)] (q8u rfl qaf) []
def z8h (fu:Nat):EI wG zys:=(x110 fu).fin (qxi fu) [] Tryz.call96 rfl rfl (by kernel_rfl) fun d d'=>by kernel_rfl
def zuq:IF:=⟨.fn 129,[.h (.list wB),.fn 96 [.ptr 0 0]],[(0,.cells [wS] 9)],_,RS.mk (wH) [(0,.cells [wS] 9)]⟩
def x111 (fu:Nat):Fx wG zuq:=fx Tryz.f129 129 Tryz.func129 [(z8h fu).p] false [] qaf [(pkey [(0,104),(0,105),(2,26),(1,13),(0,7)],⟨19,[(0,.h (.list wB)),(1,.fn 96 [.ptr 0 0]),(7,wH),(8,wH)],[(0,.cells [wS] 9)],64,[]⟩)]
def z2m (fu:Nat):Nat->(x111 fu).L 0:=Fx.lp (qdn fu) (qh4 fu) (fun _=>rfl) (fun _=>rfl) (fun r0=>[r0.s]) fun _ d=>by kernel_rfl
def z6d (fu:Nat):EI wG zuq:=(x111 fu).fin (qj1 fu) [(z2m fu fu).s] Tryz.call129 rfl rfl (by kernel_rfl) fun d d'=>by kernel_rfl
def zz0:IF:=⟨.fn 95,[.h (.list wB),.fn 96 [.ptr 0 0]],[(0,.cells [wS] 9)],_,RS.mk (.h .bool) [(0,.cells [wS] 9)]⟩
def x112 (fu:Nat):Fx wG zz0:=fx Tryz.f95 95 Tryz.func95 [(z6d fu).p] false [] qaf []
def z5g (fu:Nat):EI wG zz0:=(x112 fu).fin (qhc fu) [] Tryz.call95 rfl rfl (by kernel_rfl) fun d d'=>by kernel_rfl
def zwg:IF:=⟨.fn 69,[.h (.list wB)],[],_,RS.mk (wS) []⟩
def x113 (fu:Nat):Fx wG zwg:=fx Tryz.f69 69 Tryz.func69 [⟨zpf.e qdw,zjl q7l q65⟩,(z5g fu).p] false [] qaf [(pkey [(0,224),(0,225),(1,56),(0,57),(2,14),(1,7)],⟨17,[(0,.h (.list wB)),(3,wH)],[],64,[]⟩)]
def z29 (fu:Nat):Nat->(x113 fu).L 0:=Fx.lp (qr5 fu) (qwu fu) (fun _=>rfl) (fun _=>rfl) (fun r0=>[r0.s]) fun _ d=>by kernel_rfl
def va5 (fu:Nat):EI wG zwg:=(x113 fu).fin (q01 fu) [(z29 fu fu).s] Tryz.call69 rfl rfl (by kernel_rfl) fun d d'=>by kernel_rfl
def x114 (s107:EI wG q3c) (fu:Nat):Fx wG q3c:=fx Tryz.f37 37 Tryz.func37 [(z8i s107 fu).p,(va5 fu).p,(x68s fu).p,⟨zb8.e qag,zdu⟩,⟨qut.e qag,qrr⟩,(x79s fu).p] false [] qaf [(pkey [(0,32744),(0,32745),(2,8186),(1,4093),(0,2047)],⟨76,[(5,wS),(9,.own 32),(10,.own 34),(53,.own 33),(54,wH),(55,wH)],[(32,.row wP 50),(33,.row wB 23),(34,.row .byte 5)],64,[]⟩)]
def zzu (s107:EI wG q3c) (fu:Nat):Nat->(x114 s107 fu).L 0:=Fx.lp (qk5 s107.f fu) (qt9 s107.f fu) (fun _=>rfl) (fun _=>rfl) (fun r0=>[r0.s]) fun _ d=>by kernel_rfl
def z7c (s107:EI wG q3c) (fu:Nat):EI wG q3c:=(x114 s107 fu).fin (qqo s107.f fu) [(zzu s107 fu fu).s] Tryz.call37 rfl rfl (by kernel_rfl) fun d d'=>by kernel_rfl
def z9i (fu:Nat):EI wG q3c := .rc (qqw fu) (fun r=>qqo r fu) (fun _ _=>rfl) (fun _=>rfl) (fun s107=>z7c s107 fu) (fun _=>rfl) fu
def zy1:IF:=⟨.fn 61,[.h (.prod wL wB)],[],_,RS.mk (.own 0) [(0,.row .byte 5)]⟩
def x115 (fu:Nat):Fx wG zy1:=fx Tryz.f61 61 Tryz.func61 [(x23s fu).p] false [] qaf [(pkey [(0,119608),(0,119609),(2,29902),(1,14951),(1,934),(0,935),(2,58),(1,29),(0,15)],⟨44,[(1,.ptr 32 0),(3,.own 34),(11,.h wL),(12,wH),(13,wH),(25,.own 33),(26,wH),(27,wH)],[(32,.dat (.prod wL wB) 37),(33,.row .str 9),(34,.row .byte 5)],64,[]⟩),(pkey [(0,232),(0,233),(2,58),(1,29),(0,15)],⟨44,[(1,.ptr 32 0),(3,.own 33),(11,.h wL),(12,wH),(13,wH)],[(32,.dat (.prod wL wB) 37),(33,.row .byte 5)],64,[]⟩)]
def z1n (fu:Nat) (r0:(x115 fu).L 1):Nat->(x115 fu).L 0:=Fx.lp (qng fu r0.f) (qsw fu r0.f) (fun _=>rfl) (fun _=>rfl) (fun r1=>[r1.s,r0.s]) fun _ d=>by kernel_rfl
def zxe (fu:Nat):Nat->(x115 fu).L 1:=Fx.lp (qmz fu) (qso fu) (fun _=>rfl) (fun _=>rfl) (fun r0=>[(z1n fu r0 fu).s]) fun _ d=>by kernel_rfl
def z9e (fu:Nat):EI wG zy1:=(x115 fu).fin (qvw fu) [(zxe fu fu).s] Tryz.call61 rfl rfl (by kernel_rfl) fun d d'=>by kernel_rfl
def z3z:IF:=⟨.fn 62,[.h wB],[],_,RS.mk (.h (.prod wI wI)) []⟩
def x116 (fu:Nat):Fx wG z3z:=fx Tryz.f62 62 Tryz.func62 [(x81s fu).p,x2s.p,x22s.p] false [] qaf []
def z7p (fu:Nat):EI wG z3z:=(x116 fu).fin (qxm fu) [] Tryz.call62 rfl rfl (by kernel_rfl) fun d d'=>by kernel_rfl
def z2b:IF:=⟨.fn 34,[.h (.prod wL wB)],[],_,RS.mk (.h (.prod wI wI)) []⟩
def x117 (fu:Nat):Fx wG z2b:=fx Tryz.f34 34 Tryz.func34 [(x25s fu).p,x24s.p,(z9e fu).p,x2s.p,(z7p fu).p] false [] qaf []
def zvm (fu:Nat):EI wG z2b:=(x117 fu).fin (qnn fu) [] Tryz.call34 rfl rfl (by kernel_rfl) fun d d'=>by kernel_rfl
def z3e:IF:=⟨.fn 17,[.h wT],[],_,RS.mk (.tup [.h (.prod wL wB),.h (.prod wI wI)]) []⟩
def x118 (fu:Nat):Fx wG z3e:=fx Tryz.f17 17 Tryz.func17 [(znx fu).p,x24s.p,(z9i fu).p,⟨qut.e qag,qrr⟩,⟨qyl.e qag,qw1⟩,(zvm fu).p,x2s.p,x22s.p] false [] qaf []
def z7d (fu:Nat):EI wG z3e:=(x118 fu).fin (q0u fu) [] Tryz.call17 rfl rfl (by kernel_rfl) fun d d'=>by kernel_rfl
def z1k:IF:=⟨.fn 88,[.h wP],[],_,RS.mk (.h .bool) []⟩
def x119 (fu:Nat):Fx wG z1k:=fx Tryz.f88 88 Tryz.func88 [(x27s fu).p] false [] qaf []
def ztn (fu:Nat):EI wG z1k:=(x119 fu).fin (qpl fu) [] Tryz.call88 rfl rfl (by kernel_rfl) fun d d'=>by kernel_rfl
def z1b:IF:=⟨.fn 121,[.h wL,.fn 88 []],[],_,RS.mk (wH) []⟩
def x120 (fu:Nat):Fx wG z1b:=fx Tryz.f121 121 Tryz.func121 [(ztn fu).p] false [] qaf [(pkey [(0,104),(0,105),(2,26),(1,13),(0,7)],⟨19,[(0,.h wL),(1,.fn 88 []),(7,wH),(8,wH)],[],64,[]⟩)]
def zuz (fu:Nat):Nat->(x120 fu).L 0:=Fx.lp (qbc fu) (qcu fu) (fun _=>rfl) (fun _=>rfl) (fun r0=>[r0.s]) fun _ d=>by kernel_rfl
def zvo (fu:Nat):EI wG z1b:=(x120 fu).fin (qbn fu) [(zuz fu fu).s] Tryz.call121 rfl rfl (by kernel_rfl) fun d d'=>by kernel_rfl
def zxb:IF:=⟨.fn 87,[.h wL,.fn 88 []],[],_,RS.mk (.h wL) []⟩
def x121 (fu:Nat):Fx wG zxb:=fx Tryz.f87 87 Tryz.func87 [(zvo fu).p,(ztn fu).p] true [] qaf [(pkey [(0,976),(0,977),(0,489),(2,122),(1,61),(0,31)],⟨42,[(0,.h wL),(1,.fn 88 []),(5,wH),(6,wH)],[],64,[]⟩)]
def z3o (fu:Nat):Nat->(x121 fu).L 0:=Fx.lp (qbg fu) (qdb fu) (fun _=>rfl) (fun _=>rfl) (fun r0=>[r0.s]) fun _ d=>by kernel_rfl
def z5s (fu:Nat):EI wG zxb:=(x121 fu).fin (qd1 fu) [(z3o fu fu).s] Tryz.call87 rfl rfl (by kernel_rfl) fun d d'=>by kernel_rfl
def zwu:IF:=⟨.fn 87,[.own 0,.fn 88 []],[(0,.row wP 86)],_,RS.mk (.own 1) [(0,.dead),(1,.row wP 86)]⟩
def x122 (fu:Nat):Fx wG zwu:=fx Tryz.f87 87 Tryz.func87 [(zvo fu).p,(ztn fu).p] true [] qaf [(pkey [(0,976),(0,977),(0,489),(2,122),(1,61),(0,31)],⟨42,[(0,.own 32),(1,.fn 88 []),(5,wH),(6,wH)],[(0,.dead),(32,.row wP 86)],64,[]⟩)]
def zwj (fu:Nat):Nat->(x122 fu).L 0:=Fx.lp (qa8 fu) (qcn fu) (fun _=>rfl) (fun _=>rfl) (fun r0=>[r0.s]) fun _ d=>by kernel_rfl
def vaf (fu:Nat):EI wG zwu:=(x122 fu).fin (qc8 fu) [(zwj fu fu).s] Tryz.call87 rfl rfl (by kernel_rfl) fun d d'=>by kernel_rfl
def zuh:IF:=⟨.fn 63,[.h wL],[],_,RS.mk (.tup [.own 0,.h .bool]) [(0,.row wP 50)]⟩
def x123 (fu:Nat):Fx wG zuh:=fx Tryz.f63 63 Tryz.func63 [(x68s fu).p,(z5s fu).p,(x79s fu).p,x24s.p,⟨qut.e qag,qrr⟩,(vaf fu).p] false [] qaf []
def zzv (fu:Nat):EI wG zuh:=(x123 fu).fin (qvz fu) [] Tryz.call63 rfl rfl (by kernel_rfl) fun d d'=>by kernel_rfl
def zyq:IF:=⟨.fn 149,[.h wB,.h .byte],[],_,RS.mk (wH) []⟩
def x124:Fx wG zyq:=fx Tryz.f149 149 Tryz.func149 [⟨qit 176 qbv,qtc⟩] false [] qaf []
def z6s:EI wG zyq:=x124.fin qt2 [] Tryz.call149 rfl rfl (by kernel_rfl) fun d d'=>by kernel_rfl
def zz5:IF:=⟨.fn 163,[.h wB,.h wB],[],_,RS.mk (.h .bool) []⟩
def x125:Fx wG zz5:=fx Tryz.f163 163 Tryz.func163 [] false [] qaf []
def z5x:EI wG zz5:=x125.fin qy6 [] Tryz.call163 rfl rfl (by kernel_rfl) fun d d'=>by kernel_rfl
def z26:IF:=⟨.fn 177,[.h wB,.h wB],[],_,RS.mk (.h .bool) []⟩
def x126:Fx wG z26:=fx Tryz.f177 177 Tryz.func177 [z5x.p] false [] qaf []
def z9t:EI wG z26:=x126.fin qt5 [] Tryz.call177 rfl rfl (by kernel_rfl) fun d d'=>by kernel_rfl
def z2y:IF:=⟨.fn 150,[.h wB,.h wB],[],_,RS.mk (.h wB) []⟩
def x127:Fx wG z2y:=fx Tryz.f150 150 Tryz.func150 [z9t.p] false [] qaf []
def z91:EI wG z2y:=x127.fin qsq [] Tryz.call150 rfl rfl (by kernel_rfl) fun d d'=>by kernel_rfl
def z0t:IF:=⟨.fn 122,[.h wB],[],_,RS.mk (.tup [wS,wH]) []⟩
def x128:Fx wG z0t:=fx Tryz.f122 122 Tryz.func122 [z6s.p,z91.p] false [] qaf []
def z8z:EI wG z0t:=x128.fin qzr [] Tryz.call122 rfl rfl (by kernel_rfl) fun d d'=>by kernel_rfl
def zu8:IF:=⟨.fn 152,[wS],[],_,RS.mk (.h .bool) []⟩
def x129 (fu:Nat):Fx wG zu8:=fx Tryz.f152 152 Tryz.func152 [(x23s fu).p,x24s.p] false [] qaf []
def z5v (fu:Nat):EI wG zu8:=(x129 fu).fin (qy8 fu) [] Tryz.call152 rfl rfl (by kernel_rfl) fun d d'=>by kernel_rfl
def zus:IF:=⟨.fn 124,[wS],[],_,RS.mk (.tup [.h wP,.h .bool]) []⟩
def x130 (fu:Nat):Fx wG zus:=fx Tryz.f124 124 Tryz.func124 [x46s.p,(x92s fu).p,(z5v fu).p] false [] qaf []
def z7x (fu:Nat):EI wG zus:=(x130 fu).fin (qwh fu) [] Tryz.call124 rfl rfl (by kernel_rfl) fun d d'=>by kernel_rfl
def zv5:IF:=⟨.fn 126,[wS,wS],[],_,RS.mk (wS) []⟩
def x131 (fu:Nat):Fx wG zv5:=fx Tryz.f126 126 Tryz.func126 [(x87s fu).p,(x28s fu).p,(x10s fu).p,(x88s fu).p,(x29s fu).p,(x91s fu).p,(x33s fu).p] false [] qaf [(pkey [(0,60),(0,61),(0,31)],⟨43,[(0,wS),(1,wS)],[],64,[]⟩),(pkey [(0,29),(0,15)],⟨43,[(0,wS),(1,wS),(21,.h .bool)],[],64,[]⟩),(pkey [(0,28),(0,29),(0,15)],⟨43,[(0,wS),(1,wS)],[],64,[]⟩),(pkey [(0,13),(0,7)],⟨43,[(0,wS),(1,wS),(12,.h .bool)],[],64,[]⟩)]
def zv4 (fu:Nat):(x131 fu).L 0:=Fx.jn (qtw fu) [] fun d=>by kernel_rfl
def z1y (fu:Nat):(x131 fu).L 1:=Fx.jn (qn6 fu) [(zv4 fu).s] fun d=>by kernel_rfl
def zv9 (fu:Nat):(x131 fu).L 2:=Fx.jn (qt1 fu) [(z1y fu).s] fun d=>by kernel_rfl
def zyn (fu:Nat):(x131 fu).L 3:=Fx.jn (qn0 fu) [(zv9 fu).s] fun d=>by kernel_rfl
def z61 (fu:Nat):EI wG zv5:=(x131 fu).fin (qtd fu) [(zyn fu).s] Tryz.call126 rfl rfl (by kernel_rfl) fun d d'=>by kernel_rfl
end
end Go.Sym
namespace Go.Sym
noncomputable section
open Go.Proofs
set_option linter.unusedVariables false
set_option maxRecDepth 100000
set_option maxHeartbeats 2000000
def zvl:IF:=⟨.fn 89,[.h wB],[],_,RS.mk (.tup [.own 0,wH,.h (.prod wI wI)]) [(0,.row wP 50)]⟩
def x132 (fu:Nat):Fx wG zvl:=fx Tryz.f89 89 Tryz.func89 [x2s.p,z8z.p,x19s.p,x72s.p,⟨q4m.e (qp6 fu),q7m fu⟩,(z61 fu).p,x22s.p,(z7x fu).p,⟨q4v.e (qp5 fu),q6p fu⟩] false [] qaf [(pkey [(0,8168),(0,8169),(2,2042),(1,1021),(0,511)],⟨103,[(4,.ptr 32 0),(5,.own 33),(6,wH),(11,.ptr 34 0),(77,wH),(78,wH)],[(32,.dat (.prod wI wI) 30),(33,.row wP 50),(34,.cells [.h (.int .u32),.h (.int .i32),.h (.int .u32),.iel 251 35 1,.u] 191),(35,.row .byte 250)],64,[]⟩),(pkey [(0,8168),(0,8169),(2,2042),(1,1021),(0,511)],⟨103,[(4,.ptr 32 0),(5,.own 35),(6,wH),(11,.ptr 33 0),(77,wH),(78,.c (.int .i64 0))],[(32,.dat (.prod wI wI) 30),(33,.cells [.h (.int .u32),.h (.int .i32),.h (.int .u32),.c .nilIface,.own 34] 191),(34,.row .str 9),(35,.row wP 50)],64,[]⟩),(pkey [(0,252),(0,253),(0,127)],⟨103,[(4,.ptr 32 0),(5,.own 33),(6,wH)],[(32,.dat (.prod wI wI) 30),(33,.row wP 50)],64,[]⟩),(pkey [(0,15918),(0,15919),(1,497),(2,124),(1,62),(0,63)],⟨103,[(0,.h wB),(4,.ptr 32 0),(5,.own 33),(6,wH),(7,wS),(8,wH)],[(32,.dat (.prod wI wI) 30),(33,.row wP 50)],64,[]⟩),(pkey [(0,15917),(0,7959),(1,497),(2,124),(1,62),(0,63)],⟨103,[(0,.h wB),(4,.ptr 32 0),(5,.own 33),(6,wH),(7,wS),(8,wH),(41,.h .bool)],[(32,.dat (.prod wI wI) 30),(33,.row wP 50)],64,[]⟩),(pkey [(0,992),(0,993),(0,497),(2,124),(1,62),(0,63)],⟨103,[(0,.h wB),(4,.ptr 32 0),(5,.own 33),(6,wH)],[(32,.dat (.prod wI wI) 30),(33,.row wP 50)],64,[]⟩)]
def zzk (fu:Nat):Nat->(x132 fu).L 0:=Fx.lp (qq3 fu) (qvi fu) (fun _=>rfl) (fun _=>rfl) (fun r5=>[r5.s]) fun _ d=>by kernel_rfl
def zvs (fu:Nat):Nat->(x132 fu).L 1:=Fx.lp (qqz fu) (qvc fu) (fun _=>rfl) (fun _=>rfl) (fun r3=>[(zzk fu fu).s]) fun _ d=>by kernel_rfl
def zo3 (fu:Nat):(x132 fu).L 2:=Fx.jn (qly fu) [(zvs fu fu).s] fun d=>by kernel_rfl
def z3b (fu:Nat) (r0:(x132 fu).L 5):(x132 fu).L 3:=Fx.jn (qu9 fu r0.f) [(zo3 fu).s,r0.s] fun d=>by kernel_rfl
def zw3 (fu:Nat) (r0:(x132 fu).L 5):(x132 fu).L 4:=Fx.jn (qqt fu r0.f) [r0.s,(z3b fu r0).s] fun d=>by kernel_rfl
def zy8 (fu:Nat):Nat->(x132 fu).L 5:=Fx.lp (qqn fu) (qve fu) (fun _=>rfl) (fun _=>rfl) (fun r0=>[(zo3 fu).s,(zw3 fu r0).s]) fun _ d=>by kernel_rfl
def z87 (fu:Nat):EI wG zvl:=(x132 fu).fin (qzw fu) [(zy8 fu fu).s] Tryz.call89 rfl rfl (by kernel_rfl) fun d d'=>by kernel_rfl
def q87:IF:=⟨.fn 64,[.ptr 0 0,.h wB,wH],[(0,.dat (.prod wI (.prod wI wI)) 68)],_,RS.mk (.tup [.h wT,.h .bool]) [(0,.dat (.prod wI (.prod wI wI)) 68)]⟩
def z04:IF:=⟨.fn 35,[.ptr 0 0,.own 1,.h wB,wH],[(0,.dat (.prod wI (.prod wI wI)) 68),(1,.row wP 50)],_,RS.mk (.tup [.h wT,.h .bool]) [(0,.dat (.prod wI (.prod wI wI)) 68),(1,.dead)]⟩
def x133 (s129:EI wG q87) (fu:Nat):Fx wG z04:=fx Tryz.f35 35 Tryz.func35 [⟨qut.e qag,qrr⟩,⟨qyl.e qag,qw1⟩,(x97s fu).p,(zzv fu).p,s129.p] false [] qaf [(pkey [(0,16360),(0,16361),(2,4090),(1,2045),(0,1023)],⟨73,[(0,.ptr 0 0),(3,wH),(8,.ptr 32 0),(10,.ptr 33 0),(48,.own 34),(49,wH),(50,wH)],[(0,.dat (.prod wI (.prod wI wI)) 68),(1,.dead),(32,.cells [wN,wN,wN] 26),(33,.cells [.own 35,wN,.own 36] 26),(34,.row wB 23),(35,.row wP 50),(36,.row wT 26)],64,[]⟩)]
def zuv (s129:EI wG q87) (fu:Nat):Nat->(x133 s129 fu).L 0:=Fx.lp (qfh s129.f fu) (qkk s129.f fu) (fun _=>rfl) (fun _=>rfl) (fun r0=>[r0.s]) fun _ d=>by kernel_rfl
def vay (s129:EI wG q87) (fu:Nat):EI wG z04:=(x133 s129 fu).fin (qmh s129.f fu) [(zuv s129 fu fu).s] Tryz.call35 rfl rfl (by kernel_rfl) fun d d'=>by kernel_rfl
def x134 (s129:EI wG q87) (fu:Nat):Fx wG q87:=fx Tryz.f64 64 Tryz.func64 [(z87 fu).p,x24s.p,x2s.p,(vay s129 fu).p] false [] qaf []
def z34 (s129:EI wG q87) (fu:Nat):EI wG q87:=(x134 s129 fu).fin (qih s129.f fu) [] Tryz.call64 rfl rfl (by kernel_rfl) fun d d'=>by kernel_rfl
def z8u (fu:Nat):EI wG q87 := .rc (qiu fu) (fun r=>qih r fu) (fun _ _=>rfl) (fun _=>rfl) (fun s129=>z34 s129 fu) (fun _=>rfl) fu
def zwa:IF:=⟨.fn 35,[.ptr 0 0,.h wL,.h wB,wH],[(0,.dat (.prod wI (.prod wI wI)) 68)],_,RS.mk (.tup [.h wT,.h .bool]) [(0,.dat (.prod wI (.prod wI wI)) 68)]⟩
def x135 (fu:Nat):Fx wG zwa:=fx Tryz.f35 35 Tryz.func35 [⟨qut.e qag,qrr⟩,⟨qyl.e qag,qw1⟩,(x97s fu).p,(zzv fu).p,(z8u fu).p] false [] qaf [(pkey [(0,16360),(0,16361),(2,4090),(1,2045),(0,1023)],⟨73,[(0,.ptr 0 0),(3,wH),(8,.ptr 32 0),(10,.ptr 33 0),(48,.own 34),(49,wH),(50,wH)],[(0,.dat (.prod wI (.prod wI wI)) 68),(32,.cells [wN,wN,wN] 26),(33,.cells [.own 35,wN,.own 36] 26),(34,.row wB 23),(35,.row wP 50),(36,.row wT 26)],64,[]⟩)]
def z1s (fu:Nat):Nat->(x135 fu).L 0:=Fx.lp (qhb fu) (qmn fu) (fun _=>rfl) (fun _=>rfl) (fun r0=>[r0.s]) fun _ d=>by kernel_rfl
def z7r (fu:Nat):EI wG zwa:=(x135 fu).fin (qp9 fu) [(z1s fu fu).s] Tryz.call35 rfl rfl (by kernel_rfl) fun d d'=>by kernel_rfl
def zv2:IF:=⟨.fn 15,[.h (.prod wL wB)],[],_,RS.mk (.tup [.h wT,.h (.prod wI wI)]) []⟩
def x136 (fu:Nat):Fx wG zv2:=fx Tryz.f15 15 Tryz.func15 [(zvm fu).p,x24s.p,(z7r fu).p,(znx fu).p,x2s.p,x22s.p] false [] qaf []
def va4 (fu:Nat):EI wG zv2:=(x136 fu).fin (qy0 fu) [] Tryz.call15 rfl rfl (by kernel_rfl) fun d d'=>by kernel_rfl
def q85:IF:=⟨.fn 30,[.h wT],[],_,RS.mk (.h wT) []⟩
def z0y:IF:=⟨.fn 60,[.h (.list wT),.fn 30 []],[],_,RS.mk (.own 0) [(0,.row wT 26)]⟩
def x137 (s141:EI wG q85) (fu:Nat):Fx wG z0y:=fx Tryz.f60 60 Tryz.func60 [s141.p] false [] qaf [(pkey [(0,232),(0,233),(2,58),(1,29),(0,15)],⟨22,[(1,.fn 30 []),(5,.own 32),(8,.h (.list wT)),(9,wH),(10,wH)],[(32,.row wT 26)],64,[]⟩)]
def zyk (s141:EI wG q85) (fu:Nat):Nat->(x137 s141 fu).L 0:=Fx.lp (qay s141.f fu) (qci s141.f fu) (fun _=>rfl) (fun _=>rfl) (fun r0=>[r0.s]) fun _ d=>by kernel_rfl
def z4o (s141:EI wG q85) (fu:Nat):EI wG z0y:=(x137 s141 fu).fin (qdd s141.f fu) [(zyk s141 fu fu).s] Tryz.call60 rfl rfl (by kernel_rfl) fun d d'=>by kernel_rfl
def x138 (s141:EI wG q85) (fu:Nat):Fx wG q85:=fx Tryz.f30 30 Tryz.func30 [⟨qut.e qag,qrr⟩,⟨qyl.e qag,qw1⟩,(z4o s141 fu).p] false [] qaf []
def va8 (s141:EI wG q85) (fu:Nat):EI wG q85:=(x138 s141 fu).fin (qpi s141.f fu) [] Tryz.call30 rfl rfl (by kernel_rfl) fun d d'=>by kernel_rfl
def zvt (fu:Nat):EI wG q85 := .rc (qjg fu) (fun r=>qpi r fu) (fun _ _=>rfl) (fun _=>rfl) (fun s141=>va8 s141 fu) (fun _=>rfl) fu
def zyo:IF:=⟨.fn 12,[.h wT,.own 0],[(0,.row wI 3)],_,RS.mk (.tup [.h wT,.h (.prod wI wI)]) [(0,.dead)]⟩
def x139 (fu:Nat):Fx wG zyo:=fx Tryz.f12 12 Tryz.func12 [(znx fu).p,x24s.p,(zvt fu).p,x22s.p,x2s.p] true [] qaf [(pkey [(0,14949),(0,7475),(1,934),(0,935),(2,58),(1,29),(0,15)],⟨43,[(2,.ptr 32 0),(4,.ptr 33 0),(5,.ptr 34 0),(7,wH),(8,wH),(15,.own 35),(16,wH),(17,wH),(30,.h .bool)],[(0,.dead),(32,.dat wT 26),(33,.cells [wN,wN,wN] 26),(34,.dat (.prod wI wI) 30),(35,.row wI 3)],64,[]⟩),(pkey [(0,232),(0,233),(2,58),(1,29),(0,15)],⟨43,[(2,.ptr 32 0),(4,.ptr 33 0),(5,.ptr 34 0),(15,.own 35),(16,wH),(17,wH)],[(0,.dead),(32,.dat wT 26),(33,.cells [wN,wN,wN] 26),(34,.dat (.prod wI wI) 30),(35,.row wI 3)],64,[]⟩)]
def zwc (fu:Nat) (r0:(x139 fu).L 1):(x139 fu).L 0:=Fx.jn (qef fu r0.f) [r0.s] fun d=>by kernel_rfl
def z2x (fu:Nat):Nat->(x139 fu).L 1:=Fx.lp (qee fu) (qnl fu) (fun _=>rfl) (fun _=>rfl) (fun r0=>[(zwc fu r0).s]) fun _ d=>by kernel_rfl
def zzr (fu:Nat):EI wG zyo:=(x139 fu).fin (qkp fu) [(z2x fu fu).s] Tryz.call12 rfl rfl (by kernel_rfl) fun d d'=>by kernel_rfl
def zxi:IF:=⟨.fn 32,[.h wL,.h wL],[],_,RS.mk (.h .bool) []⟩
def x140 (fu:Nat):Fx wG zxi:=fx Tryz.f32 32 Tryz.func32 [] false [] qaf [(pkey [(0,464),(0,465),(0,233),(2,58),(1,29),(0,15)],⟨26,[(0,.h wL),(1,.h wL),(5,wH)],[],64,[]⟩)]
def z2n (fu:Nat):Nat->(x140 fu).L 0:=Fx.lp (qgg fu) (qm1 fu) (fun _=>rfl) (fun _=>rfl) (fun r0=>[r0.s]) fun _ d=>by kernel_rfl
def z7h (fu:Nat):EI wG zxi:=(x140 fu).fin (qm0 fu) [(z2n fu fu).s] Tryz.call32 rfl rfl (by kernel_rfl) fun d d'=>by kernel_rfl
def z2z:IF:=⟨.fn 33,[.h wB,.h wB],[],_,RS.mk (.h .bool) []⟩
def x141:Fx wG z2z:=fx Tryz.f33 33 Tryz.func33 [] false [] qaf []
def va7:EI wG z2z:=x141.fin qxb [] Tryz.call33 rfl rfl (by kernel_rfl) fun d d'=>by kernel_rfl
def q8b:IF:=⟨.fn 14,[.h wT,.h wT],[],_,RS.mk (.h .bool) []⟩
def x142 (s143:EI wG q8b) (fu:Nat):Fx wG q8b:=fx Tryz.f14 14 Tryz.func14 [(z7h fu).p,va7.p,s143.p] false [] qaf [(pkey [(0,464),(0,465),(0,233),(2,58),(1,29),(0,15)],⟨48,[(2,.ptr 32 0),(3,.ptr 33 0),(5,wH)],[(32,.dat wT 26),(33,.dat wT 26)],64,[]⟩),(pkey [(0,28),(0,29),(0,15)],⟨48,[(2,.ptr 32 0),(3,.ptr 33 0)],[(32,.dat wT 26),(33,.dat wT 26)],64,[]⟩),(pkey [(0,13),(0,7)],⟨48,[(2,.ptr 32 0),(3,.ptr 33 0),(28,.h .bool)],[(32,.dat wT 26),(33,.dat wT 26)],64,[]⟩)]
def zyz (s143:EI wG q8b) (fu:Nat):Nat->(x142 s143 fu).L 0:=Fx.lp (qi5 s143.f fu) (qqi s143.f fu) (fun _=>rfl) (fun _=>rfl) (fun r2=>[r2.s]) fun _ d=>by kernel_rfl
def zxu (s143:EI wG q8b) (fu:Nat):(x142 s143 fu).L 1:=Fx.jn (qqe s143.f fu) [(zyz s143 fu fu).s] fun d=>by kernel_rfl
def z2t (s143:EI wG q8b) (fu:Nat):(x142 s143 fu).L 2:=Fx.jn (qix s143.f fu) [(zxu s143 fu).s] fun d=>by kernel_rfl
def vab (s143:EI wG q8b) (fu:Nat):EI wG q8b:=(x142 s143 fu).fin (qnd s143.f fu) [(z2t s143 fu).s] Tryz.call14 rfl rfl (by kernel_rfl) fun d d'=>by kernel_rfl
def z3t (fu:Nat):EI wG q8b := .rc (qh7 fu) (fun r=>qnd r fu) (fun _ _=>rfl) (fun _=>rfl) (fun s143=>vab s143 fu) (fun _=>rfl) fu
def z2r:IF:=⟨.fn 9,[],[],_,RS.mk (.h .bool) []⟩
def x143 (fu:Nat):Fx wG z2r:=fx Tryz.f9 9 Tryz.func9 [x0s.p,(z7d fu).p,(va4 fu).p,(zzr fu).p,(z3t fu).p] false [] qaf []
def z5z (fu:Nat):EI wG z2r:=(x143 fu).fin (qoi fu) [] Tryz.call9 rfl rfl (by kernel_rfl) fun d d'=>by kernel_rfl
def zep:IF:=⟨.fn 27,[.h wT,wH],[],_,RS.mk (.tup [.h (.list wT),.h (.list wI)]) []⟩
def x144 (s147:EI wG zep) (fu:Nat):Fx wG zep:=fx Tryz.f27 27 Tryz.func27 [s147.p] false [] qaf [(pkey [(0,976),(0,977),(0,489),(2,122),(1,61),(0,31)],⟨41,[(1,wH),(2,.ptr 32 0),(6,.own 33),(7,.own 34),(8,wH)],[(32,.dat wT 26),(33,.row wT 26),(34,.row wI 3)],64,[]⟩)]
def zwb (s147:EI wG zep) (fu:Nat):Nat->(x144 s147 fu).L 0:=Fx.lp (qp1 s147.f fu) (qvx s147.f fu) (fun _=>rfl) (fun _=>rfl) (fun r0=>[r0.s]) fun _ d=>by kernel_rfl
def vaa (s147:EI wG zep) (fu:Nat):EI wG zep:=(x144 s147 fu).fin (qui s147.f fu) [(zwb s147 fu fu).s] Tryz.call27 rfl rfl (by kernel_rfl) fun d d'=>by kernel_rfl
def z6c (fu:Nat):EI wG zep := .rc (qot fu) (fun r=>qui r fu) (fun _ _=>rfl) (fun _=>rfl) (fun s147=>vaa s147 fu) (fun _=>rfl) fu
def z0v:IF:=⟨.fn 21,[wH,wH],[],_,RS.mk (.h (.prod wI wI)) []⟩
def x145:Fx wG z0v:=fx Tryz.f21 21 Tryz.func21 [] false [] qaf []
def zef:EI wG z0v:=x145.fin qib [] Tryz.call21 rfl rfl (by kernel_rfl) fun d d'=>by kernel_rfl
def zy0:IF:=⟨.fn 31,[wH,wH,wH],[],_,RS.mk (.h .bool) []⟩
def x146:Fx wG zy0:=fx Tryz.f31 31 Tryz.func31 [] false [] qaf []
def q38:EI wG zy0:=x146.fin qfk [] Tryz.call31 rfl rfl (by kernel_rfl) fun d d'=>by kernel_rfl
def z2q:IF:=⟨.fn 92,[wS],[],_,RS.mk (.h .bool) []⟩
def x147 (fu:Nat):Fx wG z2q:=fx Tryz.f92 92 Tryz.func92 [q38.p] false [] qaf [(pkey [(0,208),(0,209),(0,105),(2,26),(1,13),(0,7)],⟨25,[(0,wS),(3,wH)],[],64,[]⟩)]
def zu4 (fu:Nat):Nat->(x147 fu).L 0:=Fx.lp (qh2 fu) (qo3 fu) (fun _=>rfl) (fun _=>rfl) (fun r0=>[r0.s]) fun _ d=>by kernel_rfl
def z5a (fu:Nat):EI wG z2q:=(x147 fu).fin (qpk fu) [(zu4 fu fu).s] Tryz.call92 rfl rfl (by kernel_rfl) fun d d'=>by kernel_rfl
def zue:IF:=⟨.fn 140,[.h .byte,wS],[],_,RS.mk (.h .bool) []⟩
def x148 (fu:Nat):Fx wG zue:=fx Tryz.f140 140 Tryz.func140 [] false [] qaf [(pkey [(0,208),(0,209),(0,105),(2,26),(1,13),(0,7)],⟨17,[(0,.h .byte),(1,wS),(5,wH)],[],64,[]⟩)]
def zxw (fu:Nat):Nat->(x148 fu).L 0:=Fx.lp (qkz fu) (qrd fu) (fun _=>rfl) (fun _=>rfl) (fun r0=>[r0.s]) fun _ d=>by kernel_rfl
def zpd (fu:Nat):EI wG zue:=(x148 fu).fin (qmj fu) [(zxw fu fu).s] Tryz.call140 rfl rfl (by kernel_rfl) fun d d'=>by kernel_rfl
def z2w:IF:=⟨.fn 90,[.h .byte],[],_,RS.mk (.h .bool) []⟩
def x149:Fx wG z2w:=fx Tryz.f90 90 Tryz.func90 [] false [] qaf []
def znb:EI wG z2w:=x149.fin qkx [] Tryz.call90 rfl rfl (by kernel_rfl) fun d d'=>by kernel_rfl
def zwh:IF:=⟨.fn 93,[wS],[],_,RS.mk (wS) []⟩
def x150 (fu:Nat):Fx wG zwh:=fx Tryz.f93 93 Tryz.func93 [znb.p] false [] qaf [(pkey [(0,98),(1,49),(2,12),(1,6),(0,7)],⟨30,[(0,wS)],[],64,[]⟩),(pkey [(0,224),(0,225),(0,113),(2,28),(1,14),(0,15)],⟨30,[(0,wS)],[],64,[]⟩),(pkey [(0,97),(0,49),(2,12),(1,6),(0,7)],⟨30,[(0,wS),(10,.h .bool)],[],64,[]⟩),(pkey [(0,96),(0,97),(0,49),(2,12),(1,6),(0,7)],⟨30,[(0,wS)],[],64,[]⟩)]
def zud (fu:Nat) (r0:(x150 fu).L 3):(x150 fu).L 0:=Fx.jn (qv3 fu r0.f) [r0.s] fun d=>by kernel_rfl
def zw4 (fu:Nat):Nat->(x150 fu).L 1:=Fx.lp (qqc fu) (qv7 fu) (fun _=>rfl) (fun _=>rfl) (fun r3=>[r3.s]) fun _ d=>by kernel_rfl
def zvb (fu:Nat) (r0:(x150 fu).L 3):(x150 fu).L 2:=Fx.jn (qp0 fu r0.f) [(zud fu r0).s,(zw4 fu fu).s] fun d=>by kernel_rfl
def zw9 (fu:Nat):Nat->(x150 fu).L 3:=Fx.lp (qp3 fu) (qv0 fu) (fun _=>rfl) (fun _=>rfl) (fun r0=>[(zvb fu r0).s]) fun _ d=>by kernel_rfl
def z33 (fu:Nat):EI wG zwh:=(x150 fu).fin (q26 fu) [(zw9 fu fu).s] Tryz.call93 rfl rfl (by kernel_rfl) fun d d'=>by kernel_rfl
def z1t:IF:=⟨.fn 112,[wS,wS],[],_,RS.mk (wH) []⟩
def x151 (fu:Nat):Fx wG z1t:=fx Tryz.f112 112 Tryz.func112 [(z5a fu).p,(zpd fu).p,(z33 fu).p] false [] qaf [(pkey [(0,976),(0,977),(0,489),(2,122),(1,61),(0,31)],⟨26,[(1,wS),(5,wH)],[],64,[]⟩)]
def zxm (fu:Nat):Nat->(x151 fu).L 0:=Fx.lp (qe3 fu) (qoz fu) (fun _=>rfl) (fun _=>rfl) (fun r0=>[r0.s]) fun _ d=>by kernel_rfl
def z9o (fu:Nat):EI wG z1t:=(x151 fu).fin (qlv fu) [(zxm fu fu).s] Tryz.call112 rfl rfl (by kernel_rfl) fun d d'=>by kernel_rfl
def z1j:IF:=⟨.fn 78,[wS,wS],[],_,RS.mk (.own 0) [(0,.row .str 9)]⟩
def x152 (fu:Nat):Fx wG z1j:=fx Tryz.f78 78 Tryz.func78 [znb.p] false [] qaf [(pkey [(0,979),(2,122),(1,61),(0,31)],⟨87,[(5,wS),(6,.own 32),(7,wH)],[(32,.row wI 3)],64,[]⟩),(pkey [(0,3913),(1,978),(0,979),(2,122),(1,61),(0,31)],⟨87,[(5,wS),(6,.own 32),(7,wH),(37,.h .bool)],[(32,.row wI 3)],64,[]⟩),(pkey [(0,520531),(2,65066),(1,32533),(0,16267),(1,2033),(2,508),(1,254),(0,255)],⟨87,[(5,wS),(6,.own 32),(8,.own 33),(9,wH),(10,wH),(11,wH)],[(32,.row wI 3),(33,.row .str 9)],64,[]⟩),(pkey [(0,4164243),(1,520530),(0,520531),(2,65066),(1,32533),(0,16267),(1,2033),(2,508),(1,254),(0,255)],⟨87,[(5,wS),(6,.own 32),(8,.own 33),(9,wH),(10,wH),(11,wH),(12,wH),(69,.h .bool)],[(32,.row wI 3),(33,.row .str 9)],64,[]⟩),(pkey [(0,520528),(0,520529),(0,260265),(2,65066),(1,32533),(0,16267),(1,2033),(2,508),(1,254),(0,255)],⟨87,[(5,wS),(6,.own 32),(8,.own 33),(9,wH),(10,wH),(11,wH)],[(32,.row wI 3),(33,.row .str 9)],64,[]⟩),(pkey [(0,4064),(0,4065),(0,2033),(2,508),(1,254),(0,255)],⟨87,[(5,wS),(6,.own 32),(8,.own 33),(9,wH)],[(32,.row wI 3),(33,.row .str 9)],64,[]⟩),(pkey [(0,976),(0,977),(0,489),(2,122),(1,61),(0,31)],⟨87,[(5,wS),(6,.own 32),(7,wH)],[(32,.row wI 3)],64,[]⟩)]
def zz7 (fu:Nat) (r0:(x152 fu).L 6):(x152 fu).L 0:=Fx.jn (qpj fu r0.f) [r0.s] fun d=>by kernel_rfl
def zyj (fu:Nat) (r0:(x152 fu).L 6):(x152 fu).L 1:=Fx.jn (qpx fu r0.f) [(zz7 fu r0).s] fun d=>by kernel_rfl
def z09 (fu:Nat) (r2:(x152 fu).L 5) (r4:(x152 fu).L 4):(x152 fu).L 2:=Fx.jn (qpm fu r2.f r4.f) [r4.s] fun d=>by kernel_rfl
def zvn (fu:Nat) (r2:(x152 fu).L 5) (r4:(x152 fu).L 4):(x152 fu).L 3:=Fx.jn (qlo fu r2.f r4.f) [(z09 fu r2 r4).s] fun d=>by kernel_rfl
def zzs (fu:Nat) (r2:(x152 fu).L 5):Nat->(x152 fu).L 4:=Fx.lp (qgr fu r2.f) (qtf fu r2.f) (fun _=>rfl) (fun _=>rfl) (fun r4=>[(zvn fu r2 r4).s,r2.s]) fun _ d=>by kernel_rfl
def zuk (fu:Nat):Nat->(x152 fu).L 5:=Fx.lp (qdx fu) (qpg fu) (fun _=>rfl) (fun _=>rfl) (fun r2=>[(zzs fu r2 fu).s]) fun _ d=>by kernel_rfl
def zvx (fu:Nat):Nat->(x152 fu).L 6:=Fx.lp (qjb fu) (qph fu) (fun _=>rfl) (fun _=>rfl) (fun r0=>[(zyj fu r0).s,(zuk fu fu).s]) fun _ d=>by kernel_rfl
def vas (fu:Nat):EI wG z1j:=(x152 fu).fin (qum fu) [(zvx fu fu).s] Tryz.call78 rfl rfl (by kernel_rfl) fun d d'=>by kernel_rfl
def z1i:IF:=⟨.fn 77,[wS,wS],[],_,RS.mk (.h (.prod wI wI)) []⟩
def x153 (fu:Nat):Fx wG z1i:=fx Tryz.f77 77 Tryz.func77 [(z9o fu).p,zef.p,(vas fu).p] false [] qaf [(pkey [(0,976),(0,977),(0,489),(2,122),(1,61),(0,31)],⟨33,[(4,.ptr 32 0),(5,.own 33),(6,wH)],[(32,.dat (.prod wI wI) 30),(33,.row .str 9)],64,[]⟩)]
def z2o (fu:Nat):Nat->(x153 fu).L 0:=Fx.lp (qhp fu) (qoa fu) (fun _=>rfl) (fun _=>rfl) (fun r0=>[r0.s]) fun _ d=>by kernel_rfl
def z7z (fu:Nat):EI wG z1i:=(x153 fu).fin (qo9 fu) [(z2o fu fu).s] Tryz.call77 rfl rfl (by kernel_rfl) fun d d'=>by kernel_rfl
def z10:IF:=⟨.fn 46,[.h wL],[],_,RS.mk (.h (.prod wI wI)) []⟩
def x154 (fu:Nat):Fx wG z10:=fx Tryz.f46 46 Tryz.func46 [zef.p,(z7z fu).p] false [] qaf [(pkey [(0,464),(0,465),(0,233),(2,58),(1,29),(0,15)],⟨34,[(0,.h wL),(2,.ptr 32 0),(3,wH)],[(32,.dat (.prod wI wI) 30)],64,[]⟩)]
def zzh (fu:Nat):Nat->(x154 fu).L 0:=Fx.lp (qfa fu) (ql4 fu) (fun _=>rfl) (fun _=>rfl) (fun r0=>[r0.s]) fun _ d=>by kernel_rfl
def z94 (fu:Nat):EI wG z10:=(x154 fu).fin (ql0 fu) [(zzh fu fu).s] Tryz.call46 rfl rfl (by kernel_rfl) fun d d'=>by kernel_rfl
def z1x:IF:=⟨.fn 85,[wS],[],_,RS.mk (wS) []⟩
def x155 (fu:Nat):Fx wG z1x:=fx Tryz.f85 85 Tryz.func85 [q38.p] false [] qaf [(pkey [(0,464),(0,465),(0,233),(2,58),(1,29),(0,15)],⟨29,[(3,.own 32),(4,wH)],[(32,.row .byte 5)],64,[]⟩)]
def zye (fu:Nat):Nat->(x155 fu).L 0:=Fx.lp (qk7 fu) (qrf fu) (fun _=>rfl) (fun _=>rfl) (fun r0=>[r0.s]) fun _ d=>by kernel_rfl
def zq7 (fu:Nat):EI wG z1x:=(x155 fu).fin (qmk fu) [(zye fu fu).s] Tryz.call85 rfl rfl (by kernel_rfl) fun d d'=>by kernel_rfl
def zu1:IF:=⟨.fn 56,[wS,wS],[],_,RS.mk (.h .bool) []⟩
def x156 (fu:Nat):Fx wG zu1:=fx Tryz.f56 56 Tryz.func56 [(zq7 fu).p] false [] qaf []
def zey (fu:Nat):EI wG zu1:=(x156 fu).fin (qdm fu) [] Tryz.call56 rfl rfl (by kernel_rfl) fun d d'=>by kernel_rfl
def z2g:IF:=⟨.fn 57,[.h wL,wS],[],_,RS.mk (.own 0) [(0,.row .str 9)]⟩
def x157 (fu:Nat):Fx wG z2g:=fx Tryz.f57 57 Tryz.func57 [(zey fu).p] false [] qaf [(pkey [(0,464),(0,465),(0,233),(2,58),(1,29),(0,15)],⟨29,[(0,.h wL),(1,wS),(5,.own 32),(6,wH)],[(32,.row .str 9)],64,[]⟩)]
def zub (fu:Nat):Nat->(x157 fu).L 0:=Fx.lp (qfw fu) (qqf fu) (fun _=>rfl) (fun _=>rfl) (fun r0=>[r0.s]) fun _ d=>by kernel_rfl
def zwe (fu:Nat):EI wG z2g:=(x157 fu).fin (qri fu) [(zub fu fu).s] Tryz.call57 rfl rfl (by kernel_rfl) fun d d'=>by kernel_rfl
def zzl:IF:=⟨.fn 102,[wS,wH],[],_,RS.mk (wH) []⟩
def x158 (fu:Nat):Fx wG zzl:=fx Tryz.f102 102 Tryz.func102 [znb.p] false [] qaf [(pkey [(0,96),(0,97),(0,49),(2,12),(1,6),(0,7)],⟨18,[(0,wS),(1,wH)],[],64,[]⟩)]
def zy2 (fu:Nat):Nat->(x158 fu).L 0:=Fx.lp (qpy fu) (qwa fu) (fun _=>rfl) (fun _=>rfl) (fun r0=>[r0.s]) fun _ d=>by kernel_rfl
def z7j (fu:Nat):EI wG zzl:=(x158 fu).fin (qlt fu) [(zy2 fu fu).s] Tryz.call102 rfl rfl (by kernel_rfl) fun d d'=>by kernel_rfl
def z3v:IF:=⟨.fn 111,[.h .byte],[],_,RS.mk (.h .bool) []⟩
def x159 (fu:Nat):Fx wG z3v:=fx Tryz.f111 111 Tryz.func111 [q38.p,(zpd fu).p] false [] qaf []
def zrh (fu:Nat):EI wG z3v:=(x159 fu).fin (qje fu) [] Tryz.call111 rfl rfl (by kernel_rfl) fun d d'=>by kernel_rfl
def zy4:IF:=⟨.fn 103,[wS,wH,wS],[],_,RS.mk (wH) []⟩
def x160 (fu:Nat):Fx wG zy4:=fx Tryz.f103 103 Tryz.func103 [(zrh fu).p,(zpd fu).p] false [] qaf [(pkey [(0,96),(0,97),(0,49),(2,12),(1,6),(0,7)],⟨27,[(0,wS),(1,wH),(2,wS)],[],64,[]⟩)]
def zzq (fu:Nat):Nat->(x160 fu).L 0:=Fx.lp (qrz fu) (qxu fu) (fun _=>rfl) (fun _=>rfl) (fun r0=>[r0.s]) fun _ d=>by kernel_rfl
def z5e (fu:Nat):EI wG zy4:=(x160 fu).fin (qwx fu) [(zzq fu fu).s] Tryz.call103 rfl rfl (by kernel_rfl) fun d d'=>by kernel_rfl
def zt7:IF:=⟨.fn 91,[wS,wS,wH],[],_,RS.mk (wH) []⟩
def x161 (fu:Nat):Fx wG zt7:=fx Tryz.f91 91 Tryz.func91 [] false [] qaf [(pkey [(0,208),(0,209),(0,105),(2,26),(1,13),(0,7)],⟨28,[(0,wS),(1,wS),(7,wH)],[],64,[]⟩)]
def z0e (fu:Nat):Nat->(x161 fu).L 0:=Fx.lp (qp4 fu) (qwl fu) (fun _=>rfl) (fun _=>rfl) (fun r0=>[r0.s]) fun _ d=>by kernel_rfl
def z4t (fu:Nat):EI wG zt7:=(x161 fu).fin (qzu fu) [(z0e fu fu).s] Tryz.call91 rfl rfl (by kernel_rfl) fun d d'=>by kernel_rfl
def zz3:IF:=⟨.fn 141,[wS,wH,wH],[],_,RS.mk (wH) []⟩
def x162 (fu:Nat):Fx wG zz3:=fx Tryz.f141 141 Tryz.func141 [q38.p] false [] qaf [(pkey [(0,1865),(1,466),(0,467),(2,58),(1,29),(0,15)],⟨40,[(0,wS),(1,wH),(2,wH),(7,wH),(8,wH)],[],64,[]⟩),(pkey [(0,3729),(0,1865),(1,466),(0,467),(2,58),(1,29),(0,15)],⟨40,[(0,wS),(1,wH),(2,wH),(7,wH),(8,wH),(24,.h .bool)],[],64,[]⟩),(pkey [(0,464),(0,465),(0,233),(2,58),(1,29),(0,15)],⟨40,[(0,wS),(1,wH),(2,wH),(7,wH),(8,wH)],[],64,[]⟩)]
def zz4 (fu:Nat) (r0:(x162 fu).L 2):(x162 fu).L 0:=Fx.jn (qqg fu r0.f) [r0.s] fun d=>by kernel_rfl
def z0u (fu:Nat) (r0:(x162 fu).L 2):(x162 fu).L 1:=Fx.jn (qiy fu r0.f) [(zz4 fu r0).s] fun d=>by kernel_rfl
def zuw (fu:Nat):Nat->(x162 fu).L 2:=Fx.lp (qi6 fu) (qqp fu) (fun _=>rfl) (fun _=>rfl) (fun r0=>[(z0u fu r0).s]) fun _ d=>by kernel_rfl
def z7l (fu:Nat):EI wG zz3:=(x162 fu).fin (qnm fu) [(zuw fu fu).s] Tryz.call141 rfl rfl (by kernel_rfl) fun d d'=>by kernel_rfl
def zfy:IF:=⟨.fn 73,[.h (.int .u64)],[],_,RS.mk (wS) []⟩
def x163 (s171:EI wG zfy) (fu:Nat):Fx wG zfy:=fx Tryz.f73 73 Tryz.func73 [s171.p] false [] qaf []
def z6j (s171:EI wG zfy) (fu:Nat):EI wG zfy:=(x163 s171 fu).fin (qpc s171.f fu) [] Tryz.call73 rfl rfl (by kernel_rfl) fun d d'=>by kernel_rfl
def z8x (fu:Nat):EI wG zfy := .rc (qlw fu) (fun r=>qpc r fu) (fun _ _=>rfl) (fun _=>rfl) (fun s171=>z6j s171 fu) (fun _=>rfl) fu
def zvf:IF:=⟨.fn 42,[wH],[],_,RS.mk (wS) []⟩
def x164 (fu:Nat):Fx wG zvf:=fx Tryz.f42 42 Tryz.func42 [(z8x fu).p] false [] qaf []
def z0d (fu:Nat):EI wG zvf:=(x164 fu).fin (qkn fu) [] Tryz.call42 rfl rfl (by kernel_rfl) fun d d'=>by kernel_rfl
def zyi:IF:=⟨.fn 104,[wS,wS],[],_,RS.mk (.tup [.h (.prod .str (.prod .str (.prod wI .bool))),.h .bool]) []⟩
def x165 (fu:Nat):Fx wG zyi:=fx Tryz.f104 104 Tryz.func104 [(z4t fu).p,(z7l fu).p,(z0d fu).p] false [] qaf [(pkey [(0,254),(0,255)],⟨63,[(4,.ptr 32 0),(7,wS),(8,.ptr 33 0)],[(32,.dat (.prod .str (.prod .str (.prod wI .bool))) 149),(33,.dat (.prod .str (.prod .str (.prod wI .bool))) 149)],64,[]⟩),(pkey [(0,253),(0,127)],⟨63,[(4,.ptr 32 0),(7,wS),(8,.ptr 33 0),(37,.h .bool)],[(32,.dat (.prod .str (.prod .str (.prod wI .bool))) 149),(33,.dat (.prod .str (.prod .str (.prod wI .bool))) 149)],64,[]⟩)]
def zxv (fu:Nat):(x165 fu).L 0:=Fx.jn (qho fu) [] fun d=>by kernel_rfl
def z0k (fu:Nat):(x165 fu).L 1:=Fx.jn (qkg fu) [(zxv fu).s] fun d=>by kernel_rfl
def z7u (fu:Nat):EI wG zyi:=(x165 fu).fin (qst fu) [(z0k fu).s] Tryz.call104 rfl rfl (by kernel_rfl) fun d d'=>by kernel_rfl
def zxr:IF:=⟨.fn 143,[wS,wH],[],_,RS.mk (.tup [wH,wH]) []⟩
def x166 (fu:Nat):Fx wG zxr:=fx Tryz.f143 143 Tryz.func143 [q38.p] false [] qaf [(pkey [(0,32720),(0,32721),(0,16361),(2,4090),(1,2045),(0,1023)],⟨76,[(0,wS),(1,wH),(7,wH),(8,wH),(9,wH),(10,wH)],[],64,[]⟩),(pkey [(0,2044),(0,2045),(0,1023)],⟨76,[(0,wS),(1,wH),(7,wH),(8,wH),(9,wH)],[],64,[]⟩),(pkey [(0,1021),(0,511)],⟨76,[(0,wS),(1,wH),(7,wH),(8,wH),(9,wH),(43,.h .bool)],[],64,[]⟩),(pkey [(0,1020),(0,1021),(0,511)],⟨76,[(0,wS),(1,wH),(7,wH),(8,wH),(9,wH)],[],64,[]⟩)]
def z2s (fu:Nat):Nat->(x166 fu).L 0:=Fx.lp (qgh fu) (qs7 fu) (fun _=>rfl) (fun _=>rfl) (fun r3=>[r3.s]) fun _ d=>by kernel_rfl
def zxq (fu:Nat):(x166 fu).L 1:=Fx.jn (q0y fu) [(z2s fu fu).s] fun d=>by kernel_rfl
def z13 (fu:Nat):(x166 fu).L 2:=Fx.jn (qpz fu) [(zxq fu).s] fun d=>by kernel_rfl
def z3n (fu:Nat):(x166 fu).L 3:=Fx.jn (qf2 fu) [(z13 fu).s] fun d=>by kernel_rfl
def zzg (fu:Nat):EI wG zxr:=(x166 fu).fin (qv2 fu) [(z3n fu).s] Tryz.call143 rfl rfl (by kernel_rfl) fun d d'=>by kernel_rfl
def zvz:IF:=⟨.fn 144,[wH],[],_,RS.mk (wS) []⟩
def x167:Fx wG zvz:=fx Tryz.f144 144 Tryz.func144 [q38.p] false [] qaf [(pkey [(0,28),(0,29),(0,15)],⟨65,[(0,wH)],[],64,[]⟩),(pkey [(0,13),(0,7)],⟨65,[(0,wH),(9,.h .bool)],[],64,[]⟩)]
def z0c:x167.L 0:=Fx.jn qwp [] fun d=>by kernel_rfl
def zwy:x167.L 1:=Fx.jn qvp [(z0c).s] fun d=>by kernel_rfl
def z4j:EI wG zvz:=x167.fin q28 [(zwy).s] Tryz.call144 rfl rfl (by kernel_rfl) fun d d'=>by kernel_rfl
def zzc:IF:=⟨.fn 106,[wS],[],_,RS.mk (wS) []⟩
def x168 (fu:Nat):Fx wG zzc:=fx Tryz.f106 106 Tryz.func106 [(zzg fu).p,z4j.p] false [] qaf [(pkey [(0,976),(0,977),(0,489),(2,122),(1,61),(0,31)],⟨39,[(0,wS),(3,wS),(4,.h .bool),(5,wH)],[],64,[]⟩)]
def zu5 (fu:Nat):Nat->(x168 fu).L 0:=Fx.lp (qi8 fu) (qqm fu) (fun _=>rfl) (fun _=>rfl) (fun r0=>[r0.s]) fun _ d=>by kernel_rfl
def vag (fu:Nat):EI wG zzc:=(x168 fu).fin (qrj fu) [(zu5 fu fu).s] Tryz.call106 rfl rfl (by kernel_rfl) fun d d'=>by kernel_rfl
def zzn:IF:=⟨.fn 142,[.h .byte],[],_,RS.mk (wH) []⟩
def x169 (fu:Nat):Fx wG zzn:=fx Tryz.f142 142 Tryz.func142 [(zq7 fu).p] false [] qaf [(pkey [(0,208),(0,209),(0,105),(2,26),(1,13),(0,7)],⟨20,[(0,.h .byte),(3,wH)],[],64,[]⟩)]
def z3r (fu:Nat):Nat->(x169 fu).L 0:=Fx.lp (qoe fu) (qun fu) (fun _=>rfl) (fun _=>rfl) (fun r0=>[r0.s]) fun _ d=>by kernel_rfl
def z5n (fu:Nat):EI wG zzn:=(x169 fu).fin (quy fu) [(z3r fu fu).s] Tryz.call142 rfl rfl (by kernel_rfl) fun d d'=>by kernel_rfl
def z0x:IF:=⟨.fn 105,[wS],[],_,RS.mk (wS) []⟩
def x170 (fu:Nat):Fx wG z0x:=fx Tryz.f105 105 Tryz.func105 [(z5n fu).p] false [] qaf [(pkey [(0,1865),(1,466),(0,467),(2,58),(1,29),(0,15)],⟨65,[(0,wS),(3,wS),(4,wH),(37,.h .bool)],[],64,[]⟩),(pkey [(0,464),(0,465),(0,233),(2,58),(1,29),(0,15)],⟨65,[(0,wS),(3,wS),(4,wH)],[],64,[]⟩)]
def zxo (fu:Nat) (r0:(x170 fu).L 1):(x170 fu).L 0:=Fx.jn (qck fu r0.f) [r0.s] fun d=>by kernel_rfl
def zyb (fu:Nat):Nat->(x170 fu).L 1:=Fx.lp (qew fu) (qoy fu) (fun _=>rfl) (fun _=>rfl) (fun r0=>[(zxo fu r0).s]) fun _ d=>by kernel_rfl
def z82 (fu:Nat):EI wG z0x:=(x170 fu).fin (qpt fu) [(zyb fu fu).s] Tryz.call105 rfl rfl (by kernel_rfl) fun d d'=>by kernel_rfl
def z1u:IF:=⟨.fn 74,[wS],[],_,RS.mk (.tup [.h (.prod .str (.prod .str wL)),.h .bool]) []⟩
def x171 (fu:Nat):Fx wG z1u:=fx Tryz.f74 74 Tryz.func74 [(z7j fu).p,(z5e fu).p,(zey fu).p,(z7u fu).p,(vag fu).p,(zq7 fu).p,(z82 fu).p] false [] qaf [(pkey [(0,137423747722),(0,137423747723),(1,17177968465),(2,4294492116),(1,2147246058),(0,2147246059),(0,134202879),(1,131057),(2,32764),(1,16382),(0,16383)],⟨332,[(0,wS),(2,.ptr 32 0),(4,wH),(6,.ptr 33 0),(7,.own 34),(8,wS),(9,wS)],[(32,.cells [wS,wS,wN] 83),(33,.cells [wS,wS,wN] 83),(34,.row (.prod .str (.prod .str (.prod wI .bool))) 149)],64,[]⟩),(pkey [(0,137423747721),(0,68711873861),(1,17177968465),(2,4294492116),(1,2147246058),(0,2147246059),(0,134202879),(1,131057),(2,32764),(1,16382),(0,16383)],⟨332,[(0,wS),(2,.ptr 32 0),(4,wH),(6,.ptr 33 0),(7,.own 34),(8,wS),(9,wS),(140,.h .bool)],[(32,.cells [wS,wS,wN] 83),(33,.cells [wS,wS,wN] 83),(34,.row (.prod .str (.prod .str (.prod wI .bool))) 149)],64,[]⟩),(pkey [(0,137423747720),(0,137423747721),(0,68711873861),(1,17177968465),(2,4294492116),(1,2147246058),(0,2147246059),(0,134202879),(1,131057),(2,32764),(1,16382),(0,16383)],⟨332,[(0,wS),(2,.ptr 32 0),(4,wH),(6,.ptr 33 0),(7,.own 34),(8,wS),(9,wS)],[(32,.cells [wS,wS,wN] 83),(33,.cells [wS,wS,wN] 83),(34,.row (.prod .str (.prod .str (.prod wI .bool))) 149)],64,[]⟩),(pkey [(0,268405758),(0,268405759),(1,131057),(2,32764),(1,16382),(0,16383)],⟨332,[(0,wS),(2,.ptr 32 0),(4,wH),(6,.ptr 33 0),(7,.own 34),(8,wS),(9,wS)],[(32,.cells [wS,wS,wN] 83),(33,.cells [wS,wS,wN] 83),(34,.row (.prod .str (.prod .str (.prod wI .bool))) 149)],64,[]⟩),(pkey [(0,34355936929),(0,17177968465),(2,4294492116),(1,2147246058),(0,2147246059),(0,134202879),(1,131057),(2,32764),(1,16382),(0,16383)],⟨332,[(0,wS),(2,.ptr 32 0),(4,wH),(6,.ptr 33 0),(7,.own 34),(8,wS),(9,wS),(129,.h .bool)],[(32,.cells [wS,wS,wN] 83),(33,.cells [wS,wS,wN] 83),(34,.row (.prod .str (.prod .str (.prod wI .bool))) 149)],64,[]⟩),(pkey [(0,34355936928),(0,34355936929),(0,17177968465),(2,4294492116),(1,2147246058),(0,2147246059),(0,134202879),(1,131057),(2,32764),(1,16382),(0,16383)],⟨332,[(0,wS),(2,.ptr 32 0),(4,wH),(6,.ptr 33 0),(7,.own 34),(8,wS),(9,wS)],[(32,.cells [wS,wS,wN] 83),(33,.cells [wS,wS,wN] 83),(34,.row (.prod .str (.prod .str (.prod wI .bool))) 149)],64,[]⟩),(pkey [(0,268405757),(0,134202879),(1,131057),(2,32764),(1,16382),(0,16383)],⟨332,[(0,wS),(2,.ptr 32 0),(4,wH),(6,.ptr 33 0),(7,.own 34),(8,wS),(9,wS),(117,.h .bool)],[(32,.cells [wS,wS,wN] 83),(33,.cells [wS,wS,wN] 83),(34,.row (.prod .str (.prod .str (.prod wI .bool))) 149)],64,[]⟩),(pkey [(0,33550718),(0,33550719),(1,131057),(2,32764),(1,16382),(0,16383)],⟨332,[(0,wS),(2,.ptr 32 0),(4,wH),(6,.ptr 33 0),(7,.own 34),(8,wS)],[(32,.cells [wS,wS,wN] 83),(33,.cells [wS,wS,wN] 83),(34,.row (.prod .str (.prod .str (.prod wI .bool))) 149)],64,[]⟩),(pkey [(0,33550717),(0,16775359),(1,131057),(2,32764),(1,16382),(0,16383)],⟨332,[(0,wS),(2,.ptr 32 0),(4,wH),(6,.ptr 33 0),(7,.own 34),(8,wS),(102,.h .bool)],[(32,.cells [wS,wS,wN] 83),(33,.cells [wS,wS,wN] 83),(34,.row (.prod .str (.prod .str (.prod wI .bool))) 149)],64,[]⟩),(pkey [(0,268423763),(2,33552970),(1,16776485),(0,8388243),(1,1048530),(0,1048531),(2,131066),(1,65533),(0,32767)],⟨332,[(2,.ptr 32 0),(6,.ptr 33 0),(7,.own 34),(12,wH),(13,.h .bool),(14,wH)],[(32,.cells [wS,wS,wN] 83),(33,.cells [wS,wS,.own 35] 83),(34,.row (.prod .str (.prod .str (.prod wI .bool))) 149),(35,.row wP 86)],64,[]⟩),(pkey [(0,1073695187),(2,134211898),(1,67105949),(0,33552975),(1,1048530),(0,1048531),(2,131066),(1,65533),(0,32767)],⟨332,[(2,.ptr 32 0),(6,.ptr 33 0),(7,.own 34),(12,wH),(13,.h .bool),(15,wH),(16,wH)],[(32,.cells [wS,wS,wN] 83),(33,.cells [wS,wS,.own 35] 83),(34,.row (.prod .str (.prod .str (.prod wI .bool))) 149),(35,.row wP 86)],64,[]⟩),(pkey [(0,4397855658579),(2,549731957322),(1,274865978661),(0,137432989331),(1,17179123666),(0,17179123667),(2,2147390458),(1,1073695229),(0,536847615),(1,1048530),(0,1048531),(2,131066),(1,65533),(0,32767)],⟨332,[(2,.ptr 32 0),(6,.ptr 33 0),(7,.own 34),(12,wH),(15,wH),(17,wS),(18,wH),(19,wH),(20,wH)],[(32,.cells [wS,wS,wN] 83),(33,.cells [wS,wS,.own 35] 83),(34,.row (.prod .str (.prod .str (.prod wI .bool))) 149),(35,.row wP 86)],64,[]⟩),(pkey [(0,17591422634313),(1,4397855658578),(0,4397855658579),(2,549731957322),(1,274865978661),(0,137432989331),(1,17179123666),(0,17179123667),(2,2147390458),(1,1073695229),(0,536847615),(1,1048530),(0,1048531),(2,131066),(1,65533),(0,32767)],⟨332,[(2,.ptr 32 0),(6,.ptr 33 0),(7,.own 34),(12,wH),(15,wH),(17,wS),(18,wH),(19,wH),(20,wH),(283,.h .bool)],[(32,.cells [wS,wS,wN] 83),(33,.cells [wS,wS,.own 35] 83),(34,.row (.prod .str (.prod .str (.prod wI .bool))) 149),(35,.row wP 86)],64,[]⟩),(pkey [(0,17179123667),(2,2147390458),(1,1073695229),(0,536847615),(1,1048530),(0,1048531),(2,131066),(1,65533),(0,32767)],⟨332,[(2,.ptr 32 0),(6,.ptr 33 0),(7,.own 34),(12,wH),(15,wH),(17,wS),(18,wH)],[(32,.cells [wS,wS,wN] 83),(33,.cells [wS,wS,.own 35] 83),(34,.row (.prod .str (.prod .str (.prod wI .bool))) 149),(35,.row wP 86)],64,[]⟩),(pkey [(0,1099463914655),(1,17179123666),(0,17179123667),(2,2147390458),(1,1073695229),(0,536847615),(1,1048530),(0,1048531),(2,131066),(1,65533),(0,32767)],⟨332,[(2,.ptr 32 0),(6,.ptr 33 0),(7,.own 34),(12,wH),(15,wH),(17,wS),(18,wH),(21,wS)],[(32,.cells [wS,wS,wN] 83),(33,.cells [wS,wS,.own 35] 83),(34,.row (.prod .str (.prod .str (.prod wI .bool))) 149),(35,.row wP 86)],64,[]⟩),(pkey [(0,8795711317237),(0,1099463914655),(1,17179123666),(0,17179123667),(2,2147390458),(1,1073695229),(0,536847615),(1,1048530),(0,1048531),(2,131066),(1,65533),(0,32767)],⟨332,[(2,.ptr 32 0),(6,.ptr 33 0),(7,.own 34),(12,wH),(15,wH),(17,wS),(18,wH),(21,wS)],[(32,.cells [wS,wS,wN] 83),(33,.cells [wS,wS,.own 35] 83),(34,.row (.prod .str (.prod .str (.prod wI .bool))) 149),(35,.row wP 86)],64,[]⟩),(pkey [(0,17591422634473),(0,8795711317237),(0,1099463914655),(1,17179123666),(0,17179123667),(2,2147390458),(1,1073695229),(0,536847615),(1,1048530),(0,1048531),(2,131066),(1,65533),(0,32767)],⟨332,[(2,.ptr 32 0),(6,.ptr 33 0),(7,.own 34),(12,wH),(15,wH),(17,wS),(18,wH),(21,wS),(310,.h .bool)],[(32,.cells [wS,wS,wN] 83),(33,.cells [wS,wS,.own 35] 83),(34,.row (.prod .str (.prod .str (.prod wI .bool))) 149),(35,.row wP 86)],64,[]⟩),(pkey [(0,4397855658576),(0,4397855658577),(0,2198927829289),(2,549731957322),(1,274865978661),(0,137432989331),(1,17179123666),(0,17179123667),(2,2147390458),(1,1073695229),(0,536847615),(1,1048530),(0,1048531),(2,131066),(1,65533),(0,32767)],⟨332,[(2,.ptr 32 0),(6,.ptr 33 0),(7,.own 34),(12,wH),(15,wH),(17,wS),(18,wH),(19,wH),(20,wH)],[(32,.cells [wS,wS,wN] 83),(33,.cells [wS,wS,.own 35] 83),(34,.row (.prod .str (.prod .str (.prod wI .bool))) 149),(35,.row wP 86)],64,[]⟩),(pkey [(0,17179123664),(0,17179123665),(0,8589561833),(2,2147390458),(1,1073695229),(0,536847615),(1,1048530),(0,1048531),(2,131066),(1,65533),(0,32767)],⟨332,[(2,.ptr 32 0),(6,.ptr 33 0),(7,.own 34),(12,wH),(15,wH),(17,wS),(18,wH)],[(32,.cells [wS,wS,wN] 83),(33,.cells [wS,wS,.own 35] 83),(34,.row (.prod .str (.prod .str (.prod wI .bool))) 149),(35,.row wP 86)],64,[]⟩),(pkey [(0,1073695184),(0,1073695185),(0,536847593),(2,134211898),(1,67105949),(0,33552975),(1,1048530),(0,1048531),(2,131066),(1,65533),(0,32767)],⟨332,[(2,.ptr 32 0),(6,.ptr 33 0),(7,.own 34),(12,wH),(13,.h .bool),(15,wH),(16,wH)],[(32,.cells [wS,wS,wN] 83),(33,.cells [wS,wS,.own 35] 83),(34,.row (.prod .str (.prod .str (.prod wI .bool))) 149),(35,.row wP 86)],64,[]⟩),(pkey [(0,268423760),(0,268423761),(0,134211881),(2,33552970),(1,16776485),(0,8388243),(1,1048530),(0,1048531),(2,131066),(1,65533),(0,32767)],⟨332,[(2,.ptr 32 0),(6,.ptr 33 0),(7,.own 34),(12,wH),(13,.h .bool),(14,wH)],[(32,.cells [wS,wS,wN] 83),(33,.cells [wS,wS,.own 35] 83),(34,.row (.prod .str (.prod .str (.prod wI .bool))) 149),(35,.row wP 86)],64,[]⟩),(pkey [(0,1048528),(0,1048529),(0,524265),(2,131066),(1,65533),(0,32767)],⟨332,[(2,.ptr 32 0),(6,.ptr 33 0),(7,.own 34),(12,wH)],[(32,.cells [wS,wS,wN] 83),(33,.cells [wS,wS,.own 35] 83),(34,.row (.prod .str (.prod .str (.prod wI .bool))) 149),(35,.row wP 86)],64,[]⟩),(pkey [(0,262112),(0,262113),(0,131057),(2,32764),(1,16382),(0,16383)],⟨332,[(0,wS),(2,.ptr 32 0),(4,wH),(6,.ptr 33 0),(7,.own 34)],[(32,.cells [wS,wS,wN] 83),(33,.cells [wS,wS,wN] 83),(34,.row (.prod .str (.prod .str (.prod wI .bool))) 149)],64,[]⟩),(pkey [(0,254),(0,255)],⟨332,[(0,wS),(2,.ptr 32 0),(4,wH),(6,.ptr 33 0)],[(32,.cells [wS,wS,wN] 83),(33,.cells [wS,wS,wN] 83)],64,[]⟩),(pkey [(0,253),(0,127)],⟨332,[(0,wS),(2,.ptr 32 0),(4,wH),(6,.ptr 33 0),(49,.h .bool)],[(32,.cells [wS,wS,wN] 83),(33,.cells [wS,wS,wN] 83)],64,[]⟩)]
def zsi (fu:Nat) (r2:(x171 fu).L 22) (r9:(x171 fu).L 5):(x171 fu).L 0:=Fx.jn (qgd fu r2.f r9.f) [r9.s] fun d=>by kernel_rfl
def ztz (fu:Nat) (r2:(x171 fu).L 22) (r9:(x171 fu).L 5):(x171 fu).L 1:=Fx.jn (qeb fu r2.f r9.f) [(zsi fu r2 r9).s] fun d=>by kernel_rfl
def zsx (fu:Nat) (r2:(x171 fu).L 22) (r9:(x171 fu).L 5):(x171 fu).L 2:=Fx.jn (qm9 fu r2.f r9.f) [(ztz fu r2 r9).s] fun d=>by kernel_rfl
def zfh (fu:Nat) (r2:(x171 fu).L 22):(x171 fu).L 3:=Fx.jn (qc1 fu r2.f) [r2.s] fun d=>by kernel_rfl
def zrq (fu:Nat) (r2:(x171 fu).L 22) (r9:(x171 fu).L 5):(x171 fu).L 4:=Fx.jn (qed fu r2.f r9.f) [(zsx fu r2 r9).s,(zfh fu r2).s] fun d=>by kernel_rfl
def zvc (fu:Nat) (r2:(x171 fu).L 22):Nat->(x171 fu).L 5:=Fx.lp (qcr fu r2.f) (qk8 fu r2.f) (fun _=>rfl) (fun _=>rfl) (fun r9=>[(zrq fu r2 r9).s]) fun _ d=>by kernel_rfl
def zwr (fu:Nat) (r2:(x171 fu).L 22):(x171 fu).L 6:=Fx.jn (qhx fu r2.f) [(zvc fu r2 fu).s,(zfh fu r2).s] fun d=>by kernel_rfl
def z32 (fu:Nat) (r2:(x171 fu).L 22):(x171 fu).L 7:=Fx.jn (qo5 fu r2.f) [(zwr fu r2).s] fun d=>by kernel_rfl
def z1z (fu:Nat) (r2:(x171 fu).L 22):(x171 fu).L 8:=Fx.jn (qic fu r2.f) [(z32 fu r2).s] fun d=>by kernel_rfl
def zsv (fu:Nat) (r4:(x171 fu).L 21) (r6:(x171 fu).L 20):(x171 fu).L 9:=Fx.jn (qgf fu r4.f r6.f) [r6.s] fun d=>by kernel_rfl
def zpj (fu:Nat) (r4:(x171 fu).L 21) (r8:(x171 fu).L 19):(x171 fu).L 10:=Fx.jn (qga fu r4.f r8.f) [r8.s] fun d=>by kernel_rfl
def zpe (fu:Nat) (r4:(x171 fu).L 21) (r13:(x171 fu).L 18) (r17:(x171 fu).L 17):(x171 fu).L 11:=Fx.jn (qd8 fu r4.f r13.f r17.f) [r17.s] fun d=>by kernel_rfl
def zts (fu:Nat) (r4:(x171 fu).L 21) (r13:(x171 fu).L 18) (r17:(x171 fu).L 17):(x171 fu).L 12:=Fx.jn (qf9 fu r4.f r13.f r17.f) [(zpe fu r4 r13 r17).s] fun d=>by kernel_rfl
def zqg (fu:Nat) (r4:(x171 fu).L 21) (r13:(x171 fu).L 18):(x171 fu).L 13:=Fx.jn (qnc fu r4.f r13.f) [r13.s] fun d=>by kernel_rfl
def zib (fu:Nat) (r4:(x171 fu).L 21) (r13:(x171 fu).L 18):(x171 fu).L 14:=Fx.jn (qd5 fu r4.f r13.f) [(zqg fu r4 r13).s] fun d=>by kernel_rfl
def zp1 (fu:Nat) (r4:(x171 fu).L 21) (r13:(x171 fu).L 18):(x171 fu).L 15:=Fx.jn (qgb fu r4.f r13.f) [(zib fu r4 r13).s] fun d=>by kernel_rfl
def zsa (fu:Nat) (r4:(x171 fu).L 21) (r13:(x171 fu).L 18):(x171 fu).L 16:=Fx.jn (qbb fu r4.f r13.f) [(zp1 fu r4 r13).s] fun d=>by kernel_rfl
def zt4 (fu:Nat) (r4:(x171 fu).L 21) (r13:(x171 fu).L 18):Nat->(x171 fu).L 17:=Fx.lp (qas fu r4.f r13.f) (qc3 fu r4.f r13.f) (fun _=>rfl) (fun _=>rfl) (fun r17=>[(zts fu r4 r13 r17).s,(zsa fu r4 r13).s,(zib fu r4 r13).s]) fun _ d=>by kernel_rfl
def zqw (fu:Nat) (r4:(x171 fu).L 21):Nat->(x171 fu).L 18:=Fx.lp (qaw fu r4.f) (qc4 fu r4.f) (fun _=>rfl) (fun _=>rfl) (fun r13=>[(zt4 fu r4 r13 fu).s,r4.s]) fun _ d=>by kernel_rfl
def zyg (fu:Nat) (r4:(x171 fu).L 21):Nat->(x171 fu).L 19:=Fx.lp (qbk fu r4.f) (qe2 fu r4.f) (fun _=>rfl) (fun _=>rfl) (fun r8=>[(zpj fu r4 r8).s,r4.s,(zqw fu r4 fu).s]) fun _ d=>by kernel_rfl
def zxz (fu:Nat) (r4:(x171 fu).L 21):Nat->(x171 fu).L 20:=Fx.lp (qh9 fu r4.f) (qn3 fu r4.f) (fun _=>rfl) (fun _=>rfl) (fun r6=>[(zsv fu r4 r6).s,(zyg fu r4 fu).s]) fun _ d=>by kernel_rfl
def z3s (fu:Nat):Nat->(x171 fu).L 21:=Fx.lp (qa3 fu) (qoo fu) (fun _=>rfl) (fun _=>rfl) (fun r4=>[(zxz fu r4 fu).s]) fun _ d=>by kernel_rfl
def z3x (fu:Nat):Nat->(x171 fu).L 22:=Fx.lp (qey fu) (qo0 fu) (fun _=>rfl) (fun _=>rfl) (fun r2=>[(z1z fu r2).s,(z3s fu fu).s]) fun _ d=>by kernel_rfl
def zyy (fu:Nat):(x171 fu).L 23:=Fx.jn (qo2 fu) [(z3x fu fu).s] fun d=>by kernel_rfl
def zuj (fu:Nat):(x171 fu).L 24:=Fx.jn (qdk fu) [(zyy fu).s] fun d=>by kernel_rfl
def z79 (fu:Nat):EI wG z1u:=(x171 fu).fin (qlk fu) [(zuj fu).s] Tryz.call74 rfl rfl (by kernel_rfl) fun d d'=>by kernel_rfl
def zzm:IF:=⟨.fn 107,[wS],[],_,RS.mk (.h .bool) []⟩
def x172 (fu:Nat):Fx wG zzm:=fx Tryz.f107 107 Tryz.func107 [(zrh fu).p,q38.p] false [] qaf [(pkey [(0,208),(0,209),(0,105),(2,26),(1,13),(0,7)],⟨18,[(0,wS),(3,wH)],[],64,[]⟩)]
def zxl (fu:Nat):Nat->(x172 fu).L 0:=Fx.lp (qid fu) (qou fu) (fun _=>rfl) (fun _=>rfl) (fun r0=>[r0.s]) fun _ d=>by kernel_rfl
def zz8 (fu:Nat):EI wG zzm:=(x172 fu).fin (qgx fu) [(zxl fu fu).s] Tryz.call107 rfl rfl (by kernel_rfl) fun d d'=>by kernel_rfl
def z3k:IF:=⟨.fn 108,[wS],[],_,RS.mk (.h .bool) []⟩
def x173 (fu:Nat):Fx wG z3k:=fx Tryz.f108 108 Tryz.func108 [(zzg fu).p] false [] qaf [(pkey [(0,208),(0,209),(0,105),(2,26),(1,13),(0,7)],⟨21,[(0,wS),(3,wH)],[],64,[]⟩)]
def z06 (fu:Nat):Nat->(x173 fu).L 0:=Fx.lp (qm6 fu) (qu4 fu) (fun _=>rfl) (fun _=>rfl) (fun r0=>[r0.s]) fun _ d=>by kernel_rfl
def vbj (fu:Nat):EI wG z3k:=(x173 fu).fin (qtr fu) [(z06 fu fu).s] Tryz.call108 rfl rfl (by kernel_rfl) fun d d'=>by kernel_rfl
def zz9:IF:=⟨.fn 75,[.h (.prod .str (.prod .str wL))],[],_,RS.mk (.h (.prod wI wI)) []⟩
def x174 (fu:Nat):Fx wG zz9:=fx Tryz.f75 75 Tryz.func75 [(zz8 fu).p,zef.p,(zey fu).p,(vbj fu).p] false [] qaf [(pkey [(0,500944),(0,500945),(0,250473),(2,62618),(1,31309),(0,15655),(1,978),(0,979),(2,122),(1,61),(0,31)],⟨75,[(1,.ptr 32 0),(2,.ptr 33 0),(3,wH),(4,.ptr 34 0),(5,wH)],[(32,.dat (.prod .str (.prod .str wL)) 83),(33,.dat (.prod wI wI) 30),(34,.dat wP 86)],64,[]⟩),(pkey [(0,31308),(0,31309),(0,15655),(1,978),(0,979),(2,122),(1,61),(0,31)],⟨75,[(1,.ptr 32 0),(2,.ptr 33 0),(3,wH),(4,.ptr 34 0)],[(32,.dat (.prod .str (.prod .str wL)) 83),(33,.dat (.prod wI wI) 30),(34,.dat wP 86)],64,[]⟩),(pkey [(0,15653),(0,7827),(1,978),(0,979),(2,122),(1,61),(0,31)],⟨75,[(1,.ptr 32 0),(2,.ptr 33 0),(3,wH),(4,.ptr 34 0),(43,.h .bool)],[(32,.dat (.prod .str (.prod .str wL)) 83),(33,.dat (.prod wI wI) 30),(34,.dat wP 86)],64,[]⟩),(pkey [(0,976),(0,977),(0,489),(2,122),(1,61),(0,31)],⟨75,[(1,.ptr 32 0),(2,.ptr 33 0),(3,wH)],[(32,.dat (.prod .str (.prod .str wL)) 83),(33,.dat (.prod wI wI) 30)],64,[]⟩),(pkey [(0,28),(0,29),(0,15)],⟨75,[(1,.ptr 32 0),(2,.ptr 33 0)],[(32,.dat (.prod .str (.prod .str wL)) 83),(33,.dat (.prod wI wI) 30)],64,[]⟩),(pkey [(0,13),(0,7)],⟨75,[(1,.ptr 32 0),(2,.ptr 33 0),(15,.h .bool)],[(32,.dat (.prod .str (.prod .str wL)) 83),(33,.dat (.prod wI wI) 30)],64,[]⟩)]
def zwt (fu:Nat) (r2:(x174 fu).L 3):Nat->(x174 fu).L 0:=Fx.lp (qf6 fu r2.f) (qmy fu r2.f) (fun _=>rfl) (fun _=>rfl) (fun r5=>[r5.s,r2.s]) fun _ d=>by kernel_rfl
def zvh (fu:Nat) (r2:(x174 fu).L 3):(x174 fu).L 1:=Fx.jn (qna fu r2.f) [(zwt fu r2 fu).s] fun d=>by kernel_rfl
def z11 (fu:Nat) (r2:(x174 fu).L 3):(x174 fu).L 2:=Fx.jn (qcx fu r2.f) [(zvh fu r2).s] fun d=>by kernel_rfl
def z30 (fu:Nat):Nat->(x174 fu).L 3:=Fx.lp (qc2 fu) (qnp fu) (fun _=>rfl) (fun _=>rfl) (fun r2=>[(z11 fu r2).s]) fun _ d=>by kernel_rfl
def zww (fu:Nat):(x174 fu).L 4:=Fx.jn (qmw fu) [(z30 fu fu).s] fun d=>by kernel_rfl
def zwf (fu:Nat):(x174 fu).L 5:=Fx.jn (qd9 fu) [(zww fu).s] fun d=>by kernel_rfl
def z6y (fu:Nat):EI wG zz9:=(x174 fu).fin (qni fu) [(zwf fu).s] Tryz.call75 rfl rfl (by kernel_rfl) fun d d'=>by kernel_rfl
end
end Go.Sym
namespace Go.Sym
noncomputable section
open Go.Proofs
set_option linter.unusedVariables false
set_option maxRecDepth 100000
set_option maxHeartbeats 2000000
def zyv:IF:=⟨.fn 43,[.h wL],[],_,RS.mk (.tup [.h (.prod .str (.prod .str wL)),.h .bool]) []⟩
def x175 (fu:Nat):Fx wG zyv:=fx Tryz.f43 43 Tryz.func43 [(zwe fu).p,(z79 fu).p,(z6y fu).p] false [] qaf [(pkey [(0,30),(0,31)],⟨37,[(2,.ptr 32 0),(4,.own 33)],[(32,.cells [wS,wS,wN] 83),(33,.row .str 9)],64,[]⟩),(pkey [(0,29),(0,15)],⟨37,[(2,.ptr 32 0),(4,.own 33),(18,.h .bool)],[(32,.cells [wS,wS,wN] 83),(33,.row .str 9)],64,[]⟩)]
def z2l (fu:Nat):(x175 fu).L 0:=Fx.jn (qtq fu) [] fun d=>by kernel_rfl
def zvq (fu:Nat):(x175 fu).L 1:=Fx.jn (qpr fu) [(z2l fu).s] fun d=>by kernel_rfl
def zwp (fu:Nat):EI wG zyv:=(x175 fu).fin (qr8 fu) [(zvq fu).s] Tryz.call43 rfl rfl (by kernel_rfl) fun d d'=>by kernel_rfl
def z31:IF:=⟨.fn 55,[.h (.prod .str (.prod .str wL)),wS],[],_,RS.mk (.tup [wS,.h .bool]) []⟩
def x176 (fu:Nat):Fx wG z31:=fx Tryz.f55 55 Tryz.func55 [(zey fu).p] false [] qaf [(pkey [(0,208),(0,209),(0,105),(2,26),(1,13),(0,7)],⟨28,[(1,wS),(2,.ptr 32 0),(6,wH)],[(32,.dat (.prod .str (.prod .str wL)) 83)],64,[]⟩)]
def z0m (fu:Nat):Nat->(x176 fu).L 0:=Fx.lp (qj6 fu) (qsf fu) (fun _=>rfl) (fun _=>rfl) (fun r0=>[r0.s]) fun _ d=>by kernel_rfl
def zyh (fu:Nat):EI wG z31:=(x176 fu).fin (qs3 fu) [(z0m fu fu).s] Tryz.call55 rfl rfl (by kernel_rfl) fun d d'=>by kernel_rfl
def zxh:IF:=⟨.fn 79,[.h wB,wH],[],_,RS.mk (.h .bool) []⟩
def x177:Fx wG zxh:=fx Tryz.f79 79 Tryz.func79 [] false [] qaf []
def zwn:EI wG zxh:=x177.fin qt7 [] Tryz.call79 rfl rfl (by kernel_rfl) fun d d'=>by kernel_rfl
def z0q:IF:=⟨.fn 48,[.h wB],[],_,RS.mk (.h (.prod wI wI)) []⟩
def x178 (fu:Nat):Fx wG z0q:=fx Tryz.f48 48 Tryz.func48 [zwn.p,zef.p] false [] qaf [(pkey [(0,7461),(0,3731),(1,466),(0,467),(2,58),(1,29),(0,15)],⟨37,[(0,.h wB),(2,.ptr 32 0),(3,wH),(4,wH),(29,.h .bool)],[(32,.dat (.prod wI wI) 30)],64,[]⟩),(pkey [(0,464),(0,465),(0,233),(2,58),(1,29),(0,15)],⟨37,[(0,.h wB),(2,.ptr 32 0),(3,wH),(4,wH)],[(32,.dat (.prod wI wI) 30)],64,[]⟩)]
def zw5 (fu:Nat) (r0:(x178 fu).L 1):(x178 fu).L 0:=Fx.jn (qk9 fu r0.f) [r0.s] fun d=>by kernel_rfl
def zxk (fu:Nat):Nat->(x178 fu).L 1:=Fx.lp (qhm fu) (qow fu) (fun _=>rfl) (fun _=>rfl) (fun r0=>[r0.s,(zw5 fu r0).s]) fun _ d=>by kernel_rfl
def z58 (fu:Nat):EI wG z0q:=(x178 fu).fin (qs9 fu) [(zxk fu fu).s] Tryz.call48 rfl rfl (by kernel_rfl) fun d d'=>by kernel_rfl
def zz2:IF:=⟨.fn 58,[.h wL],[],_,RS.mk (.tup [wS,.h .bool]) []⟩
def x179 (fu:Nat):Fx wG zz2:=fx Tryz.f58 58 Tryz.func58 [(zwp fu).p,(zey fu).p,(zyh fu).p,q38.p] false [] qaf [(pkey [(0,2000),(0,2001),(0,1001),(2,250),(1,125),(0,63)],⟨54,[(6,wS),(7,.h .bool),(8,wH)],[],64,[]⟩),(pkey [(0,30),(0,31)],⟨54,[(4,.ptr 32 0)],[(32,.dat (.prod .str (.prod .str wL)) 83)],64,[]⟩),(pkey [(0,29),(0,15)],⟨54,[(4,.ptr 32 0),(21,.h .bool)],[(32,.dat (.prod .str (.prod .str wL)) 83)],64,[]⟩)]
def z2u (fu:Nat):Nat->(x179 fu).L 0:=Fx.lp (qhl fu) (qos fu) (fun _=>rfl) (fun _=>rfl) (fun r2=>[r2.s]) fun _ d=>by kernel_rfl
def zyu (fu:Nat):(x179 fu).L 1:=Fx.jn (qnw fu) [(z2u fu fu).s] fun d=>by kernel_rfl
def zy3 (fu:Nat):(x179 fu).L 2:=Fx.jn (qg7 fu) [(zyu fu).s] fun d=>by kernel_rfl
def van (fu:Nat):EI wG zz2:=(x179 fu).fin (qps fu) [(zy3 fu).s] Tryz.call58 rfl rfl (by kernel_rfl) fun d d'=>by kernel_rfl
def z16:IF:=⟨.fn 86,[wS,wS],[],_,RS.mk (wH) []⟩
def x180 (fu:Nat):Fx wG z16:=fx Tryz.f86 86 Tryz.func86 [znb.p] false [] qaf [(pkey [(0,226),(1,113),(2,28),(1,14),(0,15)],⟨32,[(0,wS),(1,wS),(5,wH)],[],64,[]⟩),(pkey [(0,225),(0,113),(2,28),(1,14),(0,15)],⟨32,[(0,wS),(1,wS),(5,wH),(16,.h .bool)],[],64,[]⟩),(pkey [(0,224),(0,225),(0,113),(2,28),(1,14),(0,15)],⟨32,[(0,wS),(1,wS),(5,wH)],[],64,[]⟩)]
def z0o (fu:Nat) (r0:(x180 fu).L 2):(x180 fu).L 0:=Fx.jn (qqh fu r0.f) [r0.s] fun d=>by kernel_rfl
def zzz (fu:Nat) (r0:(x180 fu).L 2):(x180 fu).L 1:=Fx.jn (qfv fu r0.f) [(z0o fu r0).s] fun d=>by kernel_rfl
def z03 (fu:Nat):Nat->(x180 fu).L 2:=Fx.lp (qfz fu) (qq1 fu) (fun _=>rfl) (fun _=>rfl) (fun r0=>[(zzz fu r0).s]) fun _ d=>by kernel_rfl
def z6h (fu:Nat):EI wG z16:=(x180 fu).fin (qu1 fu) [(z03 fu fu).s] Tryz.call86 rfl rfl (by kernel_rfl) fun d d'=>by kernel_rfl
def zwq:IF:=⟨.fn 59,[.h wB,wS],[],_,RS.mk (.own 0) [(0,.row wB 23)]⟩
def x181 (fu:Nat):Fx wG zwq:=fx Tryz.f59 59 Tryz.func59 [zwn.p,(z6h fu).p] false [] qaf [(pkey [(0,63650),(1,31825),(2,7956),(1,3978),(0,3979),(1,497),(2,124),(1,62),(0,63)],⟨74,[(0,.h wB),(1,wS),(5,.own 32),(6,wH),(7,wH),(8,wH)],[(32,.row wB 23)],64,[]⟩),(pkey [(0,254716),(0,254717),(0,127359),(1,497),(2,124),(1,62),(0,63)],⟨74,[(0,.h wB),(1,wS),(5,.own 32),(6,wH),(9,wH),(10,wH)],[(32,.row wB 23)],64,[]⟩),(pkey [(0,509429),(0,63679),(1,497),(2,124),(1,62),(0,63)],⟨74,[(0,.h wB),(1,wS),(5,.own 32),(9,wH),(10,wH)],[(32,.row wB 23)],64,[]⟩),(pkey [(0,8150859),(0,509429),(0,63679),(1,497),(2,124),(1,62),(0,63)],⟨74,[(0,.h wB),(1,wS),(5,.own 32),(6,wH),(9,wH),(10,wH),(11,wH)],[(32,.row wB 23)],64,[]⟩),(pkey [(0,31838),(0,31839),(1,497),(2,124),(1,62),(0,63)],⟨74,[(0,.h wB),(1,wS),(5,.own 32),(6,wH),(7,wH),(8,wH),(9,wH)],[(32,.row wB 23)],64,[]⟩),(pkey [(0,63649),(0,31825),(2,7956),(1,3978),(0,3979),(1,497),(2,124),(1,62),(0,63)],⟨74,[(0,.h wB),(1,wS),(5,.own 32),(6,wH),(7,wH),(8,wH),(26,.h .bool)],[(32,.row wB 23)],64,[]⟩),(pkey [(0,63648),(0,63649),(0,31825),(2,7956),(1,3978),(0,3979),(1,497),(2,124),(1,62),(0,63)],⟨74,[(0,.h wB),(1,wS),(5,.own 32),(6,wH),(7,wH),(8,wH)],[(32,.row wB 23)],64,[]⟩),(pkey [(0,992),(0,993),(0,497),(2,124),(1,62),(0,63)],⟨74,[(0,.h wB),(1,wS),(5,.own 32),(6,wH),(7,wH)],[(32,.row wB 23)],64,[]⟩)]
def zui (fu:Nat) (r0:(x181 fu).L 7) (r1:(x181 fu).L 6):(x181 fu).L 0:=Fx.jn (qoq fu r0.f r1.f) [r1.s] fun d=>by kernel_rfl
def zou (fu:Nat) (r0:(x181 fu).L 7):(x181 fu).L 1:=Fx.jn (qet fu r0.f) [r0.s] fun d=>by kernel_rfl
def zof (fu:Nat) (r0:(x181 fu).L 7):(x181 fu).L 2:=Fx.jn (qdl fu r0.f) [(zou fu r0).s] fun d=>by kernel_rfl
def zu2 (fu:Nat) (r0:(x181 fu).L 7):(x181 fu).L 3:=Fx.jn (qdo fu r0.f) [(zof fu r0).s] fun d=>by kernel_rfl
def z0l (fu:Nat) (r0:(x181 fu).L 7):(x181 fu).L 4:=Fx.jn (qhf fu r0.f) [(zu2 fu r0).s,(zof fu r0).s,(zou fu r0).s] fun d=>by kernel_rfl
def z3f (fu:Nat) (r0:(x181 fu).L 7) (r1:(x181 fu).L 6):(x181 fu).L 5:=Fx.jn (qhu fu r0.f r1.f) [(zui fu r0 r1).s,(z0l fu r0).s] fun d=>by kernel_rfl
def zwd (fu:Nat) (r0:(x181 fu).L 7):Nat->(x181 fu).L 6:=Fx.lp (qhv fu r0.f) (qok fu r0.f) (fun _=>rfl) (fun _=>rfl) (fun r1=>[(z3f fu r0 r1).s]) fun _ d=>by kernel_rfl
def z0i (fu:Nat):Nat->(x181 fu).L 7:=Fx.lp (qcl fu) (qom fu) (fun _=>rfl) (fun _=>rfl) (fun r0=>[(zwd fu r0 fu).s]) fun _ d=>by kernel_rfl
def z4d (fu:Nat):EI wG zwq:=(x181 fu).fin (qtp fu) [(z0i fu fu).s] Tryz.call59 rfl rfl (by kernel_rfl) fun d d'=>by kernel_rfl
def zv6:IF:=⟨.fn 109,[wS],[],_,RS.mk (wS) []⟩
def x182 (fu:Nat):Fx wG zv6:=fx Tryz.f109 109 Tryz.func109 [] false [] qaf [(pkey [(0,3729),(0,1865),(1,466),(0,467),(2,58),(1,29),(0,15)],⟨32,[(0,wS),(3,wS),(4,wH),(20,.h .bool)],[],64,[]⟩),(pkey [(0,464),(0,465),(0,233),(2,58),(1,29),(0,15)],⟨32,[(0,wS),(3,wS),(4,wH)],[],64,[]⟩)]
def z0w (fu:Nat) (r0:(x182 fu).L 1):(x182 fu).L 0:=Fx.jn (qii fu r0.f) [r0.s] fun d=>by kernel_rfl
def zx2 (fu:Nat):Nat->(x182 fu).L 1:=Fx.lp (qin fu) (quw fu) (fun _=>rfl) (fun _=>rfl) (fun r0=>[(z0w fu r0).s]) fun _ d=>by kernel_rfl
def z8a (fu:Nat):EI wG zv6:=(x182 fu).fin (qxc fu) [(zx2 fu fu).s] Tryz.call109 rfl rfl (by kernel_rfl) fun d d'=>by kernel_rfl
def z18:IF:=⟨.fn 110,[.h .byte],[],_,RS.mk (wS) []⟩
def x183:Fx wG z18:=fx Tryz.f110 110 Tryz.func110 [] false [] qaf []
def z6e:EI wG z18:=x183.fin qu5 [] Tryz.call110 rfl rfl (by kernel_rfl) fun d d'=>by kernel_rfl
def zy5:IF:=⟨.fn 76,[.h wP],[],_,RS.mk (wS) []⟩
def x184 (fu:Nat):Fx wG zy5:=fx Tryz.f76 76 Tryz.func76 [(zz8 fu).p,q38.p,(z8a fu).p,z6e.p,(zrh fu).p,(z0d fu).p] false [] qaf [(pkey [(0,979),(2,122),(1,61),(0,31)],⟨108,[(1,.ptr 32 0),(3,.h .bool),(4,wH)],[(32,.dat wP 86)],64,[]⟩),(pkey [(0,32723),(2,4090),(1,2045),(0,1023)],⟨108,[(1,.ptr 32 0),(5,wS),(6,wS),(7,wH),(8,wH)],[(32,.dat wP 86)],64,[]⟩),(pkey [(0,523559),(1,32722),(0,32723),(2,4090),(1,2045),(0,1023)],⟨108,[(1,.ptr 32 0),(5,wS),(6,wS),(7,wH),(8,wH),(9,wS)],[(32,.dat wP 86)],64,[]⟩),(pkey [(0,1047116),(0,1047117),(0,523559),(1,32722),(0,32723),(2,4090),(1,2045),(0,1023)],⟨108,[(1,.ptr 32 0),(5,wS),(6,wS),(7,wH),(8,wH),(9,wS)],[(32,.dat wP 86)],64,[]⟩),(pkey [(0,32720),(0,32721),(0,16361),(2,4090),(1,2045),(0,1023)],⟨108,[(1,.ptr 32 0),(5,wS),(6,wS),(7,wH),(8,wH)],[(32,.dat wP 86)],64,[]⟩),(pkey [(0,976),(0,977),(0,489),(2,122),(1,61),(0,31)],⟨108,[(1,.ptr 32 0),(3,.h .bool),(4,wH)],[(32,.dat wP 86)],64,[]⟩)]
def z2f (fu:Nat) (r0:(x184 fu).L 5):(x184 fu).L 0:=Fx.jn (qh3 fu r0.f) [r0.s] fun d=>by kernel_rfl
def zyd (fu:Nat) (r2:(x184 fu).L 4):(x184 fu).L 1:=Fx.jn (qk1 fu r2.f) [r2.s] fun d=>by kernel_rfl
def zxa (fu:Nat) (r2:(x184 fu).L 4):(x184 fu).L 2:=Fx.jn (qg1 fu r2.f) [(zyd fu r2).s] fun d=>by kernel_rfl
def z1h (fu:Nat) (r2:(x184 fu).L 4):(x184 fu).L 3:=Fx.jn (qhr fu r2.f) [(zxa fu r2).s] fun d=>by kernel_rfl
def z1m (fu:Nat):Nat->(x184 fu).L 4:=Fx.lp (qex fu) (qo4 fu) (fun _=>rfl) (fun _=>rfl) (fun r2=>[(z1h fu r2).s]) fun _ d=>by kernel_rfl
def z1w (fu:Nat):Nat->(x184 fu).L 5:=Fx.lp (qg4 fu) (qny fu) (fun _=>rfl) (fun _=>rfl) (fun r0=>[(z2f fu r0).s,(z1m fu fu).s]) fun _ d=>by kernel_rfl
def z9s (fu:Nat):EI wG zy5:=(x184 fu).fin (qpn fu) [(z1w fu fu).s] Tryz.call76 rfl rfl (by kernel_rfl) fun d d'=>by kernel_rfl
def zw0:IF:=⟨.fn 45,[.h (.prod .str (.prod .str wL))],[],_,RS.mk (wS) []⟩
def x185 (fu:Nat):Fx wG zw0:=fx Tryz.f45 45 Tryz.func45 [(z9s fu).p] false [] qaf [(pkey [(0,464),(0,465),(0,233),(2,58),(1,29),(0,15)],⟨27,[(1,.ptr 32 0),(3,wS),(4,wH)],[(32,.dat (.prod .str (.prod .str wL)) 83)],64,[]⟩)]
def zwk (fu:Nat):Nat->(x185 fu).L 0:=Fx.lp (qg3 fu) (qog fu) (fun _=>rfl) (fun _=>rfl) (fun r0=>[r0.s]) fun _ d=>by kernel_rfl
def vat (fu:Nat):EI wG zw0:=(x185 fu).fin (qpf fu) [(zwk fu fu).s] Tryz.call45 rfl rfl (by kernel_rfl) fun d d'=>by kernel_rfl
def zv7:IF:=⟨.fn 28,[.h wT,wH],[],_,RS.mk (wH) []⟩
def x186 (fu:Nat):Fx wG zv7:=fx Tryz.f28 28 Tryz.func28 [(z94 fu).p,(zwp fu).p,(zyh fu).p,(zey fu).p,(z58 fu).p,(van fu).p,(z4d fu).p,(vat fu).p,(zwe fu).p] false [] qaf [(pkey [(0,7870),(0,7871),(0,31)],⟨104,[],[],64,[]⟩),(pkey [(0,7869),(0,3935),(0,31)],⟨104,[(72,.h .bool)],[],64,[]⟩),(pkey [(0,1966),(0,1967),(0,31)],⟨104,[(2,.ptr 32 0),(6,.ptr 33 0)],[(32,.dat wT 26),(33,.dat (.prod .str (.prod .str wL)) 83)],64,[]⟩),(pkey [(0,1965),(0,983),(0,31)],⟨104,[(2,.ptr 32 0),(6,.ptr 33 0),(58,.h .bool)],[(32,.dat wT 26),(33,.dat (.prod .str (.prod .str wL)) 83)],64,[]⟩)]
def zx3 (fu:Nat):(x186 fu).L 0:=Fx.jn (qu7 fu) [] fun d=>by kernel_rfl
def z3m (fu:Nat):(x186 fu).L 1:=Fx.jn (qiv fu) [(zx3 fu).s] fun d=>by kernel_rfl
def zur (fu:Nat):(x186 fu).L 2:=Fx.jn (qqj fu) [(z3m fu).s] fun d=>by kernel_rfl
def zxy (fu:Nat):(x186 fu).L 3:=Fx.jn (qbj fu) [(zur fu).s] fun d=>by kernel_rfl
def z4c (fu:Nat):EI wG zv7:=(x186 fu).fin (qrn fu) [(zxy fu).s] Tryz.call28 rfl rfl (by kernel_rfl) fun d d'=>by kernel_rfl
def z05:IF:=⟨.fn 11,[.h wT],[],_,RS.mk (.h (.prod wI wI)) []⟩
def x187 (fu:Nat):Fx wG z05:=fx Tryz.f11 11 Tryz.func11 [(z6c fu).p,zef.p,(z4c fu).p] false [] qaf [(pkey [(0,2000),(0,2001),(0,1001),(2,250),(1,125),(0,63)],⟨50,[(2,.ptr 32 0),(3,.h (.list wT)),(4,.h (.list wI)),(6,wH)],[(32,.dat (.prod wI wI) 30)],64,[]⟩),(pkey [(0,976),(0,977),(0,489),(2,122),(1,61),(0,31)],⟨50,[(2,.ptr 32 0),(3,.h (.list wT)),(4,.h (.list wI)),(5,wH)],[(32,.dat (.prod wI wI) 30)],64,[]⟩)]
def zx8 (fu:Nat):Nat->(x187 fu).L 0:=Fx.lp (qha fu) (qn2 fu) (fun _=>rfl) (fun _=>rfl) (fun r1=>[r1.s]) fun _ d=>by kernel_rfl
def z3l (fu:Nat):Nat->(x187 fu).L 1:=Fx.lp (qg9 fu) (qoh fu) (fun _=>rfl) (fun _=>rfl) (fun r0=>[r0.s,(zx8 fu fu).s]) fun _ d=>by kernel_rfl
def vbf (fu:Nat):EI wG z05:=(x187 fu).fin (qo7 fu) [(z3l fu fu).s] Tryz.call11 rfl rfl (by kernel_rfl) fun d d'=>by kernel_rfl
def zzy:IF:=⟨.fn 12,[.h wT,.h (.list wI)],[],_,RS.mk (.tup [.h wT,.h (.prod wI wI)]) []⟩
def x188 (fu:Nat):Fx wG zzy:=fx Tryz.f12 12 Tryz.func12 [(znx fu).p,x24s.p,(zvt fu).p,x22s.p,x2s.p] true [] qaf [(pkey [(0,14949),(0,7475),(1,934),(0,935),(2,58),(1,29),(0,15)],⟨43,[(2,.ptr 32 0),(4,.ptr 33 0),(5,.ptr 34 0),(7,wH),(8,wH),(15,.h (.list wI)),(16,wH),(17,wH),(30,.h .bool)],[(32,.dat wT 26),(33,.cells [wN,wN,wN] 26),(34,.dat (.prod wI wI) 30)],64,[]⟩),(pkey [(0,232),(0,233),(2,58),(1,29),(0,15)],⟨43,[(2,.ptr 32 0),(4,.ptr 33 0),(5,.ptr 34 0),(15,.h (.list wI)),(16,wH),(17,wH)],[(32,.dat wT 26),(33,.cells [wN,wN,wN] 26),(34,.dat (.prod wI wI) 30)],64,[]⟩)]
def zt8 (fu:Nat) (r0:(x188 fu).L 1):(x188 fu).L 0:=Fx.jn (qco fu r0.f) [r0.s] fun d=>by kernel_rfl
def z1l (fu:Nat):Nat->(x188 fu).L 1:=Fx.lp (qcp fu) (qj9 fu) (fun _=>rfl) (fun _=>rfl) (fun r0=>[(zt8 fu r0).s]) fun _ d=>by kernel_rfl
def z52 (fu:Nat):EI wG zzy:=(x188 fu).fin (qj0 fu) [(z1l fu fu).s] Tryz.call12 rfl rfl (by kernel_rfl) fun d d'=>by kernel_rfl
def zzi:IF:=⟨.fn 13,[.h wT,.h (.list wI)],[],_,RS.mk (.tup [.h wT,.h (.prod wI wI)]) []⟩
def x189 (fu:Nat):Fx wG zzi:=fx Tryz.f13 13 Tryz.func13 [(vbf fu).p,q38.p,zef.p] false [] qaf [(pkey [(0,3728),(0,3729),(0,1865),(1,466),(0,467),(2,58),(1,29),(0,15)],⟨49,[(1,.h (.list wI)),(2,.ptr 32 0),(4,.ptr 33 0),(5,.ptr 34 0),(6,.ptr 35 0),(7,wH)],[(32,.dat wT 26),(33,.cells [wN,wN,wN] 26),(34,.dat (.prod wI wI) 30),(35,.dat (.prod wI wI) 30)],64,[]⟩),(pkey [(0,465),(0,233),(2,58),(1,29),(0,15)],⟨49,[(1,.h (.list wI)),(2,.ptr 32 0),(4,.ptr 33 0),(5,.ptr 34 0),(6,.ptr 35 0),(7,wH),(18,.h .bool)],[(32,.dat wT 26),(33,.cells [wN,wN,wN] 26),(34,.dat (.prod wI wI) 30),(35,.dat (.prod wI wI) 30)],64,[]⟩),(pkey [(0,464),(0,465),(0,233),(2,58),(1,29),(0,15)],⟨49,[(1,.h (.list wI)),(2,.ptr 32 0),(4,.ptr 33 0),(5,.ptr 34 0),(6,.ptr 35 0),(7,wH)],[(32,.dat wT 26),(33,.cells [wN,wN,wN] 26),(34,.dat (.prod wI wI) 30),(35,.dat (.prod wI wI) 30)],64,[]⟩)]
def zuu (fu:Nat) (r0:(x189 fu).L 2):(x189 fu).L 0:=Fx.jn (qob fu r0.f) [r0.s] fun d=>by kernel_rfl
def z3q (fu:Nat) (r0:(x189 fu).L 2):(x189 fu).L 1:=Fx.jn (qez fu r0.f) [(zuu fu r0).s] fun d=>by kernel_rfl
def zv8 (fu:Nat):Nat->(x189 fu).L 2:=Fx.lp (qe0 fu) (qk4 fu) (fun _=>rfl) (fun _=>rfl) (fun r0=>[(z3q fu r0).s]) fun _ d=>by kernel_rfl
def z47 (fu:Nat):EI wG zzi:=(x189 fu).fin (qpa fu) [(zv8 fu fu).s] Tryz.call13 rfl rfl (by kernel_rfl) fun d d'=>by kernel_rfl
def zpl:IF:=⟨.fn 8,[.h wT,.h (.list wI),.h (.list wI)],[],_,RS.mk (.h .bool) []⟩
def x205 (fu:Nat):Fx wG zpl:=fx Tryz.f8 8 Tryz.func8 [(z5z fu).p,(z52 fu).p,(z3t fu).p,(zzr fu).p,(z47 fu).p] false [] qaf []
def z7t (fu:Nat):EI wG zpl:=(x205 fu).fin (qb9 fu) [] Tryz.call8 rfl rfl (by kernel_rfl) fun d d'=>by kernel_rfl
theorem qtk (fu:Nat):(zpl.e (qb9 fu)).Sound wG:=(z7t fu).h
end
end Go.Sym

namespace Go.Sym
theorem qgo {x:Int} (h1 : -9223372036854775808<=x) (h2:x<9223372036854775808):w64 x=x:=by
 unfold w64 IntKind.wrap;simp[IntKind.signed,IntKind.bits];omega
theorem qau {α:Type} {b:Bool} {x y:α} (h:b=true):(bif b then x else y)=x:=by subst h;rfl
theorem qax {α:Type} {b:Bool} {x y:α} (h:b=false):(bif b then x else y)=y:=by subst h;rfl
theorem qhq {α:Type} {p:Prop} [Decidable p] {x y:α}:(bif decide p then x else y)=if p then x else y:=by by_cases h:p<;>simp[h]
theorem qaa {α:Type} {p:Prop} [Decidable p] {x y:α} (h:p):(bif decide p then x else y)=x:=qau (decide_eq_true h)
theorem qac {α:Type} {p:Prop} [Decidable p] {x y:α} (h:¬ p):(bif decide p then x else y)=y:=qax (decide_eq_false h)
theorem zop {α:Type} {b:Bool} {x y:α}:(bif !b then x else y)=if b=false then x else y:=by cases b<;>rfl
theorem qlh {α:Type} {a b:Int} {x y:α}:(bif a != b then x else y)=if a≠b then x else y:=by
 by_cases h:a=b
 ·rw[qax (by simp[h]),qW (by simp[h])]
 ·rw[qau (by simp[h]),qX h]
theorem qnu {α:Type} {a b:Int} {x y:α}:(bif a==b then x else y)=if a=b then x else y:=by
 by_cases h:a=b
 ·rw[qau (by simp[h]),qX h]
 ·rw[qax (by simp[h]),qW h]
theorem qnq {α:Type} {a b:UInt8} {x y:α}:(bif a==b then x else y)=if a=b then x else y:=by
 by_cases h:a=b
 ·rw[qau (by simp[h]),qX h]
 ·rw[qax (by simp[h]),qW h]
theorem q0l {α:Type} {a b:UInt8} {x y:α}:(bif a != b then x else y)=if a≠b then x else y:=by
 by_cases h:a=b
 ·rw[qax (by simp[h]),qW (by simp[h])]
 ·rw[qau (by simp[h]),qX h]
theorem q6m {α:Type} {p:Prop} [Decidable p] {x y:α}:(if p then some x else some y)=some (if p then x else y):=by split<;>rfl
theorem qq4 {α β:Type} (l:List α) (i:Int) (f:α->Option β):(bif decide (0<=i/\i.toNat<List.length l) then (l[i.toNat]?).bind f else none)=(idx l i).bind f:=by
 unfold idx;by_cases h:0<=i
 ·by_cases h2:i.toNat<l.length
  ·simp[h,h2]
  ·simp[h,h2]
 ·simp[h]
theorem qv8 {α:Type} (l:List α) (k:Nat) (h:k<l.length):idx l (k:Int)=some l[k]:=by
 unfold idx;rw[qX (by omega)];simp[h]
theorem qan {α:Type} (vbt:List α) (c:α) (vbs:List α):idx (vbt++c::vbs) (vbt.length:Int)=some c:=by
 unfold idx;rw[qX (by omega)];simp
theorem q0o {α:Type} (vbt:List α) (c:α) (vbs:List α):(vbt++c::vbs)[((vbt.length:Nat):Int).toNat]? = some c:=by simp
theorem zam {α:Type} (vbt:List α) (c d:α) (vbs:List α):List.set (vbt++c::vbs) ((vbt.length:Nat):Int).toNat d=vbt++d::vbs:=by simp
theorem qai (k:Nat) (h:k<9223372036854775807):w64 ((k:Int)+1)=((k+1:Nat):Int):=by rw[qgo (by omega) (by omega)];omega
end Go.Sym
namespace Go.Sym
theorem qpo (P:UInt8->Prop) (h:∀ n:_root_.Fin 256,P (UInt8.ofNat n.val)) (c:UInt8):P c:=by
 have:=h ⟨c.toNat,c.toNat_lt⟩;simpa using this
def lo (c:UInt8):UInt8:=if 65<=c/\c<=90 then c+32 else c
def bl (c:UInt8):Bool:=c==32||c==9
def qup (l:List UInt8):List UInt8:=(l.reverse.dropWhile bl).reverse
def qbl (l:List UInt8):List UInt8:=l.dropWhile bl
def trim (l:List UInt8):List UInt8:=qup (qbl l)
theorem qtz (t:List UInt8) (c:UInt8):qup (t++[c])=if bl c then qup t else t++[c]:=by
 unfold qup;rw[List.reverse_append,List.reverse_singleton,wM,List.dropWhile];cases bl c
 ·simp
 ·simp
theorem qvs (n:Nat) (h:n<1000000000):w64 (((n+1:Nat):Int)-1)=(n:Int):=by rw[qgo (by omega) (by omega)];omega
theorem qw4 {α:Type} (t:List α) (c:α):idx (t++[c]) (t.length:Int)=some c:=qan t c []
theorem qyp {α:Type} (t:List α) (c:α):List.take ((t.length:Nat):Int).toNat (t++[c])=t:=by simp
theorem qnf {α:Type} (t:List α) (c:α):((t++[c]).length:Int)=((t.length+1:Nat):Int):=by simp
theorem quh {α:Type} (vbt:List α) (vbs:List α):List.drop ((vbt.length:Nat):Int).toNat (vbt++vbs)=vbs:=by simp
theorem quq {α:Type} (vbt:List α) (vbs:List α):List.take ((vbt.length:Nat):Int).toNat (vbt++vbs)=vbt:=by simp
theorem qzs {α:Type} (vbt:List α) (c:α) (vbs:List α):List.drop ((vbt.length+1:Nat):Int).toNat (vbt++c::vbs)=vbs:=by
 rw[show ((vbt.length+1:Nat):Int).toNat=(vbt++[c]).length by simp,show vbt++c::vbs=(vbt++[c])++vbs by simp]
 simp
theorem qbf {α:Type} (vbt:List α) (c:α) (vbs:List α):((vbt++c::vbs).length:Int)=((vbt.length+vbs.length+1:Nat):Int):=by simp;omega
theorem q29 {α:Type} (vbt:List α) (vbs:List α):((vbt++vbs).length:Int)=((vbt.length+vbs.length:Nat):Int):=by simp
theorem ze7 (k:UInt8) (t r:List UInt8) (h:∀ x∈t,x≠k):Lib.indexByte (t++k::r) k=(t.length:Int):=by
 induction t with
 | nil=>simp[Lib.indexByte]
 | cons c t ih=>
  have hc:=h c qH;rw[wK,Lib.indexByte,ih (fun x hx=>h x (qE _ hx)),qW (by simpa using hc),qW (by simp<;>omega)]
  simp
theorem zdv (k:UInt8) (t:List UInt8) (h:∀ x∈t,x≠k):Lib.indexByte t k = -1:=by
 induction t with
 | nil=>rfl
 | cons c t ih=>
  have hc:=h c qH;rw[Lib.indexByte,ih (fun x hx=>h x (qE _ hx)),qW (by simpa using hc),qX (by decide)]
theorem qxs (k:UInt8):∀ (s:List UInt8),(∃ t r,s=t++k::r/\∀ x∈t,x≠k)\/∀ x∈s,x≠k
 | [] => .inr (fun _ h=>by cases h)
 | c::s=>by
  by_cases hc:c=k
  ·subst hc;exact .inl ⟨[],s,rfl,fun _ h=>by cases h⟩
  ·rcases qxs k s with ⟨t,r,rfl,h⟩|h
   ·exact .inl ⟨c::t,r,rfl,fun x hx=>(List.mem_cons.1 hx).elim (fun e=>e▸hc) (h x)⟩
   ·exact .inr fun x hx=>(List.mem_cons.1 hx).elim (fun e=>e▸hc) (h x)
theorem zvk (k:UInt8) (s:List UInt8):(0<=Lib.indexByte s k)↔k∈s:=by
 rcases qxs k s with ⟨t,r,rfl,h⟩|h
 ·rw[ze7 k t r h];simp
 ·rw[zdv k s h];constructor
  ·intro h;omega
  ·intro hk;exact absurd rfl (h k hk)
theorem qek {α:Type} {x y:α}:(bif !false then x else y)=x:=rfl
theorem qb0 {α:Type} {x y:α}:(bif !true then x else y)=y:=rfl
theorem qzb (a b:UInt8):(a==b)=(b==a):=by
 by_cases h:a=b
 ·rw[h]
 ·rw[beq_false_of_ne h,beq_false_of_ne (Ne.symm h)]
theorem z2h {a b:Nat} (h:a<b):Nat.blt a b=true:=Nat.ble_eq_true_of_le h
theorem zxc {a b:Nat} (h:¬ a<b):Nat.blt a b=false:=by
 cases hq:Nat.blt a b
 ·rfl
 ·exact absurd (Nat.le_of_ble_eq_true hq) h
theorem zaz (l:List UInt8) (k:Nat) (c:UInt8) (h:l[k]? = some c):(⟨l.toArray⟩:ByteArray).get! k=c:=by
 obtain⟨hk,rfl⟩:=List.getElem?_eq_some_iff.1 h;show (l.toArray)[k]! = _;simp[hk]
theorem zk4 (l:List UInt8):(⟨l.toArray⟩:ByteArray).size=l.length:=by simp[ByteArray.size]
theorem zbq (s:List UInt8) (p:Nat) (c:UInt8) (h:s[p]? = some c) (hc:c.toNat<128):rdec s p=(c.toNat,1):=by
 unfold rdec Utf8.decode;simp only[Nat.add_zero,zaz s p c h,hc,if_true]
theorem zfo (s:List UInt8) (p:Nat) (c:UInt8) (h:s[p]? = some c) (hc:128<=c.toNat):128<=(rdec s p).1/\1<=(rdec s p).2/\∀ j,j<(rdec s p).2->∃ d,s[p+j]? = some d/\128<=d.toNat:=by
 have hn:¬ c.toNat<128:=by omega
 have cont:∀ k,(decide (p+k<(⟨s.toArray⟩:ByteArray).size)&&((⟨s.toArray⟩:ByteArray).get! (p+k)).toNat/64==2)=true->∃ d,s[p+k]? = some d/\128<=d.toNat:=by
  intro k hk;simp only[qA,decide_eq_true_eq,beq_iff_eq,zk4]at hk;obtain⟨h1,h2⟩:=hk;refine⟨s[p+k],by simp[h1],?_⟩
  rw[zaz s (p+k) s[p+k] (by simp[h1])]at h2
  omega
 have z:∀ j,j<1->∃ d,s[p+j]? = some d/\128<=d.toNat:=fun j hj=>by
  obtain rfl:j=0:=by omega
  exact⟨c,h,hc⟩
 unfold rdec Utf8.decode;simp only[Nat.add_zero,zaz s p c h,hn,if_false];split
 ·rename_i hk;simp only[qA]at hk;have c1:=cont 1 (by simpa using hk.2)
  split
  ·rename_i hge;refine⟨hge,by simp,fun j hj => ?_⟩
   match j,hj with
   | 0,_=>exact⟨c,h,hc⟩
   | 1,_=>exact c1
  ·exact⟨by simp[Utf8.runeError],wF _,z⟩
 ·split
  ·rename_i hk;simp only[qA]at hk;have c1:=cont 1 (by simpa using hk.1.2)
   have c2:=cont 2 (by simpa using hk.2)
   split
   ·rename_i hge;simp only[qA,decide_eq_true_eq]at hge;refine⟨by simp only;omega,by simp,fun j hj => ?_⟩
    match j,hj with
    | 0,_=>exact⟨c,h,hc⟩
    | 1,_=>exact c1
    | 2,_=>exact c2
   ·exact⟨by simp[Utf8.runeError],wF _,z⟩
  ·split
   ·rename_i hk;simp only[qA]at hk;have c1:=cont 1 (by simpa using hk.1.1.2)
    have c2:=cont 2 (by simpa using hk.1.2)
    have c3:=cont 3 (by simpa using hk.2)
    split
    ·rename_i hge;simp only[qA,decide_eq_true_eq]at hge;refine⟨by simp only;omega,by simp,fun j hj => ?_⟩
     match j,hj with
     | 0,_=>exact⟨c,h,hc⟩
     | 1,_=>exact c1
     | 2,_=>exact c2
     | 3,_=>exact c3
    ·exact⟨by simp[Utf8.runeError],wF _,z⟩
   ·exact⟨by simp[Utf8.runeError],wF _,z⟩
theorem zir (n:Int) (h:128<=n):∃ t c,renc n=t++[c]/\128<=c.toNat/\t.length<=3:=by
 unfold renc Utf8.encode;have hc:∀ c:Nat,(if Utf8.valid n=true then n.toNat else Utf8.runeError)=c->128<=c:=by
  intro c hc;split at hc
  ·omega
  ·subst hc;decide
 have last:∀ m:Nat,128<=(UInt8.ofNat (0x80+m%64)).toNat:=fun m=>by
  simp only[UInt8.toNat_ofNat'];omega
 generalize hq:(if Utf8.valid n=true then n.toNat else Utf8.runeError)=c
 have hc:=hc c hq;simp only[];rw[qW (by omega)]
 split
 ·exact⟨[_],_,rfl,last _,by simp⟩
 ·split
  ·exact⟨[_,_],_,rfl,last _,by simp⟩
  ·exact⟨[_,_,_],_,rfl,last _,by simp⟩
end Go.Sym
namespace Go.Sym
theorem z0b (c:UInt8):(c+97)-65=c+32:=by
 rw[UInt8.sub_eq_add_neg,UInt8.add_assoc];rfl
theorem zcg (fu:Nat):∀ (n:Nat) (vbt vbs:List UInt8),vbs.length<n->vbt.length+vbs.length<=9223372036854775807 ->
  qf0 fu n ((vbt.length+vbs.length:Nat):Int) (vbt.length:Int) (vbt++vbs)=some (vbt++vbs.map lo)
 | 0,_,_,h,_=>absurd h (by omega)
 | n+1,vbt,[],_,_=>by simp[qf0,ql2]
 | n+1,vbt,c::vbs,h,hb=>by
  simp only[qL]at h hb;have ih:=fun d=>zcg fu n (vbt++[d]) vbs (by omega) (by simp;omega)
  simp only[qM,qL,qZ,qS,wM,wO]at ih;have e:((vbt.length+(c::vbs).length:Nat):Int)=((vbt.length+1+vbs.length:Nat):Int):=by simp only[qL];omega
  have hl:0<=(vbt.length:Int)/\(vbt.length:Int).toNat<(vbt++c::vbs).length:=by simp
  rw[e];simp only[qf0,ql2];rw[qaa (by omega),qaa hl,q0o,qB,zam,qai _ (by omega),qhq,qhq,ih,ih,qaa hl,qB]
  unfold lo;simp only[List.map_cons,z0b];by_cases h1:(65:UInt8)<=c
  ·by_cases h2:c<=90
   ·simp[h1,h2]
   ·simp[h1,h2]
  ·simp[h1]
theorem zcl (fu:Nat) (s:List UInt8) (h:s.length<fu) (hb:s.length<=maxLen):qm8 fu s=some (s.map lo):=by
 unfold qm8;rw[qaa hb];have:=zcg fu fu [] s h (by simpa [maxLen] using hb)
 simpa using this
theorem qjz (x a b:Int):qfk x a b=some (decide (a<=x/\x<=b)):=by
 unfold qfk;by_cases h:a<=x<;>simp[h]
theorem zch (a b:UInt8):((a.toNat:Int)<=(b.toNat:Int))↔a<=b:=by rw[UInt8.le_iff_toNat_le];omega
theorem q5c (fu:Nat):∀ (n:Nat) (vbt vbs:List UInt8),vbs.length<n->vbt.length+vbs.length<=9223372036854775807 ->
  qk7 fu n (vbt.length:Int) (vbt++vbs)=some (vbt++vbs.map lo)
 | 0,_,_,h,_=>absurd h (by omega)
 | n+1,vbt,[],_,_=>by simp[qk7,qrf]
 | n+1,vbt,c::vbs,h,hb=>by
  simp only[qL]at h hb;have ih:=fun d=>q5c fu n (vbt++[d]) vbs (by omega) (by simp;omega)
  simp only[qM,qL,qZ,qS,wM,wO]at ih;have hl:0<=(vbt.length:Int)/\(vbt.length:Int).toNat<(vbt++c::vbs).length:=by simp
  simp only[qk7,qrf];rw[qaa (by simp;omega),qaa hl,q0o,qB,qjz,qB,qai _ (by omega),qhq,qaa hl,qB,qaa hl,qB,zam,ih,ih]
  unfold lo;simp only[List.map_cons];have e1:=zch 65 c;have e2:=zch c 90;have q1:((65:UInt8).toNat:Int)=65:=rfl;have q2:((90:UInt8).toNat:Int)=90:=rfl;rw[q1]at e1;rw[q2]at e2;by_cases h1:(65:UInt8)<=c/\c<=90
  ·rw[qX ⟨e1.2 h1.1,e2.2 h1.2⟩,qX h1]
  ·rw[qW (fun q=>h1 ⟨e1.1 q.1,e2.1 q.2⟩),qW h1]
theorem qwy (fu:Nat) (s:List UInt8) (h:s.length<fu) (hb:s.length<=maxLen):qmk fu s=some (s.map lo):=by
 unfold qmk;rw[qaa hb];have:=q5c fu fu [] s h (by simpa [maxLen] using hb)
 simpa using this
theorem znv (fu:Nat) (a b:List UInt8) (ha:a.length<fu) (hb:b.length<fu) (ha':a.length<=maxLen) (hb':b.length<=maxLen):qb7 fu a b=some (a.map lo==b.map lo):=by
 unfold qb7;rw[qnu,zcl fu a ha ha',zcl fu b hb hb'];by_cases h:(a.length:Int)=b.length
 ·rw[qX h];rfl
 ·rw[qW h];have:(a.map lo==b.map lo)=false:=by
   rw[beq_eq_false_iff_ne];intro q;apply h;have:=congrArg List.length q;simp only[wC]at this;omega
  rw[this]
theorem zcr (fu:Nat) (a b:List UInt8) (ha:a.length<fu) (hb:b.length<fu) (ha':a.length<=maxLen) (hb':b.length<=maxLen):qdm fu a b=some (a.map lo==b.map lo):=by
 unfold qdm;rw[qwy fu a ha ha',qwy fu b hb hb'];rfl
end Go.Sym
namespace Go.Sym
theorem zna (c:UInt8):toU8 (c.toNat:Int)=c:=by
 unfold toU8;have:=c.toNat_lt;rw[show ((c.toNat:Int)%256).toNat=c.toNat by omega]
 simp
theorem zon (s:List UInt8) (c:UInt8):qfg s c=some (Lib.indexByte s c):=rfl
theorem zvw (fu:Nat) (cs:List UInt8) (c:UInt8) (h:c.toNat<128):qbw fu cs (c.toNat:Int)=some (Lib.indexByte cs c):=by
 unfold qbw qdi;rw[qaa (by omega),qaa (by omega),zna,zon];rfl
theorem z9m (fu n:Nat):∀ (cs:List UInt8) (p:Nat),(∀ c∈cs,c.toNat<128)->cs.length-p<n->p<=cs.length->qdg fu n cs p=some (-1):=by
 induction n with
 | zero=>intro cs p _ h;exact absurd h (by omega)
 | succ n ih=>
  intro cs p hA h hp;rw[qdg,qjk];by_cases hlt:p<cs.length
  ·have e:cs[p]? = some cs[p]:=List.getElem?_eq_getElem hlt;have hc:=hA cs[p] (List.getElem_mem hlt);rw[qau (z2h hlt),zbq cs p _ e hc,qnu,qW (by simp only;omega)]
   exact ih cs (p+1) hA (by omega) (by omega)
  ·rw[qax (zxc hlt)]
theorem zq5 (fu:Nat) (cs:List UInt8) (r:Int) (hr:128<=r) (hA:∀ c∈cs,c.toNat<128) (hfu:cs.length<fu) (hb:cs.length<1000):qbw fu cs r=some (-1):=by
 unfold qbw qdi;rw[qaa (by omega),qac (by omega),qnu]
 by_cases h1:r=65533
 ·rw[qX h1];exact z9m fu fu cs 0 hA (by omega) (by omega)
 rw[qW h1];have hv:∃ b,qd6 r=some b:=by
  unfold qd6;simp only[qhq]
  repeat' split
  all_goals exact⟨_,rfl⟩
 obtain⟨b,hv⟩:=hv;rw[hv,qB];cases b
 ·rfl
 rw[show (!true)=false from rfl,qF]
 obtain⟨t,c,e,hc,ht⟩:=zir r hr;rw[e,qnf,qvs _ (by omega)]
 obtain⟨n,rfl⟩:∃ n,fu=n+1:=⟨fu-1,by omega⟩
 rw[qfq,qjl];by_cases hl:t.length<cs.length
 ·have hcs:=hA cs[t.length] (List.getElem_mem hl);have hne:cs[t.length]≠c:=fun e=>by rw[e]at hcs;omega
  rw[qaa (by omega),qv8 _ _ hl,qB,qw4,qB,q0l,qX hne,qai _ (by omega),qaa (by omega),qB,zon,qB,zdv,qaa (by decide)]
  intro x hx e;have:=hA x (List.mem_of_mem_drop hx);rw[e]at this;omega
 ·rw[qac (by omega)]
def qyh (cs:List UInt8):List Bool:=cs.foldl (fun m c=>m.set c.toNat true) (List.replicate 256 false)
structure AC (cs:List UInt8):Prop where
 two:2<=cs.length
 few:cs.length<100
 low:∀ c∈cs,c.toNat<128
 set:∀ n,qca (n+100) cs=some (qyh cs,true)
 get:∀ c:UInt8,(qyh cs)[c.toNat]? = some (cs.contains c)
 len:(qyh cs).length=256
theorem qxy {cs:List UInt8} (A:AC cs) (c:UInt8):qa9 c (qyh cs)=some (cs.contains c,qyh cs):=by
 unfold qa9;rw[A.get];rfl
theorem zpo {cs:List UInt8} (A:AC cs) (fu n:Nat):∀ (vbt vbs:List UInt8),vbs.length<n->vbt.length+vbs.length<1000000000 ->
  ∃ r,qd0 fu n (vbt++vbs) (vbt.length:Int) (qyh cs)=some r/\decide (0<=r)=vbs.any cs.contains:=by
 induction n with
 | zero=>intro vbt vbs h;exact absurd h (by omega)
 | succ n ih=>
  intro vbt vbs h hb;rw[qd0,qj8]
  cases vbs with
  | nil=>rw[qac (by simp)];exact⟨-1,rfl,rfl⟩
  | cons c vbs=>
   simp only[qL]at h hb;rw[qbf,qaa (by omega),qan,qB,qxy A,qB]
   cases hc:cs.contains c
   ·obtain⟨r,h1,h2⟩:=ih (vbt++[c]) vbs (by omega) (by simp;omega)
    refine⟨r,?_,by rw[h2,List.any_cons,hc,Bool.false_or]⟩
    rw[qai _ (by omega)]
    simpa using h1
   ·exact⟨_,rfl,by rw[List.any_cons,hc,Bool.true_or];exact decide_eq_true (by omega)⟩
theorem zmw {cs:List UInt8} (A:AC cs) (fu:Nat) (hfu:100<=fu) (s:List UInt8):∀ (n p:Nat),s.length-p<n->p<=s.length ->
  ∃ r,qdz fu n cs s p=some r/\decide (0<=r)=(s.drop p).any cs.contains:=by
 intro n
 induction n with
 | zero=>intro p h;exact absurd h (by omega)
 | succ n ih=>
  intro p h hp;rw[qdz,qks];by_cases hlt:p<s.length
  ·have e:s[p]? = some s[p]:=List.getElem?_eq_getElem hlt;have hd:s.drop p=s[p]::s.drop (p+1):=List.drop_eq_getElem_cons hlt;rw[qau (z2h hlt)];by_cases hc:s[p].toNat<128
   ·rw[zbq s p _ e hc];simp only;rw[zvw fu cs _ hc,qB,qhq,hd,List.any_cons];by_cases hm:s[p]∈cs
    ·rw[qX ((zvk _ _).2 hm)];exact⟨_,rfl,by rw[show cs.contains s[p]=true by simpa using hm,Bool.true_or];exact decide_eq_true (by omega)⟩
    ·rw[qW (fun h=>hm ((zvk _ _).1 h))]
     obtain⟨r,h1,h2⟩:=ih (p+1) (by omega) (by omega)
     exact⟨r,h1,by rw[h2,show cs.contains s[p]=false by simpa using hm,Bool.false_or]⟩
   ·obtain⟨q1,q2,q3⟩:=zfo s p _ e (by omega)
    rw[zq5 fu cs _ (by omega) A.low (by have:=A.few;omega) (by have:=A.few;omega),qB,qac (by decide)]
    have hle:p+(rdec s p).2<=s.length:=by
     obtain⟨d,hd,_⟩:=q3 ((rdec s p).2-1) (by omega)
     have:=(List.getElem?_eq_some_iff.1 hd).1;omega
    obtain⟨r,h1,h2⟩:=ih (p+(rdec s p).2) (by omega) hle
    refine⟨r,h1,?_⟩;rw[h2];have:∀ w,(∀ j,j<w->∃ d,s[p+j]? = some d/\128<=d.toNat)->(s.drop (p+w)).any cs.contains=(s.drop p).any cs.contains:=by
     intro w
     induction w with
     | zero=>intro _;rfl
     | succ w ihw=>
      intro hw;rw[← ihw (fun j hj=>hw j (by omega))]
      obtain⟨d,hd,hd2⟩:=hw w (by omega)
      obtain⟨k1,k2⟩:=List.getElem?_eq_some_iff.1 hd;rw[List.drop_eq_getElem_cons k1,k2,List.any_cons,show cs.contains d=false by
       simp only[List.contains_eq_mem,decide_eq_false_iff_not];intro hm;have:=A.low d hm;omega,Bool.false_or]
      rfl
    exact this _ q3
  ·rw[qax (zxc hlt)];exact⟨-1,rfl,by rw[List.drop_eq_nil_of_le (by omega)];rfl⟩
theorem q36 {cs:List UInt8} (A:AC cs) (fu:Nat) (s:List UInt8) (hfu:100<=fu) (h:s.length<fu) (hb:s.length<1000000000):qf5 fu s cs=some (s.any cs.contains):=by
 unfold qf5;have:∃ r,qjy fu s cs=some r/\decide (0<=r)=s.any cs.contains:=by
  unfold qjy;have h2:=A.two;rw[qax (by cases cs with
   | nil=>simp at h2
   | cons a b=>rfl),qnu,qW (by omega)]
  unfold qfb;rw[qB,qhq];split
  ·obtain⟨n,rfl⟩:∃ n,fu=n+100:=⟨fu-100,by omega⟩
   rw[A.set,qB];simp only[A.len];rw[qau (by rw[List.length_replicate];rfl),qau (by rfl)]
   have:=zpo A (n+100) (n+100) [] s (by omega) (by simpa using hb)
   simpa using this
  ·have:=zmw A fu hfu s fu 0 (by omega) (by omega)
   simpa [qf1] using this
 obtain⟨r,h1,h2⟩:=this;rw[h1,qB,h2]
set_option maxRecDepth 100000 in
theorem ztg:∀ n:_root_.Fin 256,(qyh [13,10,0])[(UInt8.ofNat n.val).toNat]? = some (([13,10,0]:List UInt8).contains (UInt8.ofNat n.val)):=by decide +kernel
theorem ac1:AC [13,10,0]:=⟨by decide,by decide,by decide,fun n=>by kernel_rfl,fun c=>qpo (fun c=>(qyh [13,10,0])[c.toNat]? = some (([13,10,0]:List UInt8).contains c)) ztg c,by decide +kernel⟩
set_option maxRecDepth 100000 in
theorem zrb:∀ n:_root_.Fin 256,(qyh [32,9])[(UInt8.ofNat n.val).toNat]? = some (([32,9]:List UInt8).contains (UInt8.ofNat n.val)):=by decide +kernel
theorem ac3:AC [32,9]:=⟨by decide,by decide,by decide,fun n=>by kernel_rfl,fun c=>qpo (fun c=>(qyh [32,9])[c.toNat]? = some (([32,9]:List UInt8).contains c)) zrb c,by decide +kernel⟩
theorem q3p (c:UInt8):([32,9]:List UInt8).contains c=bl c:=by rw[Bool.eq_iff_iff];simp[bl]
end Go.Sym
namespace Go.Sym
theorem q4n (c:UInt8) (s:List UInt8):qup (c::s)=if qup s=[] then (if bl c then [] else [c]) else c::qup s:=by
 unfold qup;rw[List.reverse_cons];generalize s.reverse=r
 induction r with
 | nil=>simp[List.dropWhile];cases bl c<;>rfl
 | cons x r ih=>
  rw[wK,List.dropWhile,List.dropWhile];cases bl x
  ·simp
  ·simpa using ih
theorem qg6 (c:UInt8) (s:List UInt8):qbl (c::s)=if bl c then qbl s else c::s:=by
 unfold qbl;rw[List.dropWhile];cases bl c<;>rfl
theorem q81:∀ s:List UInt8,qbl (qup s)=trim s
 | []=>rfl
 | c::s=>by
  unfold trim;have ih:=q81 s;unfold trim at ih;rw[q4n,qg6];cases hc:bl c
  ·simp only[wJ,if_false];rw[q4n,hc];simp only[wJ,if_false];split
   ·rw[qg6,hc];rfl
   ·rw[qg6,hc];rfl
  ·simp only[if_true];rw[← ih];split
   ·rename_i h;rw[h]
   ·rw[qg6,hc];rfl
theorem q9z (s:List UInt8):(qup s).length<=s.length:=by
 unfold qup;rw[List.length_reverse];have:=(List.dropWhile_sublist bl (l:=s.reverse)).length_le;simpa using this
theorem qgi (s:List UInt8):(qbl s).length<=s.length:=(List.dropWhile_sublist bl).length_le
def edge (s:List UInt8):Bool := !(s.head?.any bl) && !(s.getLast?.any bl)
theorem zik (s:List UInt8):decide (trim s=s)=edge s:=by
 unfold edge;cases hf:s.head?.any bl
 ·cases hl:s.getLast?.any bl
  ·rw[decide_eq_true];rfl;unfold trim;have h1:qbl s=s:=by
    cases s with
    | nil=>rfl
    | cons c s=>rw[qg6];simp at hf;rw[hf];rfl
   rw[h1];rcases List.eq_nil_or_concat s with rfl|⟨t,c,rfl⟩
   ·rfl
   ·rw[List.concat_eq_append]at *;rw[qtz];simp at hl;rw[hl];rfl
  ·rw[decide_eq_false];rfl;rw[← q81];rcases List.eq_nil_or_concat s with rfl|⟨t,c,rfl⟩
   ·simp at hl
   ·rw[List.concat_eq_append]at *;simp at hl;rw[qtz,hl,qX rfl];intro e;have:=Nat.le_trans (qgi (qup t)) (q9z t);rw[e]at this;simp at this;omega
 ·rw[decide_eq_false];rfl
  cases s with
  | nil=>simp at hf
  | cons c s=>
   simp at hf;unfold trim;rw[qg6,hf,qX rfl];intro e;have:=Nat.le_trans (q9z (qbl s)) (qgi s);rw[e]at this;simp at this;omega
theorem q1l (c:UInt8):qgc c=some (bl c):=by unfold qgc bl;cases c==32<;>rfl
theorem qtt (c:UInt8):qkx c=some (bl c):=by unfold qkx bl;cases c==32<;>rfl
theorem qmu (f:Int×Int):qak f=some (f.1 != 0):=rfl
def q6o (c:UInt8):Bool:=decide (33<=c)&&decide (c<=126)&&c != 58
def q2p (s:List UInt8):Bool:=s != []&&decide (s.length<=60)&&s.all q6o
theorem zmv (c:UInt8):qq5 c=some (q6o c):=by
 unfold qq5 q6o;cases decide (33<=c)<;>cases decide (c<=126)<;>rfl
theorem zxt (fu n:Nat):∀ (vbt vbs:List UInt8),vbs.length<n->vbt.length+vbs.length<1000000000 ->
  qli fu n (vbt++vbs) ((vbt.length+vbs.length:Nat):Int) (vbt.length:Int)=some (vbs.all q6o):=by
 induction n with
 | zero=>intro vbt vbs h;exact absurd h (by omega)
 | succ n ih=>
  intro vbt vbs h hb;rw[qli,qti]
  cases vbs with
  | nil=>rw[qac (by simp)];rfl
  | cons c vbs=>
   simp only[qL]at h hb ⊢;rw[qaa (by omega),qan,qB,zmv,qB,List.all_cons]
   cases hc:q6o c
   ·rfl
   ·have:=ih (vbt++[c]) vbs (by omega) (by simp;omega)
    rw[qai _ (by omega)]
    simp only[qS,wM,qM,qL,qZ]at this;rw[show vbt.length+0+1+vbs.length=vbt.length+(vbs.length+1) by omega]at this
    simpa using this
theorem zm5 (fu:Nat) (s:List UInt8) (h:61<fu):qu0 fu s=some (q2p s):=by
 unfold qu0 q2p
 cases s with
 | nil=>rfl
 | cons c s=>
  rw[show (!c::s==([]:List UInt8))=true from rfl,show (c::s != ([]:List UInt8))=true from rfl,qT,qhq]
  split
  ·rename_i hl;simp only[qL]at hl;unfold qyb;have:=zxt fu fu [] (c::s) (by simp only[qL];omega) (by simp only[qL,qZ];omega)
   simp only[List.nil_append,qZ,wO]at this;rw[show (0:Int)=((0:Nat):Int) from rfl,this,decide_eq_true (by simp only[qL];omega)]
   rfl
  ·rename_i hl;rw[decide_eq_false (by omega)]
   rfl
theorem zoi (a b c:Int):qfk a b c=some (decide (b<=a)&&decide (a<=c)):=by
 unfold qfk;rw[qhq];split
 ·rename_i h;rw[decide_eq_true h];rfl
 ·rename_i h;rw[decide_eq_false h];rfl
set_option maxRecDepth 100000 in
theorem zka:∀ n:_root_.Fin 256,(decide ((33:Int)<=((UInt8.ofNat n.val).toNat:Int))&&decide (((UInt8.ofNat n.val).toNat:Int)<=126) && !((UInt8.ofNat n.val)==58))=q6o (UInt8.ofNat n.val):=by decide +kernel
theorem z9h (c:UInt8):(decide ((33:Int)<=(c.toNat:Int))&&decide ((c.toNat:Int)<=126) && !(c==58))=q6o c:=qpo (fun c=>(decide ((33:Int)<=(c.toNat:Int))&&decide ((c.toNat:Int)<=126) && !(c==58))=q6o c) zka c
theorem zn8 (fu n:Nat):∀ (vbt vbs:List UInt8),vbs.length<n->vbt.length+vbs.length<1000000000 ->
  qh2 fu n (vbt++vbs) (vbt.length:Int)=some (vbs.all q6o&&(decide (1<=vbt.length+vbs.length)&&decide (vbt.length+vbs.length<=60))):=by
 induction n with
 | zero=>intro vbt vbs h;exact absurd h (by omega)
 | succ n ih=>
  intro vbt vbs h hb;rw[qh2,qo3]
  cases vbs with
  | nil=>
   rw[qac (by simp),zoi,List.all_nil,Bool.true_and]
   simp only[List.append_nil,qZ,Nat.add_zero,qB];congr 2
   ·rw[Bool.eq_iff_iff];simp only[decide_eq_true_eq];omega
   ·rw[Bool.eq_iff_iff];simp only[decide_eq_true_eq];omega
  | cons c vbs=>
   simp only[qL]at h hb ⊢;rw[qbf,qaa (by omega),qan,qB,zoi,qB,qB,List.all_cons,← z9h]
   cases decide ((33:Int)<=(c.toNat:Int))&&decide ((c.toNat:Int)<=126)
   ·rfl
   ·cases c==58
    ·have:=ih (vbt++[c]) vbs (by omega) (by simp;omega)
     rw[qai _ (by omega)]
     simp only[qS,wM,qM,qL,qZ]at this;rw[show vbt.length+(0+1)+vbs.length=vbt.length+(vbs.length+1) by omega]at this
     simpa using this
    ·rfl
theorem znz (fu:Nat) (s:List UInt8) (h:s.length<fu) (hb:s.length<1000000000):qpk fu s=some (q2p s):=by
 unfold qpk q2p;have:=zn8 fu fu [] s h (by simpa using hb)
 rw[show (0:Int)=(([]:List UInt8).length:Int) from rfl,show s=[]++s from rfl,this]
 simp only[qZ,wO,List.nil_append];congr 1
 cases s with
 | nil=>rfl
 | cons c s=>
  rw[show (c::s != ([]:List UInt8))=true from rfl,decide_eq_true (show 1<=(c::s).length by simp)]
  simp only[Bool.true_and];exact Bool.and_comm _ _
def fval (s:List UInt8):Bool := !(s.any ([13,10,0]:List UInt8).contains)&&edge s
theorem zfp (fu:Nat) (s:List UInt8) (hfu:100<=fu) (h:s.length<fu) (hb:s.length<1000000000):qs4 fu s=some (fval s):=by
 unfold qs4 qya fval;rw[q36 ac1 fu s hfu h hb,qB,qB];cases s.any ([13,10,0]:List UInt8).contains
 ·rw[qek];unfold edge
  cases s with
  | nil=>rfl
  | cons c t=>
   rw[qax (by rfl),show idx (c::t) (0:Int)=some c from rfl,qB,q1l,qB]
   rw[show (c::t).head?.any bl=bl c from rfl]
   cases bl c
   ·rw[qek];rcases List.eq_nil_or_concat (c::t) with e|⟨u,d,e⟩
    ·cases e
    ·rw[List.concat_eq_append]at e;rw[e]at hb ⊢;simp only[qM,qL,qZ]at hb;rw[qnf,qvs _ (by omega),qw4,qB,q1l,qB]
     simp
   ·rfl
 ·rfl
theorem q9y (fu:Nat) (_r0:Nat->List UInt8->Option (List UInt8)) (n:Nat):∀ (s:List UInt8),s.length<n->s.length<1000000000->qqc fu n s=some (qup s):=by
 induction n with
 | zero=>intro s h;exact absurd h (by omega)
 | succ n ih=>
  intro s h hb;rw[qqc,qv7];rcases List.eq_nil_or_concat s with rfl|⟨t,c,rfl⟩
  ·rw[qac (by simp)];rfl
  ·rw[List.concat_eq_append]at *;simp only[qM,qL,qZ]at h hb;rw[qnf,qaa (by omega),qvs _ (by omega),qw4,qB,qtt,qB,qyp,qaa (by omega),ih t (by omega) (by omega),qtz]
   cases bl c<;>rfl
theorem zny (fu n:Nat):∀ (s:List UInt8),s.length<n->s.length<fu->s.length<1000000000->qp3 fu n s=some (trim s):=by
 induction n with
 | zero=>intro s h;exact absurd h (by omega)
 | succ n ih=>
  intro s h hf hb;rw[qp3,qv0]
  cases s with
  | nil=>
   rw[qac (by simp)]
   unfold qp0;rw[qax (by rfl),q9y fu (fun _ _=>none) fu [] hf hb];rfl
  | cons c s=>
   rw[qaa (by simp),show idx (c::s) (0:Int)=some c from rfl,qB,qtt,qB]
   unfold qp0 trim;rw[qg6];simp only[qL]at h hf hb;cases bl c
   ·rw[qax (by rfl),q9y fu (fun _ _=>none) fu (c::s) (by simp only[qL];omega) (by simp only[qL];omega)];rfl
   ·rw[qau (by rfl)]
    unfold qv3;rw[qaa (by simp only[qL];omega)]
    exact ih s (by omega) (by omega) (by omega)
theorem zlw (fu:Nat) (s:List UInt8) (h:s.length<fu) (hb:s.length<1000000000):q26 fu s=some (trim s):=zny fu fu s h h hb
theorem znh (fu n:Nat):∀ (s:List UInt8),s.length<n->s.length<1000000000->qbx fu n s (qyh [32,9])=some (qup s,qyh [32,9]):=by
 induction n with
 | zero=>intro s h;exact absurd h (by omega)
 | succ n ih=>
  intro s h hb;rw[qbx,qfe];rcases List.eq_nil_or_concat s with rfl|⟨t,c,rfl⟩
  ·rw[qac (by simp)];rfl
  ·rw[List.concat_eq_append]at *;simp only[qM,qL,qZ]at h hb;rw[qnf,qaa (by omega),qvs _ (by omega),qw4,qB,qxy ac3,qB,qyp,qaa (by omega),ih t (by omega) (by omega),qtz,q3p]
   cases bl c<;>rfl
theorem zlu (fu:Nat) (s:List UInt8) (hfu:100<=fu) (h:s.length<fu) (hb:s.length<1000000000):qfj fu s [32,9]=some (qup s):=by
 unfold qfj
 cases s with
 | nil=>rfl
 | cons c s=>
  rw[qax (by rfl)]
  unfold qfo;rw[qax (by rfl)]
  unfold qjp;rw[qax (by decide)]
  unfold qfl;rw[qax (by rfl)]
  unfold qjr;obtain⟨n,rfl⟩:∃ n,fu=n+100:=⟨fu-100,by omega⟩
  rw[ac3.set,qB];simp only[ac3.len];rw[qau (by rw[List.length_replicate];rfl),qau (by rfl)]
  unfold qea;rw[znh _ _ _ h hb];rfl
theorem zva (fu:Nat) (hfu:10<=fu) (c a b d:UInt8):qmj fu c [a,b,d]=some (([a,b,d]:List UInt8).contains c):=by
 obtain⟨n,rfl⟩:∃ n,fu=n+10:=⟨fu-10,by omega⟩
 unfold qmj;simp only[qkz,qrd];rw[qau (by rfl),show idx [a,b,d] (0:Int)=some a from rfl,qB]
 simp only[List.contains_cons,List.contains_nil,Bool.or_false];rw[qzb a c,show (w64 (0+1))=(1:Int) from rfl]
 cases c==a
 ·rw[qax (by rfl),qau (by rfl),show idx [a,b,d] (1:Int)=some b from rfl,qB,qzb b c,show (w64 (1+1))=(2:Int) from rfl]
  cases c==b
  ·rw[qax (by rfl),qau (by rfl),show idx [a,b,d] (2:Int)=some d from rfl,qB,qzb d c,show (w64 (2+1))=(3:Int) from rfl]
   cases c==d
   ·rfl
   ·rfl
  ·rfl
 ·rfl
theorem zn1 (fu n:Nat) (hfu:10<=fu):∀ (vbt vbs:List UInt8),vbs.length<n->vbt.length+vbs.length<1000000000->vbt.length+vbs.length<fu ->
  qe3 fu n (vbt++vbs) (vbt.length:Int)=some (if vbs.any ([13,10,0]:List UInt8).contains || !edge (vbt++vbs) then 11 else 0):=by
 induction n with
 | zero=>intro vbt vbs h;exact absurd h (by omega)
 | succ n ih=>
  intro vbt vbs h hb hf;rw[qe3,qoz]
  cases vbs with
  | nil=>
   rw[qac (by simp),List.append_nil,zlw fu vbt (by simpa using hf) (by simpa using hb),qB,← zik,List.any_nil,Bool.false_or]
   by_cases e:trim vbt=vbt
   ·rw[decide_eq_true e,e];simp
   ·rw[decide_eq_false e,qau (by simpa using e)];rfl
  | cons c vbs=>
   simp only[qL]at h hb hf;rw[qbf,qaa (by omega),qan,qB,zva fu hfu,qB,List.any_cons]
   cases hc:([13,10,0]:List UInt8).contains c
   ·have:=ih (vbt++[c]) vbs (by omega) (by simp;omega) (by simp;omega)
    rw[qax (by rfl),qai _ (by omega),Bool.false_or]
    simpa using this
   ·rfl
def q33 (n v:List UInt8):Int:=if q2p n then (if 4000<v.length then 1 else if fval v then 0 else 11) else 10
theorem znm (fu:Nat) (n v:List UInt8) (hfu:10<=fu) (hn:n.length<fu) (hv:v.length<fu) (hnb:n.length<1000000000) (hvb:v.length<1000000000):qlv fu n v=some (q33 n v):=by
 unfold qlv q33;rw[znz fu n hn hnb,qB];cases q2p n
 ·rfl
 ·rw[qax (by rfl),qX rfl,qhq]
  split
  ·rename_i h;rw[qX (by omega)]
  ·rename_i h;rw[qW (by omega)]
   have:=zn1 fu fu hfu [] v hv (by simpa using hvb) (by simpa using hv)
   simp only[List.nil_append,qZ]at this;have this:qe3 fu fu v 0=some (if (v.any ([13,10,0]:List UInt8).contains || !edge v)=true then 11 else 0):=this
   rw[this];unfold fval;cases v.any ([13,10,0]:List UInt8).contains<;>cases edge v<;>rfl
end Go.Sym
