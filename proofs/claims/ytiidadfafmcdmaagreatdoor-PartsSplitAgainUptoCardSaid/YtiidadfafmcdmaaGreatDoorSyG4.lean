/- What the claim rests on, part 4: gathered texts. -/
import Derived.Shelf.Strings.Count
import Derived.Deep.OwnRows
import Derived.Laws.CopyRow
import Derived.Laws.IdiomStrings
import Derived.Deep.LoopGhost
import Derived.Deep.DeepCutAuto
import Derived.Laws.CopyOwn
import Derived.Below
import Derived.Deep.DeepFit
import Derived.Deep.DeepMust
import Derived.Laws.AppendOwn
import Derived.Lib.SlBytesConst
import Derived.Test.YtiidadfafmcdmaaGreatDoorRows
import Derived.Tactics
import Derived.Tactics2
import Derived.Defers
import Derived.Laws.Pointers
import Derived.Laws.LoneSync
import Derived.RegionTactic
import Derived.RegionCalls
import Derived.ChangeAlike
import Derived.Laws.NewBlocks
import Derived.Laws.ByValue
import Derived.Sort.AssemblyPlain
import Derived.Test.YtiidadfafmcdmaaGreatDoorSyG3
set_option linter.unusedVariables false
set_option maxRecDepth 100000
set_option linter.defProp false
namespace Go.Proofs.Repl
open Go.Shelf Go.RowKit Go.Lib Go.Sym
def rv(a b:UInt8)(ga gb ca cb:Nat)(c:UInt8):Value:=if c=a then .slice (some ⟨ga,0,none⟩) 2 ca else if c=b then .slice (some ⟨gb,0,none⟩) 2 cb else .slice none 0 0
structure lx(R:Nat)(a b a1 a2 b1 b2:UInt8)(w:World):Prop where
 ex:∃ga gb gt ca cb ct,(∀c:UInt8,w.cell? ⟨R,c.toNat,none⟩=some (rv a b ga gb ca cb c))/\w.cell? ⟨R,256,none⟩=some (.slice (some ⟨gt,0,none⟩) 2 ct) /\
  w.cell? ⟨gt,0,none⟩=some (.string ⟨#[b]⟩)/\w.cell? ⟨gt,1,none⟩=some (.string ⟨#[a]⟩) /\
  w.cell? ⟨ga,0,none⟩=some (.int .u8 a1.toNat)/\w.cell? ⟨ga,1,none⟩=some (.int .u8 a2.toNat)/\w.cell? ⟨gb,0,none⟩=some (.int .u8 b1.toNat)/\w.cell? ⟨gb,1,none⟩=some (.int .u8 b2.toNat)
def lx.below{R:Nat}{a b a1 a2 b1 b2:UInt8}{w w':World}(h:lx R a b a1 a2 b1 b2 w)(hb:Below w.heap.size w w'):lx R a b a1 a2 b1 b2 w':=by
 have k:∀{p:Addr}{v:Value},w.cell? p=some v->w'.cell? p=some v:=fun{p v} hc=>(hb.cell (World.block_lt_of_cell? _ _ hc)).trans hc
 obtain⟨ga,gb,gt,ca,cb,ct,h1,h2,h3,h4,h5,h6,h7,h8⟩:=h.ex;exact⟨ga,gb,gt,ca,cb,ct,fun c=>k (h1 c),k h2,k h3,k h4,k h5,k h6,k h7,k h8⟩
def q2m(s:ByteArray)(c:UInt8)(w:World) :
  Calls Tryz.prog 321 #[.string s,.string ⟨#[c]⟩] w fun e w'=>e = .returned (.int .i64 (Lib.countByte s.data.toList c))/\w'=w:=
 Any.strings_Count_one Tryz.lays138 s c w
def z15{w:World}{g:Nat}{t:TypeId}{N:Nat}{f:Nat->Value}{cur:Array Value}(hg:w.heap[g]? = some (.cells cur t (0,0)))(hz:cur.size=N)(hc:∀i,i<N->cur[i]? = some (f i)){j:Nat}(hj:j+2<=N)(v1 v2:Value) :
  (w.setRow g (cur.toList.take j++[v1,v2]++cur.toList.drop (j+2)).toArray).rowIs g t N (fun i=>if i=j then v1 else if i=j+1 then v2 else f i):=by
 have hl:cur.toList.length=N:=by simpa using hz
 refine⟨_,setRow_heap w g cur _ t _ hg,by simp;omega,fun i hi => ?_⟩
 simp only[List.getElem?_toArray];rw[qS];by_cases h1:i<j
 ·rw[List.getElem?_append_left (by simp;omega),List.getElem?_take,qX h1,qW,qW,← hc i hi];simp
 ·rw[List.getElem?_append_right (by simp;omega),show(cur.toList.take j).length=j by simp;omega]
  by_cases h2:i=j
  ·subst h2;simp
  ·by_cases h3:i=j+1
   ·subst h3;rw[qW h2,qX rfl,show j+1-j=1 by omega];rfl
   ·rw[qW h2,qW h3,List.getElem?_append_right (by simp;omega),List.getElem?_drop,← hc i hi]
    simp;congr 1;omega
def jc(b o n:Nat):(⟨b,o,none⟩:Addr).add n=⟨b,o+n,none⟩:=by unfold Addr.add;split<;>simp_all
def zag{w:World}{G ga j M c:Nat}{f:Nat->Value}{x1 x2:UInt8}(hrow:w.rowIs G 5 M f)(hj:j+2<=M)(h0:w.cell? ⟨ga,0,none⟩=some (.int .u8 x1.toNat))(h1:w.cell? ⟨ga,1,none⟩=some (.int .u8 x2.toNat)) :
  ∃ROW,(Builtin.copy_ #[23,23] 3 #[.slice (some ⟨G,j,none⟩) (M-j) (M-j),.slice (some ⟨ga,0,none⟩) 2 c]).run Tryz.prog w = .ok (.int .i64 2) (w.setRow G ROW) /\
   (w.setRow G ROW).rowIs G 5 M (fun i=>if i=j then .int .u8 x1.toNat else if i=j+1 then .int .u8 x2.toNat else f i):=by
 obtain⟨cur,k1,k2,k3⟩:=hrow;refine⟨_,?_,z15 k1 k2 k3 hj _ _⟩;exact run_copy_row (P:=Tryz.prog) w 23 23 3 5 G j (M-j) (M-j) ⟨ga,0,none⟩ 2 c cur 5 [.int .u8 x1.toNat,.int .u8 x2.toNat] Tryz.underlying23 (by kernel_rfl) k1
  (by show 2=Nat.min 2 (M-j);exact(Nat.min_eq_left (by omega)).symm)
  (fun i v hv=>by
   rw[jc]
   match i,hv with
   |0,hv=>cases hv;exact h0
   |1,hv=>cases hv;exact h1
   | i+2,hv=>cases hv)
  (by show j+2<=cur.size;omega) (fun v hv=>by
   rcases List.mem_cons.1 hv with rfl|hv
   ·rfl
   ·rcases List.mem_cons.1 hv with rfl|hv
    ·rfl
    ·cases hv)
def bv(l:Bs)(j:Nat):Value := .int .u8 (l.getD j 0).toNat
def qz0(l m:Bs)(j:Nat)(h:j<l.length):bv (l++m) j=bv l j:=by unfold bv;rw[List.getD_eq_getElem?_getD,List.getD_eq_getElem?_getD,List.getElem?_append_left h]
def q2t(l m:Bs)(c:UInt8):bv (l++c::m) l.length = .int .u8 c.toNat:=by unfold bv;rw[List.getD_eq_getElem?_getD,List.getElem?_append_right (wF _),Nat.sub_self];rfl
def zwm(l m:Bs)(c d:UInt8):bv (l++c::d::m) (l.length+1) = .int .u8 d.toNat:=by unfold bv;rw[List.getD_eq_getElem?_getD,List.getElem?_append_right (by omega),show l.length+1-l.length=1 by omega];rfl
def qg5(l:Bs)(j:Nat)(h:l.length<=j:=by omega):bv l j = .int .u8 0:=by unfold bv;rw[List.getD_eq_getElem?_getD,List.getElem?_eq_none h];rfl
def q45(l:Bs)(c d:UInt8)(i:Nat):(if i=l.length then Value.int .u8 c.toNat else if i=l.length+1 then .int .u8 d.toNat else bv l i)=bv (l++[c,d]) i:=by
 by_cases h:i<l.length
 ·rw[qW,qW,qz0 _ _ _ h]
 ·by_cases h1:i=l.length
  ·subst h1;rw[qX rfl,q2t]
  ·by_cases h2:i=l.length+1
   ·subst h2;rw[qW h1,qX rfl,zwm]
   ·rw[qW h1,qW h2,qg5 _ _,qg5 _ _ (by simp;omega)]
def zka(l:Bs)(c:UInt8)(i:Nat):(if i=l.length then Value.int .u8 c.toNat else bv l i)=bv (l++[c]) i:=by
 by_cases h:i<l.length
 ·rw[qW,qz0 _ _ _ h]
 ·by_cases h1:i=l.length
  ·subst h1;rw[qX rfl,q2t]
  ·rw[qW h1,qg5 _ _,qg5 _ _ (by simp;omega)]
def vI2(p:Nat):Value.int .i64 ((p:Int)+2) = .int .i64 ((p+2:Nat):Int):=by rw[Int.natCast_add];rfl
def o8(p:Nat):Value.int .i64 ((p:Int)+1) = .int .i64 ((p+1:Nat):Int):=by rw[Int.natCast_add];rfl
def q04(n:Nat)(h:n<=4000000:=by omega):wrap64 (n:Int)=(n:Int):=by unfold wrap64;omega
def zd1(p:Addr)(n c:Nat)(w:World):(binOp .neq 23 (.slice (some p) n c) (.slice none 0 0)).run Tryz.prog w = .ok (.bool true) w:=by kernel_rfl
def zgr(w:World):(binOp .neq 23 (.slice none 0 0) (.slice none 0 0)).run Tryz.prog w = .ok (.bool false) w:=by kernel_rfl
def z1d(p:Addr)(n c:Nat)(w:World):(binOp .eql 23 (.slice (some p) n c) (.slice none 0 0)).run Tryz.prog w = .ok (.bool false) w:=by kernel_rfl
def zis(w:World):(binOp .eql 23 (.slice none 0 0) (.slice none 0 0)).run Tryz.prog w = .ok (.bool true) w:=by kernel_rfl
set_option maxHeartbeats 4000000 in
set_option maxRecDepth 1000000 in
def zxk(R:Nat)(a b a1 a2 b1 b2:UInt8)(s:ByteArray)(w:World)(hab:a≠b)(hs:s.size<=1000000)(hB:lx R a b a1 a2 b1 b2 w) :
  Calls Tryz.prog 319 #[.pointer (some ⟨R,0,none⟩),.string s] w fun e w'=>e = .returned (.string ⟨(ej a b [a1,a2] [b1,b2] s.data.toList).toArray⟩)/\Below w.heap.size w w':=by
 obtain⟨ga,gb,gt,ca,cb,ct,-,hT,ht0,ht1,-⟩:=hB.ex;obtain⟨L,hL⟩:∃L,s.data.toList=L:=⟨_,rfl⟩;have ac:L.length=s.size:=by rw[← hL];exact(Lib.size_eq s).symm
 rw[hL];have HB:Aside (lx R a b a1 a2 b1 b2 w):=hB;clear hB;have cBc:=fun w=>q2m s b w
 have cAc:=fun w=>q2m s a w
 rw[hL]at cBc cAc;obtain⟨Z,hZ⟩:∃Z,jh a b L=Z:=⟨_,rfl⟩;have HZ:Aside (jh a b L=Z):=hZ;have hZ2:Z<=2000000:=by
  rw[← hZ];unfold jh;have h1:=List.count_le_length (a:=a) (l:=L);have h2:=List.count_le_length (a:=b) (l:=L);omega
 clear hZ;obtain⟨M,hM⟩:∃M,s.size+Z=M:=⟨_,rfl⟩;have HM:Aside (s.size+Z=M):=hM;have hMb:M<=3000000:=by omega
 clear hM;have hn1:=zd1;have hn2:=zgr
 go_enter Tryz.func319,Tryz.ntmps319
 go_upto_if 26 with(fail)
 go_cut [5,6] (fun s5 s6 wx=>s5 = .int .i64 (M:Nat)/\s6 = .bool (decide (0<Z))/\Below w.heap.size w wx)
 case first=>
  obtain⟨X,hX⟩:∃X,L.count b=X:=⟨_,rfl⟩;obtain⟨Y,hY⟩:∃Y,L.count a=Y:=⟨_,rfl⟩;have HXY:Aside (Z=Y+X):=by show Z=Y+X;rw[← HZ.out];unfold jh;rw[hX,hY]
  have hXl:X<=s.size:=by rw[← hX,← ac];exact List.count_le_length
  have hYl:Y<=s.size:=by rw[← hY,← ac];exact List.count_le_length
  have cBc:∀w,Calls Tryz.prog 321 #[.string s,.string ⟨#[b]⟩] w fun e w'=>e = .returned (.int .i64 (X:Nat))/\w'=w:=fun w=>by rw[← hX];exact cBc w
  have cAc:∀w,Calls Tryz.prog 321 #[.string s,.string ⟨#[a]⟩] w fun e w'=>e = .returned (.int .i64 (Y:Nat))/\w'=w:=fun w=>by rw[← hY];exact cAc w
  clear hX hY
  go_wp2
  ·rename_i h16;clear h16
   go_loopg [5,6,32] 2 (fun gk s5 s6 s32 wx=>Below w.heap.size w wx/\((s32 = .int .i64 0/\s5 = .int .i64 (s.size:Nat)/\s6 = .bool false/\gk=2)\/(s32 = .int .i64 1/\s5 = .int .i64 ((s.size+X:Nat):Int)/\s6 = .bool (decide (0<X))/\gk=1)\/(s32 = .int .i64 2/\s5 = .int .i64 ((s.size+(Y+X):Nat):Int)/\s6 = .bool (decide (0<Y+X))/\gk=0)))
   case atStart=>exact⟨Below.refl _ _,Or.inl ⟨rfl,rfl,rfl,rfl⟩⟩
   case round=>
    obtain⟨hbw,h⟩:=hrel;have ht0':wr.cell? ⟨gt,0,none⟩=some (.string ⟨#[b]⟩):=(hbw.cell (World.block_lt_of_cell? _ _ ht0)).trans ht0;have ht1':wr.cell? ⟨gt,1,none⟩=some (.string ⟨#[a]⟩):=(hbw.cell (World.block_lt_of_cell? _ _ ht1)).trans ht1;clear ht0 ht1;rcases h with⟨rfl,rfl,rfl,rfl⟩|⟨rfl,rfl,rfl,rfl⟩|⟨rfl,rfl,rfl,rfl⟩
    ·have cX:=cBc wr;by_cases h0:X=0
     ·subst h0
      go_wp2_with (go_at_call 321;go_must (refine cX.mono ?_;rintro e W1 ⟨rfl,rfl⟩))
      go_roundg 1
      case measure=>omega
      case rel=>exact⟨hbw,Or.inr (Or.inl ⟨rfl,rfl,rfl,rfl⟩)⟩
     ·have hz:¬((X:Int)=0):=by omega
      obtain⟨ga',gb',gt',ca',cb',ct',hR,-⟩:=(HB.out.below hbw).ex;have hRb:wr.cell? ⟨R,b.toNat,none⟩=some (.slice (some ⟨gb',0,none⟩) 2 cb'):=by rw[hR b];unfold rv;rw[qW (fun h=>hab h.symm),qX rfl]
      clear hR;have g0:∀h,(⟨#[b]⟩:ByteArray)[0]'h=b:=fun _=>rfl
      have g1:(b.toNat:Int)<256:=by have:=b.toNat_lt;omega
      go_wp2_with (go_at_call 321;go_must (refine cX.mono ?_;rintro e W1 ⟨rfl,rfl⟩))
      go_region
      all_goals go_wp2
      go_roundg 1
      case measure=>omega
      case rel=>exact⟨hbw.drew,Or.inr (Or.inl ⟨rfl,congrArg _ (by omega),by rw[decide_eq_true (Nat.pos_of_ne_zero h0)],rfl⟩)⟩
    ·have cX:=cAc wr;by_cases h0:Y=0
     ·subst h0
      go_wp2_with (go_at_call 321;go_must (refine cX.mono ?_;rintro e W1 ⟨rfl,rfl⟩))
      go_roundg 0
      case measure=>omega
      case rel=>exact⟨hbw,Or.inr (Or.inr ⟨rfl,congrArg _ (by omega),by rw[wO],rfl⟩)⟩
     ·have hz:¬((Y:Int)=0):=by omega
      obtain⟨ga',gb',gt',ca',cb',ct',hR,-⟩:=(HB.out.below hbw).ex;have hRb:wr.cell? ⟨R,a.toNat,none⟩=some (.slice (some ⟨ga',0,none⟩) 2 ca'):=by rw[hR a];unfold rv;rw[qX rfl]
      clear hR;have g0:∀h,(⟨#[a]⟩:ByteArray)[0]'h=a:=fun _=>rfl
      have g1:(a.toNat:Int)<256:=by have:=a.toNat_lt;omega
      go_wp2_with (go_at_call 321;go_must (refine cX.mono ?_;rintro e W1 ⟨rfl,rfl⟩))
      go_region
      all_goals go_wp2
      go_roundg 0
      case measure=>omega
      case rel=>exact⟨hbw.drew,Or.inr (Or.inr ⟨rfl,congrArg _ (by omega),by rw[decide_eq_true (show 0<Y+X by omega)],rfl⟩)⟩
    ·go_wp2
     go_meet
     case rel=>exact⟨by rw[← HM.out,HXY.out],by rw[HXY.out],hbw⟩
  ·rename_i h16;clear h16
   go_loopg [5,6,10] s.size (fun gk s5 s6 s10 wx=>wx=w/\∃k C:Nat,s10 = .int .i64 k/\s5 = .int .i64 ((s.size+C:Nat):Int)/\s6 = .bool (decide (0<C))/\k<=s.size/\s.size<=k+gk/\Aside (jh a b (L.take k)=C)/\C<=2000000)
   case atStart=>exact⟨rfl,0,0,rfl,rfl,rfl,Nat.zero_le _,by omega,rfl,by omega⟩
   case round=>
    obtain⟨rfl,k,C,rfl,rfl,rfl,hk,hgk,HC,hC⟩:=hrel;by_cases hk2:k<s.size
    ·obtain⟨g,rfl⟩:∃g,gk=g+1:=⟨gk-1,by omega⟩
     obtain⟨c,hc⟩:∃c,s[k]'hk2=c:=⟨_,rfl⟩;have hstep:Aside (jh a b (L.take (k+1))=C+(if c=a then 1 else if c=b then 1 else 0)):=by
      have h1:k<L.length:=by rw[ac];exact hk2
      have h2:L[k]'h1=c:=by subst hL;exact hc
      show _=_;rw[q3x L k h1,qn0,HC.out,qn6 hab,h2]
     have hC3:Aside (jh a b (L.take (k+1))<=2000000):=by
      show _<=_;unfold jh;have h1:=List.count_le_length (a:=a) (l:=L.take (k+1));have h2:=List.count_le_length (a:=b) (l:=L.take (k+1));rw[List.length_take]at h1 h2;omega
     obtain⟨ga',gb',gt',ca',cb',ct',hR,-⟩:=HB.out.ex;have hRc:=hR c;unfold rv at hRc;clear hR;have g1:(c.toNat:Int)<256:=by have:=c.toNat_lt;omega
     by_cases h1:c=a
     ·rw[qX h1]at hRc;rw[qX h1]at hstep;clear h1
      go_wp2
      go_roundg g
      case measure=>omega
      case rel=>exact⟨rfl,k+1,C+1,congrArg _ (by omega),congrArg _ (by omega),by rw[decide_eq_true (Nat.succ_pos C)],by omega,by omega,hstep,by have:=hC3.out;rw[hstep.out]at this;exact this⟩
     ·rw[qW h1]at hRc;rw[qW h1]at hstep;by_cases h2:c=b
      ·rw[qX h2]at hRc;rw[qX h2]at hstep;clear h1 h2
       go_wp2
       go_roundg g
       case measure=>omega
       case rel=>exact⟨rfl,k+1,C+1,congrArg _ (by omega),congrArg _ (by omega),by rw[decide_eq_true (Nat.succ_pos C)],by omega,by omega,hstep,by have:=hC3.out;rw[hstep.out]at this;exact this⟩
      ·rw[qW h2]at hRc;rw[qW h2]at hstep;clear h1 h2
       go_wp2
       go_roundg g
       case measure=>omega
       case rel=>exact⟨rfl,k+1,C,congrArg _ (by omega),congrArg _ (by omega),rfl,by omega,by omega,hstep,hC⟩
    ·obtain rfl:k=s.size:=by omega
     have HC2:C=Z:=by rw[← HC.out,← ac,List.take_length,HZ.out]
     subst HC2
     go_wp2
     go_meet
     case rel=>exact⟨by rw[HM.out],rfl,Below.refl _ _⟩
 case rest=>
  obtain⟨rfl,hs6,hbw⟩:=hcut;cases h0:decide (0<Z)<;>rw[h0]at hs6<;>subst hs6
  ·have hz0:=of_decide_eq_false h0;have hid:=za4 hab [a1,a2] [b1,b2] L (by rw[HZ.out];omega)
   clear h0 hz0;have HI:Aside (ej a b [a1,a2] [b1,b2] L=L):=hid;clear hid
   go_wp2
   go_ret
   exact⟨by rw[HI.out,← hL];rfl,hbw⟩
  ·clear h0;have hmk:∀w:World,(Instr.makeSlice 23 (.int .i64 (M:Int)) (.int .i64 (M:Int))).run Tryz.prog w = .ok (.slice (some ⟨w.heap.size,0,none⟩) M M) (w.alloc (.cells (madeCells #[.int .u8 0] M) 5)):=fun w=>
    run_make_row' (P:=Tryz.prog) 23 5 (.int .u8 0) 1 Tryz.underlying23 (by kernel_rfl) rfl .i64 .i64 M (by omega) (by omega) w
   go_wp2
   obtain⟨G,hG⟩:∃G,wc.heap.size=G:=⟨_,rfl⟩;have hrow0:=World.rowIs_made wc (.int .u8 0) M 5;have hGle:w.heap.size<=G:=by rw[← hG];exact hbw.size
   have hbw1:=hbw.alloc hbw.size (Obj.cells (madeCells #[.int .u8 0] M) 5);rw[hG]at hrow0 ⊢;have hLM:Aside (∀k,(ej a b [a1,a2] [b1,b2] (L.take k)).length<=M):=fun k=>by
    have h1:ej a b [a1,a2] [b1,b2] L=ej a b [a1,a2] [b1,b2] (L.take k)++ej a b [a1,a2] [b1,b2] (L.drop k):=by rw[← ql3,List.take_append_drop]
    have h2:=congrArg List.length h1;rw[qmt hab,ac,HZ.out,HM.out,qM]at h2;omega
   go_loopg [13,14] s.size (fun gk s13 s14 wx=>∃k j:Nat,s13 = .int .i64 j/\s14 = .int .i64 k/\k<=s.size/\s.size<=k+gk/\j<=M/\Aside ((ej a b [a1,a2] [b1,b2] (L.take k)).length=j)/\Aside (wx.rowIs G 5 M (bv (ej a b [a1,a2] [b1,b2] (L.take k))))/\Below w.heap.size w wx)
   case atStart=>exact⟨0,0,rfl,rfl,Nat.zero_le _,by omega,Nat.zero_le _,rfl,hrow0.congr (fun i _=>(qg5 [] i (Nat.zero_le _)).symm),hbw1⟩
   case round=>
    obtain⟨k,j,rfl,rfl,hk,hgk,hjM,HJ,hrow,hbx⟩:=hrel;clear hrow0 hbw1;by_cases hk2:k<s.size
    ·obtain⟨g,rfl⟩:∃g,gk=g+1:=⟨gk-1,by omega⟩
     have HG:Aside (s.size<=k+1+g):=by show _<=_;omega
     clear hgk hk;obtain⟨c,hc⟩:∃c,s[k]'hk2=c:=⟨_,rfl⟩;have hk1:k<L.length:=by rw[ac];exact hk2
     have hLk:L[k]'hk1=c:=by subst hL;exact hc
     have hstep:Aside (ej a b [a1,a2] [b1,b2] (L.take (k+1))=ej a b [a1,a2] [b1,b2] (L.take k)++np a b [a1,a2] [b1,b2] c):=by
      show _=_;rw[q3x L k hk1,ql3,hLk];show _++(np a b [a1,a2] [b1,b2] c++[])=_;rw[List.append_nil]
     have hfit:Aside (j+(np a b [a1,a2] [b1,b2] c).length<=M):=by
      have:=hLM.out (k+1);rw[hstep.out,qM,HJ.out]at this;exact this
     clear hLk hk1;obtain⟨ga',gb',gt',ca',cb',ct',hR,hT',ht0',ht1',ha0,ha1,hb0,hb1⟩:=(HB.out.below hbx).ex;have hRc:=hR c;unfold rv at hRc;clear hR hT' ht0' ht1';have g1:(c.toNat:Int)<256:=by have:=c.toNat_lt;omega
     unfold np at hstep hfit;by_cases h1:c=a
     ·rw[qX h1]at hRc hstep hfit;have hf2:j+2<=M:=hfit.out;clear h1;have hMj:¬M=j:=by omega
      obtain⟨ROW,hcp,hnew⟩:=zag (w:=wr.drew) (c:=ca') hrow.out.drew hf2 (by rw[World.cell?_drew];exact ha0) (by rw[World.cell?_drew];exact ha1)
      have HN:Aside (_):=hnew;have HW:Aside (wrap64 ((j:Int)+2)=(j:Int)+2):=by have:=q04 (j+2);rw[Int.natCast_add]at this;exact this
      clear hnew
      go_wp2
      go_region
      all_goals go_wp2
      go_roundg g
      case measure=>exact Nat.lt_succ_self _
      case rel=>exact⟨k+1,j+2,by first|exact vI2 j|exact(congrArg (Value.int .i64) HW.out).trans (vI2 j),o8 k,hk2,HG.out,hf2,by show _=_;rw[hstep.out,qM,HJ.out];rfl,World.rowIs.congr HN.out (fun i _=>by rw[hstep.out,← q45,HJ.out]),below_setRow hbx.drew hGle _⟩
     ·rw[qW h1]at hRc hstep hfit;by_cases h2:c=b
      ·rw[qX h2]at hRc hstep hfit;have hf2:j+2<=M:=hfit.out;clear h1 h2;have hMj:¬M=j:=by omega
       obtain⟨ROW,hcp,hnew⟩:=zag (w:=wr.drew) (c:=cb') hrow.out.drew hf2 (by rw[World.cell?_drew];exact hb0) (by rw[World.cell?_drew];exact hb1)
       have HN:Aside (_):=hnew;have HW:Aside (wrap64 ((j:Int)+2)=(j:Int)+2):=by have:=q04 (j+2);rw[Int.natCast_add]at this;exact this
       clear hnew
       go_wp2
       go_region
       all_goals go_wp2
       go_roundg g
       case measure=>exact Nat.lt_succ_self _
       case rel=>exact⟨k+1,j+2,by first|exact vI2 j|exact(congrArg (Value.int .i64) HW.out).trans (vI2 j),o8 k,hk2,HG.out,hf2,by show _=_;rw[hstep.out,qM,HJ.out];rfl,World.rowIs.congr HN.out (fun i _=>by rw[hstep.out,← q45,HJ.out]),below_setRow hbx.drew hGle _⟩
      ·rw[qW h2]at hRc hstep hfit;have hf1:j+1<=M:=hfit.out;clear h1 h2;have hcell:wr.cell? ⟨G,j,none⟩=some (bv (ej a b [a1,a2] [b1,b2] (L.take k)) j):=hrow.out.cell (by omega)
       have hfroz:wr.frozen? ⟨G,j,none⟩=false:=hrow.out.frozen j
       go_wp2
       go_roundg g
       case measure=>exact Nat.lt_succ_self _
       case rel=>exact⟨k+1,j+1,o8 j,o8 k,hk2,HG.out,hf1,by show _=_;rw[hstep.out,qM,HJ.out];rfl,World.rowIs.congr (World.rowIs.set hrow.out j _) (fun i _=>by rw[hstep.out,← zka,HJ.out]),hbx.setCell hGle _⟩
    ·obtain rfl:k=s.size:=by omega
     have HT:Aside (L.take s.size=L):=by show _=_;rw[← ac,List.take_length]
     have HE:Aside (∃l,l=ej a b [a1,a2] [b1,b2] L/\l.length=M):=⟨_,rfl,by rw[qmt hab,ac,HZ.out,HM.out]⟩
     obtain⟨E,hE,hEl⟩:=HE.out;have hcv:(convert 23 9 (.slice (some ⟨G,0,none⟩) M M)).run Tryz.prog wr = .ok (.string ⟨E.toArray⟩) wr:=by
      have h:=run_convert_bytes_back (P:=Tryz.prog) wr 23 9 5 ⟨G,0,none⟩ M E Tryz.underlying23 Tryz.underlying5 Tryz.underlying9 (fun i hi=>by
       rw[jc,wO,hrow.out.cell (by omega),HT.out,← hE]
       unfold bv;rw[List.getD_eq_getElem?_getD,List.getElem?_eq_getElem hi];rfl)
      rw[hEl]at h;exact h
     have HEq:Aside (E=ej a b [a1,a2] [b1,b2] L):=hE;clear hE hEl
     go_wp2
     go_ret
     exact⟨by rw[← HEq.out];rfl,hbx⟩
end Go.Proofs.Repl
set_option linter.unusedVariables false
namespace Go.Proofs.Repl
open Go.Shelf Go.RowKit Go.Lib Go.Sym
def zh3:(Tryz.prog.info? 9).map (fun i=>(i.zero,i.size,i.bytes))=some (some (Value.string ⟨#[]⟩),1,16):=by kernel_rfl
def mk2(w:World):(Instr.makeSlice 100 (.int .i64 0) (.int .i64 2)).run Tryz.prog w = .ok (.slice (some ⟨w.heap.size,0,none⟩) 0 2) (w.alloc (.cells #[.string ⟨#[]⟩,.string ⟨#[]⟩] 9)):=by
 obtain⟨i,hi,hzz⟩:=Option.map_eq_some_iff.1 zh3;simp only[qP]at hzz;obtain⟨hz,hs,hb⟩:=hzz;have h:=run_make (P:=Tryz.prog) w 100 9 i (.string ⟨#[]⟩) Tryz.underlying100 hi hz .i64 .i64 0 2 (by decide) (by decide) (by rw[hb];decide) (by decide)
 rw[hs,show madeCells (Value.string ⟨#[]⟩).cells (Int.toNat 2*1)=#[.string ⟨#[]⟩,.string ⟨#[]⟩] from by kernel_rfl]at h
 exact h
def zr(V:Value)(j:Nat):Value:=if j=256 then V else .slice none 0 0
def z1(b:UInt8)(g c:Nat)(V:Value)(j:Nat):Value:=if j=b.toNat then .slice (some ⟨g,0,none⟩) 2 c else zr V j
def zko:Tryz.zeroCells254.toList.length=257:=by kernel_rfl
def zf3:Tryz.zeroCells254.toList.all (fun v=>v.oneCell')=true:=by kernel_rfl
def kz:Option Value->Bool|some (.slice none n c)=>Nat.beq n 0&&Nat.beq c 0|_=>false
def zjh{v:Option Value}(h:kz v=true):v=some (.slice none 0 0):=by
 unfold kz at h;split at h
 ·simp only[qA]at h;rw[qN h.1,qN h.2]
 ·cases h
def zm6:(List.range 257).all (fun j=>kz Tryz.zeroCells254.toList[j]?)=true:=by kernel_rfl
def zym(w:World)(T:Nat):∃ROW,(storeCells ⟨w.heap.size,0,none⟩ (Tryz.zeroCells254.toList.set 256 (.slice (some ⟨T,0,none⟩) 0 2))).run Tryz.prog (w.alloc (.cells Tryz.zeroCells254 254)) = .ok () ((w.alloc (.cells Tryz.zeroCells254 254)).setRow w.heap.size ROW) /\
  ((w.alloc (.cells Tryz.zeroCells254 254)).setRow w.heap.size ROW).rowIs w.heap.size 254 257 (zr (.slice (some ⟨T,0,none⟩) 0 2)):=by
 have hnew:(w.alloc (.cells Tryz.zeroCells254 254)).heap[w.heap.size]? = some (.cells Tryz.zeroCells254 254):=heap_alloc_new w _;have hz:=zko;have h:=run_storeCells_at Tryz.prog w.heap.size 0 254 (Tryz.zeroCells254.toList.set 256 (.slice (some ⟨T,0,none⟩) 0 2)) 0 _ _ hnew (by rw[List.length_set,hz,← Array.length_toList,hz];decide) (fun v hv=>by
  rcases List.mem_or_eq_of_mem_set hv with hv|rfl
  ·exact List.all_eq_true.1 zf3 v hv
  ·rfl)
 refine⟨_,h,?_⟩;refine⟨_,setRow_heap _ _ _ _ _ _ hnew,?_,fun i hi => ?_⟩
 ·simp only[List.size_toArray,qM,List.length_set,List.length_take,List.length_drop,hz];decide
 ·rw[List.getElem?_toArray,List.length_set,hz,List.drop_eq_nil_of_le (by rw[hz];decide),List.append_nil]
  show([]++_)[i]? = _;rw[List.nil_append,List.getElem?_set];unfold zr;by_cases h2:256=i
  ·subst h2;rw[qX rfl,qX rfl,hz];rfl
  ·rw[qW h2,qW (fun e=>h2 e.symm)]
   exact zjh (List.all_eq_true.1 zm6 i (List.mem_range.2 hi))
def qbm(w:World)(x y:UInt8):Obj := .cells (bytesRow ⟨#[x,y]⟩ (grownCap w 2 0 5)) 5 ((bytesRow ⟨#[x,y]⟩ (grownCap w 2 0 5)).size,(bytesRow ⟨#[x,y]⟩ (grownCap w 2 0 5)).size+1)
def qbr(w:World):Nat:=grownCap w 2 0 5
def cv2(w:World)(x y:UInt8):(convert 9 23 (.string ⟨#[x,y]⟩)).run Tryz.prog w = .ok (.slice (some ⟨w.heap.size,0,none⟩) 2 (qbr w)) (w.drew.alloc (qbm w x y)):=
 run_bytes_of_string (P:=Tryz.prog) w 9 23 5 ⟨#[x,y]⟩ Tryz.underlying9 Tryz.underlying23 Tryz.underlying5
def zic(w W:World)(x y:UInt8):(W.alloc (qbm w x y)).cell? ⟨W.heap.size,0,none⟩=some (.int .u8 x.toNat)/\(W.alloc (qbm w x y)).cell? ⟨W.heap.size,1,none⟩=some (.int .u8 y.toNat):=by
 unfold qbm;rw[World.cell?_alloc_mark,World.cell?_alloc_mark];exact⟨bytesRow_at ⟨#[x,y]⟩ _ 0 (by show 0<2;decide),bytesRow_at ⟨#[x,y]⟩ _ 1 (by show 1<2;decide)⟩
def cv1(w:World)(x:UInt8):(convert 23 9 (.slice (some ⟨w.heap.size,0,none⟩) 1 1)).run Tryz.prog (w.alloc (.cells #[.int .u8 x.toNat] 5)) = .ok (.string ⟨#[x]⟩) (w.alloc (.cells #[.int .u8 x.toNat] 5)):=
 run_convert_bytes_back (P:=Tryz.prog) _ 23 9 5 ⟨w.heap.size,0,none⟩ 1 [x] Tryz.underlying23 Tryz.underlying5 Tryz.underlying9 (fun i hi=>by
  have:i=0:=by simpa using hi
  subst this;rw[jc];show World.cell? _ ⟨w.heap.size,0,none⟩=_;unfold World.cell?;rw[show(w.alloc (.cells #[.int .u8 (x.toNat:Int)] 5)).heap[w.heap.size]? = _ from heap_alloc_new w _]
  rfl)
def w4(wr:World)(T k n:Nat)(c:UInt8):World:=(((wr.alloc (.cells #[.int .u8 c.toNat] 5)).alloc (.cells #[.string ⟨#[c]⟩] 9)).setCell ⟨T,k,none⟩ (.string ⟨#[c]⟩)).setCell ⟨T+1,256,none⟩ (.slice (some ⟨T,0,none⟩) n 2)
def w5(wr:World)(T k n:Nat)(c x y:UInt8):World:=(((w4 wr T k n c).alloc (qbm (w4 wr T k n c) x y)).setCell ⟨T+1,c.toNat,none⟩ (.slice (some ⟨wr.heap.size+1+1,0,none⟩) 2 (qbr (w4 wr T k n c)))).drew
def q3m(wr:World)(T k n:Nat)(c x y:UInt8)(hT:T+2<=wr.heap.size){f h:Nat->Value}(hR:wr.rowIs (T+1) 254 257 f)(hTr:wr.rowIs T 9 2 h) :
  (w5 wr T k n c x y).rowIs (T+1) 254 257 (fun j=>if j=c.toNat then .slice (some ⟨wr.heap.size+1+1,0,none⟩) 2 (qbr (w4 wr T k n c)) else if j=256 then .slice (some ⟨T,0,none⟩) n 2 else f j)/\(w5 wr T k n c x y).rowIs T 9 2 (fun i=>if i=k then .string ⟨#[c]⟩ else h i) /\
   (w5 wr T k n c x y).cell? ⟨wr.heap.size+1+1,0,none⟩=some (.int .u8 x.toNat)/\(w5 wr T k n c x y).cell? ⟨wr.heap.size+1+1,1,none⟩=some (.int .u8 y.toNat)/\(∀p:Addr,T+2<=p.block->p.block<wr.heap.size->(w5 wr T k n c x y).cell? p=wr.cell? p)/\Below T wr (w5 wr T k n c x y)/\T+2<=(w5 wr T k n c x y).heap.size:=by
 unfold w5;generalize hWb:qbm (w4 wr T k n c) x y=B;generalize (Value.slice (some ⟨wr.heap.size+1+1,0,none⟩) 2 (qbr (w4 wr T k n c)))=V3;have hbc0:=fun W=>zic (w4 wr T k n c) W x y
 rw[hWb]at hbc0;unfold w4;clear hWb;generalize (Obj.cells #[.int .u8 c.toNat] 5)=o1;generalize (Obj.cells #[.string ⟨#[c]⟩] 9)=o2;generalize (Value.string ⟨#[c]⟩)=S;generalize (Value.slice (some ⟨T,0,none⟩) n 2)=V2;have hsz:((((wr.alloc o1).alloc o2).setCell ⟨T,k,none⟩ S).setCell ⟨T+1,256,none⟩ V2).heap.size=wr.heap.size+1+1:=by simp[World.setCell]
 have hbc:=hbc0 ((((wr.alloc o1).alloc o2).setCell ⟨T,k,none⟩ S).setCell ⟨T+1,256,none⟩ V2);rw[hsz]at hbc;refine⟨?_,?_,?_,?_,fun p h1 h2 => ?_,?_,?_⟩
 ·exact(((((hR.alloc o1).alloc o2).setOther (a:=⟨T,k,none⟩) (by simp) S).set 256 V2).alloc _).set _ V3
 ·exact(((((hTr.alloc o1).alloc o2).set k S).setOther (a:=⟨T+1,256,none⟩) (by simp) V2).alloc _).setOther (a:=⟨T+1,c.toNat,none⟩) (by simp) V3
 ·rw[World.cell?_drew,World.cell?_setCell_other _ _ _ _ (by intro h;have:=congrArg Addr.block h;simp at this;omega)];exact hbc.1
 ·rw[World.cell?_drew,World.cell?_setCell_other _ _ _ _ (by intro h;have:=congrArg Addr.block h;simp at this;omega)];exact hbc.2
 ·refine World.cell?_of_block (w:=wr) ?_;show(World.setCell _ _ _).heap[p.block]? = _;rw[Below.heap_setCell _ _ _ _ (by simp;omega),Below.heap_alloc _ _ _ (by rw[hsz];omega),Below.heap_setCell _ _ _ _ (by simp;omega),Below.heap_setCell _ _ _ _ (by simp;omega),Below.heap_alloc _ _ _ (by simp;omega),Below.heap_alloc _ _ _ h2]
 ·have hsz2:wr.heap.size+1+1=((((wr.alloc o1).alloc o2).setCell ⟨T,k,none⟩ S).setCell ⟨T+1,256,none⟩ V2).heap.size:=hsz.symm;exact(((((((Below.refl T wr).alloc (by omega) o1).alloc (by simp;omega) o2).setCell (p:=⟨T,k,none⟩) (wF _) S).setCell (p:=⟨T+1,256,none⟩) (Nat.le_succ _) V2).alloc (by omega) _).setCell (p:=⟨T+1,c.toNat,none⟩) (Nat.le_succ _) V3).drew
 ·show _<=(World.setCell _ _ _).heap.size;simp[World.setCell];omega
set_option maxHeartbeats 4000000 in
set_option maxRecDepth 1000000 in
def ziv(q ro cap:Nat)(a b a1 a2 b1 b2:UInt8)(w:World)(hab:a≠b)
  (hc:w.cell? ⟨q,4,none⟩=some (.slice (some ⟨ro,0,none⟩) 4 cap)) (h0:w.cell? ⟨ro,0,none⟩=some (.string ⟨#[a]⟩)) (h1:w.cell? ⟨ro,1,none⟩=some (.string ⟨#[a1,a2]⟩)) (h2:w.cell? ⟨ro,2,none⟩=some (.string ⟨#[b]⟩)) (h3:w.cell? ⟨ro,3,none⟩=some (.string ⟨#[b1,b2]⟩)) :
  Calls Tryz.prog 185 #[.pointer (some ⟨q,0,none⟩)] w fun e w'=>∃R,e = .returned (.iface 255 (.pointer (some ⟨R,0,none⟩)))/\lx R a b a1 a2 b1 b2 w'/\Below w.heap.size w w':=by
 go_enter Tryz.func185,Tryz.ntmps185
 go_wp2
 go_loopg [4,5] 2 (fun gk s4 s5 wx=>wx=w/\((s5 = .int .i64 0/\s4 = .bool true/\gk=2)\/(s5 = .int .i64 2/\s4 = .bool false/\gk=1)\/(s5 = .int .i64 4/\s4 = .bool false/\gk=0)))
 case atStart=>exact⟨rfl,Or.inl ⟨rfl,rfl,rfl⟩⟩
 case round=>
  obtain⟨rfl,⟨rfl,rfl,rfl⟩|⟨rfl,rfl,rfl⟩|⟨rfl,rfl,rfl⟩⟩:=hrel
  ·go_wp2
   go_roundg 1
   case measure=>exact Nat.lt_succ_self _
   case rel=>exact⟨rfl,Or.inr (Or.inl ⟨rfl,rfl,rfl⟩)⟩
  ·go_wp2
   go_roundg 0
   case measure=>exact Nat.lt_succ_self _
   case rel=>exact⟨rfl,Or.inr (Or.inr ⟨rfl,rfl,rfl⟩)⟩
  ·have hmk:=mk2;obtain⟨W1,hW1⟩:∃W1,wr.alloc (.cells #[.string ⟨#[]⟩,.string ⟨#[]⟩] 9)=W1:=⟨_,rfl⟩;have hz1:W1.heap.size=wr.heap.size+1:=by rw[← hW1];simp
   have hT1:W1.rowIs wr.heap.size 9 2 (fun _ => .string ⟨#[]⟩):=by rw[← hW1];exact World.rowIs_alloc wr _ _ _ (fun i hi=>by match i,hi with|0,_=>rfl|1,_=>rfl)
   have hb1:Below wr.heap.size wr W1:=by rw[← hW1];exact(Below.refl _ _).alloc (wF _) _
   obtain⟨ROW,hst,hrow⟩:=zym W1 wr.heap.size;rw[hz1]at hst hrow;have hT2:=(hT1.alloc (.cells Tryz.zeroCells254 254)).of_block (setRow_other (W1.alloc (.cells Tryz.zeroCells254 254)) (wr.heap.size+1) wr.heap.size ROW (by omega))
   have hb2:=below_setRow (hb1.alloc hb1.size (.cells Tryz.zeroCells254 254)) (Nat.le_succ wr.heap.size) ROW;obtain⟨W2,hW2⟩:∃W2,(W1.alloc (.cells Tryz.zeroCells254 254)).setRow (wr.heap.size+1) ROW=W2:=⟨_,rfl⟩;rw[hW2]at hst hrow hT2 hb2;have HB2:Aside (W2.rowIs (wr.heap.size+1) 254 257 (zr (.slice (some ⟨wr.heap.size,0,none⟩) 0 2))/\W2.rowIs wr.heap.size 9 2 (fun _ => .string ⟨#[]⟩)/\Below wr.heap.size wr W2):=⟨hrow,hT2,hb2⟩
   clear hrow hT2 hb2 hT1 hb1 hW2
   go_wp2
   obtain⟨T,hT⟩:∃T,wr.heap.size=T:=⟨_,rfl⟩;rw[hT]at HB2 ⊢;have hS:Aside (wr.heap.size=T):=hT;clear hst hmk hz1 hW1 hT
   go_loopg [12] 2 (fun gk s12 wx=>Below T wr wx/\T+2<=wx.heap.size/\(
    (s12 = .int .i64 2/\gk=2/\Aside (wx.rowIs (T+1) 254 257 (zr (.slice (some ⟨T,0,none⟩) 0 2))/\wx.rowIs T 9 2 (fun _ => .string ⟨#[]⟩))) \/
    (s12 = .int .i64 0/\gk=1/\∃gb cb,T+2<=gb/\gb<wx.heap.size/\Aside (wx.rowIs (T+1) 254 257 (fun j=>if j=b.toNat then .slice (some ⟨gb,0,none⟩) 2 cb else if j=256 then .slice (some ⟨T,0,none⟩) 1 2 else .slice none 0 0)/\wx.rowIs T 9 2 (fun i=>if i=0 then .string ⟨#[b]⟩ else .string ⟨#[]⟩)/\wx.cell? ⟨gb,0,none⟩=some (.int .u8 b1.toNat)/\wx.cell? ⟨gb,1,none⟩=some (.int .u8 b2.toNat))) \/
    (s12 = .int .i64 (-2)/\gk=0/\Aside (lx (T+1) a b a1 a2 b1 b2 wx))))
   case atStart=>exact⟨HB2.out.2.2,by have:=HB2.out.1.lt;omega,Or.inl ⟨rfl,rfl,HB2.out.1,HB2.out.2.1⟩⟩
   case round=>
    obtain⟨hbx,hsz,h⟩:=hrel;have k0:=(hbx.cell (p:=⟨ro,0,none⟩) (by rw[← hS.out];exact World.block_lt_of_cell? _ _ h0)).trans h0
    have k1:=(hbx.cell (p:=⟨ro,1,none⟩) (by rw[← hS.out];exact World.block_lt_of_cell? _ _ h1)).trans h1
    have k2:=(hbx.cell (p:=⟨ro,2,none⟩) (by rw[← hS.out];exact World.block_lt_of_cell? _ _ h2)).trans h2
    have k3:=(hbx.cell (p:=⟨ro,3,none⟩) (by rw[← hS.out];exact World.block_lt_of_cell? _ _ h3)).trans h3
    clear h0 h1 h2 h3 hc HB2;have e1:=z1d;have e2:=zis;have e3:=cv1;have e4:=cv2;rcases h with⟨rfl,rfl,hr⟩|⟨rfl,rfl,gb,cb,hgb,hgs,hr⟩|⟨rfl,rfl,hr⟩
    ·have g0:∀h,(⟨#[b]⟩:ByteArray)[0]'h=b:=fun _=>rfl
     have g1:(b.toNat:Int)<256:=by have:=b.toNat_lt;omega
     have g2:b.toNat<256:=b.toNat_lt;have hRb:wr.cell? ⟨T+1,b.toNat,none⟩=some (.slice none 0 0):=by
      rw[hr.out.1.cell (by omega)];unfold zr;rw[qW (by have:=b.toNat_lt;omega)]
     have hR2:wr.cell? ⟨T+1,256,none⟩=some (.slice (some ⟨T,0,none⟩) 0 2):=by rw[hr.out.1.cell (by decide)];rfl
     have hT0:∀o1 o2,((wr.alloc o1).alloc o2).cell? ⟨T,0,none⟩=some (.string ⟨#[]⟩):=fun o1 o2=>((hr.out.2.alloc o1).alloc o2).cell (by decide)
     have hTf:∀o1 o2,((wr.alloc o1).alloc o2).frozen? ⟨T,0,none⟩=false:=fun o1 o2=>((hr.out.2.alloc o1).alloc o2).frozen _
     have hR3:∀o1 o2,((wr.alloc o1).alloc o2).cell? ⟨T+1,256,none⟩=some (.slice (some ⟨T,0,none⟩) 0 2):=fun o1 o2=>by rw[((hr.out.1.alloc o1).alloc o2).cell (by decide)];rfl
     have hRf:∀o1 o2,((wr.alloc o1).alloc o2).frozen? ⟨T+1,256,none⟩=false:=fun o1 o2=>((hr.out.1.alloc o1).alloc o2).frozen _
     have hR4:∀o1 o2 v1 v2 o3,(((((wr.alloc o1).alloc o2).setCell ⟨T,0,none⟩ v1).setCell ⟨T+1,256,none⟩ v2).alloc o3).cell? ⟨T+1,b.toNat,none⟩=some (.slice none 0 0):=fun o1 o2 v1 v2 o3=>by
      rw[((((((hr.out.1.alloc o1).alloc o2).setOther (a:=⟨T,0,none⟩) (by simp) v1).set 256 v2)).alloc o3).cell (by omega)]
      rw[qW];unfold zr;rw[qW (by have:=b.toNat_lt;omega)]
     have hRg:∀o1 o2 v1 v2 o3,(((((wr.alloc o1).alloc o2).setCell ⟨T,0,none⟩ v1).setCell ⟨T+1,256,none⟩ v2).alloc o3).frozen? ⟨T+1,b.toNat,none⟩=false:=fun o1 o2 v1 v2 o3=>
      ((((((hr.out.1.alloc o1).alloc o2).setOther (a:=⟨T,0,none⟩) (by simp) v1).set 256 v2)).alloc o3).frozen _
     clear g2
     go_wp2
     go_roundg 1
     case measure=>exact Nat.lt_succ_self _
     case rel=>
      have HS:=q3m wr T 0 1 b b1 b2 hsz hr.out.1 hr.out.2;obtain⟨q1,q2,q3,q4,q5,q6,q7⟩:=HS;have q8:=World.block_lt_of_cell? _ _ q3;refine⟨hbx.trans q6,q7,Or.inr (Or.inl ⟨rfl,rfl,wr.heap.size+1+1,qbr (w4 wr T 0 1 b),by omega,q8,(?_:_/\_/\_/\_)⟩)⟩
      refine⟨q1.congr (fun j _ => ?_),q2,q3,q4⟩
      ·show(if _ then _ else if _ then _ else zr _ j)=_
       unfold zr;by_cases h1:j=b.toNat
       ·rw[qX h1,qX h1]
       ·by_cases h2:j=256
        ·rw[qW h1,qX h2,qW h1,qX h2]
        ·rw[qW h1,qW h2,qW h2,qW h1,qW h2]
    ·have g0:∀h,(⟨#[a]⟩:ByteArray)[0]'h=a:=fun _=>rfl
     have g1:(a.toNat:Int)<256:=by have:=a.toNat_lt;omega
     have g2:a.toNat<256:=a.toNat_lt;have hne:¬a.toNat=b.toNat:=fun h=>hab (UInt8.toNat_inj.1 h)
     have HNE:Aside (¬a.toNat=b.toNat):=hne;have hRb:wr.cell? ⟨T+1,a.toNat,none⟩=some (.slice none 0 0):=by
      rw[hr.out.1.cell (by omega)];rw[qW,qW]
     have hR2:wr.cell? ⟨T+1,256,none⟩=some (.slice (some ⟨T,0,none⟩) 1 2):=by rw[hr.out.1.cell (by decide)];rw[qW (by have:=b.toNat_lt;omega),qX rfl]
     have hT0:∀o1 o2,((wr.alloc o1).alloc o2).cell? ⟨T,1,none⟩=some (.string ⟨#[]⟩):=fun o1 o2=>((hr.out.2.1.alloc o1).alloc o2).cell (by decide)
     have hTf:∀o1 o2,((wr.alloc o1).alloc o2).frozen? ⟨T,1,none⟩=false:=fun o1 o2=>((hr.out.2.1.alloc o1).alloc o2).frozen _
     have hR3:∀o1 o2,((wr.alloc o1).alloc o2).cell? ⟨T+1,256,none⟩=some (.slice (some ⟨T,0,none⟩) 1 2):=fun o1 o2=>by rw[((hr.out.1.alloc o1).alloc o2).cell (by decide)];rw[qW (by have:=b.toNat_lt;omega),qX rfl]
     have hRf:∀o1 o2,((wr.alloc o1).alloc o2).frozen? ⟨T+1,256,none⟩=false:=fun o1 o2=>((hr.out.1.alloc o1).alloc o2).frozen _
     have hR4:∀o1 o2 v1 v2 o3,(((((wr.alloc o1).alloc o2).setCell ⟨T,1,none⟩ v1).setCell ⟨T+1,256,none⟩ v2).alloc o3).cell? ⟨T+1,a.toNat,none⟩=some (.slice none 0 0):=fun o1 o2 v1 v2 o3=>by
      rw[((((((hr.out.1.alloc o1).alloc o2).setOther (a:=⟨T,1,none⟩) (by simp) v1).set 256 v2)).alloc o3).cell (by omega)]
      rw[qW];rw[qW,qW]
     have hRg:∀o1 o2 v1 v2 o3,(((((wr.alloc o1).alloc o2).setCell ⟨T,1,none⟩ v1).setCell ⟨T+1,256,none⟩ v2).alloc o3).frozen? ⟨T+1,a.toNat,none⟩=false:=fun o1 o2 v1 v2 o3=>
      ((((((hr.out.1.alloc o1).alloc o2).setOther (a:=⟨T,1,none⟩) (by simp) v1).set 256 v2)).alloc o3).frozen _
     clear g2 hne
     go_wp2
     go_roundg 0
     case measure=>exact Nat.lt_succ_self _
     case rel=>
      have HS:=q3m wr T 1 2 a a1 a2 hsz hr.out.1 hr.out.2.1;obtain⟨q1,q2,q3,q4,q5,q6,q7⟩:=HS;have hgbR:=(q5 ⟨gb,0,none⟩ hgb hgs).trans hr.out.2.2.1;have hgbS:=(q5 ⟨gb,1,none⟩ hgb hgs).trans hr.out.2.2.2;have hB:lx (T+1) a b a1 a2 b1 b2 (w5 wr T 1 2 a a1 a2):=by
       refine⟨wr.heap.size+1+1,gb,T,qbr (w4 wr T 1 2 a),cb,2,fun d => ?_,?_,?_,?_,q3,q4,hgbR,hgbS⟩
       ·rw[q1.cell (by have:=d.toNat_lt;omega)]
        unfold rv;by_cases h1:d=a
        ·rw[qX (congrArg _ h1),qX h1]
        ·rw[qW (fun h=>h1 (UInt8.toNat_inj.1 h)),qW h1,qW (by have:=d.toNat_lt;omega)]
         by_cases h2:d=b
         ·rw[qX (congrArg _ h2),qX h2]
         ·rw[qW (fun h=>h2 (UInt8.toNat_inj.1 h)),qW h2,qW (by have:=d.toNat_lt;omega)]
       ·rw[q1.cell (by decide),qW (by have:=a.toNat_lt;omega),qX rfl]
       ·rw[q2.cell (by decide)];rfl
       ·rw[q2.cell (by decide)];rfl
      exact⟨hbx.trans q6,q7,Or.inr (Or.inr ⟨rfl,rfl,hB⟩)⟩
    ·go_wp2
     go_ret
     exact⟨T+1,rfl,hr.out,by rw[hS.out];exact hbx⟩
end Go.Proofs.Repl
namespace Go.Proofs.YtiidadfafmcdmaaGreatDoor.Once
def disable(w:World):(callFunc 249 #[]).run Tryz.prog w = .ok (.value (.tuple #[])) w:=run_call_mark0 Tryz.func249 (by kernel_rfl) (by kernel_rfl) (by kernel_rfl) .disable (by kernel_rfl) w
def enable(w:World):(callFunc 251 #[]).run Tryz.prog w = .ok (.value (.tuple #[])) w:=run_call_mark0 Tryz.func251 (by kernel_rfl) (by kernel_rfl) (by kernel_rfl) .enable (by kernel_rfl) w
def acquire(a:Addr)(w:World):(callFunc 252 #[.pointer (some a)]).run Tryz.prog w = .ok (.value (.tuple #[])) w:=run_call_marked Tryz.func252 (by kernel_rfl) (by kernel_rfl) (by kernel_rfl) .acquire (by kernel_rfl) a w
def releaseMerge(a:Addr)(w:World):(callFunc 254 #[.pointer (some a)]).run Tryz.prog w = .ok (.value (.tuple #[])) w:=run_call_marked Tryz.func254 (by kernel_rfl) (by kernel_rfl) (by kernel_rfl) .releaseMerge (by kernel_rfl) a w
set_option maxHeartbeats 1600000 in
def zg0(a:Addr)(x:Value)(u:FrameMode)(w:World)(hc:w.cell? a=some x)(hz:w.frozen? a=false) :
  CallsD Tryz.prog 208 #[.pointer (some a),.bool true] u w fun e u' w'=>u'=u/\(e = .returned (.tuple #[])/\w'=w.drew.setCell a (.int .u32 1)):=by
 have hc':w.drew.cell? a=some x:=by go_simp
 have hz':w.drew.frozen? a=false:=by go_simp
 have hst:=run_call_store (P:=Tryz.prog) Tryz.func231 (by kernel_rfl) (by kernel_rfl) (by kernel_rfl) (by kernel_rfl) (k := .u32) (y:=1) hc' hz'
 go_enter_d Tryz.func208,Tryz.ntmps208
 go_wp2
 go_region_calls
 all_goals (go_end0;exact⟨rfl,rfl⟩)
set_option maxHeartbeats 1600000 in
def zwe(a:Addr)(u:FrameMode)(w:World)(hc:w.cell? a=some (.int .i32 1))(hz:w.frozen? a=false) :
  CallsD Tryz.prog 207 #[.pointer (some a)] u w fun e u' w'=>u'=u/\(e = .returned (.tuple #[])/\w'=w.setCell a (.int .i32 0)):=by
 have hd:=disable;have he:=enable;have hr:=releaseMerge;have hadd:=run_call_add (P:=Tryz.prog) Tryz.func255 (by kernel_rfl) (by kernel_rfl) (by kernel_rfl) .i32 (by kernel_rfl) (y := -1) (s:=0) hc hz (by simp[go_sem];rfl)
 have hcv:=run_convert_to_unsafe (P:=Tryz.prog) (src:=296) (dst:=300) Tryz.underlying296 Tryz.underlying300 (by kernel_rfl) hc
 go_enter_d Tryz.func207,Tryz.ntmps207
 go_wp2
 go_end0
 go_wp2
 go_end0
 exact⟨rfl,rfl⟩
set_option maxHeartbeats 1600000 in
def zuj(a:Addr)(w:World)(hc:w.cell? a=some (.int .i32 0))(hz:w.frozen? a=false) :
  Calls Tryz.prog 206 #[.pointer (some a)] w fun e w'=>e = .returned (.tuple #[])/\w'=w.setCell a (.int .i32 1):=by
 have hd:=disable;have he:=enable;have ha:=acquire;have hcas:=run_call_cas_hit (P:=Tryz.prog) Tryz.func250 (by kernel_rfl) (by kernel_rfl) (by kernel_rfl) .i32 (by kernel_rfl) (y:=1) hc hz
 have hc':(w.setCell a (.int .i32 1)).cell? a=some (.int .i32 1):=World.cell?_setCell_same w a _ hc;have hcv:=run_convert_to_unsafe (P:=Tryz.prog) (src:=296) (dst:=300) Tryz.underlying296 Tryz.underlying300 (by kernel_rfl) hc'
 go_enter Tryz.func206,Tryz.ntmps206
 go_wp2
 first|go_end0|(simp only[Exit.inBlock,Exit.then];refine bodyPost_ret (results_none rfl _ _ _) rfl ?_)|refine bodyPost_ret (results_none rfl _ _ _) rfl ?_
 go_wp2
 go_end0
 exact⟨rfl,rfl⟩
end Go.Proofs.YtiidadfafmcdmaaGreatDoor.Once
namespace Go.Proofs.YtiidadfafmcdmaaGreatDoor.Once
set_option maxHeartbeats 1600000 in
def zlq(b:Nat)(w:World)(R:World->Prop)
  (h0:w.cell? ⟨b,0,none⟩=some (.int .u32 0)) (h1:w.cell? ⟨b,0+1,none⟩=some (.int .i32 0)) (f0:w.frozen? ⟨b,0,none⟩=false) (f1:w.frozen? ⟨b,0+1,none⟩=false)
  (hf:Calls Tryz.prog 161 #[.pointer (some ⟨b,0,none⟩)] (w.setCell ⟨b,0+1,none⟩ (.int .i32 1)) fun e w'=>e = .returned (.tuple #[])/\R w')
  (hR:∀w',R w'->w'.cell? ⟨b,0,none⟩=some (.int .u32 0)/\w'.frozen? ⟨b,0,none⟩=false/\w'.cell? ⟨b,0+1,none⟩=some (.int .i32 1)/\w'.frozen? ⟨b,0+1,none⟩=false) :
  Calls Tryz.prog 184 #[.pointer (some ⟨b,0,none⟩),.func (.func 161) #[.pointer (some ⟨b,0,none⟩)] #[]] w fun e w'=>e = .returned (.tuple #[])/\∃w1,R w1/\w'=(w1.drew.setCell ⟨b,0,none⟩ (.int .u32 1)).setCell ⟨b,0+1,none⟩ (.int .i32 0):=by
 have hl:=run_call_load (P:=Tryz.prog) Tryz.func205 (by kernel_rfl) (by kernel_rfl) (by kernel_rfl) .u32 (by kernel_rfl) (w:=w.setCell ⟨b,0+1,none⟩ (.int .i32 1)) (a:=⟨b,0,none⟩) (x:=0) ((World.cell?_setCell_other _ ⟨b,0+1,none⟩ ⟨b,0,none⟩ _ (by simp)).trans h0)
 have hnot:∀(x:Bool)(w:World),(Op.unary .not (.bool x)).run Tryz.prog w = .ok (.bool (!x)) w:=fun _ _=>rfl
 go_enter_defers Tryz.func184,Tryz.ntmps184
 go_wp2_with (first|(go_at_call 206;refine(zuj ⟨b,0+1,none⟩ _ (by go_simp) (by go_simp)).mono ?_;rintro e w' ⟨rfl,rfl⟩)|(go_at_call 183;go_in)|(go_at_call 161;refine hf.mono ?_;rintro e w' ⟨rfl,hw⟩))
 obtain⟨r0,rf0,r1,rf1⟩:=hR w' hw
 first|go_end0|skip
 first|go_wp2|skip
 refine leaves_cons (f:=208) (args:=#[.pointer (some ⟨b,0,none⟩),.bool true]) (by simp) (by simp[go_sem]) ?_
 refine(zg0 ⟨b,0,none⟩ (.int .u32 0) .returning _ r0 rf0).mono ?_;rintro e u' w'' ⟨rfl,rfl,rfl⟩
 refine leaves_cons (f:=207) (args:=#[.pointer (some ⟨b,0+1,none⟩)]) (by simp[settle]) (by simp[go_sem]) ?_
 have r1':(w'.drew.setCell ⟨b,0,none⟩ (.int .u32 1)).cell? ⟨b,0+1,none⟩=some (.int .i32 1):=by
  refine(World.cell?_setCell_other _ ⟨b,0,none⟩ ⟨b,0+1,none⟩ _ (by simp)).trans ?_
  rw[World.cell?_drew];exact r1
 refine(zwe ⟨b,0+1,none⟩ _ _ r1' (by simp[rf1])).mono ?_
 rintro e u' w'' ⟨rfl,rfl,rfl⟩
 simp[Leaves,settle,results,Tryz.results184];exact⟨w',hw,rfl⟩
set_option maxHeartbeats 1600000 in
def q8q(b:Nat)(w:World)(R:World->Prop)
  (h0:w.cell? ⟨b,0,none⟩=some (.int .u32 0)) (h1:w.cell? ⟨b,0+1,none⟩=some (.int .i32 0)) (f0:w.frozen? ⟨b,0,none⟩=false) (f1:w.frozen? ⟨b,0+1,none⟩=false)
  (hf:Calls Tryz.prog 161 #[.pointer (some ⟨b,0,none⟩)] (w.setCell ⟨b,0+1,none⟩ (.int .i32 1)) fun e w'=>e = .returned (.tuple #[])/\R w')
  (hR:∀w',R w'->w'.cell? ⟨b,0,none⟩=some (.int .u32 0)/\w'.frozen? ⟨b,0,none⟩=false/\w'.cell? ⟨b,0+1,none⟩=some (.int .i32 1)/\w'.frozen? ⟨b,0+1,none⟩=false) :
  Calls Tryz.prog 160 #[.pointer (some ⟨b,0,none⟩),.func (.func 161) #[.pointer (some ⟨b,0,none⟩)] #[]] w fun e w'=>e = .returned (.tuple #[])/\∃w1,R w1/\w'=(w1.drew.setCell ⟨b,0,none⟩ (.int .u32 1)).setCell ⟨b,0+1,none⟩ (.int .i32 0):=by
 have hl:=run_call_load (P:=Tryz.prog) Tryz.func205 (by kernel_rfl) (by kernel_rfl) (by kernel_rfl) .u32 (by kernel_rfl) h0
 have hnot:∀(x:Bool)(w:World),(Op.unary .not (.bool x)).run Tryz.prog w = .ok (.bool (!x)) w:=fun _ _=>rfl
 go_enter Tryz.func160,Tryz.ntmps160
 go_wp2_with (first|(go_at_call 183;go_in)|(go_at_call 184;refine(zlq b w R h0 h1 f0 f1 hf hR).mono ?_;rintro e w' ⟨rfl,w1,hw1,rfl⟩))
 go_end0
 exact⟨rfl,w1,hw1,rfl⟩
set_option maxHeartbeats 1600000 in
def zth(a:Addr)(d:Int)(hd:¬d=0)(fv:Value)(w:World)(h0:w.cell? a=some (.int .u32 d)) :
  Calls Tryz.prog 160 #[.pointer (some a),fv] w fun e w'=>e = .returned (.tuple #[])/\w'=w:=by
 have hl:=run_call_load (P:=Tryz.prog) Tryz.func205 (by kernel_rfl) (by kernel_rfl) (by kernel_rfl) .u32 (by kernel_rfl) h0
 have hnot:∀(x:Bool)(w:World),(Op.unary .not (.bool x)).run Tryz.prog w = .ok (.bool (!x)) w:=fun _ _=>rfl
 have hd':(d != 0)=true:=by simp[hd]
 go_enter Tryz.func160,Tryz.ntmps160
 go_wp2
 go_end0
 exact⟨rfl,rfl⟩
end Go.Proofs.YtiidadfafmcdmaaGreatDoor.Once
namespace Go.Proofs.YtiidadfafmcdmaaGreatDoor.Once
set_option maxHeartbeats 1600000 in
def replace_first(b:Nat)(s:ByteArray)(w:World)(R:World->Prop)(Q:Value->World->Prop)
  (h0:w.cell? ⟨b,0,none⟩=some (.int .u32 0)) (h1:w.cell? ⟨b,0+1,none⟩=some (.int .i32 0)) (f0:w.frozen? ⟨b,0,none⟩=false) (f1:w.frozen? ⟨b,0+1,none⟩=false)
  (hf:Calls Tryz.prog 161 #[.pointer (some ⟨b,0,none⟩)] (w.setCell ⟨b,0+1,none⟩ (.int .i32 1)) fun e w'=>e = .returned (.tuple #[])/\R w')
  (hR:∀w',R w'->w'.cell? ⟨b,0,none⟩=some (.int .u32 0)/\w'.frozen? ⟨b,0,none⟩=false/\w'.cell? ⟨b,0+1,none⟩=some (.int .i32 1)/\w'.frozen? ⟨b,0+1,none⟩=false)
  (hg:∀w',R w'->∃g,w'.cell? ⟨b,3,none⟩=some (.iface 251 (.pointer (some ⟨g,0,none⟩))) /\
   Calls Tryz.prog 317 #[.pointer (some ⟨g,0,none⟩),.string s] ((w'.drew.setCell ⟨b,0,none⟩ (.int .u32 1)).setCell ⟨b,0+1,none⟩ (.int .i32 0)) fun e w''=>∃v,e = .returned v/\Q v w'') :
  Calls Tryz.prog 127 #[.pointer (some ⟨b,0,none⟩),.string s] w fun e w'=>∃v,e = .returned v/\Q v w':=by
 have hme : ∀ (g : Nat) (w : World), (method 471 251 (.pointer (some ⟨g, 0, none⟩)) "Replace").run Tryz.prog w = .ok (317, .pointer (some ⟨g, 0, none⟩)) w := fun _ _ => by kernel_rfl
 go_enter Tryz.func127,Tryz.ntmps127
 go_wp2_with (first|(go_at_call 160;refine(q8q b w R h0 h1 f0 f1 hf hR).mono ?_;rintro e w' ⟨rfl,w1,hw1,rfl⟩;obtain⟨g,hg1,hg2⟩:=hg w1 hw1;have hc3:((w1.drew.setCell ⟨b,0,none⟩ (.int .u32 1)).setCell ⟨b,0+1,none⟩ (.int .i32 0)).cell? ⟨b,3,none⟩=some (.iface 251 (.pointer (some ⟨g,0,none⟩))):=((World.cell?_setCell_other _ ⟨b,0+1,none⟩ ⟨b,3,none⟩ _ (by simp)).trans ((World.cell?_setCell_other _ ⟨b,0,none⟩ ⟨b,3,none⟩ _ (by simp)).trans (by rw[World.cell?_drew];exact hg1))))|(go_at_call 317;refine hg2.mono ?_;rintro e w' ⟨v,rfl,hq⟩))
 go_ret
 exact⟨_,rfl,hq⟩
set_option maxHeartbeats 1600000 in
def replace_done(b g:Nat)(s:ByteArray)(w:World)(Q:Value->World->Prop)(d:Int)(hd:¬d=0)
  (h0:w.cell? ⟨b,0,none⟩=some (.int .u32 d)) (hc3:w.cell? ⟨b,3,none⟩=some (.iface 251 (.pointer (some ⟨g,0,none⟩))))
  (hg2:Calls Tryz.prog 317 #[.pointer (some ⟨g,0,none⟩),.string s] w fun e w''=>∃v,e = .returned v/\Q v w'') :
  Calls Tryz.prog 127 #[.pointer (some ⟨b,0,none⟩),.string s] w fun e w'=>∃v,e = .returned v/\Q v w':=by
 have hme : ∀ (g : Nat) (w : World), (method 471 251 (.pointer (some ⟨g, 0, none⟩)) "Replace").run Tryz.prog w = .ok (317, .pointer (some ⟨g, 0, none⟩)) w := fun _ _ => by kernel_rfl
 go_enter Tryz.func127,Tryz.ntmps127
 go_wp2_with (first|(go_at_call 160;refine(zth ⟨b,0,none⟩ d hd _ w h0).mono ?_;rintro e w' ⟨rfl,rfl⟩)|(go_at_call 317;refine hg2.mono ?_;rintro e w' ⟨v,rfl,hq⟩))
 go_ret
 exact⟨_,rfl,hq⟩
set_option maxHeartbeats 1600000 in
def replaceS_first(b:Nat)(s:ByteArray)(w:World)(R:World->Prop)(Q:Value->World->Prop)
  (h0:w.cell? ⟨b,0,none⟩=some (.int .u32 0)) (h1:w.cell? ⟨b,0+1,none⟩=some (.int .i32 0)) (f0:w.frozen? ⟨b,0,none⟩=false) (f1:w.frozen? ⟨b,0+1,none⟩=false)
  (hf:Calls Tryz.prog 161 #[.pointer (some ⟨b,0,none⟩)] (w.setCell ⟨b,0+1,none⟩ (.int .i32 1)) fun e w'=>e = .returned (.tuple #[])/\R w')
  (hR:∀w',R w'->w'.cell? ⟨b,0,none⟩=some (.int .u32 0)/\w'.frozen? ⟨b,0,none⟩=false/\w'.cell? ⟨b,0+1,none⟩=some (.int .i32 1)/\w'.frozen? ⟨b,0+1,none⟩=false)
  (hg:∀w',R w'->∃g,w'.cell? ⟨b,3,none⟩=some (.iface 255 (.pointer (some ⟨g,0,none⟩))) /\
   Calls Tryz.prog 319 #[.pointer (some ⟨g,0,none⟩),.string s] ((w'.drew.setCell ⟨b,0,none⟩ (.int .u32 1)).setCell ⟨b,0+1,none⟩ (.int .i32 0)) fun e w''=>∃v,e = .returned v/\Q v w'') :
  Calls Tryz.prog 127 #[.pointer (some ⟨b,0,none⟩),.string s] w fun e w'=>∃v,e = .returned v/\Q v w':=by
 have hme : ∀ (g : Nat) (w : World), (method 471 255 (.pointer (some ⟨g, 0, none⟩)) "Replace").run Tryz.prog w = .ok (319, .pointer (some ⟨g, 0, none⟩)) w := fun _ _ => by kernel_rfl
 go_enter Tryz.func127,Tryz.ntmps127
 go_wp2_with (first|(go_at_call 160;refine(q8q b w R h0 h1 f0 f1 hf hR).mono ?_;rintro e w' ⟨rfl,w1,hw1,rfl⟩;obtain⟨g,hg1,hg2⟩:=hg w1 hw1;have hc3:((w1.drew.setCell ⟨b,0,none⟩ (.int .u32 1)).setCell ⟨b,0+1,none⟩ (.int .i32 0)).cell? ⟨b,3,none⟩=some (.iface 255 (.pointer (some ⟨g,0,none⟩))):=((World.cell?_setCell_other _ ⟨b,0+1,none⟩ ⟨b,3,none⟩ _ (by simp)).trans ((World.cell?_setCell_other _ ⟨b,0,none⟩ ⟨b,3,none⟩ _ (by simp)).trans (by rw[World.cell?_drew];exact hg1))))|(go_at_call 319;refine hg2.mono ?_;rintro e w' ⟨v,rfl,hq⟩))
 go_ret
 exact⟨_,rfl,hq⟩
end Go.Proofs.YtiidadfafmcdmaaGreatDoor.Once
namespace Go.Sym
open Go.RowKit
variable[LC]
def ci.blocks_none{G:Gh}{hp:List (Nat×ag)}{w:World}(hm:ci G hp w){b:Nat}(h:o6 G hp b)(o:Nat):G.imm b o=none:=by
 obtain⟨n,bx,hl,ha⟩:=h;have hb:=hm.holds n bx hl
 cases bx with
 |cells cs T=>obtain⟨B,vs,h1,_,_,_,h5⟩:=hb;simp only[Gh.at,h1,qI]at ha;subst ha;exact h5 o
 |row τ l E=>
  obtain⟨a,c,h1,h2⟩:=hb;rcases h2 with⟨rfl,_⟩|⟨g,vs,fz,rfl,_,_,_,_,_,_,_,h9⟩
  ·simp only[Gh.at,h1]at ha;cases ha
  ·simp only[Gh.at,h1,qI]at ha;subst ha;exact h9 o
 |loop st pe f m fr ps tag D=>obtain⟨B,tmps,DB,h1,_,_,_,_,h5⟩:=hb;simp only[Gh.at,h1,qI]at ha;subst ha;exact h5 o
 |dfr=>obtain⟨B,h1,_,h5⟩:=hb;simp only[Gh.at,h1,qI]at ha;subst ha;exact h5 o
 |it s p=>obtain⟨B,h1,_,h5⟩:=hb;simp only[Gh.at,h1,qI]at ha;subst ha;exact h5 o
 |dead=>cases ha
def c7.gone{P:Program}{f:FuncId}{xs:List AV}{hp:List (Nat×ag)}{r:AV}
  (h:∀(w:World)(G:Gh)(vs:List Value),ci G hp w->ak xs G vs->Calls P f vs.toArray w fun e w'=>∃v,e = .returned v/\ai r G v/\ee (o6 G hp) w w'):c7 P f xs hp r []:=by
 intro w G vs hm hr;refine(h w G vs hm hr).mono ?_;rintro e w' ⟨v,rfl,hv,hs⟩
 have hblk:∀b o v,G.imm b o=some v->w'.heap[b]? = w.heap[b]? := fun b o v hv=>hs.block b (World.block_lt_of_cell? _ _ (hm.agree b o v hv)) fun hb=>by
  rw[hm.blocks_none hb o]at hv;cases hv
 refine⟨v,G,rfl,⟨⟨fun b o v hv=>by rw[World.cell?_of_block (w:=w) (hblk b o v hv)];exact hm.agree b o v hv,hm.one,fun n bx h=>(by cases h),fun n m bx bx' b h=>(by cases h),LC.mono (fun _ _ _ h=>h) hblk hm.tab⟩,hs,fun _ _ _ h=>h,fun _ _ _ h => .inl h,fun n bx b h=>(by cases h),fun _ _ _ _ h=>h,fun _ _ _ _ h=>h⟩,hv⟩
end Go.Sym
set_option linter.unusedVariables false
namespace Go.Proofs.Repl
open Go.Shelf Go.RowKit Go.Lib Go.Sym
def lx.setCell{R q n:Nat}{u:Int}{a b a1 a2 b1 b2:UInt8}{w:World}(h:lx R a b a1 a2 b1 b2 w)(hq:w.cell? ⟨q,0,none⟩=some (.int .u32 u))(v:Value):lx R a b a1 a2 b1 b2 (w.setCell ⟨q,n,none⟩ v):=by
 obtain⟨ga,gb,gt,ca,cb,ct,h1,h2,h3,h4,h5,h6,h7,h8⟩:=h.ex;have kR:¬R=q:=fun e=>by
  have:=h1 0;subst e;rw[show(0:UInt8).toNat=0 from rfl,hq]at this
  unfold rv at this;split at this
  ·cases this
  ·split at this<;>cases this
 have kt:¬gt=q:=fun e=>by subst e;rw[hq]at h3;cases h3
 have ka:¬ga=q:=fun e=>by subst e;rw[hq]at h5;cases h5
 have kb:¬gb=q:=fun e=>by subst e;rw[hq]at h7;cases h7
 have k:∀{p:Nat}{o:Nat}{x:Value},¬p=q->w.cell? ⟨p,o,none⟩=some x->(w.setCell ⟨q,n,none⟩ v).cell? ⟨p,o,none⟩=some x:=fun{p o x} hp hx=>by
  rw[World.cell?_of_block (w:=w) (Below.heap_setCell w ⟨q,n,none⟩ v p hp)];exact hx
 exact⟨ga,gb,gt,ca,cb,ct,fun c=>k kR (h1 c),k kR h2,k kt h3,k kt h4,k ka h5,k ka h6,k kb h7,k kb h8⟩
structure Once(q:Nat)(w w':World):Prop where
 bel:ee (fun k=>k=q) w w'
 c0:w'.cell? ⟨q,0,none⟩=some (.int .u32 0)
 c1:w'.cell? ⟨q,0+1,none⟩=some (.int .i32 1)
 f0:w'.frozen? ⟨q,0,none⟩=false
 f1:w'.frozen? ⟨q,0+1,none⟩=false
def zmq(S:Nat->Prop)(w:World):ee S w w.drew:=⟨rfl,rfl,rfl,wF _,fun _ _ _=>rfl⟩
def qvd{S:Nat->Prop}{w w':World}(h:Below w.heap.size w w'):ee S w w':=⟨h.os,h.tape,h.output,h.size,fun k hk _=>h.block k hk⟩
def qco{q:Nat}{w w':World}(h:ee (fun k=>k=q) w w')(n:Nat)(v:Value):ee (fun k=>k=q) w (w'.setCell ⟨q,n,none⟩ v):=
 ⟨h.os,h.tape,h.output,by simp[World.setCell];exact h.size,fun k hk hn=>(Below.heap_setCell w' ⟨q,n,none⟩ v k hn).trans (h.block k hk hn)⟩
def quz{S:Nat->Prop}{a b c:World}(h:ee S a b)(k:ee S b c):ee S a c:=
 ⟨k.os.trans h.os,k.tape.trans h.tape,k.output.trans h.output,Nat.le_trans h.size k.size,fun i hi hn=>(k.block i (Nat.lt_of_lt_of_le hi h.size) hn).trans (h.block i hi hn)⟩
set_option maxHeartbeats 1600000 in
def zbk(q ro cap:Nat)(v3:Value)(a b a1 a2 b1 b2:UInt8)(w:World)(hab:a≠b)
  (c0:w.cell? ⟨q,0,none⟩=some (.int .u32 0)) (c1:w.cell? ⟨q,0+1,none⟩=some (.int .i32 1)) (hf:∀j,w.frozen? ⟨q,j,none⟩=false) (c3:w.cell? ⟨q,3,none⟩=some v3)
  (hc:w.cell? ⟨q,4,none⟩=some (.slice (some ⟨ro,0,none⟩) 4 cap)) (h0:w.cell? ⟨ro,0,none⟩=some (.string ⟨#[a]⟩)) (h1:w.cell? ⟨ro,1,none⟩=some (.string ⟨#[a1,a2]⟩)) (h2:w.cell? ⟨ro,2,none⟩=some (.string ⟨#[b]⟩)) (h3:w.cell? ⟨ro,3,none⟩=some (.string ⟨#[b1,b2]⟩)) :
  Calls Tryz.prog 161 #[.pointer (some ⟨q,0,none⟩)] w fun e w'=>e = .returned (.tuple #[])/\Once q w w'/\∃R,w'.cell? ⟨q,3,none⟩=some (.iface 255 (.pointer (some ⟨R,0,none⟩)))/\lx R a b a1 a2 b1 b2 w':=by
 have hqlt:q<w.heap.size:=World.block_lt_of_cell? _ _ c0;have hB:=ziv q ro cap a b a1 a2 b1 b2 w hab hc h0 h1 h2 h3
 go_enter Tryz.func161,Tryz.ntmps161
 go_wp2_with (go_at_call 185;go_must (refine hB.mono ?_;rintro e W ⟨R,rfl,hBu,hbe⟩;have k0:∀{j:Nat}{v:Value},w.cell? ⟨q,j,none⟩=some v->W.cell? ⟨q,j,none⟩=some v:=(fun hj=>(hbe.cell (World.block_lt_of_cell? _ _ hj)).trans hj);have kf:∀j,W.frozen? ⟨q,j,none⟩=false:=(fun j=>(hbe.frozen (p:=⟨q,j,none⟩) hqlt).trans (hf j));have d0:=k0 c0;have d1:=k0 c1;have d3:=k0 c3;have d4:=k0 hc;clear hB hf k0))
 have d0':(W.setCell ⟨q,3,none⟩ (.iface 255 (.pointer (some ⟨R,0,none⟩)))).cell? ⟨q,0,none⟩=some (.int .u32 0):=by rw[World.cell?_setCell_other _ _ _ _ (by simp)];exact d0
 have d1':(W.setCell ⟨q,3,none⟩ (.iface 255 (.pointer (some ⟨R,0,none⟩)))).cell? ⟨q,0+1,none⟩=some (.int .i32 1):=by rw[World.cell?_setCell_other _ _ _ _ (by simp)];exact d1
 have d3':=World.cell?_setCell_same W ⟨q,3,none⟩ (.iface 255 (.pointer (some ⟨R,0,none⟩))) d3
 go_end0
 refine⟨rfl,⟨qco (qco (qvd hbe) 3 _) 4 _,?_,?_,?_,?_⟩,R,?_,(hBu.setCell d0 _).setCell d0' _⟩
 ·rw[World.cell?_setCell_other _ _ _ _ (by simp)];exact d0'
 ·rw[World.cell?_setCell_other _ _ _ _ (by simp)];exact d1'
 ·simp[kf]
 ·simp[kf]
 ·rw[World.cell?_setCell_other _ _ _ _ (by simp)];exact d3'
def replS(q ro cap:Nat)(v3:Value)(a b a1 a2 b1 b2:UInt8)(s:ByteArray)(w:World)(hab:a≠b)(hs:s.size<=1000000)
  (c0:w.cell? ⟨q,0,none⟩=some (.int .u32 0)) (c1:w.cell? ⟨q,0+1,none⟩=some (.int .i32 0)) (hf:∀j,w.frozen? ⟨q,j,none⟩=false) (c3:w.cell? ⟨q,3,none⟩=some v3)
  (hc:w.cell? ⟨q,4,none⟩=some (.slice (some ⟨ro,0,none⟩) 4 cap)) (h0:w.cell? ⟨ro,0,none⟩=some (.string ⟨#[a]⟩)) (h1:w.cell? ⟨ro,1,none⟩=some (.string ⟨#[a1,a2]⟩)) (h2:w.cell? ⟨ro,2,none⟩=some (.string ⟨#[b]⟩)) (h3:w.cell? ⟨ro,3,none⟩=some (.string ⟨#[b1,b2]⟩)) :
  Calls Tryz.prog 127 #[.pointer (some ⟨q,0,none⟩),.string s] w fun e w'=>∃v,e = .returned v/\v = .string ⟨(ej a b [a1,a2] [b1,b2] s.data.toList).toArray⟩/\ee (fun k=>k=q) w w':=by
 have hne:¬ro=q:=fun e=>by subst e;rw[c0]at h0;cases h0
 have k:∀{p:Addr}{x:Value},p≠⟨q,0+1,none⟩->w.cell? p=some x->(w.setCell ⟨q,0+1,none⟩ (.int .i32 1)).cell? p=some x:=fun{p x} hp hx=>by
  rw[World.cell?_setCell_other _ _ _ _ (fun e=>hp e.symm)];exact hx
 have kb:ee (fun k=>k=q) w (w.setCell ⟨q,0+1,none⟩ (.int .i32 1)):=qco (qvd (Below.refl _ _)) _ _
 refine Go.Proofs.YtiidadfafmcdmaaGreatDoor.Once.replaceS_first q s w (fun w'=>Once q (w.setCell ⟨q,0+1,none⟩ (.int .i32 1)) w'/\∃R,w'.cell? ⟨q,3,none⟩=some (.iface 255 (.pointer (some ⟨R,0,none⟩)))/\lx R a b a1 a2 b1 b2 w') (fun v w'=>v = .string ⟨(ej a b [a1,a2] [b1,b2] s.data.toList).toArray⟩/\ee (fun k=>k=q) w w') c0 c1 (hf _) (hf _) ?_ ?_ ?_
 ·exact zbk q ro cap v3 a b a1 a2 b1 b2 _ hab (k (by simp) c0) (World.cell?_setCell_same w _ _ c1) (fun j=>by simp[hf]) (k (by simp) c3) (k (by simp) hc) (k (by intro h;exact hne (congrArg Addr.block h)) h0) (k (by intro h;exact hne (congrArg Addr.block h)) h1) (k (by intro h;exact hne (congrArg Addr.block h)) h2) (k (by intro h;exact hne (congrArg Addr.block h)) h3)
 ·rintro w' ⟨ho,_⟩
  exact⟨ho.c0,ho.f0,ho.c1,ho.f1⟩
 ·rintro w' ⟨ho,R,hR,hBu⟩
  refine⟨R,hR,?_⟩;have e0:w'.drew.cell? ⟨q,0,none⟩=some (.int .u32 0):=by rw[World.cell?_drew];exact ho.c0
  have e1:=World.cell?_setCell_same w'.drew ⟨q,0,none⟩ (.int .u32 1) e0;have hB2:lx R a b a1 a2 b1 b2 ((w'.drew.setCell ⟨q,0,none⟩ (.int .u32 1)).setCell ⟨q,0+1,none⟩ (.int .i32 0)):=
   ((hBu.below (Below.refl _ w').drew).setCell e0 _).setCell e1 _
  have hBel:ee (fun k=>k=q) w ((w'.drew.setCell ⟨q,0,none⟩ (.int .u32 1)).setCell ⟨q,0+1,none⟩ (.int .i32 0)):=
   qco (qco (quz (quz kb ho.bel) (zmq _ _)) 0 _) (0+1) _
  refine(zxk R a b a1 a2 b1 b2 s _ hab hs hB2).mono ?_;rintro e w2 ⟨rfl,hb2⟩
  exact⟨_,rfl,rfl,quz hBel (qvd hb2)⟩
end Go.Proofs.Repl
namespace Go.Sym
open Go.Proofs Go.RowKit
variable[LC]
def zln(a b a1 a2 b1 b2:UInt8)(s:Bs)(p2:Int)(hab:a≠b)(hs:s.length<=1000000) :
  c7 Tryz.prog 127 [.ptr 0 0,.str s] [(0,.cells [.int .u32 0,.int .i32 0,.int .u32 p2,.val .nilIface,.own 1] 191),(1,.row .str [[a],[a1,a2],[b],[b1,b2]] 9)] (.str (ej a b [a1,a2] [b1,b2] s)) []:=by
 refine c7.gone fun w G vs hm hr => ?_
 match vs,hr with
 |[v1,v2],hr=>
 obtain⟨⟨q,hG,rfl⟩,r2,_⟩:=hr;have r2:v2 = .string ⟨s.toArray⟩:=r2;subst r2;obtain⟨B,cs,g1,g2,g3,g4,g5⟩:=hm.holds 0 _ rfl;rw[show G.box 0=some q from hG]at g1
 cases g1
 obtain⟨ad,c,us,o1,o2,o3,o4⟩:=(hm.holds 1 (.row .str [[a],[a1,a2],[b],[b1,b2]] 9) rfl).rowAt;obtain⟨u0,c0,x0⟩:=jv g3 (i:=0) rfl;obtain⟨u1,c1,x1⟩:=jv g3 (i:=1) rfl;obtain⟨u3,c3,x3⟩:=jv g3 (i:=3) rfl;obtain⟨u4,c4,x4⟩:=jv g3 (i:=4) rfl;have x0:u0 = .int .u32 0:=x0;have x1:u1 = .int .i32 0:=x1;obtain⟨ad',n',c',x5,x4⟩:=x4;rw[o1]at x5;cases x5
 subst x0 x1 x4;have k:∀{i:Nat}{v:Value},cs.toList[i]? = some v->w.cell? ⟨q,i,none⟩=some v:=fun{i v} h=>cell_of_heap g2 h
 obtain⟨ho1,ho2⟩:=o2;rcases ho2 with⟨_,h0,_⟩|⟨g,vr,fz,rfl,e1,_,e3,e4,e5,e6,_⟩
 ·cases h0
 ·have hus:us=[.string ⟨#[a]⟩,.string ⟨#[a1,a2]⟩,.string ⟨#[b]⟩,.string ⟨#[b1,b2]⟩]:=by
   match us,o3 with
   |[y0,y1,y2,y3],⟨z0,z1,z2,z3,_⟩=>
    have z0:y0 = .string ⟨#[a]⟩:=z0;have z1:y1 = .string ⟨#[a1,a2]⟩:=z1;have z2:y2 = .string ⟨#[b]⟩:=z2;have z3:y3 = .string ⟨#[b1,b2]⟩:=z3;rw[z0,z1,z2,z3]
  have kr:∀{i:Nat}{v:Value},us[i]? = some v->w.cell? ⟨g,i,none⟩=some v:=fun{i v} h=>by
   rw[← e6,List.getElem?_take]at h;split at h
   ·exact cell_of_heap e1 h
   ·cases h
  subst hus;refine(Go.Proofs.Repl.replS q g c u3 a b a1 a2 b1 b2 ⟨s.toArray⟩ w hab (by rw[pw];exact hs) (k c0) (k c1) (fun j=>by simp[World.frozen?,g2]) (k c3) (k c4) (kr (i:=0) rfl) (kr (i:=1) rfl) (kr (i:=2) rfl) (kr (i:=3) rfl)).mono ?_
  rintro e w' ⟨v,rfl,rfl,hb⟩
  refine⟨_,rfl,rfl,⟨hb.os,hb.tape,hb.output,hb.size,fun k hk hn=>hb.block k hk (fun e=>hn ?_)⟩⟩
  subst e;exact⟨0,_,rfl,hG⟩
def qyw:IF:=⟨.fn 127,[.ptr 0 0,.h .str],[(0,.cells [.h (.int .u32),.h (.int .i32),.h (.int .u32),.c .nilIface,.own 1] 191),(1,.row .str 9)],_,RS.mk (.h .str) []⟩
def zuv:(qyw.e ue).Sound Tryz.prog:=fun d d' r h=>by
 obtain⟨_,s,_⟩:=d;obtain⟨⟨p0,p1,p2,_,_,_⟩,on,_⟩:=d';have h:ue s p0 p1 p2 on=some r:=h;obtain⟨a,a1,a2,b,b1,b2,rfl,rfl,rfl,hab,hs,rfl⟩:=zfv h;exact⟨Tryz.call127,zln a b a1 a2 b1 b2 s p2 hab hs⟩
end Go.Sym
namespace Go.Sym
noncomputable section
open Go.Proofs
set_option linter.unusedVariables false
set_option maxRecDepth 100000
set_option maxHeartbeats 2000000
open Tryz
abbrev wT : Ty := .tree (.prod (.list (.prod .str .str)) (.list .byte))
abbrev wL : Ty := .list (.prod .str .str)
abbrev wP : Ty := .prod .str .str
abbrev wH : Pt := .h (.int .i64)
abbrev wI : Ty := .int .i64
abbrev wB : Ty := .list .byte
abbrev wN : Pt := .c .nilS
abbrev wS : Pt := .h .str
abbrev wG : Program := Tryz.prog
section
variable(fu:Nat)
def qcj:Nat->Option ((τ:Ty)×List τ.den)|1=>some ⟨.byte,qmd⟩|2=>some ⟨.prod .byte .byte,qjm⟩|3=>some ⟨.int .u64,znv⟩|_=>none
def zr7:Nat->Option (Code×Code)|0=>some (ll 0 (sub (qf f10) [0,1,0,1,1]),ll 1 (sub (qf f10) [0,1,0,1,1]))|1=>some (ll 0 (sub (qf f10) [0,1,0,1,1,1,1]),ll 1 (sub (qf f10) [0,1,0,1,1,1,1]))|2=>some (ll 0 (sub (qf f84) [0,1,0,1,1,1]),ll 1 (sub (qf f84) [0,1,0,1,1,1]))|3=>some (ll 0 (sub (qf f96) [0,1,0,1]),ll 1 (sub (qf f96) [0,1,0,1]))|_=>none
instance:LC:=⟨zr7,qcj,[0],[6,7],[(1,256),(2,32),(3,20)]⟩
def Fx.fi{P:Program}{i:IF}(x:Fx P i)(f:i.T)(l:List (SL x))(hp:ry P x.f)(hk:i.key = .fn x.f:=by exact rfl)(hb:x.fn.body=some x.body:=by exact rfl)(hfine:qmn x.cx i.args i.hp=true:=by kernel_rfl)(h:∀d d',qvm x.cx x.body i.out (SL.qs l) i.args i.hp (Pts.put i.args d) (cg i.hp d')=app f (Pts.pk i.args d (g9 i.hp d' pg)):=by intro d d';kernel_rfl):EI P i:=x.fin f l hp hk hb hfine h
def Fx.jm{P:Program}{i:IF}{x:Fx P i}{k:Nat}(f:(kl k x.ls).T i.R)(l:List (SL x))(h:∀d,run x.cx i.out (SL.qs l) 1000000 false (mn x.body (kl k x.ls).1) ((kl k x.ls).2.st d)=app f (l5 (kl k x.ls).2.fr d.1 (g9 (kl k x.ls).2.hp d.2 ())):=by intro d;kernel_rfl):PL x k:=Fx.jn f l h
def Fx.lq{P:Program}{i:IF}{x:Fx P i}{k:Nat}(g:Nat->(kl k x.ls).T i.R)(b:(kl k x.ls).T i.R->(kl k x.ls).T i.R)(l:PL x k->List (SL x))(h0:∀d:(kl k x.ls).2.den,app (g 0) (l5 (kl k x.ls).2.fr d.1 (g9 (kl k x.ls).2.hp d.2 ()))=none:=by intro _;exact rfl)(hg:∀n,g (n+1)=b (g n):=by intro _;exact rfl)(h:∀r d,run x.cx i.out (SL.qs (l r)) 1000000 false (mn x.body (kl k x.ls).1) ((kl k x.ls).2.st d)=app (b r.f) (l5 (kl k x.ls).2.fr d.1 (g9 (kl k x.ls).2.hp d.2 ())):=by intro _ d;kernel_rfl)(n:Nat):PL x k:=Fx.lp g b h0 hg l h n
def zgq:wG.follows .mixedOrders=true:=by kernel_rfl
def etys:List (Nat×Ty):=[(3,.int .i64),(5,.byte),(9,.str),(23,.list .byte),(26,.tree (.prod wL wB)),(50,.prod .str .str),(86,.prod .str .str),(149,.prod .str (.prod .str (.prod wI .bool))),(209,.prod .str (.prod wI (.prod .bool .str)))]
abbrev fx{i:IF}:=@Fx.mk inferInstance wG i etys zgq
def zbt:(quh 176 vd).Sound wG:=zj5 func176 (by kernel_rfl) (by kernel_rfl) (by kernel_rfl) (by kernel_rfl)
def zhp:(quq 237 vd).Sound wG:=zkk func237 (by kernel_rfl) (by kernel_rfl) (by kernel_rfl) (by kernel_rfl)
def x0i:IF:=⟨.fn 22,[],[],_,RS.mk (.h wT) []⟩
def x0:Fx wG x0i:=fx f22 22 func22 [] false [] am []
def x0s:=x0.fi qp2 [] call22
def x1i:IF:=⟨.fn 23,[.h wT],[],_,RS.mk (.fn 49 [.ptr 0 0]) [(0,.dat wT 26)]⟩
def x1:Fx wG x1i:=fx f23 23 func23 [] false [] am []
def x1s:=x1.fi ql1 [] call23
def x2i:IF:=⟨.fn 24,[wH,wH],[],_,RS.mk (.h (.prod wI wI)) []⟩
def x2:Fx wG x2i:=fx f24 24 func24 [] false [] am []
def jz:=x2.fi cr [] call24
def x3i:IF:=⟨.yld 0,[wH,.agg [.h wL,.h wB,.h (.list wT),wH]],[(0,.loop .ready none 10 36 [(2,.ptr 1 0),(3,.ptr 2 0)] [11,12] 0 3),(1,.dat (.prod wI wI) 30),(2,.cells [.h .bool] 4),(3,.dfr)],_,.two (RS.mk (.c (.bool false)) [(0,.loop .done (some .ret) 10 36 [(2,.ptr 1 0),(3,.ptr 2 0)] [11,12] 0 3),(1,.dat (.prod wI wI) 30),(2,.cells [.h .bool] 4),(3,.dfr)]) (RS.mk (.c (.bool true)) [(0,.loop .ready none 10 36 [(2,.ptr 1 0),(3,.ptr 2 0)] [11,12] 0 3),(1,.dat (.prod wI wI) 30),(2,.cells [.h .bool] 4),(3,.dfr)])⟩
def x3:Fx wG x3i:=fx f10 10 func10 [jz.p] false [([0,1,0,1,1],0)] (ub rfl am) []
def x3s:EI wG x3i:=x3.fiy qtt [] 0 rfl [0,1,0,1,1] (by kernel_rfl) (by kernel_rfl) fun d d'=>by kernel_rfl
def x4i:IF:=⟨.fn 50,[.h wT,wH,.ptr 0 0,.ptr 1 0,.ptr 2 0],[(0,.cells [.yld 3] 92),(1,.cells [wH] 3),(2,.cells [.fn 50 [.ptr 0 0,.ptr 1 0,.ptr 2 0]] 93),(3,.loop .ready none 10 36 [(2,.ptr 4 0),(3,.ptr 5 0)] [11,12] 0 6),(4,.dat (.prod wI wI) 30),(5,.cells [.h .bool] 4),(6,.dfr)],_,.two (RS.mk (.c (.bool false)) [(0,.cells [.yld 3] 92),(1,.cells [wH] 3),(2,.cells [.fn 50 [.ptr 0 0,.ptr 1 0,.ptr 2 0]] 93),(3,.loop .done (some .ret) 10 36 [(2,.ptr 4 0),(3,.ptr 5 0)] [11,12] 0 6),(4,.dat (.prod wI wI) 30),(5,.cells [.h .bool] 4),(6,.dfr)]) (RS.mk (.c (.bool true)) [(0,.cells [.yld 3] 92),(1,.cells [wH] 3),(2,.cells [.fn 50 [.ptr 0 0,.ptr 1 0,.ptr 2 0]] 93),(3,.loop .ready none 10 36 [(2,.ptr 4 0),(3,.ptr 5 0)] [11,12] 0 6),(4,.dat (.prod wI wI) 30),(5,.cells [.h .bool] 4),(6,.dfr)])⟩
def x4(s8:EI wG x4i)(fu:Nat):Fx wG x4i:=fx f50 50 func50 [x3s.p,s8.p] false [] am [(ao [(0,488),(0,489),(2,122),(1,61),(0,31)],⟨33,[(1,wH),(4,.ptr 2 0),(20,.h (.list wT)),(21,wH),(22,wH)],[(0,.cells [.yld 3] 92),(1,.cells [wH] 3),(2,.cells [.fn 50 [.ptr 0 0,.ptr 1 0,.ptr 2 0]] 93),(3,.loop .ready none 10 36 [(2,.ptr 4 0),(3,.ptr 5 0)] [11,12] 0 6),(4,.dat (.prod wI wI) 30),(5,.cells [.h .bool] 4),(6,.dfr)],64,[]⟩)]
def zrc(s8:EI wG x4i)(fu:Nat):Nat->(x4 s8 fu).L 0:=Fx.lq (qe8 s8.f fu) (qxb s8.f fu) (fun r0=>[r0.s])
def x4k(s8:EI wG x4i)(fu:Nat):EI wG x4i:=(x4 s8 fu).fi (qkd s8.f fu) [(zrc s8 fu fu).s] call50
def x4s:EI wG x4i := .rc (zm fu) (fun r=>qkd r fu) (fun _ _=>rfl) (fun _=>rfl) (fun s8=>x4k s8 fu) (fun _=>rfl) fu
def x5i:IF:=⟨.fn 49,[.yld 0,.ptr 1 0],[(0,.loop .ready none 10 36 [(2,.ptr 2 0),(3,.ptr 3 0)] [11,12] 0 4),(1,.dat wT 26),(2,.dat (.prod wI wI) 30),(3,.cells [.h .bool] 4),(4,.dfr)],_,.two (RS.mk (.tup []) [(0,.loop .done (some .ret) 10 36 [(2,.ptr 2 0),(3,.ptr 3 0)] [11,12] 0 4),(1,.dat wT 26),(2,.dat (.prod wI wI) 30),(3,.cells [.h .bool] 4),(4,.dfr)]) (RS.mk (.tup []) [(0,.loop .ready none 10 36 [(2,.ptr 2 0),(3,.ptr 3 0)] [11,12] 0 4),(1,.dat wT 26),(2,.dat (.prod wI wI) 30),(3,.cells [.h .bool] 4),(4,.dfr)])⟩
def x5:Fx wG x5i:=fx f49 49 func49 [(x4s fu).p] false [] am []
def x5s:=(x5 fu).fi (qlt fu) [] call49
def x6i:IF:=⟨.fn 145,[.h .byte],[],_,RS.mk (.h .bool) []⟩
def x6:Fx wG x6i:=fx f145 145 func145 [] false [] am []
def x6s:=x6.fi qis [] call145
def x7i:IF:=⟨.fn 117,[wS,.fn 145 []],[],_,RS.mk (.h .bool) []⟩
def x7(fu:Nat):Fx wG x7i:=fx f117 117 func117 [x6s.p] false [] am [(ao [(0,104),(0,105),(2,26),(1,13),(0,7)],⟨18,[(0,wS),(1,.fn 145 []),(7,wH),(8,wH)],[],64,[]⟩)]
def z05:Nat->(x7 fu).L 0:=Fx.lq (qdh fu) (qw2 fu) (fun r0=>[r0.s])
def x7s:=(x7 fu).fi (qnv fu) [(z05 fu fu).s] call117
def x8i:IF:=⟨.fn 113,[wS],[],_,RS.mk (.h .bool) []⟩
def x8:Fx wG x8i:=fx f113 113 func113 [(x7s fu).p] false [] am []
def x8s:=(x8 fu).fi (qlc fu) [] call113
def x9i:IF:=⟨.fn 225,[wH],[],_,RS.mk (.h .bool) []⟩
def x9:Fx wG x9i:=fx f225 225 func225 [] false [] am []
def x9s:=x9.fi qx3 [] call225
def zb5:IF:=⟨.fn 155,[wS],[],_,RS.mk (.tup [.arr .bool,.h .bool]) []⟩
def x10(fu:Nat):Fx wG zb5:=fx f155 155 func155 [] false [] am [(ao [(0,208),(0,209),(0,105),(2,26),(1,13),(0,7)],⟨21,[(0,wS),(2,.el 32 1),(4,wH)],[(32,.row .bool 194)],64,[]⟩)]
def zfu:Nat->(x10 fu).L 0:=Fx.lq (qwy fu) (q8d fu) (fun r0=>[r0.s])
def ql2:=(x10 fu).fi (qcc fu) [(zfu fu fu).s] call155
def zij:IF:=⟨.fn 216,[wS,.h .byte],[],_,RS.mk (wH) []⟩
def x11:Fx wG zij:=fx f216 216 func216 [⟨quq 237 vd,zhp⟩] false [] am []
def q4t:=x11.fi qeb [] call216
def zmc:IF:=⟨.fn 191,[wS,.h .byte],[],_,RS.mk (wH) []⟩
def x12:Fx wG zmc:=fx f191 191 func191 [q4t.p] false [] am []
def q0m:=x12.fi qee [] call191
def zgt:IF:=⟨.fn 228,[.h (.int .i32)],[],_,RS.mk (.h .bool) []⟩
def x13:Fx wG zgt:=fx f228 228 func228 [] false [] am []
def zue:=x13.fi qnp [] call228
def zjm:IF:=⟨.fn 203,[wS,.h (.int .i32)],[],_,RS.mk (wH) []⟩
def ow(fu:Nat):Fx wG zjm:=fx f203 203 func203 [q0m.p,zue.p] false [] am [(ao [(0,3528),(0,3529),(2,882),(1,441),(0,221),(1,3)],⟨187,[(175,.ptr 32 0)],[(32,.it)],64,[]⟩),(ao [(0,117301840),(0,117301841),(0,58650921),(2,14662730),(1,7331365),(0,3665683),(3,458210),(1,229105),(2,57276),(1,28638),(0,28639),(3,447),(1,3)],⟨187,[(0,wS),(7,wS),(8,wH),(9,wH),(12,wH)],[],64,[]⟩),(ao [(0,7331364),(0,7331365),(0,3665683),(3,458210),(1,229105),(2,57276),(1,28638),(0,28639),(3,447),(1,3)],⟨187,[(0,wS),(7,wS),(8,wH),(9,wH)],[],64,[]⟩),(ao [(0,458208),(0,458209),(0,229105),(2,57276),(1,28638),(0,28639),(3,447),(1,3)],⟨187,[(0,wS),(7,wS),(8,wH),(9,wH)],[],64,[]⟩),(ao [(0,13),(1,3)],⟨187,[(0,wS),(1,.h (.int .i32)),(160,.h .bool)],[],64,[]⟩)]
def zvp:Nat->(ow fu).L 0:=Fx.lq (qfa fu) (qxh fu) (fun r1=>[r1.s])
def zqh(r2:(ow fu).L 3):Nat->(ow fu).L 1:=Fx.lq (qog fu r2.f) (q7d fu r2.f) (fun r4=>[r4.s])
def zy9(r2:(ow fu).L 3):(ow fu).L 2:=Fx.jm (quk fu r2.f) [(zqh fu r2 fu).s]
def zwr:Nat->(ow fu).L 3:=Fx.lq (qmu fu) (qw9 fu) (fun r2=>[(zy9 fu r2).s])
def zzp:(ow fu).L 4:=Fx.jm (qek fu) [(zvp fu fu).s,(zwr fu fu).s]
def q83:=(ow fu).fi (ul fu) [(zzp fu).s] call203
def z13:IF:=⟨.fn 179,[.el 0 1,.h .byte],[(0,.row .bool 194)],_,RS.mk (.h .bool) [(0,.row .bool 194)]⟩
def x15:Fx wG z13:=fx f179 179 func179 [] false [] am []
def qqu:=x15.fi qbk [] call179
def ziy:IF:=⟨.fn 200,[wS,wS],[],_,RS.mk (wH) []⟩
def x16:Fx wG ziy:=fx f200 200 func200 [x9s.p,(ql2 fu).p,(q83 fu).p,qqu.p] false [] am [(ao [(0,470),(0,471),(0,15)],⟨55,[(0,wS),(5,.h (.int .i32))],[],64,[]⟩),(ao [(0,62864),(0,62865),(0,31433),(2,7858),(1,3929),(0,1965),(0,31)],⟨55,[(0,wS),(6,.el 32 1),(8,wH)],[(32,.row .bool 194)],64,[]⟩),(ao [(0,1000),(0,1001),(2,250),(1,125),(0,63)],⟨55,[(1,wS),(45,.ptr 32 0)],[(32,.it)],64,[]⟩),(ao [(0,124),(0,125),(0,63)],⟨55,[(0,wS),(1,wS)],[],64,[]⟩)]
def zcv:(x16 fu).L 0:=Fx.jm (qtj fu) []
def z1b:Nat->(x16 fu).L 1:=Fx.lq (qcl fu) (qw0 fu) (fun r1=>[r1.s])
def zmn:Nat->(x16 fu).L 2:=Fx.lq (qgh fu) (qsv fu) (fun r3=>[r3.s])
def zcl:(x16 fu).L 3:=Fx.jm (qhf fu) [(zmn fu fu).s]
def zd0:=(x16 fu).fi (qlx fu) [(zcv fu).s,(z1b fu fu).s,(zcl fu).s] call200
def zx1:IF:=⟨.fn 175,[wS,wS],[],_,RS.mk (.h .bool) []⟩
def x17:Fx wG zx1:=fx f175 175 func175 [(zd0 fu).p] false [] am []
def zn1:=(x17 fu).fi (qhd fu) [] call175
def zt5:IF:=⟨.fn 146,[wS],[],_,RS.mk (.h .bool) []⟩
def x18:Fx wG zt5:=fx f146 146 func146 [(zn1 fu).p] false [] am []
def zzx:=(x18 fu).fi (qp6 fu) [] call146
def zf6:IF:=⟨.fn 123,[.h .byte],[],_,RS.mk (.h .bool) []⟩
def x19:Fx wG zf6:=fx f123 123 func123 [] false [] am []
def qty:=x19.fi t7 [] call123
def zru:IF:=⟨.fn 114,[wS],[],_,RS.mk (.h .bool) []⟩
def x20:Fx wG zru:=fx f114 114 func114 [(zzx fu).p,qty.p] false [] am []
def zut:=(x20 fu).fi (qjv fu) [] call114
def zwy:IF:=⟨.fn 115,[wS,wH],[],_,RS.mk (wH) []⟩
def x21(fu:Nat):Fx wG zwy:=fx f115 115 func115 [qty.p] false [] am [(ao [(0,3729),(0,1865),(1,466),(0,467),(2,58),(1,29),(0,15)],⟨35,[(0,wS),(5,wH),(6,wH),(26,.h .bool)],[],64,[]⟩),(ao [(0,464),(0,465),(0,233),(2,58),(1,29),(0,15)],⟨35,[(0,wS),(5,wH),(6,wH)],[],64,[]⟩)]
def zcg(r0:(x21 fu).L 1):(x21 fu).L 0:=Fx.jm (qnf fu r0.f) [r0.s]
def zkh:Nat->(x21 fu).L 1:=Fx.lq (qhc fu) (qn3 fu) (fun r0=>[(zcg fu r0).s])
def zk6:=(x21 fu).fi (qmk fu) [(zkh fu fu).s] call115
def zlg:IF:=⟨.fn 26,[],[],_,RS.mk (.h (.prod wI wI)) []⟩
def x22:Fx wG zlg:=fx f26 26 func26 [] false [] am []
def nd:=x22.fi gp [] call26
def zw5:IF:=⟨.fn 80,[wS,wS],[],_,RS.mk (.tup [.own 0,.h (.prod wI wI)]) [(0,.row .str 9)]⟩
def x23:Fx wG zw5:=fx f80 80 func80 [(x8s fu).p,jz.p,(zut fu).p,(zk6 fu).p,nd.p] false [] am [(ao [(0,4072),(0,4073),(2,1018),(1,509),(0,255)],⟨70,[(5,.ptr 32 0),(8,.own 33),(55,.own 33),(56,wH),(57,wH)],[(32,.dat (.prod wI wI) 30),(33,.row .str 9)],64,[]⟩),(ao [(0,126),(0,127)],⟨70,[(5,.ptr 32 0),(6,wS),(8,.own 33)],[(32,.dat (.prod wI wI) 30),(33,.row .str 9)],64,[]⟩),(ao [(0,992),(0,993),(0,497),(2,124),(1,62),(0,63)],⟨70,[(5,.ptr 32 0),(6,wS),(7,wH),(8,.own 33)],[(32,.dat (.prod wI wI) 30),(33,.row .str 9)],64,[]⟩)]
def zny:Nat->(x23 fu).L 0:=Fx.lq (qgy fu) (qyc fu) (fun r2=>[r2.s])
def zui:(x23 fu).L 1:=Fx.jm (qg1 fu) [(zny fu fu).s]
def zrr:Nat->(x23 fu).L 2:=Fx.lq (qf0 fu) (qv1 fu) (fun r0=>[(zui fu).s,r0.s])
def qi1:=(x23 fu).fi (w7 fu) [(zrr fu fu).s] call80
def zia:IF:=⟨.fn 29,[.h (.prod wI wI)],[],_,RS.mk (.h .bool) []⟩
def x24:Fx wG zia:=fx f29 29 func29 [] false [] am []
def kw:=x24.fi e7 [] call29
def zzi:IF:=⟨.fn 51,[.h wL],[],_,RS.mk (.h (.prod wI wI)) []⟩
def x25:Fx wG zzi:=fx f51 51 func51 [jz.p,(qi1 fu).p,kw.p,nd.p] false [] am [(ao [(0,232),(0,233),(2,58),(1,29),(0,15)],⟨34,[(2,.ptr 32 0),(11,.h wL),(12,wH),(13,wH)],[(32,.dat (.prod wI wI) 30)],64,[]⟩)]
def zn5:Nat->(x25 fu).L 0:=Fx.lq (qcq fu) (qv6 fu) (fun r0=>[r0.s])
def q60:=(x25 fu).fi (qeh fu) [(zn5 fu fu).s] call51
def zfx:IF:=⟨.fn 116,[wS],[],_,RS.mk (wS) []⟩
def x26(fu:Nat):Fx wG zfx:=fx f116 116 func116 [] false [] am [(ao [(0,232),(0,233),(2,58),(1,29),(0,15)],⟨30,[(3,.own 32),(8,.own 32),(9,wH),(10,wH)],[(32,.row .byte 5)],64,[]⟩)]
def zyr:Nat->(x26 fu).L 0:=Fx.lq (qas fu) (qmi fu) (fun r0=>[r0.s])
def zid:=(x26 fu).fi (qc0 fu) [(zyr fu fu).s] call116
def zpo:IF:=⟨.fn 81,[wS,wS],[],_,RS.mk (.h .bool) []⟩
def x27:Fx wG zpo:=fx f81 81 func81 [(zid fu).p] false [] am []
def uv:=(x27 fu).fi (lr fu) [] call81
def zr1:IF:=⟨.fn 153,[wS,.h .byte],[],_,RS.mk (wS) []⟩
def x28(fu:Nat):Fx wG zr1:=fx f153 153 func153 [] false [] am [(ao [(0,96),(0,97),(0,49),(2,12),(1,6),(0,7)],⟨17,[(0,wS),(1,.h .byte)],[],64,[]⟩)]
def zcb:Nat->(x28 fu).L 0:=Fx.lq (qw8 fu) (qzw fu) (fun r0=>[r0.s])
def q3j:=(x28 fu).fi (qpu fu) [(zcb fu fu).s] call153
def zhb:IF:=⟨.fn 156,[wS,.el 0 1],[(0,.row .bool 194)],_,RS.mk (wS) [(0,.row .bool 194)]⟩
def x29(fu:Nat):Fx wG zhb:=fx f156 156 func156 [qqu.p] false [] am [(ao [(0,96),(0,97),(0,49),(2,12),(1,6),(0,7)],⟨16,[(0,wS),(1,.el 0 1)],[(0,.row .bool 194)],64,[]⟩)]
def z2e:Nat->(x29 fu).L 0:=Fx.lq (qg6 fu) (qri fu) (fun r0=>[r0.s])
def q4u:=(x29 fu).fi (qfh fu) [(z2e fu fu).s] call156
def zn3:IF:=⟨.fn 202,[wS],[],_,RS.mk (.tup [.h (.int .i32),wH]) []⟩
def xx:Fx wG zn3:=fx f202 202 func202 [] false [] am [(ao [(0,524286),(0,524287)],⟨117,[(5,.h .byte),(10,.h .byte),(11,.h .byte),(12,.h .byte)],[],64,[]⟩),(ao [(0,524285),(0,262143)],⟨117,[(5,.h .byte),(10,.h .byte),(11,.h .byte),(12,.h .byte),(98,.h .bool)],[],64,[]⟩),(ao [(0,131068),(0,131069),(0,65535)],⟨117,[(0,wS),(5,.h .byte),(8,wH),(10,.h .byte),(11,.h .byte)],[],64,[]⟩),(ao [(0,65533),(0,32767)],⟨117,[(0,wS),(5,.h .byte),(8,wH),(10,.h .byte),(11,.h .byte),(75,.h .bool)],[],64,[]⟩),(ao [(0,16380),(0,16381),(0,8191)],⟨117,[(0,wS),(5,.h .byte),(8,wH),(10,.h .byte)],[],64,[]⟩),(ao [(0,8189),(0,4095)],⟨117,[(0,wS),(5,.h .byte),(8,wH),(10,.h .byte),(57,.h .bool)],[],64,[]⟩)]
def zro:xx.L 0:=Fx.jn q2w [] fun d=>by kernel_rfl
def zli:xx.L 1:=Fx.jn qvz [(zro).s] fun d=>by kernel_rfl
def zmm:xx.L 2:=Fx.jn q1r [(zli).s] fun d=>by kernel_rfl
def zrg:xx.L 3:=Fx.jn qv9 [(zmm).s] fun d=>by kernel_rfl
def zmi:xx.L 4:=Fx.jn q66 [(zrg).s] fun d=>by kernel_rfl
def zsh:xx.L 5:=Fx.jn qtd [(zmi).s] fun d=>by kernel_rfl
def zx4:=xx.fi qvv [(zsh).s] call202
def zoa:IF:=⟨.fn 180,[wS],[],_,RS.mk (.tup [.h (.int .i32),wH]) []⟩
def x31:Fx wG zoa:=fx f180 180 func180 [zx4.p] false [] am []
def q37:=x31.fi qul [] call180
def zct:IF:=⟨.fn 181,[wS,.h (.int .i32)],[],_,RS.mk (.h .bool) []⟩
def x32:Fx wG zct:=fx f181 181 func181 [(q83 fu).p] false [] am []
def q2k:=(x32 fu).fi (qiz fu) [] call181
def zkr:IF:=⟨.fn 158,[wS,wS],[],_,RS.mk (wS) []⟩
def x33:Fx wG zkr:=fx f158 158 func158 [q37.p,(q2k fu).p] false [] am [(ao [(0,96),(0,97),(0,49),(2,12),(1,6),(0,7)],⟨23,[(0,wS),(1,wS)],[],64,[]⟩)]
def zl5:Nat->(x33 fu).L 0:=Fx.lq (qtx fu) (zah fu) (fun r0=>[r0.s])
def q67:=(x33 fu).fi (qpd fu) [(zl5 fu fu).s] call158
def zn2:IF:=⟨.fn 196,[wS,wS],[],_,RS.mk (wS) []⟩
def x34:Fx wG zn2:=fx f196 196 func196 [(q3j fu).p,(ql2 fu).p,(q4u fu).p,(q67 fu).p] false [] am [(ao [(0,60),(0,61),(0,31)],⟨37,[(0,wS),(1,wS)],[],64,[]⟩),(ao [(0,29),(0,15)],⟨37,[(0,wS),(1,wS),(21,.h .bool)],[],64,[]⟩),(ao [(0,28),(0,29),(0,15)],⟨37,[(0,wS),(1,wS)],[],64,[]⟩),(ao [(0,13),(0,7)],⟨37,[(0,wS),(1,wS),(12,.h .bool)],[],64,[]⟩)]
def zhy:(x34 fu).L 0:=Fx.jm (qv0 fu) []
def zoz:(x34 fu).L 1:=Fx.jm (qli fu) [(zhy fu).s]
def zsd:(x34 fu).L 2:=Fx.jm (qrt fu) [(zoz fu).s]
def zvi:(x34 fu).L 3:=Fx.jm (ql8 fu) [(zsd fu).s]
def zse:=(x34 fu).fi (qh2 fu) [(zvi fu).s] call196
def zgs:IF:=⟨.fn 171,[.ptr 0 0],[(0,.cells [wS] 205)],_,RS.mk (.tup []) [(0,.cells [wS] 205)]⟩
def x35:Fx wG zgs:=fx f171 171 func171 [(zse fu).p] false [] am []
def qf1:=(x35 fu).fi (uo fu) [] call171
def zci:IF:=⟨.fn 168,[.h .byte],[],_,RS.mk (.h .bool) []⟩
def x36:Fx wG zci:=fx f168 168 func168 [q0m.p] false [] am []
def qff:=x36.fi ox [] call168
def zi4:IF:=⟨.fn 167,[.ptr 0 0,.fn 168 []],[(0,.cells [wS] 205)],_,RS.mk (wS) [(0,.cells [wS] 205)]⟩
def x37:Fx wG zi4:=fx f167 167 func167 [(qf1 fu).p,qff.p] false [] am [(ao [(0,482),(1,241),(2,60),(1,30),(0,31)],⟨44,[(0,.ptr 0 0),(1,.fn 168 []),(5,wH)],[(0,.cells [wS] 205)],64,[]⟩),(ao [(0,481),(0,241),(2,60),(1,30),(0,31)],⟨44,[(0,.ptr 0 0),(1,.fn 168 []),(5,wH),(25,.h .bool)],[(0,.cells [wS] 205)],64,[]⟩),(ao [(0,480),(0,481),(0,241),(2,60),(1,30),(0,31)],⟨44,[(0,.ptr 0 0),(1,.fn 168 []),(5,wH)],[(0,.cells [wS] 205)],64,[]⟩)]
def zps(r0:(x37 fu).L 2):(x37 fu).L 0:=Fx.jm (q2i fu r0.f) [r0.s]
def zcu(r0:(x37 fu).L 2):(x37 fu).L 1:=Fx.jm (qrv fu r0.f) [(zps fu r0).s]
def zlt:Nat->(x37 fu).L 2:=Fx.lq (qf7 fu) (qzo fu) (fun r0=>[(zcu fu r0).s])
def zdg:=(x37 fu).fi (qdn fu) [(zlt fu fu).s] call167
def zy6:IF:=⟨.fn 169,[.ptr 0 0,.h .byte],[(0,.cells [wS] 205)],_,RS.mk (.h .bool) [(0,.cells [wS] 205)]⟩
def x38:Fx wG zy6:=fx f169 169 func169 [(qf1 fu).p] false [] am []
def qrh:=(x38 fu).fi (ym fu) [] call169
def ze4:IF:=⟨.fn 192,[.h .byte],[],_,RS.mk (.h .bool) []⟩
def x39:Fx wG ze4:=fx f192 192 func192 [qff.p] false [] am []
def zne:=x39.fi qem [] call192
def zqf:IF:=⟨.fn 167,[.ptr 0 0,.fn 192 []],[(0,.cells [wS] 205)],_,RS.mk (wS) [(0,.cells [wS] 205)]⟩
def x40:Fx wG zqf:=fx f167 167 func167 [(qf1 fu).p,zne.p] false [] am [(ao [(0,482),(1,241),(2,60),(1,30),(0,31)],⟨44,[(0,.ptr 0 0),(1,.fn 192 []),(5,wH)],[(0,.cells [wS] 205)],64,[]⟩),(ao [(0,481),(0,241),(2,60),(1,30),(0,31)],⟨44,[(0,.ptr 0 0),(1,.fn 192 []),(5,wH),(25,.h .bool)],[(0,.cells [wS] 205)],64,[]⟩),(ao [(0,480),(0,481),(0,241),(2,60),(1,30),(0,31)],⟨44,[(0,.ptr 0 0),(1,.fn 192 []),(5,wH)],[(0,.cells [wS] 205)],64,[]⟩)]
def zg3(r0:(x40 fu).L 2):(x40 fu).L 0:=Fx.jm (q0k fu r0.f) [r0.s]
def zv6(r0:(x40 fu).L 2):(x40 fu).L 1:=Fx.jm (qrj fu r0.f) [(zg3 fu r0).s]
def ztj:Nat->(x40 fu).L 2:=Fx.lq (qc5 fu) (q7t fu) (fun r0=>[(zv6 fu r0).s])
def zte:=(x40 fu).fi (qm5 fu) [(ztj fu fu).s] call167
def zll:IF:=⟨.fn 217,[.h .byte],[],_,RS.mk (.h .bool) []⟩
def x41:Fx wG zll:=fx f217 217 func217 [qff.p] false [] am []
def zvb:=x41.fi qcv [] call217
def zw4:IF:=⟨.fn 167,[.ptr 0 0,.fn 217 []],[(0,.cells [wS] 205)],_,RS.mk (wS) [(0,.cells [wS] 205)]⟩
def x42:Fx wG zw4:=fx f167 167 func167 [(qf1 fu).p,zvb.p] false [] am [(ao [(0,482),(1,241),(2,60),(1,30),(0,31)],⟨44,[(0,.ptr 0 0),(1,.fn 217 []),(5,wH)],[(0,.cells [wS] 205)],64,[]⟩),(ao [(0,481),(0,241),(2,60),(1,30),(0,31)],⟨44,[(0,.ptr 0 0),(1,.fn 217 []),(5,wH),(25,.h .bool)],[(0,.cells [wS] 205)],64,[]⟩),(ao [(0,480),(0,481),(0,241),(2,60),(1,30),(0,31)],⟨44,[(0,.ptr 0 0),(1,.fn 217 []),(5,wH)],[(0,.cells [wS] 205)],64,[]⟩)]
def zm3(r0:(x42 fu).L 2):(x42 fu).L 0:=Fx.jm (qzy fu r0.f) [r0.s]
def zmu(r0:(x42 fu).L 2):(x42 fu).L 1:=Fx.jm (qoe fu r0.f) [(zm3 fu r0).s]
def zef:Nat->(x42 fu).L 2:=Fx.lq (qgz fu) (q93 fu) (fun r0=>[(zmu fu r0).s])
def zgn:=(x42 fu).fi (qnt fu) [(zef fu fu).s] call167
def zw9:IF:=⟨.fn 193,[.ptr 0 0],[(0,.cells [wS] 205)],_,RS.mk (.tup [wS,.h .bool]) [(0,.cells [wS] 205)]⟩
def x43:Fx wG zw9:=fx f193 193 func193 [(qrh fu).p,(zgn fu).p] false [] am [(ao [(0,976),(0,977),(0,489),(2,122),(1,61),(0,31)],⟨66,[(0,.ptr 0 0),(4,.own 32),(5,wH)],[(0,.cells [wS] 205),(32,.row .byte 5)],64,[]⟩)]
def znc:Nat->(x43 fu).L 0:=Fx.lq (qfe fu) (qt4 fu) (fun r0=>[r0.s])
def znq:=(x43 fu).fi (qlh fu) [(znc fu fu).s] call193
def zqc:IF:=⟨.fn 201,[wS,wS],[],_,RS.mk (wH) []⟩
def x44:Fx wG zqc:=fx f201 201 func201 [q4t.p] false [] am [(ao [(0,57),(1,14),(0,15)],⟨143,[(0,wS),(1,wS),(5,wH),(16,.h .bool)],[],64,[]⟩)]
def zhg:x44.L 0:=Fx.jn qaa [] fun d=>by kernel_rfl
def znn:=x44.fi qaj [(zhg).s] call201
def zhe:IF:=⟨.fn 178,[wS,wS],[],_,RS.mk (.tup [wS,wS,.h .bool]) []⟩
def x45:Fx wG zhe:=fx f178 178 func178 [znn.p] false [] am []
def zto:=x45.fi qgj [] call178
def zq5:IF:=⟨.fn 151,[wS,wS],[],_,RS.mk (.tup [wS,wS,.h .bool]) []⟩
def x46:Fx wG zq5:=fx f151 151 func151 [zto.p] false [] am []
def q0e:=x46.fi ra [] call151
def zrh:IF:=⟨.fn 147,[wS,wS],[],_,RS.mk (.h .bool) []⟩
def x47:Fx wG zrh:=fx f147 147 func147 [] false [] am []
def qyq:=x47.fi qgr [] call147
def zd8:IF:=⟨.fn 218,[wS,wS],[],_,RS.mk (.tup [wS,.h .bool]) []⟩
def x48:Fx wG zd8:=fx f218 218 func218 [qyq.p] false [] am []
def znz:=x48.fi qx7 [] call218
def zxi:IF:=⟨.fn 194,[wS,wS],[],_,RS.mk (.tup [wS,.h .bool]) []⟩
def x49:Fx wG zxi:=fx f194 194 func194 [znz.p] false [] am []
def zzh:=x49.fi qhz [] call194
def qp3:LC.glob 3=some ⟨.int .u64,Lib.pow10Tab⟩:=rfl
def qw7:(3,20)∈LC.sizes:=by decide
def zeq:IF:=⟨.fn 170,[.ptr 0 0],[(0,.cells [wS] 205)],_,RS.mk (.tup [.h (.prod .str (.prod wI (.prod .bool .str))),.h .bool]) [(0,.cells [wS] 205)]⟩
def x50:Fx wG zeq:=fx f170 170 func170 [(zte fu).p,(qrh fu).p,(znq fu).p,q0e.p,zzh.p,⟨q03.e yl,zjj qp3 qw7 (by decide) (by decide)⟩] false [] am []
def zoo:=(x50 fu).fi (qjy fu) [] call170
def zvc:IF:=⟨.fn 197,[.h (.prod .str (.prod wI (.prod .bool .str))),.ptr 0 0],[(0,.dat (.prod .str (.prod wI (.prod .bool .str))) 209)],_,RS.mk (.h .bool) [(0,.dat (.prod .str (.prod wI (.prod .bool .str))) 209)]⟩
def x51:Fx wG zvc:=fx f197 197 func197 [(uv fu).p] false [] am []
def q58:=(x51 fu).fi (qf4 fu) [] call197
def zo6:IF:=⟨.fn 220,[.h (.list (.prod .str (.prod wI (.prod .bool .str)))),.fn 197 [.ptr 0 0]],[(0,.dat (.prod .str (.prod wI (.prod .bool .str))) 209)],_,RS.mk (wH) [(0,.dat (.prod .str (.prod wI (.prod .bool .str))) 209)]⟩
def x52:Fx wG zo6:=fx f220 220 func220 [(q58 fu).p] false [] am [(ao [(0,104),(0,105),(2,26),(1,13),(0,7)],⟨19,[(0,.h (.list (.prod .str (.prod wI (.prod .bool .str))))),(1,.fn 197 [.ptr 0 0]),(7,wH),(8,wH)],[(0,.dat (.prod .str (.prod wI (.prod .bool .str))) 209)],64,[]⟩)]
def z1q:Nat->(x52 fu).L 0:=Fx.lq (qfl fu) (qv4 fu) (fun r0=>[r0.s])
def zsi:=(x52 fu).fi (qru fu) [(z1q fu fu).s] call220
def zb8:IF:=⟨.fn 198,[.h (.list (.prod .str (.prod wI (.prod .bool .str)))),.fn 197 [.ptr 0 0]],[(0,.dat (.prod .str (.prod wI (.prod .bool .str))) 209)],_,RS.mk (.h .bool) [(0,.dat (.prod .str (.prod wI (.prod .bool .str))) 209)]⟩
def x53:Fx wG zb8:=fx f198 198 func198 [(zsi fu).p] false [] am []
def zdt:=(x53 fu).fi (qii fu) [] call198
def zlb:IF:=⟨.fn 272,[.h .byte],[],_,RS.mk (.tup [.h .byte,.h .bool]) []⟩
def x55:Fx wG zlb:=fx f272 272 func272 [] false [] am [(ao [(0,103),(1,6),(0,7)],⟨33,[(0,.h .byte),(13,.h .bool)],[],64,[]⟩),(ao [(0,25),(1,6),(0,7)],⟨33,[(0,.h .byte),(4,.h .bool)],[],64,[]⟩)]
def zrd:x55.L 0:=Fx.jn qw3 [] fun d=>by kernel_rfl
def zno:x55.L 1:=Fx.jn qs5 [(zrd).s] fun d=>by kernel_rfl
def z02:=x55.fi qa9 [(zno).s] call272
def zyd:IF:=⟨.fn 242,[wS],[],_,RS.mk (.tup [.h .byte,.h .bool]) []⟩
def x56:Fx wG zyd:=fx f242 242 func242 [z02.p] false [] am []
def zkn:=x56.fi qd6 [] call242
def zkj:IF:=⟨.fn 223,[.h (.prod .str (.prod wI (.prod .bool .str)))],[],_,RS.mk (wS) []⟩
def x57:Fx wG zkj:=fx f223 223 func223 [(uv fu).p,zkn.p] false [] am [(ao [(0,4048),(0,4049),(0,2025),(2,506),(1,253),(0,127)],⟨62,[(3,wS),(4,.own 32),(5,wH)],[(32,.row .byte 5)],64,[]⟩),(ao [(0,62),(0,63)],⟨62,[(3,wS)],[],64,[]⟩),(ao [(0,61),(0,31)],⟨62,[(3,wS),(26,.h .bool)],[],64,[]⟩)]
def zua:Nat->(x57 fu).L 0:=Fx.lq (qg3 fu) (qup fu) (fun r2=>[r2.s])
def zju:(x57 fu).L 1:=Fx.jm (qbi fu) [(zua fu fu).s]
def zo2:(x57 fu).L 2:=Fx.jm (th fu) [(zju fu).s]
def zf5:=(x57 fu).fi (qlz fu) [(zo2 fu).s] call223
def q5d:LC.glob 1=some ⟨.byte,qmd⟩:=rfl
def zaf:LC.glob 2=some ⟨.prod .byte .byte,qjm⟩:=rfl
def qyy:qci qmd=true:=by kernel_rfl
def qzh:qao qjm=true:=by kernel_rfl
def zee:IF:=⟨.fn 199,[.own 0],[(0,.row (.prod .str (.prod wI (.prod .bool .str))) 209)],_,RS.mk (.tup [.h wP,.h .bool]) [(0,.dead)]⟩
def x58:Fx wG zee:=fx f199 199 func199 [⟨q5q.e yc,zpk⟩,(zf5 fu).p,⟨zat.e v7,zwh q5d zaf qyy qzh⟩] true [] am [(ao [(0,2024),(0,2025),(2,506),(1,253),(0,127)],⟨52,[(2,.ptr 32 0),(4,.ptr 33 0),(28,.own 34),(29,wH),(30,wH)],[(0,.dead),(32,.dat wP 86),(33,.dat wP 86),(34,.row (.prod .str (.prod wI (.prod .bool .str))) 209)],64,[]⟩)]
def zmb:Nat->(x58 fu).L 0:=Fx.lq (qf6 fu) (qwp fu) (fun r0=>[r0.s])
def zuu:=(x58 fu).fi (qd9 fu) [(zmb fu fu).s] call199
def zns:IF:=⟨.fn 172,[.h (.list (.prod .str (.prod wI (.prod .bool .str))))],[],_,RS.mk (.tup [.own 0,.h .bool]) [(0,.row wP 86)]⟩
def vx:Fx wG zns:=fx f172 172 func172 [(zdt fu).p,(q58 fu).p,(zuu fu).p] false [] am [(ao [(0,3827623),(2,239226),(1,119613),(0,59807),(1,934),(0,935),(2,58),(1,29),(0,15)],⟨56,[(0,.h (.list (.prod .str (.prod wI (.prod .bool .str))))),(4,.own 34),(6,.ptr 32 0),(7,.fn 197 [.ptr 32 0]),(8,.own 33),(13,.h (.list (.prod .str (.prod wI (.prod .bool .str))))),(14,wH),(15,wH),(26,.h (.list (.prod .str (.prod wI (.prod .bool .str))))),(27,wH),(28,wH)],[(32,.dat (.prod .str (.prod wI (.prod .bool .str))) 209),(33,.row (.prod .str (.prod wI (.prod .bool .str))) 209),(34,.row wP 86)],64,[]⟩),(ao [(0,956904),(0,956905),(2,239226),(1,119613),(0,59807),(1,934),(0,935),(2,58),(1,29),(0,15)],⟨56,[(0,.h (.list (.prod .str (.prod wI (.prod .bool .str))))),(4,.own 33),(6,.ptr 32 0),(7,.fn 197 [.ptr 32 0]),(8,.own 34),(13,.h (.list (.prod .str (.prod wI (.prod .bool .str))))),(14,wH),(15,wH),(26,.h (.list (.prod .str (.prod wI (.prod .bool .str))))),(27,wH),(28,wH)],[(32,.dat (.prod .str (.prod wI (.prod .bool .str))) 209),(33,.row wP 86),(34,.row (.prod .str (.prod wI (.prod .bool .str))) 209)],64,[]⟩),(ao [(0,232),(0,233),(2,58),(1,29),(0,15)],⟨56,[(0,.h (.list (.prod .str (.prod wI (.prod .bool .str))))),(4,.own 32),(13,.h (.list (.prod .str (.prod wI (.prod .bool .str))))),(14,wH),(15,wH)],[(32,.row wP 86)],64,[]⟩)]
def zeb(r0:(vx fu).L 2)(r1:(vx fu).L 1):(vx fu).L 0:=Fx.jm (qfk fu r0.f r1.f) [r1.s]
def zlr(r0:(vx fu).L 2):Nat->(vx fu).L 1:=Fx.lq (qdr fu r0.f) (qr0 fu r0.f) (fun r1=>[(zeb fu r0 r1).s,r0.s])
def zin:Nat->(vx fu).L 2:=Fx.lq (qaq fu) (qt6 fu) (fun r0=>[r0.s,(zlr fu r0 fu).s])
def zqp:=(vx fu).fi (qcd fu) [(zin fu fu).s] call172
def zvs:IF:=⟨.fn 133,[wS],[],_,.two (RS.mk (.tup [.agg [wS,wS,wN],.h .bool]) []) (RS.mk (.tup [.agg [wS,wS,.own 0],.h .bool]) [(0,.row wP 86)])⟩
def x60:Fx wG zvs:=fx f133 133 func133 [(zdg fu).p,(qrh fu).p,(zoo fu).p,(qf1 fu).p,(zqp fu).p] false [] am [(ao [(0,16352),(0,16353),(0,8177),(2,2044),(1,1022),(0,1023)],⟨66,[(2,.ptr 32 0),(4,.ptr 33 0),(5,.ptr 34 0),(7,.own 35)],[(32,.cells [wS,wS,wN] 83),(33,.cells [wS] 205),(34,.cells [wS,wS,wN] 83),(35,.row (.prod .str (.prod wI (.prod .bool .str))) 209)],64,[]⟩),(ao [(0,510),(0,511)],⟨66,[(2,.ptr 32 0),(4,.ptr 33 0),(5,.ptr 34 0)],[(32,.cells [wS,wS,wN] 83),(33,.cells [wS] 205),(34,.cells [wS,wS,wN] 83)],64,[]⟩),(ao [(0,509),(0,255)],⟨66,[(2,.ptr 32 0),(4,.ptr 33 0),(5,.ptr 34 0),(33,.h .bool)],[(32,.cells [wS,wS,wN] 83),(33,.cells [wS] 205),(34,.cells [wS,wS,wN] 83)],64,[]⟩)]
def zg8:Nat->(x60 fu).L 0:=Fx.lq (qfx fu) (qvg fu) (fun r2=>[r2.s])
def zxu:(x60 fu).L 1:=Fx.jm (qrd fu) [(zg8 fu fu).s]
def z1v:(x60 fu).L 2:=Fx.jm (t6 fu) [(zxu fu).s]
def zt1:=(x60 fu).fi (ql6 fu) [(z1v fu).s] call133
def zcs:IF:=⟨.fn 117,[wS,.fn 168 []],[],_,RS.mk (.h .bool) []⟩
def x61(fu:Nat):Fx wG zcs:=fx f117 117 func117 [qff.p] false [] am [(ao [(0,104),(0,105),(2,26),(1,13),(0,7)],⟨18,[(0,wS),(1,.fn 168 []),(7,wH),(8,wH)],[],64,[]⟩)]
def z1r:Nat->(x61 fu).L 0:=Fx.lq (qdu fu) (za0 fu) (fun r0=>[r0.s])
def zyt:=(x61 fu).fi (qin fu) [(z1r fu fu).s] call117
def zw7:IF:=⟨.fn 134,[wS],[],_,RS.mk (.h .bool) []⟩
def x62:Fx wG zw7:=fx f134 134 func134 [(zyt fu).p] false [] am []
def q8a:=(x62 fu).fi (vp fu) [] call134
def zod:IF:=⟨.fn 136,[.h wP,.ptr 0 0],[(0,.dat wP 86)],_,RS.mk (.h .bool) [(0,.dat wP 86)]⟩
def x63:Fx wG zod:=fx f136 136 func136 [(uv fu).p] false [] am []
def zzo:=(x63 fu).fi (qwi fu) [] call136
def zi9:IF:=⟨.fn 121,[.h wL,.fn 136 [.ptr 0 0]],[(0,.dat wP 86)],_,RS.mk (wH) [(0,.dat wP 86)]⟩
def x64:Fx wG zi9:=fx f121 121 func121 [(zzo fu).p] false [] am [(ao [(0,104),(0,105),(2,26),(1,13),(0,7)],⟨19,[(0,.h wL),(1,.fn 136 [.ptr 0 0]),(7,wH),(8,wH)],[(0,.dat wP 86)],64,[]⟩)]
def zxs:Nat->(x64 fu).L 0:=Fx.lq (qc8 fu) (qvt fu) (fun r0=>[r0.s])
def zsp:=(x64 fu).fi (qqv fu) [(zxs fu fu).s] call121
def zlp:IF:=⟨.fn 135,[.h wL,.fn 136 [.ptr 0 0]],[(0,.dat wP 86)],_,RS.mk (.h .bool) [(0,.dat wP 86)]⟩
def x65:Fx wG zlp:=fx f135 135 func135 [(zsp fu).p] false [] am []
def zlu:=(x65 fu).fi (qm7 fu) [] call135
def zrs:IF:=⟨.fn 100,[.h (.prod .str (.prod .str wL))],[],_,RS.mk (.h (.prod wI wI)) []⟩
def zo:Fx wG zrs:=fx f100 100 func100 [(q8a fu).p,jz.p,nd.p,(zlu fu).p,⟨q5y.e wo,z08 q5d zaf qyy qzh⟩] false [] am [(ao [(0,31333),(1,7833),(1,1958),(0,1959),(2,122),(1,61),(0,31)],⟨67,[(1,.ptr 32 0),(2,.ptr 33 0),(3,wH),(4,.ptr 34 0),(22,.h wL),(23,wH),(24,wH),(29,.h .bool)],[(32,.dat (.prod .str (.prod .str wL)) 83),(33,.dat (.prod wI wI) 30),(34,.dat wP 86)],64,[]⟩),(ao [(0,488),(0,489),(2,122),(1,61),(0,31)],⟨67,[(1,.ptr 32 0),(2,.ptr 33 0),(22,.h wL),(23,wH),(24,wH)],[(32,.dat (.prod .str (.prod .str wL)) 83),(33,.dat (.prod wI wI) 30)],64,[]⟩),(ao [(0,28),(0,29),(0,15)],⟨67,[(1,.ptr 32 0),(2,.ptr 33 0)],[(32,.dat (.prod .str (.prod .str wL)) 83),(33,.dat (.prod wI wI) 30)],64,[]⟩),(ao [(0,13),(0,7)],⟨67,[(1,.ptr 32 0),(2,.ptr 33 0),(14,.h .bool)],[(32,.dat (.prod .str (.prod .str wL)) 83),(33,.dat (.prod wI wI) 30)],64,[]⟩)]
def zy5(r2:(zo fu).L 1):(zo fu).L 0:=Fx.jm (yq fu r2.f) [r2.s]
def zie:Nat->(zo fu).L 1:=Fx.lq (zf fu) (qp8 fu) (fun r2=>[(zy5 fu r2).s])
def zoy:(zo fu).L 2:=Fx.jm (qqh fu) [(zie fu fu).s]
def zb0:(zo fu).L 3:=Fx.jm (qau fu) [(zoy fu).s]
def qxr:=(zo fu).fi (rp fu) [(zb0 fu).s] call100
def zpr:IF:=⟨.fn 99,[wS],[],_,.two (RS.mk (.tup [.agg [wS,wS,wN],.agg [wH,wH]]) []) (RS.mk (.tup [.agg [wS,wS,.own 0],.agg [wH,wH]]) [(0,.row wP 86)])⟩
def x67:Fx wG zpr:=fx f99 99 func99 [jz.p,(zt1 fu).p,(qxr fu).p,kw.p,nd.p] false [] am []
def zsz:=(x67 fu).fi (qcr fu) [] call99
def zj7:IF:=⟨.fn 70,[.h wL],[],_,.two (RS.mk (.tup [.agg [wS,wS,wN],wH,.h .bool]) []) (RS.mk (.tup [.agg [wS,wS,.own 0],wH,.h .bool]) [(0,.row wP 86)])⟩
def x68:Fx wG zj7:=fx f70 70 func70 [(uv fu).p,(zsz fu).p,kw.p] false [] am [(ao [(0,935),(2,58),(1,29),(0,15)],⟨42,[(0,.h wL),(2,.ptr 32 0),(5,wH),(10,.h wL),(11,wH),(12,wH)],[(32,.cells [wS,wS,wN] 83)],64,[]⟩),(ao [(0,232),(0,233),(2,58),(1,29),(0,15)],⟨42,[(0,.h wL),(2,.ptr 32 0),(5,wH),(10,.h wL),(11,wH),(12,wH)],[(32,.cells [wS,wS,wN] 83)],64,[]⟩)]
def zfy(r0:(x68 fu).L 1):(x68 fu).L 0:=Fx.jm (qbh fu r0.f) [r0.s]
def zc4:Nat->(x68 fu).L 1:=Fx.lq (ut fu) (qil fu) (fun r0=>[(zfy fu r0).s])
def qjl:=(x68 fu).fi (ye fu) [(zc4 fu fu).s] call70
def zwu:IF:=⟨.fn 82,[.h (.prod .str (.prod .str wL)),wS],[],_,RS.mk (.tup [wS,.h .bool,.h (.prod wI wI)]) []⟩
def x69:Fx wG zwu:=fx f82 82 func82 [(qxr fu).p,kw.p,(uv fu).p,nd.p] false [] am [(ao [(0,232),(0,233),(2,58),(1,29),(0,15)],⟨31,[(1,wS),(6,.ptr 32 0),(16,.h wL),(17,wH),(18,wH)],[(32,.dat (.prod wI wI) 30)],64,[]⟩)]
def zh1:Nat->(x69 fu).L 0:=Fx.lq (qdl fu) (qp7 fu) (fun r0=>[r0.s])
def qz9:=(x69 fu).fi (qgt fu) [(zh1 fu fu).s] call82
def zeh:IF:=⟨.fn 138,[.h .byte],[],_,RS.mk (.h .bool) []⟩
def x70:Fx wG zeh:=fx f138 138 func138 [] false [] am []
def z1z:=x70.fi qg2 [] call138
def zt8:IF:=⟨.fn 117,[wS,.fn 138 []],[],_,RS.mk (.h .bool) []⟩
def x71(fu:Nat):Fx wG zt8:=fx f117 117 func117 [z1z.p] false [] am [(ao [(0,104),(0,105),(2,26),(1,13),(0,7)],⟨18,[(0,wS),(1,.fn 138 []),(7,wH),(8,wH)],[],64,[]⟩)]
def zkb:Nat->(x71 fu).L 0:=Fx.lq (qec fu) (q4s fu) (fun r0=>[r0.s])
def zc3:=(x71 fu).fi (qki fu) [(zkb fu fu).s] call117
def zkw:IF:=⟨.fn 125,[.own 0],[(0,.row .str 9)],_,RS.mk (.ptr 1 0) [(0,.dead),(1,.cells [.h (.int .u32),.h (.int .i32),.h (.int .u32),.c .nilIface,.own 2] 191),(2,.row .str 9)]⟩
def x72:Fx wG zkw:=fx f125 125 func125 [] true [] am []
def q0i:=x72.fi qf8 [] call125
def z0g:IF:=⟨.fn 185,[.ptr 0 0],[(0,.cells [.h (.int .u32),.h (.int .i32),.h (.int .u32),.c .nilIface,.own 1] 191),(1,.row .str 9)],_,RS.mk (.iel 251 2 1) [(0,.cells [.h (.int .u32),.h (.int .i32),.h (.int .u32),.c .nilIface,.own 3] 191),(1,.dead),(2,.row .byte 250),(3,.row .str 9)]⟩
def tc(fu:Nat):Fx wG z0g:=fx f185 185 func185 [] false [] am [(ao [(0,2003),(2,250),(1,125),(0,63)],⟨132,[(3,.own 32),(4,.h .bool),(5,wH)],[(0,.cells [.h (.int .u32),.h (.int .i32),.h (.int .u32),.c .nilIface,.own 32] 191),(1,.dead),(32,.row .str 9)],64,[]⟩),(ao [(0,129744),(0,129745),(0,64873),(2,16218),(1,8109),(0,4055),(0,127)],⟨132,[(3,.own 32),(6,.el 33 1),(8,wH)],[(0,.cells [.h (.int .u32),.h (.int .i32),.h (.int .u32),.c .nilIface,.own 32] 191),(1,.dead),(32,.row .str 9),(33,.row .byte 250)],64,[]⟩),(ao [(0,32424),(0,32425),(2,8106),(1,4053),(0,2027),(0,127)],⟨132,[(3,.own 32),(6,.el 33 1),(61,wH)],[(0,.cells [.h (.int .u32),.h (.int .i32),.h (.int .u32),.c .nilIface,.own 32] 191),(1,.dead),(32,.row .str 9),(33,.row .byte 250)],64,[]⟩),(ao [(0,16336),(0,16337),(0,8169),(2,2042),(1,1021),(0,511)],⟨132,[(3,.own 32),(11,.ptr 33 0),(12,wH)],[(0,.cells [.h (.int .u32),.h (.int .i32),.h (.int .u32),.c .nilIface,.own 32] 191),(1,.dead),(32,.row .str 9),(33,.cells [wN,wN,wN,wN,wN,wN,wN,wN,wN,wN,wN,wN,wN,wN,wN,wN,wN,wN,wN,wN,wN,wN,wN,wN,wN,wN,wN,wN,wN,wN,wN,wN,wN,wN,wN,wN,wN,wN,wN,wN,wN,wN,wN,wN,wN,wN,wN,wN,wN,wN,wN,wN,wN,wN,wN,wN,wN,wN,wN,wN,wN,wN,wN,wN,wN,wN,wN,wN,wN,wN,wN,wN,wN,wN,wN,wN,wN,wN,wN,wN,wN,wN,wN,wN,wN,wN,wN,wN,wN,wN,wN,wN,wN,wN,wN,wN,wN,wN,wN,wN,wN,wN,wN,wN,wN,wN,wN,wN,wN,wN,wN,wN,wN,wN,wN,wN,wN,wN,wN,wN,wN,wN,wN,wN,wN,wN,wN,wN,wN,wN,wN,wN,wN,wN,wN,wN,wN,wN,wN,wN,wN,wN,wN,wN,wN,wN,wN,wN,wN,wN,wN,wN,wN,wN,wN,wN,wN,wN,wN,wN,wN,wN,wN,wN,wN,wN,wN,wN,wN,wN,wN,wN,wN,wN,wN,wN,wN,wN,wN,wN,wN,wN,wN,wN,wN,wN,wN,wN,wN,wN,wN,wN,wN,wN,wN,wN,wN,wN,wN,wN,wN,wN,wN,wN,wN,wN,wN,wN,wN,wN,wN,wN,wN,wN,wN,wN,wN,wN,wN,wN,wN,wN,wN,wN,wN,wN,wN,wN,wN,wN,wN,wN,wN,wN,wN,wN,wN,wN,wN,wN,wN,wN,wN,wN,wN,wN,wN,wN,wN,wN,wN,wN,wN,wN,wN,wN,.own 34] 254),(34,.row .str 9)],64,[]⟩),(ao [(0,2000),(0,2001),(0,1001),(2,250),(1,125),(0,63)],⟨132,[(3,.own 32),(4,.h .bool),(5,wH)],[(0,.cells [.h (.int .u32),.h (.int .i32),.h (.int .u32),.c .nilIface,.own 32] 191),(1,.dead),(32,.row .str 9)],64,[]⟩),(ao [(0,30),(0,31)],⟨132,[(3,.own 32)],[(0,.cells [.h (.int .u32),.h (.int .i32),.h (.int .u32),.c .nilIface,.own 32] 191),(1,.dead),(32,.row .str 9)],64,[]⟩),(ao [(0,29),(0,15)],⟨132,[(3,.own 32),(28,.h .bool)],[(0,.cells [.h (.int .u32),.h (.int .i32),.h (.int .u32),.c .nilIface,.own 32] 191),(1,.dead),(32,.row .str 9)],64,[]⟩)]
def zg2(r2:(tc fu).L 4):(tc fu).L 0:=Fx.jm (qu1 fu r2.f) [r2.s]
def z0v:Nat->(tc fu).L 1:=Fx.lq (qpg fu) (q8r fu) (fun r6=>[r6.s])
def zir:Nat->(tc fu).L 2:=Fx.lq (qya fu) (q9r fu) (fun r4=>[r4.s,(z0v fu fu).s])
def zha:Nat->(tc fu).L 3:=Fx.lq (qwt fu) (q9b fu) (fun r5=>[])
def z0l:Nat->(tc fu).L 4:=Fx.lq (qpf fu) (q1v fu) (fun r2=>[(zg2 fu r2).s,(zir fu fu).s,(zha fu fu).s])
def zyj:(tc fu).L 5:=Fx.jm (q4d fu) [(z0l fu fu).s]
def zsu:(tc fu).L 6:=Fx.jm (qqs fu) [(zyj fu).s]
def zby:=(tc fu).fi (q82 fu) [(zsu fu).s] call185
end
end
noncomputable section
open Go.Proofs
set_option linter.unusedVariables false
set_option maxRecDepth 100000
set_option maxHeartbeats 2000000
open Tryz
section
variable(fu:Nat)
def q9o:IF:=⟨.fn 161,[.ptr 0 0],[(0,.cells [.h (.int .u32),.h (.int .i32),.h (.int .u32),.c .nilIface,.own 1] 191),(1,.row .str 9)],_,RS.mk (.tup []) [(0,.cells [.h (.int .u32),.h (.int .i32),.h (.int .u32),.iel 251 2 1,.own 3] 191),(1,.dead),(2,.row .byte 250),(3,.row .str 9)]⟩
def x74:Fx wG q9o:=fx f161 161 func161 [(zby fu).p] false [] am []
def z10:=(x74 fu).fi (qls fu) [] call161
def zmy:(q9o.e (qls fu)).Sound wG:=(z10 fu).h
def q1x:IF:=⟨.fn 317,[.el 0 1,wS],[(0,.row .byte 250)],_,RS.mk (wS) [(0,.row .byte 250)]⟩
def x75(fu:Nat):Fx wG q1x:=fx f317 317 func317 [] false [] am [(ao [(0,14925),(1,466),(0,467),(2,58),(1,29),(0,15)],⟨41,[(0,.el 0 1),(1,wS),(5,.own 32),(6,wH),(7,.h .byte)],[(0,.row .byte 250),(32,.row .byte 5)],64,[]⟩),(ao [(0,464),(0,465),(0,233),(2,58),(1,29),(0,15)],⟨41,[(0,.el 0 1),(1,wS),(5,.own 32),(6,wH)],[(0,.row .byte 250),(32,.row .byte 5)],64,[]⟩),(ao [(0,464),(0,465),(0,233),(2,58),(1,29),(0,15)],⟨41,[(0,.el 0 1),(1,wS),(5,wN),(6,wH)],[(0,.row .byte 250)],64,[]⟩)]
def q3y(r2:(x75 fu).L 1):(x75 fu).L 0:=Fx.jm (qct fu r2.f) [r2.s]
def zr8:Nat->(x75 fu).L 1:=Fx.lq (qfc fu) (qq0 fu) (fun r2=>[(q3y fu r2).s,r2.s])
def znd:Nat->(x75 fu).L 2:=Fx.lq (qeq fu) (qqf fu) (fun r0=>[r0.s,(q3y fu (zr8 fu fu)).s])
def zdx:=(x75 fu).fi (qen fu) [(znd fu fu).s] call317
def q3n:(q1x.e (qen fu)).Sound wG:=(zdx fu).h
def q4i:IF:=⟨.fn 127,[.ptr 0 0,wS],[(0,.cells [.h (.int .u32),.h (.int .i32),.h (.int .u32),.c .nilIface,.own 1] 191),(1,.row .str 9)],_,RS.mk (wS) [(0,.cells [.h (.int .u32),.h (.int .i32),.h (.int .u32),.iel 251 2 1,.u] 191),(1,.dead),(2,.row .byte 250)]⟩
def q0t:IF:=⟨.fn 127,[.ptr 0 0,wS],[(0,.cells [.h (.int .u32),.h (.int .i32),.h (.int .u32),.iel 251 1 1,.u] 191),(1,.row .byte 250)],_,RS.mk (wS) [(0,.cells [.h (.int .u32),.h (.int .i32),.h (.int .u32),.iel 251 1 1,.u] 191),(1,.row .byte 250)]⟩
def z0i(s:Bs)(p0 p1 p2:Int)(on:List Bs)(r:Bs×Int×Int×Int×Bs)(hr:wv fu s p0 p1 p2 on=some r) :
  c7 wG 127 [.ptr 0 0,.str s] [(0,.cells [.int .u32 p0,.int .i32 p1,.int .u32 p2,.val .nilIface,.own 1] 191),(1,.row .str on 9)] (.str r.1) [(0,.cells [.int .u32 r.2.1,.int .i32 r.2.2.1,.int .u32 r.2.2.2.1,.iface 251 (.oel 2 1 0 0),.undef] 191),(1,.dead),(2,.row .byte r.2.2.2.2 250)]:=by
 unfold wv at hr;cases hc:decide (p0=0)&&decide (p1=0)<;>rw[hc]at hr<;>simp only[qT,qF,reduceCtorEq]at hr
 simp only[qA,decide_eq_true_eq]at hc;obtain⟨rfl,rfl⟩:=hc;obtain⟨x,hx,hr⟩:=Option.bind_eq_some_iff.1 hr;obtain⟨x0,x1,x2,tab,on'⟩:=x;simp only at hr;cases hc2:decide (x0=0)&&decide (x1=1)<;>rw[hc2]at hr<;>simp only[qT,qF,reduceCtorEq]at hr
 simp only[qA,decide_eq_true_eq]at hc2;obtain⟨rfl,rfl⟩:=hc2;obtain⟨y,hy,hr⟩:=Option.bind_eq_some_iff.1 hr;obtain⟨out,tab'⟩:=y;simp only[qI]at hr;subst hr;have hB:c7 wG 161 [.ptr 0 0] [(0,.cells [.int .u32 0,.int .i32 1,.int .u32 p2,.val .nilIface,.own 1] 191),(1,.row .str on 9)] (.tup []) [(0,.cells [.int .u32 0,.int .i32 1,.int .u32 x2,.iface 251 (.oel 2 1 0 0),.own 3] 191),(1,.dead),(2,.row .byte tab 250),(3,.row .str on' 9)]:=
  (zmy fu ((),()) (((0:Int),((1:Int),(p2,((),((),()))))),(on,())) ((0:Int),(1:Int),x2,tab,on') hx).2
 have hP:c7 wG 317 [.oel 0 1 0 0,.str s] [(0,.row .byte tab 250)] (.str out) [(0,.row .byte tab' 250)]:=
  (q3n fu ((),(s,())) (tab,()) (out,tab') hy).2
 intro w G vs hm hv;show Calls _ _ _ _ (nq w G [(0,.cells [.int .u32 0,.int .i32 0,.int .u32 p2,.val .nilIface,.own 1] 191),(1,.row .str on 9)] (.str out) [(0,.cells [.int .u32 1,.int .i32 0,.int .u32 x2,.iface 251 (.oel 2 1 0 0),.undef] 191),(1,.dead),(2,.row .byte tab' 250)]);have hm:ci G [(0,.cells [.int .u32 0,.int .i32 0,.int .u32 p2,.val .nilIface,.own 1] 191),(1,.row .str on 9)] w:=hm;have hv:ak [.ptr 0 0,.str s] G vs:=hv
 match vs,hv with
 |[v1,v2],hv=>
 obtain⟨⟨B,hGB,rfl⟩,rfl,_⟩:=hv;have hid:∀n b,ae ([(0,.cells [.int .u32 0,.int .i32 0,.int .u32 p2,.val .nilIface,.own 1] 191),(1,.row .str on 9)]:List (Nat×ag)) n=some b->ar [(0,0),(1,1)] n=some n/\dt (ar [(0,0),(1,1)]) b=b:=by
  intro n b h
  match n,h with
  |0,h=>cases h;exact⟨rfl,rfl⟩
  |1,h=>cases h;exact⟨rfl,rfl⟩
  |n+2,h=>cases h
 have hr0:=ah.start (N:=[(0,0),(1,1)]) hm hid (fun n h=>by
  match n,h with
  |0,h=>cases h
  |1,h=>cases h
  | n+2,h=>rfl) 4
 have hGB0:(G.view [(0,0),(1,1)]).box 0=some B:=hGB;obtain⟨c0,e0,r0,z0⟩:=hr0.cellAt (i:=0) rfl hGB0 rfl;obtain⟨c1,e1,r1,z1⟩:=hr0.cellAt (i:=1) rfl hGB0 rfl;have r0:c0 = .int .u32 0:=r0;have r1:c1 = .int .i32 0:=r1;subst r0 r1;have hr1:=hr0.setCellAt (i:=1) (x := .int .i32 1) (v := .int .i32 1) rfl hGB0 rfl rfl
 -- the building
 have hmB:ci ((G.view [(0,0),(1,1)]).view [(0,0),(1,1)]) [(0,.cells [.int .u32 0,.int .i32 1,.int .u32 p2,.val .nilIface,.own 1] 191),(1,.row .str on 9)] (w.setCell ⟨B,1,none⟩ (.int .i32 1)):=
  hr1.fin.mem.view (names:=[(0,0),(1,1)]) rfl (fun m m' n h1 h2=>by
   match m,m',h1,h2 with
   |0,0,_,_=>rfl|1,1,_,_=>rfl|0,1,h1,h2=>cases h1;cases h2
   |1,0,h1,h2=>cases h1;cases h2
   |0,m'+2,_,h2=>cases h2
   |1,m'+2,_,h2=>cases h2
   | m+2,_,h1,_=>cases h1)
 have hcB:=hB (w.setCell ⟨B,1,none⟩ (.int .i32 1)) ((G.view [(0,0),(1,1)]).view [(0,0),(1,1)]) [.pointer (some ⟨B,0,none⟩)] hmB ⟨⟨B,hGB,rfl⟩,trivial⟩
 let s2:St:={ n:=4,fr:=[(0,.tup [])],hp:=[(0,.cells [.int .u32 0,.int .i32 1,.int .u32 x2,.iface 251 (.oel 66 1 0 0),.own 67] 191),(1,.dead),(66,.row .byte tab 250),(67,.row .str on' 9),(0,.dead),(1,.dead),(0,.cells [.int .u32 0,.int .i32 1,.int .u32 p2,.val .nilIface,.own 1] 191),(0,.cells [.int .u32 0,.int .i32 0,.int .u32 p2,.val .nilIface,.own 1] 191),(1,.row .str on 9)],nx:=64,df:=[] }
 let hp0:List (Nat×ag):=[(0,.cells [.int .u32 0,.int .i32 0,.int .u32 p2,.val .nilIface,.own 1] 191),(1,.row .str on 9)]
 let R:World->Prop:=fun w'=>∃G2 a2,ah w (G.view [(0,0),(1,1)]) hp0 G2 s2 a2 w'
 have hBw:∀{w':World}{G2:Gh}{a2:Act},ah w (G.view [(0,0),(1,1)]) hp0 G2 s2 a2 w'->G2.box 0=some B:=fun h=>h.fin.keep 0 _ B rfl hGB0
 refine(Go.Proofs.YtiidadfafmcdmaaGreatDoor.Once.replace_first B ⟨s.toArray⟩ w R (fun v w'=>∃G4,Fin w G hp0 G4 [(0,.cells [.int .u32 1,.int .i32 0,.int .u32 x2,.iface 251 (.oel 2 1 0 0),.undef] 191),(1,.dead),(2,.row .byte tab' 250)] w'/\ai (.str out) G4 v) e0 e1 z0 z1 ?_ ?_ ?_).mono ?_
 ·refine hcB.mono ?_;intro e w' hpost;obtain⟨G2,v,he,hr2⟩:=qev hr1 (t:=0) (names:=[(0,0),(1,1)]) (hpv:=[(0,.cells [.int .u32 0,.int .i32 1,.int .u32 p2,.val .nilIface,.own 1] 191),(1,.row .str on 9)]) (hp:=[(0,.cells [.int .u32 0,.int .i32 1,.int .u32 p2,.val .nilIface,.own 1] 191),(1,.row .str on 9)]) rfl rfl (show 0<4 by decide) rfl rfl (by repeat (first|trivial|refine⟨rfl,?_⟩)) hpost
  obtain⟨u,u1,u2⟩:=hr2.frame 0 _ rfl;have u3:u=v:=by simpa [Act.put] using u1.symm
  obtain⟨us,h1,h2⟩:=u2;have:us=#[]:=by
   cases hq:us.toList with|nil=>simpa using hq|cons _ _=>rw[hq]at h2;exact h2.elim
  subst this;subst u3;exact⟨by rw[he,h1],G2,_,hr2⟩
 ·rintro w' ⟨G2,a2,hr2⟩
  obtain⟨d0,f0,q0,y0⟩:=hr2.cellAt (i:=0) rfl (hBw hr2) rfl;obtain⟨d1,f1,q1,y1⟩:=hr2.cellAt (i:=1) rfl (hBw hr2) rfl;have q0:d0 = .int .u32 0:=q0;have q1:d1 = .int .i32 1:=q1;subst q0 q1;exact⟨f0,y0,f1,y1⟩
 ·rintro w' ⟨G2,a2,hr2⟩
  obtain⟨d3,f3,q3,_⟩:=hr2.cellAt (i:=3) rfl (hBw hr2) rfl;obtain⟨u3,rfl,g,n3,c3,o3,rfl⟩:=q3;refine⟨g,by simpa using f3,?_⟩
  have hr3:=(hr2.drewOk.setCellAt (i:=0) (x := .int .u32 1) (v := .int .u32 1) rfl (hBw hr2) rfl rfl).setCellAt (i:=0+1) (x := .int .i32 0) (v := .int .i32 0) rfl (hBw hr2) rfl rfl;have hmP:ci (G2.view [(0,66)]) [(0,.row .byte tab 250)] ((w'.drew.setCell ⟨B,0,none⟩ (.int .u32 1)).setCell ⟨B,0+1,none⟩ (.int .i32 0)):=
   hr3.fin.mem.view (names:=[(0,66)]) rfl (fun m m' n h1 h2=>by
    cases m with
    |zero=>cases m' with|zero=>rfl|succ m'=>cases h2
    | succ m=>cases h1)
  have hcP:=hP _ (G2.view [(0,66)]) [.pointer (some ⟨g,0,none⟩),.string ⟨s.toArray⟩] hmP ⟨⟨g,n3,c3,o3,by simp⟩,rfl,trivial⟩
  refine hcP.mono ?_;intro e w4 hpost;obtain⟨G4,v,he,hr4⟩:=qev hr3 (t:=1) (names:=[(0,66)]) (hpv:=[(0,.row .byte tab 250)]) (hp:=[(0,.row .byte tab 250)]) rfl rfl (show 1<4 by decide) rfl rfl ⟨rfl,trivial⟩ hpost
  obtain⟨u,u1,u2⟩:=hr4.frame 1 _ rfl;have u3:u=v:=by
   have hs:=hr3.size;have hlt:1<a2.tmps.size:=by rw[hs];exact(show 1<4 by decide)
   simp only[Act.put]at u1;rw[Array.getElem?_setIfInBounds]at u1;simp[hlt]at u1;exact u1.symm
  subst u3;obtain⟨G5,k1,k2⟩:=qlf hr4 (ids:=[(0,0),(1,1)]) (fun n bx h=>by
   match n,h with
   |0,h=>rfl|1,h=>rfl| n+2,h=>cases h) (v := .str out) (p := wS) (hp:=[(0,.cells [.h (.int .u32),.h (.int .i32),.h (.int .u32),.iel 251 2 1,.u] 191),(1,.dead),(2,.row .byte 250)]) (y:=(out,(((1:Int),((0:Int),(x2,((),((),()))))),((),(tab',()))))) (by rfl)
  exact⟨u,he,G5,k1.only hid,k2 u u2⟩
 ·rintro e w4 ⟨v,rfl,G4,k1,k2⟩
  exact⟨v,G4,rfl,k1,k2⟩
def zxj:(q4i.e (wv fu)).Sound wG:=fun d d' r hr=>
 ⟨call127,z0i fu d.2.1 d'.1.1 d'.1.2.1 d'.1.2.2.1 d'.2.1 r hr⟩
def zve(s:Bs)(p0 p1 p2:Int)(tab:Bs)(r:Bs×Int×Int×Int×Bs)(hr:vt fu s p0 p1 p2 tab=some r) :
  c7 wG 127 [.ptr 0 0,.str s] [(0,.cells [.int .u32 p0,.int .i32 p1,.int .u32 p2,.iface 251 (.oel 1 1 0 0),.undef] 191),(1,.row .byte tab 250)] (.str r.1) [(0,.cells [.int .u32 r.2.1,.int .i32 r.2.2.1,.int .u32 r.2.2.2.1,.iface 251 (.oel 1 1 0 0),.undef] 191),(1,.row .byte r.2.2.2.2 250)]:=by
 unfold vt at hr;cases hc : !decide (p0=0)<;>rw[hc]at hr<;>simp only[qT,qF,reduceCtorEq]at hr
 simp only[Bool.not_eq_true',decide_eq_false_iff_not]at hc;obtain⟨y,hy,hr⟩:=Option.bind_eq_some_iff.1 hr;obtain⟨out,tab'⟩:=y;simp only[qI]at hr;subst hr;have hP:c7 wG 317 [.oel 0 1 0 0,.str s] [(0,.row .byte tab 250)] (.str out) [(0,.row .byte tab' 250)]:=
  (q3n fu ((),(s,())) (tab,()) (out,tab') hy).2
 intro w G vs hm hv
 let hp0:List (Nat×ag):=[(0,.cells [.int .u32 p0,.int .i32 p1,.int .u32 p2,.iface 251 (.oel 1 1 0 0),.undef] 191),(1,.row .byte tab 250)]
 show Calls _ _ _ _ (nq w G hp0 (.str out) [(0,.cells [.int .u32 p0,.int .i32 p1,.int .u32 p2,.iface 251 (.oel 1 1 0 0),.undef] 191),(1,.row .byte tab' 250)]);have hm:ci G hp0 w:=hm;have hv:ak [.ptr 0 0,.str s] G vs:=hv
 match vs,hv with
 |[v1,v2],hv=>
 obtain⟨⟨B,hGB,rfl⟩,rfl,_⟩:=hv;have hid:∀n b,ae hp0 n=some b->ar [(0,0),(1,1)] n=some n/\dt (ar [(0,0),(1,1)]) b=b:=by
  intro n b h
  match n,h with
  |0,h=>cases h;exact⟨rfl,rfl⟩
  |1,h=>cases h;exact⟨rfl,rfl⟩
  |n+2,h=>cases h
 have hr0:=ah.start (N:=[(0,0),(1,1)]) hm hid (fun n h=>by
  match n,h with
  |0,h=>cases h
  |1,h=>cases h
  | n+2,h=>rfl) 4
 have hGB0:(G.view [(0,0),(1,1)]).box 0=some B:=hGB;obtain⟨c0,e0,r0,_⟩:=hr0.cellAt (i:=0) rfl hGB0 rfl;have r0:c0 = .int .u32 p0:=r0;subst r0;obtain⟨d3,f3,q3,_⟩:=hr0.cellAt (i:=3) rfl hGB0 rfl;obtain⟨u3,rfl,g,n3,c3,o3,rfl⟩:=q3;have hmP:ci ((G.view [(0,0),(1,1)]).view [(0,1)]) [(0,.row .byte tab 250)] w:=
  hr0.fin.mem.view (names:=[(0,1)]) rfl (fun m m' n h1 h2=>by
   cases m with
   |zero=>cases m' with|zero=>rfl|succ m'=>cases h2
   | succ m=>cases h1)
 have hcP:=hP w ((G.view [(0,0),(1,1)]).view [(0,1)]) [.pointer (some ⟨g,0,none⟩),.string ⟨s.toArray⟩] hmP ⟨⟨g,n3,c3,o3,by simp⟩,rfl,trivial⟩
 refine(Go.Proofs.YtiidadfafmcdmaaGreatDoor.Once.replace_done B g ⟨s.toArray⟩ w (fun v w'=>∃G4,Fin w G hp0 G4 [(0,.cells [.int .u32 p0,.int .i32 p1,.int .u32 p2,.iface 251 (.oel 1 1 0 0),.undef] 191),(1,.row .byte tab' 250)] w'/\ai (.str out) G4 v) p0 hc e0 (by simpa using f3) ?_).mono ?_
 ·refine hcP.mono ?_;intro e w4 hpost;obtain⟨G4,v,he,hr4⟩:=qev hr0 (t:=1) (names:=[(0,1)]) (hpv:=[(0,.row .byte tab 250)]) (hp:=[(0,.row .byte tab 250)]) rfl rfl (show 1<4 by decide) rfl rfl ⟨rfl,trivial⟩ hpost
  obtain⟨u,u1,u2⟩:=hr4.frame 1 _ rfl;have u3:u=v:=by simpa [Act.put] using u1.symm
  subst u3;obtain⟨G5,k1,k2⟩:=qlf hr4 (ids:=[(0,0),(1,1)]) (fun n bx h=>by
   match n,h with
   |0,h=>rfl|1,h=>rfl| n+2,h=>cases h) (v := .str out) (p := wS) (hp:=[(0,.cells [.h (.int .u32),.h (.int .i32),.h (.int .u32),.iel 251 1 1,.u] 191),(1,.row .byte 250)]) (y:=(out,((p0,(p1,(p2,((),((),()))))),(tab',())))) (by rfl)
  exact⟨u,he,G5,k1.only hid,k2 u u2⟩
 ·rintro e w4 ⟨v,rfl,G4,k1,k2⟩
  exact⟨v,G4,rfl,k1,k2⟩
def zmp:(q0t.e (vt fu)).Sound wG:=fun d d' r hr=>
 ⟨call127,zve fu d.2.1 d'.1.1 d'.1.2.1 d'.1.2.2.1 d'.2.1 r hr⟩
def zyh:IF:=⟨.fn 174,[.h .byte],[],_,RS.mk (.h .byte) []⟩
def x76:Fx wG zyh:=fx f174 174 func174 [] false [] am []
def zn0:=x76.fi n8 [] call174
def zu1:IF:=⟨.fn 139,[wS],[],_,RS.mk (.own 0) [(0,.row .str 9)]⟩
def x77(fu:Nat):Fx wG zu1:=fx f139 139 func139 [qff.p,zn0.p] false [] am [(ao [(0,29902),(0,29903),(1,934),(0,935),(2,58),(1,29),(0,15)],⟨59,[(0,wS),(3,.own 32),(5,wS),(9,wH),(10,wH)],[(32,.row .str 9)],64,[]⟩),(ao [(0,232),(0,233),(2,58),(1,29),(0,15)],⟨59,[(0,wS),(3,.own 32),(9,wH),(10,wH)],[(32,.row .str 9)],64,[]⟩)]
def zhj(r0:(x77 fu).L 1):(x77 fu).L 0:=Fx.jm (qd5 fu r0.f) [r0.s]
def ze9:Nat->(x77 fu).L 1:=Fx.lq (qaf fu) (qu4 fu) (fun r0=>[(zhj fu r0).s])
def zjx:=(x77 fu).fi (qno fu) [(ze9 fu fu).s] call139
def zs5:IF:=⟨.fn 101,[.h wP],[],_,RS.mk (wS) []⟩
def x78:Fx wG zs5:=fx f101 101 func101 [(q8a fu).p,(zc3 fu).p,q0i.p,⟨qyw.e ue,zuv⟩,(zjx fu).p,⟨qqk.e oe,q6q qp3 qw7⟩] false [] am [(ao [(0,1000),(0,1001),(2,250),(1,125),(0,63)],⟨59,[(1,.ptr 32 0),(3,wS),(38,.own 33),(39,wH),(40,wH)],[(32,.dat wP 86),(33,.row .str 9)],64,[]⟩),(ao [(0,30),(0,31)],⟨59,[(1,.ptr 32 0)],[(32,.dat wP 86)],64,[]⟩),(ao [(0,29),(0,15)],⟨59,[(1,.ptr 32 0),(24,.h .bool)],[(32,.dat wP 86)],64,[]⟩)]
def zje:Nat->(x78 fu).L 0:=Fx.lq (qeu fu) (qx1 fu) (fun r2=>[r2.s])
def zv2:(x78 fu).L 1:=Fx.jm (qvp fu) [(zje fu fu).s]
def zu8:(x78 fu).L 2:=Fx.jm (qa3 fu) [(zv2 fu).s]
def zmx:=(x78 fu).fi (qmv fu) [(zu8 fu).s] call101
def zyq:IF:=⟨.fn 72,[.h (.prod .str (.prod .str wL))],[],_,RS.mk (.tup [wS,.h (.prod wI wI)]) []⟩
def x79:Fx wG zyq:=fx f72 72 func72 [(qxr fu).p,kw.p,(zmx fu).p,jz.p,nd.p] false [] am [(ao [(0,488),(0,489),(2,122),(1,61),(0,31)],⟨37,[(3,.ptr 32 0),(5,wS),(20,.h wL),(21,wH),(22,wH)],[(32,.dat (.prod wI wI) 30)],64,[]⟩)]
def z1i:Nat->(x79 fu).L 0:=Fx.lq (qc7 fu) (qsa fu) (fun r0=>[r0.s])
def qso:=(x79 fu).fi (uf fu) [(z1i fu fu).s] call72
def zyf:IF:=⟨.fn 52,[.h wT],[],_,RS.mk (wH) []⟩
def x80:Fx wG zyf:=fx f52 52 func52 [(qjl fu).p,(uv fu).p,(qz9 fu).p,(qso fu).p,kw.p] false [] am [(ao [(0,30),(0,31)],⟨69,[(1,.ptr 32 0),(3,.ptr 33 0),(4,wH)],[(32,.dat wT 26),(33,.cells [wS,wS,.own 34] 83),(34,.row wP 86)],64,[]⟩),(ao [(0,29),(0,15)],⟨69,[(1,.ptr 32 0),(3,.ptr 33 0),(4,wH),(31,.h .bool)],[(32,.dat wT 26),(33,.cells [wS,wS,.own 34] 83),(34,.row wP 86)],64,[]⟩)]
def zn7:(x80 fu).L 0:=Fx.jm (qps fu) []
def zi3:(x80 fu).L 1:=Fx.jm (n7 fu) [(zn7 fu).s]
def z19:=(x80 fu).fi (qi3 fu) [(zi3 fu).s] call52
def zu0:IF:=⟨.fn 53,[.h wB],[],_,RS.mk (wH) []⟩
def x81(fu:Nat):Fx wG zu0:=fx f53 53 func53 [] false [] am [(ao [(0,14924),(0,14925),(0,7463),(1,466),(0,467),(2,58),(1,29),(0,15)],⟨45,[(0,.h wB),(3,wH),(4,wH),(5,.h .byte)],[],64,[]⟩),(ao [(0,7461),(0,3731),(1,466),(0,467),(2,58),(1,29),(0,15)],⟨45,[(0,.h wB),(3,wH),(4,wH),(5,.h .byte),(32,.h .bool)],[],64,[]⟩),(ao [(0,464),(0,465),(0,233),(2,58),(1,29),(0,15)],⟨45,[(0,.h wB),(3,wH),(4,wH)],[],64,[]⟩)]
def zop(r0:(x81 fu).L 2):(x81 fu).L 0:=Fx.jm (qo5 fu r0.f) [r0.s]
def zcr(r0:(x81 fu).L 2):(x81 fu).L 1:=Fx.jm (y6 fu r0.f) [r0.s,(zop fu r0).s]
def zio:Nat->(x81 fu).L 2:=Fx.lq (yi fu) (qpb fu) (fun r0=>[(zcr fu r0).s])
def q5z:=(x81 fu).fi (qbs fu) [(zio fu fu).s] call53
def zk2:IF:=⟨.fn 118,[.h .byte],[],_,RS.mk (.h .bool) []⟩
def x82:Fx wG zk2:=fx f118 118 func118 [] false [] am []
def zy4:=x82.fi qfg [] call118
def zx8:IF:=⟨.fn 117,[wS,.fn 118 []],[],_,RS.mk (.h .bool) []⟩
def x83(fu:Nat):Fx wG zx8:=fx f117 117 func117 [zy4.p] false [] am [(ao [(0,104),(0,105),(2,26),(1,13),(0,7)],⟨18,[(0,wS),(1,.fn 118 []),(7,wH),(8,wH)],[],64,[]⟩)]
def zen:Nat->(x83 fu).L 0:=Fx.lq (qgl fu) (qy5 fu) (fun r0=>[r0.s])
def zks:=(x83 fu).fi (qke fu) [(zen fu fu).s] call117
def zcm:IF:=⟨.fn 119,[wS,wS],[],_,RS.mk (.h .bool) []⟩
def x84:Fx wG zcm:=fx f119 119 func119 [qyq.p] false [] am []
def zle:=x84.fi qh5 [] call119
def zv5:IF:=⟨.fn 83,[.h wL],[],_,RS.mk (.tup [wS,.h .bool]) []⟩
def x85:Fx wG zv5:=fx f83 83 func83 [(qjl fu).p,(uv fu).p,(qz9 fu).p,(zks fu).p,zle.p] false [] am [(ao [(0,30),(0,31)],⟨52,[(4,.ptr 32 0)],[(32,.cells [wS,wS,.own 33] 83),(33,.row wP 86)],64,[]⟩),(ao [(0,29),(0,15)],⟨52,[(4,.ptr 32 0),(24,.h .bool)],[(32,.cells [wS,wS,.own 33] 83),(33,.row wP 86)],64,[]⟩)]
def zt7:(x85 fu).L 0:=Fx.jm (qws fu) []
def zg9:(x85 fu).L 1:=Fx.jm (xy fu) [(zt7 fu).s]
def zh2:=(x85 fu).fi (qkf fu) [(zg9 fu).s] call83
def zfp:IF:=⟨.fn 97,[.h wB],[],_,RS.mk (.fn 130 [.ptr 0 0]) [(0,.cells [.h wB] 23)]⟩
def x86:Fx wG zfp:=fx f97 97 func97 [] false [] am []
def qy8:=x86.fi qez [] call97
def zd5:IF:=⟨.fn 154,[wS,.h .byte],[],_,RS.mk (wS) []⟩
def x87(fu:Nat):Fx wG zd5:=fx f154 154 func154 [] false [] am [(ao [(0,96),(0,97),(0,49),(2,12),(1,6),(0,7)],⟨23,[(0,wS),(1,.h .byte)],[],64,[]⟩)]
def zow:Nat->(x87 fu).L 0:=Fx.lq (qto fu) (q6n fu) (fun r0=>[r0.s])
def q07:=(x87 fu).fi (qwr fu) [(zow fu fu).s] call154
def zdu:IF:=⟨.fn 157,[wS,.el 0 1],[(0,.row .bool 194)],_,RS.mk (wS) [(0,.row .bool 194)]⟩
def x88(fu:Nat):Fx wG zdu:=fx f157 157 func157 [qqu.p] false [] am [(ao [(0,96),(0,97),(0,49),(2,12),(1,6),(0,7)],⟨22,[(0,wS),(1,.el 0 1)],[(0,.row .bool 194)],64,[]⟩)]
def zgc:Nat->(x88 fu).L 0:=Fx.lq (qde fu) (qxl fu) (fun r0=>[r0.s])
def zau:=(x88 fu).fi (qcw fu) [(zgc fu fu).s] call157
def zes:IF:=⟨.fn 204,[.h .byte],[],_,RS.mk (.h .bool) []⟩
def x89:Fx wG zes:=fx f204 204 func204 [] false [] am []
def z11:=x89.fi zad [] call204
def zpb:IF:=⟨.fn 182,[wS],[],_,RS.mk (.tup [.h (.int .i32),wH]) []⟩
def x90(fu:Nat):Fx wG zpb:=fx f182 182 func182 [z11.p,q37.p] false [] am [(ao [(0,2046),(0,2047)],⟨51,[(0,wS),(4,wH),(5,wH)],[],64,[]⟩),(ao [(0,2044),(0,2045),(0,1023)],⟨51,[(0,wS),(4,wH),(5,wH)],[],64,[]⟩),(ao [(0,16336),(0,16337),(0,8169),(2,2042),(1,1021),(0,511)],⟨51,[(0,wS),(4,wH),(5,wH),(6,wH)],[],64,[]⟩)]
def zfj:(x90 fu).L 0:=Fx.jm (qti fu) []
def ztf:(x90 fu).L 1:=Fx.jm (qxs fu) [(zfj fu).s]
def zr2:Nat->(x90 fu).L 2:=Fx.lq (qot fu) (zbf fu) (fun r0=>[(ztf fu).s,r0.s])
def z2b:=(x90 fu).fi (qzp fu) [(zr2 fu fu).s] call182
def zqm:IF:=⟨.fn 159,[wS,wS],[],_,RS.mk (wS) []⟩
def x91:Fx wG zqm:=fx f159 159 func159 [(z2b fu).p,(q2k fu).p] false [] am [(ao [(0,96),(0,97),(0,49),(2,12),(1,6),(0,7)],⟨34,[(0,wS),(1,wS)],[],64,[]⟩)]
def zlh:Nat->(x91 fu).L 0:=Fx.lq (qtw fu) (q62 fu) (fun r0=>[r0.s])
def q6j:=(x91 fu).fi (qqy fu) [(zlh fu fu).s] call159
def zvl:IF:=⟨.fn 148,[wS,wS],[],_,RS.mk (wS) []⟩
def x92:Fx wG zvl:=fx f148 148 func148 [(q07 fu).p,(ql2 fu).p,(zau fu).p,(q6j fu).p] false [] am [(ao [(0,60),(0,61),(0,31)],⟨37,[(0,wS),(1,wS)],[],64,[]⟩),(ao [(0,29),(0,15)],⟨37,[(0,wS),(1,wS),(21,.h .bool)],[],64,[]⟩),(ao [(0,28),(0,29),(0,15)],⟨37,[(0,wS),(1,wS)],[],64,[]⟩),(ao [(0,13),(0,7)],⟨37,[(0,wS),(1,wS),(12,.h .bool)],[],64,[]⟩)]
def zz9:(x92 fu).L 0:=Fx.jm (qo4 fu) []
def zz4:(x92 fu).L 1:=Fx.jm (qks fu) [(zz9 fu).s]
def zoi:(x92 fu).L 2:=Fx.jm (qou fu) [(zz4 fu).s]
def zwf:(x92 fu).L 3:=Fx.jm (qm0 fu) [(zoi fu).s]
def q1t:=(x92 fu).fi (qd7 fu) [(zwf fu).s] call148
def zlm:IF:=⟨.fn 120,[wS,wS],[],_,RS.mk (wH) []⟩
def x93:Fx wG zlm:=fx f120 120 func120 [(q1t fu).p] false [] am []
def zgd:=(x93 fu).fi (qhg fu) [] call120
def q3r:IF:=⟨.yld 0,[wH,wS],[(0,.loop .ready none 84 51 [(2,.ptr 1 0),(3,.ptr 2 0),(4,.ptr 3 0),(5,.ptr 4 0),(6,.ptr 5 0)] [12,13] 2 6),(1,.cells [.h wB] 23),(2,.cells [wS] 9),(3,.cells [.own 7] 77),(4,.cells [.own 8] 77),(5,.cells [wH] 3),(6,.dfr),(7,.row wB 23),(8,.row wB 23)],_,.two (RS.mk (.c (.bool true)) [(0,.loop .ready none 84 51 [(2,.ptr 1 0),(3,.ptr 2 0),(4,.ptr 3 0),(5,.ptr 4 0),(6,.ptr 5 0)] [12,13] 2 6),(1,.cells [.h wB] 23),(2,.cells [wS] 9),(3,.cells [.own 9] 77),(4,.cells [.own 10] 77),(5,.cells [wH] 3),(6,.dfr),(7,.dead),(8,.dead),(9,.row wB 23),(10,.row wB 23)]) (RS.mk (.c (.bool false)) [(0,.loop .done (some .ret) 84 51 [(2,.ptr 1 0),(3,.ptr 2 0),(4,.ptr 3 0),(5,.ptr 4 0),(6,.ptr 5 0)] [12,13] 2 6),(1,.cells [.h wB] 23),(2,.cells [wS] 9),(3,.cells [.own 9] 77),(4,.cells [.own 9] 77),(5,.cells [wH] 3),(6,.dfr),(7,.dead),(8,.dead),(9,.row wB 23)])⟩
def x94:Fx wG q3r:=fx f84 84 func84 [(zgd fu).p] false [([0,1,0,1,1,1],2)] (ub rfl am) []
def zcx:EI wG q3r:=(x94 fu).fiy (qar fu) [] 0 rfl [0,1,0,1,1,1] (by kernel_rfl) (by kernel_rfl) fun d d'=>by kernel_rfl
def zvz:IF:=⟨.fn 130,[.yld 0,.ptr 1 0],[(0,.loop .ready none 84 51 [(2,.ptr 2 0),(3,.ptr 3 0),(4,.ptr 4 0),(5,.ptr 5 0),(6,.ptr 6 0)] [12,13] 2 7),(1,.cells [.h wB] 23),(2,.cells [.h wB] 23),(3,.cells [wS] 9),(4,.cells [.own 8] 77),(5,.cells [.own 9] 77),(6,.cells [wH] 3),(7,.dfr),(8,.row wB 23),(9,.row wB 23)],_,.two (RS.mk (.tup []) [(0,.loop .done (some .ret) 84 51 [(2,.ptr 2 0),(3,.ptr 3 0),(4,.ptr 4 0),(5,.ptr 5 0),(6,.ptr 6 0)] [12,13] 2 7),(1,.cells [.h wB] 23),(2,.cells [.h wB] 23),(3,.cells [wS] 9),(4,.cells [.own 10] 77),(5,.cells [.own 10] 77),(6,.cells [wH] 3),(7,.dfr),(8,.dead),(9,.dead),(10,.row wB 23)]) (RS.mk (.tup []) [(0,.loop .ready none 84 51 [(2,.ptr 2 0),(3,.ptr 3 0),(4,.ptr 4 0),(5,.ptr 5 0),(6,.ptr 6 0)] [12,13] 2 7),(1,.cells [.h wB] 23),(2,.cells [.h wB] 23),(3,.cells [wS] 9),(4,.cells [.own 10] 77),(5,.cells [.own 11] 77),(6,.cells [wH] 3),(7,.dfr),(8,.dead),(9,.dead),(10,.row wB 23),(11,.row wB 23)])⟩
def x95:Fx wG zvz:=fx f130 130 func130 [⟨qsg.e oo,q73 (by decide)⟩,(zcx fu).p] false [] am [(ao [(0,48),(0,49),(0,25),(2,6),(1,3)],⟨39,[(0,.yld 0),(1,.ptr 1 0),(3,wH)],[(0,.loop .ready none 84 51 [(2,.ptr 2 0),(3,.ptr 3 0),(4,.ptr 4 0),(5,.ptr 5 0),(6,.ptr 6 0)] [12,13] 2 7),(1,.cells [.h wB] 23),(2,.cells [.h wB] 23),(3,.cells [wS] 9),(4,.cells [.own 32] 77),(5,.cells [.own 33] 77),(6,.cells [wH] 3),(7,.dfr),(8,.dead),(9,.dead),(32,.row wB 23),(33,.row wB 23)],64,[]⟩)]
def zd6:Nat->(x95 fu).L 0:=Fx.lq (ws fu) (qwg fu) (fun r0=>[r0.s])
def zlf:=(x95 fu).fi (qql fu) [(zd6 fu fu).s] call130
def zs3:IF:=⟨.fn 84,[.h wB,wS],[],_,RS.mk (.own 0) [(0,.row wB 23)]⟩
def x96:Fx wG zs3:=fx f84 84 func84 [qy8.p,(zlf fu).p] false [([0,1,0,1,1,1],2)] (ub rfl am) []
def zbp:=(x96 fu).fi (qnr fu) [] call84
def zpw:IF:=⟨.fn 54,[.h wL,.h wB,wH],[],_,RS.mk (.own 0) [(0,.row wB 23)]⟩
def x97:Fx wG zpw:=fx f54 54 func54 [(zh2 fu).p,(zbp fu).p] false [] am []
def qyo:=(x97 fu).fi (wd fu) [] call54
def zx0:IF:=⟨.fn 25,[.h (.prod wT wI)],[],_,RS.mk (wH) []⟩
def x98:Fx wG zx0:=fx f25 25 func25 [(q60 fu).p,kw.p,(z19 fu).p,(q5z fu).p,(qyo fu).p] false [] am []
def zcw:=(x98 fu).fi (qjs fu) [] call25
def q99:IF:=⟨.yld 0,[wH,.agg [.h wL,.h wB,.h (.list wT),wH]],[(0,.loop .ready none 10 36 [(2,.ptr 1 0)] [26,27] 1 2),(1,.dat (.prod wI wI) 30),(2,.dfr)],_,.two (RS.mk (.c (.bool false)) [(0,.loop .done (some .ret) 10 36 [(2,.ptr 1 0)] [26,27] 1 2),(1,.dat (.prod wI wI) 30),(2,.dfr)]) (RS.mk (.c (.bool true)) [(0,.loop .ready none 10 36 [(2,.ptr 1 0)] [26,27] 1 2),(1,.dat (.prod wI wI) 30),(2,.dfr)])⟩
def x99:Fx wG q99:=fx f10 10 func10 [(zcw fu).p,jz.p] false [([0,1,0,1,1,1,1],1)] (ub rfl am) []
def zyl:EI wG q99:=(x99 fu).fiy (qvj fu) [] 0 rfl [0,1,0,1,1,1,1] (by kernel_rfl) (by kernel_rfl) fun d d'=>by kernel_rfl
def qby:IF:=⟨.fn 50,[.h wT,wH,.ptr 0 0,.ptr 1 0,.ptr 2 0],[(0,.cells [.yld 3] 92),(1,.cells [wH] 3),(2,.cells [.fn 50 [.ptr 0 0,.ptr 1 0,.ptr 2 0]] 93),(3,.loop .ready none 10 36 [(2,.ptr 4 0)] [26,27] 1 5),(4,.dat (.prod wI wI) 30),(5,.dfr)],_,.two (RS.mk (.c (.bool false)) [(0,.cells [.yld 3] 92),(1,.cells [wH] 3),(2,.cells [.fn 50 [.ptr 0 0,.ptr 1 0,.ptr 2 0]] 93),(3,.loop .done (some .ret) 10 36 [(2,.ptr 4 0)] [26,27] 1 5),(4,.dat (.prod wI wI) 30),(5,.dfr)]) (RS.mk (.c (.bool true)) [(0,.cells [.yld 3] 92),(1,.cells [wH] 3),(2,.cells [.fn 50 [.ptr 0 0,.ptr 1 0,.ptr 2 0]] 93),(3,.loop .ready none 10 36 [(2,.ptr 4 0)] [26,27] 1 5),(4,.dat (.prod wI wI) 30),(5,.dfr)])⟩
def q7v(s12:EI wG qby)(fu:Nat):Fx wG qby:=fx f50 50 func50 [(zyl fu).p,s12.p] false [] am [(ao [(0,488),(0,489),(2,122),(1,61),(0,31)],⟨33,[(1,wH),(4,.ptr 2 0),(20,.h (.list wT)),(21,wH),(22,wH)],[(0,.cells [.yld 3] 92),(1,.cells [wH] 3),(2,.cells [.fn 50 [.ptr 0 0,.ptr 1 0,.ptr 2 0]] 93),(3,.loop .ready none 10 36 [(2,.ptr 4 0)] [26,27] 1 5),(4,.dat (.prod wI wI) 30),(5,.dfr)],64,[]⟩)]
def zfz(s12:EI wG qby)(fu:Nat):Nat->(q7v s12 fu).L 0:=Fx.lq (qcm s12.f fu) (qok s12.f fu) (fun r0=>[r0.s])
def z0x(s12:EI wG qby)(fu:Nat):EI wG qby:=(q7v s12 fu).fi (qjw s12.f fu) [(zfz s12 fu fu).s] call50
def zti:EI wG qby := .rc (qbq fu) (fun r=>qjw r fu) (fun _ _=>rfl) (fun _=>rfl) (fun s12=>z0x s12 fu) (fun _=>rfl) fu
def zb1:IF:=⟨.fn 49,[.yld 0,.ptr 1 0],[(0,.loop .ready none 10 36 [(2,.ptr 2 0)] [26,27] 1 3),(1,.dat wT 26),(2,.dat (.prod wI wI) 30),(3,.dfr)],_,.two (RS.mk (.tup []) [(0,.loop .done (some .ret) 10 36 [(2,.ptr 2 0)] [26,27] 1 3),(1,.dat wT 26),(2,.dat (.prod wI wI) 30),(3,.dfr)]) (RS.mk (.tup []) [(0,.loop .ready none 10 36 [(2,.ptr 2 0)] [26,27] 1 3),(1,.dat wT 26),(2,.dat (.prod wI wI) 30),(3,.dfr)])⟩
def zuc:Fx wG zb1:=fx f49 49 func49 [(zti fu).p] false [] am []
def zem:=(zuc fu).fi (qj0 fu) [] call49
def zdq:IF:=⟨.fn 10,[.h wT],[],_,RS.mk (.h (.prod wI wI)) []⟩
def zzt:Fx wG zdq:=fx f10 10 func10 [x1s.p,(x5s fu).p,jz.p,(zem fu).p,nd.p] false [([0,1,0,1,1],0),([0,1,0,1,1,1,1],1)] (ub rfl (ub rfl am)) []
def qnw:=(zzt fu).fi (zk fu) [] call10
def zde:IF:=⟨.fn 68,[.h wL,.h wB],[],_,RS.mk (.own 0) [(0,.row .byte 5)]⟩
def qkw:Fx wG zde:=fx f68 68 func68 [(qi1 fu).p] false [] am [(ao [(0,119608),(0,119609),(2,29902),(1,14951),(1,934),(0,935),(2,58),(1,29),(0,15)],⟨44,[(1,.h wB),(5,.own 33),(12,.h wL),(13,wH),(14,wH),(26,.own 32),(27,wH),(28,wH)],[(32,.row .str 9),(33,.row .byte 5)],64,[]⟩),(ao [(0,232),(0,233),(2,58),(1,29),(0,15)],⟨44,[(1,.h wB),(5,.own 32),(12,.h wL),(13,wH),(14,wH)],[(32,.row .byte 5)],64,[]⟩)]
def ziu(r0:(qkw fu).L 1):Nat->(qkw fu).L 0:=Fx.lq (y7 fu r0.f) (qre fu r0.f) (fun r1=>[r1.s,r0.s])
def zgw:Nat->(qkw fu).L 1:=Fx.lq (xg fu) (qyh fu) (fun r0=>[(ziu fu r0 fu).s])
def zjd:=(qkw fu).fi (qvf fu) [(zgw fu fu).s] call68
def pf:IF:=⟨.fn 37,[.h wT],[],_,RS.mk (.tup [.h wL,.h wB]) []⟩
def q6g:IF:=⟨.fn 67,[.h wT],[],_,RS.mk (.own 0) [(0,.row .byte 5)]⟩
def zs8(s107:EI wG pf)(fu:Nat):Fx wG q6g:=fx f67 67 func67 [s107.p,(zjd fu).p] false [] am []
def zez(s107:EI wG pf)(fu:Nat):EI wG q6g:=(zs8 s107 fu).fi (qn1 s107.f fu) [] call67
def q3g:IF:=⟨.fn 66,[.h (.list wT),.fn 67 []],[],_,RS.mk (.own 0) [(0,.row wB 23)]⟩
def q9w(s107:EI wG pf)(fu:Nat):Fx wG q3g:=fx f66 66 func66 [(zez s107 fu).p] false [] am [(ao [(0,232),(0,233),(2,58),(1,29),(0,15)],⟨22,[(1,.fn 67 []),(5,.own 32),(8,.h (.list wT)),(9,wH),(10,wH)],[(32,.row wB 23)],64,[]⟩)]
def zqs(s107:EI wG pf)(fu:Nat):Nat->(q9w s107 fu).L 0:=Fx.lq (qd8 s107.f fu) (qux s107.f fu) (fun r0=>[r0.s])
def zi6(s107:EI wG pf)(fu:Nat):EI wG q3g:=(q9w s107 fu).fi (qun s107.f fu) [(zqs s107 fu fu).s] call66
def znm:IF:=⟨.fn 132,[wS,wS],[],_,RS.mk (.h .bool) []⟩
def zq9:Fx wG znm:=fx f132 132 func132 [] false [] am []
def zgf:=zq9.fi qx6 [] call132
def zhl:IF:=⟨.fn 98,[wS,wS],[],_,RS.mk (.h .bool) []⟩
def z04:Fx wG zhl:=fx f98 98 func98 [zgf.p] false [] am []
def zo4:=z04.fi qhw [] call98
def q5u:IF:=⟨.yld 0,[wH,wS],[(0,.loop .ready none 96 14 [(1,.ptr 1 0),(3,.ptr 2 0)] [8,9] 3 3),(1,.cells [wS] 9),(2,.cells [.h .bool] 4),(3,.dfr)],_,.two (RS.mk (.c (.bool false)) [(0,.loop .done (some .ret) 96 14 [(1,.ptr 1 0),(3,.ptr 2 0)] [8,9] 3 3),(1,.cells [wS] 9),(2,.cells [.h .bool] 4),(3,.dfr)]) (RS.mk (.c (.bool true)) [(0,.loop .ready none 96 14 [(1,.ptr 1 0),(3,.ptr 2 0)] [8,9] 3 3),(1,.cells [wS] 9),(2,.cells [.h .bool] 4),(3,.dfr)])⟩
def z0k:Fx wG q5u:=fx f96 96 func96 [zo4.p] false [([0,1,0,1],3)] (ub rfl am) []
def zxy:EI wG q5u:=z0k.fiy qdz [] 0 rfl [0,1,0,1] (by kernel_rfl) (by kernel_rfl) fun d d'=>by kernel_rfl
def zjr:IF:=⟨.fn 130,[.yld 0,.ptr 1 0],[(0,.loop .ready none 96 14 [(1,.ptr 2 0),(3,.ptr 3 0)] [8,9] 3 4),(1,.cells [.h wB] 23),(2,.cells [wS] 9),(3,.cells [.h .bool] 4),(4,.dfr)],_,.two (RS.mk (.tup []) [(0,.loop .done (some .ret) 96 14 [(1,.ptr 2 0),(3,.ptr 3 0)] [8,9] 3 4),(1,.cells [.h wB] 23),(2,.cells [wS] 9),(3,.cells [.h .bool] 4),(4,.dfr)]) (RS.mk (.tup []) [(0,.loop .ready none 96 14 [(1,.ptr 2 0),(3,.ptr 3 0)] [8,9] 3 4),(1,.cells [.h wB] 23),(2,.cells [wS] 9),(3,.cells [.h .bool] 4),(4,.dfr)])⟩
def q0c(fu:Nat):Fx wG zjr:=fx f130 130 func130 [⟨qsg.e oo,q73 (by decide)⟩,zxy.p] false [] am [(ao [(0,48),(0,49),(0,25),(2,6),(1,3)],⟨39,[(0,.yld 0),(1,.ptr 1 0),(3,wH)],[(0,.loop .ready none 96 14 [(1,.ptr 2 0),(3,.ptr 3 0)] [8,9] 3 4),(1,.cells [.h wB] 23),(2,.cells [wS] 9),(3,.cells [.h .bool] 4),(4,.dfr)],64,[]⟩)]
def zkd:Nat->(q0c fu).L 0:=Fx.lq (zd fu) (qq5 fu) (fun r0=>[r0.s])
def zw8:=(q0c fu).fi (qvu fu) [(zkd fu fu).s] call130
def zlj:IF:=⟨.fn 96,[.h wB,.ptr 0 0],[(0,.cells [wS] 9)],_,RS.mk (.h .bool) [(0,.cells [wS] 9)]⟩
def zc2:Fx wG zlj:=fx f96 96 func96 [qy8.p,(zw8 fu).p] false [([0,1,0,1],3)] (ub rfl am) []
def zxn:=(zc2 fu).fi (qju fu) [] call96
def zhc:IF:=⟨.fn 129,[.h (.list wB),.fn 96 [.ptr 0 0]],[(0,.cells [wS] 9)],_,RS.mk (wH) [(0,.cells [wS] 9)]⟩
def qz6:Fx wG zhc:=fx f129 129 func129 [(zxn fu).p] false [] am [(ao [(0,104),(0,105),(2,26),(1,13),(0,7)],⟨19,[(0,.h (.list wB)),(1,.fn 96 [.ptr 0 0]),(7,wH),(8,wH)],[(0,.cells [wS] 9)],64,[]⟩)]
def zi7:Nat->(qz6 fu).L 0:=Fx.lq (qe7 fu) (qut fu) (fun r0=>[r0.s])
def ztz:=(qz6 fu).fi (qrr fu) [(zi7 fu fu).s] call129
def zqv:IF:=⟨.fn 95,[.h (.list wB),.fn 96 [.ptr 0 0]],[(0,.cells [wS] 9)],_,RS.mk (.h .bool) [(0,.cells [wS] 9)]⟩
def zhk:Fx wG zqv:=fx f95 95 func95 [(ztz fu).p] false [] am []
def zlk:=(zhk fu).fi (qdp fu) [] call95
def zwi:IF:=⟨.fn 69,[.h (.list wB)],[],_,RS.mk (wS) []⟩
def q6k:Fx wG zwi:=fx f69 69 func69 [⟨qqk.e oe,q6q qp3 qw7⟩,(zlk fu).p] false [] am [(ao [(0,224),(0,225),(1,56),(0,57),(2,14),(1,7)],⟨17,[(0,.h (.list wB)),(3,wH)],[],64,[]⟩)]
def zmz:Nat->(q6k fu).L 0:=Fx.lq (qgo fu) (qrn fu) (fun r0=>[r0.s])
def zk9:=(q6k fu).fi (qxz fu) [(zmz fu fu).s] call69
def q8v(s107:EI wG pf)(fu:Nat):Fx wG pf:=fx f37 37 func37 [(zi6 s107 fu).p,(zk9 fu).p,(qjl fu).p,⟨q29.e cd,zm7⟩,⟨wq.e cd,yv⟩,(qso fu).p] false [] am [(ao [(0,32744),(0,32745),(2,8186),(1,4093),(0,2047)],⟨76,[(5,wS),(9,.own 32),(10,.own 34),(53,.own 33),(54,wH),(55,wH)],[(32,.row wP 50),(33,.row wB 23),(34,.row .byte 5)],64,[]⟩)]
def zku(s107:EI wG pf)(fu:Nat):Nat->(q8v s107 fu).L 0:=Fx.lq (zq s107.f fu) (qxd s107.f fu) (fun r0=>[r0.s])
def zlx(s107:EI wG pf)(fu:Nat):EI wG pf:=(q8v s107 fu).fi (qi2 s107.f fu) [(zku s107 fu fu).s] call37
def zit:EI wG pf := .rc (tn fu) (fun r=>qi2 r fu) (fun _ _=>rfl) (fun _=>rfl) (fun s107=>zlx s107 fu) (fun _=>rfl) fu
def zw3:IF:=⟨.fn 61,[.h (.prod wL wB)],[],_,RS.mk (.own 0) [(0,.row .byte 5)]⟩
def qi0:Fx wG zw3:=fx f61 61 func61 [(qi1 fu).p] false [] am [(ao [(0,119608),(0,119609),(2,29902),(1,14951),(1,934),(0,935),(2,58),(1,29),(0,15)],⟨44,[(1,.ptr 32 0),(3,.own 34),(11,.h wL),(12,wH),(13,wH),(25,.own 33),(26,wH),(27,wH)],[(32,.dat (.prod wL wB) 37),(33,.row .str 9),(34,.row .byte 5)],64,[]⟩),(ao [(0,232),(0,233),(2,58),(1,29),(0,15)],⟨44,[(1,.ptr 32 0),(3,.own 33),(11,.h wL),(12,wH),(13,wH)],[(32,.dat (.prod wL wB) 37),(33,.row .byte 5)],64,[]⟩)]
def zra(r0:(qi0 fu).L 1):Nat->(qi0 fu).L 0:=Fx.lq (qay fu r0.f) (qvx fu r0.f) (fun r1=>[r1.s,r0.s])
def zsn:Nat->(qi0 fu).L 1:=Fx.lq (wm fu) (qqe fu) (fun r0=>[(zra fu r0 fu).s])
def zjn:=(qi0 fu).fi (qxc fu) [(zsn fu fu).s] call61
def zvm:IF:=⟨.fn 62,[.h wB],[],_,RS.mk (.h (.prod wI wI)) []⟩
def zwp:Fx wG zvm:=fx f62 62 func62 [(q5z fu).p,jz.p,nd.p] false [] am []
def ze1:=(zwp fu).fi (qlk fu) [] call62
def zsv:IF:=⟨.fn 34,[.h (.prod wL wB)],[],_,RS.mk (.h (.prod wI wI)) []⟩
def zqk:Fx wG zsv:=fx f34 34 func34 [(q60 fu).p,kw.p,(zjn fu).p,jz.p,(ze1 fu).p] false [] am []
def qzm:=(zqk fu).fi (qgb fu) [] call34
def z1o:IF:=⟨.fn 17,[.h wT],[],_,RS.mk (.tup [.h (.prod wL wB),.h (.prod wI wI)]) []⟩
def zdb:Fx wG z1o:=fx f17 17 func17 [(qnw fu).p,kw.p,(zit fu).p,⟨wq.e cd,yv⟩,⟨qf5.e cd,qh6⟩,(qzm fu).p,jz.p,nd.p] false [] am []
def qw4:=(zdb fu).fi (qbv fu) [] call17
def zp4:IF:=⟨.fn 88,[.h wP],[],_,RS.mk (.h .bool) []⟩
def zs4:Fx wG zp4:=fx f88 88 func88 [(uv fu).p] false [] am []
def qtm:=(zs4 fu).fi (qa6 fu) [] call88
def zja:IF:=⟨.fn 121,[.h wL,.fn 88 []],[],_,RS.mk (wH) []⟩
def q2s:Fx wG zja:=fx f121 121 func121 [(qtm fu).p] false [] am [(ao [(0,104),(0,105),(2,26),(1,13),(0,7)],⟨19,[(0,.h wL),(1,.fn 88 []),(7,wH),(8,wH)],[],64,[]⟩)]
def zxf:Nat->(q2s fu).L 0:=Fx.lq (qbx fu) (qtu fu) (fun r0=>[r0.s])
def q12:=(q2s fu).fi (qma fu) [(zxf fu fu).s] call121
def zl9:IF:=⟨.fn 87,[.h wL,.fn 88 []],[],_,RS.mk (.h wL) []⟩
def q85:Fx wG zl9:=fx f87 87 func87 [(q12 fu).p,(qtm fu).p] true [] am [(ao [(0,976),(0,977),(0,489),(2,122),(1,61),(0,31)],⟨42,[(0,.h wL),(1,.fn 88 []),(5,wH),(6,wH)],[],64,[]⟩)]
def zpu:Nat->(q85 fu).L 0:=Fx.lq (qtp fu) (q5o fu) (fun r0=>[r0.s])
def zk0:=(q85 fu).fi (q6l fu) [(zpu fu fu).s] call87
def z0b:IF:=⟨.fn 87,[.own 0,.fn 88 []],[(0,.row wP 86)],_,RS.mk (.own 1) [(0,.dead),(1,.row wP 86)]⟩
def q32:Fx wG z0b:=fx f87 87 func87 [(q12 fu).p,(qtm fu).p] true [] am [(ao [(0,976),(0,977),(0,489),(2,122),(1,61),(0,31)],⟨42,[(0,.own 32),(1,.fn 88 []),(5,wH),(6,wH)],[(0,.dead),(32,.row wP 86)],64,[]⟩)]
def zgb:Nat->(q32 fu).L 0:=Fx.lq (qdq fu) (qpn fu) (fun r0=>[r0.s])
def zhw:=(q32 fu).fi (qhj fu) [(zgb fu fu).s] call87
def zk1:IF:=⟨.fn 63,[.h wL],[],_,RS.mk (.tup [.own 0,.h .bool]) [(0,.row wP 50)]⟩
def zft:Fx wG zk1:=fx f63 63 func63 [(qjl fu).p,(zk0 fu).p,(qso fu).p,kw.p,⟨wq.e cd,yv⟩,(zhw fu).p] false [] am []
def qy3:=(zft fu).fi (qg8 fu) [] call63
def zdp:IF:=⟨.fn 149,[.h wB,.h .byte],[],_,RS.mk (wH) []⟩
def zs2:Fx wG zdp:=fx f149 149 func149 [⟨quh 176 vd,zbt⟩] false [] am []
def zgl:=zs2.fi qng [] call149
def zmd:IF:=⟨.fn 163,[.h wB,.h wB],[],_,RS.mk (.h .bool) []⟩
def zq2:Fx wG zmd:=fx f163 163 func163 [] false [] am []
def zt6:=zq2.fi qsp [] call163
def zsf:IF:=⟨.fn 177,[.h wB,.h wB],[],_,RS.mk (.h .bool) []⟩
def znh:Fx wG zsf:=fx f177 177 func177 [zt6.p] false [] am []
def zfs:=znh.fi qs2 [] call177
def zw1:IF:=⟨.fn 150,[.h wB,.h wB],[],_,RS.mk (.h wB) []⟩
def zrt:Fx wG zw1:=fx f150 150 func150 [zfs.p] false [] am []
def zqu:=zrt.fi qib [] call150
def zrb:IF:=⟨.fn 122,[.h wB],[],_,RS.mk (.tup [wS,wH]) []⟩
def zig:Fx wG zrb:=fx f122 122 func122 [zgl.p,zqu.p] false [] am []
def ztq:=zig.fi qi5 [] call122
def zfw:IF:=⟨.fn 152,[wS],[],_,RS.mk (.h .bool) []⟩
def zwz:Fx wG zfw:=fx f152 152 func152 [(qi1 fu).p,kw.p] false [] am []
def zuz:=(zwz fu).fi (qjx fu) [] call152
def zuo:IF:=⟨.fn 124,[wS],[],_,RS.mk (.tup [.h wP,.h .bool]) []⟩
def zrv:Fx wG zuo:=fx f124 124 func124 [q0e.p,(q1t fu).p,(zuz fu).p] false [] am []
def zge:=(zrv fu).fi (qne fu) [] call124
def z07:IF:=⟨.fn 126,[wS,wS],[],_,RS.mk (wS) []⟩
def qej:Fx wG z07:=fx f126 126 func126 [(q07 fu).p,(q3j fu).p,(ql2 fu).p,(zau fu).p,(q4u fu).p,(q6j fu).p,(q67 fu).p] false [] am [(ao [(0,60),(0,61),(0,31)],⟨43,[(0,wS),(1,wS)],[],64,[]⟩),(ao [(0,29),(0,15)],⟨43,[(0,wS),(1,wS),(21,.h .bool)],[],64,[]⟩),(ao [(0,28),(0,29),(0,15)],⟨43,[(0,wS),(1,wS)],[],64,[]⟩),(ao [(0,13),(0,7)],⟨43,[(0,wS),(1,wS),(12,.h .bool)],[],64,[]⟩)]
def zy0:(qej fu).L 0:=Fx.jm (qsy fu) []
def z17:(qej fu).L 1:=Fx.jm (qnb fu) [(zy0 fu).s]
def zm4:(qej fu).L 2:=Fx.jm (qsw fu) [(z17 fu).s]
def zfa:(qej fu).L 3:=Fx.jm (qja fu) [(zm4 fu).s]
def zeg:=(qej fu).fi (qc3 fu) [(zfa fu).s] call126
end
end
noncomputable section
open Go.Proofs
set_option linter.unusedVariables false
set_option maxRecDepth 100000
set_option maxHeartbeats 2000000
open Tryz
section
variable(fu:Nat)
def zxl:IF:=⟨.fn 89,[.h wB],[],_,RS.mk (.tup [.own 0,wH,.h (.prod wI wI)]) [(0,.row wP 50)]⟩
def rh:Fx wG zxl:=fx f89 89 func89 [jz.p,ztq.p,qty.p,q0i.p,⟨q4i.e (wv fu),zxj fu⟩,(zeg fu).p,nd.p,(zge fu).p,⟨q0t.e (vt fu),zmp fu⟩] false [] am [(ao [(0,8168),(0,8169),(2,2042),(1,1021),(0,511)],⟨103,[(4,.ptr 32 0),(5,.own 33),(6,wH),(11,.ptr 34 0),(77,wH),(78,wH)],[(32,.dat (.prod wI wI) 30),(33,.row wP 50),(34,.cells [.h (.int .u32),.h (.int .i32),.h (.int .u32),.iel 251 35 1,.u] 191),(35,.row .byte 250)],64,[]⟩),(ao [(0,8168),(0,8169),(2,2042),(1,1021),(0,511)],⟨103,[(4,.ptr 32 0),(5,.own 35),(6,wH),(11,.ptr 33 0),(77,wH),(78,.c (.int .i64 0))],[(32,.dat (.prod wI wI) 30),(33,.cells [.h (.int .u32),.h (.int .i32),.h (.int .u32),.c .nilIface,.own 34] 191),(34,.row .str 9),(35,.row wP 50)],64,[]⟩),(ao [(0,252),(0,253),(0,127)],⟨103,[(4,.ptr 32 0),(5,.own 33),(6,wH)],[(32,.dat (.prod wI wI) 30),(33,.row wP 50)],64,[]⟩),(ao [(0,15918),(0,15919),(1,497),(2,124),(1,62),(0,63)],⟨103,[(0,.h wB),(4,.ptr 32 0),(5,.own 33),(6,wH),(7,wS),(8,wH)],[(32,.dat (.prod wI wI) 30),(33,.row wP 50)],64,[]⟩),(ao [(0,15917),(0,7959),(1,497),(2,124),(1,62),(0,63)],⟨103,[(0,.h wB),(4,.ptr 32 0),(5,.own 33),(6,wH),(7,wS),(8,wH),(41,.h .bool)],[(32,.dat (.prod wI wI) 30),(33,.row wP 50)],64,[]⟩),(ao [(0,992),(0,993),(0,497),(2,124),(1,62),(0,63)],⟨103,[(0,.h wB),(4,.ptr 32 0),(5,.own 33),(6,wH)],[(32,.dat (.prod wI wI) 30),(33,.row wP 50)],64,[]⟩)]
def zk8:Nat->(rh fu).L 0:=Fx.lq (qg0 fu) (qyl fu) (fun r5=>[r5.s])
def zme:Nat->(rh fu).L 1:=Fx.lq (tg fu) (qes fu) (fun r3=>[(zk8 fu fu).s])
def za6:(rh fu).L 2:=Fx.jm (qb9 fu) [(zme fu fu).s]
def zzk(r0:(rh fu).L 5):(rh fu).L 3:=Fx.jm (qme fu r0.f) [(za6 fu).s,r0.s]
def ze0(r0:(rh fu).L 5):(rh fu).L 4:=Fx.jm (xi fu r0.f) [r0.s,(zzk fu r0).s]
def zzy:Nat->(rh fu).L 5:=Fx.lq (xl fu) (qx9 fu) (fun r0=>[(za6 fu).s,(ze0 fu r0).s])
def zhh:=(rh fu).fi (qnd fu) [(zzy fu fu).s] call89
def um:IF:=⟨.fn 64,[.ptr 0 0,.h wB,wH],[(0,.dat (.prod wI (.prod wI wI)) 68)],_,RS.mk (.tup [.h wT,.h .bool]) [(0,.dat (.prod wI (.prod wI wI)) 68)]⟩
def q4n:IF:=⟨.fn 35,[.ptr 0 0,.own 1,.h wB,wH],[(0,.dat (.prod wI (.prod wI wI)) 68),(1,.row wP 50)],_,RS.mk (.tup [.h wT,.h .bool]) [(0,.dat (.prod wI (.prod wI wI)) 68),(1,.dead)]⟩
def q7p(s129:EI wG um)(fu:Nat):Fx wG q4n:=fx f35 35 func35 [⟨wq.e cd,yv⟩,⟨qf5.e cd,qh6⟩,(qyo fu).p,(qy3 fu).p,s129.p] false [] am [(ao [(0,16360),(0,16361),(2,4090),(1,2045),(0,1023)],⟨73,[(0,.ptr 0 0),(3,wH),(8,.ptr 32 0),(10,.ptr 33 0),(48,.own 34),(49,wH),(50,wH)],[(0,.dat (.prod wI (.prod wI wI)) 68),(1,.dead),(32,.cells [wN,wN,wN] 26),(33,.cells [.own 35,wN,.own 36] 26),(34,.row wB 23),(35,.row wP 50),(36,.row wT 26)],64,[]⟩)]
def z2g(s129:EI wG um)(fu:Nat):Nat->(q7p s129 fu).L 0:=Fx.lq (w8 s129.f fu) (qwk s129.f fu) (fun r0=>[r0.s])
def zwa(s129:EI wG um)(fu:Nat):EI wG q4n:=(q7p s129 fu).fi (vn s129.f fu) [(z2g s129 fu fu).s] call35
def zho(s129:EI wG um)(fu:Nat):Fx wG um:=fx f64 64 func64 [(zhh fu).p,kw.p,jz.p,(zwa s129 fu).p] false [] am []
def zux(s129:EI wG um)(fu:Nat):EI wG um:=(zho s129 fu).fi (qnq s129.f fu) [] call64
def zgh:EI wG um := .rc (ru fu) (fun r=>qnq r fu) (fun _ _=>rfl) (fun _=>rfl) (fun s129=>zux s129 fu) (fun _=>rfl) fu
def z0m:IF:=⟨.fn 35,[.ptr 0 0,.h wL,.h wB,wH],[(0,.dat (.prod wI (.prod wI wI)) 68)],_,RS.mk (.tup [.h wT,.h .bool]) [(0,.dat (.prod wI (.prod wI wI)) 68)]⟩
def qza:Fx wG z0m:=fx f35 35 func35 [⟨wq.e cd,yv⟩,⟨qf5.e cd,qh6⟩,(qyo fu).p,(qy3 fu).p,(zgh fu).p] false [] am [(ao [(0,16360),(0,16361),(2,4090),(1,2045),(0,1023)],⟨73,[(0,.ptr 0 0),(3,wH),(8,.ptr 32 0),(10,.ptr 33 0),(48,.own 34),(49,wH),(50,wH)],[(0,.dat (.prod wI (.prod wI wI)) 68),(32,.cells [wN,wN,wN] 26),(33,.cells [.own 35,wN,.own 36] 26),(34,.row wB 23),(35,.row wP 50),(36,.row wT 26)],64,[]⟩)]
def zg1:Nat->(qza fu).L 0:=Fx.lq (qeo fu) (za5 fu) (fun r0=>[r0.s])
def zob:=(qza fu).fi (qh0 fu) [(zg1 fu fu).s] call35
def zhx:IF:=⟨.fn 15,[.h (.prod wL wB)],[],_,RS.mk (.tup [.h wT,.h (.prod wI wI)]) []⟩
def zp3:Fx wG zhx:=fx f15 15 func15 [(qzm fu).p,kw.p,(zob fu).p,(qnw fu).p,jz.p,nd.p] false [] am []
def qwa:=(zp3 fu).fi (wl fu) [] call15
def tz:IF:=⟨.fn 30,[.h wT],[],_,RS.mk (.h wT) []⟩
def q8b:IF:=⟨.fn 60,[.h (.list wT),.fn 30 []],[],_,RS.mk (.own 0) [(0,.row wT 26)]⟩
def q0o(s141:EI wG tz)(fu:Nat):Fx wG q8b:=fx f60 60 func60 [s141.p] false [] am [(ao [(0,232),(0,233),(2,58),(1,29),(0,15)],⟨22,[(1,.fn 30 []),(5,.own 32),(8,.h (.list wT)),(9,wH),(10,wH)],[(32,.row wT 26)],64,[]⟩)]
def z0a(s141:EI wG tz)(fu:Nat):Nat->(q0o s141 fu).L 0:=Fx.lq (qte s141.f fu) (zba s141.f fu) (fun r0=>[r0.s])
def zvg(s141:EI wG tz)(fu:Nat):EI wG q8b:=(q0o s141 fu).fi (q3q s141.f fu) [(z0a s141 fu fu).s] call60
def zxz(s141:EI wG tz)(fu:Nat):Fx wG tz:=fx f30 30 func30 [⟨wq.e cd,yv⟩,⟨qf5.e cd,qh6⟩,(zvg s141 fu).p] false [] am []
def zmv(s141:EI wG tz)(fu:Nat):EI wG tz:=(zxz s141 fu).fi (qpt s141.f fu) [] call30
def zrm:EI wG tz := .rc (qx0 fu) (fun r=>qpt r fu) (fun _ _=>rfl) (fun _=>rfl) (fun s141=>zmv s141 fu) (fun _=>rfl) fu
def zn6:IF:=⟨.fn 12,[.h wT,.own 0],[(0,.row wI 3)],_,RS.mk (.tup [.h wT,.h (.prod wI wI)]) [(0,.dead)]⟩
def qlq:Fx wG zn6:=fx f12 12 func12 [(qnw fu).p,kw.p,(zrm fu).p,nd.p,jz.p] true [] am [(ao [(0,14949),(0,7475),(1,934),(0,935),(2,58),(1,29),(0,15)],⟨43,[(2,.ptr 32 0),(4,.ptr 33 0),(5,.ptr 34 0),(7,wH),(8,wH),(15,.own 35),(16,wH),(17,wH),(30,.h .bool)],[(0,.dead),(32,.dat wT 26),(33,.cells [wN,wN,wN] 26),(34,.dat (.prod wI wI) 30),(35,.row wI 3)],64,[]⟩),(ao [(0,232),(0,233),(2,58),(1,29),(0,15)],⟨43,[(2,.ptr 32 0),(4,.ptr 33 0),(5,.ptr 34 0),(15,.own 35),(16,wH),(17,wH)],[(0,.dead),(32,.dat wT 26),(33,.cells [wN,wN,wN] 26),(34,.dat (.prod wI wI) 30),(35,.row wI 3)],64,[]⟩)]
def zrl(r0:(qlq fu).L 1):(qlq fu).L 0:=Fx.jm (qsd fu r0.f) [r0.s]
def zqi:Nat->(qlq fu).L 1:=Fx.lq (qs4 fu) (q98 fu) (fun r0=>[(zrl fu r0).s])
def zj2:=(qlq fu).fi (qy0 fu) [(zqi fu fu).s] call12
def zt4:IF:=⟨.fn 32,[.h wL,.h wL],[],_,RS.mk (.h .bool) []⟩
def q77(fu:Nat):Fx wG zt4:=fx f32 32 func32 [] false [] am [(ao [(0,464),(0,465),(0,233),(2,58),(1,29),(0,15)],⟨26,[(0,.h wL),(1,.h wL),(5,wH)],[],64,[]⟩)]
def zh5:Nat->(q77 fu).L 0:=Fx.lq (qb0 fu) (qn5 fu) (fun r0=>[r0.s])
def qy7:=(q77 fu).fi (qb3 fu) [(zh5 fu fu).s] call32
def znu:IF:=⟨.fn 33,[.h wB,.h wB],[],_,RS.mk (.h .bool) []⟩
def zv1:Fx wG znu:=fx f33 33 func33 [] false [] am []
def q7z:=zv1.fi qa0 [] call33
def u9:IF:=⟨.fn 14,[.h wT,.h wT],[],_,RS.mk (.h .bool) []⟩
def qjr(s143:EI wG u9)(fu:Nat):Fx wG u9:=fx f14 14 func14 [(qy7 fu).p,q7z.p,s143.p] false [] am [(ao [(0,464),(0,465),(0,233),(2,58),(1,29),(0,15)],⟨48,[(2,.ptr 32 0),(3,.ptr 33 0),(5,wH)],[(32,.dat wT 26),(33,.dat wT 26)],64,[]⟩),(ao [(0,28),(0,29),(0,15)],⟨48,[(2,.ptr 32 0),(3,.ptr 33 0)],[(32,.dat wT 26),(33,.dat wT 26)],64,[]⟩),(ao [(0,13),(0,7)],⟨48,[(2,.ptr 32 0),(3,.ptr 33 0),(28,.h .bool)],[(32,.dat wT 26),(33,.dat wT 26)],64,[]⟩)]
def zhm(s143:EI wG u9)(fu:Nat):Nat->(qjr s143 fu).L 0:=Fx.lq (qgq s143.f fu) (qu0 s143.f fu) (fun r2=>[r2.s])
def zcy(s143:EI wG u9)(fu:Nat):(qjr s143 fu).L 1:=Fx.jm (qqx s143.f fu) [(zhm s143 fu fu).s]
def zbs(s143:EI wG u9)(fu:Nat):(qjr s143 fu).L 2:=Fx.jm (qdj s143.f fu) [(zcy s143 fu).s]
def zxh(s143:EI wG u9)(fu:Nat):EI wG u9:=(qjr s143 fu).fi (qlw s143.f fu) [(zbs s143 fu).s] call14
def qn9:EI wG u9 := .rc (qa7 fu) (fun r=>qlw r fu) (fun _ _=>rfl) (fun _=>rfl) (fun s143=>zxh s143 fu) (fun _=>rfl) fu
def zof:IF:=⟨.fn 9,[],[],_,RS.mk (.h .bool) []⟩
def zff:Fx wG zof:=fx f9 9 func9 [x0s.p,(qw4 fu).p,(qwa fu).p,(zj2 fu).p,(qn9 fu).p] false [] am []
def q7m:=(zff fu).fi (qik fu) [] call9
end
end
end Go.Sym
namespace Go.Sym
noncomputable section
open Go.Proofs
set_option linter.unusedVariables false
set_option maxRecDepth 100000
set_option maxHeartbeats 2000000
open Tryz
section
variable(fu:Nat)
def zih:IF:=⟨.fn 18,[.h (.prod wL wB),.h (.prod wL wB)],[],_,RS.mk (.h .bool) []⟩
def zik:Fx wG zih:=fx f18 18 func18 [(qy7 fu).p,q7z.p] false [] am []
def zb2:=(zik fu).fi (qfi fu) [] call18
def q4x:IF:=⟨.fn 6,[.h wT],[],_,RS.mk (.h .bool) []⟩
def z1k:Fx wG q4x:=fx f6 6 func6 [(q7m fu).p,(qw4 fu).p,(zb2 fu).p,(qwa fu).p,(qn9 fu).p] false [] am []
def zdz:=(z1k fu).fi (qaz fu) [] call6
def zy1:(q4x.e (qaz fu)).Sound wG:=(zdz fu).h
def q7w:IF:=⟨.fn 7,[.h (.prod wL wB)],[],_,RS.mk (.h .bool) []⟩
def zxq:Fx wG q7w:=fx f7 7 func7 [(q7m fu).p,(qwa fu).p,(qn9 fu).p,(qw4 fu).p] false [] am []
def z1m:=(zxq fu).fi (qbl fu) [] call7
def zdf:(q7w.e (qbl fu)).Sound wG:=(z1m fu).h
end
end
end Go.Sym

namespace Go.Sym
def me{x:Int}(h1 : -9223372036854775808<=x:=by omega)(h2:x<9223372036854775808:=by omega):af x=x:=by
 unfold af IntKind.wrap;simp[IntKind.signed,IntKind.bits];omega
def a7{α:Type}{b:Bool}{x y:α}(h:b=true:=by first|rfl|simp;done):(bif b then x else y)=x:=by subst h;rfl
def bc{α:Type}{b:Bool}{x y:α}(h:b=false:=by first|rfl|simp;done):(bif b then x else y)=y:=by subst h;rfl
def ft{α:Type}{p:Prop}[Decidable p]{x y:α}:(bif decide p then x else y)=if p then x else y:=by by_cases h:p<;>simp[h]
def aj{α:Type}{p:Prop}[Decidable p]{x y:α}(h:p:=by first|omega|simp;done|simp;omega):(bif decide p then x else y)=x:=a7 (decide_eq_true h)
def a6{α:Type}{p:Prop}[Decidable p]{x y:α}(h:¬p:=by first|omega|simp;done|simp;omega):(bif decide p then x else y)=y:=bc (decide_eq_false h)
def zrn{α:Type}{b:Bool}{x y:α}:(bif !b then x else y)=if b=false then x else y:=by cases b<;>rfl
def jg{α:Type}{a b:Int}{x y:α}:(bif a != b then x else y)=if a≠b then x else y:=by
 by_cases h:a=b
 ·rw[bc (by simp[h]),qW (by simp[h])]
 ·rw[a7 (by simp[h]),qX h]
def ke{α:Type}{a b:Int}{x y:α}:(bif a==b then x else y)=if a=b then x else y:=by
 by_cases h:a=b
 ·rw[a7 (by simp[h]),qX h]
 ·rw[bc (by simp[h]),qW h]
def qaw{α:Type}{a b:UInt8}{x y:α}:(bif a==b then x else y)=if a=b then x else y:=by
 by_cases h:a=b
 ·rw[a7 (by simp[h]),qX h]
 ·rw[bc (by simp[h]),qW h]
def qkz{α:Type}{a b:UInt8}{x y:α}:(bif a != b then x else y)=if a≠b then x else y:=by
 by_cases h:a=b
 ·rw[bc (by simp[h]),qW (by simp[h])]
 ·rw[a7 (by simp[h]),qX h]
def qta{α β:Type}(l:List α)(i:Int)(f:α->Option β):(bif decide (0<=i/\i.toNat<List.length l) then(l[i.toNat]?).bind f else none)=(aq l i).bind f:=by
 unfold aq;by_cases h:0<=i
 ·by_cases h2:i.toNat<l.length
  ·simp[h,h2]
  ·simp[h,h2]
 ·simp[h]
def qt0{α:Type}(l:List α)(k:Nat)(h:k<l.length):aq l (k:Int)=some l[k]:=by
 unfold aq;rw[qX];simp[h]
def da{α:Type}(ab:List α)(c:α)(aa:List α):aq (ab++c::aa) (ab.length:Int)=some c:=by
 unfold aq;rw[qX];simp
def ng{α:Type}(ab:List α)(c:α)(aa:List α):(ab++c::aa)[((ab.length:Nat):Int).toNat]? = some c:=by simp
def tu{α:Type}(ab:List α)(c d:α)(aa:List α):List.set (ab++c::aa) ((ab.length:Nat):Int).toNat d=ab++d::aa:=by simp
def a8(k:Nat)(h:k<9223372036854775807:=by omega):af ((k:Int)+1)=((k+1:Nat):Int):=by rw[me];omega
end Go.Sym
namespace Go.Sym
def ig(P:UInt8->Prop)(h:∀n:_root_.Fin 256,P (UInt8.ofNat n.val))(c:UInt8):P c:=by
 have:=h ⟨c.toNat,c.toNat_lt⟩;simpa using this
def lo(c:UInt8):UInt8:=if 65<=c/\c<=90 then c+32 else c
def bl(c:UInt8):Bool:=c==32||c==9
def ew(l:List UInt8):List UInt8:=(l.reverse.dropWhile bl).reverse
def du(l:List UInt8):List UInt8:=l.dropWhile bl
def jt(l:List UInt8):List UInt8:=ew (du l)
def qj7(t:List UInt8)(c:UInt8):ew (t++[c])=if bl c then ew t else t++[c]:=by
 unfold ew;rw[List.reverse_append,List.reverse_singleton,wM,List.dropWhile];cases bl c
 ·simp
 ·simp
def uj(n:Nat)(h:n<1000000000:=by omega):af (((n+1:Nat):Int)-1)=(n:Int):=by rw[me];omega
def qnz{α:Type}(t:List α)(c:α):aq (t++[c]) (t.length:Int)=some c:=da t c []
def qwm{α:Type}(t:List α)(c:α):List.take ((t.length:Nat):Int).toNat (t++[c])=t:=by simp
def vi{α:Type}(t:List α)(c:α):((t++[c]).length:Int)=((t.length+1:Nat):Int):=by simp
def qab{α:Type}(ab:List α)(aa:List α):List.drop ((ab.length:Nat):Int).toNat (ab++aa)=aa:=by simp
def uq{α:Type}(ab:List α)(aa:List α):List.take ((ab.length:Nat):Int).toNat (ab++aa)=ab:=by simp
def qhq{α:Type}(ab:List α)(c:α)(aa:List α):List.drop ((ab.length+1:Nat):Int).toNat (ab++c::aa)=aa:=by
 rw[show((ab.length+1:Nat):Int).toNat=(ab++[c]).length by simp,show ab++c::aa=(ab++[c])++aa by simp]
 simp
def iw{α:Type}(ab:List α)(c:α)(aa:List α):((ab++c::aa).length:Int)=((ab.length+aa.length+1:Nat):Int):=by simp;omega
def zql{α:Type}(ab:List α)(aa:List α):((ab++aa).length:Int)=((ab.length+aa.length:Nat):Int):=by simp
def qet(k:UInt8)(t r:List UInt8)(h:∀x∈t,x≠k):Lib.indexByte (t++k::r) k=(t.length:Int):=by
 induction t with
 |nil=>simp[Lib.indexByte]|cons c t ih=>
  have hc:=h c qH;rw[wK,Lib.indexByte,ih (fun x hx=>h x (qE _ hx)),qW (by simpa using hc),qW (by simp<;>omega)]
  simp
def qcs(k:UInt8)(t:List UInt8)(h:∀x∈t,x≠k):Lib.indexByte t k = -1:=by
 induction t with
 |nil=>rfl|cons c t ih=>
  have hc:=h c qH;rw[Lib.indexByte,ih (fun x hx=>h x (qE _ hx)),qW (by simpa using hc),qX (by decide)]
def sm(k:UInt8):∀(s:List UInt8),(∃t r,s=t++k::r/\∀x∈t,x≠k)\/∀x∈s,x≠k
 |[] => .inr (fun _ h=>by cases h)
 |c::s=>by
  by_cases hc:c=k
  ·subst hc;exact .inl ⟨[],s,rfl,fun _ h=>by cases h⟩
  ·rcases sm k s with⟨t,r,rfl,h⟩|h
   ·exact .inl ⟨c::t,r,rfl,fun x hx=>(List.mem_cons.1 hx).elim (fun e=>e▸hc) (h x)⟩
   ·exact .inr fun x hx=>(List.mem_cons.1 hx).elim (fun e=>e▸hc) (h x)
def q53(k:UInt8)(s:List UInt8):(0<=Lib.indexByte s k)↔k∈s:=by
 rcases sm k s with⟨t,r,rfl,h⟩|h
 ·rw[qet k t r h];simp
 ·rw[qcs k s h];constructor
  ·intro h;omega
  ·intro hk;exact absurd rfl (h k hk)
def fp{α:Type}{x y:α}:(bif !false then x else y)=x:=rfl
def dd{α:Type}{x y:α}:(bif !true then x else y)=y:=rfl
def zye(a b:UInt8):(a==b)=(b==a):=by
 by_cases h:a=b
 ·rw[h]
 ·rw[beq_false_of_ne h,beq_false_of_ne (Ne.symm h)]
def q57{a b:Nat}(h:a<b):Nat.blt a b=true:=Nat.ble_eq_true_of_le h
def q0r{a b:Nat}(h:¬a<b):Nat.blt a b=false:=by
 cases hq:Nat.blt a b
 ·rfl
 ·exact absurd (Nat.le_of_ble_eq_true hq) h
def qos(l:List UInt8)(k:Nat)(c:UInt8)(h:l[k]? = some c):(⟨l.toArray⟩:ByteArray).get! k=c:=by
 obtain⟨hk,rfl⟩:=List.getElem?_eq_some_iff.1 h;show(l.toArray)[k]! = _;simp[hk]
def zce(l:List UInt8):(⟨l.toArray⟩:ByteArray).size=l.length:=by simp[ByteArray.size]
def q2o(s:List UInt8)(p:Nat)(c:UInt8)(h:s[p]? = some c)(hc:c.toNat<128):e8 s p=(c.toNat,1):=by
 unfold e8 Utf8.decode;simp only[Nat.add_zero,qos s p c h,hc,if_true]
def zs6(s:List UInt8)(p:Nat)(c:UInt8)(h:s[p]? = some c)(hc:128<=c.toNat):128<=(e8 s p).1/\1<=(e8 s p).2/\∀j,j<(e8 s p).2->∃d,s[p+j]? = some d/\128<=d.toNat:=by
 have hn:¬c.toNat<128:=by omega
 have cont:∀k,(decide (p+k<(⟨s.toArray⟩:ByteArray).size)&&((⟨s.toArray⟩:ByteArray).get! (p+k)).toNat/64==2)=true->∃d,s[p+k]? = some d/\128<=d.toNat:=by
  intro k hk;simp only[qA,decide_eq_true_eq,beq_iff_eq,zce]at hk;obtain⟨h1,h2⟩:=hk;refine⟨s[p+k],by simp[h1],?_⟩
  rw[qos s (p+k) s[p+k] (by simp[h1])]at h2
  omega
 have z:∀j,j<1->∃d,s[p+j]? = some d/\128<=d.toNat:=fun j hj=>by
  obtain rfl:j=0:=by omega
  exact⟨c,h,hc⟩
 unfold e8 Utf8.decode;simp only[Nat.add_zero,qos s p c h,hn,if_false];split
 ·rename_i hk;simp only[qA]at hk;have c1:=cont 1 (by simpa using hk.2)
  split
  ·rename_i hge;refine⟨hge,by simp,fun j hj => ?_⟩
   match j,hj with|0,_=>exact⟨c,h,hc⟩|1,_=>exact c1
  ·exact⟨by simp[Utf8.runeError],wF _,z⟩
 ·split
  ·rename_i hk;simp only[qA]at hk;have c1:=cont 1 (by simpa using hk.1.2)
   have c2:=cont 2 (by simpa using hk.2)
   split
   ·rename_i hge;simp only[qA,decide_eq_true_eq]at hge;refine⟨by simp only;omega,by simp,fun j hj => ?_⟩
    match j,hj with|0,_=>exact⟨c,h,hc⟩|1,_=>exact c1|2,_=>exact c2
   ·exact⟨by simp[Utf8.runeError],wF _,z⟩
  ·split
   ·rename_i hk;simp only[qA]at hk;have c1:=cont 1 (by simpa using hk.1.1.2)
    have c2:=cont 2 (by simpa using hk.1.2)
    have c3:=cont 3 (by simpa using hk.2)
    split
    ·rename_i hge;simp only[qA,decide_eq_true_eq]at hge;refine⟨by simp only;omega,by simp,fun j hj => ?_⟩
     match j,hj with|0,_=>exact⟨c,h,hc⟩|1,_=>exact c1|2,_=>exact c2|3,_=>exact c3
    ·exact⟨by simp[Utf8.runeError],wF _,z⟩
   ·exact⟨by simp[Utf8.runeError],wF _,z⟩
def zbu(n:Int)(h:128<=n):∃t c,nv n=t++[c]/\128<=c.toNat/\t.length<=3:=by
 unfold nv Utf8.encode;have hc:∀c:Nat,(if Utf8.valid n=true then n.toNat else Utf8.runeError)=c->128<=c:=by
  intro c hc;split at hc
  ·omega
  ·subst hc;decide
 have last:∀m:Nat,128<=(UInt8.ofNat (0x80+m%64)).toNat:=fun m=>by
  simp only[UInt8.toNat_ofNat'];omega
 generalize hq:(if Utf8.valid n=true then n.toNat else Utf8.runeError)=c
 have hc:=hc c hq;simp only[];rw[qW]
 split
 ·exact⟨[_],_,rfl,last _,by simp⟩
 ·split
  ·exact⟨[_,_],_,rfl,last _,by simp⟩
  ·exact⟨[_,_,_],_,rfl,last _,by simp⟩
def zxb(c:UInt8):(c+97)-65=c+32:=by
 rw[UInt8.sub_eq_add_neg,UInt8.add_assoc];rfl
def q5v(fu:Nat):∀(n:Nat)(ab aa:List UInt8),aa.length<n->ab.length+aa.length<=9223372036854775807 ->
  qas fu n ((ab.length+aa.length:Nat):Int) (ab.length:Int) (ab++aa)=some (ab++aa.map lo)
 |0,_,_,h,_=>absurd h (by omega)|n+1,ab,[],_,_=>by simp[qas,qmi]|n+1,ab,c::aa,h,hb=>by
  simp only[qL]at h hb;have ih:=fun d=>q5v fu n (ab++[d]) aa (by omega) (by simp;omega)
  simp only[qM,qL,qZ,qS,wM,wO]at ih;have e:((ab.length+(c::aa).length:Nat):Int)=((ab.length+1+aa.length:Nat):Int):=by simp only[qL];omega
  have hl:0<=(ab.length:Int)/\(ab.length:Int).toNat<(ab++c::aa).length:=by simp
  rw[e];simp only[qas,qmi];rw[aj,aj hl,ng,qB,tu,a8 _,ft,ft,ih,ih,aj hl,qB]
  unfold lo;simp only[List.map_cons,zxb];by_cases h1:(65:UInt8)<=c
  ·by_cases h2:c<=90
   ·simp[h1,h2]
   ·simp[h1,h2]
  ·simp[h1]
def q33(fu:Nat)(s:List UInt8)(h:s.length<fu)(hb:s.length<=maxLen):qc0 fu s=some (s.map lo):=by
 unfold qc0;rw[aj hb];have:=q5v fu fu [] s h (by simpa [maxLen] using hb)
 simpa using this
def zxc(fu:Nat)(a b:List UInt8)(ha:a.length<fu)(hb:b.length<fu)(ha':a.length<=maxLen)(hb':b.length<=maxLen):lr fu a b=some (a.map lo==b.map lo):=by
 unfold lr;rw[ke,q33 fu a ha ha',q33 fu b hb hb'];by_cases h:(a.length:Int)=b.length
 ·rw[qX h];rfl
 ·rw[qW h];have:(a.map lo==b.map lo)=false:=by
   rw[beq_eq_false_iff_ne];intro q;apply h;have:=congrArg List.length q;simp only[wC]at this;omega
  rw[this]
def zgx(c:UInt8):r9 (c.toNat:Int)=c:=by
 unfold r9;have:=c.toNat_lt;rw[show((c.toNat:Int)%256).toNat=c.toNat by omega]
 simp
def zam(s:List UInt8)(c:UInt8):qee s c=some (Lib.indexByte s c):=rfl
def zy3(fu:Nat)(cs:List UInt8)(c:UInt8)(h:c.toNat<128):ul fu cs (c.toNat:Int)=some (Lib.indexByte cs c):=by
 unfold ul qek;rw[aj,aj,zgx,zam];rfl
def zjf(fu n:Nat):∀(cs:List UInt8)(p:Nat),(∀c∈cs,c.toNat<128)->cs.length-p<n->p<=cs.length->qfa fu n cs p=some (-1):=by
 induction n with
 |zero=>intro cs p _ h;omega|succ n ih=>
  intro cs p hA h hp;rw[qfa,qxh];by_cases hlt:p<cs.length
  ·have e:cs[p]? = some cs[p]:=List.getElem?_eq_getElem hlt;have hc:=hA cs[p] (List.getElem_mem hlt);rw[a7 (q57 hlt),q2o cs p _ e hc,ke,qW (by simp only;omega)]
   exact ih cs (p+1) hA (by omega) (by omega)
  ·rw[bc (q0r hlt)]
def zh8(fu:Nat)(cs:List UInt8)(r:Int)(hr:128<=r)(hA:∀c∈cs,c.toNat<128)(hfu:cs.length<fu)(hb:cs.length<1000):ul fu cs r=some (-1):=by
 unfold ul qek;rw[aj,a6,ke]
 by_cases h1:r=65533
 ·rw[qX h1];exact zjf fu fu cs 0 hA (by omega) (by omega)
 rw[qW h1];have hv:∃b,qnp r=some b:=by
  unfold qnp;simp only[ft]
  repeat' split
  all_goals exact⟨_,rfl⟩
 obtain⟨b,hv⟩:=hv;rw[hv,qB];cases b
 ·rfl
 rw[show(!true)=false from rfl,qF]
 obtain⟨t,c,e,hc,ht⟩:=zbu r hr;rw[e,vi,uj _]
 obtain⟨n,rfl⟩:∃n,fu=n+1:=⟨fu-1,by omega⟩
 rw[qmu,qw9];by_cases hl:t.length<cs.length
 ·have hcs:=hA cs[t.length] (List.getElem_mem hl);have hne:cs[t.length]≠c:=fun e=>by rw[e]at hcs;omega
  rw[aj,qt0 _ _ hl,qB,qnz,qB,qkz,qX hne,a8 _,aj,qB,zam,qB,qcs,aj (by decide)]
  intro x hx e;have:=hA x (List.mem_of_mem_drop hx);rw[e]at this;omega
 ·rw[a6]
def lf(cs:List UInt8):List Bool:=cs.foldl (fun m c=>m.set c.toNat true) (List.replicate 256 false)
structure AC(cs:List UInt8):Prop where
 two:2<=cs.length
 few:cs.length<100
 low:∀c∈cs,c.toNat<128
 set:∀n,qcc (n+100) cs=some (lf cs,true)
 get:∀c:UInt8,(lf cs)[c.toNat]? = some (cs.contains c)
 len:(lf cs).length=256
def qx8{cs:List UInt8}(A:AC cs)(c:UInt8):qbk c (lf cs)=some (cs.contains c,lf cs):=by
 unfold qbk;rw[A.get];rfl
def zbx{cs:List UInt8}(A:AC cs)(fu n:Nat):∀(ab aa:List UInt8),aa.length<n->ab.length+aa.length<1000000000 ->
  ∃r,qcl fu n (ab++aa) (ab.length:Int) (lf cs)=some r/\decide (0<=r)=aa.any cs.contains:=by
 induction n with
 |zero=>intro ab aa h;omega|succ n ih=>
  intro ab aa h hb;rw[qcl,qw0]
  cases aa with
  |nil=>rw[a6];exact⟨-1,rfl,rfl⟩|cons c aa=>
   simp only[qL]at h hb;rw[iw,aj,da,qB,qx8 A,qB]
   cases hc:cs.contains c
   ·obtain⟨r,h1,h2⟩:=ih (ab++[c]) aa (by omega) (by simp;omega)
    refine⟨r,?_,by rw[h2,List.any_cons,hc,Bool.false_or]⟩
    rw[a8 _]
    simpa using h1
   ·exact⟨_,rfl,by rw[List.any_cons,hc,Bool.true_or];exact decide_eq_true (by omega)⟩
def zix{cs:List UInt8}(A:AC cs)(fu:Nat)(hfu:100<=fu)(s:List UInt8):∀(n p:Nat),s.length-p<n->p<=s.length ->
  ∃r,qgh fu n cs s p=some r/\decide (0<=r)=(s.drop p).any cs.contains:=by
 intro n
 induction n with
 |zero=>intro p h;omega|succ n ih=>
  intro p h hp;rw[qgh,qsv];by_cases hlt:p<s.length
  ·have e:s[p]? = some s[p]:=List.getElem?_eq_getElem hlt;have hd:s.drop p=s[p]::s.drop (p+1):=List.drop_eq_getElem_cons hlt;rw[a7 (q57 hlt)];by_cases hc:s[p].toNat<128
   ·rw[q2o s p _ e hc];simp only;rw[zy3 fu cs _ hc,qB,ft,hd,List.any_cons];by_cases hm:s[p]∈cs
    ·rw[qX ((q53 _ _).2 hm)];exact⟨_,rfl,by rw[show cs.contains s[p]=true by simpa using hm,Bool.true_or];exact decide_eq_true (by omega)⟩
    ·rw[qW (fun h=>hm ((q53 _ _).1 h))]
     obtain⟨r,h1,h2⟩:=ih (p+1) (by omega) (by omega)
     exact⟨r,h1,by rw[h2,show cs.contains s[p]=false by simpa using hm,Bool.false_or]⟩
   ·obtain⟨q1,q2,q3⟩:=zs6 s p _ e (by omega)
    rw[zh8 fu cs _ (by omega) A.low (by have:=A.few;omega) (by have:=A.few;omega),qB,a6 (by decide)]
    have hle:p+(e8 s p).2<=s.length:=by
     obtain⟨d,hd,_⟩:=q3 ((e8 s p).2-1) (by omega)
     have:=(List.getElem?_eq_some_iff.1 hd).1;omega
    obtain⟨r,h1,h2⟩:=ih (p+(e8 s p).2) (by omega) hle
    refine⟨r,h1,?_⟩;rw[h2];have:∀w,(∀j,j<w->∃d,s[p+j]? = some d/\128<=d.toNat)->(s.drop (p+w)).any cs.contains=(s.drop p).any cs.contains:=by
     intro w
     induction w with
     |zero=>intro _;rfl|succ w ihw=>
      intro hw;rw[← ihw (fun j hj=>hw j (by omega))]
      obtain⟨d,hd,hd2⟩:=hw w (by omega)
      obtain⟨k1,k2⟩:=List.getElem?_eq_some_iff.1 hd;rw[List.drop_eq_getElem_cons k1,k2,List.any_cons,show cs.contains d=false by
       simp only[List.contains_eq_mem,decide_eq_false_iff_not];intro hm;have:=A.low d hm;omega,Bool.false_or]
      rfl
    exact this _ q3
  ·rw[bc (q0r hlt)];exact⟨-1,rfl,by rw[List.drop_eq_nil_of_le (by omega)];rfl⟩
def zre{cs:List UInt8}(A:AC cs)(fu:Nat)(s:List UInt8)(hfu:100<=fu)(h:s.length<fu)(hb:s.length<1000000000):qhd fu s cs=some (s.any cs.contains):=by
 unfold qhd;have:∃r,qlx fu s cs=some r/\decide (0<=r)=s.any cs.contains:=by
  unfold qlx;have h2:=A.two;rw[bc (by cases cs with
   |nil=>simp at h2| cons a b=>rfl),ke,qW]
  unfold qx3;rw[qB,ft];split
  ·obtain⟨n,rfl⟩:∃n,fu=n+100:=⟨fu-100,by omega⟩
   rw[A.set,qB];simp only[A.len];rw[a7 (by rw[List.length_replicate];rfl),a7]
   have:=zbx A (n+100) (n+100) [] s (by omega) (by simpa using hb)
   simpa using this
  ·have:=zix A fu hfu s fu 0 (by omega) (by omega)
   simpa [qhf] using this
 obtain⟨r,h1,h2⟩:=this;rw[h1,qB,h2]
def zr4:∀n:_root_.Fin 256,(lf [13,10,0])[(UInt8.ofNat n.val).toNat]? = some (([13,10,0]:List UInt8).contains (UInt8.ofNat n.val)):=by decide +kernel
def ac1:AC [13,10,0]:=⟨by decide,by decide,by decide,fun n=>by kernel_rfl,fun c=>ig (fun c=>(lf [13,10,0])[c.toNat]? = some (([13,10,0]:List UInt8).contains c)) zr4 c,by decide +kernel⟩
def zvf:∀n:_root_.Fin 256,(lf [32,9])[(UInt8.ofNat n.val).toNat]? = some (([32,9]:List UInt8).contains (UInt8.ofNat n.val)):=by decide +kernel
def vc:AC [32,9]:=⟨by decide,by decide,by decide,fun n=>by kernel_rfl,fun c=>ig (fun c=>(lf [32,9])[c.toNat]? = some (([32,9]:List UInt8).contains c)) zvf c,by decide +kernel⟩
def q87(c:UInt8):([32,9]:List UInt8).contains c=bl c:=by rw[Bool.eq_iff_iff];simp[bl]
def qrf(c:UInt8)(s:List UInt8):ew (c::s)=if ew s=[] then(if bl c then[] else[c]) else c::ew s:=by
 unfold ew;rw[List.reverse_cons];generalize s.reverse=r
 induction r with
 |nil=>simp[List.dropWhile];cases bl c<;>rfl
 |cons x r ih=>
  rw[wK,List.dropWhile,List.dropWhile];cases bl x
  ·simp
  ·simpa using ih
def ne(c:UInt8)(s:List UInt8):du (c::s)=if bl c then du s else c::s:=by
 unfold du;rw[List.dropWhile];cases bl c<;>rfl
def qpy:∀s:List UInt8,du (ew s)=jt s
 |[]=>rfl|c::s=>by
  unfold jt;have ih:=qpy s;unfold jt at ih;rw[qrf,ne];cases hc:bl c
  ·simp only[wJ,if_false];rw[qrf,hc];simp only[wJ,if_false];split
   ·rw[ne,hc];rfl
   ·rw[ne,hc];rfl
  ·simp only[if_true];rw[← ih];split
   ·rename_i h;rw[h]
   ·rw[ne,hc];rfl
def qep(s:List UInt8):(ew s).length<=s.length:=by
 unfold ew;rw[List.length_reverse];have:=(List.dropWhile_sublist bl (l:=s.reverse)).length_le;simpa using this
def rl(s:List UInt8):(du s).length<=s.length:=(List.dropWhile_sublist bl).length_le
def zbi(s:List UInt8):(jt s).length<=s.length:=Nat.le_trans (qep _) (rl _)
def yn(s:List UInt8):Bool := !(s.head?.any bl) && !(s.getLast?.any bl)
def zeu(s:List UInt8):decide (jt s=s)=yn s:=by
 unfold yn;cases hf:s.head?.any bl
 ·cases hl:s.getLast?.any bl
  ·rw[decide_eq_true];rfl;unfold jt;have h1:du s=s:=by
    cases s with|nil=>rfl|cons c s=>rw[ne];simp at hf;rw[hf];rfl
   rw[h1];rcases List.eq_nil_or_concat s with rfl|⟨t,c,rfl⟩
   ·rfl
   ·rw[List.concat_eq_append]at *;rw[qj7];simp at hl;rw[hl];rfl
  ·rw[decide_eq_false];rfl;rw[← qpy];rcases List.eq_nil_or_concat s with rfl|⟨t,c,rfl⟩
   ·simp at hl
   ·rw[List.concat_eq_append]at *;simp at hl;rw[qj7,hl,qX rfl];intro e;have:=Nat.le_trans (rl (ew t)) (qep t);rw[e]at this;simp at this;omega
 ·rw[decide_eq_false];rfl
  cases s with
  |nil=>simp at hf|cons c s=>
   simp at hf;unfold jt;rw[ne,hf,qX rfl];intro e;have:=Nat.le_trans (qep (du s)) (rl s);rw[e]at this;simp at this;omega
def qey(c:UInt8):t7 c=some (bl c):=by unfold t7 bl;cases c==32<;>rfl
def jx(f:Int×Int):e7 f=some (f.1 != 0):=rfl
def su(c:UInt8):Bool:=decide (33<=c)&&decide (c<=126)&&c != 58
def io(s:List UInt8):Bool:=s != []&&decide (s.length<=60)&&s.all su
def zwb(c:UInt8):qis c=some (su c):=by
 unfold qis su;cases decide (33<=c)<;>cases decide (c<=126)<;>rfl
def zbw(fu n:Nat):∀(ab aa:List UInt8),aa.length<n->ab.length+aa.length<1000000000 ->
  qdh fu n (ab++aa) ((ab.length+aa.length:Nat):Int) (ab.length:Int)=some (aa.all su):=by
 induction n with
 |zero=>intro ab aa h;omega|succ n ih=>
  intro ab aa h hb;rw[qdh,qw2]
  cases aa with
  |nil=>rw[a6];rfl|cons c aa=>
   simp only[qL]at h hb ⊢;rw[aj,da,qB,zwb,qB,List.all_cons]
   cases hc:su c
   ·rfl
   ·have:=ih (ab++[c]) aa (by omega) (by simp;omega)
    rw[a8 _]
    simp only[qS,wM,qM,qL,qZ]at this;rw[show ab.length+0+1+aa.length=ab.length+(aa.length+1) by omega]at this
    simpa using this
def zn4(fu:Nat)(s:List UInt8)(h:61<fu:=by omega):qlc fu s=some (io s):=by
 unfold qlc io
 cases s with
 |nil=>rfl|cons c s=>
  rw[show(!c::s==([]:List UInt8))=true from rfl,show(c::s != ([]:List UInt8))=true from rfl,qT,ft]
  split
  ·rename_i hl;simp only[qL]at hl;unfold qnv;have:=zbw fu fu [] (c::s) (by simp only[qL];omega) (by simp only[qL,qZ];omega)
   simp only[List.nil_append,qZ,wO]at this;rw[show(0:Int)=((0:Nat):Int) from rfl,this,decide_eq_true (by simp only[qL];omega)]
   rfl
  ·rename_i hl;rw[decide_eq_false (by omega)]
   rfl
def o9(s:List UInt8):Bool := !(s.any ([13,10,0]:List UInt8).contains)&&yn s
def q2u(fu:Nat)(s:List UInt8)(hfu:100<=fu)(h:s.length<fu)(hb:s.length<1000000000):qjv fu s=some (o9 s):=by
 unfold qjv qp6 o9;rw[zre ac1 fu s hfu h hb,qB,qB];cases s.any ([13,10,0]:List UInt8).contains
 ·rw[fp];unfold yn
  cases s with
  |nil=>rfl|cons c t=>
   rw[bc,show aq (c::t) (0:Int)=some c from rfl,qB,qey,qB]
   rw[show(c::t).head?.any bl=bl c from rfl]
   cases bl c
   ·rw[fp];rcases List.eq_nil_or_concat (c::t) with e|⟨u,d,e⟩
    ·cases e
    ·rw[List.concat_eq_append]at e;rw[e]at hb ⊢;simp only[qM,qL,qZ]at hb;rw[vi,uj _,qnz,qB,qey,qB]
     simp
   ·rfl
 ·rfl
def q1w(fu n:Nat):∀(s:List UInt8),s.length<n->s.length<1000000000->qde fu n s (lf [32,9])=some (ew s,lf [32,9]):=by
 induction n with
 |zero=>intro s h;omega|succ n ih=>
  intro s h hb;rw[qde,qxl];rcases List.eq_nil_or_concat s with rfl|⟨t,c,rfl⟩
  ·rw[a6];rfl
  ·rw[List.concat_eq_append]at *;simp only[qM,qL,qZ]at h hb;rw[vi,aj,uj _,qnz,qB,qx8 vc,qB,qwm,aj,ih t (by omega) (by omega),qj7,q87]
   cases bl c<;>rfl
def qub(fu:Nat)(s:List UInt8)(hfu:100<=fu:=by omega)(h:s.length<fu:=by omega)(hb:s.length<1000000000:=by omega):qd7 fu s [32,9]=some (ew s):=by
 unfold qd7
 cases s with
 |nil=>rfl|cons c s=>
  rw[bc]
  unfold qm0;rw[bc]
  unfold qou;rw[bc (by decide)]
  unfold qks;rw[bc]
  unfold qo4;obtain⟨n,rfl⟩:∃n,fu=n+100:=⟨fu-100,by omega⟩
  rw[vc.set,qB];simp only[vc.len];rw[a7 (by rw[List.length_replicate];rfl),a7]
  unfold qcw;rw[q1w _ _ _ h hb];rfl
def ou(n v:List UInt8):Int:=if io n then(if 4000<v.length then 1 else if o9 v then 0 else 11) else 10
def tk(c:UInt8):Bool:=decide (33<=c)&&decide (c<=126) && !([40,41,60,62,64,44,59,58,92,34,47,91,93,63,61,42,37,39]:Bs).contains c
def zwc:∀n:_root_.Fin 256,ox (UInt8.ofNat n.val)=some (tk (UInt8.ofNat n.val)):=by decide +kernel
def qew(c:UInt8):ox c=some (tk c):=ig (fun c=>ox c=some (tk c)) zwc c
def wk(P:UInt8->Option Bool):Nat->Bs->Int->Int->Option Bool|0,_,_,_=>none|n+1,s0,s7,s8=>bif decide (s8<s7) then(aq s0 s8).bind fun c1=>(P c1).bind fun x2=>bif !x2 then some false else wk P n s0 s7 (af (s8+(1:Int))) else some true
def zu4(P:UInt8->Option Bool)(p:UInt8->Bool)(hP:∀c,P c=some (p c))(n:Nat):∀(ab aa:Bs),aa.length<n->ab.length+aa.length<9223372036854775807 ->
  wk P n (ab++aa) ((ab.length+aa.length:Nat):Int) (ab.length:Int)=some (aa.all p):=by
 induction n with
 |zero=>intro ab aa h;omega|succ n ih=>
  intro ab aa h hb;rw[wk]
  cases aa with
  |nil=>rw[a6];rfl|cons d aa=>
   simp only[qL]at h hb ⊢;rw[aj,da,qB,hP,qB,a8 _,List.all_cons]
   have:=ih (ab++[d]) aa (by omega) (by simp;omega)
   simp only[qM,qL,qZ,qS,wM]at this;cases p d
   ·rfl
   ·rw[bc,Bool.true_and,show((ab.length+(aa.length+1):Nat):Int)=((ab.length+1+aa.length:Nat):Int) by omega]
    exact this
def qo7(P:UInt8->Option Bool)(p:UInt8->Bool)(hP:∀c,P c=some (p c))(n:Nat)(s:Bs)(h:s.length<n)(hb:s.length<9223372036854775807):wk P n s (s.length:Int) 0=some (s.all p):=by
 have:=zu4 P p hP n [] s h (by simpa using hb)
 simpa using this
def zsj(fu:Nat)(s:Bs)(h:s.length<fu)(hb:s.length<9223372036854775807):qin fu s=some (s.all tk):=by
 have e:∀n,qdu fu n=wk ox n:=by
  intro n;induction n with|zero=>rfl|succ n ih=>rw[qdu,ih];funext a b c;rfl
 unfold qin;rw[e];exact qo7 _ _ qew _ _ h hb
def dq(s:Bs):Bool := !s.isEmpty&&decide (s.length<=60)&&s.all tk
def ql4(fu:Nat)(s:Bs)(h:s.length<fu:=by omega)(hb:s.length<9223372036854775807:=by omega):vp fu s=some (dq s):=by
 unfold vp dq;rw[zsj fu s h hb]
 cases s with
 |nil=>rfl|cons c s=>
  rw[a7]
  by_cases h1:(c::s).length<=60
  ·rw[aj,decide_eq_true h1];simp
  ·rw[a6,decide_eq_false h1];simp
open Go.Lib (decodeL decodeN decodeL_N validD validD_step decodeL_le decodeL_width)
def qcp(a b:Nat)(h:a+b<9223372036854775808:=by omega):af ((a:Int)+(b:Int))=((a+b:Nat):Int):=by rw[me];omega
def zex(n:Nat):∀(b:Bool)(l:Bs),(vu [239,191,189] n b l).length<=3*l.length:=by
 induction n with
 |zero=>intro b l;simp[vu]|succ n ih=>
  intro b l
  cases l with
  |nil=>simp[vu]|cons c t=>
   rw[vu];split
   ·have:=ih true t;rw[qM];simp only[qL];cases b<;>simp<;>omega
   ·have:=ih false ((c::t).drop (decodeL (c::t)).2);have hle:=decodeL_le (c::t) (by simp)
    rw[qM,List.length_take];rw[List.length_drop]at this;omega
def qap(rep:Bs):∀(n:Nat)(b:Bool)(l:Bs),l.length<=n->vu rep n b l=vu rep l.length b l:=by
 intro n
 induction n using Nat.strongRecOn with
 |ind n ih=>
  intro b l h
  cases l with
  |nil=>cases n<;>rfl
  |cons c t=>
   obtain⟨m,rfl⟩:∃m,n=m+1:=⟨n-1,by simp only[qL]at h;omega⟩
   simp only[qL]at h ⊢;have hw:=decodeL_width (c::t);rw[vu,vu];have hd:((c::t).drop (decodeL (c::t)).2).length<=t.length:=by rw[List.length_drop];simp only[qL];omega
   rw[ih m (by omega) true t (by omega),ih m (by omega) false _ (by omega)]
   by_cases hm:t.length<m+1
   ·rw[ih t.length (by omega) true t (wF _),ih t.length (by omega) false _ hd]
   ·omega
def zfb(s:Bs)(h:s.length<=1000000):v7 s [239,191,189]=some (vu [239,191,189] s.length false s):=by
 unfold v7;rw[aj ⟨h,by simp⟩]
def zug(s:Bs)(h:s.length<=1000000:=by omega):wo s=some (validD s):=by
 unfold wo;rw[aj]
def zhf(rep:Bs):∀(n:Nat)(l:Bs)(b:Bool),l.length<=n->validD l=true->vu rep l.length b l=l:=by
 intro n
 induction n with
 |zero=>intro l b h _;have:l=[]:=List.eq_nil_of_length_eq_zero (by omega);subst this;rfl|succ n ih=>
  intro l b h hv
  cases l with
  |nil=>rfl|cons c t=>
   rw[validD_step (c::t) (by simp)]at hv
   have hw:=decodeL_width (c::t);show vu rep (t.length+1) b (c::t)=_;rw[vu];by_cases hbad:(decodeL (c::t)).1=65533/\(decodeL (c::t)).2=1
   ·rw[qX hbad]at hv;cases hv
   ·rw[qW hbad]at hv ⊢;have hd:((c::t).drop (decodeL (c::t)).2).length<=t.length:=by rw[List.length_drop];simp only[qL];omega
    rw[qap _ _ _ _ hd,ih _ false (by simp only[qL]at h;omega) hv,List.take_append_drop]
end Go.Sym
namespace Go.Sym
open Go.Lib (validD)
abbrev bt:Type:=Bs×Bs
abbrev cv:Type:=Bs×Bs×List bt
def sf(l:List bt):Prop:=l.length<=4000000/\∀x∈l,x.1.length<=4000000/\x.2.length<=4000000
def yz(m:cv):Prop:=m.1.length<=4000000/\m.2.1.length<=4000000/\sf m.2.2
def lk(a b:Bs):Bool:=a.map lo==b.map lo
def zsq(a b:Bs):lk a b=lk b a:=by unfold lk;rw[Bool.eq_iff_iff];simp only[beq_iff_eq];exact⟨Eq.symm,Eq.symm⟩
def za(a:Bs):lk a a=true:=by unfold lk;simp
def o7(fu:Nat)(hfu:90000000<=fu)(a b:Bs)(ha:a.length<=4000000)(hb:b.length<=4000000):lr fu a b=some (lk a b):=
 zxc fu a b (by omega) (by omega) (by simp[maxLen];omega) (by simp[maxLen];omega)
def zqx(fu n:Nat)(hfu:90000000<=fu)(p:bt)(hp:p.1.length<=4000000):∀(ab aa:List bt),aa.length<n->ab.length+aa.length<100000000->(∀x∈aa,x.1.length<=4000000) ->
  ∃i:Int,qc8 fu n (ab++aa) ((ab.length+aa.length:Nat):Int) (ab.length:Int) p=some (i,p)/\decide (0<=i)=aa.any (fun x=>lk x.1 p.1):=by
 induction n with
 |zero=>intro ab aa h;omega|succ n ih=>
  intro ab aa h hb hs;rw[qc8,qvt]
  cases aa with
  |nil=>rw[a6];exact⟨_,rfl,rfl⟩|cons d aa=>
   simp only[qL]at h hb;rw[aj (by simp only[qL];omega),da,qB,qwi,o7 fu hfu _ _ (hs d qH) hp,qB,qB,a8 _]
   obtain⟨i,h1,h2⟩:=ih (ab++[d]) aa (by omega) (by simp;omega) (fun x hx=>hs x (qE _ hx))
   simp only[qM,qL,qZ,qS,wM,wO]at h1;cases e:lk d.1 p.1
   ·simp only[qF,List.any_cons,e,Bool.false_or];rw[show(ab.length+(d::aa).length:Nat)=ab.length+1+aa.length by simp only[qL];omega]
    exact⟨i,h1,h2⟩
   ·simp only[qT,List.any_cons,e,Bool.true_or];exact⟨_,rfl,decide_eq_true (by omega)⟩
def zoc(fu:Nat)(hfu:90000000<=fu)(l:List bt)(p:bt)(hp:p.1.length<=4000000)(hs:sf l):qm7 fu l p=some (l.any (fun x=>lk x.1 p.1),p):=by
 obtain⟨i,h1,h2⟩:=zqx fu fu hfu p hp [] l (by have:=hs.1;omega) (by have:=hs.1;simp;omega) (fun x hx=>(hs.2 x hx).1)
 simp only[List.nil_append,qZ,wO]at h1;unfold qm7 qqv;rw[← h2];exact(congrArg (fun q=>Option.bind q fun x1=>some (decide ((0:Int)<=x1.1),x1.2)) h1).trans rfl
def ia:List bt->List bt->Int×Int
 |_,[]=>(0,0)|ab,p::l=>if dq p.1=false\/20<p.1.length then(10,ab.length) else if ab.any (fun x=>lk x.1 p.1)=true then(7,ab.length) else if 500<p.2.length then(1,ab.length)
  else if validD p.2=false then(5,ab.length) else ia (ab++[p]) l
def dw(m:cv):Int×Int:=if dq m.1=false\/dq m.2.1=false then(10,-2) else if 60<m.2.2.length then(2,-3) else ia [] m.2.2
def sf.mono{l l':List bt}(h:sf l)(h1:l'.length<=l.length)(h2:∀x∈l',x∈l):sf l':=⟨Nat.le_trans h1 h.1,fun x hx=>h.2 x (h2 x hx)⟩
def o5(a b:Int):cr a b=some (a,b):=rfl
def zt3:gp=some ((0:Int),(0:Int)):=rfl
def zed(fu n:Nat)(hfu:90000000<=fu)(m:cv)(z:Int×Int):∀(ab aa:List bt),m.2.2=ab++aa->aa.length<n->sf (ab++aa) ->
  zf fu n (ab++aa) ((ab.length+aa.length:Nat):Int) (ab.length:Int) m z=some (ia ab aa):=by
 induction n with
 |zero=>intro ab aa _ h;omega|succ n ih=>
  intro ab aa hm h hs;rw[zf,qp8]
  cases aa with
  |nil=>rw[a6];rfl|cons p aa=>
   have hp:=hs.2 p (by simp)
   have hl:=hs.1;simp only[qL,qM]at h hl;rw[aj (by simp only[qL];omega),da,qB,ql4 fu _,qB,ia]
   have hp3:yq fu (zf fu n) (ab.length:Int) (ab++p::aa) ((ab.length+(p::aa).length:Nat):Int) (ab.length:Int) false m z p =
     some (if ab.any (fun x=>lk x.1 p.1)=true then(7,(ab.length:Int)) else if 500<p.2.length then(1,(ab.length:Int)) else if validD p.2=false then(5,(ab.length:Int)) else ia (ab++[p]) aa):=by
    rw[yq,bc rfl,aj (by rw[hm,iw];omega),hm,uq,zoc fu hfu ab p hp.1 (hs.mono (by simp) (fun x hx=>by simp[hx])),qB]
    simp only[];by_cases h1:ab.any (fun x=>lk x.1 p.1)=true
    ·rw[qX h1,a7 h1,o5];rfl
    rw[qW h1,bc (by simpa using h1)]
    by_cases h2:500<p.2.length
    ·rw[qX h2,aj,o5];rfl
    rw[qW h2,a6,zug _,qB]
    cases h3:validD p.2
    ·rw[fp,qX rfl,o5];rfl
    ·rw[dd,qW,a8 _]
     have:=ih (ab++[p]) aa (by rw[hm];simp) (by omega) (by simpa using hs)
     simp only[qM,qL,qZ,qS,wM,wO]at this;rw[show(ab.length+(p::aa).length:Nat)=ab.length+1+aa.length by simp only[qL];omega]
     exact this
   cases h0:dq p.1
   ·rw[fp,qX (.inl rfl),yq,a7 rfl,o5];rfl
   rw[dd];by_cases h20:20<p.1.length
   ·rw[decide_eq_true (by omega),qX (.inr h20),yq,a7 rfl,o5];rfl
   ·rw[decide_eq_false (p:=(20:Int)<(List.length p.1:Int)) (by omega),hp3,qW (c:=true=false\/20<p.1.length) (by simp;omega)]
def qud(fu:Nat)(hfu:90000000<=fu)(m:cv)(hs:yz m):rp fu m=some (dw m):=by
 obtain⟨h1,h2,h3⟩:=hs;unfold rp dw;rw[ql4 fu m.1,qB,ql4 fu m.2.1]
 cases g1:dq m.1
 ·rw[fp,qau,a7 rfl,o5,qX (.inl rfl)];rfl
 rw[dd,qB];cases g2:dq m.2.1
 ·rw[qau,fp,o5,qX (.inr rfl)];rfl
 rw[qau,dd,qqh,qW]
 by_cases g3:60<m.2.2.length
 ·rw[aj,qX g3,o5];rfl
 ·rw[a6,qW g3]
  have:=zed fu fu hfu m (0,0) [] m.2.2 rfl (by have:=h3.1;omega) h3
  simpa using this
def par(l:List bt)(nm:Bs):Option Bs:=(l.find? fun x=>lk x.1 nm).map (·.2)
def ez(l:List bt)(nm:Bs):Bs×Bool:=match par l nm with|some v=>(v,true)|none=>([],false)
def qdi(p:bt)(l:List bt)(nm:Bs):ez (p::l) nm=if lk p.1 nm=true then(p.2,true) else ez l nm:=by
 unfold ez par;rw[List.find?_cons];cases lk p.1 nm<;>rfl
def znw(fu n:Nat)(hfu:90000000<=fu)(nm:Bs)(hn:nm.length<=4000000)(z:Int×Int):∀(ab aa:List bt),aa.length<n->sf (ab++aa) ->
  qdl fu n nm (ab++aa) ((ab.length+aa.length:Nat):Int) (ab.length:Int) z=some ((ez aa nm).1,((ez aa nm).2,(0,0))):=by
 induction n with
 |zero=>intro ab aa h;omega|succ n ih=>
  intro ab aa h hs;rw[qdl,qp7]
  cases aa with
  |nil=>rw[a6];rfl|cons p aa=>
   have hl:=hs.1;simp only[qL,qM]at h hl;rw[aj (by simp only[qL];omega),da,qB,o7 fu hfu _ _ (hs.2 p (by simp)).1 hn,qB,a8 _,qdi]
   have:=ih (ab++[p]) aa (by omega) (by simpa using hs)
   simp only[qM,qL,qZ,qS,wM,wO]at this;cases e:lk p.1 nm
   ·rw[bc rfl,show(ab.length+(p::aa).length:Nat)=ab.length+1+aa.length by simp only[qL];omega]
    exact this
   ·rfl
def q7l(fu:Nat)(hfu:90000000<=fu)(m:cv)(nm:Bs)(hn:nm.length<=4000000)(hs:yz m):qgt fu m nm=some (if(dw m).1≠0 then([],(false,dw m)) else((ez m.2.2 nm).1,((ez m.2.2 nm).2,(0,0)))):=by
 unfold qgt;rw[qud fu hfu m hs,qB,jx,qB,jg];by_cases h:(dw m).1≠0
 ·rw[qX h,qX h]
 ·rw[qW h,qW h];have:=znw fu fu hfu nm hn (0,0) [] m.2.2 (by have:=hs.2.2.1;omega) hs.2.2
  simpa using this
end Go.Sym
namespace Go.Sym
def q15(fu n:Nat):∀(s:List UInt8),s.length<n->s.length<1000000000->qg6 fu n s (lf [32,9])=some (du s,lf [32,9]):=by
 induction n with
 |zero=>intro s h;omega|succ n ih=>
  intro s h hb;rw[qg6,qri]
  cases s with
  |nil=>rw[a6];rfl|cons c s=>
   simp only[qL]at h hb;rw[aj,show aq (c::s) (0:Int)=some c from rfl,qB,qx8 vc,qB,q87,ne]
   cases bl c
   ·rfl
   ·rw[dd,aj (by simp only[qL];omega)]
    exact ih s (by omega) (by omega)
def q6t(fu:Nat)(s:List UInt8)(hfu:100<=fu)(h:s.length<fu)(hb:s.length<1000000000):qc3 fu s [32,9]=some (jt s):=by
 unfold qc3
 cases s with
 |nil=>rfl|cons c s=>
  rw[bc]
  unfold qja;rw[bc]
  unfold qsw;rw[bc (by decide)]
  unfold qnb;rw[bc]
  unfold qsy;obtain⟨n,rfl⟩:∃n,fu=n+100:=⟨fu-100,by omega⟩
  rw[vc.set,qB];simp only[vc.len];rw[a7 (by rw[List.length_replicate];rfl),a7]
  unfold qcw qfh;have:=qep (c::s);rw[q1w _ _ _ h hb,qB,q15 _ _ (ew (c::s)) (by omega) (by omega),qB,qpy]
def zws(s:Bs):du (du s)=du s:=by
 induction s with
 |nil=>rfl|cons c s ih=>
  rw[ne];by_cases h:bl c=true
  ·rw[qX h];exact ih
  ·rw[qW h,ne,qW h]
def q3c(s:Bs):du s <:+ s:=List.dropWhile_suffix _
def zel(fu:Nat)(s:List UInt8)(hfu:100<=fu:=by omega)(h:s.length<fu:=by omega)(hb:s.length<1000000000:=by omega):qh2 fu s [32,9]=some (du s):=by
 unfold qh2
 cases s with
 |nil=>rfl|cons c s=>
  rw[bc]
  unfold ql8;rw[bc]
  unfold qrt;rw[bc (by decide)]
  unfold qli;rw[bc]
  unfold qv0;obtain⟨n,rfl⟩:∃n,fu=n+100:=⟨fu-100,by omega⟩
  rw[vc.set,qB];simp only[vc.len];rw[a7 (by rw[List.length_replicate];rfl),a7]
  unfold qfh;rw[q15 _ _ _ h hb];rfl
def qba(fu:Nat)(hfu:90000000<=fu)(s:Bs)(h:s.length<=4000000):uo fu s=some (du s):=by
 unfold uo;rw[zel fu s];rfl
def cq(p:UInt8->Bool)(s:Bs):Bs×Bs:=((du s).takeWhile p,(du s).dropWhile p)
def dn(c:UInt8):Bool:=tk c||c==42
def f8(c:UInt8):Bool:=tk c||(c==37||(c==39||c==42))
def tm(P:UInt8->Option Bool):Nat->Int->Bs->Option (Bs×Bs)
 |0,_,_=>none|n+1,s5,m0=>bif decide (s5<(List.length m0:Int)) then(aq m0 s5).bind fun c1=>(P c1).bind fun x2=>(bif x2 then tm P n (af (s5+(1:Int))) m0 else bif decide (0<=s5/\s5<=(List.length m0:Int)) then bif decide (0<=s5/\s5<=(List.length m0:Int)) then some (List.take s5.toNat m0,List.drop s5.toNat m0) else none else none)
  else(bif false then tm P n (af (s5+(1:Int))) m0 else bif decide (0<=s5/\s5<=(List.length m0:Int)) then bif decide (0<=s5/\s5<=(List.length m0:Int)) then some (List.take s5.toNat m0,List.drop s5.toNat m0) else none else none)
def ze6(P:UInt8->Option Bool)(p:UInt8->Bool)(hP:∀c,P c=some (p c))(n:Nat):∀(ab aa:Bs),aa.length<n->ab.length+aa.length<9223372036854775807 ->
  tm P n (ab.length:Int) (ab++aa)=some (ab++aa.takeWhile p,aa.dropWhile p):=by
 induction n with
 |zero=>intro ab aa h;omega|succ n ih=>
  intro ab aa h hb;rw[tm]
  cases aa with
  |nil=>rw[a6,bc rfl,aj,aj,uq,qab];simp|cons d aa=>
   simp only[qL]at h hb;rw[aj (by rw[iw];omega),da,qB,hP,qB,a8 _,uq,qab,List.takeWhile_cons,List.dropWhile_cons]
   have:=ih (ab++[d]) aa (by omega) (by simp;omega)
   simp only[qM,qL,qZ,qS,wM,wO]at this;cases p d
   ·rw[bc rfl,aj (by rw[iw];omega),aj (by rw[iw];omega)];simp
   ·rw[a7 rfl];simpa using this
def qoh(P:UInt8->Option Bool)(p:UInt8->Bool)(hP:∀c,P c=some (p c))(fu:Nat)(hfu:90000000<=fu)(s:Bs)(h:s.length<=4000000):tm P fu 0 (du s)=some (cq p s):=by
 have hl:=rl s;have:=ze6 P p hP fu [] (du s) (by omega) (by simp;omega)
 simpa [cq] using this
def zab(fu:Nat)(hfu:90000000<=fu)(s:Bs)(h:s.length<=4000000:=by omega):qdn fu s=some (cq tk s):=by
 have e:∀n,qf7 fu n=tm ox n:=by
  intro n;induction n with|zero=>rfl|succ n ih=>rw[qf7,ih];funext a b;rfl
 unfold qdn;rw[qba fu hfu s h,qB,e];exact qoh _ tk qew fu hfu s h
def z1p(c:UInt8):qem c=some (dn c):=by
 unfold qem dn;rw[qew,qB];cases tk c<;>rfl
def zkq(c:UInt8):qcv c=some (f8 c):=by
 unfold qcv f8;rw[qew,qB];cases tk c
 ·cases c==37
  ·cases c==39<;>rfl
  ·rfl
 ·rfl
def zzj(fu:Nat)(hfu:90000000<=fu)(s:Bs)(h:s.length<=4000000):qm5 fu s=some (cq dn s):=by
 have e:∀n,qc5 fu n=tm qem n:=by
  intro n;induction n with|zero=>rfl|succ n ih=>rw[qc5,ih];funext a b;rfl
 unfold qm5;rw[qba fu hfu s h,qB,e];exact qoh _ dn z1p fu hfu s h
def z0j(fu:Nat)(hfu:90000000<=fu)(s:Bs)(h:s.length<=4000000:=by omega):qnt fu s=some (cq f8 s):=by
 have e:∀n,qgz fu n=tm qcv n:=by
  intro n;induction n with|zero=>rfl|succ n ih=>rw[qgz,ih];funext a b;rfl
 unfold qnt;rw[qba fu hfu s h,qB,e];exact qoh _ f8 zkq fu hfu s h
def di(c:UInt8)(s:Bs):Bool×Bs:=match du s with|[]=>(false,[])|d::t=>if d=c then(true,t) else(false,d::t)
def qle(fu:Nat)(hfu:90000000<=fu)(c:UInt8)(s:Bs)(h:s.length<=4000000:=by omega):ym fu c s=some (di c s):=by
 unfold ym di;rw[qba fu hfu s h,qB]
 cases du s with
 |nil=>rfl|cons d t=>
  rw[bc,show aq (d::t) (0:Int)=some d from rfl,qB,qkz]
  by_cases hd:d=c
  ·rw[qW (by simp[hd]),aj (by simp only[qL];omega)];simp[hd]
  ·rw[qX hd];simp[hd]
def qv:Bs->Bs->Option (Bs×Bs)
 |_,[]=>none| out,c::t=>if c=34 then some (out,t) else if c=92 then(match t with
  |[]=>none| d::t'=>qv (out++[d]) t') else qv (out++[c]) t
def sk(out:Bs)(c:UInt8)(t:Bs):qv out (c::t)=if c=34 then some (out,t) else if c=92 then(match t with
  |[]=>none| d::t'=>qv (out++[d]) t') else qv (out++[c]) t:=by cases t<;>rfl
def iq:4000000000<=bg:=by decide
def zvt(fu n:Nat):∀(ab aa out:Bs),aa.length<n->ab.length+aa.length<100000000->out.length+aa.length<100000000 ->
  qfe fu n (ab.length:Int) (ab++aa) out=some (match qv out aa with|some (v,t)=>(v,(true,t))|none=>([],(false,ab++aa))):=by
 have hrm:=iq
 induction n using Nat.strongRecOn with
 |ind n ih=>
  intro ab aa out h hb ho;obtain⟨n,rfl⟩:∃m,n=m+1:=⟨n-1,by omega⟩
  rw[qfe,qt4]
  cases aa with
  |nil=>rw[a6];rfl|cons c t=>
   simp only[qL]at h hb ho;rw[aj (by rw[iw];omega),da,qB,a8 _,qaw]
   have ih1:=ih n (by omega) (ab++[c]) t (out++[c]) (by omega) (by simp;omega) (by simp;omega)
   simp only[qM,qL,qZ,qS,wM,wO]at ih1;by_cases h1:c=34
   ·rw[qX h1,aj (by rw[iw];omega),qhq,sk,qX h1]
   rw[qW h1,qaw];by_cases h2:c=92
   ·rw[qX h2,ke,iw]
    cases t with
    |nil=>rw[qX,sk,qW h1,qX h2]|cons d t=>
     simp only[qL]at h hb ho ⊢;rw[qW,show aq (ab++c::d::t) ((ab.length+1:Nat):Int)=some d by have:=da (ab++[c]) d t;simpa using this,qB,aj,a8 _,sk,qW h1,qX h2]
     have ih2:=ih n (by omega) (ab++[c,d]) t (out++[d]) (by omega) (by simp;omega) (by simp;omega)
     simp only[qM,qL,qZ,qS,wK,List.nil_append,wO]at ih2;exact ih2
   ·rw[qW h2,aj,sk,qW h1,qW h2]
    exact ih1
def nt(s:Bs):Option (Bs×Bs):=if(di 34 s).1=true then qv [] (di 34 s).2 else some (cq f8 (di 34 s).2)
def qbp(c:UInt8)(s:Bs):(di c s).2.length<=s.length:=by
 have:=rl s;unfold di
 cases h:du s with
 |nil=>simp|cons d t=>
  rw[h]at this;simp only[qL]at this;by_cases hd:d=c
  ·simp only[qX hd];omega
  ·simp only[qW hd,qL];omega
def zub(fu:Nat)(hfu:90000000<=fu)(s:Bs)(h:s.length<=4000000:=by omega):∃r,qlh fu s=some (match nt s with|some (v,t)=>(v,(true,t))|none=>([],(false,r))):=by
 have hl:=qbp 34 s;unfold qlh nt;rw[qle fu hfu 34 s h,qB];cases hs:(di 34 s).1
 ·rw[fp,z0j fu hfu _,qW]
  exact⟨[],rfl⟩
 ·rw[dd,qX rfl];have:=zvt fu fu [] (di 34 s).2 [] (by omega) (by simp;omega) (by simp;omega)
  exact⟨(di 34 s).2,by simpa using this⟩
def jr(s:Bs):Option ((Bs×Bs)×Bs):=if(di 61 (cq dn s).2).1=true then(nt (di 61 (cq dn s).2).2).map fun x=>(((cq dn s).1,x.1),x.2) else none
def vq(p:UInt8->Bool)(s:Bs):(cq p s).1.length+(cq p s).2.length<=s.length:=by
 have:=rl s;have h:=congrArg List.length (List.takeWhile_append_dropWhile (p:=p) (l:=du s));rw[qM]at h;unfold cq;simp only;omega
def zi0:∀(out s v t:Bs),qv out s=some (v,t)->v.length+t.length<out.length+s.length/\t <:+ s:=by
 intro out s
 induction s using WellFounded.induction (r:=fun(a b:Bs)=>a.length<b.length) (hwf:=InvImage.wf List.length Nat.lt_wfRel.wf) generalizing out with
 |_ s ih=>
  intro v t h
  cases s with
  |nil=>cases h
  |cons c s=>
   rw[sk]at h;by_cases h1:c=34
   ·rw[qX h1]at h;cases h;exact⟨by simp,List.suffix_cons _ _⟩
   rw[qW h1]at h;by_cases h2:c=92
   ·rw[qX h2]at h
    cases s with
    |nil=>cases h
    |cons d s=>
     obtain⟨g1,g2⟩:=ih s (by simp;omega) (out++[d]) v t h
     refine⟨by simp at g1 ⊢;omega,g2.trans ((List.suffix_cons _ _).trans (List.suffix_cons _ _))⟩
   ·rw[qW h2]at h;obtain⟨g1,g2⟩:=ih s (by simp) (out++[c]) v t h
    exact⟨by simp at g1 ⊢;omega,g2.trans (List.suffix_cons _ _)⟩
def q1n(c:UInt8)(s:Bs):(di c s).2 <:+ s:=by
 have:=q3c s;unfold di
 cases h:du s with
 |nil=>simp|cons d t=>
  rw[h]at this;by_cases hd:d=c
  ·simp only[qX hd];exact(List.suffix_cons _ _).trans this
  ·simp only[qW hd];exact this
def qze(p:UInt8->Bool)(s:Bs):(cq p s).2 <:+ s:=(List.dropWhile_suffix _).trans (q3c s)
def ziz{s v t:Bs}(h:nt s=some (v,t)):v.length+t.length<=s.length/\t <:+ s:=by
 have hl:=qbp 34 s;have hx:=q1n 34 s;unfold nt at h;by_cases hs:(di 34 s).1=true
 ·rw[qX hs]at h;obtain⟨g1,g2⟩:=zi0 [] _ _ _ h;exact⟨by simp at g1;omega,g2.trans hx⟩
 ·rw[qW hs]at h;have e:=qJ h;have g1:=vq f8 (di 34 s).2;have g2:=qze f8 (di 34 s).2;rw[e]at g1 g2;simp only at g1 g2;exact⟨by omega,g2.trans hx⟩
def qw6{s n v t:Bs}(h:jr s=some ((n,v),t)):n.length+v.length+t.length<=s.length/\t <:+ s:=by
 have h1:=vq dn s;have h1':=qze dn s;have h2:=qbp 61 (cq dn s).2;have h2':=q1n 61 (cq dn s).2;unfold jr at h;by_cases hs:(di 61 (cq dn s).2).1=true
 ·rw[qX hs]at h
  cases hv:nt (di 61 (cq dn s).2).2 with
  |none=>rw[hv]at h;cases h
  |some x=>
   rw[hv]at h;obtain⟨g1,g2⟩:=ziz (v:=x.1) (t:=x.2) hv;have e:=qJ h;obtain⟨rfl,e2⟩:=Prod.mk.inj (Prod.mk.inj e).1;obtain rfl:=(Prod.mk.inj e).2;subst e2;exact⟨by omega,g2.trans (h2'.trans h1')⟩
 ·rw[qW hs]at h;cases h
def pos(s r:Bs):Int:=((s.length-r.length:Nat):Int)
def qjg{s r:Bs}(h:r <:+ s):List.drop (pos s r).toNat s=r:=(List.suffix_iff_eq_drop.1 h).symm
def q0d{s:Bs}{c:UInt8}{t:Bs}(h:(c::t) <:+ s):pos s (c::t)<(s.length:Int):=by
 have:=h.length_le;simp only[qL]at this;unfold pos;simp only[qL];omega
def qfo(s:Bs):pos s []=(s.length:Int):=by unfold pos;simp
def q5x(s:Bs):pos s s=0:=by unfold pos;simp
def qnx(s r:Bs):0<=pos s r/\pos s r<=(s.length:Int):=by unfold pos;omega
open Go.Lib (decDigits nDigits itoa atoiAll parseUint10 parseMag NumEnd)
def qcu(d:Nat)(h:d<10:=by omega):(UInt8.ofNat (48+d)).toNat=48+d:=by
 rw[UInt8.toNat_ofNat'];omega
def qd3(u:Nat)(h:u<10):decDigits u=[UInt8.ofNat (48+u)]:=by rw[decDigits,dif_pos h]
def qah(u:Nat)(h:¬u<10:=by omega):decDigits u=decDigits (u/10)++[UInt8.ofNat (48+u%10)]:=by rw[decDigits,dif_neg h]
def qxg(u:Nat):decDigits u≠[]:=by
 by_cases h:u<10
 ·rw[qd3 u h];simp
 ·rw[qah u h];simp
def xq(u:Nat):∀c∈decDigits u,48<=c.toNat/\c.toNat<=57:=by
 induction u using Nat.strongRecOn with
 |ind u ih=>
  intro c hc;by_cases h:u<10
  ·rw[qd3 u h]at hc;rw[List.mem_singleton.1 hc,qcu u h];omega
  ·rw[qah u h]at hc;rcases List.mem_append.1 hc with hc|hc
   ·exact ih (u/10) (by omega) c hc
   ·rw[List.mem_singleton.1 hc,qcu _];omega
def qbz(k:Nat):∀u,u<10 ^ k->1<=k->(decDigits u).length<=k:=by
 induction k with
 |zero=>intro u _ h;omega|succ k ih=>
  intro u hu _;by_cases h:u<10
  ·rw[qd3 u h];simp
  ·rw[qah u h,qM,wD];have hk:1<=k:=by
    rcases Nat.eq_zero_or_pos k with h0|h0
    ·subst h0;simp at hu;omega
    ·exact h0
   have:=ih (u/10) (by rw[Nat.pow_succ]at hu;omega) hk
   omega
def qv5(a:Nat)(l:Bs):Nat:=l.foldl (fun a c=>10*a+(c.toNat-48)) a
def q09(u:Nat):qv5 0 (decDigits u)=u:=by
 induction u using Nat.strongRecOn with
 |ind u ih=>
  by_cases h:u<10
  ·rw[qd3 u h];show 10*0+((UInt8.ofNat (48+u)).toNat-48)=u;rw[qcu u h];omega
  ·rw[qah u h];unfold qv5;rw[List.foldl_append];have:=ih (u/10) (by omega)
   unfold qv5 at this;rw[this];show 10*(u/10)+((UInt8.ofNat (48+u%10)).toNat-48)=u;rw[qcu _];omega
def zu5{u v:Nat}(h:decDigits u=decDigits v):u=v:=by rw[← q09 u,h,q09]
def zmf:∀(l:Bs)(a:Nat)(c:UInt8),parseUint10 a (l++[c])=match parseUint10 a l with | .ok b=>parseUint10 b [c]|e=>e:=by
 intro l
 induction l with
 |nil=>intro a c;rfl|cons d l ih=>
  intro a c;rw[wK,parseUint10,parseUint10];by_cases h1:48<=d.toNat/\d.toNat<=57
  ·rw[qX h1,qX h1];by_cases h2:1844674407370955162<=a
   ·rw[qX h2,qX h2]
   ·rw[qW h2,qW h2];by_cases h3:18446744073709551616<=a*10+(d.toNat-48)
    ·rw[qX h3,qX h3]
    ·rw[qW h3,qW h3,ih]
  ·rw[qW h1,qW h1]
def z16(u:Nat):u<9223372036854775808->parseUint10 0 (decDigits u) = .ok u:=by
 induction u using Nat.strongRecOn with
 |ind u ih=>
  intro hu;have step:∀a d,a*10+d=u->d<10->parseUint10 a [UInt8.ofNat (48+d)] = .ok u:=by
   intro a d h1 h2;rw[parseUint10,qcu d h2,qX,qW,qW,parseUint10]
   congr 1;omega
  by_cases h:u<10
  ·rw[qd3 u h];exact step 0 u (by omega) h
  ·rw[qah u h,zmf,ih (u/10) (by omega) (by omega)]
   exact step (u/10) (u%10) (by omega) (by omega)
def zf4(u:Nat)(hu:u<9223372036854775808:=by omega):atoiAll (decDigits u) = .ok (u:Int):=by
 have hd:=xq u;have hp:=z16 u hu;have hne:=qxg u
 cases hl:decDigits u with
 |nil=>exact absurd hl hne|cons c r=>
  rw[hl]at hd hp;have hc:=hd c qH;unfold atoiAll;simp only[];rw[qW (c:=c.toNat=43\/c.toNat=45) (by omega),parseMag,qW,hp]
  simp only[];rw[qW,qW,qW]
def qij(u:Nat):itoa (u:Int)=decDigits u:=by unfold itoa;rw[qW];simp
def zdm(u:Nat)(most:Int)(h:(u:Int)<=most:=by omega)(hm:most<9223372036854775808:=by omega):kp (decDigits u) most=((u:Int),true):=by
 unfold kp;rw[zf4 u]
 simp only[];rw[qX ⟨qij u,by omega,h⟩]
def znp{s:Bs}{most:Int}(h:(kp s most).2=true):∃u:Nat,s=decDigits u/\(u:Int)<=most/\kp s most=((u:Int),true):=by
 have h0:=h;unfold kp at h;split at h
 ·rename_i v hv;by_cases hc:itoa v=s/\0<=v/\v<=most
  ·obtain⟨u,rfl⟩:∃u:Nat,v=u:=⟨v.toNat,by omega⟩
   refine⟨u,by rw[← hc.1,qij],hc.2.2,?_⟩
   unfold kp;rw[hv];simp only[];rw[qX hc]
  ·rw[qW hc]at h;cases h
 ·cases h
end Go.Sym
namespace Go.Sym
def hv(c:UInt8):Option UInt8:=if 48<=c/\c<=57 then some (c-48) else if 65<=c/\c<=70 then some (c-65+10) else if 97<=c/\c<=102 then some (c-97+10) else none
def hx(a b:UInt8):Option UInt8:=(hv a).bind fun x=>(hv b).map fun y=>16*x+y
def zbr:∀n:_root_.Fin 256,qa9 (UInt8.ofNat n.val)=some ((hv (UInt8.ofNat n.val)).getD 0,(hv (UInt8.ofNat n.val)).isSome):=by decide +kernel
def zsw(c:UInt8):qa9 c=some ((hv c).getD 0,(hv c).isSome):=ig (fun c=>qa9 c=some ((hv c).getD 0,(hv c).isSome)) zbr c
def zni:∀n:_root_.Fin 256,(hv (UInt8.ofNat n.val)).all (fun x=>decide (x.toNat<16))=true:=by decide +kernel
def q4h(c x:UInt8)(h:hv c=some x):x.toNat<16:=by
 have:=ig (fun c=>(hv c).all (fun x=>decide (x.toNat<16))=true) zni c
 rw[h]at this;simpa using this
def zp1:∀x y:_root_.Fin 16,(pb (UInt8.ofNat x.val) (min (4:Int).toNat 8))|||UInt8.ofNat y.val=16*UInt8.ofNat x.val+UInt8.ofNat y.val/\r9 (af ((af ((16:Int)*((UInt8.ofNat x.val).toNat:Int)))+((UInt8.ofNat y.val).toNat:Int)))=16*UInt8.ofNat x.val+UInt8.ofNat y.val:=by decide +kernel
def zz1(x y:UInt8)(hx1:x.toNat<16)(hy1:y.toNat<16):(pb x (min (4:Int).toNat 8))|||y=16*x+y/\r9 (af ((af ((16:Int)*(x.toNat:Int)))+(y.toNat:Int)))=16*x+y:=by
 have:=zp1 ⟨x.toNat,hx1⟩ ⟨y.toNat,hy1⟩;simpa using this
def sr:Bs->Option UInt8|a::b::_=>hx a b|_=>none
def zdh(r:Bs):∃v,qd6 r=some (v,(sr r).isSome)/\∀x,sr r=some x->v=x:=by
 match r with
 |[]=>exact⟨0,rfl,fun x h=>by cases h⟩
 |[_]=>exact⟨0,rfl,fun x h=>by cases h⟩
 |a::b::t=>
  have e:qd6 (a::b::t)=some ((pb ((hv a).getD 0) (min (4:Int).toNat 8))|||(hv b).getD 0,(hv a).isSome&&(hv b).isSome):=by
   unfold qd6;rw[a6 (by simp only[qL];omega),show aq (a::b::t) 0=some a from rfl,show aq (a::b::t) 1=some b from rfl]
   simp only[qB,zsw];cases (hv a).isSome<;>rfl
  rw[e,show sr (a::b::t)=hx a b from rfl]
  unfold hx
  cases ha:hv a with
  |none=>exact⟨_,rfl,fun x h=>by cases h⟩
  |some x=>
   cases hb:hv b with
   |none=>exact⟨_,rfl,fun x h=>by cases h⟩
   |some y=>exact⟨_,rfl,fun z h=>by cases h;exact(zz1 x y (q4h a x ha) (q4h b y hb)).1⟩
def fg:Bs->Bs|[]=>[]|[c]=>[c]|[c,d]=>[c,d]|c::a::b::r=>if c=37 then(match hx a b with|some x=>x::fg r|none=>c::fg (a::b::r)) else c::fg (a::b::r)
def qr1(c:UInt8)(r:Bs)(h:c≠37):fg (c::r)=c::fg r:=by
 match r with|[]=>rfl|[_]=>rfl|_::_::_=>rw[fg,qW h]
def qvy(r:Bs):fg (37::r)=match sr r with|some x=>x::fg (r.drop 2)|none=>37::fg r:=by
 match r with
 |[]=>rfl|[_]=>rfl|a::b::t=>
  rw[fg,qX rfl];show _=match hx a b with|some x=>x::fg t|none=>37::fg (a::b::t)
  cases hx a b<;>rfl
def zq6:∀(n:Nat)(s:Bs),s.length<=n->(fg s).length<=s.length:=by
 intro n
 induction n with
 |zero=>intro s h;have:s=[]:=List.eq_nil_of_length_eq_zero (by omega);subst this;simp[fg]|succ n ih=>
  intro s h
  cases s with
  |nil=>simp[fg]|cons c r=>
   simp only[qL]at h;have h1:=ih r (by omega)
   by_cases hc:c=37
   ·subst hc;rw[qvy]
    cases hp:sr r with
    |none=>simp only[qL];omega|some x=>
     have h2:=ih (r.drop 2) (by simp;omega)
     simp only[qL,List.length_drop]at h2 ⊢;omega
   ·rw[qr1 c r hc];simp only[qL];omega
def znx(fu n:Nat):∀(ab aa out:Bs),aa.length<n->ab.length+aa.length<100000000->out.length+aa.length<100000000 ->
  qg3 fu n (ab++aa) (ab.length:Int) out=some (out++fg aa):=by
 have hrm:=iq
 induction n using Nat.strongRecOn with
 |ind n ih=>
  intro ab aa out h hb ho;obtain⟨n,rfl⟩:∃m,n=m+1:=⟨n-1,by omega⟩
  rw[qg3,qup]
  cases aa with
  |nil=>rw[a6];simp[fg]|cons c t=>
   simp only[qL]at h hb ho;have one:=ih n (by omega) (ab++[c]) t (out++[c]) (by omega) (by simp;omega) (by simp;omega)
   simp only[qM,qL,qZ,qS,wM,wO]at one;rw[aj (by rw[iw];omega),da,qB,qaw,a8 _]
   by_cases hc:c=37
   ·rw[qX hc,aj (by rw[iw];omega),qhq]
    obtain⟨v,h1,h2⟩:=zdh t;rw[h1,qB];subst hc;rw[qvy]
    cases hp:sr t with
    |none=>
     rw[Option.isSome_none,bc rfl,qB,aj]
     exact one
    |some x=>
     obtain⟨a,b,r,rfl⟩:∃a b r,t=a::b::r:=by
      match t,hp with|a::b::r,_=>exact⟨a,b,r,rfl⟩
     simp only[qL]at h hb ho;rw[Option.isSome_some,a7 rfl,h2 x hp,aj,show(ab.length:Int)+2=((ab.length+2:Nat):Int) by omega,me (x:=((ab.length+2:Nat):Int)) (by omega) (by omega),a8 _]
     have two:=ih n (by omega) (ab++[37,a,b]) r (out++[x]) (by omega) (by simp;omega) (by simp;omega)
     simp only[qM,qL,qZ,qS,wK,List.nil_append,wO]at two;exact two
   ·rw[qW hc,qB,aj,qr1 c t hc]
    exact one
def qgi(k:Int)(v:Bs):Bs:=if k=0/\6<=v.length/\lk (v.take 6) [117,116,102,56,39,39]=true then v.drop 6 else v
def l8(p:Pc):Bs:=if p.2.2.1=true then fg (qgi p.2.1 p.2.2.2) else p.2.2.2
def qjd(fu:Nat)(hfu:90000000<=fu)(s:Bs)(h:s.length<=4000000):qbi fu s=some (fg s):=by
 unfold qbi;have:=znx fu fu [] s [] (by omega) (by simp;omega) (by simp;omega)
 simpa using this
def zp6(fu:Nat)(hfu:90000000<=fu)(p:Pc)(h:p.2.2.2.length<=4000000:=by omega):qlz fu p=some (l8 p):=by
 unfold qlz l8 qgi;cases hs:p.2.2.1
 ·rfl
 rw[dd,qX rfl,ke];by_cases h0:p.2.1=0
 ·rw[qX h0];by_cases h6:6<=p.2.2.2.length
  ·rw[aj,aj,o7 fu hfu _ _ (by show(List.take 6 _).length<=_;rw[List.length_take];omega) (by simp),qB]
   show th fu p.2.2.2 (lk (p.2.2.2.take 6) _)=_;rw[th];cases hl:lk (p.2.2.2.take 6) [117,116,102,56,39,39]
   ·rw[bc rfl,qjd fu hfu _ h,qW]
   ·rw[a7 rfl,aj]
    show qbi fu (p.2.2.2.drop 6)=_;rw[qjd fu hfu _ (by simp;omega),qX ⟨h0,h6,rfl⟩]
  ·rw[a6,th,bc rfl,qjd fu hfu _ h,qW]
 ·rw[qW h0,th,bc rfl,qjd fu hfu _ h,qW]
def q7b(p:Pc):(l8 p).length<=p.2.2.2.length:=by
 unfold l8;split
 ·refine Nat.le_trans (zq6 _ _ (wF _)) ?_;unfold qgi;split
  ·simp
  ·exact wF _
 ·exact wF _
def zor(ab:Bs)(c:UInt8)(t:Bs):List.take (((ab.length+1:Nat):Int).toNat-((ab.length:Nat):Int).toNat) (List.drop ((ab.length:Nat):Int).toNat (ab++c::t))=[c]:=by
 rw[qab,show((ab.length+1:Nat):Int).toNat-((ab.length:Nat):Int).toNat=1 by omega];rfl
def oz(k:UInt8):Bs->Option (Bs×Bs)|[]=>none|c::t=>if c=k then some ([],t) else(oz k t).map fun x=>(c::x.1,x.2)
def qsi(k:UInt8)(t r:Bs)(h:∀x∈t,x≠k):oz k (t++k::r)=some (t,r):=by
 induction t with
 |nil=>rw[List.nil_append,oz,qX rfl]|cons c t ih=>
  rw[wK,oz,qW (h c qH),ih (fun x hx=>h x (qE _ hx))];rfl
def qqj(k:UInt8)(t:Bs)(h:∀x∈t,x≠k):oz k t=none:=by
 induction t with|nil=>rfl|cons c t ih=>rw[oz,qW (h c qH),ih (fun x hx=>h x (qE _ hx))];rfl
def zec(s:Bs)(k:UInt8):qaj s [k]=some (Lib.indexByte s k):=by
 unfold qaj;rw[bc]
 unfold qaa;by_cases h:[k]=s
 ·subst h;rw[a7];show some 0=some (Lib.indexByte ([]++[k]) k);rw[qet k [] [] (by simp)];rfl
 ·rw[bc (by simpa using h),a7,show aq [k] 0=some k from rfl];rfl
def zv8(s:Bs)(k:UInt8)(h:s.length<=4000000:=by omega):ra s [k]=some (match oz k s with|some x=>(x.1,(x.2,true))|none=>(s,([],false))):=by
 unfold ra qgj;rw[zec,qB];rcases sm k s with⟨t,r,rfl,ht⟩|hn
 ·rw[qM,qL]at h;rw[qet k t r ht,qsi k t r ht,aj,aj (by rw[iw];omega),show(([k]:Bs).length:Int)=1 from rfl,a8 _,aj (by rw[iw];omega),qhq,uq];rfl
 ·rw[qcs k s hn,qqj k s hn,a6];rfl
def ov(s:Bs):Bs×Bool:=if s.getLast? = some 42 then(s.dropLast,true) else(s,false)
def zza(t:Bs)(hb:t.length<=4000000:=by omega):qhz t [42]=some (ov t):=by
 unfold qhz qx7 qgr ov;rw[show(([42]:List UInt8).length:Int)=1 from rfl]
 rcases List.eq_nil_or_concat t with rfl|⟨u,c,rfl⟩
 ·rfl
 ·rw[List.concat_eq_append]at *;simp only[qM,qL,qZ]at hb;rw[vi,uj _,aj,aj,qB,List.getLast?_concat,List.dropLast_concat]
  have e:List.drop ((u.length:Nat):Int).toNat (u++[c])=[c]:=qab u [c];rw[e,qwm];by_cases hc:c=42
  ·subst hc;rw[qX rfl,show([(42:UInt8)]==[42])=true from rfl,dd,aj];rfl
  ·rw[qW (by simpa using hc),show([c]==[(42:UInt8)])=false by simpa using hc];rfl
def ep(nm v:Bs):Option Pc:=match oz 42 nm with|none=>if nm=[] then none else some (nm,-1,false,v)|some x=>if x.1≠[]/\(kp (ov x.2).1 1099511627776).2=true then some (x.1,(kp (ov x.2).1 1099511627776).1,(ov x.2).2,v) else none
def q96{k:UInt8}{s:Bs}{x:Bs×Bs}(h:oz k s=some x):x.1.length+x.2.length<s.length:=by
 rcases sm k s with⟨t,r,rfl,ht⟩|hn
 ·rw[qsi k t r ht]at h;cases h;simp only[qM,qL];omega
 ·rw[qqj k s hn]at h;cases h
def zun(s:Bs):(ov s).1.length<=s.length:=by unfold ov;split<;>simp
def q4f{nm v:Bs}{p:Pc}(h:ep nm v=some p):p.1.length<=nm.length/\p.2.2.2=v /\ -1<=p.2.1/\p.2.1<=1099511627776/\p.1≠[]:=by
 unfold ep at h
 cases hc:oz 42 nm with
 |none=>
  rw[hc]at h;simp only at h;by_cases hn:nm=[]
  ·rw[qX hn]at h;cases h
  ·rw[qW hn]at h;cases h;exact⟨wF _,rfl,by simp only;omega,by simp only;omega,hn⟩
 |some x=>
  rw[hc]at h;simp only at h;by_cases hn:x.1≠[]/\(kp (ov x.2).1 1099511627776).2=true
  ·rw[qX hn]at h;obtain⟨u,_,h1,h2⟩:=znp hn.2;have hl:=q96 hc;cases h
   rw[h2];exact⟨by simp only;omega,rfl,by simp only;omega,by simp only;omega,hn.1⟩
  ·rw[qW hn]at h;cases h
def zx5(s:Bs)(h:s.length<=4000000:=by omega):yl s 1099511627776=some (kp s 1099511627776):=by unfold yl;rw[aj]
def zpf(fu:Nat)(hfu:90000000<=fu)(s:Bs)(h:s.length<=4000000:=by omega):∃R,qjy fu s=some R/\match jr s with
  |none=>R.2.1=false|some x=>match ep x.1.1 x.1.2 with
   |none=>R.2.1=false|some p=>R=(p,(true,x.2)):=by
 have l1:=vq dn s;have l2:=qbp 61 (cq dn s).2;unfold qjy jr;rw[zzj fu hfu s h,qB,qle fu hfu 61 _,qB]
 cases hs:(di 61 (cq dn s).2).1
 ·rw[fp,qW];exact⟨_,rfl,rfl⟩
 rw[dd,qX rfl];obtain⟨r,hv⟩:=zub fu hfu (di 61 (cq dn s).2).2
 rw[hv,qB,zv8 _ 42,qB]
 generalize hx:nt (di 61 (cq dn s).2).2=vs;generalize hn:(cq dn s).1=nm at *
 cases hc:oz 42 nm with
 |none=>
  simp only[qF]
  cases vs with
  |none=>exact⟨_,rfl,rfl⟩|some x=>
   refine⟨_,rfl,?_⟩;simp only[wQ];unfold ep;rw[hc]
   cases nm with|nil=>rfl|cons c nm=>rfl
 |some y=>
  have l3:=q96 hc;have l4:=zun y.2;simp only[qT];rw[zza _,qB,zx5 _,qB]
  cases vs with
  |none=>exact⟨_,rfl,rfl⟩|some x=>
   simp only[qT,wQ];unfold ep;rw[hc];simp only;cases hq:(kp (ov y.2).1 1099511627776).2
   ·rw[qW];exact⟨_,rfl,rfl⟩
   ·by_cases hy:y.1=[]
    ·rw[qW (by simp[hy])];refine⟨_,rfl,?_⟩;simp[hy]
    ·rw[qX ⟨hy,rfl⟩];refine⟨_,rfl,?_⟩;simp only;congr 2
     cases hy1:y.1 with|nil=>exact absurd hy1 hy|cons=>rfl
def im(f:Bs->Bs->Option Pc):Nat->List Pc->Bs->Option (List Pc)
 |0,_,_=>none|n+1,acc,s=>match du s with
  |[]=>some acc| c::t=>if c=59 then(match jr t with
   |none=>none|some x=>match f x.1.1 x.1.2 with
    |none=>none| some p=>im f n (acc++[p]) x.2) else none
def de(l:List Pc):Nat:=(l.map fun p=>p.1.length+p.2.2.2.length+1).sum
def q8c(l:List Pc)(p:Pc):de (l++[p])=de l+(p.1.length+p.2.2.2.length+1):=by unfold de;simp
def qfn(l:List Pc):l.length<=de l:=by
 unfold de
 induction l with|nil=>simp|cons p l ih=>simp only[List.map_cons,List.sum_cons,qL];omega
def xt(R:qgm):Prop:=match R with | .inl x=>x.2.2=false | .inr x=>x.2.2.1=false
def nb(p:Pc):Prop := -1<=p.2.1/\p.2.1<=1099511627776
def zss(fu:Nat)(hfu:90000000<=fu)(Qp:List Pc->Bool×List bt)(hQ:∀l,de l<=300000->(∀x∈l,nb x)->qcd fu l=some (Qp l))(a b T S:Bs):∀(n:Nat)(s:Bs)(acc:List Pc),de acc+s.length<=300000->s.length<n->(∀x∈acc,nb x) ->
  ∃R,qfx fu n a b s T S acc=some R/\match im ep n acc s with
   |none=>xt R|some l=>if(Qp l).1=true then R = .inr (T,(S,(true,(Qp l).2))) else xt R:=by
 have hrm:=iq;intro n
 induction n with
 |zero=>intro s acc _ h;omega|succ n ih=>
  intro s acc hz h hnb;have hl:=rl s;have hal:=qfn acc;rw[qfx,qvg,qle fu hfu 59 s,qB,im]
  unfold di
  cases ht:du s with
  |nil=>
   simp only[qF];rw[qba fu hfu [] (by simp),qB,hQ acc (by omega) hnb,qB]
   cases hq:(Qp acc).1
   ·refine⟨_,rfl,?_⟩;rw[qW];rfl
   ·refine⟨_,rfl,?_⟩;rw[qX rfl];rfl
  |cons c t=>
   rw[ht]at hl;simp only[qL]at hl;by_cases hc:c=59
   ·simp only[qX hc,qT];obtain⟨R,h1,h2⟩:=zpf fu hfu t
    rw[h1,qB]
    cases hx:jr t with
    |none=>
     rw[hx]at h2;simp only at h2;rw[h2,fp];exact⟨_,rfl,rfl⟩
    |some x=>
     rw[hx]at h2;simp only at h2 ⊢;have hxl:=(qw6 (n:=x.1.1) (v:=x.1.2) (t:=x.2) hx).1
     cases hp:ep x.1.1 x.1.2 with
     |none=>
      rw[hp]at h2;simp only at h2;rw[h2,fp];exact⟨_,rfl,rfl⟩
     |some p=>
      rw[hp]at h2;simp only at h2 ⊢;obtain⟨g1,g2,g3,g4,_⟩:=q4f hp;subst h2;have hz2:de (acc++[p])+x.2.length<=300000:=by rw[q8c,g2];omega
      rw[dd,aj]
      exact ih x.2 (acc++[p]) hz2 (by omega) (fun y hy=>(List.mem_append.1 hy).elim (hnb y) (fun e=>by rw[List.mem_singleton.1 e];exact⟨g3,g4⟩))
   ·simp only[qW hc,qF];rw[qba fu hfu (c::t) (by simp only[qL];omega),qB,show du (c::t)=c::t by rw[← ht,zws],hQ acc (by omega) hnb,qB]
    cases hq:(Qp acc).1
    ·exact⟨_,rfl,rfl⟩
    ·exact⟨_,rfl,rfl⟩
def qn(f:Bs->Bs->Option Pc)(s:Bs):Option (Bs×Bs×List Pc):=
 let a:=cq tk s;let b:=di 47 a.2;let c:=cq tk b.2
 if a.1=[]\/b.1=false\/c.1=[] then none else(im f (s.length+1) [] c.2).map fun l=>(a.1,c.1,l)
def qkb(f:Bs->Bs->Option Pc):∀(n:Nat)(acc:List Pc)(s:Bs),s.length<n->im f n acc s=im f (s.length+1) acc s:=by
 intro n
 induction n using Nat.strongRecOn with
 |ind n ih=>
  intro acc s h;obtain⟨n,rfl⟩:∃m,n=m+1:=⟨n-1,by omega⟩
  have hl:=rl s;rw[im,im]
  cases ht:du s with
  |nil=>rfl|cons c t=>
   rw[ht]at hl;simp only[qL]at hl;simp only;by_cases hc:c=59
   ·rw[qX hc,qX hc]
    cases hx:jr t with
    |none=>rfl|some x=>
     have hxl:=(qw6 (n:=x.1.1) (v:=x.1.2) (t:=x.2) hx).1;simp only
     cases f x.1.1 x.1.2 with
     |none=>rfl|some p=>
      simp only;rw[ih n (by omega) _ _ (by omega)]
      by_cases he:s.length=n
      ·rw[he];exact(ih n (by omega) _ _ (by omega)).symm
      ·rw[ih s.length (by omega) _ _ (by omega)]
   ·rw[qW hc,qW hc]
def zjg(fu:Nat)(hfu:90000000<=fu)(Qp:List Pc->Bool×List bt)(hQ:∀l,de l<=300000->(∀x∈l,nb x)->qcd fu l=some (Qp l))(s:Bs)(h:s.length<=300000:=by omega) :
  ∃R,ql6 fu s=some R/\match qn ep s with
   |none=>xt R|some m=>if(Qp m.2.2).1=true then R = .inr (m.1,(m.2.1,(true,(Qp m.2.2).2))) else xt R:=by
 have l1:=vq tk s;have l2:=qbp 47 (cq tk s).2;have l3:=vq tk (di 47 (cq tk s).2).2;unfold ql6 qn;rw[zab fu hfu s,qB,qle fu hfu 47 _,qB,zab fu hfu _,qB]
 simp only[];generalize ha:cq tk s=A at *;generalize hb:di 47 A.2=B at *;generalize hc:cq tk B.2=C at *
 cases h1:A.1 with
 |nil=>rw[a7,t6,a7 rfl,qX (.inl rfl)];exact⟨_,rfl,rfl⟩|cons x1 y1=>
  rw[bc]
  cases h2:B.1 with
  |false=>rw[fp,t6,a7 rfl,qX (.inr (.inl rfl))];exact⟨_,rfl,rfl⟩|true=>
   rw[dd]
   cases h3:C.1 with
   |nil=>rw[t6,a7,qX (.inr (.inr rfl))];exact⟨_,rfl,rfl⟩|cons x3 y3=>
    rw[t6,bc,qW,qrd]
    obtain⟨R,g1,g2⟩:=zss fu hfu Qp hQ [] [] (x1::y1) (x3::y3) fu C.2 [] (by simp[de];omega) (by omega) (by simp)
    refine⟨R,g1,?_⟩;rw[qkb _ fu _ _ (by omega)]at g2
    rw[qkb _ (s.length+1) _ _ (by omega)]
    cases hp:im ep (C.2.length+1) [] C.2 with|none=>rw[hp]at g2;exact g2|some l=>rw[hp]at g2;exact g2
def bad:q56:=(([],([],[])),false)
open Go.Sort (SWO PermIn SortedIn pdq_sorts)
open Go.Proofs (ltOf)
def ltQ(x y:Pq):ltOf jk x y=decide (x.1.2.1<y.1.2.1):=by
 have:=x.2;have:=y.2;unfold ltOf jk;have h:af (x.1.2.1-y.1.2.1)=x.1.2.1-y.1.2.1:=by unfold af;simp[IntKind.wrap,IntKind.bits,IntKind.signed];omega
 rw[h];by_cases q:x.1.2.1<y.1.2.1<;>simp[q]<;>omega
def zm8:SWO (ltOf jk):=⟨fun x=>by rw[ltQ];simp,fun x y z h1 h2=>by rw[ltQ]at *;simp at *;omega,fun x y z h1 h2=>by rw[ltQ]at *;simp at *;omega⟩
def q5t(l:List Pq):(ij l).Perm l/\(ij l).Pairwise (fun x y=>x.1.2.1<=y.1.2.1):=by
 obtain⟨⟨h1,_,h2⟩,h3⟩:=pdq_sorts (ltOf jk) zm8 l.toArray 0 l.length (Lib.bitLen l.length) true true (Nat.zero_le _) (by simp) (.inl rfl)
 have hsort:ij l=(Go.Sort.pdq (ltOf jk) l.toArray 0 l.length (Lib.bitLen l.length) true true).toList:=rfl;generalize Go.Sort.pdq (ltOf jk) l.toArray 0 l.length (Lib.bitLen l.length) true true=D at h1 h2 h3 hsort;have hs:D.size=l.length:=by rw[h1];simp
 rw[hsort];constructor
 ·have e:∀d:Array Pq,d.size=l.length->(d.extract 0 l.length).toList=d.toList:=fun d hd=>by rw[← hd];simp
  rw[e _ hs,e _ (by simp)]at h2
  simpa using h2
 ·rw[List.pairwise_iff_getElem];intro i j hi hj hij;rw[Array.length_toList]at hi hj;have:=h3 i j (Nat.zero_le _) hij (by omega)
  rw[ltQ,getElem!_pos D j hj,getElem!_pos D i hi]at this;have:=of_decide_eq_false this;simp only[Array.getElem_toList];omega
def q8p:∀l:List Pc,(∀p∈l,nb p)->∃q,ph l=some q/\q.map (·.1)=l
 |[],_=>⟨[],rfl,rfl⟩|p::l,h=>by
  obtain⟨q,h1,h2⟩:=q8p l (fun x hx=>h x (qE _ hx))
  have hp:=h p qH;unfold nb at hp;refine⟨⟨p,by omega⟩::q,?_,by simp[h2]⟩
  rw[ph,dif_pos (by omega),h1]
def mc(l:List Pc):List Pc:=match ph l with|some q=>(ij q).map (·.1)|none=>[]
def q8w(l:List Pc)(h:∀p∈l,nb p)(hl:l.length<=4000000:=by omega):yc l=some (mc l)/\(mc l).Perm l/\(mc l).Pairwise (fun x y=>x.2.1<=y.2.1):=by
 have hrm:=iq;obtain⟨q,h1,h2⟩:=q8p l h;have h3:=q5t q;unfold yc mc;rw[h1,aj]
 refine⟨rfl,?_,?_⟩
 ·have:=h3.1.map (·.1);rw[h2]at this;exact this
 ·exact List.pairwise_map.2 h3.2
def nn:List Pc->Int->Bs->Option Bs|[],_,out=>some out|p::q,k,out=>if p.2.1=k then nn q (k+1) (out++l8 p) else none
def qmc:List Pc->Int->Prop|[],_=>True|p::q,k=>p.2.1=k/\qmc q (k+1)
def qpl:∀(q:List Pc)(k:Int)(out:Bs),qmc q k->nn q k out=some (out++q.flatMap l8)|[],_,out,_=>by simp[nn]|p::q,k,out,h=>by rw[nn,qX h.1,qpl q _ _ h.2];simp
def q4o:∀(q:List Pc)(k:Int)(out v:Bs),nn q k out=some v->qmc q k
 |[],_,_,_,_=>trivial|p::q,k,out,v,h=>by
  rw[nn]at h;by_cases hp:p.2.1=k
  ·rw[qX hp]at h;exact⟨hp,q4o q _ _ _ h⟩
  ·rw[qW hp]at h;cases h
def y5:List Pc->Option Bs|[]=>none|p::l=>if p.2.1<0 then(if l=[] then some p.2.2.2 else none) else(nn (mc (p::l)) 0 []).map fun v=>vu [239,191,189] v.length false v
def qj5(p:Pc)(l:List Pc):y5 (p::l)=if p.2.1<0 then(if l=[] then some p.2.2.2 else none) else(nn (mc (p::l)) 0 []).map fun v=>vu [239,191,189] v.length false v:=rfl
def qgc(p:Pc)(l:List Pc):de (p::l)=(p.1.length+p.2.2.2.length+1)+de l:=by unfold de;simp
def q2e{l l':List Pc}(h:l.Perm l'):de l=de l':=by unfold de;exact(h.map _).sum_nat
def qt8{l:List Pc}{p:Pc}(h:p∈l):p.1.length+p.2.2.2.length+1<=de l:=by
 obtain⟨a,b,rfl⟩:=List.append_of_mem h;unfold de;simp;omega
def zxm(fu n:Nat)(hfu:90000000<=fu)(z:Bs×Bs)(nm:Bs):∀(ab aa:List Pc)(out:Bs),aa.length<n->ab.length+aa.length<100000000->out.length+de aa<=300000 ->
  ∃R,qf6 fu n ((ab.length+aa.length:Nat):Int) (ab.length:Int) z (nm,out) (ab++aa)=some R/\match nn aa (ab.length:Int) out with
   |some v=>R=((nm,vu [239,191,189] v.length false v),true)|none=>R.2=false:=by
 induction n with
 |zero=>intro ab aa out h;omega|succ n ih=>
  intro ab aa out h hb hz;rw[qf6,qwp]
  cases aa with
  |nil=>
   rw[a6,zfb out (by simp[de]at hz;omega)]
   exact⟨_,rfl,rfl⟩
  |cons p t=>
   rw[qgc]at hz;simp only[qL]at h hb;have hl:0<=(ab.length:Int)/\(ab.length:Int).toNat<(ab++p::t).length:=by simp
   have htl:=q7b p;rw[aj (by simp only[qL];omega),aj hl,ng,qB,jg,nn]
   by_cases hp:p.2.1=(ab.length:Int)
   ·rw[qW (by simpa using hp),qX hp,zp6 fu hfu p,qB,aj (by simp[bh];omega),a8 _]
    have:=ih (ab++[p]) t (out++l8 p) (by omega) (by simp;omega) (by rw[qM];omega)
    simp only[qM,qL,qZ,qS,wM,wO]at this;rw[show(ab.length+(p::t).length:Nat)=ab.length+1+t.length by simp only[qL];omega,show(ab.length:Int)+1=((ab.length+1:Nat):Int) by omega]
    exact this
   ·rw[qX hp,qW hp];exact⟨_,rfl,rfl⟩
def zfr(fu:Nat)(hfu:90000000<=fu)(p:Pc)(l:List Pc)(hz:de (p::l)<=300000)(hn:∀x∈p::l,nb x):∃R,qd9 fu (p::l)=some R/\match y5 (p::l) with
  |some v=>R=((p.1,v),true)|none=>R.2=false:=by
 have hl:decide (0<=(0:Int)/\(0:Int).toNat<List.length (p::l))=true:=by simp
 have ac:=qfn (p::l);unfold qd9;rw[qj5,a7 hl,show(p::l)[(0:Int).toNat]? = some p from rfl,qB,a7 hl,qB,a7 hl,qB]
 by_cases h0:p.2.1<0
 ·rw[aj h0,qX h0];refine⟨_,rfl,?_⟩
  cases l with|nil=>rfl|cons y l=>rw[qW];simp;omega
 ·rw[a6 h0,qW h0];obtain⟨h1,h2,h3⟩:=q8w (p::l) hn
  rw[h1,qB];obtain⟨R,g1,g2⟩:=zxm fu fu hfu ([],[]) p.1 [] (mc (p::l)) [] (by rw[h2.length_eq];omega) (by rw[h2.length_eq];simp only[qZ];omega) (by rw[q2e h2];simpa using hz)
  simp only[List.nil_append,qZ,wO]at g1 g2;refine⟨R,g1,?_⟩;rw[show((0:Nat):Int)=0 from rfl]at g2
  cases hq:nn (mc (p::l)) 0 [] with|none=>rw[hq]at g2;exact g2|some v=>rw[hq]at g2;exact g2
def ja(nm:Bs)(l:List Pc):List Pc:=l.filter fun x=>lk x.1 nm
def gl:List Pc->List Pc->List bt->Bool×List bt
 |_,[],out=>(true,out)|ab,p::aa,out=>if ab.any (fun x=>lk x.1 p.1)=true then gl (ab++[p]) aa out else match y5 (ja p.1 (ab++p::aa)) with|none=>(false,[])|some v=>gl (ab++[p]) aa (out++[(p.1,v)])
def zdy(fu n:Nat)(hfu:90000000<=fu)(p:Pc)(hp:p.1.length<=4000000):∀(ab aa:List Pc),aa.length<n->ab.length+aa.length<100000000->(∀x∈aa,x.1.length<=4000000) ->
  ∃i:Int,qfl fu n (ab++aa) ((ab.length+aa.length:Nat):Int) (ab.length:Int) p=some (i,p)/\decide (0<=i)=aa.any (fun x=>lk x.1 p.1):=by
 induction n with
 |zero=>intro ab aa h;omega|succ n ih=>
  intro ab aa h hb hs;rw[qfl,qv4]
  cases aa with
  |nil=>rw[a6];exact⟨_,rfl,rfl⟩|cons d aa=>
   simp only[qL]at h hb;rw[aj (by simp only[qL];omega),da,qB,qf4,o7 fu hfu _ _ (hs d qH) hp,qB,qB,a8 _]
   obtain⟨i,h1,h2⟩:=ih (ab++[d]) aa (by omega) (by simp;omega) (fun x hx=>hs x (qE _ hx))
   simp only[qM,qL,qZ,qS,wM,wO]at h1;cases e:lk d.1 p.1
   ·simp only[qF,List.any_cons,e,Bool.false_or];rw[show(ab.length+(d::aa).length:Nat)=ab.length+1+aa.length by simp only[qL];omega]
    exact⟨i,h1,h2⟩
   ·simp only[qT,List.any_cons,e,Bool.true_or];exact⟨_,rfl,decide_eq_true (by omega)⟩
def zj0(fu:Nat)(hfu:90000000<=fu)(l:List Pc)(p:Pc)(hp:p.1.length<=4000000)(hl:l.length<=4000000)(hs:∀x∈l,x.1.length<=4000000):qii fu l p=some (l.any (fun x=>lk x.1 p.1),p):=by
 obtain⟨i,h1,h2⟩:=zdy fu fu hfu p hp [] l (by omega) (by simp;omega) hs
 simp only[List.nil_append,qZ,wO]at h1;unfold qii qru;rw[← h2];exact(congrArg (fun q=>Option.bind q fun x1=>some (decide ((0:Int)<=x1.1),x1.2)) h1).trans rfl
def qqc(r0:ux)(s0 s13:List Pc)(s14 s15:Int)(p:Pc)(out:List bt)(x3:(Bs×Bs)×Bool):Option qgf:=bif !x3.2 then some (false,[]) else bif decide (List.length (out++([(p.1,x3.1.2)]:List bt))<=bg) then r0 s0 s13 s14 (af (s15+(1:Int))) (out++([(p.1,x3.1.2)]:List bt)) else none
def z06(fu:Nat)(hfu:90000000<=fu)(r0:ux)(s0 s13:List Pc)(s14 s15:Int)(p:Pc)(hp:p.1.length<=4000000)(out:List bt)(n:Nat):∀(ab aa acc:List Pc),aa.length<n->ab.length+aa.length<100000000->acc.length<=ab.length->(∀x∈aa,x.1.length<=4000000) ->
  qdr fu r0 n s0 s13 s14 s15 (ab++aa) ((ab.length+aa.length:Nat):Int) (ab.length:Int) p out acc =
   (qd9 fu (acc++ja p.1 aa)).bind (qqc r0 s0 s13 s14 s15 p out):=by
 have hrm:=iq
 induction n with
 |zero=>intro ab aa acc h;omega|succ n ih=>
  intro ab aa acc h hb ha hs;rw[qdr,qr0]
  cases aa with
  |nil=>rw[a6,show ja p.1 []=[] from rfl,List.append_nil];rfl|cons d aa=>
   simp only[qL]at h hb;rw[aj (by simp only[qL];omega),da,qB,qf4,o7 fu hfu _ _ (hs d qH) hp,qB,qB]
   have h1:=fun acc'(ha':acc'.length<=ab.length+1)=>ih (ab++[d]) aa acc' (by omega) (by simp;omega) (by simpa using ha') (fun x hx=>hs x (qE _ hx))
   simp only[qM,qL,qZ,qS,wM,wO]at h1;rw[show ja p.1 (d::aa)=if lk d.1 p.1=true then d::ja p.1 aa else ja p.1 aa by unfold ja;rw[List.filter_cons]]
   cases e:lk d.1 p.1
   ·simp only[qF,wJ,if_false];rw[qfk,a8 _,show(ab.length+(d::aa).length:Nat)=ab.length+1+aa.length by simp only[qL];omega]
    exact h1 acc (by omega)
   ·simp only[qT,if_true];rw[aj,qfk,a8 _,show(ab.length+(d::aa).length:Nat)=ab.length+1+aa.length by simp only[qL];omega]
    refine(h1 (acc++[d]) (by simp;omega)).trans ?_
    rw[qS];rfl
def q0h(f:Pc->Bool)(l:List Pc):de (l.filter f)<=de l:=by
 induction l with
 |nil=>simp|cons p l ih=>
  rw[List.filter_cons];split
  ·rw[qgc,qgc];omega
  ·rw[qgc];omega
def z1s(fu:Nat)(hfu:90000000<=fu)(l:List Pc)(hz:de l<=300000)(hn:∀x∈l,nb x)(n:Nat):∀(ab aa:List Pc)(out:List bt),l=ab++aa->aa.length<n->out.length<=ab.length ->
  qaq fu n l (ab++aa) ((ab.length+aa.length:Nat):Int) (ab.length:Int) out=some (gl ab aa out):=by
 have hrm:=iq;have hll:=qfn l;have hnm:∀x∈l,x.1.length<=4000000:=fun x hx=>by have:=qt8 hx;omega
 induction n with
 |zero=>intro ab aa out _ h;omega|succ n ih=>
  intro ab aa out hl h ho;rw[qaq,qt6]
  cases aa with
  |nil=>rw[a6];rfl|cons p aa=>
   simp only[qL]at h;have ac:l.length=ab.length+aa.length+1:=by rw[hl];simp;omega
   have hp:=hnm p (by rw[hl];simp)
   rw[aj (by simp only[qL];omega),da,qB,aj]
   have e:List.take ((ab.length:Nat):Int).toNat l=ab:=by rw[hl];exact uq _ _
   rw[e,zj0 fu hfu ab p hp (by omega) (fun x hx=>hnm x (by rw[hl];simp[hx])),qB,gl]
   have step:=fun o(ho:List.length o<=ab.length+1)=>ih (ab++[p]) aa o (by rw[hl];simp) (by omega) (by simpa using ho)
   simp only[qM,qL,qZ,qS,wM,wO]at step;simp only;cases hany:ab.any (fun x=>lk x.1 p.1)
   ·rw[bc rfl,qW]
    have h1:=z06 fu hfu (qaq fu n) l (ab++p::aa) ((ab.length+(p::aa).length:Nat):Int) (ab.length:Int) p hp out fu [] l [] (by omega) (by simp;omega) (by simp) hnm
    simp only[List.nil_append,qZ,wO]at h1;rw[show((0:Nat):Int)=0 from rfl]at h1
    rw[h1];have hmem:p∈ja p.1 l:=by unfold ja;rw[List.mem_filter];exact⟨by rw[hl];simp,za _⟩
    have hzz:=q0h (fun x=>lk x.1 p.1) l
    cases hN:ja p.1 l with
    |nil=>rw[hN]at hmem;cases hmem
    |cons y w=>
     obtain⟨R,g1,g2⟩:=zfr fu hfu y w (by rw[← hN];unfold ja;omega) (fun x hx=>hn x (by rw[← hN]at hx;exact(List.mem_filter.1 hx).1))
     rw[g1,qB];rw[← hl,hN]
     cases hj:y5 (y::w) with
     |none=>rw[hj]at g2;simp only at g2;rw[qqc,g2];rfl|some v=>
      rw[hj]at g2;simp only at g2;subst g2;rw[qqc,dd,aj,a8 _]
      simp only;rw[show(ab.length+(p::aa).length:Nat)=ab.length+1+aa.length by simp only[qL];omega]
      have st:=step (out++[(p.1,v)]) (by simp;omega)
      rw[← hl]at st;exact st
   ·rw[a7 rfl,qX rfl,a8 _,show(ab.length+(p::aa).length:Nat)=ab.length+1+aa.length by simp only[qL];omega]
    exact step out (by omega)
def ze2(fu:Nat)(hfu:90000000<=fu)(l:List Pc)(hz:de l<=300000)(hn:∀x∈l,nb x):qcd fu l=some (gl [] l []):=by
 have hll:=qfn l;have:=z1s fu hfu l hz hn fu [] l [] rfl (by omega) (by simp)
 simpa [qcd] using this
end Go.Sym
namespace Go.Sym
section ref
variable(fu:Nat)(hfu:90000000<=fu)(l ab aa:List Pc)(p:Pc)(hl:l=ab++p::aa)(hz:de l<=300000)(b0 b1 T S:Bs)(ps:List bt)(r4:zsx)
include hfu hl hz
end ref
def ml(s:List UInt8)(i:Nat):Bool:=bl (s.getD i 0) && !bl (s.getD (i-1) 0)
def cb(s:List UInt8):Nat->Nat->Nat->Nat|0,_,b=>b|m+1,i,b=>cb s m (i+1) (if ml s i && !(decide (0<b)&&decide (78<i)) then i else b)
def q6f(s:List UInt8):∀m i b,0<b->78<i->cb s m i b=b
 |0,_,_,_,_=>rfl|m+1,i,b,h1,h2=>by
  rw[cb,decide_eq_true h1,decide_eq_true h2];simp only[Bool.and_self,Bool.not_true,Bool.and_false,wJ,if_false];exact q6f s m (i+1) b h1 (by omega)
def qmx(s:List UInt8):∀m i b,cb s m i b=b\/(i<=cb s m i b/\cb s m i b<i+m/\ml s (cb s m i b)=true)
 |0,_,_ => .inl rfl|m+1,i,b=>by
  rw[cb];split
  ·rename_i h;simp only[qA]at h;rcases qmx s m (i+1) i with e|⟨h1,h2,h3⟩
   ·rw[e];exact .inr ⟨wF _,by omega,h.1⟩
   ·exact .inr ⟨by omega,by omega,h3⟩
  ·rcases qmx s m (i+1) b with e|⟨h1,h2,h3⟩
   ·exact .inl e
   ·exact .inr ⟨by omega,by omega,h3⟩
def qo0(s:List UInt8)(i:Nat)(h:i<s.length):s.getD i 0=s[i]:=by simp[List.getD_eq_getElem?_getD,h]
def zfq(fu n:Nat):∀(s:List UInt8)(m i b:Nat),i+m=s.length->1<=i->m<n->s.length<1000000000->qhc fu n s (b:Int) (i:Int)=some ((cb s m i b:Nat):Int):=by
 induction n with
 |zero=>intro s m i b _ _ h;omega|succ n ih=>
  intro s m i b hi h1 hm hb;rw[qhc,qn3]
  cases m with
  |zero=>rw[a6];rfl|succ m=>
   have hlt:i<s.length:=by omega
   have hlt':i-1<s.length:=by omega
   rw[aj,qt0 _ _ hlt,qB,qey,qB,cb]
   unfold ml;rw[qo0 _ _ hlt,qo0 _ _ hlt'];unfold qnf;cases bl s[i]
   ·rw[fp,a7,a8 _]
    exact ih s m (i+1) b (by omega) (by omega) (by omega) hb
   ·rw[dd,show af ((i:Int)-1)=((i-1:Nat):Int) by rw[me];omega,qt0 _ _ hlt',qB,qey,qB]
    cases bl s[i-1]
    ·rw[bc,a8 _,ft,ft]
     by_cases q1:0<b
     ·rw[qX,decide_eq_true q1]
      by_cases q2:78<i
      ·rw[qX,decide_eq_true q2]
       simp only[Bool.and_self,Bool.not_true,Bool.and_false,wJ,if_false];rw[q6f s m (i+1) b q1 (by omega)]
      ·rw[qW,decide_eq_false q2]
       exact ih s m (i+1) i (by omega) (by omega) (by omega) hb
     ·rw[qW,decide_eq_false q1]
      exact ih s m (i+1) i (by omega) (by omega) (by omega) hb
    ·rw[a7,a8 _]
     exact ih s m (i+1) b (by omega) (by omega) (by omega) hb
def gq(s:List UInt8)(k:Nat):Nat:=cb s (s.length-k) k 0
def zji(fu:Nat)(s:List UInt8)(k:Nat)(h:s.length<fu)(hb:s.length<1000000000)(hk:k<=s.length)(h0:1<=s.length):qmk fu s (k:Int)=some ((gq s (max k 1):Nat):Int):=by
 unfold qmk gq;have e:(if(1:Int)>(k:Int) then(1:Int) else(k:Int))=((max k 1:Nat):Int):=by
  split
  ·rename_i h;have:k=0:=by omega
   subst this;rfl
  ·rename_i h;rw[Nat.max_eq_left (by omega)]
 rw[e];exact zfq fu fu s (s.length-max k 1) (max k 1) 0 (by omega) (by omega) (by omega) hb
def ik:Nat->List UInt8->Nat->List (List UInt8)|0,s,_=>[s]|n+1,s,k=>if 78<s.length then(if gq s k=0 then[s] else s.take (gq s k)::ik n (s.drop (gq s k)) 1) else[s]
def qj3(s:List UInt8)(k:Nat)(_h1:1<=k)(h:gq s k≠0):k<=gq s k/\gq s k<s.length/\ml s (gq s k)=true:=by
 unfold gq at *;rcases qmx s (s.length-k) k 0 with e|⟨h2,h3,h4⟩
 ·exact absurd e h
 ·exact⟨h2,by omega,h4⟩
def oc:Nat->List (List UInt8)->Option Nat|_,[]=>none|i,l::ls=>if 998<l.length then some i else oc (i+1) ls
def qav(ls:List (List UInt8)):(Int×Int)×List (List UInt8):=match oc 0 ls with|some i=>((1,(i:Int)),[])|none=>((0,0),ls)
def zdc(fu n:Nat)(m16:Int×Int):∀(ab aa:List (List UInt8)),aa.length<n->ab.length+aa.length<1000000000 ->
  qgy fu n ((ab.length+aa.length:Nat):Int) (ab.length:Int) m16 (ab++aa)=some (match oc ab.length aa with|some i=>((1,(i:Int)),[])|none=>((0,0),ab++aa)):=by
 induction n with
 |zero=>intro ab aa h;omega|succ n ih=>
  intro ab aa h hb;rw[qgy,qyc]
  cases aa with
  |nil=>rw[a6];rfl|cons c aa=>
   simp only[qL]at h hb ⊢;rw[aj,qta,da,qB,ft,oc]
   by_cases hc:998<c.length
   ·rw[qX,qX hc];rfl
   ·rw[qW,qW hc,a8 _]
    have:=ih (ab++[c]) aa (by omega) (by simp;omega)
    simp only[qS,wM,qM,qL,qZ]at this;rw[show ab.length+(0+1)+aa.length=ab.length+(aa.length+1) by omega]at this
    exact this
def q4b(fu:Nat)(m16:Int×Int)(s:List UInt8)(out:List (List UInt8))(h:out.length+1<fu:=by omega)(hb:out.length<900000000:=by omega):qg1 fu s m16 out=some (qav (out++[s])):=by
 unfold qg1;rw[aj (by simp[bg];omega)]
 have:=zdc fu fu m16 [] (out++[s]) (by simpa using h) (by simp;omega)
 simp only[List.nil_append,qZ,wO]at this;exact this
def zyw(fu n:Nat)(m16:Int×Int):∀(m:Nat)(s:List UInt8)(k k':Nat)(out:List (List UInt8)),s.length<=m->s.length<n->max k 1=k'->(78<s.length->k<=s.length)->s.length+out.length+1<fu->s.length+out.length<500000000 ->
  qf0 fu n s (k:Int) m16 out=some (qav (out++ik m s k')):=by
 induction n with
 |zero=>intro m s k k' out _ h;omega|succ n ih=>
  intro m s k k' out hm h hk hk2 hf hb;rw[qf0,qv1,ft];by_cases hl:78<s.length
  ·obtain⟨m,rfl⟩:∃j,m=j+1:=⟨m-1,by omega⟩
   rw[qX,zji fu s k (by omega) (by omega) (hk2 hl) (by omega),hk,qB,ke,ik,qX hl]
   by_cases h0:gq s k'=0
   ·rw[qX,qX h0]
    exact q4b fu m16 s out
   ·obtain⟨h1,h2,_⟩:=qj3 s k' (by omega) h0
    rw[qW,qW h0,aj,aj (by simp[bg];omega),aj]
    have:=ih m (s.drop (gq s k')) 0 1 (out++[s.take (gq s k')]) (by rw[List.length_drop];omega) (by rw[List.length_drop];omega) rfl (by intro;omega) (by rw[List.length_drop,qM,wD];omega) (by rw[List.length_drop,qM,wD];omega)
    simpa using this
  ·rw[qW]
   have e:ik m s k'=[s]:=by cases m with|zero=>rfl|succ m=>rw[ik,qW hl]
   rw[e];exact q4b fu m16 s out
def cm(n v:List UInt8):List UInt8:=n++[58,32]++v
def cz(n v:List UInt8):List (List UInt8):=ik (cm n v).length (cm n v) (n.length+2)
def od(n v:List UInt8):(Int×Int)×List (List UInt8):=if ou n v=0 then qav (cz n v) else((ou n v,-1),[])
def qk4{s:List UInt8}(h:io s=true):s.length<=60:=by
 unfold io at h;simp only[qA,decide_eq_true_eq]at h;exact h.1.2
def tj{n v:List UInt8}(h:ou n v=0):io n=true/\v.length<=4000/\o9 v=true:=by
 unfold ou at h;split at h
 ·rename_i h1;split at h
  ·exact absurd h (by decide)
  ·rename_i h2;split at h
   ·rename_i h3;exact⟨h1,by omega,h3⟩
   ·exact absurd h (by decide)
 ·exact absurd h (by decide)
def qiq(fu:Nat)(n v:List UInt8)(hfu:10000<=fu:=by omega)(hv:v.length<fu:=by omega)(hvb:v.length<1000000000:=by omega):w7 fu n v=some (od n v):=by
 unfold w7 od;rw[zn4 fu n,qB]
 by_cases h0:ou n v=0
 ·obtain⟨h1,h2,h3⟩:=tj h0;have hn:=qk4 h1;rw[qX h0,h1,dd,a6,q2u fu v (by omega) hv hvb,qB,h3,dd,aj (by simp[bh];omega),aj (by simp[bh];omega)]
  have:=zyw fu fu (0,0) (cm n v).length (cm n v) (n.length+2) (n.length+2) [] (wF _) (by simp[cm]<;>omega) (by omega) (by intro;simp[cm]<;>omega) (by simp[cm]<;>omega) (by simp[cm]<;>omega)
  rw[show af ((n.length:Int)+2)=((n.length+2:Nat):Int) by rw[me];omega]
  exact this
 ·rw[qW h0];unfold ou at h0 ⊢;cases hn:io n
  ·rfl
  ·rw[hn]at h0;simp only[if_true]at h0 ⊢;rw[dd,ft];by_cases hl:4000<v.length
   ·rw[qX,qX hl];rfl
   ·rw[qW hl]at h0;rw[qW,qW hl,q2u fu v (by omega) hv hvb,qB]
    cases hv3:o9 v
    ·rfl
    ·rw[hv3]at h0;exact absurd rfl h0
def pts(s:List UInt8)(i m:Nat):List Nat:=(List.range' i m).filter (ml s)
def zf7(s:List UInt8)(a i:Nat)(h:a<i:=by omega):ml (s.drop a) (i-a)=ml s i:=by
 unfold ml;simp only[List.getD_eq_getElem?_getD,List.getElem?_drop];rw[show a+(i-a)=i by omega,show a+(i-a-1)=i-1 by omega]
def qzr:∀(m:Nat)(s:List UInt8)(k:Nat),s.length<=m->1<=k->(ik m s k).length<=s.length+1
 |0,s,_,_,_=>by simp[ik]|m+1,s,k,h,hk=>by
  rw[ik];split
  ·split
   ·simp
   ·rename_i h0;obtain⟨h1,h2,_⟩:=qj3 s k hk h0;have:=qzr m (s.drop (gq s k)) 1 (by rw[List.length_drop];omega) (by omega)
    rw[List.length_drop]at this;rw[qL];omega
  ·simp
def zzd{α:Type}(ab:List α)(c d:α)(aa:List α):aq (ab++c::d::aa) ((ab.length+1:Nat):Int)=some d:=by
 have:=da (ab++[c]) d aa;simpa using this
def d7(c:UInt8)(r:List UInt8):Bool:=c==13&&r.head? == some 10
def qed{c:UInt8}{r:List UInt8}(h:d7 c r=true):c=13/\∃r',r=10::r':=by
 unfold d7 at h;simp only[qA,beq_iff_eq]at h;refine⟨h.1,?_⟩
 cases r with|nil=>simp at h|cons d r=>simp at h;exact⟨r,by rw[h.2]⟩
def eo:List UInt8->List UInt8|[]=>[]|c::r=>if d7 c r then 13::10::eo r.tail else if c=13\/c=10 then 13::10::eo r else c::eo r
termination_by l=>l.length
decreasing_by all_goals (simp only[qL,List.length_tail];omega)
def bs(col:Nat):List UInt8->Int|[]=>0|c::r=>if d7 c r then bs 0 r.tail else if c=13\/c=10 then 11 else if 998<=col then 1 else bs (col+1) r
termination_by l=>l.length
decreasing_by all_goals (simp only[qL,List.length_tail];omega)
def qac(col:Nat):bs col []=0:=by rw[bs]
def xv(col:Nat)(c:UInt8)(r:List UInt8):bs col (c::r)=if d7 c r then bs 0 r.tail else if c=13\/c=10 then 11 else if 998<=col then 1 else bs (col+1) r:=by rw[bs]
def qpi(x:Int):Int×Int:=if x=11 then(11,-5) else if x=1 then(1,-6) else(0,0)
def q9y(fu n:Nat):∀(ab aa:List UInt8)(col:Nat),aa.length<n->ab.length+aa.length<100000000->col<=2000 ->
  yi fu n (ab++aa) (col:Int) (ab.length:Int)=some (bs col aa):=by
 induction n with
 |zero=>intro ab aa col h;omega|succ n ih=>
  intro ab aa col h hb hcol;rw[yi,qpb]
  cases aa with
  |nil=>rw[a6,qac]|cons c r=>
   simp only[qL]at h hb;have fin:∀f,f=d7 c r->y6 fu (yi fu n) (ab++c::r) (col:Int) (ab.length:Int) c f=some (bs col (c::r)):=by
    intro f hf;unfold y6;rw[xv,hf];cases hc:d7 c r
    ·rw[bc,qW (by decide)]
     unfold qo5;rw[qaw,qaw];by_cases h13:c=13
     ·rw[qX h13,qX (.inl h13)]
     ·rw[qW h13];by_cases h10:c=10
      ·rw[qX h10,qX (.inr h10)]
      ·rw[qW h10,qW (by simp[h13,h10]),a8 _,ft]
       by_cases hq:998<=col
       ·rw[qX,qX hq]
       ·rw[qW,qW hq,a8 _]
        have:=ih (ab++[c]) r (col+1) (by omega) (by simp;omega) (by omega)
        simpa using this
    ·obtain⟨rfl,r',rfl⟩:=qed hc;simp only[qL]at h hb;rw[a7,qX rfl,a8 _,a8 _,show ab.length+1+1=ab.length+2 from rfl]
     have:=ih (ab++[13,10]) r' 0 (by omega) (by simp;omega) (by omega)
     simpa using this
   rw[iw,aj,da,qB,qaw]
   by_cases h13:c=13
   ·subst h13;rw[qX rfl,a8 _]
    cases r with
    |nil=>rw[a6];exact fin false rfl|cons d r=>
     rw[aj (by simp only[qL];omega),zzd,qB]
     exact fin _ (by unfold d7;cases h:d==10<;>simp_all)
   ·rw[qW h13];exact fin false (by unfold d7;rw[beq_false_of_ne h13];rfl)
def zif(fu:Nat)(s:List UInt8)(h:s.length<fu:=by omega)(hb:s.length<100000000:=by omega):qlk fu s=some (qpi (bs 0 s)):=by
 unfold qlk qbs qpi;have:=q9y fu fu [] s 0 h (by simpa using hb) (by omega)
 have this:yi fu fu s 0 0=some (bs 0 s):=this;rw[this,qB,ke,ke];split
 ·rfl
 ·split<;>rfl
def zsc(n:Nat):∀(s:List UInt8)(col:Nat),s.length<=n->bs col s=0\/bs col s=1\/bs col s=11:=by
 induction n with
 |zero=>intro s col h;have:=List.length_eq_zero_iff.1 (Nat.le_zero.1 h);subst this;rw[qac];exact .inl rfl|succ n ih=>
  intro s col h
  cases s with
  |nil=>rw[qac];exact .inl rfl|cons c r=>
   simp only[qL]at h;rw[xv];split
   ·exact ih _ _ (by rw[List.length_tail];omega)
   ·split
    ·exact .inr (.inr rfl)
    ·split
     ·exact .inr (.inl rfl)
     ·exact ih _ _ (by omega)
abbrev al:Type:=List UInt8×List UInt8
def yf(l:List al):Prop:=l.length<=10000000/\∀x∈l,x.1.length<=10000000/\x.2.length<=10000000
def yf.tail{x:al}{l:List al}(h:yf (x::l)):yf l:=⟨by have:=h.1;simp only[qL]at this;omega,fun y hy=>h.2 y (qE _ hy)⟩
def ff:Nat->List al->Int×Int|_,[]=>(0,0)|i,x::l=>if(od x.1 x.2).1.1≠0 then((od x.1 x.2).1.1,(i:Int)) else ff (i+1) l
def mv(l:List al):Int×Int:=if 60<l.length then(2,-1) else ff 0 l
def zp7(fu n:Nat)(hfu:90000000<=fu)(m16:Int×Int):∀(ab aa:List al),aa.length<n->ab.length+aa.length<100000000->yf aa ->
  qcq fu n (ab++aa) ((ab.length+aa.length:Nat):Int) (ab.length:Int) m16=some (ff ab.length aa):=by
 induction n with
 |zero=>intro ab aa h;omega|succ n ih=>
  intro ab aa h hb hs;rw[qcq,qv6]
  cases aa with
  |nil=>rw[a6];rfl|cons x aa=>
   simp only[qL]at h hb ⊢;obtain⟨q1,q2⟩:=hs.2 x qH;rw[aj,da,qB,qiq fu x.1 x.2,qB,jx,qB,jg,ff]
   split
   ·rfl
   ·rw[a8 _]
    have:=ih (ab++[x]) aa (by omega) (by simp;omega) hs.tail
    simp only[qS,wM,qM,qL,qZ]at this;rw[show ab.length+(0+1)+aa.length=ab.length+(aa.length+1) by omega]at this
    exact this
def q4q(fu:Nat)(hfu:90000000<=fu)(l:List al)(hs:yf l):qeh fu l=some (mv l):=by
 unfold qeh mv;rw[ft];split
 ·rw[qX];rfl
 ·rw[qW]
  have:=zp7 fu fu hfu (0,0) [] l (by have:=hs.1;omega) (by have:=hs.1;simp;omega) hs
  simp only[List.nil_append,qZ,wO]at this;exact this
def eh(x:al):Prop:=ou x.1 x.2=0/\oc 0 (cz x.1 x.2)=none
def qtq{x:al}(h:eh x):od x.1 x.2=((0,0),cz x.1 x.2):=by
 unfold od qav;rw[qX h.1,h.2]
def zu6{x:al}(h:(od x.1 x.2).1.1=0:=by omega):eh x:=by
 unfold od qav at h;by_cases h0:ou x.1 x.2=0
 ·refine⟨h0,?_⟩;rw[qX h0]at h;split at h
  ·exact absurd h (by simp)
  ·rename_i h1;exact h1
 ·rw[qW h0]at h;exact absurd h h0
def q9s:∀(i:Nat)(l:List al),(ff i l).1=0->∀x∈l,eh x
 |_,[],_,_,h=>by cases h
 |i,y::l,h,x,hx=>by
  rw[ff]at h;split at h
  ·rename_i h1;exact absurd h h1
  ·rename_i h1;rcases List.mem_cons.1 hx with rfl|hx
   ·exact zu6
   ·exact q9s (i+1) l h x hx
def qv8:∀(i:Nat)(l:List al),(∀x∈l,eh x)->ff i l=(0,0)
 |_,[],_=>rfl|i,y::l,h=>by
  rw[ff,qtq (h y qH),qW]
  exact qv8 (i+1) l fun x hx=>h x (qE _ hx)
def ql9{l:List al}(h:(mv l).1=0):mv l=(0,0)/\l.length<=60/\∀x∈l,eh x:=by
 unfold mv at h ⊢;split at h
 ·exact absurd h (by decide)
 ·rename_i hl;have:=q9s 0 l h;rw[qW hl];exact⟨qv8 0 l this,by omega,this⟩
def bi(ls:List (List UInt8)):List UInt8:=ls.flatMap fun s=>s++[13,10]
def ie(l:List al):List UInt8:=l.flatMap fun x=>bi (cz x.1 x.2)
def hbytes(l:List al):List UInt8:=ie l++[13,10]
def wi:∀(m:Nat)(s:List UInt8)(k:Nat),(ik m s k).flatten=s
 |0,s,_=>by simp[ik]|m+1,s,k=>by
  rw[ik];split
  ·split
   ·simp
   ·rw[List.flatten_cons,wi m,List.take_append_drop]
  ·simp
def qml:∀ls:List (List UInt8),(bi ls).length=ls.flatten.length+2*ls.length
 |[]=>rfl|s::ls=>by
  have:=qml ls;unfold bi at this ⊢;rw[List.flatMap_cons,List.flatten_cons,qM,qM,this];simp only[qM,qL,qZ];omega
def qe3{x:al}(h:eh x):x.1.length<=60/\x.2.length<=4000/\(cz x.1 x.2).length<=5000/\(bi (cz x.1 x.2)).length<=20000:=by
 obtain⟨h1,h2,_⟩:=tj h.1;have hl:=qk4 h1;have hle:(cm x.1 x.2).length=x.1.length+2+x.2.length:=by simp[cm];omega
 have h3:=qzr (cm x.1 x.2).length (cm x.1 x.2) (x.1.length+2) (wF _) (by omega)
 have h4:(cz x.1 x.2).flatten.length=(cm x.1 x.2).length:=by unfold cz;rw[wi]
 have h5:(cz x.1 x.2).length<=5000:=by unfold cz;omega
 exact⟨hl,h2,h5,by rw[qml];omega⟩
def zfe(fu:Nat)(r0:List al->Int->Int->(List al×List UInt8)->List UInt8->Option (List UInt8))(s11:List al)(s12 s13:Int)(m16:List al×List UInt8)(n:Nat):∀(ab aa:List (List UInt8))(out:List UInt8),aa.length<n->ab.length+aa.length<100000000->out.length+(bi aa).length<1000000000 ->
  qay fu r0 n s11 s12 s13 ((ab.length+aa.length:Nat):Int) (ab.length:Int) m16 (ab++aa) out=r0 s11 s12 (af (s13+1)) m16 (out++bi aa):=by
 induction n with
 |zero=>intro ab aa out h;omega|succ n ih=>
  intro ab aa out h hb ho;rw[qay,qvx]
  cases aa with
  |nil=>rw[a6];simp[bi]|cons x aa=>
   have hc:bi (x::aa)=x++[13,10]++bi aa:=by simp[bi]
   rw[hc]at ho ⊢;simp only[qL,qM,qZ]at h hb ho;rw[show(x::aa).length=aa.length+1 from rfl,aj,qta,da,qB,aj (by simp[bg];omega),aj (by simp[bg];omega),a8 _]
   have:=ih (ab++[x]) aa (out++x++[13,10]) (by omega) (by simp;omega) (by simp;omega)
   simp only[qS,wM,qM,qL,qZ]at this;rw[show ab.length+(0+1)+aa.length=ab.length+(aa.length+1) by omega]at this
   simpa using this
def znr(fu n:Nat)(hfu:90000000<=fu)(m16:List al×List UInt8)(hm:m16.2.length<=100000000):∀(ab aa:List al)(out:List UInt8),aa.length<n->ab.length+aa.length<1000->(∀x∈aa,eh x)->out.length<=20000*ab.length ->
  wm fu n (ab++aa) ((ab.length+aa.length:Nat):Int) (ab.length:Int) m16 out=some (out++hbytes aa++m16.2):=by
 induction n with
 |zero=>intro ab aa out h;omega|succ n ih=>
  intro ab aa out h hb hok ho;rw[wm,qqe]
  cases aa with
  |nil=>
   rw[a6,aj (by simp[bg];omega),aj (by simp[bg];omega)];simp[hbytes,ie]
  |cons x aa=>
   have hx:=hok x qH;obtain⟨l1,l2,l3,l4⟩:=qe3 hx;have hc:hbytes (x::aa)=bi (cz x.1 x.2)++hbytes aa:=by simp[hbytes,ie]
   rw[hc];simp only[qL]at h hb ⊢;rw[aj,da,qB,qiq fu x.1 x.2,qB,qtq hx]
   have:=zfe fu (wm fu n) (ab++x::aa) ((ab.length+(aa.length+1):Nat):Int) (ab.length:Int) m16 fu [] (cz x.1 x.2) out (by omega) (by simp;omega) (by omega)
   simp only[List.nil_append,qZ,wO]at this;have this:qay fu (wm fu n) fu (ab++x::aa) ((ab.length+(aa.length+1):Nat):Int) (ab.length:Int) ((cz x.1 x.2).length:Int) 0 m16 (cz x.1 x.2) out=_:=this;rw[this,a8 _]
   have:=ih (ab++[x]) aa (out++bi (cz x.1 x.2)) (by omega) (by simp;omega) (fun y hy=>hok y (qE _ hy)) (by simp;omega)
   simp only[qS,wM,qM,qL,qZ]at this;rw[show ab.length+(0+1)+aa.length=ab.length+(aa.length+1) by omega]at this
   simpa using this
def zfn(fu:Nat)(hfu:90000000<=fu)(l:List al)(b:List UInt8)(hl:l.length<=60)(hok:∀x∈l,eh x)(hb:b.length<=100000000:=by omega):qxc fu (l,b)=some (hbytes l++b):=by
 have:=znr fu fu hfu (l,b) hb [] l [] (by omega) (by simp;omega) hok (by simp)
 simp only[List.nil_append,qZ,wO]at this;exact this
def fe(m:List al×List UInt8):Int×Int:=if(mv m.1).1≠0 then mv m.1 else if 12000<(hbytes m.1).length+m.2.length then(1,-4) else qpi (bs 0 m.2)
def xf(m:List al×List UInt8):Prop:=yf m.1/\m.2.length<=80000000
def q3h(fu:Nat)(hfu:90000000<=fu)(m:List al×List UInt8)(hs:xf m):qgb fu m=some (fe m):=by
 obtain⟨l,b⟩:=m;obtain⟨h1,h2⟩:=hs;simp only at h1 h2;unfold qgb fe;rw[q4q fu hfu l h1,qB,jx,qB,jg];simp only;split
 ·rfl
 ·rename_i h0;obtain⟨_,k1,k2⟩:=ql9 (l:=l) (by omega)
  rw[zfn fu hfu l b k1 k2,qB,ft,qM]
  split
  ·rw[qX];rfl
  ·rw[qW,zif fu b];rfl
def qpz{m:List al×List UInt8}(h:(fe m).1=0):fe m=(0,0)/\m.1.length<=60/\(∀x∈m.1,eh x)/\(hbytes m.1).length+m.2.length<=12000/\bs 0 m.2=0:=by
 unfold fe at h ⊢;split at h
 ·rename_i h1;exact absurd h h1
 ·rename_i h1;obtain⟨_,k1,k2⟩:=ql9 (l:=m.1) (by omega)
  split at h
  ·exact absurd h (by decide)
  ·rename_i h2;have h3:bs 0 m.2=0:=by
    rcases zsc m.2.length m.2 0 (wF _) with e|e|e
    ·exact e
    ·rw[e]at h;exact absurd h (by decide)
    ·rw[e]at h;exact absurd h (by decide)
   rw[qW h1,qW h2,h3];exact⟨rfl,k1,k2,by omega,rfl⟩
def zco{m:List al×List UInt8}(h1:m.1.length<=60)(h2:∀x∈m.1,eh x)(h3:(hbytes m.1).length+m.2.length<=12000)(h4:bs 0 m.2=0):fe m=(0,0):=by
 unfold fe mv;rw[qW (show ¬60<m.1.length by omega),qv8 0 m.1 h2,qW,qW,h4];rfl
def xw(t:List UInt8):List UInt8:=if t.getLast? = some 13 then t.dropLast else t
def zt0(t:List UInt8):(xw t).length<=t.length:=by unfold xw;split<;>simp
def ln(r:List UInt8):List UInt8×Nat:=if(10:UInt8)∈r then(xw (r.takeWhile (· != 10)),(r.takeWhile (· != 10)).length+1) else(r,r.length)
def q1u(k:UInt8)(t r:List UInt8)(h:∀x∈t,x≠k):(t++k::r).takeWhile (· != k)=t:=by
 induction t with
 |nil=>simp|cons c t ih=>
  rw[wK,List.takeWhile_cons,show(c != k)=true by simpa using h c qH,qX rfl,ih fun x hx=>h x (qE _ hx)]
def ztb(k:UInt8)(t r:List UInt8)(h:∀x∈t,x≠k):(t++k::r).dropWhile (· != k)=k::r:=by
 induction t with
 |nil=>simp|cons c t ih=>
  rw[wK,List.dropWhile_cons,show(c != k)=true by simpa using h c qH,qX rfl,ih fun x hx=>h x (qE _ hx)]
def qj8(t r:List UInt8)(h:∀x∈t,x≠10):ln (t++10::r)=(xw t,t.length+1):=by
 unfold ln;rw[qX,q1u 10 t r h]
def qsc(r:List UInt8)(h:∀x∈r,x≠10):ln r=(r,r.length):=by
 unfold ln;rw[qW (fun hm=>h 10 hm rfl)]
def q5r(r:List UInt8):(ln r).2<=r.length/\(ln r).1.length<=(ln r).2:=by
 rcases sm 10 r with⟨t,q,rfl,h⟩|h
 ·rw[qj8 t q h];have:=zt0 t;simp only[qM,qL];omega
 ·rw[qsc r h];exact⟨wF _,wF _⟩
def q7f(r:List UInt8)(h0:r≠[]):1<=(ln r).2:=by
 rcases sm 10 r with⟨t,q,rfl,h⟩|h
 ·rw[qj8 t q h];simp
 ·rw[qsc r h];cases r with|nil=>exact absurd rfl h0|cons c r=>simp
def zlz(t:List UInt8)(hb:t.length<1000000000:=by omega):qib t [13]=some (xw t):=by
 unfold qib qs2 qsp xw;rcases List.eq_nil_or_concat t with rfl|⟨u,c,rfl⟩
 ·rfl
 ·rw[List.concat_eq_append]at *;simp only[qM,qL,qZ]at hb;rw[vi,show(([13]:List UInt8).length:Int)=1 from rfl,uj _,aj,aj,qB,qB]
  have e:List.drop ((u.length:Nat):Int).toNat (u++[c])=[c]:=qab u [c];rw[e,List.getLast?_concat,List.dropLast_concat,qwm];by_cases h:c=13
  ·subst h;rw[a7,aj,qX rfl]
  ·rw[bc (by simpa using h),qW (by simpa using h)]
def zoe(r:List UInt8)(hb:r.length<1000000000:=by omega):qi5 r=some ((ln r).1,((ln r).2:Int)):=by
 unfold qi5;rcases sm 10 r with⟨t,q,rfl,h⟩|h
 ·rw[show qng (t++10::q) 10=some (Lib.indexByte (t++10::q) 10) from rfl,qet 10 t q h,qB,qj8 t q h]
  simp only[qM,qL]at hb;rw[a6,aj (by rw[iw];omega),aj (by decide),uq,zlz t,qB,a8 _]
 ·rw[show qng r 10=some (Lib.indexByte r 10) from rfl,qcs 10 r h,qB,qsc r h]
  rfl
def mz(s:List UInt8):Option al:=if(58:UInt8)∈s/\io (ew (s.takeWhile (· != 58)))=true then some (ew (s.takeWhile (· != 58)),(s.dropWhile (· != 58)).tail) else none
def qsu(t r:List UInt8)(h:∀x∈t,x≠58):mz (t++58::r)=if io (ew t)=true then some (ew t,r) else none:=by
 unfold mz;rw[q1u 58 t r h,ztb 58 t r h];simp
def q0y(s:List UInt8)(h:∀x∈s,x≠58):mz s=none:=by
 unfold mz;rw[qW (fun hm=>h 58 hm.1 rfl)]
def zoq(t r:List UInt8)(h:∀x∈t,x≠58)(hb:t.length+r.length<100000000:=by omega):ra (t++58::r) [58]=some (t,r,true):=by
 unfold ra qgj qaj;rw[bc]
 unfold qaa;have hl:=iw t 58 r;by_cases he:([58]:List UInt8)=t++58::r
 ·have ht:t=[]:=by
   cases t with|nil=>rfl|cons c t=>injection he with h1 h2;exact absurd h1.symm (h c qH)
  subst ht;have hr:r=[]:=by injection he with _ h2;exact h2.symm
  subst hr;rfl
 ·rw[bc (by simpa using he),a7,show aq [(58:UInt8)] (0:Int)=some 58 from rfl,qB,show qeb (t++58::r) 58=some (Lib.indexByte (t++58::r) 58) from rfl,qet 58 t r h,qB,qB]
  rw[aj,aj,show(([58]:List UInt8).length:Int)=1 from rfl,a8 _,aj,uq,qhq]
  rfl
def zwt(s:List UInt8)(h:∀x∈s,x≠58):ra s [58]=some (s,[],false):=by
 unfold ra qgj qaj;rw[bc]
 unfold qaa;by_cases he:([58]:List UInt8)=s
 ·subst he;exact absurd rfl (h 58 (by simp))
 ·rw[bc (by simpa using he),a7,show aq [(58:UInt8)] (0:Int)=some 58 from rfl,qB,show qeb s 58=some (Lib.indexByte s 58) from rfl,qcs 58 s h,qB]
  rfl
def zc6(n:List UInt8):((od n []).1.1=0)↔io n=true:=by
 unfold od ou;cases h:io n
 ·simp
 ·have hl:=qk4 h;have e:cz n []=[cm n []]:=by
   unfold cz;have h2:(cm n []).length=n.length+2:=by simp[cm]
   rw[h2,ik,qW]
  rw[e];unfold qav oc;have h2:(cm n []).length=n.length+2:=by simp[cm]
  rw[qW (show ¬998<(cm n []).length by omega)]
  simp[oc,o9,yn]
def zld(fu:Nat)(hfu:10000<=fu)(n:List UInt8):qjx fu n=some (io n):=by
 unfold qjx;rw[qiq fu n [] hfu (by simp;omega) (by simp),qB,jx,qB]
 congr 1;have:=zc6 n;cases h:io n
 ·rw[h]at this;have:(od n []).1.1≠0:=fun e=>by simpa using this.1 e
  simp[this]
 ·rw[this.2 h];rfl
def zz2(fu:Nat)(hfu:10000<=fu)(s:List UInt8)(h:s.length<fu:=by omega)(hb:s.length<100000000:=by omega) :
  ∃x ok,qne fu s=some (x,ok)/\mz s=if ok then some x else none:=by
 unfold qne;rcases sm 58 s with⟨t,q,rfl,hn⟩|hn
 ·simp only[qM,qL]at h hb;rw[zoq t q hn,qB]
  simp only;rw[qub fu t,qB,a7,zld fu hfu,qB,qsu t q hn]
  exact⟨_,_,rfl,rfl⟩
 ·rw[zwt s hn,qB];simp only;rw[qub fu s (by omega) h,qB,bc,q0y s hn]
  exact⟨_,_,rfl,rfl⟩
def dr(c:UInt8):UInt8:=if c=0\/c=13 then 32 else c
def lh:List UInt8:=(List.range 256).map fun i=>dr (UInt8.ofNat i)
def zml:∀n:_root_.Fin 256,lh[(UInt8.ofNat n.val).toNat]? = some (dr (UInt8.ofNat n.val)):=by decide +kernel
def qjo(c:UInt8):lh[c.toNat]? = some (dr c):=ig (fun c=>lh[c.toNat]? = some (dr c)) zml c
def zfm:qf8 [[0],[32],[13],[32]]=some (0,0,0,[[0],[32],[13],[32]]):=by rfl
def zf8(n:Nat):qls (n+300) 0 1 0 [[0],[32],[13],[32]]=some (0,1,0,lh,[]):=by kernel_rfl
def zl3(fu n:Nat):∀(ab aa:List UInt8),aa.length<n->ab.length+aa.length<1000000000->0<ab.length+aa.length ->
  qfc fu n (ab++aa) (ab.length:Int) lh (ab.map dr++aa)=some ((ab++aa).map dr,lh):=by
 induction n with
 |zero=>intro ab aa h;omega|succ n ih=>
  intro ab aa h hb h0;rw[qfc,qq0]
  cases aa with
  |nil=>rw[a6,aj (by simpa using h0)];simp|cons c aa=>
   simp only[qL]at h hb;rw[iw,aj,da,qB,qjo,qB,qkz]
   have next:=ih (ab++[c]) aa (by omega) (by simp;omega) (by simp;omega)
   by_cases hc:dr c≠c
   ·rw[qX hc,aj (by simp<;>omega)]
    unfold qct;have g:=ng (ab.map dr) c aa;have s:=tu (ab.map dr) c (dr c) aa;rw[wC]at g s;have hg:(0<=(ab.length:Int)/\(ab.length:Int).toNat<(ab.map dr++c::aa).length):=by simp
    rw[qjo,qB,aj hg,g,qB,s,a8 _]
    simpa using next
   ·rw[qW hc,a8 _]
    have hc:dr c=c:=Decidable.not_not.1 hc;simp only[List.map_append,List.map_cons,List.map_nil,hc,qS,wM,qM,qL,qZ]at next
    simpa [hc] using next
def zm2(fu n:Nat):∀(ab aa:List UInt8),aa.length<n->ab.length+aa.length<fu->ab.length+aa.length<1000000000->(∀x∈ab,dr x=x) ->
  qeq fu n (ab++aa) (ab.length:Int) lh=some ((ab++aa).map dr,lh):=by
 induction n with
 |zero=>intro ab aa h;omega|succ n ih=>
  intro ab aa h hf hb hp;have hpm:ab.map dr=ab:=by
   have:ab.map dr=ab.map id:=List.map_congr_left fun x hx=>hp x hx
   rw[this,List.map_id]
  rw[qeq,qqf]
  cases aa with
  |nil=>rw[a6];simp[hpm]|cons c aa=>
   simp only[qL]at h hf hb;rw[iw,aj,da,qB,qjo,qB,qkz]
   by_cases hc:dr c≠c
   ·rw[qX hc,aj (by simp[maxLen];omega)]
    unfold qct;have hg:(0<=(ab.length:Int)/\(ab.length:Int).toNat<(ab++c::aa).length):=by simp
    rw[qjo,qB,aj hg,ng,qB,tu,a8 _]
    have:=zl3 fu fu (ab++[c]) aa (by omega) (by simp;omega) (by simp;omega)
    simpa [hpm] using this
   ·rw[qW hc,a8 _]
    have hc:dr c=c:=Decidable.not_not.1 hc;have:=ih (ab++[c]) aa (by omega) (by simp;omega) (by simp;omega) (fun x hx=>by
     rcases List.mem_append.1 hx with hx|hx
     ·exact hp x hx
     ·rw[List.mem_singleton.1 hx,hc])
    simpa using this
def qzz(fu:Nat)(s:List UInt8)(h:s.length<fu)(hb:s.length<1000000000):qen fu s lh=some (s.map dr,lh):=by
 have:=zm2 fu fu [] s h (by simpa using h) (by simpa using hb) (fun x hx=>by cases hx)
 exact this
def zpg(fu:Nat)(hfu:300<=fu)(s:List UInt8)(h:s.length<fu)(hb:s.length<1000000000):wv fu s 0 0 0 [[0],[32],[13],[32]]=some (s.map dr,1,0,0,lh):=by
 obtain⟨n,rfl⟩:∃n,fu=n+300:=⟨fu-300,by omega⟩
 unfold wv;rw[a7,zf8,qB,a7,qzz _ s h hb];rfl
def zdk(fu:Nat)(s:List UInt8)(h:s.length<fu)(hb:s.length<1000000000):vt fu s 1 0 0 lh=some (s.map dr,1,0,0,lh):=by
 unfold vt;rw[a7,qzz _ s h hb];rfl
def kh(v:List UInt8):List UInt8:=jt (v.map dr)
def qc9(x:al):al:=(x.1,kh x.2)
def q8g(v:List UInt8):(kh v).length<=v.length:=by unfold kh;have:=zbi (v.map dr);simpa using this
def s9:Nat->List al->Option Nat|_,[]=>none|i,x::l=>if 4000<(kh x.2).length then some i else s9 (i+1) l
def qx(a:Nat)(ab aa:List al):Int×(Int×Int)×List al:=match s9 ab.length aa with|some i=>(0,(1,(i:Int)),[])|none=>((a:Int),(0,0),ab++aa.map qc9)
def pc(a:Nat)(out:List al):Int×(Int×Int)×List al:=if 60<out.length then(0,(2,-2),[]) else qx a [] out
def sn(out:List al)(s:List UInt8):List al:=match out.getLast? with|some x=>out.dropLast++[(x.1,x.2++s)]|none=>out
def qs1(out:List al)(x:al)(s:List UInt8):sn (out++[x]) s=out++[(x.1,x.2++s)]:=by
 unfold sn;rw[List.getLast?_concat,List.dropLast_concat]
def hd:Nat->List UInt8->Nat->List al->Nat×List al
 |0,_,a,out=>(a,out)|n+1,r,a,out=>
  if r=[] then(a,out) else
  if(ln r).1=[] then(a+(ln r).2,out) else
  if bl ((ln r).1.headD 0)=true/\out≠[] then hd n (r.drop (ln r).2) (a+(ln r).2) (sn out (ln r).1) else
  match mz (ln r).1 with|none=>(a,out)|some x=>hd n (r.drop (ln r).2) (a+(ln r).2) (out++[x])
def fq(b:List UInt8):Int×(Int×Int)×List al:=if 12000<b.length then(0,(1,-1),[]) else pc (hd b.length b 0 []).1 (hd b.length b 0 []).2
def l9(a:Nat)(l:List al):Prop:=l.length<=a/\∀x∈l,x.1.length<=a/\x.2.length<=a
def zyn(fu n:Nat)(hfu:300<=fu)(s6:Nat)(m16:Int×Int):∀(ab aa:List al),aa.length<n->ab.length+aa.length<100000000->(∀x∈aa,x.2.length<fu/\x.2.length<100000000) ->
  qg0 fu n (s6:Int) ((ab.length+aa.length:Nat):Int) (ab.length:Int) m16 (ab++aa) 1 0 0 lh=some (qx s6 ab aa):=by
 induction n with
 |zero=>intro ab aa h;omega|succ n ih=>
  intro ab aa h hb hs;rw[qg0,qyl]
  cases aa with
  |nil=>rw[a6];simp[gp,qx,s9]|cons x aa=>
   simp only[qL]at h hb;obtain⟨q1,q2⟩:=hs x qH;have hg:(0<=(ab.length:Int)/\(ab.length:Int).toNat<(ab++x::aa).length):=by simp
   rw[show(x::aa).length=aa.length+1 from rfl,aj,aj hg,ng,qB,zdk fu x.2 q1 (by omega),qB]
   simp only;rw[q6t fu (x.2.map dr) (by omega) (by simpa using q1) (by simp;omega),qB,ft,qx,s9]
   by_cases hc:4000<(kh x.2).length
   ·have hc':(4000:Int)<((jt (x.2.map dr)).length:Int):=by unfold kh at hc;omega
    rw[qX hc',qX hc];rfl
   ·have hc':¬(4000:Int)<((jt (x.2.map dr)).length:Int):=by unfold kh at hc;omega
    rw[qW hc',qW hc,aj hg,qB,tu,a8 _]
    have:=ih (ab++[qc9 x]) aa (by omega) (by simp;omega) (fun y hy=>hs y (qE _ hy))
    simp only[qS,wM,qM,qL,qZ]at this;rw[show ab.length+(0+1)+aa.length=ab.length+(aa.length+1) by omega]at this
    refine Eq.trans this ?_;simp[qx]
def qoi(fu:Nat)(hfu:300<=fu)(s6:Nat)(m16:Int×Int)(out:List al)(hs:∀x∈out,x.2.length<fu/\x.2.length<100000000):qb9 fu (s6:Int) m16 out=some (pc s6 out):=by
 unfold qb9 pc;rw[ft];split
 ·rw[qX];rfl
 ·rename_i hl;rw[qW,zfm,qB]
  simp only;obtain⟨n,hn⟩:∃n,fu=n+1:=⟨fu-1,by omega⟩
  have e:tg fu fu (s6:Int) (out.length:Int) m16 0 0 0 [[0],[32],[13],[32]] out=qes fu (tg fu n) (s6:Int) (out.length:Int) m16 0 0 0 [[0],[32],[13],[32]] out:=by
   have:∀k,k=n+1->tg fu k (s6:Int) (out.length:Int) m16 0 0 0 [[0],[32],[13],[32]] out=qes fu (tg fu n) (s6:Int) (out.length:Int) m16 0 0 0 [[0],[32],[13],[32]] out:=by
    rintro k rfl;rw[tg]
   exact this fu hn
  rw[e,qes]
  cases out with
  |nil=>rw[a6];rfl|cons x aa=>
   obtain⟨q1,q2⟩:=hs x qH;simp only[qL]at hl;have hg:(0<=(0:Int)/\(0:Int).toNat<(x::aa).length):=by simp
   rw[aj (by simp only[qL];omega),aj hg,show(x::aa)[(0:Int).toNat]? = some x from rfl,qB,zpg fu hfu x.2 q1 (by omega),qB]
   simp only;rw[q6t fu (x.2.map dr) (by omega) (by simpa using q1) (by simp;omega),qB,ft,qx,qZ,s9]
   by_cases hc:4000<(kh x.2).length
   ·have hc':(4000:Int)<((jt (x.2.map dr)).length:Int):=by unfold kh at hc;omega
    rw[qX hc',qX hc];rfl
   ·have hc':¬(4000:Int)<((jt (x.2.map dr)).length:Int):=by unfold kh at hc;omega
    rw[qW hc',qW hc,aj hg,qB];have:=zyn fu fu hfu s6 m16 [qc9 x] aa (by omega) (by simp only[qL,qZ];omega) (fun y hy=>hs y (qE _ hy))
    simp only[qL,qZ,wM]at this;rw[show 0+1+aa.length=aa.length+1 by omega]at this
    exact this
def zr9(out:List al)(x:al)(_s:List UInt8)(h:out.length<1000000000:=by omega) :
  (af (((out++[x]).length:Int)-1)).toNat=out.length:=by
 rw[vi,uj _ h];omega
def l9.mono{a b:Nat}{l:List al}(h:l9 a l)(hab:a<=b):l9 b l:=⟨Nat.le_trans h.1 hab,fun x hx=>⟨Nat.le_trans (h.2 x hx).1 hab,Nat.le_trans (h.2 x hx).2 hab⟩⟩
def l9.app{a k:Nat}{l:List al}(h:l9 a l)(hne:l≠[])(s:List UInt8)(hs:s.length<=k):l9 (a+k) (sn l s):=by
 rcases List.eq_nil_or_concat l with rfl|⟨t,x,rfl⟩
 ·exact absurd rfl hne
 ·rw[List.concat_eq_append]at *;rw[qs1];refine⟨by have:=h.1;simp only[qM,qL,qZ]at this ⊢;omega,fun y hy => ?_⟩
  rcases List.mem_append.1 hy with hy|hy
  ·have:=h.2 y (List.mem_append_left _ hy);omega
  ·have:=h.2 x (by simp)
   rw[List.mem_singleton.1 hy];simp only[qM];omega
def zas{s:List UInt8}{x:al}(h:mz s=some x):x.1.length<=s.length/\x.2.length<=s.length/\io x.1=true:=by
 rcases sm 58 s with⟨t,q,rfl,hn⟩|hn
 ·rw[qsu t q hn]at h;split at h
  ·rename_i hf;cases h
   have:=qep t;simp only[qM,qL];exact⟨by omega,by omega,hf⟩
  ·cases h
 ·rw[q0y s hn]at h;cases h
def l9.snoc{a k:Nat}{l:List al}(h:l9 a l){x:al}(hk:1<=k)(h1:x.1.length<=k)(h2:x.2.length<=k):l9 (a+k) (l++[x]):=by
 refine⟨by have:=h.1;simp only[qM,qL,qZ];omega,fun y hy => ?_⟩
 rcases List.mem_append.1 hy with hy|hy
 ·have:=h.2 y hy;omega
 ·rw[List.mem_singleton.1 hy];omega
def zrp(fu n:Nat)(hfu:90000000<=fu)(m16:Int×Int)(s0:List UInt8)(hs:s0.length<=12000):∀(m a:Nat)(out:List al),(s0.drop a).length<=m->(s0.drop a).length<n->a<=s0.length->l9 a out ->
  xl fu n s0 (a:Int) m16 out=some (pc (hd m (s0.drop a) a out).1 (hd m (s0.drop a) a out).2):=by
 induction n with
 |zero=>intro m a out _ h;omega|succ n ih=>
  intro m a out hm h ha hA;have small:∀(b:Nat)(l:List al),b<=30000->l9 b l->∀x∈l,x.2.length<fu/\x.2.length<100000000:=fun b l hb hl x hx=>by have:=(hl.2 x hx).2;omega
  rw[xl,qx9];by_cases h0:s0.drop a=[]
  ·have hl:(s0.drop a).length=0:=by rw[h0];rfl
   rw[List.length_drop]at hl;rw[a6,qoi fu (by omega) a m16 out (small a out (by omega) hA),h0]
   cases m with|zero=>rfl|succ m=>rw[hd,qX rfl]
  ·have hl:1<=(s0.drop a).length:=by
    cases hq:s0.drop a with|nil=>exact absurd hq h0|cons _ _=>simp
   obtain⟨m,rfl⟩:∃j,m=j+1:=⟨m-1,by omega⟩
   have ac:(s0.drop a).length=s0.length-a:=List.length_drop;have k0:=q7f (s0.drop a) h0;obtain⟨k1,k2⟩:=q5r (s0.drop a);have ea:(s0.drop a).drop (ln (s0.drop a)).2=s0.drop (a+(ln (s0.drop a)).2):=by rw[List.drop_drop]
   rw[aj,aj,show((a:Nat):Int).toNat=a by omega,zoe (s0.drop a),qB,hd,qW h0,ea]
   simp only;generalize hln:ln (s0.drop a)=p at *;obtain⟨t,k⟩:=p;simp only at k0 k1 k2 ea ⊢;have ek:af ((a:Int)+(k:Int))=((a+k:Nat):Int):=by rw[me];omega
   by_cases ht:t=[]
   ·rw[qX ht,ht,a7,ek]
    exact qoi fu (by omega) (a+k) m16 out (small a out (by omega) hA)
   ·rw[qW ht,bc (by simpa using ht)]
    have hidx:aq t (0:Int)=some (t.headD 0):=by
     cases t with|nil=>exact absurd rfl ht|cons c t=>rfl
    rw[hidx,qB,qey,qB];have begin:(match mz t with|none=>some (pc a out)|some x=>some (pc (hd m (s0.drop (a+k)) (a+k) (out++[x])).1 (hd m (s0.drop (a+k)) (a+k) (out++[x])).2))=qme fu (xl fu n) s0 (a:Int) t (k:Int) m16 out:=by
     unfold qme;obtain⟨x,ok,e1,e2⟩:=zz2 fu (by omega) t
     rw[e1,qB,e2];cases ok
     ·rw[fp];exact(qoi fu (by omega) a m16 out (small a out (by omega) hA)).symm
     ·have hx:mz t=some x:=e2;obtain⟨x1,x2,_⟩:=zas hx;have ho:=hA.1;rw[dd,aj (by simp[bg];omega),ek]
      have:=ih m (a+k) (out++[x]) (by rw[List.length_drop];omega) (by rw[List.length_drop];omega) (by omega) (hA.snoc k0 (by omega) (by omega))
      exact this.symm
    have more:out≠[]->xi fu (xl fu n) s0 (a:Int) t (k:Int) true m16 out=some (pc (hd m (s0.drop (a+k)) (a+k) (sn out t)).1 (hd m (s0.drop (a+k)) (a+k) (sn out t)).2):=by
     intro hne;have hA2:=hA.app hne t k2;unfold xi;have ho:=hA.1;rcases List.eq_nil_or_concat out with rfl|⟨u,x,rfl⟩
     ·exact absurd rfl hne
     ·rw[List.concat_eq_append]at *;simp only[qM,qL,qZ]at ho;have hx:=(hA.2 x (by simp)).2
      have hw:=zr9 u x t
      have hw2:af (((u++[x]).length:Int)-1)=(u.length:Int):=by rw[vi,uj _]
      have hg:(0<=af (((u++[x]).length:Int)-1)/\(af (((u++[x]).length:Int)-1)).toNat<(u++[x]).length):=by rw[hw2];simp
      rw[a7,aj hg,hw,show(u++[x])[u.length]? = some x by simp,qB,aj (by simp only[bh];omega),aj (by rw[hw]at hg;exact hg),qB,ek]
      rw[show List.set (u++[x]) u.length (x.1,x.2++t)=sn (u++[x]) t by rw[qs1];simp]
      exact ih m (a+k) (sn (u++[x]) t) (by rw[List.length_drop];omega) (by rw[List.length_drop];omega) (by omega) hA2
    cases hb:bl (t.headD 0)
    ·rw[bc,qW]
     unfold xi;rw[bc,← begin]
     cases mz t<;>rfl
    ·rw[a7]
     by_cases hne:out=[]
     ·subst hne;rw[qW]
      unfold xi;rw[a6,← begin]
      cases mz t<;>rfl
     ·rw[qX ⟨rfl,hne⟩,show(decide ((0:Int)<(out.length:Int)))=true by
       cases out with
       |nil=>exact absurd rfl hne| cons _ _=>exact decide_eq_true (by simp only[qL];omega)]
      exact more hne
def zs0(fu:Nat)(hfu:90000000<=fu)(b:List UInt8):qnd fu b=some (fq b):=by
 unfold qnd fq;rw[ft];split
 ·rw[qX];rfl
 ·rw[qW]
  have:=zrp fu fu hfu (0,0) b (by omega) b.length 0 [] (by simp) (by simp;omega) (by omega) ⟨wF _,fun x hx=>by cases hx⟩
  simpa using this

def qje:∀(m:Nat)(r:List UInt8)(a:Nat)(out:List al),l9 a out->a<=(hd m r a out).1/\(hd m r a out).1<=a+r.length/\l9 (hd m r a out).1 (hd m r a out).2
 |0,r,a,out,h=>⟨wF _,by show a<=_;omega,h⟩|m+1,r,a,out,h=>by
  rw[hd];split
  ·exact⟨wF _,by simp only;omega,h⟩
  ·rename_i h0;have k0:=q7f r h0;obtain⟨k1,k2⟩:=q5r r;split
   ·exact⟨by simp only;omega,by simp only;omega,h.mono (by simp only;omega)⟩
   ·split
    ·rename_i hb;obtain⟨q1,q2,q3⟩:=qje m (r.drop (ln r).2) (a+(ln r).2) (sn out (ln r).1) (h.app hb.2 _ k2);rw[List.length_drop]at q2;exact⟨by omega,by omega,q3⟩
    ·split
     ·exact⟨wF _,by simp only;omega,h⟩
     ·rename_i x hx;obtain⟨x1,x2,_⟩:=zas hx;obtain⟨q1,q2,q3⟩:=qje m (r.drop (ln r).2) (a+(ln r).2) (out++[x]) (h.snoc k0 (by omega) (by omega))
      rw[List.length_drop]at q2;exact⟨by omega,by omega,q3⟩
def zd9{b:List UInt8}(h:(fq b).2.1.1=0):b.length<=12000/\(fq b).1=((hd b.length b 0 []).1:Int)/\(hd b.length b 0 []).1<=b.length/\yf (fq b).2.2:=by
 unfold fq at h ⊢;split at h
 ·exact absurd h (by simp)
 ·rename_i hl;rw[qW hl];obtain⟨q1,q2,q3⟩:=qje b.length b 0 [] ⟨wF _,fun x hx=>by cases hx⟩
  unfold pc at h ⊢;split at h
  ·exact absurd h (by simp)
  ·rename_i h60;rw[qW h60];unfold qx at h ⊢;split at h
   ·exact absurd h (by simp)
   ·refine⟨by omega,rfl,by omega,?_⟩
    simp only[List.nil_append];refine⟨by rw[wC];omega,fun x hx => ?_⟩
    obtain⟨y,hy,rfl⟩:=List.mem_map.1 hx;obtain⟨y1,y2⟩:=q3.2 y hy;have:=q8g y.2;exact⟨by show y.1.length<=_;omega,by show(kh y.2).length<=_;omega⟩
def q43(fu n:Nat):∀(ab aa:List al),aa.length<n->ab.length+aa.length<100000000->qb0 fu n (ab++aa) (ab++aa) (ab.length:Int)=some true:=by
 induction n with
 |zero=>intro ab aa h;omega|succ n ih=>
  intro ab aa h hb;rw[qb0,qn5]
  cases aa with
  |nil=>rw[a6]|cons x aa=>
   simp only[qL]at h hb;rw[zql,qL,aj,da,qB,qB,show((x.1==x.1)&&((x.2==x.2)&&true))=true by simp,dd,a8 _]
   have:=ih (ab++[x]) aa (by omega) (by simp;omega)
   simpa using this
def zvd(fu:Nat)(m:List al×List UInt8)(h:m.1.length<fu:=by omega)(hb:m.1.length<100000000:=by omega):qfi fu m m=some true:=by
 unfold qfi qb3 qa0;rw[jg,qW]
 have:=q43 fu fu [] m.1 h (by simpa using hb)
 have this:qb0 fu fu m.1 m.1 0=some true:=this;rw[this,qB,a7,qB];simp
def qio(s:List UInt8):Prop:=∀x∈s,x≠13/\x≠10/\x≠0
def qr4(s q:List UInt8)(h:qio s):ln (s++13::10::q)=(s,s.length+2):=by
 have e:s++13::10::q=(s++[13])++10::q:=by simp
 rw[e,qj8 (s++[13]) q (fun x hx=>by
  rcases List.mem_append.1 hx with hx|hx
  ·exact(h x hx).2.1
  ·rw[List.mem_singleton.1 hx];decide)]
 unfold xw;rw[List.getLast?_concat,qX rfl,List.dropLast_concat];simp
def q6z:∀(ls:List (List UInt8))(m:Nat)(q:List UInt8)(a:Nat)(out:List al)(x:al),(∀s∈ls,qio s/\s≠[]/\bl (s.headD 0)=true)->((bi ls)++q).length<=m ->
  hd m (bi ls++q) a (out++[x])=hd (m-ls.length) q (a+(bi ls).length) (out++[(x.1,x.2++ls.flatten)])
 |[],m,q,a,out,x,_,_=>by simp[bi]|s::ls,m,q,a,out,x,h,hm=>by
  obtain⟨h1,h2,h3⟩:=h s qH;have hc:bi (s::ls)++q=s++13::10::(bi ls++q):=by simp[bi]
  have hcl:(bi (s::ls)).length=s.length+2+(bi ls).length:=by simp[bi];omega
  rw[hc]at hm ⊢;simp only[qM,qL]at hm;obtain⟨m,rfl⟩:∃j,m=j+1:=⟨m-1,by omega⟩
  rw[hd,qW,qr4 s _ h1]
  simp only;rw[qW h2,qX ⟨h3,by simp⟩,qs1,show(s++13::10::(bi ls++q)).drop (s.length+2)=bi ls++q by
   rw[show s++13::10::(bi ls++q)=(s++[13,10])++(bi ls++q) by simp,show s.length+2=(s++[13,10]).length by simp,List.drop_left]]
  rw[q6z ls m q (a+(s.length+2)) out (x.1,x.2++s) (fun t ht=>h t (qE _ ht)) (by simp only[qM];omega),hcl]
  simp only[qL,List.flatten_cons,qS];congr 1<;>omega
def q6u:∀(m:Nat)(s:List UInt8)(k:Nat),1<=k->s≠[]->∃f rest,ik m s k=f::rest/\f≠[]/\(k<=f.length\/f=s)/\∀t∈rest,t≠[]/\bl (t.headD 0)=true
 |0,s,_,_,hs=>⟨s,[],rfl,hs,.inr rfl,fun t ht=>by cases ht⟩
 |m+1,s,k,hk,hs=>by
  rw[ik];split
  ·split
   ·exact⟨s,[],rfl,hs,.inr rfl,fun t ht=>by cases ht⟩
   ·rename_i h0;obtain⟨b1,b2,b3⟩:=qj3 s k hk h0;generalize gq s k=b at *;have hd:s.drop b=s[b]::s.drop (b+1):=List.drop_eq_getElem_cons b2;obtain⟨f,rest,e,f1,_,f3⟩:=q6u m (s.drop b) 1 (wF _) (by rw[hd];exact List.cons_ne_nil _ _)
    have hfl:=wi m (s.drop b) 1;rw[e,List.flatten_cons,hd]at hfl;refine⟨s.take b,f::rest,by rw[e],?_,.inl (by rw[List.length_take];omega),fun t ht => ?_⟩
    ·intro h;have:(s.take b).length=0:=by rw[h];rfl
     rw[List.length_take]at this;omega
    ·rcases List.mem_cons.1 ht with rfl|ht
     ·refine⟨f1,?_⟩
      cases t with
      |nil=>exact absurd rfl f1|cons c t=>
       injection hfl with h1 _
       unfold ml at b3;rw[qo0 _ _ b2]at b3;simp only[qA]at b3;show bl c=true;rw[h1];exact b3.1
     ·exact f3 t ht
  ·exact⟨s,[],rfl,hs,.inr rfl,fun t ht=>by cases ht⟩
def zda:∀n:_root_.Fin 256,su (UInt8.ofNat n.val)=true->(UInt8.ofNat n.val≠13/\UInt8.ofNat n.val≠10/\UInt8.ofNat n.val≠0)/\UInt8.ofNat n.val≠58/\bl (UInt8.ofNat n.val)=false:=by decide +kernel
def qbt(c:UInt8)(h:su c=true):(c≠13/\c≠10/\c≠0)/\c≠58/\bl c=false:=ig (fun c=>su c=true->(c≠13/\c≠10/\c≠0)/\c≠58/\bl c=false) zda c h
def qm2{n:List UInt8}(h:io n=true):n≠[]/\∀c∈n,su c=true:=by
 unfold io at h;simp only[qA]at h;exact⟨by have:=h.1.1;intro e;subst e;simp at this,fun c hc=>List.all_eq_true.1 h.2 c hc⟩
def zq3{n:List UInt8}(h:io n=true):ew n=n:=by
 obtain⟨h1,h2⟩:=qm2 h;rcases List.eq_nil_or_concat n with rfl|⟨t,c,rfl⟩
 ·rfl
 ·rw[List.concat_eq_append]at *;rw[qj7,(qbt c (h2 c (by simp))).2.2];rfl
def qlu{v:List UInt8}(h:o9 v=true):qio v/\yn v=true:=by
 unfold o9 at h;simp only[qA,Bool.not_eq_true']at h;refine⟨fun c hc => ?_,h.2⟩
 have:=List.any_eq_false.1 h.1 c hc;simp at this;exact this
def zgy(x:al)(hx:eh x)(m:Nat)(q:List UInt8)(a:Nat)(out:List al)(hm:(bi (cz x.1 x.2)++q).length<=m) :
  ∃m',q.length<=m'/\hd m (bi (cz x.1 x.2)++q) a out=hd m' q (a+(bi (cz x.1 x.2)).length) (out++[(x.1,32::x.2)]):=by
 obtain⟨n,v⟩:=x;simp only at hm ⊢;obtain⟨h1,h2,h3⟩:=tj hx.1;simp only at h1 h2 h3;obtain⟨n0,nB⟩:=qm2 h1;obtain⟨v1,v2⟩:=qlu h3;obtain⟨f,rest,e,f0,f1,f2⟩:=q6u (cm n v).length (cm n v) (n.length+2) (by omega) (by simp[cm])
 have e:cz n v=f::rest:=e;have hflat:f++rest.flatten=cm n v:=by
  have:=wi (cm n v).length (cm n v) (n.length+2);rw[show ik (cm n v).length (cm n v) (n.length+2)=cz n v from rfl,e,List.flatten_cons]at this
  exact this
 have hcl:∀c∈cm n v,c≠13/\c≠10/\c≠0:=by
  intro c hc;unfold cm at hc;rcases List.mem_append.1 hc with hc|hc
  ·rcases List.mem_append.1 hc with hc|hc
   ·exact(qbt c (nB c hc)).1
   ·simp at hc;rcases hc with rfl|rfl<;>decide
  ·exact v1 c hc
 have hflen:n.length+2<=f.length:=by
  rcases f1 with h|h
  ·exact h
  ·rw[h];simp[cm]
 obtain⟨w,hw⟩:∃w,f=n++58::32::w:=by
  have hp:n++[58,32] <+: f:=by
   have p1:n++[58,32] <+: f++rest.flatten:=by rw[hflat];exact⟨v,rfl⟩
   have p2:f <+: f++rest.flatten:=⟨_,rfl⟩;exact List.prefix_of_prefix_length_le p1 p2 (by simp;omega)
  obtain⟨w,hw⟩:=hp;exact⟨w,by rw[← hw];simp⟩
 have hwv:w++rest.flatten=v:=by
  rw[hw]at hflat;have:n++58::32::(w++rest.flatten)=n++58::32::v:=by simpa [cm] using hflat
  have:=List.append_cancel_left this;simpa using this
 rw[e]at hm ⊢;have hc:bi (f::rest)++q=f++13::10::(bi rest++q):=by simp[bi]
 have hcl2:(bi (f::rest)).length=f.length+2+(bi rest).length:=by simp[bi];omega
 rw[hc]at hm ⊢;simp only[qM,qL]at hm;obtain⟨m,rfl⟩:∃j,m=j+1:=⟨m-1,by omega⟩
 have hff:qio f:=fun c hc=>hcl c (by rw[← hflat];exact List.mem_append_left _ hc)
 have hbl:bl (f.headD 0)=false:=by
  rw[hw]
  cases n with|nil=>exact absurd rfl n0|cons c n=>exact(qbt c (nB c qH)).2.2
 have hfo:mz f=some (n,32::w):=by
  rw[hw,qsu n (32::w) (fun c hc=>(qbt c (nB c hc)).2.1),zq3 h1,qX h1]
 rw[hd,qW,qr4 f _ hff]
 simp only;rw[qW f0,qW (by rw[hbl];simp),hfo]
 simp only;rw[show(f++13::10::(bi rest++q)).drop (f.length+2)=bi rest++q by
  rw[show f++13::10::(bi rest++q)=(f++[13,10])++(bi rest++q) by simp,show f.length+2=(f++[13,10]).length by simp,List.drop_left]]
 rw[q6z rest m q (a+(f.length+2)) out (n,32::w) (fun t ht=>⟨fun c hc=>hcl c (by rw[← hflat];exact List.mem_append_right _ (List.mem_flatten.2 ⟨t,ht,hc⟩)),f2 t ht⟩) (by simp only[qM];omega),hcl2]
 refine⟨m-rest.length,?_,?_⟩
 ·have:=qml rest;omega
 ·rw[show 32::w++rest.flatten=32::v by rw[← hwv];rfl,show a+(f.length+2)+(bi rest).length=a+(f.length+2+(bi rest).length) by omega]
def q68:∀(l:List al)(m:Nat)(q:List UInt8)(a:Nat)(out:List al),(∀x∈l,eh x)->(ie l++q).length<=m ->
  ∃m',q.length<=m'/\hd m (ie l++q) a out=hd m' q (a+(ie l).length) (out++l.map fun x=>(x.1,32::x.2))
 |[],m,q,a,out,_,hm=>⟨m,by simpa [ie] using hm,by simp[ie]⟩|x::l,m,q,a,out,h,hm=>by
  have hc:ie (x::l)=bi (cz x.1 x.2)++ie l:=by simp[ie]
  rw[hc,qS]at hm ⊢;obtain⟨m1,k1,e1⟩:=zgy x (h x qH) m (ie l++q) a out hm;obtain⟨m2,k2,e2⟩:=q68 l m1 q (a+(bi (cz x.1 x.2)).length) (out++[(x.1,32::x.2)]) (fun y hy=>h y (qE _ hy)) k1
  refine⟨m2,k2,?_⟩;rw[e1,e2];simp[Nat.add_assoc]
def q38{v:List UInt8}(h:o9 v=true):kh (32::v)=v:=by
 obtain⟨h1,h2⟩:=qlu h;unfold kh;have e:v.map dr=v:=by
  have:v.map dr=v.map id:=List.map_congr_left fun c hc=>by unfold dr;rw[qW (by have:=h1 c hc;simp[this.1,this.2.2])];rfl
  rw[this,List.map_id]
 rw[List.map_cons,e,show dr 32=32 from rfl]
 have ht:jt v=v:=of_decide_eq_true ((zeu v).trans h2);unfold jt at ht ⊢;rw[ne,show bl 32=true from rfl,qX rfl]
 exact ht
def zbg:∀(l:List al)(i:Nat),(∀x∈l,eh x)->s9 i (l.map fun x=>(x.1,32::x.2))=none
 |[],_,_=>rfl|x::l,i,h=>by
  obtain⟨h1,h2,h3⟩:=tj (h x qH).1;rw[List.map_cons,s9];simp only;rw[q38 h3,qW]
  exact zbg l (i+1) fun y hy=>h y (qE _ hy)
def zwo(l:List al)(h:∀x∈l,eh x):(l.map fun x=>((x.1,32::x.2):al)).map qc9=l:=by
 rw[List.map_map];have:l.map (qc9 ∘ fun x=>((x.1,32::x.2):al))=l.map id:=List.map_congr_left fun x hx=>by
  obtain⟨_,_,h3⟩:=tj (h x hx).1;show(x.1,kh (32::x.2))=x;rw[q38 h3]
 rw[this,List.map_id]
def z0z{m:List al×List UInt8}(h:(fe m).1=0):fq (hbytes m.1++m.2)=(((hbytes m.1).length:Int),(0,0),m.1):=by
 obtain⟨l,b⟩:=m;obtain⟨_,k1,k2,k3,_⟩:=qpz h;simp only at k1 k2 k3 ⊢;unfold fq;rw[qW (by rw[qM];omega)]
 have e:hbytes l++b=ie l++(13::10::b):=by simp[hbytes]
 obtain⟨m',q1,q2⟩:=q68 l (hbytes l++b).length (13::10::b) 0 [] k2 (by rw[e];exact wF _)
 rw[e]at q2 ⊢;rw[q2];simp only[qL]at q1;obtain⟨m',rfl⟩:∃j,m'=j+1:=⟨m' - 1,by omega⟩
 have hl:=qr4 [] b (fun x hx=>by cases hx)
 simp only[List.nil_append,qZ,wO]at hl;rw[hd,qW,hl]
 simp only;rw[qX trivial];simp only[List.nil_append,wO];unfold pc qx;rw[qW (by rw[wC];omega),qZ,zbg l 0 k2]
 simp only[List.nil_append];rw[zwo l k2];simp[hbytes]
def d6(l:List al)(n:List UInt8):List (List UInt8):=(l.filter fun x=>x.1.map lo==n.map lo).map (·.2)
def qr(x:al)(l:List al)(n:List UInt8):d6 (x::l) n=if(x.1.map lo==n.map lo)=true then x.2::d6 l n else d6 l n:=by
 unfold d6;rw[List.filter_cons];split<;>rfl
def small(p:Pc):Prop:=p.2.1<1000000000
def zdw:∀(n:Nat)(acc:List Pc)(s:Bs)(l:List Pc),im ep n acc s=some l->de l<=de acc+s.length/\((∀p∈acc,nb p)->∀p∈l,nb p):=by
 intro n
 induction n with
 |zero=>intro acc s l h;cases h
 |succ n ih=>
  intro acc s l h;have hl:=rl s;rw[im]at h
  cases ht:du s with
  |nil=>rw[ht]at h;cases h;exact⟨Nat.le_add_right _ _,fun h=>h⟩
  |cons c t=>
   rw[ht]at h hl;simp only[qL]at h hl;by_cases hc:c=59
   ·rw[qX hc]at h
    cases hx:jr t with
    |none=>rw[hx]at h;cases h
    |some x=>
     rw[hx]at h;simp only at h;have hxl:=(qw6 (n:=x.1.1) (v:=x.1.2) (t:=x.2) hx).1
     cases hp:ep x.1.1 x.1.2 with
     |none=>rw[hp]at h;cases h
     |some p=>
      rw[hp]at h;simp only at h;obtain⟨g1,g2,g3,g4,_⟩:=q4f hp;obtain⟨e1,e2⟩:=ih _ _ _ h;rw[q8c,g2]at e1;exact⟨by omega,fun hh=>e2 (fun y hy=>(List.mem_append.1 hy).elim (hh y) (fun e=>by rw[List.mem_singleton.1 e];exact⟨g3,g4⟩))⟩
   ·rw[qW hc]at h;cases h
def uw(s:Bs):Option cv:=match qn ep s with|none=>none|some m=>if(gl [] m.2.2 []).1=true then some (m.1,(m.2.1,(gl [] m.2.2 []).2)) else none
def q30{f:Bs->Bs->Option Pc}{s:Bs}{m:Bs×Bs×List Pc}(h:qn f s=some m):∃c,im f (s.length+1) [] c=some m.2.2/\c.length+m.1.length+m.2.1.length<=s.length:=by
 have l1:=vq tk s;have l2:=qbp 47 (cq tk s).2;have l3:=vq tk (di 47 (cq tk s).2).2;unfold qn at h;simp only at h;split at h
 ·cases h
 ·cases hp:im f (s.length+1) [] (cq tk (di 47 (cq tk s).2).2).2 with
  |none=>rw[hp]at h;cases h
  |some l=>
   rw[hp]at h;cases h;exact⟨_,hp,by simp only;omega⟩
def z0c{s:Bs}{m:Bs×Bs×List Pc}(h:qn ep s=some m):de m.2.2<=s.length/\∀p∈m.2.2,nb p:=by
 obtain⟨c,h1,h2⟩:=q30 h;obtain⟨g1,g2⟩:=zdw _ _ _ _ h1;exact⟨by simp[de]at g1 ⊢;omega,g2 (by simp)⟩
def zcn(l:List Pc)(hz:de l<=300000):∀(aa ab:List Pc)(out:List bt),l=ab++aa->out.length<=ab.length->(∀x∈out,x.1.length<=4000000/\x.2.length<=4000000)->sf (gl ab aa out).2:=by
 have hll:=qfn l;intro aa
 induction aa with
 |nil=>intro ab out hl ho hs;rw[hl]at hll;simp at hll;exact⟨by rw[gl];simp only;rw[hl]at hz;simp at hz;omega,hs⟩|cons p aa ih=>
  intro ab out hl ho hs;rw[gl];have hpl:=qt8 (show p∈l by rw[hl];simp)
  split
  ·exact ih (ab++[p]) out (by rw[hl];simp) (by simp;omega) hs
  ·rw[← hl]
   cases hj:y5 (ja p.1 l) with
   |none=>exact⟨by simp,by simp⟩|some v=>
    refine ih (ab++[p]) _ (by rw[hl];simp) (by simp;omega) (fun x hx => ?_)
    rcases List.mem_append.1 hx with g|g
    ·exact hs x g
    ·rw[List.mem_singleton.1 g];refine⟨by simp only;omega,?_⟩
     simp only;have hzf:=q0h (fun x=>lk x.1 p.1) l
     have hN:ja p.1 l=l.filter fun x=>lk x.1 p.1:=rfl
     rw[hN]at hj;generalize l.filter (fun x=>lk x.1 p.1)=A at hj hzf
     cases A with
     |nil=>cases hj
     |cons a A=>
      rw[qj5]at hj;split at hj
      ·split at hj
       ·cases hj
        have:=qt8 (qH (a:=a) (l:=A));omega
       ·cases hj
      ·cases hL:nn (mc (a::A)) 0 [] with
       |none=>rw[hL]at hj;cases hj
       |some w=>
        rw[hL]at hj;cases hj;have:=zex w.length false w;have hw:w.length<=de (mc (a::A)):=by
         have hnum:=q4o _ _ _ _ hL;rw[qpl _ _ _ hnum]at hL;cases hL
         generalize mc (a::A)=q;clear hnum
         induction q with
         |nil=>simp|cons y q ih2=>
          have:=q7b y;simp only[List.nil_append]at ih2 ⊢;rw[List.flatMap_cons,qM,qgc];omega
        have hq:de (mc (a::A))<=de (a::A):=by
         unfold mc
         cases ht:ph (a::A) with
         |none=>simp[de]|some q=>
          have h1:=(q5t q).1.map (·.1);simp only;rw[q2e h1]
          have e:q.map (·.1)=a::A:=by
           clear h1 hL hzf hw this;generalize a::A=B at ht
           induction B generalizing q with
           |nil=>cases ht;rfl
           |cons b B ih3=>
            rw[ph]at ht;split at ht
            ·cases hB:ph B with
             |none=>rw[hB]at ht;cases ht
             |some r=>rw[hB]at ht;cases ht;simp[ih3 r hB]
            ·cases ht
          rw[e];exact wF _
        show(vu [239,191,189] w.length false w).length<=4000000;omega
def qzj{s:Bs}{m:cv}(h:uw s=some m)(hs:s.length<=300000):yz m:=by
 unfold uw at h
 cases hp:qn ep s with
 |none=>rw[hp]at h;cases h
 |some x=>
  rw[hp]at h;simp only at h;split at h
  ·cases h
   obtain⟨c,_,h2⟩:=q30 hp;obtain⟨h3,_⟩:=z0c hp;exact⟨by simp only;omega,by simp only;omega,zcn x.2.2 (by omega) x.2.2 [] [] rfl (by simp) (by simp)⟩
  ·cases h
def p7(s:Bs):Option cv:=if 4000<s.length then none else match uw s with|none=>none|some m=>if(dw m).1≠0 then none else some m
def zmj(fu:Nat)(hfu:90000000<=fu)(s:Bs)(h:s.length<=4000000):∃R,qcr fu s=some R/\match p7 s with
  |some m=>R = .inr (m.1,(m.2.1,(0,(0,m.2.2))))|none=>∃f:Int×Int,R = .inl ([],([],f))/\f.1≠0:=by
 unfold qcr p7;by_cases h4:4000<s.length
 ·rw[aj,qX h4];exact⟨_,rfl,_,rfl,by decide⟩
 rw[a6,qW h4]
 obtain⟨R,g1,g2⟩:=zjg fu hfu (fun l=>gl [] l []) (fun l hl hn=>ze2 fu hfu l hl hn) s
 rw[g1,qB];have hfail:xt R->∃R',(cf R (fun a3=>bif !a3.2.2 then(cr (11:Int) (-5:Int)).bind fun x5=>some (.inl (([]:Bs),(([]:Bs),x5))) else(rp fu (a3.1,(a3.2.1,[]))).bind fun x6=>(e7 x6).bind fun x7=>bif x7 then(cr x6.1 (-6:Int)).bind fun x8=>some (.inl (([]:Bs),(([]:Bs),x8))) else(gp).bind fun x9=>some (.inl (a3.1,(a3.2.1,x9)))) (fun b4=>bif !b4.2.2.1 then(cr (11:Int) (-5:Int)).bind fun x10=>some (.inl (([]:Bs),(([]:Bs),x10))) else(rp fu (b4.1,(b4.2.1,b4.2.2.2))).bind fun x11=>(e7 x11).bind fun x12=>bif x12 then(cr x11.1 (-6:Int)).bind fun x13=>some (.inl (([]:Bs),(([]:Bs),x13))) else(gp).bind fun ow=>some (.inr (b4.1,(b4.2.1,(ow.1,(ow.2,b4.2.2.2)))))):Option q0l)=some R'/\∃f:Int×Int,R' = .inl ([],([],f))/\f.1≠0:=by
  intro hf
  cases R with|inl x=>unfold xt at hf;simp only at hf;simp only[cf,hf];exact⟨_,rfl,_,rfl,by decide⟩|inr x=>unfold xt at hf;simp only at hf;simp only[cf,hf];exact⟨_,rfl,_,rfl,by decide⟩
 unfold uw
 cases hp:qn ep s with
 |none=>rw[hp]at g2;exact hfail g2|some m=>
  rw[hp]at g2;simp only at g2 ⊢;by_cases ht:(gl [] m.2.2 []).1=true
  ·rw[qX ht]at g2;subst g2;have hsz:=qzj (s:=s) (m:=(m.1,(m.2.1,(gl [] m.2.2 []).2))) (by unfold uw;rw[hp];simp only;rw[qX ht]) (by omega)
   simp only[cf,qX ht];rw[dd,qud fu hfu _ hsz,qB,jx,qB,jg];by_cases h0:(dw (m.1,(m.2.1,(gl [] m.2.2 []).2))).1≠0
   ·rw[qX h0,qX h0];exact⟨_,rfl,_,rfl,h0⟩
   ·rw[qW h0,qW h0];exact⟨_,rfl,rfl⟩
  ·rw[qW ht]at g2 ⊢;exact hfail g2
def zww{s:Bs}{m:cv}(h:p7 s=some m):yz m/\(dw m).1=0:=by
 unfold p7 at h;split at h
 ·cases h
 ·rename_i h4
  cases hm:uw s with
  |none=>rw[hm]at h;cases h
  |some x=>
   rw[hm]at h;simp only at h;split at h
   ·cases h
   ·rename_i h0;cases h
    exact⟨qzj hm (by omega),Classical.byContradiction h0⟩
end Go.Sym
