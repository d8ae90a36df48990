/- posthouse law InviteWriteMatchesSpec: its function hands ib true at every input of bulk at most 1048576 (the tables that the card lists as the library and the program lay them). -/
import Derived.Shelf.Vars
import Derived.Test.YtekaipjfmlnggaaGreatDoorCards
import Derived.Test.YtekaipjfmlnggaaGreatDoorTie
import Derived.Test.YtekaipjfmlnggaaGreatDoorSyX5
import Derived.Test.YtekaipjfmlnggaaGreatDoorSyX7
namespace Go.Proofs.YtekaipjfmlnggaaGreatDoor
open Go.RowKit Go.Sym Go.Shelf
theorem ownK:ownKnob Tryz.prog.godebug=none:=by kernel_rfl
theorem laidOutK:laidOutB Tryz.prog=true:=by kernel_rfl
theorem goes_none (P:Program) (h:P.funcs.any Func.goes=false) (f:FuncId):P.goes f=false:=by
 unfold Program.goes
 rw[h,Bool.and_false,Bool.or_false,List.any_eq_false]
 intro g _
 cases hg:P.funcs[g]? with
 | none=>simp
 | some fn=>
  rw[Array.any_eq_false]at h
  obtain⟨hlt,e⟩:=Array.getElem?_eq_some_iff.1 hg
  have:=h g hlt
  rw[e]at this
  simpa using this
theorem goesBy_none (P:Program) (c:OpenClaim) (h:P.funcs.any Func.goes=false) (hs:c.start = .entering):false=c.goesBy P:=by
 unfold OpenClaim.goesBy Program.goesAt Program.goesFrom
 rw[hs]
 cases P.funcNamed c.func with
 | none=>rfl
 | some f=>exact (by simp[goes_none P h f])
set_option maxRecDepth 100000 in
theorem goes0:Tryz.pinned.checked.prog.funcs.any Func.goes=false:=by kernel_rfl
def bulkU (H:Type):vx H:={ b:=Rows.uptoBulk,ba:=Rows.uptoBulkAll,str:=fun _=>rfl,lit:=fun l=>by cases l<;>simp[Rows.uptoBulk],nilb:=rfl,sl:=fun _ _=>rfl,agg:=fun _=>rfl,nil:=rfl,cons:=fun _ _=>rfl }
theorem inviteWriteMatchesSpec_spec (H:Type) (ds:List (DataW H)) (h:ds.length=1):Rows.inviteWriteMatchesSpecSpec.fn H ds={ results:=[.lit (.bool true)],args:=ds }:=by
 match ds,h with
 | [_],_=>rfl
theorem htabK {W:World} (h:laidMetH Tryz.prog Rows.inviteWriteMatchesSpecUptoRow.laid W) (hsh:W.ShapedOpen Tryz.prog):LC.tab (Gw W).imm W:=by
 refine Rx h (by kernel_rfl) (fun g τ l hg => ?_) (by kernel_rfl) (by kernel_rfl) (fun g hg => ?_)
 ·have hg:Ag g=some ⟨τ,l⟩:=hg
  unfold Ag at hg
  split at hg
  ·exact⟨256,(show (0,256)∈([(0,256),(1,32),(3,20)]:List (Nat×Nat)) by decide)⟩
  ·exact⟨32,(show (1,32)∈([(0,256),(1,32),(3,20)]:List (Nat×Nat)) by decide)⟩
  ·exact⟨20,(show (3,20)∈([(0,256),(1,32),(3,20)]:List (Nat×Nat)) by decide)⟩
  ·cases hg
 ·have hg:g∈([2]:List Nat):=hg
  rw[List.mem_singleton]at hg;subst hg
  exact cell_of_shapedOpen_int (P:=Tryz.prog) (g:=2) (t:=3) (zero:=#[.int .i64 0]) hsh (of_decide_eq_true (by kernel_rfl)) (by kernel_rfl) rfl (by kernel_rfl) (by kernel_rfl) Tryz.underlying3
theorem callK (fu:Nat) (x:Pts.den (([.list (.prod .str (.prod (.int .i64) (.prod (.int .i64) (.prod .str (.prod .str (.prod .str (.prod (.list (.prod .str (.int .i64))) (.prod .str (.prod (.prod (.int .i64) (.prod (.int .i64) (.prod (.int .i64) (.prod (.int .i64) (.prod (.int .i64) (.prod (.int .i64) (.int .i64))))))) (.prod (.int .i64) (.prod (.int .i64) (.prod (.int .i64) (.prod (.int .i64) (.prod (.int .i64) (.prod .bool (.prod (.list (.int .i64)) (.prod (.list (.int .i64)) (.list (.int .i64)))))))))))))))))))]:List Ty).map .h)) (h:kU fu x.1=some true):cz Tryz.prog 3 (Pts.put (([.list (.prod .str (.prod (.int .i64) (.prod (.int .i64) (.prod .str (.prod .str (.prod .str (.prod (.list (.prod .str (.int .i64))) (.prod .str (.prod (.prod (.int .i64) (.prod (.int .i64) (.prod (.int .i64) (.prod (.int .i64) (.prod (.int .i64) (.prod (.int .i64) (.int .i64))))))) (.prod (.int .i64) (.prod (.int .i64) (.prod (.int .i64) (.prod (.int .i64) (.prod (.int .i64) (.prod .bool (.prod (.list (.int .i64)) (.prod (.list (.int .i64)) (.list (.int .i64)))))))))))))))))))]:List Ty).map .h) x) [] (.bool true) []:=(qgo fu x () true h).2
set_option maxRecDepth 100000 in
theorem wit1 (os:Os):((World.laidAll Tryz.prog os Rows.inviteWriteMatchesSpecUptoRow.laid).forCall (fun _ _=>0) ⟨#[],#[.slice none 0 0],[]⟩).variablesZipB Tryz.prog=true:=by kernel_rfl
set_option maxRecDepth 100000 in
theorem wit2 (os:Os):(((World.laidAll Tryz.prog os Rows.inviteWriteMatchesSpecUptoRow.laid).forCall (fun _ _=>0) ⟨#[],#[.slice none 0 0],[]⟩).heap.toList.drop Tryz.prog.globals.size).take ((begin Tryz.prog (fun _ _=>0) default).world.heap.size-Tryz.prog.globals.size) =
   (begin Tryz.prog (fun _ _=>0) default).world.heap.toList.drop Tryz.prog.globals.size:=by kernel_rfl
set_option maxRecDepth 100000 in
theorem wit3 (os:Os):Input.okWideB Tryz.prog ((World.laidAll Tryz.prog os Rows.inviteWriteMatchesSpecUptoRow.laid).forCall (fun _ _=>0) ⟨#[],#[.slice none 0 0],[]⟩) 3 ⟨#[],#[.slice none 0 0],[]⟩=true:=by kernel_rfl
set_option maxRecDepth 100000 in
theorem wit4 (os:Os):(World.holding Tryz.prog os ⟨#[],#[],[]⟩).layFits Tryz.prog Rows.inviteWriteMatchesSpecUptoRow.laid []=true:=by kernel_rfl
theorem and_t {a b:Bool} (h1:a=true) (h2:b=true):(a&&b)=true:=by rw[h1,h2];rfl
set_option maxRecDepth 100000 in
set_option maxHeartbeats 20000000 in
theorem closedK:joinedFacts Tryz.pinned.checked.prog 3 Tryz.f3 (OpenSpec.bare (Rows.OpenSpec.upto Rows.inviteWriteMatchesSpecSpec)) Rows.inviteWriteMatchesSpecUptoRow=true:=by
 unfold joinedFacts
 refine and_t (and_t (and_t (and_t (and_t (and_t (and_t (and_t (and_t (and_t (and_t (and_t (and_t (and_t (and_t (and_t (and_t (and_t (and_t (and_t (and_t (and_t (and_t (and_t (and_t (and_t (and_t (and_t (and_t (and_t (and_t (?_) ?_) ?_) ?_) ?_) ?_) ?_) ?_) ?_) ?_) ?_) ?_) ?_) ?_) ?_) ?_) ?_) ?_) ?_) ?_) ?_) ?_) ?_) ?_) ?_) ?_) ?_) ?_) ?_) ?_) ?_) ?_
 all_goals (as_aux_lemma=>kernel_rfl)
set_option maxRecDepth 100000 in
theorem namedK:Tryz.pinned.checked.prog.funcNamed Rows.inviteWriteMatchesSpecUptoRow.func=some 3:=by kernel_rfl
set_option maxRecDepth 100000 in
theorem readK:Tryz.f3.params.toList.all (fun t=>Tryz.checked.prog.readableRec t&&decide (t<Tryz.checked.prog.types.size))=true:=by kernel_rfl
set_option maxRecDepth 100000 in
theorem tysK:dY Tryz.checked.prog 8 [.list (.prod .str (.prod (.int .i64) (.prod (.int .i64) (.prod .str (.prod .str (.prod .str (.prod (.list (.prod .str (.int .i64))) (.prod .str (.prod (.prod (.int .i64) (.prod (.int .i64) (.prod (.int .i64) (.prod (.int .i64) (.prod (.int .i64) (.prod (.int .i64) (.int .i64))))))) (.prod (.int .i64) (.prod (.int .i64) (.prod (.int .i64) (.prod (.int .i64) (.prod (.int .i64) (.prod .bool (.prod (.list (.int .i64)) (.prod (.list (.int .i64)) (.list (.int .i64)))))))))))))))))))] Tryz.f3.params.toList=true:=by kernel_rfl
set_option maxRecDepth 100000 in
theorem initK:Tryz.checked.prog.inits.idxOf? 3=none:=by kernel_rfl
set_option maxRecDepth 100000 in
theorem sizedK (os:Os) {H:Type} (enc:TypeId×Value→H):(OpenSpec.bare (Rows.OpenSpec.upto Rows.inviteWriteMatchesSpecSpec)).sizedB enc Tryz.prog Tryz.f3 false ((World.laidAll Tryz.prog os Rows.inviteWriteMatchesSpecUptoRow.laid).forCall (fun _ _=>0) ⟨#[],#[.slice none 0 0],[]⟩).memory #[.slice none 0 0] 8=true:=by kernel_rfl
set_option maxRecDepth 100000 in
theorem wit5 (os:Os):(World.holding Tryz.prog os ⟨#[],#[],[]⟩).layIfaces Tryz.prog Rows.inviteWriteMatchesSpecUptoRow.laid (World.laidAll Tryz.prog os Rows.inviteWriteMatchesSpecUptoRow.laid)=true:=by kernel_rfl
set_option maxRecDepth 100000 in
theorem inviteWriteMatchesSpec_reads (os:Os) {H:Type} (enc:TypeId×Value→H):∃ places,DataW.whole enc Tryz.prog ((World.laidAll Tryz.prog os Rows.inviteWriteMatchesSpecUptoRow.laid).forCall (fun _ _=>0) ⟨#[],#[.slice none 0 0],[]⟩).memory Tryz.f3.params.toList Rows.inviteWriteMatchesSpecSpec.vars false (#[.slice none 0 0]:Array Value).toList 8=some ([.nil],[],places):=
 ⟨[],by kernel_rfl⟩
set_option maxRecDepth 100000 in
theorem inviteWriteMatchesSpecUptoRow_holds:Rows.InviteWriteMatchesSpecUptoSaid:=
 OpenClaim.holds_of_cond 3 Tryz.f3 rfl rfl rfl rfl rfl rfl rfl ⟨rfl,rfl,rfl,rfl,rfl⟩ rfl rfl rfl rfl rfl namedK Tryz.func3 closedK
  (of_decide_eq_true (by kernel_rfl)) (by unfold Func.isWrapper;first|(rw[qX (by decide +kernel)];kernel_rfl)|(rw[qW (by decide +kernel)];exact⟨rfl,rfl⟩))
  (fun os started H enc _ F=>by
   rw[OpenClaim.pre_eq_preRow]
   obtain⟨places,hx⟩:=inviteWriteMatchesSpec_reads os enc
   exact RQ (C:=Tryz.checked) (f:=3) (m:=Tryz.f3) (s:=Rows.inviteWriteMatchesSpecSpec) (S:=Rows.OpenSpec.upto Rows.inviteWriteMatchesSpecSpec) (F:=F) (k:=Rows.inviteWriteMatchesSpecUptoRow.domain) (t:=4) (n:=8) [.list (.prod .str (.prod (.int .i64) (.prod (.int .i64) (.prod .str (.prod .str (.prod .str (.prod (.list (.prod .str (.int .i64))) (.prod .str (.prod (.prod (.int .i64) (.prod (.int .i64) (.prod (.int .i64) (.prod (.int .i64) (.prod (.int .i64) (.prod (.int .i64) (.int .i64))))))) (.prod (.int .i64) (.prod (.int .i64) (.prod (.int .i64) (.prod (.int .i64) (.prod (.int .i64) (.prod .bool (.prod (.list (.int .i64)) (.prod (.list (.int .i64)) (.list (.int .i64)))))))))))))))))))] Rows.inviteWriteMatchesSpecUptoRow.laid (bulkU H) 1048576
    Rows.uptoSmall rfl (fun ds h=>of_decide_eq_true h) ownK laidOutK started initK Tryz.func3
    (qdf (enc:=enc) (C:=Tryz.checked) false (World.laidAll Tryz.prog os Rows.inviteWriteMatchesSpecUptoRow.laid) #[.slice none 0 0] (World.laidAll_os _ _ _)
     (World.shaped_of_ZipB (wit1 os) (wit2 os)) (wit3 os)
     (OpenSpec.preRow_of_cond 8 hx (by kernel_rfl) (fun k hk=>by cases hk;kernel_rfl) (sizedK os enc) (laidMet_laidAll _ (wit4 os) (wit5 os))))
    rfl (fun ds hl=>inviteWriteMatchesSpec_spec H ds hl) tysK readK rfl Tryz.underlying4 (fun W h hsh=>htabK h hsh)
    (fun x _ hk=>callK 100000000 x (qn4 x hk)))
theorem inviteWriteMatchesSpec:Rows.InviteWriteMatchesSpecUptoCardSaid:=
 Claim7.holds_tied_plain_at .later [] _ _ _ _ inviteWriteMatchesSpecUptoRow_holds (fun _ h=>by cases h) (by as_aux_lemma=>kernel_rfl) (fun _ h=>by cases h) inviteWriteMatchesSpecUpto_row_tie rfl ⟨rfl,rfl⟩ (by as_aux_lemma=>kernel_rfl) rfl
  (fun f fn hf hfn=>by
   obtain rfl:f=3:=qJ ((show Tryz.prog.funcNamed Rows.inviteWriteMatchesSpecRow.func=some 3 by as_aux_lemma=>kernel_rfl).symm.trans hf) |>.symm
   obtain rfl:fn=Tryz.f3:=(qJ (Tryz.func3.symm.trans hfn)).symm
   exact⟨by as_aux_lemma=>kernel_rfl,fun j t ht=>by
    rw[Tryz.params3]at ht
    have hm:t∈[22]:=by simpa using Array.mem_of_getElem? ht
    have hall:([22].all fun u => !Tryz.prog.wantsStandIn u)=true:=by as_aux_lemma=>kernel_rfl
    exact (show Tryz.prog.wantsStandIn t=false by simpa using List.all_eq_true.1 hall t hm)⟩)
  (goesBy_none _ _ goes0 rfl)
#print axioms inviteWriteMatchesSpec
end Go.Proofs.YtekaipjfmlnggaaGreatDoor
