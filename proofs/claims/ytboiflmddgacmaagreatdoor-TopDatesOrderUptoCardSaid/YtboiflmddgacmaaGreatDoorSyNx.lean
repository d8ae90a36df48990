/- posthouse law TopDatesOrder: its function hands gh true at every input of bulk at most 1048576 (the tables that the card lists as the library and the program lay them). -/
import Derived.Shelf.Vars
import Derived.Test.YtboiflmddgacmaaGreatDoorCards
import Derived.Test.YtboiflmddgacmaaGreatDoorTie
import Derived.Test.YtboiflmddgacmaaGreatDoorSyN5
namespace Go.Proofs.YtboiflmddgacmaaGreatDoor
open Go.RowKit Go.Sym Go.Shelf
theorem ownK:ownKnob Tryz.prog.godebug=none:=by kernel_rfl
theorem laidOutK:laidOutB Tryz.prog=true:=by kernel_rfl
def bulkU (H:Type):mp H:={ b:=Rows.uptoBulk,ba:=Rows.uptoBulkAll,str:=fun _=>rfl,lit:=fun l=>by cases l<;>simp[Rows.uptoBulk],nilb:=rfl,sl:=fun _ _=>rfl,agg:=fun _=>rfl,nil:=rfl,cons:=fun _ _=>rfl }
theorem topDatesOrder_spec (H:Type) (ds:List (DataW H)) (h:ds.length=3):Rows.topDatesOrderSpec.fn H ds={ results:=[.lit (.bool true)],args:=ds }:=by
 match ds,h with
 | [_,_,_],_=>rfl
theorem htabK {W:World} (h:laidMetH Tryz.prog Rows.topDatesOrderUptoRow.laid W) (hsh:W.ShapedOpen Tryz.prog):LC.tab (Gw W).imm W:=by
 refine zby h (by kernel_rfl) (fun g τ l hg => ?_) (by kernel_rfl) (by kernel_rfl) (fun g hg => ?_)
 ·have hg:qoc g=some ⟨τ,l⟩:=hg
  unfold qoc at hg
  split at hg
  ·exact⟨20,(show (1,20)∈([(1,20),(4,256),(5,32)]:List (Nat×Nat)) by decide)⟩
  ·exact⟨256,(show (4,256)∈([(1,20),(4,256),(5,32)]:List (Nat×Nat)) by decide)⟩
  ·exact⟨32,(show (5,32)∈([(1,20),(4,256),(5,32)]:List (Nat×Nat)) by decide)⟩
  ·cases hg
 ·have hg:g∈([0]:List Nat):=hg
  rw[List.mem_singleton]at hg;subst hg
  exact cell_of_shapedOpen_int (P:=Tryz.prog) (g:=0) (t:=3) (zero:=#[.int .i64 0]) hsh (of_decide_eq_true (by kernel_rfl)) (by kernel_rfl) rfl (by kernel_rfl) (by kernel_rfl) Tryz.underlying3
theorem callK (fu:Nat) (x:Pts.den (([.prod .str (.prod (.int .i64) (.prod (.int .i64) (.prod (.prod (.int .i64) (.prod (.int .i64) (.prod (.int .i64) (.int .i64)))) (.prod (.int .i64) (.prod (.int .i64) (.prod (.int .i64) (.int .i64))))))),.int .i64,.int .i64]:List Ty).map .h)) (h:td fu x.1 x.2.1 x.2.2.1=some true):bm Tryz.prog 3 (Pts.put (([.prod .str (.prod (.int .i64) (.prod (.int .i64) (.prod (.prod (.int .i64) (.prod (.int .i64) (.prod (.int .i64) (.int .i64)))) (.prod (.int .i64) (.prod (.int .i64) (.prod (.int .i64) (.int .i64))))))),.int .i64,.int .i64]:List Ty).map .h) x) [] (.bool true) []:=(q7o fu x () true h).2
set_option maxRecDepth 100000 in
theorem wit1 (os:Os):((World.laidAll Tryz.prog os Rows.topDatesOrderUptoRow.laid).forCall (fun _ _=>0) ⟨#[],#[.agg #[.string ⟨#[]⟩,.int .i64 0,.int .i64 0,.int .i64 0,.int .i64 0,.int .i64 0,.int .i64 0,.int .i64 0,.int .i64 0,.int .i64 0,.int .i64 0],.int .i64 0,.int .i64 0],[]⟩).variablesZipB Tryz.prog=true:=by kernel_rfl
set_option maxRecDepth 100000 in
theorem wit2 (os:Os):(((World.laidAll Tryz.prog os Rows.topDatesOrderUptoRow.laid).forCall (fun _ _=>0) ⟨#[],#[.agg #[.string ⟨#[]⟩,.int .i64 0,.int .i64 0,.int .i64 0,.int .i64 0,.int .i64 0,.int .i64 0,.int .i64 0,.int .i64 0,.int .i64 0,.int .i64 0],.int .i64 0,.int .i64 0],[]⟩).heap.toList.drop Tryz.prog.globals.size).take ((begin Tryz.prog (fun _ _=>0) default).world.heap.size-Tryz.prog.globals.size) =
   (begin Tryz.prog (fun _ _=>0) default).world.heap.toList.drop Tryz.prog.globals.size:=by kernel_rfl
set_option maxRecDepth 100000 in
theorem wit3 (os:Os):Input.okWideB Tryz.prog ((World.laidAll Tryz.prog os Rows.topDatesOrderUptoRow.laid).forCall (fun _ _=>0) ⟨#[],#[.agg #[.string ⟨#[]⟩,.int .i64 0,.int .i64 0,.int .i64 0,.int .i64 0,.int .i64 0,.int .i64 0,.int .i64 0,.int .i64 0,.int .i64 0,.int .i64 0],.int .i64 0,.int .i64 0],[]⟩) 3 ⟨#[],#[.agg #[.string ⟨#[]⟩,.int .i64 0,.int .i64 0,.int .i64 0,.int .i64 0,.int .i64 0,.int .i64 0,.int .i64 0,.int .i64 0,.int .i64 0,.int .i64 0],.int .i64 0,.int .i64 0],[]⟩=true:=by kernel_rfl
set_option maxRecDepth 100000 in
theorem wit4 (os:Os):(World.holding Tryz.prog os ⟨#[],#[],[]⟩).layFits Tryz.prog Rows.topDatesOrderUptoRow.laid []=true:=by kernel_rfl
theorem and_t {a b:Bool} (h1:a=true) (h2:b=true):(a&&b)=true:=by rw[h1,h2];rfl
set_option maxRecDepth 100000 in
set_option maxHeartbeats 20000000 in
theorem closedK:joinedFacts Tryz.pinned.checked.prog 3 Tryz.f3 (OpenSpec.bare (Rows.OpenSpec.upto Rows.topDatesOrderSpec)) Rows.topDatesOrderUptoRow=true:=by
 unfold joinedFacts
 refine and_t (and_t (and_t (and_t (and_t (and_t (and_t (and_t (and_t (and_t (and_t (and_t (and_t (and_t (and_t (and_t (and_t (and_t (and_t (and_t (and_t (and_t (and_t (and_t (and_t (and_t (and_t (and_t (and_t (and_t (and_t (?_) ?_) ?_) ?_) ?_) ?_) ?_) ?_) ?_) ?_) ?_) ?_) ?_) ?_) ?_) ?_) ?_) ?_) ?_) ?_) ?_) ?_) ?_) ?_) ?_) ?_) ?_) ?_) ?_) ?_) ?_) ?_
 all_goals (as_aux_lemma=>kernel_rfl)
set_option maxRecDepth 100000 in
theorem namedK:Tryz.pinned.checked.prog.funcNamed Rows.topDatesOrderUptoRow.func=some 3:=by kernel_rfl
set_option maxRecDepth 100000 in
theorem readK:Tryz.f3.params.toList.all (fun t=>Tryz.checked.prog.readableRec t&&decide (t<Tryz.checked.prog.types.size))=true:=by kernel_rfl
set_option maxRecDepth 100000 in
theorem tysK:sv Tryz.checked.prog 8 [.prod .str (.prod (.int .i64) (.prod (.int .i64) (.prod (.prod (.int .i64) (.prod (.int .i64) (.prod (.int .i64) (.int .i64)))) (.prod (.int .i64) (.prod (.int .i64) (.prod (.int .i64) (.int .i64))))))),.int .i64,.int .i64] Tryz.f3.params.toList=true:=by kernel_rfl
set_option maxRecDepth 100000 in
theorem initK:Tryz.checked.prog.inits.idxOf? 3=none:=by kernel_rfl
set_option maxRecDepth 100000 in
theorem sizedK (os:Os) {H:Type} (enc:TypeId×Value→H):(OpenSpec.bare (Rows.OpenSpec.upto Rows.topDatesOrderSpec)).sizedB enc Tryz.prog Tryz.f3 false ((World.laidAll Tryz.prog os Rows.topDatesOrderUptoRow.laid).forCall (fun _ _=>0) ⟨#[],#[.agg #[.string ⟨#[]⟩,.int .i64 0,.int .i64 0,.int .i64 0,.int .i64 0,.int .i64 0,.int .i64 0,.int .i64 0,.int .i64 0,.int .i64 0,.int .i64 0],.int .i64 0,.int .i64 0],[]⟩).memory #[.agg #[.string ⟨#[]⟩,.int .i64 0,.int .i64 0,.int .i64 0,.int .i64 0,.int .i64 0,.int .i64 0,.int .i64 0,.int .i64 0,.int .i64 0,.int .i64 0],.int .i64 0,.int .i64 0] 8=true:=by kernel_rfl
set_option maxRecDepth 100000 in
theorem wit5 (os:Os):(World.holding Tryz.prog os ⟨#[],#[],[]⟩).layIfaces Tryz.prog Rows.topDatesOrderUptoRow.laid (World.laidAll Tryz.prog os Rows.topDatesOrderUptoRow.laid)=true:=by kernel_rfl
set_option maxRecDepth 100000 in
theorem topDatesOrder_reads (os:Os) {H:Type} (enc:TypeId×Value→H):∃ places,DataW.whole enc Tryz.prog ((World.laidAll Tryz.prog os Rows.topDatesOrderUptoRow.laid).forCall (fun _ _=>0) ⟨#[],#[.agg #[.string ⟨#[]⟩,.int .i64 0,.int .i64 0,.int .i64 0,.int .i64 0,.int .i64 0,.int .i64 0,.int .i64 0,.int .i64 0,.int .i64 0,.int .i64 0],.int .i64 0,.int .i64 0],[]⟩).memory Tryz.f3.params.toList Rows.topDatesOrderSpec.vars false (#[.agg #[.string ⟨#[]⟩,.int .i64 0,.int .i64 0,.int .i64 0,.int .i64 0,.int .i64 0,.int .i64 0,.int .i64 0,.int .i64 0,.int .i64 0,.int .i64 0],.int .i64 0,.int .i64 0]:Array Value).toList 8=some ([.agg [.lit (.string []),.lit (.int .i64 0),.lit (.int .i64 0),.agg [.lit (.int .i64 0),.lit (.int .i64 0),.lit (.int .i64 0),.lit (.int .i64 0)],.agg [.lit (.int .i64 0),.lit (.int .i64 0),.lit (.int .i64 0),.lit (.int .i64 0)]],.lit (.int .i64 0),.lit (.int .i64 0)],[],places):=
 ⟨[],by kernel_rfl⟩
set_option maxRecDepth 100000 in
theorem topDatesOrderUptoRow_holds:Rows.TopDatesOrderUptoSaid:=
 OpenClaim.holds_of_cond 3 Tryz.f3 rfl rfl rfl rfl rfl rfl rfl ⟨rfl,rfl,rfl,rfl,rfl⟩ rfl rfl rfl rfl rfl namedK Tryz.func3 closedK
  (of_decide_eq_true (by kernel_rfl)) (by unfold Func.isWrapper;first|(rw[qX (by decide +kernel)];kernel_rfl)|(rw[qW (by decide +kernel)];exact⟨rfl,rfl⟩))
  (fun os started H enc _ F=>by
   rw[OpenClaim.pre_eq_preRow]
   obtain⟨places,hx⟩:=topDatesOrder_reads os enc
   exact zcn (C:=Tryz.checked) (f:=3) (fn:=Tryz.f3) (s:=Rows.topDatesOrderSpec) (so:=Rows.OpenSpec.upto Rows.topDatesOrderSpec) (F:=F) (conds:=Rows.topDatesOrderUptoRow.domain) (t:=4) (n:=8) [.prod .str (.prod (.int .i64) (.prod (.int .i64) (.prod (.prod (.int .i64) (.prod (.int .i64) (.prod (.int .i64) (.int .i64)))) (.prod (.int .i64) (.prod (.int .i64) (.prod (.int .i64) (.int .i64))))))),.int .i64,.int .i64] Rows.topDatesOrderUptoRow.laid (bulkU H) 1048576
    Rows.uptoSmall rfl (fun ds h=>of_decide_eq_true h) ownK laidOutK started initK Tryz.func3
    (zfo (enc:=enc) (C:=Tryz.checked) false (World.laidAll Tryz.prog os Rows.topDatesOrderUptoRow.laid) #[.agg #[.string ⟨#[]⟩,.int .i64 0,.int .i64 0,.int .i64 0,.int .i64 0,.int .i64 0,.int .i64 0,.int .i64 0,.int .i64 0,.int .i64 0,.int .i64 0],.int .i64 0,.int .i64 0] (World.laidAll_os _ _ _)
     (World.shaped_of_ZipB (wit1 os) (wit2 os)) (wit3 os)
     (OpenSpec.preRow_of_cond 8 hx (by kernel_rfl) (fun k hk=>by cases hk;kernel_rfl) (sizedK os enc) (laidMet_laidAll _ (wit4 os) (wit5 os))))
    rfl (fun ds hl=>topDatesOrder_spec H ds hl) tysK readK rfl Tryz.underlying4 (fun W h hsh=>htabK h hsh)
    (fun x _ hk=>callK 100000000 x (zcj x hk)))
theorem topDatesOrder:Rows.TopDatesOrderUptoCardSaid:=
 Claim7.holds_tied_plain_at .later [] _ _ _ _ topDatesOrderUptoRow_holds (fun _ h=>by cases h) (by as_aux_lemma=>kernel_rfl) (fun _ h=>by cases h) topDatesOrderUpto_row_tie rfl ⟨rfl,rfl⟩ (by as_aux_lemma=>kernel_rfl) rfl
  (fun f fn hf hfn=>by
   obtain rfl:f=3:=qJ ((show Tryz.prog.funcNamed Rows.topDatesOrderRow.func=some 3 by as_aux_lemma=>kernel_rfl).symm.trans hf) |>.symm
   obtain rfl:fn=Tryz.f3:=(qJ (Tryz.func3.symm.trans hfn)).symm
   exact⟨by as_aux_lemma=>kernel_rfl,fun j t ht=>by
    rw[Tryz.params3]at ht
    have hm:t∈[25,3,3]:=by simpa using Array.mem_of_getElem? ht
    have hall:([25,3,3].all fun u => !Tryz.prog.wantsStandIn u)=true:=by as_aux_lemma=>kernel_rfl
    exact (show Tryz.prog.wantsStandIn t=false by simpa using List.all_eq_true.1 hall t hm)⟩)
  (by as_aux_lemma=>kernel_rfl)
#print axioms topDatesOrder
end Go.Proofs.YtboiflmddgacmaaGreatDoor
