/- posthouse law CanonicalTransferIrrelevant: its function hands ke true at every input of bulk at most 1048576 (the tables that the card lists as the library and the program lay them). -/
import Derived.Shelf.Vars
import Derived.Test.YtbcijcbgdaggdaaGreatDoorCards
import Derived.Test.YtbcijcbgdaggdaaGreatDoorTie
import Derived.Test.YtbcijcbgdaggdaaGreatDoorSyT4
import Derived.Test.YtbcijcbgdaggdaaGreatDoorSyT6
namespace Go.Proofs.YtbcijcbgdaggdaaGreatDoor
open Go.RowKit Go.Sym Go.Shelf
theorem ownK:ownKnob Tryz.prog.godebug=none:=by kernel_rfl
theorem laidOutK:laidOutB Tryz.prog=true:=by kernel_rfl
def bulkU (H:Type):qb H:={ b:=Rows.uptoBulk,ba:=Rows.uptoBulkAll,str:=fun _=>rfl,lit:=fun l=>by cases l<;>simp[Rows.uptoBulk],nilb:=rfl,sl:=fun _ _=>rfl,agg:=fun _=>rfl,nil:=rfl,cons:=fun _ _=>rfl }
theorem canonicalTransferIrrelevant_spec (H:Type) (ds:List (DataW H)) (h:ds.length=3):Rows.canonicalTransferIrrelevantSpec.fn H ds={ results:=[.lit (.bool true)],args:=ds }:=by
 match ds,h with
 | [_,_,_],_=>rfl
theorem htabK {W:World} (h:laidMetH Tryz.prog Rows.canonicalTransferIrrelevantUptoRow.laid W) (hsh:W.ShapedOpen Tryz.prog):LC.tab (Gw W).imm W:=by
 refine q79 h (by kernel_rfl) (fun g τ l hg => ?_) (by kernel_rfl) (by kernel_rfl) (fun g hg => ?_)
 ·have hg:qhk g=some ⟨τ,l⟩:=hg
  unfold qhk at hg
  split at hg
  ·exact⟨20,(show (1,20)∈([(1,20),(2,256),(3,32)]:List (Nat×Nat)) by decide)⟩
  ·exact⟨256,(show (2,256)∈([(1,20),(2,256),(3,32)]:List (Nat×Nat)) by decide)⟩
  ·exact⟨32,(show (3,32)∈([(1,20),(2,256),(3,32)]:List (Nat×Nat)) by decide)⟩
  ·cases hg
 ·have hg:g∈([0]:List Nat):=hg
  rw[List.mem_singleton]at hg;subst hg
  exact cell_of_shapedOpen_int (P:=Tryz.prog) (g:=0) (t:=3) (zero:=#[.int .i64 0]) hsh (of_decide_eq_true (by kernel_rfl)) (by kernel_rfl) rfl (by kernel_rfl) (by kernel_rfl) Tryz.underlying3
theorem callK (fu:Nat) (x:Pts.den (([.list .byte,.str,.str]:List Ty).map .h)) (h:qau fu x.1 x.2.1 x.2.2.1=some true):cw Tryz.prog 6 (Pts.put (([.list .byte,.str,.str]:List Ty).map .h) x) [] (.bool true) []:=(zgq fu x () true h).2
set_option maxRecDepth 100000 in
theorem wit1 (os:Os):((World.laidAll Tryz.prog os Rows.canonicalTransferIrrelevantUptoRow.laid).forCall (fun _ _=>0) ⟨#[],#[.slice none 0 0,.string ⟨#[]⟩,.string ⟨#[]⟩],[]⟩).variablesZipB Tryz.prog=true:=by kernel_rfl
set_option maxRecDepth 100000 in
theorem wit2 (os:Os):(((World.laidAll Tryz.prog os Rows.canonicalTransferIrrelevantUptoRow.laid).forCall (fun _ _=>0) ⟨#[],#[.slice none 0 0,.string ⟨#[]⟩,.string ⟨#[]⟩],[]⟩).heap.toList.drop Tryz.prog.globals.size).take ((begin Tryz.prog (fun _ _=>0) default).world.heap.size-Tryz.prog.globals.size) =
   (begin Tryz.prog (fun _ _=>0) default).world.heap.toList.drop Tryz.prog.globals.size:=by kernel_rfl
set_option maxRecDepth 100000 in
theorem wit3 (os:Os):Input.okWideB Tryz.prog ((World.laidAll Tryz.prog os Rows.canonicalTransferIrrelevantUptoRow.laid).forCall (fun _ _=>0) ⟨#[],#[.slice none 0 0,.string ⟨#[]⟩,.string ⟨#[]⟩],[]⟩) 6 ⟨#[],#[.slice none 0 0,.string ⟨#[]⟩,.string ⟨#[]⟩],[]⟩=true:=by kernel_rfl
set_option maxRecDepth 100000 in
theorem wit4 (os:Os):(World.holding Tryz.prog os ⟨#[],#[],[]⟩).layFits Tryz.prog Rows.canonicalTransferIrrelevantUptoRow.laid []=true:=by kernel_rfl
theorem and_t {a b:Bool} (h1:a=true) (h2:b=true):(a&&b)=true:=by rw[h1,h2];rfl
set_option maxRecDepth 100000 in
set_option maxHeartbeats 20000000 in
theorem closedK:joinedFacts Tryz.pinned.checked.prog 6 Tryz.f6 (OpenSpec.bare (Rows.OpenSpec.upto Rows.canonicalTransferIrrelevantSpec)) Rows.canonicalTransferIrrelevantUptoRow=true:=by
 unfold joinedFacts
 refine and_t (and_t (and_t (and_t (and_t (and_t (and_t (and_t (and_t (and_t (and_t (and_t (and_t (and_t (and_t (and_t (and_t (and_t (and_t (and_t (and_t (and_t (and_t (and_t (and_t (and_t (and_t (and_t (and_t (and_t (and_t (?_) ?_) ?_) ?_) ?_) ?_) ?_) ?_) ?_) ?_) ?_) ?_) ?_) ?_) ?_) ?_) ?_) ?_) ?_) ?_) ?_) ?_) ?_) ?_) ?_) ?_) ?_) ?_) ?_) ?_) ?_) ?_
 all_goals (as_aux_lemma=>kernel_rfl)
set_option maxRecDepth 100000 in
theorem namedK:Tryz.pinned.checked.prog.funcNamed Rows.canonicalTransferIrrelevantUptoRow.func=some 6:=by kernel_rfl
set_option maxRecDepth 100000 in
theorem readK:Tryz.f6.params.toList.all (fun t=>Tryz.checked.prog.readableRec t&&decide (t<Tryz.checked.prog.types.size))=true:=by kernel_rfl
set_option maxRecDepth 100000 in
theorem tysK:wz Tryz.checked.prog 8 [.list .byte,.str,.str] Tryz.f6.params.toList=true:=by kernel_rfl
set_option maxRecDepth 100000 in
theorem initK:Tryz.checked.prog.inits.idxOf? 6=none:=by kernel_rfl
set_option maxRecDepth 100000 in
theorem sizedK (os:Os) {H:Type} (enc:TypeId×Value→H):(OpenSpec.bare (Rows.OpenSpec.upto Rows.canonicalTransferIrrelevantSpec)).sizedB enc Tryz.prog Tryz.f6 false ((World.laidAll Tryz.prog os Rows.canonicalTransferIrrelevantUptoRow.laid).forCall (fun _ _=>0) ⟨#[],#[.slice none 0 0,.string ⟨#[]⟩,.string ⟨#[]⟩],[]⟩).memory #[.slice none 0 0,.string ⟨#[]⟩,.string ⟨#[]⟩] 8=true:=by kernel_rfl
set_option maxRecDepth 100000 in
theorem wit5 (os:Os):(World.holding Tryz.prog os ⟨#[],#[],[]⟩).layIfaces Tryz.prog Rows.canonicalTransferIrrelevantUptoRow.laid (World.laidAll Tryz.prog os Rows.canonicalTransferIrrelevantUptoRow.laid)=true:=by kernel_rfl
set_option maxRecDepth 100000 in
theorem canonicalTransferIrrelevant_reads (os:Os) {H:Type} (enc:TypeId×Value→H):∃ places,DataW.whole enc Tryz.prog ((World.laidAll Tryz.prog os Rows.canonicalTransferIrrelevantUptoRow.laid).forCall (fun _ _=>0) ⟨#[],#[.slice none 0 0,.string ⟨#[]⟩,.string ⟨#[]⟩],[]⟩).memory Tryz.f6.params.toList Rows.canonicalTransferIrrelevantSpec.vars false (#[.slice none 0 0,.string ⟨#[]⟩,.string ⟨#[]⟩]:Array Value).toList 8=some ([.nil,.lit (.string []),.lit (.string [])],[],places):=
 ⟨[],by kernel_rfl⟩
set_option maxRecDepth 100000 in
theorem canonicalTransferIrrelevantUptoRow_holds:Rows.CanonicalTransferIrrelevantUptoSaid:=
 OpenClaim.holds_of_cond 6 Tryz.f6 rfl rfl rfl rfl rfl rfl rfl ⟨rfl,rfl,rfl,rfl,rfl⟩ rfl rfl rfl rfl rfl namedK Tryz.func6 closedK
  (of_decide_eq_true (by kernel_rfl)) (by unfold Func.isWrapper;first|(rw[qX (by decide +kernel)];kernel_rfl)|(rw[qW (by decide +kernel)];exact⟨rfl,rfl⟩))
  (fun os started H enc _ F=>by
   rw[OpenClaim.pre_eq_preRow]
   obtain⟨places,hx⟩:=canonicalTransferIrrelevant_reads os enc
   exact q8u (C:=Tryz.checked) (f:=6) (fn:=Tryz.f6) (s:=Rows.canonicalTransferIrrelevantSpec) (so:=Rows.OpenSpec.upto Rows.canonicalTransferIrrelevantSpec) (F:=F) (conds:=Rows.canonicalTransferIrrelevantUptoRow.domain) (t:=4) (n:=8) [.list .byte,.str,.str] Rows.canonicalTransferIrrelevantUptoRow.laid (bulkU H) 1048576
    Rows.uptoSmall rfl (fun ds h=>of_decide_eq_true h) ownK laidOutK started initK Tryz.func6
    (zdq (enc:=enc) (C:=Tryz.checked) false (World.laidAll Tryz.prog os Rows.canonicalTransferIrrelevantUptoRow.laid) #[.slice none 0 0,.string ⟨#[]⟩,.string ⟨#[]⟩] (World.laidAll_os _ _ _)
     (World.shaped_of_ZipB (wit1 os) (wit2 os)) (wit3 os)
     (OpenSpec.preRow_of_cond 8 hx (by kernel_rfl) (fun k hk=>by cases hk;kernel_rfl) (sizedK os enc) (laidMet_laidAll _ (wit4 os) (wit5 os))))
    rfl (fun ds hl=>canonicalTransferIrrelevant_spec H ds hl) tysK readK rfl Tryz.underlying4 (fun W h hsh=>htabK h hsh)
    (fun x _ hk=>callK 100000000 x (znr x hk)))
theorem canonicalTransferIrrelevant:Rows.CanonicalTransferIrrelevantUptoCardSaid:=
 Claim7.holds_tied_plain_at .later [] _ _ _ _ canonicalTransferIrrelevantUptoRow_holds (fun _ h=>by cases h) (by as_aux_lemma=>kernel_rfl) (fun _ h=>by cases h) canonicalTransferIrrelevantUpto_row_tie rfl ⟨rfl,rfl⟩ (by as_aux_lemma=>kernel_rfl) rfl
  (fun f fn hf hfn=>by
   obtain rfl:f=6:=qJ ((show Tryz.prog.funcNamed Rows.canonicalTransferIrrelevantRow.func=some 6 by as_aux_lemma=>kernel_rfl).symm.trans hf) |>.symm
   obtain rfl:fn=Tryz.f6:=(qJ (Tryz.func6.symm.trans hfn)).symm
   exact⟨by as_aux_lemma=>kernel_rfl,fun j t ht=>by
    rw[Tryz.params6]at ht
    have hm:t∈[23,9,9]:=by simpa using Array.mem_of_getElem? ht
    have hall:([23,9,9].all fun u => !Tryz.prog.wantsStandIn u)=true:=by as_aux_lemma=>kernel_rfl
    exact (show Tryz.prog.wantsStandIn t=false by simpa using List.all_eq_true.1 hall t hm)⟩)
  (by as_aux_lemma=>kernel_rfl)
#print axioms canonicalTransferIrrelevant
end Go.Proofs.YtbcijcbgdaggdaaGreatDoor
