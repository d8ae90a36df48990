/- posthouse law InviteOfMatchesSpec: its function hands iq true at every input of bulk at most 1048576 (the tables that the card lists as the library and the program lay them). -/
import Derived.Shelf.Vars
import Derived.Test.YtekaipjfmlnggaaGreatDoorCards
import Derived.Test.YtekaipjfmlnggaaGreatDoorTie
import Derived.Test.YtekaipjfmlnggaaGreatDoorSyO5
import Derived.Test.YtekaipjfmlnggaaGreatDoorSyO7
namespace Go.Proofs.YtekaipjfmlnggaaGreatDoor
open Go.RowKit Go.Sym Go.Shelf
theorem ownK:ownKnob Tryz.prog.godebug=none:=by kernel_rfl
theorem laidOutK:laidOutB Tryz.prog=true:=by kernel_rfl
theorem goes_none (P:Program) (h:P.funcs.any Func.goes=false) (f:FuncId):P.goes f=false:=by
 unfold Program.goes
 rw[h,Bool.and_false,Bool.or_false,List.any_eq_false]
 intro g _
 cases hg:P.funcs[g]? with
 | none=>simp
 | some fn=>
  rw[Array.any_eq_false]at h
  obtain⟨hlt,e⟩:=Array.getElem?_eq_some_iff.1 hg
  have:=h g hlt
  rw[e]at this
  simpa using this
theorem goesBy_none (P:Program) (c:OpenClaim) (h:P.funcs.any Func.goes=false) (hs:c.start = .entering):false=c.goesBy P:=by
 unfold OpenClaim.goesBy Program.goesAt Program.goesFrom
 rw[hs]
 cases P.funcNamed c.func with
 | none=>rfl
 | some f=>exact (by simp[goes_none P h f])
set_option maxRecDepth 100000 in
theorem goes0:Tryz.pinned.checked.prog.funcs.any Func.goes=false:=by kernel_rfl
def bulkU (H:Type):xv H:={ b:=Rows.uptoBulk,ba:=Rows.uptoBulkAll,str:=fun _=>rfl,lit:=fun l=>by cases l<;>simp[Rows.uptoBulk],nilb:=rfl,sl:=fun _ _=>rfl,agg:=fun _=>rfl,nil:=rfl,cons:=fun _ _=>rfl }
theorem inviteOfMatchesSpec_spec (H:Type) (ds:List (DataW H)) (h:ds.length=4):Rows.inviteOfMatchesSpecSpec.fn H ds={ results:=[.lit (.bool true)],args:=ds }:=by
 match ds,h with
 | [_,_,_,_],_=>rfl
theorem htabK {W:World} (h:laidMetH Tryz.prog Rows.inviteOfMatchesSpecUptoRow.laid W) (hsh:W.ShapedOpen Tryz.prog):LC.tab (Gw W).imm W:=by
 refine qm3 h (by kernel_rfl) (fun g τ l hg => ?_) (by kernel_rfl) (by kernel_rfl) (fun g hg => ?_)
 ·have hg:KC g=some ⟨τ,l⟩:=hg
  unfold KC at hg
  split at hg
  ·exact⟨256,(show (0,256)∈([(0,256),(1,32),(3,20)]:List (Nat×Nat)) by decide)⟩
  ·exact⟨32,(show (1,32)∈([(0,256),(1,32),(3,20)]:List (Nat×Nat)) by decide)⟩
  ·exact⟨20,(show (3,20)∈([(0,256),(1,32),(3,20)]:List (Nat×Nat)) by decide)⟩
  ·cases hg
 ·have hg:g∈([2]:List Nat):=hg
  rw[List.mem_singleton]at hg;subst hg
  exact cell_of_shapedOpen_int (P:=Tryz.prog) (g:=2) (t:=3) (zero:=#[.int .i64 0]) hsh (of_decide_eq_true (by kernel_rfl)) (by kernel_rfl) rfl (by kernel_rfl) (by kernel_rfl) Tryz.underlying3
theorem callK (fu:Nat) (x:Pts.den (([.prod .str (.prod (.int .i64) (.prod (.int .i64) (.prod .str (.prod .str (.prod .str (.prod (.list (.prod .str (.int .i64))) (.prod .str (.prod (.prod (.int .i64) (.prod (.int .i64) (.prod (.int .i64) (.prod (.int .i64) (.prod (.int .i64) (.prod (.int .i64) (.int .i64))))))) (.prod (.int .i64) (.prod (.int .i64) (.prod (.int .i64) (.prod (.int .i64) (.prod (.int .i64) (.prod .bool (.prod (.list (.int .i64)) (.prod (.list (.int .i64)) (.list (.int .i64)))))))))))))))))),.prod .str (.prod (.int .i64) (.prod (.int .i64) (.prod (.prod (.int .i64) (.prod (.int .i64) (.prod (.int .i64) (.int .i64)))) (.prod (.int .i64) (.prod (.int .i64) (.prod (.int .i64) (.int .i64))))))),.int .i64,.int .i64]:List Ty).map .h)) (h:kI fu x.1 x.2.1 x.2.2.1 x.2.2.2.1=some true):di Tryz.prog 5 (Pts.put (([.prod .str (.prod (.int .i64) (.prod (.int .i64) (.prod .str (.prod .str (.prod .str (.prod (.list (.prod .str (.int .i64))) (.prod .str (.prod (.prod (.int .i64) (.prod (.int .i64) (.prod (.int .i64) (.prod (.int .i64) (.prod (.int .i64) (.prod (.int .i64) (.int .i64))))))) (.prod (.int .i64) (.prod (.int .i64) (.prod (.int .i64) (.prod (.int .i64) (.prod (.int .i64) (.prod .bool (.prod (.list (.int .i64)) (.prod (.list (.int .i64)) (.list (.int .i64)))))))))))))))))),.prod .str (.prod (.int .i64) (.prod (.int .i64) (.prod (.prod (.int .i64) (.prod (.int .i64) (.prod (.int .i64) (.int .i64)))) (.prod (.int .i64) (.prod (.int .i64) (.prod (.int .i64) (.int .i64))))))),.int .i64,.int .i64]:List Ty).map .h) x) [] (.bool true) []:=(qgk fu x () true h).2
set_option maxRecDepth 100000 in
theorem wit1 (os:Os):((World.laidAll Tryz.prog os Rows.inviteOfMatchesSpecUptoRow.laid).forCall (fun _ _=>0) ⟨#[],#[.agg #[.string ⟨#[]⟩,.int .i64 0,.int .i64 0,.string ⟨#[]⟩,.string ⟨#[]⟩,.string ⟨#[]⟩,.slice none 0 0,.string ⟨#[]⟩,.int .i64 0,.int .i64 0,.int .i64 0,.int .i64 0,.int .i64 0,.int .i64 0,.int .i64 0,.int .i64 0,.int .i64 0,.int .i64 0,.int .i64 0,.int .i64 0,.bool false,.slice none 0 0,.slice none 0 0,.slice none 0 0],.agg #[.string ⟨#[]⟩,.int .i64 0,.int .i64 0,.int .i64 0,.int .i64 0,.int .i64 0,.int .i64 0,.int .i64 0,.int .i64 0,.int .i64 0,.int .i64 0],.int .i64 0,.int .i64 0],[]⟩).variablesZipB Tryz.prog=true:=by kernel_rfl
set_option maxRecDepth 100000 in
theorem wit2 (os:Os):(((World.laidAll Tryz.prog os Rows.inviteOfMatchesSpecUptoRow.laid).forCall (fun _ _=>0) ⟨#[],#[.agg #[.string ⟨#[]⟩,.int .i64 0,.int .i64 0,.string ⟨#[]⟩,.string ⟨#[]⟩,.string ⟨#[]⟩,.slice none 0 0,.string ⟨#[]⟩,.int .i64 0,.int .i64 0,.int .i64 0,.int .i64 0,.int .i64 0,.int .i64 0,.int .i64 0,.int .i64 0,.int .i64 0,.int .i64 0,.int .i64 0,.int .i64 0,.bool false,.slice none 0 0,.slice none 0 0,.slice none 0 0],.agg #[.string ⟨#[]⟩,.int .i64 0,.int .i64 0,.int .i64 0,.int .i64 0,.int .i64 0,.int .i64 0,.int .i64 0,.int .i64 0,.int .i64 0,.int .i64 0],.int .i64 0,.int .i64 0],[]⟩).heap.toList.drop Tryz.prog.globals.size).take ((begin Tryz.prog (fun _ _=>0) default).world.heap.size-Tryz.prog.globals.size) =
   (begin Tryz.prog (fun _ _=>0) default).world.heap.toList.drop Tryz.prog.globals.size:=by kernel_rfl
set_option maxRecDepth 100000 in
theorem wit3 (os:Os):Input.okWideB Tryz.prog ((World.laidAll Tryz.prog os Rows.inviteOfMatchesSpecUptoRow.laid).forCall (fun _ _=>0) ⟨#[],#[.agg #[.string ⟨#[]⟩,.int .i64 0,.int .i64 0,.string ⟨#[]⟩,.string ⟨#[]⟩,.string ⟨#[]⟩,.slice none 0 0,.string ⟨#[]⟩,.int .i64 0,.int .i64 0,.int .i64 0,.int .i64 0,.int .i64 0,.int .i64 0,.int .i64 0,.int .i64 0,.int .i64 0,.int .i64 0,.int .i64 0,.int .i64 0,.bool false,.slice none 0 0,.slice none 0 0,.slice none 0 0],.agg #[.string ⟨#[]⟩,.int .i64 0,.int .i64 0,.int .i64 0,.int .i64 0,.int .i64 0,.int .i64 0,.int .i64 0,.int .i64 0,.int .i64 0,.int .i64 0],.int .i64 0,.int .i64 0],[]⟩) 5 ⟨#[],#[.agg #[.string ⟨#[]⟩,.int .i64 0,.int .i64 0,.string ⟨#[]⟩,.string ⟨#[]⟩,.string ⟨#[]⟩,.slice none 0 0,.string ⟨#[]⟩,.int .i64 0,.int .i64 0,.int .i64 0,.int .i64 0,.int .i64 0,.int .i64 0,.int .i64 0,.int .i64 0,.int .i64 0,.int .i64 0,.int .i64 0,.int .i64 0,.bool false,.slice none 0 0,.slice none 0 0,.slice none 0 0],.agg #[.string ⟨#[]⟩,.int .i64 0,.int .i64 0,.int .i64 0,.int .i64 0,.int .i64 0,.int .i64 0,.int .i64 0,.int .i64 0,.int .i64 0,.int .i64 0],.int .i64 0,.int .i64 0],[]⟩=true:=by kernel_rfl
set_option maxRecDepth 100000 in
theorem wit4 (os:Os):(World.holding Tryz.prog os ⟨#[],#[],[]⟩).layFits Tryz.prog Rows.inviteOfMatchesSpecUptoRow.laid []=true:=by kernel_rfl
theorem and_t {a b:Bool} (h1:a=true) (h2:b=true):(a&&b)=true:=by rw[h1,h2];rfl
set_option maxRecDepth 100000 in
set_option maxHeartbeats 20000000 in
theorem closedK:joinedFacts Tryz.pinned.checked.prog 5 Tryz.f5 (OpenSpec.bare (Rows.OpenSpec.upto Rows.inviteOfMatchesSpecSpec)) Rows.inviteOfMatchesSpecUptoRow=true:=by
 unfold joinedFacts
 refine and_t (and_t (and_t (and_t (and_t (and_t (and_t (and_t (and_t (and_t (and_t (and_t (and_t (and_t (and_t (and_t (and_t (and_t (and_t (and_t (and_t (and_t (and_t (and_t (and_t (and_t (and_t (and_t (and_t (and_t (and_t (?_) ?_) ?_) ?_) ?_) ?_) ?_) ?_) ?_) ?_) ?_) ?_) ?_) ?_) ?_) ?_) ?_) ?_) ?_) ?_) ?_) ?_) ?_) ?_) ?_) ?_) ?_) ?_) ?_) ?_) ?_) ?_
 all_goals (as_aux_lemma=>kernel_rfl)
set_option maxRecDepth 100000 in
theorem namedK:Tryz.pinned.checked.prog.funcNamed Rows.inviteOfMatchesSpecUptoRow.func=some 5:=by kernel_rfl
set_option maxRecDepth 100000 in
theorem readK:Tryz.f5.params.toList.all (fun t=>Tryz.checked.prog.readableRec t&&decide (t<Tryz.checked.prog.types.size))=true:=by kernel_rfl
set_option maxRecDepth 100000 in
theorem tysK:iP Tryz.checked.prog 8 [.prod .str (.prod (.int .i64) (.prod (.int .i64) (.prod .str (.prod .str (.prod .str (.prod (.list (.prod .str (.int .i64))) (.prod .str (.prod (.prod (.int .i64) (.prod (.int .i64) (.prod (.int .i64) (.prod (.int .i64) (.prod (.int .i64) (.prod (.int .i64) (.int .i64))))))) (.prod (.int .i64) (.prod (.int .i64) (.prod (.int .i64) (.prod (.int .i64) (.prod (.int .i64) (.prod .bool (.prod (.list (.int .i64)) (.prod (.list (.int .i64)) (.list (.int .i64)))))))))))))))))),.prod .str (.prod (.int .i64) (.prod (.int .i64) (.prod (.prod (.int .i64) (.prod (.int .i64) (.prod (.int .i64) (.int .i64)))) (.prod (.int .i64) (.prod (.int .i64) (.prod (.int .i64) (.int .i64))))))),.int .i64,.int .i64] Tryz.f5.params.toList=true:=by kernel_rfl
set_option maxRecDepth 100000 in
theorem initK:Tryz.checked.prog.inits.idxOf? 5=none:=by kernel_rfl
set_option maxRecDepth 100000 in
theorem sizedK (os:Os) {H:Type} (enc:TypeId×Value→H):(OpenSpec.bare (Rows.OpenSpec.upto Rows.inviteOfMatchesSpecSpec)).sizedB enc Tryz.prog Tryz.f5 false ((World.laidAll Tryz.prog os Rows.inviteOfMatchesSpecUptoRow.laid).forCall (fun _ _=>0) ⟨#[],#[.agg #[.string ⟨#[]⟩,.int .i64 0,.int .i64 0,.string ⟨#[]⟩,.string ⟨#[]⟩,.string ⟨#[]⟩,.slice none 0 0,.string ⟨#[]⟩,.int .i64 0,.int .i64 0,.int .i64 0,.int .i64 0,.int .i64 0,.int .i64 0,.int .i64 0,.int .i64 0,.int .i64 0,.int .i64 0,.int .i64 0,.int .i64 0,.bool false,.slice none 0 0,.slice none 0 0,.slice none 0 0],.agg #[.string ⟨#[]⟩,.int .i64 0,.int .i64 0,.int .i64 0,.int .i64 0,.int .i64 0,.int .i64 0,.int .i64 0,.int .i64 0,.int .i64 0,.int .i64 0],.int .i64 0,.int .i64 0],[]⟩).memory #[.agg #[.string ⟨#[]⟩,.int .i64 0,.int .i64 0,.string ⟨#[]⟩,.string ⟨#[]⟩,.string ⟨#[]⟩,.slice none 0 0,.string ⟨#[]⟩,.int .i64 0,.int .i64 0,.int .i64 0,.int .i64 0,.int .i64 0,.int .i64 0,.int .i64 0,.int .i64 0,.int .i64 0,.int .i64 0,.int .i64 0,.int .i64 0,.bool false,.slice none 0 0,.slice none 0 0,.slice none 0 0],.agg #[.string ⟨#[]⟩,.int .i64 0,.int .i64 0,.int .i64 0,.int .i64 0,.int .i64 0,.int .i64 0,.int .i64 0,.int .i64 0,.int .i64 0,.int .i64 0],.int .i64 0,.int .i64 0] 8=true:=by kernel_rfl
set_option maxRecDepth 100000 in
theorem wit5 (os:Os):(World.holding Tryz.prog os ⟨#[],#[],[]⟩).layIfaces Tryz.prog Rows.inviteOfMatchesSpecUptoRow.laid (World.laidAll Tryz.prog os Rows.inviteOfMatchesSpecUptoRow.laid)=true:=by kernel_rfl
set_option maxRecDepth 100000 in
theorem inviteOfMatchesSpec_reads (os:Os) {H:Type} (enc:TypeId×Value→H):∃ places,DataW.whole enc Tryz.prog ((World.laidAll Tryz.prog os Rows.inviteOfMatchesSpecUptoRow.laid).forCall (fun _ _=>0) ⟨#[],#[.agg #[.string ⟨#[]⟩,.int .i64 0,.int .i64 0,.string ⟨#[]⟩,.string ⟨#[]⟩,.string ⟨#[]⟩,.slice none 0 0,.string ⟨#[]⟩,.int .i64 0,.int .i64 0,.int .i64 0,.int .i64 0,.int .i64 0,.int .i64 0,.int .i64 0,.int .i64 0,.int .i64 0,.int .i64 0,.int .i64 0,.int .i64 0,.bool false,.slice none 0 0,.slice none 0 0,.slice none 0 0],.agg #[.string ⟨#[]⟩,.int .i64 0,.int .i64 0,.int .i64 0,.int .i64 0,.int .i64 0,.int .i64 0,.int .i64 0,.int .i64 0,.int .i64 0,.int .i64 0],.int .i64 0,.int .i64 0],[]⟩).memory Tryz.f5.params.toList Rows.inviteOfMatchesSpecSpec.vars false (#[.agg #[.string ⟨#[]⟩,.int .i64 0,.int .i64 0,.string ⟨#[]⟩,.string ⟨#[]⟩,.string ⟨#[]⟩,.slice none 0 0,.string ⟨#[]⟩,.int .i64 0,.int .i64 0,.int .i64 0,.int .i64 0,.int .i64 0,.int .i64 0,.int .i64 0,.int .i64 0,.int .i64 0,.int .i64 0,.int .i64 0,.int .i64 0,.bool false,.slice none 0 0,.slice none 0 0,.slice none 0 0],.agg #[.string ⟨#[]⟩,.int .i64 0,.int .i64 0,.int .i64 0,.int .i64 0,.int .i64 0,.int .i64 0,.int .i64 0,.int .i64 0,.int .i64 0,.int .i64 0],.int .i64 0,.int .i64 0]:Array Value).toList 8=some ([.agg [.lit (.string []),.lit (.int .i64 0),.lit (.int .i64 0),.lit (.string []),.lit (.string []),.lit (.string []),.nil,.lit (.string []),.agg [.lit (.int .i64 0),.lit (.int .i64 0),.lit (.int .i64 0),.lit (.int .i64 0),.lit (.int .i64 0),.lit (.int .i64 0),.lit (.int .i64 0)],.lit (.int .i64 0),.agg [.lit (.int .i64 0),.lit (.int .i64 0),.lit (.int .i64 0),.lit (.int .i64 0),.lit (.bool false),.nil,.nil,.nil]],.agg [.lit (.string []),.lit (.int .i64 0),.lit (.int .i64 0),.agg [.lit (.int .i64 0),.lit (.int .i64 0),.lit (.int .i64 0),.lit (.int .i64 0)],.agg [.lit (.int .i64 0),.lit (.int .i64 0),.lit (.int .i64 0),.lit (.int .i64 0)]],.lit (.int .i64 0),.lit (.int .i64 0)],[],places):=
 ⟨[],by kernel_rfl⟩
set_option maxRecDepth 100000 in
theorem inviteOfMatchesSpecUptoRow_holds:Rows.InviteOfMatchesSpecUptoSaid:=
 OpenClaim.holds_of_cond 5 Tryz.f5 rfl rfl rfl rfl rfl rfl rfl ⟨rfl,rfl,rfl,rfl,rfl⟩ rfl rfl rfl rfl rfl namedK Tryz.func5 closedK
  (of_decide_eq_true (by kernel_rfl)) (by unfold Func.isWrapper;first|(rw[qX (by decide +kernel)];kernel_rfl)|(rw[qW (by decide +kernel)];exact⟨rfl,rfl⟩))
  (fun os started H enc _ F=>by
   rw[OpenClaim.pre_eq_preRow]
   obtain⟨places,hx⟩:=inviteOfMatchesSpec_reads os enc
   exact qoq (C:=Tryz.checked) (f:=5) (m:=Tryz.f5) (s:=Rows.inviteOfMatchesSpecSpec) (S:=Rows.OpenSpec.upto Rows.inviteOfMatchesSpecSpec) (F:=F) (k:=Rows.inviteOfMatchesSpecUptoRow.domain) (t:=4) (n:=8) [.prod .str (.prod (.int .i64) (.prod (.int .i64) (.prod .str (.prod .str (.prod .str (.prod (.list (.prod .str (.int .i64))) (.prod .str (.prod (.prod (.int .i64) (.prod (.int .i64) (.prod (.int .i64) (.prod (.int .i64) (.prod (.int .i64) (.prod (.int .i64) (.int .i64))))))) (.prod (.int .i64) (.prod (.int .i64) (.prod (.int .i64) (.prod (.int .i64) (.prod (.int .i64) (.prod .bool (.prod (.list (.int .i64)) (.prod (.list (.int .i64)) (.list (.int .i64)))))))))))))))))),.prod .str (.prod (.int .i64) (.prod (.int .i64) (.prod (.prod (.int .i64) (.prod (.int .i64) (.prod (.int .i64) (.int .i64)))) (.prod (.int .i64) (.prod (.int .i64) (.prod (.int .i64) (.int .i64))))))),.int .i64,.int .i64] Rows.inviteOfMatchesSpecUptoRow.laid (bulkU H) 1048576
    Rows.uptoSmall rfl (fun ds h=>of_decide_eq_true h) ownK laidOutK started initK Tryz.func5
    (quv (enc:=enc) (C:=Tryz.checked) false (World.laidAll Tryz.prog os Rows.inviteOfMatchesSpecUptoRow.laid) #[.agg #[.string ⟨#[]⟩,.int .i64 0,.int .i64 0,.string ⟨#[]⟩,.string ⟨#[]⟩,.string ⟨#[]⟩,.slice none 0 0,.string ⟨#[]⟩,.int .i64 0,.int .i64 0,.int .i64 0,.int .i64 0,.int .i64 0,.int .i64 0,.int .i64 0,.int .i64 0,.int .i64 0,.int .i64 0,.int .i64 0,.int .i64 0,.bool false,.slice none 0 0,.slice none 0 0,.slice none 0 0],.agg #[.string ⟨#[]⟩,.int .i64 0,.int .i64 0,.int .i64 0,.int .i64 0,.int .i64 0,.int .i64 0,.int .i64 0,.int .i64 0,.int .i64 0,.int .i64 0],.int .i64 0,.int .i64 0] (World.laidAll_os _ _ _)
     (World.shaped_of_ZipB (wit1 os) (wit2 os)) (wit3 os)
     (OpenSpec.preRow_of_cond 8 hx (by kernel_rfl) (fun k hk=>by cases hk;kernel_rfl) (sizedK os enc) (laidMet_laidAll _ (wit4 os) (wit5 os))))
    rfl (fun ds hl=>inviteOfMatchesSpec_spec H ds hl) tysK readK rfl Tryz.underlying4 (fun W h hsh=>htabK h hsh)
    (fun x _ hk=>callK 100000000 x (qok x hk)))
theorem inviteOfMatchesSpec:Rows.InviteOfMatchesSpecUptoCardSaid:=
 Claim7.holds_tied_plain_at .later [] _ _ _ _ inviteOfMatchesSpecUptoRow_holds (fun _ h=>by cases h) (by as_aux_lemma=>kernel_rfl) (fun _ h=>by cases h) inviteOfMatchesSpecUpto_row_tie rfl ⟨rfl,rfl⟩ (by as_aux_lemma=>kernel_rfl) rfl
  (fun f fn hf hfn=>by
   obtain rfl:f=5:=qJ ((show Tryz.prog.funcNamed Rows.inviteOfMatchesSpecRow.func=some 5 by as_aux_lemma=>kernel_rfl).symm.trans hf) |>.symm
   obtain rfl:fn=Tryz.f5:=(qJ (Tryz.func5.symm.trans hfn)).symm
   exact⟨by as_aux_lemma=>kernel_rfl,fun j t ht=>by
    rw[Tryz.params5]at ht
    have hm:t∈[37,46,3,3]:=by simpa using Array.mem_of_getElem? ht
    have hall:([37,46,3,3].all fun u => !Tryz.prog.wantsStandIn u)=true:=by as_aux_lemma=>kernel_rfl
    exact (show Tryz.prog.wantsStandIn t=false by simpa using List.all_eq_true.1 hall t hm)⟩)
  (goesBy_none _ _ goes0 rfl)
#print axioms inviteOfMatchesSpec
end Go.Proofs.YtekaipjfmlnggaaGreatDoor
