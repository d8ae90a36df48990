/- posthouse law ViewEncodingIrrelevant: its function hands back true at every input of bulk at most 1048576 (the tables that the card lists as the library and the program lay them). -/
import Derived.Shelf.Vars
import Derived.Test.YtfmacibdajfkmaaGreatDoorCards
import Derived.Test.YtfmacibdajfkmaaGreatDoorTie
import Derived.Test.YtfmacibdajfkmaaGreatDoorSyA7
namespace Go.Proofs.YtfmacibdajfkmaaGreatDoor
open Go.RowKit Go.Sym Go.Shelf
theorem ownK : ownKnob Tryz.prog.godebug = none := by kernel_rfl
theorem laidOutK : laidOutB Tryz.prog = true := by kernel_rfl
def bulkU (H : Type) : Bulk H := { b := Rows.uptoBulk, ba := Rows.uptoBulkAll, str := fun _ => rfl, lit := fun l => by cases l <;> simp [Rows.uptoBulk], nilb := rfl, sl := fun _ _ => rfl, agg := fun _ => rfl, nil := rfl, cons := fun _ _ => rfl }
theorem viewEncodingIrrelevant_spec (H : Type) (ds : List (DataW H)) (h : ds.length = 3) : Rows.viewEncodingIrrelevantSpec.fn H ds = { results := [.lit (.bool true)], args := ds } := by
  match ds, h with
  | [_, _, _], _ => rfl
theorem htabK {W : World} (h : laidMetH Tryz.prog Rows.viewEncodingIrrelevantUptoRow.laid W) (hsh : W.ShapedOpen Tryz.prog) : LC.tab (Gw W).imm W := by
  refine htab_of h (by kernel_rfl) (fun g τ l hg => ?_) (by kernel_rfl) (by kernel_rfl) (fun g hg => ?_)
  · have hg : globOf g = some ⟨τ, l⟩ := hg
    unfold globOf at hg
    split at hg
    · exact ⟨256, (show (0, 256) ∈ ([(0, 256), (1, 32)] : List (Nat × Nat)) by decide)⟩
    · exact ⟨32, (show (1, 32) ∈ ([(0, 256), (1, 32)] : List (Nat × Nat)) by decide)⟩
    · cases hg
  · have hg : g ∈ ([2] : List Nat) := hg
    rw [List.mem_singleton] at hg; subst hg
    exact cell_of_shapedOpen_int (P := Tryz.prog) (g := 2) (t := 3) (zero := #[.int .i64 0]) hsh (of_decide_eq_true (by kernel_rfl)) (by kernel_rfl) rfl (by kernel_rfl) (by kernel_rfl) Tryz.underlying3
theorem callK (fu : Nat) (x : Pts.den (([.list .byte, .str, .str] : List Ty).map .h)) (h : F_W2_ViewEncodingIrrelevant fu x.1 x.2.1 x.2.2.1 = some true) : CallsTo Tryz.prog 4 (Pts.put (([.list .byte, .str, .str] : List Ty).map .h) x) [] (.bool true) [] := (F_W2_ViewEncodingIrrelevant_ok fu x () true h).2
set_option maxRecDepth 100000 in
theorem wit1 (os : Os) : ((World.laidAll Tryz.prog os Rows.viewEncodingIrrelevantUptoRow.laid).forCall (fun _ _ => 0) ⟨#[], #[.slice none 0 0, .string ⟨#[]⟩, .string ⟨#[]⟩], []⟩).variablesZipB Tryz.prog = true := by kernel_rfl
set_option maxRecDepth 100000 in
theorem wit2 (os : Os) : (((World.laidAll Tryz.prog os Rows.viewEncodingIrrelevantUptoRow.laid).forCall (fun _ _ => 0) ⟨#[], #[.slice none 0 0, .string ⟨#[]⟩, .string ⟨#[]⟩], []⟩).heap.toList.drop Tryz.prog.globals.size).take ((begin Tryz.prog (fun _ _ => 0) default).world.heap.size - Tryz.prog.globals.size) =
      (begin Tryz.prog (fun _ _ => 0) default).world.heap.toList.drop Tryz.prog.globals.size := by kernel_rfl
set_option maxRecDepth 100000 in
theorem wit3 (os : Os) : Input.okWideB Tryz.prog ((World.laidAll Tryz.prog os Rows.viewEncodingIrrelevantUptoRow.laid).forCall (fun _ _ => 0) ⟨#[], #[.slice none 0 0, .string ⟨#[]⟩, .string ⟨#[]⟩], []⟩) 4 ⟨#[], #[.slice none 0 0, .string ⟨#[]⟩, .string ⟨#[]⟩], []⟩ = true := by kernel_rfl
set_option maxRecDepth 100000 in
theorem wit4 (os : Os) : (World.holding Tryz.prog os ⟨#[], #[], []⟩).layFits Tryz.prog Rows.viewEncodingIrrelevantUptoRow.laid [] = true := by kernel_rfl
set_option maxRecDepth 100000 in
theorem closedK : joinedFacts Tryz.pinned.checked.prog 4 Tryz.f4 (OpenSpec.bare (Rows.OpenSpec.upto Rows.viewEncodingIrrelevantSpec)) Rows.viewEncodingIrrelevantUptoRow = true := by kernel_rfl
set_option maxRecDepth 100000 in
theorem namedK : Tryz.pinned.checked.prog.funcNamed Rows.viewEncodingIrrelevantUptoRow.func = some 4 := by kernel_rfl
set_option maxRecDepth 100000 in
theorem readK : Tryz.f4.params.toList.all (fun t => Tryz.checked.prog.readableRec t && decide (t < Tryz.checked.prog.types.size)) = true := by kernel_rfl
set_option maxRecDepth 100000 in
theorem tysK : tysOk Tryz.checked.prog 8 [.list .byte, .str, .str] Tryz.f4.params.toList = true := by kernel_rfl
set_option maxRecDepth 100000 in
theorem initK : Tryz.checked.prog.inits.idxOf? 4 = none := by kernel_rfl
set_option maxRecDepth 100000 in
theorem sizedK (os : Os) {H : Type} (enc : TypeId × Value → H) : (OpenSpec.bare (Rows.OpenSpec.upto Rows.viewEncodingIrrelevantSpec)).sizedB enc Tryz.prog Tryz.f4 false ((World.laidAll Tryz.prog os Rows.viewEncodingIrrelevantUptoRow.laid).forCall (fun _ _ => 0) ⟨#[], #[.slice none 0 0, .string ⟨#[]⟩, .string ⟨#[]⟩], []⟩).memory #[.slice none 0 0, .string ⟨#[]⟩, .string ⟨#[]⟩] 8 = true := by kernel_rfl
set_option maxRecDepth 100000 in
theorem wit5 (os : Os) : (World.holding Tryz.prog os ⟨#[], #[], []⟩).layIfaces Tryz.prog Rows.viewEncodingIrrelevantUptoRow.laid (World.laidAll Tryz.prog os Rows.viewEncodingIrrelevantUptoRow.laid) = true := by kernel_rfl
set_option maxRecDepth 100000 in
theorem viewEncodingIrrelevant_reads (os : Os) {H : Type} (enc : TypeId × Value → H) : ∃ places, DataW.whole enc Tryz.prog ((World.laidAll Tryz.prog os Rows.viewEncodingIrrelevantUptoRow.laid).forCall (fun _ _ => 0) ⟨#[], #[.slice none 0 0, .string ⟨#[]⟩, .string ⟨#[]⟩], []⟩).memory Tryz.f4.params.toList Rows.viewEncodingIrrelevantSpec.vars false (#[.slice none 0 0, .string ⟨#[]⟩, .string ⟨#[]⟩] : Array Value).toList 8 = some ([.nil, .lit (.string []), .lit (.string [])], [], places) :=
  ⟨[], by kernel_rfl⟩
set_option maxRecDepth 100000 in
theorem viewEncodingIrrelevantUptoRow_holds : Rows.ViewEncodingIrrelevantUptoSaid :=
  OpenClaim.holds_of_cond 4 Tryz.f4 rfl rfl rfl rfl rfl rfl rfl ⟨rfl, rfl, rfl, rfl, rfl⟩ rfl rfl rfl rfl rfl namedK Tryz.func4 closedK
    (of_decide_eq_true (by kernel_rfl)) (by unfold Func.isWrapper; first | (rw [if_pos (by decide +kernel)]; kernel_rfl) | (rw [if_neg (by decide +kernel)]; exact ⟨rfl, rfl⟩))
    (fun os started H enc _ F => by
      rw [OpenClaim.pre_eq_preRow]
      obtain ⟨places, hx⟩ := viewEncodingIrrelevant_reads os enc
      exact liftedU (C := Tryz.checked) (f := 4) (fn := Tryz.f4) (s := Rows.viewEncodingIrrelevantSpec) (so := Rows.OpenSpec.upto Rows.viewEncodingIrrelevantSpec) (F := F) (conds := Rows.viewEncodingIrrelevantUptoRow.domain) (t := 4) (n := 8) [.list .byte, .str, .str] Rows.viewEncodingIrrelevantUptoRow.laid (bulkU H) 1048576
        Rows.uptoSmall rfl (fun ds h => of_decide_eq_true h) ownK laidOutK started initK Tryz.func4
        (witness_row_shaped (enc := enc) (C := Tryz.checked) false (World.laidAll Tryz.prog os Rows.viewEncodingIrrelevantUptoRow.laid) #[.slice none 0 0, .string ⟨#[]⟩, .string ⟨#[]⟩] (World.laidAll_os _ _ _)
          (World.shaped_of_ZipB (wit1 os) (wit2 os)) (wit3 os)
          (OpenSpec.preRow_of_cond 8 hx (by kernel_rfl) (fun k hk => by cases hk; kernel_rfl) (sizedK os enc) (laidMet_laidAll _ (wit4 os) (wit5 os))))
        rfl (fun ds hl => viewEncodingIrrelevant_spec H ds hl) tysK readK rfl Tryz.underlying4 (fun W h hsh => htabK h hsh)
        (fun x _ hk => callK 100000000 x (law_encirr_bk x hk)))
theorem viewEncodingIrrelevant : Rows.ViewEncodingIrrelevantUptoCardSaid :=
  Claim7.holds_tied_plain_at .later [] _ _ _ _ viewEncodingIrrelevantUptoRow_holds (fun _ h => by cases h) (by kernel_rfl) (fun _ h => by cases h) viewEncodingIrrelevantUpto_row_tie rfl ⟨rfl, rfl⟩ (by kernel_rfl) rfl
    (fun f fn hf hfn => by
      obtain rfl : f = 4 := Option.some.inj ((show Tryz.prog.funcNamed Rows.viewEncodingIrrelevantRow.func = some 4 by kernel_rfl).symm.trans hf) |>.symm
      obtain rfl : fn = Tryz.f4 := (Option.some.inj (Tryz.func4.symm.trans hfn)).symm
      exact ⟨by kernel_rfl, fun j t ht => by
        rw [Tryz.params4] at ht
        have hm : t ∈ [22, 9, 9] := by simpa using Array.mem_of_getElem? ht
        have hall : ([22, 9, 9].all fun u => !Tryz.prog.wantsStandIn u) = true := by kernel_rfl
        exact (show Tryz.prog.wantsStandIn t = false by simpa using List.all_eq_true.1 hall t hm)⟩)
    (by kernel_rfl)
#print axioms viewEncodingIrrelevant
end Go.Proofs.YtfmacibdajfkmaaGreatDoor
