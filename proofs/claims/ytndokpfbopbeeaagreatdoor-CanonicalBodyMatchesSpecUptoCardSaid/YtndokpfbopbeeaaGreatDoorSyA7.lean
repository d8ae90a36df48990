/- posthouse law CanonicalBodyMatchesSpec: its function hands back true at every input of bulk at most 1048576 (the tables that the card lists as the library and the program lay them). -/
import Derived.Shelf.Vars
import Derived.Test.YtndokpfbopbeeaaGreatDoorCards
import Derived.Test.YtndokpfbopbeeaaGreatDoorTie
import Derived.Test.YtndokpfbopbeeaaGreatDoorSyA6
namespace Go.Proofs.YtndokpfbopbeeaaGreatDoor
open Go.RowKit Go.Sym Go.Shelf
theorem ownK : ownKnob Tryz.prog.godebug = none := by kernel_rfl
theorem laidOutK : laidOutB Tryz.prog = true := by kernel_rfl
def bulkU (H : Type) : Bulk H := { b := Rows.uptoBulk, ba := Rows.uptoBulkAll, str := fun _ => rfl, lit := fun l => by cases l <;> simp [Rows.uptoBulk], nilb := rfl, sl := fun _ _ => rfl, agg := fun _ => rfl, nil := rfl, cons := fun _ _ => rfl }
theorem canonicalBodyMatchesSpec_spec (H : Type) (ds : List (DataW H)) (h : ds.length = 1) : Rows.canonicalBodyMatchesSpecSpec.fn H ds = { results := [.lit (.bool true)], args := ds } := by
  match ds, h with
  | [_], _ => rfl
theorem htabK {W : World} (h : laidMetH Tryz.prog Rows.canonicalBodyMatchesSpecUptoRow.laid W) (hsh : W.ShapedOpen Tryz.prog) : LC.tab (Gw W).imm W := by
  refine htab_of h (by kernel_rfl) (fun g τ l hg => ?_) (by kernel_rfl) (by kernel_rfl) (fun g hg => ?_)
  · have hg : globOf g = some ⟨τ, l⟩ := hg
    unfold globOf at hg
    split at hg
    · exact ⟨20, (show (1, 20) ∈ ([(1, 20), (2, 256), (3, 32)] : List (Nat × Nat)) by decide)⟩
    · exact ⟨256, (show (2, 256) ∈ ([(1, 20), (2, 256), (3, 32)] : List (Nat × Nat)) by decide)⟩
    · exact ⟨32, (show (3, 32) ∈ ([(1, 20), (2, 256), (3, 32)] : List (Nat × Nat)) by decide)⟩
    · cases hg
  · have hg : g ∈ ([0] : List Nat) := hg
    rw [List.mem_singleton] at hg; subst hg
    exact cell_of_shapedOpen_int (P := Tryz.prog) (g := 0) (t := 3) (zero := #[.int .i64 0]) hsh (of_decide_eq_true (by kernel_rfl)) (by kernel_rfl) rfl (by kernel_rfl) (by kernel_rfl) Tryz.underlying3
theorem callK (fu : Nat) (x : Pts.den (([.list .byte] : List Ty).map .h)) (h : F_W2_CanonicalBodyMatchesSpec fu x.1 = some true) : CallsTo Tryz.prog 4 (Pts.put (([.list .byte] : List Ty).map .h) x) [] (.bool true) [] := (F_W2_CanonicalBodyMatchesSpec_ok fu x () true h).2
set_option maxRecDepth 100000 in
theorem wit1 (os : Os) : ((World.laidAll Tryz.prog os Rows.canonicalBodyMatchesSpecUptoRow.laid).forCall (fun _ _ => 0) ⟨#[], #[.slice none 0 0], []⟩).variablesZipB Tryz.prog = true := by kernel_rfl
set_option maxRecDepth 100000 in
theorem wit2 (os : Os) : (((World.laidAll Tryz.prog os Rows.canonicalBodyMatchesSpecUptoRow.laid).forCall (fun _ _ => 0) ⟨#[], #[.slice none 0 0], []⟩).heap.toList.drop Tryz.prog.globals.size).take ((begin Tryz.prog (fun _ _ => 0) default).world.heap.size - Tryz.prog.globals.size) =
      (begin Tryz.prog (fun _ _ => 0) default).world.heap.toList.drop Tryz.prog.globals.size := by kernel_rfl
set_option maxRecDepth 100000 in
theorem wit3 (os : Os) : Input.okWideB Tryz.prog ((World.laidAll Tryz.prog os Rows.canonicalBodyMatchesSpecUptoRow.laid).forCall (fun _ _ => 0) ⟨#[], #[.slice none 0 0], []⟩) 4 ⟨#[], #[.slice none 0 0], []⟩ = true := by kernel_rfl
set_option maxRecDepth 100000 in
theorem wit4 (os : Os) : (World.holding Tryz.prog os ⟨#[], #[], []⟩).layFits Tryz.prog Rows.canonicalBodyMatchesSpecUptoRow.laid [] = true := by kernel_rfl
set_option maxRecDepth 100000 in
theorem wit5 (os : Os) : (World.holding Tryz.prog os ⟨#[], #[], []⟩).layIfaces Tryz.prog Rows.canonicalBodyMatchesSpecUptoRow.laid (World.laidAll Tryz.prog os Rows.canonicalBodyMatchesSpecUptoRow.laid) = true := by kernel_rfl
set_option maxRecDepth 100000 in
theorem canonicalBodyMatchesSpec_reads (os : Os) {H : Type} (enc : TypeId × Value → H) : ∃ places, DataW.whole enc Tryz.prog ((World.laidAll Tryz.prog os Rows.canonicalBodyMatchesSpecUptoRow.laid).forCall (fun _ _ => 0) ⟨#[], #[.slice none 0 0], []⟩).memory Tryz.f4.params.toList Rows.canonicalBodyMatchesSpecSpec.vars false (#[.slice none 0 0] : Array Value).toList 8 = some ([.nil], [], places) :=
  ⟨[], by kernel_rfl⟩
set_option maxRecDepth 100000 in
theorem canonicalBodyMatchesSpecUptoRow_holds : Rows.CanonicalBodyMatchesSpecUptoSaid :=
  OpenClaim.holds_of_cond 4 Tryz.f4 rfl rfl rfl rfl rfl rfl rfl ⟨rfl, rfl, rfl, rfl, rfl⟩ rfl rfl rfl rfl rfl (by kernel_rfl) Tryz.func4 (by kernel_rfl)
    (of_decide_eq_true (by kernel_rfl)) (by unfold Func.isWrapper; first | (rw [if_pos (by decide +kernel)]; kernel_rfl) | (rw [if_neg (by decide +kernel)]; exact ⟨rfl, rfl⟩))
    (fun os started H enc _ F => by
      rw [OpenClaim.pre_eq_preRow]
      obtain ⟨places, hx⟩ := canonicalBodyMatchesSpec_reads os enc
      exact liftedU (C := Tryz.checked) (f := 4) (fn := Tryz.f4) (s := Rows.canonicalBodyMatchesSpecSpec) (so := Rows.OpenSpec.upto Rows.canonicalBodyMatchesSpecSpec) (F := F) (conds := Rows.canonicalBodyMatchesSpecUptoRow.domain) (t := 4) (n := 8) [.list .byte] Rows.canonicalBodyMatchesSpecUptoRow.laid (bulkU H) 1048576
        Rows.uptoSmall rfl (fun ds h => of_decide_eq_true h) ownK laidOutK started (by kernel_rfl) Tryz.func4
        (witness_row_shaped (enc := enc) (C := Tryz.checked) false (World.laidAll Tryz.prog os Rows.canonicalBodyMatchesSpecUptoRow.laid) #[.slice none 0 0] (World.laidAll_os _ _ _)
          (World.shaped_of_ZipB (wit1 os) (wit2 os)) (wit3 os)
          (OpenSpec.preRow_of_cond 8 hx (by kernel_rfl) (fun k hk => by cases hk; kernel_rfl) (by kernel_rfl) (laidMet_laidAll _ (wit4 os) (wit5 os))))
        rfl (fun ds hl => canonicalBodyMatchesSpec_spec H ds hl) (by kernel_rfl) (by kernel_rfl) rfl Tryz.underlying4 (fun W h hsh => htabK h hsh)
        (fun x _ hk => callK 100000000 x (law_body x.1)))
theorem canonicalBodyMatchesSpec : Rows.CanonicalBodyMatchesSpecUptoCardSaid :=
  Claim7.holds_tied_plain_at .later [] _ _ _ _ canonicalBodyMatchesSpecUptoRow_holds (fun _ h => by cases h) (by kernel_rfl) (fun _ h => by cases h) canonicalBodyMatchesSpecUpto_row_tie rfl ⟨rfl, rfl⟩ (by kernel_rfl) rfl
    (fun f fn hf hfn => by
      obtain rfl : f = 4 := Option.some.inj ((show Tryz.prog.funcNamed Rows.canonicalBodyMatchesSpecRow.func = some 4 by kernel_rfl).symm.trans hf) |>.symm
      obtain rfl : fn = Tryz.f4 := (Option.some.inj (Tryz.func4.symm.trans hfn)).symm
      exact ⟨by kernel_rfl, fun j t ht => by
        rw [Tryz.params4] at ht
        have hm : t ∈ [25] := by simpa using Array.mem_of_getElem? ht
        have hall : ([25].all fun u => !Tryz.prog.wantsStandIn u) = true := by kernel_rfl
        exact (show Tryz.prog.wantsStandIn t = false by simpa using List.all_eq_true.1 hall t hm)⟩)
    (by kernel_rfl)
#print axioms canonicalBodyMatchesSpec
end Go.Proofs.YtndokpfbopbeeaaGreatDoor
