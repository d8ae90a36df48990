/- posthouse law TransferChosenFits: its function hands back true at every input (the tables of package utf8 as the library lays them). No condition. -/
import Derived.Test.YtokbiogmemgojaaDoorCards
import Derived.Test.YtokbiogmemgojaaDoorTie
import Derived.Test.YtokbiogmemgojaaDoorSyA6
namespace Go.Proofs.YtokbiogmemgojaaDoor
open Go.RowKit Go.Sym
theorem ownK : ownKnob Tryd.prog.godebug = none := by kernel_rfl
theorem laidOutK : laidOutB Tryd.prog = true := by kernel_rfl
theorem transferChosenFits_spec (H : Type) (ds : List (DataW H)) (h : ds.length = 1) : Rows.transferChosenFitsSpec.fn H ds = { results := [.lit (.bool true)], args := ds } := by
  match ds, h with
  | [_], _ => rfl
set_option maxRecDepth 100000 in
theorem transferChosenFitsRow_holds : Rows.TransferChosenFitsSaid :=
  OpenClaim.holds_of_wide 7 Tryd.f7 rfl rfl rfl rfl rfl rfl rfl ⟨rfl, rfl, rfl, rfl, rfl⟩ rfl rfl rfl rfl rfl (by kernel_rfl) Tryd.func7 (by kernel_rfl)
    (of_decide_eq_true (by kernel_rfl)) (by unfold Func.isWrapper; first | (rw [if_pos (by decide +kernel)]; kernel_rfl) | (rw [if_neg (by decide +kernel)]; exact ⟨rfl, rfl⟩))
    (fun os started H enc _ => liftedL (C := Tryd.checked) (f := 7) (fn := Tryd.f7) (s := Rows.transferChosenFitsSpec) (conds := Rows.transferChosenFitsRow.domain) (t := 4) (n := 8) [.list .byte] Rows.transferChosenFitsRow.laid ownK laidOutK started (by kernel_rfl) Tryd.func7
      (ChangeSpec.witness_shaped (enc := enc) (C := Tryd.checked) (os := os) (X := fun w _ => laidMetH Tryd.prog Rows.transferChosenFitsRow.laid w) false (World.laidAll Tryd.prog os Rows.transferChosenFitsRow.laid) #[.slice none 0 0] 8 (World.laidAll_os _ _ _)
        (World.shaped_of_ZipB (by kernel_rfl) (by kernel_rfl)) (by kernel_rfl) (by kernel_rfl) (by kernel_rfl)
        (by rw [MakeChecks.laidMetH_plain _ _ _ (by kernel_rfl)]; exact laidMet_laidAll _ (by kernel_rfl) (by kernel_rfl)))
      rfl (fun ds hl => transferChosenFits_spec H ds hl) (by kernel_rfl) (by kernel_rfl) rfl Tryd.underlying4
      (fun x h => (F_W2_TransferChosenFits_ok 100101 x () true (law_fits 100101 x.1 (by decide))).2))
theorem transferChosenFits : Rows.TransferChosenFitsCardSaid :=
  Claim7.holds_tied_plain_at .later [] [.data, .pinned] true (true, "b1b746a647d1b1a0a052412386eaee87910d0f0680b2df04c314177bf2228076") false transferChosenFitsRow_holds (fun _ h => by cases h) (by kernel_rfl) (fun _ h => by cases h) transferChosenFits_row_tie rfl ⟨rfl, rfl⟩ (by kernel_rfl) rfl
    (fun f fn hf hfn => by
      obtain rfl : f = 7 := Option.some.inj ((show Tryd.prog.funcNamed "posthouse/posthouselaw2.TransferChosenFits" = some 7 by kernel_rfl).symm.trans hf) |>.symm
      obtain rfl : fn = Tryd.f7 := (Option.some.inj (Tryd.func7.symm.trans hfn)).symm
      exact ⟨by kernel_rfl, fun j t ht => by
        rw [Tryd.params7] at ht
        have hm : t ∈ [22] := by simpa using Array.mem_of_getElem? ht
        have hall : ([22].all fun u => !Tryd.prog.wantsStandIn u) = true := by kernel_rfl
        exact (show Tryd.prog.wantsStandIn t = false by simpa using List.all_eq_true.1 hall t hm)⟩)
    (by kernel_rfl)
#print axioms transferChosenFits
end Go.Proofs.YtokbiogmemgojaaDoor
