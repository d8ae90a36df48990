/- posthouse law MessageReadMatchesSpec: its function hands back true at every input (the tables that the card lists as the library and the program lay them). -/
import Derived.Test.YtojpbgaccmkggaaGreatDoorCards
import Derived.Test.YtojpbgaccmkggaaGreatDoorTie
import Derived.Test.YtojpbgaccmkggaaGreatDoorSyA7
namespace Go.Proofs.YtojpbgaccmkggaaGreatDoor
open Go.RowKit Go.Sym
theorem ownK : ownKnob Tryz.prog.godebug = none := by kernel_rfl
theorem laidOutK : laidOutB Tryz.prog = true := by kernel_rfl
theorem messageReadMatchesSpec_spec (H : Type) (ds : List (DataW H)) (h : ds.length = 1) : Rows.messageReadMatchesSpecSpec.fn H ds = { results := [.lit (.bool true)], args := ds } := by
  match ds, h with
  | [_], _ => rfl
set_option maxRecDepth 100000 in
theorem messageReadMatchesSpecRow_holds : Rows.MessageReadMatchesSpecSaid :=
  OpenClaim.holds_of_wide 3 Tryz.f3 rfl rfl rfl rfl rfl rfl rfl ⟨rfl, rfl, rfl, rfl, rfl⟩ rfl rfl rfl rfl rfl (by kernel_rfl) Tryz.func3 (by kernel_rfl)
    (of_decide_eq_true (by kernel_rfl)) (by unfold Func.isWrapper; first | (rw [if_pos (by decide +kernel)]; kernel_rfl) | (rw [if_neg (by decide +kernel)]; exact ⟨rfl, rfl⟩))
    (fun os started H enc _ => liftedL (C := Tryz.checked) (f := 3) (fn := Tryz.f3) (s := Rows.messageReadMatchesSpecSpec) (conds := Rows.messageReadMatchesSpecRow.domain) (t := 4) (n := 8) [.list .byte] Rows.messageReadMatchesSpecRow.laid ownK laidOutK started (by kernel_rfl) Tryz.func3
      (ChangeSpec.witness_shaped (enc := enc) (C := Tryz.checked) (os := os) (X := fun w _ => laidMetH Tryz.prog Rows.messageReadMatchesSpecRow.laid w) false (World.laidAll Tryz.prog os Rows.messageReadMatchesSpecRow.laid) #[.slice none 0 0] 8 (World.laidAll_os _ _ _)
        (World.shaped_of_ZipB (by kernel_rfl) (by kernel_rfl)) (by kernel_rfl) (by kernel_rfl) (by kernel_rfl)
        (by rw [MakeChecks.laidMetH_plain _ _ _ (by kernel_rfl)]; exact laidMet_laidAll _ (by kernel_rfl) (by kernel_rfl)))
      rfl (fun ds hl => messageReadMatchesSpec_spec H ds hl) (by kernel_rfl) (by kernel_rfl) rfl Tryz.underlying4
      (fun x _ => (F_W2_MessageReadMatchesSpec_ok 100000000 x () true (law_read x.1)).2))
theorem messageReadMatchesSpec : Rows.MessageReadMatchesSpecCardSaid :=
  Claim7.holds_tied_plain_at .later [] _ _ _ _ messageReadMatchesSpecRow_holds (fun _ h => by cases h) (by kernel_rfl) (fun _ h => by cases h) messageReadMatchesSpec_row_tie rfl ⟨rfl, rfl⟩ (by kernel_rfl) rfl
    (fun f fn hf hfn => by
      obtain rfl : f = 3 := Option.some.inj ((show Tryz.prog.funcNamed Rows.messageReadMatchesSpecRow.func = some 3 by kernel_rfl).symm.trans hf) |>.symm
      obtain rfl : fn = Tryz.f3 := (Option.some.inj (Tryz.func3.symm.trans hfn)).symm
      exact ⟨by kernel_rfl, fun j t ht => by
        rw [Tryz.params3] at ht
        have hm : t ∈ [22] := by simpa using Array.mem_of_getElem? ht
        have hall : ([22].all fun u => !Tryz.prog.wantsStandIn u) = true := by kernel_rfl
        exact (show Tryz.prog.wantsStandIn t = false by simpa using List.all_eq_true.1 hall t hm)⟩)
    (by kernel_rfl)
#print axioms messageReadMatchesSpec
end Go.Proofs.YtojpbgaccmkggaaGreatDoor
