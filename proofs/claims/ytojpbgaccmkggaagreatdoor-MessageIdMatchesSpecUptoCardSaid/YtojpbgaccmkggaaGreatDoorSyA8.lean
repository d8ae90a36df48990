/- posthouse law MessageIdMatchesSpec: its function hands back true at every input of bulk at most 1048576 (the tables that the card lists as the library and the program lay them). -/
import Derived.Test.YtojpbgaccmkggaaGreatDoorCards
import Derived.Test.YtojpbgaccmkggaaGreatDoorTie
import Derived.Test.YtojpbgaccmkggaaGreatDoorSyA7
namespace Go.Proofs.YtojpbgaccmkggaaGreatDoor
open Go.RowKit Go.Sym
theorem ownK : ownKnob Tryz.prog.godebug = none := by kernel_rfl
theorem laidOutK : laidOutB Tryz.prog = true := by kernel_rfl
def bulkU (H : Type) : Bulk H := { b := Rows.uptoBulk, ba := Rows.uptoBulkAll, str := fun _ => rfl, lit := fun l => by cases l <;> simp [Rows.uptoBulk], nilb := rfl, sl := fun _ _ => rfl, agg := fun _ => rfl, nil := rfl, cons := fun _ _ => rfl }
theorem messageIdMatchesSpec_spec (H : Type) (ds : List (DataW H)) (h : ds.length = 1) : Rows.messageIdMatchesSpecSpec.fn H ds = { results := [.lit (.bool true)], args := ds } := by
  match ds, h with
  | [_], _ => rfl
theorem messageIdMatchesSpec_reads (os : Os) {H : Type} (enc : TypeId × Value → H) : ∃ places, DataW.whole enc Tryz.prog ((World.laidAll Tryz.prog os Rows.messageIdMatchesSpecUptoRow.laid).forCall (fun _ _ => 0) ⟨#[], #[.agg #[.slice none 0 0, .slice none 0 0]], []⟩).memory Tryz.f6.params.toList Rows.messageIdMatchesSpecSpec.vars false (#[.agg #[.slice none 0 0, .slice none 0 0]] : Array Value).toList 8 = some ([.agg [.nil, .nil]], [], places) :=
  ⟨[], by kernel_rfl⟩
set_option maxRecDepth 100000 in
theorem messageIdMatchesSpecUptoRow_holds : Rows.MessageIdMatchesSpecUptoSaid :=
  OpenClaim.holds_of_cond 6 Tryz.f6 rfl rfl rfl rfl rfl rfl rfl ⟨rfl, rfl, rfl, rfl, rfl⟩ rfl rfl rfl rfl rfl (by kernel_rfl) Tryz.func6 (by kernel_rfl)
    (of_decide_eq_true (by kernel_rfl)) (by unfold Func.isWrapper; first | (rw [if_pos (by decide +kernel)]; kernel_rfl) | (rw [if_neg (by decide +kernel)]; exact ⟨rfl, rfl⟩))
    (fun os started H enc _ F => by
      rw [OpenClaim.pre_eq_preRow]
      obtain ⟨places, hx⟩ := messageIdMatchesSpec_reads os enc
      exact liftedU (C := Tryz.checked) (f := 6) (fn := Tryz.f6) (s := Rows.messageIdMatchesSpecSpec) (so := Rows.OpenSpec.upto Rows.messageIdMatchesSpecSpec) (F := F) (conds := Rows.messageIdMatchesSpecUptoRow.domain) (t := 4) (n := 8) [.prod (.list (.prod .str .str)) (.list .byte)] Rows.messageIdMatchesSpecUptoRow.laid (bulkU H) 1048576
        Rows.uptoSmall rfl (fun ds h => of_decide_eq_true h) ownK laidOutK started (by kernel_rfl) Tryz.func6
        (witness_row_at (enc := enc) (C := Tryz.checked) false (World.laidAll Tryz.prog os Rows.messageIdMatchesSpecUptoRow.laid) #[.agg #[.slice none 0 0, .slice none 0 0]] (World.laidAll_os _ _ _)
          (by kernel_rfl) (by kernel_rfl) (by kernel_rfl)
          (OpenSpec.preRow_of_cond 8 hx (by kernel_rfl) (fun k hk => by cases hk; kernel_rfl) (by kernel_rfl) (laidMet_laidAll _ (by kernel_rfl) (by kernel_rfl))))
        rfl (fun ds hl => messageIdMatchesSpec_spec H ds hl) (by kernel_rfl) (by kernel_rfl) rfl Tryz.underlying4
        (fun x _ hk => (F_W2_MessageIdMatchesSpec_ok 100000000 x () true (law_id x.1 (SmM_bk x.1 hk))).2))
theorem messageIdMatchesSpec : Rows.MessageIdMatchesSpecUptoCardSaid :=
  Claim7.holds_tied_plain_at .later [] _ _ _ _ messageIdMatchesSpecUptoRow_holds (fun _ h => by cases h) (by kernel_rfl) (fun _ h => by cases h) messageIdMatchesSpecUpto_row_tie rfl ⟨rfl, rfl⟩ (by kernel_rfl) rfl
    (fun f fn hf hfn => by
      obtain rfl : f = 6 := Option.some.inj ((show Tryz.prog.funcNamed Rows.messageIdMatchesSpecRow.func = some 6 by kernel_rfl).symm.trans hf) |>.symm
      obtain rfl : fn = Tryz.f6 := (Option.some.inj (Tryz.func6.symm.trans hfn)).symm
      exact ⟨by kernel_rfl, fun j t ht => by
        rw [Tryz.params6] at ht
        have hm : t ∈ [26] := by simpa using Array.mem_of_getElem? ht
        have hall : ([26].all fun u => !Tryz.prog.wantsStandIn u) = true := by kernel_rfl
        exact (show Tryz.prog.wantsStandIn t = false by simpa using List.all_eq_true.1 hall t hm)⟩)
    (by kernel_rfl)
#print axioms messageIdMatchesSpec
end Go.Proofs.YtojpbgaccmkggaaGreatDoor
