/- posthouse law TransferDecodeMatchesSpec: its function hands back true at every input (the tables of package utf8 as the library lays them). No condition. -/
import Derived.Test.YtokbiogmemgojaaDoorCards
import Derived.Test.YtokbiogmemgojaaDoorTie
import Derived.Test.YtokbiogmemgojaaDoorSyA6
namespace Go.Proofs.YtokbiogmemgojaaDoor
open Go.RowKit Go.Sym
theorem ownK : ownKnob Tryd.prog.godebug = none := by kernel_rfl
theorem laidOutK : laidOutB Tryd.prog = true := by kernel_rfl
theorem transferDecodeMatchesSpec_spec (H : Type) (ds : List (DataW H)) (h : ds.length = 2) : Rows.transferDecodeMatchesSpecSpec.fn H ds = { results := [.lit (.bool true)], args := ds } := by
  match ds, h with
  | [_, _], _ => rfl
set_option maxRecDepth 100000 in
theorem transferDecodeMatchesSpecRow_holds : Rows.TransferDecodeMatchesSpecSaid :=
  OpenClaim.holds_of_wide 4 Tryd.f4 rfl rfl rfl rfl rfl rfl rfl ⟨rfl, rfl, rfl, rfl, rfl⟩ rfl rfl rfl rfl rfl (by kernel_rfl) Tryd.func4 (by kernel_rfl)
    (of_decide_eq_true (by kernel_rfl)) (by unfold Func.isWrapper; first | (rw [if_pos (by decide +kernel)]; kernel_rfl) | (rw [if_neg (by decide +kernel)]; exact ⟨rfl, rfl⟩))
    (fun os started H enc _ => liftedL (C := Tryd.checked) (f := 4) (fn := Tryd.f4) (s := Rows.transferDecodeMatchesSpecSpec) (conds := Rows.transferDecodeMatchesSpecRow.domain) (t := 4) (n := 8) [.list .byte, .str] Rows.transferDecodeMatchesSpecRow.laid ownK laidOutK started (by kernel_rfl) Tryd.func4
      (ChangeSpec.witness_shaped (enc := enc) (C := Tryd.checked) (os := os) (X := fun w _ => laidMetH Tryd.prog Rows.transferDecodeMatchesSpecRow.laid w) false (World.laidAll Tryd.prog os Rows.transferDecodeMatchesSpecRow.laid) #[.slice none 0 0, .string ⟨#[]⟩] 8 (World.laidAll_os _ _ _)
        (World.shaped_of_ZipB (by kernel_rfl) (by kernel_rfl)) (by kernel_rfl) (by kernel_rfl) (by kernel_rfl)
        (by rw [MakeChecks.laidMetH_plain _ _ _ (by kernel_rfl)]; exact laidMet_laidAll _ (by kernel_rfl) (by kernel_rfl)))
      rfl (fun ds hl => transferDecodeMatchesSpec_spec H ds hl) (by kernel_rfl) (by kernel_rfl) rfl Tryd.underlying4
      (fun x h => (F_W2_TransferDecodeMatchesSpec_ok (List.length x.2.1 + 100001) x () true (law_decode (List.length x.2.1 + 100001) x.1 x.2.1 (by omega) h.2.1)).2))
theorem transferDecodeMatchesSpec : Rows.TransferDecodeMatchesSpecCardSaid :=
  Claim7.holds_tied_plain_at .later [] [.data, .pinned] true (true, "b1b746a647d1b1a0a052412386eaee87910d0f0680b2df04c314177bf2228076") false transferDecodeMatchesSpecRow_holds (fun _ h => by cases h) (by kernel_rfl) (fun _ h => by cases h) transferDecodeMatchesSpec_row_tie rfl ⟨rfl, rfl⟩ (by kernel_rfl) rfl
    (fun f fn hf hfn => by
      obtain rfl : f = 4 := Option.some.inj ((show Tryd.prog.funcNamed "posthouse/posthouselaw2.TransferDecodeMatchesSpec" = some 4 by kernel_rfl).symm.trans hf) |>.symm
      obtain rfl : fn = Tryd.f4 := (Option.some.inj (Tryd.func4.symm.trans hfn)).symm
      exact ⟨by kernel_rfl, fun j t ht => by
        rw [Tryd.params4] at ht
        have hm : t ∈ [22, 9] := by simpa using Array.mem_of_getElem? ht
        have hall : ([22, 9].all fun u => !Tryd.prog.wantsStandIn u) = true := by kernel_rfl
        exact (show Tryd.prog.wantsStandIn t = false by simpa using List.all_eq_true.1 hall t hm)⟩)
    (by kernel_rfl)
#print axioms transferDecodeMatchesSpec
end Go.Proofs.YtokbiogmemgojaaDoor
