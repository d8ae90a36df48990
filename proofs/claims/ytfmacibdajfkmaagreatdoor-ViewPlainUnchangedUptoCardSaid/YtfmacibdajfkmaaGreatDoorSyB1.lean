/- posthouse law ViewPlainUnchanged: its function hands back true at every input of bulk at most 1048576 (the tables that the card lists as the library and the program lay them). -/
import Derived.Shelf.Vars
import Derived.Test.YtfmacibdajfkmaaGreatDoorCards
import Derived.Test.YtfmacibdajfkmaaGreatDoorTie
import Derived.Test.YtfmacibdajfkmaaGreatDoorSyA7
namespace Go.Sym
/-- printable -/
def pr (c : UInt8) : Bool := decide (32 ≤ c) && decide (c ≤ 126)
theorem pr_nat {c : UInt8} (h : pr c = true) : 32 ≤ c.toNat ∧ c.toNat ≤ 126 := by
  unfold pr at h
  simp only [Bool.and_eq_true, decide_eq_true_eq, UInt8.le_iff_toNat_le] at h
  exact h
theorem bs_pr : ∀ (s : Bs) (col : Nat), (∀ c ∈ s, pr c = true) → col ≤ 998 → bs col s = if col + s.length ≤ 998 then 0 else 1
  | [], col, _, hc => by rw [bs_nil, if_pos (by simpa using hc)]
  | c :: s, col, h, hc => by
    have hp := pr_nat (h c List.mem_cons_self)
    have h13 : c ≠ 13 := by rintro rfl; revert hp; decide
    have h10 : c ≠ 10 := by rintro rfl; revert hp; decide
    rw [bs_cons, show isCl c s = (c == 13 && s.head? == some 10) from rfl, beq_false_of_ne h13, Bool.false_and, if_neg (by decide), if_neg (by simp [h13, h10])]
    by_cases hq : 998 ≤ col
    · rw [if_pos hq, if_neg (by simp only [List.length_cons]; omega)]
    · rw [if_neg hq, bs_pr s (col + 1) (fun d hd => h d (List.mem_cons_of_mem _ hd)) (by omega)]
      have : col + 1 + s.length = col + (c :: s).length := by simp only [List.length_cons]; omega
      rw [this]
theorem rvals_pr (f : Nat) : ∀ (pre suf : Bs), (∀ c ∈ suf, pr c = true) → suf.length ≤ f → rvalsAt (pre ++ suf) f pre.length = suf.map fun c => (c.toNat : Int) := by
  induction f with
  | zero =>
    intro pre suf _ hl
    cases suf with
    | nil => rfl
    | cons c r => simp at hl
  | succ f ih =>
    intro pre suf h hl
    unfold rvalsAt
    cases suf with
    | nil => rw [blt_f (by simp)]; rfl
    | cons c r =>
      have hp := pr_nat (h c List.mem_cons_self)
      simp only [List.length_cons] at hl
      rw [blt_t (by simp), cond_true, rdec_low (pre ++ c :: r) pre.length c (by simp) (by omega)]
      have := ih (pre ++ [c]) r (fun d hd => h d (List.mem_cons_of_mem _ hd)) (by omega)
      simp only [List.length_append, List.length_singleton, List.append_assoc, List.singleton_append] at this
      rw [this]; rfl
theorem renc_pr (c : UInt8) (h : pr c = true) : renc (c.toNat : Int) = [c] := by
  have key : ∀ c : UInt8, (!pr c || renc (c.toNat : Int) == [c]) = true := byte_all (fun c => (!pr c || renc (c.toNat : Int) == [c]) = true) (by decide +kernel)
  have := key c
  rw [h] at this
  simpa using this
theorem rtext_pr : ∀ (s : Bs), (∀ c ∈ s, pr c = true) → rtext (s.map fun c => (c.toNat : Int)) = s
  | [], _ => rfl
  | c :: s, h => by
    have e : rtext ((c :: s).map fun c => (c.toNat : Int)) = renc (c.toNat : Int) ++ rtext (s.map fun c => (c.toNat : Int)) := by simp [rtext]
    rw [e, renc_pr c (h c List.mem_cons_self), rtext_pr s (fun d hd => h d (List.mem_cons_of_mem _ hd))]; rfl
theorem index_no13 : ∀ (s : Bs), (∀ c ∈ s, c ≠ 13) → Lib.index s [13, 10] = -1
  | [], _ => rfl
  | c :: s, h => by
    have h1 := h c List.mem_cons_self
    have hp : ([13, 10] : Bs).isPrefixOf (c :: s) = false := by simp [List.isPrefixOf, Ne.symm h1]
    rw [Lib.index, hp, index_no13 s (fun d hd => h d (List.mem_cons_of_mem _ hd))]; rfl
theorem shown_pr (s : Bs) (h : ∀ c ∈ s, pr c = true) : shown s = s := by
  have h1 : rvals s = s.map fun c => (c.toNat : Int) := by
    exact rvals_pr s.length [] s h (Nat.le_refl _)
  unfold shown
  rw [h1, rtext_pr s h]
  have h13 : ∀ c ∈ s, c ≠ 13 := fun c hc => by
    have hp := pr_nat (h c hc)
    rintro rfl; revert hp; decide
  unfold Lib.replaceAll Lib.replace
  rw [if_neg (by decide)]
  unfold Lib.replaceNum
  rw [if_pos (.inl (by decide)), Lib.count_miss (index_no13 s h13)]; rfl
theorem r1in_pr (c : UInt8) : F_R1_In (c.toNat : Int) 32 126 = some (pr c) := by
  unfold F_R1_In pr
  simp only [UInt8.le_iff_toNat_le]
  rw [bif_d]
  have q1 : ((32 : UInt8).toNat) = 32 := rfl
  have q2 : ((126 : UInt8).toNat) = 126 := rfl
  rw [q1, q2]
  by_cases h : 32 ≤ c.toNat
  · rw [if_pos (by omega)]
    by_cases h2 : c.toNat ≤ 126
    · simp [h, h2]; omega
    · simp [h, h2]; omega
  · rw [if_neg (by omega)]; simp [h]
theorem plain_end (b : Bs) (h : ∀ c ∈ b, pr c = true) (hl : b.length ≤ 1048576) : F_view_Text 100000000 (Tree.node ([], b) []) = some (if 998 < b.length then ([], (1, 0)) else (b, (0, 0))) := by
  have h0 : (fieldsS []).1 = 0 := rfl
  have hc := content_nil b
  have hd : Tr.decR b Tr.n7 = if 12000 < b.length then ((1, -1), []) else ((0, 0), b) := by
    unfold Tr.decR
    rw [Tr.cod7, if_neg (by decide)]
    split
    · rfl
    · rw [if_pos rfl]
  rw [Text_leaf [] b _ SmF_nil h0 type_nil hc (by rw [hd]; split <;> simp; omega), bs_pr b 0 h (by omega), Nat.zero_add, hd]
  by_cases h1 : 12000 < b.length
  · rw [if_pos h1, if_pos (by omega)]
  · rw [if_neg h1, if_neg h1]
    by_cases h2 : 998 < b.length
    · simp only [h2, show ¬ b.length ≤ 998 by omega, if_true, if_false, if_neg (show ¬ (1 : Int) = 0 by decide)]
    · simp only [h2, show b.length ≤ 998 by omega, if_true, if_false]; rw [shown_pr b h]
theorem plain_go (n : Nat) : ∀ (pre suf : Bs), suf.length < n → (pre ++ suf).length ≤ 1048576 → (∀ c ∈ pre, pr c = true) → F_W2_ViewPlainUnchanged_p0 100000000 n (pre ++ suf) (pre.length : Int) = some true := by
  induction n with
  | zero => intro pre suf h; omega
  | succ n ih =>
    intro pre suf h hl hp
    rw [F_W2_ViewPlainUnchanged_p0, F_W2_ViewPlainUnchanged_b0]
    cases suf with
    | nil =>
      rw [bif_df (by simp), List.append_nil] at *
      rw [plain_end pre hp hl, Option.bind_some, bif_d]
      by_cases h2 : 998 < pre.length
      · rw [if_pos (by omega), if_pos h2]; rfl
      · rw [if_neg (by omega), if_neg h2]
        simp
    | cons c r =>
      simp only [List.length_cons, List.length_append] at h hl
      rw [bif_dt (by simp; omega), idx_mid, Option.bind_some, r1in_pr, Option.bind_some]
      cases hc : pr c
      · rfl
      · rw [bif_nT, nx_nat _ (by omega)]
        have := ih (pre ++ [c]) r (by omega) (by simp; omega) (fun d hd => by
          rcases List.mem_append.1 hd with hd | hd
          · exact hp d hd
          · rw [List.mem_singleton] at hd; subst hd; exact hc)
        simpa using this
theorem law_plain (b : Bs) (hl : b.length ≤ 1048576) : F_W2_ViewPlainUnchanged 100000000 b = some true := by
  unfold F_W2_ViewPlainUnchanged
  rw [vex_ok, Option.bind_some, bif_nT]
  exact plain_go 100000000 [] b (by omega) (by simpa using hl) (fun _ h => by cases h)
theorem law_plain_bk (x : Bs × Unit) (h : bks [.list .byte] x ≤ 1048576) : F_W2_ViewPlainUnchanged 100000000 x.1 = some true := by
  obtain ⟨b, _⟩ := x
  have h : ((List.map (Ty.byte.bk : Ty.byte.den → Nat) b).sum + 1) + 0 ≤ 1048576 := h
  rw [sum_byte] at h
  exact law_plain b (by omega)
end Go.Sym

namespace Go.Proofs.YtfmacibdajfkmaaGreatDoor
open Go.RowKit Go.Sym Go.Shelf
theorem ownK : ownKnob Tryz.prog.godebug = none := by kernel_rfl
theorem laidOutK : laidOutB Tryz.prog = true := by kernel_rfl
def bulkU (H : Type) : Bulk H := { b := Rows.uptoBulk, ba := Rows.uptoBulkAll, str := fun _ => rfl, lit := fun l => by cases l <;> simp [Rows.uptoBulk], nilb := rfl, sl := fun _ _ => rfl, agg := fun _ => rfl, nil := rfl, cons := fun _ _ => rfl }
theorem viewPlainUnchanged_spec (H : Type) (ds : List (DataW H)) (h : ds.length = 1) : Rows.viewPlainUnchangedSpec.fn H ds = { results := [.lit (.bool true)], args := ds } := by
  match ds, h with
  | [_], _ => rfl
theorem htabK {W : World} (h : laidMetH Tryz.prog Rows.viewPlainUnchangedUptoRow.laid W) (hsh : W.ShapedOpen Tryz.prog) : LC.tab (Gw W).imm W := by
  refine htab_of h (by kernel_rfl) (fun g τ l hg => ?_) (by kernel_rfl) (by kernel_rfl) (fun g hg => ?_)
  · have hg : globOf g = some ⟨τ, l⟩ := hg
    unfold globOf at hg
    split at hg
    · exact ⟨256, (show (0, 256) ∈ ([(0, 256), (1, 32)] : List (Nat × Nat)) by decide)⟩
    · exact ⟨32, (show (1, 32) ∈ ([(0, 256), (1, 32)] : List (Nat × Nat)) by decide)⟩
    · cases hg
  · have hg : g ∈ ([2] : List Nat) := hg
    rw [List.mem_singleton] at hg; subst hg
    exact cell_of_shapedOpen_int (P := Tryz.prog) (g := 2) (t := 3) (zero := #[.int .i64 0]) hsh (of_decide_eq_true (by kernel_rfl)) (by kernel_rfl) rfl (by kernel_rfl) (by kernel_rfl) Tryz.underlying3
theorem callK (fu : Nat) (x : Pts.den (([.list .byte] : List Ty).map .h)) (h : F_W2_ViewPlainUnchanged fu x.1 = some true) : CallsTo Tryz.prog 3 (Pts.put (([.list .byte] : List Ty).map .h) x) [] (.bool true) [] := (F_W2_ViewPlainUnchanged_ok fu x () true h).2
set_option maxRecDepth 100000 in
theorem wit1 (os : Os) : ((World.laidAll Tryz.prog os Rows.viewPlainUnchangedUptoRow.laid).forCall (fun _ _ => 0) ⟨#[], #[.slice none 0 0], []⟩).variablesZipB Tryz.prog = true := by kernel_rfl
set_option maxRecDepth 100000 in
theorem wit2 (os : Os) : (((World.laidAll Tryz.prog os Rows.viewPlainUnchangedUptoRow.laid).forCall (fun _ _ => 0) ⟨#[], #[.slice none 0 0], []⟩).heap.toList.drop Tryz.prog.globals.size).take ((begin Tryz.prog (fun _ _ => 0) default).world.heap.size - Tryz.prog.globals.size) =
      (begin Tryz.prog (fun _ _ => 0) default).world.heap.toList.drop Tryz.prog.globals.size := by kernel_rfl
set_option maxRecDepth 100000 in
theorem wit3 (os : Os) : Input.okWideB Tryz.prog ((World.laidAll Tryz.prog os Rows.viewPlainUnchangedUptoRow.laid).forCall (fun _ _ => 0) ⟨#[], #[.slice none 0 0], []⟩) 3 ⟨#[], #[.slice none 0 0], []⟩ = true := by kernel_rfl
set_option maxRecDepth 100000 in
theorem wit4 (os : Os) : (World.holding Tryz.prog os ⟨#[], #[], []⟩).layFits Tryz.prog Rows.viewPlainUnchangedUptoRow.laid [] = true := by kernel_rfl
set_option maxRecDepth 100000 in
theorem closedK : joinedFacts Tryz.pinned.checked.prog 3 Tryz.f3 (OpenSpec.bare (Rows.OpenSpec.upto Rows.viewPlainUnchangedSpec)) Rows.viewPlainUnchangedUptoRow = true := by kernel_rfl
set_option maxRecDepth 100000 in
theorem namedK : Tryz.pinned.checked.prog.funcNamed Rows.viewPlainUnchangedUptoRow.func = some 3 := by kernel_rfl
set_option maxRecDepth 100000 in
theorem readK : Tryz.f3.params.toList.all (fun t => Tryz.checked.prog.readableRec t && decide (t < Tryz.checked.prog.types.size)) = true := by kernel_rfl
set_option maxRecDepth 100000 in
theorem tysK : tysOk Tryz.checked.prog 8 [.list .byte] Tryz.f3.params.toList = true := by kernel_rfl
set_option maxRecDepth 100000 in
theorem initK : Tryz.checked.prog.inits.idxOf? 3 = none := by kernel_rfl
set_option maxRecDepth 100000 in
theorem sizedK (os : Os) {H : Type} (enc : TypeId × Value → H) : (OpenSpec.bare (Rows.OpenSpec.upto Rows.viewPlainUnchangedSpec)).sizedB enc Tryz.prog Tryz.f3 false ((World.laidAll Tryz.prog os Rows.viewPlainUnchangedUptoRow.laid).forCall (fun _ _ => 0) ⟨#[], #[.slice none 0 0], []⟩).memory #[.slice none 0 0] 8 = true := by kernel_rfl
set_option maxRecDepth 100000 in
theorem wit5 (os : Os) : (World.holding Tryz.prog os ⟨#[], #[], []⟩).layIfaces Tryz.prog Rows.viewPlainUnchangedUptoRow.laid (World.laidAll Tryz.prog os Rows.viewPlainUnchangedUptoRow.laid) = true := by kernel_rfl
set_option maxRecDepth 100000 in
theorem viewPlainUnchanged_reads (os : Os) {H : Type} (enc : TypeId × Value → H) : ∃ places, DataW.whole enc Tryz.prog ((World.laidAll Tryz.prog os Rows.viewPlainUnchangedUptoRow.laid).forCall (fun _ _ => 0) ⟨#[], #[.slice none 0 0], []⟩).memory Tryz.f3.params.toList Rows.viewPlainUnchangedSpec.vars false (#[.slice none 0 0] : Array Value).toList 8 = some ([.nil], [], places) :=
  ⟨[], by kernel_rfl⟩
set_option maxRecDepth 100000 in
theorem viewPlainUnchangedUptoRow_holds : Rows.ViewPlainUnchangedUptoSaid :=
  OpenClaim.holds_of_cond 3 Tryz.f3 rfl rfl rfl rfl rfl rfl rfl ⟨rfl, rfl, rfl, rfl, rfl⟩ rfl rfl rfl rfl rfl namedK Tryz.func3 closedK
    (of_decide_eq_true (by kernel_rfl)) (by unfold Func.isWrapper; first | (rw [if_pos (by decide +kernel)]; kernel_rfl) | (rw [if_neg (by decide +kernel)]; exact ⟨rfl, rfl⟩))
    (fun os started H enc _ F => by
      rw [OpenClaim.pre_eq_preRow]
      obtain ⟨places, hx⟩ := viewPlainUnchanged_reads os enc
      exact liftedU (C := Tryz.checked) (f := 3) (fn := Tryz.f3) (s := Rows.viewPlainUnchangedSpec) (so := Rows.OpenSpec.upto Rows.viewPlainUnchangedSpec) (F := F) (conds := Rows.viewPlainUnchangedUptoRow.domain) (t := 4) (n := 8) [.list .byte] Rows.viewPlainUnchangedUptoRow.laid (bulkU H) 1048576
        Rows.uptoSmall rfl (fun ds h => of_decide_eq_true h) ownK laidOutK started initK Tryz.func3
        (witness_row_shaped (enc := enc) (C := Tryz.checked) false (World.laidAll Tryz.prog os Rows.viewPlainUnchangedUptoRow.laid) #[.slice none 0 0] (World.laidAll_os _ _ _)
          (World.shaped_of_ZipB (wit1 os) (wit2 os)) (wit3 os)
          (OpenSpec.preRow_of_cond 8 hx (by kernel_rfl) (fun k hk => by cases hk; kernel_rfl) (sizedK os enc) (laidMet_laidAll _ (wit4 os) (wit5 os))))
        rfl (fun ds hl => viewPlainUnchanged_spec H ds hl) tysK readK rfl Tryz.underlying4 (fun W h hsh => htabK h hsh)
        (fun x _ hk => callK 100000000 x (law_plain_bk x hk)))
theorem viewPlainUnchanged : Rows.ViewPlainUnchangedUptoCardSaid :=
  Claim7.holds_tied_plain_at .later [] _ _ _ _ viewPlainUnchangedUptoRow_holds (fun _ h => by cases h) (by kernel_rfl) (fun _ h => by cases h) viewPlainUnchangedUpto_row_tie rfl ⟨rfl, rfl⟩ (by kernel_rfl) rfl
    (fun f fn hf hfn => by
      obtain rfl : f = 3 := Option.some.inj ((show Tryz.prog.funcNamed Rows.viewPlainUnchangedRow.func = some 3 by kernel_rfl).symm.trans hf) |>.symm
      obtain rfl : fn = Tryz.f3 := (Option.some.inj (Tryz.func3.symm.trans hfn)).symm
      exact ⟨by kernel_rfl, fun j t ht => by
        rw [Tryz.params3] at ht
        have hm : t ∈ [22] := by simpa using Array.mem_of_getElem? ht
        have hall : ([22].all fun u => !Tryz.prog.wantsStandIn u) = true := by kernel_rfl
        exact (show Tryz.prog.wantsStandIn t = false by simpa using List.all_eq_true.1 hall t hm)⟩)
    (by kernel_rfl)
#print axioms viewPlainUnchanged
end Go.Proofs.YtfmacibdajfkmaaGreatDoor
