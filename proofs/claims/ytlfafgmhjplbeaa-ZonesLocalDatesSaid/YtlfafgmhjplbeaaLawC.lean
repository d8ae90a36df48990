/- posthouselaw2.ZonesLocalDates hands back true at every input. -/
import Derived.Test.YtlfafgmhjplbeaaGlue
import Derived.Test.YtlfafgmhjplbeaaSymZPl
namespace Go.Proofs.Ytlfafgmhjplbeaa
open Go.ChangeShapes Go.WideShapes Go.ChangeAt Go.RowKit Go.Sym
open Go.ChangeMaps (open_string shut_string)
set_option linter.unusedVariables false
theorem locals_walk (nm : ByteArray) (std sm b0 b1 b2 b3 e0 e1 e2 e3 t : Int) (hn : nm.size ≤ maxLen) (w : World) :
    Calls Try.prog 5 #[.agg #[.string nm, .int .i64 std, .int .i64 sm, .int .i64 b0, .int .i64 b1, .int .i64 b2, .int .i64 b3, .int .i64 e0, .int .i64 e1, .int .i64 e2, .int .i64 e3], .int .i64 t] w fun e w' => e = .returned (.bool true) ∧ Below w.heap.size w w' := by
  have hsz : nm.data.toList.length = nm.size := by rw [Array.length_toList]; rfl
  have hlen : (nm.data.toList.length : Int) < 9223372036854775808 := by rw [hsz]; unfold maxLen at hn; omega
  have hlaw := law_local (nm.size + 6000) (by omega) (mkZ nm std sm b0 b1 b2 b3 e0 e1 e2 e3) hlen (by show nm.data.toList.length < _; omega) t
  have hc := F_W2_ZonesLocalDates_ok _ _ _ _ hlaw
  exact walk_of hc [.agg #[.string nm, .int .i64 std, .int .i64 sm, .int .i64 b0, .int .i64 b1, .int .i64 b2, .int .i64 b3, .int .i64 e0, .int .i64 e1, .int .i64 e2, .int .i64 e3], .int .i64 t]
    ⟨⟨_, rfl, rep_str nm _, rfl, rfl, rfl, rfl, rfl, rfl, rfl, rfl, rfl, rfl, trivial⟩, rfl, trivial⟩ w
set_option maxRecDepth 100000 in
theorem locals_lifted (os : Os) (started : os.Started) (H : Type) (enc : TypeId × Value → H) :
    ReturnsInHanded {} Try.checked os 5 .any (Rows.zonesLocalDatesSpec.pre6 enc Try.prog Try.f5 Rows.zonesLocalDatesRow.domain false) (Rows.zonesLocalDatesSpec.post enc Try.prog Try.f5 false true false false) := by
  refine returnsInHanded_of_change (C := Try.checked) ownK started (by kernel_rfl) Try.func5
    (ChangeSpec.witness6 (enc := enc) (C := Try.checked) false ⟨#[], #[.agg #[.string ⟨#[]⟩, .int .i64 0, .int .i64 0, .int .i64 0, .int .i64 0, .int .i64 0, .int .i64 0, .int .i64 0, .int .i64 0, .int .i64 0, .int .i64 0], .int .i64 0], []⟩ 8 (by kernel_rfl) (by kernel_rfl) (by kernel_rfl) (by kernel_rfl)) ?_
  intro W base args ds gs before hval0 hW hcnd _
  have hval : ∀ (j : Nat) t v, Try.f5.params[j]? = some t → args[j]? = some v → Value.okWide Try.prog W .any base t v := hval0
  have hW' := hW
  obtain ⟨p, q, hA0, hV, rfl, hfz, hnd⟩ := hW
  have hA : DataW.TrodAll enc Try.prog W 0 (fun _ => true) true Try.f5.params.toList args.toList ds p := hA0
  rw [Try.params5] at hA hval
  obtain ⟨v0, vs0, d0, ds0, p0, q0, hargs, rfl, rfl, h0, r0⟩ := trodAll_cons hA
  obtain ⟨v1, vs1, d1, ds1, p1, q1, rfl, rfl, rfl, h1, r1⟩ := trodAll_cons r0
  obtain ⟨rfl, rfl, rfl⟩ := trodAll_nil r1
  obtain rfl : args = #[v0, v1] := by cases args; simp_all
  obtain ⟨rfl, rfl⟩ := trodVars_none hV
  have k0 := h0
  have lt0 : ∀ x ∈ p0, x.block < W.heap.size := by obtain ⟨m, hm⟩ := k0; exact DataW.trod_lt m _ _ _ hm
  obtain ⟨nm, std, sm, b0, b1, b2, b3, e0, e1, e2, e3, rfl, hn⟩ := open_zone (hval 0 _ v0 rfl rfl) h0
  obtain ⟨a1, rfl, rfl, rfl, w1⟩ := open_int Try.underlying3 (hval 1 3 v1 rfl rfl) h1
  clear hA0 hval0
  refine (locals_walk nm std sm b0 b1 b2 b3 e0 e1 e2 e3 a1 hn W).mono fun e W' ⟨he, bel⟩ => ?_
  subst he
  exact ⟨_, rfl, _, _, _, [], _, [], hW', trodAll_mk1 (shut_bool Try.underlying4 _), (trodAll_cons_mk (Below.trod laidOutK (by kernel_rfl) (of_decide_eq_true (by kernel_rfl)) k0 bel lt0) (trodAll_cons_mk (shut_int Try.underlying3 w1) trodAll_mk0)), rfl, bel.frame _, fun h => by cases h⟩
theorem zonesLocalDates : Rows.ZonesLocalDatesSaid :=
  OpenClaim.holds_of_wide 5 Try.f5 rfl rfl rfl rfl rfl rfl rfl ⟨rfl, rfl, rfl, rfl, rfl⟩ rfl rfl rfl rfl rfl (by kernel_rfl) Try.func5 (by kernel_rfl)
    (of_decide_eq_true (by kernel_rfl)) (by unfold Func.isWrapper; first | (rw [if_pos (by decide +kernel)]; kernel_rfl) | (rw [if_neg (by decide +kernel)]; exact ⟨rfl, rfl⟩))
    (fun os started H enc _ => locals_lifted os started H enc)
#print axioms zonesLocalDates
end Go.Proofs.Ytlfafgmhjplbeaa
