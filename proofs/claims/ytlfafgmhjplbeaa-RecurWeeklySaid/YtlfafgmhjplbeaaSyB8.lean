/- posthouse law RecurWeekly: its function hands back true at every input. No condition. -/
import Derived.Test.YtlfafgmhjplbeaaSyB7
namespace Go.Proofs.Ytlfafgmhjplbeaa
open Go.RowKit Go.Sym
theorem ownK : ownKnob Try.prog.godebug = none := by kernel_rfl
theorem laidOutK : laidOutB Try.prog = true := by kernel_rfl
theorem recurWeekly_spec (H : Type) (ds : List (DataW H)) (h : ds.length = 5) : Rows.recurWeeklySpec.fn H ds = { results := [.lit (.bool true)], args := ds } := by
  match ds, h with
  | [_, _, _, _, _], _ => rfl
set_option maxRecDepth 100000 in
theorem recurWeekly : Rows.RecurWeeklySaid :=
  OpenClaim.holds_of_wide 13 Try.f13 rfl rfl rfl rfl rfl rfl rfl ⟨rfl, rfl, rfl, rfl, rfl⟩ rfl rfl rfl rfl rfl (by kernel_rfl) Try.func13 (by kernel_rfl)
    (of_decide_eq_true (by kernel_rfl)) (by unfold Func.isWrapper; first | (rw [if_pos (by decide +kernel)]; kernel_rfl) | (rw [if_neg (by decide +kernel)]; exact ⟨rfl, rfl⟩))
    (fun os started H enc _ => lifted (C := Try.checked) (f := 13) (fn := Try.f13) (s := Rows.recurWeeklySpec) (conds := Rows.recurWeeklyRow.domain) (t := 4) (n := 8) [.prod .str (.prod (.int .i64) (.prod (.int .i64) (.prod (.prod (.int .i64) (.prod (.int .i64) (.prod (.int .i64) (.int .i64)))) (.prod (.int .i64) (.prod (.int .i64) (.prod (.int .i64) (.int .i64))))))), .prod (.int .i64) (.prod (.int .i64) (.prod (.int .i64) (.prod (.int .i64) (.prod (.int .i64) (.prod (.int .i64) (.int .i64)))))), .prod (.int .i64) (.prod (.int .i64) (.prod (.int .i64) (.prod (.int .i64) (.prod .bool (.prod (.list (.int .i64)) (.prod (.list (.int .i64)) (.list (.int .i64)))))))), .int .i64, .int .i64] ownK laidOutK started (by kernel_rfl) Try.func13
      (ChangeSpec.witness6 (enc := enc) (C := Try.checked) false ⟨#[], #[.agg #[.string ⟨#[]⟩, .int .i64 0, .int .i64 0, .int .i64 0, .int .i64 0, .int .i64 0, .int .i64 0, .int .i64 0, .int .i64 0, .int .i64 0, .int .i64 0], .agg #[.int .i64 0, .int .i64 0, .int .i64 0, .int .i64 0, .int .i64 0, .int .i64 0, .int .i64 0], .agg #[.int .i64 0, .int .i64 0, .int .i64 0, .int .i64 0, .bool false, .slice none 0 0, .slice none 0 0, .slice none 0 0], .int .i64 0, .int .i64 0], []⟩ 8 (by kernel_rfl) (by kernel_rfl) (by kernel_rfl) (by kernel_rfl))
      rfl (fun ds hl => recurWeekly_spec H ds hl) (by kernel_rfl) (by kernel_rfl) rfl Try.underlying4
      (fun x h => (F_W2_RecurWeekly_ok (List.length x.1.1 + 6000) x () true (law_weekly _ (by omega) x.1 (lt63 h.1.1) (by omega) x.2.1 x.2.2.1 x.2.2.2.1 x.2.2.2.2.1)).2))
#print axioms recurWeekly
end Go.Proofs.Ytlfafgmhjplbeaa
