/- posthouse law RecurExceptions: its function hands back true at every input. No condition. -/
import Derived.Test.YtlfafgmhjplbeaaSyB7
namespace Go.Proofs.Ytlfafgmhjplbeaa
open Go.RowKit Go.Sym
theorem ownK : ownKnob Try.prog.godebug = none := by kernel_rfl
theorem laidOutK : laidOutB Try.prog = true := by kernel_rfl
theorem recurExceptions_spec (H : Type) (ds : List (DataW H)) (h : ds.length = 6) : Rows.recurExceptionsSpec.fn H ds = { results := [.lit (.bool true)], args := ds } := by
  match ds, h with
  | [_, _, _, _, _, _], _ => rfl
set_option maxRecDepth 100000 in
theorem recurExceptions : Rows.RecurExceptionsSaid :=
  OpenClaim.holds_of_wide 11 Try.f11 rfl rfl rfl rfl rfl rfl rfl ⟨rfl, rfl, rfl, rfl, rfl⟩ rfl rfl rfl rfl rfl (by kernel_rfl) Try.func11 (by kernel_rfl)
    (of_decide_eq_true (by kernel_rfl)) (by unfold Func.isWrapper; first | (rw [if_pos (by decide +kernel)]; kernel_rfl) | (rw [if_neg (by decide +kernel)]; exact ⟨rfl, rfl⟩))
    (fun os started H enc _ => lifted (C := Try.checked) (f := 11) (fn := Try.f11) (s := Rows.recurExceptionsSpec) (conds := Rows.recurExceptionsRow.domain) (t := 4) (n := 8) [.prod .str (.prod (.int .i64) (.prod (.int .i64) (.prod (.prod (.int .i64) (.prod (.int .i64) (.prod (.int .i64) (.int .i64)))) (.prod (.int .i64) (.prod (.int .i64) (.prod (.int .i64) (.int .i64))))))), .prod (.int .i64) (.prod (.int .i64) (.prod (.int .i64) (.prod (.int .i64) (.prod (.int .i64) (.prod (.int .i64) (.int .i64)))))), .prod (.int .i64) (.prod (.int .i64) (.prod (.int .i64) (.prod (.int .i64) (.prod .bool (.prod (.list (.int .i64)) (.prod (.list (.int .i64)) (.list (.int .i64)))))))), .int .i64, .int .i64, .int .i64] ownK laidOutK started (by kernel_rfl) Try.func11
      (ChangeSpec.witness6 (enc := enc) (C := Try.checked) false ⟨#[], #[.agg #[.string ⟨#[]⟩, .int .i64 0, .int .i64 0, .int .i64 0, .int .i64 0, .int .i64 0, .int .i64 0, .int .i64 0, .int .i64 0, .int .i64 0, .int .i64 0], .agg #[.int .i64 0, .int .i64 0, .int .i64 0, .int .i64 0, .int .i64 0, .int .i64 0, .int .i64 0], .agg #[.int .i64 0, .int .i64 0, .int .i64 0, .int .i64 0, .bool false, .slice none 0 0, .slice none 0 0, .slice none 0 0], .int .i64 0, .int .i64 0, .int .i64 0], []⟩ 8 (by kernel_rfl) (by kernel_rfl) (by kernel_rfl) (by kernel_rfl))
      rfl (fun ds hl => recurExceptions_spec H ds hl) (by kernel_rfl) (by kernel_rfl) rfl Try.underlying4
      (fun x h => (F_W2_RecurExceptions_ok (List.length x.1.1 + 6000) x () true (law_exceptions _ (by omega) x.1 (lt63 h.1.1) (by omega) x.2.1 x.2.2.1 (lt63 h.2.2.1.2.2.2.2.2.1.1) x.2.2.2.1 x.2.2.2.2.1 x.2.2.2.2.2.1)).2))
#print axioms recurExceptions
end Go.Proofs.Ytlfafgmhjplbeaa
