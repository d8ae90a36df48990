/- The plain functions of the zones package and of its reference: the checks of a zone; offsets and instants. -/
import Derived.Test.YtlfafgmhjplbeaaSymZPf
namespace Go.Sym
open Cal Zn

@[simp] theorem turn_eq (u : T_api_Turn) : F_zones_turn u = some (decide (TuOk u)) := by
  unfold F_zones_turn
  simp only [zones_within_eq, Option.bind_some, bif_d]
  have key : ∀ b : Bool, decide (TuOk u) = b → (TuOk u → b = true) ∧ (¬ TuOk u → b = false) := fun b h => ⟨fun k => by rw [← h, decide_eq_true k], fun k => by rw [← h, decide_eq_false k]⟩
  generalize hb : decide (TuOk u) = b
  obtain ⟨k1, k2⟩ := key b hb
  clear key hb
  unfold TuOk TOk at k1 k2
  repeat' split
  all_goals first | (rw [k2 (by omega)]) | skip
  congr 1
  rw [Bool.eq_iff_iff, decide_eq_true_iff]
  constructor
  · intro q; exact k1 (by omega)
  · intro q
    by_cases c : 0 ≤ u.fMinute ∧ u.fMinute ≤ 1439
    · exact c
    · have := k2 (by omega); rw [this] at q; cases q
@[simp] theorem rturn_eq (u : T_api_Turn) : F_R2_turnOk u = some (decide (TuOk u)) := by
  have e : F_R2_turnOk u = F_zones_turn u := by unfold F_R2_turnOk F_zones_turn; simp only [r1_in_eq, zones_within_eq]
  rw [e, turn_eq]
def endZero (z : T_api_Zone) : Prop := z.fEnd.fMonth = 0 ∧ z.fEnd.fWeek = 0 ∧ z.fEnd.fWeekday = 0 ∧ z.fEnd.fMinute = 0
instance (z : T_api_Zone) : Decidable (endZero z) := by unfold endZero; infer_instance
theorem zero4 (u : T_api_Turn) : ((u.fMonth == (0 : Int)) && ((u.fWeek == (0 : Int)) && ((u.fWeekday == (0 : Int)) && ((u.fMinute == (0 : Int)) && true)))) = decide (u.fMonth = 0 ∧ u.fWeek = 0 ∧ u.fWeekday = 0 ∧ u.fMinute = 0) := by
  rw [Bool.eq_iff_iff, decide_eq_true_iff]; simp
/-- what is wrong with a zone -/
def zfault (z : T_api_Zone) : T_api_Fault :=
  if nameOk z.fName = false then ⟨10, -3⟩ else if ¬ (-900 ≤ z.fStandard ∧ z.fStandard ≤ 900) then ⟨3, -4⟩ else
  if fixedZ z then (if z.fSummer ≠ 0 then ⟨5, -5⟩ else if ¬ endZero z then ⟨5, -5⟩ else ⟨0, 0⟩) else
  if ¬ (-900 ≤ z.fSummer ∧ z.fSummer ≤ 900) then ⟨3, -5⟩ else if ¬ (z.fStandard + 1 ≤ z.fSummer ∧ z.fSummer ≤ z.fStandard + 180) then ⟨3, -5⟩ else
  if ¬ TuOk z.fBegin then ⟨3, -6⟩ else if ¬ TuOk z.fEnd then ⟨3, -7⟩ else if z.fBegin.fMonth = z.fEnd.fMonth then ⟨5, -7⟩ else ⟨0, 0⟩
theorem bif_nb {α : Type} {b : Bool} {x y : α} : (bif !b then x else y) = if b = false then x else y := by cases b <;> rfl
theorem bif_ne {α : Type} {a b : Int} {x y : α} : (bif a != b then x else y) = if a ≠ b then x else y := by
  by_cases h : a = b
  · rw [bif_f (by simp [h]), if_neg (by simp [h])]
  · rw [bif_t (by simp [h]), if_pos h]
theorem bif_eq {α : Type} {a b : Int} {x y : α} : (bif a == b then x else y) = if a = b then x else y := by
  by_cases h : a = b
  · rw [bif_t (by simp [h]), if_pos h]
  · rw [bif_f (by simp [h]), if_neg h]
theorem some_ite {α : Type} {p : Prop} [Decidable p] {x y : α} : (if p then some x else some y) = some (if p then x else y) := by split <;> rfl
theorem ite_not' {α : Type} {p : Prop} [Decidable p] {x y : α} : (if p then y else x) = (if ¬ p then x else y) := by by_cases h : p <;> simp [h]
theorem zvalid_eq (fu : Nat) (z : T_api_Zone) (hs : (z.fName.length : Int) < 9223372036854775808) (hf : z.fName.length < fu) : F_zones_Validate fu z = some (zfault z) := by
  unfold F_zones_Validate zfault
  rw [name_eq fu _ hs hf]
  by_cases hn : nameOk z.fName = false
  · rw [if_pos hn, Option.bind_some, bif_t (by rw [hn]; rfl)]; rfl
  · rw [if_neg hn, Option.bind_some, bif_f (by simp at hn; rw [hn]; rfl), zones_within_eq, Option.bind_some]
    by_cases c1 : -900 ≤ z.fStandard ∧ z.fStandard ≤ 900
    · rw [bif_f (by simp [c1]), if_neg (by simp [c1])]
      rw [w64_eq (x := z.fStandard + 1) (by omega) (by omega), w64_eq (x := z.fStandard + 180) (by omega) (by omega), zero4]
      rw [show decide (z.fEnd.fMonth = 0 ∧ z.fEnd.fWeek = 0 ∧ z.fEnd.fWeekday = 0 ∧ z.fEnd.fMinute = 0) = decide (endZero z) from rfl]
      simp only [fixed_eq, Option.bind_some, fault_eq, none_eq, zones_within_eq, turn_eq, bif_nd, bif_d, bif_ne, bif_eq]
      repeat' split
      all_goals first | rfl | contradiction | simp_all
    · rw [bif_t (by simp; omega), if_pos c1]; rfl
theorem rzfault_eq (fu : Nat) (z : T_api_Zone) (hs : (z.fName.length : Int) < 9223372036854775808) (hf : z.fName.length < fu) : F_R2_ZoneFault fu z = some (zfault z) := by
  unfold F_R2_ZoneFault zfault
  rw [rname_eq fu _ hs hf]
  by_cases hn : nameOk z.fName = false
  · rw [if_pos hn, Option.bind_some, bif_t (by rw [hn]; rfl)]; rfl
  · rw [if_neg hn, Option.bind_some, bif_f (by simp at hn; rw [hn]; rfl), r1_in_eq, Option.bind_some]
    by_cases c1 : -900 ≤ z.fStandard ∧ z.fStandard ≤ 900
    · rw [bif_f (by simp [c1]), if_neg (by simp [c1])]
      rw [zero4, zero4]
      rw [show decide (z.fEnd.fMonth = 0 ∧ z.fEnd.fWeek = 0 ∧ z.fEnd.fWeekday = 0 ∧ z.fEnd.fMinute = 0) = decide (endZero z) from rfl, show decide (z.fBegin.fMonth = 0 ∧ z.fBegin.fWeek = 0 ∧ z.fBegin.fWeekday = 0 ∧ z.fBegin.fMinute = 0) = decide (fixedZ z) from rfl]
      by_cases c2 : -900 ≤ z.fSummer ∧ z.fSummer ≤ 900
      · rw [w64_eq (x := z.fSummer - z.fStandard) (by omega) (by omega)]
        have ed : (1 ≤ z.fSummer - z.fStandard ∧ z.fSummer - z.fStandard ≤ 180) ↔ (z.fStandard + 1 ≤ z.fSummer ∧ z.fSummer ≤ z.fStandard + 180) := by omega
        simp only [Option.bind_some, at_eq, r1_in_eq, rturn_eq, bif_nd, bif_d, bif_ne, bif_eq, ed]
        repeat' split
        all_goals first | rfl | contradiction | simp_all
      · simp only [Option.bind_some, at_eq, r1_in_eq, bif_nd, bif_d, bif_ne, bif_eq]
        repeat' split
        all_goals first | rfl | contradiction | simp_all
    · rw [bif_t (by simp; omega), if_pos c1]; rfl
theorem zok (z : T_api_Zone) (h : (zfault z).fCode = 0) : zfault z = ⟨0, 0⟩ ∧ -900 ≤ z.fStandard ∧ z.fStandard ≤ 900 ∧ (fixedZ z ∨ ZT z) := by
  unfold zfault at h ⊢
  by_cases hn : nameOk z.fName = false
  · rw [if_pos hn] at h; simp at h
  rw [if_neg hn] at h ⊢
  by_cases c1 : ¬ (-900 ≤ z.fStandard ∧ z.fStandard ≤ 900)
  · rw [if_pos c1] at h; simp at h
  rw [if_neg c1] at h ⊢
  have c1' : -900 ≤ z.fStandard ∧ z.fStandard ≤ 900 := by omega
  by_cases c2 : fixedZ z
  · rw [if_pos c2] at h ⊢
    by_cases c3 : z.fSummer ≠ 0
    · rw [if_pos c3] at h; simp at h
    rw [if_neg c3] at h ⊢
    by_cases c4 : ¬ endZero z
    · rw [if_pos c4] at h; simp at h
    rw [if_neg c4]
    exact ⟨rfl, c1'.1, c1'.2, .inl c2⟩
  rw [if_neg c2] at h ⊢
  by_cases c3 : ¬ (-900 ≤ z.fSummer ∧ z.fSummer ≤ 900)
  · rw [if_pos c3] at h; simp at h
  rw [if_neg c3] at h ⊢
  by_cases c4 : ¬ (z.fStandard + 1 ≤ z.fSummer ∧ z.fSummer ≤ z.fStandard + 180)
  · rw [if_pos c4] at h; simp at h
  rw [if_neg c4] at h ⊢
  by_cases c5 : ¬ TuOk z.fBegin
  · rw [if_pos c5] at h; simp at h
  rw [if_neg c5] at h ⊢
  by_cases c6 : ¬ TuOk z.fEnd
  · rw [if_pos c6] at h; simp at h
  rw [if_neg c6] at h ⊢
  by_cases c7 : z.fBegin.fMonth = z.fEnd.fMonth
  · rw [if_pos c7] at h; simp at h
  rw [if_neg c7]
  exact ⟨rfl, c1'.1, c1'.2, .inr ⟨c1'.1, c1'.2, by omega, by omega, by omega, by omega, Classical.not_not.1 c5, Classical.not_not.1 c6, c7⟩⟩
end Go.Sym
