/- The plain functions of the zones package and of its reference: the offset at an instant. -/
import Derived.Test.YtlfafgmhjplbeaaSymZPg
namespace Go.Sym
open Cal Zn

noncomputable def offF (z : T_api_Zone) (Y t : Int) : Int := if fixedZ z then z.fStandard else offW z (Y - 1) (Y + 1) t
/-- the year by standard time -/
noncomputable def cyear (z : T_api_Zone) (t : Int) : Int := (civ ((t + 60 * z.fStandard) / 86400)).1
def inDays (z : T_api_Zone) (t : Int) : Prop := -719162 ≤ (t + 60 * z.fStandard) / 86400 ∧ (t + 60 * z.fStandard) / 86400 ≤ 741807
instance (z : T_api_Zone) (t : Int) : Decidable (inDays z t) := by unfold inDays; infer_instance
noncomputable def OffV (z : T_api_Zone) (t : Int) : Int × T_api_Fault :=
  if ¬ (-68719476736 ≤ t ∧ t ≤ 68719476736) then (0, ⟨3, -2⟩) else
  if ¬ inDays z t then (0, ⟨3, -8⟩) else if ¬ (2 ≤ cyear z t ∧ cyear z t ≤ 3999) then (0, ⟨3, -8⟩) else (offF z (cyear z t) t, ⟨0, 0⟩)
noncomputable def OffR (z : T_api_Zone) (t : Int) : Int × T_api_Fault := if (zfault z).fCode ≠ 0 then (0, zfault z) else OffV z t
theorem zoffsetF_eq (fu : Nat) (hf : 20 ≤ fu) (z : T_api_Zone) (h : fixedZ z ∨ ZT z) (t Y : Int) (h1 : 2 ≤ Y) (h2 : Y ≤ 3999) : F_zones_offset fu z t Y = some (offF z Y t) := by
  unfold offF
  by_cases c : fixedZ z
  · rw [if_pos c]; unfold F_zones_offset; rw [fixed_eq, Option.bind_some, bif_t (by simp [c])]
  · rw [if_neg c]; exact zoffset_eq fu hf z (h.resolve_left c) t Y h1 h2
theorem nearF_eq (fu : Nat) (hf : 5000 ≤ fu) (z : T_api_Zone) (h : fixedZ z ∨ ZT z) (t Y : Int) (h1 : 2 ≤ Y) (h2 : Y ≤ 3999) : F_R2_OffsetNear fu z t Y = some (offF z Y t) := by
  unfold offF
  by_cases c : fixedZ z
  · rw [if_pos c]; unfold F_R2_OffsetNear; rw [bif_t (by simp [c.1])]
  · rw [if_neg c]; exact near_eq fu hf z (h.resolve_left c) t Y h1 h2
theorem zOffset_eq (fu : Nat) (hf : 20 ≤ fu) (z : T_api_Zone) (hs : (z.fName.length : Int) < 9223372036854775808) (hf2 : z.fName.length < fu) (t : Int) : F_zones_Offset fu z t = some (OffR z t) := by
  unfold F_zones_Offset OffR
  rw [zvalid_eq fu z hs hf2, Option.bind_some, failed_eq, Option.bind_some, bif_ne]
  by_cases c : (zfault z).fCode ≠ 0
  · rw [if_pos c, if_pos c]
  · rw [if_neg c, if_neg c]
    obtain ⟨e, s1, s2, hz⟩ := zok z (Classical.not_not.1 c)
    unfold OffV
    rw [time_eq, Option.bind_some]
    by_cases c1 : -68719476736 ≤ t ∧ t ≤ 68719476736
    · rw [bif_f (by simp [c1]), if_neg (fun q => q c1), civil_eq fu hf, Option.bind_some]
      unfold CivR
      rw [if_neg (fun q => q c1), if_neg (fun q => q ⟨s1, s2⟩)]
      by_cases c2 : inDays z t
      · rw [if_neg (by unfold inDays at c2; omega), if_neg (fun q => q c2), failed_eq, Option.bind_some, bif_f (by rfl), zones_within_eq, Option.bind_some]
        have ey : (civD ((t + 60 * z.fStandard) / 86400) ((t + 60 * z.fStandard) % 86400) z.fStandard).fYear = cyear z t := rfl
        simp only [ey]
        by_cases c3 : 2 ≤ cyear z t ∧ cyear z t ≤ 3999
        · rw [bif_f (by simp [c3]), if_neg (fun q => q c3), zoffsetF_eq fu hf z hz _ _ c3.1 c3.2]; rfl
        · rw [bif_t (by simp; omega), if_pos c3]; rfl
      · rw [if_pos (by unfold inDays at c2; omega), if_pos c2]; rfl
    · rw [bif_t (by simp; omega), if_pos c1]; rfl
theorem offsetOf_eq (fu : Nat) (hf : 5000 ≤ fu) (z : T_api_Zone) (h : (zfault z).fCode = 0) (t : Int) : F_R2_OffsetOf fu z t = some (OffV z t) := by
  obtain ⟨e, s1, s2, hz⟩ := zok z h
  unfold F_R2_OffsetOf OffV
  rw [r1_in_eq, Option.bind_some]
  by_cases c1 : -68719476736 ≤ t ∧ t ≤ 68719476736
  · rw [bif_f (by simp [c1]), if_neg (fun q => q c1), dateof_eq fu hf _ _ c1.1 c1.2 s1 s2, Option.bind_some]
    unfold DatR
    by_cases c2 : inDays z t
    · rw [if_neg (by unfold inDays at c2; omega), if_neg (fun q => q c2), bif_f (by rfl), r1_in_eq, Option.bind_some]
      have ey : (civD ((t + 60 * z.fStandard) / 86400) ((t + 60 * z.fStandard) % 86400) z.fStandard).fYear = cyear z t := rfl
      simp only [ey]
      by_cases c3 : 2 ≤ cyear z t ∧ cyear z t ≤ 3999
      · rw [bif_f (by simp [c3]), if_neg (fun q => q c3), nearF_eq fu hf z hz _ _ c3.1 c3.2]; rfl
      · rw [bif_t (by simp; omega), if_pos c3]; rfl
    · rw [if_pos (by unfold inDays at c2; omega), if_pos c2]; rfl
  · rw [bif_t (by simp; omega), if_pos c1]; rfl
theorem feq (a b : T_api_Fault) : ((a.fCode == b.fCode) && ((a.fIndex == b.fIndex) && true)) = decide (a = b) := by
  rw [Bool.eq_iff_iff, decide_eq_true_iff]
  cases a; cases b; simp

/-- ZonesOffsetMatchesSpec, but for the example -/
theorem law_offset (fu : Nat) (hf : 5000 ≤ fu) (z : T_api_Zone) (hs : (z.fName.length : Int) < 9223372036854775808) (hf2 : z.fName.length < fu) (t : Int) (hex : F_W2_zonesExample fu = some true) :
    F_W2_ZonesOffsetMatchesSpec fu z t = some true := by
  unfold F_W2_ZonesOffsetMatchesSpec
  rw [hex, Option.bind_some, bif_f (by rfl), zvalid_eq fu z hs hf2, Option.bind_some, rzfault_eq fu z hs hf2, Option.bind_some, feq, bif_f (by simp), zOffset_eq fu (by omega) z hs hf2, Option.bind_some, Option.bind_some]
  simp only [feq]
  rw [bif_ne]
  unfold OffR
  by_cases c : (zfault z).fCode ≠ 0
  · rw [if_pos c, if_pos c, bif_t (by simp)]; rfl
  · rw [if_neg c, if_neg c, offsetOf_eq fu hf z (Classical.not_not.1 c), Option.bind_some, bif_t (by simp)]; simp
end Go.Sym
