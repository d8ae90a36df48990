/- ZonesInstantsMatchesSpec, plain. -/
import Derived.Test.YtlfafgmhjplbeaaSymZPi
namespace Go.Sym
open Cal Zn

theorem cyear_spec {z : T_api_Zone} {t : Int} (h : inDays z t) : YearAt z.fStandard t (cyear z t) ∧ 1 ≤ cyear z t ∧ cyear z t ≤ 4000 := by
  obtain ⟨hv, he⟩ := civ_vld _ h.1 h.2
  have a := day_year _ _ _ hv
  rw [he] at a
  unfold cyear YearAt jan
  refine ⟨⟨by omega, by omega⟩, hv.1, hv.2.1⟩
theorem insD_year {d : T_api_Date} (h : DOk d) (hz : d.fZone = 0) : jan d.fYear ≤ insD d ∧ insD d < jan (d.fYear + 1) := by
  have a := day_year _ _ _ h.1
  obtain ⟨_, _, _, _, _, _, _, _, _⟩ := h
  unfold insD jan; rw [hz]; omega
theorem jan_vals : jan 3 = -62072524800 ∧ jan 2 = -62104060800 ∧ jan 3999 = 64029052800 ∧ jan 4000 = 64060588800 := by
  refine ⟨?_, ?_, ?_, ?_⟩ <;> decide
theorem offW_eq {z : T_api_Zone} {a b c d t : Int} (h : SumW (Bz z) (Ez z) a b t ↔ SumW (Bz z) (Ez z) c d t) : offW z a b t = offW z c d t := by
  unfold offW
  by_cases q : SumW (Bz z) (Ez z) a b t
  · rw [if_pos q, if_pos (h.1 q)]
  · rw [if_neg q, if_neg (fun k => q (h.2 k))]
/-- the offset at an instant that the local date may stand for, by the turns around the date's own year -/
theorem off_local {z : T_api_Zone} (hz0 : (zfault z).fCode = 0) {d : T_api_Date} (h : DOk d) (hzn : d.fZone = 0) (hy1 : 3 ≤ d.fYear) (hy2 : d.fYear ≤ 3998) (o : Int)
    (ho : o = z.fStandard ∨ (¬ fixedZ z ∧ o = z.fSummer)) : OffR z (insD d - 60 * o) = (offF z d.fYear (insD d - 60 * o), ⟨0, 0⟩) := by
  obtain ⟨_, s1, s2, hz⟩ := zok z hz0
  obtain ⟨L1, L2⟩ := insD_year h hzn
  obtain ⟨v3, v2, v9, v0⟩ := jan_vals
  have j1 := jan_mono 3 d.fYear hy1
  have j2 := jan_mono (d.fYear + 1) 3999 (by omega)
  have ho' : z.fStandard ≤ o ∧ o ≤ z.fStandard + 180 := by
    rcases ho with rfl | ⟨q, rfl⟩
    · omega
    · have := (hz.resolve_left q).d1; have := (hz.resolve_left q).d2; omega
  have hin : inDays z (insD d - 60 * o) := by unfold inDays; omega
  obtain ⟨hY, c1, c2⟩ := cyear_spec hin
  have hcy : cyear z (insD d - 60 * o) = d.fYear ∨ cyear z (insD d - 60 * o) + 1 = d.fYear := by
    obtain ⟨y1, y2⟩ := hY
    generalize cyear z (insD d - 60 * o) = c at *
    rcases Int.lt_trichotomy (c + 1) d.fYear with q | q | q
    · have := jan_mono (c + 2) d.fYear (by omega)
      have := jan_step (c + 1)
      rw [show c + 1 + 1 = c + 2 by omega] at this
      omega
    · exact .inr q
    · by_cases q2 : c = d.fYear
      · exact .inl q2
      · have := jan_mono (d.fYear + 1) c (by omega); omega
  unfold OffR OffV
  rw [if_neg (by simp [hz0]), if_neg (by omega), if_neg (fun q => q hin), if_neg (by omega)]
  congr 1
  unfold offF
  by_cases hfx : fixedZ z
  · rw [if_pos hfx, if_pos hfx]
  · rw [if_neg hfx, if_neg hfx]
    rcases hcy with e | e
    · rw [e]
    · have hT := (hz.resolve_left hfx).turns
      have hl : jan (cyear z (insD d - 60 * o) + 1) ≤ insD d - 60 * o + 60 * z.fSummer := by
        rw [e]
        rcases ho with rfl | ⟨_, rfl⟩
        · have := (hz.resolve_left hfx).d1; omega
        · omega
      have w1 := sumW_year hT hY
      have w2 := sumW_late hT hY hl
      have := offW_eq (w1.trans w2.symm)
      rw [this, ← e]
      congr 1 <;> omega
open Classical in
noncomputable def pickR (z : T_api_Zone) (Y L o : Int) : List Int := if offF z Y (L - 60 * o) = o then [L - 60 * o] else []
theorem pick_local {z : T_api_Zone} (hz0 : (zfault z).fCode = 0) {d : T_api_Date} (h : DOk d) (hzn : d.fZone = 0) (hy1 : 3 ≤ d.fYear) (hy2 : d.fYear ≤ 3998) (o : Int)
    (ho : o = z.fStandard ∨ (¬ fixedZ z ∧ o = z.fSummer)) : pick z (insD d) o = pickR z d.fYear (insD d) o := by
  unfold pick pickR
  rw [off_local hz0 h hzn hy1 hy2 o ho]
  simp
theorem picks_sorted {z : T_api_Zone} (hz0 : (zfault z).fCode = 0) {d : T_api_Date} (h : DOk d) (hzn : d.fZone = 0) (hy1 : 3 ≤ d.fYear) (hy2 : d.fYear ≤ 3998) :
    sorted (picks z (insD d)) = (if fixedZ z then [] else pickR z d.fYear (insD d) z.fSummer) ++ pickR z d.fYear (insD d) z.fStandard := by
  obtain ⟨_, s1, s2, hz⟩ := zok z hz0
  unfold picks
  rw [pick_local hz0 h hzn hy1 hy2 _ (.inl rfl)]
  by_cases hfx : fixedZ z
  · rw [if_pos hfx, if_pos hfx, List.append_nil, List.nil_append]
    unfold pickR
    split
    · exact sorted_one _
    · exact sorted_nil
  · rw [if_neg hfx, if_neg hfx, pick_local hz0 h hzn hy1 hy2 _ (.inr ⟨hfx, rfl⟩)]
    have d1 := (hz.resolve_left hfx).d1
    unfold pickR
    split <;> split
    · exact sorted_two _ _ (by omega)
    · exact sorted_one _
    · exact sorted_one _
    · exact sorted_nil
theorem instantsOf_eq (fu : Nat) (hf : 5000 ≤ fu) {z : T_api_Zone} (hz0 : (zfault z).fCode = 0) {d : T_api_Date} (h : DOk d) (hzn : d.fZone = 0) (hy1 : 3 ≤ d.fYear) (hy2 : d.fYear ≤ 3998) :
    F_R2_InstantsOf fu z d = some ((if fixedZ z then [] else pickR z d.fYear (insD d) z.fSummer) ++ pickR z d.fYear (insD d) z.fStandard) := by
  obtain ⟨_, s1, s2, hz⟩ := zok z hz0
  have hb := insD_bd h
  unfold F_R2_InstantsOf F_R2_InstantsOf_p0
  have ed : T_api_Date.mk d.fYear d.fMonth d.fDay d.fHour d.fMinute d.fSecond 0 = d := by cases d; simp at hzn; subst hzn; rfl
  rw [ed, secs_eq fu hf d h]
  simp only [Option.bind_some]
  have nf := fun t => nearF_eq fu hf z hz t d.fYear (by omega) (by omega)
  rw [w64_eq (x := 60 * z.fStandard) (by omega) (by omega), w64_eq (x := insD d - 60 * z.fStandard) (by omega) (by omega)]
  by_cases hfx : fixedZ z
  · rw [if_pos hfx, bif_f (by have := hfx.1; simp; omega)]
    simp only [nf, Option.bind_some, bif_eq]
    by_cases q2 : offF z d.fYear (insD d - 60 * z.fStandard) = z.fStandard <;> simp [pickR, q2, rowMax]
  · rw [if_neg hfx]
    have hT := hz.resolve_left hfx
    have := hT.m1; have := hT.m2; have := hT.b.1
    rw [bif_t (by simp; omega), w64_eq (x := 60 * z.fSummer) (by omega) (by omega), w64_eq (x := insD d - 60 * z.fSummer) (by omega) (by omega)]
    simp only [nf, Option.bind_some, bif_eq]
    by_cases q1 : offF z d.fYear (insD d - 60 * z.fSummer) = z.fSummer <;> by_cases q2 : offF z d.fYear (insD d - 60 * z.fStandard) = z.fStandard <;> simp [pickR, q1, q2, rowMax]
theorem localFault_eq (d : T_api_Date) : F_R2_LocalFault d = some (if ¬ DOk d then ⟨3, -3⟩ else if d.fZone ≠ 0 then ⟨5, -9⟩ else if ¬ (3 ≤ d.fYear ∧ d.fYear ≤ 3998) then ⟨3, -9⟩ else ⟨0, 0⟩) := by
  unfold F_R2_LocalFault
  rw [dfault_eq, Option.bind_some]
  by_cases h : DOk d
  · rw [if_pos h, bif_f (by rfl), if_neg (fun q => q h), bif_ne, r1_in_eq, Option.bind_some, bif_nd]
    simp only [at_eq, Option.bind_some]
    by_cases c : d.fZone ≠ 0
    · rw [if_pos c, if_pos c]
    · rw [if_neg c, if_neg c]
      by_cases c2 : 3 ≤ d.fYear ∧ d.fYear ≤ 3998
      · rw [if_pos c2, if_neg (fun q => q c2)]
      · rw [if_neg c2, if_pos c2]
  · rw [if_neg h, bif_t (by rfl), if_pos h]
theorem law_instants (fu : Nat) (hf : 5000 ≤ fu) (z : T_api_Zone) (hs : (z.fName.length : Int) < 9223372036854775808) (hf2 : z.fName.length < fu) (d : T_api_Date) : F_W2_ZonesInstantsMatchesSpec fu z d = some true := by
  unfold F_W2_ZonesInstantsMatchesSpec F_W2_ZonesInstantsMatchesSpec_p0
  rw [ex_ok fu hf, Option.bind_some, bif_f (by rfl), zInstants_eq fu (by omega) z hs hf2, Option.bind_some, rzfault_eq fu z hs hf2, Option.bind_some, localFault_eq]
  simp only [feq, Option.bind_some, bif_eq, bif_ne]
  unfold InsR
  by_cases c : (zfault z).fCode = 0
  · rw [if_pos c, if_neg (c := (zfault z).fCode ≠ 0) (fun q => q c)]
    by_cases c1 : ¬ DOk d
    · rw [if_pos c1, if_pos c1, if_pos (by decide), bif_t (by simp)]; rfl
    · rw [if_neg c1, if_neg c1]
      by_cases c2 : d.fZone ≠ 0
      · rw [if_pos c2, if_pos c2, if_pos (by decide), bif_t (by simp)]; rfl
      · rw [if_neg c2, if_neg c2]
        by_cases c3 : ¬ (3 ≤ d.fYear ∧ d.fYear ≤ 3998)
        · rw [if_pos c3, if_pos c3, if_pos (by decide), bif_t (by simp)]; rfl
        · rw [if_neg c3, if_neg c3, if_neg (by decide), if_pos rfl]
          have c1' := Classical.not_not.1 c1
          have c2' := Classical.not_not.1 c2
          have c3' := Classical.not_not.1 c3
          rw [instantsOf_eq fu hf c c1' c2' c3'.1 c3'.2, Option.bind_some, picks_sorted c c1' c2' c3'.1 c3'.2]
          have hl : (((if fixedZ z then [] else pickR z d.fYear (insD d) z.fSummer) ++ pickR z d.fYear (insD d) z.fStandard).length) ≤ 2 := by
            unfold pickR; split <;> split <;> (try split) <;> simp
          generalize ((if fixedZ z then [] else pickR z d.fYear (insD d) z.fSummer) ++ pickR z d.fYear (insD d) z.fStandard) = X at hl
          show ((F_R1_Ints fu X X).bind fun x6 => some x6) = some true
          rw [ints_eq fu X X (by omega) (by omega), Option.bind_some, decide_eq_true rfl]
  · rw [if_neg c, if_pos c, if_pos c, bif_t (by simp)]; rfl
end Go.Sym
