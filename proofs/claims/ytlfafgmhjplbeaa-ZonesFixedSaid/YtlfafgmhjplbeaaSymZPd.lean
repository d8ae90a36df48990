/- The plain functions of the zones package and of its reference: turns and offsets. -/
import Derived.Test.YtlfafgmhjplbeaaSymZPc
namespace Go.Sym
open Cal Zn

def TuOk (u : T_api_Turn) : Prop := TOk u.fMonth u.fWeek u.fWeekday u.fMinute
instance (u : T_api_Turn) : Decidable (TuOk u) := by unfold TuOk; infer_instance
def tinsT (u : T_api_Turn) (y ah : Int) : Int := tins y u.fMonth u.fWeek u.fWeekday u.fMinute ah
theorem dok_mk {y m d : Int} (h : Vld y m d) : DOk ⟨y, m, d, 0, 0, 0, 0⟩ := by refine ⟨h, ?_, ?_, ?_, ?_, ?_, ?_, ?_, ?_⟩ <;> simp
theorem dok_mk' {y m d : Int} : DOk ⟨y, m, d, 0, 0, 0, 0⟩ ↔ Vld y m d := ⟨fun h => h.1, dok_mk⟩
theorem insD_mk (y m d : Int) : insD ⟨y, m, d, 0, 0, 0, 0⟩ = day y m d * 86400 := by simp [insD]
theorem instant_end (fu : Nat) (hf : 20 ≤ fu) {y m d : Int} (h : Vld y m d) (mi ah : Int) (h1 : -10000 ≤ mi) (h2 : mi ≤ 10000) (h3 : -10000 ≤ ah) (h4 : ah ≤ 10000) :
    ((F_dates_Instant fu ⟨y, m, d, 0, 0, 0, 0⟩).bind fun x => some (w64 (x.1 + (w64 (60 * (w64 (mi - ah))))))) = some (day y m d * 86400 + 60 * (mi - ah)) := by
  have hb := vld_day _ _ _ h
  rw [instant_eq fu hf, if_pos (dok_mk h), Option.bind_some, insD_mk]
  simp (discharger := omega) only [w64_eq]
theorem zinstant_eq (fu : Nat) (hf : 20 ≤ fu) (u : T_api_Turn) (hu : TuOk u) (y ah : Int) (hy1 : 1 ≤ y) (hy2 : y ≤ 4000) (h3 : -10000 ≤ ah) (h4 : ah ≤ 10000) :
    F_zones_instant fu u y ah = some (tinsT u y ah) := by
  obtain ⟨u1, u2, u3, u4, u5, u6, u7, u8⟩ := hu
  have hd := dim_bd y u.fMonth
  have htd := tday_bd y u.fMonth u.fWeek u.fWeekday u3 u4
  have hx := tx_bd y u.fMonth u.fWeekday
  unfold F_zones_instant
  have h1 : Vld y u.fMonth 1 := ⟨hy1, hy2, u1, u2, by omega, by omega⟩
  rw [weekday_eq fu hf _ (dok_mk h1), Option.bind_some]
  have hw := wday_bd (day y u.fMonth 1)
  have e : (w64 ((w64 (1 + (Int.tmod (w64 ((w64 (u.fWeekday - wday (day y u.fMonth 1))) + 7)) (7 : Int)))) + (w64 (7 * (w64 (u.fWeek - 1)))))) = 1 + tx y u.fMonth u.fWeekday + 7 * (u.fWeek - 1) := by
    unfold tx
    generalize wday (day y u.fMonth 1) = w at *
    rw [w64_eq (x := u.fWeekday - w) (by omega) (by omega), w64_eq (x := u.fWeekday - w + 7) (by omega) (by omega), tmod_p (by omega)]
    simp (discharger := omega) only [w64_eq]
  simp only [e]
  unfold tinsT tins
  by_cases c : u.fWeek = 5
  · rw [bif_t (by simp [c]), dvalid_eq, Option.bind_some, failed_eq, Option.bind_some]
    by_cases c2 : dim y u.fMonth < 29 + tx y u.fMonth u.fWeekday
    · have et : tday y u.fMonth u.fWeek u.fWeekday = 22 + tx y u.fMonth u.fWeekday := by unfold tday; rw [if_pos ⟨c, c2⟩]
      rw [if_neg (by rw [dok_mk']; intro hv; have := hv.2.2.2.2.2; omega), bif_t (by rfl)]
      unfold F_zones_instant_p0
      rw [w64_eq (x := 1 + tx y u.fMonth u.fWeekday + 7 * (u.fWeek - 1) - 7) (by omega) (by omega),
        show 1 + tx y u.fMonth u.fWeekday + 7 * (u.fWeek - 1) - 7 = 22 + tx y u.fMonth u.fWeekday by omega, ← et]
      exact instant_end fu hf ⟨hy1, hy2, u1, u2, htd.1, htd.2⟩ _ _ (by omega) (by omega) h3 h4
    · have et : tday y u.fMonth u.fWeek u.fWeekday = 1 + tx y u.fMonth u.fWeekday + 7 * (u.fWeek - 1) := by unfold tday; rw [if_neg (fun h => c2 h.2)]
      rw [← et]
      rw [if_pos (dok_mk ⟨hy1, hy2, u1, u2, htd.1, htd.2⟩), bif_f (by rfl)]
      exact instant_end fu hf ⟨hy1, hy2, u1, u2, htd.1, htd.2⟩ _ _ (by omega) (by omega) h3 h4
  · have et : tday y u.fMonth u.fWeek u.fWeekday = 1 + tx y u.fMonth u.fWeekday + 7 * (u.fWeek - 1) := by unfold tday; rw [if_neg (fun h => c h.1)]
    rw [bif_f (by simp [c]), ← et]
    exact instant_end fu hf ⟨hy1, hy2, u1, u2, htd.1, htd.2⟩ _ _ (by omega) (by omega) h3 h4

theorem turnday_loop (fu : Nat) (u : T_api_Turn) (hu : TuOk u) (y : Int) (hy1 : 1 ≤ y) (hy2 : y ≤ 4000) : ∀ (n : Nat) (c k : Int), 1 ≤ k → k ≤ dim y u.fMonth + 1 → dim y u.fMonth + 1 - k < n → 0 ≤ c → c < u.fWeek →
    k - 1 ≤ 7 * c + tx y u.fMonth u.fWeekday → (c = 0 ∨ 7 * (c - 1) + tx y u.fMonth u.fWeekday < k - 1) →
    F_R2_TurnDay_p0 fu n y c (if c = 0 then 0 else 1 + tx y u.fMonth u.fWeekday + 7 * (c - 1)) (wday (day y u.fMonth 1)) k u = some (tday y u.fMonth u.fWeek u.fWeekday) := by
  obtain ⟨u1, u2, u3, u4, u5, u6, u7, u8⟩ := hu
  have hd := dim_bd y u.fMonth
  have htd := tday_bd y u.fMonth u.fWeek u.fWeekday u3 u4
  have hx := tx_bd y u.fMonth u.fWeekday
  have hw := wday_bd (day y u.fMonth 1)
  have ex : tx y u.fMonth u.fWeekday = (u.fWeekday - wday (day y u.fMonth 1) + 7) % 7 := rfl
  have td : tday y u.fMonth u.fWeek u.fWeekday = if u.fWeek = 5 ∧ dim y u.fMonth < 29 + tx y u.fMonth u.fWeekday then 22 + tx y u.fMonth u.fWeekday else 1 + tx y u.fMonth u.fWeekday + 7 * (u.fWeek - 1) := rfl
  generalize tday y u.fMonth u.fWeek u.fWeekday = T at *
  generalize tx y u.fMonth u.fWeekday = X at *
  generalize hW : wday (day y u.fMonth 1) = W at *
  intro n
  induction n with
  | zero => intro c k h1 h2 h3; omega
  | succ n ih =>
    intro c k h1 h2 h3 h4 h5 h6 h7
    rw [F_R2_TurnDay_p0, F_R2_TurnDay_b0, rlength_eq _ _ (by omega) u1 u2, Option.bind_some]
    by_cases q : k ≤ dim y u.fMonth
    · rw [bif_t (by simp; exact q)]
      simp (discharger := omega) only [w64_eq]
      rw [tmod_p (by omega)]
      by_cases g : k - 1 = 7 * c + X
      · rw [bif_f (by simp; omega)]
        by_cases g2 : c + 1 = u.fWeek
        · rw [bif_t (by simp; exact g2)]
          congr 1
          rw [td, if_neg (by omega)]; omega
        · rw [bif_f (by simp; exact g2)]
          have := ih (c + 1) (k + 1) (by omega) (by omega) (by omega) (by omega) (by omega) (by omega) (by omega)
          rw [if_neg (by omega), show 1 + X + 7 * (c + 1 - 1) = k by omega] at this
          exact this
      · rw [bif_t (by simp; omega)]
        exact ih c (k + 1) (by omega) (by omega) (by omega) (by omega) (by omega) (by omega) (by omega)
    · rw [bif_f (by simp; omega)]
      have hc : c ≠ 0 := by omega
      rw [if_neg hc]
      congr 1
      have hc4 : c = 4 := by omega
      subst hc4
      rw [td, if_pos (by omega)]; omega
theorem turnday_eq (fu : Nat) (hf : 5000 ≤ fu) (u : T_api_Turn) (hu : TuOk u) (y : Int) (hy1 : 1 ≤ y) (hy2 : y ≤ 4000) : F_R2_TurnDay fu u y = some (tday y u.fMonth u.fWeek u.fWeekday) := by
  unfold F_R2_TurnDay
  have hd := dim_bd y u.fMonth
  have hx := tx_bd y u.fMonth u.fWeekday
  rw [rweekday_eq fu hf y _ _ ⟨hy1, hy2, hu.1, hu.2.1, by omega, by omega⟩, Option.bind_some]
  have := turnday_loop fu u hu y hy1 hy2 fu 0 1 (by omega) (by omega) (by omega) (by omega) (by have := hu.2.2.1; omega) (by omega) (.inl rfl)
  rw [if_pos rfl] at this
  exact this
theorem turnins_eq (fu : Nat) (hf : 5000 ≤ fu) (u : T_api_Turn) (hu : TuOk u) (y ah : Int) (hy1 : 1 ≤ y) (hy2 : y ≤ 4000) (h3 : -10000 ≤ ah) (h4 : ah ≤ 10000) :
    F_R2_TurnInstant fu u y ah = some (tinsT u y ah) := by
  unfold F_R2_TurnInstant
  obtain ⟨u1, u2, u3, u4, u5, u6, u7, u8⟩ := id hu
  have htd := tday_bd y u.fMonth u.fWeek u.fWeekday u3 u4
  have hv : Vld y u.fMonth (tday y u.fMonth u.fWeek u.fWeekday) := ⟨hy1, hy2, u1, u2, htd.1, htd.2⟩
  have hb := vld_day _ _ _ hv
  rw [turnday_eq fu hf u hu y hy1 hy2, Option.bind_some, secs_eq fu hf _ (dok_mk hv), Option.bind_some, insD_mk]
  simp (discharger := omega) only [w64_eq]
  rfl
end Go.Sym
