/- ZonesTurns, plain. -/
import Derived.Test.YtlfafgmhjplbeaaSymZPk
namespace Go.Sym
open Cal Zn

noncomputable def offT (z : T_api_Zone) (x : Int) : Int := if fixedZ z then z.fStandard else offA z x
theorem offT_cases (z : T_api_Zone) (x : Int) : offT z x = z.fStandard ∨ offT z x = z.fSummer := by
  unfold offT offA; split
  · exact .inl rfl
  · split
    · exact .inr rfl
    · exact .inl rfl
theorem offR_mid {z : T_api_Zone} (hz0 : (zfault z).fCode = 0) {x : Int} (h1 : -60000000000 ≤ x) (h2 : x ≤ 60000000000) : OffR z x = (offT z x, ⟨0, 0⟩) := by
  obtain ⟨_, s1, s2, hz⟩ := zok z hz0
  have hin : inDays z x := by unfold inDays; omega
  obtain ⟨hY, c1, c2⟩ := cyear_spec hin
  obtain ⟨v3, v2, v9, v0⟩ := jan_vals
  have hy : 2 ≤ cyear z x ∧ cyear z x ≤ 3999 := by
    obtain ⟨y1, y2⟩ := hY
    constructor
    · by_cases q : 2 ≤ cyear z x
      · exact q
      · have := jan_mono (cyear z x + 1) 2 (by omega); omega
    · by_cases q : cyear z x ≤ 3999
      · exact q
      · have := jan_mono 4000 (cyear z x) (by omega); omega
  unfold OffR OffV
  rw [if_neg (by simp [hz0]), if_neg (by omega), if_neg (fun q => q hin), if_neg (by omega)]
  congr 1
  unfold offF offT
  by_cases hfx : fixedZ z
  · rw [if_pos hfx, if_pos hfx]
  · rw [if_neg hfx, if_neg hfx]
    have := sumW_year (hz.resolve_left hfx).turns hY
    unfold offW offA
    by_cases q : SumA (Bz z) (Ez z) x
    · rw [if_pos q, if_pos (this.2 q)]
    · rw [if_neg q, if_neg (fun k => q (this.1 k))]
/-- a turn of f in the window -/
def Win (f : Int → Int) (t u : Int) : Prop := ∃ y, t < f y ∧ f y ≤ u
open Classical in
noncomputable def cW (f : Int → Int) (t u : Int) : Int := if Win f t u then 1 else 0
theorem cW_bd (f : Int → Int) (t u : Int) : 0 ≤ cW f t u ∧ cW f t u ≤ 1 := by unfold cW; split <;> omega
theorem cW_mono (f : Int → Int) (t : Int) {u v : Int} (h : u ≤ v) : cW f t u ≤ cW f t v := by
  unfold cW
  by_cases q : Win f t u
  · obtain ⟨y, a, b⟩ := q
    rw [if_pos (show Win f t v from ⟨y, a, by omega⟩)]; split <;> omega
  · rw [if_neg q]; split <;> omega
theorem cW_new {f : Int → Int} (hstep : ∀ y, f (y + 1) = f y + 364 * 86400 ∨ f (y + 1) = f y + 371 * 86400) {t u v : Int} (h1 : t ≤ u) (h3 : v ≤ t + 350 * 86400) {y : Int} (a : u < f y) (b : f y ≤ v) : cW f t v = cW f t u + 1 := by
  unfold cW
  rw [if_pos (show Win f t v from ⟨y, by omega, b⟩), if_neg]
  · rfl
  · rintro ⟨y', a', b'⟩
    rcases Int.lt_trichotomy y y' with q | q | q
    · have := step_mono hstep q; omega
    · subst q; omega
    · have := step_mono hstep q; omega
theorem turn_count {z : T_api_Zone} (hz0 : (zfault z).fCode = 0) {t u v : Int} (h1 : t ≤ u) (h2 : u ≤ v) (h3 : v ≤ t + 350 * 86400) (hc : offT z v ≠ offT z u) :
    cW (Bz z) t u + cW (Ez z) t u + 1 ≤ cW (Bz z) t v + cW (Ez z) t v := by
  obtain ⟨_, s1, s2, hz⟩ := zok z hz0
  by_cases hfx : fixedZ z
  · exact absurd (by unfold offT; rw [if_pos hfx, if_pos hfx]) hc
  · have hT := (hz.resolve_left hfx).turns
    have mB := cW_mono (Bz z) t h2
    have mE := cW_mono (Ez z) t h2
    by_cases qB : ∃ y, u < Bz z y ∧ Bz z y ≤ v
    · obtain ⟨y, a, b⟩ := qB
      have := cW_new hT.bs h1 h3 a b; omega
    · by_cases qE : ∃ y, u < Ez z y ∧ Ez z y ≤ v
      · obtain ⟨y, a, b⟩ := qE
        have := cW_new hT.es h1 h3 a b; omega
      · have := sumA_same (B := Bz z) (E := Ez z) h2 (fun y q => qB ⟨y, q⟩) (fun y q => qE ⟨y, q⟩)
        refine absurd ?_ hc
        unfold offT offA
        rw [if_neg hfx, if_neg hfx]
        by_cases k : SumA (Bz z) (Ez z) u
        · rw [if_pos k, if_pos (this.1 k)]
        · rw [if_neg k, if_neg (fun q => k (this.2 q))]
theorem turns_loop (fu : Nat) (hf : 20 ≤ fu) (z : T_api_Zone) (hs : (z.fName.length : Int) < 9223372036854775808) (hf2 : z.fName.length < fu) (hz0 : (zfault z).fCode = 0) (t : Int) (h1 : -20000000000 ≤ t) (h2 : t ≤ 20000000000) :
    ∀ (n i : Nat) (cnt last : Int), i ≤ 351 → 351 - i < n → 0 ≤ cnt → cnt ≤ cW (Bz z) t (t + 86400 * ((i : Int) - 1)) + cW (Ez z) t (t + 86400 * ((i : Int) - 1)) → (0 < i → last = offT z (t + 86400 * ((i : Int) - 1))) →
    F_W2_ZonesTurns_p0 fu n t cnt last i z = some true := by
  intro n
  induction n with
  | zero => intro i cnt last a b; omega
  | succ n ih =>
    intro i cnt last a b c1 c2 c3
    rw [F_W2_ZonesTurns_p0, F_W2_ZonesTurns_b0]
    have bB := cW_bd (Bz z) t (t + 86400 * ((i : Int) - 1))
    have bE := cW_bd (Ez z) t (t + 86400 * ((i : Int) - 1))
    by_cases q : (i : Int) ≤ 350
    · rw [bif_t (by simp <;> omega), w64_eq (x := 86400 * (i : Int)) (by omega) (by omega), w64_eq (x := t + 86400 * (i : Int)) (by omega) (by omega), zOffset_eq fu hf z hs hf2, Option.bind_some, offR_mid hz0 (by omega) (by omega)]
      rw [bif_f (by rfl), w64_eq (x := cnt + 1) (by omega) (by omega), w64_eq (x := (i : Int) + 1) (by omega) (by omega)]
      have mB := cW_mono (Bz z) t (show t + 86400 * ((i : Int) - 1) ≤ t + 86400 * (i : Int) by omega)
      have mE := cW_mono (Ez z) t (show t + 86400 * ((i : Int) - 1) ≤ t + 86400 * (i : Int) by omega)
      have nx := fun cnt' hc0 hc => ih (i + 1) cnt' (offT z (t + 86400 * (i : Int))) (by omega) (by omega) hc0 hc
      have ei : (((i + 1 : Nat) : Int) - 1) = (i : Int) := by omega
      rw [ei, Int.natCast_add] at nx
      have same := nx cnt c1 (by omega) (fun _ => rfl)
      have body : (bif decide ((0 : Int) < (i : Int)) then bif offT z (t + 86400 * (i : Int)) != last then F_W2_ZonesTurns_p0 fu n t (cnt + 1) (offT z (t + 86400 * (i : Int))) ((i : Int) + 1) z
          else F_W2_ZonesTurns_p0 fu n t cnt (offT z (t + 86400 * (i : Int))) ((i : Int) + 1) z else F_W2_ZonesTurns_p0 fu n t cnt (offT z (t + 86400 * (i : Int))) ((i : Int) + 1) z) = some true := by
        by_cases g : (0 : Int) < (i : Int)
        · rw [bif_t (by simp <;> omega), bif_ne]
          by_cases g2 : offT z (t + 86400 * (i : Int)) ≠ last
          · rw [if_pos g2]
            have hl := c3 (by omega)
            rw [hl] at g2
            have tc := turn_count hz0 (t := t) (u := t + 86400 * ((i : Int) - 1)) (v := t + 86400 * (i : Int)) (by omega) (by omega) (by omega) g2
            exact nx (cnt + 1) (by omega) (by omega) (fun _ => rfl)
          · rw [if_neg g2]; exact same
        · rw [bif_f (by simp <;> omega)]; exact same
      simp only [bif_ne (a := offT z (t + 86400 * (i : Int))) (b := z.fStandard), bif_ne (a := offT z (t + 86400 * (i : Int))) (b := z.fSummer)]
      by_cases g : offT z (t + 86400 * (i : Int)) ≠ z.fStandard
      · rw [if_pos g, if_neg (fun k => k ((offT_cases z _).resolve_left g))]; exact body
      · rw [if_neg g]; exact body
    · rw [bif_f (by simp <;> omega)]
      rw [decide_eq_true (by omega)]
theorem law_turns (fu : Nat) (hf : 5000 ≤ fu) (z : T_api_Zone) (hs : (z.fName.length : Int) < 9223372036854775808) (hf2 : z.fName.length < fu) (t : Int) : F_W2_ZonesTurns fu z t = some true := by
  unfold F_W2_ZonesTurns
  rw [ex_ok fu hf, Option.bind_some, bif_f (by rfl), zvalid_eq fu z hs hf2, Option.bind_some, bif_ne, r1_in_eq, Option.bind_some, bif_nd]
  by_cases c : (zfault z).fCode ≠ 0
  · rw [if_pos c]
  · rw [if_neg c]
    by_cases c2 : -20000000000 ≤ t ∧ t ≤ 20000000000
    · rw [if_pos c2]
      have a := cW_bd (Bz z) t (t + 86400 * (((0 : Nat) : Int) - 1)); have b := cW_bd (Ez z) t (t + 86400 * (((0 : Nat) : Int) - 1))
      exact turns_loop fu (by omega) z hs hf2 (Classical.not_not.1 c) t c2.1 c2.2 fu 0 0 0 (by omega) (by omega) (by omega) (by omega) (fun q => absurd q (by omega))
    · rw [if_neg c2]
end Go.Sym
