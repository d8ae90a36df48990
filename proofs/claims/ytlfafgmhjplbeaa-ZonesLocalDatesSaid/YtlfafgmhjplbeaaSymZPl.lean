/- ZonesLocalDates, plain. -/
import Derived.Test.YtlfafgmhjplbeaaSymZPk
namespace Go.Sym
open Cal Zn

theorem local_loop (fu : Nat) (hf : 5000 ≤ fu) (z : T_api_Zone) (hs : (z.fName.length : Int) < 9223372036854775808) (hf2 : z.fName.length < fu) (N S : Int) (X : List Int) (hX : X.length ≤ 2)
    (good : ∀ a ∈ X, ∃ o, OffR z a = (o, ⟨0, 0⟩) ∧ CivR a o = (civD N S o, ⟨0, 0⟩)) (srt : ∀ k : Nat, ∀ h : k + 1 < X.length, X[k] < X[k + 1]) (D : T_api_Date) (e : ∃ o, D = civD N S o) :
    ∀ (n k : Nat), k ≤ X.length → X.length - k < n → F_W2_ZonesLocalDates_p0 fu n k z D.fYear D.fMonth D.fDay D.fHour D.fMinute D.fSecond X = some true := by
  obtain ⟨o0, rfl⟩ := e
  intro n
  induction n with
  | zero => intro k h1 h2; omega
  | succ n ih =>
    intro k h1 h2
    rw [F_W2_ZonesLocalDates_p0, F_W2_ZonesLocalDates_b0]
    by_cases c : k < X.length
    · have hi : idx X (k : Int) = some X[k] := by unfold idx; rw [if_pos (by omega)]; simp [c]
      obtain ⟨o, g1, g2⟩ := good X[k] (List.getElem_mem c)
      have nx := ih (k + 1) (by omega) (by omega)
      rw [Int.natCast_add] at nx
      rw [bif_t (by simp; exact c), hi]
      simp only [Option.bind_some]
      rw [zOffset_eq fu (by omega) z hs hf2, Option.bind_some, g1, civil_eq fu (by omega), Option.bind_some, g2]
      rw [bif_f (by rfl), bif_f (by rfl), bif_f (by simp [civD]), w64_eq (x := (k : Int) + 1) (by omega) (by omega)]
      by_cases q : 0 < (k : Int)
      · obtain ⟨j, rfl⟩ : ∃ j, k = j + 1 := ⟨k - 1, by omega⟩
        have hj : idx X (w64 (((j + 1 : Nat) : Int) - 1)) = some X[j] := by
          rw [w64_eq (by omega) (by omega), show ((j + 1 : Nat) : Int) - 1 = (j : Int) by omega]
          unfold idx; rw [if_pos (by omega)]; simp [show j < X.length by omega]
        have := srt j c
        rw [bif_t (by simp <;> omega), hj, Option.bind_some, bif_f (by simp; omega)]
        exact nx
      · rw [bif_f (by simp; omega)]
        exact nx
    · rw [bif_f (by simp; omega)]
theorem law_local (fu : Nat) (hf : 5000 ≤ fu) (z : T_api_Zone) (hs : (z.fName.length : Int) < 9223372036854775808) (hf2 : z.fName.length < fu) (t : Int) : F_W2_ZonesLocalDates fu z t = some true := by
  unfold F_W2_ZonesLocalDates
  rw [ex_ok fu hf, Option.bind_some, bif_f (by rfl), zOffset_eq fu (by omega) z hs hf2, Option.bind_some, bif_ne]
  rcases offR_cases z t with ⟨c, e⟩ | ⟨ef, hz0, t1, t2, hin, y1, y2, eo⟩
  · rw [if_pos c, e]; rfl
  obtain ⟨_, s1, s2, hz⟩ := zok z hz0
  rw [if_neg (by rw [ef]; decide), civil_eq fu (by omega), Option.bind_some, bif_ne, r1_in_eq]
  have hO := offF_cases (z := z) (cyear z t) t
  rw [← eo] at hO
  have hob : -900 ≤ (OffR z t).1 ∧ (OffR z t).1 ≤ 900 := by
    rcases hO with q | ⟨q, q'⟩
    · omega
    · have := (hz.resolve_left q).m1; have := (hz.resolve_left q).m2; omega
  generalize hoff : (OffR z t).1 = o at *
  have hcr : CivR t o = if (t + 60 * o) / 86400 < -719162 ∨ 741807 < (t + 60 * o) / 86400 then (⟨0, 0, 0, 0, 0, 0, 0⟩, ⟨3, -3⟩) else (civD ((t + 60 * o) / 86400) ((t + 60 * o) % 86400) o, ⟨0, 0⟩) := by
    unfold CivR; rw [if_neg (by omega), if_neg (by omega)]
  by_cases c1 : (t + 60 * o) / 86400 < -719162 ∨ 741807 < (t + 60 * o) / 86400
  · rw [hcr, if_pos c1, if_pos (by decide)]
  rw [hcr, if_neg c1, if_neg (fun q => q rfl), Option.bind_some, bif_nd]
  have hc0 := civD_ok (n := (t + 60 * o) / 86400) (s := (t + 60 * o) % 86400) (by omega) (by omega) (by omega) (by omega) 0 (by omega) (by omega)
  generalize hN : (t + 60 * o) / 86400 = N at *
  generalize hS : (t + 60 * o) % 86400 = S at *
  have ed : T_api_Date.mk (civD N S o).fYear (civD N S o).fMonth (civD N S o).fDay (civD N S o).fHour (civD N S o).fMinute (civD N S o).fSecond 0 = civD N S 0 := rfl
  simp only [ed]
  by_cases c2 : ¬ (3 ≤ (civD N S o).fYear ∧ (civD N S o).fYear ≤ 3998)
  · rw [if_neg c2]
  replace c2 := Classical.not_not.1 c2
  rw [if_pos c2, zInstants_eq fu (by omega) z hs hf2, Option.bind_some, bif_ne]
  have eL : insD (civD N S 0) = t + 60 * o := by rw [hc0.2]; omega
  have c2' : 3 ≤ (civD N S 0).fYear ∧ (civD N S 0).fYear ≤ 3998 := c2
  rcases insR_cases z (civD N S 0) with ⟨q, _⟩ | ⟨ef2, _, _, _, _, _, el⟩
  · exact absurd (by unfold InsR; rw [if_neg (by simp [hz0]), if_neg (fun k => k hc0.1), if_neg (fun k => k rfl), if_neg (fun k => k c2')]) q
  rw [if_neg (by rw [ef2]; decide)]
  have hloc := fun o' ho' => off_local hz0 hc0.1 rfl c2'.1 c2'.2 o' ho'
  rw [eL] at hloc el
  generalize hY : (civD N S 0).fYear = Y at *
  have memX : ∀ a, a ∈ (InsR z (civD N S 0)).1 ↔ ∃ o', (o' = z.fStandard ∨ (¬ fixedZ z ∧ o' = z.fSummer)) ∧ offF z Y (t + 60 * o - 60 * o') = o' ∧ a = t + 60 * o - 60 * o' := by
    intro a
    rw [el]
    unfold pickR
    constructor
    · intro h
      rcases List.mem_append.1 h with h | h
      · split at h
        · cases h
        · rename_i hfx
          split at h
          · rename_i e; exact ⟨_, .inr ⟨hfx, rfl⟩, e, by simpa using h⟩
          · cases h
      · split at h
        · rename_i e; exact ⟨_, .inl rfl, e, by simpa using h⟩
        · cases h
    · rintro ⟨o', (rfl | ⟨hfx, rfl⟩), e, rfl⟩
      · rw [if_pos e]; simp
      · rw [if_neg hfx, if_pos e]; simp
  have hl : (InsR z (civD N S 0)).1.length ≤ 2 := by
    rw [el]; unfold pickR; split <;> split <;> (try split) <;> simp
  have hmem : t ∈ (InsR z (civD N S 0)).1 := by
    rw [memX]
    refine ⟨o, hO, ?_, by omega⟩
    have := hloc o hO
    rw [show t + 60 * o - 60 * o = t by omega] at this ⊢
    rw [this] at hoff; exact hoff
  rw [has_eq fu _ _ (by omega) (by omega), Option.bind_some, decide_eq_true hmem, bif_f (by rfl), bif_f (by simp; omega)]
  have hgood : ∀ a ∈ (InsR z (civD N S 0)).1, ∃ o', OffR z a = (o', ⟨0, 0⟩) ∧ CivR a o' = (civD N S o', ⟨0, 0⟩) := by
    intro a ha
    obtain ⟨o', ho', e, rfl⟩ := (memX a).1 ha
    have := hloc o' ho'
    rw [e] at this
    refine ⟨o', this, ?_⟩
    have hb' : -900 ≤ o' ∧ o' ≤ 900 := by
      rcases ho' with q | ⟨q, q'⟩
      · omega
      · have := (hz.resolve_left q).m1; have := (hz.resolve_left q).m2; omega
    unfold CivR
    rw [if_neg (by omega), if_neg (by omega), show t + 60 * o - 60 * o' + 60 * o' = t + 60 * o by omega, hN, hS, if_neg c1]
  have key : ∀ X : List Int, X = (if fixedZ z then [] else pickR z Y (t + 60 * o) z.fSummer) ++ pickR z Y (t + 60 * o) z.fStandard → X.length ≤ 2 → ∀ k : Nat, ∀ h : k + 1 < X.length, X[k] < X[k + 1] := by
    intro X el hl k h
    have hk : k = 0 := by omega
    subst hk
    by_cases hfx : fixedZ z
    · rw [if_pos hfx] at el
      have : X.length ≤ 1 := by rw [el]; unfold pickR; split <;> simp
      omega
    · rw [if_neg hfx] at el
      have d1 := (hz.resolve_left hfx).d1
      subst el
      by_cases q1 : offF z Y (t + 60 * o - 60 * z.fSummer) = z.fSummer
      · by_cases q2 : offF z Y (t + 60 * o - 60 * z.fStandard) = z.fStandard
        · simp [pickR, q1, q2]; omega
        · simp [pickR, q1, q2] at h
      · by_cases q2 : offF z Y (t + 60 * o - 60 * z.fStandard) = z.fStandard
        · simp [pickR, q1, q2] at h
        · simp [pickR, q1, q2] at h
  exact local_loop fu hf z hs hf2 N S _ hl hgood (key _ el hl) (civD N S o) ⟨o, rfl⟩ fu 0 (by omega) (by omega)
end Go.Sym
