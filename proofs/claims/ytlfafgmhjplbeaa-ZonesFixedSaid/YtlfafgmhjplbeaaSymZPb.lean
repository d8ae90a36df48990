/- The plain functions of the dates package: the civil date of an instant. -/
import Derived.Test.YtlfafgmhjplbeaaSymZPa
namespace Go.Sym
open Cal Zn

theorem tdiv_n {x k : Int} (h : x < 0) : Int.tdiv x k = -((-x) / k) := by
  have := Int.neg_tdiv (a := -x) (b := k)
  rw [Int.neg_neg] at this
  rw [this, Int.tdiv_eq_ediv_of_nonneg (by omega)]
theorem tmod_n {x k : Int} (h : x < 0) : Int.tmod x k = -((-x) % k) := by
  have := Int.neg_tmod (a := -x) (b := k)
  rw [Int.neg_neg] at this
  rw [this, Int.tmod_eq_emod_of_nonneg (by omega)]
theorem tdiv_p {x k : Int} (h : 0 ≤ x) : Int.tdiv x k = x / k := Int.tdiv_eq_ediv_of_nonneg h
theorem tmod_p {x k : Int} (h : 0 ≤ x) : Int.tmod x k = x % k := Int.tmod_eq_emod_of_nonneg h

@[simp] theorem none_eq : F_basic_None = some ⟨0, 0⟩ := rfl
@[simp] theorem fault_eq (a b : Int) : F_basic_Fault a b = some ⟨a, b⟩ := rfl
@[simp] theorem at_eq (a b : Int) : F_R1_At a b = some ⟨a, b⟩ := rfl
@[simp] theorem failed_eq (f : T_api_Fault) : F_basic_Failed f = some (f.fCode != 0) := rfl
@[simp] theorem time_eq (t : Int) : F_basic_Time t = some (decide (-68719476736 ≤ t ∧ t ≤ 68719476736)) := by
  unfold F_basic_Time; by_cases h : -68719476736 ≤ t <;> simp [h]

/-- the civil date of a day and a second -/
noncomputable def civD (n s z : Int) : T_api_Date := ⟨(civ n).1, (civ n).2.1, (civ n).2.2, s / 3600, s / 60 % 60, s % 60, z⟩

theorem year_le {n y m d k : Int} (h : Vld y m d) (e : day y m d = n) : day k 1 1 ≤ n ↔ k ≤ y := by
  have a := day_year y m d h
  have : day k 1 1 = bef k - 719162 := by unfold day; rw [cum_one]; omega
  rw [this]
  constructor
  · intro hk
    by_cases c : k ≤ y
    · exact c
    · have := bef_mono (y + 1) k (by omega); omega
  · intro hk
    have := bef_mono k y hk; omega
theorem month_le {n y m d k : Int} (h : Vld y m d) (e : day y m d = n) (k1 : 1 ≤ k) (k2 : k ≤ 12) : day y k 1 ≤ n ↔ k ≤ m := by
  have a := day_month y m d h
  have : day y k 1 = bef y - 719162 + cum y k := by unfold day; omega
  rw [this]
  constructor
  · intro hk
    by_cases c : k ≤ m
    · exact c
    · have := cum_mono y (m + 1) k (by have := h.2.2.1; omega) (by omega) (by omega); omega
  · intro hk
    have := cum_mono y k m k1 hk (by have := h.2.2.2.1; omega); omega

theorem civil_month (fu : Nat) (hf : 20 ≤ fu) {N y m d : Int} (s z : Int) (h : Vld y m d) (e : day y m d = N) (hs : 0 ≤ s) (hs2 : s < 86400) : ∀ (n : Nat) (k : Int), m ≤ k → k ≤ 12 → k - m < n →
    F_dates_Civil_p2 fu n z N s y k = some (⟨y, m, d, s / 3600, s / 60 % 60, s % 60, z⟩, ⟨0, 0⟩) := by
  obtain ⟨v1, v2, v3, v4, v5, v6⟩ := h
  have hd := dim_bd y m
  have hN := vld_day y m d ⟨v1, v2, v3, v4, v5, v6⟩
  intro n
  induction n with
  | zero => intro k h1 h2 h3; omega
  | succ n ih =>
    intro k h1 h2 h3
    rw [F_dates_Civil_p2, F_dates_Civil_b2, day_eq fu hf y k 1 v1 (by omega) (by omega) h2 (by omega) (by omega), Option.bind_some]
    have hl := month_le (k := k) ⟨v1, v2, v3, v4, v5, v6⟩ e (by omega) h2
    by_cases c : k ≤ m
    · have : k = m := by omega
      subst this
      have := day_one y k d
      have b := day_bd y k 1 v1 (by omega) v3 (by omega) (by omega) (by omega)
      rw [bif_f (by simp; exact hl.2 c), Option.bind_some, none_eq, Option.bind_some]
      simp (discharger := omega) only [w64_eq, tdiv_p, tmod_p]
      have e1 : N - day y k 1 + 1 = d := by omega
      rw [e1]
    · rw [bif_t (by simp; have := mt hl.1 c; omega), w64_eq (by omega) (by omega), ih _ (by omega) (by omega) (by omega)]
theorem civil_year (fu : Nat) (hf : 20 ≤ fu) {N y m d : Int} (s z : Int) (h : Vld y m d) (e : day y m d = N) (hs : 0 ≤ s) (hs2 : s < 86400) : ∀ (j n : Nat) (k : Int), j ≤ 12 → 1 ≤ k → k ≤ y → y < k + 2 ^ j → j < n →
    F_dates_Civil_p0 fu n z N s k ((2 ^ j / 2 : Nat) : Int) = some (⟨y, m, d, s / 3600, s / 60 % 60, s % 60, z⟩, ⟨0, 0⟩) := by
  have h' := h
  obtain ⟨v1, v2, v3, v4, v5, v6⟩ := h'
  intro j
  induction j with
  | zero =>
    intro n k hj h1 h2 h3 h4
    obtain ⟨n, rfl⟩ : ∃ q, n = q + 1 := ⟨n - 1, by omega⟩
    have : k = y := by simp at h3; omega
    subst this
    rw [F_dates_Civil_p0, F_dates_Civil_b0, bif_f (by simp), civil_month fu hf s z h e hs hs2 fu 12 v4 (by omega) (by omega)]
  | succ j ih =>
    intro n k hj h1 h2 h3 h4
    obtain ⟨n, rfl⟩ : ∃ q, n = q + 1 := ⟨n - 1, by omega⟩
    have e2 : (2 ^ (j + 1) / 2 : Nat) = 2 ^ j := by rw [Nat.pow_succ]; omega
    have e3 : (2 : Int) ^ (j + 1) = 2 * ((2 ^ j : Nat) : Int) := by rw [Int.pow_succ]; simp; omega
    rw [e3] at h3
    have e4 : ((2 : Int) ^ j) = ((2 ^ j : Nat) : Int) := by simp
    have ih' := ih n
    rw [e4] at ih'
    have p1 : 0 < 2 ^ j := Nat.pow_pos (by omega)
    have p2 : 2 ^ j ≤ 2 ^ 11 := Nat.pow_le_pow_right (by omega) (by omega)
    have ed : ((2 ^ j / 2 : Nat) : Int) = ((2 ^ j : Nat) : Int) / 2 := by omega
    rw [e2]
    rw [ed] at ih'
    generalize 2 ^ j = P at *
    rw [F_dates_Civil_p0, F_dates_Civil_b0, bif_t (by simp; omega)]
    simp (discharger := omega) only [w64_eq, tdiv_p]
    by_cases c : k + (P : Int) ≤ 4000
    · rw [bif_t (by simp; exact c), day_eq fu hf _ 1 1 (by omega) (by omega) (by omega) (by omega) (by omega) (by omega), Option.bind_some]
      have hl := year_le (k := k + (P : Int)) h e
      by_cases c2 : k + (P : Int) ≤ y
      · rw [bif_t (by simp; exact hl.2 c2)]
        try rw [F_dates_Civil_p1]
        simp (discharger := omega) only [w64_eq, tdiv_p]
        exact ih' _ (by omega) (by omega) c2 (by omega) (by omega)
      · rw [bif_f (by simp; have := mt hl.1 c2; omega)]
        exact ih' _ (by omega) (by omega) h2 (by omega) (by omega)
    · rw [bif_f (by simp; omega)]
      exact ih' _ (by omega) (by omega) h2 (by omega) (by omega)
/-- what dates.Civil hands back -/
noncomputable def CivR (t z : Int) : T_api_Date × T_api_Fault :=
  if ¬ (-68719476736 ≤ t ∧ t ≤ 68719476736) then (⟨0, 0, 0, 0, 0, 0, 0⟩, ⟨3, -2⟩) else
  if ¬ (-900 ≤ z ∧ z ≤ 900) then (⟨0, 0, 0, 0, 0, 0, 0⟩, ⟨3, -4⟩) else
  if (t + 60 * z) / 86400 < -719162 ∨ 741807 < (t + 60 * z) / 86400 then (⟨0, 0, 0, 0, 0, 0, 0⟩, ⟨3, -3⟩) else
  (civD ((t + 60 * z) / 86400) ((t + 60 * z) % 86400) z, ⟨0, 0⟩)
theorem civil_eq (fu : Nat) (hf : 20 ≤ fu) (t z : Int) : F_dates_Civil fu t z = some (CivR t z) := by
  unfold F_dates_Civil CivR
  rw [time_eq, Option.bind_some]
  by_cases c1 : -68719476736 ≤ t ∧ t ≤ 68719476736
  · rw [bif_f (by simp [c1]), if_neg (by simp [c1]), dates_within_eq, Option.bind_some]
    by_cases c2 : -900 ≤ z ∧ z ≤ 900
    · rw [bif_f (by simp [c2]), if_neg (by simp [c2])]
      simp (discharger := omega) only [w64_eq]
      rw [split_eq _ _ (by omega) (by omega) (by omega) (by omega), Option.bind_some, day_eq fu hf 1 1 1 (by omega) (by omega) (by omega) (by omega) (by omega) (by omega), Option.bind_some, day_min]
      generalize hN : (t + 60 * z) / 86400 = N
      generalize hS : (t + 60 * z) % 86400 = S
      by_cases c3 : N < -719162
      · rw [bif_t (by simp; exact c3), if_pos (.inl c3)]; rfl
      · rw [bif_f (by simp; omega), day_eq fu hf 4000 12 31 (by omega) (by omega) (by omega) (by omega) (by omega) (by omega), Option.bind_some, day_max]
        by_cases c4 : 741807 < N
        · rw [bif_t (by simp; exact c4), if_pos (.inr c4)]; rfl
        · rw [bif_f (by simp; omega), if_neg (by omega)]
          obtain ⟨hv, he⟩ := civ_vld N (by omega) (by omega)
          have := civil_year fu hf S z hv he (by omega) (by omega) 12 fu 1 (by omega) (by omega) hv.1 (by have := hv.2.1; omega) (by omega)
          exact this
    · rw [bif_t (by simp; omega), if_pos c2]; rfl
  · rw [bif_t (by simp; omega), if_pos c1]; rfl
end Go.Sym
