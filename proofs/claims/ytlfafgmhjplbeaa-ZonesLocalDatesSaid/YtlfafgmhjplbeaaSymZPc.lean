/- The plain functions: the reference's date of an instant; validation; weekdays and instants. -/
import Derived.Test.YtlfafgmhjplbeaaSymZPb
namespace Go.Sym
open Cal Zn

theorem dof_month (fu : Nat) {N y m d : Int} (s z : Int) (h : Vld y m d) (e : day y m d = N) (hs : 0 ≤ s) (hs2 : s < 86400) : ∀ (n : Nat) (k : Int), 1 ≤ k → k ≤ m → m - k < n →
    F_R1_DateOf_p3 fu n z s (N + 719162 - bef y - cum y k) y k = some (⟨y, m, d, s / 3600, s / 60 % 60, s % 60, z⟩, true) := by
  have a := day_month y m d h
  have hN := vld_day y m d h
  obtain ⟨v1, v2, v3, v4, v5, v6⟩ := h
  have hb := bef_bd y v1 (by omega)
  rw [e] at a
  intro n
  induction n with
  | zero => intro k h1 h2 h3; omega
  | succ n ih =>
    intro k h1 h2 h3
    have hc := cum_succ y k h1 (by omega)
    have hd := dim_bd y k
    have hcb := cum_bd y k h1 (by omega)
    rw [F_R1_DateOf_p3, F_R1_DateOf_b3, rlength_eq y k (by omega) h1 (by omega), Option.bind_some]
    by_cases c : k < m
    · have := cum_mono y (k + 1) m (by omega) (by omega) (by omega)
      rw [bif_t (by simp; omega), Option.bind_some, w64_eq (by omega) (by omega), w64_eq (by omega) (by omega)]
      have e2 : N + 719162 - bef y - cum y k - dim y k = N + 719162 - bef y - cum y (k + 1) := by omega
      rw [e2, ih _ (by omega) (by omega) (by omega)]
    · have : k = m := by omega
      subst this
      rw [bif_f (by simp; omega)]
      simp (discharger := omega) only [w64_eq, tdiv_p, tmod_p]
      have e1 : N + 719162 - bef y - cum y k + 1 = d := by unfold day at e; omega
      rw [e1]
theorem dof_year (fu : Nat) (hf : 5000 ≤ fu) {N y m d : Int} (s z : Int) (h : Vld y m d) (e : day y m d = N) (hs : 0 ≤ s) (hs2 : s < 86400) : ∀ (n : Nat) (k : Int), 1 ≤ k → k ≤ y → y - k < n →
    F_R1_DateOf_p2 fu n z s N k = some (⟨y, m, d, s / 3600, s / 60 % 60, s % 60, z⟩, true) := by
  have a := day_year y m d h
  have hN := vld_day y m d h
  have hm := dof_month fu s z h e hs hs2 fu 1 (by omega) h.2.2.1 (by have := h.2.2.2.1; omega)
  obtain ⟨v1, v2, v3, v4, v5, v6⟩ := h
  have hb := bef_bd y v1 (by omega)
  rw [e] at a
  rw [cum_one] at hm
  intro n
  induction n with
  | zero => intro k h1 h2 h3; omega
  | succ n ih =>
    intro k h1 h2 h3
    rw [F_R1_DateOf_p2, F_R1_DateOf_b2, w64_eq (by omega) (by omega), ystart_eq fu hf _ (by omega) (by omega), Option.bind_some]
    by_cases c : k < y
    · have := bef_mono (k + 1) y (by omega)
      rw [bif_t (by simp; omega), ih _ (by omega) (by omega) (by omega)]
    · have : k = y := by omega
      subst this
      rw [bif_f (by simp; omega), ystart_eq fu hf _ (by omega) (by omega), Option.bind_some, w64_eq (by omega) (by omega)]
      have e2 : N - (bef k - 719162) = N + 719162 - bef k - 0 := by omega
      rw [e2, hm]
noncomputable def DatR (t z : Int) : T_api_Date × Bool :=
  if (t + 60 * z) / 86400 < -719162 ∨ 741807 < (t + 60 * z) / 86400 then (⟨0, 0, 0, 0, 0, 0, 0⟩, false) else
  (civD ((t + 60 * z) / 86400) ((t + 60 * z) % 86400) z, true)
/-- the year that the reference begins with -/
theorem guess_n {N y m d : Int} (h : Vld y m d) (e : day y m d = N) (hN : N < 0) : 1970 + -(-N / 365) - 2 ≤ y := by
  have a := day_year y m d h
  rw [e] at a
  by_cases c : 1970 + -(-N / 365) - 2 ≤ y
  · exact c
  · have := bef_mono (y + 1) (1970 + -(-N / 365) - 2) (by omega)
    unfold bef at *; omega
theorem bef_guess (k : Nat) : bef (1970 + k) ≤ 719162 + 366 * k := by
  induction k with
  | zero => decide
  | succ k ih =>
    have a := bef_succ (1970 + k); have b := lp_01 (1970 + k)
    rw [show (1970 : Int) + ((k + 1 : Nat) : Int) = 1970 + k + 1 by omega]; omega
theorem guess_p {N y m d : Int} (h : Vld y m d) (e : day y m d = N) (hN : 0 ≤ N) : 1970 + N / 366 ≤ y := by
  have a := day_year y m d h
  rw [e] at a
  by_cases c : 1970 + N / 366 ≤ y
  · exact c
  · have := bef_mono (y + 1) (1970 + N / 366) (by omega)
    have g := bef_guess (N / 366).toNat
    rw [Int.toNat_of_nonneg (by omega)] at g
    omega
theorem dof_tail (fu : Nat) (hf : 5000 ≤ fu) (N s z : Int) (hs : 0 ≤ s) (hs2 : s < 86400) (hN1 : -719162 ≤ N) (hN2 : N ≤ 741807) :
    (N < 0 → F_R1_DateOf_p1 fu z s N (w64 ((w64 (1970 + (w64 (Int.tdiv N 365)))) - 2)) = some (civD N s z, true)) ∧
    (0 ≤ N → F_R1_DateOf_p2 fu fu z s N (w64 (1970 + (w64 (Int.tdiv N 366)))) = some (civD N s z, true)) := by
  obtain ⟨hv, he⟩ := civ_vld N hN1 hN2
  have hy := hv.2.1
  constructor
  · intro h
    have g := guess_n hv he h
    rw [tdiv_n h]
    simp (discharger := omega) only [w64_eq]
    unfold F_R1_DateOf_p1
    by_cases c : 1970 + -(-N / 365) - 2 < 1
    · rw [bif_t (by simp; exact c), dof_year fu hf s z hv he hs hs2 fu 1 (by omega) hv.1 (by omega)]; rfl
    · rw [bif_f (by simp; omega), dof_year fu hf s z hv he hs hs2 fu _ (by omega) g (by omega)]; rfl
  · intro h
    have g := guess_p hv he h
    rw [tdiv_p h]
    simp (discharger := omega) only [w64_eq]
    rw [dof_year fu hf s z hv he hs hs2 fu _ (by omega) g (by omega)]; rfl
theorem dof_p0 (fu : Nat) (hf : 5000 ≤ fu) (x s z : Int) (h1 : -100000000000 ≤ x) (h2 : x ≤ 100000000000) (e : x % 86400 = s) (hn : x < 0) :
    F_R1_DateOf_p0 fu z x s = some (if x / 86400 < -719162 ∨ 741807 < x / 86400 then (⟨0, 0, 0, 0, 0, 0, 0⟩, false) else (civD (x / 86400) s z, true)) := by
  unfold F_R1_DateOf_p0
  have e1 : w64 (Int.tdiv (w64 (x - s)) 86400) = x / 86400 := by
    rw [w64_eq (x := x - s) (by omega) (by omega), tdiv_n (by omega), w64_eq (by omega) (by omega)]; omega
  rw [e1, dnum_eq fu hf 1 1 1 (by omega) (by omega) (by omega) (by omega) (by omega) (by omega), Option.bind_some, day_min]
  have ht := dof_tail fu hf (x / 86400) s z (by omega) (by omega)
  generalize x / 86400 = N at *
  by_cases c3 : N < -719162
  · rw [bif_t (by simp; exact c3), if_pos (.inl c3)]
  · rw [bif_f (by simp; omega), dnum_eq fu hf 4000 12 31 (by omega) (by omega) (by omega) (by omega) (by omega) (by omega), Option.bind_some, day_max]
    by_cases c4 : 741807 < N
    · rw [bif_t (by simp; exact c4), if_pos (.inr c4)]
    · obtain ⟨t1, t2⟩ := ht (by omega) (by omega)
      rw [bif_f (by simp; omega), if_neg (by omega)]
      by_cases c5 : N < 0
      · rw [bif_t (by simp; exact c5), t1 c5]
      · rw [bif_f (by simp; omega), bif_f (by rw [tdiv_p (by omega)]; simp (discharger := omega) only [w64_eq]; simp; omega), t2 (by omega)]
theorem dateof_eq (fu : Nat) (hf : 5000 ≤ fu) (t z : Int) (h1 : -68719476736 ≤ t) (h2 : t ≤ 68719476736) (z1 : -900 ≤ z) (z2 : z ≤ 900) : F_R1_DateOf fu t z = some (DatR t z) := by
  unfold F_R1_DateOf DatR
  simp (discharger := omega) only [w64_eq (x := 60 * z), w64_eq (x := t + 60 * z)]
  generalize hx : t + 60 * z = x
  have hx1 : -100000000000 ≤ x := by omega
  have hx2 : x ≤ 100000000000 := by omega
  clear hx
  by_cases c : x < 0 ∧ x % 86400 ≠ 0
  · rw [tmod_n c.1, bif_t (by simp; omega), w64_eq (by omega) (by omega), show -(-x % 86400) + 86400 = x % 86400 by omega, dof_p0 fu hf x _ z hx1 hx2 rfl c.1]
  · have em : Int.tmod x 86400 = x % 86400 := by
      by_cases c0 : x < 0
      · rw [tmod_n c0]; omega
      · exact tmod_p (by omega)
    rw [em, bif_f (by simp; omega)]
    have e1 : w64 (Int.tdiv (w64 (x - x % 86400)) 86400) = x / 86400 := by
      by_cases c0 : x < 0
      · rw [w64_eq (x := x - x % 86400) (by omega) (by omega), tdiv_n (by omega), w64_eq (by omega) (by omega)]; omega
      · rw [w64_eq (x := x - x % 86400) (by omega) (by omega), tdiv_p (by omega), w64_eq (by omega) (by omega)]; omega
    rw [e1, dnum_eq fu hf 1 1 1 (by omega) (by omega) (by omega) (by omega) (by omega) (by omega), Option.bind_some, day_min]
    have ht := dof_tail fu hf (x / 86400) (x % 86400) z (by omega) (by omega)
    generalize x % 86400 = s at *
    generalize x / 86400 = N at *
    by_cases c3 : N < -719162
    · rw [bif_t (by simp; exact c3), if_pos (.inl c3)]
    · rw [bif_f (by simp; omega), dnum_eq fu hf 4000 12 31 (by omega) (by omega) (by omega) (by omega) (by omega) (by omega), Option.bind_some, day_max]
      by_cases c4 : 741807 < N
      · rw [bif_t (by simp; exact c4), if_pos (.inr c4)]
      · obtain ⟨t1, t2⟩ := ht (by omega) (by omega)
        rw [bif_f (by simp; omega), if_neg (by omega)]
        by_cases c5 : N < 0
        · rw [bif_t (by simp; exact c5), t1 c5]
        · rw [bif_f (by simp; omega), bif_f (by rw [tdiv_p (by omega)]; simp (discharger := omega) only [w64_eq]; simp; omega), t2 (by omega)]

/-- a date that the program takes -/
def DOk (d : T_api_Date) : Prop := Vld d.fYear d.fMonth d.fDay ∧ 0 ≤ d.fHour ∧ d.fHour ≤ 23 ∧ 0 ≤ d.fMinute ∧ d.fMinute ≤ 59 ∧ 0 ≤ d.fSecond ∧ d.fSecond ≤ 59 ∧ -900 ≤ d.fZone ∧ d.fZone ≤ 900
instance (d : T_api_Date) : Decidable (DOk d) := by unfold DOk; infer_instance
theorem bif_nd {α : Type} {p : Prop} [Decidable p] {x y : α} : (bif !decide p then x else y) = if p then y else x := by by_cases h : p <;> simp [h]
theorem dvalid_eq (d : T_api_Date) : F_dates_Validate d = some (if DOk d then ⟨0, 0⟩ else ⟨3, -3⟩) := by
  unfold F_dates_Validate
  simp only [dates_within_eq, Option.bind_some, fault_eq, none_eq, bif_d, bif_nd]
  have key : ∀ (f : T_api_Fault), (if DOk d then (⟨0, 0⟩ : T_api_Fault) else ⟨3, -3⟩) = f → (DOk d → f = ⟨0, 0⟩) ∧ (¬ DOk d → f = ⟨3, -3⟩) := fun f h => ⟨fun k => by rw [← h, if_pos k], fun k => by rw [← h, if_neg k]⟩
  generalize hf : (if DOk d then (⟨0, 0⟩ : T_api_Fault) else ⟨3, -3⟩) = f
  obtain ⟨k1, k2⟩ := key f hf
  clear key hf
  unfold DOk Vld at k1 k2
  by_cases c1 : 1 ≤ d.fYear ∧ d.fYear ≤ 4000
  · rw [if_pos c1]
    by_cases c2 : 1 ≤ d.fMonth ∧ d.fMonth ≤ 12
    · have e : (if (12 : Int) < (if (1 : Int) > d.fMonth then 1 else d.fMonth) then 12 else if (1 : Int) > d.fMonth then 1 else d.fMonth) = d.fMonth := by
        rw [if_neg (show ¬ ((1 : Int) > d.fMonth) by omega), if_neg (by omega)]
      rw [if_pos c2, e, length_eq _ _ (by omega) c2.1 c2.2, Option.bind_some]
      clear e
      repeat' split
      all_goals first | (rw [k1 (by omega)]) | (rw [k2 (by omega)])
    · rw [if_neg c2, k2 (by omega)]
  · rw [if_neg c1, k2 (by omega)]
theorem dfault_eq (d : T_api_Date) : F_R1_DateFault d = some (if DOk d then ⟨0, 0⟩ else ⟨3, -3⟩) := by
  unfold F_R1_DateFault
  simp only [r1_in_eq, Option.bind_some, at_eq, bif_d, bif_nd]
  have key : ∀ (f : T_api_Fault), (if DOk d then (⟨0, 0⟩ : T_api_Fault) else ⟨3, -3⟩) = f → (DOk d → f = ⟨0, 0⟩) ∧ (¬ DOk d → f = ⟨3, -3⟩) := fun f h => ⟨fun k => by rw [← h, if_pos k], fun k => by rw [← h, if_neg k]⟩
  generalize hf : (if DOk d then (⟨0, 0⟩ : T_api_Fault) else ⟨3, -3⟩) = f
  obtain ⟨k1, k2⟩ := key f hf
  clear key hf
  unfold DOk Vld at k1 k2
  by_cases c1 : 1 ≤ d.fYear ∧ d.fYear ≤ 4000
  · rw [if_pos c1]
    by_cases c2 : 1 ≤ d.fMonth ∧ d.fMonth ≤ 12
    · rw [if_pos c2, rlength_eq _ _ (by omega) c2.1 c2.2, Option.bind_some]
      repeat' split
      all_goals first | (rw [k1 (by omega)]) | (rw [k2 (by omega)])
    · rw [if_neg c2, k2 (by omega)]
  · rw [if_neg c1, k2 (by omega)]
/-- the instant of a date -/
def insD (d : T_api_Date) : Int := day d.fYear d.fMonth d.fDay * 86400 + d.fHour * 3600 + (d.fMinute - d.fZone) * 60 + d.fSecond
theorem dayD_bd {d : T_api_Date} (h : DOk d) : -719162 ≤ day d.fYear d.fMonth d.fDay ∧ day d.fYear d.fMonth d.fDay ≤ 741807 := vld_day _ _ _ h.1
theorem weekday_eq (fu : Nat) (hf : 20 ≤ fu) (d : T_api_Date) (h : DOk d) : F_dates_Weekday fu d = some (wday (day d.fYear d.fMonth d.fDay), ⟨0, 0⟩) := by
  unfold F_dates_Weekday
  have hb := dayD_bd h
  have hd := dim_bd d.fYear d.fMonth
  obtain ⟨⟨v1, v2, v3, v4, v5, v6⟩, _⟩ := id h
  rw [dvalid_eq, if_pos h, Option.bind_some, failed_eq, Option.bind_some, bif_f (by rfl), day_eq fu hf _ _ _ v1 (by omega) v3 v4 (by omega) (by omega), Option.bind_some, w64_eq (by omega) (by omega),
    split_eq _ _ (by omega) (by omega) (by omega) (by omega)]
  rfl
theorem instant_eq (fu : Nat) (hf : 20 ≤ fu) (d : T_api_Date) : F_dates_Instant fu d = some (if DOk d then (insD d, ⟨0, 0⟩) else (0, ⟨3, -3⟩)) := by
  unfold F_dates_Instant
  rw [dvalid_eq, Option.bind_some, failed_eq, Option.bind_some]
  by_cases h : DOk d
  · have hb := dayD_bd h
    have hd := dim_bd d.fYear d.fMonth
    obtain ⟨⟨v1, v2, v3, v4, v5, v6⟩, v7, v8, v9, v10, v11, v12, v13, v14⟩ := id h
    rw [if_pos h, if_pos h, bif_f (by rfl), day_eq fu hf _ _ _ v1 (by omega) v3 v4 (by omega) (by omega), Option.bind_some, none_eq, Option.bind_some]
    simp (discharger := omega) only [w64_eq]
    rfl
  · rw [if_neg h, if_neg h]; rfl
theorem secs_eq (fu : Nat) (hf : 5000 ≤ fu) (d : T_api_Date) (h : DOk d) : F_R1_SecondsOf fu d = some (insD d) := by
  unfold F_R1_SecondsOf
  have hb := dayD_bd h
  have hd := dim_bd d.fYear d.fMonth
  obtain ⟨⟨v1, v2, v3, v4, v5, v6⟩, v7, v8, v9, v10, v11, v12, v13, v14⟩ := id h
  rw [dnum_eq fu hf _ _ _ v1 (by omega) v3 v4 (by omega) (by omega), Option.bind_some]
  simp (discharger := omega) only [w64_eq]
  unfold insD; congr 1; omega
theorem rweekday_eq (fu : Nat) (hf : 5000 ≤ fu) (y m d : Int) (h : Vld y m d) : F_R1_WeekdayOf fu y m d = some (wday (day y m d)) := by
  unfold F_R1_WeekdayOf
  have hb := vld_day _ _ _ h
  have hd := dim_bd y m
  obtain ⟨v1, v2, v3, v4, v5, v6⟩ := id h
  rw [dnum_eq fu hf _ _ _ v1 (by omega) v3 v4 (by omega) (by omega), Option.bind_some, w64_eq (by omega) (by omega)]
  generalize day y m d = N at *
  unfold wday
  by_cases c : N + 4 < 0
  · rw [tmod_n c]
    by_cases c2 : -(N + 4) % 7 = 0
    · rw [bif_f (by simp; omega)]; congr 1; omega
    · rw [bif_t (by simp; omega), w64_eq (by omega) (by omega)]; congr 1; omega
  · rw [tmod_p (by omega), bif_f (by simp; omega)]
end Go.Sym
