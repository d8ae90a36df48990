/- PLAIN MATHEMATICS of the calendar: leap years, months, day numbers, weekdays. No program in sight. -/
namespace Go.Sym.Cal

def lpB (y : Int) : Bool := y % 4 == 0 && (y % 100 != 0 || y % 400 == 0)
def lp (y : Int) : Int := if lpB y = true then 1 else 0
theorem lp_01 (y : Int) : 0 ≤ lp y ∧ lp y ≤ 1 := by unfold lp; split <;> omega
theorem lp_eq (y : Int) : lp y = (y / 4 - y / 100 + y / 400) - ((y - 1) / 4 - (y - 1) / 100 + (y - 1) / 400) := by
  unfold lp lpB
  split
  · rename_i h; simp at h; omega
  · rename_i h; simp at h; omega

/-- days of a month from 1 to 12 of a common year -/
def dim0 (m : Int) : Int := if m = 2 then 28 else if m = 4 ∨ m = 6 ∨ m = 9 ∨ m = 11 then 30 else 31
def dim (y m : Int) : Int := if m = 2 then 28 + lp y else dim0 m
theorem dim_bd (y m : Int) : 28 ≤ dim y m ∧ dim y m ≤ 31 := by
  have := lp_01 y; unfold dim dim0; split <;> (try split) <;> (try split) <;> omega
def cum0 (m : Int) : Int :=
  if m ≤ 1 then 0 else if m = 2 then 31 else if m = 3 then 59 else if m = 4 then 90 else if m = 5 then 120 else if m = 6 then 151 else if m = 7 then 181
  else if m = 8 then 212 else if m = 9 then 243 else if m = 10 then 273 else if m = 11 then 304 else if m = 12 then 334 else 365
def cum (y m : Int) : Int := cum0 m + if 3 ≤ m then lp y else 0
theorem cum_one (y : Int) : cum y 1 = 0 := by simp [cum, cum0]
theorem cum_13 (y : Int) : cum y 13 = 365 + lp y := by simp [cum, cum0]
theorem month_cases (m : Int) (h1 : 1 ≤ m) (h2 : m ≤ 12) : m = 1 ∨ m = 2 ∨ m = 3 ∨ m = 4 ∨ m = 5 ∨ m = 6 ∨ m = 7 ∨ m = 8 ∨ m = 9 ∨ m = 10 ∨ m = 11 ∨ m = 12 := by omega
theorem cum_succ (y m : Int) (h1 : 1 ≤ m) (h2 : m ≤ 12) : cum y (m + 1) = cum y m + dim y m := by
  rcases month_cases m h1 h2 with h | h | h | h | h | h | h | h | h | h | h | h <;> subst h <;> simp [cum, cum0, dim, dim0] <;> omega
theorem cum_bd (y m : Int) (h1 : 1 ≤ m) (h2 : m ≤ 13) : 0 ≤ cum y m ∧ cum y m ≤ 366 := by
  have := lp_01 y
  rcases (show m = 13 ∨ m ≤ 12 by omega) with h | h
  · subst h; rw [cum_13]; omega
  · rcases month_cases m h1 h with h | h | h | h | h | h | h | h | h | h | h | h <;> subst h <;> simp [cum, cum0] <;> omega
theorem cum_mono (y a b : Int) (h1 : 1 ≤ a) (hab : a ≤ b) (h2 : b ≤ 13) : cum y a ≤ cum y b := by
  obtain ⟨n, rfl⟩ : ∃ n : Nat, b = a + n := ⟨(b - a).toNat, by omega⟩
  induction n with
  | zero => simp
  | succ n ih =>
    have h := ih (by omega) (by omega)
    have hs := cum_succ y (a + n) (by omega) (by omega)
    have hd := dim_bd y (a + n)
    have e : a + ((n + 1 : Nat) : Int) = a + n + 1 := by omega
    rw [e, hs]; omega
theorem cum_lt (y a b : Int) (h1 : 1 ≤ a) (hab : a < b) (h2 : b ≤ 13) : cum y a + dim y a ≤ cum y b := by
  rw [← cum_succ y a h1 (by omega)]; exact cum_mono y _ _ (by omega) (by omega) h2

/-- days of all years from 1 on that end before a year -/
def bef (y : Int) : Int := 365 * (y - 1) + (y - 1) / 4 - (y - 1) / 100 + (y - 1) / 400
theorem bef_1970 : bef 1970 = 719162 := by decide
theorem bef_succ (y : Int) : bef (y + 1) = bef y + 365 + lp y := by
  have := lp_eq y; unfold bef; rw [show y + 1 - 1 = y by omega]; omega
theorem bef_mono (a b : Int) (h : a ≤ b) : bef a ≤ bef b := by unfold bef; omega
theorem bef_lt (a b : Int) (h : a < b) : bef a + 365 ≤ bef b := by
  have := bef_succ a; have := lp_01 a; have := bef_mono (a + 1) b (by omega); omega
theorem bef_bd (y : Int) (h1 : 1 ≤ y) (h2 : y ≤ 4001) : 0 ≤ bef y ∧ bef y ≤ 1461000 := by unfold bef; omega

/-- the number of a day, counted from the beginning of 1970 -/
def day (y m d : Int) : Int := bef y - 719162 + d - 1 + cum y m
theorem day_bd (y m d : Int) (h1 : 1 ≤ y) (h2 : y ≤ 4001) (h3 : 1 ≤ m) (h4 : m ≤ 13) (h5 : -1000 ≤ d) (h6 : d ≤ 1000) : -720200 ≤ day y m d ∧ day y m d ≤ 743300 := by
  have := bef_bd y h1 h2; have := cum_bd y m h3 h4; unfold day; omega

/-- a date of the calendar -/
def Vld (y m d : Int) : Prop := 1 ≤ y ∧ y ≤ 4000 ∧ 1 ≤ m ∧ m ≤ 12 ∧ 1 ≤ d ∧ d ≤ dim y m
instance (y m d : Int) : Decidable (Vld y m d) := by unfold Vld; infer_instance

theorem day_year (y m d : Int) (h : Vld y m d) : bef y ≤ day y m d + 719162 ∧ day y m d + 719162 < bef (y + 1) := by
  obtain ⟨_, _, h3, h4, h5, h6⟩ := h
  have := cum_bd y m h3 (by omega); have := cum_lt y m 13 h3 (by omega) (by omega); have := cum_13 y; have := bef_succ y
  unfold day; omega
theorem day_month (y m d : Int) (h : Vld y m d) : cum y m ≤ day y m d + 719162 - bef y ∧ day y m d + 719162 - bef y < cum y (m + 1) := by
  obtain ⟨_, _, h3, h4, h5, h6⟩ := h
  have := cum_succ y m h3 h4
  unfold day; omega
theorem day_inj {y m d y' m' d' : Int} (h : Vld y m d) (h' : Vld y' m' d') (e : day y m d = day y' m' d') : y = y' ∧ m = m' ∧ d = d' := by
  have a := day_year y m d h; have a' := day_year y' m' d' h'
  have hy : y = y' := by
    rcases Int.lt_trichotomy y y' with c | c | c
    · have := bef_mono (y + 1) y' (by omega); omega
    · exact c
    · have := bef_mono (y' + 1) y (by omega); omega
  subst hy
  have b := day_month y m d h; have b' := day_month y m' d' h'
  obtain ⟨_, _, h3, h4, _, _⟩ := h
  obtain ⟨_, _, h3', h4', _, _⟩ := h'
  have hm : m = m' := by
    rcases Int.lt_trichotomy m m' with c | c | c
    · have := cum_mono y (m + 1) m' (by omega) (by omega) (by omega); omega
    · exact c
    · have := cum_mono y (m' + 1) m (by omega) (by omega) (by omega); omega
  subst hm
  refine ⟨rfl, rfl, ?_⟩
  unfold day at e; omega

/-- the date of a day: chosen, where there is one -/
noncomputable def civ (n : Int) : Int × Int × Int := open Classical in if h : ∃ p : Int × Int × Int, Vld p.1 p.2.1 p.2.2 ∧ day p.1 p.2.1 p.2.2 = n then Classical.choose h else (0, 0, 0)
theorem civ_day {y m d : Int} (h : Vld y m d) : civ (day y m d) = (y, m, d) := by
  have hx : ∃ p : Int × Int × Int, Vld p.1 p.2.1 p.2.2 ∧ day p.1 p.2.1 p.2.2 = day y m d := ⟨(y, m, d), h, rfl⟩
  unfold civ
  rw [dif_pos hx]
  obtain ⟨hv, he⟩ := Classical.choose_spec hx
  obtain ⟨a, b, c⟩ := day_inj hv h he
  exact Prod.ext a (Prod.ext b c)
theorem civ_of {n y m d : Int} (h : Vld y m d) (e : day y m d = n) : civ n = (y, m, d) := by rw [← e]; exact civ_day h

/-- every day from 1-1-1 to 4000-12-31 has a date -/
theorem civ_ex (n : Int) (h1 : -719162 ≤ n) (h2 : n ≤ 741807) : ∃ y m d : Int, Vld y m d ∧ day y m d = n := by
  have hyear : ∀ k : Nat, k ≤ 4000 → n + 719162 < bef (k + 1 : Int) → ∃ y : Int, 1 ≤ y ∧ y ≤ 4000 ∧ bef y ≤ n + 719162 ∧ n + 719162 < bef (y + 1) := by
    intro k
    induction k with
    | zero => intro _ h; simp [bef] at h; omega
    | succ k ih =>
      intro hk h
      by_cases hc : n + 719162 < bef (k + 1 : Int)
      · exact ih (by omega) hc
      · exact ⟨k + 1, by omega, by omega, by omega, by have e : ((k + 1 : Nat) : Int) + 1 = (k : Int) + 1 + 1 := by omega
                                                       rw [e] at h; exact h⟩
  obtain ⟨y, hy1, hy2, hy3, hy4⟩ := hyear 4000 (Nat.le_refl _) (by have : bef ((4000 : Nat) + 1 : Int) = 1460970 := by decide
                                                                   omega)
  have hmon : ∀ k : Nat, k ≤ 12 → n + 719162 - bef y < cum y (k + 1 : Int) → ∃ m : Int, 1 ≤ m ∧ m ≤ 12 ∧ cum y m ≤ n + 719162 - bef y ∧ n + 719162 - bef y < cum y (m + 1) := by
    intro k
    induction k with
    | zero => intro _ h; simp [cum, cum0] at h; omega
    | succ k ih =>
      intro hk h
      by_cases hc : n + 719162 - bef y < cum y (k + 1 : Int)
      · exact ih (by omega) hc
      · exact ⟨k + 1, by omega, by omega, by omega, by have e : ((k + 1 : Nat) : Int) + 1 = (k : Int) + 1 + 1 := by omega
                                                       rw [e] at h; exact h⟩
  obtain ⟨m, hm1, hm2, hm3, hm4⟩ := hmon 12 (Nat.le_refl _) (by have := cum_13 y; have := bef_succ y; have e : ((12 : Nat) : Int) + 1 = 13 := by omega
                                                                rw [e]; omega)
  have := cum_succ y m hm1 hm2
  exact ⟨y, m, n + 719162 - bef y - cum y m + 1, ⟨hy1, hy2, hm1, hm2, by omega, by omega⟩, by unfold day; omega⟩
theorem day_max : day 4000 12 31 = 741807 := by decide
theorem day_min : day 1 1 1 = -719162 := by decide
theorem vld_day (y m d : Int) (h : Vld y m d) : -719162 ≤ day y m d ∧ day y m d ≤ 741807 := by
  have a := day_year y m d h
  have b := bef_mono 1 y h.1; have c := bef_mono (y + 1) 4001 (by have := h.2.1; omega)
  have e1 : bef 1 = 0 := by decide
  have e2 : bef 4001 = 1460970 := by decide
  omega
theorem civ_vld (n : Int) (h1 : -719162 ≤ n) (h2 : n ≤ 741807) : Vld (civ n).1 (civ n).2.1 (civ n).2.2 ∧ day (civ n).1 (civ n).2.1 (civ n).2.2 = n := by
  obtain ⟨y, m, d, h, e⟩ := civ_ex n h1 h2
  rw [civ_of h e]; exact ⟨h, e⟩

/-- the weekday of a day: 0 is Sunday -/
def wday (n : Int) : Int := (n + 4) % 7
theorem wday_bd (n : Int) : 0 ≤ wday n ∧ wday n ≤ 6 := by unfold wday; omega
end Go.Sym.Cal
