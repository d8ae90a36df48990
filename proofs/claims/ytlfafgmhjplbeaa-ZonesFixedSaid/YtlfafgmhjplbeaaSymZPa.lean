/- The plain functions of the dates package. -/
import Derived.Test.YtlfafgmhjplbeaaSymZFun
import Derived.Test.YtlfafgmhjplbeaaSymZZn
namespace Go.Sym
open Cal Zn

theorem w64_eq {x : Int} (h1 : -9223372036854775808 ≤ x) (h2 : x < 9223372036854775808) : w64 x = x := by
  unfold w64 IntKind.wrap
  simp [IntKind.signed, IntKind.bits]
  omega
theorem bif_t {α : Type} {b : Bool} {x y : α} (h : b = true) : (bif b then x else y) = x := by subst h; rfl
theorem bif_f {α : Type} {b : Bool} {x y : α} (h : b = false) : (bif b then x else y) = y := by subst h; rfl
theorem bif_d {α : Type} {p : Prop} [Decidable p] {x y : α} : (bif decide p then x else y) = if p then x else y := by by_cases h : p <;> simp [h]

@[simp] theorem dates_within_eq (x a b : Int) : F_dates_within x a b = some (decide (a ≤ x ∧ x ≤ b)) := by
  unfold F_dates_within; by_cases h : a ≤ x <;> simp [h]
@[simp] theorem zones_within_eq (x a b : Int) : F_zones_within x a b = some (decide (a ≤ x ∧ x ≤ b)) := by
  unfold F_zones_within; by_cases h : a ≤ x <;> simp [h]
@[simp] theorem r1_in_eq (x a b : Int) : F_R1_In x a b = some (decide (a ≤ x ∧ x ≤ b)) := by
  unfold F_R1_In; by_cases h : a ≤ x <;> simp [h]
theorem leap_eq (y : Int) (h : 0 ≤ y) : F_dates_leap y = some (lpB y) := by
  unfold F_dates_leap lpB
  rw [Int.tmod_eq_emod_of_nonneg h, Int.tmod_eq_emod_of_nonneg h, Int.tmod_eq_emod_of_nonneg h]
  cases h1 : (y % 4 == 0) <;> cases h2 : (y % 100 != 0) <;> simp
theorem rleap_eq (y : Int) (h : 0 ≤ y) : F_R1_Leap y = some (lpB y) := by
  unfold F_R1_Leap lpB
  rw [Int.tmod_eq_emod_of_nonneg h, Int.tmod_eq_emod_of_nonneg h, Int.tmod_eq_emod_of_nonneg h]
  cases h1 : (y % 4 == 0) <;> cases h2 : (y % 100 != 0) <;> simp
  all_goals (simp at h1; omega)
theorem lp_t {y : Int} (h : lpB y = true) : lp y = 1 := by unfold lp; rw [if_pos h]
theorem lp_f {y : Int} (h : lpB y = false) : lp y = 0 := by unfold lp; rw [if_neg (by rw [h]; decide)]
def months : List Int := [31, 28, 31, 30, 31, 30, 31, 31, 30, 31, 30, 31]
theorem months_idx (m : Int) (h1 : 1 ≤ m) (h2 : m ≤ 12) : idx ([31, 28, 31, 30, 31, 30, 31, 31, 30, 31, 30, 31] : List Int) (w64 (m - 1)) = some (dim0 m) := by
  rw [w64_eq (by omega) (by omega)]
  rcases month_cases m h1 h2 with h | h | h | h | h | h | h | h | h | h | h | h <;> subst h <;> rfl
theorem length_eq (y m : Int) (hy : 0 ≤ y) (h1 : 1 ≤ m) (h2 : m ≤ 12) : F_dates_length y m = some (dim y m) := by
  unfold F_dates_length
  rw [months_idx m h1 h2, Option.bind_some]
  by_cases e : m = 2
  · subst e
    rw [leap_eq y hy]
    cases hl : lpB y
    · simp [dim, dim0, lp_f hl]
    · simp [dim, dim0, lp_t hl]; rfl
  · have e' : (m == 2) = false := by simp [e]
    simp [e, e', dim]
theorem rlength_eq (y m : Int) (hy : 0 ≤ y) (h1 : 1 ≤ m) (h2 : m ≤ 12) : F_R1_MonthDays y m = some (dim y m) := by
  unfold F_R1_MonthDays
  rw [months_idx m h1 h2]
  by_cases e : m = 2
  · subst e
    rw [rleap_eq y hy]
    cases hl : lpB y
    · simp [dim, dim0, lp_f hl]
    · simp [dim, lp_t hl]
  · have e' : (m == 2) = false := by simp [e]
    simp [e, e', dim]
theorem before_eq (y : Int) (h1 : 1 ≤ y) (h2 : y ≤ 4001) : F_dates_before y = some (bef y) := by
  unfold F_dates_before bef
  rw [w64_eq (x := y - 1) (by omega) (by omega)]
  rw [Int.tdiv_eq_ediv_of_nonneg (by omega), Int.tdiv_eq_ediv_of_nonneg (by omega), Int.tdiv_eq_ediv_of_nonneg (by omega)]
  simp (discharger := omega) only [w64_eq]
theorem day_loop (fu : Nat) (y m : Int) (hy1 : 1 ≤ y) (hy2 : y ≤ 4001) (hm : m ≤ 12) : ∀ (n : Nat) (a k : Int), 1 ≤ k → k ≤ m → m - k < n → -10000000 ≤ a - cum y k → a - cum y k ≤ 10000000 →
    F_dates_day_p0 fu n y m a k = some (a + cum y m - cum y k) := by
  intro n
  induction n with
  | zero => intro a k h1 h2 h3; omega
  | succ n ih =>
    intro a k h1 h2 h3 h4 h5
    rw [F_dates_day_p0, F_dates_day_b0]
    by_cases c : k < m
    · have hc := cum_succ y k h1 (by omega)
      have hb := cum_bd y k h1 (by omega)
      have hd := dim_bd y k
      rw [bif_t (by simp [c]), length_eq y k (by omega) h1 (by omega), Option.bind_some, w64_eq (by omega) (by omega), w64_eq (by omega) (by omega),
        ih _ _ (by omega) (by omega) (by omega) (by omega) (by omega)]
      congr 1; omega
    · have : k = m := by omega
      subst this
      rw [bif_f (by simp)]; congr 1; omega
theorem day_eq (fu : Nat) (hf : 20 ≤ fu) (y m d : Int) (hy1 : 1 ≤ y) (hy2 : y ≤ 4001) (h1 : 1 ≤ m) (h2 : m ≤ 12) (h3 : -1000 ≤ d) (h4 : d ≤ 1000) : F_dates_day fu y m d = some (day y m d) := by
  unfold F_dates_day
  have hb := bef_bd y hy1 hy2
  have hc := cum_one y
  rw [before_eq y hy1 hy2, Option.bind_some, before_eq 1970 (by omega) (by omega), Option.bind_some, bef_1970]
  simp (discharger := omega) only [w64_eq]
  rw [day_loop fu y m hy1 hy2 h2 fu _ 1 (by omega) h1 (by omega) (by omega) (by omega), hc]
  unfold day; congr 1; omega
theorem ystart_down (fu : Nat) : ∀ (n : Nat) (a k : Int), 1 ≤ k → k ≤ 1970 → 1970 - k < n → -10000000 ≤ a - (1970 - k) → a ≤ 10000000 →
    F_R1_YearStart_p2 fu n a k = some (a - (bef 1970 - bef k - 365 * (1970 - k))) := by
  intro n
  induction n with
  | zero => intro a k h1 h2 h3; omega
  | succ n ih =>
    intro a k h1 h2 h3 h4 h5
    rw [F_R1_YearStart_p2, F_R1_YearStart_b2]
    by_cases c : k < 1970
    · have hb := bef_succ k
      rw [bif_t (by simp [c]), rleap_eq k (by omega), Option.bind_some]
      cases hl : lpB k
      · have := lp_f hl
        rw [bif_f rfl, w64_eq (by omega) (by omega), ih _ _ (by omega) (by omega) (by omega) (by omega) (by omega)]; congr 1; omega
      · have := lp_t hl
        rw [bif_t rfl, w64_eq (by omega) (by omega), w64_eq (by omega) (by omega), ih _ _ (by omega) (by omega) (by omega) (by omega) (by omega)]; congr 1; omega
    · have : k = 1970 := by omega
      subst this
      rw [bif_f (by simp)]; congr 1; omega
theorem ystart_end (fu : Nat) (hf : 1 ≤ fu) (a y : Int) (hy : 1970 ≤ y) : F_R1_YearStart_p2 fu fu a y = some a := by
  obtain ⟨n, rfl⟩ : ∃ n, fu = n + 1 := ⟨fu - 1, by omega⟩
  rw [F_R1_YearStart_p2, F_R1_YearStart_b2, bif_f (by simp; omega)]
theorem ystart_up (fu : Nat) (hf : 1 ≤ fu) (y : Int) (hy2 : y ≤ 4001) : ∀ (n : Nat) (a k : Int), 1970 ≤ k → k ≤ y → y - k < n → -1000000 ≤ a → a + (4001 - k) ≤ 1000000 →
    F_R1_YearStart_p0 fu n y a k = some (a + (bef y - bef k - 365 * (y - k))) := by
  intro n
  induction n with
  | zero => intro a k h1 h2 h3; omega
  | succ n ih =>
    intro a k h1 h2 h3 h4 h5
    rw [F_R1_YearStart_p0, F_R1_YearStart_b0]
    by_cases c : k < y
    · have hb := bef_succ k
      rw [bif_t (by simp [c]), rleap_eq k (by omega), Option.bind_some]
      cases hl : lpB k
      · have := lp_f hl
        rw [bif_f rfl, w64_eq (by omega) (by omega), ih _ _ (by omega) (by omega) (by omega) (by omega) (by omega)]; congr 1; omega
      · have := lp_t hl
        rw [bif_t rfl, F_R1_YearStart_p1, w64_eq (by omega) (by omega), w64_eq (by omega) (by omega), ih _ _ (by omega) (by omega) (by omega) (by omega) (by omega)]; congr 1; omega
    · have : k = y := by omega
      subst this
      rw [bif_f (by simp), ystart_end fu hf _ _ (by omega)]; congr 1; omega
theorem ystart_eq (fu : Nat) (hf : 5000 ≤ fu) (y : Int) (hy1 : 1 ≤ y) (hy2 : y ≤ 4001) : F_R1_YearStart fu y = some (bef y - 719162) := by
  unfold F_R1_YearStart
  simp (discharger := omega) only [w64_eq]
  have e := bef_1970
  by_cases c : 1970 ≤ y
  · rw [ystart_up fu (by omega) y hy2 fu _ _ (by omega) c (by omega) (by omega) (by omega), e]; congr 1; omega
  · obtain ⟨n, rfl⟩ : ∃ n, fu = n + 1 := ⟨fu - 1, by omega⟩
    rw [F_R1_YearStart_p0, F_R1_YearStart_b0, bif_f (by simp; omega), ystart_down _ _ _ _ (by omega) (by omega) (by omega) (by omega) (by omega), e]; congr 1; omega
theorem dnum_loop (fu : Nat) (y m : Int) (hy1 : 1 ≤ y) (hy2 : y ≤ 4001) (hm : m ≤ 12) : ∀ (n : Nat) (a k : Int), 1 ≤ k → k ≤ m → m - k < n → -10000000 ≤ a - cum y k → a - cum y k ≤ 10000000 →
    F_R1_DayNumber_p0 fu n y m a k = some (a + cum y m - cum y k) := by
  intro n
  induction n with
  | zero => intro a k h1 h2 h3; omega
  | succ n ih =>
    intro a k h1 h2 h3 h4 h5
    rw [F_R1_DayNumber_p0, F_R1_DayNumber_b0]
    by_cases c : k < m
    · have hc := cum_succ y k h1 (by omega)
      have hb := cum_bd y k h1 (by omega)
      have hd := dim_bd y k
      rw [bif_t (by simp [c]), rlength_eq y k (by omega) h1 (by omega), Option.bind_some, w64_eq (by omega) (by omega), w64_eq (by omega) (by omega),
        ih _ _ (by omega) (by omega) (by omega) (by omega) (by omega)]
      congr 1; omega
    · have : k = m := by omega
      subst this
      rw [bif_f (by simp)]; congr 1; omega
theorem dnum_eq (fu : Nat) (hf : 5000 ≤ fu) (y m d : Int) (hy1 : 1 ≤ y) (hy2 : y ≤ 4001) (h1 : 1 ≤ m) (h2 : m ≤ 12) (h3 : -1000 ≤ d) (h4 : d ≤ 1000) : F_R1_DayNumber fu y m d = some (day y m d) := by
  unfold F_R1_DayNumber
  have hb := bef_bd y hy1 hy2
  have hc := cum_one y
  rw [ystart_eq fu hf y hy1 hy2, Option.bind_some]
  simp (discharger := omega) only [w64_eq]
  rw [dnum_loop fu y m hy1 hy2 h2 fu _ 1 (by omega) h1 (by omega) (by omega) (by omega), hc]
  unfold day; congr 1; omega
theorem split_eq (x b : Int) (hb : 0 < b) (hb2 : b ≤ 100000) (h1 : -1000000000000 ≤ x) (h2 : x ≤ 1000000000000) : F_dates_split x b = some (x / b, x % b) := by
  unfold F_dates_split
  rw [if_pos (by omega)]
  have e : Int.tmod (w64 (Int.tmod x b + b)) b = x % b := by
    have a1 := Int.tmod_lt_of_pos x hb
    have a2 : -b < Int.tmod x b := by
      have := Int.lt_tmod_of_pos x hb; omega
    rw [w64_eq (by omega) (by omega), Int.tmod_eq_emod_of_nonneg (by omega)]
    rw [Int.add_emod_right]
    by_cases hx : 0 ≤ x
    · rw [Int.tmod_eq_emod_of_nonneg hx, Int.emod_emod]
    · rw [Int.tmod_def x b, Int.sub_mul_emod_self_left]
  rw [e]
  have m1 := Int.emod_nonneg x (show b ≠ 0 by omega)
  have m2 := Int.emod_lt_of_pos x hb
  have ed := Int.mul_ediv_add_emod x b
  have e3 : x - x % b = b * (x / b) := by omega
  rw [w64_eq (x := x - x % b) (by omega) (by omega), e3, Int.mul_tdiv_cancel_left _ (by omega)]
  have bd : -1000000000000 ≤ x / b ∧ x / b ≤ 1000000000000 := by
    constructor
    · rw [Int.le_ediv_iff_mul_le hb]
      have : -1000000000000 * b ≤ -1000000000000 * 1 := by omega
      omega
    · exact Int.le_trans (Int.ediv_le_ediv hb h2) (Int.ediv_le_self _ (by omega))
  rw [w64_eq (by omega) (by omega)]
end Go.Sym
