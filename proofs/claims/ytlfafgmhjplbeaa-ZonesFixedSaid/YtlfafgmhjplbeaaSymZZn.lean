/- PLAIN MATHEMATICS of time zones: the day and the instant of a turn, the offset at an instant. No program in sight. -/
import Derived.Test.YtlfafgmhjplbeaaSymZCal
namespace Go.Sym.Zn
open Go.Sym.Cal

/-- how far the first day of a month lies before the first weekday wd -/
def tx (y mo wd : Int) : Int := (wd - wday (day y mo 1) + 7) % 7
def tday (y mo wk wd : Int) : Int := if wk = 5 ∧ dim y mo < 29 + tx y mo wd then 22 + tx y mo wd else 1 + tx y mo wd + 7 * (wk - 1)
def tins (y mo wk wd mi ah : Int) : Int := day y mo (tday y mo wk wd) * 86400 + 60 * (mi - ah)
def TOk (mo wk wd mi : Int) : Prop := 1 ≤ mo ∧ mo ≤ 12 ∧ 1 ≤ wk ∧ wk ≤ 5 ∧ 0 ≤ wd ∧ wd ≤ 6 ∧ 0 ≤ mi ∧ mi ≤ 1439
instance (mo wk wd mi : Int) : Decidable (TOk mo wk wd mi) := by unfold TOk; infer_instance

theorem tx_bd (y mo wd : Int) : 0 ≤ tx y mo wd ∧ tx y mo wd ≤ 6 := by unfold tx; omega
theorem tday_bd (y mo wk wd : Int) (h1 : 1 ≤ wk) (h2 : wk ≤ 5) : 1 ≤ tday y mo wk wd ∧ tday y mo wk wd ≤ dim y mo := by
  have := tx_bd y mo wd; have := dim_bd y mo; unfold tday
  split
  · omega
  · rename_i h
    by_cases h5 : wk = 5
    · subst h5; simp at h; omega
    · omega
theorem day_one (y m d : Int) : day y m d = day y m 1 + d - 1 := by unfold day; omega
theorem tday_wd (y mo wk wd : Int) (h1 : 0 ≤ wd) (h2 : wd ≤ 6) : (day y mo (tday y mo wk wd) + 4) % 7 = wd := by
  rw [day_one]
  generalize hF : day y mo 1 = F
  unfold tday tx wday
  rw [hF]
  split <;> omega
theorem first_step (y mo : Int) (h1 : 1 ≤ mo) (h2 : mo ≤ 12) : day y mo 1 + 365 ≤ day (y + 1) mo 1 ∧ day (y + 1) mo 1 ≤ day y mo 1 + 366 ∧
    day y mo 1 + dim y mo + 365 ≤ day (y + 1) mo 1 + dim (y + 1) mo ∧ day (y + 1) mo 1 + dim (y + 1) mo ≤ day y mo 1 + dim y mo + 366 := by
  have a := bef_succ y; have b := lp_01 y; have c := lp_01 (y + 1)
  have hd : dim (y + 1) mo - dim y mo = if mo = 2 then lp (y + 1) - lp y else 0 := by
    unfold dim; split <;> omega
  have hc : cum (y + 1) mo - cum y mo = if 3 ≤ mo then lp (y + 1) - lp y else 0 := by
    unfold cum; split <;> omega
  unfold day
  by_cases e : mo = 2
  · subst e; simp at hd hc; omega
  · rw [if_neg e] at hd
    split at hc <;> omega
theorem tday_step (y mo wk wd : Int) (h1 : 1 ≤ mo) (h2 : mo ≤ 12) (h3 : 1 ≤ wk) (h4 : wk ≤ 5) (h5 : 0 ≤ wd) (h6 : wd ≤ 6) :
    day (y + 1) mo (tday (y + 1) mo wk wd) = day y mo (tday y mo wk wd) + 364 ∨ day (y + 1) mo (tday (y + 1) mo wk wd) = day y mo (tday y mo wk wd) + 371 := by
  have a := tday_wd y mo wk wd h5 h6; have b := tday_wd (y + 1) mo wk wd h5 h6
  have f := first_step y mo h1 h2
  have x := tx_bd y mo wd; have x' := tx_bd (y + 1) mo wd
  have bd := tday_bd y mo wk wd h3 h4; have bd' := tday_bd (y + 1) mo wk wd h3 h4
  have dd := dim_bd y mo; have dd' := dim_bd (y + 1) mo
  rw [day_one y mo (tday y mo wk wd), day_one (y + 1) mo (tday (y + 1) mo wk wd)] at *
  by_cases e : wk = 5
  · have t : dim y mo - 6 ≤ tday y mo wk wd := by
      unfold tday; subst e; split
      · omega
      · rename_i h; simp at h; omega
    have t' : dim (y + 1) mo - 6 ≤ tday (y + 1) mo wk wd := by
      unfold tday; subst e; split
      · omega
      · rename_i h; simp at h; omega
    omega
  · have t : tday y mo wk wd = 1 + tx y mo wd + 7 * (wk - 1) := by unfold tday; rw [if_neg (by simp [e])]
    have t' : tday (y + 1) mo wk wd = 1 + tx (y + 1) mo wd + 7 * (wk - 1) := by unfold tday; rw [if_neg (by simp [e])]
    omega

/-- the second at which a year begins, by the clock of universal time -/
def jan (y : Int) : Int := 86400 * (bef y - 719162)
theorem jan_step (y : Int) : jan y + 31536000 ≤ jan (y + 1) ∧ jan (y + 1) ≤ jan y + 31622400 := by
  have a := bef_succ y; have b := lp_01 y; unfold jan; omega
theorem jan_mono (a b : Int) (h : a ≤ b) : jan a ≤ jan b := by have := bef_mono a b h; unfold jan; omega

/-- two turns of a zone, by what matters of them -/
structure Turns (B E : Int → Int) (std sm : Int) : Prop where
  d1 : std + 1 ≤ sm
  d2 : sm ≤ std + 180
  b1 : ∀ y, jan y ≤ B y + 60 * std
  b2 : ∀ y, B y + 60 * std + 60 ≤ jan (y + 1)
  e1 : ∀ y, jan y ≤ E y + 60 * sm
  e2 : ∀ y, E y + 60 * sm + 60 ≤ jan (y + 1)
  bs : ∀ y, B (y + 1) = B y + 364 * 86400 ∨ B (y + 1) = B y + 371 * 86400
  es : ∀ y, E (y + 1) = E y + 364 * 86400 ∨ E (y + 1) = E y + 371 * 86400
  /-- the months of the two turns differ: if one is in the last three hours of a year, the other one is not in its last day -/
  be : ∀ y, jan (y + 1) - 86400 ≤ B y + 60 * std → E y + 60 * sm + 86400 ≤ jan (y + 1)
  eb : ∀ y, jan (y + 1) - 86400 ≤ E y + 60 * sm → B y + 60 * std + 86400 ≤ jan (y + 1)

theorem jan_day (y mo d : Int) (h1 : 1 ≤ mo) (h2 : mo ≤ 12) (h3 : 1 ≤ d) (h4 : d ≤ dim y mo) : jan y ≤ day y mo d * 86400 ∧ day y mo d * 86400 + 86400 ≤ jan (y + 1) ∧ (mo ≤ 11 → day y mo d * 86400 + 2678400 + 86400 ≤ jan (y + 1)) := by
  have a := cum_bd y mo h1 (by omega); have b := cum_lt y mo 13 h1 (by omega) (by omega); have c := cum_13 y; have e := bef_succ y
  have f : mo ≤ 11 → cum y mo + dim y mo + 31 ≤ cum y 13 := fun h => by
    have := cum_lt y mo 12 h1 (by omega) (by omega); have := cum_succ y 12 (by omega) (by omega)
    have : dim y 12 = 31 := by simp [dim, dim0]
    have : cum y (12 + 1) = cum y 13 := rfl
    omega
  unfold jan day
  refine ⟨by omega, by omega, fun h => ?_⟩
  have := f h; omega

theorem turns_of {std sm bmo bwk bwd bmi emo ewk ewd emi : Int} (h1 : std + 1 ≤ sm) (h2 : sm ≤ std + 180) (hb : TOk bmo bwk bwd bmi) (he : TOk emo ewk ewd emi) (hne : bmo ≠ emo) :
    Turns (fun y => tins y bmo bwk bwd bmi std) (fun y => tins y emo ewk ewd emi sm) std sm := by
  obtain ⟨b1, b2, b3, b4, b5, b6, b7, b8⟩ := hb
  obtain ⟨e1, e2, e3, e4, e5, e6, e7, e8⟩ := he
  have jb := fun y => jan_day y bmo (tday y bmo bwk bwd) b1 b2 (tday_bd y bmo bwk bwd b3 b4).1 (tday_bd y bmo bwk bwd b3 b4).2
  have je := fun y => jan_day y emo (tday y emo ewk ewd) e1 e2 (tday_bd y emo ewk ewd e3 e4).1 (tday_bd y emo ewk ewd e3 e4).2
  have sb := fun y => tday_step y bmo bwk bwd b1 b2 b3 b4 b5 b6
  have se := fun y => tday_step y emo ewk ewd e1 e2 e3 e4 e5 e6
  refine ⟨h1, h2, fun y => ?_, fun y => ?_, fun y => ?_, fun y => ?_, fun y => ?_, fun y => ?_, fun y => ?_, fun y => ?_⟩ <;> simp only [tins]
  · have := jb y; omega
  · have := jb y; omega
  · have := je y; omega
  · have := je y; omega
  · have := sb y; omega
  · have := se y; omega
  · have ⟨p1, p2, p3⟩ := jb y; have ⟨q1, q2, q3⟩ := je y
    intro h
    have hm : bmo = 12 := by
      by_cases c : bmo ≤ 11
      · have := p3 c; omega
      · omega
    have := q3 (by omega); omega
  · have ⟨p1, p2, p3⟩ := jb y; have ⟨q1, q2, q3⟩ := je y
    intro h
    have hm : emo = 12 := by
      by_cases c : emo ≤ 11
      · have := q3 c; omega
      · omega
    have := p3 (by omega); omega

section
variable {B E : Int → Int} {std sm : Int}
theorem step_mono {f : Int → Int} (h : ∀ y, f (y + 1) = f y + 364 * 86400 ∨ f (y + 1) = f y + 371 * 86400) {a b : Int} (hab : a < b) : f a + 364 * 86400 ≤ f b := by
  obtain ⟨n, rfl⟩ : ∃ n : Nat, b = a + n + 1 := ⟨(b - a - 1).toNat, by omega⟩
  clear hab
  induction n with
  | zero => have := h a; simp; omega
  | succ n ih =>
    have e : a + ((n + 1 : Nat) : Int) + 1 = a + n + 1 + 1 := by omega
    rw [e]; have := h (a + n + 1); omega

/-- Is it summer, by the turns of the years from lo to hi? -/
def SumW (B E : Int → Int) (lo hi t : Int) : Prop := ∃ y, lo ≤ y ∧ y ≤ hi ∧ B y ≤ t ∧ ∀ z, lo ≤ z → z ≤ hi → E z ≤ t → E z < B y
/-- Is it summer, by all turns? -/
def SumA (B E : Int → Int) (t : Int) : Prop := ∃ y, B y ≤ t ∧ ∀ z, E z ≤ t → E z < B y

/-- the civil year of an instant by standard time -/
def YearAt (std t c : Int) : Prop := jan c ≤ t + 60 * std ∧ t + 60 * std < jan (c + 1)
theorem YearAt.unique {std t c c' : Int} (h : YearAt std t c) (h' : YearAt std t c') : c = c' := by
  obtain ⟨a, b⟩ := h; obtain ⟨a', b'⟩ := h'
  rcases Int.lt_trichotomy c c' with x | x | x
  · have := jan_mono (c + 1) c' (by omega); omega
  · exact x
  · have := jan_mono (c' + 1) c (by omega); omega

theorem sumW_year (h : Turns B E std sm) {t c : Int} (hc : YearAt std t c) : SumW B E (c - 1) (c + 1) t ↔ SumA B E t := by
  obtain ⟨h1, h2⟩ := hc
  have d1 := h.d1; have d2 := h.d2
  -- all turns of c - 1 are over
  have hB1 : B (c - 1) ≤ t := by have := h.b2 (c - 1); rw [show c - 1 + 1 = c by omega] at this; omega
  have hE1 : E (c - 1) ≤ t := by have := h.e2 (c - 1); rw [show c - 1 + 1 = c by omega] at this; omega
  -- none of c + 2 and later
  have hB2 : ∀ y, c + 2 ≤ y → t < B y := fun y hy => by have := h.b1 y; have := jan_mono (c + 2) y hy; have j := jan_step (c + 1); rw [show c + 1 + 1 = c + 2 by omega] at j; omega
  have hE2 : ∀ y, c + 2 ≤ y → t < E y := fun y hy => by have := h.e1 y; have := jan_mono (c + 2) y hy; have j := jan_step (c + 1); rw [show c + 1 + 1 = c + 2 by omega] at j; omega
  constructor
  · rintro ⟨y, y1, y2, hy, hz⟩
    refine ⟨y, hy, fun z hzt => ?_⟩
    by_cases z1 : c - 1 ≤ z
    · by_cases z2 : z ≤ c + 1
      · exact hz z z1 z2 hzt
      · have := hE2 z (by omega); omega
    · have a := step_mono h.es (show z < c - 1 by omega); have := hz (c - 1) (by omega) (by omega) hE1; omega
  · rintro ⟨y, hy, hz⟩
    have y2 : y ≤ c + 1 := by
      by_cases q : y ≤ c + 1
      · exact q
      · have := hB2 y (by omega); omega
    by_cases y1 : c - 1 ≤ y
    · exact ⟨y, y1, y2, hy, fun z _ _ hzt => hz z hzt⟩
    · have a := step_mono h.bs (show y < c - 1 by omega)
      exact ⟨c - 1, by omega, by omega, hB1, fun z _ _ hzt => by have := hz z hzt; omega⟩

/-- in the last three hours of a year the turns of the year before the last need not be asked -/
theorem sumW_late (h : Turns B E std sm) {t c : Int} (hc : YearAt std t c) (hl : jan (c + 1) ≤ t + 60 * sm) : SumW B E c (c + 2) t ↔ SumA B E t := by
  obtain ⟨h1, h2⟩ := hc
  have d1 := h.d1; have d2 := h.d2
  have hB2 : ∀ y, c + 2 ≤ y → t < B y := fun y hy => by have := h.b1 y; have := jan_mono (c + 2) y hy; have j := jan_step (c + 1); rw [show c + 1 + 1 = c + 2 by omega] at j; omega
  have hE2 : ∀ y, c + 2 ≤ y → t < E y := fun y hy => by have := h.e1 y; have := jan_mono (c + 2) y hy; have j := jan_step (c + 1); rw [show c + 1 + 1 = c + 2 by omega] at j; omega
  have js := jan_step c
  have jp := jan_step (c - 1); rw [show c - 1 + 1 = c by omega] at jp
  have bp2 := h.b2 (c - 1); rw [show c - 1 + 1 = c by omega] at bp2
  have ep2 := h.e2 (c - 1); rw [show c - 1 + 1 = c by omega] at ep2
  have b1 := h.b1 c; have b2 := h.b2 c; have e1 := h.e1 c; have e2 := h.e2 c
  have be := h.be c; have eb := h.eb c
  have bs := h.bs (c - 1); rw [show c - 1 + 1 = c by omega] at bs
  constructor
  · rintro ⟨y, y1, y2, hy, hz⟩
    refine ⟨y, hy, fun z hzt => ?_⟩
    by_cases z1 : c ≤ z
    · by_cases z2 : z ≤ c + 2
      · exact hz z z1 z2 hzt
      · have := hE2 z (by omega); omega
    · -- E z of an earlier year
      have a : E z ≤ E (c - 1) := by
        by_cases q : z = c - 1
        · subst q; omega
        · have := step_mono h.es (show z < c - 1 by omega); omega
      have b : B c ≤ B y := by
        by_cases q : y = c
        · subst q; omega
        · have := step_mono h.bs (show c < y by omega); omega
      omega
  · rintro ⟨y, hy, hz⟩
    have y2 : y ≤ c + 2 := by
      by_cases q : y ≤ c + 2
      · exact q
      · have := hB2 y (by omega); omega
    by_cases y1 : c ≤ y
    · exact ⟨y, y1, y2, hy, fun z _ _ hzt => hz z hzt⟩
    · have a : B y ≤ B (c - 1) := by
        by_cases q : y = c - 1
        · subst q; omega
        · have := step_mono h.bs (show y < c - 1 by omega); omega
      by_cases q : B c ≤ t
      · exact ⟨c, by omega, by omega, q, fun z _ _ hzt => by have := hz z hzt; omega⟩
      · -- then B c is in the last three hours; E c is over; so B (c-1) > E c, and both B lie at the end of their years
        have hEc : E c ≤ t := by have := be (by omega); omega
        have := hz c hEc
        omega

/-- no turn between two instants: no change -/
theorem sumA_same {t t' : Int} (h : t ≤ t') (hB : ∀ y, ¬ (t < B y ∧ B y ≤ t')) (hE : ∀ y, ¬ (t < E y ∧ E y ≤ t')) : SumA B E t ↔ SumA B E t' := by
  constructor
  · rintro ⟨y, hy, hz⟩
    refine ⟨y, by omega, fun z hzt => ?_⟩
    by_cases q : E z ≤ t
    · exact hz z q
    · exact absurd ⟨by omega, hzt⟩ (hE z)
  · rintro ⟨y, hy, hz⟩
    by_cases q : B y ≤ t
    · exact ⟨y, q, fun z hzt => hz z (by omega)⟩
    · exact absurd ⟨by omega, hy⟩ (hB y)

/-- what the search over turns knows of those of the years in S -/
def Inv (B E : Int → Int) (t : Int) (S : Int → Prop) (best : Int) (out has : Bool) : Prop :=
  (has = false → out = false ∧ ∀ y, S y → t < B y ∧ t < E y) ∧
  (has = true → best ≤ t ∧ (∀ y, S y → B y ≤ t → B y ≤ best) ∧ (∀ y, S y → E y ≤ t → E y ≤ best) ∧
    (out = true → (∃ y, S y ∧ B y = best) ∧ ∀ y, S y → E y ≤ t → E y < best) ∧ (out = false → ∃ y, S y ∧ E y = best))
theorem Inv.start (t best : Int) : Inv B E t (fun _ => False) best false false := ⟨fun _ => ⟨rfl, fun _ h => h.elim⟩, fun h => by cases h⟩
theorem Inv.fin {t lo hi best : Int} {out has : Bool} (h : Inv B E t (fun y => lo ≤ y ∧ y ≤ hi) best out has) : out = true ↔ SumW B E lo hi t := by
  constructor
  · intro ho
    cases has with
    | false => have := (h.1 rfl).1; rw [this] at ho; cases ho
    | true =>
      obtain ⟨h1, h2, h3, h4, _⟩ := h.2 rfl
      obtain ⟨⟨y, hy, rfl⟩, hE⟩ := h4 ho
      exact ⟨y, hy.1, hy.2, h1, fun z z1 z2 hz => hE z ⟨z1, z2⟩ hz⟩
  · rintro ⟨y, y1, y2, hy, hz⟩
    cases has with
    | false => have := (h.1 rfl).2 y ⟨y1, y2⟩; omega
    | true =>
      obtain ⟨h1, h2, h3, _, h5⟩ := h.2 rfl
      cases out with
      | true => rfl
      | false =>
        obtain ⟨z, hz', he⟩ := h5 rfl
        have := h2 y ⟨y1, y2⟩ hy
        have := hz z hz'.1 hz'.2 (by omega)
        omega
/-- one year more: first its Begin, then its End -/
theorem Inv.next {t k best best1 best2 : Int} {S S' : Int → Prop} {out has out1 has1 out2 has2 : Bool} (h : Inv B E t S best out has) (hS : ∀ y, S' y ↔ S y ∨ y = k)
    (h1 : (B k ≤ t ∧ (has = false ∨ best < B k) ∧ best1 = B k ∧ out1 = true ∧ has1 = true) ∨ (¬ (B k ≤ t ∧ (has = false ∨ best < B k)) ∧ best1 = best ∧ out1 = out ∧ has1 = has))
    (h2 : (E k ≤ t ∧ (has1 = false ∨ best1 ≤ E k) ∧ best2 = E k ∧ out2 = false ∧ has2 = true) ∨ (¬ (E k ≤ t ∧ (has1 = false ∨ best1 ≤ E k)) ∧ best2 = best1 ∧ out2 = out1 ∧ has2 = has1)) :
    Inv B E t S' best2 out2 has2 := by
  obtain ⟨hf, ht⟩ := h
  have hk : S' k := (hS k).2 (.inr rfl)
  have hsub : ∀ y, S y → S' y := fun y hy => (hS y).2 (.inl hy)
  rcases h1 with ⟨a1, a2, rfl, rfl, rfl⟩ | ⟨a1, rfl, rfl, rfl⟩
  · rcases h2 with ⟨c1, c2, rfl, rfl, rfl⟩ | ⟨c1, rfl, rfl, rfl⟩
    · refine ⟨fun h => (by cases h), fun _ => ⟨c1, fun y hy hy2 => ?_, fun y hy hy2 => ?_, fun h => (by cases h), fun _ => ⟨k, hk, rfl⟩⟩⟩
      · rcases (hS y).1 hy with q | rfl
        · cases has with
          | false => have := (hf rfl).2 y q; omega
          | true => have := (ht rfl).2.1 y q hy2; simp at a2 c2; omega
        · simp at c2; exact c2
      · rcases (hS y).1 hy with q | rfl
        · cases has with
          | false => have := (hf rfl).2 y q; omega
          | true => have := (ht rfl).2.2.1 y q hy2; simp at a2 c2; omega
        · omega
    · simp at c1
      refine ⟨fun h => (by cases h), fun _ => ⟨a1, fun y hy hy2 => ?_, fun y hy hy2 => ?_, fun _ => ⟨⟨k, hk, rfl⟩, fun y hy hy2 => ?_⟩, fun h => (by cases h)⟩⟩
      · rcases (hS y).1 hy with q | rfl
        · cases has with
          | false => have := (hf rfl).2 y q; omega
          | true => have := (ht rfl).2.1 y q hy2; simp at a2; omega
        · omega
      · rcases (hS y).1 hy with q | rfl
        · cases has with
          | false => have := (hf rfl).2 y q; omega
          | true => have := (ht rfl).2.2.1 y q hy2; simp at a2; omega
        · have := c1 hy2; omega
      · rcases (hS y).1 hy with q | rfl
        · cases has with
          | false => have := (hf rfl).2 y q; omega
          | true => have := (ht rfl).2.2.1 y q hy2; simp at a2; omega
        · exact c1 hy2
  · rcases h2 with ⟨c1, c2, rfl, rfl, rfl⟩ | ⟨c1, rfl, rfl, rfl⟩
    · refine ⟨fun h => (by cases h), fun _ => ⟨c1, fun y hy hy2 => ?_, fun y hy hy2 => ?_, fun h => (by cases h), fun _ => ⟨k, hk, rfl⟩⟩⟩
      · rcases (hS y).1 hy with q | rfl
        · cases has1 with
          | false => have := (hf rfl).2 y q; omega
          | true => have := (ht rfl).2.1 y q hy2; simp at c2; omega
        · cases has1 with
          | false => exact absurd ⟨hy2, .inl rfl⟩ a1
          | true => simp at a1 c2; have := a1 hy2; omega
      · rcases (hS y).1 hy with q | rfl
        · cases has1 with
          | false => have := (hf rfl).2 y q; omega
          | true => have := (ht rfl).2.2.1 y q hy2; simp at c2; omega
        · omega
    · cases has2 with
      | false =>
        simp at a1 c1
        obtain ⟨o, hn⟩ := hf rfl
        refine ⟨fun _ => ⟨o, fun y hy => ?_⟩, fun h => (by cases h)⟩
        rcases (hS y).1 hy with q | rfl
        · exact hn y q
        · exact ⟨a1, c1⟩
      | true =>
        simp at a1 c1
        obtain ⟨g1, g2, g3, g4, g5⟩ := ht rfl
        refine ⟨fun h => (by cases h), fun _ => ⟨g1, fun y hy hy2 => ?_, fun y hy hy2 => ?_, fun ho => ?_, fun ho => ?_⟩⟩
        · rcases (hS y).1 hy with q | rfl
          · exact g2 y q hy2
          · exact a1 hy2
        · rcases (hS y).1 hy with q | rfl
          · exact g3 y q hy2
          · have := c1 hy2; omega
        · obtain ⟨⟨y, hy, e⟩, hE⟩ := g4 ho
          refine ⟨⟨y, hsub y hy, e⟩, fun z hz hz2 => ?_⟩
          rcases (hS z).1 hz with q | rfl
          · exact hE z q hz2
          · exact c1 hz2
        · obtain ⟨y, hy, e⟩ := g5 ho
          exact ⟨y, hsub y hy, e⟩
end
end Go.Sym.Zn
