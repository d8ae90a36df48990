/- What the claim rests on, part 6: gathered texts. -/
import Derived.WalkKit
import Derived.ProofKit
import Derived.OpenShut
import Derived.ShutString
import Derived.ChangeOld
import Derived.Carry
import Derived.Test.YtlfafgmhjplbeaaSyB5
/- PLAIN MATHEMATICS of time zones: the day and the instant of a turn, the offset at an instant. No program in sight. -/
namespace Go.Sym.Zn
open Go.Sym.Cal

/-- how far the first day of a month lies before the first weekday wd -/
def tx (y mo wd : Int) : Int := (wd - wday (day y mo 1) + 7) % 7
def tday (y mo wk wd : Int) : Int := if wk = 5 ∧ dim y mo < 29 + tx y mo wd then 22 + tx y mo wd else 1 + tx y mo wd + 7 * (wk - 1)
def tins (y mo wk wd mi ah : Int) : Int := day y mo (tday y mo wk wd) * 86400 + 60 * (mi - ah)
def TOk (mo wk wd mi : Int) : Prop := 1 ≤ mo ∧ mo ≤ 12 ∧ 1 ≤ wk ∧ wk ≤ 5 ∧ 0 ≤ wd ∧ wd ≤ 6 ∧ 0 ≤ mi ∧ mi ≤ 1439
instance (mo wk wd mi : Int) : Decidable (TOk mo wk wd mi) := by unfold TOk; infer_instance

theorem tx_bd (y mo wd : Int) : 0 ≤ tx y mo wd ∧ tx y mo wd ≤ 6 := by unfold tx; omega
theorem tday_bd (y mo wk wd : Int) (h1 : 1 ≤ wk) (h2 : wk ≤ 5) : 1 ≤ tday y mo wk wd ∧ tday y mo wk wd ≤ dim y mo := by
  have := tx_bd y mo wd; have := dim_bd y mo; unfold tday
  split
  · omega
  · rename_i h
    by_cases h5 : wk = 5
    · subst h5; simp at h; omega
    · omega
theorem day_one (y m d : Int) : day y m d = day y m 1 + d - 1 := by unfold day; omega
theorem tday_wd (y mo wk wd : Int) (h1 : 0 ≤ wd) (h2 : wd ≤ 6) : (day y mo (tday y mo wk wd) + 4) % 7 = wd := by
  rw [day_one]
  generalize hF : day y mo 1 = F
  unfold tday tx wday
  rw [hF]
  split <;> omega
theorem first_step (y mo : Int) (h1 : 1 ≤ mo) (h2 : mo ≤ 12) : day y mo 1 + 365 ≤ day (y + 1) mo 1 ∧ day (y + 1) mo 1 ≤ day y mo 1 + 366 ∧
    day y mo 1 + dim y mo + 365 ≤ day (y + 1) mo 1 + dim (y + 1) mo ∧ day (y + 1) mo 1 + dim (y + 1) mo ≤ day y mo 1 + dim y mo + 366 := by
  have a := bef_succ y; have b := lp_01 y; have c := lp_01 (y + 1)
  have hd : dim (y + 1) mo - dim y mo = if mo = 2 then lp (y + 1) - lp y else 0 := by
    unfold dim; split <;> omega
  have hc : cum (y + 1) mo - cum y mo = if 3 ≤ mo then lp (y + 1) - lp y else 0 := by
    unfold cum; split <;> omega
  unfold day
  by_cases e : mo = 2
  · subst e; simp at hd hc; omega
  · rw [if_neg e] at hd
    split at hc <;> omega
theorem tday_step (y mo wk wd : Int) (h1 : 1 ≤ mo) (h2 : mo ≤ 12) (h3 : 1 ≤ wk) (h4 : wk ≤ 5) (h5 : 0 ≤ wd) (h6 : wd ≤ 6) :
    day (y + 1) mo (tday (y + 1) mo wk wd) = day y mo (tday y mo wk wd) + 364 ∨ day (y + 1) mo (tday (y + 1) mo wk wd) = day y mo (tday y mo wk wd) + 371 := by
  have a := tday_wd y mo wk wd h5 h6; have b := tday_wd (y + 1) mo wk wd h5 h6
  have f := first_step y mo h1 h2
  have x := tx_bd y mo wd; have x' := tx_bd (y + 1) mo wd
  have bd := tday_bd y mo wk wd h3 h4; have bd' := tday_bd (y + 1) mo wk wd h3 h4
  have dd := dim_bd y mo; have dd' := dim_bd (y + 1) mo
  rw [day_one y mo (tday y mo wk wd), day_one (y + 1) mo (tday (y + 1) mo wk wd)] at *
  by_cases e : wk = 5
  · have t : dim y mo - 6 ≤ tday y mo wk wd := by
      unfold tday; subst e; split
      · omega
      · rename_i h; simp at h; omega
    have t' : dim (y + 1) mo - 6 ≤ tday (y + 1) mo wk wd := by
      unfold tday; subst e; split
      · omega
      · rename_i h; simp at h; omega
    omega
  · have t : tday y mo wk wd = 1 + tx y mo wd + 7 * (wk - 1) := by unfold tday; rw [if_neg (by simp [e])]
    have t' : tday (y + 1) mo wk wd = 1 + tx (y + 1) mo wd + 7 * (wk - 1) := by unfold tday; rw [if_neg (by simp [e])]
    omega

/-- the second at which a year begins, by the clock of universal time -/
def jan (y : Int) : Int := 86400 * (bef y - 719162)
theorem jan_step (y : Int) : jan y + 31536000 ≤ jan (y + 1) ∧ jan (y + 1) ≤ jan y + 31622400 := by
  have a := bef_succ y; have b := lp_01 y; unfold jan; omega
theorem jan_mono (a b : Int) (h : a ≤ b) : jan a ≤ jan b := by have := bef_mono a b h; unfold jan; omega

/-- two turns of a zone, by what matters of them -/
structure Turns (B E : Int → Int) (std sm : Int) : Prop where
  d1 : std + 1 ≤ sm
  d2 : sm ≤ std + 180
  b1 : ∀ y, jan y ≤ B y + 60 * std
  b2 : ∀ y, B y + 60 * std + 60 ≤ jan (y + 1)
  e1 : ∀ y, jan y ≤ E y + 60 * sm
  e2 : ∀ y, E y + 60 * sm + 60 ≤ jan (y + 1)
  bs : ∀ y, B (y + 1) = B y + 364 * 86400 ∨ B (y + 1) = B y + 371 * 86400
  es : ∀ y, E (y + 1) = E y + 364 * 86400 ∨ E (y + 1) = E y + 371 * 86400
  /-- the months of the two turns differ: if one is in the last three hours of a year, the other one is not in its last day -/
  be : ∀ y, jan (y + 1) - 86400 ≤ B y + 60 * std → E y + 60 * sm + 86400 ≤ jan (y + 1)
  eb : ∀ y, jan (y + 1) - 86400 ≤ E y + 60 * sm → B y + 60 * std + 86400 ≤ jan (y + 1)

theorem jan_day (y mo d : Int) (h1 : 1 ≤ mo) (h2 : mo ≤ 12) (h3 : 1 ≤ d) (h4 : d ≤ dim y mo) : jan y ≤ day y mo d * 86400 ∧ day y mo d * 86400 + 86400 ≤ jan (y + 1) ∧ (mo ≤ 11 → day y mo d * 86400 + 2678400 + 86400 ≤ jan (y + 1)) := by
  have a := cum_bd y mo h1 (by omega); have b := cum_lt y mo 13 h1 (by omega) (by omega); have c := cum_13 y; have e := bef_succ y
  have f : mo ≤ 11 → cum y mo + dim y mo + 31 ≤ cum y 13 := fun h => by
    have := cum_lt y mo 12 h1 (by omega) (by omega); have := cum_succ y 12 (by omega) (by omega)
    have : dim y 12 = 31 := by simp [dim, dim0]
    have : cum y (12 + 1) = cum y 13 := rfl
    omega
  unfold jan day
  refine ⟨by omega, by omega, fun h => ?_⟩
  have := f h; omega

theorem turns_of {std sm bmo bwk bwd bmi emo ewk ewd emi : Int} (h1 : std + 1 ≤ sm) (h2 : sm ≤ std + 180) (hb : TOk bmo bwk bwd bmi) (he : TOk emo ewk ewd emi) (hne : bmo ≠ emo) :
    Turns (fun y => tins y bmo bwk bwd bmi std) (fun y => tins y emo ewk ewd emi sm) std sm := by
  obtain ⟨b1, b2, b3, b4, b5, b6, b7, b8⟩ := hb
  obtain ⟨e1, e2, e3, e4, e5, e6, e7, e8⟩ := he
  have jb := fun y => jan_day y bmo (tday y bmo bwk bwd) b1 b2 (tday_bd y bmo bwk bwd b3 b4).1 (tday_bd y bmo bwk bwd b3 b4).2
  have je := fun y => jan_day y emo (tday y emo ewk ewd) e1 e2 (tday_bd y emo ewk ewd e3 e4).1 (tday_bd y emo ewk ewd e3 e4).2
  have sb := fun y => tday_step y bmo bwk bwd b1 b2 b3 b4 b5 b6
  have se := fun y => tday_step y emo ewk ewd e1 e2 e3 e4 e5 e6
  refine ⟨h1, h2, fun y => ?_, fun y => ?_, fun y => ?_, fun y => ?_, fun y => ?_, fun y => ?_, fun y => ?_, fun y => ?_⟩ <;> simp only [tins]
  · have := jb y; omega
  · have := jb y; omega
  · have := je y; omega
  · have := je y; omega
  · have := sb y; omega
  · have := se y; omega
  · have ⟨p1, p2, p3⟩ := jb y; have ⟨q1, q2, q3⟩ := je y
    intro h
    have hm : bmo = 12 := by
      by_cases c : bmo ≤ 11
      · have := p3 c; omega
      · omega
    have := q3 (by omega); omega
  · have ⟨p1, p2, p3⟩ := jb y; have ⟨q1, q2, q3⟩ := je y
    intro h
    have hm : emo = 12 := by
      by_cases c : emo ≤ 11
      · have := q3 c; omega
      · omega
    have := p3 (by omega); omega

section
variable {B E : Int → Int} {std sm : Int}
theorem step_mono {f : Int → Int} (h : ∀ y, f (y + 1) = f y + 364 * 86400 ∨ f (y + 1) = f y + 371 * 86400) {a b : Int} (hab : a < b) : f a + 364 * 86400 ≤ f b := by
  obtain ⟨n, rfl⟩ : ∃ n : Nat, b = a + n + 1 := ⟨(b - a - 1).toNat, by omega⟩
  clear hab
  induction n with
  | zero => have := h a; simp; omega
  | succ n ih =>
    have e : a + ((n + 1 : Nat) : Int) + 1 = a + n + 1 + 1 := by omega
    rw [e]; have := h (a + n + 1); omega

/-- Is it summer, by the turns of the years from lo to hi? -/
def SumW (B E : Int → Int) (lo hi t : Int) : Prop := ∃ y, lo ≤ y ∧ y ≤ hi ∧ B y ≤ t ∧ ∀ z, lo ≤ z → z ≤ hi → E z ≤ t → E z < B y
/-- Is it summer, by all turns? -/
def SumA (B E : Int → Int) (t : Int) : Prop := ∃ y, B y ≤ t ∧ ∀ z, E z ≤ t → E z < B y

/-- the civil year of an instant by standard time -/
def YearAt (std t c : Int) : Prop := jan c ≤ t + 60 * std ∧ t + 60 * std < jan (c + 1)
theorem YearAt.unique {std t c c' : Int} (h : YearAt std t c) (h' : YearAt std t c') : c = c' := by
  obtain ⟨a, b⟩ := h; obtain ⟨a', b'⟩ := h'
  rcases Int.lt_trichotomy c c' with x | x | x
  · have := jan_mono (c + 1) c' (by omega); omega
  · exact x
  · have := jan_mono (c' + 1) c (by omega); omega

theorem sumW_year (h : Turns B E std sm) {t c : Int} (hc : YearAt std t c) : SumW B E (c - 1) (c + 1) t ↔ SumA B E t := by
  obtain ⟨h1, h2⟩ := hc
  have d1 := h.d1; have d2 := h.d2
  -- all turns of c - 1 are over
  have hB1 : B (c - 1) ≤ t := by have := h.b2 (c - 1); rw [show c - 1 + 1 = c by omega] at this; omega
  have hE1 : E (c - 1) ≤ t := by have := h.e2 (c - 1); rw [show c - 1 + 1 = c by omega] at this; omega
  -- none of c + 2 and later
  have hB2 : ∀ y, c + 2 ≤ y → t < B y := fun y hy => by have := h.b1 y; have := jan_mono (c + 2) y hy; have j := jan_step (c + 1); rw [show c + 1 + 1 = c + 2 by omega] at j; omega
  have hE2 : ∀ y, c + 2 ≤ y → t < E y := fun y hy => by have := h.e1 y; have := jan_mono (c + 2) y hy; have j := jan_step (c + 1); rw [show c + 1 + 1 = c + 2 by omega] at j; omega
  constructor
  · rintro ⟨y, y1, y2, hy, hz⟩
    refine ⟨y, hy, fun z hzt => ?_⟩
    by_cases z1 : c - 1 ≤ z
    · by_cases z2 : z ≤ c + 1
      · exact hz z z1 z2 hzt
      · have := hE2 z (by omega); omega
    · have a := step_mono h.es (show z < c - 1 by omega); have := hz (c - 1) (by omega) (by omega) hE1; omega
  · rintro ⟨y, hy, hz⟩
    have y2 : y ≤ c + 1 := by
      by_cases q : y ≤ c + 1
      · exact q
      · have := hB2 y (by omega); omega
    by_cases y1 : c - 1 ≤ y
    · exact ⟨y, y1, y2, hy, fun z _ _ hzt => hz z hzt⟩
    · have a := step_mono h.bs (show y < c - 1 by omega)
      exact ⟨c - 1, by omega, by omega, hB1, fun z _ _ hzt => by have := hz z hzt; omega⟩

/-- in the last three hours of a year the turns of the year before the last need not be asked -/
theorem sumW_late (h : Turns B E std sm) {t c : Int} (hc : YearAt std t c) (hl : jan (c + 1) ≤ t + 60 * sm) : SumW B E c (c + 2) t ↔ SumA B E t := by
  obtain ⟨h1, h2⟩ := hc
  have d1 := h.d1; have d2 := h.d2
  have hB2 : ∀ y, c + 2 ≤ y → t < B y := fun y hy => by have := h.b1 y; have := jan_mono (c + 2) y hy; have j := jan_step (c + 1); rw [show c + 1 + 1 = c + 2 by omega] at j; omega
  have hE2 : ∀ y, c + 2 ≤ y → t < E y := fun y hy => by have := h.e1 y; have := jan_mono (c + 2) y hy; have j := jan_step (c + 1); rw [show c + 1 + 1 = c + 2 by omega] at j; omega
  have js := jan_step c
  have jp := jan_step (c - 1); rw [show c - 1 + 1 = c by omega] at jp
  have bp2 := h.b2 (c - 1); rw [show c - 1 + 1 = c by omega] at bp2
  have ep2 := h.e2 (c - 1); rw [show c - 1 + 1 = c by omega] at ep2
  have b1 := h.b1 c; have b2 := h.b2 c; have e1 := h.e1 c; have e2 := h.e2 c
  have be := h.be c; have eb := h.eb c
  have bs := h.bs (c - 1); rw [show c - 1 + 1 = c by omega] at bs
  constructor
  · rintro ⟨y, y1, y2, hy, hz⟩
    refine ⟨y, hy, fun z hzt => ?_⟩
    by_cases z1 : c ≤ z
    · by_cases z2 : z ≤ c + 2
      · exact hz z z1 z2 hzt
      · have := hE2 z (by omega); omega
    · -- E z of an earlier year
      have a : E z ≤ E (c - 1) := by
        by_cases q : z = c - 1
        · subst q; omega
        · have := step_mono h.es (show z < c - 1 by omega); omega
      have b : B c ≤ B y := by
        by_cases q : y = c
        · subst q; omega
        · have := step_mono h.bs (show c < y by omega); omega
      omega
  · rintro ⟨y, hy, hz⟩
    have y2 : y ≤ c + 2 := by
      by_cases q : y ≤ c + 2
      · exact q
      · have := hB2 y (by omega); omega
    by_cases y1 : c ≤ y
    · exact ⟨y, y1, y2, hy, fun z _ _ hzt => hz z hzt⟩
    · have a : B y ≤ B (c - 1) := by
        by_cases q : y = c - 1
        · subst q; omega
        · have := step_mono h.bs (show y < c - 1 by omega); omega
      by_cases q : B c ≤ t
      · exact ⟨c, by omega, by omega, q, fun z _ _ hzt => by have := hz z hzt; omega⟩
      · -- then B c is in the last three hours; E c is over; so B (c-1) > E c, and both B lie at the end of their years
        have hEc : E c ≤ t := by have := be (by omega); omega
        have := hz c hEc
        omega

/-- no turn between two instants: no change -/
theorem sumA_same {t t' : Int} (h : t ≤ t') (hB : ∀ y, ¬ (t < B y ∧ B y ≤ t')) (hE : ∀ y, ¬ (t < E y ∧ E y ≤ t')) : SumA B E t ↔ SumA B E t' := by
  constructor
  · rintro ⟨y, hy, hz⟩
    refine ⟨y, by omega, fun z hzt => ?_⟩
    by_cases q : E z ≤ t
    · exact hz z q
    · exact absurd ⟨by omega, hzt⟩ (hE z)
  · rintro ⟨y, hy, hz⟩
    by_cases q : B y ≤ t
    · exact ⟨y, q, fun z hzt => hz z (by omega)⟩
    · exact absurd ⟨by omega, hy⟩ (hB y)

/-- what the search over turns knows of those of the years in S -/
def Inv (B E : Int → Int) (t : Int) (S : Int → Prop) (best : Int) (out has : Bool) : Prop :=
  (has = false → out = false ∧ ∀ y, S y → t < B y ∧ t < E y) ∧
  (has = true → best ≤ t ∧ (∀ y, S y → B y ≤ t → B y ≤ best) ∧ (∀ y, S y → E y ≤ t → E y ≤ best) ∧
    (out = true → (∃ y, S y ∧ B y = best) ∧ ∀ y, S y → E y ≤ t → E y < best) ∧ (out = false → ∃ y, S y ∧ E y = best))
theorem Inv.start (t best : Int) : Inv B E t (fun _ => False) best false false := ⟨fun _ => ⟨rfl, fun _ h => h.elim⟩, fun h => by cases h⟩
theorem Inv.fin {t lo hi best : Int} {out has : Bool} (h : Inv B E t (fun y => lo ≤ y ∧ y ≤ hi) best out has) : out = true ↔ SumW B E lo hi t := by
  constructor
  · intro ho
    cases has with
    | false => have := (h.1 rfl).1; rw [this] at ho; cases ho
    | true =>
      obtain ⟨h1, h2, h3, h4, _⟩ := h.2 rfl
      obtain ⟨⟨y, hy, rfl⟩, hE⟩ := h4 ho
      exact ⟨y, hy.1, hy.2, h1, fun z z1 z2 hz => hE z ⟨z1, z2⟩ hz⟩
  · rintro ⟨y, y1, y2, hy, hz⟩
    cases has with
    | false => have := (h.1 rfl).2 y ⟨y1, y2⟩; omega
    | true =>
      obtain ⟨h1, h2, h3, _, h5⟩ := h.2 rfl
      cases out with
      | true => rfl
      | false =>
        obtain ⟨z, hz', he⟩ := h5 rfl
        have := h2 y ⟨y1, y2⟩ hy
        have := hz z hz'.1 hz'.2 (by omega)
        omega
/-- one year more: first its Begin, then its End -/
theorem Inv.next {t k best best1 best2 : Int} {S S' : Int → Prop} {out has out1 has1 out2 has2 : Bool} (h : Inv B E t S best out has) (hS : ∀ y, S' y ↔ S y ∨ y = k)
    (h1 : (B k ≤ t ∧ (has = false ∨ best < B k) ∧ best1 = B k ∧ out1 = true ∧ has1 = true) ∨ (¬ (B k ≤ t ∧ (has = false ∨ best < B k)) ∧ best1 = best ∧ out1 = out ∧ has1 = has))
    (h2 : (E k ≤ t ∧ (has1 = false ∨ best1 ≤ E k) ∧ best2 = E k ∧ out2 = false ∧ has2 = true) ∨ (¬ (E k ≤ t ∧ (has1 = false ∨ best1 ≤ E k)) ∧ best2 = best1 ∧ out2 = out1 ∧ has2 = has1)) :
    Inv B E t S' best2 out2 has2 := by
  obtain ⟨hf, ht⟩ := h
  have hk : S' k := (hS k).2 (.inr rfl)
  have hsub : ∀ y, S y → S' y := fun y hy => (hS y).2 (.inl hy)
  rcases h1 with ⟨a1, a2, rfl, rfl, rfl⟩ | ⟨a1, rfl, rfl, rfl⟩
  · rcases h2 with ⟨c1, c2, rfl, rfl, rfl⟩ | ⟨c1, rfl, rfl, rfl⟩
    · refine ⟨fun h => (by cases h), fun _ => ⟨c1, fun y hy hy2 => ?_, fun y hy hy2 => ?_, fun h => (by cases h), fun _ => ⟨k, hk, rfl⟩⟩⟩
      · rcases (hS y).1 hy with q | rfl
        · cases has with
          | false => have := (hf rfl).2 y q; omega
          | true => have := (ht rfl).2.1 y q hy2; simp at a2 c2; omega
        · simp at c2; exact c2
      · rcases (hS y).1 hy with q | rfl
        · cases has with
          | false => have := (hf rfl).2 y q; omega
          | true => have := (ht rfl).2.2.1 y q hy2; simp at a2 c2; omega
        · omega
    · simp at c1
      refine ⟨fun h => (by cases h), fun _ => ⟨a1, fun y hy hy2 => ?_, fun y hy hy2 => ?_, fun _ => ⟨⟨k, hk, rfl⟩, fun y hy hy2 => ?_⟩, fun h => (by cases h)⟩⟩
      · rcases (hS y).1 hy with q | rfl
        · cases has with
          | false => have := (hf rfl).2 y q; omega
          | true => have := (ht rfl).2.1 y q hy2; simp at a2; omega
        · omega
      · rcases (hS y).1 hy with q | rfl
        · cases has with
          | false => have := (hf rfl).2 y q; omega
          | true => have := (ht rfl).2.2.1 y q hy2; simp at a2; omega
        · have := c1 hy2; omega
      · rcases (hS y).1 hy with q | rfl
        · cases has with
          | false => have := (hf rfl).2 y q; omega
          | true => have := (ht rfl).2.2.1 y q hy2; simp at a2; omega
        · exact c1 hy2
  · rcases h2 with ⟨c1, c2, rfl, rfl, rfl⟩ | ⟨c1, rfl, rfl, rfl⟩
    · refine ⟨fun h => (by cases h), fun _ => ⟨c1, fun y hy hy2 => ?_, fun y hy hy2 => ?_, fun h => (by cases h), fun _ => ⟨k, hk, rfl⟩⟩⟩
      · rcases (hS y).1 hy with q | rfl
        · cases has1 with
          | false => have := (hf rfl).2 y q; omega
          | true => have := (ht rfl).2.1 y q hy2; simp at c2; omega
        · cases has1 with
          | false => exact absurd ⟨hy2, .inl rfl⟩ a1
          | true => simp at a1 c2; have := a1 hy2; omega
      · rcases (hS y).1 hy with q | rfl
        · cases has1 with
          | false => have := (hf rfl).2 y q; omega
          | true => have := (ht rfl).2.2.1 y q hy2; simp at c2; omega
        · omega
    · cases has2 with
      | false =>
        simp at a1 c1
        obtain ⟨o, hn⟩ := hf rfl
        refine ⟨fun _ => ⟨o, fun y hy => ?_⟩, fun h => (by cases h)⟩
        rcases (hS y).1 hy with q | rfl
        · exact hn y q
        · exact ⟨a1, c1⟩
      | true =>
        simp at a1 c1
        obtain ⟨g1, g2, g3, g4, g5⟩ := ht rfl
        refine ⟨fun h => (by cases h), fun _ => ⟨g1, fun y hy hy2 => ?_, fun y hy hy2 => ?_, fun ho => ?_, fun ho => ?_⟩⟩
        · rcases (hS y).1 hy with q | rfl
          · exact g2 y q hy2
          · exact a1 hy2
        · rcases (hS y).1 hy with q | rfl
          · exact g3 y q hy2
          · have := c1 hy2; omega
        · obtain ⟨⟨y, hy, e⟩, hE⟩ := g4 ho
          refine ⟨⟨y, hsub y hy, e⟩, fun z hz hz2 => ?_⟩
          rcases (hS z).1 hz with q | rfl
          · exact hE z q hz2
          · exact c1 hz2
        · obtain ⟨y, hy, e⟩ := g5 ho
          exact ⟨y, hsub y hy, e⟩
end
end Go.Sym.Zn
/- The plain functions of the dates package. -/
namespace Go.Sym
open Cal Zn

abbrev T_api_Fault : Type := Int × Int
abbrev T_api_Date : Type := Int × Int × Int × Int × Int × Int × Int
abbrev T_api_Turn : Type := Int × Int × Int × Int
abbrev T_api_Zone : Type := List UInt8 × Int × Int × T_api_Turn × T_api_Turn

theorem w64_eq {x : Int} (h1 : -9223372036854775808 ≤ x) (h2 : x < 9223372036854775808) : w64 x = x := by
  unfold w64 IntKind.wrap
  simp [IntKind.signed, IntKind.bits]
  omega
theorem bif_t {α : Type} {b : Bool} {x y : α} (h : b = true) : (bif b then x else y) = x := by subst h; rfl
theorem bif_f {α : Type} {b : Bool} {x y : α} (h : b = false) : (bif b then x else y) = y := by subst h; rfl
theorem bif_d {α : Type} {p : Prop} [Decidable p] {x y : α} : (bif decide p then x else y) = if p then x else y := by by_cases h : p <;> simp [h]

@[simp] theorem dates_within_eq (x a b : Int) : F_dates_within x a b = some (decide (a ≤ x ∧ x ≤ b)) := by
  unfold F_dates_within; by_cases h : a ≤ x <;> simp [h]
@[simp] theorem zones_within_eq (x a b : Int) : F_zones_within x a b = some (decide (a ≤ x ∧ x ≤ b)) := by
  unfold F_zones_within; by_cases h : a ≤ x <;> simp [h]
@[simp] theorem r1_in_eq (x a b : Int) : F_R1_In x a b = some (decide (a ≤ x ∧ x ≤ b)) := by
  unfold F_R1_In; by_cases h : a ≤ x <;> simp [h]
theorem leap_eq (y : Int) (h : 0 ≤ y) : F_dates_leap y = some (lpB y) := by
  unfold F_dates_leap lpB
  rw [Int.tmod_eq_emod_of_nonneg h, Int.tmod_eq_emod_of_nonneg h, Int.tmod_eq_emod_of_nonneg h]
  cases h1 : (y % 4 == 0) <;> cases h2 : (y % 100 != 0) <;> simp
theorem rleap_eq (y : Int) (h : 0 ≤ y) : F_R1_Leap y = some (lpB y) := by
  unfold F_R1_Leap lpB
  rw [Int.tmod_eq_emod_of_nonneg h, Int.tmod_eq_emod_of_nonneg h, Int.tmod_eq_emod_of_nonneg h]
  cases h1 : (y % 4 == 0) <;> cases h2 : (y % 100 != 0) <;> simp
  all_goals (simp at h1; omega)
theorem lp_t {y : Int} (h : lpB y = true) : lp y = 1 := by unfold lp; rw [if_pos h]
theorem lp_f {y : Int} (h : lpB y = false) : lp y = 0 := by unfold lp; rw [if_neg (by rw [h]; decide)]
def months : List Int := [31, 28, 31, 30, 31, 30, 31, 31, 30, 31, 30, 31]
theorem months_idx (m : Int) (h1 : 1 ≤ m) (h2 : m ≤ 12) : idx ([31, 28, 31, 30, 31, 30, 31, 31, 30, 31, 30, 31] : List Int) (w64 (m - 1)) = some (dim0 m) := by
  rw [w64_eq (by omega) (by omega)]
  rcases month_cases m h1 h2 with h | h | h | h | h | h | h | h | h | h | h | h <;> subst h <;> rfl
theorem length_eq (y m : Int) (hy : 0 ≤ y) (h1 : 1 ≤ m) (h2 : m ≤ 12) : F_dates_length y m = some (dim y m) := by
  unfold F_dates_length
  rw [months_idx m h1 h2, Option.bind_some]
  by_cases e : m = 2
  · subst e
    rw [leap_eq y hy]
    cases hl : lpB y
    · simp [dim, dim0, lp_f hl]
    · simp [dim, dim0, lp_t hl]; rfl
  · have e' : (m == 2) = false := by simp [e]
    simp [e, e', dim]
theorem rowidx {α β : Type} (l : List α) (i : Int) (f : α → Option β) : (bif decide (0 ≤ i ∧ i.toNat < List.length l) then (l[i.toNat]?).bind f else none) = (idx l i).bind f := by
  unfold idx
  by_cases h : 0 ≤ i
  · by_cases h2 : i.toNat < l.length
    · simp [h, h2]
    · simp [h, h2]
  · simp [h]
theorem rlength_eq (y m : Int) (hy : 0 ≤ y) (h1 : 1 ≤ m) (h2 : m ≤ 12) : F_R1_MonthDays y m = some (dim y m) := by
  unfold F_R1_MonthDays
  simp only [rowidx]
  rw [months_idx m h1 h2]
  by_cases e : m = 2
  · subst e
    rw [rleap_eq y hy]
    cases hl : lpB y
    · simp [dim, dim0, lp_f hl]
    · simp [dim, lp_t hl]
  · have e' : (m == 2) = false := by simp [e]
    simp [e, e', dim]
theorem before_eq (y : Int) (h1 : 1 ≤ y) (h2 : y ≤ 4001) : F_dates_before y = some (bef y) := by
  unfold F_dates_before bef
  rw [w64_eq (x := y - 1) (by omega) (by omega)]
  rw [Int.tdiv_eq_ediv_of_nonneg (by omega), Int.tdiv_eq_ediv_of_nonneg (by omega), Int.tdiv_eq_ediv_of_nonneg (by omega)]
  simp (discharger := omega) only [w64_eq]
theorem day_loop (fu : Nat) (y m : Int) (hy1 : 1 ≤ y) (hy2 : y ≤ 4001) (hm : m ≤ 12) : ∀ (n : Nat) (a k : Int), 1 ≤ k → k ≤ m → m - k < n → -10000000 ≤ a - cum y k → a - cum y k ≤ 10000000 →
    F_dates_day_p0 fu n y m a k = some (a + cum y m - cum y k) := by
  intro n
  induction n with
  | zero => intro a k h1 h2 h3; omega
  | succ n ih =>
    intro a k h1 h2 h3 h4 h5
    rw [F_dates_day_p0, F_dates_day_b0]
    by_cases c : k < m
    · have hc := cum_succ y k h1 (by omega)
      have hb := cum_bd y k h1 (by omega)
      have hd := dim_bd y k
      rw [bif_t (by simp [c]), length_eq y k (by omega) h1 (by omega), Option.bind_some, w64_eq (by omega) (by omega), w64_eq (by omega) (by omega),
        ih _ _ (by omega) (by omega) (by omega) (by omega) (by omega)]
      congr 1; omega
    · have : k = m := by omega
      subst this
      rw [bif_f (by simp)]; congr 1; omega
theorem day_eq (fu : Nat) (hf : 20 ≤ fu) (y m d : Int) (hy1 : 1 ≤ y) (hy2 : y ≤ 4001) (h1 : 1 ≤ m) (h2 : m ≤ 12) (h3 : -1000 ≤ d) (h4 : d ≤ 1000) : F_dates_day fu y m d = some (day y m d) := by
  unfold F_dates_day
  have hb := bef_bd y hy1 hy2
  have hc := cum_one y
  rw [before_eq y hy1 hy2, Option.bind_some, before_eq 1970 (by omega) (by omega), Option.bind_some, bef_1970]
  simp (discharger := omega) only [w64_eq]
  rw [day_loop fu y m hy1 hy2 h2 fu _ 1 (by omega) h1 (by omega) (by omega) (by omega), hc]
  unfold day; congr 1; omega
theorem ystart_down (fu : Nat) : ∀ (n : Nat) (a k : Int), 1 ≤ k → k ≤ 1970 → 1970 - k < n → -10000000 ≤ a - (1970 - k) → a ≤ 10000000 →
    F_R1_YearStart_p2 fu n a k = some (a - (bef 1970 - bef k - 365 * (1970 - k))) := by
  intro n
  induction n with
  | zero => intro a k h1 h2 h3; omega
  | succ n ih =>
    intro a k h1 h2 h3 h4 h5
    rw [F_R1_YearStart_p2, F_R1_YearStart_b2]
    by_cases c : k < 1970
    · have hb := bef_succ k
      rw [bif_t (by simp [c]), rleap_eq k (by omega), Option.bind_some]
      cases hl : lpB k
      · have := lp_f hl
        rw [bif_f rfl, w64_eq (by omega) (by omega), ih _ _ (by omega) (by omega) (by omega) (by omega) (by omega)]; congr 1; omega
      · have := lp_t hl
        rw [bif_t rfl, w64_eq (by omega) (by omega), w64_eq (by omega) (by omega), ih _ _ (by omega) (by omega) (by omega) (by omega) (by omega)]; congr 1; omega
    · have : k = 1970 := by omega
      subst this
      rw [bif_f (by simp)]; congr 1; omega
theorem ystart_end (fu : Nat) (hf : 1 ≤ fu) (a y : Int) (hy : 1970 ≤ y) : F_R1_YearStart_p2 fu fu a y = some a := by
  obtain ⟨n, rfl⟩ : ∃ n, fu = n + 1 := ⟨fu - 1, by omega⟩
  rw [F_R1_YearStart_p2, F_R1_YearStart_b2, bif_f (by simp; omega)]
theorem ystart_up (fu : Nat) (hf : 1 ≤ fu) (y : Int) (hy2 : y ≤ 4001) : ∀ (n : Nat) (a k : Int), 1970 ≤ k → k ≤ y → y - k < n → -1000000 ≤ a → a + (4001 - k) ≤ 1000000 →
    F_R1_YearStart_p0 fu n y a k = some (a + (bef y - bef k - 365 * (y - k))) := by
  intro n
  induction n with
  | zero => intro a k h1 h2 h3; omega
  | succ n ih =>
    intro a k h1 h2 h3 h4 h5
    rw [F_R1_YearStart_p0, F_R1_YearStart_b0]
    by_cases c : k < y
    · have hb := bef_succ k
      rw [bif_t (by simp [c]), rleap_eq k (by omega), Option.bind_some]
      cases hl : lpB k
      · have := lp_f hl
        rw [bif_f rfl, F_R1_YearStart_p1, w64_eq (by omega) (by omega), ih _ _ (by omega) (by omega) (by omega) (by omega) (by omega)]; congr 1; omega
      · have := lp_t hl
        rw [bif_t rfl, F_R1_YearStart_p1, w64_eq (by omega) (by omega), w64_eq (by omega) (by omega), ih _ _ (by omega) (by omega) (by omega) (by omega) (by omega)]; congr 1; omega
    · have : k = y := by omega
      subst this
      rw [bif_f (by simp), ystart_end fu hf _ _ (by omega)]; congr 1; omega
theorem ystart_eq (fu : Nat) (hf : 5000 ≤ fu) (y : Int) (hy1 : 1 ≤ y) (hy2 : y ≤ 4001) : F_R1_YearStart fu y = some (bef y - 719162) := by
  unfold F_R1_YearStart
  simp (discharger := omega) only [w64_eq]
  have e := bef_1970
  by_cases c : 1970 ≤ y
  · rw [ystart_up fu (by omega) y hy2 fu _ _ (by omega) c (by omega) (by omega) (by omega), e]; congr 1; omega
  · obtain ⟨n, rfl⟩ : ∃ n, fu = n + 1 := ⟨fu - 1, by omega⟩
    rw [F_R1_YearStart_p0, F_R1_YearStart_b0, bif_f (by simp; omega), ystart_down _ _ _ _ (by omega) (by omega) (by omega) (by omega) (by omega), e]; congr 1; omega
theorem dnum_loop (fu : Nat) (y m : Int) (hy1 : 1 ≤ y) (hy2 : y ≤ 4001) (hm : m ≤ 12) : ∀ (n : Nat) (a k : Int), 1 ≤ k → k ≤ m → m - k < n → -10000000 ≤ a - cum y k → a - cum y k ≤ 10000000 →
    F_R1_DayNumber_p0 fu n y m a k = some (a + cum y m - cum y k) := by
  intro n
  induction n with
  | zero => intro a k h1 h2 h3; omega
  | succ n ih =>
    intro a k h1 h2 h3 h4 h5
    rw [F_R1_DayNumber_p0, F_R1_DayNumber_b0]
    by_cases c : k < m
    · have hc := cum_succ y k h1 (by omega)
      have hb := cum_bd y k h1 (by omega)
      have hd := dim_bd y k
      rw [bif_t (by simp [c]), rlength_eq y k (by omega) h1 (by omega), Option.bind_some, w64_eq (by omega) (by omega), w64_eq (by omega) (by omega),
        ih _ _ (by omega) (by omega) (by omega) (by omega) (by omega)]
      congr 1; omega
    · have : k = m := by omega
      subst this
      rw [bif_f (by simp)]; congr 1; omega
theorem dnum_eq (fu : Nat) (hf : 5000 ≤ fu) (y m d : Int) (hy1 : 1 ≤ y) (hy2 : y ≤ 4001) (h1 : 1 ≤ m) (h2 : m ≤ 12) (h3 : -1000 ≤ d) (h4 : d ≤ 1000) : F_R1_DayNumber fu y m d = some (day y m d) := by
  unfold F_R1_DayNumber
  have hb := bef_bd y hy1 hy2
  have hc := cum_one y
  rw [ystart_eq fu hf y hy1 hy2, Option.bind_some]
  simp (discharger := omega) only [w64_eq]
  rw [dnum_loop fu y m hy1 hy2 h2 fu _ 1 (by omega) h1 (by omega) (by omega) (by omega), hc]
  unfold day; congr 1; omega
theorem split_eq (x b : Int) (hb : 0 < b) (hb2 : b ≤ 100000) (h1 : -1000000000000 ≤ x) (h2 : x ≤ 1000000000000) : F_dates_split x b = some (x / b, x % b) := by
  unfold F_dates_split
  have hb0 : decide (b ≠ 0) = true := decide_eq_true (by omega)
  rw [bif_t hb0, bif_t hb0, bif_t hb0]
  have e : Int.tmod (w64 (Int.tmod x b + b)) b = x % b := by
    have a1 := Int.tmod_lt_of_pos x hb
    have a2 : -b < Int.tmod x b := by
      have := Int.lt_tmod_of_pos x hb; omega
    rw [w64_eq (by omega) (by omega), Int.tmod_eq_emod_of_nonneg (by omega)]
    rw [Int.add_emod_right]
    by_cases hx : 0 ≤ x
    · rw [Int.tmod_eq_emod_of_nonneg hx, Int.emod_emod]
    · rw [Int.tmod_def x b, Int.sub_mul_emod_self_left]
  rw [e]
  have m1 := Int.emod_nonneg x (show b ≠ 0 by omega)
  have m2 := Int.emod_lt_of_pos x hb
  have ed := Int.mul_ediv_add_emod x b
  have e3 : x - x % b = b * (x / b) := by omega
  rw [w64_eq (x := x - x % b) (by omega) (by omega), e3, Int.mul_tdiv_cancel_left _ (by omega)]
  have bd : -1000000000000 ≤ x / b ∧ x / b ≤ 1000000000000 := by
    constructor
    · rw [Int.le_ediv_iff_mul_le hb]
      have : -1000000000000 * b ≤ -1000000000000 * 1 := by omega
      omega
    · exact Int.le_trans (Int.ediv_le_ediv hb h2) (Int.ediv_le_self _ (by omega))
  rw [w64_eq (by omega) (by omega)]
end Go.Sym
/- The plain functions of the dates package: the civil date of an instant. -/
namespace Go.Sym
open Cal Zn

theorem tdiv_n {x k : Int} (h : x < 0) : Int.tdiv x k = -((-x) / k) := by
  have := Int.neg_tdiv (a := -x) (b := k)
  rw [Int.neg_neg] at this
  rw [this, Int.tdiv_eq_ediv_of_nonneg (by omega)]
theorem tmod_n {x k : Int} (h : x < 0) : Int.tmod x k = -((-x) % k) := by
  have := Int.neg_tmod (a := -x) (b := k)
  rw [Int.neg_neg] at this
  rw [this, Int.tmod_eq_emod_of_nonneg (by omega)]
theorem tdiv_p {x k : Int} (h : 0 ≤ x) : Int.tdiv x k = x / k := Int.tdiv_eq_ediv_of_nonneg h
theorem tmod_p {x k : Int} (h : 0 ≤ x) : Int.tmod x k = x % k := Int.tmod_eq_emod_of_nonneg h

@[simp] theorem none_eq : F_basic_None = some ⟨0, 0⟩ := rfl
@[simp] theorem fault_eq (a b : Int) : F_basic_Fault a b = some ⟨a, b⟩ := rfl
@[simp] theorem at_eq (a b : Int) : F_R1_At a b = some ⟨a, b⟩ := rfl
@[simp] theorem failed_eq (f : T_api_Fault) : F_basic_Failed f = some (f.1 != 0) := rfl
@[simp] theorem time_eq (t : Int) : F_basic_Time t = some (decide (-68719476736 ≤ t ∧ t ≤ 68719476736)) := by
  unfold F_basic_Time; by_cases h : -68719476736 ≤ t <;> simp [h]

/-- the civil date of a day and a second -/
noncomputable def civD (n s z : Int) : T_api_Date := ⟨(civ n).1, (civ n).2.1, (civ n).2.2, s / 3600, s / 60 % 60, s % 60, z⟩

theorem year_le {n y m d k : Int} (h : Vld y m d) (e : day y m d = n) : day k 1 1 ≤ n ↔ k ≤ y := by
  have a := day_year y m d h
  have : day k 1 1 = bef k - 719162 := by unfold day; rw [cum_one]; omega
  rw [this]
  constructor
  · intro hk
    by_cases c : k ≤ y
    · exact c
    · have := bef_mono (y + 1) k (by omega); omega
  · intro hk
    have := bef_mono k y hk; omega
theorem month_le {n y m d k : Int} (h : Vld y m d) (e : day y m d = n) (k1 : 1 ≤ k) (k2 : k ≤ 12) : day y k 1 ≤ n ↔ k ≤ m := by
  have a := day_month y m d h
  have : day y k 1 = bef y - 719162 + cum y k := by unfold day; omega
  rw [this]
  constructor
  · intro hk
    by_cases c : k ≤ m
    · exact c
    · have := cum_mono y (m + 1) k (by have := h.2.2.1; omega) (by omega) (by omega); omega
  · intro hk
    have := cum_mono y k m k1 hk (by have := h.2.2.2.1; omega); omega

theorem civil_month (fu : Nat) (hf : 20 ≤ fu) {N y m d : Int} (s z : Int) (m1 : T_api_Date) (m2 : T_api_Fault) (h : Vld y m d) (e : day y m d = N) (hs : 0 ≤ s) (hs2 : s < 86400) : ∀ (n : Nat) (k : Int), m ≤ k → k ≤ 12 → k - m < n →
    F_dates_Civil_p5 fu n z N s y k m1 m2 = some ((y, m, d, s / 3600, s / 60 % 60, s % 60, z), (0, 0)) := by
  obtain ⟨v1, v2, v3, v4, v5, v6⟩ := h
  have hd := dim_bd y m
  have hN := vld_day y m d ⟨v1, v2, v3, v4, v5, v6⟩
  intro n
  induction n with
  | zero => intro k h1 h2 h3; omega
  | succ n ih =>
    intro k h1 h2 h3
    rw [F_dates_Civil_p5, F_dates_Civil_b5, day_eq fu hf y k 1 v1 (by omega) (by omega) h2 (by omega) (by omega), Option.bind_some]
    have hl := month_le (k := k) ⟨v1, v2, v3, v4, v5, v6⟩ e (by omega) h2
    by_cases c : k ≤ m
    · have : k = m := by omega
      subst this
      have := day_one y k d
      have b := day_bd y k 1 v1 (by omega) v3 (by omega) (by omega) (by omega)
      rw [bif_f (by simp; exact hl.2 c), none_eq]
      simp only [Option.bind_some]
      simp (discharger := omega) only [w64_eq, tdiv_p, tmod_p]
      have e1 : N - day y k 1 + 1 = d := by omega
      rw [e1]
    · rw [bif_t (by simp; have := mt hl.1 c; omega), w64_eq (by omega) (by omega), ih _ (by omega) (by omega) (by omega)]
theorem civil_year (fu : Nat) (hf : 20 ≤ fu) {N y m d : Int} (s z : Int) (m1 : T_api_Date) (m2 : T_api_Fault) (h : Vld y m d) (e : day y m d = N) (hs : 0 ≤ s) (hs2 : s < 86400) : ∀ (j n : Nat) (k : Int), j ≤ 12 → 1 ≤ k → k ≤ y → y < k + 2 ^ j → j < n →
    F_dates_Civil_p2 fu n z N s k ((2 ^ j / 2 : Nat) : Int) m1 m2 = some ((y, m, d, s / 3600, s / 60 % 60, s % 60, z), (0, 0)) := by
  have h' := h
  obtain ⟨v1, v2, v3, v4, v5, v6⟩ := h'
  intro j
  induction j with
  | zero =>
    intro n k hj h1 h2 h3 h4
    obtain ⟨n, rfl⟩ : ∃ q, n = q + 1 := ⟨n - 1, by omega⟩
    have : k = y := by simp at h3; omega
    subst this
    rw [F_dates_Civil_p2, F_dates_Civil_b2, bif_f (by simp), civil_month fu hf s z m1 m2 h e hs hs2 fu 12 v4 (by omega) (by omega)]
  | succ j ih =>
    intro n k hj h1 h2 h3 h4
    obtain ⟨n, rfl⟩ : ∃ q, n = q + 1 := ⟨n - 1, by omega⟩
    have e2 : (2 ^ (j + 1) / 2 : Nat) = 2 ^ j := by rw [Nat.pow_succ]; omega
    have e3 : (2 : Int) ^ (j + 1) = 2 * ((2 ^ j : Nat) : Int) := by rw [Int.pow_succ]; simp; omega
    rw [e3] at h3
    have e4 : ((2 : Int) ^ j) = ((2 ^ j : Nat) : Int) := by simp
    have ih' := ih n
    rw [e4] at ih'
    have p1 : 0 < 2 ^ j := Nat.pow_pos (by omega)
    have p2 : 2 ^ j ≤ 2 ^ 11 := Nat.pow_le_pow_right (by omega) (by omega)
    have ed : ((2 ^ j / 2 : Nat) : Int) = ((2 ^ j : Nat) : Int) / 2 := by omega
    rw [e2]
    rw [ed] at ih'
    generalize 2 ^ j = P at *
    rw [F_dates_Civil_p2, F_dates_Civil_b2, bif_t (by simp; omega)]
    simp only [F_dates_Civil_p3, F_dates_Civil_p4]
    simp (discharger := omega) only [w64_eq, tdiv_p]
    by_cases c : k + (P : Int) ≤ 4000
    · rw [bif_t (by simp; exact c), day_eq fu hf _ 1 1 (by omega) (by omega) (by omega) (by omega) (by omega) (by omega), Option.bind_some]
      have hl := year_le (k := k + (P : Int)) h e
      by_cases c2 : k + (P : Int) ≤ y
      · rw [bif_t (by simp; exact hl.2 c2)]
        exact ih' _ (by omega) (by omega) c2 (by omega) (by omega)
      · rw [bif_f (by simp; have := mt hl.1 c2; omega)]
        exact ih' _ (by omega) (by omega) h2 (by omega) (by omega)
    · rw [bif_f (by simp; omega)]
      exact ih' _ (by omega) (by omega) h2 (by omega) (by omega)
/-- what dates.Civil hands back -/
noncomputable def CivR (t z : Int) : T_api_Date × T_api_Fault :=
  if ¬ (-68719476736 ≤ t ∧ t ≤ 68719476736) then (⟨0, 0, 0, 0, 0, 0, 0⟩, ⟨3, -2⟩) else
  if ¬ (-900 ≤ z ∧ z ≤ 900) then (⟨0, 0, 0, 0, 0, 0, 0⟩, ⟨3, -4⟩) else
  if (t + 60 * z) / 86400 < -719162 ∨ 741807 < (t + 60 * z) / 86400 then (⟨0, 0, 0, 0, 0, 0, 0⟩, ⟨3, -3⟩) else
  (civD ((t + 60 * z) / 86400) ((t + 60 * z) % 86400) z, ⟨0, 0⟩)
theorem civil_eq (fu : Nat) (hf : 20 ≤ fu) (t z : Int) : F_dates_Civil fu t z = some (CivR t z) := by
  unfold F_dates_Civil CivR
  rw [time_eq, Option.bind_some]
  by_cases c1 : -68719476736 ≤ t ∧ t ≤ 68719476736
  · rw [bif_f (by simp [c1]), if_neg (by simp [c1]), dates_within_eq, Option.bind_some]
    by_cases c2 : -900 ≤ z ∧ z ≤ 900
    · rw [bif_f (by simp [c2]), if_neg (by simp [c2])]
      simp (discharger := omega) only [w64_eq]
      rw [split_eq _ _ (by omega) (by omega) (by omega) (by omega), Option.bind_some, day_eq fu hf 1 1 1 (by omega) (by omega) (by omega) (by omega) (by omega) (by omega), Option.bind_some, day_min]
      generalize hN : (t + 60 * z) / 86400 = N
      generalize hS : (t + 60 * z) % 86400 = S
      by_cases c3 : N < -719162
      · rw [bif_t (by simp; exact c3), if_pos (.inl c3)]; rfl
      · rw [bif_f (by simp; omega), day_eq fu hf 4000 12 31 (by omega) (by omega) (by omega) (by omega) (by omega) (by omega), Option.bind_some, day_max]
        unfold F_dates_Civil_p0 F_dates_Civil_p1
        by_cases c4 : 741807 < N
        · rw [bif_t (by simp; exact c4), if_pos (.inr c4)]; rfl
        · rw [bif_f (by simp; omega), if_neg (by omega)]
          obtain ⟨hv, he⟩ := civ_vld N (by omega) (by omega)
          have := civil_year fu hf S z (0, 0, 0, 0, 0, 0, 0) (0, 0) hv he (by omega) (by omega) 12 fu 1 (by omega) (by omega) hv.1 (by have := hv.2.1; omega) (by omega)
          exact this
    · rw [bif_t (by simp; omega), if_pos c2]; rfl
  · rw [bif_t (by simp; omega), if_pos c1]; rfl
end Go.Sym
/- The plain functions: the reference's date of an instant; validation; weekdays and instants. -/
namespace Go.Sym
open Cal Zn

theorem dof_month (fu : Nat) {N y m d : Int} (s z : Int) (m1 : T_api_Date) (h : Vld y m d) (e : day y m d = N) (hs : 0 ≤ s) (hs2 : s < 86400) : ∀ (n : Nat) (k : Int), 1 ≤ k → k ≤ m → m - k < n →
    F_R1_DateOf_p5 fu n z s (N + 719162 - bef y - cum y k) y k m1 = some ((y, m, d, s / 3600, s / 60 % 60, s % 60, z), true) := by
  have a := day_month y m d h
  have hN := vld_day y m d h
  obtain ⟨v1, v2, v3, v4, v5, v6⟩ := h
  have hb := bef_bd y v1 (by omega)
  rw [e] at a
  intro n
  induction n with
  | zero => intro k h1 h2 h3; omega
  | succ n ih =>
    intro k h1 h2 h3
    have hc := cum_succ y k h1 (by omega)
    have hd := dim_bd y k
    have hcb := cum_bd y k h1 (by omega)
    rw [F_R1_DateOf_p5, F_R1_DateOf_b5, rlength_eq y k (by omega) h1 (by omega), Option.bind_some]
    by_cases c : k < m
    · have := cum_mono y (k + 1) m (by omega) (by omega) (by omega)
      rw [bif_t (by simp; omega), Option.bind_some, w64_eq (by omega) (by omega), w64_eq (by omega) (by omega)]
      have e2 : N + 719162 - bef y - cum y k - dim y k = N + 719162 - bef y - cum y (k + 1) := by omega
      rw [e2, ih _ (by omega) (by omega) (by omega)]
    · have : k = m := by omega
      subst this
      rw [bif_f (by simp; omega)]
      simp (discharger := omega) only [w64_eq, tdiv_p, tmod_p]
      have e1 : N + 719162 - bef y - cum y k + 1 = d := by unfold day at e; omega
      rw [e1]
theorem dof_year (fu : Nat) (hf : 5000 ≤ fu) {N y m d : Int} (s z : Int) (m1 : T_api_Date) (h : Vld y m d) (e : day y m d = N) (hs : 0 ≤ s) (hs2 : s < 86400) : ∀ (n : Nat) (k : Int), 1 ≤ k → k ≤ y → y - k < n →
    F_R1_DateOf_p4 fu n z s N k m1 = some ((y, m, d, s / 3600, s / 60 % 60, s % 60, z), true) := by
  have a := day_year y m d h
  have hN := vld_day y m d h
  have hm := dof_month fu s z m1 h e hs hs2 fu 1 (by omega) h.2.2.1 (by have := h.2.2.2.1; omega)
  obtain ⟨v1, v2, v3, v4, v5, v6⟩ := h
  have hb := bef_bd y v1 (by omega)
  rw [e] at a
  rw [cum_one] at hm
  intro n
  induction n with
  | zero => intro k h1 h2 h3; omega
  | succ n ih =>
    intro k h1 h2 h3
    rw [F_R1_DateOf_p4, F_R1_DateOf_b4, w64_eq (by omega) (by omega), ystart_eq fu hf _ (by omega) (by omega), Option.bind_some]
    by_cases c : k < y
    · have := bef_mono (k + 1) y (by omega)
      rw [bif_t (by simp; omega), ih _ (by omega) (by omega) (by omega)]
    · have : k = y := by omega
      subst this
      rw [bif_f (by simp; omega), ystart_eq fu hf _ (by omega) (by omega), Option.bind_some, w64_eq (by omega) (by omega)]
      have e2 : N - (bef k - 719162) = N + 719162 - bef k - 0 := by omega
      rw [e2, hm]
noncomputable def DatR (t z : Int) : T_api_Date × Bool :=
  if (t + 60 * z) / 86400 < -719162 ∨ 741807 < (t + 60 * z) / 86400 then (⟨0, 0, 0, 0, 0, 0, 0⟩, false) else
  (civD ((t + 60 * z) / 86400) ((t + 60 * z) % 86400) z, true)
/-- the year that the reference begins with -/
theorem guess_n {N y m d : Int} (h : Vld y m d) (e : day y m d = N) (hN : N < 0) : 1970 + -(-N / 365) - 2 ≤ y := by
  have a := day_year y m d h
  rw [e] at a
  by_cases c : 1970 + -(-N / 365) - 2 ≤ y
  · exact c
  · have := bef_mono (y + 1) (1970 + -(-N / 365) - 2) (by omega)
    unfold bef at *; omega
theorem bef_guess (k : Nat) : bef (1970 + k) ≤ 719162 + 366 * k := by
  induction k with
  | zero => decide
  | succ k ih =>
    have a := bef_succ (1970 + k); have b := lp_01 (1970 + k)
    rw [show (1970 : Int) + ((k + 1 : Nat) : Int) = 1970 + k + 1 by omega]; omega
theorem guess_p {N y m d : Int} (h : Vld y m d) (e : day y m d = N) (hN : 0 ≤ N) : 1970 + N / 366 ≤ y := by
  have a := day_year y m d h
  rw [e] at a
  by_cases c : 1970 + N / 366 ≤ y
  · exact c
  · have := bef_mono (y + 1) (1970 + N / 366) (by omega)
    have g := bef_guess (N / 366).toNat
    rw [Int.toNat_of_nonneg (by omega)] at g
    omega
theorem dof_tail (fu : Nat) (hf : 5000 ≤ fu) (N s z : Int) (m1 : T_api_Date) (hs : 0 ≤ s) (hs2 : s < 86400) (hN1 : -719162 ≤ N) (hN2 : N ≤ 741807) :
    F_R1_DateOf_p2 fu z s N m1 = some (civD N s z, true) := by
  obtain ⟨hv, he⟩ := civ_vld N hN1 hN2
  have hy := hv.2.1
  unfold F_R1_DateOf_p2 F_R1_DateOf_p3
  by_cases h : N < 0
  · have g := guess_n hv he h
    rw [bif_t (by simp; exact h), tdiv_n h]
    simp (discharger := omega) only [w64_eq]
    by_cases c : 1970 + -(-N / 365) - 2 < 1
    · rw [bif_t (by simp; exact c), dof_year fu hf s z m1 hv he hs hs2 fu 1 (by omega) hv.1 (by omega)]; rfl
    · rw [bif_f (by simp; omega), dof_year fu hf s z m1 hv he hs hs2 fu _ (by omega) g (by omega)]; rfl
  · have g := guess_p hv he (by omega)
    rw [bif_f (by simp; omega), tdiv_p (by omega)]
    simp (discharger := omega) only [w64_eq]
    rw [bif_f (by simp; omega), dof_year fu hf s z m1 hv he hs hs2 fu _ (by omega) g (by omega)]; rfl
theorem dof_p0 (fu : Nat) (hf : 5000 ≤ fu) (x s z : Int) (m1 : T_api_Date) (_h1 : -100000000000 ≤ x) (_h2 : x ≤ 100000000000) (e : x % 86400 = s) (ew : w64 (Int.tdiv (w64 (x - s)) 86400) = x / 86400) :
    F_R1_DateOf_p0 fu z x s m1 = some (if x / 86400 < -719162 ∨ 741807 < x / 86400 then ((0, 0, 0, 0, 0, 0, 0), false) else (civD (x / 86400) s z, true)) := by
  unfold F_R1_DateOf_p0 F_R1_DateOf_p1
  rw [ew, dnum_eq fu hf 1 1 1 (by omega) (by omega) (by omega) (by omega) (by omega) (by omega), Option.bind_some, day_min]
  have ht := dof_tail fu hf (x / 86400) s z m1 (by omega) (by omega)
  generalize x / 86400 = N at *
  by_cases c3 : N < -719162
  · rw [bif_t (by simp; exact c3), if_pos (.inl c3)]; rfl
  · rw [bif_f (by simp; omega), dnum_eq fu hf 4000 12 31 (by omega) (by omega) (by omega) (by omega) (by omega) (by omega), Option.bind_some, day_max]
    by_cases c4 : 741807 < N
    · rw [bif_t (by simp; exact c4), if_pos (.inr c4)]
    · rw [bif_f (by simp; omega), if_neg (by omega), ht (by omega) (by omega)]
theorem dateof_eq (fu : Nat) (hf : 5000 ≤ fu) (t z : Int) (h1 : -68719476736 ≤ t) (h2 : t ≤ 68719476736) (z1 : -900 ≤ z) (z2 : z ≤ 900) : F_R1_DateOf fu t z = some (DatR t z) := by
  unfold F_R1_DateOf DatR
  simp (discharger := omega) only [w64_eq (x := 60 * z), w64_eq (x := t + 60 * z)]
  generalize hx : t + 60 * z = x
  have hx1 : -100000000000 ≤ x := by omega
  have hx2 : x ≤ 100000000000 := by omega
  clear hx
  by_cases c : x < 0 ∧ x % 86400 ≠ 0
  · rw [tmod_n c.1, bif_t (by simp; omega), w64_eq (by omega) (by omega), show -(-x % 86400) + 86400 = x % 86400 by omega, dof_p0 fu hf x _ z _ hx1 hx2 rfl (by
      rw [w64_eq (x := x - x % 86400) (by omega) (by omega), tdiv_n (by omega), w64_eq (by omega) (by omega)]; omega)]
  · have em : Int.tmod x 86400 = x % 86400 := by
      by_cases c0 : x < 0
      · rw [tmod_n c0]; omega
      · exact tmod_p (by omega)
    rw [em, bif_f (by simp; omega), dof_p0 fu hf x _ z _ hx1 hx2 rfl (by
      by_cases c0 : x < 0
      · rw [w64_eq (x := x - x % 86400) (by omega) (by omega), tdiv_n (by omega), w64_eq (by omega) (by omega)]; omega
      · rw [w64_eq (x := x - x % 86400) (by omega) (by omega), tdiv_p (by omega), w64_eq (by omega) (by omega)]; omega)]

/-- a date that the program takes -/
def DOk (d : T_api_Date) : Prop := Vld d.1 d.2.1 d.2.2.1 ∧ 0 ≤ d.2.2.2.1 ∧ d.2.2.2.1 ≤ 23 ∧ 0 ≤ d.2.2.2.2.1 ∧ d.2.2.2.2.1 ≤ 59 ∧ 0 ≤ d.2.2.2.2.2.1 ∧ d.2.2.2.2.2.1 ≤ 59 ∧ -900 ≤ d.2.2.2.2.2.2 ∧ d.2.2.2.2.2.2 ≤ 900
instance (d : T_api_Date) : Decidable (DOk d) := by unfold DOk; infer_instance
theorem bif_nd {α : Type} {p : Prop} [Decidable p] {x y : α} : (bif !decide p then x else y) = if p then y else x := by by_cases h : p <;> simp [h]
theorem dvalid_eq (d : T_api_Date) : F_dates_Validate d = some (if DOk d then ⟨0, 0⟩ else ⟨3, -3⟩) := by
  unfold F_dates_Validate
  simp only [dates_within_eq, Option.bind_some, fault_eq, none_eq, bif_d, bif_nd]
  have key : ∀ (f : T_api_Fault), (if DOk d then (⟨0, 0⟩ : T_api_Fault) else ⟨3, -3⟩) = f → (DOk d → f = ⟨0, 0⟩) ∧ (¬ DOk d → f = ⟨3, -3⟩) := fun f h => ⟨fun k => by rw [← h, if_pos k], fun k => by rw [← h, if_neg k]⟩
  generalize hf : (if DOk d then (⟨0, 0⟩ : T_api_Fault) else ⟨3, -3⟩) = f
  obtain ⟨k1, k2⟩ := key f hf
  clear key hf
  unfold DOk Vld at k1 k2
  by_cases c1 : 1 ≤ d.1 ∧ d.1 ≤ 4000
  · rw [if_pos c1]
    by_cases c2 : 1 ≤ d.2.1 ∧ d.2.1 ≤ 12
    · have e : (if (12 : Int) < (if (1 : Int) > d.2.1 then 1 else d.2.1) then 12 else if (1 : Int) > d.2.1 then 1 else d.2.1) = d.2.1 := by
        rw [if_neg (show ¬ ((1 : Int) > d.2.1) by omega), if_neg (by omega)]
      rw [if_pos c2, e, length_eq _ _ (by omega) c2.1 c2.2, Option.bind_some]
      clear e
      repeat' split
      all_goals first | (rw [k1 (by omega)]) | (rw [k2 (by omega)])
    · rw [if_neg c2, k2 (by omega)]
  · rw [if_neg c1, k2 (by omega)]
theorem dfault_eq (d : T_api_Date) : F_R1_DateFault d = some (if DOk d then ⟨0, 0⟩ else ⟨3, -3⟩) := by
  unfold F_R1_DateFault
  simp only [r1_in_eq, Option.bind_some, at_eq, bif_nd]
  have key : ∀ (f : T_api_Fault), (if DOk d then (⟨0, 0⟩ : T_api_Fault) else ⟨3, -3⟩) = f → (DOk d → f = ⟨0, 0⟩) ∧ (¬ DOk d → f = ⟨3, -3⟩) := fun f h => ⟨fun k => by rw [← h, if_pos k], fun k => by rw [← h, if_neg k]⟩
  generalize hf : (if DOk d then (⟨0, 0⟩ : T_api_Fault) else ⟨3, -3⟩) = f
  obtain ⟨k1, k2⟩ := key f hf
  clear key hf
  unfold DOk Vld at k1 k2
  by_cases c1 : 1 ≤ d.1 ∧ d.1 ≤ 4000
  · rw [if_pos c1]
    by_cases c2 : 1 ≤ d.2.1 ∧ d.2.1 ≤ 12
    · rw [if_pos c2, rlength_eq _ _ (by omega) c2.1 c2.2, Option.bind_some]
      repeat' split
      all_goals first | (rw [k1 (by omega)]) | (rw [k2 (by omega)])
    · rw [if_neg c2, k2 (by omega)]
  · rw [if_neg c1, k2 (by omega)]
/-- the instant of a date -/
def insD (d : T_api_Date) : Int := day d.1 d.2.1 d.2.2.1 * 86400 + d.2.2.2.1 * 3600 + (d.2.2.2.2.1 - d.2.2.2.2.2.2) * 60 + d.2.2.2.2.2.1
theorem dayD_bd {d : T_api_Date} (h : DOk d) : -719162 ≤ day d.1 d.2.1 d.2.2.1 ∧ day d.1 d.2.1 d.2.2.1 ≤ 741807 := vld_day _ _ _ h.1
theorem weekday_eq (fu : Nat) (hf : 20 ≤ fu) (d : T_api_Date) (h : DOk d) : F_dates_Weekday fu d = some (wday (day d.1 d.2.1 d.2.2.1), ⟨0, 0⟩) := by
  unfold F_dates_Weekday
  have hb := dayD_bd h
  have hd := dim_bd d.1 d.2.1
  obtain ⟨⟨v1, v2, v3, v4, v5, v6⟩, _⟩ := id h
  rw [dvalid_eq, if_pos h, Option.bind_some, failed_eq, Option.bind_some, bif_f (by rfl), day_eq fu hf _ _ _ v1 (by omega) v3 v4 (by omega) (by omega), Option.bind_some, w64_eq (by omega) (by omega),
    split_eq _ _ (by omega) (by omega) (by omega) (by omega)]
  rfl
theorem instant_eq (fu : Nat) (hf : 20 ≤ fu) (d : T_api_Date) : F_dates_Instant fu d = some (if DOk d then (insD d, ⟨0, 0⟩) else (0, ⟨3, -3⟩)) := by
  unfold F_dates_Instant
  rw [dvalid_eq, Option.bind_some, failed_eq, Option.bind_some]
  by_cases h : DOk d
  · have hb := dayD_bd h
    have hd := dim_bd d.1 d.2.1
    obtain ⟨⟨v1, v2, v3, v4, v5, v6⟩, v7, v8, v9, v10, v11, v12, v13, v14⟩ := id h
    rw [if_pos h, if_pos h, bif_f (by rfl), day_eq fu hf _ _ _ v1 (by omega) v3 v4 (by omega) (by omega), Option.bind_some, none_eq, Option.bind_some]
    simp (discharger := omega) only [w64_eq]
    rfl
  · rw [if_neg h, if_neg h]; rfl
theorem secs_eq (fu : Nat) (hf : 5000 ≤ fu) (d : T_api_Date) (h : DOk d) : F_R1_SecondsOf fu d = some (insD d) := by
  unfold F_R1_SecondsOf
  have hb := dayD_bd h
  have hd := dim_bd d.1 d.2.1
  obtain ⟨⟨v1, v2, v3, v4, v5, v6⟩, v7, v8, v9, v10, v11, v12, v13, v14⟩ := id h
  rw [dnum_eq fu hf _ _ _ v1 (by omega) v3 v4 (by omega) (by omega), Option.bind_some]
  simp (discharger := omega) only [w64_eq]
  unfold insD; congr 1; omega
theorem rweekday_eq (fu : Nat) (hf : 5000 ≤ fu) (y m d : Int) (h : Vld y m d) : F_R1_WeekdayOf fu y m d = some (wday (day y m d)) := by
  unfold F_R1_WeekdayOf
  have hb := vld_day _ _ _ h
  have hd := dim_bd y m
  obtain ⟨v1, v2, v3, v4, v5, v6⟩ := id h
  rw [dnum_eq fu hf _ _ _ v1 (by omega) v3 v4 (by omega) (by omega), Option.bind_some, w64_eq (by omega) (by omega)]
  generalize day y m d = N at *
  unfold wday
  by_cases c : N + 4 < 0
  · rw [tmod_n c]
    by_cases c2 : -(N + 4) % 7 = 0
    · rw [bif_f (by simp; omega)]; congr 1; omega
    · rw [bif_t (by simp; omega), w64_eq (by omega) (by omega)]; congr 1; omega
  · rw [tmod_p (by omega), bif_f (by simp; omega)]
end Go.Sym
/- The plain functions of the zones package and of its reference: turns and offsets. -/
namespace Go.Sym
open Cal Zn

def TuOk (u : T_api_Turn) : Prop := TOk u.1 u.2.1 u.2.2.1 u.2.2.2
instance (u : T_api_Turn) : Decidable (TuOk u) := by unfold TuOk; infer_instance
def tinsT (u : T_api_Turn) (y ah : Int) : Int := tins y u.1 u.2.1 u.2.2.1 u.2.2.2 ah
theorem dok_mk {y m d : Int} (h : Vld y m d) : DOk ⟨y, m, d, 0, 0, 0, 0⟩ := by refine ⟨h, ?_, ?_, ?_, ?_, ?_, ?_, ?_, ?_⟩ <;> simp
theorem dok_mk' {y m d : Int} : DOk ⟨y, m, d, 0, 0, 0, 0⟩ ↔ Vld y m d := ⟨fun h => h.1, dok_mk⟩
theorem insD_mk (y m d : Int) : insD ⟨y, m, d, 0, 0, 0, 0⟩ = day y m d * 86400 := by simp [insD]
theorem instant_end (fu : Nat) (hf : 20 ≤ fu) {y m d : Int} (h : Vld y m d) (mi ah : Int) (h1 : -10000 ≤ mi) (h2 : mi ≤ 10000) (h3 : -10000 ≤ ah) (h4 : ah ≤ 10000) :
    ((F_dates_Instant fu ⟨y, m, d, 0, 0, 0, 0⟩).bind fun x => some (w64 (x.1 + (w64 (60 * (w64 (mi - ah))))))) = some (day y m d * 86400 + 60 * (mi - ah)) := by
  have hb := vld_day _ _ _ h
  rw [instant_eq fu hf, if_pos (dok_mk h), Option.bind_some, insD_mk]
  simp (discharger := omega) only [w64_eq]
theorem zinstant_eq (fu : Nat) (hf : 20 ≤ fu) (u : T_api_Turn) (hu : TuOk u) (y ah : Int) (hy1 : 1 ≤ y) (hy2 : y ≤ 4000) (h3 : -10000 ≤ ah) (h4 : ah ≤ 10000) :
    F_zones_instant fu u y ah = some (tinsT u y ah) := by
  obtain ⟨u1, u2, u3, u4, u5, u6, u7, u8⟩ := hu
  have hd := dim_bd y u.1
  have htd := tday_bd y u.1 u.2.1 u.2.2.1 u3 u4
  have hx := tx_bd y u.1 u.2.2.1
  unfold F_zones_instant
  have h1 : Vld y u.1 1 := ⟨hy1, hy2, u1, u2, by omega, by omega⟩
  rw [weekday_eq fu hf _ (dok_mk h1), Option.bind_some]
  have hw := wday_bd (day y u.1 1)
  have e : (w64 ((w64 (1 + (Int.tmod (w64 ((w64 (u.2.2.1 - wday (day y u.1 1))) + 7)) (7 : Int)))) + (w64 (7 * (w64 (u.2.1 - 1)))))) = 1 + tx y u.1 u.2.2.1 + 7 * (u.2.1 - 1) := by
    unfold tx
    generalize wday (day y u.1 1) = w at *
    rw [w64_eq (x := u.2.2.1 - w) (by omega) (by omega), w64_eq (x := u.2.2.1 - w + 7) (by omega) (by omega), tmod_p (by omega)]
    simp (discharger := omega) only [w64_eq]
  simp only [e]
  unfold F_zones_instant_p0
  unfold tinsT tins
  by_cases c : u.2.1 = 5
  · rw [bif_t (by simp [c]), dvalid_eq, Option.bind_some, failed_eq, Option.bind_some]
    by_cases c2 : dim y u.1 < 29 + tx y u.1 u.2.2.1
    · have et : tday y u.1 u.2.1 u.2.2.1 = 22 + tx y u.1 u.2.2.1 := by unfold tday; rw [if_pos ⟨c, c2⟩]
      rw [if_neg (by rw [dok_mk']; intro hv; have := hv.2.2.2.2.2; omega), bif_t (by rfl)]
      unfold F_zones_instant_p1
      rw [w64_eq (x := 1 + tx y u.1 u.2.2.1 + 7 * (u.2.1 - 1) - 7) (by omega) (by omega),
        show 1 + tx y u.1 u.2.2.1 + 7 * (u.2.1 - 1) - 7 = 22 + tx y u.1 u.2.2.1 by omega, ← et]
      exact instant_end fu hf ⟨hy1, hy2, u1, u2, htd.1, htd.2⟩ _ _ (by omega) (by omega) h3 h4
    · have et : tday y u.1 u.2.1 u.2.2.1 = 1 + tx y u.1 u.2.2.1 + 7 * (u.2.1 - 1) := by unfold tday; rw [if_neg (fun h => c2 h.2)]
      rw [← et]
      rw [if_pos (dok_mk ⟨hy1, hy2, u1, u2, htd.1, htd.2⟩), bif_f (by rfl)]
      exact instant_end fu hf ⟨hy1, hy2, u1, u2, htd.1, htd.2⟩ _ _ (by omega) (by omega) h3 h4
  · have et : tday y u.1 u.2.1 u.2.2.1 = 1 + tx y u.1 u.2.2.1 + 7 * (u.2.1 - 1) := by unfold tday; rw [if_neg (fun h => c h.1)]
    rw [bif_f (by simp [c]), ← et]
    exact instant_end fu hf ⟨hy1, hy2, u1, u2, htd.1, htd.2⟩ _ _ (by omega) (by omega) h3 h4

theorem turnday_loop (fu : Nat) (u : T_api_Turn) (hu : TuOk u) (y : Int) (hy1 : 1 ≤ y) (hy2 : y ≤ 4000) : ∀ (n : Nat) (c k : Int), 1 ≤ k → k ≤ dim y u.1 + 1 → dim y u.1 + 1 - k < n → 0 ≤ c → c < u.2.1 →
    k - 1 ≤ 7 * c + tx y u.1 u.2.2.1 → (c = 0 ∨ 7 * (c - 1) + tx y u.1 u.2.2.1 < k - 1) →
    F_R2_TurnDay_p0 fu n y c (if c = 0 then 0 else 1 + tx y u.1 u.2.2.1 + 7 * (c - 1)) (wday (day y u.1 1)) k u = some (tday y u.1 u.2.1 u.2.2.1) := by
  obtain ⟨u1, u2, u3, u4, u5, u6, u7, u8⟩ := hu
  have hd := dim_bd y u.1
  have htd := tday_bd y u.1 u.2.1 u.2.2.1 u3 u4
  have hx := tx_bd y u.1 u.2.2.1
  have hw := wday_bd (day y u.1 1)
  have ex : tx y u.1 u.2.2.1 = (u.2.2.1 - wday (day y u.1 1) + 7) % 7 := rfl
  have td : tday y u.1 u.2.1 u.2.2.1 = if u.2.1 = 5 ∧ dim y u.1 < 29 + tx y u.1 u.2.2.1 then 22 + tx y u.1 u.2.2.1 else 1 + tx y u.1 u.2.2.1 + 7 * (u.2.1 - 1) := rfl
  generalize tday y u.1 u.2.1 u.2.2.1 = T at *
  generalize tx y u.1 u.2.2.1 = X at *
  generalize hW : wday (day y u.1 1) = W at *
  intro n
  induction n with
  | zero => intro c k h1 h2 h3; omega
  | succ n ih =>
    intro c k h1 h2 h3 h4 h5 h6 h7
    rw [F_R2_TurnDay_p0, F_R2_TurnDay_b0, rlength_eq _ _ (by omega) u1 u2, Option.bind_some]
    by_cases q : k ≤ dim y u.1
    · rw [bif_t (by simp; exact q)]
      simp (discharger := omega) only [w64_eq]
      rw [tmod_p (by omega)]
      by_cases g : k - 1 = 7 * c + X
      · rw [bif_f (by simp; omega)]
        by_cases g2 : c + 1 = u.2.1
        · rw [bif_t (by simp; exact g2)]
          congr 1
          rw [td, if_neg (by omega)]; omega
        · rw [bif_f (by simp; exact g2)]
          have := ih (c + 1) (k + 1) (by omega) (by omega) (by omega) (by omega) (by omega) (by omega) (by omega)
          rw [if_neg (by omega), show 1 + X + 7 * (c + 1 - 1) = k by omega] at this
          exact this
      · rw [bif_t (by simp; omega)]
        exact ih c (k + 1) (by omega) (by omega) (by omega) (by omega) (by omega) (by omega) (by omega)
    · rw [bif_f (by simp; omega)]
      have hc : c ≠ 0 := by omega
      rw [if_neg hc]
      congr 1
      have hc4 : c = 4 := by omega
      subst hc4
      rw [td, if_pos (by omega)]; omega
theorem turnday_eq (fu : Nat) (hf : 5000 ≤ fu) (u : T_api_Turn) (hu : TuOk u) (y : Int) (hy1 : 1 ≤ y) (hy2 : y ≤ 4000) : F_R2_TurnDay fu u y = some (tday y u.1 u.2.1 u.2.2.1) := by
  unfold F_R2_TurnDay
  have hd := dim_bd y u.1
  have hx := tx_bd y u.1 u.2.2.1
  rw [rweekday_eq fu hf y _ _ ⟨hy1, hy2, hu.1, hu.2.1, by omega, by omega⟩, Option.bind_some]
  have := turnday_loop fu u hu y hy1 hy2 fu 0 1 (by omega) (by omega) (by omega) (by omega) (by have := hu.2.2.1; omega) (by omega) (.inl rfl)
  rw [if_pos rfl] at this
  exact this
theorem turnins_eq (fu : Nat) (hf : 5000 ≤ fu) (u : T_api_Turn) (hu : TuOk u) (y ah : Int) (hy1 : 1 ≤ y) (hy2 : y ≤ 4000) (h3 : -10000 ≤ ah) (h4 : ah ≤ 10000) :
    F_R2_TurnInstant fu u y ah = some (tinsT u y ah) := by
  unfold F_R2_TurnInstant
  obtain ⟨u1, u2, u3, u4, u5, u6, u7, u8⟩ := id hu
  have htd := tday_bd y u.1 u.2.1 u.2.2.1 u3 u4
  have hv : Vld y u.1 (tday y u.1 u.2.1 u.2.2.1) := ⟨hy1, hy2, u1, u2, htd.1, htd.2⟩
  have hb := vld_day _ _ _ hv
  rw [turnday_eq fu hf u hu y hy1 hy2, Option.bind_some, secs_eq fu hf _ (dok_mk hv), Option.bind_some, insD_mk]
  simp (discharger := omega) only [w64_eq]
  rfl
end Go.Sym
/- The plain functions of the zones package and of its reference: the search over turns. -/
namespace Go.Sym
open Cal Zn

def fixedZ (z : T_api_Zone) : Prop := z.2.2.2.1.1 = 0 ∧ z.2.2.2.1.2.1 = 0 ∧ z.2.2.2.1.2.2.1 = 0 ∧ z.2.2.2.1.2.2.2 = 0
instance (z : T_api_Zone) : Decidable (fixedZ z) := by unfold fixedZ; infer_instance
@[simp] theorem fixed_eq (z : T_api_Zone) : F_zones_fixed z = some (decide (fixedZ z)) := by
  unfold F_zones_fixed
  congr 1
  rw [Bool.eq_iff_iff, decide_eq_true_iff]; simp [fixedZ]
/-- a zone with turns -/
structure ZT (z : T_api_Zone) : Prop where
  s1 : -900 ≤ z.2.1
  s2 : z.2.1 ≤ 900
  m1 : -900 ≤ z.2.2.1
  m2 : z.2.2.1 ≤ 900
  d1 : z.2.1 + 1 ≤ z.2.2.1
  d2 : z.2.2.1 ≤ z.2.1 + 180
  b : TuOk z.2.2.2.1
  e : TuOk z.2.2.2.2
  ne : z.2.2.2.1.1 ≠ z.2.2.2.2.1
def Bz (z : T_api_Zone) (y : Int) : Int := tinsT z.2.2.2.1 y z.2.1
def Ez (z : T_api_Zone) (y : Int) : Int := tinsT z.2.2.2.2 y z.2.2.1
theorem ZT.turns {z : T_api_Zone} (h : ZT z) : Turns (Bz z) (Ez z) z.2.1 z.2.2.1 := turns_of h.d1 h.d2 h.b h.e h.ne
def sel (z : T_api_Zone) (o : Bool) : Int := bif o then z.2.2.1 else z.2.1

theorem off_step (r0 : Int → Int → Int → Int → Bool → Int → T_api_Zone → Option Int) (fu : Nat) (hf : 20 ≤ fu) (z : T_api_Zone) (h : ZT z) (t Y best k : Int) (o has : Bool) (S S' : Int → Prop)
    (hk1 : 1 ≤ k) (hk2 : k ≤ 4000) (hY : k ≤ Y + 1) (hY2 : Y ≤ 4000) (hI : Zn.Inv (Bz z) (Ez z) t S best o has) (hS : ∀ y, S' y ↔ S y ∨ y = k) :
    ∃ best' o' has', Zn.Inv (Bz z) (Ez z) t S' best' o' has' ∧ F_zones_offset_b0 fu r0 t Y best (sel z o) has k z = r0 t Y best' (sel z o') has' (k + 1) z := by
  have s1 := h.s1; have s2 := h.s2; have m1 := h.m1; have m2 := h.m2
  unfold F_zones_offset_b0
  rw [w64_eq (x := Y + 1) (by omega) (by omega), bif_t (by simp; exact hY)]
  rw [zinstant_eq fu hf _ h.b k _ hk1 hk2 (by omega) (by omega), Option.bind_some]
  unfold F_zones_offset_p1 F_zones_offset_p2
  rw [zinstant_eq fu hf _ h.e k _ hk1 hk2 (by omega) (by omega)]
  simp only [Option.bind_some]
  rw [w64_eq (x := k + 1) (by omega) (by omega)]
  have nx := fun b1 b2 o1 h1 o2 h2 => Zn.Inv.next (best1 := b1) (best2 := b2) (out1 := o1) (has1 := h1) (out2 := o2) (has2 := h2) hI hS
  have eB : tinsT z.2.2.2.1 k z.2.1 = Bz z k := rfl
  have eE : tinsT z.2.2.2.2 k z.2.2.1 = Ez z k := rfl
  rw [eB, eE]
  generalize Bz z k = B at *
  generalize Ez z k = E at *
  have sT : z.2.2.1 = sel z true := rfl
  have sF : z.2.1 = sel z false := rfl
  have fin : ∀ b1 o1 h1, ((B ≤ t ∧ (has = false ∨ best < B) ∧ b1 = B ∧ o1 = true ∧ h1 = true) ∨ (¬ (B ≤ t ∧ (has = false ∨ best < B)) ∧ b1 = best ∧ o1 = o ∧ h1 = has)) →
      ∃ best' o' has', Zn.Inv (Bz z) (Ez z) t S' best' o' has' ∧
        (bif decide (E ≤ t) then bif !h1 then r0 t Y E z.2.1 true (k + 1) z else bif decide (b1 ≤ E) then r0 t Y E z.2.1 true (k + 1) z else r0 t Y b1 (sel z o1) h1 (k + 1) z else r0 t Y b1 (sel z o1) h1 (k + 1) z) = r0 t Y best' (sel z o') has' (k + 1) z := by
    intro b1 o1 h1 hh
    by_cases c : E ≤ t ∧ (h1 = false ∨ b1 ≤ E)
    · refine ⟨E, false, true, nx b1 E o1 h1 false true hh (.inl ⟨c.1, c.2, rfl, rfl, rfl⟩), ?_⟩
      rw [bif_t (by simp; exact c.1)]
      cases h1 with
      | false => rw [bif_t (by rfl)]; rfl
      | true => rw [bif_f (by rfl), bif_t (by simp; exact c.2.resolve_left (by simp))]; rfl
    · refine ⟨b1, o1, h1, nx b1 b1 o1 h1 o1 h1 hh (.inr ⟨c, rfl, rfl, rfl⟩), ?_⟩
      by_cases c1 : E ≤ t
      · rw [bif_t (by simp; exact c1)]
        cases h1 with
        | false => exact absurd ⟨c1, .inl rfl⟩ c
        | true => rw [bif_f (by rfl), bif_f (by simp; have : ¬ b1 ≤ E := fun q => c ⟨c1, .inr q⟩; omega)]
      · rw [bif_f (by simp; omega)]
  clear nx
  by_cases c1 : B ≤ t
  · by_cases c2 : has = false ∨ best < B
    · obtain ⟨b', o', h', hi, he⟩ := fin B true true (.inl ⟨c1, c2, rfl, rfl, rfl⟩)
      refine ⟨b', o', h', hi, ?_⟩
      rw [← he, bif_t (by simp; exact c1)]
      cases has with
      | false => rfl
      | true =>
        simp at c2
        rw [bif_f (by rfl), bif_t (by simp; exact c2)]; rfl
    · obtain ⟨b', o', h', hi, he⟩ := fin best o has (.inr ⟨fun q => c2 q.2, rfl, rfl, rfl⟩)
      refine ⟨b', o', h', hi, ?_⟩
      rw [← he, bif_t (by simp; exact c1)]
      cases has with
      | false => simp at c2
      | true =>
        simp at c2
        rw [bif_f (by rfl), bif_f (by simp; exact c2)]
  · obtain ⟨b', o', h', hi, he⟩ := fin best o has (.inr ⟨fun q => c1 q.1, rfl, rfl, rfl⟩)
    refine ⟨b', o', h', hi, ?_⟩
    rw [← he, bif_f (by simp; omega)]; rfl
open Classical in
/-- the offset by the turns of three years -/
noncomputable def offW (z : T_api_Zone) (lo hi t : Int) : Int := if SumW (Bz z) (Ez z) lo hi t then z.2.2.1 else z.2.1
open Classical in
/-- the offset by all turns -/
noncomputable def offA (z : T_api_Zone) (t : Int) : Int := if SumA (Bz z) (Ez z) t then z.2.2.1 else z.2.1
theorem sel_offW {z : T_api_Zone} {lo hi t best : Int} {o has : Bool} (h : Zn.Inv (Bz z) (Ez z) t (fun y => lo ≤ y ∧ y ≤ hi) best o has) : sel z o = offW z lo hi t := by
  have := h.fin
  unfold sel offW
  cases o with
  | true => rw [if_pos (this.1 rfl)]; rfl
  | false => rw [if_neg (fun q => by have := this.2 q; cases this)]; rfl
theorem zoffset_eq (fu : Nat) (hf : 20 ≤ fu) (z : T_api_Zone) (h : ZT z) (t Y : Int) (h1 : 2 ≤ Y) (h2 : Y ≤ 3999) : F_zones_offset fu z t Y = some (offW z (Y - 1) (Y + 1) t) := by
  unfold F_zones_offset
  have hnf : ¬ fixedZ z := fun q => by have := h.b.1; have := q.1; omega
  rw [fixed_eq, Option.bind_some, bif_f (by simp [hnf]), w64_eq (by omega) (by omega)]
  obtain ⟨n, rfl⟩ : ∃ n, fu = n + 1 + 1 + 1 + 1 := ⟨fu - 4, by omega⟩
  generalize hfu : n + 1 + 1 + 1 + 1 = fu at hf
  have q : F_zones_offset_p0 fu (n + 1 + 1 + 1 + 1) t Y 0 z.2.1 false (Y - 1) z = some (offW z (Y - 1) (Y + 1) t) := by
    obtain ⟨b1, o1, a1, i1, e1⟩ := off_step (F_zones_offset_p0 fu (n + 1 + 1 + 1)) fu hf z h t Y 0 (Y - 1) false false _ (fun y => y = Y - 1) (by omega) (by omega) (by omega) (by omega) (Zn.Inv.start t 0) (fun y => by simp)
    rw [F_zones_offset_p0]
    refine Eq.trans e1 ?_
    obtain ⟨b2, o2, a2, i2, e2⟩ := off_step (F_zones_offset_p0 fu (n + 1 + 1)) fu hf z h t Y b1 (Y - 1 + 1) o1 a1 _ (fun y => Y - 1 ≤ y ∧ y ≤ Y) (by omega) (by omega) (by omega) (by omega) i1 (fun y => by omega)
    rw [F_zones_offset_p0]
    refine Eq.trans e2 ?_
    obtain ⟨b3, o3, a3, i3, e3⟩ := off_step (F_zones_offset_p0 fu (n + 1)) fu hf z h t Y b2 (Y - 1 + 1 + 1) o2 a2 _ (fun y => Y - 1 ≤ y ∧ y ≤ Y + 1) (by omega) (by omega) (by omega) (by omega) i2 (fun y => by omega)
    rw [F_zones_offset_p0]
    refine Eq.trans e3 ?_
    rw [F_zones_offset_p0, F_zones_offset_b0, w64_eq (x := Y + 1) (by omega) (by omega), bif_f (by simp; omega), sel_offW i3]
  rw [hfu] at q
  exact q
end Go.Sym
/- The plain functions of the zones package and of its reference: the reference's search over turns; the checks of a zone. -/
namespace Go.Sym
open Cal Zn

theorem tinsT_bd {u : T_api_Turn} (hu : TuOk u) {y ah : Int} (hy1 : 1 ≤ y) (hy2 : y ≤ 4000) (h3 : -10000 ≤ ah) (h4 : ah ≤ 10000) : -100000000000 ≤ tinsT u y ah ∧ tinsT u y ah ≤ 100000000000 := by
  obtain ⟨u1, u2, u3, u4, u5, u6, u7, u8⟩ := id hu
  have htd := tday_bd y u.1 u.2.1 u.2.2.1 u3 u4
  have hb := vld_day y u.1 (tday y u.1 u.2.1 u.2.2.1) ⟨hy1, hy2, u1, u2, htd.1, htd.2⟩
  unfold tinsT tins; omega
def Low (best : Int) (has : Bool) : Prop := (has = false → best = -1152921504606846976) ∧ (has = true → -1000000000000 ≤ best)
theorem near_step (r0 : Int → Int → Int → Int → Int → T_api_Zone → Option Int) (fu : Nat) (hf : 5000 ≤ fu) (z : T_api_Zone) (h : ZT z) (t Y best k : Int) (o has : Bool) (S S' : Int → Prop)
    (hk1 : 1 ≤ k) (hk2 : k ≤ 4000) (hY : Y - 1 ≤ k) (hY2 : 1 ≤ Y) (hY3 : Y ≤ 4000) (hI : Zn.Inv (Bz z) (Ez z) t S best o has) (hL : Low best has) (hS : ∀ y, S' y ↔ S y ∨ y = k) :
    ∃ best' o' has', Zn.Inv (Bz z) (Ez z) t S' best' o' has' ∧ Low best' has' ∧ F_R2_OffsetNear_b0 fu r0 t Y (sel z o) best k z = r0 t Y (sel z o') best' (k - 1) z := by
  have s1 := h.s1; have s2 := h.s2; have m1 := h.m1; have m2 := h.m2
  unfold F_R2_OffsetNear_b0
  rw [w64_eq (x := Y - 1) (by omega) (by omega), bif_t (by simp; exact hY)]
  rw [turnins_eq fu hf _ h.b k _ hk1 hk2 (by omega) (by omega), turnins_eq fu hf _ h.e k _ hk1 hk2 (by omega) (by omega)]
  simp only [Option.bind_some]
  have bB := tinsT_bd h.b hk1 hk2 (ah := z.2.1) (by omega) (by omega)
  have bE := tinsT_bd h.e hk1 hk2 (ah := z.2.2.1) (by omega) (by omega)
  have nx := fun b1 b2 o1 h1 o2 h2 => Zn.Inv.next (best1 := b1) (best2 := b2) (out1 := o1) (has1 := h1) (out2 := o2) (has2 := h2) hI hS
  have eB : tinsT z.2.2.2.1 k z.2.1 = Bz z k := rfl
  have eE : tinsT z.2.2.2.2 k z.2.2.1 = Ez z k := rfl
  rw [eB] at bB ⊢
  rw [eE] at bE ⊢
  generalize Bz z k = B at *
  generalize Ez z k = E at *
  have low : ∀ x, -100000000000 ≤ x → ((has = false ∨ best < x) ↔ best < x) ∧ ((has = false ∨ best ≤ x) ↔ best ≤ x) := by
    intro x hx
    cases has with
    | false => have := hL.1 rfl; constructor <;> simp <;> omega
    | true => constructor <;> simp
  have fin : ∀ b1 o1 h1, Low b1 h1 → ((B ≤ t ∧ (has = false ∨ best < B) ∧ b1 = B ∧ o1 = true ∧ h1 = true) ∨ (¬ (B ≤ t ∧ (has = false ∨ best < B)) ∧ b1 = best ∧ o1 = o ∧ h1 = has)) →
      ∃ best' o' has', Zn.Inv (Bz z) (Ez z) t S' best' o' has' ∧ Low best' has' ∧
        F_R2_OffsetNear_p2 fu r0 t Y (sel z o1) b1 k E z = r0 t Y (sel z o') best' (k - 1) z := by
    intro b1 o1 h1 hl1 hh
    have hb : (h1 = false ∨ b1 ≤ E) ↔ b1 ≤ E := by
      cases h1 with
      | false => have := hl1.1 rfl; simp; omega
      | true => simp
    unfold F_R2_OffsetNear_p2
    rw [w64_eq (x := k - 1) (by omega) (by omega)]
    have ee : ∀ x y : Option Int, (bif decide (E ≤ t) then bif decide (b1 ≤ E) then x else y else y) = if E ≤ t ∧ b1 ≤ E then x else y := by
      intro x y
      by_cases c1 : E ≤ t <;> by_cases c2 : b1 ≤ E <;> simp [c1, c2]
    rw [ee]
    by_cases c : E ≤ t ∧ b1 ≤ E
    · exact ⟨E, false, true, nx b1 E o1 h1 false true hh (.inl ⟨c.1, hb.2 c.2, rfl, rfl, rfl⟩), ⟨fun q => (by cases q), fun _ => by omega⟩, by rw [if_pos c]; rfl⟩
    · exact ⟨b1, o1, h1, nx b1 b1 o1 h1 o1 h1 hh (.inr ⟨fun q => c ⟨q.1, hb.1 q.2⟩, rfl, rfl, rfl⟩), hl1, by rw [if_neg c]⟩
  clear nx
  by_cases c1 : B ≤ t ∧ best < B
  · obtain ⟨b', o', h', hi, hl, he⟩ := fin B true true ⟨fun q => (by cases q), fun _ => by omega⟩ (.inl ⟨c1.1, (low B bB.1).1.2 c1.2, rfl, rfl, rfl⟩)
    refine ⟨b', o', h', hi, hl, ?_⟩
    rw [← he, bif_t (by simp; exact c1.1)]
    unfold F_R2_OffsetNear_p1
    rw [bif_t (by simp; exact c1.2)]; rfl
  · obtain ⟨b', o', h', hi, hl, he⟩ := fin best o has hL (.inr ⟨fun q => c1 ⟨q.1, (low B bB.1).1.1 q.2⟩, rfl, rfl, rfl⟩)
    refine ⟨b', o', h', hi, hl, ?_⟩
    rw [← he]
    unfold F_R2_OffsetNear_p1
    by_cases c2 : B ≤ t
    · rw [bif_t (by simp; exact c2), bif_f (by simp; omega)]
    · rw [bif_f (by simp; omega)]; rfl
theorem near_eq (fu : Nat) (hf : 5000 ≤ fu) (z : T_api_Zone) (h : ZT z) (t Y : Int) (h1 : 2 ≤ Y) (h2 : Y ≤ 3999) : F_R2_OffsetNear fu z t Y = some (offW z (Y - 1) (Y + 1) t) := by
  unfold F_R2_OffsetNear
  rw [bif_f (by have := h.b.1; simp; omega), w64_eq (by omega) (by omega)]
  obtain ⟨n, rfl⟩ : ∃ n, fu = n + 1 + 1 + 1 + 1 := ⟨fu - 4, by omega⟩
  generalize hfu : n + 1 + 1 + 1 + 1 = fu at hf
  have q : F_R2_OffsetNear_p0 fu (n + 1 + 1 + 1 + 1) t Y z.2.1 (-1152921504606846976) (Y + 1) z = some (offW z (Y - 1) (Y + 1) t) := by
    obtain ⟨b1, o1, a1, i1, l1, e1⟩ := near_step (F_R2_OffsetNear_p0 fu (n + 1 + 1 + 1)) fu hf z h t Y (-1152921504606846976) (Y + 1) false false _ (fun y => y = Y + 1) (by omega) (by omega) (by omega) (by omega) (by omega) (Zn.Inv.start t _) ⟨fun _ => rfl, fun q => (by cases q)⟩ (fun y => by simp)
    rw [F_R2_OffsetNear_p0]
    refine Eq.trans e1 ?_
    obtain ⟨b2, o2, a2, i2, l2, e2⟩ := near_step (F_R2_OffsetNear_p0 fu (n + 1 + 1)) fu hf z h t Y b1 (Y + 1 - 1) o1 a1 _ (fun y => Y ≤ y ∧ y ≤ Y + 1) (by omega) (by omega) (by omega) (by omega) (by omega) i1 l1 (fun y => by omega)
    rw [F_R2_OffsetNear_p0]
    refine Eq.trans e2 ?_
    obtain ⟨b3, o3, a3, i3, l3, e3⟩ := near_step (F_R2_OffsetNear_p0 fu (n + 1)) fu hf z h t Y b2 (Y + 1 - 1 - 1) o2 a2 _ (fun y => Y - 1 ≤ y ∧ y ≤ Y + 1) (by omega) (by omega) (by omega) (by omega) (by omega) i2 l2 (fun y => by omega)
    rw [F_R2_OffsetNear_p0]
    refine Eq.trans e3 ?_
    rw [F_R2_OffsetNear_p0, F_R2_OffsetNear_b0, w64_eq (x := Y - 1) (by omega) (by omega), bif_f (by simp; omega), sel_offW i3]
  rw [hfu] at q
  exact q

/-- the letters of a name -/
def chB (c : UInt8) : Bool := (decide (97 ≤ c.toNat) && decide (c.toNat ≤ 122)) || (decide (65 ≤ c.toNat) && decide (c.toNat ≤ 90)) || (decide (48 ≤ c.toNat) && decide (c.toNat ≤ 57)) || c.toNat == 45 || c.toNat == 95 || c.toNat == 46
theorem u8_all {p : UInt8 → Prop} (h : ∀ n : _root_.Fin 256, p (UInt8.ofFin n)) (c : UInt8) : p c := by
  have := h c.toFin
  rwa [UInt8.ofFin_toFin] at this
theorem name1_eq (c : UInt8) : F_basic_Name_1 c = some (chB c) := by
  revert c
  exact u8_all (by decide +kernel)
def nameOk (s : List UInt8) : Bool := decide (1 ≤ s.length) && decide (s.length ≤ 60) && s.all chB
theorem all_loop (fu : Nat) (s : List UInt8) (hs : (s.length : Int) < 9223372036854775808) : ∀ (n : Nat) (k : Nat), k ≤ s.length → s.length - k < n →
    F_basic_All_p0 fu n s s.length k = some ((s.drop k).all chB) := by
  intro n
  induction n with
  | zero => intro k h1 h2; omega
  | succ n ih =>
    intro k h1 h2
    rw [F_basic_All_p0, F_basic_All_b0]
    by_cases c : k < s.length
    · have hi : idx s (k : Int) = some s[k] := by unfold idx; rw [if_pos (by omega)]; simp [c]
      rw [bif_t (by simp; exact c), hi, Option.bind_some, name1_eq, Option.bind_some, List.drop_eq_getElem_cons c, List.all_cons]
      cases hc : chB s[k]
      · rfl
      · rw [bif_f (by rfl), w64_eq (by omega) (by omega)]
        have := ih (k + 1) (by omega) (by omega)
        rw [Int.natCast_add] at this
        exact this
    · rw [bif_f (by simp; omega), List.drop_eq_nil_of_le (by omega)]; rfl
theorem name_eq (fu : Nat) (s : List UInt8) (hs : (s.length : Int) < 9223372036854775808) (hf : s.length < fu) : F_basic_Name fu s = some (nameOk s) := by
  unfold F_basic_Name nameOk
  cases s with
  | nil => rfl
  | cons a l =>
    rw [bif_t (by rfl)]
    by_cases c : ((a :: l).length : Int) ≤ 60
    · rw [bif_t (by simp only [decide_eq_true_iff]; exact c)]
      unfold F_basic_All
      have := all_loop fu (a :: l) hs fu 0 (by omega) (by omega)
      rw [show ((0 : Nat) : Int) = 0 from rfl] at this
      rw [this, Option.bind_some]
      have c' : (a :: l).length ≤ 60 := by omega
      simp only [List.drop_zero]
      rw [show decide (1 ≤ (a :: l).length) = true by simp, decide_eq_true c']; rfl
    · rw [bif_f (by simp only [decide_eq_false_iff_not]; exact c)]
      have c' : ¬ (a :: l).length ≤ 60 := by omega
      rw [decide_eq_false c']; simp
theorem rname_loop (fu : Nat) (s : List UInt8) (hs : (s.length : Int) < 9223372036854775808) : ∀ (n : Nat) (k : Nat), k ≤ s.length → s.length - k < n →
    F_R2_ZoneName_p0 fu n s k = some ((s.drop k).all chB && (decide (1 ≤ s.length) && decide (s.length ≤ 60))) := by
  intro n
  induction n with
  | zero => intro k h1 h2; omega
  | succ n ih =>
    intro k h1 h2
    rw [F_R2_ZoneName_p0, F_R2_ZoneName_b0]
    by_cases c : k < s.length
    · have hi : idx s (k : Int) = some s[k] := by unfold idx; rw [if_pos (by omega)]; simp [c]
      have := ih (k + 1) (by omega) (by omega)
      rw [Int.natCast_add] at this
      rw [bif_t (by simp; exact c), hi]
      simp only [Option.bind_some, r1_in_eq]
      rw [w64_eq (by omega) (by omega), List.drop_eq_getElem_cons c, List.all_cons]
      have e1 : (1 : Nat) = (1 : Int) := rfl
      rw [e1] at this
      rw [this]
      generalize ((List.drop (k + 1) s).all chB) = R
      generalize (decide (1 ≤ s.length) && decide (s.length ≤ 60)) = Q
      generalize s[k] = x
      have : ∀ (x : UInt8), (bif !decide ((97 : Int) ≤ x.toNat ∧ (x.toNat : Int) ≤ 122) then bif !decide ((65 : Int) ≤ x.toNat ∧ (x.toNat : Int) ≤ 90) then bif !decide ((48 : Int) ≤ x.toNat ∧ (x.toNat : Int) ≤ 57) then
          bif x != 45 then bif x != 95 then bif x != 46 then false else true else true else true else true else true else true) = chB x := u8_all (by decide +kernel)
      rw [← this x]
      cases decide ((97 : Int) ≤ x.toNat ∧ (x.toNat : Int) ≤ 122) <;> cases decide ((65 : Int) ≤ x.toNat ∧ (x.toNat : Int) ≤ 90) <;> cases decide ((48 : Int) ≤ x.toNat ∧ (x.toNat : Int) ≤ 57) <;> cases (x != 45) <;> cases (x != 95) <;> cases (x != 46) <;> simp
    · rw [bif_f (by simp; omega), List.drop_eq_nil_of_le (by omega), r1_in_eq, Option.bind_some]
      congr 1
      rw [Bool.eq_iff_iff]; simp; omega
theorem rname_eq (fu : Nat) (s : List UInt8) (hs : (s.length : Int) < 9223372036854775808) (hf : s.length < fu) : F_R2_ZoneName fu s = some (nameOk s) := by
  unfold F_R2_ZoneName nameOk
  have := rname_loop fu s hs fu 0 (by omega) (by omega)
  rw [show ((0 : Nat) : Int) = 0 from rfl] at this
  rw [this, List.drop_zero, Bool.and_comm]
end Go.Sym
/- The plain functions of the zones package and of its reference: the checks of a zone; offsets and instants. -/
namespace Go.Sym
open Cal Zn

@[simp] theorem turn_eq (u : T_api_Turn) : F_zones_turn u = some (decide (TuOk u)) := by
  unfold F_zones_turn
  simp only [zones_within_eq, Option.bind_some, bif_d]
  have key : ∀ b : Bool, decide (TuOk u) = b → (TuOk u → b = true) ∧ (¬ TuOk u → b = false) := fun b h => ⟨fun k => by rw [← h, decide_eq_true k], fun k => by rw [← h, decide_eq_false k]⟩
  generalize hb : decide (TuOk u) = b
  obtain ⟨k1, k2⟩ := key b hb
  clear key hb
  unfold TuOk TOk at k1 k2
  repeat' split
  all_goals first | (rw [k2 (by omega)]) | skip
  congr 1
  rw [Bool.eq_iff_iff, decide_eq_true_iff]
  constructor
  · intro q; exact k1 (by omega)
  · intro q
    by_cases c : 0 ≤ u.2.2.2 ∧ u.2.2.2 ≤ 1439
    · exact c
    · have := k2 (by omega); rw [this] at q; cases q
@[simp] theorem rturn_eq (u : T_api_Turn) : F_R2_turnOk u = some (decide (TuOk u)) := by
  have e : F_R2_turnOk u = F_zones_turn u := by unfold F_R2_turnOk F_zones_turn; simp only [r1_in_eq, zones_within_eq]
  rw [e, turn_eq]
def endZero (z : T_api_Zone) : Prop := z.2.2.2.2.1 = 0 ∧ z.2.2.2.2.2.1 = 0 ∧ z.2.2.2.2.2.2.1 = 0 ∧ z.2.2.2.2.2.2.2 = 0
instance (z : T_api_Zone) : Decidable (endZero z) := by unfold endZero; infer_instance
theorem zero4 (u : T_api_Turn) : ((u.1 == (0 : Int)) && ((u.2.1 == (0 : Int)) && ((u.2.2.1 == (0 : Int)) && ((u.2.2.2 == (0 : Int)) && true)))) = decide (u.1 = 0 ∧ u.2.1 = 0 ∧ u.2.2.1 = 0 ∧ u.2.2.2 = 0) := by
  rw [Bool.eq_iff_iff, decide_eq_true_iff]; simp
/-- what is wrong with a zone -/
def zfault (z : T_api_Zone) : T_api_Fault :=
  if nameOk z.1 = false then ⟨10, -3⟩ else if ¬ (-900 ≤ z.2.1 ∧ z.2.1 ≤ 900) then ⟨3, -4⟩ else
  if fixedZ z then (if z.2.2.1 ≠ 0 then ⟨5, -5⟩ else if ¬ endZero z then ⟨5, -5⟩ else ⟨0, 0⟩) else
  if ¬ (-900 ≤ z.2.2.1 ∧ z.2.2.1 ≤ 900) then ⟨3, -5⟩ else if ¬ (z.2.1 + 1 ≤ z.2.2.1 ∧ z.2.2.1 ≤ z.2.1 + 180) then ⟨3, -5⟩ else
  if ¬ TuOk z.2.2.2.1 then ⟨3, -6⟩ else if ¬ TuOk z.2.2.2.2 then ⟨3, -7⟩ else if z.2.2.2.1.1 = z.2.2.2.2.1 then ⟨5, -7⟩ else ⟨0, 0⟩
theorem bif_nb {α : Type} {b : Bool} {x y : α} : (bif !b then x else y) = if b = false then x else y := by cases b <;> rfl
theorem bif_ne {α : Type} {a b : Int} {x y : α} : (bif a != b then x else y) = if a ≠ b then x else y := by
  by_cases h : a = b
  · rw [bif_f (by simp [h]), if_neg (by simp [h])]
  · rw [bif_t (by simp [h]), if_pos h]
theorem bif_eq {α : Type} {a b : Int} {x y : α} : (bif a == b then x else y) = if a = b then x else y := by
  by_cases h : a = b
  · rw [bif_t (by simp [h]), if_pos h]
  · rw [bif_f (by simp [h]), if_neg h]
theorem some_ite {α : Type} {p : Prop} [Decidable p] {x y : α} : (if p then some x else some y) = some (if p then x else y) := by split <;> rfl
theorem ite_not' {α : Type} {p : Prop} [Decidable p] {x y : α} : (if p then y else x) = (if ¬ p then x else y) := by by_cases h : p <;> simp [h]
theorem zvalid_eq (fu : Nat) (z : T_api_Zone) (hs : (z.1.length : Int) < 9223372036854775808) (hf : z.1.length < fu) : F_zones_Validate fu z = some (zfault z) := by
  unfold F_zones_Validate zfault
  rw [name_eq fu _ hs hf]
  by_cases hn : nameOk z.1 = false
  · rw [if_pos hn, Option.bind_some, bif_t (by rw [hn]; rfl)]; rfl
  · rw [if_neg hn, Option.bind_some, bif_f (by simp at hn; rw [hn]; rfl), zones_within_eq, Option.bind_some]
    by_cases c1 : -900 ≤ z.2.1 ∧ z.2.1 ≤ 900
    · rw [bif_f (by simp [c1]), if_neg (by simp [c1])]
      rw [w64_eq (x := z.2.1 + 1) (by omega) (by omega), w64_eq (x := z.2.1 + 180) (by omega) (by omega), zero4]
      rw [show decide (z.2.2.2.2.1 = 0 ∧ z.2.2.2.2.2.1 = 0 ∧ z.2.2.2.2.2.2.1 = 0 ∧ z.2.2.2.2.2.2.2 = 0) = decide (endZero z) from rfl]
      simp only [F_zones_Validate_p0, F_zones_Validate_p1, F_zones_Validate_p2, cond_true, fixed_eq, Option.bind_some, fault_eq, none_eq, zones_within_eq, turn_eq, bif_nd, bif_d, bif_ne, bif_eq]
      repeat' split
      all_goals first | rfl | contradiction | simp_all
    · rw [bif_t (by simp; omega), if_pos c1]; rfl
theorem rzfault_eq (fu : Nat) (z : T_api_Zone) (hs : (z.1.length : Int) < 9223372036854775808) (hf : z.1.length < fu) : F_R2_ZoneFault fu z = some (zfault z) := by
  unfold F_R2_ZoneFault zfault
  rw [rname_eq fu _ hs hf]
  by_cases hn : nameOk z.1 = false
  · rw [if_pos hn, Option.bind_some, bif_t (by rw [hn]; rfl)]; rfl
  · rw [if_neg hn, Option.bind_some, bif_f (by simp at hn; rw [hn]; rfl), r1_in_eq, Option.bind_some]
    by_cases c1 : -900 ≤ z.2.1 ∧ z.2.1 ≤ 900
    · rw [bif_f (by simp [c1]), if_neg (by simp [c1])]
      rw [zero4, zero4]
      rw [show decide (z.2.2.2.2.1 = 0 ∧ z.2.2.2.2.2.1 = 0 ∧ z.2.2.2.2.2.2.1 = 0 ∧ z.2.2.2.2.2.2.2 = 0) = decide (endZero z) from rfl, show decide (z.2.2.2.1.1 = 0 ∧ z.2.2.2.1.2.1 = 0 ∧ z.2.2.2.1.2.2.1 = 0 ∧ z.2.2.2.1.2.2.2 = 0) = decide (fixedZ z) from rfl]
      by_cases c2 : -900 ≤ z.2.2.1 ∧ z.2.2.1 ≤ 900
      · rw [w64_eq (x := z.2.2.1 - z.2.1) (by omega) (by omega)]
        have ed : (1 ≤ z.2.2.1 - z.2.1 ∧ z.2.2.1 - z.2.1 ≤ 180) ↔ (z.2.1 + 1 ≤ z.2.2.1 ∧ z.2.2.1 ≤ z.2.1 + 180) := by omega
        simp only [F_R2_ZoneFault_p0, F_R2_ZoneFault_p1, F_R2_ZoneFault_p2, F_R2_ZoneFault_p3, cond_true, Option.bind_some, at_eq, r1_in_eq, rturn_eq, bif_nd, bif_d, bif_ne, bif_eq, ed]
        repeat' split
        all_goals first | rfl | contradiction | simp_all
      · simp only [F_R2_ZoneFault_p0, F_R2_ZoneFault_p1, F_R2_ZoneFault_p2, F_R2_ZoneFault_p3, cond_true, rturn_eq, Option.bind_some, at_eq, r1_in_eq, bif_nd, bif_d, bif_ne, bif_eq]
        repeat' split
        all_goals first | rfl | contradiction | simp_all
    · rw [bif_t (by simp; omega), if_pos c1]; rfl
theorem zok (z : T_api_Zone) (h : (zfault z).1 = 0) : zfault z = ⟨0, 0⟩ ∧ -900 ≤ z.2.1 ∧ z.2.1 ≤ 900 ∧ (fixedZ z ∨ ZT z) := by
  unfold zfault at h ⊢
  by_cases hn : nameOk z.1 = false
  · rw [if_pos hn] at h; simp at h
  rw [if_neg hn] at h ⊢
  by_cases c1 : ¬ (-900 ≤ z.2.1 ∧ z.2.1 ≤ 900)
  · rw [if_pos c1] at h; simp at h
  rw [if_neg c1] at h ⊢
  have c1' : -900 ≤ z.2.1 ∧ z.2.1 ≤ 900 := by omega
  by_cases c2 : fixedZ z
  · rw [if_pos c2] at h ⊢
    by_cases c3 : z.2.2.1 ≠ 0
    · rw [if_pos c3] at h; simp at h
    rw [if_neg c3] at h ⊢
    by_cases c4 : ¬ endZero z
    · rw [if_pos c4] at h; simp at h
    rw [if_neg c4]
    exact ⟨rfl, c1'.1, c1'.2, .inl c2⟩
  rw [if_neg c2] at h ⊢
  by_cases c3 : ¬ (-900 ≤ z.2.2.1 ∧ z.2.2.1 ≤ 900)
  · rw [if_pos c3] at h; simp at h
  rw [if_neg c3] at h ⊢
  by_cases c4 : ¬ (z.2.1 + 1 ≤ z.2.2.1 ∧ z.2.2.1 ≤ z.2.1 + 180)
  · rw [if_pos c4] at h; simp at h
  rw [if_neg c4] at h ⊢
  by_cases c5 : ¬ TuOk z.2.2.2.1
  · rw [if_pos c5] at h; simp at h
  rw [if_neg c5] at h ⊢
  by_cases c6 : ¬ TuOk z.2.2.2.2
  · rw [if_pos c6] at h; simp at h
  rw [if_neg c6] at h ⊢
  by_cases c7 : z.2.2.2.1.1 = z.2.2.2.2.1
  · rw [if_pos c7] at h; simp at h
  rw [if_neg c7]
  exact ⟨rfl, c1'.1, c1'.2, .inr ⟨c1'.1, c1'.2, by omega, by omega, by omega, by omega, Classical.not_not.1 c5, Classical.not_not.1 c6, c7⟩⟩
end Go.Sym
/- The plain functions of the zones package and of its reference: the offset at an instant. -/
namespace Go.Sym
open Cal Zn

noncomputable def offF (z : T_api_Zone) (Y t : Int) : Int := if fixedZ z then z.2.1 else offW z (Y - 1) (Y + 1) t
/-- the year by standard time -/
noncomputable def cyear (z : T_api_Zone) (t : Int) : Int := (civ ((t + 60 * z.2.1) / 86400)).1
def inDays (z : T_api_Zone) (t : Int) : Prop := -719162 ≤ (t + 60 * z.2.1) / 86400 ∧ (t + 60 * z.2.1) / 86400 ≤ 741807
instance (z : T_api_Zone) (t : Int) : Decidable (inDays z t) := by unfold inDays; infer_instance
noncomputable def OffV (z : T_api_Zone) (t : Int) : Int × T_api_Fault :=
  if ¬ (-68719476736 ≤ t ∧ t ≤ 68719476736) then (0, ⟨3, -2⟩) else
  if ¬ inDays z t then (0, ⟨3, -8⟩) else if ¬ (2 ≤ cyear z t ∧ cyear z t ≤ 3999) then (0, ⟨3, -8⟩) else (offF z (cyear z t) t, ⟨0, 0⟩)
noncomputable def OffR (z : T_api_Zone) (t : Int) : Int × T_api_Fault := if (zfault z).1 ≠ 0 then (0, zfault z) else OffV z t
theorem zoffsetF_eq (fu : Nat) (hf : 20 ≤ fu) (z : T_api_Zone) (h : fixedZ z ∨ ZT z) (t Y : Int) (h1 : 2 ≤ Y) (h2 : Y ≤ 3999) : F_zones_offset fu z t Y = some (offF z Y t) := by
  unfold offF
  by_cases c : fixedZ z
  · rw [if_pos c]; unfold F_zones_offset; rw [fixed_eq, Option.bind_some, bif_t (by simp [c])]
  · rw [if_neg c]; exact zoffset_eq fu hf z (h.resolve_left c) t Y h1 h2
theorem nearF_eq (fu : Nat) (hf : 5000 ≤ fu) (z : T_api_Zone) (h : fixedZ z ∨ ZT z) (t Y : Int) (h1 : 2 ≤ Y) (h2 : Y ≤ 3999) : F_R2_OffsetNear fu z t Y = some (offF z Y t) := by
  unfold offF
  by_cases c : fixedZ z
  · rw [if_pos c]; unfold F_R2_OffsetNear; rw [bif_t (by simp [c.1])]
  · rw [if_neg c]; exact near_eq fu hf z (h.resolve_left c) t Y h1 h2
theorem zOffset_eq (fu : Nat) (hf : 20 ≤ fu) (z : T_api_Zone) (hs : (z.1.length : Int) < 9223372036854775808) (hf2 : z.1.length < fu) (t : Int) : F_zones_Offset fu z t = some (OffR z t) := by
  unfold F_zones_Offset OffR
  rw [zvalid_eq fu z hs hf2, Option.bind_some, failed_eq, Option.bind_some, bif_ne]
  by_cases c : (zfault z).1 ≠ 0
  · rw [if_pos c, if_pos c]
  · rw [if_neg c, if_neg c]
    obtain ⟨e, s1, s2, hz⟩ := zok z (Classical.not_not.1 c)
    unfold OffV
    rw [time_eq, Option.bind_some]
    by_cases c1 : -68719476736 ≤ t ∧ t ≤ 68719476736
    · rw [bif_f (by simp [c1]), if_neg (fun q => q c1), civil_eq fu hf, Option.bind_some]
      unfold CivR
      rw [if_neg (fun q => q c1), if_neg (fun q => q ⟨s1, s2⟩)]
      by_cases c2 : inDays z t
      · rw [if_neg (by unfold inDays at c2; omega), if_neg (fun q => q c2), failed_eq, Option.bind_some, bif_f (by rfl), zones_within_eq, Option.bind_some]
        have ey : (civD ((t + 60 * z.2.1) / 86400) ((t + 60 * z.2.1) % 86400) z.2.1).1 = cyear z t := rfl
        simp only [ey]
        by_cases c3 : 2 ≤ cyear z t ∧ cyear z t ≤ 3999
        · rw [bif_f (by simp [c3]), if_neg (fun q => q c3), zoffsetF_eq fu hf z hz _ _ c3.1 c3.2]; rfl
        · rw [bif_t (by simp; omega), if_pos c3]; rfl
      · rw [if_pos (by unfold inDays at c2; omega), if_pos c2]; rfl
    · rw [bif_t (by simp; omega), if_pos c1]; rfl
theorem offsetOf_eq (fu : Nat) (hf : 5000 ≤ fu) (z : T_api_Zone) (h : (zfault z).1 = 0) (t : Int) : F_R2_OffsetOf fu z t = some (OffV z t) := by
  obtain ⟨e, s1, s2, hz⟩ := zok z h
  unfold F_R2_OffsetOf OffV
  rw [r1_in_eq, Option.bind_some]
  by_cases c1 : -68719476736 ≤ t ∧ t ≤ 68719476736
  · rw [bif_f (by simp [c1]), if_neg (fun q => q c1), dateof_eq fu hf _ _ c1.1 c1.2 s1 s2, Option.bind_some]
    unfold DatR
    by_cases c2 : inDays z t
    · rw [if_neg (by unfold inDays at c2; omega), if_neg (fun q => q c2), bif_f (by rfl), r1_in_eq, Option.bind_some]
      have ey : (civD ((t + 60 * z.2.1) / 86400) ((t + 60 * z.2.1) % 86400) z.2.1).1 = cyear z t := rfl
      simp only [ey]
      by_cases c3 : 2 ≤ cyear z t ∧ cyear z t ≤ 3999
      · rw [bif_f (by simp [c3]), if_neg (fun q => q c3), nearF_eq fu hf z hz _ _ c3.1 c3.2]; rfl
      · rw [bif_t (by simp; omega), if_pos c3]; rfl
    · rw [if_pos (by unfold inDays at c2; omega), if_pos c2]; rfl
  · rw [bif_t (by simp; omega), if_pos c1]; rfl
theorem feq (a b : T_api_Fault) : ((a.1 == b.1) && ((a.2 == b.2) && true)) = decide (a = b) := by
  rw [Bool.eq_iff_iff, decide_eq_true_iff]
  cases a; cases b; simp
end Go.Sym
/- The plain functions of the zones package: the instants of a local date; the example. -/
namespace Go.Sym
open Cal Zn

open Classical in
noncomputable def pick (z : T_api_Zone) (L o : Int) : List Int := if (OffR z (L - 60 * o)).2.1 = 0 ∧ (OffR z (L - 60 * o)).1 = o then [L - 60 * o] else []
theorem pick_len (z : T_api_Zone) (L o : Int) : (pick z L o).length ≤ 1 := by unfold pick; split <;> simp
theorem ins_step (r1 : Int → Int → Int → T_api_Zone → T_api_Fault → List Int → List Int → Option (T_api_Fault × List Int)) (fu : Nat) (hf : 20 ≤ fu) (z : T_api_Zone) (hs : (z.1.length : Int) < 9223372036854775808) (hf2 : z.1.length < fu)
    (L len i o : Int) (f : T_api_Fault) (acc offs : List Int) (hi : i < len) (hx : idx offs i = some o) (hi0 : -10 ≤ i) (hi1 : i ≤ 10) (hL1 : -1000000000000 ≤ L) (hL2 : L ≤ 1000000000000) (ho1 : -10000 ≤ o) (ho2 : o ≤ 10000) (hl : acc.length ≤ 10) :
    F_zones_Instants_b1 fu r1 L len i z f offs acc = r1 L len (i + 1) z f offs (acc ++ pick z L o) := by
  rw [F_zones_Instants_b1, bif_t (by simp; exact hi), rowidx, hx, Option.bind_some, w64_eq (x := 60 * o) (by omega) (by omega), w64_eq (x := L - 60 * o) (by omega) (by omega), w64_eq (x := i + 1) (by omega) (by omega), zOffset_eq fu hf z hs hf2, Option.bind_some, failed_eq, Option.bind_some]
  unfold pick
  by_cases c1 : (OffR z (L - 60 * o)).2.1 = 0
  · rw [bif_t (by simp [c1])]
    by_cases c2 : (OffR z (L - 60 * o)).1 = o
    · rw [bif_t (by simp [c2]), bif_t (by simp [rowMax]; omega), if_pos ⟨c1, c2⟩]
    · rw [bif_f (by simp [c2]), if_neg (fun q => c2 q.2), List.append_nil]
  · rw [bif_f (by simp [c1]), if_neg (fun q => c1 q.1), List.append_nil]
noncomputable def picks (z : T_api_Zone) (L : Int) : List Int := pick z L z.2.1 ++ (if fixedZ z then [] else pick z L z.2.2.1)
noncomputable def InsR (z : T_api_Zone) (d : T_api_Date) : T_api_Fault × List Int :=
  if (zfault z).1 ≠ 0 then (zfault z, []) else if ¬ DOk d then ((3, -3), []) else if d.2.2.2.2.2.2 ≠ 0 then ((5, -9), []) else if ¬ (3 ≤ d.1 ∧ d.1 ≤ 3998) then ((3, -9), []) else ((0, 0), sorted (picks z (insD d)))
theorem insD_bd {d : T_api_Date} (h : DOk d) : -100000000000 ≤ insD d ∧ insD d ≤ 100000000000 := by
  have := dayD_bd h; obtain ⟨_, _, _, _, _, _, _, _, _⟩ := h; unfold insD; omega
theorem zInstants_eq (fu : Nat) (hf : 20 ≤ fu) (z : T_api_Zone) (hs : (z.1.length : Int) < 9223372036854775808) (hf2 : z.1.length < fu) (d : T_api_Date) : F_zones_Instants fu z d = some (InsR z d) := by
  unfold F_zones_Instants InsR
  rw [zvalid_eq fu z hs hf2, Option.bind_some, failed_eq, Option.bind_some, bif_ne]
  by_cases c : (zfault z).1 ≠ 0
  · rw [if_pos c, if_pos c]
  rw [if_neg c, if_neg c, instant_eq fu hf, Option.bind_some]
  obtain ⟨e, s1, s2, hz⟩ := zok z (Classical.not_not.1 c)
  by_cases c1 : ¬ DOk d
  · rw [if_neg c1, if_pos c1, failed_eq, Option.bind_some, bif_t (by rfl)]
  replace c1 := Classical.not_not.1 c1
  rw [if_pos c1, if_neg (c := ¬ DOk d) (fun q => q c1), failed_eq, Option.bind_some, bif_f (by rfl), bif_ne]
  have hb := insD_bd c1
  by_cases c2 : d.2.2.2.2.2.2 ≠ 0
  · rw [if_pos c2, if_pos c2]; rfl
  rw [if_neg c2, if_neg c2, zones_within_eq, Option.bind_some, bif_nd]
  by_cases c3 : ¬ (3 ≤ d.1 ∧ d.1 ≤ 3998)
  · rw [if_neg c3, if_pos c3]; rfl
  replace c3 := Classical.not_not.1 c3
  rw [if_pos c3, if_neg (c := ¬ (3 ≤ d.1 ∧ d.1 ≤ 3998)) (fun q => q c3), fixed_eq, Option.bind_some, bif_nd]
  obtain ⟨n, hn⟩ : ∃ n, fu = n + 1 + 1 + 1 := ⟨fu - 3, by omega⟩
  have l1 := pick_len z (insD d) z.2.1
  have l2 := pick_len z (insD d) z.2.2.1
  have sortp : ∀ l : List Int, l.length ≤ 10 → F_slices_Sort l = some (sorted l) := by
    intro l hl; unfold F_slices_Sort; rw [bif_t (decide_eq_true (by unfold rowMax; omega))]
  unfold F_zones_Instants_p0
  by_cases c4 : fixedZ z
  · rw [if_pos c4]
    have q : F_zones_Instants_p1 fu (n + 1 + 1 + 1) (insD d) (List.length ([z.2.1] : List Int) : Int) 0 z (0, 0) [z.2.1] [] = some ((0, 0), sorted (picks z (insD d))) := by
      rw [F_zones_Instants_p1, ins_step _ fu hf z hs hf2 _ _ _ z.2.1 _ _ _ (by simp) rfl (by omega) (by omega) (by omega) (by omega) (by omega) (by omega) (by simp)]
      rw [F_zones_Instants_p1, F_zones_Instants_b1, bif_f (by simp), sortp _ (by simp; omega), none_eq]
      simp [picks, c4]
    rw [← hn] at q
    exact q
  · rw [if_neg c4]
    have hz' := hz.resolve_left c4
    have m1 := hz'.m1; have m2 := hz'.m2
    rw [bif_t (by simp [rowMax])]
    have q : F_zones_Instants_p1 fu (n + 1 + 1 + 1) (insD d) (List.length (([z.2.1] : List Int) ++ [z.2.2.1]) : Int) 0 z (0, 0) ([z.2.1] ++ [z.2.2.1]) [] = some ((0, 0), sorted (picks z (insD d))) := by
      rw [F_zones_Instants_p1, ins_step _ fu hf z hs hf2 _ _ _ z.2.1 _ _ _ (by simp) rfl (by omega) (by omega) (by omega) (by omega) (by omega) (by omega) (by simp)]
      rw [F_zones_Instants_p1, ins_step _ fu hf z hs hf2 _ _ _ z.2.2.1 _ _ _ (by simp) rfl (by omega) (by omega) (by omega) (by omega) (by omega) (by omega) (by simp; omega)]
      rw [F_zones_Instants_p1, F_zones_Instants_b1, bif_f (by simp), sortp _ (by simp; omega), none_eq]
      simp [picks, c4]
    rw [← hn] at q
    exact q
/-- two lists of integers alike -/
theorem ints_loop (fu : Nat) (a b : List Int) (hab : a.length = b.length) (hs : (a.length : Int) < 9223372036854775808) : ∀ (n k : Nat), k ≤ a.length → a.length - k < n → F_R1_Ints_p0 fu n a b k = some (decide (a.drop k = b.drop k)) := by
  intro n
  induction n with
  | zero => intro k h1 h2; omega
  | succ n ih =>
    intro k h1 h2
    rw [F_R1_Ints_p0, F_R1_Ints_b0]
    by_cases c : k < a.length
    · have hi : idx a (k : Int) = some a[k] := by unfold idx; rw [if_pos (by omega)]; simp [c]
      have hi2 : idx b (k : Int) = some (b[k]'(by omega)) := by unfold idx; rw [if_pos (by omega)]; simp [show k < b.length by omega]
      rw [bif_t (by simp; exact c), hi, Option.bind_some, hi2, Option.bind_some, bif_ne, List.drop_eq_getElem_cons c, List.drop_eq_getElem_cons (show k < b.length by omega)]
      have := ih (k + 1) (by omega) (by omega)
      rw [Int.natCast_add] at this
      rw [w64_eq (by omega) (by omega)]
      by_cases g : a[k] = b[k]'(by omega)
      · rw [if_neg (by simp [g])]
        refine Eq.trans this ?_
        congr 1
        rw [decide_eq_decide]
        simp only [List.cons.injEq, g, true_and]
      · rw [if_pos g]
        congr 1
        exact (decide_eq_false (fun q => g (List.cons.inj q).1)).symm
    · rw [bif_f (by simp; omega), List.drop_eq_nil_of_le (by omega), List.drop_eq_nil_of_le (by omega)]; rfl
theorem ints_eq (fu : Nat) (a b : List Int) (hs : (a.length : Int) < 9223372036854775808) (hf : a.length < fu) : F_R1_Ints fu a b = some (decide (a = b)) := by
  unfold F_R1_Ints
  by_cases c : a.length = b.length
  · rw [bif_f (by simp [c])]
    have := ints_loop fu a b c hs fu 0 (by omega) (by omega)
    exact this
  · rw [bif_t (by simp; omega)]
    have : a ≠ b := fun q => c (by rw [q])
    rw [decide_eq_false this]
theorem sorted_nil : sorted [] = [] := by simp [sorted]
theorem sorted_one (x : Int) : sorted [x] = [x] := by simp [sorted]
theorem sorted_two (x y : Int) (h : y < x) : sorted [x, y] = [y, x] := by
  simp [sorted, List.mergeSort, List.MergeSort.Internal.splitInTwo, List.merge]; omega
end Go.Sym
/- ZonesInstantsMatchesSpec, plain. -/
namespace Go.Sym
open Cal Zn

theorem cyear_spec {z : T_api_Zone} {t : Int} (h : inDays z t) : YearAt z.2.1 t (cyear z t) ∧ 1 ≤ cyear z t ∧ cyear z t ≤ 4000 := by
  obtain ⟨hv, he⟩ := civ_vld _ h.1 h.2
  have a := day_year _ _ _ hv
  rw [he] at a
  unfold cyear YearAt jan
  refine ⟨⟨by omega, by omega⟩, hv.1, hv.2.1⟩
theorem insD_year {d : T_api_Date} (h : DOk d) (hz : d.2.2.2.2.2.2 = 0) : jan d.1 ≤ insD d ∧ insD d < jan (d.1 + 1) := by
  have a := day_year _ _ _ h.1
  obtain ⟨_, _, _, _, _, _, _, _, _⟩ := h
  unfold insD jan; rw [hz]; omega
theorem jan_vals : jan 3 = -62072524800 ∧ jan 2 = -62104060800 ∧ jan 3999 = 64029052800 ∧ jan 4000 = 64060588800 := by
  refine ⟨?_, ?_, ?_, ?_⟩ <;> decide
theorem offW_eq {z : T_api_Zone} {a b c d t : Int} (h : SumW (Bz z) (Ez z) a b t ↔ SumW (Bz z) (Ez z) c d t) : offW z a b t = offW z c d t := by
  unfold offW
  by_cases q : SumW (Bz z) (Ez z) a b t
  · rw [if_pos q, if_pos (h.1 q)]
  · rw [if_neg q, if_neg (fun k => q (h.2 k))]
/-- the offset at an instant that the local date may stand for, by the turns around the date's own year -/
theorem off_local {z : T_api_Zone} (hz0 : (zfault z).1 = 0) {d : T_api_Date} (h : DOk d) (hzn : d.2.2.2.2.2.2 = 0) (hy1 : 3 ≤ d.1) (hy2 : d.1 ≤ 3998) (o : Int)
    (ho : o = z.2.1 ∨ (¬ fixedZ z ∧ o = z.2.2.1)) : OffR z (insD d - 60 * o) = (offF z d.1 (insD d - 60 * o), ⟨0, 0⟩) := by
  obtain ⟨_, s1, s2, hz⟩ := zok z hz0
  obtain ⟨L1, L2⟩ := insD_year h hzn
  obtain ⟨v3, v2, v9, v0⟩ := jan_vals
  have j1 := jan_mono 3 d.1 hy1
  have j2 := jan_mono (d.1 + 1) 3999 (by omega)
  have ho' : z.2.1 ≤ o ∧ o ≤ z.2.1 + 180 := by
    rcases ho with rfl | ⟨q, rfl⟩
    · omega
    · have := (hz.resolve_left q).d1; have := (hz.resolve_left q).d2; omega
  have hin : inDays z (insD d - 60 * o) := by unfold inDays; omega
  obtain ⟨hY, c1, c2⟩ := cyear_spec hin
  have hcy : cyear z (insD d - 60 * o) = d.1 ∨ cyear z (insD d - 60 * o) + 1 = d.1 := by
    obtain ⟨y1, y2⟩ := hY
    generalize cyear z (insD d - 60 * o) = c at *
    rcases Int.lt_trichotomy (c + 1) d.1 with q | q | q
    · have := jan_mono (c + 2) d.1 (by omega)
      have := jan_step (c + 1)
      rw [show c + 1 + 1 = c + 2 by omega] at this
      omega
    · exact .inr q
    · by_cases q2 : c = d.1
      · exact .inl q2
      · have := jan_mono (d.1 + 1) c (by omega); omega
  unfold OffR OffV
  rw [if_neg (by simp [hz0]), if_neg (by omega), if_neg (fun q => q hin), if_neg (by omega)]
  congr 1
  unfold offF
  by_cases hfx : fixedZ z
  · rw [if_pos hfx, if_pos hfx]
  · rw [if_neg hfx, if_neg hfx]
    rcases hcy with e | e
    · rw [e]
    · have hT := (hz.resolve_left hfx).turns
      have hl : jan (cyear z (insD d - 60 * o) + 1) ≤ insD d - 60 * o + 60 * z.2.2.1 := by
        rw [e]
        rcases ho with rfl | ⟨_, rfl⟩
        · have := (hz.resolve_left hfx).d1; omega
        · omega
      have w1 := sumW_year hT hY
      have w2 := sumW_late hT hY hl
      have := offW_eq (w1.trans w2.symm)
      rw [this, ← e]
      congr 1 <;> omega
open Classical in
noncomputable def pickR (z : T_api_Zone) (Y L o : Int) : List Int := if offF z Y (L - 60 * o) = o then [L - 60 * o] else []
theorem pick_local {z : T_api_Zone} (hz0 : (zfault z).1 = 0) {d : T_api_Date} (h : DOk d) (hzn : d.2.2.2.2.2.2 = 0) (hy1 : 3 ≤ d.1) (hy2 : d.1 ≤ 3998) (o : Int)
    (ho : o = z.2.1 ∨ (¬ fixedZ z ∧ o = z.2.2.1)) : pick z (insD d) o = pickR z d.1 (insD d) o := by
  unfold pick pickR
  rw [off_local hz0 h hzn hy1 hy2 o ho]
  simp
theorem picks_sorted {z : T_api_Zone} (hz0 : (zfault z).1 = 0) {d : T_api_Date} (h : DOk d) (hzn : d.2.2.2.2.2.2 = 0) (hy1 : 3 ≤ d.1) (hy2 : d.1 ≤ 3998) :
    sorted (picks z (insD d)) = (if fixedZ z then [] else pickR z d.1 (insD d) z.2.2.1) ++ pickR z d.1 (insD d) z.2.1 := by
  obtain ⟨_, s1, s2, hz⟩ := zok z hz0
  unfold picks
  rw [pick_local hz0 h hzn hy1 hy2 _ (.inl rfl)]
  by_cases hfx : fixedZ z
  · rw [if_pos hfx, if_pos hfx, List.append_nil, List.nil_append]
    unfold pickR
    split
    · exact sorted_one _
    · exact sorted_nil
  · rw [if_neg hfx, if_neg hfx, pick_local hz0 h hzn hy1 hy2 _ (.inr ⟨hfx, rfl⟩)]
    have d1 := (hz.resolve_left hfx).d1
    unfold pickR
    split <;> split
    · exact sorted_two _ _ (by omega)
    · exact sorted_one _
    · exact sorted_one _
    · exact sorted_nil
theorem instantsOf_eq (fu : Nat) (hf : 5000 ≤ fu) {z : T_api_Zone} (hz0 : (zfault z).1 = 0) {d : T_api_Date} (h : DOk d) (hzn : d.2.2.2.2.2.2 = 0) (hy1 : 3 ≤ d.1) (hy2 : d.1 ≤ 3998) :
    F_R2_InstantsOf fu z d = some ((if fixedZ z then [] else pickR z d.1 (insD d) z.2.2.1) ++ pickR z d.1 (insD d) z.2.1) := by
  obtain ⟨_, s1, s2, hz⟩ := zok z hz0
  have hb := insD_bd h
  unfold F_R2_InstantsOf F_R2_InstantsOf_p0 F_R2_InstantsOf_p1
  have ed : (d.1, d.2.1, d.2.2.1, d.2.2.2.1, d.2.2.2.2.1, d.2.2.2.2.2.1, (0 : Int)) = d := by rw [← hzn]
  rw [ed, secs_eq fu hf d h]
  simp only [Option.bind_some]
  have nf := fun t => nearF_eq fu hf z hz t d.1 (by omega) (by omega)
  rw [w64_eq (x := 60 * z.2.1) (by omega) (by omega), w64_eq (x := insD d - 60 * z.2.1) (by omega) (by omega)]
  by_cases hfx : fixedZ z
  · rw [if_pos hfx, bif_f (by have := hfx.1; simp; omega)]
    simp only [nf, Option.bind_some, bif_eq, cond_false]
    by_cases q2 : offF z d.1 (insD d - 60 * z.2.1) = z.2.1 <;> simp [pickR, q2, rowMax]
  · rw [if_neg hfx]
    have hT := hz.resolve_left hfx
    have := hT.m1; have := hT.m2; have := hT.b.1
    rw [bif_t (by simp; omega), w64_eq (x := 60 * z.2.2.1) (by omega) (by omega), w64_eq (x := insD d - 60 * z.2.2.1) (by omega) (by omega)]
    simp only [nf, Option.bind_some, bif_eq]
    by_cases q1 : offF z d.1 (insD d - 60 * z.2.2.1) = z.2.2.1 <;> by_cases q2 : offF z d.1 (insD d - 60 * z.2.1) = z.2.1 <;> simp [pickR, q1, q2, rowMax]
theorem localFault_eq (d : T_api_Date) : F_R2_LocalFault d = some (if ¬ DOk d then ⟨3, -3⟩ else if d.2.2.2.2.2.2 ≠ 0 then ⟨5, -9⟩ else if ¬ (3 ≤ d.1 ∧ d.1 ≤ 3998) then ⟨3, -9⟩ else ⟨0, 0⟩) := by
  unfold F_R2_LocalFault
  rw [dfault_eq, Option.bind_some]
  by_cases h : DOk d
  · rw [if_pos h, bif_f (by rfl), if_neg (fun q => q h), bif_ne, r1_in_eq, Option.bind_some, bif_nd]
    simp only [at_eq, Option.bind_some]
    by_cases c : d.2.2.2.2.2.2 ≠ 0
    · rw [if_pos c, if_pos c]
    · rw [if_neg c, if_neg c]
      by_cases c2 : 3 ≤ d.1 ∧ d.1 ≤ 3998
      · rw [if_pos c2, if_neg (fun q => q c2)]
      · rw [if_neg c2, if_pos c2]
  · rw [if_neg h, bif_t (by rfl), if_pos h]
end Go.Sym
/- ZonesFixed and ZonesLocalDates, plain. -/
namespace Go.Sym
open Cal Zn

theorem offR_cases (z : T_api_Zone) (t : Int) : ((OffR z t).2.1 ≠ 0 ∧ (OffR z t).1 = 0) ∨
    ((OffR z t).2 = ⟨0, 0⟩ ∧ (zfault z).1 = 0 ∧ -68719476736 ≤ t ∧ t ≤ 68719476736 ∧ inDays z t ∧ 2 ≤ cyear z t ∧ cyear z t ≤ 3999 ∧ (OffR z t).1 = offF z (cyear z t) t) := by
  unfold OffR OffV
  by_cases c : (zfault z).1 ≠ 0
  · rw [if_pos c]; exact .inl ⟨c, rfl⟩
  rw [if_neg c]
  by_cases c1 : ¬ (-68719476736 ≤ t ∧ t ≤ 68719476736)
  · rw [if_pos c1]; exact .inl ⟨by decide, rfl⟩
  rw [if_neg c1]
  by_cases c2 : ¬ inDays z t
  · rw [if_pos c2]; exact .inl ⟨by decide, rfl⟩
  rw [if_neg c2]
  by_cases c3 : ¬ (2 ≤ cyear z t ∧ cyear z t ≤ 3999)
  · rw [if_pos c3]; exact .inl ⟨by decide, rfl⟩
  rw [if_neg c3]
  exact .inr ⟨rfl, Classical.not_not.1 c, by omega, by omega, Classical.not_not.1 c2, by omega, by omega, rfl⟩
theorem insR_cases (z : T_api_Zone) (d : T_api_Date) : ((InsR z d).1.1 ≠ 0 ∧ (InsR z d).2 = []) ∨
    ((InsR z d).1 = ⟨0, 0⟩ ∧ (zfault z).1 = 0 ∧ DOk d ∧ d.2.2.2.2.2.2 = 0 ∧ 3 ≤ d.1 ∧ d.1 ≤ 3998 ∧ (InsR z d).2 = (if fixedZ z then [] else pickR z d.1 (insD d) z.2.2.1) ++ pickR z d.1 (insD d) z.2.1) := by
  unfold InsR
  by_cases c : (zfault z).1 ≠ 0
  · rw [if_pos c]; exact .inl ⟨c, rfl⟩
  rw [if_neg c]
  by_cases c1 : ¬ DOk d
  · rw [if_pos c1]; exact .inl ⟨by decide, rfl⟩
  rw [if_neg c1]
  by_cases c2 : d.2.2.2.2.2.2 ≠ 0
  · rw [if_pos c2]; exact .inl ⟨by decide, rfl⟩
  rw [if_neg c2]
  by_cases c3 : ¬ (3 ≤ d.1 ∧ d.1 ≤ 3998)
  · rw [if_pos c3]; exact .inl ⟨by decide, rfl⟩
  rw [if_neg c3]
  exact .inr ⟨rfl, Classical.not_not.1 c, Classical.not_not.1 c1, Classical.not_not.1 c2, by omega, by omega, picks_sorted (Classical.not_not.1 c) (Classical.not_not.1 c1) (Classical.not_not.1 c2) (by omega) (by omega)⟩
/-- is an integer in a list -/
theorem has_loop (fu : Nat) (a : List Int) (x : Int) (hs : (a.length : Int) < 9223372036854775808) : ∀ (n k : Nat), k ≤ a.length → a.length - k < n → F_R2_Has_p0 fu n a x k = some (decide (x ∈ a.drop k)) := by
  intro n
  induction n with
  | zero => intro k h1 h2; omega
  | succ n ih =>
    intro k h1 h2
    rw [F_R2_Has_p0, F_R2_Has_b0]
    by_cases c : k < a.length
    · have hi : idx a (k : Int) = some a[k] := by unfold idx; rw [if_pos (by omega)]; simp [c]
      have := ih (k + 1) (by omega) (by omega)
      rw [Int.natCast_add] at this
      rw [bif_t (by simp; exact c), hi, Option.bind_some, bif_eq, w64_eq (by omega) (by omega), List.drop_eq_getElem_cons c]
      by_cases g : a[k] = x
      · rw [if_pos g, decide_eq_true (by rw [g]; exact List.mem_cons_self)]
      · rw [if_neg g]
        refine Eq.trans this ?_
        congr 1
        rw [decide_eq_decide, List.mem_cons]
        constructor
        · exact .inr
        · rintro (q | q)
          · exact absurd q.symm g
          · exact q
    · rw [bif_f (by simp; omega), List.drop_eq_nil_of_le (by omega)]; rfl
theorem has_eq (fu : Nat) (a : List Int) (x : Int) (hs : (a.length : Int) < 9223372036854775808) (hf : a.length < fu) : F_R2_Has fu a x = some (decide (x ∈ a)) := by
  unfold F_R2_Has
  exact has_loop fu a x hs fu 0 (by omega) (by omega)
theorem offF_cases {z : T_api_Zone} (Y t : Int) : offF z Y t = z.2.1 ∨ (¬ fixedZ z ∧ offF z Y t = z.2.2.1) := by
  unfold offF offW
  by_cases c : fixedZ z
  · rw [if_pos c]; exact .inl rfl
  · rw [if_neg c]
    split
    · exact .inr ⟨c, rfl⟩
    · exact .inl rfl
/-- the civil date of an instant, by an offset -/
theorem civD_ok {n s : Int} (h1 : -719162 ≤ n) (h2 : n ≤ 741807) (hs : 0 ≤ s) (hs2 : s < 86400) (z : Int) (hz1 : -900 ≤ z) (hz2 : z ≤ 900) : DOk (civD n s z) ∧ insD (civD n s z) = n * 86400 + s - 60 * z := by
  obtain ⟨hv, he⟩ := civ_vld n h1 h2
  refine ⟨⟨hv, ?_, ?_, ?_, ?_, ?_, ?_, hz1, hz2⟩, ?_⟩ <;> simp only [civD, insD] <;> (try rw [he]) <;> omega
end Go.Sym
/- Lists of instants: sorting, compacting, deleting, searching, inserting. -/
namespace Go.Sym
open Cal Zn

theorem bif_dt {α : Type} {p : Prop} [Decidable p] {x y : α} (h : p) : (bif decide p then x else y) = x := bif_t (decide_eq_true h)
theorem bif_df {α : Type} {p : Prop} [Decidable p] {x y : α} (h : ¬ p) : (bif decide p then x else y) = y := bif_f (decide_eq_false h)
abbrev Strict (l : List Int) : Prop := l.Pairwise (· < ·)
theorem strict_ext : ∀ (a b : List Int), Strict a → Strict b → (∀ x, x ∈ a ↔ x ∈ b) → a = b
  | [], [], _, _, _ => rfl
  | [], y :: b, _, _, h => by have := (h y).2 List.mem_cons_self; cases this
  | x :: a, [], _, _, h => by have := (h x).1 List.mem_cons_self; cases this
  | x :: a, y :: b, ha, hb, h => by
    have ha' := List.pairwise_cons.1 ha
    have hb' := List.pairwise_cons.1 hb
    have e : x = y := by
      rcases List.mem_cons.1 ((h x).1 List.mem_cons_self) with q | q
      · exact q
      · rcases List.mem_cons.1 ((h y).2 List.mem_cons_self) with q2 | q2
        · exact q2.symm
        · have := hb'.1 x q; have := ha'.1 y q2; omega
    subst e
    rw [strict_ext a b ha'.2 hb'.2 (fun t => ?_)]
    constructor
    · intro ht
      rcases List.mem_cons.1 ((h t).1 (List.mem_cons_of_mem _ ht)) with q | q
      · have := ha'.1 t ht; omega
      · exact q
    · intro ht
      rcases List.mem_cons.1 ((h t).2 (List.mem_cons_of_mem _ ht)) with q | q
      · have := hb'.1 t ht; omega
      · exact q
theorem compact_upto (d : Array Int) (hs : ∀ i j : Nat, i ≤ j → j < d.size → d[i]! ≤ d[j]!) : ∀ m : Nat, m ≤ d.size → Strict (Lib.compactUpTo d m) ∧ ∀ x, x ∈ Lib.compactUpTo d m ↔ ∃ j : Nat, j < m ∧ d[j]! = x := by
  intro m
  induction m with
  | zero => intro _; exact ⟨List.Pairwise.nil, fun x => ⟨fun h => (by cases h), fun ⟨j, hj, _⟩ => (by omega)⟩⟩
  | succ m ih =>
    intro hm
    obtain ⟨h1, h2⟩ := ih (by omega)
    rw [Lib.compactUpTo_succ]
    by_cases k : Lib.keeps d m = true
    · rw [if_pos k]
      refine ⟨?_, fun x => ?_⟩
      · refine List.pairwise_append.2 ⟨h1, List.pairwise_singleton _ _, fun a ha b hb => ?_⟩
        rw [List.mem_singleton] at hb
        subst hb
        obtain ⟨j, hj, rfl⟩ := (h2 a).1 ha
        have k' : m = 0 ∨ d[m]! ≠ d[m - 1]! := by simpa [Lib.keeps] using k
        rcases k' with q | q
        · omega
        · have a1 := hs j (m - 1) (by omega) (by omega)
          have a2 := hs (m - 1) m (by omega) (by omega)
          omega
      · rw [List.mem_append, List.mem_singleton, h2]
        constructor
        · rintro (⟨j, hj, e⟩ | e)
          · exact ⟨j, by omega, e⟩
          · exact ⟨m, by omega, e.symm⟩
        · rintro ⟨j, hj, e⟩
          by_cases c : j = m
          · subst c; exact .inr e.symm
          · exact .inl ⟨j, by omega, e⟩
    · rw [if_neg k, List.append_nil]
      refine ⟨h1, fun x => ?_⟩
      rw [h2]
      have k' : ¬ (m = 0 ∨ d[m]! ≠ d[m - 1]!) := by simpa [Lib.keeps] using k
      have k1 : m ≠ 0 := fun q => k' (.inl q)
      have k2 : d[m]! = d[m - 1]! := Classical.not_not.1 (fun q => k' (.inr q))
      constructor
      · rintro ⟨j, hj, e⟩; exact ⟨j, by omega, e⟩
      · rintro ⟨j, hj, e⟩
        by_cases c : j = m
        · subst c; exact ⟨j - 1, by omega, by rw [← k2, e]⟩
        · exact ⟨j, by omega, e⟩
theorem get_bang (l : List Int) (i : Nat) (h : i < l.length) : l.toArray[i]! = l[i] := by simp [h]
theorem sorted_pair (l : List Int) : (sorted l).Pairwise (· ≤ ·) := by
  have := List.pairwise_mergeSort (le := fun x y : Int => decide (x ≤ y)) (fun a b c h1 h2 => by simp at *; omega) (fun a b => by simp; omega) l
  exact this.imp (fun h => by simpa using h)
theorem sorted_mem (l : List Int) (x : Int) : x ∈ sorted l ↔ x ∈ l := by unfold sorted; exact List.mem_mergeSort
/-- the list without what is twice, in order -/
def uniq (l : List Int) : List Int := compactI (sorted l)
theorem uniq_spec (l : List Int) : Strict (uniq l) ∧ ∀ x, x ∈ uniq l ↔ x ∈ l := by
  have hp := sorted_pair l
  have := compact_upto (sorted l).toArray (fun i j hij hj => by
    have hj' : j < (sorted l).length := by simpa using hj
    rw [get_bang _ i (by omega), get_bang _ j hj']
    by_cases c : i = j
    · subst c; omega
    · exact List.pairwise_iff_getElem.1 hp i j (by omega) hj' (by omega)) (sorted l).length (by simp)
  refine ⟨this.1, fun x => ?_⟩
  have h2 := this.2 x
  unfold uniq compactI Lib.compact
  rw [h2, ← sorted_mem l x]
  constructor
  · rintro ⟨j, hj, rfl⟩
    rw [get_bang _ j hj]
    exact List.getElem_mem hj
  · intro hx
    obtain ⟨j, hj, e⟩ := List.getElem_of_mem hx
    exact ⟨j, hj, by rw [get_bang _ j hj, e]⟩
theorem idx_nat {α : Type} (l : List α) (k : Nat) (h : k < l.length) : idx l (k : Int) = some l[k] := by
  unfold idx; rw [if_pos (by omega)]; simp [h]
/-- within a range -/
def inRg (a b t : Int) : Bool := decide (a ≤ t) && decide (t ≤ b)
theorem outside_eq (t a b : Int) : F_recur_Between_1 t a b = some (!inRg a b t, a, b) := by
  unfold F_recur_Between_1 inRg
  by_cases h : t < a
  · rw [bif_t (by simp; exact h), decide_eq_false (show ¬ a ≤ t by omega)]; rfl
  · rw [bif_f (by simp; omega), decide_eq_true (show a ≤ t by omega)]
    by_cases h2 : b < t
    · rw [decide_eq_true h2, decide_eq_false (show ¬ t ≤ b by omega)]; rfl
    · rw [decide_eq_false h2, decide_eq_true (show t ≤ b by omega)]; rfl
theorem index_loop (fu : Nat) (l : List Int) (a b : Int) (hs : (l.length : Int) < 4611686018427387904) : ∀ (n k : Nat), k ≤ l.length → l.length - k < n → (∀ x ∈ l.take k, inRg a b x = true) →
    ∃ i : Int, F_slices_IndexFunc_int_int_p0 fu n l.length k l a b = some (i, l, a, b) ∧ ((i = -1 ∧ ∀ x ∈ l, inRg a b x = true) ∨ ∃ j : Nat, ∃ h : j < l.length, i = j ∧ (∀ x ∈ l.take j, inRg a b x = true) ∧ inRg a b l[j] = false) := by
  intro n
  induction n with
  | zero => intro k h1 h2; omega
  | succ n ih =>
    intro k h1 h2 h3
    rw [F_slices_IndexFunc_int_int_p0, F_slices_IndexFunc_int_int_b0]
    by_cases c : k < l.length
    · rw [bif_t (by simp; exact c), rowidx, idx_nat l k c, Option.bind_some, outside_eq, Option.bind_some, bif_nb, w64_eq (by omega) (by omega)]
      cases hr : inRg a b l[k] with
      | false => exact ⟨k, rfl, .inr ⟨k, c, rfl, h3, hr⟩⟩
      | true =>
        have := ih (k + 1) (by omega) (by omega) (fun x hx => by
          rw [List.take_succ_eq_append_getElem c, List.mem_append, List.mem_singleton] at hx
          rcases hx with q | q
          · exact h3 x q
          · rw [q]; exact hr)
        rw [Int.natCast_add] at this
        exact this
    · rw [bif_f (by simp; omega)]
      exact ⟨-1, rfl, .inl ⟨rfl, fun x hx => h3 x (by rw [List.take_of_length_le (by omega)]; exact hx)⟩⟩
theorem delete_loop (fu : Nat) (l0 : List Int) (a b : Int) (hs : (l0.length : Int) < 4611686018427387904) : ∀ (n i j : Nat) (l : List Int), i < j → j ≤ l0.length → l.length = l0.length → l0.length - j < n → l.take i = (l0.take j).filter (inRg a b) → l.drop j = l0.drop j →
    F_slices_DeleteFunc_int_int_p0 fu n i j a b l = some (a, b, l0.filter (inRg a b)) := by
  intro n
  induction n with
  | zero => intro i j l h1 h2 h3 h4; omega
  | succ n ih =>
    intro i j l h1 h2 h3 h4 h5 h6
    rw [F_slices_DeleteFunc_int_int_p0, F_slices_DeleteFunc_int_int_b0]
    by_cases c : j < l0.length
    · have cj : j < l.length := by omega
      have ej : l[j] = l0[j] := by
        have e1 := List.drop_eq_getElem_cons cj
        have e2 := List.drop_eq_getElem_cons c
        rw [e1, e2] at h6
        exact (List.cons.inj h6).1
      have ed : l.drop (j + 1) = l0.drop (j + 1) := by
        have e1 := List.drop_eq_getElem_cons cj
        have e2 := List.drop_eq_getElem_cons c
        rw [e1, e2] at h6
        exact (List.cons.inj h6).2
      rw [bif_t (by simp; exact cj), rowidx, idx_nat l j cj, Option.bind_some, outside_eq, Option.bind_some]
      simp only [Bool.not_not]
      have et : l0.take (j + 1) = l0.take j ++ [l0[j]] := List.take_succ_eq_append_getElem c
      cases hr : inRg a b l[j] with
      | true =>
        rw [bif_t rfl, rowidx, idx_nat l i (by omega), Option.bind_some, w64_eq (by omega) (by omega), w64_eq (by omega) (by omega)]
        have := ih (i + 1) (j + 1) (l.set i l[j]) (by omega) (by omega) (by rw [List.length_set]; exact h3) (by omega) (by
          rw [et, List.filter_append, ← h5, List.take_succ_eq_append_getElem (by rw [List.length_set]; omega), List.getElem_set_self, List.take_set_of_le (Nat.le_refl _)]
          rw [← ej]; simp [hr]) (by
          rw [List.drop_set_of_lt (by omega), ed])
        rw [Int.natCast_add, Int.natCast_add] at this
        exact this
      | false =>
        rw [bif_f rfl, w64_eq (x := (j : Int) + 1) (by omega) (by omega)]
        have := ih i (j + 1) l (by omega) (by omega) h3 (by omega) (by
          rw [et, List.filter_append, ← h5, ← ej]; simp [hr]) ed
        rw [Int.natCast_add] at this
        exact this
    · rw [bif_f (by simp; omega), bif_t (by simp; omega), bif_t (by simp; omega)]
      have e : l0.take j = l0 := List.take_of_length_le (by omega)
      rw [e] at h5
      simp only [Int.toNat_natCast]
      rw [List.take_append_of_le_length (by simp; omega), List.take_take, Nat.min_self, h5]
theorem delete_eq (fu : Nat) (l : List Int) (a b : Int) (hs : (l.length : Int) < 4611686018427387904) (hf : l.length < fu) : F_slices_DeleteFunc_int_int fu l a b = some (a, b, l.filter (inRg a b)) := by
  unfold F_slices_DeleteFunc_int_int F_slices_IndexFunc_int_int
  obtain ⟨i, e, h⟩ := index_loop fu l a b hs fu 0 (by omega) (by omega) (fun x hx => by cases hx)
  rw [show ((0 : Nat) : Int) = 0 from rfl] at e
  rw [e, Option.bind_some]
  simp only []
  rcases h with ⟨rfl, h⟩ | ⟨j, hj, rfl, h1, h2⟩
  · rw [bif_t (by rfl)]
    rw [List.filter_eq_self.2 h]
  · rw [bif_f (by simp), w64_eq (by omega) (by omega)]
    have := delete_loop fu l a b hs fu j (j + 1) l (by omega) (by omega) rfl (by omega) (by
      rw [List.take_succ_eq_append_getElem hj, List.filter_append, List.filter_eq_self.2 h1]; simp [h2]) rfl
    rw [Int.natCast_add] at this
    exact this
end Go.Sym
/- Lists of instants: searching, inserting, checking. -/
namespace Go.Sym
open Cal Zn

theorem mid_eq (i j : Nat) (h : (i : Int) + j < 4611686018427387904) : w64 (Int.fdiv (IntKind.u64.wrap (w64 ((i : Int) + j))) (2 ^ min (1 : Int).toNat 64)) = (((i + j) / 2 : Nat) : Int) := by
  rw [w64_eq (x := (i : Int) + j) (by omega) (by omega)]
  have e : IntKind.u64.wrap ((i : Int) + j) = (i : Int) + j := by
    unfold IntKind.wrap
    simp [IntKind.signed, IntKind.bits]
    omega
  rw [e, show (2 : Int) ^ min (1 : Int).toNat 64 = 2 from rfl, Int.fdiv_eq_ediv_of_nonneg _ (by omega), w64_eq (by omega) (by omega)]
  omega
theorem less_eq (a b : Int) : F_cmp_Less_int a b = some (decide (a < b)) := by
  unfold F_cmp_Less_int F_cmp_isNaN_int
  rw [Option.bind_some, bif_f (by simp)]
theorem search_loop (fu : Nat) (l : List Int) (x : Int) (hl : Strict l) (hs : (l.length : Int) < 2305843009213693952) : ∀ (n i j : Nat), i ≤ j → j ≤ l.length → j - i < n → (∀ k, ∀ h : k < l.length, k < i → l[k] < x) → (∀ k, ∀ h : k < l.length, j ≤ k → x ≤ l[k]) →
    ∃ p, F_slices_BinarySearch_int_int_p0 fu n l x l.length i j = some (p, decide (x ∈ l)) := by
  intro n
  induction n with
  | zero => intro i j h1 h2 h3; omega
  | succ n ih =>
    intro i j h1 h2 h3 h4 h5
    have pw := fun (a b : Nat) (ha : a < l.length) (hb : b < l.length) (hab : a < b) => List.pairwise_iff_getElem.1 hl a b ha hb hab
    rw [F_slices_BinarySearch_int_int_p0, F_slices_BinarySearch_int_int_b0]
    simp only [mid_eq i j (by omega)]
    by_cases c : i < j
    · rw [bif_t (by simp; exact c), idx_nat l ((i + j) / 2) (by omega), Option.bind_some, less_eq, Option.bind_some]
      by_cases g : l[(i + j) / 2] < x
      · rw [bif_t (by simp; exact g), w64_eq (by omega) (by omega)]
        have := ih ((i + j) / 2 + 1) j (by omega) h2 (by omega) (fun k hk hki => by
          by_cases e : k = (i + j) / 2
          · subst e; exact g
          · have := pw k ((i + j) / 2) hk (by omega) (by omega); omega) h5
        rw [Int.natCast_add] at this
        exact this
      · rw [bif_f (by simp; omega)]
        exact ih i ((i + j) / 2) (by omega) (by omega) (by omega) h4 (fun k hk hki => by
          by_cases e : k = (i + j) / 2
          · subst e; omega
          · have := pw ((i + j) / 2) k (by omega) hk (by omega); omega)
    · have : i = j := by omega
      subst this
      rw [bif_f (by simp)]
      by_cases c2 : i < l.length
      · rw [bif_t (by simp; exact c2), idx_nat l i c2, Option.bind_some]
        by_cases e : l[i] = x
        · rw [bif_t (by simp [e])]
          exact ⟨i, by rw [decide_eq_true (by rw [← e]; exact List.getElem_mem c2)]⟩
        · rw [bif_f (by simp [e]), Option.bind_some]
          unfold F_slices_isNaN_int
          rw [Option.bind_some, bif_f (by simp)]
          refine ⟨i, ?_⟩
          rw [decide_eq_false]
          intro hx
          obtain ⟨k, hk, ek⟩ := List.getElem_of_mem hx
          have := h5 i c2 (by omega)
          rcases Nat.lt_trichotomy k i with q | q | q
          · have := h4 k hk q; omega
          · subst q; exact e ek
          · have := pw i k c2 hk q; omega
      · rw [bif_f (by simp; omega)]
        refine ⟨i, ?_⟩
        rw [decide_eq_false]
        intro hx
        obtain ⟨k, hk, ek⟩ := List.getElem_of_mem hx
        have := h4 k hk (by omega); omega
theorem search_eq (fu : Nat) (l : List Int) (x : Int) (hl : Strict l) (hs : (l.length : Int) < 2305843009213693952) (hf : l.length < fu) : ∃ p, F_slices_BinarySearch_int_int fu l x = some (p, decide (x ∈ l)) := by
  unfold F_slices_BinarySearch_int_int
  exact search_loop fu l x hl hs fu 0 l.length (by omega) (by omega) (by omega) (fun k hk q => by omega) (fun k hk q => by omega)
theorem index_mem_loop (fu : Nat) (l : List Int) (x : Int) (hs : (l.length : Int) < 4611686018427387904) : ∀ (n k : Nat), k ≤ l.length → l.length - k < n →
    ∃ i : Int, F_slices_Index_int_int_p0 fu n l x l.length k = some i ∧ (0 ≤ i ↔ x ∈ l.drop k) := by
  intro n
  induction n with
  | zero => intro k h1 h2; omega
  | succ n ih =>
    intro k h1 h2
    rw [F_slices_Index_int_int_p0, F_slices_Index_int_int_b0]
    by_cases c : k < l.length
    · rw [bif_t (by simp; exact c), idx_nat l k c, Option.bind_some, bif_eq, List.drop_eq_getElem_cons c]
      by_cases g : x = l[k]
      · rw [if_pos g]; exact ⟨k, rfl, ⟨fun _ => by rw [← g]; exact List.mem_cons_self, fun _ => by omega⟩⟩
      · rw [if_neg g, w64_eq (by omega) (by omega)]
        obtain ⟨i, e, h⟩ := ih (k + 1) (by omega) (by omega)
        rw [Int.natCast_add] at e
        refine ⟨i, e, ?_⟩
        rw [h, List.mem_cons]
        exact ⟨.inr, fun q => q.resolve_left g⟩
    · rw [bif_f (by simp; omega), List.drop_eq_nil_of_le (by omega)]
      exact ⟨-1, rfl, ⟨fun q => by omega, fun q => by cases q⟩⟩
theorem contains_eq (fu : Nat) (l : List Int) (x : Int) (hs : (l.length : Int) < 4611686018427387904) (hf : l.length < fu) : F_slices_Contains_int_int fu l x = some (decide (x ∈ l)) := by
  unfold F_slices_Contains_int_int F_slices_Index_int_int
  obtain ⟨i, e, h⟩ := index_mem_loop fu l x hs fu 0 (by omega) (by omega)
  rw [show ((0 : Nat) : Int) = 0 from rfl] at e
  rw [e, Option.bind_some]
  congr 1
  rw [decide_eq_decide, h, List.drop_zero]
/-- insertion, as the reference does it -/
def insL (x : Int) : Bool → List Int → List Int
  | true, l => l
  | false, [] => [x]
  | false, y :: l => if x < y then x :: y :: l else y :: insL x false l
theorem insL_true (x : Int) (l : List Int) : insL x true l = l := by cases l <;> rfl
theorem insL_spec (x : Int) : ∀ l : List Int, Strict l → x ∉ l → Strict (insL x false l) ∧ (∀ t, t ∈ insL x false l ↔ t = x ∨ t ∈ l)
  | [], _, _ => ⟨List.pairwise_singleton _ _, fun t => by simp [insL]⟩
  | y :: l, h, hx => by
    have h' := List.pairwise_cons.1 h
    have hxy : x ≠ y := fun q => hx (by rw [q]; exact List.mem_cons_self)
    unfold insL
    by_cases c : x < y
    · rw [if_pos c]
      refine ⟨List.pairwise_cons.2 ⟨fun t ht => ?_, h⟩, fun t => by rw [List.mem_cons]⟩
      rcases List.mem_cons.1 ht with q | q
      · omega
      · have := h'.1 t q; omega
    · rw [if_neg c]
      obtain ⟨i1, i2⟩ := insL_spec x l h'.2 (fun q => hx (List.mem_cons_of_mem _ q))
      refine ⟨List.pairwise_cons.2 ⟨fun t ht => ?_, i1⟩, fun t => ?_⟩
      · rcases (i2 t).1 ht with q | q
        · omega
        · exact h'.1 t q
      · rw [List.mem_cons, i2, List.mem_cons]
        constructor
        · rintro (q | q | q)
          · exact .inr (.inl q)
          · exact .inl q
          · exact .inr (.inr q)
        · rintro (q | q | q)
          · exact .inr (.inl q)
          · exact .inl q
          · exact .inr (.inr q)
theorem insL_len (x : Int) : ∀ (b : Bool) (l : List Int), (insL x b l).length ≤ l.length + 1
  | true, l => by rw [insL_true]; omega
  | false, [] => by simp [insL]
  | false, y :: l => by
    unfold insL
    have := insL_len x false l
    split <;> simp <;> omega
theorem insert_loop (fu : Nat) (l : List Int) (x : Int) (hs : l.length < 1000000) : ∀ (n k : Nat) (b : Bool) (acc : List Int), k ≤ l.length → l.length - k < n → acc.length ≤ 2 * k + 1 →
    F_R2_insert_p0 fu n l x b k acc = some (acc ++ insL x b (l.drop k)) := by
  intro n
  induction n with
  | zero => intro k b acc h1 h2; omega
  | succ n ih =>
    intro k b acc h1 h2 h3
    rw [F_R2_insert_p0, F_R2_insert_b0]
    by_cases c : k < l.length
    · have step : ∀ (b' : Bool) (acc' : List Int), acc'.length ≤ 2 * k + 2 → F_R2_insert_p2 fu (F_R2_insert_p0 fu n) l x b' k acc' = some (acc' ++ l[k] :: insL x b' (l.drop (k + 1))) := by
        intro b' acc' h
        unfold F_R2_insert_p2
        rw [idx_nat l k c, Option.bind_some, bif_t (decide_eq_true (by unfold rowMax; simp; omega)), w64_eq (by omega) (by omega)]
        have := ih (k + 1) b' (acc' ++ [l[k]]) (by omega) (by omega) (by simp; omega)
        rw [Int.natCast_add] at this
        refine Eq.trans this ?_
        simp
      rw [bif_t (by simp; exact c), List.drop_eq_getElem_cons c]
      cases b with
      | true =>
        rw [bif_f (by rfl)]
        unfold F_R2_insert_p1
        rw [bif_f (by rfl), step true acc (by omega), insL_true, insL_true]
      | false =>
        rw [bif_t (by rfl), idx_nat l k c, Option.bind_some]
        unfold F_R2_insert_p1
        have hi : insL x false (l[k] :: l.drop (k + 1)) = if x < l[k] then x :: l[k] :: l.drop (k + 1) else l[k] :: insL x false (l.drop (k + 1)) := rfl
        rw [hi]
        by_cases g : x < l[k]
        · rw [if_pos g, bif_t (by simp; exact g), bif_t (decide_eq_true (by unfold rowMax; simp; omega))]
          rw [step true (acc ++ [x]) (by simp; omega), insL_true]
          simp
        · rw [if_neg g, bif_f (by simp; omega), step false acc (by omega)]
    · rw [bif_f (by simp; omega), List.drop_eq_nil_of_le (by omega)]
      cases b with
      | true => rw [bif_f (by rfl), insL_true, List.append_nil]
      | false => rw [bif_t (by rfl), bif_t (decide_eq_true (by unfold rowMax; simp; omega))]; rfl
end Go.Sym
/- The checks of a recurrence, by the program and by the reference. -/
namespace Go.Sym
open Cal Zn

def insS (x : Int) (l : List Int) : List Int := if x ∈ l then l else insL x false l
theorem insS_spec (x : Int) (l : List Int) (h : Strict l) : Strict (insS x l) ∧ (∀ t, t ∈ insS x l ↔ t = x ∨ t ∈ l) := by
  unfold insS
  by_cases c : x ∈ l
  · rw [if_pos c]
    refine ⟨h, fun t => ⟨.inr, ?_⟩⟩
    rintro (q | q)
    · rw [q]; exact c
    · exact q
  · rw [if_neg c]; exact insL_spec x l h c
theorem insS_len (x : Int) (l : List Int) : (insS x l).length ≤ l.length + 1 := by
  unfold insS
  have := insL_len x false l
  split <;> omega
theorem insert_eq (fu : Nat) (l : List Int) (x : Int) (hs : l.length < 1000000) (hf : l.length < fu) : F_R2_insert fu l x = some (insS x l) := by
  unfold F_R2_insert insS
  rw [has_eq fu l x (by omega) hf, Option.bind_some, bif_d]
  by_cases c : x ∈ l
  · rw [if_pos c, if_pos c]
  · rw [if_neg c, if_neg c]
    have := insert_loop fu l x hs fu 0 false [] (by omega) (by omega) (by simp)
    exact this
def leP (p : Option Int) (x : Int) : Bool := match p with | some y => decide (x ≤ y) | none => false
/-- the first thing that is wrong with a list -/
def scanI (f : Int → Bool) : Option Int → List Int → Int
  | _, [] => 0
  | p, x :: l => if f x = false then 3 else if leP p x = true then 19 else scanI f (some x) l
theorem scanI_ok (f : Int → Bool) : ∀ (l : List Int) (p : Option Int), scanI f p l = 0 → Strict l ∧ (∀ x ∈ l, f x = true) ∧ (∀ y, p = some y → ∀ x ∈ l, y < x)
  | [], _, _ => ⟨List.Pairwise.nil, fun x h => (by cases h), fun y _ x h => (by cases h)⟩
  | x :: l, p, h => by
    unfold scanI at h
    by_cases c : f x = false
    · rw [if_pos c] at h; omega
    rw [if_neg c] at h
    by_cases c2 : leP p x = true
    · rw [if_pos c2] at h; omega
    rw [if_neg c2] at h
    obtain ⟨i1, i2, i3⟩ := scanI_ok f l _ h
    have i3' := i3 x rfl
    refine ⟨List.pairwise_cons.2 ⟨i3', i1⟩, fun y hy => ?_, fun y hy t ht => ?_⟩
    · rcases List.mem_cons.1 hy with q | q
      · rw [q]; simpa using c
      · exact i2 y q
    · subst hy
      have hyx : y < x := by simp [leP] at c2; exact c2
      rcases List.mem_cons.1 ht with q | q
      · omega
      · have := i3' t q; omega
theorem scanI_good (f : Int → Bool) : ∀ (l : List Int) (p : Option Int), Strict l → (∀ x ∈ l, f x = true) → (∀ y, p = some y → ∀ x ∈ l, y < x) → scanI f p l = 0
  | [], _, _, _, _ => rfl
  | x :: l, p, h1, h2, h3 => by
    unfold scanI
    rw [if_neg (by rw [h2 x List.mem_cons_self]; simp)]
    have h1' := List.pairwise_cons.1 h1
    rw [if_neg (by
      cases p with
      | none => simp [leP]
      | some y => have := h3 y rfl x List.mem_cons_self; simp [leP]; omega)]
    exact scanI_good f l _ h1'.2 (fun y hy => h2 y (List.mem_cons_of_mem _ hy)) (fun y hy t ht => by cases hy; exact h1'.1 t ht)
def prevI (l : List Int) (k : Nat) : Option Int := if k = 0 then none else l[k - 1]?
def timeB (t : Int) : Bool := decide (-68719476736 ≤ t ∧ t ≤ 68719476736)
def wdB (t : Int) : Bool := decide (0 ≤ t ∧ t ≤ 6)
def codeF (c a : Int) : T_api_Fault := if c = 0 then (0, 0) else (c, a)
theorem prevI_succ (l : List Int) (k : Nat) (h : k < l.length) : prevI l (k + 1) = some l[k] := by
  unfold prevI; rw [if_neg (by omega)]; simp [h]
theorem prev_idx (l : List Int) (k : Nat) (h : k < l.length) (h0 : 0 < k) (hs : (l.length : Int) < 9223372036854775808) : idx l (w64 ((k : Int) - 1)) = some (l[k - 1]'(by omega)) ∧ prevI l k = some (l[k - 1]'(by omega)) := by
  rw [w64_eq (by omega) (by omega), show (k : Int) - 1 = ((k - 1 : Nat) : Int) by omega]
  refine ⟨idx_nat l (k - 1) (by omega), ?_⟩
  unfold prevI; rw [if_neg (by omega)]; simp [show k - 1 < l.length by omega]
theorem scan_cons (f : Int → Bool) (l : List Int) (k : Nat) (h : k < l.length) : scanI f (prevI l k) (l.drop k) =
    if f l[k] = false then 3 else if leP (prevI l k) l[k] = true then 19 else scanI f (prevI l (k + 1)) (l.drop (k + 1)) := by
  rw [List.drop_eq_getElem_cons h, prevI_succ l k h]; rfl
theorem list_loop (fu : Nat) (l : List Int) (a : Int) (m : T_api_Fault) (hs : (l.length : Int) < 9223372036854775808) : ∀ (n k : Nat), k ≤ l.length → l.length - k < n →
    F_recur_list_p0 fu n l a l l.length k m = some (codeF (scanI timeB (prevI l k) (l.drop k)) a) := by
  intro n
  induction n with
  | zero => intro k h1 h2; omega
  | succ n ih =>
    intro k h1 h2
    rw [F_recur_list_p0, F_recur_list_b0]
    by_cases c : k < l.length
    · have nx := ih (k + 1) (by omega) (by omega)
      rw [Int.natCast_add] at nx
      rw [bif_t (by simp; exact c), idx_nat l k c, Option.bind_some, time_eq, Option.bind_some, scan_cons timeB l k c, w64_eq (x := (k : Int) + 1) (by omega) (by omega)]
      have eT : decide (-68719476736 ≤ l[k] ∧ l[k] ≤ 68719476736) = timeB l[k] := rfl
      rw [eT]
      cases ht : timeB l[k] with
      | false => rfl
      | true =>
        rw [bif_f (by rfl), if_neg (by simp)]
        by_cases c0 : 0 < k
        · obtain ⟨p1, p2⟩ := prev_idx l k c c0 hs
          rw [bif_t (by simp; omega), p1, Option.bind_some, p2]
          by_cases g : l[k] ≤ l[k - 1]'(by omega)
          · rw [bif_t (by simp; exact g), if_pos (by simp [leP]; exact g)]; rfl
          · rw [bif_f (by simp; omega), if_neg (by simp [leP]; omega)]; exact nx
        · rw [bif_f (by simp; omega)]
          have e0 : prevI l k = none := by unfold prevI; rw [if_pos (by omega)]
          rw [e0]; exact nx
    · rw [bif_f (by simp; omega), List.drop_eq_nil_of_le (by omega)]; rfl
def listC (l : List Int) : Int := if 300 < l.length then 2 else scanI timeB none l
theorem list_eq (fu : Nat) (hf : 400 ≤ fu) (l : List Int) (a : Int) : F_recur_list fu l a = some (codeF (listC l) a) := by
  unfold F_recur_list listC
  by_cases c : 300 < l.length
  · rw [bif_t (by simp; omega), if_pos c]; rfl
  · rw [bif_f (by simp; omega), if_neg c]
    have := list_loop fu l a (0, 0) (by omega) fu 0 (by omega) (by omega)
    exact this
theorem code_loop (fu : Nat) (l : List Int) (hs : (l.length : Int) < 9223372036854775808) : ∀ (n k : Nat), k ≤ l.length → l.length - k < n →
    F_R2_instantsCode_p0 fu n l k = some (scanI timeB (prevI l k) (l.drop k)) := by
  intro n
  induction n with
  | zero => intro k h1 h2; omega
  | succ n ih =>
    intro k h1 h2
    rw [F_R2_instantsCode_p0, F_R2_instantsCode_b0]
    by_cases c : k < l.length
    · have nx := ih (k + 1) (by omega) (by omega)
      rw [Int.natCast_add] at nx
      rw [bif_t (by simp; exact c), idx_nat l k c, Option.bind_some, r1_in_eq, Option.bind_some, scan_cons timeB l k c, w64_eq (x := (k : Int) + 1) (by omega) (by omega)]
      have eT : decide (-68719476736 ≤ l[k] ∧ l[k] ≤ 68719476736) = timeB l[k] := rfl
      rw [eT]
      cases ht : timeB l[k] with
      | false => rfl
      | true =>
        rw [bif_f (by rfl), if_neg (by simp)]
        by_cases c0 : 0 < k
        · obtain ⟨p1, p2⟩ := prev_idx l k c c0 hs
          rw [bif_t (by simp; omega), Option.bind_some, p1, Option.bind_some, p2]
          by_cases g : l[k] ≤ l[k - 1]'(by omega)
          · rw [bif_t (by simp; exact g), if_pos (by simp [leP]; exact g)]
          · rw [bif_f (by simp; omega), if_neg (by simp [leP]; omega)]; exact nx
        · rw [bif_f (by simp; omega)]
          have e0 : prevI l k = none := by unfold prevI; rw [if_pos (by omega)]
          rw [e0]; exact nx
    · rw [bif_f (by simp; omega), List.drop_eq_nil_of_le (by omega)]; rfl
theorem code_eq (fu : Nat) (hf : 400 ≤ fu) (l : List Int) : F_R2_instantsCode fu l = some (listC l) := by
  unfold F_R2_instantsCode listC
  by_cases c : 300 < l.length
  · rw [bif_t (by simp; omega), if_pos c]
  · rw [bif_f (by simp; omega), if_neg c]
    have := code_loop fu l (by omega) fu 0 (by omega) (by omega)
    exact this
abbrev T_api_Rec : Type := Int × Int × Int × Int × Bool × List Int × List Int × List Int
theorem wd_loop (fu : Nat) (r : T_api_Rec) (m : T_api_Fault) (hs : (r.2.2.2.2.2.1.length : Int) < 9223372036854775808) : ∀ (n k : Nat), k ≤ r.2.2.2.2.2.1.length → 8 ≤ n + k → (∀ p, prevI r.2.2.2.2.2.1 k = some p → (k : Int) - 1 ≤ p ∧ p ≤ 6) → (k ≤ 7) →
    F_recur_weekdays_p2 fu n r.2.2.2.2.2.1 r.2.2.2.2.2.1.length k r m = some (codeF (scanI wdB (prevI r.2.2.2.2.2.1 k) (r.2.2.2.2.2.1.drop k)) (-7)) := by
  generalize hl : r.2.2.2.2.2.1 = l at hs ⊢
  intro n
  induction n with
  | zero => intro k h1 h2; omega
  | succ n ih =>
    intro k h1 h2 h3 h4
    rw [F_recur_weekdays_p2, F_recur_weekdays_b2]
    by_cases c : k < l.length
    · rw [bif_t (by simp; exact c), idx_nat l k c, Option.bind_some, scan_cons wdB l k c]
      unfold F_recur_weekdays_p3 F_recur_weekdays_p4
      rw [hl]
      by_cases g1 : l[k] < 0
      · rw [bif_t (by simp; exact g1), bif_t rfl, if_pos (by unfold wdB; simp; omega)]; rfl
      rw [bif_f (by simp; omega)]
      by_cases g2 : 6 < l[k]
      · rw [bif_t (by simp; exact g2), if_pos (by unfold wdB; simp; omega)]; rfl
      rw [bif_f (by simp; omega), if_neg (by unfold wdB; simp; omega), w64_eq (x := (k : Int) + 1) (by omega) (by omega)]
      by_cases c0 : 0 < k
      · obtain ⟨p1, p2⟩ := prev_idx l k c c0 hs
        rw [bif_t (by simp; omega), p1, Option.bind_some, p2]
        by_cases g : l[k] ≤ l[k - 1]'(by omega)
        · rw [bif_t (by simp; exact g), if_pos (by simp [leP]; exact g)]; rfl
        · rw [bif_f (by simp; omega), if_neg (by simp [leP]; omega)]
          have hp := h3 _ p2
          have nx := ih (k + 1) (by omega) (by omega) (fun p hp' => by rw [prevI_succ l k c] at hp'; cases hp'; omega) (by omega)
          rw [Int.natCast_add] at nx
          exact nx
      · rw [bif_f (by simp; omega)]
        have e0 : prevI l k = none := by unfold prevI; rw [if_pos (by omega)]
        rw [e0]
        have nx := ih (k + 1) (by omega) (by omega) (fun p hp' => by rw [prevI_succ l k c] at hp'; cases hp'; omega) (by omega)
        rw [Int.natCast_add] at nx
        exact nx
    · rw [bif_f (by simp; omega), List.drop_eq_nil_of_le (by omega)]; rfl
end Go.Sym
/- The checks of a recurrence: what both report. -/
namespace Go.Sym
open Cal Zn

/-- what is wrong with the weekdays -/
def wdF (r : T_api_Rec) : T_api_Fault := if 0 < r.2.2.2.2.2.1.length ∧ r.1 ≠ 2 then (5, -7) else codeF (scanI wdB none r.2.2.2.2.2.1) (-7)
def rfault (r : T_api_Rec) : T_api_Fault :=
  if ¬ (0 ≤ r.1 ∧ r.1 ≤ 4) then (4, -3) else if ¬ (1 ≤ r.2.1 ∧ r.2.1 ≤ 100) then (3, -4) else if ¬ (0 ≤ r.2.2.1 ∧ r.2.2.1 ≤ 1500) then (3, -5) else
  if r.2.2.2.2.1 = true ∧ ¬ (-68719476736 ≤ r.2.2.2.1 ∧ r.2.2.2.1 ≤ 68719476736) then (3, -6) else if r.2.2.2.2.1 = false ∧ r.2.2.2.1 ≠ 0 then (5, -6) else
  if (wdF r).1 ≠ 0 then wdF r else if listC r.2.2.2.2.2.2.1 ≠ 0 then (listC r.2.2.2.2.2.2.1, -8) else codeF (listC r.2.2.2.2.2.2.2) (-9)
theorem codeF_c (c a : Int) : (codeF c a).1 = c := by
  unfold codeF; split
  · rename_i h; exact h.symm
  · rfl
theorem prev0 (l : List Int) : prevI l 0 = none := rfl
theorem weekdays_eq (fu : Nat) (hf : 400 ≤ fu) (r : T_api_Rec) (hs : (r.2.2.2.2.2.1.length : Int) < 9223372036854775808) : F_recur_weekdays fu r = some (wdF r) := by
  unfold F_recur_weekdays F_recur_weekdays_p0 F_recur_weekdays_p1 wdF
  have lp := wd_loop fu r (0, 0) hs fu 0 (by omega) (by omega) (fun p hp => by cases hp) (by omega)
  rw [show ((0 : Nat) : Int) = 0 from rfl, prev0, List.drop_zero] at lp
  rw [lp]
  by_cases c : 0 < r.2.2.2.2.2.1.length
  · rw [bif_dt (by omega), bif_ne]
    by_cases c2 : r.1 ≠ 2
    · rw [if_pos (c := ¬ _) c2, if_pos (c := _ ∧ _) ⟨c, c2⟩]; rfl
    · rw [if_neg (c := ¬ _) c2, if_neg (c := _ ∧ _) (fun q => c2 q.2)]
  · rw [bif_df (by omega), if_neg (c := _ ∧ _) (fun q => c q.1)]; rfl
theorem bif_bf {α : Type} {b : Bool} {x y : α} : (bif b then x else y) = if b = true then x else y := by cases b <;> rfl
theorem codeF_ite (c a : Int) : (if c ≠ 0 then some (c, a) else some (0, 0)) = some (codeF c a) := by
  unfold codeF; by_cases h : c = 0 <;> simp [h]
theorem validate_eq (fu : Nat) (hf : 400 ≤ fu) (r : T_api_Rec) (hs : (r.2.2.2.2.2.1.length : Int) < 9223372036854775808) : F_recur_Validate fu r = some (rfault r) := by
  unfold F_recur_Validate F_recur_Validate_p0 F_recur_Validate_p1 F_recur_Validate_p2 F_recur_Validate_p3 F_recur_Validate_p4 F_recur_Validate_p5 rfault
  simp only [fault_eq, Option.bind_some, time_eq, weekdays_eq fu hf r hs, failed_eq, list_eq fu hf, bif_ne, codeF_c, cond_true, cond_false]
  by_cases c1 : 0 ≤ r.1 ∧ r.1 ≤ 4
  · rw [bif_f (by simp; omega), bif_f (by simp; omega), if_neg (c := ¬ _) (fun q => q c1)]
    by_cases c2 : 1 ≤ r.2.1 ∧ r.2.1 ≤ 100
    · rw [bif_f (by simp; omega), bif_f (by simp; omega), if_neg (c := ¬ _) (fun q => q c2)]
      by_cases c3 : 0 ≤ r.2.2.1 ∧ r.2.2.1 ≤ 1500
      · rw [bif_f (by simp; omega), bif_f (by simp; omega), if_neg (c := ¬ _) (fun q => q c3)]
        have tail : (if (wdF r).1 ≠ 0 then some (wdF r) else if listC r.2.2.2.2.2.2.1 ≠ 0 then some (codeF (listC r.2.2.2.2.2.2.1) (-8)) else some (codeF (listC r.2.2.2.2.2.2.2) (-9))) =
            some (if (wdF r).1 ≠ 0 then wdF r else if listC r.2.2.2.2.2.2.1 ≠ 0 then (listC r.2.2.2.2.2.2.1, -8) else codeF (listC r.2.2.2.2.2.2.2) (-9)) := by
          by_cases k1 : (wdF r).1 ≠ 0
          · rw [if_pos k1, if_pos k1]
          · rw [if_neg k1, if_neg k1]
            by_cases k2 : listC r.2.2.2.2.2.2.1 ≠ 0
            · rw [if_pos k2, if_pos k2]; unfold codeF; rw [if_neg k2]
            · rw [if_neg k2, if_neg k2]
        rw [tail]
        cases h5 : r.2.2.2.2.1 with
        | true =>
          simp only [cond_true, cond_false, Bool.not_true, bif_nd]
          by_cases c4 : -68719476736 ≤ r.2.2.2.1 ∧ r.2.2.2.1 ≤ 68719476736
          · rw [if_pos (c := _ ∧ _) c4, if_neg (c := True ∧ ¬ _) (fun q => q.2 c4), if_neg (c := true = false ∧ _) (fun q => by cases q.1)]
          · rw [if_neg (c := _ ∧ _) c4, if_pos (c := True ∧ ¬ _) ⟨trivial, c4⟩]
        | false =>
          simp only [cond_true, cond_false, Bool.not_false]
          rw [if_neg (c := false = true ∧ _) (fun q => by cases q.1)]
          by_cases c4 : r.2.2.2.1 ≠ 0
          · rw [if_pos (c := ¬ _) c4, if_pos (c := True ∧ _) ⟨trivial, c4⟩]
          · rw [if_neg (c := ¬ _) c4, if_neg (c := True ∧ _) (fun q => c4 q.2)]
      · rw [if_pos (c := ¬ _) c3]
        by_cases g : r.2.2.1 < 0
        · rw [bif_t (by simp; exact g)]
        · rw [bif_f (by simp; omega), bif_t (by simp; omega)]
    · rw [if_pos (c := ¬ _) c2]
      by_cases g : r.2.1 < 1
      · rw [bif_t (by simp; exact g)]
      · rw [bif_f (by simp; omega), bif_t (by simp; omega)]
  · rw [if_pos (c := ¬ _) c1]
    by_cases g : r.1 < 0
    · rw [bif_t (by simp; exact g)]
    · rw [bif_f (by simp; omega), bif_t (by simp; omega)]
def tailF (r : T_api_Rec) : T_api_Fault := if listC r.2.2.2.2.2.2.1 ≠ 0 then (listC r.2.2.2.2.2.2.1, -8) else codeF (listC r.2.2.2.2.2.2.2) (-9)
theorem rwd_loop (fu : Nat) (hf : 400 ≤ fu) (r : T_api_Rec) (m : T_api_Fault) (hs : (r.2.2.2.2.2.1.length : Int) < 9223372036854775808) : ∀ (n k : Nat), k ≤ r.2.2.2.2.2.1.length → 8 ≤ n + k → (∀ p, prevI r.2.2.2.2.2.1 k = some p → (k : Int) - 1 ≤ p ∧ p ≤ 6) → (k ≤ 7) →
    F_R2_RuleFault_p6 fu n k r m = some (if scanI wdB (prevI r.2.2.2.2.2.1 k) (r.2.2.2.2.2.1.drop k) ≠ 0 then (scanI wdB (prevI r.2.2.2.2.2.1 k) (r.2.2.2.2.2.1.drop k), -7) else tailF r) := by
  intro n
  induction n with
  | zero => intro k h1 h2; omega
  | succ n ih =>
    intro k h1 h2 h3 h4
    rw [F_R2_RuleFault_p6, F_R2_RuleFault_b6]
    by_cases c : k < r.2.2.2.2.2.1.length
    · rw [bif_t (by simp; exact c), idx_nat _ k c, Option.bind_some, scan_cons wdB _ k c, r1_in_eq, Option.bind_some]
      unfold F_R2_RuleFault_p7 F_R2_RuleFault_p8
      have eT : decide (0 ≤ r.2.2.2.2.2.1[k] ∧ r.2.2.2.2.2.1[k] ≤ 6) = wdB r.2.2.2.2.2.1[k] := rfl
      rw [eT]
      cases ht : wdB r.2.2.2.2.2.1[k] with
      | false => rfl
      | true =>
        have ht' : 0 ≤ r.2.2.2.2.2.1[k] ∧ r.2.2.2.2.2.1[k] ≤ 6 := by unfold wdB at ht; simpa using ht
        rw [bif_f (by rfl), if_neg (c := true = false) (by simp), w64_eq (x := (k : Int) + 1) (by omega) (by omega)]
        by_cases c0 : 0 < k
        · obtain ⟨p1, p2⟩ := prev_idx _ k c c0 hs
          rw [bif_t (by simp; omega), Option.bind_some, p1, Option.bind_some, p2]
          by_cases g : r.2.2.2.2.2.1[k] ≤ r.2.2.2.2.2.1[k - 1]'(by omega)
          · rw [bif_t (by simp; exact g), if_pos (c := leP _ _ = true) (by simp [leP]; exact g)]; rfl
          · rw [bif_f (by simp; omega), if_neg (c := leP _ _ = true) (by simp [leP]; omega)]
            have hp := h3 _ p2
            have nx := ih (k + 1) (by omega) (by omega) (fun p hp' => by rw [prevI_succ _ k c] at hp'; cases hp'; omega) (by omega)
            rw [Int.natCast_add] at nx
            exact nx
        · rw [bif_f (by simp; omega)]
          have e0 : prevI r.2.2.2.2.2.1 k = none := by unfold prevI; rw [if_pos (by omega)]
          rw [e0, if_neg (c := leP _ _ = true) (by simp [leP])]
          have nx := ih (k + 1) (by omega) (by omega) (fun p hp' => by rw [prevI_succ _ k c] at hp'; cases hp'; omega) (by omega)
          rw [Int.natCast_add] at nx
          exact nx
    · rw [bif_f (by simp; omega), List.drop_eq_nil_of_le (by omega), if_neg (by simp [scanI])]
      simp only [code_eq fu hf, Option.bind_some, at_eq, bif_ne]
      unfold tailF
      by_cases k1 : listC r.2.2.2.2.2.2.1 ≠ 0
      · rw [if_pos k1, if_pos k1]
      · rw [if_neg k1, if_neg k1]
        exact codeF_ite _ _
theorem rulefault_eq (fu : Nat) (hf : 400 ≤ fu) (r : T_api_Rec) (hs : (r.2.2.2.2.2.1.length : Int) < 9223372036854775808) : F_R2_RuleFault fu r = some (rfault r) := by
  unfold F_R2_RuleFault F_R2_RuleFault_p0 F_R2_RuleFault_p1 F_R2_RuleFault_p2 F_R2_RuleFault_p3 F_R2_RuleFault_p4 F_R2_RuleFault_p5 rfault wdF
  have lp := rwd_loop fu hf r (0, 0) hs fu 0 (by omega) (by omega) (fun p hp => by cases hp) (by omega)
  rw [show ((0 : Nat) : Int) = 0 from rfl, prev0, List.drop_zero] at lp
  simp only [lp, at_eq, r1_in_eq, Option.bind_some, bif_nd, bif_ne, cond_false]
  by_cases c1 : 0 ≤ r.1 ∧ r.1 ≤ 4
  · rw [if_pos c1, if_neg (c := ¬ _) (fun q => q c1)]
    by_cases c2 : 1 ≤ r.2.1 ∧ r.2.1 ≤ 100
    · rw [if_pos c2, if_neg (c := ¬ _) (fun q => q c2)]
      by_cases c3 : 0 ≤ r.2.2.1 ∧ r.2.2.1 ≤ 1500
      · rw [if_pos c3, if_neg (c := ¬ _) (fun q => q c3)]
        have tail : (bif decide (0 < (r.2.2.2.2.2.1.length : Int)) then if r.1 ≠ 2 then some (5, -7) else some (if scanI wdB none r.2.2.2.2.2.1 ≠ 0 then (scanI wdB none r.2.2.2.2.2.1, -7) else tailF r) else some (if scanI wdB none r.2.2.2.2.2.1 ≠ 0 then (scanI wdB none r.2.2.2.2.2.1, -7) else tailF r)) =
            some (if (if 0 < r.2.2.2.2.2.1.length ∧ r.1 ≠ 2 then ((5, -7) : T_api_Fault) else codeF (scanI wdB none r.2.2.2.2.2.1) (-7)).1 ≠ 0 then (if 0 < r.2.2.2.2.2.1.length ∧ r.1 ≠ 2 then ((5, -7) : T_api_Fault) else codeF (scanI wdB none r.2.2.2.2.2.1) (-7)) else tailF r) := by
          have t2 : (if scanI wdB none r.2.2.2.2.2.1 ≠ 0 then (scanI wdB none r.2.2.2.2.2.1, -7) else tailF r) = (if (codeF (scanI wdB none r.2.2.2.2.2.1) (-7)).1 ≠ 0 then codeF (scanI wdB none r.2.2.2.2.2.1) (-7) else tailF r) := by
            rw [codeF_c]
            by_cases k : scanI wdB none r.2.2.2.2.2.1 ≠ 0
            · rw [if_pos k, if_pos k]; unfold codeF; rw [if_neg k]
            · rw [if_neg k, if_neg k]
          by_cases c : 0 < r.2.2.2.2.2.1.length
          · rw [bif_dt (by omega)]
            by_cases k : r.1 ≠ 2
            · have e : (if 0 < r.2.2.2.2.2.1.length ∧ r.1 ≠ 2 then ((5, -7) : T_api_Fault) else codeF (scanI wdB none r.2.2.2.2.2.1) (-7)) = (5, -7) := if_pos ⟨c, k⟩
              rw [e, if_pos k]; rfl
            · have e : (if 0 < r.2.2.2.2.2.1.length ∧ r.1 ≠ 2 then ((5, -7) : T_api_Fault) else codeF (scanI wdB none r.2.2.2.2.2.1) (-7)) = codeF (scanI wdB none r.2.2.2.2.2.1) (-7) := if_neg (fun q => k q.2)
              rw [e, if_neg k, t2]
          · have e : (if 0 < r.2.2.2.2.2.1.length ∧ r.1 ≠ 2 then ((5, -7) : T_api_Fault) else codeF (scanI wdB none r.2.2.2.2.2.1) (-7)) = codeF (scanI wdB none r.2.2.2.2.2.1) (-7) := if_neg (fun q => c q.1)
            rw [bif_df (by omega), e, t2]
        rw [tail]
        unfold tailF
        cases h5 : r.2.2.2.2.1 with
        | true =>
          simp only [cond_true, cond_false, Bool.not_true]
          by_cases c4 : -68719476736 ≤ r.2.2.2.1 ∧ r.2.2.2.1 ≤ 68719476736
          · rw [if_pos c4, if_neg (c := True ∧ ¬ _) (fun q => q.2 c4), if_neg (c := true = false ∧ _) (fun q => by cases q.1)]
          · rw [if_neg c4, if_pos (c := True ∧ ¬ _) ⟨trivial, c4⟩]
        | false =>
          simp only [cond_true, cond_false, Bool.not_false]
          rw [if_neg (c := false = true ∧ _) (fun q => by cases q.1)]
          by_cases c4 : r.2.2.2.1 ≠ 0
          · rw [if_pos c4, if_pos (c := True ∧ _) ⟨trivial, c4⟩]
          · rw [if_neg c4, if_neg (c := True ∧ _) (fun q => c4 q.2)]
      · rw [if_neg c3, if_pos (c := ¬ _) c3]
    · rw [if_neg c2, if_pos (c := ¬ _) c2]
  · rw [if_neg c1, if_pos (c := ¬ _) c1]
end Go.Sym
/- The days of a rule, by the program and by the reference. -/
namespace Go.Sym
open Cal Zn

/-- a start that both take -/
structure Start (d : T_api_Date) : Prop where
  ok : DOk d
  zn : d.2.2.2.2.2.2 = 0
  y1 : 3 ≤ d.1
  y2 : d.1 ≤ 3980
def dayD (d : T_api_Date) : Int := day d.1 d.2.1 d.2.2.1
def secD (d : T_api_Date) : Int := d.2.2.2.1 * 3600 + d.2.2.2.2.1 * 60 + d.2.2.2.2.2.1
theorem secD_bd {d : T_api_Date} (h : DOk d) : 0 ≤ secD d ∧ secD d < 86400 := by
  obtain ⟨_, _, _, _, _, _, _, _, _⟩ := h; unfold secD; omega
theorem Start.ins {d : T_api_Date} (h : Start d) : insD d = dayD d * 86400 + secD d := by
  unfold insD dayD secD; rw [h.zn]; omega
theorem bef_vals : bef 3 = 730 ∧ bef 3981 = 1453665 ∧ bef 3999 = 1460239 := by decide
theorem Start.day_bd {d : T_api_Date} (h : Start d) : -718432 ≤ dayD d ∧ dayD d < 734503 := by
  have a := day_year _ _ _ h.ok.1
  have b1 := bef_mono 3 d.1 h.y1
  have b2 := bef_mono (d.1 + 1) 3981 (by have := h.y2; omega)
  obtain ⟨v1, v2, _⟩ := bef_vals
  unfold dayD; omega
/-- the date that is so many days later -/
noncomputable def later (d : T_api_Date) (a : Int) : T_api_Date := civD (dayD d + a) (secD d) 0
theorem later_ok {d : T_api_Date} (h : Start d) {a : Int} (a1 : 0 ≤ a) (a2 : a ≤ 1500) : DOk (later d a) ∧ insD (later d a) = insD d + a * 86400 ∧ (later d a).2.2.2.2.2.2 = 0 ∧ 3 ≤ (later d a).1 ∧ (later d a).1 ≤ 3998 := by
  have hb := h.day_bd
  have hs := secD_bd h.ok
  obtain ⟨k1, k2⟩ := civD_ok (n := dayD d + a) (s := secD d) (by omega) (by omega) hs.1 hs.2 0 (by omega) (by omega)
  refine ⟨k1, by unfold later; rw [k2, h.ins]; omega, rfl, ?_, ?_⟩
  · obtain ⟨hv, he⟩ := civ_vld (dayD d + a) (by omega) (by omega)
    have hy := day_year _ _ _ hv
    rw [he] at hy
    obtain ⟨v1, v2, v3⟩ := bef_vals
    show 3 ≤ (civ (dayD d + a)).1
    by_cases c : 3 ≤ (civ (dayD d + a)).1
    · exact c
    · have := bef_mono ((civ (dayD d + a)).1 + 1) 3 (by omega); omega
  · obtain ⟨hv, he⟩ := civ_vld (dayD d + a) (by omega) (by omega)
    have hy := day_year _ _ _ hv
    rw [he] at hy
    obtain ⟨v1, v2, v3⟩ := bef_vals
    show (civ (dayD d + a)).1 ≤ 3998
    by_cases c : (civ (dayD d + a)).1 ≤ 3998
    · exact c
    · have := bef_mono 3999 (civ (dayD d + a)).1 (by omega); omega
theorem later_day {d : T_api_Date} (h : Start d) {a : Int} (a1 : 0 ≤ a) (a2 : a ≤ 1500) : dayD (later d a) = dayD d + a := by
  have hb := h.day_bd
  exact (civ_vld (dayD d + a) (by omega) (by omega)).2
theorem later_time {d : T_api_Date} (h : DOk d) (a : Int) : (later d a).2.2.2.1 = d.2.2.2.1 ∧ (later d a).2.2.2.2.1 = d.2.2.2.2.1 ∧ (later d a).2.2.2.2.2.1 = d.2.2.2.2.2.1 := by
  obtain ⟨_, _, _, _, _, _, _, _, _⟩ := h
  refine ⟨?_, ?_, ?_⟩ <;> simp only [later, civD, secD] <;> omega
theorem civil_later (fu : Nat) (hf : 20 ≤ fu) {d : T_api_Date} (h : Start d) {a : Int} (a1 : 0 ≤ a) (a2 : a ≤ 1500) : F_dates_Civil fu (w64 (insD d + w64 (a * 86400))) 0 = some (later d a, (0, 0)) := by
  have hb := h.day_bd
  have hs := secD_bd h.ok
  have hi := h.ins
  rw [w64_eq (x := a * 86400) (by omega) (by omega), w64_eq (by omega) (by omega), civil_eq fu hf]
  unfold CivR later
  rw [if_neg (by omega), if_neg (by omega)]
  have e1 : (insD d + a * 86400 + 60 * 0) / 86400 = dayD d + a := by omega
  have e2 : (insD d + a * 86400 + 60 * 0) % 86400 = secD d := by omega
  rw [e1, e2, if_neg (by omega)]
theorem dateof_later (fu : Nat) (hf : 5000 ≤ fu) {d : T_api_Date} (h : Start d) {a : Int} (a1 : 0 ≤ a) (a2 : a ≤ 1500) : ∃ x, F_R1_DateOf fu (w64 (86400 * (dayD d + a))) 0 = some x ∧
    x.1.1 = (later d a).1 ∧ x.1.2.1 = (later d a).2.1 ∧ x.1.2.2.1 = (later d a).2.2.1 ∧ x.1.2.2.2.2.2.2 = 0 := by
  have hb := h.day_bd
  have hs := secD_bd h.ok
  rw [w64_eq (by omega) (by omega), dateof_eq fu hf _ _ (by omega) (by omega) (by omega) (by omega)]
  refine ⟨_, rfl, ?_⟩
  unfold DatR later
  have e1 : (86400 * (dayD d + a) + 60 * 0) / 86400 = dayD d + a := by omega
  rw [e1, if_neg (by omega)]
  exact ⟨rfl, rfl, rfl, rfl⟩
/-- whether a rule has the day that is so many days later -/
noncomputable def fitsB (r : T_api_Rec) (d : T_api_Date) (a : Int) : Bool :=
  if r.1 = 1 then decide (r.2.1 ∣ a) else
  if r.1 = 2 then (if r.2.2.2.2.2.1 = [] then decide (wday (dayD d + a) = wday (dayD d)) else decide (wday (dayD d + a) ∈ r.2.2.2.2.2.1)) && decide (r.2.1 ∣ (a + wday (dayD d)) / 7) else
  if r.1 = 3 then decide ((later d a).2.2.1 = d.2.2.1) && decide (r.2.1 ∣ 12 * ((later d a).1 - d.1) + (later d a).2.1 - d.2.1) else
  if r.1 = 4 then decide ((later d a).2.2.1 = d.2.2.1) && (decide ((later d a).2.1 = d.2.1) && decide (r.2.1 ∣ (later d a).1 - d.1)) else decide (a = 0)
theorem tmod0 (x e : Int) : ((Int.tmod x e == 0) : Bool) = decide (e ∣ x) := by
  rw [Bool.eq_iff_iff, decide_eq_true_iff, beq_iff_eq]
  exact Int.dvd_iff_tmod_eq_zero.symm
theorem eq_dec (x y : Int) : ((x == y) : Bool) = decide (x = y) := by
  rw [Bool.eq_iff_iff, decide_eq_true_iff, beq_iff_eq]
structure RuleOk (r : T_api_Rec) : Prop where
  f1 : 0 ≤ r.1
  f2 : r.1 ≤ 4
  e1 : 1 ≤ r.2.1
  e2 : r.2.1 ≤ 100
  c1 : 0 ≤ r.2.2.1
  c2 : r.2.2.1 ≤ 1500
  wl : r.2.2.2.2.2.1.length ≤ 7
  xs : Strict r.2.2.2.2.2.2.1
  xl : r.2.2.2.2.2.2.1.length ≤ 300
  adS : Strict r.2.2.2.2.2.2.2
  al : r.2.2.2.2.2.2.2.length ≤ 300
theorem fits_eq (fu : Nat) (hf : 20 ≤ fu) (r : T_api_Rec) (hr : RuleOk r) {d : T_api_Date} (h : Start d) {a : Int} (a1 : 0 ≤ a) (a2 : a ≤ 1500) : F_recur_fits fu r d (later d a) a = some (fitsB r d a) := by
  unfold F_recur_fits F_recur_fits_p0
  obtain ⟨k1, k2, k3, k4, k5⟩ := later_ok h a1 a2
  have kd := later_day h a1 a2
  have e1 := hr.e1
  have wl := hr.wl
  have v1 := h.ok.1
  have v2 := k1.1
  have y1 := h.y1; have y2 := h.y2
  have w1 := wday_bd (dayD d)
  rw [weekday_eq fu hf _ k1, weekday_eq fu hf _ h.ok, Option.bind_some, Option.bind_some]
  rw [show day (later d a).1 (later d a).2.1 (later d a).2.2.1 = dayD d + a from kd, show day d.1 d.2.1 d.2.2.1 = dayD d from rfl]
  have eE : ∀ {α : Type} (x y : α), (bif decide (r.2.1 ≠ 0) then x else y) = x := fun x y => bif_dt (by omega)
  simp only [eE, bif_eq, tmod0]
  unfold fitsB
  by_cases c1 : r.1 = 1
  · rw [if_pos c1, if_pos c1]
  rw [if_neg c1, if_neg c1]
  by_cases c2 : r.1 = 2
  · rw [if_pos c2, if_pos c2]
    rw [w64_eq (x := a + wday (dayD d)) (by omega) (by omega), tdiv_p (by omega), w64_eq (by omega) (by omega)]
    by_cases cw : r.2.2.2.2.2.1 = []
    · rw [bif_df (by rw [cw]; simp), if_pos cw]
      split
      · rename_i q; rw [decide_eq_true q]; rfl
      · rename_i q; rw [decide_eq_false q]; rfl
    · have : 0 < r.2.2.2.2.2.1.length := List.length_pos_iff.2 cw
      rw [bif_dt (by omega), if_neg cw, contains_eq fu _ _ (by omega) (by omega), Option.bind_some, bif_d]
      split
      · rename_i q; rw [decide_eq_true q]; rfl
      · rename_i q; rw [decide_eq_false q]; rfl
  rw [if_neg c2, if_neg c2]
  obtain ⟨b1, b2, b3, b4, b5, b6⟩ := v1
  obtain ⟨g1, g2, g3, g4, g5, g6⟩ := v2
  simp (discharger := omega) only [w64_eq]
  by_cases c3 : r.1 = 3
  · rw [if_pos c3, if_pos c3]
    by_cases q : (later d a).2.2.1 = d.2.2.1
    · rw [if_pos q, decide_eq_true q]; rfl
    · rw [if_neg q, decide_eq_false q]; rfl
  rw [if_neg c3, if_neg c3]
  by_cases c4 : r.1 = 4
  · rw [if_pos c4, if_pos c4]
    by_cases q : (later d a).2.2.1 = d.2.2.1
    · rw [if_pos q, decide_eq_true q]
      by_cases q2 : (later d a).2.1 = d.2.1
      · rw [if_pos q2, decide_eq_true q2]; rfl
      · rw [if_neg q2, decide_eq_false q2]; rfl
    · rw [if_neg q, decide_eq_false q]; rfl
  rw [if_neg c4, if_neg c4, eq_dec]
theorem dvd12 (e Y D : Int) (h1 : -11 ≤ D) (h2 : D ≤ 11) : (12 * e ∣ 12 * Y + D) ↔ (D = 0 ∧ e ∣ Y) := by
  constructor
  · rintro ⟨k, hk⟩
    rw [Int.mul_assoc] at hk
    generalize hm : e * k = m at hk
    have : D = 0 := by omega
    exact ⟨this, ⟨k, by omega⟩⟩
  · rintro ⟨rfl, k, rfl⟩
    exact ⟨k, by rw [Int.mul_assoc, Int.add_zero]⟩
theorem onday_eq (fu : Nat) (hf : 5000 ≤ fu) (r : T_api_Rec) (hr : RuleOk r) {d : T_api_Date} (h : Start d) {a : Int} (a1 : 0 ≤ a) (a2 : a ≤ 1500) : F_R2_OnDay fu d r (dayD d) (dayD d + a) = some (fitsB r d a) := by
  unfold F_R2_OnDay F_R2_OnDay_p0
  obtain ⟨k1, k2, k3, k4, k5⟩ := later_ok h a1 a2
  have kd := later_day h a1 a2
  have e1 := hr.e1; have e2 := hr.e2
  have f1 := hr.f1; have f2 := hr.f2
  have wl := hr.wl
  have v1 := h.ok.1
  have v2 := k1.1
  have y1 := h.y1; have y2 := h.y2
  have w1 := wday_bd (dayD d)
  have hb := h.day_bd
  obtain ⟨x, ex, x1, x2, x3, x4⟩ := dateof_later fu hf h a1 a2
  rw [ex, Option.bind_some, w64_eq (x := dayD d + a - dayD d) (by omega) (by omega), show dayD d + a - dayD d = a by omega]
  rw [w64_eq (x := 12 * r.2.1) (by omega) (by omega)]
  have eE : ∀ {α : Type} (x y : α), (bif decide (r.2.1 ≠ 0) then x else y) = x := fun x y => bif_dt (by omega)
  have eE2 : ∀ {α : Type} (x y : α), (bif decide (12 * r.2.1 ≠ 0) then x else y) = x := fun x y => bif_dt (by omega)
  simp only [eE, eE2, bif_eq, tmod0, x1, x2, x3]
  unfold fitsB
  by_cases c0 : r.1 = 0
  · rw [if_pos c0, if_neg (by omega), if_neg (by omega), if_neg (by omega), if_neg (by omega), eq_dec]
    congr 1
    rw [decide_eq_decide]; omega
  rw [if_neg c0]
  by_cases c1 : r.1 = 1
  · rw [if_pos c1, if_pos c1]
  rw [if_neg c1, if_neg c1]
  by_cases c2 : r.1 = 2
  · rw [if_pos c2, if_pos c2, rweekday_eq fu hf _ _ _ v1, Option.bind_some]
    rw [show day d.1 d.2.1 d.2.2.1 = dayD d from rfl]
    rw [w64_eq (x := a + wday (dayD d)) (by omega) (by omega), tdiv_p (by omega), tmod_p (by omega), w64_eq (by omega) (by omega)]
    have ew : (a + wday (dayD d)) % 7 = wday (dayD d + a) := by unfold wday; omega
    rw [ew, has_eq fu _ _ (by omega) (by omega), Option.bind_some]
    by_cases cw : r.2.2.2.2.2.1 = []
    · rw [if_pos cw, cw, bif_df (by simp), if_pos (by rfl)]
      split
      · rename_i q; rw [decide_eq_true q]; rfl
      · rename_i q; rw [decide_eq_false q]; rfl
    · have : 0 < r.2.2.2.2.2.1.length := List.length_pos_iff.2 cw
      rw [if_neg cw, if_neg (by omega)]
      simp only [bif_d, cond_false, cond_true]
      split
      · rename_i q; rw [decide_eq_true q]; rfl
      · rename_i q; rw [decide_eq_false q]; rfl
  rw [if_neg c2, if_neg c2]
  obtain ⟨b1, b2, b3, b4, b5, b6⟩ := v1
  obtain ⟨g1, g2, g3, g4, g5, g6⟩ := v2
  simp (discharger := omega) only [w64_eq]
  by_cases c3 : r.1 = 3
  · rw [if_pos c3, if_pos c3]
    by_cases q : (later d a).2.2.1 = d.2.2.1
    · rw [if_pos q, decide_eq_true q]; rfl
    · rw [if_neg q, decide_eq_false q]; rfl
  rw [if_neg c3, if_neg c3, if_pos (show r.1 = 4 by omega)]
  by_cases q : (later d a).2.2.1 = d.2.2.1
  · rw [if_pos q, decide_eq_true q]
    congr 1
    have ed : 12 * ((later d a).1 - d.1) + (later d a).2.1 - d.2.1 = 12 * ((later d a).1 - d.1) + ((later d a).2.1 - d.2.1) := by omega
    rw [ed, Bool.true_and, Bool.eq_iff_iff, decide_eq_true_iff, dvd12 _ _ _ (by omega) (by omega), Bool.and_eq_true, decide_eq_true_iff, decide_eq_true_iff]
    constructor
    · rintro ⟨u, v⟩; exact ⟨by omega, v⟩
    · rintro ⟨u, v⟩; exact ⟨by omega, v⟩
  · rw [if_neg q, decide_eq_false q]; rfl
end Go.Sym
/- The instants of a rule, by the program and by the reference. -/
namespace Go.Sym
open Cal Zn

theorem strict_len : ∀ (l : List Int) (lo hi : Int), Strict l → (∀ x ∈ l, lo ≤ x ∧ x ≤ hi) → lo ≤ hi + 1 → (l.length : Int) ≤ hi + 1 - lo
  | [], lo, hi, _, _, h => by simp; omega
  | x :: l, lo, hi, h1, h2, h => by
    have h1' := List.pairwise_cons.1 h1
    have hx := h2 x List.mem_cons_self
    have := strict_len l (x + 1) hi h1'.2 (fun y hy => ⟨by have := h1'.1 y hy; omega, (h2 y (List.mem_cons_of_mem _ hy)).2⟩) (by omega)
    simp; omega
theorem rule_ok (r : T_api_Rec) (h : (rfault r).1 = 0) : rfault r = (0, 0) ∧ RuleOk r ∧ (∀ x ∈ r.2.2.2.2.2.2.1, timeB x = true) ∧ (∀ x ∈ r.2.2.2.2.2.2.2, timeB x = true) := by
  unfold rfault at h ⊢
  by_cases c1 : ¬ (0 ≤ r.1 ∧ r.1 ≤ 4)
  · rw [if_pos c1] at h; simp at h
  rw [if_neg c1] at h ⊢
  by_cases c2 : ¬ (1 ≤ r.2.1 ∧ r.2.1 ≤ 100)
  · rw [if_pos c2] at h; simp at h
  rw [if_neg c2] at h ⊢
  by_cases c3 : ¬ (0 ≤ r.2.2.1 ∧ r.2.2.1 ≤ 1500)
  · rw [if_pos c3] at h; simp at h
  rw [if_neg c3] at h ⊢
  by_cases c4 : r.2.2.2.2.1 = true ∧ ¬ (-68719476736 ≤ r.2.2.2.1 ∧ r.2.2.2.1 ≤ 68719476736)
  · rw [if_pos c4] at h; simp at h
  rw [if_neg c4] at h ⊢
  by_cases c5 : r.2.2.2.2.1 = false ∧ r.2.2.2.1 ≠ 0
  · rw [if_pos c5] at h; simp at h
  rw [if_neg c5] at h ⊢
  by_cases c6 : (wdF r).1 ≠ 0
  · rw [if_pos c6] at h; exact absurd h c6
  rw [if_neg c6] at h ⊢
  by_cases c7 : listC r.2.2.2.2.2.2.1 ≠ 0
  · rw [if_pos c7] at h; exact absurd h c7
  rw [if_neg c7] at h ⊢
  rw [codeF_c] at h
  have lc : ∀ l, listC l = 0 → l.length ≤ 300 ∧ Strict l ∧ ∀ x ∈ l, timeB x = true := by
    intro l hl
    unfold listC at hl
    by_cases q : 300 < l.length
    · rw [if_pos q] at hl; omega
    · rw [if_neg q] at hl
      obtain ⟨i1, i2, _⟩ := scanI_ok timeB l none hl
      exact ⟨by omega, i1, i2⟩
  obtain ⟨x1, x2, x3⟩ := lc _ (Classical.not_not.1 c7)
  obtain ⟨y1, y2, y3⟩ := lc _ h
  have hw : r.2.2.2.2.2.1.length ≤ 7 := by
    have c6' := Classical.not_not.1 c6
    unfold wdF at c6'
    by_cases q : 0 < r.2.2.2.2.2.1.length ∧ r.1 ≠ 2
    · rw [if_pos q] at c6'; simp at c6'
    · rw [if_neg q, codeF_c] at c6'
      obtain ⟨i1, i2, _⟩ := scanI_ok wdB _ none c6'
      have := strict_len r.2.2.2.2.2.1 0 6 i1 (fun x hx => by have := i2 x hx; unfold wdB at this; simpa using this) (by omega)
      omega
  refine ⟨by unfold codeF; rw [if_pos h], ⟨by omega, by omega, by omega, by omega, by omega, by omega, hw, x2, x1, y2, y1⟩, x3, y3⟩
/-- the instants of the day that is so many days later -/
noncomputable def Lst (z : T_api_Zone) (d : T_api_Date) (a : Int) : List Int :=
  (if fixedZ z then [] else pickR z (later d a).1 (insD (later d a)) z.2.2.1) ++ pickR z (later d a).1 (insD (later d a)) z.2.1
theorem insR_later {z : T_api_Zone} (hz : (zfault z).1 = 0) {d : T_api_Date} (h : Start d) {a : Int} (a1 : 0 ≤ a) (a2 : a ≤ 1500) : InsR z (later d a) = ((0, 0), Lst z d a) := by
  obtain ⟨k1, k2, k3, k4, k5⟩ := later_ok h a1 a2
  unfold InsR
  rw [if_neg (by simp [hz]), if_neg (fun q => q k1), if_neg (fun q => q k3), if_neg (fun q => q ⟨k4, k5⟩), picks_sorted hz k1 k3 k4 k5]
  rfl
/-- the first instant of this day, if the rule has it -/
noncomputable def cand (z : T_api_Zone) (r : T_api_Rec) (d : T_api_Date) (a : Int) : Option Int := if fitsB r d a = true then (Lst z d a).head? else none
/-- the instants of the rule -/
def gen (c : Int → Option Int) (hu : Bool) (u cnt : Int) : Nat → Int → Int → List Int
  | 0, _, _ => []
  | n + 1, many, a => match c a with
    | none => gen c hu u cnt n many (a + 1)
    | some t => if hu = true ∧ u < t then [] else if many + 1 = cnt then [t] else t :: gen c hu u cnt n (many + 1) (a + 1)
theorem bif_bt {α : Type} {b : Bool} {x y : α} : (bif b then x else y) = if b = true then x else y := by cases b <;> rfl
theorem round_eq (fu : Nat) (r : T_api_Rec) (hr : RuleOk r) (hf : 400 ≤ fu) (t : Int) (out : List Int) (ho : out.length ≤ 10000) : F_recur_Between_r0 fu t r out = some (r, out ++ [t].filter (fun t => decide (t ∉ r.2.2.2.2.2.2.1))) := by
  unfold F_recur_Between_r0
  have xl := hr.xl
  obtain ⟨p, e⟩ := search_eq fu r.2.2.2.2.2.2.1 t hr.xs (by omega) (by omega)
  rw [e, Option.bind_some, bif_nd]
  by_cases c : t ∈ r.2.2.2.2.2.2.1
  · rw [if_pos c]; simp [c]
  · rw [if_neg c, bif_dt (by unfold rowMax; simp; omega)]; simp [c]
theorem inst_loop (fu : Nat) (hf : 5000 ≤ fu) (z : T_api_Zone) (hz : (zfault z).1 = 0) (hs : (z.1.length : Int) < 9223372036854775808) (hf2 : z.1.length < fu) (r : T_api_Rec) (hr : RuleOk r) (d : T_api_Date) (h : Start d) :
    ∀ (n N : Nat) (a many : Int) (out : List Int), 0 ≤ a → N + a = 1501 → N < n → 0 ≤ many → many ≤ a → (out.length : Int) ≤ a →
    F_recur_instants_1_p0 fu n (insD d) many a d r z r out = some (d, r, z, r, out ++ (gen (cand z r d) r.2.2.2.2.1 r.2.2.2.1 r.2.2.1 N many a).filter (fun t => decide (t ∉ r.2.2.2.2.2.2.1))) := by
  intro n
  induction n with
  | zero => intro N a many out h1 h2 h3; omega
  | succ n ih =>
    intro N a many out h1 h2 h3 h4 h5 h6
    rw [F_recur_instants_1_p0, F_recur_instants_1_b0]
    cases N with
    | zero => rw [bif_df (by omega)]; simp [gen]
    | succ N =>
      rw [bif_dt (by omega), civil_later fu (by omega) h h1 (by omega), Option.bind_some, fits_eq fu (by omega) r hr h h1 (by omega), Option.bind_some, w64_eq (x := a + 1) (by omega) (by omega)]
      unfold gen cand
      cases hfit : fitsB r d a with
      | false =>
        rw [bif_t (by rfl)]
        exact ih N (a + 1) many out (by omega) (by omega) (by omega) h4 (by omega) (by omega)
      | true =>
        rw [bif_f (by rfl), zInstants_eq fu (by omega) z hs hf2, Option.bind_some, insR_later hz h h1 (by omega)]
        simp only [if_true]
        generalize Lst z d a = L
        cases L with
        | nil =>
          rw [bif_t (by rfl)]
          exact ih N (a + 1) many out (by omega) (by omega) (by omega) h4 (by omega) (by omega)
        | cons t L =>
          rw [bif_f (by simp; omega), w64_eq (x := many + 1) (by omega) (by omega)]
          simp only [rowidx]
          have hi : idx (t :: L) 0 = some t := rfl
          rw [hi]
          simp only [Option.bind_some, round_eq fu r hr (by omega) t out (by omega), List.head?_cons]
          have fin : (bif many + 1 == r.2.2.1 then some (d, r, z, (r, out ++ List.filter (fun t => decide (t ∉ r.2.2.2.2.2.2.1)) [t])) else F_recur_instants_1_p0 fu n (insD d) (many + 1) (a + 1) d r z r (out ++ List.filter (fun t => decide (t ∉ r.2.2.2.2.2.2.1)) [t])) =
              some (d, r, z, r, out ++ List.filter (fun t => decide (t ∉ r.2.2.2.2.2.2.1)) (if many + 1 = r.2.2.1 then [t] else t :: gen (cand z r d) r.2.2.2.2.1 r.2.2.2.1 r.2.2.1 N (many + 1) (a + 1))) := by
            rw [bif_eq]
            by_cases c : many + 1 = r.2.2.1
            · rw [if_pos c, if_pos c]
            · rw [if_neg c, if_neg c, ih N (a + 1) (many + 1) _ (by omega) (by omega) (by omega) (by omega) (by omega) (by
                rw [List.length_append]
                have := List.length_filter_le (fun t => decide (t ∉ r.2.2.2.2.2.2.1)) [t]
                simp only [List.length_singleton] at this; omega)]
              rw [List.append_assoc, ← List.filter_append]; rfl
          cases hu : r.2.2.2.2.1 with
          | true =>
            rw [bif_t rfl]
            by_cases g : r.2.2.2.1 < t
            · rw [bif_dt g, if_pos ⟨rfl, g⟩]; simp
            · rw [bif_df g, if_neg (fun q => g q.2)]
              rw [hu] at fin; exact fin
          | false =>
            rw [bif_f rfl, if_neg (fun q => by cases q.1)]
            rw [hu] at fin; exact fin
theorem reg_loop (fu : Nat) (hf : 5000 ≤ fu) (z : T_api_Zone) (hz : (zfault z).1 = 0) (r : T_api_Rec) (hr : RuleOk r) (d : T_api_Date) (h : Start d) :
    ∀ (n N : Nat) (a : Int) (out : List Int), 0 ≤ a → N + a = 1501 → N < n → (out.length : Int) ≤ a →
    F_R2_RegularOf_p0 fu n (dayD d) (dayD d + a) z d r out = some (out ++ gen (cand z r d) r.2.2.2.2.1 r.2.2.2.1 r.2.2.1 N out.length a) := by
  have hb := h.day_bd
  intro n
  induction n with
  | zero => intro N a out h1 h2 h3; omega
  | succ n ih =>
    intro N a out h1 h2 h3 h6
    rw [F_R2_RegularOf_p0, F_R2_RegularOf_b0, w64_eq (x := dayD d + 1500) (by omega) (by omega)]
    cases N with
    | zero => rw [bif_df (by omega)]; simp [gen]
    | succ N =>
      rw [bif_dt (by omega), onday_eq fu hf r hr h h1 (by omega), Option.bind_some, w64_eq (x := dayD d + a + 1) (by omega) (by omega), show dayD d + a + 1 = dayD d + (a + 1) by omega]
      unfold gen cand
      cases hfit : fitsB r d a with
      | false =>
        rw [bif_t (by rfl)]
        exact ih N (a + 1) out (by omega) (by omega) (by omega) (by omega)
      | true =>
        rw [bif_f (by rfl)]
        obtain ⟨x, ex, x1, x2, x3, x4⟩ := dateof_later fu hf h h1 (show a ≤ 1500 by omega)
        obtain ⟨t1, t2, t3⟩ := later_time h.ok a
        obtain ⟨k1, k2, k3, k4, k5⟩ := later_ok h h1 (show a ≤ 1500 by omega)
        have ed : ((later d a).1, (later d a).2.1, (later d a).2.2.1, (later d a).2.2.2.1, (later d a).2.2.2.2.1, (later d a).2.2.2.2.2.1, (0 : Int)) = later d a := by rw [← k3]
        rw [ex, Option.bind_some, x1, x2, x3, x4, ← t1, ← t2, ← t3, ed]
        rw [instantsOf_eq fu hf hz k1 k3 k4 k5, Option.bind_some]
        rw [show (if fixedZ z then [] else pickR z (later d a).1 (insD (later d a)) z.2.2.1) ++ pickR z (later d a).1 (insD (later d a)) z.2.1 = Lst z d a from rfl]
        simp only [if_true]
        generalize Lst z d a = L
        cases L with
        | nil =>
          rw [bif_t (by rfl)]
          exact ih N (a + 1) out (by omega) (by omega) (by omega) (by omega)
        | cons t L =>
          rw [bif_f (by simp; omega)]
          unfold F_R2_RegularOf_p1 F_R2_RegularOf_p2
          simp only [rowidx]
          have hi : idx (t :: L) 0 = some t := rfl
          rw [hi]
          simp only [Option.bind_some, List.head?_cons]
          rw [w64_eq (x := dayD d + a + 1) (by omega) (by omega), show dayD d + a + 1 = dayD d + (a + 1) by omega]
          have el : ((out ++ [t]).length : Int) = (out.length : Int) + 1 := by simp
          have fin : (bif decide ((out ++ [t]).length ≤ rowMax) then bif decide (0 < r.2.2.1) then bif ((out ++ [t]).length : Int) == r.2.2.1 then some (out ++ [t]) else F_R2_RegularOf_p0 fu n (dayD d) (dayD d + (a + 1)) z d r (out ++ [t]) else F_R2_RegularOf_p0 fu n (dayD d) (dayD d + (a + 1)) z d r (out ++ [t]) else none) =
              some (out ++ (if (out.length : Int) + 1 = r.2.2.1 then [t] else t :: gen (cand z r d) r.2.2.2.2.1 r.2.2.2.1 r.2.2.1 N (out.length + 1) (a + 1))) := by
            rw [bif_dt (by unfold rowMax; simp; omega)]
            have nx := ih N (a + 1) (out ++ [t]) (by omega) (by omega) (by omega) (by omega)
            rw [el] at nx
            rw [el, bif_eq]
            by_cases c : (out.length : Int) + 1 = r.2.2.1
            · rw [if_pos c, if_pos c, bif_dt (by omega)]
            · rw [if_neg c, if_neg c]
              have e3 : ∀ y : Option (List Int), (bif decide (0 < r.2.2.1) then y else y) = y := fun y => by cases decide (0 < r.2.2.1) <;> rfl
              rw [e3, nx, List.append_assoc]; rfl
          cases hu : r.2.2.2.2.1 with
          | true =>
            rw [bif_t rfl]
            by_cases g : r.2.2.2.1 < t
            · rw [bif_dt g, if_pos ⟨rfl, g⟩]; simp
            · rw [bif_df g, if_neg (fun q => g q.2)]
              rw [hu] at fin; exact fin
          | false =>
            rw [bif_f rfl, bif_f rfl, if_neg (fun q => by cases q.1)]
            rw [hu] at fin; exact fin
end Go.Sym
/- recur.Between, by the program and by the reference. -/
namespace Go.Sym
open Cal Zn

theorem gen_mem (c : Int → Option Int) (hu : Bool) (u cnt : Int) : ∀ (n : Nat) (many a t : Int), t ∈ gen c hu u cnt n many a → ∃ b, a ≤ b ∧ b < a + n ∧ c b = some t := by
  intro n
  induction n with
  | zero => intro many a t h; cases h
  | succ n ih =>
    intro many a t h
    unfold gen at h
    cases hc : c a with
    | none =>
      rw [hc] at h
      obtain ⟨b, b1, b2, b3⟩ := ih _ _ _ h
      exact ⟨b, by omega, by omega, b3⟩
    | some x =>
      rw [hc] at h
      simp only [] at h
      split at h
      · cases h
      split at h
      · rw [List.mem_singleton] at h; subst h; exact ⟨a, by omega, by omega, hc⟩
      · rcases List.mem_cons.1 h with q | q
        · subst q; exact ⟨a, by omega, by omega, hc⟩
        · obtain ⟨b, b1, b2, b3⟩ := ih _ _ _ q
          exact ⟨b, by omega, by omega, b3⟩
theorem gen_len (c : Int → Option Int) (hu : Bool) (u cnt : Int) : ∀ (n : Nat) (many a : Int), (gen c hu u cnt n many a).length ≤ n := by
  intro n
  induction n with
  | zero => intro many a; simp [gen]
  | succ n ih =>
    intro many a
    unfold gen
    cases hc : c a with
    | none => have := ih many (a + 1); simp only []; omega
    | some x =>
      simp only []
      split
      · simp
      split
      · simp
      · have := ih (many + 1) (a + 1); simp; omega
theorem gen_strict (c : Int → Option Int) (hu : Bool) (u cnt : Int) (M : Int) (hc : ∀ a b x y, 0 ≤ a → a < b → b < M → c a = some x → c b = some y → x < y) : ∀ (n : Nat) (many a : Int), 0 ≤ a → a + n ≤ M → Strict (gen c hu u cnt n many a) := by
  intro n
  induction n with
  | zero => intro many a _ _; exact List.Pairwise.nil
  | succ n ih =>
    intro many a h0 hM
    unfold gen
    cases hca : c a with
    | none => exact ih many (a + 1) (by omega) (by omega)
    | some x =>
      simp only []
      split
      · exact List.Pairwise.nil
      split
      · exact List.pairwise_singleton _ _
      · refine List.pairwise_cons.2 ⟨fun y hy => ?_, ih (many + 1) (a + 1) (by omega) (by omega)⟩
        obtain ⟨b, b1, b2, b3⟩ := gen_mem c hu u cnt n _ _ _ hy
        exact hc a b x y h0 (by omega) (by omega) hca b3
theorem pickR_mem {z : T_api_Zone} {Y L o t : Int} (h : t ∈ pickR z Y L o) : t = L - 60 * o ∧ offF z Y (L - 60 * o) = o := by
  unfold pickR at h
  split at h
  · rename_i e; exact ⟨by simpa using h, e⟩
  · cases h
theorem lst_mem {z : T_api_Zone} (hz : (zfault z).1 = 0) {d : T_api_Date} {a t : Int} (h : t ∈ Lst z d a) : ∃ o, (o = z.2.1 ∨ (¬ fixedZ z ∧ o = z.2.2.1)) ∧ t = insD (later d a) - 60 * o ∧ z.2.1 ≤ o ∧ o ≤ z.2.1 + 180 ∧ offF z (later d a).1 t = o := by
  obtain ⟨_, s1, s2, hzz⟩ := zok z hz
  unfold Lst at h
  rcases List.mem_append.1 h with q | q
  · split at q
    · cases q
    · rename_i hf
      obtain ⟨e, e2⟩ := pickR_mem q
      have := (hzz.resolve_left hf).d1; have := (hzz.resolve_left hf).d2
      exact ⟨_, .inr ⟨hf, rfl⟩, e, by omega, by omega, by rw [e]; exact e2⟩
  · obtain ⟨e, e2⟩ := pickR_mem q
    exact ⟨_, .inl rfl, e, by omega, by omega, by rw [e]; exact e2⟩
theorem cand_mem {z : T_api_Zone} {r : T_api_Rec} {d : T_api_Date} {a t : Int} (h : cand z r d a = some t) : t ∈ Lst z d a ∧ fitsB r d a = true := by
  unfold cand at h
  split at h
  · rename_i hf; exact ⟨List.mem_of_mem_head? h, hf⟩
  · cases h
theorem cand_lt {z : T_api_Zone} (hz : (zfault z).1 = 0) (r : T_api_Rec) {d : T_api_Date} (h : Start d) : ∀ a b x y, 0 ≤ a → a < b → b < 1501 → cand z r d a = some x → cand z r d b = some y → x < y := by
  intro a b x y h0 hab hb hx hy
  obtain ⟨o, _, e1, o1, o2, _⟩ := lst_mem hz (cand_mem hx).1
  obtain ⟨p, _, e2, p1, p2, _⟩ := lst_mem hz (cand_mem hy).1
  have k1 := (later_ok h h0 (show a ≤ 1500 by omega)).2.1
  have k2 := (later_ok h (show 0 ≤ b by omega) (show b ≤ 1500 by omega)).2.1
  omega
noncomputable def regL (z : T_api_Zone) (r : T_api_Rec) (d : T_api_Date) : List Int := gen (cand z r d) r.2.2.2.2.1 r.2.2.2.1 r.2.2.1 1501 0 0
theorem regL_strict {z : T_api_Zone} (hz : (zfault z).1 = 0) (r : T_api_Rec) {d : T_api_Date} (h : Start d) : Strict (regL z r d) :=
  gen_strict _ _ _ _ 1501 (cand_lt hz r h) 1501 0 0 (by omega) (by omega)
theorem regL_len (z : T_api_Zone) (r : T_api_Rec) (d : T_api_Date) : (regL z r d).length ≤ 1501 := gen_len _ _ _ _ _ _ _
/-- the instants of the rule that are no exceptions, and the added ones, within a range -/
def btwL (L X A : List Int) (f t : Int) : List Int := uniq ((L.filter (fun t => decide (t ∉ X)) ++ A).filter (inRg f t))
theorem btwL_spec (L X A : List Int) (f t : Int) : Strict (btwL L X A f t) ∧ ∀ x, x ∈ btwL L X A f t ↔ ((x ∈ L ∧ x ∉ X) ∨ x ∈ A) ∧ f ≤ x ∧ x ≤ t := by
  obtain ⟨h1, h2⟩ := uniq_spec ((L.filter (fun t => decide (t ∉ X)) ++ A).filter (inRg f t))
  refine ⟨h1, fun x => ?_⟩
  unfold btwL
  rw [h2, List.mem_filter, List.mem_append, List.mem_filter]
  unfold inRg
  simp
noncomputable def btw (z : T_api_Zone) (d : T_api_Date) (r : T_api_Rec) (f t : Int) : List Int := btwL (regL z r d) r.2.2.2.2.2.2.1 r.2.2.2.2.2.2.2 f t
/-- what recur.Between reports -/
noncomputable def btwF (z : T_api_Zone) (d : T_api_Date) (r : T_api_Rec) (f t : Int) : T_api_Fault :=
  if (zfault z).1 ≠ 0 then ((zfault z).1, -10) else if (InsR z d).1.1 ≠ 0 then ((InsR z d).1.1, -11) else if 3980 < d.1 then (3, -11) else if (rfault r).1 ≠ 0 then rfault r else
  if ¬ (timeB f = true ∧ timeB t = true ∧ f ≤ t) then (3, -12) else (0, 0)
noncomputable def BetR (z : T_api_Zone) (d : T_api_Date) (r : T_api_Rec) (f t : Int) : T_api_Fault × List Int := if (btwF z d r f t).1 ≠ 0 then (btwF z d r f t, []) else ((0, 0), btw z d r f t)
theorem btwF_ok {z : T_api_Zone} {d : T_api_Date} {r : T_api_Rec} {f t : Int} (h : (btwF z d r f t).1 = 0) : btwF z d r f t = (0, 0) ∧ (zfault z).1 = 0 ∧ Start d ∧ (rfault r).1 = 0 ∧ timeB f = true ∧ timeB t = true ∧ f ≤ t := by
  unfold btwF at h ⊢
  by_cases c1 : (zfault z).1 ≠ 0
  · rw [if_pos c1] at h; exact absurd h c1
  rw [if_neg c1] at h ⊢
  by_cases c2 : (InsR z d).1.1 ≠ 0
  · rw [if_pos c2] at h; exact absurd h c2
  rw [if_neg c2] at h ⊢
  by_cases c3 : 3980 < d.1
  · rw [if_pos c3] at h; simp at h
  rw [if_neg c3] at h ⊢
  by_cases c4 : (rfault r).1 ≠ 0
  · rw [if_pos c4] at h; exact absurd h c4
  rw [if_neg c4] at h ⊢
  by_cases c5 : ¬ (timeB f = true ∧ timeB t = true ∧ f ≤ t)
  · rw [if_pos c5] at h; simp at h
  rw [if_neg c5]
  have c5' := Classical.not_not.1 c5
  rcases insR_cases z d with ⟨q, _⟩ | ⟨_, _, q1, q2, q3, q4, _⟩
  · exact absurd q c2
  · exact ⟨rfl, Classical.not_not.1 c1, ⟨q1, q2, q3, by omega⟩, Classical.not_not.1 c4, c5'⟩
theorem time_eq' (t : Int) : F_basic_Time t = some (timeB t) := time_eq t
theorem sort_eq (l : List Int) (h : l.length ≤ 1000000) : F_slices_Sort l = some (sorted l) := by
  unfold F_slices_Sort; rw [bif_dt (by unfold rowMax; omega)]
theorem between_eq (fu : Nat) (hf : 5000 ≤ fu) (z : T_api_Zone) (hs : (z.1.length : Int) < 9223372036854775808) (hf2 : z.1.length < fu) (d : T_api_Date) (r : T_api_Rec) (hw : (r.2.2.2.2.2.1.length : Int) < 9223372036854775808) (f t : Int) :
    F_recur_Between fu z d r f t = some (BetR z d r f t) := by
  unfold F_recur_Between
  simp only [zvalid_eq fu z hs hf2, Option.bind_some, failed_eq, bif_ne, zInstants_eq fu (by omega) z hs hf2, validate_eq fu (by omega) r hw, fault_eq, time_eq']
  by_cases c1 : (zfault z).1 ≠ 0
  · unfold BetR btwF
    rw [if_pos c1, if_pos c1, if_pos (by exact c1)]
  by_cases c2 : (InsR z d).1.1 ≠ 0
  · unfold BetR btwF
    rw [if_neg c1, if_neg c1, if_pos c2, if_pos c2, if_pos (by exact c2)]
  by_cases c3 : 3980 < d.1
  · unfold BetR btwF
    rw [if_neg c1, if_neg c1, if_neg c2, if_neg c2, bif_dt c3, if_pos c3]; rfl
  by_cases c4 : (rfault r).1 ≠ 0
  · unfold BetR btwF
    rw [if_neg c1, if_neg c1, if_neg c2, if_neg c2, bif_df c3, if_neg c3, if_pos c4, if_pos c4, if_pos c4]
  by_cases c5 : ¬ (timeB f = true ∧ timeB t = true ∧ f ≤ t)
  · unfold BetR btwF
    rw [if_neg c1, if_neg c1, if_neg c2, if_neg c2, bif_df c3, if_neg c3, if_neg c4, if_neg c4, if_pos c5]
    unfold F_recur_Between_p0
    simp only [fault_eq, Option.bind_some, cond_true]
    cases hb : timeB f with
    | false => rfl
    | true =>
      cases hb2 : timeB t with
      | false => rfl
      | true =>
        rw [bif_f (by rfl), bif_f (by rfl), bif_dt (by rw [hb, hb2] at c5; simp at c5; exact c5)]; rfl
  have c5' := Classical.not_not.1 c5
  have h0 : (btwF z d r f t).1 = 0 := by
    unfold btwF
    rw [if_neg c1, if_neg c2, if_neg c3, if_neg c4, if_neg c5]
  obtain ⟨_, hz, hst, hrf, _⟩ := btwF_ok h0
  obtain ⟨_, hr, _, _⟩ := rule_ok r hrf
  rw [if_neg c1, if_neg c2, bif_df c3, if_neg c4, c5'.1, c5'.2.1, bif_f (by rfl), bif_f (by rfl)]
  unfold F_recur_Between_p0
  rw [bif_df (by have := c5'.2.2; omega)]
  unfold F_recur_Between_p1 F_recur_instants F_recur_instants_1 BetR
  rw [if_neg (by simp [h0]), Option.bind_some]
  simp only []
  rw [instant_eq fu (by omega), if_pos hst.ok, Option.bind_some]
  simp only []
  rw [inst_loop fu hf z hz hs hf2 r hr d hst fu 1501 0 0 [] (by omega) (by omega) (by omega) (by omega) (by omega) (by simp), Option.bind_some]
  simp only [List.nil_append]
  rw [show gen (cand z r d) r.2.2.2.2.1 r.2.2.2.1 r.2.2.1 1501 0 0 = regL z r d from rfl]
  have l1 := regL_len z r d
  have l2 := List.length_filter_le (fun t => decide (t ∉ r.2.2.2.2.2.2.1)) (regL z r d)
  have l3 := hr.al
  have ll : ((regL z r d).filter (fun t => decide (t ∉ r.2.2.2.2.2.2.1)) ++ r.2.2.2.2.2.2.2).length ≤ 1801 := by rw [List.length_append]; omega
  rw [bif_dt (by unfold rowMax; omega), delete_eq fu _ f t (by omega) (by omega), Option.bind_some]
  rw [sort_eq _ (Nat.le_trans (List.length_filter_le _ _) (by omega)), Option.bind_some]
  unfold F_slices_Compact
  rw [show ∀ l, (sorted l).length = l.length from fun l => List.length_mergeSort l, bif_dt (Nat.le_trans (List.length_filter_le _ _) (by unfold rowMax; omega)), none_eq]
  rfl
end Go.Sym
/- The reference of recur.Between; RecurBetweenMatchesSpec, RecurRangesJoin, RecurWeekly, plain. -/
namespace Go.Sym
open Cal Zn

theorem localF (d : T_api_Date) (z : T_api_Zone) (hz : (zfault z).1 = 0) : F_R2_LocalFault d = some (InsR z d).1 := by
  rw [localFault_eq]
  unfold InsR
  rw [if_neg (c := (zfault z).1 ≠ 0) (by simp [hz])]
  by_cases c1 : ¬ DOk d
  · rw [if_pos c1, if_pos c1]
  rw [if_neg c1, if_neg c1]
  by_cases c2 : d.2.2.2.2.2.2 ≠ 0
  · rw [if_pos c2, if_pos c2]
  rw [if_neg c2, if_neg c2]
  by_cases c3 : ¬ (3 ≤ d.1 ∧ d.1 ≤ 3998)
  · rw [if_pos c3, if_pos c3]
  rw [if_neg c3, if_neg c3]
theorem rin_eq (x a b : Int) : F_R1_In x a b = some (inRg a b x) := by
  rw [r1_in_eq]; congr 1; unfold inRg
  rw [Bool.eq_iff_iff, decide_eq_true_iff, Bool.and_eq_true, decide_eq_true_iff, decide_eq_true_iff]
theorem betweenFault_eq (fu : Nat) (hf : 5000 ≤ fu) (z : T_api_Zone) (hs : (z.1.length : Int) < 9223372036854775808) (hf2 : z.1.length < fu) (d : T_api_Date) (r : T_api_Rec) (hw : (r.2.2.2.2.2.1.length : Int) < 9223372036854775808) (f t : Int) :
    F_R2_BetweenFault fu z d r f t = some (btwF z d r f t) := by
  unfold F_R2_BetweenFault btwF
  simp only [rzfault_eq fu z hs hf2, Option.bind_some, bif_ne, at_eq, rulefault_eq fu (by omega) r hw]
  by_cases c1 : (zfault z).1 ≠ 0
  · rw [if_pos c1, if_pos c1]
  rw [if_neg c1, if_neg c1]
  simp only [localF d z (Classical.not_not.1 c1), Option.bind_some]
  by_cases c2 : (InsR z d).1.1 ≠ 0
  · rw [if_pos c2, if_pos c2]
  rw [if_neg c2, if_neg c2]
  by_cases c3 : 3980 < d.1
  · rw [bif_dt c3, if_pos c3]
  rw [bif_df c3, if_neg c3, bif_eq]
  by_cases c4 : (rfault r).1 = 0
  · rw [if_pos c4, if_neg (c := ¬ _) (fun q => q c4), (rule_ok r c4).1, r1_in_eq, r1_in_eq]
    simp only [Option.bind_some, bif_nd]
    by_cases c5 : timeB f = true ∧ timeB t = true ∧ f ≤ t
    · have e : (if ¬ (timeB f = true ∧ timeB t = true ∧ f ≤ t) then ((3, -12) : T_api_Fault) else (0, 0)) = (0, 0) := if_neg (fun q => q c5)
      rw [e]
      obtain ⟨p1, p2, p3⟩ := c5
      unfold timeB at p1 p2
      have p1' := of_decide_eq_true p1
      have p2' := of_decide_eq_true p2
      rw [if_pos p1', if_pos ⟨p3, p2'.2⟩]
    · have e : (if ¬ (timeB f = true ∧ timeB t = true ∧ f ≤ t) then ((3, -12) : T_api_Fault) else (0, 0)) = (3, -12) := if_pos c5
      rw [e]
      by_cases p1 : -68719476736 ≤ f ∧ f ≤ 68719476736
      · rw [if_pos p1]
        by_cases p2 : f ≤ t ∧ t ≤ 68719476736
        · exact absurd ⟨decide_eq_true p1, decide_eq_true (by omega), p2.1⟩ c5
        · rw [if_neg p2]
      · rw [if_neg p1]
  · rw [if_neg c4, if_pos c4]
/-- the reference's list -/
def insAll (f t : Int) : List Int → List Int → List Int
  | [], l => l
  | x :: A, l => insAll f t A (if inRg f t x = true then insS x l else l)
theorem insAll_spec (f t : Int) : ∀ (A l : List Int), Strict l → Strict (insAll f t A l) ∧ ∀ x, x ∈ insAll f t A l ↔ x ∈ l ∨ (x ∈ A ∧ f ≤ x ∧ x ≤ t)
  | [], l, h => ⟨h, fun x => by simp [insAll]⟩
  | y :: A, l, h => by
    unfold insAll
    by_cases c : inRg f t y = true
    · rw [if_pos c]
      obtain ⟨i1, i2⟩ := insS_spec y l h
      obtain ⟨j1, j2⟩ := insAll_spec f t A _ i1
      refine ⟨j1, fun x => ?_⟩
      rw [j2, i2, List.mem_cons]
      have c' : f ≤ y ∧ y ≤ t := by unfold inRg at c; simpa using c
      constructor
      · rintro ((q | q) | q)
        · subst q; exact .inr ⟨.inl rfl, c'⟩
        · exact .inl q
        · exact .inr ⟨.inr q.1, q.2⟩
      · rintro (q | ⟨q | q, q2⟩)
        · exact .inl (.inr q)
        · exact .inl (.inl q)
        · exact .inr ⟨q, q2⟩
    · rw [if_neg c]
      obtain ⟨j1, j2⟩ := insAll_spec f t A l h
      refine ⟨j1, fun x => ?_⟩
      rw [j2, List.mem_cons]
      have c' : ¬ (f ≤ y ∧ y ≤ t) := by unfold inRg at c; simpa using c
      constructor
      · rintro (q | q)
        · exact .inl q
        · exact .inr ⟨.inr q.1, q.2⟩
      · rintro (q | ⟨q | q, q2⟩)
        · exact .inl q
        · subst q; exact absurd q2 c'
        · exact .inr ⟨q, q2⟩
theorem add_loop (fu : Nat) (hf : 5000 ≤ fu) (r : T_api_Rec) (hr : RuleOk r) (f t : Int) : ∀ (n k : Nat) (l : List Int), k ≤ r.2.2.2.2.2.2.2.length → r.2.2.2.2.2.2.2.length - k < n → l.length ≤ 2000 + k →
    F_R2_BetweenOf_p2 fu n f t l k r = some (insAll f t (r.2.2.2.2.2.2.2.drop k) l) := by
  have al := hr.al
  intro n
  induction n with
  | zero => intro k l h1 h2; omega
  | succ n ih =>
    intro k l h1 h2 h3
    rw [F_R2_BetweenOf_p2, F_R2_BetweenOf_b2]
    by_cases c : k < r.2.2.2.2.2.2.2.length
    · rw [bif_dt (by omega), idx_nat _ k c, Option.bind_some, rin_eq, Option.bind_some, w64_eq (by omega) (by omega), List.drop_eq_getElem_cons c]
      unfold insAll
      rw [bif_bt]
      by_cases g : inRg f t r.2.2.2.2.2.2.2[k] = true
      · rw [if_pos g, if_pos g, Option.bind_some, insert_eq fu l _ (by omega) (by omega), Option.bind_some]
        have := insS_len r.2.2.2.2.2.2.2[k] l
        have nx := ih (k + 1) (insS r.2.2.2.2.2.2.2[k] l) (by omega) (by omega) (by omega)
        rw [Int.natCast_add] at nx
        exact nx
      · rw [if_neg g, if_neg g]
        have nx := ih (k + 1) l (by omega) (by omega) (by omega)
        rw [Int.natCast_add] at nx
        exact nx
    · rw [bif_df (by omega), List.drop_eq_nil_of_le (by omega)]; rfl
theorem fil_loop (fu : Nat) (hf : 5000 ≤ fu) (r : T_api_Rec) (hr : RuleOk r) (f t : Int) (L : List Int) (hL : L.length ≤ 1501) : ∀ (n k : Nat) (out : List Int), k ≤ L.length → L.length - k < n → out.length ≤ k →
    F_R2_BetweenOf_p0 fu n f t k r L out = some (insAll f t r.2.2.2.2.2.2.2 (out ++ (L.drop k).filter (fun x => inRg f t x && decide (x ∉ r.2.2.2.2.2.2.1)))) := by
  have xl := hr.xl
  intro n
  induction n with
  | zero => intro k out h1 h2; omega
  | succ n ih =>
    intro k out h1 h2 h3
    rw [F_R2_BetweenOf_p0, F_R2_BetweenOf_b0]
    by_cases c : k < L.length
    · rw [bif_dt (by omega), rowidx, idx_nat _ k c, Option.bind_some, rin_eq, Option.bind_some, List.drop_eq_getElem_cons c]
      unfold F_R2_BetweenOf_p1 F_R2_BetweenOf_p3
      rw [w64_eq (by omega) (by omega)]
      simp only [rowidx, idx_nat _ k c, Option.bind_some, cond_false, has_eq fu _ _ (show (r.2.2.2.2.2.2.1.length : Int) < 9223372036854775808 by omega) (show r.2.2.2.2.2.2.1.length < fu by omega)]
      have nx := fun out' h => ih (k + 1) out' (by omega) (by omega) h
      rw [Int.natCast_add] at nx
      cases g : inRg f t L[k] with
      | false =>
        rw [bif_f rfl]
        refine (nx out (by omega)).trans ?_
        rw [List.filter_cons_of_neg (by simp [g])]
      | true =>
        rw [bif_t rfl, bif_nd]
        by_cases g2 : L[k] ∈ r.2.2.2.2.2.2.1
        · rw [if_pos g2]
          refine (nx out (by omega)).trans ?_
          rw [List.filter_cons_of_neg (by simp [g2])]
        · rw [if_neg g2, bif_dt (by unfold rowMax; simp; omega)]
          refine (nx (out ++ [L[k]]) (by simp; omega)).trans ?_
          rw [List.filter_cons_of_pos (by simp [g, g2]), List.append_assoc]; rfl
    · rw [bif_df (by omega), List.drop_eq_nil_of_le (by omega), List.filter_nil, List.append_nil]
      have hl : out.length ≤ 2000 := by omega
      have := add_loop fu hf r hr f t fu 0 out (by omega) (by have := hr.al; omega) (by omega)
      rw [List.drop_zero] at this
      exact this
theorem betweenOf_eq (fu : Nat) (hf : 5000 ≤ fu) {z : T_api_Zone} {d : T_api_Date} {r : T_api_Rec} {f t : Int} (h : (btwF z d r f t).1 = 0) : F_R2_BetweenOf fu z d r f t = some (btw z d r f t) := by
  obtain ⟨_, hz, hst, hrf, _⟩ := btwF_ok h
  obtain ⟨_, hr, _, _⟩ := rule_ok r hrf
  unfold F_R2_BetweenOf F_R2_RegularOf
  have hb := hst.day_bd
  obtain ⟨⟨v1, v2, v3, v4, v5, v6⟩, _⟩ := id hst.ok
  have hd := dim_bd d.1 d.2.1
  rw [dnum_eq fu hf _ _ _ v1 (by omega) v3 v4 (by omega) (by omega), Option.bind_some]
  have rl := reg_loop fu hf z hz r hr d hst fu 1501 0 [] (by omega) (by omega) (by omega) (by simp)
  rw [show day d.1 d.2.1 d.2.2.1 = dayD d from rfl]
  rw [show dayD d + 0 = dayD d by omega] at rl
  rw [rl, Option.bind_some, List.nil_append]
  rw [show gen (cand z r d) r.2.2.2.2.1 r.2.2.2.1 r.2.2.1 1501 (([] : List Int).length : Int) 0 = regL z r d from rfl]
  have l1 := regL_len z r d
  have fl := fil_loop fu hf r hr f t (regL z r d) l1 fu 0 [] (by omega) (by omega) (by simp)
  rw [List.drop_zero, List.nil_append] at fl
  refine Eq.trans fl ?_
  congr 1
  have hs := regL_strict hz r hst
  obtain ⟨a1, a2⟩ := insAll_spec f t r.2.2.2.2.2.2.2 ((regL z r d).filter (fun x => inRg f t x && decide (x ∉ r.2.2.2.2.2.2.1))) (hs.filter _)
  obtain ⟨b1, b2⟩ := btwL_spec (regL z r d) r.2.2.2.2.2.2.1 r.2.2.2.2.2.2.2 f t
  refine strict_ext _ _ a1 b1 (fun x => ?_)
  rw [a2, show x ∈ btw z d r f t ↔ _ from b2 x, List.mem_filter]
  unfold inRg
  simp only [Bool.and_eq_true, decide_eq_true_iff]
  constructor
  · rintro (⟨p, ⟨q1, q2⟩, q3⟩ | ⟨p, q⟩)
    · exact ⟨.inl ⟨p, q3⟩, q1, q2⟩
    · exact ⟨.inr p, q⟩
  · rintro ⟨⟨p, q⟩ | p, q1, q2⟩
    · exact .inl ⟨p, ⟨q1, q2⟩, q⟩
    · exact .inr ⟨p, q1, q2⟩
theorem btw_len {z : T_api_Zone} {d : T_api_Date} {r : T_api_Rec} {f t : Int} (h : (btwF z d r f t).1 = 0) : (btw z d r f t).length ≤ 1801 := by
  obtain ⟨_, hz, hst, hrf, _⟩ := btwF_ok h
  obtain ⟨_, hr, _, _⟩ := rule_ok r hrf
  unfold btw btwL uniq compactI Lib.compact Lib.compactUpTo
  have l1 := regL_len z r d
  have l2 := List.length_filter_le (fun t => decide (t ∉ r.2.2.2.2.2.2.1)) (regL z r d)
  have l3 := hr.al
  rw [List.length_map]
  refine Nat.le_trans (List.length_filter_le _ _) ?_
  rw [List.length_range, show ∀ l, (sorted l).length = l.length from fun l => List.length_mergeSort l]
  refine Nat.le_trans (List.length_filter_le _ _) ?_
  rw [List.length_append]; omega
end Go.Sym
/- RecurBetweenMatchesSpec, RecurRangesJoin, RecurWeekly, plain. -/
namespace Go.Sym
open Cal Zn

theorem btw_spec (z : T_api_Zone) (d : T_api_Date) (r : T_api_Rec) (f t : Int) : Strict (btw z d r f t) ∧ ∀ x, x ∈ btw z d r f t ↔ ((x ∈ regL z r d ∧ x ∉ r.2.2.2.2.2.2.1) ∨ x ∈ r.2.2.2.2.2.2.2) ∧ f ≤ x ∧ x ≤ t := btwL_spec _ _ _ _ _
def uZ : T_api_Zone := ([117], 0, 0, (0, 0, 0, 0), (0, 0, 0, 0))
def uD : T_api_Date := (1970, 1, 1, 0, 0, 0, 0)
def uR : T_api_Rec := (1, 1, 3, 0, false, [], [], [])
theorem u_zf : (zfault uZ).1 = 0 := by decide
theorem u_fix : fixedZ uZ := ⟨rfl, rfl, rfl, rfl⟩
theorem u_ok : DOk uD := by decide
theorem u_st : Start uD := ⟨u_ok, rfl, by decide, by decide⟩
theorem u_ins : insD uD = 0 := by decide
theorem u_cand (a : Int) (h1 : 0 ≤ a) (h2 : a ≤ 1500) : cand uZ uR uD a = some (a * 86400) := by
  unfold cand fitsB
  rw [if_pos (show uR.1 = 1 from rfl), if_pos (c := decide (uR.2.1 ∣ a) = true) (decide_eq_true (Int.one_dvd a))]
  unfold Lst pickR offF
  have k := (later_ok u_st h1 h2).2.1
  rw [u_ins] at k
  rw [if_pos u_fix, if_pos u_fix, if_pos (show uZ.2.1 = uZ.2.1 from rfl), k, show uZ.2.1 = 0 from rfl, List.nil_append]
  simp
theorem u_reg : regL uZ uR uD = [0, 86400, 172800] := by
  unfold regL
  rw [show (1501 : Nat) = 1498 + 1 + 1 + 1 from rfl]
  unfold gen
  rw [u_cand 0 (by omega) (by omega)]
  simp only []
  rw [if_neg (by simp [uR]), if_neg (by simp [uR])]
  unfold gen
  rw [u_cand (0 + 1) (by omega) (by omega)]
  simp only []
  rw [if_neg (by simp [uR]), if_neg (by simp [uR])]
  unfold gen
  rw [u_cand (0 + 1 + 1) (by omega) (by omega)]
  simp only []
  rw [if_neg (by simp [uR]), if_pos (by simp [uR])]
  rfl
theorem u_fault : btwF uZ uD uR (-1000) 1000000 = (0, 0) := by
  unfold btwF
  rw [if_neg (by rw [u_zf]; simp)]
  have e : (InsR uZ uD).1 = (0, 0) := by
    unfold InsR
    rw [if_neg (by rw [u_zf]; simp), if_neg (fun q => q u_ok), if_neg (fun q => q rfl), if_neg (fun q => q (by decide))]
  rw [e, if_neg (by decide), if_neg (by decide), if_neg (by decide), if_neg (by decide)]
theorem betR_ok {z : T_api_Zone} {d : T_api_Date} {r : T_api_Rec} {f t : Int} (h : (btwF z d r f t).1 = 0) : BetR z d r f t = ((0, 0), btw z d r f t) := by
  unfold BetR; rw [if_neg (by simp [h])]
theorem betR_no {z : T_api_Zone} {d : T_api_Date} {r : T_api_Rec} {f t : Int} (h : (btwF z d r f t).1 ≠ 0) : BetR z d r f t = (btwF z d r f t, []) := by
  unfold BetR; rw [if_pos h]
theorem rex_ok (fu : Nat) (hf : 5000 ≤ fu) : F_W2_recurExample fu = some true := by
  unfold F_W2_recurExample F_W2_thrice
  rw [Option.bind_some]
  have := between_eq fu hf uZ (by decide) (by show 1 < fu; omega) uD uR (by decide) (-1000) 1000000
  rw [betR_ok (by rw [u_fault])] at this
  have e : btw uZ uD uR (-1000) 1000000 = [0, 86400, 172800] := by
    obtain ⟨b1, b2⟩ := btw_spec uZ uD uR (-1000) 1000000
    refine strict_ext _ _ b1 (by simp) (fun x => ?_)
    rw [b2, u_reg]
    simp [uR]
    omega
  rw [e] at this
  rw [show (([117] : List UInt8), ((0 : Int), ((0 : Int), (((0 : Int), ((0 : Int), ((0 : Int), (0 : Int)))), ((0 : Int), ((0 : Int), ((0 : Int), (0 : Int)))))))) = uZ from rfl, show ((1970 : Int), ((1 : Int), ((1 : Int), ((0 : Int), ((0 : Int), ((0 : Int), (0 : Int))))))) = uD from rfl]
  rw [show ((1 : Int), (1 : Int), (3 : Int), (0 : Int), false, ([] : List Int), ([] : List Int), ([] : List Int)) = uR from rfl, this, Option.bind_some, bif_t (by rfl), ints_eq fu _ _ (by simp) (by simp; omega)]
  rfl
theorem fault_range {z : T_api_Zone} {d : T_api_Date} {r : T_api_Rec} {f t f' t' : Int} (h : (btwF z d r f t).1 = 0) (h1 : f ≤ f') (h2 : f' ≤ t') (h3 : t' ≤ t) : (btwF z d r f' t').1 = 0 := by
  obtain ⟨_, hz, hst, hrf, tf, tt, _⟩ := btwF_ok h
  unfold btwF
  have i0 : (InsR z d).1 = (0, 0) := by
    unfold InsR
    rw [if_neg (by rw [hz]; simp), if_neg (fun q => q hst.ok), if_neg (fun q => q hst.zn), if_neg (fun q => q ⟨hst.y1, by have := hst.y2; omega⟩)]
  unfold timeB at tf tt
  have tf' := of_decide_eq_true tf
  have tt' := of_decide_eq_true tt
  rw [if_neg (by rw [hz]; simp), if_neg (by rw [i0]; simp), if_neg (by have := hst.y2; omega), if_neg (by rw [hrf]; simp), if_neg]
  unfold timeB
  rw [decide_eq_true (show -68719476736 ≤ f' ∧ f' ≤ 68719476736 by omega), decide_eq_true (show -68719476736 ≤ t' ∧ t' ≤ 68719476736 by omega)]
  simp; exact h2
section
variable (fu : Nat) (hf : 5000 ≤ fu) (z : T_api_Zone) (hs : (z.1.length : Int) < 9223372036854775808) (hf2 : z.1.length < fu) (d : T_api_Date) (r : T_api_Rec) (hw : (r.2.2.2.2.2.1.length : Int) < 9223372036854775808)
include hf hs hf2 hw
theorem law_between (f t : Int) : F_W2_RecurBetweenMatchesSpec fu z d r f t = some true := by
  unfold F_W2_RecurBetweenMatchesSpec
  rw [rex_ok fu hf, Option.bind_some, bif_f (by rfl), validate_eq fu (by omega) r hw, rulefault_eq fu (by omega) r hw, Option.bind_some, Option.bind_some, feq]
  unfold F_W2_RecurBetweenMatchesSpec_p0
  rw [bif_f (by simp)]
  unfold F_W2_RecurBetweenMatchesSpec_p1
  rw [between_eq fu hf z hs hf2 d r hw, betweenFault_eq fu hf z hs hf2 d r hw, Option.bind_some, Option.bind_some]
  simp only [feq]
  rw [bif_ne]
  by_cases c : (btwF z d r f t).1 ≠ 0
  · rw [if_pos c, betR_no c, bif_t (by simp)]; rfl
  · rw [if_neg c, betR_ok (Classical.not_not.1 c), bif_t (by rfl), betweenOf_eq fu hf (Classical.not_not.1 c), Option.bind_some]
    have := btw_len (Classical.not_not.1 c)
    have e := ints_eq fu (btw z d r f t) (btw z d r f t) (by omega) (by omega)
    simp only [e, Option.bind_some]; simp
theorem law_ranges (a b c : Int) : F_W2_RecurRangesJoin fu z d r a b c = some true := by
  unfold F_W2_RecurRangesJoin
  rw [rex_ok fu hf, Option.bind_some, bif_f (by rfl), between_eq fu hf z hs hf2 d r hw, Option.bind_some, bif_ne]
  by_cases c0 : (btwF z d r a c).1 ≠ 0
  · rw [betR_no c0, if_pos c0]
    unfold F_W2_RecurRangesJoin_p0
    rw [bif_t rfl, bif_f (by simpa using c0)]; rfl
  have c0' := Classical.not_not.1 c0
  rw [betR_ok c0', if_neg (by simp)]
  unfold F_W2_RecurRangesJoin_p0
  by_cases c1 : b < a
  · rw [bif_dt c1]; rfl
  rw [bif_df c1]
  by_cases c2 : c ≤ b
  · rw [bif_dt c2]; rfl
  rw [bif_df c2]
  unfold F_W2_RecurRangesJoin_p1
  obtain ⟨_, hz, hst, hrf, tf, tt, _⟩ := btwF_ok c0'
  have tf' := of_decide_eq_true tf
  have tt' := of_decide_eq_true tt
  rw [w64_eq (x := b + 1) (by omega) (by omega), between_eq fu hf z hs hf2 d r hw, between_eq fu hf z hs hf2 d r hw, Option.bind_some, Option.bind_some]
  have g1 := fault_range c0' (show a ≤ a by omega) (show a ≤ b by omega) (show b ≤ c by omega)
  have g2 := fault_range c0' (show a ≤ b + 1 by omega) (show b + 1 ≤ c by omega) (show c ≤ c by omega)
  rw [betR_ok g1, betR_ok g2, bif_t (by rfl), bif_t (by rfl)]
  have l1 := btw_len g1
  have l2 := btw_len g2
  rw [bif_dt (by unfold rowMax; simp only []; omega), bif_dt (by unfold rowMax; rw [List.length_append]; simp only []; omega)]
  obtain ⟨s1, m1⟩ := btw_spec z d r a b
  obtain ⟨s2, m2⟩ := btw_spec z d r (b + 1) c
  obtain ⟨s3, m3⟩ := btw_spec z d r a c
  have e : btw z d r a b ++ btw z d r (b + 1) c = btw z d r a c := by
    refine strict_ext _ _ (List.pairwise_append.2 ⟨s1, s2, fun x hx y hy => ?_⟩) s3 (fun x => ?_)
    · have := ((m1 x).1 hx).2; have := ((m2 y).1 hy).2; omega
    · rw [List.mem_append, m1, m2, m3]
      constructor
      · rintro (⟨p, q⟩ | ⟨p, q⟩)
        · exact ⟨p, by omega⟩
        · exact ⟨p, by omega⟩
      · rintro ⟨p, q⟩
        by_cases k : x ≤ b
        · exact .inl ⟨p, by omega⟩
        · exact .inr ⟨p, by omega⟩
  simp only [e]
  have l3 := btw_len c0'
  rw [ints_eq fu _ _ (by omega) (by omega)]; simp
end
theorem weekly_fault (r : T_api_Rec) : rfault (1, 1, r.2.2.1, r.2.2.2.1, r.2.2.2.2.1, [], r.2.2.2.2.2.2) = rfault (2, 1, r.2.2.1, r.2.2.2.1, r.2.2.2.2.1, [0, 1, 2, 3, 4, 5, 6], r.2.2.2.2.2.2) := by
  unfold rfault
  have e1 : wdF (1, 1, r.2.2.1, r.2.2.2.1, r.2.2.2.2.1, [], r.2.2.2.2.2.2) = (0, 0) := by
    unfold wdF; rw [if_neg (by simp)]; rfl
  have e2 : wdF (2, 1, r.2.2.1, r.2.2.2.1, r.2.2.2.2.1, [0, 1, 2, 3, 4, 5, 6], r.2.2.2.2.2.2) = (0, 0) := by
    unfold wdF; rw [if_neg (by simp)]
    have : scanI wdB none [0, 1, 2, 3, 4, 5, 6] = 0 := by decide
    show codeF (scanI wdB none [0, 1, 2, 3, 4, 5, 6]) (-7) = _
    rw [this]; rfl
  rw [e1, e2]
  simp only []
  rw [if_neg (c := ¬ ((0 : Int) ≤ 1 ∧ (1 : Int) ≤ 4)) (by decide), if_neg (c := ¬ ((0 : Int) ≤ 2 ∧ (2 : Int) ≤ 4)) (by decide)]
theorem weekly_reg (z : T_api_Zone) (d : T_api_Date) (r : T_api_Rec) : regL z (1, 1, r.2.2.1, r.2.2.2.1, r.2.2.2.2.1, [], r.2.2.2.2.2.2) d = regL z (2, 1, r.2.2.1, r.2.2.2.1, r.2.2.2.2.1, [0, 1, 2, 3, 4, 5, 6], r.2.2.2.2.2.2) d := by
  have e : cand z (1, 1, r.2.2.1, r.2.2.2.1, r.2.2.2.2.1, [], r.2.2.2.2.2.2) d = cand z (2, 1, r.2.2.1, r.2.2.2.1, r.2.2.2.2.1, [0, 1, 2, 3, 4, 5, 6], r.2.2.2.2.2.2) d := by
    funext a
    have f1 : fitsB (1, 1, r.2.2.1, r.2.2.2.1, r.2.2.2.2.1, [], r.2.2.2.2.2.2) d a = true := by
      unfold fitsB; rw [if_pos rfl]; exact decide_eq_true (Int.one_dvd _)
    have f2 : fitsB (2, 1, r.2.2.1, r.2.2.2.1, r.2.2.2.2.1, [0, 1, 2, 3, 4, 5, 6], r.2.2.2.2.2.2) d a = true := by
      unfold fitsB
      rw [if_neg (by simp), if_pos rfl, if_neg (by simp)]
      have hb := wday_bd (dayD d + a)
      rw [decide_eq_true (Int.one_dvd _), Bool.and_true]
      apply decide_eq_true
      generalize wday (dayD d + a) = w at hb
      have : w = 0 ∨ w = 1 ∨ w = 2 ∨ w = 3 ∨ w = 4 ∨ w = 5 ∨ w = 6 := by omega
      simp [this]
    unfold cand
    rw [f1, f2]
  unfold regL
  rw [e]
theorem law_weekly (fu : Nat) (hf : 5000 ≤ fu) (z : T_api_Zone) (hs : (z.1.length : Int) < 9223372036854775808) (hf2 : z.1.length < fu) (d : T_api_Date) (r : T_api_Rec) (f t : Int) : F_W2_RecurWeekly fu z d r f t = some true := by
  unfold F_W2_RecurWeekly
  rw [rex_ok fu hf, Option.bind_some, bif_f (by rfl)]
  have b1 := between_eq fu hf z hs hf2 d (1, 1, r.2.2.1, r.2.2.2.1, r.2.2.2.2.1, [], r.2.2.2.2.2.2) (by simp) f t
  have b2 := between_eq fu hf z hs hf2 d (2, 1, r.2.2.1, r.2.2.2.1, r.2.2.2.2.1, [0, 1, 2, 3, 4, 5, 6], r.2.2.2.2.2.2) (by simp) f t
  rw [b1, b2, Option.bind_some, Option.bind_some]
  have e : BetR z d (1, 1, r.2.2.1, r.2.2.2.1, r.2.2.2.2.1, [], r.2.2.2.2.2.2) f t = BetR z d (2, 1, r.2.2.1, r.2.2.2.1, r.2.2.2.2.1, [0, 1, 2, 3, 4, 5, 6], r.2.2.2.2.2.2) f t := by
    unfold BetR btwF btw
    rw [weekly_fault r, weekly_reg z d r]
  rw [e, feq, bif_t (by simp)]
  have hl : (BetR z d (2, 1, r.2.2.1, r.2.2.2.1, r.2.2.2.2.1, [0, 1, 2, 3, 4, 5, 6], r.2.2.2.2.2.2) f t).2.length ≤ 1801 := by
    by_cases c : (btwF z d (2, 1, r.2.2.1, r.2.2.2.1, r.2.2.2.2.1, [0, 1, 2, 3, 4, 5, 6], r.2.2.2.2.2.2) f t).1 ≠ 0
    · rw [betR_no c]; simp
    · rw [betR_ok (Classical.not_not.1 c)]; exact btw_len (Classical.not_not.1 c)
  rw [ints_eq fu _ _ (by omega) (by omega)]; simp
end Go.Sym
/- RecurLocalTime, RecurExceptions, RecurCounts, plain. -/
namespace Go.Sym
open Cal Zn

theorem at_time {z : T_api_Zone} (hz : (zfault z).1 = 0) {d : T_api_Date} (h : Start d) {a t : Int} (h1 : 0 ≤ a) (h2 : a ≤ 1500) (ht : t ∈ Lst z d a) :
    ∃ o, OffR z t = (o, (0, 0)) ∧ CivR t o = (civD (dayD d + a) (secD d) o, (0, 0)) ∧ -68719476736 ≤ t ∧ t ≤ 68719476736 := by
  obtain ⟨o, ho, e, o1, o2, e2⟩ := lst_mem hz ht
  obtain ⟨k1, k2, k3, k4, k5⟩ := later_ok h h1 h2
  obtain ⟨_, s1, s2, hzz⟩ := zok z hz
  have hloc := off_local hz k1 k3 k4 k5 o ho
  rw [← e, e2] at hloc
  have ho' : -900 ≤ o ∧ o ≤ 900 := by
    rcases ho with q | ⟨q, q'⟩
    · omega
    · have := (hzz.resolve_left q).m1; have := (hzz.resolve_left q).m2; omega
  obtain ⟨L1, L2⟩ := insD_year k1 k3
  obtain ⟨v3, v2, v9, v0⟩ := jan_vals
  have j1 := jan_mono 3 _ k4
  have j2 := jan_mono ((later d a).1 + 1) 3999 (by omega)
  have hb := h.day_bd
  have hsd := secD_bd h.ok
  have hi := h.ins
  refine ⟨o, hloc, ?_, by omega, by omega⟩
  unfold CivR
  rw [if_neg (by omega), if_neg (by omega)]
  have ea : (t + 60 * o) / 86400 = dayD d + a := by omega
  have eb : (t + 60 * o) % 86400 = secD d := by omega
  rw [ea, eb, if_neg (by omega)]
theorem reg_time {z : T_api_Zone} (hz : (zfault z).1 = 0) {d : T_api_Date} (h : Start d) (r : T_api_Rec) {t : Int} (ht : t ∈ regL z r d) :
    ∃ a o, OffR z t = (o, (0, 0)) ∧ CivR t o = (civD (dayD d + a) (secD d) o, (0, 0)) ∧ -68719476736 ≤ t ∧ t ≤ 68719476736 := by
  obtain ⟨a, a1, a2, a3⟩ := gen_mem _ _ _ _ _ _ _ _ ht
  obtain ⟨o, q⟩ := at_time hz h (show 0 ≤ a by omega) (show a ≤ 1500 by omega) (cand_mem a3).1
  exact ⟨a, o, q⟩
theorem civ_time {d : T_api_Date} (h : DOk d) (n o : Int) : (civD n (secD d) o).2.2.2.1 = d.2.2.2.1 ∧ (civD n (secD d) o).2.2.2.2.1 = d.2.2.2.2.1 ∧ (civD n (secD d) o).2.2.2.2.2.1 = d.2.2.2.2.2.1 := by
  obtain ⟨_, _, _, _, _, _, _, _, _⟩ := h
  refine ⟨?_, ?_, ?_⟩ <;> simp only [civD, secD] <;> omega
section
variable (fu : Nat) (hf : 5000 ≤ fu) (z : T_api_Zone) (hs : (z.1.length : Int) < 9223372036854775808) (hf2 : z.1.length < fu) (d : T_api_Date) (r : T_api_Rec) (hw : (r.2.2.2.2.2.1.length : Int) < 9223372036854775808)
include hf hs hf2
theorem local_time_loop (hz : (zfault z).1 = 0) (h : Start d) (hr : RuleOk r) (X : List Int) (hX : Strict X) (hl : X.length ≤ 2000) (hm : ∀ x ∈ X, x ∈ r.2.2.2.2.2.2.2 ∨ x ∈ regL z r d) : ∀ (n k : Nat), k ≤ X.length → X.length - k < n →
    F_W2_RecurLocalTime_p0 fu n k z d r X = some true := by
  have al := hr.al
  intro n
  induction n with
  | zero => intro k h1 h2; omega
  | succ n ih =>
    intro k h1 h2
    rw [F_W2_RecurLocalTime_p0, F_W2_RecurLocalTime_b0]
    by_cases c : k < X.length
    · have nx := ih (k + 1) (by omega) (by omega)
      rw [Int.natCast_add] at nx
      have g1 : decide (0 ≤ (k : Int) ∧ (k : Int).toNat < X.length) = true := decide_eq_true ⟨by omega, by simpa using c⟩
      have g2 : X[(k : Int).toNat]? = some X[k] := by simp [c]
      rw [bif_dt (by omega)]
      rw [w64_eq (x := (k : Int) + 1) (by omega) (by omega)]
      simp only [g1, g2, cond_true, Option.bind_some, has_eq fu _ _ (show (r.2.2.2.2.2.2.2.length : Int) < 9223372036854775808 by omega) (show r.2.2.2.2.2.2.2.length < fu by omega)]
      by_cases q : X[k] ∈ r.2.2.2.2.2.2.2
      · rw [bif_dt q]; exact nx
      rw [bif_df q]
      obtain ⟨a, o, e1, e2, _, _⟩ := reg_time hz h r ((hm _ (List.getElem_mem c)).resolve_left q)
      obtain ⟨t1, t2, t3⟩ := civ_time h.ok (dayD d + a) o
      rw [zOffset_eq fu (by omega) z hs hf2, Option.bind_some, e1, civil_eq fu (by omega), Option.bind_some, e2]
      simp only [t1, t2, t3]
      rw [bif_f (by rfl), bif_f (by rfl), bif_f (by simp), bif_f (by simp), bif_f (by simp)]
      by_cases q2 : 0 < (k : Int)
      · obtain ⟨j, rfl⟩ : ∃ j, k = j + 1 := ⟨k - 1, by omega⟩
        rw [bif_dt q2, rowidx]
        have hj : idx X (w64 (((j + 1 : Nat) : Int) - 1)) = some X[j] := by
          rw [w64_eq (by omega) (by omega), show ((j + 1 : Nat) : Int) - 1 = (j : Int) by omega]
          exact idx_nat X j (by omega)
        have := List.pairwise_iff_getElem.1 hX j (j + 1) (by omega) c (by omega)
        rw [hj, Option.bind_some, bif_df (by omega)]
        exact nx
      · rw [bif_df q2]; exact nx
    · rw [bif_df (by omega)]
include hw
theorem law_localtime (f t : Int) : F_W2_RecurLocalTime fu z d r f t = some true := by
  unfold F_W2_RecurLocalTime
  rw [rex_ok fu hf, Option.bind_some, bif_f (by rfl), between_eq fu hf z hs hf2 d r hw, Option.bind_some, bif_ne]
  by_cases c0 : (btwF z d r f t).1 ≠ 0
  · rw [betR_no c0, if_pos c0]; rfl
  have c0' := Classical.not_not.1 c0
  rw [betR_ok c0', if_neg (by simp)]
  obtain ⟨_, hz, hst, hrf, tf, tt, _⟩ := btwF_ok c0'
  obtain ⟨_, hr, _, _⟩ := rule_ok r hrf
  obtain ⟨s3, m3⟩ := btw_spec z d r f t
  have l3 := btw_len c0'
  have := local_time_loop fu hf z hs hf2 d r hz hst hr (btw z d r f t) s3 (by omega) (fun x hx => by
    rcases ((m3 x).1 hx).1 with q | q
    · exact .inr q.1
    · exact .inl q) fu 0 (by omega) (by omega)
  exact this
end
/-- the rule with one exception -/
abbrev exc (r : T_api_Rec) (X : List Int) : T_api_Rec := (r.1, r.2.1, r.2.2.1, r.2.2.2.1, r.2.2.2.2.1, r.2.2.2.2.2.1, X, r.2.2.2.2.2.2.2)
theorem exc_fault (r : T_api_Rec) (X : List Int) (h : (rfault r).1 = 0) (hX : listC X = 0) : (rfault (exc r X)).1 = 0 := by
  unfold rfault at h ⊢
  by_cases c1 : ¬ (0 ≤ r.1 ∧ r.1 ≤ 4)
  · rw [if_pos c1] at h; simp at h
  rw [if_neg c1] at h ⊢
  by_cases c2 : ¬ (1 ≤ r.2.1 ∧ r.2.1 ≤ 100)
  · rw [if_pos c2] at h; simp at h
  rw [if_neg c2] at h ⊢
  by_cases c3 : ¬ (0 ≤ r.2.2.1 ∧ r.2.2.1 ≤ 1500)
  · rw [if_pos c3] at h; simp at h
  rw [if_neg c3] at h ⊢
  by_cases c4 : r.2.2.2.2.1 = true ∧ ¬ (-68719476736 ≤ r.2.2.2.1 ∧ r.2.2.2.1 ≤ 68719476736)
  · rw [if_pos c4] at h; simp at h
  rw [if_neg c4] at h ⊢
  by_cases c5 : r.2.2.2.2.1 = false ∧ r.2.2.2.1 ≠ 0
  · rw [if_pos c5] at h; simp at h
  rw [if_neg c5] at h ⊢
  have ew : wdF (exc r X) = wdF r := rfl
  rw [ew]
  by_cases c6 : (wdF r).1 ≠ 0
  · rw [if_pos c6] at h; exact absurd h c6
  rw [if_neg c6] at h ⊢
  by_cases c7 : listC r.2.2.2.2.2.2.1 ≠ 0
  · rw [if_pos c7] at h; exact absurd h c7
  rw [if_neg c7] at h
  rw [if_neg (c := listC (exc r X).2.2.2.2.2.2.1 ≠ 0) (by simp [hX])]
  exact h
theorem fault_rule {z : T_api_Zone} {d : T_api_Date} {r s : T_api_Rec} {f t : Int} (h : (btwF z d r f t).1 = 0) (hs : (rfault s).1 = 0) : (btwF z d s f t).1 = 0 := by
  obtain ⟨_, hz, hst, hrf, tf, tt, hft⟩ := btwF_ok h
  unfold btwF
  have i0 : (InsR z d).1 = (0, 0) := by
    unfold InsR
    rw [if_neg (by rw [hz]; simp), if_neg (fun q => q hst.ok), if_neg (fun q => q hst.zn), if_neg (fun q => q ⟨hst.y1, by have := hst.y2; omega⟩)]
  rw [if_neg (by rw [hz]; simp), if_neg (by rw [i0]; simp), if_neg (by have := hst.y2; omega), if_neg (by rw [hs]; simp), if_neg (fun q => q ⟨tf, tt, hft⟩)]
theorem exc_loop (fu : Nat) (hf : 5000 ≤ fu) (r : T_api_Rec) (al : r.2.2.2.2.2.2.2.length ≤ 300) (X Y : List Int) (hX : Strict X) (hl : X.length ≤ 2000) (i : Nat) (hi : i < X.length) (fl : T_api_Fault) : ∀ (n k : Nat) (acc : List Int), k ≤ X.length → X.length - k < n → acc.length ≤ k →
    F_W2_RecurExceptions_p2 fu n i k r X Y fl acc = bif fl.1 == 0 then (F_R1_Ints fu Y (acc ++ (X.drop k).filter (fun x => decide (x ≠ X[i] ∨ x ∈ r.2.2.2.2.2.2.2)))).bind fun b => some b else some false := by
  intro n
  induction n with
  | zero => intro k acc h1 h2; omega
  | succ n ih =>
    intro k acc h1 h2 h3
    rw [F_W2_RecurExceptions_p2, F_W2_RecurExceptions_b2]
    by_cases c : k < X.length
    · have nx : ∀ acc' : List Int, acc'.length ≤ k + 1 → F_W2_RecurExceptions_p2 fu n i ((k : Int) + 1) r X Y fl acc' = _ := fun acc' h => ih (k + 1) acc' (by omega) (by omega) h
      rw [bif_dt (by omega), bif_ne, List.drop_eq_getElem_cons c]
      simp only [rowidx, idx_nat X k c, Option.bind_some, has_eq fu _ _ (show (r.2.2.2.2.2.2.2.length : Int) < 9223372036854775808 by omega) (show r.2.2.2.2.2.2.2.length < fu by omega)]
      have yes : F_W2_RecurExceptions_p3 fu (F_W2_RecurExceptions_p2 fu n) i k true r X Y fl acc = F_W2_RecurExceptions_p2 fu n i (k + 1) r X Y fl (acc ++ [X[k]]) := by
        unfold F_W2_RecurExceptions_p3
        rw [bif_t rfl, rowidx, idx_nat X k c, Option.bind_some, bif_dt (by unfold rowMax; simp; omega), w64_eq (by omega) (by omega)]
      have no : F_W2_RecurExceptions_p3 fu (F_W2_RecurExceptions_p2 fu n) i k false r X Y fl acc = F_W2_RecurExceptions_p2 fu n i (k + 1) r X Y fl acc := by
        unfold F_W2_RecurExceptions_p3
        rw [bif_f rfl, w64_eq (by omega) (by omega)]
      by_cases e : (k : Int) ≠ (i : Int)
      · have hne : X[k] ≠ X[i] := by
          intro q
          rcases Nat.lt_trichotomy k i with w | w | w
          · have := List.pairwise_iff_getElem.1 hX k i c hi w; omega
          · omega
          · have := List.pairwise_iff_getElem.1 hX i k hi c w; omega
        rw [if_pos e, yes, nx _ (by simp; omega), List.filter_cons_of_pos (by simp [hne]), List.append_assoc]; rfl
      · have ek : k = i := by omega
        subst ek
        rw [if_neg e]
        by_cases g : X[k] ∈ r.2.2.2.2.2.2.2
        · rw [decide_eq_true g, yes, nx _ (by simp; omega), List.filter_cons_of_pos (by simp [g]), List.append_assoc]; rfl
        · rw [decide_eq_false g, no, nx _ (by omega), List.filter_cons_of_neg (by simp [g])]
    · rw [bif_df (by omega), List.drop_eq_nil_of_le (by omega), List.filter_nil, List.append_nil]
theorem law_exceptions (fu : Nat) (hf : 5000 ≤ fu) (z : T_api_Zone) (hs : (z.1.length : Int) < 9223372036854775808) (hf2 : z.1.length < fu) (d : T_api_Date) (r : T_api_Rec) (hw : (r.2.2.2.2.2.1.length : Int) < 9223372036854775808) (f t i : Int) :
    F_W2_RecurExceptions fu z d r f t i = some true := by
  unfold F_W2_RecurExceptions
  rw [rex_ok fu hf, Option.bind_some, bif_f (by rfl), between_eq fu hf z hs hf2 d r hw, Option.bind_some, bif_ne]
  by_cases c0 : (btwF z d r f t).1 ≠ 0
  · rw [betR_no c0, if_pos c0]
    unfold F_W2_RecurExceptions_p0
    rw [bif_t rfl, bif_f (by simpa using c0)]; rfl
  have c0' := Classical.not_not.1 c0
  rw [betR_ok c0', if_neg (by simp)]
  unfold F_W2_RecurExceptions_p0
  simp only [cond_true]
  by_cases c1 : 0 < r.2.2.2.2.2.2.1.length
  · rw [bif_dt (by omega)]; rfl
  rw [bif_df (by omega)]
  have hX : r.2.2.2.2.2.2.1 = [] := by rw [← List.length_eq_zero_iff]; omega
  have l3 := btw_len c0'
  rw [w64_eq (by omega) (by omega), r1_in_eq, Option.bind_some, bif_nd]
  by_cases c2' : ¬ (0 ≤ i ∧ i ≤ ((btw z d r f t).length : Int) - 1)
  · rw [if_neg c2']; rfl
  have c2 := Classical.not_not.1 c2'
  rw [if_pos c2]
  obtain ⟨k, rfl⟩ : ∃ k : Nat, i = k := ⟨i.toNat, by omega⟩
  have hk : k < (btw z d r f t).length := by omega
  unfold F_W2_RecurExceptions_p1
  obtain ⟨_, hz, hst, hrf, tf, tt, hft⟩ := btwF_ok c0'
  obtain ⟨_, hr, _, _⟩ := rule_ok r hrf
  have tf' := of_decide_eq_true tf
  have tt' := of_decide_eq_true tt
  obtain ⟨s3, m3⟩ := btw_spec z d r f t
  rw [rowidx, idx_nat _ k hk, Option.bind_some]
  have hy := ((m3 _).1 (List.getElem_mem hk)).2
  generalize hyv : (btw z d r f t)[k] = y at hy
  have hc : listC [y] = 0 := by
    unfold listC scanI
    have : timeB y = true := decide_eq_true (by omega)
    rw [if_neg (by simp), if_neg (by rw [this]; simp), if_neg (by simp [leP])]; rfl
  have c0x : (btwF z d (exc r [y]) f t).1 = 0 := fault_rule c0' (exc_fault r [y] hrf hc)
  have be := between_eq fu hf z hs hf2 d (exc r [y]) hw f t
  rw [betR_ok c0x] at be
  rw [be, Option.bind_some]
  have lp := exc_loop fu hf r hr.al (btw z d r f t) (btw z d (exc r [y]) f t) s3 (by omega) k hk (0, 0) fu 0 [] (by omega) (by omega) (by simp)
  refine Eq.trans lp ?_
  rw [bif_t (by rfl), List.drop_zero, List.nil_append, hyv]
  have e : btw z d (exc r [y]) f t = (btw z d r f t).filter (fun x => decide (x ≠ y ∨ x ∈ r.2.2.2.2.2.2.2)) := by
    obtain ⟨s4, m4⟩ := btw_spec z d (exc r [y]) f t
    refine strict_ext _ _ s4 (s3.filter _) (fun x => ?_)
    have e2 : regL z (exc r [y]) d = regL z r d := rfl
    rw [m4, List.mem_filter, m3, e2, hX]
    simp only [List.mem_singleton, decide_eq_true_iff]
    have hin : y ∈ btw z d r f t := by rw [← hyv]; exact List.getElem_mem hk
    constructor
    · rintro ⟨⟨p, q⟩ | p, w⟩
      · exact ⟨⟨.inl ⟨p, by simp⟩, w⟩, .inl q⟩
      · exact ⟨⟨.inr p, w⟩, .inr p⟩
    · rintro ⟨⟨⟨p, _⟩ | p, w⟩, v⟩
      · rcases v with v | v
        · exact ⟨.inl ⟨p, v⟩, w⟩
        · exact ⟨.inr v, w⟩
      · exact ⟨.inr p, w⟩
  rw [← e]
  have l4 := btw_len c0x
  have e3 := ints_eq fu (btw z d (exc r [y]) f t) (btw z d (exc r [y]) f t) (by omega) (by omega)
  rw [e3]; simp
/-- a rule with a count -/
abbrev cntR (r : T_api_Rec) (n : Int) : T_api_Rec := (r.1, r.2.1, n, r.2.2.2.1, r.2.2.2.2.1, r.2.2.2.2.2.1, [], [])
theorem cnt_fault (r : T_api_Rec) (n : Int) (h1 : 0 ≤ n) (h2 : n ≤ 1500) : rfault (cntR r n) = rfault (cntR r 0) := by
  unfold rfault
  have ew : wdF (cntR r n) = wdF (cntR r 0) := rfl
  rw [ew]
  have e1 : (¬ (0 ≤ (cntR r n).2.2.1 ∧ (cntR r n).2.2.1 ≤ 1500)) = (¬ (0 ≤ (cntR r 0).2.2.1 ∧ (cntR r 0).2.2.1 ≤ 1500)) := by
    apply propext
    show ¬ (0 ≤ n ∧ n ≤ 1500) ↔ ¬ ((0 : Int) ≤ 0 ∧ (0 : Int) ≤ 1500)
    omega
  simp only [e1]
theorem gen_count (c : Int → Option Int) (hu : Bool) (u cnt : Int) : ∀ (n : Nat) (many a : Int), 0 ≤ many → many < cnt → gen c hu u cnt n many a = (gen c hu u 0 n many a).take (cnt - many).toNat := by
  intro n
  induction n with
  | zero => intro many a _ _; simp [gen]
  | succ n ih =>
    intro many a h0 h1
    unfold gen
    cases hc : c a with
    | none => exact ih many (a + 1) h0 h1
    | some x =>
      simp only []
      split
      · simp
      · rw [if_neg (c := many + 1 = 0) (by omega)]
        obtain ⟨k, hk⟩ : ∃ k, (cnt - many).toNat = k + 1 := ⟨(cnt - many).toNat - 1, by omega⟩
        rw [hk, List.take_succ_cons]
        by_cases c1 : many + 1 = cnt
        · rw [if_pos c1, show k = 0 by omega]; simp
        · rw [if_neg c1, ih (many + 1) (a + 1) (by omega) (by omega), show (cnt - (many + 1)).toNat = k by omega]
theorem btw_cnt {z : T_api_Zone} (hz : (zfault z).1 = 0) {d : T_api_Date} (h : Start d) (r : T_api_Rec) (n : Int) : btw z d (cntR r n) (-68719476736) 68719476736 = regL z (cntR r n) d := by
  obtain ⟨s3, m3⟩ := btw_spec z d (cntR r n) (-68719476736) 68719476736
  refine strict_ext _ _ s3 (regL_strict hz _ h) (fun x => ?_)
  rw [m3]
  constructor
  · rintro ⟨⟨p, _⟩ | p, _⟩
    · exact p
    · cases p
  · intro p
    obtain ⟨_, _, _, _, q⟩ := reg_time hz h _ p
    exact ⟨.inl ⟨p, by simp⟩, q⟩
theorem law_counts (fu : Nat) (hf : 5000 ≤ fu) (z : T_api_Zone) (hs : (z.1.length : Int) < 9223372036854775808) (hf2 : z.1.length < fu) (d : T_api_Date) (r : T_api_Rec) (hw : (r.2.2.2.2.2.1.length : Int) < 9223372036854775808) (n : Int) :
    F_W2_RecurCounts fu z d r n = some true := by
  unfold F_W2_RecurCounts
  rw [rex_ok fu hf, Option.bind_some, bif_f (by rfl)]
  have b0 := between_eq fu hf z hs hf2 d (cntR r 0) hw (-68719476736) 68719476736
  rw [b0, Option.bind_some, bif_ne]
  by_cases c0 : (btwF z d (cntR r 0) (-68719476736) 68719476736).1 ≠ 0
  · rw [betR_no c0, if_pos c0]
    unfold F_W2_RecurCounts_p0
    rw [bif_t rfl, bif_f (by simpa using c0)]; rfl
  have c0' := Classical.not_not.1 c0
  rw [betR_ok c0', if_neg (by simp), r1_in_eq, Option.bind_some]
  unfold F_W2_RecurCounts_p0
  rw [bif_nd]
  by_cases c1' : ¬ (1 ≤ n ∧ n ≤ 1500)
  · rw [if_neg c1']; rfl
  have c1 := Classical.not_not.1 c1'
  rw [if_pos c1]
  unfold F_W2_RecurCounts_p1
  have b1 := between_eq fu hf z hs hf2 d (cntR r n) hw (-68719476736) 68719476736
  have cn : (btwF z d (cntR r n) (-68719476736) 68719476736).1 = 0 := fault_rule c0' (by rw [cnt_fault r n (by omega) c1.2]; exact (btwF_ok c0').2.2.2.1)
  obtain ⟨_, hz, hst, hrf, tf, tt, hft⟩ := btwF_ok c0'
  rw [betR_ok cn, btw_cnt hz hst] at b1
  rw [b1, Option.bind_some, btw_cnt hz hst]
  have eg : regL z (cntR r n) d = (regL z (cntR r 0) d).take n.toNat := by
    have := gen_count (cand z (cntR r n) d) r.2.2.2.2.1 r.2.2.2.1 n 1501 0 0 (by omega) (by omega)
    rw [show n - 0 = n by omega] at this
    exact this
  have l1 := regL_len z (cntR r 0) d
  have l2 := regL_len z (cntR r n) d
  have e1 := ints_eq fu (regL z (cntR r n) d) (regL z (cntR r n) d) (by omega) (by omega)
  by_cases c2 : n < ((regL z (cntR r 0) d).length : Int)
  · rw [bif_dt c2, bif_dt ⟨by omega, by simp only []; omega⟩, bif_t (by rfl), ← eg]
    simp only [e1, Option.bind_some]; simp
  · rw [bif_df c2, bif_t (by rfl)]
    have e2 : regL z (cntR r 0) d = regL z (cntR r n) d := by rw [eg, List.take_of_length_le (by omega)]
    rw [e2]
    simp only [e1, Option.bind_some]; simp
end Go.Sym
/- From the arguments that a statement speaks of to plain data: what reads as data of a type has a plain reading. -/
namespace Go.Sym
open Go.ChangeShapes Go.WideShapes Go.ChangeAt Go.RowKit
variable [LC]

/-- all that the world's cells hold -/
def Gw (w : World) : Gh := ⟨fun b o => match w.cell? ⟨b, o, none⟩ with | some v => if v.oneCell' = true then some v else none | none => none, fun _ => none, fun _ => none⟩
omit [LC] in
theorem Gw_imm {w : World} {b o : Nat} {v : Value} (h : w.cell? ⟨b, o, none⟩ = some v) (h1 : v.oneCell' = true) : (Gw w).imm b o = some v := by
  simp only [Gw]; rw [h]; simp [h1]
theorem Gw_mem (w : World) : Mem (Gw w) [] w := by
  have key : ∀ b o v, (Gw w).imm b o = some v → w.cell? ⟨b, o, none⟩ = some v ∧ v.oneCell' = true := by
    intro b o v h
    simp only [Gw] at h
    split at h
    · rename_i u hu
      split at h
      · rename_i h1; cases h; exact ⟨hu, h1⟩
      · cases h
    · cases h
  exact ⟨fun b o v h => (key b o v h).1, fun b o v h => (key b o v h).2, fun n bx h => (by cases h), fun n m bx bx' b h => (by cases h)⟩
inductive TreeBd {α : Type} (p : α → Prop) : Tree α → Prop
  | mk (a : α) (l : List (Tree α)) : p a → l.length ≤ maxLen → (∀ x ∈ l, TreeBd p x) → TreeBd p (.node a l)
/-- what the values of a type are bound to -/
def Ty.bd : (τ : Ty) → τ.den → Prop
  | .int k, n => (Lit.int k n).wf = true
  | .str, s => List.length s ≤ maxLen
  | .prod a b, x => a.bd x.1 ∧ b.bd x.2
  | .list a, l => List.length l ≤ maxLen ∧ ∀ x ∈ (show List a.den from l), a.bd x
  | .tree a, t => TreeBd a.bd t
  | _, _ => True
def fldsOk (P : Program) (rec : Ty → TypeId → Bool) : Ty → List Field → Nat → Bool
  | τ, [f], o => f.offset == o && (P.cellsOf f.type == τ.sz && rec τ f.type)
  | .prod a b, f :: fs, o => f.offset == o && (P.cellsOf f.type == a.sz && (rec a f.type && fldsOk P rec b fs (o + a.sz)))
  | _, _, _ => false
/-- a type of the program is the type of this code -/
def tyOk (P : Program) : Nat → Ty → TypeId → Bool
  | 0, _, _ => false
  | _ + 1, .int k, t => match P.underlying t with | some (.int k') => decide (k' = k) | _ => false
  | _ + 1, .byte, t => match P.underlying t with | some (.int k') => decide (k' = .u8) | _ => false
  | _ + 1, .bool, t => match P.underlying t with | some .bool => true | _ => false
  | _ + 1, .str, t => match P.underlying t with | some .string => true | _ => false
  | n + 1, .list a, t => match P.underlying t with
    | some (.slice e) => P.cellsOf e == a.sz && (decide (0 < a.sz) && tyOk P n a e)
    | _ => false
  | n + 1, .prod a b, t => match P.underlying t with
    | some (.struct fs) => P.cellsOf t == (Ty.prod a b).sz && fldsOk P (tyOk P n) (.prod a b) fs.toList 0
    | _ => false
  | _ + 1, _, _ => false
omit [LC] in
theorem tyOk_int {P : Program} {n : Nat} {k : IntKind} {t : TypeId} (h : tyOk P (n + 1) (.int k) t = true) : P.underlying t = some (.int k) := by
  unfold tyOk at h
  split at h
  · rename_i k' e; rw [e, of_decide_eq_true h]
  · cases h
omit [LC] in
theorem tyOk_byte {P : Program} {n : Nat} {t : TypeId} (h : tyOk P (n + 1) .byte t = true) : P.underlying t = some (.int .u8) := by
  unfold tyOk at h
  split at h
  · rename_i k' e; rw [e, of_decide_eq_true h]
  · cases h
omit [LC] in
theorem tyOk_bool {P : Program} {n : Nat} {t : TypeId} (h : tyOk P (n + 1) .bool t = true) : P.underlying t = some .bool := by
  unfold tyOk at h
  split at h
  · rename_i e; exact e
  · cases h
omit [LC] in
theorem tyOk_str {P : Program} {n : Nat} {t : TypeId} (h : tyOk P (n + 1) .str t = true) : P.underlying t = some .string := by
  unfold tyOk at h
  split at h
  · rename_i e; exact e
  · cases h
omit [LC] in
theorem Reps.app {G : Gh} : ∀ {xs ys : List AV} {us vs : List Value}, Reps xs G us → Reps ys G vs → Reps (xs ++ ys) G (us ++ vs)
  | [], _, [], _, _, h => h
  | [], _, _ :: _, _, h, _ => by simp [Reps] at h
  | _ :: _, _, [], _, h, _ => by simp [Reps] at h
  | _ :: _, _, _ :: _, _, h, k => ⟨h.1, Reps.app h.2 k⟩
omit [LC] in
/-- the pieces are of one cell -/
theorem enc_one {G : Gh} : ∀ (τ : Ty) (x : τ.den) (cs : List Value), Reps (τ.enc x) G cs → ∀ v ∈ cs, v.oneCell' = true
  | .int k, n, [v], h, u, hu => by
    rw [List.mem_singleton] at hu; subst hu
    have h1 : u = .int k n := h.1
    rw [h1]; rfl
  | .byte, c, [v], h, u, hu => by
    rw [List.mem_singleton] at hu; subst hu
    have h1 : u = .int .u8 (UInt8.toNat c) := h.1
    rw [h1]; rfl
  | .bool, c, [v], h, u, hu => by
    rw [List.mem_singleton] at hu; subst hu
    have h1 : u = .bool c := h.1
    rw [h1]; rfl
  | .str, s, [v], h, u, hu => by
    rw [List.mem_singleton] at hu; subst hu
    have h1 : u = .string ⟨List.toArray s⟩ := h.1
    rw [h1]; rfl
  | .list a, l, [v], h, u, hu => by
    rw [List.mem_singleton] at hu; subst hu
    obtain ⟨ad, c, rfl, _⟩ : SlAt a.sz (a.At G.imm) l u := h.1
    rfl
  | .unit, _, [], _, u, hu => by cases hu
  | .unit, _, _ :: _, h, _, _ => by simp [Ty.enc, Reps] at h
  | .prod a b, x, cs, h, u, hu => by
    have key : ∀ (xs ys : List AV) (cs : List Value), Reps (xs ++ ys) G cs → ∃ us vs, cs = us ++ vs ∧ Reps xs G us ∧ Reps ys G vs := by
      intro xs
      induction xs with
      | nil => intro ys cs h; exact ⟨[], cs, rfl, trivial, h⟩
      | cons x xs ih =>
        intro ys cs h
        cases cs with
        | nil => simp [Reps] at h
        | cons c cs =>
          obtain ⟨us, vs, e, h1, h2⟩ := ih ys cs h.2
          exact ⟨c :: us, vs, by rw [e]; rfl, ⟨h.1, h1⟩, h2⟩
    obtain ⟨us, vs, rfl, h1, h2⟩ := key _ _ _ h
    rcases List.mem_append.1 hu with q | q
    · exact enc_one a x.1 us h1 u q
    · exact enc_one b x.2 vs h2 u q
  | .tree a, x, cs, h, u, hu => by
    have key : ∀ (xs ys : List AV) (cs : List Value), Reps (xs ++ ys) G cs → ∃ us vs, cs = us ++ vs ∧ Reps xs G us ∧ Reps ys G vs := by
      intro xs
      induction xs with
      | nil => intro ys cs h; exact ⟨[], cs, rfl, trivial, h⟩
      | cons x xs ih =>
        intro ys cs h
        cases cs with
        | nil => simp [Reps] at h
        | cons c cs =>
          obtain ⟨us, vs, e, h1, h2⟩ := ih ys cs h.2
          exact ⟨c :: us, vs, by rw [e]; rfl, ⟨h.1, h1⟩, h2⟩
    obtain ⟨us, vs, rfl, h1, h2⟩ := key _ _ _ h
    rcases List.mem_append.1 hu with q | q
    · exact enc_one a _ us h1 u q
    · cases vs with
      | nil => cases q
      | cons v vs =>
        cases vs with
        | cons v' vs => simp [Reps] at h2
        | nil =>
          rw [List.mem_singleton] at q; subst q
          obtain ⟨ad, c, rfl, _⟩ : SlAt (Ty.tree a).sz ((Ty.tree a).At G.imm) (Tree.kids x) u := h2.1
          rfl
  | .int _, _, [], h, _, _ => by simp [Ty.enc, Reps] at h
  | .int _, _, _ :: _ :: _, h, _, _ => by simp [Ty.enc, Reps] at h
  | .byte, _, [], h, _, _ => by simp [Ty.enc, Reps] at h
  | .byte, _, _ :: _ :: _, h, _, _ => by simp [Ty.enc, Reps] at h
  | .bool, _, [], h, _, _ => by simp [Ty.enc, Reps] at h
  | .bool, _, _ :: _ :: _, h, _, _ => by simp [Ty.enc, Reps] at h
  | .str, _, [], h, _, _ => by simp [Ty.enc, Reps] at h
  | .str, _, _ :: _ :: _, h, _, _ => by simp [Ty.enc, Reps] at h
  | .list _, _, [], h, _, _ => by simp [Ty.enc, Reps] at h
  | .list _, _, _ :: _ :: _, h, _, _ => by simp [Ty.enc, Reps] at h
omit [LC] in
theorem Reps.cells {w : World} {b : Nat} : ∀ (xs : List AV) (cs : List Value) (o : Nat), Reps xs (Gw w) cs → (∀ v ∈ cs, v.oneCell' = true) → (∀ (j : Nat) (v : Value), cs[j]? = some v → w.cell? ⟨b, o + j, none⟩ = some v) → RepCells xs (Gw w) b o
  | [], [], _, _, _, _ => trivial
  | [], _ :: _, _, h, _, _ => by simp [Reps] at h
  | _ :: _, [], _, h, _, _ => by simp [Reps] at h
  | x :: xs, c :: cs, o, h, h1, h2 => by
    refine ⟨⟨c, Gw_imm (h2 0 c rfl) (h1 c List.mem_cons_self), h.1⟩, Reps.cells xs cs (o + 1) h.2 (fun v hv => h1 v (List.mem_cons_of_mem _ hv)) (fun j v hj => ?_)⟩
    have := h2 (j + 1) v hj
    rw [show o + 1 + j = o + (j + 1) by omega]; exact this
section
variable {H : Type} {enc : TypeId × Value → H} {P : Program} {w : World} {base : Nat} {spare : Nat → Bool} {held : Bool}
omit [LC] in
theorem flds_open (n m : Nat) (cs : List Value)
    (ih : ∀ (τ : Ty) (t : TypeId) (cs : List Value) (y : DataW H × List MemPlace), tyOk P n τ t = true → DataW.trod enc P w base spare held m t cs = some y → ∃ x : τ.den, τ.bd x ∧ Reps (τ.enc x) (Gw w) cs) :
    ∀ (fs : List Field) (τ : Ty) (o : Nat), fldsOk P (tyOk P n) τ fs o = true → (∀ f ∈ fs, ∃ y, DataW.trod enc P w base spare held m f.type ((cs.drop f.offset).take (P.cellsOf f.type)) = some y) →
      ∃ x : τ.den, τ.bd x ∧ Reps (τ.enc x) (Gw w) ((cs.drop o).take τ.sz)
  | [], τ, o, h, _ => by cases τ <;> simp [fldsOk] at h
  | [f], τ, o, h, hf => by
    have h' : (f.offset == o && (P.cellsOf f.type == τ.sz && tyOk P n τ f.type)) = true := by cases τ <;> exact h
    simp only [Bool.and_eq_true, beq_iff_eq] at h'
    obtain ⟨y, hy⟩ := hf f List.mem_cons_self
    rw [h'.1, h'.2.1] at hy
    exact ih τ f.type _ y h'.2.2 hy
  | f :: g :: fs, τ, o, h, hf => by
    cases τ with
    | prod a b =>
      have h' : (f.offset == o && (P.cellsOf f.type == a.sz && (tyOk P n a f.type && fldsOk P (tyOk P n) b (g :: fs) (o + a.sz)))) = true := h
      simp only [Bool.and_eq_true, beq_iff_eq] at h'
      obtain ⟨y, hy⟩ := hf f List.mem_cons_self
      rw [h'.1, h'.2.1] at hy
      obtain ⟨x1, b1, r1⟩ := ih a f.type _ y h'.2.2.1 hy
      obtain ⟨x2, b2, r2⟩ := flds_open n m cs ih (g :: fs) b (o + a.sz) h'.2.2.2 (fun f' hf' => hf f' (List.mem_cons_of_mem _ hf'))
      refine ⟨(x1, x2), ⟨b1, b2⟩, ?_⟩
      show Reps (a.enc x1 ++ b.enc x2) (Gw w) ((cs.drop o).take (a.sz + b.sz))
      rw [List.take_add, List.drop_drop]
      exact Reps.app r1 r2
    | _ => simp [fldsOk] at h
omit [LC] in
theorem open_cells : ∀ (m n : Nat) (τ : Ty) (t : TypeId) (cs : List Value) (y : DataW H × List MemPlace), tyOk P n τ t = true → DataW.trod enc P w base spare held m t cs = some y → ∃ x : τ.den, τ.bd x ∧ Reps (τ.enc x) (Gw w) cs := by
  intro m
  induction m with
  | zero => intro n τ t cs y _ h; simp [DataW.trod] at h
  | succ m ih =>
    intro n τ t cs y ht h
    cases n with
    | zero => simp [tyOk] at ht
    | succ n =>
      cases τ with
      | int k =>
        obtain ⟨n, rfl, _, hw⟩ := DataW.trod_int (tyOk_int ht) h
        exact ⟨n, hw, rfl, trivial⟩
      | byte =>
        obtain ⟨n, rfl, _, hw⟩ := DataW.trod_int (tyOk_byte ht) h
        have hb : 0 ≤ n ∧ n ≤ 255 := by simp only [Lit.wf, Bool.and_eq_true, decide_eq_true_eq] at hw; exact hw
        refine ⟨UInt8.ofNat n.toNat, trivial, ?_, trivial⟩
        show Value.int .u8 n = .int .u8 ((UInt8.ofNat n.toNat).toNat : Int)
        rw [UInt8.toNat_ofNat', Nat.mod_eq_of_lt (by omega)]
        congr 1; omega
      | bool =>
        obtain ⟨b, rfl, _⟩ := DataW.trod_bool (tyOk_bool ht) h
        exact ⟨b, trivial, rfl, trivial⟩
      | str =>
        obtain ⟨s, rfl, _, hs⟩ := DataW.trod_string (tyOk_str ht) h
        refine ⟨s.data.toList, ?_, ?_, trivial⟩
        · show s.data.toList.length ≤ maxLen
          rw [Array.length_toList]; exact hs
        · show Value.string s = .string ⟨s.data.toList.toArray⟩
          simp
      | unit => simp [tyOk] at ht
      | tree a => simp [tyOk] at ht
      | prod a b =>
        unfold tyOk at ht
        split at ht
        · rename_i fs hu
          simp only [Bool.and_eq_true, beq_iff_eq] at ht
          obtain ⟨xs, n', e1, _, hlen, hxl, hg⟩ := DataW.trod_struct hu h
          cases e1
          obtain ⟨x, hb, hr⟩ := flds_open n m cs (fun τ t cs y => ih n τ t cs y) fs.toList (.prod a b) 0 ht.2 (fun f hf => by
            obtain ⟨i, hi, e⟩ := List.getElem_of_mem hf
            have hi' : fs[i]? = some f := by rw [← Array.getElem?_toList, List.getElem?_eq_getElem hi, e]
            have hl : i < xs.length := by rw [hxl]; simpa using hi
            exact ⟨xs[i], by rw [hg i f hi', List.getElem?_eq_getElem hl]⟩)
          refine ⟨x, hb, ?_⟩
          rw [List.drop_zero, List.take_of_length_le (by rw [hlen, ht.1]; exact Nat.le_refl _)] at hr
          exact hr
        · cases ht
      | list a =>
        unfold tyOk at ht
        split at ht
        · rename_i e hu
          simp only [Bool.and_eq_true, beq_iff_eq, decide_eq_true_eq] at ht
          obtain ⟨hsz, hpos, hte⟩ := ht
          rcases DataW.trod_slice hu h with ⟨rfl, _⟩ | ⟨ad, len, cap, elems, rest, n', e1, rfl, _, _, hlc, hcm, hel, hget, _⟩
          · exact ⟨[], ⟨Nat.zero_le _, fun x hx => by cases hx⟩, ⟨none, 0, rfl, Nat.le_refl _, .inl rfl⟩, trivial⟩
          · cases e1
            have each : ∀ i, i < len → ∃ x : a.den, a.bd x ∧ ad.spot = none ∧ a.At (Gw w).imm x ad.block (ad.off + i * a.sz) := by
              intro i hi
              have h1 := hget i hi
              rw [List.getElem?_eq_getElem (by omega)] at h1
              obtain ⟨cs, hc, hc2⟩ := Option.bind_eq_some_iff.1 h1
              obtain ⟨x, hb, hr⟩ := ih n a e cs _ hte hc2
              unfold World.cells? at hc
              split at hc
              · have hl := mapM_some_length hc
                rw [List.length_range, hsz] at hl
                have hcell : ∀ (j : Nat) (v : Value), cs[j]? = some v → w.cell? ((ad.add (i * P.cellsOf e)).add j) = some v := by
                  intro j v hj
                  have hj' : j < cs.length := by
                    by_cases q : j < cs.length
                    · exact q
                    · rw [List.getElem?_eq_none (by omega)] at hj; cases hj
                  have := mapM_some_get hc j j (by rw [List.getElem?_range (by omega)])
                  rw [this, hj]
                have hspot : ad.spot = none := by
                  have g0 := hget 0 (by omega)
                  rw [List.getElem?_eq_getElem (by omega)] at g0
                  obtain ⟨cs0, hc0, _⟩ := Option.bind_eq_some_iff.1 g0
                  unfold World.cells? at hc0
                  split at hc0
                  · have hl0 := mapM_some_length hc0
                    rw [List.length_range, hsz] at hl0
                    have := mapM_some_get hc0 0 0 (by rw [List.getElem?_range (by omega)])
                    rw [List.getElem?_eq_getElem (by omega)] at this
                    simp only [Nat.zero_mul, Addr.add, if_true] at this
                    unfold World.cell? at this
                    cases hs : ad.spot with
                    | none => rfl
                    | some q =>
                      rw [hs] at this
                      split at this
                      · simp at this
                      · cases this
                  · cases hc0
                refine ⟨x, hb, hspot, ?_⟩
                refine At_iff.1 (Reps.cells _ cs _ hr (enc_one a x cs hr) (fun j v hj => ?_))
                have := hcell j v hj
                rw [hsz] at this
                have ea : (ad.add (i * a.sz)).add j = ⟨ad.block, ad.off + i * a.sz + j, none⟩ := by
                  obtain ⟨b, o, s⟩ := ad
                  simp only [] at hspot
                  subst hspot
                  unfold Addr.add
                  by_cases q1 : i * a.sz = 0
                  · by_cases q2 : j = 0
                    · simp [q1, q2]
                    · simp [q1, q2]
                  · by_cases q2 : j = 0
                    · simp [q1, q2]
                    · simp [q1, q2]
                rw [ea] at this
                exact this
              · cases hc
            have lst : ∀ k, k ≤ len → ∃ l : List a.den, l.length = k ∧ (∀ x ∈ l, a.bd x) ∧ ∀ (j : Nat) (x : a.den), l[j]? = some x → a.At (Gw w).imm x ad.block (ad.off + j * a.sz) := by
              intro k
              induction k with
              | zero => intro _; exact ⟨[], rfl, fun x hx => (by cases hx), fun j x hj => by simp at hj⟩
              | succ k ihk =>
                intro hk
                obtain ⟨l, l1, l2, l3⟩ := ihk (by omega)
                obtain ⟨x, x1, _, x2⟩ := each k (by omega)
                refine ⟨l ++ [x], by simp [l1], fun y hy => ?_, fun j y hj => ?_⟩
                · rcases List.mem_append.1 hy with q | q
                  · exact l2 y q
                  · rw [List.mem_singleton] at q; subst q; exact x1
                · by_cases q : j < l.length
                  · rw [List.getElem?_append_left q] at hj; exact l3 j y hj
                  · rw [List.getElem?_append_right (by omega)] at hj
                    have : j = k := by
                      by_cases q2 : j - l.length = 0
                      · omega
                      · rw [List.getElem?_eq_none (by simp; omega)] at hj; cases hj
                    subst this
                    rw [l1, Nat.sub_self] at hj
                    cases hj
                    exact x2
            obtain ⟨l, l1, l2, l3⟩ := lst len (Nat.le_refl _)
            refine ⟨l, ⟨by show l.length ≤ maxLen; omega, l2⟩, ⟨some ad, cap, by rw [← l1], by omega, ?_⟩, trivial⟩
            by_cases q : l = []
            · exact .inl q
            · obtain ⟨_, _, hs, _⟩ := each 0 (by have := List.length_pos_iff.2 q; omega)
              refine .inr ⟨ad.block, ad.off, ?_, l3⟩
              cases ad; simp only [] at hs; subst hs; rfl
        · cases ht
omit [LC] in
theorem open_arg {r : Reach} {bb n : Nat} {τ : Ty} {t : TypeId} {v : Value} {d : DataW H} {ps : List MemPlace} (ht : tyOk P n τ t = true) (hv : Value.okWide P w r bb t v) (h : DataW.Trod enc P w base spare held t v d ps) :
    ∃ x : τ.den, τ.bd x ∧ Rep (τ.av x) (Gw w) v := by
  obtain ⟨m, hm⟩ := h
  obtain ⟨x, hb, hr⟩ := open_cells m n τ t _ _ ht hm
  refine ⟨x, hb, ?_⟩
  cases n with
  | zero => simp [tyOk] at ht
  | succ n =>
    cases τ with
    | int k => obtain ⟨_, rfl⟩ := okWide_int (tyOk_int ht) hv; exact hr.1
    | byte => obtain ⟨_, rfl⟩ := okWide_int (tyOk_byte ht) hv; exact hr.1
    | bool => obtain ⟨_, rfl⟩ := okWide_bool (tyOk_bool ht) hv; exact hr.1
    | str => obtain ⟨_, rfl⟩ := okWide_string (tyOk_str ht) hv; exact hr.1
    | unit => simp [tyOk] at ht
    | tree a => simp [tyOk] at ht
    | prod a b =>
      unfold tyOk at ht
      split at ht
      · rename_i fs hu
        obtain ⟨cs, rfl, _⟩ := okWide_struct hu hv
        exact ⟨cs, rfl, hr⟩
      · cases ht
    | list a =>
      unfold tyOk at ht
      split at ht
      · rename_i e hu
        obtain ⟨_, _, _, rfl⟩ := okWide_slice hu hv
        exact hr.1
      · cases ht
end
end Go.Sym
