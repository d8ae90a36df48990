/- The plain functions of the zones package and of its reference: the search over turns. -/
import Derived.Test.YtlfafgmhjplbeaaSymZPd
namespace Go.Sym
open Cal Zn

def fixedZ (z : T_api_Zone) : Prop := z.fBegin.fMonth = 0 ∧ z.fBegin.fWeek = 0 ∧ z.fBegin.fWeekday = 0 ∧ z.fBegin.fMinute = 0
instance (z : T_api_Zone) : Decidable (fixedZ z) := by unfold fixedZ; infer_instance
@[simp] theorem fixed_eq (z : T_api_Zone) : F_zones_fixed z = some (decide (fixedZ z)) := by
  unfold F_zones_fixed
  congr 1
  rw [Bool.eq_iff_iff, decide_eq_true_iff]; simp [fixedZ]
/-- a zone with turns -/
structure ZT (z : T_api_Zone) : Prop where
  s1 : -900 ≤ z.fStandard
  s2 : z.fStandard ≤ 900
  m1 : -900 ≤ z.fSummer
  m2 : z.fSummer ≤ 900
  d1 : z.fStandard + 1 ≤ z.fSummer
  d2 : z.fSummer ≤ z.fStandard + 180
  b : TuOk z.fBegin
  e : TuOk z.fEnd
  ne : z.fBegin.fMonth ≠ z.fEnd.fMonth
def Bz (z : T_api_Zone) (y : Int) : Int := tinsT z.fBegin y z.fStandard
def Ez (z : T_api_Zone) (y : Int) : Int := tinsT z.fEnd y z.fSummer
theorem ZT.turns {z : T_api_Zone} (h : ZT z) : Turns (Bz z) (Ez z) z.fStandard z.fSummer := turns_of h.d1 h.d2 h.b h.e h.ne
def sel (z : T_api_Zone) (o : Bool) : Int := bif o then z.fSummer else z.fStandard

theorem off_step (r0 : Int → Int → Int → Int → Bool → Int → T_api_Zone → Option Int) (fu : Nat) (hf : 20 ≤ fu) (z : T_api_Zone) (h : ZT z) (t Y best k : Int) (o has : Bool) (S S' : Int → Prop)
    (hk1 : 1 ≤ k) (hk2 : k ≤ 4000) (hY : k ≤ Y + 1) (hY2 : Y ≤ 4000) (hI : Zn.Inv (Bz z) (Ez z) t S best o has) (hS : ∀ y, S' y ↔ S y ∨ y = k) :
    ∃ best' o' has', Zn.Inv (Bz z) (Ez z) t S' best' o' has' ∧ F_zones_offset_b0 r0 fu t Y best (sel z o) has k z = r0 t Y best' (sel z o') has' (k + 1) z := by
  have s1 := h.s1; have s2 := h.s2; have m1 := h.m1; have m2 := h.m2
  rw [F_zones_offset_b0, w64_eq (x := Y + 1) (by omega) (by omega), bif_t (by simp; exact hY)]
  unfold F_zones_offset_p1
  rw [zinstant_eq fu hf _ h.b k _ hk1 hk2 (by omega) (by omega), zinstant_eq fu hf _ h.e k _ hk1 hk2 (by omega) (by omega)]
  simp only [Option.bind_some]
  rw [w64_eq (x := k + 1) (by omega) (by omega)]
  have nx := fun b1 b2 o1 h1 o2 h2 => Zn.Inv.next (best1 := b1) (best2 := b2) (out1 := o1) (has1 := h1) (out2 := o2) (has2 := h2) hI hS
  have eB : tinsT z.fBegin k z.fStandard = Bz z k := rfl
  have eE : tinsT z.fEnd k z.fSummer = Ez z k := rfl
  rw [eB, eE]
  generalize Bz z k = B at *
  generalize Ez z k = E at *
  have sT : z.fSummer = sel z true := rfl
  have sF : z.fStandard = sel z false := rfl
  have fin : ∀ b1 o1 h1, ((B ≤ t ∧ (has = false ∨ best < B) ∧ b1 = B ∧ o1 = true ∧ h1 = true) ∨ (¬ (B ≤ t ∧ (has = false ∨ best < B)) ∧ b1 = best ∧ o1 = o ∧ h1 = has)) →
      ∃ best' o' has', Zn.Inv (Bz z) (Ez z) t S' best' o' has' ∧
        (if E ≤ t ∧ (h1 = false ∨ b1 ≤ E) then r0 t Y E z.fStandard true (k + 1) z else r0 t Y b1 (sel z o1) h1 (k + 1) z) = r0 t Y best' (sel z o') has' (k + 1) z := by
    intro b1 o1 h1 hh
    by_cases c : E ≤ t ∧ (h1 = false ∨ b1 ≤ E)
    · exact ⟨E, false, true, nx b1 E o1 h1 false true hh (.inl ⟨c.1, c.2, rfl, rfl, rfl⟩), by rw [if_pos c]; rfl⟩
    · exact ⟨b1, o1, h1, nx b1 b1 o1 h1 o1 h1 hh (.inr ⟨c, rfl, rfl, rfl⟩), by rw [if_neg c]⟩
  clear nx
  by_cases c1 : B ≤ t
  · by_cases c2 : has = false ∨ best < B
    · obtain ⟨b', o', h', hi, he⟩ := fin B true true (.inl ⟨c1, c2, rfl, rfl, rfl⟩)
      refine ⟨b', o', h', hi, ?_⟩
      rw [← he, bif_t (by simp; exact c1)]
      cases has with
      | false => 
        rw [bif_t (by rfl)]
        by_cases c3 : E ≤ t
        · rw [bif_t (by simp; exact c3)]
          by_cases c4 : B ≤ E
          · rw [bif_t (by simp; exact c4), if_pos ⟨c3, .inr c4⟩]
          · rw [bif_f (by simp; omega), if_neg (by simp; omega)]; rfl
        · rw [bif_f (by simp; omega), if_neg (by omega)]; rfl
      | true =>
        simp at c2
        rw [bif_f (by rfl), bif_t (by simp; exact c2)]
        by_cases c3 : E ≤ t
        · rw [bif_t (by simp; exact c3)]
          by_cases c4 : B ≤ E
          · rw [bif_t (by simp; exact c4), if_pos ⟨c3, .inr c4⟩]
          · rw [bif_f (by simp; omega), if_neg (by simp; omega)]; rfl
        · rw [bif_f (by simp; omega), if_neg (by omega)]; rfl
    · obtain ⟨b', o', h', hi, he⟩ := fin best o has (.inr ⟨fun q => c2 q.2, rfl, rfl, rfl⟩)
      refine ⟨b', o', h', hi, ?_⟩
      rw [← he, bif_t (by simp; exact c1)]
      cases has with
      | false => simp at c2
      | true =>
        simp at c2
        rw [bif_f (by rfl), bif_f (by simp; exact c2)]
        by_cases c3 : E ≤ t
        · rw [bif_t (by simp; exact c3)]
          by_cases c4 : best ≤ E
          · rw [bif_t (by simp; exact c4), if_pos ⟨c3, .inr c4⟩]
          · rw [bif_f (by simp; omega), if_neg (by simp; omega)]
        · rw [bif_f (by simp; omega), if_neg (by omega)]
  · obtain ⟨b', o', h', hi, he⟩ := fin best o has (.inr ⟨fun q => c1 q.1, rfl, rfl, rfl⟩)
    refine ⟨b', o', h', hi, ?_⟩
    rw [← he, bif_f (by simp; omega)]
    by_cases c3 : E ≤ t
    · rw [bif_t (by simp; exact c3)]
      cases has with
      | false => rw [bif_t (by rfl), if_pos ⟨c3, .inl rfl⟩]
      | true =>
        rw [bif_f (by rfl)]
        by_cases c4 : best ≤ E
        · rw [bif_t (by simp; exact c4), if_pos ⟨c3, .inr c4⟩]
        · rw [bif_f (by simp; omega), if_neg (by simp; omega)]
    · rw [bif_f (by simp; omega), if_neg (by omega)]
open Classical in
/-- the offset by the turns of three years -/
noncomputable def offW (z : T_api_Zone) (lo hi t : Int) : Int := if SumW (Bz z) (Ez z) lo hi t then z.fSummer else z.fStandard
open Classical in
/-- the offset by all turns -/
noncomputable def offA (z : T_api_Zone) (t : Int) : Int := if SumA (Bz z) (Ez z) t then z.fSummer else z.fStandard
theorem sel_offW {z : T_api_Zone} {lo hi t best : Int} {o has : Bool} (h : Zn.Inv (Bz z) (Ez z) t (fun y => lo ≤ y ∧ y ≤ hi) best o has) : sel z o = offW z lo hi t := by
  have := h.fin
  unfold sel offW
  cases o with
  | true => rw [if_pos (this.1 rfl)]; rfl
  | false => rw [if_neg (fun q => by have := this.2 q; cases this)]; rfl
theorem zoffset_eq (fu : Nat) (hf : 20 ≤ fu) (z : T_api_Zone) (h : ZT z) (t Y : Int) (h1 : 2 ≤ Y) (h2 : Y ≤ 3999) : F_zones_offset fu z t Y = some (offW z (Y - 1) (Y + 1) t) := by
  unfold F_zones_offset
  have hnf : ¬ fixedZ z := fun q => by have := h.b.1; have := q.1; omega
  rw [fixed_eq, Option.bind_some, bif_f (by simp [hnf]), w64_eq (by omega) (by omega)]
  obtain ⟨n, rfl⟩ : ∃ n, fu = n + 1 + 1 + 1 + 1 := ⟨fu - 4, by omega⟩
  generalize hfu : n + 1 + 1 + 1 + 1 = fu at hf
  have q : F_zones_offset_p0 fu (n + 1 + 1 + 1 + 1) t Y 0 z.fStandard false (Y - 1) z = some (offW z (Y - 1) (Y + 1) t) := by
    obtain ⟨b1, o1, a1, i1, e1⟩ := off_step (F_zones_offset_p0 fu (n + 1 + 1 + 1)) fu hf z h t Y 0 (Y - 1) false false _ (fun y => y = Y - 1) (by omega) (by omega) (by omega) (by omega) (Zn.Inv.start t 0) (fun y => by simp)
    rw [F_zones_offset_p0]
    refine Eq.trans e1 ?_
    obtain ⟨b2, o2, a2, i2, e2⟩ := off_step (F_zones_offset_p0 fu (n + 1 + 1)) fu hf z h t Y b1 (Y - 1 + 1) o1 a1 _ (fun y => Y - 1 ≤ y ∧ y ≤ Y) (by omega) (by omega) (by omega) (by omega) i1 (fun y => by omega)
    rw [F_zones_offset_p0]
    refine Eq.trans e2 ?_
    obtain ⟨b3, o3, a3, i3, e3⟩ := off_step (F_zones_offset_p0 fu (n + 1)) fu hf z h t Y b2 (Y - 1 + 1 + 1) o2 a2 _ (fun y => Y - 1 ≤ y ∧ y ≤ Y + 1) (by omega) (by omega) (by omega) (by omega) i2 (fun y => by omega)
    rw [F_zones_offset_p0]
    refine Eq.trans e3 ?_
    rw [F_zones_offset_p0, F_zones_offset_b0, w64_eq (x := Y + 1) (by omega) (by omega), bif_f (by simp; omega), sel_offW i3]
  rw [hfu] at q
  exact q
end Go.Sym
