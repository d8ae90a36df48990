/- The plain functions of the zones package and of its reference: the reference's search over turns; the checks of a zone. -/
import Derived.Test.YtlfafgmhjplbeaaSymZPe
namespace Go.Sym
open Cal Zn

theorem tinsT_bd {u : T_api_Turn} (hu : TuOk u) {y ah : Int} (hy1 : 1 ≤ y) (hy2 : y ≤ 4000) (h3 : -10000 ≤ ah) (h4 : ah ≤ 10000) : -100000000000 ≤ tinsT u y ah ∧ tinsT u y ah ≤ 100000000000 := by
  obtain ⟨u1, u2, u3, u4, u5, u6, u7, u8⟩ := id hu
  have htd := tday_bd y u.fMonth u.fWeek u.fWeekday u3 u4
  have hb := vld_day y u.fMonth (tday y u.fMonth u.fWeek u.fWeekday) ⟨hy1, hy2, u1, u2, htd.1, htd.2⟩
  unfold tinsT tins; omega
def Low (best : Int) (has : Bool) : Prop := (has = false → best = -1152921504606846976) ∧ (has = true → -1000000000000 ≤ best)
theorem near_step (r0 : Int → Int → Int → Int → Int → T_api_Zone → Option Int) (fu : Nat) (hf : 5000 ≤ fu) (z : T_api_Zone) (h : ZT z) (t Y best k : Int) (o has : Bool) (S S' : Int → Prop)
    (hk1 : 1 ≤ k) (hk2 : k ≤ 4000) (hY : Y - 1 ≤ k) (hY2 : 1 ≤ Y) (hY3 : Y ≤ 4000) (hI : Zn.Inv (Bz z) (Ez z) t S best o has) (hL : Low best has) (hS : ∀ y, S' y ↔ S y ∨ y = k) :
    ∃ best' o' has', Zn.Inv (Bz z) (Ez z) t S' best' o' has' ∧ Low best' has' ∧ F_R2_OffsetNear_b0 r0 fu t Y (sel z o) best k z = r0 t Y (sel z o') best' (k - 1) z := by
  have s1 := h.s1; have s2 := h.s2; have m1 := h.m1; have m2 := h.m2
  rw [F_R2_OffsetNear_b0, w64_eq (x := Y - 1) (by omega) (by omega), bif_t (by simp; exact hY)]
  unfold F_R2_OffsetNear_p1
  rw [turnins_eq fu hf _ h.b k _ hk1 hk2 (by omega) (by omega), turnins_eq fu hf _ h.e k _ hk1 hk2 (by omega) (by omega)]
  simp only [Option.bind_some]
  rw [w64_eq (x := k - 1) (by omega) (by omega)]
  have bB := tinsT_bd h.b hk1 hk2 (ah := z.fStandard) (by omega) (by omega)
  have bE := tinsT_bd h.e hk1 hk2 (ah := z.fSummer) (by omega) (by omega)
  have nx := fun b1 b2 o1 h1 o2 h2 => Zn.Inv.next (best1 := b1) (best2 := b2) (out1 := o1) (has1 := h1) (out2 := o2) (has2 := h2) hI hS
  have eB : tinsT z.fBegin k z.fStandard = Bz z k := rfl
  have eE : tinsT z.fEnd k z.fSummer = Ez z k := rfl
  rw [eB] at bB ⊢
  rw [eE] at bE ⊢
  generalize Bz z k = B at *
  generalize Ez z k = E at *
  have low : ∀ x, -100000000000 ≤ x → ((has = false ∨ best < x) ↔ best < x) ∧ ((has = false ∨ best ≤ x) ↔ best ≤ x) := by
    intro x hx
    cases has with
    | false => have := hL.1 rfl; constructor <;> simp <;> omega
    | true => constructor <;> simp
  have fin : ∀ b1 o1 h1, Low b1 h1 → ((B ≤ t ∧ (has = false ∨ best < B) ∧ b1 = B ∧ o1 = true ∧ h1 = true) ∨ (¬ (B ≤ t ∧ (has = false ∨ best < B)) ∧ b1 = best ∧ o1 = o ∧ h1 = has)) →
      ∃ best' o' has', Zn.Inv (Bz z) (Ez z) t S' best' o' has' ∧ Low best' has' ∧
        (if E ≤ t ∧ b1 ≤ E then r0 t Y z.fStandard E (k - 1) z else r0 t Y (sel z o1) b1 (k - 1) z) = r0 t Y (sel z o') best' (k - 1) z := by
    intro b1 o1 h1 hl1 hh
    have hb : (h1 = false ∨ b1 ≤ E) ↔ b1 ≤ E := by
      cases h1 with
      | false => have := hl1.1 rfl; simp; omega
      | true => simp
    by_cases c : E ≤ t ∧ b1 ≤ E
    · exact ⟨E, false, true, nx b1 E o1 h1 false true hh (.inl ⟨c.1, hb.2 c.2, rfl, rfl, rfl⟩), ⟨fun q => (by cases q), fun _ => by omega⟩, by rw [if_pos c]; rfl⟩
    · exact ⟨b1, o1, h1, nx b1 b1 o1 h1 o1 h1 hh (.inr ⟨fun q => c ⟨q.1, hb.1 q.2⟩, rfl, rfl, rfl⟩), hl1, by rw [if_neg c]⟩
  clear nx
  by_cases c1 : B ≤ t ∧ best < B
  · obtain ⟨b', o', h', hi, hl, he⟩ := fin B true true ⟨fun q => (by cases q), fun _ => by omega⟩ (.inl ⟨c1.1, (low B bB.1).1.2 c1.2, rfl, rfl, rfl⟩)
    refine ⟨b', o', h', hi, hl, ?_⟩
    rw [← he, bif_t (by simp; exact c1.1), bif_t (by simp; exact c1.2)]
    by_cases c3 : E ≤ t
    · rw [bif_t (by simp; exact c3)]
      by_cases c4 : B ≤ E
      · rw [bif_t (by simp; exact c4), if_pos ⟨c3, c4⟩]
      · rw [bif_f (by simp; omega), if_neg (by simp; omega)]; rfl
    · rw [bif_f (by simp; omega), if_neg (by omega)]; rfl
  · obtain ⟨b', o', h', hi, hl, he⟩ := fin best o has hL (.inr ⟨fun q => c1 ⟨q.1, (low B bB.1).1.1 q.2⟩, rfl, rfl, rfl⟩)
    refine ⟨b', o', h', hi, hl, ?_⟩
    rw [← he]
    by_cases c2 : B ≤ t
    · rw [bif_t (by simp; exact c2), bif_f (by simp; omega)]
      by_cases c3 : E ≤ t
      · rw [bif_t (by simp; exact c3)]
        by_cases c4 : best ≤ E
        · rw [bif_t (by simp; exact c4), if_pos ⟨c3, c4⟩]
        · rw [bif_f (by simp; omega), if_neg (by simp; omega)]
      · rw [bif_f (by simp; omega), if_neg (by omega)]
    · rw [bif_f (by simp; omega)]
      by_cases c3 : E ≤ t
      · rw [bif_t (by simp; exact c3)]
        by_cases c4 : best ≤ E
        · rw [bif_t (by simp; exact c4), if_pos ⟨c3, c4⟩]
        · rw [bif_f (by simp; omega), if_neg (by simp; omega)]
      · rw [bif_f (by simp; omega), if_neg (by omega)]
theorem near_eq (fu : Nat) (hf : 5000 ≤ fu) (z : T_api_Zone) (h : ZT z) (t Y : Int) (h1 : 2 ≤ Y) (h2 : Y ≤ 3999) : F_R2_OffsetNear fu z t Y = some (offW z (Y - 1) (Y + 1) t) := by
  unfold F_R2_OffsetNear
  rw [bif_f (by have := h.b.1; simp; omega), w64_eq (by omega) (by omega)]
  obtain ⟨n, rfl⟩ : ∃ n, fu = n + 1 + 1 + 1 + 1 := ⟨fu - 4, by omega⟩
  generalize hfu : n + 1 + 1 + 1 + 1 = fu at hf
  have q : F_R2_OffsetNear_p0 fu (n + 1 + 1 + 1 + 1) t Y z.fStandard (-1152921504606846976) (Y + 1) z = some (offW z (Y - 1) (Y + 1) t) := by
    obtain ⟨b1, o1, a1, i1, l1, e1⟩ := near_step (F_R2_OffsetNear_p0 fu (n + 1 + 1 + 1)) fu hf z h t Y (-1152921504606846976) (Y + 1) false false _ (fun y => y = Y + 1) (by omega) (by omega) (by omega) (by omega) (by omega) (Zn.Inv.start t _) ⟨fun _ => rfl, fun q => (by cases q)⟩ (fun y => by simp)
    rw [F_R2_OffsetNear_p0]
    refine Eq.trans e1 ?_
    obtain ⟨b2, o2, a2, i2, l2, e2⟩ := near_step (F_R2_OffsetNear_p0 fu (n + 1 + 1)) fu hf z h t Y b1 (Y + 1 - 1) o1 a1 _ (fun y => Y ≤ y ∧ y ≤ Y + 1) (by omega) (by omega) (by omega) (by omega) (by omega) i1 l1 (fun y => by omega)
    rw [F_R2_OffsetNear_p0]
    refine Eq.trans e2 ?_
    obtain ⟨b3, o3, a3, i3, l3, e3⟩ := near_step (F_R2_OffsetNear_p0 fu (n + 1)) fu hf z h t Y b2 (Y + 1 - 1 - 1) o2 a2 _ (fun y => Y - 1 ≤ y ∧ y ≤ Y + 1) (by omega) (by omega) (by omega) (by omega) (by omega) i2 l2 (fun y => by omega)
    rw [F_R2_OffsetNear_p0]
    refine Eq.trans e3 ?_
    rw [F_R2_OffsetNear_p0, F_R2_OffsetNear_b0, w64_eq (x := Y - 1) (by omega) (by omega), bif_f (by simp; omega), sel_offW i3]
  rw [hfu] at q
  exact q

/-- the letters of a name -/
def chB (c : UInt8) : Bool := (decide (97 ≤ c.toNat) && decide (c.toNat ≤ 122)) || (decide (65 ≤ c.toNat) && decide (c.toNat ≤ 90)) || (decide (48 ≤ c.toNat) && decide (c.toNat ≤ 57)) || c.toNat == 45 || c.toNat == 95 || c.toNat == 46
theorem u8_all {p : UInt8 → Prop} (h : ∀ n : _root_.Fin 256, p (UInt8.ofFin n)) (c : UInt8) : p c := by
  have := h c.toFin
  rwa [UInt8.ofFin_toFin] at this
theorem name1_eq (c : UInt8) : F_basic_Name_1 c = some (chB c) := by
  revert c
  exact u8_all (by decide +kernel)
def nameOk (s : List UInt8) : Bool := decide (1 ≤ s.length) && decide (s.length ≤ 60) && s.all chB
theorem all_loop (fu : Nat) (s : List UInt8) (hs : (s.length : Int) < 9223372036854775808) : ∀ (n : Nat) (k : Nat), k ≤ s.length → s.length - k < n →
    F_basic_All_67_p0 fu n s s.length k = some ((s.drop k).all chB) := by
  intro n
  induction n with
  | zero => intro k h1 h2; omega
  | succ n ih =>
    intro k h1 h2
    rw [F_basic_All_67_p0, F_basic_All_67_b0]
    by_cases c : k < s.length
    · have hi : idx s (k : Int) = some s[k] := by unfold idx; rw [if_pos (by omega)]; simp [c]
      rw [bif_t (by simp; exact c), hi, Option.bind_some, name1_eq, Option.bind_some, List.drop_eq_getElem_cons c, List.all_cons]
      cases hc : chB s[k]
      · rfl
      · rw [bif_f (by rfl), w64_eq (by omega) (by omega)]
        have := ih (k + 1) (by omega) (by omega)
        rw [Int.natCast_add] at this
        exact this
    · rw [bif_f (by simp; omega), List.drop_eq_nil_of_le (by omega)]; rfl
theorem name_eq (fu : Nat) (s : List UInt8) (hs : (s.length : Int) < 9223372036854775808) (hf : s.length < fu) : F_basic_Name fu s = some (nameOk s) := by
  unfold F_basic_Name nameOk
  cases s with
  | nil => rfl
  | cons a l =>
    rw [bif_t (by rfl)]
    by_cases c : ((a :: l).length : Int) ≤ 60
    · rw [bif_t (by simp only [decide_eq_true_iff]; exact c)]
      unfold F_basic_All_67
      have := all_loop fu (a :: l) hs fu 0 (by omega) (by omega)
      rw [show ((0 : Nat) : Int) = 0 from rfl] at this
      rw [this, Option.bind_some]
      have c' : (a :: l).length ≤ 60 := by omega
      simp only [List.drop_zero]
      rw [show decide (1 ≤ (a :: l).length) = true by simp, decide_eq_true c']; rfl
    · rw [bif_f (by simp only [decide_eq_false_iff_not]; exact c)]
      have c' : ¬ (a :: l).length ≤ 60 := by omega
      rw [decide_eq_false c']; simp
theorem rname_loop (fu : Nat) (s : List UInt8) (hs : (s.length : Int) < 9223372036854775808) : ∀ (n : Nat) (k : Nat), k ≤ s.length → s.length - k < n →
    F_R2_ZoneName_p0 fu n s k = some ((s.drop k).all chB && (decide (1 ≤ s.length) && decide (s.length ≤ 60))) := by
  intro n
  induction n with
  | zero => intro k h1 h2; omega
  | succ n ih =>
    intro k h1 h2
    rw [F_R2_ZoneName_p0, F_R2_ZoneName_b0]
    by_cases c : k < s.length
    · have hi : idx s (k : Int) = some s[k] := by unfold idx; rw [if_pos (by omega)]; simp [c]
      have := ih (k + 1) (by omega) (by omega)
      rw [Int.natCast_add] at this
      rw [bif_t (by simp; exact c), hi]
      simp only [Option.bind_some, r1_in_eq]
      rw [w64_eq (by omega) (by omega), List.drop_eq_getElem_cons c, List.all_cons]
      have e1 : (1 : Nat) = (1 : Int) := rfl
      rw [e1] at this
      rw [this]
      generalize ((List.drop (k + 1) s).all chB) = R
      generalize (decide (1 ≤ s.length) && decide (s.length ≤ 60)) = Q
      generalize s[k] = x
      have : ∀ (x : UInt8), (bif !decide ((97 : Int) ≤ x.toNat ∧ (x.toNat : Int) ≤ 122) then bif !decide ((65 : Int) ≤ x.toNat ∧ (x.toNat : Int) ≤ 90) then bif !decide ((48 : Int) ≤ x.toNat ∧ (x.toNat : Int) ≤ 57) then
          bif x != 45 then bif x != 95 then bif x != 46 then false else true else true else true else true else true else true) = chB x := u8_all (by decide +kernel)
      rw [← this x]
      cases decide ((97 : Int) ≤ x.toNat ∧ (x.toNat : Int) ≤ 122) <;> cases decide ((65 : Int) ≤ x.toNat ∧ (x.toNat : Int) ≤ 90) <;> cases decide ((48 : Int) ≤ x.toNat ∧ (x.toNat : Int) ≤ 57) <;> cases (x != 45) <;> cases (x != 95) <;> cases (x != 46) <;> simp
    · rw [bif_f (by simp; omega), List.drop_eq_nil_of_le (by omega), r1_in_eq, Option.bind_some]
      congr 1
      rw [Bool.eq_iff_iff]; simp; omega
theorem rname_eq (fu : Nat) (s : List UInt8) (hs : (s.length : Int) < 9223372036854775808) (hf : s.length < fu) : F_R2_ZoneName fu s = some (nameOk s) := by
  unfold F_R2_ZoneName nameOk
  have := rname_loop fu s hs fu 0 (by omega) (by omega)
  rw [show ((0 : Nat) : Int) = 0 from rfl] at this
  rw [this, List.drop_zero, Bool.and_comm]
end Go.Sym
