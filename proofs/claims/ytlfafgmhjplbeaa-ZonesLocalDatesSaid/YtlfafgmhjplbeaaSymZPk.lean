/- ZonesFixed and ZonesLocalDates, plain. -/
import Derived.Test.YtlfafgmhjplbeaaSymZPj
namespace Go.Sym
open Cal Zn

theorem offR_cases (z : T_api_Zone) (t : Int) : ((OffR z t).2.fCode ≠ 0 ∧ (OffR z t).1 = 0) ∨
    ((OffR z t).2 = ⟨0, 0⟩ ∧ (zfault z).fCode = 0 ∧ -68719476736 ≤ t ∧ t ≤ 68719476736 ∧ inDays z t ∧ 2 ≤ cyear z t ∧ cyear z t ≤ 3999 ∧ (OffR z t).1 = offF z (cyear z t) t) := by
  unfold OffR OffV
  by_cases c : (zfault z).fCode ≠ 0
  · rw [if_pos c]; exact .inl ⟨c, rfl⟩
  rw [if_neg c]
  by_cases c1 : ¬ (-68719476736 ≤ t ∧ t ≤ 68719476736)
  · rw [if_pos c1]; exact .inl ⟨by decide, rfl⟩
  rw [if_neg c1]
  by_cases c2 : ¬ inDays z t
  · rw [if_pos c2]; exact .inl ⟨by decide, rfl⟩
  rw [if_neg c2]
  by_cases c3 : ¬ (2 ≤ cyear z t ∧ cyear z t ≤ 3999)
  · rw [if_pos c3]; exact .inl ⟨by decide, rfl⟩
  rw [if_neg c3]
  exact .inr ⟨rfl, Classical.not_not.1 c, by omega, by omega, Classical.not_not.1 c2, by omega, by omega, rfl⟩
theorem insR_cases (z : T_api_Zone) (d : T_api_Date) : ((InsR z d).2.fCode ≠ 0 ∧ (InsR z d).1 = []) ∨
    ((InsR z d).2 = ⟨0, 0⟩ ∧ (zfault z).fCode = 0 ∧ DOk d ∧ d.fZone = 0 ∧ 3 ≤ d.fYear ∧ d.fYear ≤ 3998 ∧ (InsR z d).1 = (if fixedZ z then [] else pickR z d.fYear (insD d) z.fSummer) ++ pickR z d.fYear (insD d) z.fStandard) := by
  unfold InsR
  by_cases c : (zfault z).fCode ≠ 0
  · rw [if_pos c]; exact .inl ⟨c, rfl⟩
  rw [if_neg c]
  by_cases c1 : ¬ DOk d
  · rw [if_pos c1]; exact .inl ⟨by decide, rfl⟩
  rw [if_neg c1]
  by_cases c2 : d.fZone ≠ 0
  · rw [if_pos c2]; exact .inl ⟨by decide, rfl⟩
  rw [if_neg c2]
  by_cases c3 : ¬ (3 ≤ d.fYear ∧ d.fYear ≤ 3998)
  · rw [if_pos c3]; exact .inl ⟨by decide, rfl⟩
  rw [if_neg c3]
  exact .inr ⟨rfl, Classical.not_not.1 c, Classical.not_not.1 c1, Classical.not_not.1 c2, by omega, by omega, picks_sorted (Classical.not_not.1 c) (Classical.not_not.1 c1) (Classical.not_not.1 c2) (by omega) (by omega)⟩
def fixZ (nm : List UInt8) (std : Int) : T_api_Zone := ⟨nm, std, 0, ⟨0, 0, 0, 0⟩, ⟨0, 0, 0, 0⟩⟩
theorem fixZ_fixed (nm : List UInt8) (std : Int) : fixedZ (fixZ nm std) := ⟨rfl, rfl, rfl, rfl⟩
theorem law_fixed (fu : Nat) (hf : 5000 ≤ fu) (nm : List UInt8) (std t : Int) (d : T_api_Date) (hs : (nm.length : Int) < 9223372036854775808) (hf2 : nm.length < fu) : F_W2_ZonesFixed fu nm std t d = some true := by
  unfold F_W2_ZonesFixed
  rw [show T_api_Zone.mk nm std 0 (T_api_Turn.mk 0 0 0 0) (T_api_Turn.mk 0 0 0 0) = fixZ nm std from rfl]
  rw [ex_ok fu hf, Option.bind_some, bif_f (by rfl), zOffset_eq fu (by omega) (fixZ nm std) hs hf2, Option.bind_some, zInstants_eq fu (by omega) (fixZ nm std) hs hf2, Option.bind_some]
  simp only [bif_ne, bif_eq]
  have hfx := fixZ_fixed nm std
  have tail : (InsR (fixZ nm std) d).2.fCode = 0 →
      ((F_R1_SecondsOf fu (T_api_Date.mk d.fYear d.fMonth d.fDay d.fHour d.fMinute d.fSecond std)).bind fun x => (F_R1_Ints fu (InsR (fixZ nm std) d).1 [x]).bind fun y => some y) = some true := by
    intro h0
    rcases insR_cases (fixZ nm std) d with ⟨q, _⟩ | ⟨_, hz, hd, hzn, _, _, hl⟩
    · exact absurd h0 q
    · obtain ⟨_, s1, s2, _⟩ := zok _ hz
      have s1' : -900 ≤ std := s1
      have s2' : std ≤ 900 := s2
      have hd' : DOk (T_api_Date.mk d.fYear d.fMonth d.fDay d.fHour d.fMinute d.fSecond std) := by
        obtain ⟨a, b1, b2, b3, b4, b5, b6, _, _⟩ := hd
        exact ⟨a, b1, b2, b3, b4, b5, b6, s1', s2'⟩
      rw [secs_eq fu hf _ hd', Option.bind_some]
      have e1 : (InsR (fixZ nm std) d).1 = [insD (T_api_Date.mk d.fYear d.fMonth d.fDay d.fHour d.fMinute d.fSecond std)] := by
        rw [hl, if_pos hfx]
        unfold pickR offF
        rw [if_pos hfx, if_pos rfl]
        simp only [List.nil_append, List.cons.injEq, and_true]
        show insD d - 60 * std = _
        unfold insD; rw [hzn]; simp only []; omega
      rw [e1, ints_eq fu _ _ (by simp) (by simp; omega), Option.bind_some, decide_eq_true rfl]
  have ins0 : (InsR (fixZ nm std) d).2.fCode ≠ 0 → ((InsR (fixZ nm std) d).1.length : Int) = 0 := by
    intro h0
    rcases insR_cases (fixZ nm std) d with ⟨_, q⟩ | ⟨q, _⟩
    · rw [q]; rfl
    · rw [q] at h0; exact absurd rfl h0
  have off0 : (OffR (fixZ nm std) t).2.fCode ≠ 0 → (OffR (fixZ nm std) t).1 = 0 := by
    intro h0
    rcases offR_cases (fixZ nm std) t with ⟨_, q⟩ | ⟨q, _⟩
    · exact q
    · rw [q] at h0; exact absurd rfl h0
  have off1 : ¬ (OffR (fixZ nm std) t).2.fCode ≠ 0 → (OffR (fixZ nm std) t).1 = std := by
    intro h0
    rcases offR_cases (fixZ nm std) t with ⟨q, _⟩ | ⟨_, _, _, _, _, _, _, q⟩
    · exact absurd q h0
    · rw [q]; unfold offF; rw [if_pos hfx]; rfl
  by_cases c1 : (OffR (fixZ nm std) t).2.fCode ≠ 0
  · rw [if_pos c1, if_neg (fun q => q (off0 c1))]
    by_cases c2 : (InsR (fixZ nm std) d).2.fCode ≠ 0
    · rw [if_pos c2, if_neg (fun q => q (ins0 c2))]
    · rw [if_neg c2]; exact tail (Classical.not_not.1 c2)
  · rw [if_neg c1]
    by_cases c2 : (InsR (fixZ nm std) d).2.fCode ≠ 0
    · rw [if_pos c2, if_neg (fun q => q (ins0 c2)), if_pos (off1 c1)]
    · rw [if_neg c2, if_pos (off1 c1)]; exact tail (Classical.not_not.1 c2)

/-- is an integer in a list -/
theorem has_loop (fu : Nat) (a : List Int) (x : Int) (hs : (a.length : Int) < 9223372036854775808) : ∀ (n k : Nat), k ≤ a.length → a.length - k < n → F_R2_Has_p0 fu n a x k = some (decide (x ∈ a.drop k)) := by
  intro n
  induction n with
  | zero => intro k h1 h2; omega
  | succ n ih =>
    intro k h1 h2
    rw [F_R2_Has_p0, F_R2_Has_b0]
    by_cases c : k < a.length
    · have hi : idx a (k : Int) = some a[k] := by unfold idx; rw [if_pos (by omega)]; simp [c]
      have := ih (k + 1) (by omega) (by omega)
      rw [Int.natCast_add] at this
      rw [bif_t (by simp; exact c), hi, Option.bind_some, bif_eq, w64_eq (by omega) (by omega), List.drop_eq_getElem_cons c]
      by_cases g : a[k] = x
      · rw [if_pos g, decide_eq_true (by rw [g]; exact List.mem_cons_self)]
      · rw [if_neg g]
        refine Eq.trans this ?_
        congr 1
        rw [decide_eq_decide, List.mem_cons]
        constructor
        · exact .inr
        · rintro (q | q)
          · exact absurd q.symm g
          · exact q
    · rw [bif_f (by simp; omega), List.drop_eq_nil_of_le (by omega)]; rfl
theorem has_eq (fu : Nat) (a : List Int) (x : Int) (hs : (a.length : Int) < 9223372036854775808) (hf : a.length < fu) : F_R2_Has fu a x = some (decide (x ∈ a)) := by
  unfold F_R2_Has
  exact has_loop fu a x hs fu 0 (by omega) (by omega)
theorem offF_cases {z : T_api_Zone} (Y t : Int) : offF z Y t = z.fStandard ∨ (¬ fixedZ z ∧ offF z Y t = z.fSummer) := by
  unfold offF offW
  by_cases c : fixedZ z
  · rw [if_pos c]; exact .inl rfl
  · rw [if_neg c]
    split
    · exact .inr ⟨c, rfl⟩
    · exact .inl rfl
/-- the civil date of an instant, by an offset -/
theorem civD_ok {n s : Int} (h1 : -719162 ≤ n) (h2 : n ≤ 741807) (hs : 0 ≤ s) (hs2 : s < 86400) (z : Int) (hz1 : -900 ≤ z) (hz2 : z ≤ 900) : DOk (civD n s z) ∧ insD (civD n s z) = n * 86400 + s - 60 * z := by
  obtain ⟨hv, he⟩ := civ_vld n h1 h2
  refine ⟨⟨hv, ?_, ?_, ?_, ?_, ?_, ?_, hz1, hz2⟩, ?_⟩ <;> simp only [civD, insD] <;> (try rw [he]) <;> omega
end Go.Sym
