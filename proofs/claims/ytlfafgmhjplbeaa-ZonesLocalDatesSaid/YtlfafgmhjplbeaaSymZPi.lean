/- The plain functions of the zones package: the instants of a local date; the example. -/
import Derived.Test.YtlfafgmhjplbeaaSymZPh
namespace Go.Sym
open Cal Zn

open Classical in
noncomputable def pick (z : T_api_Zone) (L o : Int) : List Int := if (OffR z (L - 60 * o)).2.fCode = 0 ∧ (OffR z (L - 60 * o)).1 = o then [L - 60 * o] else []
theorem pick_len (z : T_api_Zone) (L o : Int) : (pick z L o).length ≤ 1 := by unfold pick; split <;> simp
theorem ins_step (r1 : Int → Int → Int → T_api_Zone → T_api_Fault → List Int → List Int → Option (List Int × T_api_Fault)) (fu : Nat) (hf : 20 ≤ fu) (z : T_api_Zone) (hs : (z.fName.length : Int) < 9223372036854775808) (hf2 : z.fName.length < fu)
    (L len i o : Int) (f : T_api_Fault) (acc offs : List Int) (hi : i < len) (hx : idx offs i = some o) (hi0 : -10 ≤ i) (hi1 : i ≤ 10) (hL1 : -1000000000000 ≤ L) (hL2 : L ≤ 1000000000000) (ho1 : -10000 ≤ o) (ho2 : o ≤ 10000) (hl : acc.length ≤ 10) :
    F_zones_Instants_b1 r1 fu L len i z f acc offs = r1 L len (i + 1) z f (acc ++ pick z L o) offs := by
  rw [F_zones_Instants_b1, bif_t (by simp; exact hi), hx, Option.bind_some, w64_eq (x := 60 * o) (by omega) (by omega), w64_eq (x := L - 60 * o) (by omega) (by omega), w64_eq (x := i + 1) (by omega) (by omega), zOffset_eq fu hf z hs hf2, Option.bind_some, failed_eq, Option.bind_some]
  unfold pick
  by_cases c1 : (OffR z (L - 60 * o)).2.fCode = 0
  · rw [bif_t (by simp [c1])]
    by_cases c2 : (OffR z (L - 60 * o)).1 = o
    · rw [bif_t (by simp [c2]), if_pos (by simp [rowMax]; omega), if_pos ⟨c1, c2⟩]
    · rw [bif_f (by simp [c2]), if_neg (fun q => c2 q.2), List.append_nil]
  · rw [bif_f (by simp [c1]), if_neg (fun q => c1 q.1), List.append_nil]
noncomputable def picks (z : T_api_Zone) (L : Int) : List Int := pick z L z.fStandard ++ (if fixedZ z then [] else pick z L z.fSummer)
noncomputable def InsR (z : T_api_Zone) (d : T_api_Date) : List Int × T_api_Fault :=
  if (zfault z).fCode ≠ 0 then ([], zfault z) else if ¬ DOk d then ([], ⟨3, -3⟩) else if d.fZone ≠ 0 then ([], ⟨5, -9⟩) else if ¬ (3 ≤ d.fYear ∧ d.fYear ≤ 3998) then ([], ⟨3, -9⟩) else (sorted (picks z (insD d)), ⟨0, 0⟩)
theorem insD_bd {d : T_api_Date} (h : DOk d) : -100000000000 ≤ insD d ∧ insD d ≤ 100000000000 := by
  have := dayD_bd h; obtain ⟨_, _, _, _, _, _, _, _, _⟩ := h; unfold insD; omega
theorem zInstants_eq (fu : Nat) (hf : 20 ≤ fu) (z : T_api_Zone) (hs : (z.fName.length : Int) < 9223372036854775808) (hf2 : z.fName.length < fu) (d : T_api_Date) : F_zones_Instants fu z d = some (InsR z d) := by
  unfold F_zones_Instants InsR
  rw [zvalid_eq fu z hs hf2, Option.bind_some, failed_eq, Option.bind_some, bif_ne]
  by_cases c : (zfault z).fCode ≠ 0
  · rw [if_pos c, if_pos c]
  rw [if_neg c, if_neg c, instant_eq fu hf, Option.bind_some]
  obtain ⟨e, s1, s2, hz⟩ := zok z (Classical.not_not.1 c)
  by_cases c1 : ¬ DOk d
  · rw [if_neg c1, if_pos c1, failed_eq, Option.bind_some, bif_t (by rfl)]
  replace c1 := Classical.not_not.1 c1
  rw [if_pos c1, if_neg (c := ¬ DOk d) (fun q => q c1), failed_eq, Option.bind_some, bif_f (by rfl), bif_ne]
  have hb := insD_bd c1
  by_cases c2 : d.fZone ≠ 0
  · rw [if_pos c2, if_pos c2]; rfl
  rw [if_neg c2, if_neg c2, zones_within_eq, Option.bind_some, bif_nd]
  by_cases c3 : ¬ (3 ≤ d.fYear ∧ d.fYear ≤ 3998)
  · rw [if_neg c3, if_pos c3]; rfl
  replace c3 := Classical.not_not.1 c3
  rw [if_pos c3, if_neg (c := ¬ (3 ≤ d.fYear ∧ d.fYear ≤ 3998)) (fun q => q c3), fixed_eq, Option.bind_some, bif_nd]
  obtain ⟨n, hn⟩ : ∃ n, fu = n + 1 + 1 + 1 := ⟨fu - 3, by omega⟩
  have l1 := pick_len z (insD d) z.fStandard
  have l2 := pick_len z (insD d) z.fSummer
  by_cases c4 : fixedZ z
  · rw [if_pos c4]
    have q : F_zones_Instants_p1 fu (n + 1 + 1 + 1) (insD d) (List.length ([z.fStandard] : List Int) : Int) 0 z ⟨0, 0⟩ [] [z.fStandard] = some (sorted (picks z (insD d)), ⟨0, 0⟩) := by
      rw [F_zones_Instants_p1, ins_step _ fu hf z hs hf2 _ _ _ z.fStandard _ _ _ (by simp) rfl (by omega) (by omega) (by omega) (by omega) (by omega) (by omega) (by simp)]
      rw [F_zones_Instants_p1, F_zones_Instants_b1, bif_f (by simp), if_pos (by simp [rowMax]; omega), none_eq, Option.bind_some]
      simp [picks, c4]
    rw [← hn] at q
    exact q
  · rw [if_neg c4]
    have hz' := hz.resolve_left c4
    have m1 := hz'.m1; have m2 := hz'.m2
    rw [if_pos (by simp [rowMax])]
    unfold F_zones_Instants_p0
    have q : F_zones_Instants_p1 fu (n + 1 + 1 + 1) (insD d) (List.length (([z.fStandard] : List Int) ++ [z.fSummer]) : Int) 0 z ⟨0, 0⟩ [] ([z.fStandard] ++ [z.fSummer]) = some (sorted (picks z (insD d)), ⟨0, 0⟩) := by
      rw [F_zones_Instants_p1, ins_step _ fu hf z hs hf2 _ _ _ z.fStandard _ _ _ (by simp) rfl (by omega) (by omega) (by omega) (by omega) (by omega) (by omega) (by simp)]
      rw [F_zones_Instants_p1, ins_step _ fu hf z hs hf2 _ _ _ z.fSummer _ _ _ (by simp) rfl (by omega) (by omega) (by omega) (by omega) (by omega) (by omega) (by simp; omega)]
      rw [F_zones_Instants_p1, F_zones_Instants_b1, bif_f (by simp), if_pos (by simp [rowMax]; omega), none_eq, Option.bind_some]
      simp [picks, c4]
    rw [← hn] at q
    exact q
/-- two lists of integers alike -/
theorem ints_loop (fu : Nat) (a b : List Int) (hab : a.length = b.length) (hs : (a.length : Int) < 9223372036854775808) : ∀ (n k : Nat), k ≤ a.length → a.length - k < n → F_R1_Ints_p0 fu n a b k = some (decide (a.drop k = b.drop k)) := by
  intro n
  induction n with
  | zero => intro k h1 h2; omega
  | succ n ih =>
    intro k h1 h2
    rw [F_R1_Ints_p0, F_R1_Ints_b0]
    by_cases c : k < a.length
    · have hi : idx a (k : Int) = some a[k] := by unfold idx; rw [if_pos (by omega)]; simp [c]
      have hi2 : idx b (k : Int) = some (b[k]'(by omega)) := by unfold idx; rw [if_pos (by omega)]; simp [show k < b.length by omega]
      rw [bif_t (by simp; exact c), hi, Option.bind_some, hi2, Option.bind_some, bif_ne, List.drop_eq_getElem_cons c, List.drop_eq_getElem_cons (show k < b.length by omega)]
      have := ih (k + 1) (by omega) (by omega)
      rw [Int.natCast_add] at this
      rw [w64_eq (by omega) (by omega)]
      by_cases g : a[k] = b[k]'(by omega)
      · rw [if_neg (by simp [g])]
        refine Eq.trans this ?_
        congr 1
        rw [decide_eq_decide]
        simp only [List.cons.injEq, g, true_and]
      · rw [if_pos g]
        congr 1
        exact (decide_eq_false (fun q => g (List.cons.inj q).1)).symm
    · rw [bif_f (by simp; omega), List.drop_eq_nil_of_le (by omega), List.drop_eq_nil_of_le (by omega)]; rfl
theorem ints_eq (fu : Nat) (a b : List Int) (hs : (a.length : Int) < 9223372036854775808) (hf : a.length < fu) : F_R1_Ints fu a b = some (decide (a = b)) := by
  unfold F_R1_Ints
  by_cases c : a.length = b.length
  · rw [bif_f (by simp [c])]
    have := ints_loop fu a b c hs fu 0 (by omega) (by omega)
    exact this
  · rw [bif_t (by simp; omega)]
    have : a ≠ b := fun q => c (by rw [q])
    rw [decide_eq_false this]
theorem sorted_nil : sorted [] = [] := by simp [sorted, List.mergeSort]
theorem sorted_one (x : Int) : sorted [x] = [x] := by simp [sorted, List.mergeSort]
theorem sorted_two (x y : Int) (h : y < x) : sorted [x, y] = [y, x] := by
  simp [sorted, List.mergeSort, List.MergeSort.Internal.splitInTwo, List.merge]; omega
def spr : T_api_Zone := T_api_Zone.mk [122] 60 120 (T_api_Turn.mk 3 5 0 120) (T_api_Turn.mk 10 5 0 180)
theorem spr_off (t : Int) (r : Int × T_api_Fault) (h : F_zones_Offset 30 spr t = some r) : OffR spr t = r := by
  have := zOffset_eq 30 (by omega) spr (by decide) (by decide) t
  rw [h] at this
  exact (Option.some.inj this).symm
theorem ex_ok (fu : Nat) (hf : 5000 ≤ fu) : F_W2_zonesExample fu = some true := by
  unfold F_W2_zonesExample
  have hs : (spr.fName.length : Int) < 9223372036854775808 := by decide
  have hl : spr.fName.length < fu := by have : spr.fName.length = 1 := rfl; omega
  have e : F_W2_spring = some spr := rfl
  simp only [e, Option.bind_some, zOffset_eq fu (show 20 ≤ fu by omega) spr hs hl, zInstants_eq fu (show 20 ≤ fu by omega) spr hs hl]
  rw [spr_off 1704067200 (60, ⟨0, 0⟩) (by decide +kernel), spr_off 1719792000 (120, ⟨0, 0⟩) (by decide +kernel)]
  have i1 : InsR spr ⟨2024, 3, 31, 2, 30, 0, 0⟩ = ([], ⟨0, 0⟩) := by
    unfold InsR
    rw [if_neg (by decide), if_neg (by decide), if_neg (by decide), if_neg (by decide)]
    have e1 : insD ⟨2024, 3, 31, 2, 30, 0, 0⟩ = 1711852200 := by decide
    rw [e1]
    unfold picks pick
    rw [if_neg (show ¬ fixedZ spr by decide)]
    rw [show (1711852200 : Int) - 60 * spr.fStandard = 1711848600 from rfl, show (1711852200 : Int) - 60 * spr.fSummer = 1711845000 from rfl]
    rw [spr_off 1711848600 (120, ⟨0, 0⟩) (by decide +kernel), spr_off 1711845000 (60, ⟨0, 0⟩) (by decide +kernel)]
    rw [if_neg (by decide), if_neg (by decide)]
    rw [show ([] ++ [] : List Int) = [] from rfl, sorted_nil]
  have i2 : InsR spr ⟨2024, 10, 27, 2, 30, 0, 0⟩ = ([1729989000, 1729992600], ⟨0, 0⟩) := by
    unfold InsR
    rw [if_neg (by decide), if_neg (by decide), if_neg (by decide), if_neg (by decide)]
    have e1 : insD ⟨2024, 10, 27, 2, 30, 0, 0⟩ = 1729996200 := by decide
    rw [e1]
    unfold picks pick
    rw [if_neg (show ¬ fixedZ spr by decide)]
    rw [show (1729996200 : Int) - 60 * spr.fStandard = 1729992600 from rfl, show (1729996200 : Int) - 60 * spr.fSummer = 1729989000 from rfl]
    rw [spr_off 1729992600 (60, ⟨0, 0⟩) (by decide +kernel), spr_off 1729989000 (120, ⟨0, 0⟩) (by decide +kernel)]
    rw [if_pos (by decide), if_pos (by decide)]
    rw [show ([1729992600] ++ [1729989000] : List Int) = [1729992600, 1729989000] from rfl, sorted_two _ _ (by decide)]
  rw [i1, i2]
  simp only [ints_eq fu [1729989000, 1729992600] _ (by decide) (by simp; omega)]
  rfl
end Go.Sym
