/- What the claim rests on, part 6: gathered texts. -/
import Derived.WalkKit
import Derived.ProofKit
import Derived.OpenShut
import Derived.ShutString
import Derived.ChangeOld
import Derived.Carry
import Derived.Handed
import Derived.LaidMore
import Derived.Lay
import Derived.LaidHandle
import Derived.Stop.Joined
import Derived.Test.YtokbiogmemgojaaDoorSyA5
/- The document's LooseQuoted in plain words. -/
namespace Go.Sym

theorem lqblank_eq (c : UInt8) : F_R1_Blank c = some (bl c) := by
  unfold F_R1_Blank bl
  cases h : c == 32 <;> rfl
theorem hvI_some (a b : UInt8) : hx a b = none ∨ ∃ x y : UInt8, hvI a = (x.toNat : Int) ∧ hvI b = (y.toNat : Int) ∧ x.toNat < 16 ∧ y.toNat < 16 ∧ hx a b = some (16 * x + y) := by
  unfold hx hvI
  cases ha : hv a with
  | none => exact .inl rfl
  | some x =>
    cases hb : hv b with
    | none => exact .inl rfl
    | some y => exact .inr ⟨x, y, rfl, rfl, hv16 a x ha, hv16 b y hb, rfl⟩
theorem hvI_none (a b : UInt8) (h : hx a b = none) : ¬ (0 ≤ hvI a ∧ 0 ≤ hvI b) := by
  unfold hx at h
  unfold hvI
  cases ha : hv a with
  | none => intro q; have := q.1; simp at this
  | some x =>
    cases hb : hv b with
    | none => intro q; have := q.2; simp at this
    | some y => rw [ha, hb] at h; cases h
/-- one character of the text is put out as it is -/
theorem lq12_f (fu : Nat) (r0 : List UInt8 → Int → List UInt8 → Option (List UInt8)) (r11 : List UInt8 → Int → Int → Int → Bool → Int → List UInt8 → Option (List UInt8)) (s0 : List UInt8) (s5 s6 s7 : Int) (s8 : Bool) (i : Nat) (c : UInt8) (out : List UInt8) (hi : idx s0 (i : Int) = some c) (hl : i < 1000000000) (ho : out.length < 2000000000) :
    F_R1_LooseQuoted_p12 fu r0 r11 s0 s5 s6 s7 s8 (i : Int) false out = r11 s0 s5 s6 s7 s8 ((i + 1 : Nat) : Int) (out ++ [c]) := by
  unfold F_R1_LooseQuoted_p12
  rw [bif_f rfl, hi, Option.bind_some, bif_dt (by simp [rowMax]; omega)]
  unfold F_R1_LooseQuoted_p13
  rw [nx_nat _ (by omega)]
theorem idx3 (pre : List UInt8) (c a b : UInt8) (r : List UInt8) : idx (pre ++ c :: a :: b :: r) ((pre.length + 1 : Nat) : Int) = some a ∧ idx (pre ++ c :: a :: b :: r) ((pre.length + 2 : Nat) : Int) = some b := by
  constructor
  · have := idx_mid (pre ++ [c]) a (b :: r)
    simpa using this
  · have := idx_mid (pre ++ [c, a]) b r
    simpa using this
/-- the text between two marks -/
theorem lq11_go (fu : Nat) (hfu : 17 < fu) (r0 : List UInt8 → Int → List UInt8 → Option (List UInt8)) (s5 s6 : Int) (s8 : Bool) (tl : List UInt8) : ∀ (n : Nat) (pre y out : List UInt8), y.length < n → pre.length + y.length < 100000000 → out.length + y.length < 1000000000 →
    ∃ m, F_R1_LooseQuoted_p11 fu r0 n (pre ++ (y ++ tl)) s5 s6 ((pre.length + y.length : Nat) : Int) s8 (pre.length : Int) out = F_R1_LooseQuoted_p11 fu r0 (m + 1) (pre ++ (y ++ tl)) s5 s6 ((pre.length + y.length : Nat) : Int) s8 ((pre.length + y.length : Nat) : Int) (out ++ dq y) := by
  intro n
  induction n with
  | zero => intro pre y out h; exact absurd h (by omega)
  | succ n ih =>
    intro pre y out h hb ho
    cases y with
    | nil => exact ⟨n, by simp [dq]⟩
    | cons c y =>
      simp only [List.length_cons] at h hb ho ⊢
      have hi : idx (pre ++ ((c :: y) ++ tl)) (pre.length : Int) = some c := idx_mid pre c (y ++ tl)
      have one : ∃ m, F_R1_LooseQuoted_p11 fu r0 n (pre ++ (c :: y ++ tl)) s5 s6 ((pre.length + (y.length + 1) : Nat) : Int) s8 ((pre.length + 1 : Nat) : Int) (out ++ [c]) = F_R1_LooseQuoted_p11 fu r0 (m + 1) (pre ++ (c :: y ++ tl)) s5 s6 ((pre.length + (y.length + 1) : Nat) : Int) s8 ((pre.length + (y.length + 1) : Nat) : Int) (out ++ c :: dq y) := by
        obtain ⟨m, hm⟩ := ih (pre ++ [c]) y (out ++ [c]) (by omega) (by simp; omega) (by simp; omega)
        refine ⟨m, ?_⟩
        simp only [List.length_append, List.length_cons, List.length_nil, Nat.zero_add, List.append_assoc, List.cons_append, List.nil_append] at hm ⊢
        rw [show pre.length + (y.length + 1) = pre.length + 1 + y.length by omega]
        exact hm
      have e1 : w64 ((pre.length : Int) + 1) = ((pre.length + 1 : Nat) : Int) := nx_nat _ (by omega)
      have e2 : w64 ((pre.length : Int) + 2) = ((pre.length + 2 : Nat) : Int) := by rw [w64_eq (by omega) (by omega)]; omega
      rw [F_R1_LooseQuoted_p11, F_R1_LooseQuoted_b11, bif_dt (by omega), hi, Option.bind_some, bif_eq8, e1, e2]
      by_cases q : c = 61
      · subst q
        rw [if_pos rfl, bif_d]
        by_cases k : pre.length + 2 < pre.length + (y.length + 1)
        · rw [if_pos (by omega)]
          obtain ⟨a, b, y, rfl⟩ : ∃ a b z, y = a :: b :: z := by
            match y, k with
            | [], k => exact absurd k (by simp)
            | [_], k => exact absurd k (by simp)
            | a :: b :: z, _ => exact ⟨a, b, z, rfl⟩
          have h1 := (idx3 pre 61 a b (y ++ tl)).1
          have h2 := (idx3 pre 61 a b (y ++ tl)).2
          have e0 : pre ++ (61 :: a :: b :: y ++ tl) = pre ++ 61 :: a :: b :: (y ++ tl) := rfl
          rw [e0, h1, Option.bind_some, rhex_eq fu hfu, Option.bind_some, bif_d]
          simp only [List.length_cons] at h hb ho one ⊢
          rcases hvI_some a b with hn | ⟨x, z, ha, hz, hx16, hz16, hs⟩
          · have hnn := hvI_none a b hn
            have ed : dq (61 :: a :: b :: y) = 61 :: dq (a :: b :: y) := by rw [dq_61, show pairR (a :: b :: y) = hx a b from rfl, hn]
            rw [ed]
            have fin : ∃ m, F_R1_LooseQuoted_p12 fu r0 (F_R1_LooseQuoted_p11 fu r0 n) (pre ++ 61 :: a :: b :: (y ++ tl)) s5 s6 ((pre.length + (y.length + 1 + 1 + 1) : Nat) : Int) s8 (pre.length : Int) false out = F_R1_LooseQuoted_p11 fu r0 (m + 1) (pre ++ 61 :: a :: b :: (y ++ tl)) s5 s6 ((pre.length + (y.length + 1 + 1 + 1) : Nat) : Int) s8 ((pre.length + (y.length + 1 + 1 + 1) : Nat) : Int) (out ++ 61 :: dq (a :: b :: y)) := by
              rw [lq12_f fu r0 _ _ _ _ _ _ _ _ _ (show idx (pre ++ 61 :: a :: b :: (y ++ tl)) (pre.length : Int) = some 61 from hi) (by omega) (by omega)]
              exact one
            by_cases ka : 0 ≤ hvI a
            · rw [if_pos ka, h2, Option.bind_some, rhex_eq fu hfu, Option.bind_some, decide_eq_false (fun kb => hnn ⟨ka, kb⟩)]
              exact fin
            · rw [if_neg ka]; exact fin
          · have ed : dq (61 :: a :: b :: y) = (16 * x + z) :: dq y := dq_hex _ _ _ _ hs
            rw [ed, if_pos (by omega), h2, Option.bind_some, rhex_eq fu hfu, Option.bind_some, decide_eq_true (by omega)]
            unfold F_R1_LooseQuoted_p12
            rw [bif_t rfl, e1, e2, h1, Option.bind_some, rhex_eq fu hfu, Option.bind_some, h2, Option.bind_some, rhex_eq fu hfu, Option.bind_some, ha, hz, (two_hex x z hx16 hz16).2, bif_dt (by simp [rowMax]; omega)]
            unfold F_R1_LooseQuoted_p13
            rw [nx_nat _ (by omega)]
            obtain ⟨m, hm⟩ := ih (pre ++ [61, a, b]) y (out ++ [16 * x + z]) (by omega) (by simp; omega) (by simp; omega)
            refine ⟨m, ?_⟩
            simp only [List.length_append, List.length_cons, List.length_nil, Nat.zero_add, List.append_assoc, List.cons_append, List.nil_append] at hm ⊢
            rw [show pre.length + (y.length + 1 + 1 + 1) = pre.length + (1 + 1 + 1) + y.length by omega]
            exact hm
        · rw [if_neg (by omega), lq12_f fu r0 _ _ _ _ _ _ _ _ _ hi (by omega) (by omega)]
          have ed : dq (61 :: y) = 61 :: dq y := by
            rw [dq_61]
            match y, k with
            | [], _ => rfl
            | [_], _ => rfl
            | _ :: _ :: _, k => exact absurd (by simp only [List.length_cons]; omega) k
          rw [ed]
          exact one
      · rw [if_neg q, lq12_f fu r0 _ _ _ _ _ _ _ _ _ hi (by omega) (by omega), dq_cons _ _ q]
        exact one
/-- behind the text: the line's end -/
theorem lq_end (fu : Nat) (r0 : List UInt8 → Int → List UInt8 → Option (List UInt8)) (pre u e r : List UInt8) (nl : Bool) (stop : Nat) (hs : stop + nl.toNat = pre.length + u.length + e.length) (hn : nl = false → e = [] ∧ r = []) (m : Nat) (s7 : Int) (s8 : Bool) (out : List UInt8) (hb : pre.length + u.length + e.length < 100000000) (ho : out.length + e.length < 1000000000) :
    F_R1_LooseQuoted_p11 fu r0 (m + 1) (pre ++ (u ++ (e ++ r))) (stop : Int) ((pre.length + u.length : Nat) : Int) s7 s8 s7 out = r0 (pre ++ (u ++ (e ++ r))) ((stop + 1 : Nat) : Int) (out ++ if s8 then [] else e) := by
  rw [F_R1_LooseQuoted_p11, F_R1_LooseQuoted_b11, bif_df (by omega)]
  have hlen : ((pre ++ (u ++ (e ++ r))).length : Int) = (pre.length : Int) + u.length + e.length + r.length := by simp; omega
  cases nl with
  | false =>
    obtain ⟨rfl, rfl⟩ := hn rfl
    simp only [List.length_nil, Nat.add_zero, Bool.toNat_false] at hs
    rw [bif_df (by rw [hlen]; simp; omega), nx_nat _ (by omega)]
    cases s8 <;> simp
  | true =>
    simp only [Bool.toNat_true] at hs
    rw [bif_dt (by rw [hlen]; omega), nx_nat _ (by omega)]
    cases s8 with
    | true => rw [bif_f (show (!true) = false from rfl)]; simp
    | false =>
      have et : List.take (((stop + 1 : Nat) : Int).toNat - ((pre.length + u.length : Nat) : Int).toNat) (List.drop ((pre.length + u.length : Nat) : Int).toNat (pre ++ (u ++ (e ++ r)))) = e := by
        have := drop_mid (pre ++ u) (e ++ r)
        rw [List.length_append, List.append_assoc] at this
        rw [this, show ((stop + 1 : Nat) : Int).toNat - ((pre.length + u.length : Nat) : Int).toNat = e.length by omega, List.take_left]
      rw [bif_t (show (!false) = true from rfl), et, bif_dt (by rw [hlen]; omega), bif_dt (by simp [rowMax]; omega)]; rfl
/-- the blanks at the end of the text -/
theorem lq6_go (fu : Nat) (r0 : List UInt8 → Int → List UInt8 → Option (List UInt8)) (pre : List UInt8) (s5 s6 : Int) (out : List UInt8) : ∀ (n : Nat) (v tl : List UInt8), v.length < n → pre.length + v.length < 100000000 →
    F_R1_LooseQuoted_p6 fu r0 n (pre ++ (v ++ tl)) (pre.length : Int) s5 s6 ((pre.length + v.length : Nat) : Int) out = F_R1_LooseQuoted_p7 fu r0 (fun _ _ _ _ _ _ => none) (pre ++ (v ++ tl)) (pre.length : Int) s5 s6 ((pre.length + (rtrim v).length : Nat) : Int) false out := by
  intro n
  induction n with
  | zero => intro v tl h; exact absurd h (by omega)
  | succ n ih =>
    intro v tl h hb
    rw [F_R1_LooseQuoted_p6, F_R1_LooseQuoted_b6]
    rcases List.eq_nil_or_concat v with rfl | ⟨t, c, rfl⟩
    · rw [bif_df (by simp)]; rfl
    · rw [List.concat_eq_append] at *
      simp only [List.length_append, List.length_cons, List.length_nil] at h hb ⊢
      have hi : idx (pre ++ (t ++ [c] ++ tl)) ((pre.length + t.length : Nat) : Int) = some c := by
        have := idx_mid (pre ++ t) c tl
        simpa using this
      have ew : w64 (((pre.length + (t.length + (0 + 1)) : Nat) : Int) - 1) = ((pre.length + t.length : Nat) : Int) := by rw [w64_eq (by omega) (by omega)]; omega
      rw [bif_dt (by omega), ew, hi, Option.bind_some, lqblank_eq, Option.bind_some, rtrim_snoc]
      cases hbl : bl c with
      | false =>
        simp only [Bool.false_eq_true, if_false, List.length_append, List.length_cons, List.length_nil]
        rfl
      | true =>
        rw [if_pos rfl]
        unfold F_R1_LooseQuoted_p7
        rw [bif_t rfl]
        unfold F_R1_LooseQuoted_p8
        rw [ew]
        have := ih t ([c] ++ tl) (by omega) (by omega)
        rw [← List.append_assoc t] at this
        rw [this]; rfl
theorem rtrim_pre (u : List UInt8) : ∃ w, u = rtrim u ++ w := by
  unfold rtrim
  refine ⟨(u.reverse.takeWhile bl).reverse, ?_⟩
  rw [← List.reverse_append, List.takeWhile_append_dropWhile, List.reverse_reverse]
/-- a line behind its end -/
theorem lq5_eq (fu : Nat) (hfu : 17 < fu) (r0 : List UInt8 → Int → List UInt8 → Option (List UInt8)) (pre u e r : List UInt8) (nl : Bool) (stop : Nat) (hs : stop + nl.toNat = pre.length + u.length + e.length) (hn : nl = false → e = [] ∧ r = []) (out : List UInt8) (hf : u.length < fu) (hb : pre.length + u.length + e.length < 100000000) (ho : out.length + u.length + e.length < 1000000000) :
    F_R1_LooseQuoted_p5 fu r0 (pre ++ (u ++ (e ++ r))) (pre.length : Int) (stop : Int) ((pre.length + u.length : Nat) : Int) out = r0 (pre ++ (u ++ (e ++ r))) ((stop + 1 : Nat) : Int) (out ++ lnT (rtrim u) e) := by
  unfold F_R1_LooseQuoted_p5
  rw [lq6_go fu r0 pre _ _ out fu u (e ++ r) hf (by omega)]
  have hrl := rtrim_len u
  have text : ∀ y w s8, u = y ++ w → F_R1_LooseQuoted_p10 fu r0 (pre ++ (u ++ (e ++ r))) (pre.length : Int) (stop : Int) ((pre.length + u.length : Nat) : Int) ((pre.length + y.length : Nat) : Int) s8 out = r0 (pre ++ (u ++ (e ++ r))) ((stop + 1 : Nat) : Int) (out ++ dq y ++ if s8 then [] else e) := by
    intro y w s8 hu
    have hyl : y.length ≤ u.length := by rw [hu]; simp
    have hdl := dq_len _ y (Nat.le_refl _)
    unfold F_R1_LooseQuoted_p10
    obtain ⟨m, hm⟩ := lq11_go fu hfu r0 (stop : Int) ((pre.length + u.length : Nat) : Int) s8 (w ++ (e ++ r)) fu pre y out (by omega) (by omega) (by omega)
    rw [← List.append_assoc y, ← hu] at hm
    rw [hm, lq_end fu r0 pre u e r nl stop hs hn m _ s8 (out ++ dq y) hb (by rw [List.length_append]; omega)]
  obtain ⟨w, hw⟩ := rtrim_pre u
  unfold F_R1_LooseQuoted_p7 lnT
  rw [bif_f rfl]
  revert hw hrl
  generalize rtrim u = v
  intro hvl hw
  rcases List.eq_nil_or_concat v with rfl | ⟨t, c, rfl⟩
  · rw [bif_df (by simp), if_neg (by simp)]
    unfold F_R1_LooseQuoted_p9
    rw [bif_f rfl, text [] w false hw]; simp
  · rw [List.concat_eq_append] at *
    simp only [List.length_append, List.length_cons, List.length_nil] at hvl ⊢
    have hi : idx (pre ++ (u ++ (e ++ r))) ((pre.length + t.length : Nat) : Int) = some c := by
      have := idx_mid (pre ++ t) c (w ++ (e ++ r))
      rw [hw]
      simpa using this
    have ew : w64 (((pre.length + (t.length + (0 + 1)) : Nat) : Int) - 1) = ((pre.length + t.length : Nat) : Int) := by rw [w64_eq (by omega) (by omega)]; omega
    rw [bif_dt (by omega), ew, hi, Option.bind_some, List.getLast?_concat]
    unfold F_R1_LooseQuoted_p9
    by_cases q : c = 61
    · subst q
      rw [bif_t (by rfl), if_pos rfl, List.dropLast_concat, ew]
      have := text t ([61] ++ w) true (by rw [hw]; simp)
      rw [show ((61 : UInt8) == 61) = true from rfl, this]; simp
    · have qb : (c == 61) = false := by simp [q]
      rw [qb, bif_f rfl, if_neg (by simpa using q)]
      have := text (t ++ [c]) w false hw
      rw [List.length_append] at this
      simp only [List.length_cons, List.length_nil] at this
      rw [this]; simp
/-- the search for a line's end -/
theorem lq1_go (fu : Nat) (r0 : List UInt8 → Int → List UInt8 → Option (List UInt8)) (pos : Int) (out tl : List UInt8) (ht : tl = [] ∨ ∃ r, tl = 10 :: r) : ∀ (n : Nat) (pre t : List UInt8), t.length < n → pre.length + t.length < 100000000 → (∀ x ∈ t, x ≠ 10) →
    F_R1_LooseQuoted_p1 fu r0 n (pre ++ (t ++ tl)) pos (pre.length : Int) out = F_R1_LooseQuoted_p2 fu r0 (fun _ _ _ _ => none) (pre ++ (t ++ tl)) pos ((pre.length + t.length : Nat) : Int) false out := by
  intro n
  induction n with
  | zero => intro pre t h; exact absurd h (by omega)
  | succ n ih =>
    intro pre t h hb h10
    rw [F_R1_LooseQuoted_p1, F_R1_LooseQuoted_b1]
    cases t with
    | nil =>
      rcases ht with rfl | ⟨r, rfl⟩
      · rw [bif_df (by simp)]; rfl
      · rw [bif_dt (by simp; omega), List.nil_append, idx_mid, Option.bind_some]; rfl
    | cons c t =>
      have hc := h10 c List.mem_cons_self
      simp only [List.length_cons] at h hb ⊢
      have hi : idx (pre ++ (c :: t ++ tl)) (pre.length : Int) = some c := idx_mid pre c (t ++ tl)
      rw [bif_dt (by simp; omega), hi, Option.bind_some]
      have hcb : (c != 10) = true := by simpa using hc
      rw [hcb]
      conv => lhs; unfold F_R1_LooseQuoted_p2
      rw [bif_t rfl]
      unfold F_R1_LooseQuoted_p3
      rw [nx_nat _ (by omega)]
      have := ih (pre ++ [c]) t (by omega) (by simp; omega) (fun x hx => h10 x (List.mem_cons_of_mem _ hx))
      simp only [List.length_append, List.length_cons, List.length_nil, Nat.zero_add, List.append_assoc, List.cons_append, List.nil_append] at this ⊢
      rw [this, show pre.length + 1 + t.length = pre.length + (t.length + 1) by omega]
theorem lq_line (fu : Nat) (hfu : 17 < fu) (r0 : List UInt8 → Int → List UInt8 → Option (List UInt8)) (pre t r : List UInt8) (out : List UInt8) (h10 : ∀ x ∈ t, x ≠ 10) (hf : t.length < fu) (hb : pre.length + t.length + 2 < 100000000) (ho : out.length + t.length + 2 < 1000000000) :
    F_R1_LooseQuoted_p1 fu r0 fu (pre ++ (t ++ 10 :: r)) (pre.length : Int) (pre.length : Int) out = r0 (pre ++ (t ++ 10 :: r)) ((pre.length + t.length + 1 : Nat) : Int) (out ++ lnO t true) := by
  rw [lq1_go fu r0 _ out (10 :: r) (.inr ⟨r, rfl⟩) fu pre t hf (by omega) h10]
  unfold F_R1_LooseQuoted_p2
  rw [bif_f rfl, bif_dt (by simp; omega)]
  unfold lnO lnE
  rw [if_pos rfl]
  have plainE := lq5_eq fu hfu r0 pre t [10] r true (pre.length + t.length) (by simp) (fun q => by cases q) out hf (by simp; omega) (by simp; omega)
  rcases List.eq_nil_or_concat t with rfl | ⟨u, c, rfl⟩
  · rw [bif_df (by simp), if_neg (by simp)]
    unfold F_R1_LooseQuoted_p4
    rw [bif_f rfl]
    exact plainE
  · rw [List.concat_eq_append] at *
    have hi : idx (pre ++ (u ++ [c] ++ 10 :: r)) ((pre.length + u.length : Nat) : Int) = some c := by
      have := idx_mid (pre ++ u) c (10 :: r)
      simpa using this
    simp only [List.length_append, List.length_cons, List.length_nil] at hf hb ho plainE ⊢
    have ew : w64 (((pre.length + (u.length + (0 + 1)) : Nat) : Int) - 1) = ((pre.length + u.length : Nat) : Int) := by rw [w64_eq (by omega) (by omega)]; omega
    rw [bif_dt (by omega), ew, hi, Option.bind_some, List.getLast?_concat]
    unfold F_R1_LooseQuoted_p4
    by_cases q : c = 13
    · subst q
      rw [bif_t (by rfl), if_pos rfl, List.dropLast_concat, ew]
      have := lq5_eq fu hfu r0 pre u [13, 10] r true (pre.length + (u.length + (0 + 1))) (by simp; omega) (fun q => by cases q) out (by omega) (by simp; omega) (by simp; omega)
      simpa using this
    · have qb : (c == 13) = false := by simp [q]
      rw [qb, bif_f rfl, if_neg (by simpa using q)]
      exact plainE
theorem lq_last (fu : Nat) (hfu : 17 < fu) (r0 : List UInt8 → Int → List UInt8 → Option (List UInt8)) (pre t : List UInt8) (out : List UInt8) (h10 : ∀ x ∈ t, x ≠ 10) (hf : t.length < fu) (hb : pre.length + t.length + 2 < 100000000) (ho : out.length + t.length + 2 < 1000000000) :
    F_R1_LooseQuoted_p1 fu r0 fu (pre ++ t) (pre.length : Int) (pre.length : Int) out = r0 (pre ++ t) ((pre.length + t.length + 1 : Nat) : Int) (out ++ lnO t false) := by
  have h1 := lq1_go fu r0 (pre.length : Int) out [] (.inl rfl) fu pre t hf (by omega) h10
  rw [List.append_nil] at h1
  rw [h1]
  unfold F_R1_LooseQuoted_p2
  rw [bif_f rfl, bif_df (by simp)]
  unfold F_R1_LooseQuoted_p4
  rw [bif_f rfl]
  have := lq5_eq fu hfu r0 pre t [] [] false (pre.length + t.length) (by simp) (fun q => ⟨rfl, rfl⟩) out hf (by simp; omega) (by simp; omega)
  rw [List.append_nil, List.append_nil] at this
  rw [this]; rfl
theorem lq0_go (fu n : Nat) (hfu : 17 < fu) : ∀ (pre suf out : List UInt8), suf.length < n → suf.length < fu → pre.length + suf.length + 2 < 100000000 → out.length + suf.length + 2 < 1000000000 →
    F_R1_LooseQuoted_p0 fu n (pre ++ suf) (pre.length : Int) out = some (out ++ qm [] suf) := by
  induction n with
  | zero => intro pre suf out h; exact absurd h (by omega)
  | succ n ih =>
    intro pre suf out h hf hb ho
    rw [F_R1_LooseQuoted_p0, F_R1_LooseQuoted_b0]
    rcases split10 suf with ⟨t, r, rfl, h10⟩ | h10
    · simp only [List.length_append, List.length_cons] at h hf hb ho
      have hlen := lnO_len t true
      simp only [Bool.toNat_true] at hlen
      rw [bif_dt (by simp; omega), lq_line fu hfu _ pre t r out h10 (by omega) (by omega) (by omega)]
      have := ih (pre ++ t ++ [10]) r (out ++ lnO t true) (by omega) (by omega) (by simp; omega) (by rw [List.length_append]; omega)
      simp only [List.length_append, List.length_cons, List.length_nil, Nat.zero_add, List.append_assoc, List.cons_append, List.nil_append] at this
      rw [← Nat.add_assoc] at this
      rw [this, qm_line t r h10]
    · cases suf with
      | nil => rw [bif_df (by simp)]; simp; rfl
      | cons c s =>
        have hn : ∃ k, n = k + 1 := ⟨n - 1, by simp only [List.length_cons] at h; omega⟩
        obtain ⟨k, rfl⟩ := hn
        rw [bif_dt (by simp; omega), lq_last fu hfu _ pre (c :: s) out h10 hf (by omega) (by omega), qm_last _ h10, F_R1_LooseQuoted_p0, F_R1_LooseQuoted_b0, bif_df (by simp; omega)]
theorem rlq_eq (fu : Nat) (s : List UInt8) (hf : s.length + 20 < fu) (hb : s.length ≤ 48000) : F_R1_LooseQuoted fu s = some (qm [] s) := by
  have := lq0_go fu fu (by omega) [] s [] (by omega) (by omega) (by simp; omega) (by simp; omega)
  rw [List.nil_append, List.nil_append] at this
  exact this
end Go.Sym
/- The laws of transfer.Decode, of the round trip and of the chosen encoding, in plain words. -/
namespace Go.Sym

/-- what transfer.Decode hands back -/
def decR (b name : List UInt8) : (Int × Int) × List UInt8 :=
  if cod name = -1 then ((18, -3), []) else if 12000 < b.length then ((1, -1), []) else
  if cod name = 0 then ((0, 0), b) else if cod name = 1 then ((0, 0), b) else
  if cod name = 2 then ((0, 0), by8 (dbits b)) else ((0, 0), qm [] b)
theorem decode_eq (fu : Nat) (b name : List UInt8) (hf : 100000 + name.length < fu) (hn : name.length ≤ maxLen) : F_transfer_Decode fu b name = some (decR b name) := by
  unfold F_transfer_Decode F_transfer_valid
  rw [find_eq fu name (by omega) (by omega) hn]
  simp only [Option.bind_some, F_basic_Fault, F_basic_None, F_basic_Failed]
  unfold decR
  rcases cod_cases name with h | h | h | h | h <;> rw [h]
  · by_cases hl : 12000 < b.length
    · have hi : (12000 : Int) < (b.length : Int) := by omega
      simp [sumK, hl, hi]
    · have hi : ¬ (12000 : Int) < (b.length : Int) := by omega
      simp [sumK, hl, hi, copied_eq b (by omega)]
  · by_cases hl : 12000 < b.length
    · have hi : (12000 : Int) < (b.length : Int) := by omega
      simp [sumK, hl, hi]
    · have hi : ¬ (12000 : Int) < (b.length : Int) := by omega
      simp [sumK, hl, hi, copied_eq b (by omega)]
  · by_cases hl : 12000 < b.length
    · have hi : (12000 : Int) < (b.length : Int) := by omega
      simp [sumK, hl, hi]
    · have hi : ¬ (12000 : Int) < (b.length : Int) := by omega
      simp [sumK, hl, hi, lenient_eq fu b (by omega) (by omega)]
  · by_cases hl : 12000 < b.length
    · have hi : (12000 : Int) < (b.length : Int) := by omega
      simp [sumK, hl, hi]
    · have hi : ¬ (12000 : Int) < (b.length : Int) := by omega
      simp [sumK, hl, hi, qlen_eq fu b (by omega) (by omega)]
  · simp [sumK]
theorem law_decode (fu : Nat) (b name : List UInt8) (hf : 100000 + name.length < fu) (hn : name.length ≤ maxLen) : F_W2_TransferDecodeMatchesSpec fu b name = some true := by
  unfold F_W2_TransferDecodeMatchesSpec
  rw [example_fu fu (by omega), decode_eq fu b name hf hn, coding_eq fu name (by omega) (by omega) hn]
  simp only [Option.bind_some, at_eq, bytes_eq]
  unfold decR
  rcases cod_cases name with h | h | h | h | h <;> rw [h]
  · by_cases hl : 12000 < b.length
    · have hi : (12000 : Int) < (b.length : Int) := by omega
      simp [hl, hi]
    · have hi : ¬ (12000 : Int) < (b.length : Int) := by omega
      simp [hl, hi, F_R2_Untransferred]
  · by_cases hl : 12000 < b.length
    · have hi : (12000 : Int) < (b.length : Int) := by omega
      simp [hl, hi]
    · have hi : ¬ (12000 : Int) < (b.length : Int) := by omega
      simp [hl, hi, F_R2_Untransferred]
  · by_cases hl : 12000 < b.length
    · have hi : (12000 : Int) < (b.length : Int) := by omega
      simp [hl, hi]
    · have hi : ¬ (12000 : Int) < (b.length : Int) := by omega
      simp [hl, hi, F_R2_Untransferred, rloose_eq fu b (by omega) (by omega)]
  · by_cases hl : 12000 < b.length
    · have hi : (12000 : Int) < (b.length : Int) := by omega
      simp [hl, hi]
    · have hi : ¬ (12000 : Int) < (b.length : Int) := by omega
      simp [hl, hi, F_R2_Untransferred, rlq_eq fu b (by omega) (by omega)]
  · simp
/-- what is encoded and not too long is decoded again -/
theorem dec_enc (b name : List UInt8) (h0 : (encR b name).1.1 = 0) (hl : (encR b name).2.length ≤ 12000) : decR (encR b name).2 name = ((0, 0), b) := by
  revert h0 hl
  unfold encR
  rcases cod_cases name with h | h | h | h | h <;> rw [h]
  · by_cases k : 12000 < b.length
    · simp [k]
    · by_cases q : 0 ≤ refd b false
      · simp [k, q]
      · simp [k, q, decR, h]
  · by_cases k : 12000 < b.length
    · simp [k]
    · by_cases q : 0 ≤ refd b true
      · simp [k, q]
      · simp [k, q, decR, h]
  · by_cases k : 12000 < b.length
    · simp [k]
    · intro _ hl
      simp [k] at hl
      have hl' : ¬ 12000 < (lines76 (e64 b)).length := by omega
      simp [k, decR, h, hl', by8_e64]
  · by_cases k : 12000 < b.length
    · simp [k]
    · intro _ hl
      simp [k] at hl
      have hl' : ¬ 12000 < (qe 0 b).length := by omega
      simp [k, decR, h, hl', qm_quoted]
  · simp
theorem enc_fault (b name : List UInt8) (h0 : (encR b name).1.1 ≠ 0) : (encR b name).2 = [] := by
  revert h0
  unfold encR
  rcases cod_cases name with h | h | h | h | h <;> rw [h]
  · by_cases k : 12000 < b.length
    · simp [k]
    · by_cases q : 0 ≤ refd b false <;> simp [k, q]
  · by_cases k : 12000 < b.length
    · simp [k]
    · by_cases q : 0 ≤ refd b true <;> simp [k, q]
  · by_cases k : 12000 < b.length <;> simp [k]
  · by_cases k : 12000 < b.length <;> simp [k]
  · simp
theorem law_round (fu : Nat) (b name : List UInt8) (hf : 100000 + name.length < fu) (hn : name.length ≤ maxLen) : F_W2_TransferRoundTrip fu b name = some true := by
  unfold F_W2_TransferRoundTrip
  rw [example_fu fu (by omega), encode_eq fu b name hf hn]
  simp only [Option.bind_some]
  rw [bif_f (by rfl), bif_ne]
  by_cases h0 : (encR b name).1.1 = 0
  · rw [if_neg (by simpa using h0)]
    unfold F_W2_TransferRoundTrip_p0
    rw [bif_d]
    by_cases hl : (12000 : Int) < ((encR b name).2.length : Int)
    · rw [if_pos hl, bif_eq, if_pos h0]
    · rw [if_neg hl]
      unfold F_W2_TransferRoundTrip_p1
      rw [decode_eq fu _ name hf hn, dec_enc b name h0 (by omega), Option.bind_some, bytes_eq]
      simp
  · rw [if_pos h0]
    unfold F_W2_TransferRoundTrip_p0
    rw [bif_t rfl, bif_eq, if_neg h0, enc_fault b name h0]; rfl
theorem cod7 : cod n7 = 0 := by decide
theorem cod64 : cod n64 = 2 := by decide
theorem codqp : cod nqp = 3 := by decide
/-- the name that transfer.Choose hands back -/
def chosen (b : List UInt8) : List UInt8 := if refd b false < 0 then n7 else if (lines76 (e64 b)).length < (qe 0 b).length then n64 else nqp
theorem choose_eq (fu : Nat) (b : List UInt8) (hf : 100000 < fu) (hl : b.length ≤ 12000) : F_transfer_Choose fu b = some (chosen b, (0, 0)) := by
  unfold F_transfer_Choose chosen
  have hw := wrong_is fu b false (by omega) (by omega)
  rw [show (if false = true then (255 : UInt8) else 127) = 127 from rfl] at hw
  rw [bif_df (by omega), hw, Option.bind_some, bif_d, qenc_eq fu b (by omega) (by omega), enc64_eq fu b (by omega) (by omega)]
  simp only [F_basic_None, Option.bind_some, bif_d]
  by_cases h1 : refd b false < 0
  · simp [h1]
  · by_cases h2 : (lines76 (e64 b)).length < (qe 0 b).length
    · have h3 : ((lines76 (e64 b)).length : Int) < ((qe 0 b).length : Int) := by omega
      simp [h1, h2]
    · have h3 : ¬ ((lines76 (e64 b)).length : Int) < ((qe 0 b).length : Int) := by omega
      simp [h1, h2]
theorem chosen_len (b : List UInt8) : (chosen b).length ≤ 20 := by
  unfold chosen
  split
  · decide
  · split <;> decide
/-- the chosen encoding's result is permitted -/
theorem chosen_fits (b : List UInt8) (hl : b.length ≤ 12000) : (encR b (chosen b)).1.1 = 0 ∧ ((encR b (chosen b)).2.length ≤ 12000 → encR (encR b (chosen b)).2 n7 = ((0, 0), (encR b (chosen b)).2)) := by
  have k : ¬ 12000 < b.length := by omega
  unfold chosen
  by_cases h1 : refd b false < 0
  · rw [if_pos h1]
    have e : encR b n7 = ((0, 0), b) := by
      unfold encR
      rw [cod7]
      simp [k, show ¬ 0 ≤ refd b false by omega]
    rw [e]; exact ⟨rfl, fun _ => e⟩
  · rw [if_neg h1]
    by_cases h2 : (lines76 (e64 b)).length < (qe 0 b).length
    · rw [if_pos h2]
      have e : encR b n64 = ((0, 0), lines76 (e64 b)) := by
        unfold encR
        rw [cod64]; simp [k]
      rw [e]
      refine ⟨rfl, fun hx => ?_⟩
      have hx' : ¬ 12000 < (lines76 (e64 b)).length := by simpa using hx
      unfold encR
      rw [cod7, okl_refd _ (okl_e64 b) (by omega)]
      simp [hx']
    · rw [if_neg h2]
      have e : encR b nqp = ((0, 0), qe 0 b) := by
        unfold encR
        rw [codqp]; simp [k]
      rw [e]
      refine ⟨rfl, fun hx => ?_⟩
      have hx' : ¬ 12000 < (qe 0 b).length := by simpa using hx
      unfold encR
      rw [cod7, okl_refd _ (okl_qe _ b 0 (Nat.le_refl _) (by omega)) (by omega)]
      simp [hx']
theorem law_fits (fu : Nat) (b : List UInt8) (hf : 100100 < fu) : F_W2_TransferChosenFits fu b = some true := by
  unfold F_W2_TransferChosenFits
  rw [example_fu fu (by omega), Option.bind_some, bif_f (by rfl)]
  by_cases hl : 12000 < b.length
  · unfold F_transfer_Choose F_basic_Fault
    rw [bif_dt (by omega)]
    simp
  · rw [choose_eq fu b (by omega) (by omega), Option.bind_some, bif_ne, if_neg (by simp)]
    have hc := chosen_len b
    obtain ⟨h0, h1⟩ := chosen_fits b (by omega)
    rw [encode_eq fu b (chosen b) (by omega) (by simp only [maxLen]; omega), Option.bind_some, bif_ne, if_neg (by simpa using h0)]
    unfold F_W2_TransferChosenFits_p0
    rw [bif_d]
    by_cases q : (12000 : Int) < ((encR b (chosen b)).2.length : Int)
    · rw [if_pos q, h0]; rfl
    · rw [if_neg q]
      unfold F_W2_TransferChosenFits_p1
      rw [show ([55, 98, 105, 116] : List UInt8) = n7 from rfl, encode_eq fu _ n7 (by simp; omega) (by decide), h1 (by omega), Option.bind_some, bytes_eq]
      simp
end Go.Sym
/- From the arguments that a statement speaks of to plain data: what reads as data of a type has a plain reading. -/
namespace Go.Sym
open Go.ChangeShapes Go.WideShapes Go.ChangeAt Go.RowKit
variable [LC]

/-- all that the world's cells hold -/
def Gw (w : World) : Gh := ⟨fun b o => match w.cell? ⟨b, o, none⟩ with | some v => if v.oneCell' = true then some v else none | none => none, fun _ => none, fun _ => none⟩
omit [LC] in
theorem Gw_imm {w : World} {b o : Nat} {v : Value} (h : w.cell? ⟨b, o, none⟩ = some v) (h1 : v.oneCell' = true) : (Gw w).imm b o = some v := by
  simp only [Gw]; rw [h]; simp [h1]
theorem Gw_mem (w : World) : Mem (Gw w) [] w := by
  have key : ∀ b o v, (Gw w).imm b o = some v → w.cell? ⟨b, o, none⟩ = some v ∧ v.oneCell' = true := by
    intro b o v h
    simp only [Gw] at h
    split at h
    · rename_i u hu
      split at h
      · rename_i h1; cases h; exact ⟨hu, h1⟩
      · cases h
    · cases h
  exact ⟨fun b o v h => (key b o v h).1, fun b o v h => (key b o v h).2, fun n bx h => (by cases h), fun n m bx bx' b h => (by cases h)⟩
inductive TreeBd {α : Type} (p : α → Prop) : Tree α → Prop
  | mk (a : α) (l : List (Tree α)) : p a → l.length ≤ maxLen → (∀ x ∈ l, TreeBd p x) → TreeBd p (.node a l)
/-- what the values of a type are bound to -/
def Ty.bd : (τ : Ty) → τ.den → Prop
  | .int k, n => (Lit.int k n).wf = true
  | .str, s => List.length s ≤ maxLen
  | .prod a b, x => a.bd x.1 ∧ b.bd x.2
  | .list a, l => List.length l ≤ maxLen ∧ ∀ x ∈ (show List a.den from l), a.bd x
  | .tree a, t => TreeBd a.bd t
  | _, _ => True
def fldsOk (P : Program) (rec : Ty → TypeId → Bool) : Ty → List Field → Nat → Bool
  | τ, [f], o => f.offset == o && (P.cellsOf f.type == τ.sz && rec τ f.type)
  | .prod a b, f :: fs, o => f.offset == o && (P.cellsOf f.type == a.sz && (rec a f.type && fldsOk P rec b fs (o + a.sz)))
  | _, _, _ => false
/-- a type of the program is the type of this code -/
def tyOk (P : Program) : Nat → Ty → TypeId → Bool
  | 0, _, _ => false
  | _ + 1, .int k, t => match P.underlying t with | some (.int k') => decide (k' = k) | _ => false
  | _ + 1, .byte, t => match P.underlying t with | some (.int k') => decide (k' = .u8) | _ => false
  | _ + 1, .bool, t => match P.underlying t with | some .bool => true | _ => false
  | _ + 1, .str, t => match P.underlying t with | some .string => true | _ => false
  | n + 1, .list a, t => match P.underlying t with
    | some (.slice e) => P.cellsOf e == a.sz && (decide (0 < a.sz) && tyOk P n a e)
    | _ => false
  | n + 1, .prod a b, t => match P.underlying t with
    | some (.struct fs) => P.cellsOf t == (Ty.prod a b).sz && fldsOk P (tyOk P n) (.prod a b) fs.toList 0
    | _ => false
  | _ + 1, _, _ => false
omit [LC] in
theorem tyOk_int {P : Program} {n : Nat} {k : IntKind} {t : TypeId} (h : tyOk P (n + 1) (.int k) t = true) : P.underlying t = some (.int k) := by
  unfold tyOk at h
  split at h
  · rename_i k' e; rw [e, of_decide_eq_true h]
  · cases h
omit [LC] in
theorem tyOk_byte {P : Program} {n : Nat} {t : TypeId} (h : tyOk P (n + 1) .byte t = true) : P.underlying t = some (.int .u8) := by
  unfold tyOk at h
  split at h
  · rename_i k' e; rw [e, of_decide_eq_true h]
  · cases h
omit [LC] in
theorem tyOk_bool {P : Program} {n : Nat} {t : TypeId} (h : tyOk P (n + 1) .bool t = true) : P.underlying t = some .bool := by
  unfold tyOk at h
  split at h
  · rename_i e; exact e
  · cases h
omit [LC] in
theorem tyOk_str {P : Program} {n : Nat} {t : TypeId} (h : tyOk P (n + 1) .str t = true) : P.underlying t = some .string := by
  unfold tyOk at h
  split at h
  · rename_i e; exact e
  · cases h
omit [LC] in
theorem Reps.app {G : Gh} : ∀ {xs ys : List AV} {us vs : List Value}, Reps xs G us → Reps ys G vs → Reps (xs ++ ys) G (us ++ vs)
  | [], _, [], _, _, h => h
  | [], _, _ :: _, _, h, _ => by simp [Reps] at h
  | _ :: _, _, [], _, h, _ => by simp [Reps] at h
  | _ :: _, _, _ :: _, _, h, k => ⟨h.1, Reps.app h.2 k⟩
omit [LC] in
/-- the pieces are of one cell -/
theorem enc_one {G : Gh} : ∀ (τ : Ty) (x : τ.den) (cs : List Value), Reps (τ.enc x) G cs → ∀ v ∈ cs, v.oneCell' = true
  | .int k, n, [v], h, u, hu => by
    rw [List.mem_singleton] at hu; subst hu
    have h1 : u = .int k n := h.1
    rw [h1]; rfl
  | .byte, c, [v], h, u, hu => by
    rw [List.mem_singleton] at hu; subst hu
    have h1 : u = .int .u8 (UInt8.toNat c) := h.1
    rw [h1]; rfl
  | .bool, c, [v], h, u, hu => by
    rw [List.mem_singleton] at hu; subst hu
    have h1 : u = .bool c := h.1
    rw [h1]; rfl
  | .str, s, [v], h, u, hu => by
    rw [List.mem_singleton] at hu; subst hu
    have h1 : u = .string ⟨List.toArray s⟩ := h.1
    rw [h1]; rfl
  | .list a, l, [v], h, u, hu => by
    rw [List.mem_singleton] at hu; subst hu
    obtain ⟨ad, c, rfl, _⟩ : SlAt a.sz (a.At G.imm) l u := h.1
    rfl
  | .unit, _, [], _, u, hu => by cases hu
  | .unit, _, _ :: _, h, _, _ => by simp [Ty.enc, Reps] at h
  | .prod a b, x, cs, h, u, hu => by
    have key : ∀ (xs ys : List AV) (cs : List Value), Reps (xs ++ ys) G cs → ∃ us vs, cs = us ++ vs ∧ Reps xs G us ∧ Reps ys G vs := by
      intro xs
      induction xs with
      | nil => intro ys cs h; exact ⟨[], cs, rfl, trivial, h⟩
      | cons x xs ih =>
        intro ys cs h
        cases cs with
        | nil => simp [Reps] at h
        | cons c cs =>
          obtain ⟨us, vs, e, h1, h2⟩ := ih ys cs h.2
          exact ⟨c :: us, vs, by rw [e]; rfl, ⟨h.1, h1⟩, h2⟩
    obtain ⟨us, vs, rfl, h1, h2⟩ := key _ _ _ h
    rcases List.mem_append.1 hu with q | q
    · exact enc_one a x.1 us h1 u q
    · exact enc_one b x.2 vs h2 u q
  | .tree a, x, cs, h, u, hu => by
    have key : ∀ (xs ys : List AV) (cs : List Value), Reps (xs ++ ys) G cs → ∃ us vs, cs = us ++ vs ∧ Reps xs G us ∧ Reps ys G vs := by
      intro xs
      induction xs with
      | nil => intro ys cs h; exact ⟨[], cs, rfl, trivial, h⟩
      | cons x xs ih =>
        intro ys cs h
        cases cs with
        | nil => simp [Reps] at h
        | cons c cs =>
          obtain ⟨us, vs, e, h1, h2⟩ := ih ys cs h.2
          exact ⟨c :: us, vs, by rw [e]; rfl, ⟨h.1, h1⟩, h2⟩
    obtain ⟨us, vs, rfl, h1, h2⟩ := key _ _ _ h
    rcases List.mem_append.1 hu with q | q
    · exact enc_one a _ us h1 u q
    · cases vs with
      | nil => cases q
      | cons v vs =>
        cases vs with
        | cons v' vs => simp [Reps] at h2
        | nil =>
          rw [List.mem_singleton] at q; subst q
          obtain ⟨ad, c, rfl, _⟩ : SlAt (Ty.tree a).sz ((Ty.tree a).At G.imm) (Tree.kids x) u := h2.1
          rfl
  | .int _, _, [], h, _, _ => by simp [Ty.enc, Reps] at h
  | .int _, _, _ :: _ :: _, h, _, _ => by simp [Ty.enc, Reps] at h
  | .byte, _, [], h, _, _ => by simp [Ty.enc, Reps] at h
  | .byte, _, _ :: _ :: _, h, _, _ => by simp [Ty.enc, Reps] at h
  | .bool, _, [], h, _, _ => by simp [Ty.enc, Reps] at h
  | .bool, _, _ :: _ :: _, h, _, _ => by simp [Ty.enc, Reps] at h
  | .str, _, [], h, _, _ => by simp [Ty.enc, Reps] at h
  | .str, _, _ :: _ :: _, h, _, _ => by simp [Ty.enc, Reps] at h
  | .list _, _, [], h, _, _ => by simp [Ty.enc, Reps] at h
  | .list _, _, _ :: _ :: _, h, _, _ => by simp [Ty.enc, Reps] at h
omit [LC] in
theorem Reps.cells {w : World} {b : Nat} : ∀ (xs : List AV) (cs : List Value) (o : Nat), Reps xs (Gw w) cs → (∀ v ∈ cs, v.oneCell' = true) → (∀ (j : Nat) (v : Value), cs[j]? = some v → w.cell? ⟨b, o + j, none⟩ = some v) → RepCells xs (Gw w) b o
  | [], [], _, _, _, _ => trivial
  | [], _ :: _, _, h, _, _ => by simp [Reps] at h
  | _ :: _, [], _, h, _, _ => by simp [Reps] at h
  | x :: xs, c :: cs, o, h, h1, h2 => by
    refine ⟨⟨c, Gw_imm (h2 0 c rfl) (h1 c List.mem_cons_self), h.1⟩, Reps.cells xs cs (o + 1) h.2 (fun v hv => h1 v (List.mem_cons_of_mem _ hv)) (fun j v hj => ?_)⟩
    have := h2 (j + 1) v hj
    rw [show o + 1 + j = o + (j + 1) by omega]; exact this
section
variable {H : Type} {enc : TypeId × Value → H} {P : Program} {w : World} {base : Nat} {spare : Nat → Bool} {held : Bool}
omit [LC] in
theorem flds_open (n m : Nat) (cs : List Value)
    (ih : ∀ (τ : Ty) (t : TypeId) (cs : List Value) (y : DataW H × List MemPlace), tyOk P n τ t = true → DataW.trod enc P w base spare held m t cs = some y → ∃ x : τ.den, τ.bd x ∧ Reps (τ.enc x) (Gw w) cs) :
    ∀ (fs : List Field) (τ : Ty) (o : Nat), fldsOk P (tyOk P n) τ fs o = true → (∀ f ∈ fs, ∃ y, DataW.trod enc P w base spare held m f.type ((cs.drop f.offset).take (P.cellsOf f.type)) = some y) →
      ∃ x : τ.den, τ.bd x ∧ Reps (τ.enc x) (Gw w) ((cs.drop o).take τ.sz)
  | [], τ, o, h, _ => by cases τ <;> simp [fldsOk] at h
  | [f], τ, o, h, hf => by
    have h' : (f.offset == o && (P.cellsOf f.type == τ.sz && tyOk P n τ f.type)) = true := by cases τ <;> exact h
    simp only [Bool.and_eq_true, beq_iff_eq] at h'
    obtain ⟨y, hy⟩ := hf f List.mem_cons_self
    rw [h'.1, h'.2.1] at hy
    exact ih τ f.type _ y h'.2.2 hy
  | f :: g :: fs, τ, o, h, hf => by
    cases τ with
    | prod a b =>
      have h' : (f.offset == o && (P.cellsOf f.type == a.sz && (tyOk P n a f.type && fldsOk P (tyOk P n) b (g :: fs) (o + a.sz)))) = true := h
      simp only [Bool.and_eq_true, beq_iff_eq] at h'
      obtain ⟨y, hy⟩ := hf f List.mem_cons_self
      rw [h'.1, h'.2.1] at hy
      obtain ⟨x1, b1, r1⟩ := ih a f.type _ y h'.2.2.1 hy
      obtain ⟨x2, b2, r2⟩ := flds_open n m cs ih (g :: fs) b (o + a.sz) h'.2.2.2 (fun f' hf' => hf f' (List.mem_cons_of_mem _ hf'))
      refine ⟨(x1, x2), ⟨b1, b2⟩, ?_⟩
      show Reps (a.enc x1 ++ b.enc x2) (Gw w) ((cs.drop o).take (a.sz + b.sz))
      rw [List.take_add, List.drop_drop]
      exact Reps.app r1 r2
    | _ => simp [fldsOk] at h
omit [LC] in
theorem open_cells : ∀ (m n : Nat) (τ : Ty) (t : TypeId) (cs : List Value) (y : DataW H × List MemPlace), tyOk P n τ t = true → DataW.trod enc P w base spare held m t cs = some y → ∃ x : τ.den, τ.bd x ∧ Reps (τ.enc x) (Gw w) cs := by
  intro m
  induction m with
  | zero => intro n τ t cs y _ h; simp [DataW.trod] at h
  | succ m ih =>
    intro n τ t cs y ht h
    cases n with
    | zero => simp [tyOk] at ht
    | succ n =>
      cases τ with
      | int k =>
        obtain ⟨n, rfl, _, hw⟩ := DataW.trod_int (tyOk_int ht) h
        exact ⟨n, hw, rfl, trivial⟩
      | byte =>
        obtain ⟨n, rfl, _, hw⟩ := DataW.trod_int (tyOk_byte ht) h
        have hb : 0 ≤ n ∧ n ≤ 255 := by simp only [Lit.wf, Bool.and_eq_true, decide_eq_true_eq] at hw; exact hw
        refine ⟨UInt8.ofNat n.toNat, trivial, ?_, trivial⟩
        show Value.int .u8 n = .int .u8 ((UInt8.ofNat n.toNat).toNat : Int)
        rw [UInt8.toNat_ofNat', Nat.mod_eq_of_lt (by omega)]
        congr 1; omega
      | bool =>
        obtain ⟨b, rfl, _⟩ := DataW.trod_bool (tyOk_bool ht) h
        exact ⟨b, trivial, rfl, trivial⟩
      | str =>
        obtain ⟨s, rfl, _, hs⟩ := DataW.trod_string (tyOk_str ht) h
        refine ⟨s.data.toList, ?_, ?_, trivial⟩
        · show s.data.toList.length ≤ maxLen
          rw [Array.length_toList]; exact hs
        · show Value.string s = .string ⟨s.data.toList.toArray⟩
          simp
      | unit => simp [tyOk] at ht
      | tree a => simp [tyOk] at ht
      | prod a b =>
        unfold tyOk at ht
        split at ht
        · rename_i fs hu
          simp only [Bool.and_eq_true, beq_iff_eq] at ht
          obtain ⟨xs, n', e1, _, hlen, hxl, hg⟩ := DataW.trod_struct hu h
          cases e1
          obtain ⟨x, hb, hr⟩ := flds_open n m cs (fun τ t cs y => ih n τ t cs y) fs.toList (.prod a b) 0 ht.2 (fun f hf => by
            obtain ⟨i, hi, e⟩ := List.getElem_of_mem hf
            have hi' : fs[i]? = some f := by rw [← Array.getElem?_toList, List.getElem?_eq_getElem hi, e]
            have hl : i < xs.length := by rw [hxl]; simpa using hi
            exact ⟨xs[i], by rw [hg i f hi', List.getElem?_eq_getElem hl]⟩)
          refine ⟨x, hb, ?_⟩
          rw [List.drop_zero, List.take_of_length_le (by rw [hlen, ht.1]; exact Nat.le_refl _)] at hr
          exact hr
        · cases ht
      | list a =>
        unfold tyOk at ht
        split at ht
        · rename_i e hu
          simp only [Bool.and_eq_true, beq_iff_eq, decide_eq_true_eq] at ht
          obtain ⟨hsz, hpos, hte⟩ := ht
          rcases DataW.trod_slice hu h with ⟨rfl, _⟩ | ⟨ad, len, cap, elems, rest, n', e1, rfl, _, _, hlc, hcm, hel, hget, _⟩
          · exact ⟨[], ⟨Nat.zero_le _, fun x hx => by cases hx⟩, ⟨none, 0, rfl, Nat.le_refl _, .inl rfl⟩, trivial⟩
          · cases e1
            have each : ∀ i, i < len → ∃ x : a.den, a.bd x ∧ ad.spot = none ∧ a.At (Gw w).imm x ad.block (ad.off + i * a.sz) := by
              intro i hi
              have h1 := hget i hi
              rw [List.getElem?_eq_getElem (by omega)] at h1
              obtain ⟨cs, hc, hc2⟩ := Option.bind_eq_some_iff.1 h1
              obtain ⟨x, hb, hr⟩ := ih n a e cs _ hte hc2
              unfold World.cells? at hc
              split at hc
              · have hl := mapM_some_length hc
                rw [List.length_range, hsz] at hl
                have hcell : ∀ (j : Nat) (v : Value), cs[j]? = some v → w.cell? ((ad.add (i * P.cellsOf e)).add j) = some v := by
                  intro j v hj
                  have hj' : j < cs.length := by
                    by_cases q : j < cs.length
                    · exact q
                    · rw [List.getElem?_eq_none (by omega)] at hj; cases hj
                  have := mapM_some_get hc j j (by rw [List.getElem?_range (by omega)])
                  rw [this, hj]
                have hspot : ad.spot = none := by
                  have g0 := hget 0 (by omega)
                  rw [List.getElem?_eq_getElem (by omega)] at g0
                  obtain ⟨cs0, hc0, _⟩ := Option.bind_eq_some_iff.1 g0
                  unfold World.cells? at hc0
                  split at hc0
                  · have hl0 := mapM_some_length hc0
                    rw [List.length_range, hsz] at hl0
                    have := mapM_some_get hc0 0 0 (by rw [List.getElem?_range (by omega)])
                    rw [List.getElem?_eq_getElem (by omega)] at this
                    simp only [Nat.zero_mul, Addr.add, if_true] at this
                    unfold World.cell? at this
                    cases hs : ad.spot with
                    | none => rfl
                    | some q =>
                      rw [hs] at this
                      split at this
                      · simp at this
                      · cases this
                  · cases hc0
                refine ⟨x, hb, hspot, ?_⟩
                refine At_iff.1 (Reps.cells _ cs _ hr (enc_one a x cs hr) (fun j v hj => ?_))
                have := hcell j v hj
                rw [hsz] at this
                have ea : (ad.add (i * a.sz)).add j = ⟨ad.block, ad.off + i * a.sz + j, none⟩ := by
                  obtain ⟨b, o, s⟩ := ad
                  simp only [] at hspot
                  subst hspot
                  unfold Addr.add
                  by_cases q1 : i * a.sz = 0
                  · by_cases q2 : j = 0
                    · simp [q1, q2]
                    · simp [q1, q2]
                  · by_cases q2 : j = 0
                    · simp [q1, q2]
                    · simp [q1, q2]
                rw [ea] at this
                exact this
              · cases hc
            have lst : ∀ k, k ≤ len → ∃ l : List a.den, l.length = k ∧ (∀ x ∈ l, a.bd x) ∧ ∀ (j : Nat) (x : a.den), l[j]? = some x → a.At (Gw w).imm x ad.block (ad.off + j * a.sz) := by
              intro k
              induction k with
              | zero => intro _; exact ⟨[], rfl, fun x hx => (by cases hx), fun j x hj => by simp at hj⟩
              | succ k ihk =>
                intro hk
                obtain ⟨l, l1, l2, l3⟩ := ihk (by omega)
                obtain ⟨x, x1, _, x2⟩ := each k (by omega)
                refine ⟨l ++ [x], by simp [l1], fun y hy => ?_, fun j y hj => ?_⟩
                · rcases List.mem_append.1 hy with q | q
                  · exact l2 y q
                  · rw [List.mem_singleton] at q; subst q; exact x1
                · by_cases q : j < l.length
                  · rw [List.getElem?_append_left q] at hj; exact l3 j y hj
                  · rw [List.getElem?_append_right (by omega)] at hj
                    have : j = k := by
                      by_cases q2 : j - l.length = 0
                      · omega
                      · rw [List.getElem?_eq_none (by simp; omega)] at hj; cases hj
                    subst this
                    rw [l1, Nat.sub_self] at hj
                    cases hj
                    exact x2
            obtain ⟨l, l1, l2, l3⟩ := lst len (Nat.le_refl _)
            refine ⟨l, ⟨by show l.length ≤ maxLen; omega, l2⟩, ⟨some ad, cap, by rw [← l1], by omega, ?_⟩, trivial⟩
            by_cases q : l = []
            · exact .inl q
            · obtain ⟨_, _, hs, _⟩ := each 0 (by have := List.length_pos_iff.2 q; omega)
              refine .inr ⟨ad.block, ad.off, ?_, l3⟩
              cases ad; simp only [] at hs; subst hs; rfl
        · cases ht
omit [LC] in
theorem open_arg {r : Reach} {bb n : Nat} {τ : Ty} {t : TypeId} {v : Value} {d : DataW H} {ps : List MemPlace} (ht : tyOk P n τ t = true) (hv : Value.okWide P w r bb t v) (h : DataW.Trod enc P w base spare held t v d ps) :
    ∃ x : τ.den, τ.bd x ∧ Rep (τ.av x) (Gw w) v := by
  obtain ⟨m, hm⟩ := h
  obtain ⟨x, hb, hr⟩ := open_cells m n τ t _ _ ht hm
  refine ⟨x, hb, ?_⟩
  cases n with
  | zero => simp [tyOk] at ht
  | succ n =>
    cases τ with
    | int k => obtain ⟨_, rfl⟩ := okWide_int (tyOk_int ht) hv; exact hr.1
    | byte => obtain ⟨_, rfl⟩ := okWide_int (tyOk_byte ht) hv; exact hr.1
    | bool => obtain ⟨_, rfl⟩ := okWide_bool (tyOk_bool ht) hv; exact hr.1
    | str => obtain ⟨_, rfl⟩ := okWide_string (tyOk_str ht) hv; exact hr.1
    | unit => simp [tyOk] at ht
    | tree a => simp [tyOk] at ht
    | prod a b =>
      unfold tyOk at ht
      split at ht
      · rename_i fs hu
        obtain ⟨cs, rfl, _⟩ := okWide_struct hu hv
        exact ⟨cs, rfl, hr⟩
      · cases ht
    | list a =>
      unfold tyOk at ht
      split at ht
      · rename_i e hu
        obtain ⟨_, _, _, rfl⟩ := okWide_slice hu hv
        exact hr.1
      · cases ht
end
end Go.Sym
/- A law's claim out of its plain proof: the function hands back true at all plain data that its arguments may stand for. -/
namespace Go.Sym
open Go.ChangeShapes Go.WideShapes Go.ChangeAt Go.RowKit
variable [LC]

omit [LC] in
theorem lt63 {n : Nat} (h : n ≤ maxLen) : (n : Int) < 9223372036854775808 := by unfold maxLen at h; omega
def tysOk (P : Program) (n : Nat) : List Ty → List TypeId → Bool
  | [], [] => true
  | τ :: τs, t :: ts => tyOk P n τ t && tysOk P n τs ts
  | _, _ => false
/-- what the arguments are bound to -/
def bds : (τs : List Ty) → Pts.den (τs.map .h) → Prop
  | [], _ => True
  | τ :: τs, x => τ.bd x.1 ∧ bds τs x.2
section
variable {H : Type} {enc : TypeId × Value → H} {P : Program} {w : World} {base : Nat} {spare : Nat → Bool} {held : Bool}
omit [LC] in
theorem open_args {r : Reach} {bb n : Nat} : ∀ (τs : List Ty) (ts : List TypeId) (vs : List Value) (ds : List (DataW H)) (ps : List MemPlace), tysOk P n τs ts = true →
    (∀ (j : Nat) t v, ts[j]? = some t → vs[j]? = some v → Value.okWide P w r bb t v) → DataW.TrodAll enc P w base spare held ts vs ds ps →
    ∃ x : Pts.den (τs.map .h), bds τs x ∧ Reps (Pts.put (τs.map .h) x) (Gw w) vs
  | [], [], vs, ds, ps, _, _, h => by
    obtain ⟨rfl, _, _⟩ := trodAll_nil h
    exact ⟨(), trivial, trivial⟩
  | τ :: τs, t :: ts, vs, ds, ps, h1, h2, h => by
    obtain ⟨v, vs', d, ds', p, q, rfl, rfl, rfl, hd, hr⟩ := trodAll_cons h
    simp only [tysOk, Bool.and_eq_true] at h1
    obtain ⟨x, xb, xr⟩ := open_arg h1.1 (h2 0 t v rfl rfl) hd
    obtain ⟨y, yb, yr⟩ := open_args τs ts vs' ds' q h1.2 (fun j t v ht hv => h2 (j + 1) t v ht hv) hr
    exact ⟨(x, y), ⟨xb, yb⟩, xr, yr⟩
  | [], _ :: _, _, _, _, h, _, _ => by simp [tysOk] at h
  | _ :: _, [], _, _, _, h, _, _ => by simp [tysOk] at h
omit [LC] in
theorem stay_args {W W' : World} (laid : laidOutB P = true) (hb : Below W.heap.size W W') : ∀ (ts : List TypeId) (vs : List Value) (ds : List (DataW H)) (ps : List MemPlace),
    ts.all (fun t => P.readableRec t && decide (t < P.types.size)) = true → DataW.TrodAll enc P W 0 (fun _ => true) true ts vs ds ps → DataW.TrodAll enc P W' 0 (fun b => decide (b < W.heap.size)) true ts vs ds ps
  | [], vs, ds, ps, _, h => by
    obtain ⟨rfl, rfl, rfl⟩ := trodAll_nil h
    exact trodAll_mk0
  | t :: ts, vs, ds, ps, h1, h => by
    obtain ⟨v, vs', d, ds', p, q, rfl, rfl, rfl, hd, hr⟩ := trodAll_cons h
    simp only [List.all_cons, Bool.and_eq_true, decide_eq_true_eq] at h1
    have lt : ∀ x ∈ p, x.block < W.heap.size := by obtain ⟨m, hm⟩ := hd; exact DataW.trod_lt m _ _ _ hm
    exact trodAll_cons_mk (Below.trod laid h1.1.1 h1.1.2 hd hb lt) (stay_args laid hb ts vs' ds' q h1.2 hr)
end
theorem walk_of {P : Program} {f : FuncId} {xs : List AV} (h : CallsTo P f xs [] (.bool true) []) (vs : List Value) (w : World) (hr : Reps xs (Gw w) vs) :
    Calls P f vs.toArray w fun e w' => e = .returned (.bool true) ∧ Below w.heap.size w w' := by
  refine (h w (Gw w) vs (Gw_mem w) hr).mono ?_
  rintro e w' ⟨v, G, rfl, hfin, hrep⟩
  have hv : v = .bool true := hrep
  subst hv
  refine ⟨rfl, hfin.bel.os, hfin.bel.tape, hfin.bel.output, hfin.bel.size, fun k hk => hfin.bel.block k hk ?_⟩
  rintro ⟨n, bx, hl, _⟩
  cases hl
theorem lifted {H : Type} {enc : TypeId × Value → H} {C : Checked} {os : Os} {f : FuncId} {fn : Func} {s : ChangeSpec} {conds : List PathCond} {t : TypeId} {n : Nat} (τs : List Ty)
    (own : ownKnob C.prog.godebug = none) (laid : laidOutB C.prog = true) (started : os.Started) (noInit : C.prog.inits.idxOf? f = none) (hfn : C.prog.funcs[f]? = some fn)
    (witness : ∃ (w : World) (tape : Tape) (i : Input), w.os = os ∧ (w.forCall tape i).Shaped C.prog ∧ i.vars = [] ∧ Input.okWide C.prog (w.forCall tape i) .any w.heap.size f i ∧
      s.pre6 enc C.prog fn conds false (w.forCall tape i).memory i.args ∧ ({} : Assume).holds C.prog (lone (Frame.enter C.prog f i.args .normal) [] (w.forCall tape i)))
    (hvars : s.vars = []) (hspec : ∀ ds : List (DataW H), ds.length = fn.params.size → s.fn H ds = { results := [.lit (.bool true)], args := ds })
    (htys : tysOk C.prog n τs fn.params.toList = true) (hread : fn.params.toList.all (fun t => C.prog.readableRec t && decide (t < C.prog.types.size)) = true)
    (hres : fn.resultTypes = #[t]) (hbool : C.prog.underlying t = some .bool)
    (hcall : ∀ x : Pts.den (τs.map .h), bds τs x → CallsTo C.prog f (Pts.put (τs.map .h) x) [] (.bool true) []) :
    ReturnsInHanded {} C os f .any (s.pre6 enc C.prog fn conds false) (s.post enc C.prog fn false true false false) := by
  refine returnsInHanded_of_change own started noInit hfn witness ?_
  intro W base args ds gs before hval hW _ _
  have hW' := hW
  obtain ⟨p, q, hA, hV, rfl, _, _⟩ := hW
  rw [hvars] at hV
  obtain ⟨rfl, rfl⟩ := trodVars_none hV
  have hl : ds.length = fn.params.size := by
    have key : ∀ (ts : List TypeId) (vs : List Value) (ds : List (DataW H)) (ps : List MemPlace), DataW.TrodAll enc C.prog W 0 (fun _ => true) true ts vs ds ps → ds.length = ts.length := by
      intro ts
      induction ts with
      | nil => intro vs ds ps h; obtain ⟨_, rfl, _⟩ := trodAll_nil h; rfl
      | cons t ts ih =>
        intro vs ds ps h
        obtain ⟨v, vs', d, ds', p, q, _, rfl, _, _, hr⟩ := trodAll_cons h
        rw [List.length_cons, List.length_cons, ih _ _ _ hr]
    rw [key _ _ _ _ hA, Array.length_toList]
  obtain ⟨x, xb, xr⟩ := open_args τs fn.params.toList args.toList ds p htys (fun j t v ht hv => hval j t v (by rw [← Array.getElem?_toList]; exact ht) (by rw [← Array.getElem?_toList]; exact hv)) hA
  have hc := walk_of (hcall x xb) args.toList W xr
  rw [Array.toArray_toList] at hc
  refine hc.mono fun e W' ⟨he, bel⟩ => ?_
  subst he
  refine ⟨_, rfl, ds, [], p ++ [], [], p, [], hW', ?_⟩
  rw [List.append_nil, hspec ds hl, hres, hvars]
  exact ⟨trodAll_mk1 (shut_bool hbool _), stay_args laid bel _ _ _ _ hread hA, rfl, bel.frame _, fun h => by cases h⟩
end Go.Sym
/- A law's claim out of its plain proof, where the row lists package variables with what they hold. -/
namespace Go.Sym
open Go.ChangeShapes Go.WideShapes Go.ChangeAt Go.RowKit
variable [LC]

theorem liftedL {H : Type} {enc : TypeId × Value → H} {C : Checked} {os : Os} {f : FuncId} {fn : Func} {s : ChangeSpec} {conds : List PathCond} {t : TypeId} {n : Nat} (τs : List Ty) (l : List (String × DataW Unit))
    (own : ownKnob C.prog.godebug = none) (laid : laidOutB C.prog = true) (started : os.Started) (noInit : C.prog.inits.idxOf? f = none) (hfn : C.prog.funcs[f]? = some fn)
    (witness : ∃ (w : World) (tape : Tape) (i : Input), w.os = os ∧ (w.forCall tape i).Shaped C.prog ∧ i.vars = [] ∧ Input.okWide C.prog (w.forCall tape i) .any w.heap.size f i ∧
      ((s.pre enc C.prog fn conds false (w.forCall tape i).memory i.args ∧ laidMetH C.prog l (w.forCall tape i).memory) ∧ sizedMet enc C.prog fn (OpenSpec.ofChange s) false (w.forCall tape i).memory i.args) ∧ ({} : Assume).holds C.prog (lone (Frame.enter C.prog f i.args .normal) [] (w.forCall tape i)))
    (hvars : s.vars = []) (hspec : ∀ ds : List (DataW H), ds.length = fn.params.size → s.fn H ds = { results := [.lit (.bool true)], args := ds })
    (htys : tysOk C.prog n τs fn.params.toList = true) (hread : fn.params.toList.all (fun t => C.prog.readableRec t && decide (t < C.prog.types.size)) = true)
    (hres : fn.resultTypes = #[t]) (hbool : C.prog.underlying t = some .bool)
    (hcall : ∀ x : Pts.den (τs.map .h), bds τs x → CallsTo C.prog f (Pts.put (τs.map .h) x) [] (.bool true) []) :
    ReturnsInHanded {} C os f .any (fun w args => (s.pre enc C.prog fn conds false w args ∧ laidMetH C.prog l w) ∧ sizedMet enc C.prog fn (OpenSpec.ofChange s) false w args) (s.post enc C.prog fn false true false false) := by
  refine returnsInHanded_of_change_and (X := fun w _ => laidMetH C.prog l w) (fun _ _ _ hh h => laidMetH.of_heap hh h) own started noInit hfn witness ?_
  intro W base args ds gs before hval hW _ _ _ _
  have hW' := hW
  obtain ⟨p, q, hA, hV, rfl, _, _⟩ := hW
  rw [hvars] at hV
  obtain ⟨rfl, rfl⟩ := trodVars_none hV
  have hl : ds.length = fn.params.size := by
    have key : ∀ (ts : List TypeId) (vs : List Value) (ds : List (DataW H)) (ps : List MemPlace), DataW.TrodAll enc C.prog W 0 (fun _ => true) true ts vs ds ps → ds.length = ts.length := by
      intro ts
      induction ts with
      | nil => intro vs ds ps h; obtain ⟨_, rfl, _⟩ := trodAll_nil h; rfl
      | cons t ts ih =>
        intro vs ds ps h
        obtain ⟨v, vs', d, ds', p, q, _, rfl, _, _, hr⟩ := trodAll_cons h
        rw [List.length_cons, List.length_cons, ih _ _ _ hr]
    rw [key _ _ _ _ hA, Array.length_toList]
  obtain ⟨x, xb, xr⟩ := open_args τs fn.params.toList args.toList ds p htys (fun j t v ht hv => hval j t v (by rw [← Array.getElem?_toList]; exact ht) (by rw [← Array.getElem?_toList]; exact hv)) hA
  have hc := walk_of (hcall x xb) args.toList W xr
  rw [Array.toArray_toList] at hc
  refine hc.mono fun e W' ⟨he, bel⟩ => ?_
  subst he
  refine ⟨_, rfl, ds, [], p ++ [], [], p, [], hW', ?_⟩
  rw [List.append_nil, hspec ds hl, hres, hvars]
  exact ⟨trodAll_mk1 (shut_bool hbool _), stay_args laid bel _ _ _ _ hread hA, rfl, bel.frame _, fun h => by cases h⟩
end Go.Sym
